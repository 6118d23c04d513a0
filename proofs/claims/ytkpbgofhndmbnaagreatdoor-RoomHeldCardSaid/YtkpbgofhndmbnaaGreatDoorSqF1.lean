/-
  The proof, part F1.
-/
import Derived.Lib.ItoaNum
import Derived.Lib.ParseIntB
import Derived.KernelRfl
import Derived.Test.YtkpbgofhndmbnaaGreatDoorSqA2
set_option linter.unusedVariables false
set_option linter.unusedSimpArgs false
set_option linter.unusedSectionVars false
set_option linter.unnecessarySimpa false
namespace Go.Sim
abbrev Tt := @BitVec.ofInt_natCast
abbrev Tu := @BitVec.toNat_ofNat
abbrev Tv := @Bool.eq_false_or_eq_true
abbrev Tw := @Bool.not_eq_false'
abbrev Tx := @Bool.or_eq_false_iff
abbrev Tz := @Int.mul_add
abbrev TA := @Int.mul_assoc
abbrev TB := @Int.mul_sub
abbrev TC := @Int.natCast_add
abbrev TE := @Go.Lib.decDigits_one
abbrev TH := @List.drop_of_length_le
abbrev TI := @List.eq_nil_or_concat
abbrev TM := @List.getLast?_eq_getElem?
abbrev TN := @List.head?_cons
abbrev TO := @List.length_eq_one_iff
abbrev TQ := @List.length_nil
abbrev TR := @List.length_pos_iff
abbrev TS := @List.mem_or_eq_of_mem_set
abbrev TT := @List.mem_replicate
abbrev TV := @List.take_add_one
abbrev TW := @Nat.and_two_pow_sub_one_eq_mod
abbrev TX := @Nat.div_eq_of_lt
abbrev TY := @Nat.div_lt_iff_lt_mul
abbrev TZ := @Nat.le_div_iff_mul_le
abbrev T0 := @Nat.lt_of_mul_lt_mul_left
abbrev T3 := @Nat.mod_add_div
abbrev T4 := @Nat.mul_add
abbrev T5 := @Nat.mul_assoc
abbrev T6 := @Nat.mul_comm
abbrev T7 := @Nat.mul_le_mul_left
abbrev T8 := @Nat.mul_zero
abbrev T9 := @Nat.pow_add
abbrev T_ := @Nat.pow_le_pow_left
abbrev Ua := @Nat.pow_le_pow_right
abbrev Ub := @Nat.pow_lt_pow_iff_right
abbrev Uc := @Nat.pow_mul
abbrev Ud := @Nat.pow_pos
abbrev Ue := @Nat.pow_succ
abbrev Uf := @Nat.pow_zero
abbrev Uj := @Rat.divInt_nonneg_iff_of_pos_right
abbrev Uk := @Rat.div_def
abbrev Um := @Rat.intCast_mul
abbrev Un := @Rat.intCast_neg
abbrev Uo := @Rat.le_refl
abbrev Up := @Rat.le_trans
abbrev Uq := @Rat.mul_eq_zero
abbrev Ur := @Rat.mul_inv_cancel
abbrev Us := @Rat.mul_nonneg
abbrev Ut := @decide_eq_decide
abbrev Uu := @decide_eq_false
abbrev Uv := @decide_eq_false_iff_not
abbrev Uw := @decide_eq_true
end Go.Sim
namespace Go.Sim
open Go
open _root_.Go.IntKind (i64 u64 u32 u8)
abbrev WB:Nat:=4294967296
def nv:List bP->Nat
 | []=>0
 | y::l=>y.n.toNat+WB*nv l
def Wf (l:List bP):Prop:=∀ y ∈ l,0<=y.n/\y.n<4294967296
theorem Wf.nil:Wf []:=λy h=>by cases h
theorem Wf.app {a b:List bP} (ha:Wf a) (hb:Wf b):Wf (a++b):=λy h=>by
 rcases Pa.1 h with h | h
 ·exact ha y h
 ·exact hb y h
theorem Wf.one {v:Int} (h:0<=v/\v<4294967296):Wf [⟨v⟩]:=λy hy=>by
 rw [PA] at hy; subst hy; exact h
theorem Wf.take {l:List bP} (h:Wf l) (k:Nat):Wf (l.take k):=λy hy=>h y (Rd hy)
theorem Ct:∀ (a b:List bP),nv (a++b)=nv a+WB ^ a.length*nv b
 | [],b=>by simp [nv]
 | y::a,b=>by
  rw [Q8,nv,Ct a b,nv,O6,Ue];rw [T4,<- T5,T6 (WB ^ a.length) WB,Q_]
theorem AJ (y:bP):nv [y]=y.n.toNat:=by simp [nv]
theorem tB (a:List bP) (y:bP):nv (a++[y])=nv a+WB ^ a.length*y.n.toNat:=by rw [Ct,AJ]
theorem rS:∀ {l:List bP},Wf l->nv l<WB ^ l.length
 | [],_=>by simp [nv]
 | y::l,h=>by
  have h1:=rS (l:=l) (λz hz=>h z (O5 _ hz));have h2:=h y (by simp)
  rw [nv,O6,Ue];have:WB*nv l+WB<=WB ^ l.length*WB:=by
   rw [T6 (WB ^ l.length) WB,<- Nat.mul_succ];exact T7 _ h1
  have:y.n.toNat<WB:=by show y.n.toNat<4294967296; omega
  omega
theorem qz {l:List bP}{k:Nat}{y:bP} (h:l[k]? = some y):nv (l.take (k+1))=nv (l.take k)+WB ^ k*y.n.toNat:=by
 have hk:=(OY.1 h).1;rw [TV,h];show nv (l.take k++[y])=_;rw [tB,Pn,P2 (by omega)]
theorem IW (n:Nat):nv (List.replicate n (⟨0⟩:bP))=0:=by
 induction n with
 | zero=>rfl
 | succ n ih=>rw [Ri,nv,ih]; rfl
theorem vj {l:List bP}{k:Nat}{v:bP} (h:k<l.length):(l.set k v).take (k+1)=l.take k++[v]:=by
 rw [TV,Pq h,RM (Pl _)]; rfl
theorem wu (n:Int):u32.wrap n=n%4294967296:=by simp [IntKind.wrap,IntKind.bits,IntKind.signed]
theorem CM (n:Int):u64.wrap n=n%18446744073709551616:=by simp [IntKind.wrap,IntKind.bits,IntKind.signed]
theorem fT {n:Int} (h:0<=n/\n<18446744073709551616):u64.wrap n=n:=by rw [CM]; omega
theorem BH (n:Int):nJ .u64 n 32=n / 4294967296:=by
 unfold nJ;rw [show (min (32:Int).toNat u64.bits)=32 by decide,Rs _ (by decide)]
 rfl
theorem Ja (n:Int):nJ .i64 n 32=n / 4294967296:=by
 unfold nJ;rw [show (min (32:Int).toNat i64.bits)=32 by decide,Rs _ (by decide)]
 rfl
abbrev LI:=aC
structure rX (a:LI):Prop where
 wf:Wf a.words
 top:∀ y,a.words.getLast? = some y->y.n≠0
 sign:a.minus=true->a.words≠[]
def fJ (a:LI):Int:=if a.minus=true then -(nv a.words:Int) else (nv a.words:Int)
theorem sG (minus:Bool):∀ (w:List bP),Wf w->w.length<=1000000->Gd (gW minus w) (λr=>rX r/\r.words.length<=w.length/\nv r.words=nv w/\(r.minus=true↔minus=true/\nv w≠0)):=by
 intro w hw hl;unfold gW;refine Gd.gH (λ(l:List bP)=>Wf l/\l.length<=w.length/\nv l=nv w) (λl=>l.length) ?_ fC w ⟨hw,Pl _,rfl⟩ (by simp only [fC]; omega)
 rintro l nx ⟨h1,h2,h3⟩ hnx;have fin:(∀ y,l.getLast? = some y->y.n≠0)->Gd (nN minus l) (λr=>rX r/\r.words.length<=w.length/\nv r.words=nv w/\(r.minus=true↔minus=true/\nv w≠0)):=λht=>by
  have hz:nv l=0->l=[]:=λh0=>by
   rcases TI l with h | ⟨a,y,h⟩
   ·exact h
   ·exfalso
    have h:l=a++[y]:=by simpa using h
    have hy:=ht y (by rw [h]; simp)
    have hyw:=h1 y (by rw [h]; simp)
    rw [h,tB] at h0;have hp:0<WB ^ a.length:=Ud (by decide)
    have:0<WB ^ a.length*y.n.toNat:=Nat.mul_pos hp (by omega)
    omega
  unfold nN;refine Gd.ite (λhm=>Gd.ret ⟨⟨h1,ht,?_⟩,h2,h3,?_⟩) (λhm=>Gd.ret ⟨⟨h1,ht,λh=>by cases h⟩,h2,h3,?_⟩)
  ·intro h e
   have h:decide (0<(l.length:Int))=true:=h;have e:l=[]:=e;rw [e] at h; simp at h
  ·constructor
   ·intro h
    have h:0<(l.length:Int):=O1 h;refine ⟨hm,λh0=>?_⟩;rw [<- h3] at h0;have:=hz h0;rw [this] at h; simp at h
   ·intro h
    show decide (0<(l.length:Int))=true;rw [PF];cases l with
    | nil=>exact absurd (h3.symm.trans rfl) h.2
    | cons a b=>simp
  ·rw [hm]
   constructor
   ·intro h; cases h
   ·intro h; cases h.1
 unfold s9;refine Gd.ite (λh=>?_) (λh=>fin (λy hy=>?_))
 ·have hpos:0<l.length:=by have:=O1 h; omega
  have hw1:i64.wrap ((l.length:Int)-1)=((l.length-1:Nat):Int):=by rw [bJ ⟨by omega,by omega⟩]; omega
  rw [hw1];refine Gd.gA (by omega) (Gd.ite (λh0=>?_) (λh0=>fin (λy hy=>?_)))
  ·have h0:(l[l.length-1]).n=0:=O1 h0
   refine Gd.nd ⟨by omega,by omega⟩ ?_
   have hs:rV l 0 (((l.length-1:Nat):Int).toNat)=l.take (l.length-1):=by simp [rV]
   rw [hs];refine hnx _ ⟨h1.take _,by rw [Pn]; omega,?_⟩ (by rw [Pn]; omega)
   have:=qz (l:=l) (k:=l.length-1) (OU (by omega))
   rw [show l.length-1+1=l.length by omega,QH,h0] at this
   rw [<- h3,this]; simp
  ·have h0:(l[l.length-1]).n≠0:=O9 h0
   rw [TM,OU (by omega)] at hy
   rw [<- OZ hy]; exact h0
 ·have h:¬ 0<(l.length:Int):=O9 h
  have:l=[]:=Pw (by omega)
  rw [this] at hy; cases hy
theorem C8 {a b:List bP} (ha:Wf a) (hb:Wf b) (hl:b.length<=a.length) (hz:a.length<=1000000):
  Gd (kV a b) (λr=>Wf r/\r.length=a.length+1/\nv r=nv a+nv b):=by
 have w1:i64.wrap ((a.length:Int)+1)=((a.length+1:Nat):Int):=by rw [bJ ⟨by omega,by omega⟩]; omega
 unfold kV;rw [w1];refine Gd.nd ⟨by omega,by omega⟩ ?_
 refine Gd.jN (λm k (z:List bP×Int)=>k+m=a.length/\z.1.length=a.length+1/\Wf z.1/\0<=z.2/\z.2<=1/\nv (z.1.take k)+WB ^ k*z.2.toNat=nv (a.take k)+nv (b.take k)) ?_ ?_ _ 0 _ ⟨by simp,by simp,λy hy=>?_,Rk _,by show (0:Int)<=1; omega,by simp [nv]⟩
 ·rintro m k ⟨l,c⟩ nx ⟨h0,h1,h2,h3,h4,h5⟩ hnx
  simp only at h1 h2 h3 h4 h5 hnx ⊢;have hka:k<a.length:=by omega
  have hkn:((k:Int)).toNat=k:=by omega
  obtain ⟨y,hy⟩:∃ y,a[k]? = some y:=⟨_,OU hka⟩;have hyw:=ha y (O7 hy);have fin:∀ (n:Int) (x:Nat),n=c+y.n+x->x<WB->nv (b.take (k+1))=nv (b.take k)+WB ^ k*x->Gd (kU l nx k n) _:=λn x hn hx hb1=>by
   unfold kU;rw [BH,hkn,wu];have hx:x<4294967296:=hx;refine Gd.gA (by omega) (hnx _ ⟨by omega,by simp [h1],?_,by simp only; omega,by simp only; omega,?_⟩)
   ·intro z hz
    rcases TS hz with hz | hz
    ·exact h2 z hz
    ·rw [hz]; simp only; omega
   ·simp only
    rw [vj (by omega),tB,Pn,P2 (by omega),qz hy,hb1]
    simp only;have e1:(n%4294967296).toNat+WB*(n / 4294967296).toNat=c.toNat+y.n.toNat+x:=by
     show (n%4294967296).toNat+4294967296*(n / 4294967296).toNat=_;omega
    have e2:WB ^ k*(n%4294967296).toNat+WB ^ (k+1)*(n / 4294967296).toNat=WB ^ k*c.toNat+WB ^ k*y.n.toNat+WB ^ k*x:=by
     rw [Ue,T5,<- T4,e1,T4,T4]
    omega
  unfold qE;refine Gd.ix (by omega) (by rw [hkn]; exact hy) (Gd.ite (λh=>?_) (λh=>?_))
  ·have hkb:k<b.length:=by have:=O1 h; omega
   obtain ⟨x,hx⟩:∃ x,b[k]? = some x:=⟨_,OU hkb⟩;have hxw:=hb x (O7 hx);refine Gd.ix (by omega) (by rw [hkn]; exact hx) (fin _ x.n.toNat ?_ (by show x.n.toNat<4294967296; omega) (qz hx))
   rw [fT (n:=y.n) (by omega),fT (n:=c+y.n) (by omega),fT (n:=x.n) (by omega),fT (by omega)]
   omega
  ·have hkb:b.length<=k:=by have:=O9 h; omega
   refine fin _ 0 ?_ (by decide) ?_
   ·rw [fT (n:=y.n) (by omega),fT (by omega)]; simp
   ·rw [Pb (by omega),Pb (by omega)]; simp
 ·rintro k ⟨l,c⟩ ⟨h0,h1,h2,h3,h4,h5⟩
  simp only at h1 h2 h3 h4 h5 ⊢;have hk:k=a.length:=by omega
  subst hk;have hln:((a.length:Int)).toNat=a.length:=by omega
  rw [hln,wu];refine Gd.gA (by omega) (Gd.ret ⟨?_,by simp [h1],?_⟩)
  ·intro z hz
   rcases TS hz with hz | hz
   ·exact h2 z hz
   ·rw [hz]; simp only; omega
  ·have e:=vj (l:=l) (k:=a.length) (v:=⟨c%4294967296⟩) (by omega)
   rw [Pb (by simp; omega)] at e
   rw [e,tB,Pn,P2 (by omega)]
   simp only;rw [QH,Pb hl] at h5;rw [show (c%4294967296).toNat=c.toNat by omega]
   exact h5
 ·rw [TT] at hy
  rw [hy.2]; simp
theorem Lx {a b:List bP} (ha:Wf a) (hb:Wf b) (hza:a.length<=1000000) (hzb:b.length<=1000000):
  Gd (oI a b) (λr=>Wf r/\r.length=max a.length b.length+1/\nv r=nv a+nv b):=by
 unfold oI;refine Gd.ite (λh=>(C8 hb ha (by have:=O1 h; omega) hzb).mono ?_) (λh=>(C8 ha hb (by have:=O9 h; omega) hza).mono ?_)
 ·rintro r ⟨h1,h2,h3⟩
  have:=O1 h;exact ⟨h1,by omega,by omega⟩
 ·rintro r ⟨h1,h2,h3⟩
  have:=O9 h;exact ⟨h1,by omega,by omega⟩
def uF (l:List bP):Prop:=∀ y,l.getLast? = some y->y.n≠0
theorem DJ {l:List bP} (hw:Wf l) (ht:uF l) (hne:l≠[]):WB ^ (l.length-1)<=nv l:=by
 rcases TI l with h | ⟨a,y,h⟩
 ·exact absurd h hne
 ·have h:l=a++[y]:=by simpa using h
  have hy:=ht y (by rw [h]; simp)
  have hyw:=hw y (by rw [h]; simp)
  rw [h,tB,Pg,PW,Nat.add_sub_cancel];have:WB ^ a.length*1<=WB ^ a.length*y.n.toNat:=T7 _ (by omega)
  omega
theorem ug {a b:List bP} (ha:Wf a) (hb:Wf b) (htb:uF b) (h:a.length<b.length):nv a<nv b:=by
 have h1:=rS ha;have h2:=DJ hb htb (by intro e; rw [e] at h; simp at h)
 have h3:WB ^ a.length<=WB ^ (b.length-1):=Ua (by decide) (by omega)
 omega
theorem IT {a b:List bP} (ha:Wf a) (hb:Wf b):a.length=b.length->nv a=nv b->a=b:=by
 induction a generalizing b with
 | nil=>intro h _; exact (Pw h.symm).symm
 | cons x a ih=>
  intro h e;cases b with
  | nil=>simp at h
  | cons y b=>
   have hx:=ha x (by simp); have hy:=hb y (by simp)
   rw [nv,nv] at e;have e1:x.n.toNat=y.n.toNat:=by
    have:=P3 (·%WB) e;simp only [Nat.add_mul_mod_self_left] at this;rw [QI (by show x.n.toNat<4294967296; omega),QI (by show y.n.toNat<4294967296; omega)] at this
    exact this
   have e2:nv a=nv b:=by
    rw [e1] at e;exact Nat.eq_of_mul_eq_mul_left (by decide) (Nat.add_left_cancel e)
   have:=ih (λz hz=>ha z (O5 _ hz)) (λz hz=>hb z (O5 _ hz)) (by simpa using h) e2
   cases x; cases y
   simp only at e1 hx hy;rw [this]
   congr 2; omega
theorem qk {l:List bP}{k:Nat}{x:bP} (h:l[k]? = some x):l.drop k=x::l.drop (k+1):=by
 obtain ⟨hk,hx⟩:=OY.1 h;rw [Px hk,hx]
theorem ve {l:List bP}{k:Nat}{x:bP} (h:l[k]? = some x):nv l=nv (l.take k)+WB ^ k*(x.n.toNat+WB*nv (l.drop (k+1))):=by
 have hk:=(OY.1 h).1;have e:nv l=nv (l.take k++l.drop k):=by rw [Qm]
 rw [e,Ct,qk h,Pn,P2 (by omega)]
 rfl
def NA (r:Int) (x y:Nat):Prop:=(r<0↔x<y)/\(r=0↔x=y)
theorem HY {a b : List bP} (ha : Wf a) (hb : Wf b) (hta : uF a) (htb : uF b) (hza : a.length ≤ 1000000) (hzb : b.length ≤ 1000000) : Gd (mW a b) (fun r => NA r (nv a) (nv b)) := by
  unfold mW;refine Gd.ite (fun h => Gd.ret ?_) (fun h => ?_)
  · have h : ¬ (a.length : Int) = b.length := by simpa using h
    rw [bJ ⟨by omega, by omega⟩]
    rcases Nat.lt_or_gt_of_ne (show a.length ≠ b.length by omega) with hl | hl
    · have := ug ha hb htb hl
      exact ⟨⟨fun _ => this, fun _ => by omega⟩, ⟨fun h => by omega, fun h => by omega⟩⟩
    · have := ug hb ha hta hl
      exact ⟨⟨fun h => by omega, fun h => by omega⟩, ⟨fun h => by omega, fun h => by omega⟩⟩
  · have hl : a.length = b.length := by have : (a.length : Int) = b.length := by simpa using h
                                        omega
    rw [bJ ⟨by omega, by omega⟩]
    refine Gd.gH (fun (i : Int) => -1 ≤ i ∧ i < a.length ∧ a.drop (i + 1).toNat = b.drop (i + 1).toNat) (fun i => (i + 1).toNat) ?_ fC _ ⟨by omega, by omega, ?_⟩ (by simp only [fC]; omega)
    · rintro i nx ⟨h1, h2, h3⟩ hnx
      unfold qF;refine Gd.ite (fun hi => ?_) (fun hi => Gd.ret ?_)
      · have hi : 0 ≤ i := O1 hi
        obtain ⟨k, rfl⟩ : ∃ k : Nat, i = k := ⟨i.toNat, by omega⟩
        obtain ⟨x, hx⟩ : ∃ x, a[k]? = some x := ⟨_, OU (by omega)⟩
        obtain ⟨y, hy⟩ : ∃ y, b[k]? = some y := ⟨_, OU (by omega)⟩
        have hxw := ha x (O7 hx); have hyw := hb y (O7 hy)
        have hkn : ((k : Int)).toNat = k := by omega
        rw [show ((k : Int) + 1).toNat = k + 1 by omega] at h3
        have sa := ve hx;have sb := ve hy;rw [← h3] at sb;have la := rS (ha.take k); have lb := rS (hb.take k)
        rw [Pn, P2 (by omega)] at la lb
        generalize nv (a.drop (k + 1)) = T at sa sb;generalize nv (a.take k) = ta at sa la;generalize nv (b.take k) = tb at sb lb;generalize WB ^ k = P at sa sb la lb;have lt_of_lt : ∀ (u v tu tv : Nat), u < v → tu < P → tu + P * (u + WB * T) < tv + P * (v + WB * T) := fun u v tu tv huv hu => by
          have : P * (u + 1) ≤ P * v := T7 _ huv;rw [T4] at this;rw [T4, T4];omega
        refine Gd.ix (by omega) (by rw [hkn]; exact hx) (Gd.ix (by omega) (by rw [hkn]; exact hy) (Gd.ite (fun hne => ?_) (fun he => ?_)))
        · have hne : ¬ x.n = y.n := by simpa using hne
          refine Gd.ix (by omega) (by rw [hkn]; exact hx) (Gd.ix (by omega) (by rw [hkn]; exact hy) (Gd.ite (fun hlt => Gd.ret ?_) (fun hlt => Gd.ret ?_)))
          · have hlt : x.n < y.n := O1 hlt
            have := lt_of_lt x.n.toNat y.n.toNat ta tb (by omega) la
            rw [← sa, ← sb] at this;exact ⟨⟨fun _ => this, fun _ => by omega⟩, ⟨fun h => by omega, fun h => by omega⟩⟩
          · have hlt : ¬ x.n < y.n := O9 hlt
            have := lt_of_lt y.n.toNat x.n.toNat tb ta (by omega) lb
            rw [← sa, ← sb] at this;exact ⟨⟨fun h => by omega, fun h => by omega⟩, ⟨fun h => by omega, fun h => by omega⟩⟩
        · have he : x.n = y.n := by simpa using he
          rw [bJ ⟨by omega, by omega⟩]
          refine hnx _ ⟨by omega, by omega, ?_⟩ (by omega)
          rw [show ((k : Int) - 1 + 1).toNat = k by omega, qk hx, qk hy, h3]
          have : x = y := by cases x; cases y; simp only at he; rw [he]
          rw [this]
      · have hi : ¬ 0 ≤ i := O9 hi
        have : (i + 1).toNat = 0 := by omega
        rw [this, Qh, Qh] at h3;rw [h3];exact ⟨⟨fun h => by omega, fun h => by omega⟩, ⟨fun _ => rfl, fun _ => rfl⟩⟩
    · rw [show ((a.length : Int) - 1 + 1).toNat = a.length by omega, RN, TH (by omega)]
theorem Ji {a b:List bP} (ha:Wf a) (hb:Wf b) (hle:nv b<=nv a) (hl:b.length<=a.length) (hz:a.length<=1000000):
  Gd (mZ a b) (λr=>Wf r/\r.length=a.length/\nv r=nv a-nv b):=by
 unfold mZ;refine Gd.nd ⟨by omega,by omega⟩ ?_
 refine Gd.jN (λm k (z:List bP×Int)=>k+m=a.length/\z.1.length=a.length/\Wf z.1/\-1<=z.2/\z.2<=0/\(nv (z.1.take k):Int)+(WB ^ k:Nat)*z.2=nv (a.take k)-nv (b.take k)) ?_ ?_ _ 0 _ ⟨by simp,by simp,λy hy=>?_,by show (-1:Int)<=0; omega,Rk _,by simp [nv]⟩
 ·rintro m k ⟨l,c⟩ nx ⟨h0,h1,h2,h3,h4,h5⟩ hnx
  simp only at h1 h2 h3 h4 h5 hnx ⊢;have hka:k<a.length:=by omega
  have hkn:((k:Int)).toNat=k:=by omega
  obtain ⟨y,hy⟩:∃ y,a[k]? = some y:=⟨_,OU hka⟩;have hyw:=ha y (O7 hy);have fin:∀ (n:Int) (x:Nat),n=c+y.n-x->x<WB->nv (b.take (k+1))=nv (b.take k)+WB ^ k*x->Gd (kW l nx k n) _:=λn x hn hx hb1=>by
   unfold kW;rw [Ja,hkn,wu];have hx:x<4294967296:=hx;refine Gd.gA (by omega) (hnx _ ⟨by omega,by simp [h1],?_,by simp only; omega,by simp only; omega,?_⟩)
   ·intro z hz
    rcases TS hz with hz | hz
    ·exact h2 z hz
    ·rw [hz]; simp only; omega
   ·simp only
    rw [vj (by omega),tB,Pn,P2 (by omega),qz hy,hb1]
    simp only;have e1:((n%4294967296).toNat:Int)+4294967296*(n / 4294967296)=c+y.n.toNat-x:=by omega
    have e2:((WB ^ k:Nat):Int)*((n%4294967296).toNat:Int)+((WB ^ (k+1):Nat):Int)*(n / 4294967296)=((WB ^ k:Nat):Int)*c+((WB ^ k:Nat):Int)*(y.n.toNat:Int)-((WB ^ k:Nat):Int)*(x:Int):=by
     rw [Ue,PO,TA,<- Tz,show ((WB:Nat):Int)=4294967296 from rfl,e1,TB,Tz]
    simp only [TC,PO] at *
    omega
  unfold qH;refine Gd.ix (by omega) (by rw [hkn]; exact hy) (Gd.ite (λh=>?_) (λh=>?_))
  ·have hkb:k<b.length:=by have:=O1 h; omega
   obtain ⟨x,hx⟩:∃ x,b[k]? = some x:=⟨_,OU hkb⟩;have hxw:=hb x (O7 hx);refine Gd.ix (by omega) (by rw [hkn]; exact hx) (fin _ x.n.toNat ?_ (by show x.n.toNat<4294967296; omega) (qz hx))
   rw [bJ (n:=y.n) (by omega),bJ (n:=c+y.n) (by omega),bJ (n:=x.n) (by omega),bJ (by omega)]
   omega
  ·have hkb:b.length<=k:=by have:=O9 h; omega
   refine fin _ 0 ?_ (by decide) ?_
   ·rw [bJ (n:=y.n) (by omega),bJ (by omega)]; simp
   ·rw [Pb (by omega),Pb (by omega)]; simp
 ·rintro k ⟨l,c⟩ ⟨h0,h1,h2,h3,h4,h5⟩
  simp only at h1 h2 h3 h4 h5 ⊢;have hk:k=a.length:=by omega
  subst hk;rw [QH,Pb hl,Pb (by omega)] at h5
  have hlt:=rS h2;rw [h1] at hlt;have hc:c=0:=by
   rcases (show c = -1\/c=0 by omega) with h | h
   ·exfalso; rw [h] at h5; omega
   ·exact h
  rw [hc] at h5;exact Gd.ret ⟨h2,h1,by omega⟩
 ·rw [TT] at hy
  rw [hy.2]; simp
theorem rX.tp {a:LI} (h:rX a):uF a.words:=h.top
theorem w9 {r:LI}{m:Bool}{n:Nat} (h1:nv r.words=n) (h2:r.minus=true↔m=true/\n≠0):fJ r=if m=true then -(n:Int) else n:=by
 unfold fJ;rw [h1]
 by_cases hr:r.minus=true
 ·rw [O3 hr,O3 (h2.1 hr).1]
 ·rw [O2 hr]
  by_cases hm:m=true
  ·have:n=0:=by
    by_cases hn:n=0
    ·exact hn
    ·exact absurd (h2.2 ⟨hm,hn⟩) hr
   rw [O3 hm,this]; rfl
  ·rw [O2 hm]
theorem Cr {a:LI} (h:rX a) (hz:a.words.length<=1000000):Gd (k_ a) (λr=>rX r/\r.words.length<=a.words.length/\fJ r = -fJ a):=by
 unfold k_;refine Gd.eC (sG (!a.minus) a.words h.wf hz) (λr hr=>Gd.ret ⟨hr.1,hr.2.1,?_⟩);rw [w9 hr.2.2.1 hr.2.2.2];unfold fJ;cases a.minus <;> simp
theorem Ch {a b:LI} (ha:rX a) (hb:rX b) (hza:a.words.length<=900000) (hzb:b.words.length<=900000):
  Gd (kZ a b) (λr=>rX r/\r.words.length<=max a.words.length b.words.length+1/\fJ r=fJ a+fJ b):=by
 unfold kZ;refine Gd.ite (λh=>?_) (λh=>?_)
 ·have h:a.minus=b.minus:=O1 h
  refine Gd.eC (Lx ha.wf hb.wf (by omega) (by omega)) (λw hw=>Gd.eC (sG a.minus w hw.1 (by omega)) (λr hr=>Gd.ret ⟨hr.1,by omega,?_⟩))
  rw [w9 hr.2.2.1 hr.2.2.2,hw.2.2];unfold fJ;rw [<- h];cases a.minus <;> simp <;> omega
 ·have h:a.minus≠b.minus:=O9 h
  refine Gd.eC (HY ha.wf hb.wf ha.tp hb.tp (by omega) (by omega)) (λc hc=>Gd.ite (λh0=>?_) (λh0=>?_))
  ·have h0:0<=c:=O1 h0
   have hle:nv b.words<=nv a.words:=by
    have:=hc.1; omega
   have hlen:b.words.length<=a.words.length:=by
    rcases QP a.words.length b.words.length with hlt | hge
    ·have:=ug ha.wf hb.wf hb.tp hlt; omega
    ·exact hge
   refine Gd.eC (Ji ha.wf hb.wf hle hlen (by omega)) (λw hw=>Gd.eC (sG a.minus w hw.1 (by omega)) (λr hr=>Gd.ret ⟨hr.1,by omega,?_⟩))
   rw [w9 hr.2.2.1 hr.2.2.2,hw.2.2];unfold fJ;cases ea:a.minus <;> cases eb:b.minus <;> first | (rw [ea,eb] at h; exact absurd rfl h) | (simp; omega)
  ·have h0:¬ 0<=c:=O9 h0
   have hlt:nv a.words<nv b.words:=hc.1.1 (by omega)
   have hlen:a.words.length<=b.words.length:=by
    rcases QP b.words.length a.words.length with hl | hge
    ·have:=ug hb.wf ha.wf ha.tp hl; omega
    ·exact hge
   refine Gd.eC (Ji hb.wf ha.wf (by omega) hlen (by omega)) (λw hw=>Gd.eC (sG b.minus w hw.1 (by omega)) (λr hr=>Gd.ret ⟨hr.1,by omega,?_⟩))
   rw [w9 hr.2.2.1 hr.2.2.2,hw.2.2];unfold fJ;cases ea:a.minus <;> cases eb:b.minus <;> first | (rw [ea,eb] at h; exact absurd rfl h) | (simp; omega)
theorem JW {a b:LI} (ha:rX a) (hb:rX b) (hza:a.words.length<=900000) (hzb:b.words.length<=900000):
  Gd (nK a b) (λr=>rX r/\r.words.length<=max a.words.length b.words.length+1/\fJ r=fJ a-fJ b):=by
 unfold nK;refine Gd.eC (Cr hb (by omega)) (λc hc=>Gd.eC (Ch ha hc.1 hza (by omega)) (λr hr=>Gd.ret ⟨hr.1,by omega,by rw [hr.2.2,hc.2.2]; omega⟩))
theorem AK {l:List bP}{k:Nat}{x v:bP} (h:l[k]? = some x):nv (l.set k v)+WB ^ k*x.n.toNat=nv l+WB ^ k*v.n.toNat:=by
 have hk:=(OY.1 h).1;have h1:=ve h;have h2:nv (l.set k v)=nv (l.take k)+WB ^ k*(v.n.toNat+WB*nv (l.drop (k+1))):=by
  have:=ve (l:=l.set k v) (k:=k) (x:=v) (Pq hk);rw [RM (Pl _),Rh (by omega)] at this
  exact this
 rw [T4] at h1 h2;omega
theorem Wf.set {l:List bP} (h:Wf l) {k:Nat}{v:Int} (hv:0<=v/\v<4294967296):Wf (l.set k ⟨v⟩):=λz hz=>by
 rcases TS hz with hz | hz
 ·exact h z hz
 ·rw [hz]; exact hv
theorem IN {nz nz' nz0 P W c uh x y s B T:Nat} (h1:nz'+P*uh=nz+P*(s%W)) (hs:s=c+uh+x*y) (h2:nz+P*c=nz0+x*T*B):nz'+P*W*(s / W)=nz0+x*T*B+P*x*y:=by
 have hd:s%W+W*(s / W)=s:=T3 s W;have e:P*(s%W)+P*(W*(s / W))=P*s:=by rw [<- T4,hd]
 have e2:P*s=P*c+P*uh+P*(x*y):=by rw [hs,T4,T4]
 rw [T5 P W,T5 P x];omega
theorem uM {a b:LI} (ha:rX a) (hb:rX b) (hz:a.words.length+b.words.length<=900000):
  Gd (eQ a b) (λr=>rX r/\r.words.length<=a.words.length+b.words.length/\fJ r=fJ a*fJ b):=by
 have wN:i64.wrap ((a.words.length:Int)+(b.words.length:Int))=((a.words.length+b.words.length:Nat):Int):=by rw [bJ ⟨by omega,by omega⟩]; omega
 unfold eQ;rw [wN];refine Gd.nd ⟨by omega,by omega⟩ ?_
 refine Gd.dR (λi ys (z:List bP)=>ys=a.words.drop i/\i<=a.words.length/\z.length=a.words.length+b.words.length/\Wf z/\nv z=nv (a.words.take i)*nv b.words/\∀ q,i+b.words.length<=q->∀ y,z[q]? = some y->y.n=0) ?_ ?_ _ 0 _ ⟨by simp,by omega,by simp; omega,λy hy=>?_,by rw [IW]; simp [nv],λq _ y hy=>?_⟩
 ·rintro i x ys z0 nx ⟨e0,e1,e2,e3,e4,e5⟩ hnx
  have hi:i<a.words.length:=by
   have:=P3 List.length e0;simp at this; omega
  have hx:a.words[i]? = some x:=by
   have:=P3 (·[0]?) e0;simpa [PG] using this.symm
  have hys:ys=a.words.drop (i+1):=by
   have:=P3 (List.drop 1) e0;simpa using this
  have hxw:=ha.wf x (O7 hx);unfold ra;refine Gd.dR (λk bs (z:List bP×Int)=>bs=b.words.drop k/\k<=b.words.length/\z.1.length=a.words.length+b.words.length/\Wf z.1/\0<=z.2/\z.2<4294967296/\nv z.1+WB ^ (i+k)*z.2.toNat=nv z0+x.n.toNat*nv (b.words.take k)*WB ^ i/\∀ q,i+k<=q->z.1[q]? = z0[q]?) ?_ ?_ _ 0 _ ⟨by simp,by omega,e2,e3,Rk _,by show (0:Int)<4294967296; omega,by simp [nv],λq _=>rfl⟩
  ·rintro k y bs ⟨l,c⟩ nx2 ⟨f0,f1,f2,f3,f4,f5,f6,f7⟩ hnx2
   simp only at f2 f3 f4 f5 f6 f7 hnx2 ⊢;have hk:k<b.words.length:=by
    have:=P3 List.length f0;simp at this; omega
   have hy:b.words[k]? = some y:=by
    have:=P3 (·[0]?) f0;simpa [PG] using this.symm
   have hbs:bs=b.words.drop (k+1):=by
    have:=P3 (List.drop 1) f0;simpa using this
   have hyw:=hb.wf y (O7 hy);obtain ⟨o,ho⟩:∃ o,l[i+k]? = some o:=⟨_,OU (by omega)⟩
   have how:=f3 o (O7 ho);have wj:i64.wrap ((i:Int)+(k:Int))=((i+k:Nat):Int):=by rw [bJ ⟨by omega,by omega⟩]; omega
   have hkn:(((i+k:Nat):Int)).toNat=i+k:=by omega
   have hxy0:0<=x.n*y.n:=Int.mul_nonneg hxw.1 hyw.1;have hxy:x.n*y.n<=4294967295*4294967295:=Int.mul_le_mul (by omega) (by omega) hyw.1 (by omega)
   have hs:u64.wrap (c+(u64.wrap ((u64.wrap (o.n))+(u64.wrap ((u64.wrap (x.n))*(u64.wrap (y.n)))))))=c+o.n+x.n*y.n:=by
    rw [fT (n:=o.n) (by omega),fT (n:=x.n) (by omega),fT (n:=y.n) (by omega),fT (n:=x.n*y.n) (by omega),fT (n:=o.n+x.n*y.n) (by omega),fT (by omega)]
    omega
   unfold re;rw [wj];refine Gd.ix (by omega) (by rw [hkn]; exact ho) (Gd.ix (by omega) (by rw [hkn]; exact ho) ?_)
   rw [hs,hkn,BH,wu];have hxyn:x.n*y.n=((x.n.toNat*y.n.toNat:Nat):Int):=by
    rw [PO,R7 hxw.1,R7 hyw.1]
   have hsn:c+o.n+x.n*y.n=((c.toNat+o.n.toNat+x.n.toNat*y.n.toNat:Nat):Int):=by rw [hxyn]; omega
   refine hnx2 _ ⟨hbs,by omega,by simp [f2],f3.set (by omega),by simp only; omega,by simp only; omega,?_,λq hq=>?_⟩
   ·simp only
    have g:=AK (l:=l) (k:=i+k) (x:=o) (v:=⟨(c+o.n+x.n*y.n)%4294967296⟩) ho;simp only at g;have g1:((c+o.n+x.n*y.n)%4294967296).toNat=(c.toNat+o.n.toNat+x.n.toNat*y.n.toNat)%WB:=by rw [hsn]; show _=_%4294967296; omega
    have g2:((c+o.n+x.n*y.n) / 4294967296).toNat=(c.toNat+o.n.toNat+x.n.toNat*y.n.toNat) / WB:=by rw [hsn]; show _=_ / 4294967296; omega
    rw [g1] at g;have:=IN g rfl f6;rw [g2,show i+(k+1)=(i+k)+1 by omega,Ue,this,qz hy,T9]
    rw [T4,Pk,Q_]
    congr 2
    rw [T6 (WB ^ i) (WB ^ k),T6 (WB ^ k*WB ^ i) x.n.toNat,T5,T5,T5,T5,T6 y.n.toNat,T6 (WB ^ i) y.n.toNat]
   ·simp only
    rw [Pj (by omega)]
    exact f7 q (by omega)
  ·rintro k ⟨l,c⟩ ⟨f0,f1,f2,f3,f4,f5,f6,f7⟩
   simp only at f2 f3 f4 f5 f6 f7 ⊢;have hk:k=b.words.length:=by
    have:=P3 List.length f0;simp at this; omega
   subst hk;have wj:i64.wrap ((i:Int)+(b.words.length:Int))=((i+b.words.length:Nat):Int):=by rw [bJ ⟨by omega,by omega⟩]; omega
   have hkn:(((i+b.words.length:Nat):Int)).toNat=i+b.words.length:=by omega
   obtain ⟨o,ho⟩:∃ o,l[i+b.words.length]? = some o:=⟨_,OU (by omega)⟩
   have ho0:o.n=0:=e5 _ (Pl _) o (by rw [<- f7 _ (Pl _)]; exact ho)
   rw [wj];refine Gd.ix (by omega) (by rw [hkn]; exact ho) ?_
   rw [hkn,wu,show c%4294967296=c by omega]
   refine hnx _ ⟨hys,by omega,by simp [f2],f3.set (by omega),?_,λq hq y hy=>?_⟩
   ·have g:=AK (l:=l) (k:=i+b.words.length) (x:=o) (v:=⟨c⟩) ho
    simp only [ho0] at g;rw [QH] at f6;rw [qz hx,Pk,<- e4];have e:WB ^ i*x.n.toNat*nv b.words=x.n.toNat*nv b.words*WB ^ i:=by rw [T6 (WB ^ i),T5,T6 (WB ^ i),<- T5]
    rw [e];simp at g;omega
   ·rw [Pj (by omega),f7 _ (by omega)] at hy
    exact e5 _ (by omega) y hy
 ·rintro i z ⟨e0,e1,e2,e3,e4,e5⟩
  have hi:i=a.words.length:=by
   have:=P3 List.length e0;simp at this; omega
  subst hi;rw [QH] at e4;refine Gd.eC (sG _ z e3 (by omega)) (λr hr=>Gd.ret ⟨hr.1,by omega,?_⟩)
  rw [w9 hr.2.2.1 hr.2.2.2,e4];unfold fJ;cases a.minus <;> cases b.minus <;> simp [Int.mul_neg,Int.neg_mul]
 ·rw [TT] at hy
  rw [hy.2]; simp
 ·have:=O7 hy
  rw [TT] at this;rw [this.2]
theorem yp {r y:Int} (hr:0<=r/\r<4294967296) (hy:0<=y/\y<4294967296):
  u64.wrap ((BitVec.ofInt (u64).bits (sU .u64 r 32) ||| BitVec.ofInt (u64).bits (u64.wrap y)).toNat)=r*4294967296+y:=by
 obtain ⟨n,rfl⟩:∃ n:Nat,r=n:=⟨r.toNat,by omega⟩
 obtain ⟨m,rfl⟩:∃ m:Nat,y=m:=⟨y.toNat,by omega⟩
 have e1:sU .u64 (n:Int) 32=((n*4294967296:Nat):Int):=by
  unfold sU;rw [show (min (32:Int).toNat u64.bits)=32 by decide,CM]
  show (n:Int)*4294967296%18446744073709551616=_;omega
 rw [e1,fT (n:=(m:Int)) (by omega)]
 show u64.wrap (((BitVec.ofInt 64 ((n*4294967296:Nat):Int) ||| BitVec.ofInt 64 ((m:Nat):Int)).toNat:Nat):Int)=_;rw [Tt,Tt,BitVec.toNat_or,Tu,Tu,QI (by omega),QI (by omega)]
 have e2:n*4294967296 ||| m=n*4294967296+m:=by
  have:=Nat.shiftLeft_add_eq_or_of_lt (i:=32) (b:=m) (by omega) n
  rw [Nat.shiftLeft_eq] at this;exact this.symm
 rw [e2,fT (by omega)]
 omega
theorem G9 {r y d:Int} (hr:0<=r/\r<d) (hy:0<=y/\y<4294967296) (hd:0<d/\d<4294967296):
  ∃ q m:Nat,Int.tdiv (r*4294967296+y) d=q/\Int.tmod (r*4294967296+y) d=m/\q<4294967296/\(m:Int)<d/\m+d.toNat*q=WB*r.toNat+y.toNat:=by
 obtain ⟨dn,rfl⟩:∃ dn:Nat,d=dn:=⟨d.toNat,by omega⟩
 obtain ⟨rn,rfl⟩:∃ rn:Nat,r=rn:=⟨r.toNat,by omega⟩
 obtain ⟨Y,rfl⟩:∃ Y:Nat,y=Y:=⟨y.toNat,by omega⟩
 have hdn:0<dn:=by omega
 have e:∀ W:Nat,Y<W->∃ q m:Nat,Int.tdiv ((rn:Int)*W+Y) dn=q/\Int.tmod ((rn:Int)*W+Y) dn=m/\q<W/\m<dn/\m+dn*q=W*rn+Y:=λW hW=>by
  have hN:rn*W+Y<dn*W:=by
   have:(rn+1)*W<=dn*W:=Pe _ (by omega)
   rw [Pk] at this;omega
  have hc:(rn:Int)*W+Y=((rn*W+Y:Nat):Int):=by rw [TC,PO]
  rw [hc];refine ⟨(rn*W+Y) / dn,(rn*W+Y)%dn,rfl,rfl,?_,RQ _ hdn,?_⟩
  ·rw [TY hdn,T6 W dn]; exact hN
  ·rw [T3,T6 rn W]
 obtain ⟨q,m,h1,h2,h3,h4,h5⟩:=e WB (by show Y<4294967296; omega)
 refine ⟨q,m,h1,h2,h3,by omega,?_⟩
 simp only [OX];exact h5
theorem G_ {q dn B m Y rn:Nat} (h1:m+dn*q=WB*rn+Y):(q+WB*B)*dn+m=Y+WB*(B*dn+rn):=by
 rw [Pk,T4,T5 WB,T6 q dn];generalize dn*q=Z at h1;generalize WB*rn=X at h1 ⊢;generalize WB*(B*dn)=T;omega
theorem DU {a:List bP} (ha:Wf a) (hz:a.length<=1000000) {d:Int} (hd:0<d/\d<4294967296):
  Gd (mY a d) (λr=>Wf r.1/\r.1.length=a.length/\nv r.1=nv a / d.toNat/\r.2=(nv a%d.toNat:Nat)):=by
 unfold mY;refine Gd.nd ⟨by omega,by omega⟩ ?_
 rw [bJ ⟨by omega,by omega⟩]
 refine Gd.gH (λ(z:List bP×Int×Int)=>-1<=z.2.2/\z.2.2<a.length/\z.1.length=a.length/\Wf z.1/\0<=z.2.1/\z.2.1<d/\nv (z.1.drop (z.2.2+1).toNat)*d.toNat+z.2.1.toNat=nv (a.drop (z.2.2+1).toNat)) (λz=>(z.2.2+1).toNat) ?_ fC _ ⟨by simp only; omega,by simp only; omega,by simp,λy hy=>?_,Rk _,by simp only; omega,?_⟩ (by simp only [fC]; omega)
 ·rintro ⟨l,r,i⟩ nx ⟨h1,h2,h3,h4,h5,h6,h7⟩ hnx
  simp only at h1 h2 h3 h4 h5 h6 h7 hnx ⊢;unfold qG;refine Gd.ite (λhi=>?_) (λhi=>Gd.ret ?_)
  ·have hi:0<=i:=O1 hi
   obtain ⟨k,rfl⟩:∃ k:Nat,i=k:=⟨i.toNat,by omega⟩
   obtain ⟨y,hy⟩:∃ y,a[k]? = some y:=⟨_,OU (by omega)⟩
   have hyw:=ha y (O7 hy);have hkn:((k:Int)).toNat=k:=by omega
   rw [fT (n:=d) (by omega)]
   refine Gd.ix (by omega) (by rw [hkn]; exact hy) (Gd.nd (by omega) (Gd.gA (show k<l.length by omega) (Gd.nd (by omega) ?_)))
   rw [yp ⟨h5,by omega⟩ hyw]
   rw [show ((k:Int)+1).toNat=k+1 by omega] at h7
   obtain ⟨q,m,e1,e2,hqlt,hmlt,hdm⟩:=G9 ⟨h5,h6⟩ hyw hd;rw [e1,e2,hkn,fT (n:=(q:Int)) (by omega),wu,bJ ⟨by omega,by omega⟩,show (q:Int)%4294967296=(q:Int) by omega]
   refine hnx _ ⟨by simp only; omega,by simp only; omega,by simp [h3],h4.set (by omega),by simp only; omega,by simp only; omega,?_⟩ (by simp only; omega)
   simp only;rw [show ((k:Int)-1+1).toNat=k by omega,qk hy,qk (l:=l.set k _) (Pq (by omega)),Rh (by omega),nv,nv,<- h7]
   simp only [OX];exact G_ hdm
  ·have hi:¬ 0<=i:=O9 hi
   rw [show (i+1).toNat=0 by omega,Qh,Qh] at h7
   have hdn:0<d.toNat:=by omega
   refine ⟨h4,h3,?_,?_⟩
   ·simp only
    rw [<- h7,T6,Nat.mul_add_div hdn,TX (by omega)]; rfl
   ·simp only
    rw [wu,<- h7,T6,Nat.mul_add_mod,QI (by omega)]
    omega
 ·rw [TT] at hy
  rw [hy.2]; simp
 ·simp only
  rw [show ((a.length:Int)-1+1).toNat=a.length by omega,RN,TH (by simp)]
  simp [nv]
theorem AM {n:Int} (h:-9223372036854775808<=n/\n<=9223372036854775807):Gd (mi n) (λr=>rX r/\r.words.length<=2/\fJ r=n):=by
 have core:∀ m:Int,0<=m->m<18446744073709551616->(m=n/\0<=n\/m = -n/\n<0)->Gd (pF n m) (λr=>rX r/\r.words.length<=2/\fJ r=n):=λm h0 h1 h2=>by
  unfold pF;rw [BH,wu,wu];have hw:Wf [⟨m%4294967296⟩,⟨m / 4294967296%4294967296⟩]:=λy hy=>by
   rcases PH.1 hy with rfl | hy
   ·simp only; omega
   ·rw [PA] at hy; subst hy; simp only; omega
  have hv:nv [⟨m%4294967296⟩,⟨m / 4294967296%4294967296⟩]=m.toNat:=by
   simp only [nv];show (m%4294967296).toNat+4294967296*((m / 4294967296%4294967296).toNat+4294967296*0)=_;omega
  refine Gd.eC (sG _ _ hw (by simp)) (λr hr=>Gd.ret ⟨hr.1,hr.2.1,?_⟩)
  rw [w9 hr.2.2.1 hr.2.2.2,hv];rcases h2 with ⟨rfl,h2⟩ | ⟨rfl,h2⟩
  ·rw [O2 (by simp; omega)]; omega
  ·rw [O3 (by simp; omega)]; omega
 unfold mi;refine Gd.ite (λh0=>core _ ?_ ?_ (.inr ⟨?_,?_⟩)) (λh0=>core _ ?_ ?_ (.inl ⟨?_,?_⟩))
 ·rw [CM]; omega
 ·rw [CM]; omega
 ·have:=O1 h0
  rw [CM,CM]; omega
 ·exact O1 h0
 ·rw [CM]; omega
 ·rw [CM]; omega
 ·have:=O9 h0
  rw [CM]; omega
 ·have:=O9 h0; omega
theorem L4 {c x s:Nat} (hs:s<=31) (hc:c<2 ^ s) (hx:x<4294967296):
  u64.wrap ((BitVec.ofInt (u64).bits (c:Int) ||| BitVec.ofInt (u64).bits (sU .u64 (u64.wrap (x:Int)) (s:Int))).toNat)=((c+x*2 ^ s:Nat):Int):=by
 have hp:(2:Nat) ^ s<=2147483648:=Ua (by decide) hs
 have hx2:x*2 ^ s<=4294967295*2147483648:=Nat.mul_le_mul (by omega) hp
 rw [fT (n:=(x:Int)) (by omega)]
 have e1:sU .u64 (x:Int) (s:Int)=((x*2 ^ s:Nat):Int):=by
  unfold sU;rw [show (min ((s:Int)).toNat u64.bits)=s by show min ((s:Int)).toNat 64=s; omega]
  rw [show (x:Int)*2 ^ s=((x*2 ^ s:Nat):Int) by rw [PO,Int.natCast_pow]; rfl]
  rw [fT (by omega)]
 rw [e1];show u64.wrap (((BitVec.ofInt 64 ((c:Nat):Int) ||| BitVec.ofInt 64 ((x*2 ^ s:Nat):Int)).toNat:Nat):Int)=_;rw [Tt,Tt,BitVec.toNat_or,Tu,Tu,QI (by omega),QI (by omega)]
 have e2:c ||| x*2 ^ s=c+x*2 ^ s:=by
  have:=Nat.shiftLeft_add_eq_or_of_lt (i:=s) (b:=c) hc x;rw [Nat.shiftLeft_eq] at this;rw [Nat.or_comm,<- this,Rn]
 rw [e2,fT (by omega)]
theorem E8 {A P c x S W out o c':Nat} (h:out+P*c=A*S) (hd:o+W*c'=c+x*S):(out+P*o)+P*W*c'=(A+P*x)*S:=by
 have e:P*o+P*(W*c')=P*c+P*(x*S):=by rw [<- T4,hd,T4]
 rw [T5 P W,Pk,T5 P x];omega
theorem AY {a:List bP} (ha:Wf a) (hz:a.length<=1000000) {s:Nat} (hs:s<=31):
  Gd (nO a (s:Int)) (λr=>Wf r/\r.length=a.length+1/\nv r=nv a*2 ^ s/\∃ t,r[a.length]? = some t/\t.n.toNat<2 ^ s):=by
 have w1:i64.wrap ((a.length:Int)+1)=((a.length+1:Nat):Int):=by rw [bJ ⟨by omega,by omega⟩]; omega
 have hp:(2:Nat) ^ s<=2147483648:=Ua (by decide) hs
 have hp0:0<(2:Nat) ^ s:=Ud (by decide)
 unfold nO;rw [w1];refine Gd.nd ⟨by omega,by omega⟩ ?_
 refine Gd.dR (λk ys (z:List bP×Int)=>ys=a.drop k/\k<=a.length/\z.1.length=a.length+1/\Wf z.1/\0<=z.2/\z.2.toNat<2 ^ s/\nv (z.1.take k)+WB ^ k*z.2.toNat=nv (a.take k)*2 ^ s) ?_ ?_ _ 0 _ ⟨by simp,by omega,by simp,λy hy=>?_,Rk _,by simpa using hp0,by simp [nv]⟩
 ·rintro k x ys ⟨l,c⟩ nx ⟨h0,h1,h2,h3,h4,h5,h6⟩ hnx
  simp only at h2 h3 h4 h5 h6 hnx ⊢;have hk:k<a.length:=by
   have:=P3 List.length h0;simp at this; omega
  have hx:a[k]? = some x:=by
   have:=P3 (·[0]?) h0;simpa [PG] using this.symm
  have hys:ys=a.drop (k+1):=by
   have:=P3 (List.drop 1) h0;simpa using this
  have hxw:=ha x (O7 hx);obtain ⟨cn,rfl⟩:∃ cn:Nat,c=cn:=⟨c.toNat,by omega⟩
  obtain ⟨X,hX⟩:∃ X:Nat,x.n=X:=⟨x.n.toNat,by omega⟩
  have hkn:((k:Int)).toNat=k:=by omega
  unfold ri;rw [hX];simp only [OX] at h5 h6;rw [L4 hs h5 (by omega)]
  refine Gd.nd (by omega) (Gd.gA (show k<l.length by omega) ?_)
  rw [hkn,wu,BH];have hb:cn+X*2 ^ s<4294967296*2 ^ s:=by
   have:(X+1)*2 ^ s<=4294967296*2 ^ s:=Pe _ (by omega)
   rw [Pk] at this;omega
  have hdm:=T3 (cn+X*2 ^ s) WB;have hq:(cn+X*2 ^ s) / WB<2 ^ s:=by
   rw [TY (by decide),T6 (2 ^ s)]; exact hb
  have e1:((cn+X*2 ^ s:Nat):Int)%4294967296=(((cn+X*2 ^ s)%WB:Nat):Int):=rfl;have e2:((cn+X*2 ^ s:Nat):Int) / 4294967296=(((cn+X*2 ^ s) / WB:Nat):Int):=rfl;have hm:(cn+X*2 ^ s)%WB<WB:=RQ _ (by decide)
  rw [e1,e2];generalize (cn+X*2 ^ s)%WB=o at hdm hm;generalize (cn+X*2 ^ s) / WB=c' at hdm hq;refine hnx _ ⟨hys,by omega,by simp [h2],h3.set ⟨by omega,by have:o<4294967296:=hm; omega⟩,by simp only; omega,by simp only [OX]; exact hq,?_⟩
  simp only;rw [vj (by omega),tB,Pn,P2 (by omega),qz hx,hX,Ue]
  simp only [OX];exact E8 h6 hdm
 ·rintro k ⟨l,c⟩ ⟨h0,h1,h2,h3,h4,h5,h6⟩
  simp only at h2 h3 h4 h5 h6 ⊢;have hk:k=a.length:=by
   have:=P3 List.length h0;simp at this; omega
  subst hk;have hkn:((a.length:Int)).toNat=a.length:=by omega
  rw [hkn,wu,show c%4294967296=c by omega]
  refine Gd.gA (by omega) (Gd.ret ⟨h3.set (by omega),by simp [h2],?_,⟨⟨c⟩,Pq (by omega),h5⟩⟩)
  have e:=vj (l:=l) (k:=a.length) (v:=⟨c⟩) (by omega)
  rw [Pb (by simp; omega)] at e
  rw [e,tB,Pn,P2 (by omega)]
  rw [QH] at h6;exact h6
 ·rw [TT] at hy
  rw [hy.2]; simp
section
variable {W R v1 v2 vl u2 ul top q V U:Nat}
structure Fj (W R v1 v2 vl u2 ul top V U:Nat):Prop where
 V:V=(v1*W+v2)*R+vl
 U:U=(top*W+u2)*R+ul
 vl:vl<R
 ul:ul<R
 u2:u2<W
 v2:v2<W
theorem Fj.L9 (h:Fj W R v1 v2 vl u2 ul top V U) (hq:q*V<=U):q*v1<=top:=by
 rcases QP top (q*v1) with hlt | hge
 ·exfalso
  have h1:(top+1)*(W*R)<=q*v1*(W*R):=Pe _ hlt;have h2:v1*(W*R)<=V:=by
   rw [h.V,Pk,T5 v1]; omega
  have h3:q*(v1*(W*R))<=q*V:=T7 _ h2;have h4:U<(top+1)*(W*R):=by
   have e1:(u2+1)*R<=W*R:=Pe _ h.u2;rw [Pk] at e1;have hul:=h.ul;rw [h.U,Pk,T5 top,Pk top];omega
  rw [T5 q] at h1;omega
 ·exact hge
theorem Fj.Cl (h:Fj W R v1 v2 vl u2 ul top V U) (hq:q*V<=U):q*(v1*W+v2)<=top*W+u2:=by
 rcases QP (top*W+u2) (q*(v1*W+v2)) with hlt | hge
 ·exfalso
  have h1:(top*W+u2+1)*R<=q*(v1*W+v2)*R:=Pe _ hlt;have h2:(v1*W+v2)*R<=V:=by rw [h.V]; omega
  have h3:q*((v1*W+v2)*R)<=q*V:=T7 _ h2;have hul:=h.ul;have hU:=h.U;rw [Pk _ 1] at h1;rw [T5 q] at h1;omega
 ·exact hge
theorem Fj.NS (h:Fj W R v1 v2 vl u2 ul top V U) {g:Nat} (hg:g<=W) (hv:1<=v1) (hl:g*(v1*W+v2)<=top*W+u2):g*V<U+V:=by
 have h1:g*(v1*W+v2)*R<=(top*W+u2)*R:=Pe _ hl;have h2:g*vl<=W*vl:=Pe _ hg;have h3:W*(vl+1)<=W*R:=T7 _ h.vl;have h4:1*(W*R)<=v1*(W*R):=Pe _ hv;have e1:g*V=g*(v1*W+v2)*R+g*vl:=by rw [h.V,T4,T5]
 have e2:V=v1*(W*R)+v2*R+vl:=by rw [h.V,Pk,T5]
 have hU:=h.U;have hR:0<R:=by have:=h.vl; omega
 have hW:0<W:=by have:=h.u2; omega
 rw [T4,Ro] at h3;omega
structure Gs (W R v1 v2 vl u2 ul top V U q g rest:Nat):Prop where
 ge:q<=g
 eq:g*v1+rest=top
 rest:rest<W
 le:g<=W+1
structure My (W V U q g:Nat):Prop where
 ge:q<=g
 le:g<=q+1
 w:g<=W
theorem Fj.out (h:Fj W R v1 v2 vl u2 ul top V U) {g:Nat} (hq:U<(q+1)*V) (hge:q<=g) (hg:g<=W) (hv:1<=v1) (hl:g*(v1*W+v2)<=top*W+u2):My W V U q g:=by
 refine ⟨hge,?_,hg⟩;have h1:=h.NS hg hv hl;rcases QP (q+1) g with hlt | hge'
 ·exfalso
  have h2:(q+2)*V<=g*V:=Pe _ hlt;rw [Pk] at h2 hq;omega
 ·exact hge'
theorem Gs.stop (h:Fj W R v1 v2 vl u2 ul top V U) {g rest:Nat} (hs:Gs W R v1 v2 vl u2 ul top V U q g rest) (hq:U<(q+1)*V) (hv:1<=v1) (hg:g<W) (ht:g*v2<=rest*W+u2):My W V U q g:=by
 refine h.out hq hs.ge (by omega) hv ?_
 rw [<- hs.eq,T4,Pk,T5];omega
theorem Gs.less (h:Fj W R v1 v2 vl u2 ul top V U) {g rest:Nat} (hs:Gs W R v1 v2 vl u2 ul top V U q g rest) (hq:q*V<=U) (hqW:q<W) (ht:W<=g\/rest*W+u2<g*v2):q<g:=by
 rcases ht with ht | ht
 ·omega
 ·have h1:=h.Cl hq
  rw [<- hs.eq] at h1;rcases QP q g with hlt | hge
  ·exact hlt
  ·exfalso
   have h2:g*(v1*W+v2)<=q*(v1*W+v2):=Pe _ hge;rw [T4 g] at h2;rw [Pk (g*v1),T5] at h1;omega
theorem Gs.next {g rest:Nat} (hs:Gs W R v1 v2 vl u2 ul top V U q g rest) (hl:q<g) (hr:rest+v1<W):Gs W R v1 v2 vl u2 ul top V U q (g-1) (rest+v1):=by
 have h:=hs.eq; have hle:=hs.le
 obtain ⟨k,rfl⟩:∃ k,g=k+1:=⟨g-1,by omega⟩
 rw [Pk] at h;exact ⟨by omega,by rw [Nat.add_sub_cancel]; omega,hr,by omega⟩
theorem Gs.over (h:Fj W R v1 v2 vl u2 ul top V U) {g rest:Nat} (hs:Gs W R v1 v2 vl u2 ul top V U q g rest) (hq:U<(q+1)*V) (hv:1<=v1) (hl:q<g) (hr:W<=rest+v1):My W V U q (g-1):=by
 have he:=hs.eq; have hle:=hs.le; have hv2:=h.v2
 obtain ⟨k,rfl⟩:∃ k,g=k+1:=⟨g-1,by omega⟩
 rw [Nat.add_sub_cancel];rw [Pk] at he;refine h.out hq (by omega) (by omega) hv ?_
 have h1:k*v2<=W*v2:=Pe _ (by omega)
 have h2:W*(v2+1)<=W*W:=T7 _ hv2;have h3:W*W<=(rest+v1)*W:=Pe _ hr;have e:top=k*v1+(rest+v1):=by omega
 rw [e,T4 k,Pk (k*v1),T5];rw [T4] at h2;omega
end
def FK:List U8:=jM (⟨#[0,1,2,2,3,3,3,3,4,4,4,4,4,4,4,4,5,5,5,5,5,5,5,5,5,5,5,5,5,5,5,5,6,6,6,6,6,6,6,6,6,6,6,6,6,6,6,6,6,6,6,6,6,6,6,6,6,6,6,6,6,6,6,6,7,7,7,7,7,7,7,7,7,7,7,7,7,7,7,7,7,7,7,7,7,7,7,7,7,7,7,7,7,7,7,7,7,7,7,7,7,7,7,7,7,7,7,7,7,7,7,7,7,7,7,7,7,7,7,7,7,7,7,7,7,7,7,7,8,8,8,8,8,8,8,8,8,8,8,8,8,8,8,8,8,8,8,8,8,8,8,8,8,8,8,8,8,8,8,8,8,8,8,8,8,8,8,8,8,8,8,8,8,8,8,8,8,8,8,8,8,8,8,8,8,8,8,8,8,8,8,8,8,8,8,8,8,8,8,8,8,8,8,8,8,8,8,8,8,8,8,8,8,8,8,8,8,8,8,8,8,8,8,8,8,8,8,8,8,8,8,8,8,8,8,8,8,8,8,8,8,8,8,8,8,8,8,8,8,8,8,8,8,8,8,8]⟩)
def II (i:Nat) (y:U8):Bool:=decide (1<=y.n) && (decide (y.n<=8) && (decide (2 ^ (y.n.toNat-1)<=i) && decide (i<2 ^ y.n.toNat)))
theorem J5:∀ i:Nat,1<=i->i<256->∃ y,FK[i]? = some y/\II i y=true:=by
 have h:(List.range 256).all (λi=>decide (i=0) || (match FK[i]? with | some y=>II i y | none=>false))=true:=by decide +kernel
 intro i h1 h2;have:=P_.1 h i (by simpa using h2)
 rw [Uu (by omega),Bool.false_or] at this
 cases hy:FK[i]? with
 | none=>rw [hy] at this; cases this
 | some y=>rw [hy] at this; exact ⟨y,rfl,this⟩
theorem Cm {n m:Int} (h1:1<=n) (h2:n<256) (hm:0<=m/\m<=24):Gd (ky n m) (λr=>∃ L:Nat,r=m+L/\1<=L/\L<=8/\2 ^ (L-1)<=n.toNat/\n.toNat<2 ^ L):=by
 obtain ⟨y,hy,hb⟩:=J5 n.toNat (by omega) (by omega)
 simp only [II,QB,PF] at hb;obtain ⟨b1,b2,b3,b4⟩:=hb;have hw:u8.wrap n=n:=by
  rw [show u8.wrap n=n%256 by simp [IntKind.wrap,IntKind.bits,IntKind.signed]]; omega
 unfold ky;rw [hw];refine Gd.ix (l:=FK) (by omega) hy (Gd.ret ⟨y.n.toNat,?_,by omega,by omega,b3,b4⟩)
 rw [bJ (n:=y.n) (by omega),bJ (by omega)]
 omega
theorem E9 {n:Int}{k:Nat} (hk:k<=32):nJ .u32 n (k:Int)=n / (2 ^ k:Nat):=by
 unfold nJ;rw [show (min ((k:Int)).toNat u32.bits)=k by show min ((k:Int)).toNat 32=k; omega,Rs _ (Int.le_of_lt (Int.pow_pos (by decide)))]
 rw [Int.natCast_pow]; rfl
theorem MR {x:Int} (h1:1<=x) (h2:x<4294967296):Gd (iL x) (λr=>∃ s:Nat,r=s/\s<=31/\2147483648<=x.toNat*2 ^ s/\x.toNat*2 ^ s<4294967296):=by
 have fin:∀ (o:Option Int),Gd o (λr=>∃ l:Nat,r=l/\1<=l/\l<=32/\2 ^ (l-1)<=x.toNat/\x.toNat<2 ^ l)->Gd (o.bind λr101=>some (i64.wrap (32-r101))) (λr=>∃ s:Nat,r=s/\s<=31/\2147483648<=x.toNat*2 ^ s/\x.toNat*2 ^ s<4294967296):=λo ho=>by
  refine Gd.eC ho (λr hr=>Gd.ret ?_);obtain ⟨l,rfl,l1,l2,l3,l4⟩:=hr;refine ⟨32-l,by rw [bJ (by omega)]; omega,by omega,?_,?_⟩
  ·have:2 ^ (l-1)*2 ^ (32-l)<=x.toNat*2 ^ (32-l):=Pe _ l3
   rw [<- T9,show l-1+(32-l)=31 by omega] at this
   exact this
  ·have:x.toNat*2 ^ (32-l)<2 ^ l*2 ^ (32-l):=Nat.mul_lt_mul_of_pos_right l4 (Ud (by decide))
   rw [<- T9,show l+(32-l)=32 by omega] at this
   exact this
 have part:∀ (n:Int) (base:Nat),n=x / (2 ^ base:Nat)->base<=24->∀ L:Nat,1<=L->2 ^ (L-1)<=n.toNat->n.toNat<2 ^ L->2 ^ (base+L-1)<=x.toNat/\x.toNat<2 ^ (base+L):=λn base hn hb L l1 l2 l3=>by
  have e:n.toNat=x.toNat / 2 ^ base:=by
   rw [hn];obtain ⟨X,rfl⟩:∃ X:Nat,x=X:=⟨x.toNat,by omega⟩
   rfl
  have hp:0<2 ^ base:=Ud (by decide)
  rw [e] at l2 l3;rw [TZ hp,<- T9] at l2;rw [TY hp,<- T9] at l3;rw [show base+L-1=L-1+base by omega,Rn base L]
  exact ⟨l2,l3⟩
 unfold iL;refine fin _ ?_;unfold pT;refine Gd.ite (λh=>?_) (λh=>?_)
 ·have h:=O1 h
  rw [show nJ .u32 x 16=x / 65536 from E9 (k:=16) (by omega)]
  unfold kz;refine Gd.ite (λh3=>?_) (λh3=>?_)
  ·have h3:=O1 h3
   rw [show nJ .u32 (x / 65536) 8=x / 65536 / 256 from E9 (k:=8) (by omega),show i64.wrap (16+8)=24 by decide]
   refine (Cm (by omega) (by omega) (by omega)).mono ?_
   rintro r ⟨L,rfl,l1,l2,l3,l4⟩;obtain ⟨p1,p2⟩:=part (x / 65536 / 256) 24 (by show _=x / 16777216; omega) (by omega) L l1 l3 l4
   exact ⟨24+L,by omega,by omega,by omega,p1,p2⟩
  ·have h3:=O9 h3
   refine (Cm (by omega) (by omega) (by omega)).mono ?_
   rintro r ⟨L,rfl,l1,l2,l3,l4⟩;obtain ⟨p1,p2⟩:=part (x / 65536) 16 (by show _=x / 65536; omega) (by omega) L l1 l3 l4
   exact ⟨16+L,by omega,by omega,by omega,p1,p2⟩
 ·have h:=O9 h
  unfold kz;refine Gd.ite (λh3=>?_) (λh3=>?_)
  ·have h3:=O1 h3
   rw [show nJ .u32 x 8=x / 256 from E9 (k:=8) (by omega),show i64.wrap (0+8)=8 by decide]
   refine (Cm (by omega) (by omega) (by omega)).mono ?_
   rintro r ⟨L,rfl,l1,l2,l3,l4⟩;obtain ⟨p1,p2⟩:=part (x / 256) 8 (by show _=x / 256; omega) (by omega) L l1 l3 l4
   exact ⟨8+L,by omega,by omega,by omega,p1,p2⟩
  ·have h3:=O9 h3
   refine (Cm (by omega) (by omega) (by omega)).mono ?_
   rintro r ⟨L,rfl,l1,l2,l3,l4⟩;obtain ⟨p1,p2⟩:=part x 0 (by show _=x / 1; omega) (by omega) L l1 l3 l4
   exact ⟨0+L,by omega,by omega,by omega,p1,p2⟩
theorem JH {t:Nat} (h:t<18446744073709551616):u64.wrap ((BitVec.ofInt (u64).bits (t:Int) &&& BitVec.ofInt (u64).bits 4294967295).toNat)=((t%WB:Nat):Int):=by
 have e:(BitVec.ofInt (u64).bits 4294967295).toNat=4294967295:=by decide
 have e2:(BitVec.ofInt (u64).bits (t:Int)).toNat=t:=by
  show (BitVec.ofInt 64 (t:Int)).toNat=t;rw [Tt,Tu,QI h]
 rw [BitVec.toNat_and,e,e2];have:=TW t 32;rw [show (2:Nat) ^ 32-1=4294967295 from rfl] at this;rw [this,show (2:Nat) ^ 32=WB from rfl];have hm:t%WB<WB:=RQ _ (by decide)
 rw [fT ⟨by omega,by have:t%WB<4294967296:=hm; omega⟩]
theorem FR {l:List bP}{k:Nat}{x v:bP} (h:l[k]? = some x) (hx:0<=x.n) (hv:0<=v.n):(nv (l.set k v):Int)+((WB ^ k:Nat):Int)*x.n=nv l+((WB ^ k:Nat):Int)*v.n:=by
 have:=P3 (λn:Nat=>(n:Int)) (AK (v:=v) h);simp only [TC,PO] at this;rw [R7 hx,R7 hv] at this;exact this
theorem J9 {nl nl' o nw P W bo ca low ca' bo' Z gy:Int} (hA:nl'+P*o=nl+P*nw) (hB:nw+W*bo'=bo+o-low) (hC:low+W*ca'=ca+gy) (hI:nl+P*(bo-ca)=Z):
  nl'+P*W*(bo'-ca')=Z-P*gy:=by
 have e:W*(bo'-ca')=bo+o-nw-ca-gy:=by rw [TB]; omega
 rw [TA,e,<- hI,TB,TB,TB,Tz,TB];omega
theorem FU {l l0:List bP}{m:Nat} (h:∀ p,m<=p->l[p]? = l0[p]?) (hm:m<=l.length):nv l=nv (l.take m)+WB ^ m*nv (l0.drop m):=by
 have e:l.drop m=l0.drop m:=by
  apply QD;intro i;rw [PG,PG];exact h _ (by omega)
 have:nv l=nv (l.take m++l.drop m):=by rw [Qm]
 rw [this,Ct,e,Pn,P2 hm]
theorem AL (l:List bP) {m:Nat} (hm:m<=l.length):nv l=nv (l.take m)+WB ^ m*nv (l.drop m):=FU (λ_ _=>rfl) hm
theorem MS {b r134 vs:List bP}{j g:Nat}{l0:List bP}{fin:List bP×Int×Int->Option (List bP×List bP)}{Q:List bP×List bP->Prop}
  (hvs:rV r134 0 (((b.length:Int):Int).toNat)=vs) (hvl:vs.length=b.length) (hvw:Wf vs) (hl:Wf l0) (hjn:j+b.length<l0.length) (hN:l0.length<=1000001) (hg:g<=WB)
  (hk:∀ l bo ca,l.length=l0.length->Wf l->-1<=bo->bo<=0->0<=ca->ca<4294967296->(nv l:Int)+((WB ^ (j+b.length):Nat):Int)*(bo-ca)=nv l0-((WB ^ j:Nat):Int)*((g:Int)*(nv vs:Int)) ->
   (∀ p,j+b.length<=p->l[p]? = l0[p]?)->(∀ p,p<j->l[p]? = l0[p]?)->Gd (fin (l,bo,ca)) Q):
  Gd (jN (λk s1409 n=>nV b r134 (j:Int) (g:Int) k s1409.1 s1409.2.1 s1409.2.2 n) fin b.length 0 (l0,0,0)) Q:=by
 have hg:g<=4294967296:=hg;refine Gd.jN (λm k (z:List bP×Int×Int)=>k+m=b.length/\z.1.length=l0.length/\Wf z.1/\-1<=z.2.1/\z.2.1<=0/\0<=z.2.2/\z.2.2<4294967296/\(nv z.1:Int)+((WB ^ (j+k):Nat):Int)*(z.2.1-z.2.2)=nv l0-((WB ^ j:Nat):Int)*((g:Int)*(nv (vs.take k):Int))/\(∀ p,j+k<=p->z.1[p]? = l0[p]?)/\(∀ p,p<j->z.1[p]? = l0[p]?)) ?_ ?_ _ 0 _ ⟨by omega,rfl,hl,by show (-1:Int)<=0; omega,Rk _,Rk _,by show (0:Int)<4294967296; omega,by simp [nv],λp _=>rfl,λp _=>rfl⟩
 ·rintro m k ⟨l,bo,ca⟩ nx ⟨h0,h1,h2,h3,h4,h5,h6,h7,h8,h9⟩ hnx
  simp only at h1 h2 h3 h4 h5 h6 h7 h8 h9 hnx ⊢;have hkb:k<b.length:=by omega
  obtain ⟨y,hy⟩:∃ y,vs[k]? = some y:=⟨_,OU (by omega)⟩
  have hyw:=hvw y (O7 hy);obtain ⟨o,ho⟩:∃ o,l[j+k]? = some o:=⟨_,OU (by omega)⟩
  have how:=h2 o (O7 ho);have wj:i64.wrap ((k:Int)+(j:Int))=((j+k:Nat):Int):=by rw [bJ ⟨by omega,by omega⟩]; omega
  have hjk:(((j+k:Nat):Int)).toNat=j+k:=by omega
  unfold nV;rw [hvs,wj];refine Gd.ix (by omega) (by rw [OX]; exact hy) (Gd.ix (by omega) (by rw [hjk]; exact ho) (Gd.ix (by omega) (by rw [hjk]; exact ho) ?_))
  obtain ⟨Y,hY⟩:∃ Y:Nat,y.n=Y:=⟨y.n.toNat,by omega⟩
  obtain ⟨cn,rfl⟩:∃ cn:Nat,ca=cn:=⟨ca.toNat,by omega⟩
  have hgy:g*Y<=4294967296*4294967295:=Nat.mul_le_mul hg (by omega)
  have ht:u64.wrap ((cn:Int)+(u64.wrap ((g:Int)*(u64.wrap (y.n)))))=((cn+g*Y:Nat):Int):=by
   rw [hY,fT (n:=(Y:Int)) (by omega),show (g:Int)*(Y:Int)=((g*Y:Nat):Int) by rw [PO],fT (n:=((g*Y:Nat):Int)) (by omega),fT (by omega)]
   omega
  rw [ht,JH (by omega),BH]
  have hdm:=T3 (cn+g*Y) WB;have hlow:(cn+g*Y)%WB<WB:=RQ _ (by decide)
  have hcl:(cn+g*Y) / WB<4294967296:=by
   rw [TY (by decide)]
   show cn+g*Y<4294967296*4294967296;omega
  have e2:((cn+g*Y:Nat):Int) / 4294967296=(((cn+g*Y) / WB:Nat):Int):=rfl;rw [e2];have hC:(((cn+g*Y)%WB:Nat):Int)+4294967296*(((cn+g*Y) / WB:Nat):Int)=(cn:Int)+((g*Y:Nat):Int):=by
   have:(cn+g*Y)%WB+4294967296*((cn+g*Y) / WB)=cn+g*Y:=hdm;omega
  generalize (cn+g*Y)%WB=low at hlow hC;generalize (cn+g*Y) / WB=c2 at hcl hC;have hlow:low<4294967296:=hlow;have hnb:i64.wrap (bo+(i64.wrap ((i64.wrap (o.n))-(i64.wrap ((low:Nat):Int)))))=bo+o.n-low:=by
   rw [bJ (n:=o.n) (by omega),bJ (n:=(low:Int)) (by omega),bJ (n:=o.n-low) (by omega),bJ (by omega)]
   omega
  rw [hnb,hjk,wu,Ja];refine hnx _ ⟨by omega,by simp [h1],h2.set (by omega),by simp only; omega,by simp only; omega,by simp only; omega,by simp only; omega,?_,λp hp=>?_,λp hp=>?_⟩
  ·simp only
   have hA:=FR (l:=l) (k:=j+k) (x:=o) (v:=⟨(bo+o.n-low)%4294967296⟩) ho how.1 (by simp only; omega)
   simp only at hA;have hB:(bo+o.n-low)%4294967296+4294967296*((bo+o.n-low) / 4294967296)=bo+o.n-low:=by omega
   have:=J9 hA hB hC h7;rw [show j+(k+1)=(j+k)+1 by omega,Ue,PO,show ((WB:Nat):Int)=4294967296 from rfl,this,qz hy,hY,T9]
   simp only [OX,TC,PO];rw [Tz (g:Int),Tz ((WB ^ j:Nat):Int),TA ((WB ^ j:Nat):Int) ((WB ^ k:Nat):Int)];have e:(g:Int)*(((WB ^ k:Nat):Int)*(Y:Int))=((WB ^ k:Nat):Int)*((g:Int)*(Y:Int)):=by
    rw [<- TA,Int.mul_comm (g:Int),TA]
   rw [e];omega
  ·simp only
   rw [Pj (by omega)]
   exact h8 p (by omega)
  ·simp only
   rw [Pj (by omega)]
   exact h9 p hp
 ·rintro k ⟨l,bo,ca⟩ ⟨h0,h1,h2,h3,h4,h5,h6,h7,h8,h9⟩
  simp only at h1 h2 h3 h4 h5 h6 h7 h8 h9;have hk':k=b.length:=by omega
  subst hk';rw [<- hvl,QH] at h7;rw [hvl] at h7;exact hk l bo ca h1 h2 h3 h4 h5 h6 h7 h8 h9
theorem JG {nl nl' o s P W c Y T T' B X:Nat} (h1:nl'+P*o=nl+P*(s%W)) (hs:s=c+o+Y) (h2:nl+P*c=X+B*T) (hP:P*Y=B*(T'-T)) (hT:T<=T'):nl'+P*W*(s / W)=X+B*T':=by
 have hd:s%W+W*(s / W)=s:=T3 s W;have e:P*(s%W)+P*(W*(s / W))=P*s:=by rw [<- T4,hd]
 have e2:P*s=P*c+P*o+P*Y:=by rw [hs,T4,T4]
 have e3:B*T'=B*T+B*(T'-T):=by rw [<- T4]; congr 1; omega
 rw [T5 P W];omega
theorem MF {b r134 vs:List bP}{j:Nat}{l1:List bP}{fin:List bP×Int->Option (List bP×List bP)}{Q:List bP×List bP->Prop}
  (hvs:rV r134 0 (((b.length:Int):Int).toNat)=vs) (hvl:vs.length=b.length) (hvw:Wf vs) (hl:Wf l1) (hjn:j+b.length<l1.length) (hN:l1.length<=1000001)
  (hk:∀ l c,l.length=l1.length->Wf l->0<=c->c<=1->nv l+WB ^ (j+b.length)*c.toNat=nv l1+WB ^ j*nv vs->(∀ p,j+b.length<=p->l[p]? = l1[p]?)->(∀ p,p<j->l[p]? = l1[p]?)->Gd (fin (l,c)) Q):
  Gd (jN (λk s1621 n=>nW b r134 (j:Int) k s1621.1 s1621.2 n) fin b.length 0 (l1,0)) Q:=by
 refine Gd.jN (λm k (z:List bP×Int)=>k+m=b.length/\z.1.length=l1.length/\Wf z.1/\0<=z.2/\z.2<=1/\nv z.1+WB ^ (j+k)*z.2.toNat=nv l1+WB ^ j*nv (vs.take k)/\(∀ p,j+k<=p->z.1[p]? = l1[p]?)/\(∀ p,p<j->z.1[p]? = l1[p]?)) ?_ ?_ _ 0 _ ⟨by omega,rfl,hl,Rk _,by show (0:Int)<=1; omega,by simp [nv],λp _=>rfl,λp _=>rfl⟩
 ·rintro m k ⟨l,c⟩ nx ⟨h0,h1,h2,h3,h4,h7,h8,h9⟩ hnx
  simp only at h1 h2 h3 h4 h7 h8 h9 hnx ⊢;obtain ⟨y,hy⟩:∃ y,vs[k]? = some y:=⟨_,OU (by omega)⟩
  have hyw:=hvw y (O7 hy);obtain ⟨o,ho⟩:∃ o,l[j+k]? = some o:=⟨_,OU (by omega)⟩
  have how:=h2 o (O7 ho);have wj:i64.wrap ((k:Int)+(j:Int))=((j+k:Nat):Int):=by rw [bJ ⟨by omega,by omega⟩]; omega
  have hjk:(((j+k:Nat):Int)).toNat=j+k:=by omega
  unfold nW;rw [hvs,wj];refine Gd.ix (by omega) (by rw [hjk]; exact ho) (Gd.ix (by omega) (by rw [OX]; exact hy) (Gd.ix (by omega) (by rw [hjk]; exact ho) ?_))
  have hs:u64.wrap (c+(u64.wrap ((u64.wrap (o.n))+(u64.wrap (y.n)))))=c+o.n+y.n:=by
   rw [fT (n:=o.n) (by omega),fT (n:=y.n) (by omega),fT (n:=o.n+y.n) (by omega),fT (by omega)]
   omega
  rw [hs,hjk,BH,wu];have hsn:c+o.n+y.n=((c.toNat+o.n.toNat+y.n.toNat:Nat):Int):=by omega
  refine hnx _ ⟨by omega,by simp [h1],h2.set (by omega),by simp only; omega,by simp only; omega,?_,λp hp=>?_,λp hp=>?_⟩
  ·simp only
   have g:=AK (l:=l) (k:=j+k) (x:=o) (v:=⟨(c+o.n+y.n)%4294967296⟩) ho;simp only at g;have g1:((c+o.n+y.n)%4294967296).toNat=(c.toNat+o.n.toNat+y.n.toNat)%WB:=by rw [hsn]; show _=_%4294967296; omega
   have g2:((c+o.n+y.n) / 4294967296).toNat=(c.toNat+o.n.toNat+y.n.toNat) / WB:=by rw [hsn]; show _=_ / 4294967296; omega
   rw [g1] at g;rw [g2,show j+(k+1)=(j+k)+1 by omega,Ue]
   refine JG g rfl h7 (T':=nv (vs.take (k+1))) ?_ ?_
   ·rw [qz hy,Q0,T9,T5]
   ·rw [qz hy]; omega
  ·simp only
   rw [Pj (by omega)]
   exact h8 p (by omega)
  ·simp only
   rw [Pj (by omega)]
   exact h9 p hp
 ·rintro k ⟨l,c⟩ ⟨h0,h1,h2,h3,h4,h7,h8,h9⟩
  simp only at h1 h2 h3 h4 h7 h8 h9;have hk':k=b.length:=by omega
  subst hk';rw [<- hvl,QH] at h7;rw [hvl] at h7;exact hk l c h1 h2 h3 h4 h7 h8 h9
theorem HM {qs l':List bP}{j:Nat}{g:Int}{nx:List bP×List bP×Int->Option (List bP×List bP)}{Q:List bP×List bP->Prop} (hj:j<qs.length) (hN:qs.length<=1000001) (hg:0<=g/\g<4294967296)
  (hn:Gd (nx (qs.set j ⟨g⟩,l',(j:Int)-1)) Q):Gd (kv qs (j:Int) nx l' g) Q:=by
 unfold kv;refine Gd.gA hj ?_;rw [OX,wu,bJ (by omega),show g%4294967296=g by omega]
 exact hn
theorem LA {W P B low U V n0:Nat} (h0:n0=low+P*U) (hlow:low<P) (hV:V<=B) (hU:U<W*V):n0<P*(W*B):=by
 have h1:U+1<=W*B:=P0 hU (T7 _ hV);have h2:P*(U+1)<=P*(W*B):=T7 _ h1;rw [T4] at h2;omega
theorem zB {n0 X M T:Nat} (h:n0=X+M*T) (hb:n0<M):T=0:=by
 rcases Nat.eq_zero_or_pos T with h' | h'
 ·exact h'
 ·have:M*1<=M*T:=T7 _ h'
  omega
theorem Ic {b r134 vs:List bP}{j g q U:Nat}{l0 qs:List bP}{nx:List bP×List bP×Int->Option (List bP×List bP)}{Q:List bP×List bP->Prop}
  (hvs:rV r134 0 (((b.length:Int):Int).toNat)=vs) (hvl:vs.length=b.length) (hvw:Wf vs) (hl:Wf l0) (hjn:j+b.length<l0.length) (hN:l0.length<=1000001) (hj:j<qs.length) (hqN:qs.length<=1000001)
  (hU:nv (l0.drop j)=U) (hV:nv vs<=WB ^ b.length) (hUW:U<WB*nv vs) (hq1:q*nv vs<=U) (hq2:U<(q+1)*nv vs) (hqW:q<WB) (hg:My WB (nv vs) U q g)
  (hn:∀ l',l'.length=l0.length->Wf l'->nv l'+WB ^ j*(q*nv vs)=nv l0->(∀ p,p<j->l'[p]? = l0[p]?)->Gd (nx (qs.set j ⟨(q:Int)⟩,l',(j:Int)-1)) Q):
  Gd (fA b r134 qs l0 (j:Int) nx (g:Int)) Q:=by
 have hqW':q<4294967296:=hqW;have wjn:i64.wrap ((j:Int)+(b.length:Int))=((j+b.length:Nat):Int):=by rw [bJ ⟨by omega,by omega⟩]; omega
 have hjk:(((j+b.length:Nat):Int)).toNat=j+b.length:=by omega
 have h0:=AL l0 (m:=j) (by omega)
 rw [hU] at h0;have hlow:=rS (hl.take j);rw [Pn,P2 (by omega)] at hlow
 have hpow:WB ^ (j+b.length+1)=WB ^ j*(WB*WB ^ b.length):=by rw [Ue,T9,T6 WB,T5]
 have hbig:nv l0<WB ^ (j+b.length+1):=by rw [hpow]; exact LA h0 hlow hV hUW
 have habove:nv (l0.drop (j+b.length+1))=0:=zB (AL l0 (m:=j+b.length+1) (by omega)) hbig
 have small:∀ l:List bP,l.length=l0.length->Wf l->(∀ p,j+b.length+1<=p->l[p]? = l0[p]?)->nv l<WB ^ (j+b.length+1):=λl h1 h2 h3=>by
  rw [FU h3 (by omega),habove,T8,Qs]
  have:=rS (h2.take (j+b.length+1));rw [Pn,P2 (by omega)] at this
  exact this
 unfold fA;rw [show ((b.length:Int):Int).toNat=b.length by omega] at hvs
 rw [show ((b.length:Int):Int).toNat=b.length by omega]
 refine MS (by rw [show ((b.length:Int):Int).toNat=b.length by omega]; exact hvs) hvl hvw hl hjn hN hg.w (λl bo ca e1 e2 e3 e4 e5 e6 e7 e8 e9=>?_)
 obtain ⟨o,ho⟩:∃ o,l[j+b.length]? = some o:=⟨_,OU (by omega)⟩
 have how:=e2 o (O7 ho);simp only;rw [wjn];refine Gd.ix (by omega) (by rw [hjk]; exact ho) (Gd.ix (by omega) (by rw [hjk]; exact ho) ?_)
 have hnb:i64.wrap (bo+(i64.wrap ((i64.wrap (o.n))-(i64.wrap ca))))=bo+o.n-ca:=by
  rw [bJ (n:=o.n) (by omega),bJ (n:=ca) (by omega),bJ (n:=o.n-ca) (by omega),bJ (by omega)]
  omega
 rw [hnb,hjk,wu];have hA:=FR (l:=l) (k:=j+b.length) (x:=o) (v:=⟨(bo+o.n-ca)%4294967296⟩) ho how.1 (by simp only; omega)
 simp only at hA;have hW1:Wf (l.set (j+b.length) ⟨(bo+o.n-ca)%4294967296⟩):=e2.set (by omega)
 have hlen1:(l.set (j+b.length) (⟨(bo+o.n-ca)%4294967296⟩:bP)).length=l0.length:=by simp [e1]
 have hab1:∀ p,j+b.length+1<=p->(l.set (j+b.length) (⟨(bo+o.n-ca)%4294967296⟩:bP))[p]? = l0[p]? := λp hp=>by
  rw [Pj (by omega)]; exact e8 p (by omega)
 have hbe1:∀ p,p<j->(l.set (j+b.length) (⟨(bo+o.n-ca)%4294967296⟩:bP))[p]? = l0[p]? := λp hp=>by
  rw [Pj (by omega)]; exact e9 p hp
 have hsm1:=small _ hlen1 hW1 hab1;generalize l.set (j+b.length) (⟨(bo+o.n-ca)%4294967296⟩:bP)=l1 at hA hW1 hlen1 hab1 hbe1 hsm1;have hPW:((WB ^ (j+b.length+1):Nat):Int)=((WB ^ (j+b.length):Nat):Int)*4294967296:=by rw [Ue,PO,show ((WB:Nat):Int)=4294967296 from rfl]
 have hZ:(nv l1:Int)+((WB ^ (j+b.length):Nat):Int)*(bo+o.n-ca-(bo+o.n-ca)%4294967296)=nv l0-((WB ^ j:Nat):Int)*((g:Int)*(nv vs:Int)):=by
  rw [<- e7,TB,TB,Tz,TB];omega
 have hZU:(nv l0:Int)-((WB ^ j:Nat):Int)*((g:Int)*(nv vs:Int))=nv (l0.take j)+((WB ^ j:Nat):Int)*((U:Int)-(g:Int)*(nv vs:Int)):=by
  rw [h0,TC,PO,TB]; omega
 have hge:=hg.ge; have hle:=hg.le
 refine Gd.ite (λhneg=>?_) (λhpos=>?_)
 ·have hneg:bo+o.n-ca<0:=O1 hneg
  have hdiv:bo+o.n-ca-(bo+o.n-ca)%4294967296 = -4294967296:=by omega
  rw [hdiv] at hZ;have hZ1:(nv l1:Int)-((WB ^ (j+b.length+1):Nat):Int)=nv l0-((WB ^ j:Nat):Int)*((g:Int)*(nv vs:Int)):=by
   rw [hPW,<- hZ,Int.mul_neg]; omega
  have hgq:g=q+1:=by
   rcases (show g=q\/g=q+1 by omega) with h | h
   ·exfalso
    rw [h] at hZ1 hZU;have h0':(0:Int)<=(U:Int)-(q:Int)*(nv vs:Int):=by
     have h1':((q*nv vs:Nat):Int)<=U:=by omega
     rw [PO] at h1'; omega
    have:(0:Int)<=((WB ^ j:Nat):Int)*((U:Int)-(q:Int)*(nv vs:Int)):=Int.mul_nonneg (by omega) h0'
    omega
   ·exact h
  refine MF (j:=j) (l1:=l1) (by rw [show ((b.length:Int):Int).toNat=b.length by omega]; exact hvs) hvl hvw hW1 (by omega) (by omega) (λl2 c f1 f2 f3 f4 f5 f6 f7=>?_)
  obtain ⟨o2,ho2⟩:∃ o2,l2[j+b.length]? = some o2:=⟨_,OU (by omega)⟩
  have how2:=f2 o2 (O7 ho2);simp only;refine Gd.ix (by omega) (by rw [hjk]; exact ho2) (Gd.ix (by omega) (by rw [hjk]; exact ho2) ?_)
  rw [wu,wu,show c%4294967296=c by omega]
  have hg1:u64.wrap ((g:Int)-1)=(q:Int):=by rw [hgq,fT (by omega)]; omega
  rw [hg1];have hB:=AK (l:=l2) (k:=j+b.length) (x:=o2) (v:=⟨(o2.n+c)%4294967296⟩) ho2;simp only at hB;have hW2:Wf (l2.set (j+b.length) ⟨(o2.n+c)%4294967296⟩):=f2.set (by omega)
  have hlen2:(l2.set (j+b.length) (⟨(o2.n+c)%4294967296⟩:bP)).length=l0.length:=by simp [f1,hlen1]
  have hab2:∀ p,j+b.length+1<=p->(l2.set (j+b.length) (⟨(o2.n+c)%4294967296⟩:bP))[p]? = l0[p]? := λp hp=>by
   rw [Pj (by omega),f6 p (by omega)]; exact hab1 p hp
  have hbe2:∀ p,p<j->(l2.set (j+b.length) (⟨(o2.n+c)%4294967296⟩:bP))[p]? = l0[p]? := λp hp=>by
   rw [Pj (by omega),f7 p hp]; exact hbe1 p hp
  have hsm2:=small _ hlen2 hW2 hab2;generalize l2.set (j+b.length) (⟨(o2.n+c)%4294967296⟩:bP)=l3 at hB hW2 hlen2 hab2 hbe2 hsm2;refine HM hj hqN (by omega) (hn l3 hlen2 hW2 ?_ hbe2)
  obtain ⟨κ,hκ⟩:∃ κ:Nat,o2.n.toNat+c.toNat=((o2.n+c)%4294967296).toNat+WB*κ:=by
   refine ⟨((o2.n+c) / 4294967296).toNat,?_⟩;have eW:WB=4294967296:=rfl;rw [eW]; omega
  have hsum:nv l3+WB ^ (j+b.length+1)*κ=nv l1+WB ^ j*nv vs:=by
   have e:WB ^ (j+b.length)*o2.n.toNat+WB ^ (j+b.length)*c.toNat=WB ^ (j+b.length)*((o2.n+c)%4294967296).toNat+WB ^ (j+b.length)*(WB*κ):=by
    rw [<- T4,hκ,T4]
   rw [Ue,T5];omega
  have hVlt:WB ^ j*nv vs<WB ^ (j+b.length+1):=by
   have h1:WB ^ j*nv vs<=WB ^ j*WB ^ b.length:=T7 _ hV;have h2:WB ^ j*WB ^ b.length<WB ^ (j+b.length+1):=by
    rw [<- T9]; exact Nat.pow_lt_pow_right (by decide) (by omega)
   omega
  have hZq:(nv l1:Int)+((WB ^ j*nv vs:Nat):Int)=nv (l0.take j)+((WB ^ j:Nat):Int)*((U:Int)-(q:Int)*(nv vs:Int))+((WB ^ (j+b.length+1):Nat):Int):=by
   rw [hgq] at hZ1 hZU;have e:((WB ^ j:Nat):Int)*((U:Int)-((q+1:Nat):Int)*(nv vs:Int))=((WB ^ j:Nat):Int)*((U:Int)-(q:Int)*(nv vs:Int))-((WB ^ j*nv vs:Nat):Int):=by
    rw [PO,<- TB]
    congr 1
    rw [show ((q+1:Nat):Int)=(q:Int)+1 by omega,Int.add_mul]
    omega
   rw [e] at hZU;omega
  have hnn:(0:Int)<=((WB ^ j:Nat):Int)*((U:Int)-(q:Int)*(nv vs:Int)):=Int.mul_nonneg (by omega) (by
   have:((q*nv vs:Nat):Int)<=U:=by omega
   rw [PO] at this; omega)
  have hκ1:κ=1:=by
   rcases QP κ 1 with h | h
   ·exfalso
    have:κ=0:=by omega
    rw [this] at hsum; omega
   ·rcases QP 1 κ with h2 | h2
    ·exfalso
     have:WB ^ (j+b.length+1)*2<=WB ^ (j+b.length+1)*κ:=T7 _ h2;omega
    ·omega
  rw [hκ1,Ro] at hsum;have e:((WB ^ j:Nat):Int)*((U:Int)-(q:Int)*(nv vs:Int))=((WB ^ j*U:Nat):Int)-((WB ^ j*(q*nv vs):Nat):Int):=by
   rw [TB,PO,PO,PO]
  rw [e] at hZq;omega
 ·have hpos:¬ bo+o.n-ca<0:=O9 hpos
  have hdiv:bo+o.n-ca-(bo+o.n-ca)%4294967296=0:=by omega
  rw [hdiv,Int.mul_zero,Int.add_zero] at hZ;have hgq:g=q:=by
   rcases (show g=q\/g=q+1 by omega) with h | h
   ·exact h
   ·exfalso
    rw [h] at hZ hZU;have h1:(U:Int)-((q+1:Nat):Int)*(nv vs:Int)<=-1:=by
     have:(U:Int)<(((q+1)*nv vs:Nat):Int):=by omega
     rw [PO] at this; omega
    have h2:((WB ^ j:Nat):Int)*((U:Int)-((q+1:Nat):Int)*(nv vs:Int))<=((WB ^ j:Nat):Int)*(-1):=Int.mul_le_mul_of_nonneg_left h1 (by omega)
    omega
  rw [hgq] at hZ ⊢;refine HM hj hqN (by omega) (hn l1 hlen1 hW1 ?_ hbe1)
  have e:((WB ^ j:Nat):Int)*((q:Int)*(nv vs:Int))=((WB ^ j*(q*nv vs):Nat):Int):=by rw [PO,PO]
  rw [e] at hZ;omega
theorem FT {l:List bP}{m:Nat}{x y:bP} (h1:l[m+1]? = some x) (h2:l[m]? = some y) (h0:nv (l.drop (m+2))=0):nv l=(x.n.toNat*WB+y.n.toNat)*WB ^ m+nv (l.take m):=by
 have e:=ve h2;have e1:nv (l.drop (m+1))=x.n.toNat+WB*nv (l.drop (m+2)):=by rw [qk h1,nv]
 rw [e,e1,h0,T8,Qs,T6 (WB ^ m),Rn (nv (l.take m)),Rn y.n.toNat,T6 WB x.n.toNat]
theorem IV {l:List bP}{m:Nat}{x y z:bP} (h1:l[m+2]? = some x) (h2:l[m+1]? = some y) (h3:l[m]? = some z) (h0:nv (l.drop (m+3))=0):nv l=((x.n.toNat*WB+y.n.toNat)*WB+z.n.toNat)*WB ^ m+nv (l.take m):=by
 have e:=ve h3;have e1:nv (l.drop (m+1))=y.n.toNat+WB*nv (l.drop (m+2)):=by rw [qk h2,nv]
 have e2:nv (l.drop (m+2))=x.n.toNat+WB*nv (l.drop (m+3)):=by rw [qk h1,nv]
 rw [e,e1,e2,h0,T8,Qs,T6 (WB ^ m),Rn (nv (l.take m)),Rn z.n.toNat,T6 WB (y.n.toNat+_),Rn y.n.toNat,T6 WB x.n.toNat]
theorem Iu {b r134 vs:List bP}{j n2 q U R v1 v2 vl u2 ul top:Nat}{l0 qs:List bP}{nx:List bP×List bP×Int->Option (List bP×List bP)}{Q:List bP×List bP->Prop}
  (hb:b.length=n2+2) (hvs:rV r134 0 (((b.length:Int):Int).toNat)=vs) (hvl:vs.length=b.length) (hl0:j+b.length<l0.length) (hN:l0.length<=1000001)
  (y1 y2 z2:bP) (hy1:vs[n2+1]? = some y1) (hy2:vs[n2]? = some y2) (hz2:l0[j+n2]? = some z2) (e1:y1.n=v1) (e2:y2.n=v2) (e3:z2.n=u2) (w1:v1<4294967296) (hv1:1<=v1)
  (hS:Fj WB R v1 v2 vl u2 ul top (nv vs) U) (hq1:q*nv vs<=U) (hq2:U<(q+1)*nv vs) (hqW:q<WB)
  (hk:∀ g,My WB (nv vs) U q g->Gd (fA b r134 qs l0 (j:Int) nx (g:Int)) Q)
  {g0 rest0:Nat} (h0:Gs WB R v1 v2 vl u2 ul top (nv vs) U q g0 rest0):
  Gd (gH (λs1721 n=>nX b r134 qs l0 (j:Int) nx s1721.1 s1721.2 n) fC ((g0:Int),(rest0:Int))) Q:=by
 have hu2:u2<4294967296:=hS.u2;have hv2:v2<4294967296:=hS.v2;have eW:WB=4294967296:=rfl;refine Gd.gH (λ(z:Int×Int)=>∃ g rest:Nat,z=((g:Int),(rest:Int))/\Gs WB R v1 v2 vl u2 ul top (nv vs) U q g rest) (λz=>z.1.toNat) ?_ fC _ ⟨g0,rest0,rfl,h0⟩ ?_
 ·rintro z nx2 ⟨g,rest,rfl,hG⟩ hnx
  simp only at hnx ⊢;have hrest:rest<4294967296:=hG.rest;have hgW:g<=4294967297:=hG.le;have wn1:i64.wrap ((b.length:Int)-1)=((n2+1:Nat):Int):=by rw [hb,bJ (by omega)]; omega
  have wn2:i64.wrap ((b.length:Int)-2)=((n2:Nat):Int):=by rw [hb,bJ (by omega)]; omega
  have wjn:i64.wrap ((i64.wrap ((j:Int)+(b.length:Int)))-2)=((j+n2:Nat):Int):=by rw [hb,bJ (n:=(j:Int)+_) (by omega),bJ (by omega)]; omega
  have dec:q<g->Gd (if decide (4294967296<=(u64.wrap ((rest:Int)+(u64.wrap (y1.n))))) then (fA b r134 qs l0 (j:Int) nx (u64.wrap ((g:Int)-1))) else (nx2 (u64.wrap ((g:Int)-1),u64.wrap ((rest:Int)+(u64.wrap (y1.n)))))) Q:=λhlt=>by
   have er:u64.wrap ((rest:Int)+(u64.wrap (y1.n)))=((rest+v1:Nat):Int):=by
    rw [e1,fT (n:=(v1:Int)) (by omega),fT (by omega)]; omega
   have eg:u64.wrap ((g:Int)-1)=((g-1:Nat):Int):=by rw [fT (by omega)]; omega
   rw [er,eg];refine Gd.ite (λh=>hk _ (hG.over hS hq2 hv1 hlt (by rw [eW]; have:=O1 h; omega))) (λh=>hnx _ ⟨g-1,rest+v1,rfl,hG.next hlt (by rw [eW]; have:=O9 h; omega)⟩ ?_)
   simp only [OX];omega
  unfold nX;rw [hvs,wn1,wn2,wjn];refine Gd.ite (λh=>?_) (λh=>?_)
  ·have h:=O1 h
   refine Gd.ix (by omega) (by rw [OX]; exact hy1) (dec (hG.less hS hq1 hqW (.inl (by rw [eW]; omega))))
  ·have h:=O9 h
   refine Gd.ix (by omega) (by rw [OX]; exact hy2) (Gd.ix (by omega) (by rw [OX]; exact hz2) ?_)
   have eor:u64.wrap ((BitVec.ofInt (u64).bits (sU .u64 (rest:Int) 32) ||| BitVec.ofInt (u64).bits (u64.wrap (z2.n))).toNat)=((rest*WB+u2:Nat):Int):=by
    rw [yp ⟨by omega,by omega⟩ (by rw [e3]; omega),e3,eW]; omega
   have egv:u64.wrap ((g:Int)*(u64.wrap (y2.n)))=((g*v2:Nat):Int):=by
    have hb2:g*v2<=4294967296*4294967295:=Nat.mul_le_mul (by omega) (by omega)
    rw [e2,fT (n:=(v2:Int)) (by omega),show (g:Int)*(v2:Int)=((g*v2:Nat):Int) by rw [PO],fT (by omega)]
   rw [eor,egv];refine Gd.ite (λh2=>Gd.ix (by omega) (by rw [OX]; exact hy1) (dec (hG.less hS hq1 hqW (.inr ?_)))) (λh2=>hk g (hG.stop hS hq2 hv1 (by rw [eW]; omega) ?_))
   ·exact Int.ofNat_lt.1 (O1 h2)
   ·have:=O9 h2
    exact Int.ofNat_le.1 (Int.not_lt.1 this)
 ·simp only [fC,OX]
  have:g0<=4294967297:=h0.le;omega
theorem It {W R v1 v2 vl u2 ul u0 u1 V U q:Nat} (h:Fj W R v1 v2 vl u2 ul (u0*W+u1) V U) (hq:q*V<=U) (hv:1<=v1) (hv1:v1<W) (hW:W<=2*v1) (hu0:u0<=v1) (hu1:u1<W):
  Gs W R v1 v2 vl u2 ul (u0*W+u1) V U q ((u0*W+u1) / v1) ((u0*W+u1)%v1):=by
 have hm:(u0*W+u1)%v1<v1:=RQ _ hv;refine ⟨(TZ hv).2 (h.L9 hq),?_,by omega,?_⟩
 ·rw [T6,Rn,T3]
 ·have h1:u0*W<=v1*W:=Pe _ hu0
  have h2:u0*W+u1<(W+2)*v1:=by
   rw [Pk,T6 W v1]; omega
  have:=(TY hv).2 h2;omega
theorem Cl {W R u0 u1 v1 v2 vl ul V X:Nat} (hX:X=(u0*W+u1)*R+ul) (hV:V=(v1*W+v2)*R+vl) (hlt:X<V) (hvl:vl<R) (hv2:v2<W):u0<=v1:=by
 rcases QP v1 u0 with h | h
 ·exfalso
  have h1:(v1+1)*W*R<=u0*W*R:=Pe _ (Pe _ h);have h2:(v2+1)*R<=W*R:=Pe _ hv2;have e1:(v1+1)*W*R=v1*W*R+W*R:=by rw [Pk,Pk,SE]
  have e2:X=u0*W*R+u1*R+ul:=by rw [hX,Pk]
  have e3:V=v1*W*R+v2*R+vl:=by rw [hV,Pk]
  rw [Pk] at h2;omega
 ·exact h
theorem IA {q W D V P nl nu U0:Nat} (h1:nl+P*(q*V)=nu) (h2:D*V*(P*W)+nu=U0):(q+W*D)*V*P+nl=U0:=by
 have e1:(q+W*D)*V*P=P*(q*V)+D*V*(P*W):=by
  rw [Pk,Pk,T6 P (q*V)]
  congr 1
  rw [T6 W D,T5 D W V,T6 W V,<- T5 D V W,T5 (D*V) W P,T6 W P]
 omega
theorem J_ {W x y V:Nat} (hx:x<W) (hy:y<V):x+W*y<W*V:=by
 have:W*(y+1)<=W*V:=T7 _ hy;rw [T4] at this; omega
theorem I6 {P a x q V U:Nat} (hP:0<P) (h1:a+P*x+P*(q*V)=a+P*U) (h2:U<(q+1)*V):x<V:=by
 have e:P*(x+q*V)=P*U:=by rw [T4]; omega
 have:=Nat.eq_of_mul_eq_mul_left hP e;rw [Pk] at h2;omega
theorem GG {b r134 vs:List bP}{r127:Int}{n2 N U0:Nat}{Q:List bP×List bP->Prop}
  (hb:b.length=n2+2) (hvs:rV r134 0 (((b.length:Int):Int).toNat)=vs) (hvl:vs.length=b.length) (hvw:Wf vs) (hN:N<=1000001)
  (y1 y2:bP) (hy1:vs[n2+1]? = some y1) (hy2:vs[n2]? = some y2) (hnorm:2147483648<=y1.n)
  (qs0 u0:List bP) (hq0:qs0.length+b.length=N) (hqw:Wf qs0) (hu0:u0.length=N) (huw:Wf u0) (hstart:nv (u0.drop qs0.length)<nv vs) (hval:nv u0=U0)
  (hk:∀ qs u,qs.length=qs0.length->Wf qs->u.length=N->Wf u->nv qs*nv vs+nv u=U0->nv u<nv vs ->
   Gd (dG (0<=(b.length:Int)/\(b.length:Int)*4<=140737488355328) (jN (λk s1815 n=>lR r127 u k s1815 n) (λs1815=>some (qs,s1815)) ((b.length:Int):Int).toNat 0 (List.replicate ((b.length:Int):Int).toNat (⟨0⟩:bP)))) Q):
  Gd (gH (λs1227 n=>nU b r127 r134 s1227.1 s1227.2.1 s1227.2.2 n) fC (qs0,u0,(qs0.length:Int)-1)) Q:=by
 have hy1w:=hvw y1 (O7 hy1); have hy2w:=hvw y2 (O7 hy2)
 have hVB:nv vs<=WB ^ b.length:=by have:=rS hvw; rw [hvl] at this; omega
 refine Gd.gH (λ(z:List bP×List bP×Int)=>z.1.length=qs0.length/\Wf z.1/\z.2.1.length=N/\Wf z.2.1/\-1<=z.2.2/\z.2.2<qs0.length/\nv (z.1.drop (z.2.2+1).toNat)*nv vs*WB ^ (z.2.2+1).toNat+nv z.2.1=U0/\nv (z.2.1.drop (z.2.2+1).toNat)<nv vs) (λz=>(z.2.2+1).toNat) ?_ fC _ ⟨rfl,hqw,hu0,huw,by simp only; omega,by simp only; omega,?_,?_⟩ (by simp only [fC]; omega)
 ·rintro ⟨qs,u,j⟩ nx ⟨h1,h2,h3,h4,h5,h6,h7,h8⟩ hnx
  simp only at h1 h2 h3 h4 h5 h6 h7 h8 hnx ⊢;unfold nU;refine Gd.ite (λhj=>?_) (λhj=>?_)
  ·have hj:=O1 hj
   obtain ⟨k,rfl⟩:∃ k:Nat,j=k:=⟨j.toNat,by omega⟩
   rw [show ((k:Int)+1).toNat=k+1 by omega] at h7 h8
   obtain ⟨t0,ht0⟩:∃ t,u[k+n2+2]? = some t:=⟨_,OU (by omega)⟩
   obtain ⟨t1,ht1⟩:∃ t,u[k+n2+1]? = some t:=⟨_,OU (by omega)⟩
   obtain ⟨t2,ht2⟩:∃ t,u[k+n2]? = some t:=⟨_,OU (by omega)⟩
   have w0:=h4 t0 (O7 ht0); have w1:=h4 t1 (O7 ht1); have w2:=h4 t2 (O7 ht2)
   have wjn:i64.wrap ((k:Int)+(b.length:Int))=((k+n2+2:Nat):Int):=by rw [hb,bJ (by omega)]; omega
   have wjm:i64.wrap (((k+n2+2:Nat):Int)-1)=((k+n2+1:Nat):Int):=by rw [bJ (by omega)]; omega
   have wn1:i64.wrap ((b.length:Int)-1)=((n2+1:Nat):Int):=by rw [hb,bJ (by omega)]; omega
   rw [hvs,wjn,wjm,wn1];have ey1:u64.wrap y1.n=y1.n:=fT (by omega)
   refine Gd.ix (by omega) (by rw [OX]; exact ht0) (Gd.ix (by omega) (by rw [OX]; exact ht1) (Gd.ix (by omega) (by rw [OX]; exact hy1) (Gd.nd (by rw [ey1]; omega) (Gd.ix (by omega) (by rw [OX]; exact hy1) (Gd.nd (by rw [ey1]; omega) ?_)))))
   rw [fT (n:=t0.n) (by omega),yp w0 w1,ey1]
   obtain ⟨x,hx⟩:∃ x,u[k]? = some x:=⟨_,OU (by omega)⟩
   have hxw:=h4 x (O7 hx);have hU1:nv (u.drop k)=x.n.toNat+WB*nv (u.drop (k+1)):=by rw [qk hx,nv]
   have hUlt:nv (u.drop k)<WB*nv vs:=by rw [hU1]; exact J_ (by show x.n.toNat<4294967296; omega) h8
   have hVlt:nv vs<WB ^ (n2+2):=by have:=rS hvw; rw [hvl,hb] at this; exact this
   have hz:nv (u.drop (k+1+(n2+2)))=0:=by
    have e:=AL (u.drop (k+1)) (m:=n2+2) (by rw [Qv]; omega)
    rw [QF] at e;exact zB e (by omega)
   have hVe:=FT hy1 hy2 (by rw [TH (by omega)]; rfl)
   have hXe:=FT (l:=u.drop (k+1)) (m:=n2) (x:=t0) (y:=t1) (by rw [PG,show k+1+(n2+1)=k+n2+2 by omega]; exact ht0) (by rw [PG,show k+1+n2=k+n2+1 by omega]; exact ht1) (by rw [QF]; exact hz)
   have hUe:=IV (l:=u.drop k) (m:=n2) (x:=t0) (y:=t1) (z:=t2) (by rw [PG,show k+(n2+2)=k+n2+2 by omega]; exact ht0) (by rw [PG,show k+(n2+1)=k+n2+1 by omega]; exact ht1) (by rw [PG]; exact ht2) (by rw [QF,show k+(n2+3)=k+1+(n2+2) by omega]; exact hz)
   have hvl':nv (vs.take n2)<WB ^ n2:=by have:=rS (hvw.take n2); rw [Pn,P2 (by omega)] at this; exact this
   have hul':nv ((u.drop k).take n2)<WB ^ n2:=by
    have:=rS (l:=(u.drop k).take n2) (λz hz=>h4 z (List.mem_of_mem_drop (Rd hz)));rw [Pn,Qv,P2 (by omega)] at this; exact this
   have hS:Fj WB (WB ^ n2) y1.n.toNat y2.n.toNat (nv (vs.take n2)) t2.n.toNat (nv ((u.drop k).take n2)) (t0.n.toNat*WB+t1.n.toNat) (nv vs) (nv (u.drop k)):=
    ⟨hVe,hUe,hvl',hul',by show t2.n.toNat<4294967296; omega,by show y2.n.toNat<4294967296; omega⟩
   have hle:t0.n.toNat<=y1.n.toNat:=Cl hXe hVe h8 hvl' (by show y2.n.toNat<4294967296; omega)
   have hVpos:0<nv vs:=by omega
   obtain ⟨q,hq1,hq2,hqW⟩:∃ q,q*nv vs<=nv (u.drop k)/\nv (u.drop k)<(q+1)*nv vs/\q<WB:=by
    refine ⟨nv (u.drop k) / nv vs,Nat.div_mul_le_self _ _,?_,(TY hVpos).2 hUlt⟩;have:=Q3 (nv (u.drop k) / nv vs);exact (TY hVpos).1 this
   have hG:=It hS hq1 (show 1<=y1.n.toNat by omega) (show y1.n.toNat<WB by show y1.n.toNat<4294967296; omega) (show WB<=2*y1.n.toNat by show 4294967296<=2*y1.n.toNat; omega) hle (show t1.n.toNat<WB by show t1.n.toNat<4294967296; omega)
   have hg0:=hG.le;have etop:t0.n*4294967296+t1.n=((t0.n.toNat*WB+t1.n.toNat:Nat):Int):=by
    show _=((t0.n.toNat*4294967296+t1.n.toNat:Nat):Int); omega
   have ey:y1.n=((y1.n.toNat:Nat):Int):=by omega
   have ed:Int.tdiv (t0.n*4294967296+t1.n) y1.n=(((t0.n.toNat*WB+t1.n.toNat) / y1.n.toNat:Nat):Int):=by
    rw [etop,ey]; rfl
   have em:Int.tmod (t0.n*4294967296+t1.n) y1.n=(((t0.n.toNat*WB+t1.n.toNat)%y1.n.toNat:Nat):Int):=by
    rw [etop,ey]; rfl
   rw [ed,em];generalize (t0.n.toNat*WB+t1.n.toNat) / y1.n.toNat=g0 at hG hg0 ⊢;generalize (t0.n.toNat*WB+t1.n.toNat)%y1.n.toNat=rest0 at hG ⊢;have eW:(WB:Nat)=4294967296:=rfl;rw [eW] at hg0;rw [fT (n:=(g0:Int)) (by omega)]
   refine Iu hb hvs hvl (by omega) (by omega) y1 y2 t2 hy1 hy2 ht2 (by omega) (by omega) (by omega) (by omega) (by omega) hS hq1 hq2 hqW (λg hg=>?_) hG
   refine Ic hvs hvl hvw h4 (by omega) (by omega) (by omega) (by omega) rfl hVB hUlt hq1 hq2 hqW hg (λl' f1 f2 f3 f4=>?_)
   have ek:((k:Int)-1+1).toNat=k:=by omega
   refine hnx _ ⟨by rw [Qg]; exact h1,h2.set (by rw [eW] at hqW; omega),by simp only; omega,f2,by simp only; omega,by simp only; omega,?_,?_⟩ (by simp only; omega)
   ·simp only
    rw [ek,qk (Pq (by omega)),nv,Rh (by omega)]
    rw [OX];rw [Ue] at h7;exact IA f3 h7
   ·simp only
    rw [ek];have e1:=AL l' (m:=k) (by omega)
    have e2:=AL u (m:=k) (by omega)
    have e3:l'.take k=u.take k:=by
     apply QD;intro i;rw [PN,PN]
     by_cases hi:i<k
     ·rw [O3 hi,O3 hi]; exact f4 i hi
     ·rw [O2 hi,O2 hi]
    rw [e3] at e1;refine I6 (a:=nv (u.take k)) (P:=WB ^ k) (Ud (by decide)) ?_ hq2
    omega
  ·have hj:=O9 hj
   rw [show (j+1).toNat=0 by omega,Qh,Uf,Ro] at h7
   rw [show (j+1).toNat=0 by omega,Qh] at h8
   exact hk qs u h1 h2 h3 h4 h7 h8
 ·simp only
  rw [show ((qs0.length:Int)-1+1).toNat=qs0.length by omega,RN]
  simp [nv,hval]
 ·simp only
  rw [show ((qs0.length:Int)-1+1).toNat=qs0.length by omega]
  exact hstart
theorem Bi {W S M u0 u1 hi:Nat} (hW:W=S*M) (hS:0<S):
  (u0+W*(u1+W*hi)) / S%W=(u1*W+u0) / S%W:=by
 have e:u0+W*(u1+W*hi)=(u1*W+u0)+S*(M*(W*hi)):=by
  have e1:W*(W*hi)=S*(M*(W*hi)):=by rw [<- T5 S M,<- hW]
  rw [T4,e1,T6 W u1]; omega
 rw [e,Nat.add_mul_div_left _ _ hS];have e2:M*(W*hi)=W*(M*hi):=by rw [<- T5,T6 M W,T5]
 rw [e2,Nat.add_mul_mod_self_left]
theorem CN {W S u0 T:Nat} (hu:u0<W):(u0+W*T) / S / W=T / S:=by
 rw [Nat.div_div_eq_div_mul,T6 S W,<- Nat.div_div_eq_div_mul,Nat.add_mul_div_left _ _ (by omega),TX hu,Pm]
theorem L8 {n:Int}{k:Nat} (hk:k<=64):nJ .u64 n (k:Int)=n / (2 ^ k:Nat):=by
 unfold nJ;rw [show (min ((k:Int)).toNat u64.bits)=k by show min ((k:Int)).toNat 64=k; omega,Rs _ (Int.le_of_lt (Int.pow_pos (by decide)))]
 rw [Int.natCast_pow]; rfl
theorem DZ {A P d W D D' Z:Nat} (h:A+P*D=Z) (hd:D%W=d) (hD:D / W=D'):(A+P*d)+P*W*D'=Z:=by
 have e:d+W*D'=D:=by rw [<- hd,<- hD,T3]
 rw [T5 P W,Q_,<- T4,e,h]
theorem Fc {n s:Nat} (hs:s<=31) {u:List bP} (hu:Wf u) (hl:n<u.length) (hz:u.length<=1000001) {qs:List bP}{Q:List bP×List bP->Prop} (hlt:nv u / 2 ^ s<WB ^ n)
  (hk:∀ r,Wf r->r.length=n->nv r=nv u / 2 ^ s->Q (qs,r)):
  Gd (jN (λk s1815 n=>lR (s:Int) u k s1815 n) (λs1815=>some (qs,s1815)) n 0 (List.replicate n (⟨0⟩:bP))) Q:=by
 have hS:0<(2:Nat) ^ s:=Ud (by decide)
 have hWS:WB=2 ^ s*2 ^ (32-s):=by rw [<- T9,show s+(32-s)=32 by omega]
 refine Gd.jN (λm k (z:List bP)=>k+m=n/\z.length=n/\Wf z/\nv (z.take k)+WB ^ k*(nv (u.drop k) / 2 ^ s)=nv u / 2 ^ s) ?_ ?_ _ 0 _ ⟨by omega,by simp,λy hy=>?_,by simp [nv]⟩
 ·rintro m k l nx ⟨h0,h1,h2,h3⟩ hnx
  obtain ⟨x0,hx0⟩:∃ t,u[k]? = some t:=⟨_,OU (by omega)⟩
  obtain ⟨x1,hx1⟩:∃ t,u[k+1]? = some t:=⟨_,OU (by omega)⟩
  have w0:=hu x0 (O7 hx0); have w1:=hu x1 (O7 hx1)
  have wk:i64.wrap ((k:Int)+1)=((k+1:Nat):Int):=by rw [bJ (by omega)]; omega
  unfold lR;rw [wk];refine Gd.ix (by omega) (by rw [OX]; exact hx1) (Gd.ix (by omega) (by rw [OX]; exact hx0) (Gd.nd (by omega) (Gd.gA (by omega) ?_)))
  rw [fT (n:=x1.n) (by omega),yp w1 w0,L8 (by omega),wu,OX]
  have e1:x1.n*4294967296+x0.n=((x1.n.toNat*WB+x0.n.toNat:Nat):Int):=by
   show _=((x1.n.toNat*4294967296+x0.n.toNat:Nat):Int); omega
  have e2:(x1.n*4294967296+x0.n) / ((2 ^ s:Nat):Int)%4294967296=(((x1.n.toNat*WB+x0.n.toNat) / 2 ^ s%WB:Nat):Int):=by
   rw [e1]; rfl
  rw [e2];have hd:nv (u.drop k)=x0.n.toNat+WB*nv (u.drop (k+1)):=by rw [qk hx0,nv]
  have hd1:nv (u.drop (k+1))=x1.n.toNat+WB*nv (u.drop (k+2)):=by rw [qk hx1,nv]
  have hm:=Bi (u0:=x0.n.toNat) (u1:=x1.n.toNat) (hi:=nv (u.drop (k+2))) hWS hS;rw [<- hd1,<- hd] at hm;have hn:=CN (W:=WB) (S:=2 ^ s) (u0:=x0.n.toNat) (T:=nv (u.drop (k+1))) (by show x0.n.toNat<4294967296; omega)
  rw [<- hd] at hn;have hlt':(x1.n.toNat*WB+x0.n.toNat) / 2 ^ s%WB<WB:=RQ _ (by decide)
  refine hnx _ ⟨by omega,by rw [Qg]; exact h1,h2.set ⟨by omega,by have:(WB:Nat)=4294967296:=rfl; rw [this] at hlt'; omega⟩,?_⟩
  rw [vj (by omega),tB,Pn,P2 (by omega),Ue,OX]
  exact DZ h3 hm hn
 ·rintro k l ⟨h0,h1,h2,h3⟩
  have hk':k=n:=by omega
  subst hk';rw [Pb (by omega)] at h3
  have h0':=zB h3.symm hlt;rw [h0',T8,Qs] at h3;exact Gd.ret (hk l h2 h1 h3)
 ·rw [TT] at hy
  rw [hy.2]; simp
theorem LH {q V a b S u:Nat} (hS:0<S) (hV:V=b*S) (h:q*V+u=a*S) (hu:u<V):u / S=a-q*b/\a-q*b<b/\q*b<=a:=by
 have e:q*V=q*b*S:=by rw [hV,T5]
 have hle:q*b<=a:=by
  have h1:q*b*S<=a*S:=by omega
  exact Nat.le_of_mul_le_mul_right h1 hS
 have e2:u=(a-q*b)*S:=by rw [Nat.mul_sub_right_distrib]; omega
 refine ⟨by rw [e2,Nat.mul_div_cancel _ hS],?_,hle⟩
 rw [e2,hV] at hu;exact Nat.lt_of_mul_lt_mul_right hu
theorem MI {q a b:Nat} (h1:a-q*b<b) (h2:q*b<=a):q=a / b/\a-q*b=a%b:=by
 have:=(Nat.div_mod_unique (a:=a) (b:=b) (c:=a-q*b) (d:=q) (by omega)).2 ⟨by rw [T6 b q]; omega,h1⟩
 exact ⟨this.1.symm,this.2.symm⟩
theorem Jk {W S M x B P:Nat} (hWS:W=S*M) (hx:x*S<W) (hB:B<(x+1)*P):B*S<W*P:=by
 have h1:x<M:=by rw [hWS,T6] at hx; exact T0 hx
 have h2:(x+1)*S<=W:=by rw [hWS,T6 S M]; exact Pe _ h1
 have hS:0<S:=by
  rcases Nat.eq_zero_or_pos S with h | h
  ·rw [h] at hWS; simp at hWS; rw [hWS] at hx; omega
  ·exact h
 have h3:B*S<(x+1)*P*S:=(Nat.mul_lt_mul_right hS).2 hB;have h4:(x+1)*P*S=(x+1)*S*P:=by rw [T5,T6 P S,<- T5]
 have h5:(x+1)*S*P<=W*P:=Pe _ h2;omega
theorem Ie {a b:List bP} (ha:Wf a) (hb:Wf b) (hta:uF a) (htb:uF b) (hne:b≠[]) (hza:a.length<=900000) (hzb:b.length<=900000):
  Gd (mX a b) (λr=>Wf r.1/\Wf r.2/\r.1.length<=a.length/\r.2.length<=a.length/\nv r.1=nv a / nv b/\nv r.2=nv a%nv b):=by
 unfold mX;refine Gd.eC (HY ha hb hta htb (by omega) (by omega)) (λc hc=>Gd.ite (λh=>?_) (λh=>?_))
 ·have hlt:=hc.1.1 (O1 h)
  exact Gd.ret ⟨Wf.nil,ha,by simp,Pl _,by rw [TX hlt]; rfl,by rw [QI hlt]⟩
 ·have hge:nv b<=nv a:=by
   have h:=O9 h;have:=mt hc.1.2 h;omega
  have hbl:0<b.length:=TR.2 hne;have hle:b.length<=a.length:=by
   rcases QP a.length b.length with h | h
   ·have:=ug ha hb htb h; omega
   ·exact h
  refine Gd.ite (λh1=>?_) (λh1=>?_)
  ·have h1:=O1 h1
   have h1:b.length=1:=by omega
   obtain ⟨x,rfl⟩:=TO.1 h1;have hx:=hb x (by simp)
   have hx0:x.n≠0:=htb x (by simp)
   refine Gd.ix (y:=x) (by omega) (by simp) (Gd.eC (DU ha (by omega) (d:=x.n) (by omega)) (λr hr=>Gd.ret ?_))
   obtain ⟨r1,r2,r3,r4⟩:=hr;have hm:nv a%x.n.toNat<x.n.toNat:=RQ _ (by omega)
   refine ⟨r1,?_,by simp only; omega,by simp at hle ⊢; omega,by rw [r3,AJ],?_⟩
   ·refine Wf.one ?_
    rw [r4]; omega
   ·simp only
    rw [AJ,AJ,r4,OX]
  ·have h1:=O9 h1
   obtain ⟨n2,hn2⟩:∃ n2,b.length=n2+2:=⟨b.length-2,by omega⟩
   have wn1:i64.wrap ((b.length:Int)-1)=((n2+1:Nat):Int):=by rw [hn2,bJ (by omega)]; omega
   have wab:i64.wrap ((a.length:Int)-(b.length:Int))=((a.length-b.length:Nat):Int):=by rw [bJ (by omega)]; omega
   have wab1:i64.wrap (((a.length-b.length:Nat):Int)+1)=((a.length-b.length+1:Nat):Int):=by rw [bJ (by omega)]; omega
   rw [wn1,wab,wab1];obtain ⟨x,hx⟩:∃ t,b[n2+1]? = some t:=⟨_,OU (by omega)⟩
   have hxw:=hb x (O7 hx);have hx0:x.n≠0:=htb x (by rw [TM,hn2]; exact hx)
   refine Gd.ix (by omega) (by rw [OX]; exact hx) (Gd.eC (MR (x:=x.n) (by omega) hxw.2) ?_)
   rintro sv ⟨s,rfl,hs1,hs2,hs3⟩;refine Gd.eC (AY ha (by omega) hs1) (λu0 hu0=>Gd.eC (AY hb (by omega) hs1) (λv0 hv0=>?_))
   obtain ⟨p1,p2,p3,p4⟩:=hu0;obtain ⟨q1,q2,q3,t,q4,q5⟩:=hv0;refine Gd.nd (by omega) (Gd.nd (by omega) ?_)
   have hS:0<(2:Nat) ^ s:=Ud (by decide)
   have hWS:WB=2 ^ s*2 ^ (32-s):=by rw [<- T9,show s+(32-s)=32 by omega]
   have hbs:nv b=nv (b.take (n2+1))+WB ^ (n2+1)*x.n.toNat:=by
    have:=qz hx;rw [Pb (by omega)] at this; exact this
   have hbt:nv (b.take (n2+1))<WB ^ (n2+1):=by
    have:=rS (hb.take (n2+1)); rw [Pn,P2 (by omega)] at this; exact this
   have hb2:nv b<(x.n.toNat+1)*WB ^ (n2+1):=by rw [Pk,T6 x.n.toNat]; omega
   have hvlt:nv v0<WB ^ (n2+2):=by
    rw [q3,Ue,T6 _ WB];exact Jk hWS hs3 hb2
   have hvs:nv (v0.take b.length)=nv v0/\Wf (v0.take b.length)/\(v0.take b.length).length=b.length:=by
    refine ⟨?_,q1.take _,by rw [Pn]; omega⟩
    have e:=AL v0 (m:=b.length) (by omega)
    have hz:nv (v0.drop b.length)=0:=zB e (by rw [hn2]; exact hvlt)
    rw [hz,T8,Qs] at e;exact e.symm
   have hsl:rV v0 0 (((b.length:Int):Int).toNat)=v0.take b.length:=by
    rw [OX]; rfl
   generalize v0.take b.length=vs at hvs hsl;obtain ⟨v1,v2,v3⟩:=hvs;obtain ⟨y1,hy1⟩:∃ t,vs[n2+1]? = some t:=⟨_,OU (by omega)⟩
   obtain ⟨y2,hy2⟩:∃ t,vs[n2]? = some t:=⟨_,OU (by omega)⟩
   have hy1w:=v2 y1 (O7 hy1);have hVS:nv vs=nv b*2 ^ s:=by rw [v1,q3]
   have hnorm:2147483648<=y1.n:=by
    have e1:nv vs=nv (vs.take (n2+1))+WB ^ (n2+1)*y1.n.toNat:=by
     have:=qz hy1;rw [Pb (by omega)] at this; exact this
    have e2:nv (vs.take (n2+1))<WB ^ (n2+1):=by
     have:=rS (v2.take (n2+1)); rw [Pn,P2 (by omega)] at this; exact this
    have e3:WB ^ (n2+1)*x.n.toNat*2 ^ s<=nv b*2 ^ s:=Pe _ (by omega)
    rw [T5] at e3;have e4:WB ^ (n2+1)*(x.n.toNat*2 ^ s)<WB ^ (n2+1)*(y1.n.toNat+1):=by rw [T4 (WB ^ (n2+1)) y1.n.toNat 1]; omega
    have e5:=T0 e4;omega
   have hst:nv (u0.drop (a.length-b.length+1))<nv vs:=by
    have e:=AL u0 (m:=a.length-b.length+1) (by omega)
    have h1:WB ^ (n2+1)<=nv b:=by have:=DJ hb htb hne; rw [hn2] at this; exact this
    have h2:nv a<WB ^ a.length:=rS ha;have h3:nv u0<WB ^ a.length*2 ^ s:=by rw [p3]; exact (Nat.mul_lt_mul_right hS).2 h2
    have h4:WB ^ a.length*2 ^ s=WB ^ (a.length-b.length+1)*(WB ^ (n2+1)*2 ^ s):=by
     rw [<- T5,<- T9]; congr 2; omega
    have h5:nv (u0.drop (a.length-b.length+1))<WB ^ (n2+1)*2 ^ s:=by
     rw [h4] at h3;exact T0 (a:=WB ^ (a.length-b.length+1)) (by omega)
    have h6:WB ^ (n2+1)*2 ^ s<=nv b*2 ^ s:=Pe _ h1;omega
   have hstart:((a.length-b.length:Nat):Int)=((List.replicate (a.length-b.length+1) (⟨0⟩:bP)).length:Int)-1:=by
    rw [Qd]; omega
   rw [OX,hstart];refine GG (N:=a.length+1) (U0:=nv a*2 ^ s) hn2 hsl v3 v2 (by omega) y1 y2 hy1 hy2 hnorm _ u0 (by rw [Qd]; omega) (λy hy=>by rw [TT] at hy; rw [hy.2]; simp) p2 p1 (by rw [Qd]; exact hst) p3 ?_
   intro qs u f1 f2 f3 f4 f5 f6;obtain ⟨g1,g2,g3⟩:=LH hS hVS f5 f6;obtain ⟨g4,g5⟩:=MI g2 g3;refine Gd.nd (by omega) ?_
   rw [OX];refine Fc hs1 f4 (by omega) (by omega) ?_ (λr r1 r2 r3=>⟨f2,r1,?_,?_,g4,?_⟩)
   ·rw [g1]; have:=rS hb; omega
   ·simp only; rw [f1,Qd]; omega
   ·simp only; omega
   ·simp only; rw [r3,g1,g5]
theorem vF {w:List bP} (hw:Wf w) (ht:uF w):nv w=0↔w=[]:=by
 constructor
 ·intro h
  rcases TI w with h' | ⟨a,y,h'⟩
  ·exact h'
  ·have:=DJ hw ht (by rw [h']; simp)
   have hp:0<WB ^ (w.length-1):=Ud (by decide)
   omega
 ·intro h; rw [h]; rfl
theorem IU {a b:List bP} (ha:Wf a) (hb:Wf b) (hta:uF a) (htb:uF b) (h:nv a=nv b):a=b:=by
 rcases RX a.length b.length with h1 | h1 | h1
 ·have:=ug ha hb htb h1; omega
 ·exact IT ha hb h1 h
 ·have:=ug hb ha hta h1; omega
theorem rX.ext' {a b:LI} (ha:rX a) (hb:rX b) (h:fJ a=fJ b):a=b:=by
 obtain ⟨am,aw⟩:=a; obtain ⟨bm,bw⟩:=b
 have za:=vF ha.wf ha.tp; have zb:=vF hb.wf hb.tp
 have sa:=ha.sign; have sb:=hb.sign
 simp only [fJ] at h za zb sa sb;have key:am=bm->aw=bw->(aC.mk am aw)=aC.mk bm bw:=by rintro rfl rfl; rfl
 cases am <;> cases bm <;> simp at h sa sb
 ·exact key rfl (IU ha.wf hb.wf ha.tp hb.tp (by omega))
 ·have:nv bw=0:=by omega
  exact absurd (zb.1 this) sb
 ·have:nv aw=0:=by omega
  exact absurd (za.1 this) sa
 ·exact key rfl (IU ha.wf hb.wf ha.tp hb.tp (by omega))
def Ms (A B:Nat):Nat:=if B=0 then 0 else 2*Nat.log2 (A*B)+2+(if A<B then 1 else 0)
theorem LL {A B:Nat} (hB:B≠0):Ms B (A%B)<Ms A B:=by
 unfold Ms;rw [O2 hB]
 by_cases hR:A%B=0
 ·rw [O3 hR]; omega
 ·rw [O2 hR]
  have hlt:A%B<B:=RQ _ (by omega)
  rw [O2 (by omega:¬ B<A%B)]
  by_cases hAB:A<B
  ·rw [O3 hAB,QI hAB,T6 B A]; omega
  ·rw [O2 hAB]
   have hle:2*(B*(A%B))<=A*B:=by
    have h1:A%B+B*(A / B)=A:=T3 A B;have h2:1<=A / B:=(TZ (by omega)).2 (by omega)
    have h3:B*1<=B*(A / B):=T7 _ h2;have h4:B*(2*(A%B))<=B*A:=T7 _ (by omega)
    rw [T6 A B,<- T5,T6 2 B,T5]; exact h4
   have hpos:0<B*(A%B):=Nat.mul_pos (by omega) (by omega)
   have h5:Nat.log2 (B*(A%B))<Nat.log2 (A*B):=by
    have h6:2 ^ Nat.log2 (B*(A%B))<=B*(A%B):=Nat.log2_self_le (by omega)
    have h7:2 ^ (Nat.log2 (B*(A%B))+1)<=A*B:=by rw [Ue]; omega
    exact (Nat.le_log2 (by omega)).2 h7
   omega
theorem zK (n:Nat):WB ^ n=2 ^ (32*n):=by rw [Uc]
theorem LK {a b:List bP} (ha:Wf a) (hb:Wf b) (hza:a.length<=900000) (hzb:b.length<=900000):Ms (nv a) (nv b)<=200000000:=by
 unfold Ms
 split
 ·omega
 ·rename_i h
  have h1:Nat.log2 (nv a*nv b)<=64000000:=by
   by_cases h0:nv a*nv b=0
   ·rw [h0]; decide
   ·have h2:nv a*nv b<2 ^ (32*(a.length+b.length)):=by
     rw [<- zK,T9];exact Nat.mul_lt_mul_of_lt_of_le (rS ha) (Nat.le_of_lt (rS hb)) (Ud (by decide))
    have:=(Nat.log2_lt h0).2 h2;omega
  split <;> omega
theorem sign_zero {a:LI} (h:rX a):eP a=0↔nv a.words=0:=by
 unfold eP;rw [vF h.wf h.tp]
 by_cases h1:a.words=[]
 ·simp [h1]
 ·have:a.words.length≠0:=λh=>h1 (Pw h)
  rw [O2 (by simp; exact h1)]
  constructor
  ·intro h; split at h <;> omega
  ·intro h; exact absurd h h1
theorem rX.pos {w:List bP} (hw:Wf w) (ht:uF w):rX (aC.mk false w):=⟨hw,ht,λh=>by simp at h⟩
theorem Is {a b:LI} (ha:rX a) (hb:rX b) {L:Nat} (hL:L<=900000) (hza:a.words.length<=L) (hzb:b.words.length<=L):
  Gd (oO a b) (λr=>rX r/\r.minus=false/\r.words.length<=L/\nv r.words=Nat.gcd (nv a.words) (nv b.words)):=by
 unfold oO;refine Gd.gH (λ(z:Bool×List bP×Bool×List bP)=>z.1=false/\z.2.2.1=false/\Wf z.2.1/\uF z.2.1/\Wf z.2.2.2/\uF z.2.2.2/\z.2.1.length<=L/\z.2.2.2.length<=L/\Nat.gcd (nv z.2.2.2) (nv z.2.1)=Nat.gcd (nv a.words) (nv b.words)) (λz=>Ms (nv z.2.2.2) (nv z.2.1)) ?_ fC _ ⟨rfl,rfl,hb.wf,hb.tp,ha.wf,ha.tp,hzb,hza,rfl⟩ ?_
 ·rintro ⟨c1,l1,c2,l2⟩ nx ⟨h1,h2,h3,h4,h5,h6,h7,h8,h9⟩ hnx
  simp only at h1 h2 h3 h4 h5 h6 h7 h8 h9 hnx ⊢;subst h1 h2;unfold tU rI;have hs:=sign_zero (rX.pos h3 h4);simp only at hs;refine Gd.ite (λh=>?_) (λh=>?_)
  ·have hB:nv l1≠0:=by
    intro e;rw [hs.2 e] at h; simp at h
   refine Gd.eC (Ie h5 h3 h6 h4 (λe=>hB (by rw [e]; rfl)) (by omega) (by omega)) (λr hr=>?_)
   obtain ⟨r1,r2,r3,r4,r5,r6⟩:=hr;refine Gd.nd (by omega) (Gd.eC (sG false r.2 r2 (by omega)) (λs hs'=>?_))
   obtain ⟨s1,s2,s3,s4⟩:=hs';have hm:s.minus=false:=by
    rcases Tv s.minus with h | h
    ·have:=s4.1 h; simp at this
    ·exact h
   refine hnx _ ⟨hm,rfl,s1.wf,s1.tp,h3,h4,by simp only; omega,h7,?_⟩ ?_
   ·simp only
    rw [s3,r6,<- h9,<- Nat.gcd_comm (nv l1) (nv l2),Nat.gcd_rec (nv l1) (nv l2),Nat.gcd_comm]
   ·simp only
    rw [s3,r6];exact LL hB
  ·have hB:nv l1=0:=by
    apply hs.1;simpa using h
   rw [hB,Nat.gcd_zero_right] at h9;exact Gd.ret ⟨rX.pos h5 h6,rfl,h8,h9⟩
 ·simp only [fC]
  have:=LK ha.wf hb.wf (by omega) (by omega)
  omega
theorem Lf {a b:LI} (ha:rX a) (hb:rX b) (hm:a.minus=false) (h0:nv b.words≠0) (hza:a.words.length<=900000) (hzb:b.words.length<=900000):
  Gd (cK a b) (λr=>rX r.1/\r.1.minus=false/\r.1.words.length<=a.words.length/\nv r.1.words=nv a.words / nv b.words):=by
 unfold cK lA;refine Gd.eC (Ie ha.wf hb.wf ha.tp hb.tp (λe=>h0 (by rw [e]; rfl)) hza hzb) (λr hr=>?_)
 obtain ⟨r1,r2,r3,r4,r5,r6⟩:=hr;refine Gd.nd (by omega) (Gd.eC (sG _ _ r1 (by omega)) (λs hs=>Gd.nd (by omega) (Gd.eC (sG _ _ r2 (by omega)) (λt ht=>?_))))
 obtain ⟨s1,s2,s3,s4⟩:=hs;obtain ⟨t1,t2,t3,t4⟩:=ht;rw [hm] at s4 t4;have hsm:s.minus=false:=by
  rcases Tv s.minus with h | h
  ·have:=s4.1 h; simp at this
  ·exact h
 refine Gd.ite (λh=>?_) (λh=>Gd.ret ⟨s1,hsm,by simp only; omega,by simp only; rw [s3,r5]⟩)
 have:=t4.1 h; simp at this
abbrev LR:=aA
structure ou (r:LR):Prop where
 n:rX r.N
 d:rX r.D
 pos:r.D.minus=false
 nz:nv r.D.words≠0
 NJ:Nat.Coprime (nv r.N.words) (nv r.D.words)
def rv (r:LR):Rat:=Rat.divInt (fJ r.N) (fJ r.D)
theorem pA {a:LI} (h:a.minus=false):fJ a=(nv a.words:Nat):=by unfold fJ; rw [h]; rfl
theorem jW (a:LI):(fJ a).natAbs=nv a.words:=by
 unfold fJ
 split <;> omega
theorem ou.eq {r:LR} (h:ou r):rv r=Rat.mk' (fJ r.N) (nv r.D.words) h.nz (by rw [jW]; exact h.NJ):=by
 unfold rv;rw [pA h.pos];exact (Rat.num_divInt_den (Rat.mk' (fJ r.N) (nv r.D.words) h.nz (by rw [jW]; exact h.NJ)))
theorem ou.num {r:LR} (h:ou r):(rv r).num=fJ r.N:=by rw [h.eq]
theorem ou.den {r:LR} (h:ou r):(rv r).den=nv r.D.words:=by rw [h.eq]
theorem ou.ext' {r s:LR} (h:ou r) (k:ou s) (e:rv r=rv s):r=s:=by
 have e1:fJ r.N=fJ s.N:=by rw [<- h.num,<- k.num,e]
 have e2:nv r.D.words=nv s.D.words:=by rw [<- h.den,<- k.den,e]
 have e3:=h.n.ext' k.n e1;have e4:=h.d.ext' k.d (by rw [pA h.pos,pA k.pos,e2])
 obtain ⟨a,b⟩:=r; obtain ⟨c,d⟩:=s
 simp only at e3 e4; rw [e3,e4]
def RL (r:LR) (L:Nat):Prop:=r.N.words.length<=L/\r.D.words.length<=L
theorem RL.mono {r:LR}{L M:Nat} (h:RL r L) (hM:L<=M):RL r M:=⟨P0 h.1 hM,P0 h.2 hM⟩
theorem xr {g a b:Int} (hg:g≠0) (hb:b≠0):Rat.divInt (g*a) (g*b)=Rat.divInt a b:=by
 rw [Rat.divInt_eq_divInt_iff (Int.mul_ne_zero hg hb) hb];rw [Int.mul_comm g a,TA]
theorem MX {n d g:LI} (hn:rX n) (hd:rX d) (hg:rX g) (hdm:d.minus=false) (hd0:nv d.words≠0) (hgv:nv g.words=Nat.gcd (nv n.words) (nv d.words))
  (hzn:n.words.length<=900000) (hzd:d.words.length<=900000) (hzg:g.words.length<=900000):
  Gd ((cK (aC.mk false n.words) g).bind λr195=>(cK (aC.mk d.minus d.words) g).bind λr203=>if n.minus then (some (aA.mk (aC.mk (decide (0<(r195.1.words.length:Int))) r195.1.words) r203.1)) else (some (aA.mk (aC.mk false r195.1.words) r203.1)))
   (λr=>ou r/\r.N.words.length<=n.words.length/\r.D.words.length<=d.words.length/\rv r=Rat.divInt (fJ n) (fJ d)):=by
 have hg0:nv g.words≠0:=by
  rw [hgv];exact Nat.ne_of_gt (Nat.gcd_pos_of_pos_right _ (by omega))
 have gN:nv g.words ∣ nv n.words:=by rw [hgv]; exact Nat.gcd_dvd_left _ _
 have gD:nv g.words ∣ nv d.words:=by rw [hgv]; exact Nat.gcd_dvd_right _ _
 have hco:Nat.Coprime (nv n.words / nv g.words) (nv d.words / nv g.words):=by
  rw [hgv]; exact Nat.coprime_div_gcd_div_gcd (Nat.gcd_pos_of_pos_right _ (by omega))
 obtain ⟨n',hn'⟩:=gN;obtain ⟨d',hd'⟩:=gD;have en:nv n.words / nv g.words=n':=by rw [hn',Nat.mul_div_cancel_left _ (by omega)]
 have ed:nv d.words / nv g.words=d':=by rw [hd',Nat.mul_div_cancel_left _ (by omega)]
 have hd0':d'≠0:=by intro h; rw [h] at hd'; simp at hd'; exact hd0 hd'
 refine Gd.eC (Lf (a:=aC.mk false n.words) (rX.pos hn.wf hn.tp) hg rfl hg0 hzn hzg) (λr hr=>Gd.eC (Lf (a:=aC.mk d.minus d.words) hd hg hdm hg0 hzd hzg) (λt ht=>?_));obtain ⟨r1,r2,r3,r4⟩:=hr;obtain ⟨t1,t2,t3,t4⟩:=ht;simp only at r3 r4 t3 t4;rw [en] at r4 hco;rw [ed] at t4 hco;have hd2:fJ d=(nv g.words:Int)*(d':Int):=by rw [pA hdm,hd',PO]
 have ht2:fJ t.1=(d':Int):=by rw [pA t2,t4]
 refine Gd.ite (λh=>Gd.ret ?_) (λh=>Gd.ret ?_)
 ·have hN:rX (aC.mk (decide (0<(r.1.words.length:Int))) r.1.words):=⟨r1.wf,r1.tp,λh e=>by simp only at h e; rw [e] at h; simp at h⟩
  refine ⟨⟨hN,t1,t2,by simp only; omega,by simp only; rw [r4,t4]; exact hco⟩,r3,t3,?_⟩
  have hi:fJ (aC.mk (decide (0<(r.1.words.length:Int))) r.1.words) = -(n':Int):=by
   unfold fJ;simp only;rw [r4]
   by_cases hl:r.1.words=[]
   ·rw [hl] at r4 ⊢
    have:n'=0:=r4.symm;rw [this]; simp
   ·have:=TR.2 hl
    rw [O3 (by simp; omega)]
  have tG:fJ n=(nv g.words:Int)*(-(n':Int)):=by
   unfold fJ; rw [O3 h,hn',PO,Int.mul_neg]
  unfold rv;simp only;rw [hi,ht2,tG,hd2,xr (by omega) (by omega)]
 ·refine ⟨⟨rX.pos r1.wf r1.tp,t1,t2,by simp only; omega,by simp only; rw [r4,t4]; exact hco⟩,r3,t3,?_⟩
  have hi:fJ (aC.mk false r.1.words)=(n':Int):=by
   rw [pA rfl]; simp only; rw [r4]
  have tG:fJ n=(nv g.words:Int)*(n':Int):=by
   rw [pA h,hn',PO]
  unfold rv;simp only;rw [hi,ht2,tG,hd2,xr (by omega) (by omega)]
theorem DK {w:List bP} (h:decide ((w.length:Int)=1)=true):∃ x,w=[x]:=by
 have:=O1 h;exact TO.1 (by omega)
theorem FV {x:bP} (hx:0<=x.n):nv [x]=1↔x.n=1:=by rw [AJ]; omega
theorem I5 {n d:LI} (hn:rX n) (hd:rX d) (hdm:d.minus=false) (hd0:nv d.words≠0) (hzn:n.words.length<=900000) (hzd:d.words.length<=900000):
  Gd (mV d.minus d.words n.minus n.words) (λr=>ou r/\r.N.words.length<=n.words.length/\r.D.words.length<=d.words.length/\rv r=Rat.divInt (fJ n) (fJ d)):=by
 have self:Nat.gcd (nv n.words) (nv d.words)=1->Gd (some (aA.mk (aC.mk n.minus n.words) (aC.mk d.minus d.words))) (λr=>ou r/\r.N.words.length<=n.words.length/\r.D.words.length<=d.words.length/\rv r=Rat.divInt (fJ n) (fJ d)):=λhg=>
  Gd.ret ⟨⟨hn,hd,hdm,hd0,hg⟩,Pl _,Pl _,rfl⟩
 have part:Gd ((oO (aC.mk n.minus n.words) (aC.mk d.minus d.words)).bind λr135=>if decide ((r135.words.length:Int)=1) then (idx r135.words 0 λy160=>if decide (y160.n=1) then (some (aA.mk (aC.mk n.minus n.words) (aC.mk d.minus d.words))) else ((cK (aC.mk false n.words) r135).bind λr165=>(cK (aC.mk d.minus d.words) r135).bind λr173=>if n.minus then (some (aA.mk (aC.mk (decide (0<(r165.1.words.length:Int))) r165.1.words) r173.1)) else (some (aA.mk (aC.mk false r165.1.words) r173.1)))) else ((cK (aC.mk false n.words) r135).bind λr143=>(cK (aC.mk d.minus d.words) r135).bind λr151=>if n.minus then (some (aA.mk (aC.mk (decide (0<(r143.1.words.length:Int))) r143.1.words) r151.1)) else (some (aA.mk (aC.mk false r143.1.words) r151.1))))
   (λr=>ou r/\r.N.words.length<=n.words.length/\r.D.words.length<=d.words.length/\rv r=Rat.divInt (fJ n) (fJ d)):=by
  refine Gd.eC (Is (L:=900000) hn hd (by omega) hzn hzd) (λg hg=>?_)
  obtain ⟨g1,g2,g3,g4⟩:=hg;refine Gd.ite (λh=>?_) (λh=>MX hn hd g1 hdm hd0 g4 hzn hzd g3);obtain ⟨x,hx⟩:=DK h;have hxw:=g1.wf x (by rw [hx]; simp)
  refine Gd.ix (y:=x) (by omega) (by rw [hx]; rfl) (Gd.ite (λh2=>self ?_) (λh2=>MX hn hd g1 hdm hd0 g4 hzn hzd g3))
  rw [<- g4,hx,FV hxw.1]; exact O1 h2
 unfold mV;refine Gd.ite (λh=>?_) (λh=>part);obtain ⟨x,hx⟩:=DK h;have hxw:=hd.wf x (by rw [hx]; simp)
 refine Gd.ix (y:=x) (by omega) (by rw [hx]; rfl) (Gd.ite (λh2=>self ?_) (λh2=>part))
 have:=(FV hxw.1).2 (O1 h2);rw [hx,this,Nat.gcd_one_right]
theorem wV {n d:LI} (hn:rX n) (hd:rX d) (hd0:nv d.words≠0) (hzn:n.words.length<=900000) (hzd:d.words.length<=900000):
  Gd (mR n d) (λr=>ou r/\r.N.words.length<=n.words.length/\r.D.words.length<=d.words.length/\rv r=Rat.divInt (fJ n) (fJ d)):=by
 unfold mR;refine Gd.ite (λh=>?_) (λh=>I5 hn hd h hd0 hzn hzd);refine Gd.eC (Cr hn (by omega)) (λn' hn'=>Gd.eC (Cr hd (by omega)) (λd' hd'=>?_))
 have e:nv d'.words=nv d.words:=by rw [<- jW,hd'.2.2,Int.natAbs_neg,jW]
 have hm:d'.minus=false:=by
  have h1:=hd'.2.2;unfold fJ at h1;rw [O3 h] at h1;rcases Tv d'.minus with h2 | h2
  ·rw [O3 h2] at h1; omega
  ·exact h2
 refine (I5 hn'.1 hd'.1 hm (by rw [e]; exact hd0) (by omega) (by omega)).mono (λr hr=>⟨hr.1,by omega,by omega,?_⟩)
 rw [hr.2.2.2,hn'.2.2,hd'.2.2];rw [Rat.neg_divInt_neg]
theorem Lp {r:LR} (h:ou r):fJ r.D≠0:=by rw [pA h.pos]; have:=h.nz; omega
theorem ET {a b c:LI} (h:fJ c=fJ a*fJ b) (ha:nv a.words≠0) (hb:nv b.words≠0):nv c.words≠0:=by
 rw [<- jW,h,Int.natAbs_mul,jW,jW];exact Nat.mul_ne_zero ha hb
theorem vJ {a b:LR} (ha:ou a) (hb:ou b) {A B:Nat} (la:RL a A) (lb:RL b B) (hz:A+B<=800000):
  Gd (gJ a b) (λr=>ou r/\RL r (A+B+1)/\rv r=rv a+rv b):=by
 have:=la.1; have:=la.2; have:=lb.1; have:=lb.2
 unfold gJ;refine Gd.eC (uM ha.n hb.d (by omega)) (λx hx=>Gd.eC (uM hb.n ha.d (by omega)) (λy hy=>Gd.eC (Ch hx.1 hy.1 (by omega) (by omega)) (λs hs=>Gd.eC (uM ha.d hb.d (by omega)) (λz hz'=>?_))))
 refine Gd.eC (wV hs.1 hz'.1 (ET hz'.2.2 ha.nz hb.nz) (by omega) (by omega)) (λr hr=>Gd.ret ⟨hr.1,⟨by omega,by omega⟩,?_⟩)
 rw [hr.2.2.2,hs.2.2,hx.2.2,hy.2.2,hz'.2.2];unfold rv;rw [Rat.divInt_add_divInt _ _ (Lp ha) (Lp hb)]
theorem F3 {a:LR} (ha:ou a) {A:Nat} (la:RL a A) (hz:A<=800000):
  Gd (nM a) (λr=>ou r/\RL r A/\rv r = -rv a):=by
 have:=la.1; have:=la.2
 unfold nM;refine Gd.eC (Cr ha.n (by omega)) (λx hx=>Gd.ret ⟨⟨hx.1,ha.d,ha.pos,ha.nz,?_⟩,⟨by simp only; omega,la.2⟩,?_⟩)
 ·have e:nv x.words=nv a.N.words:=by rw [<- jW,hx.2.2,Int.natAbs_neg,jW]
  simp only; rw [e]; exact ha.NJ
 ·unfold rv
  simp only;rw [hx.2.2,Rat.neg_divInt]
theorem xb {a b:LR} (ha:ou a) (hb:ou b) {A B:Nat} (la:RL a A) (lb:RL b B) (hz:A+B<=800000):
  Gd (iU a b) (λr=>ou r/\RL r (A+B+1)/\rv r=rv a-rv b):=by
 unfold iU;refine Gd.eC (F3 hb lb (by omega)) (λc hc=>Gd.eC (vJ ha hc.1 la hc.2.1 hz) (λr hr=>Gd.ret ⟨hr.1,hr.2.1,?_⟩))
 rw [hr.2.2,hc.2.2,Rat.sub_eq_add_neg]
theorem yx {a b:LR} (ha:ou a) (hb:ou b) {A B:Nat} (la:RL a A) (lb:RL b B) (hz:A+B<=800000):
  Gd (lf a b) (λr=>ou r/\RL r (A+B)/\rv r=rv a*rv b):=by
 have:=la.1; have:=la.2; have:=lb.1; have:=lb.2
 unfold lf;refine Gd.eC (uM ha.n hb.n (by omega)) (λx hx=>Gd.eC (uM ha.d hb.d (by omega)) (λz hz'=>?_))
 refine Gd.eC (wV hx.1 hz'.1 (ET hz'.2.2 ha.nz hb.nz) (by omega) (by omega)) (λr hr=>Gd.ret ⟨hr.1,⟨by omega,by omega⟩,?_⟩)
 rw [hr.2.2.2,hx.2.2,hz'.2.2];unfold rv;rw [Rat.divInt_mul_divInt]
theorem F5 {r:LR} (h:ou r):rv r=0↔nv r.N.words=0:=by
 have hn:=h.num;rw [<- jW,Int.natAbs_eq_zero,<- hn,Rat.num_eq_zero]
theorem uj {n:Int} (h:-9223372036854775808<=n/\n<=9223372036854775807):Gd (jP n) (λr=>ou r/\RL r 2/\rv r=(n:Rat)):=by
 unfold jP;refine Gd.eC (AM h) (λx hx=>Gd.eC (AM (n:=1) (by omega)) (λy hy=>Gd.ret ?_))
 have hm:y.minus=false:=by
  have h1:=hy.2.2;unfold fJ at h1;rcases Tv y.minus with h2 | h2
  ·rw [O3 h2] at h1; omega
  ·exact h2
 have hv:nv y.words=1:=by rw [<- jW,hy.2.2]; rfl
 refine ⟨⟨hx.1,hy.1,hm,by simp only; omega,by simp only; rw [hv]; exact Nat.coprime_one_right _⟩,⟨hx.2.1,hy.2.1⟩,?_⟩
 unfold rv;simp only;rw [hx.2.2,hy.2.2,Rat.divInt_eq_div,Rat.intCast_one]; grind
theorem FE {n d:Int} (h:-9223372036854775808<=n/\n<=9223372036854775807) (k:-9223372036854775808<=d/\d<=9223372036854775807) (h0:d≠0):
  Gd (qq n d) (λr=>ou r/\RL r 2/\rv r=(n:Rat) / (d:Rat)):=by
 unfold qq;refine Gd.eC (AM h) (λx hx=>Gd.eC (AM k) (λy hy=>?_));have hv:nv y.words≠0:=by rw [<- jW,hy.2.2]; omega
 refine Gd.eC (wV hx.1 hy.1 hv (by omega) (by omega)) (λr hr=>Gd.ret ⟨hr.1,⟨by omega,by omega⟩,?_⟩)
 rw [hr.2.2.2,hx.2.2,hy.2.2,Rat.divInt_eq_div]
abbrev bl (s:ByteArray):List UInt8:=s.data.toList
def ba (l:List UInt8):ByteArray:=⟨l.toArray⟩
@[simp] theorem Fy (l:List UInt8):bl (ba l)=l:=rfl
@[simp] theorem HP (s:ByteArray):ba (bl s)=s:=by
 show (⟨s.data.toList.toArray⟩:ByteArray)=s;rw [Array.toArray_toList]
theorem Ei {a b:ByteArray} (h:bl a=bl b):a=b:=by rw [<- HP a,h,HP]
theorem B2 (s:ByteArray):(bl s).length=s.size:=by show s.data.toList.length=s.data.size; exact Array.length_toList
theorem gM (l:List UInt8):(ba l).size=l.length:=(B2 (ba l)).symm
theorem HS (a b:ByteArray):bl (a++b)=bl a++bl b:=by show (a++b).data.toList=_; simp
theorem Eg (a b:List UInt8):ba a++ba b=ba (a++b):=Ei (HS _ _)
theorem wK {a b:List UInt8} (h:ba a=ba b):a=b:=by have:=P3 bl h; simpa using this
theorem Eh (s:ByteArray) (i j:Nat):bl (s.extract i j)=((bl s).take j).drop i:=by
 show (s.extract i j).data.toList=(s.data.toList.take j).drop i;simp [ByteArray.data_extract,Array.toList_extract,Rc]
theorem q7 (l:List UInt8) (i j:Nat):(ba l).extract i j=ba ((l.take j).drop i):=Ei (by rw [Eh,Fy,Fy])
theorem Jb (a b:ByteArray):(a++b).size=a.size+b.size:=by rw [<- B2,HS,Pg,B2,B2]
theorem sZ (c:UInt8):∀ (l:List UInt8),(c ∉ l/\Lib.indexByte l c = -1)\/∃ a b,l=a++c::b/\c ∉ a/\Lib.indexByte l c=a.length
 | []=>.inl ⟨by simp,rfl⟩
 | x::l=>by
  by_cases e:x=c
  ·subst e
   exact .inr ⟨[],l,rfl,by simp,by simp [Lib.indexByte]⟩
  ·have hb:(x == c)=false:=by simpa using e
   rcases sZ c l with ⟨h1,h2⟩ | ⟨a,b,rfl,h2,h3⟩
   ·refine .inl ⟨by simp [h1]; exact λh=>e h.symm,?_⟩
    simp [Lib.indexByte,hb,h2]
   ·refine .inr ⟨x::a,b,rfl,by simp [h2]; exact λh=>e h.symm,?_⟩
    simp only [Lib.indexByte,hb,h3];rw [O2 (by simp),O2 (by simp)]
    simp only [O6]; omega
theorem En (c:UInt8):jM (ba [c])=[⟨c.toNat⟩]:=by simp [jM,ba]
theorem Dr (s:ByteArray) (c:UInt8):gI s (ba [c])=some (Lib.indexByte (bl s) c):=by
 unfold gI e_
 by_cases e:ba [c]=s
 ·subst e
  rw [O3 (by simp)]
  simp [Lib.indexByte]
 ·rw [O2 (by simp [gM,e]),O3 (by simp [gM]),En]
  simp [idx,LN]
theorem Gt (l:List UInt8):jM (ba l)=l.map λb=>(⟨b.toNat⟩:U8):=rfl
theorem C9 (l:List UInt8):x_ (l.map λb=>(⟨b.toNat⟩:U8))=ba l:=by
 refine Ei ?_;show (List.map _ (List.map _ l)).toArray.toList=l;rw [List.map_map,Rj]
 conv=>rhs; rw [<- List.map_id l]
 refine List.map_congr_left λb _=>?_;simp
def Bl (c:UInt8):Prop:=48<=c.toNat/\c.toNat<=57
instance (c:UInt8):Decidable (Bl c):=by unfold Bl; infer_instance
def Ii (acc:Nat):List UInt8->Nat
 | []=>acc
 | c::r=>Ii (acc*10+(c.toNat-48)) r
def dv (l:List UInt8):Nat:=Ii 0 l
theorem B9:∀ (l:List UInt8) (acc:Nat),Ii acc l=acc*10 ^ l.length+dv l
 | [],acc=>by
  rw [TQ,Uf,Ro]; rfl
 | c::r,acc=>by
  have h2:=B9 r (0*10+(c.toNat-48));unfold dv Ii;rw [B9 r,h2,O6,Ue];have:(acc*10+(c.toNat-48))*10 ^ r.length=acc*(10 ^ r.length*10)+(0*10+(c.toNat-48))*10 ^ r.length:=by
   rw [Pk,Qt,Pm,T5,T6 10]
  rw [this,Q_]
theorem Ae (a b:List UInt8):dv (a++b)=dv a*10 ^ b.length+dv b:=by
 have key:∀ (a:List UInt8) (acc:Nat),Ii acc (a++b)=Ii (Ii acc a) b:=by
  intro a
  induction a with
  | nil=>intro acc; rfl
  | cons c r ih=>intro acc; exact ih _
 unfold dv;rw [key,B9]; rfl
theorem EB (c:UInt8):dv [c]=c.toNat-48:=by
 show 0*10+(c.toNat-48)=_;omega
theorem yd (c:UInt8) (r:List UInt8):dv (c::r)=(c.toNat-48)*10 ^ r.length+dv r:=by
 have:=Ae [c] r;rw [EB] at this; simpa using this
theorem Ik (n:Nat):dv (List.replicate n (48:UInt8))=0:=by
 induction n with
 | zero=>rfl
 | succ n ih=>rw [Ri,yd,ih]; simp
theorem y_:∀ {l:List UInt8},(∀ c ∈ l,Bl c)->dv l<10 ^ l.length
 | [],_=>by
  show 0<10 ^ 0
  decide
 | c::r,h=>by
  have h1:=y_ (l:=r) (λz hz=>h z (O5 _ hz));have h2:=(h c (O0 ..)).2;rw [yd,O6,Ue,T6 (10 ^ r.length) 10];have:(c.toNat-48)*10 ^ r.length<=9*10 ^ r.length:=Pe _ (by omega)
  generalize 10 ^ r.length=P at *
  omega
theorem Ij {c:UInt8}{r:List UInt8} (hc:Bl c) (h0:c≠48):10 ^ r.length<=dv (c::r):=by
 have:1<=c.toNat-48:=by
  have:=hc.1;have hne:c.toNat≠48:=λe=>h0 (UInt8.toNat_inj.1 (by rw [e]; rfl))
  omega
 rw [yd];have:1*10 ^ r.length<=(c.toNat-48)*10 ^ r.length:=Pe _ this;generalize 10 ^ r.length=P at *
 omega
structure D5 (l:List UInt8):Prop where
 CQ:∀ c ∈ l,Bl c
 ne:l≠[]
 lead:l.head? = some 48->l=[48]
theorem Am {a b:List UInt8} (h:a≠[]):(a++b).head? = a.head? := by
 cases a with
 | nil=>exact absurd rfl h
 | cons x r=>rfl
theorem Ib {u:Nat} (h:u<10):(UInt8.ofNat (48+u)).toNat=48+u:=by rw [UInt8.toNat_ofNat']; omega
theorem lx (u:Nat):D5 (Lib.decDigits u)/\dv (Lib.decDigits u)=u:=by
 induction u using Nat.strongRecOn with
 | _ u ih=>
  by_cases h:u<10
  ·rw [TE h]
   have hd:=Ib h;refine ⟨⟨λc hc=>?_,by simp,λhh=>?_⟩,by rw [EB,hd]; omega⟩
   ·rw [PA] at hc; subst hc; unfold Bl; omega
   ·simp only [TN,Pf] at hh
    rw [hh]
  ·obtain ⟨h1,h2⟩:=ih (u / 10) (by omega)
   have e:Lib.decDigits u=Lib.decDigits (u / 10)++[UInt8.ofNat (48+u%10)]:=by rw [Lib.decDigits,dif_neg h]
   have hd:=Ib (u:=u%10) (by omega)
   rw [e];refine ⟨⟨λc hc=>?_,by simp,λhh=>?_⟩,?_⟩
   ·rcases Pa.1 hc with hc | hc
    ·exact h1.CQ c hc
    ·rw [PA] at hc; subst hc; unfold Bl; omega
   ·rw [Am h1.ne] at hh
    have:=h1.lead hh;rw [this] at h2;have:dv [48]=0:=rfl;omega
   ·rw [Ae,h2,EB,hd]
    simp only [PW,Nat.pow_one]; omega
theorem FQ:∀ {a b:List UInt8},D5 a->D5 b->dv a=dv b->a=b:=by
 have zero:∀ {a:List UInt8},D5 a->dv a=0->a=[48]:=by
  intro a ha h0;cases a with
  | nil=>exact absurd rfl ha.ne
  | cons c r=>
   by_cases hc:c=48
   ·exact ha.lead (by rw [hc]; rfl)
   ·have:=Ij (r:=r) (ha.CQ c (O0 ..)) hc
    have:0<10 ^ r.length:=Ud (by decide)
    omega
 have eqlen:∀ (a b:List UInt8),a.length=b.length->(∀ c ∈ a,Bl c)->(∀ c ∈ b,Bl c)->dv a=dv b->a=b:=by
  intro a
  induction a with
  | nil=>intro b hl _ _ _; cases b with | nil=>rfl | cons _ _=>simp at hl
  | cons c r ih=>
   intro b hl ha hb h;cases b with
   | nil=>simp at hl
   | cons d s=>
    have hl':r.length=s.length:=by simpa using hl
    have h1:=y_ (l:=r) (λz hz=>ha z (O5 _ hz));have h2:=y_ (l:=s) (λz hz=>hb z (O5 _ hz));have hc:=ha c (O0 ..);have hd:=hb d (O0 ..);rw [yd,yd,<- hl'] at h;rw [<- hl'] at h2;have hP:0<10 ^ r.length:=Ud (by decide)
    have e1:c.toNat-48=d.toNat-48:=by
     have q1:((c.toNat-48)*10 ^ r.length+dv r) / 10 ^ r.length=c.toNat-48:=by
      rw [Rn,Nat.add_mul_div_right _ _ hP,TX h1,Pm]
     have q2:((d.toNat-48)*10 ^ r.length+dv s) / 10 ^ r.length=d.toNat-48:=by
      rw [Rn,Nat.add_mul_div_right _ _ hP,TX h2,Pm]
     rw [<- q1,h,q2]
    have e2:c=d:=UInt8.toNat_inj.1 (by have:=hc.1; have:=hd.1; omega)
    rw [e1] at h;rw [e2,ih s hl' (λz hz=>ha z (O5 _ hz)) (λz hz=>hb z (O5 _ hz)) (by omega)]
 intro a b ha hb h
 by_cases h0:dv a=0
 ·rw [zero ha h0,zero hb (by omega)]
 ·have big:∀ {l:List UInt8},D5 l->dv l≠0->∃ c r,l=c::r/\10 ^ r.length<=dv l:=by
   intro l hl hz;cases l with
   | nil=>exact absurd rfl hl.ne
   | cons c r=>
    refine ⟨c,r,rfl,Ij (hl.CQ c (O0 ..)) (λhc=>hz ?_)⟩;rw [hl.lead (by rw [hc]; rfl)]; rfl
  obtain ⟨c,r,rfl,h1⟩:=big ha h0;obtain ⟨d,s,rfl,h2⟩:=big hb (by omega)
  have h3:=y_ ha.CQ;have h4:=y_ hb.CQ;refine eqlen _ _ ?_ ha.CQ hb.CQ h;rw [h] at h1 h3;have l1:r.length<(d::s).length:=(Ub (by decide)).1 (RS h1 h4)
  have l2:s.length<(c::r).length:=(Ub (by decide)).1 (RS h2 h3)
  simp only [O6] at l1 l2 ⊢; omega
theorem vr {l:List UInt8} (h:D5 l):Lib.decDigits (dv l)=l:=FQ (lx _).1 h (lx _).2
theorem By {u k:Nat} (hk:1<=k) (h:u<10 ^ k):(Lib.decDigits u).length<=k:=by
 obtain ⟨h1,h2⟩:=lx u;cases hl:Lib.decDigits u with
 | nil=>simp
 | cons c r=>
  rw [hl] at h1 h2
  by_cases hc:c=48
  ·rw [h1.lead (by rw [hc]; rfl)]; simpa using hk
  ·have:=Ij (r:=r) (h1.CQ c (O0 ..)) hc
   rw [h2] at this;have:r.length<k:=(Ub (by decide)).1 (RS this h)
   rw [O6]; exact this
theorem Av {u k:Nat} (h:(Lib.decDigits u).length<=k):u<10 ^ k:=by
 obtain ⟨h1,h2⟩:=lx u;have:=y_ h1.CQ;rw [h2] at this;exact Rz this (Ua (by decide) h)
def pad (k:Nat) (r:Nat):List UInt8:=List.replicate (k-(Lib.decDigits r).length) 48++Lib.decDigits r
theorem Ke {k r:Nat} (hk:1<=k) (h:r<10 ^ k):(pad k r).length=k:=by
 have:=By hk h;unfold pad;rw [Pg,Qd]; omega
theorem Kd (k r:Nat):∀ c ∈ pad k r,Bl c:=by
 intro c hc;rcases Pa.1 hc with hc | hc
 ·rw [(TT.1 hc).2]; exact ⟨by decide,by decide⟩
 ·exact (lx r).1.CQ c hc
theorem LG (k r:Nat):dv (pad k r)=r:=by
 unfold pad;rw [Ae,Ik,(lx r).2]; omega
theorem JQ {k q r:Nat} (hk:1<=k) (hq:0<q) (hr:r<10 ^ k):Lib.decDigits (q*10 ^ k+r)=Lib.decDigits q++pad k r:=by
 obtain ⟨h1,h2⟩:=lx q;refine FQ (lx _).1 ⟨λc hc=>?_,by simp [h1.ne],λhh=>?_⟩ ?_
 ·rcases Pa.1 hc with hc | hc
  ·exact h1.CQ c hc
  ·exact Kd _ _ c hc
 ·rw [Am h1.ne] at hh
  rw [h1.lead hh] at h2;have:dv [48]=0:=rfl;omega
 ·rw [(lx _).2,Ae,h2,Ke hk hr,LG]
theorem IX {M:Nat} (hM:M<1844674407370955162):∀ (l:List UInt8) (acc:Nat),(∀ c ∈ l,Bl c)->Ii acc l<=M->acc<=M->Lib.parseUintM M acc l=.ok (Ii acc l)
 | [],acc,_,_,_=>rfl
 | c::r,acc,h,hl,ha=>by
  have hc:=h c (O0 ..);have hle:acc*10+(c.toNat-48)<=M:=by
   have:=B9 r (acc*10+(c.toNat-48));have h1:Ii acc (c::r)=Ii (acc*10+(c.toNat-48)) r:=rfl;have hP:1<=10 ^ r.length:=Ud (by decide)
   have:(acc*10+(c.toNat-48))*1<=(acc*10+(c.toNat-48))*10 ^ r.length:=T7 _ hP;generalize 10 ^ r.length=P at *
   omega
  rw [Lib.parseUintM,O3 (show 48<=c.toNat/\c.toNat<=57 from hc),O2 (by omega),O2 (by omega)]
  exact IX hM r _ (λz hz=>h z (O5 _ hz)) hl hle
theorem Ki {l:List UInt8} (h:∀ c ∈ l,Bl c) (hl:l.length<=9):Kh (ba l)=((dv l:Int),false):=by
 unfold Kh;have h1:=y_ h;have h2:10 ^ l.length<=10 ^ 9:=Ua (by decide) hl
 have e:=IX (M:=4294967295) (by decide) l 0 h (by show dv l<=_; omega) (by omega)
 show (match Lib.parseUintM 4294967295 0 l with | .ok v=>((v:Int),false) | .range=>(4294967295,true) | _=>(0,true))=_
 rw [e]; rfl
theorem BD (l:List UInt8):eB (ba l) (⟨#[45]⟩)=some (decide (l.head? = some 45)):=by
 have h1:(⟨#[45]⟩:ByteArray).size=1:=rfl;unfold eB;rw [h1,gM];cases l with
 | nil=>rfl
 | cons c r=>
  rw [O3 (by simp; omega)]
  unfold dG;rw [O3 (by simp only [O6]; omega),show ((1:Nat):Int).toNat=1 from rfl,q7]
  congr 1
  have e:(ba (((c::r).take 1).drop 0)=(⟨#[45]⟩:ByteArray))↔((c::r).head? = some 45):=by
   rw [show (⟨#[45]⟩:ByteArray)=ba [45] from rfl];constructor
   ·intro h
    have:=wK h;simp at this;simp [this]
   ·intro h
    simp only [TN,Pf] at h;rw [h]; rfl
  exact Ut.2 e
theorem GN (l:List UInt8):mI (ba l) (⟨#[45]⟩)=some (decide (l.head? = some 45)):=by
 unfold mI;rw [BD l]; rfl
theorem xQ (l:List UInt8):kB (ba l) (⟨#[45]⟩)=some (ba (if l.head? = some 45 then l.tail else l)):=by
 have h1:(⟨#[45]⟩:ByteArray).size=1:=rfl;unfold kB gO;rw [BD l];simp only [Rv]
 by_cases h:l.head? = some 45
 ·rw [O3 (by simp [h]),O3 h,h1,gM]
  cases l with
  | nil=>cases h
  | cons c r=>
   unfold dG;rw [O3 (by simp only [O6]; omega),show ((1:Nat):Int).toNat=1 from rfl,q7]
   simp
 ·rw [O2 (by simp [h]),O2 h]; rfl
theorem rX.plus {a:LI} (h:rX a) (h0:0<=fJ a):a.minus=false:=by
 cases hm:a.minus with
 | false=>rfl
 | true=>
  have hne:=h.sign hm;have:nv a.words≠0:=λe=>hne ((vF h.wf h.tp).1 e);unfold fJ at h0;rw [O3 hm] at h0; omega
theorem JL {n:Nat} (h:0<n) (h2:n<=100000):i64.wrap ((Int.tmod (i64.wrap ((n:Int)-1)) 9)+1)=(((n-1)%9+1:Nat):Int):=by
 rw [bJ (n:=(n:Int)-1) ⟨by omega,by omega⟩]
 have:Int.tmod ((n:Int)-1) 9=(((n-1)%9:Nat):Int):=by
  rw [show (n:Int)-1=((n-1:Nat):Int) by omega]
  rw [Int.tmod_eq_emod_of_nonneg (by omega)]; rfl
 rw [this,bJ ⟨by omega,by omega⟩]; omega
theorem G2 {D n c v P:Nat} (h:D=0\/n=9) (hP:P=10 ^ n):D*10 ^ 9+c=D*P+c:=by
 rcases h with h | h
 ·rw [h,Qt,Qt]
 ·rw [hP,h]
theorem F2 {ds:List UInt8} (h:∀ c ∈ ds,Bl c) (hl:ds.length<=2000) (neg:Bool):
  Gd (kJ (ba (if neg=true then 45::ds else ds))) (λa=>rX a/\a.words.length<=10000/\fJ a=if neg=true then -(dv ds:Int) else dv ds):=by
 unfold kJ;have hll:(if neg=true then 45::ds else ds).length<=1000000:=by
  split
  ·simp only [O6]; omega
  ·omega
 have hhd:(if neg=true then 45::ds else ds).head? = some 45↔neg=true:=by
  cases neg with
  | true=>simp
  | false=>
   simp only [PZ,Qw,iff_false];intro hh;cases ds with
   | nil=>cases hh
   | cons c r=>
    simp only [TN,Pf] at hh;have:=(h c (O0 ..)).1;rw [hh] at this; exact absurd this (by decide)
 have htr:(if (if neg=true then 45::ds else ds).head? = some 45 then (if neg=true then 45::ds else ds).tail else (if neg=true then 45::ds else ds))=ds:=by
  cases neg with
  | true=>simp
  | false=>rw [O2 (by rw [hhd]; simp)]; simp
 refine Gd.bind_eq (GN _) (Gd.bind_eq (xQ _) ?_);rw [htr];have hdec:decide ((if neg=true then 45::ds else ds).head? = some 45)=neg:=by
  cases neg with
  | true=>simp
  | false=>rw [Uu (by rw [hhd]; simp)]
 rw [hdec];refine Gd.gH (λ(z:ByteArray×Bool×List bP)=>∃ pre suf:List UInt8,ds=pre++suf/\z.1=ba suf/\z.2.1=false/\rX ⟨false,z.2.2⟩/\(nv z.2.2=dv pre)/\z.2.2.length<=5*pre.length/\(pre=[]\/suf.length%9=0))
  (λz=>z.1.size) ?_ fC _ ⟨[],ds,rfl,rfl,rfl,⟨Wf.nil,λy hy=>by simp at hy,λhh=>by simp at hh⟩,rfl,by simp,.inl rfl⟩ (by rw [gM]; simp only [fC]; omega)
 rintro ⟨s,c,w⟩ nx ⟨pre,suf,e1,e2,e3,e4,e5,e6,e7⟩ hnx;simp only at e2 e3 e4 e5 e6 e7 hnx ⊢;subst e2 e3;have hlen:pre.length+suf.length<=2000:=by rw [<- Pg,<- e1]; exact hl
 unfold s8;rw [gM];refine Gd.ite (λh0=>?_) (λh0=>?_)
 ·have h0:0<suf.length:=by have:=O1 h0; omega
  rw [JL h0 (by omega)]
  generalize hn:(suf.length-1)%9+1=n;have hn9:n<=9:=by omega
  have hns:n<=suf.length:=by have:=Nat.mod_le (suf.length-1) 9; omega
  rw [OX,q7,q7,Qh,Pb (Pl _),gM];have htl:(suf.take n).length=n:=by rw [Pn]; omega
  have hdg:∀ x ∈ suf.take n,Bl x:=λx hx=>h x (by rw [e1]; exact P1 _ (Rd hx))
  have hpu:=Ki hdg (by rw [htl]; exact hn9)
  have hdl:dv (suf.take n)<10 ^ 9:=Rz (y_ hdg) (Ua (by decide) (by omega))
  rw [hpu,htl];refine Gd.nd ⟨by omega,by omega⟩ (Gd.nd ⟨by omega,by omega,rfl⟩ ?_)
  rw [bJ (n:=(dv (suf.take n):Int)) ⟨by omega,by omega⟩]
  refine Gd.eC (AM (n:=1000000000) (by omega)) (λt ht=>Gd.eC (uM e4 ht.1 (by simp only; omega)) (λm hm=>Gd.eC (AM (n:=(dv (suf.take n):Int)) (by omega)) (λu hu=>Gd.eC (Ch hm.1 hu.1 (by simp only at hm; omega) (by omega)) (λr hr=>Gd.nd ⟨by omega,by omega⟩ ?_))))
  have hiv:fJ (⟨false,w⟩:LI)=(dv pre:Int):=by unfold fJ; simp only [PZ,Qw]; rw [e5]
  have hval:fJ r=((dv (pre++suf.take n):Nat):Int):=by
   rw [hr.2.2,hm.2.2,ht.2.2,hu.2.2,hiv,Ae,htl];have:=G2 (D:=dv pre) (n:=n) (c:=dv (suf.take n)) (v:=0) (P:=10 ^ n) (by
    rcases e7 with e7 | e7
    ·left; rw [e7]; rfl
    ·right; omega) rfl
   rw [<- this];have e9:(10 ^ 9:Nat)=1000000000:=rfl;rw [e9];generalize dv pre=A;generalize dv (suf.take n)=C;omega
  have hrm:r.minus=false:=hr.1.plus (by rw [hval]; omega)
  refine hnx _ ⟨pre++suf.take n,suf.drop n,by rw [Pr,Qm]; exact e1,rfl,hrm,?_,?_,?_,?_⟩ ?_
  ·rw [<- hrm]; exact hr.1
  ·have:=hval
   unfold fJ at this;rw [O2 (by rw [hrm]; simp)] at this
   simp only; omega
  ·simp only at hm ⊢
   rw [Pg,htl]; omega
  ·right; rw [Qv]; omega
  ·simp only [gM,Qv]; omega
 ·have h0:¬ 0<suf.length:=by have:=O9 h0; omega
  have hs0:suf=[]:=Pw (by omega)
  subst hs0;rw [PE] at e1;subst e1;unfold qV;have e4w:Wf w:=e4.wf;have e4t:uF w:=e4.top;refine Gd.ite (λhneg=>Gd.ret ⟨⟨e4.wf,e4.top,λhm hw=>?_⟩,by simp only; omega,?_⟩) (λhneg=>Gd.ret ⟨e4,by simp only; omega,?_⟩)
  ·have hw:w=[]:=hw
   subst hw;simp at hm
  ·rw [O3 hneg]
   unfold fJ;simp only [PF]
   split
   ·rw [e5]
   ·rename_i hh
    have:w=[]:=Pw (by omega)
    rw [this] at e5 ⊢;rw [<- e5]; rfl
  ·rw [O2 (by rw [hneg]; simp)]
   unfold fJ;simp only [PZ,Qw];rw [e5]
def pv:List bP->Nat
 | []=>0
 | y::l=>y.n.toNat+1000000000*pv l
theorem FZ:∀ (a:List bP) (y:bP),pv (a++[y])=pv a+1000000000 ^ a.length*y.n.toNat
 | [],y=>by
  show y.n.toNat+1000000000*0=0+1000000000 ^ 0*y.n.toNat;rw [Uf]; omega
 | x::a,y=>by
  rw [Q8,pv,FZ a y,pv,O6,Ue];rw [T4,<- T5,T6 (1000000000 ^ a.length) 1000000000,Q_]
theorem Kk {l:List bP}{k:Nat}{y:bP} (h:l[k]? = some y):pv (l.drop k)=pv (l.drop (k+1))*1000000000+y.n.toNat:=by
 rw [qk h,pv]; omega
theorem HQ:(⟨#[48,48,48,48,48,48,48,48,48]⟩:ByteArray)=ba (List.replicate 9 48):=rfl
theorem se (n:Nat):r7 (n:Int)=ba (Lib.decDigits n):=by unfold r7; rw [Lib.itoa_nonneg]; rfl
theorem GU {n:Nat} (h:0<n):r7 (-(n:Int))=ba (45::Lib.decDigits n):=by
 unfold r7 Lib.itoa;rw [O3 (by omega),show (-(n:Int)).natAbs=n by omega]; rfl
def Hl (D:List UInt8):List U8:=D.map λb=>⟨b.toNat⟩
theorem w6 (D:List UInt8):jM (ba D)=Hl D:=Gt D
theorem Jp (a b:List UInt8):Hl a++Hl b=Hl (a++b):=by unfold Hl; rw [Qj]
theorem B3 (D:List UInt8):x_ (Hl D)=ba D:=C9 D
theorem CO (D:List UInt8):(Hl D).length=D.length:=QN _
theorem L5 (N:Nat) {Q:List bP} (hQ:∀ z ∈ Q,0<=z.n/\z.n<1000000000) (hl:Q.length<=N):pv Q<10 ^ (9*N):=by
 have key:∀ (Q:List bP),(∀ z ∈ Q,0<=z.n/\z.n<1000000000)->pv Q<1000000000 ^ Q.length:=by
  intro Q
  induction Q with
  | nil=>intro _; show 0<1000000000 ^ 0; decide
  | cons z Q ih=>
   intro hQ;have h1:=ih (λx hx=>hQ x (O5 _ hx));have h2:=hQ z (O0 ..);rw [pv,O6,Ue,T6];generalize 1000000000 ^ Q.length=X at *
   omega
 have h2:(1000000000:Nat) ^ Q.length<=1000000000 ^ N:=Ua (by decide) hl
 rw [Uc];exact Rz (key Q hQ) h2
theorem KR (n a b:Nat) (h1:a<=3*n) (h2:10*n<=32*b):10 ^ a<=WB ^ b:=by
 have e1:(10:Nat) ^ a<=10 ^ (3*n):=Ua (by decide) h1
 have e2:((10:Nat) ^ 3) ^ n<=(2 ^ 10) ^ n:=T_ (by decide) n
 have e3:(2:Nat) ^ (10*n)<=2 ^ (32*b):=Ua (by decide) h2
 rw [<- Uc,<- Uc] at e2;rw [zK b];exact P0 e1 (P0 e2 e3)
theorem FM (n a b:Nat) (h1:a<=3*n) (h2:10*n<=32*b) {w:List bP} (hw:Wf w) (ht:uF w) (hl:b<w.length):¬ nv w<10 ^ a:=by
 have hne:w≠[]:=λe=>by rw [e] at hl; simp at hl
 have hge:=DJ hw ht hne;have hp:WB ^ b<=WB ^ (w.length-1):=Ua (by decide) (by omega)
 exact Nat.not_lt.2 (P0 (KR n a b h1 h2) (P0 hp hge))
theorem I_ (N K:Nat) {w:List bP} (hw:Wf w) (hl:w.length<=N) (hK:32*N<=K):nv w<2 ^ K:=by
 have h2:=rS hw;have h3:WB ^ w.length<=WB ^ N:=Ua (by decide) hl
 rw [zK N] at h3;have h4:(2:Nat) ^ (32*N)<=2 ^ K:=Ua (by decide) hK
 exact Rz h2 (P0 h3 h4)
theorem DG {m:Nat} (h:m<=9):(⟨#[48,48,48,48,48,48,48,48,48]⟩:ByteArray).extract m ((⟨#[48,48,48,48,48,48,48,48,48]⟩:ByteArray).size)=ba (List.replicate (9-m) 48):=by
 rw [HQ,gM,q7,Pb (Pl _),List.drop_replicate]
theorem JX {a:LI}{P:List bP}{V:Nat} (hP:∀ y ∈ P,0<=y.n/\y.n<1000000000) (hV:pv P=V) (hne:P≠[]) (htop:∀ y,P.getLast? = some y->y.n≠0) (hl:P.length<=1000) (ha:a.minus=true->V≠0):
  Gd (gH (λs300 n=>oE a P s300.1 s300.2 n) fC (i64.wrap ((P.length:Int)-1),([]:List U8)))
   (λr=>r.2=decide ((Lib.decDigits V).length<=2000)/\r.1=r7 (if a.minus=true then -(V:Int) else V)/\r.1.size<=10000):=by
 have hpos:0<P.length:=TR.2 hne;have wl:i64.wrap ((P.length:Int)-1)=(P.length:Int)-1:=bJ ⟨by omega,by omega⟩
 rw [wl];refine Gd.gH (λ(z:Int×List U8)=>-1<=z.1/\z.1<P.length/\(z.1=(P.length:Int)-1/\z.2=[]\/z.1<(P.length:Int)-1/\0<pv (P.drop (z.1+1).toNat)/\z.2=Hl (Lib.decDigits (pv (P.drop (z.1+1).toNat)))/\z.2.length<=9*1000))
  (λz=>(z.1+1).toNat) ?_ fC _ ⟨by simp only; omega,by simp only; omega,.inl ⟨rfl,rfl⟩⟩ (by simp only [fC]; omega)
 rintro ⟨n,l⟩ nx ⟨h1,h2,h3⟩ hnx;simp only at h1 h2 h3 hnx ⊢;unfold oE;refine Gd.ite (λhn=>?_) (λhn=>?_)
 ·have hn:0<=n:=O1 hn
  obtain ⟨k,rfl⟩:∃ k:Nat,n=k:=⟨n.toNat,by omega⟩
  obtain ⟨y,hy⟩:∃ y,P[k]? = some y:=⟨_,OU (by omega)⟩
  have hyw:=hP y (O7 hy);obtain ⟨u,hu⟩:∃ u:Nat,y.n=u:=⟨y.n.toNat,by omega⟩
  have hu9:u<10 ^ 9:=by
   have:(10:Nat) ^ 9=1000000000:=rfl;omega
  have hkn:((k:Int)+1).toNat=k+1:=by omega
  have hkk:((k:Int)-1+1).toNat=k:=by omega
  refine Gd.ix (by omega) (by rw [OX]; exact hy) ?_
  rw [hu,fT (n:=(u:Int)) (by omega),se]
  refine Gd.nd ⟨by omega,by omega⟩ ?_
  rw [wl];have hlen:(Lib.decDigits u).length<=9:=By (by decide) hu9
  have hd:=Kk hy;have hun:y.n.toNat=u:=by omega
  rw [hun] at hd;have hwk:i64.wrap ((k:Int)-1)=(k:Int)-1:=bJ ⟨by omega,by omega⟩
  refine Gd.ite (λhlt=>?_) (λhlt=>?_)
  ·have hlt:(k:Int)<(P.length:Int)-1:=O1 hlt
   rcases h3 with ⟨h3,_⟩ | ⟨_,h3,h4,h5⟩
   ·omega
   rw [hkn] at h3 h4;rw [gM,OX,DG hlen,w6];have hsz:(ba (List.replicate (9-(Lib.decDigits u).length) (48:UInt8))).size=9-(Lib.decDigits u).length:=by rw [gM,Qd]
   rw [hsz];refine Gd.nd ⟨by omega,by show ((Lib.decDigits u).length:Int)<=((9:Nat):Int); omega⟩ (Gd.nd (by omega) ?_)
   unfold kR;rw [hu,fT (n:=(u:Int)) (by omega),se,hwk,w6,gM]
   rw [Pg,CO,Qd];refine Gd.nd (by omega) ?_
   have hfin:l++Hl (List.replicate (9-(Lib.decDigits u).length) (48:UInt8))++Hl (Lib.decDigits u)=Hl (Lib.decDigits (pv (P.drop k))):=by
    have hdp:=JQ (k:=9) (by decide) h3 hu9
    rw [show (10:Nat) ^ 9=1000000000 from rfl,<- hd] at hdp;rw [h4,Pr,Jp,Jp,hdp]
    rfl
   rw [hfin];have hdl:=Av (u:=pv (P.drop k)) (k:=(Lib.decDigits (pv (P.drop k))).length) (Pl _);refine hnx _ ⟨by simp only; omega,by simp only; omega,.inr ⟨by simp only; omega,by simp only; rw [hkk,hd]; omega,by simp only; rw [hkk],?_⟩⟩ (by simp only; omega)
   simp only;rw [CO];have hb:=L5 1000 (λz hz=>hP z (List.mem_of_mem_drop hz)) (show (P.drop k).length<=1000 by rw [Qv]; omega)
   exact By (k:=9*1000) (by decide) hb
  ·have hlt:¬ (k:Int)<(P.length:Int)-1:=O9 hlt
   rcases h3 with ⟨h3,h4⟩ | ⟨h3,_⟩
   ·unfold kR
    rw [hu,fT (n:=(u:Int)) (by omega),se,hwk,w6,gM,h4]
    refine Gd.nd (by simp only [TQ]; omega) ?_
    have hlast:P.drop (k+1)=[]:=TH (by omega)
    rw [hlast] at hd;have hd:pv (P.drop k)=u:=by rw [hd]; show 0*1000000000+u=u; omega
    have hu0:u≠0:=by
     have:=htop y (by rw [TM,show P.length-1=k by omega]; exact hy)
     omega
    rw [Qy];refine hnx _ ⟨by simp only; omega,by simp only; omega,.inr ⟨by simp only; omega,by simp only; rw [hkk,hd]; omega,by simp only; rw [hkk,hd],?_⟩⟩ (by simp only; omega)
    simp only;rw [CO]; omega
   ·omega
 ·have hn:¬ 0<=n:=O9 hn
  rcases h3 with ⟨h3,_⟩ | ⟨_,h3,h4,h5⟩
  ·omega
  have hz:(n+1).toNat=0:=by omega
  rw [hz,Qh,hV] at h3 h4;subst h4;rw [CO] at h5 ⊢;have hne':(Lib.decDigits V)≠[]:=(lx V).1.ne;have hp:0<(Lib.decDigits V).length:=TR.2 hne';have hsz:((ba (Lib.decDigits V)).size:Int)=((Lib.decDigits V).length:Int):=by rw [gM]
  have hdd:decide (((ba (Lib.decDigits V)).size:Int)<=2000)=decide ((Lib.decDigits V).length<=2000):=by
   rw [hsz]; exact Ut.2 (by omega)
  refine Gd.nd hp (Gd.ite (λhm=>Gd.nd ?_ ?_) (λhm=>?_))
  ·rw [B3,gM,show (⟨#[45]⟩:ByteArray).size=1 from rfl]
   unfold maxLen; omega
  ·unfold kT
   rw [B3];have hx:(⟨#[45]⟩:ByteArray)++ba (Lib.decDigits V)=ba (45::Lib.decDigits V):=by
    rw [show (⟨#[45]⟩:ByteArray)=ba [45] from rfl,Eg]; rfl
   refine Gd.ret ⟨hdd,?_,?_⟩
   ·rw [O3 hm,GU (by have:=ha hm; omega)]; exact hx
   ·simp only
    rw [hx,gM,O6]; omega
  ·unfold kT
   rw [B3];refine Gd.ret ⟨hdd,?_,?_⟩
   ·rw [O2 (by rw [hm]; simp),se]
   ·simp only
    rw [gM]; omega
theorem E0 (K N:Nat) {p n W:Nat} (h:1000000000 ^ p*n<=W) (hn:1<=n) (hW:W<2 ^ K) (hK:K<=29*N):p<N:=by
 rcases QP p N with hp | hp
 ·exact hp
 ·exfalso
  have h1:((2:Nat) ^ 29) ^ N<=(1000000000:Nat) ^ N:=T_ (by decide) N
  have h2:(1000000000:Nat) ^ N<=1000000000 ^ p:=Ua (by decide) hp
  have h3:(1000000000:Nat) ^ p*1<=1000000000 ^ p*n:=T7 _ hn;have h4:(2:Nat) ^ K<=2 ^ (29*N):=Ua (by decide) hK
  rw [<- Uc] at h1;rw [Ro] at h3;exact absurd hW (Nat.not_lt.2 (P0 h4 (P0 h1 (P0 h2 (P0 h3 h)))))
theorem G0 {V A B n:Nat} (h:V=A+B*n):V=(A+B*(n%1000000000))+B*1000000000*(n / 1000000000):=by
 rw [T5,Q_,<- T4,T3]; exact h
theorem Ap {a:LI} (h:rX a):Gd (jZ a) (λr=>r.2=decide ((Lib.decDigits (nv a.words)).length<=2000)/\(r.2=true->r.1=r7 (fJ a))/\r.1.size<=10000):=by
 unfold jZ;refine Gd.ite (λh0=>?_) (λh0=>?_)
 ·have h0:a.words=[]:=Pw (by have:=O1 h0; omega)
  have hm:a.minus=false:=by
   cases hm:a.minus with
   | false=>rfl
   | true=>exact absurd h0 (h.sign hm)
  refine Gd.ret ⟨?_,λ_=>?_,by decide⟩
  ·rw [h0]
   have hx:(Lib.decDigits (nv [])).length<=2000:=by
    show (Lib.decDigits 0).length<=2000;rw [TE (by omega)]; simp
   rw [Uw hx]
  ·unfold fJ
   rw [O2 (by rw [hm]; simp),h0]
   show (⟨#[48]⟩:ByteArray)=r7 ((0:Nat):Int);rw [se,TE (by omega)]; rfl
 ·have h0:a.words.length≠0:=by have:=O9 h0; omega
  have hne:a.words≠[]:=λe=>h0 (by rw [e]; rfl)
  refine Gd.ite (λh1=>?_) (λh1=>?_)
  ·have h1:210<a.words.length:=by have:=O1 h1; omega
   refine Gd.ret ⟨?_,λhh=>absurd hh (by simp),by decide⟩
   symm
   refine Uu λhle=>?_;exact FM 667 2000 210 (by decide) (by decide) h.wf h.tp h1 (Av (k:=2000) hle)
  ·have h1:a.words.length<=210:=by have:=O9 h1; omega
   have hW:=I_ 210 6720 h.wf h1 (by decide)
   have hnz:nv a.words≠0:=λe=>hne ((vF h.wf h.tp).1 e);refine Gd.gH (λ(z:List bP×List bP)=>(∀ y ∈ z.1,0<=y.n/\y.n<1000000000)/\Wf z.2/\uF z.2/\z.2.length<=210/\nv a.words=pv z.1+1000000000 ^ z.1.length*nv z.2/\z.1.length<=300/\(nv z.2=0->z.1≠[]/\∀ y,z.1.getLast? = some y->y.n≠0))
    (λz=>301-z.1.length) ?_ fC _ ⟨by simp,h.wf,h.tp,h1,?_,by simp,λe=>absurd e hnz⟩ (by simp only [fC,TQ]; omega)
   ·rintro ⟨P,w⟩ nx ⟨i1,i2,i3,i4,i5,i6,i7⟩ hnx
    simp only at i1 i2 i3 i4 i5 i6 i7 hnx ⊢;unfold qD;refine Gd.ite (λhw=>?_) (λhw=>?_)
    ·have hw:0<w.length:=by have:=O1 hw; omega
     have hwn:w≠[]:=λe=>by rw [e] at hw; simp at hw
     have hwz:nv w≠0:=λe=>hwn ((vF i2 i3).1 e);have hpl:=E0 6720 300 (p:=P.length) (n:=nv w) (W:=nv a.words) (by rw [i5]; exact Nat.le_add_left _ _) (by omega) hW (by decide)
     refine Gd.eC (DU i2 (by omega) (d:=1000000000) (by omega)) (λr hr=>?_)
     have hdn:(1000000000:Int).toNat=1000000000:=rfl;rw [hdn] at hr;refine Gd.nd (by simp only [PW]; omega) (Gd.eC (sG false r.1 hr.1 (by omega)) (λq hq=>?_))
     have hrn:0<=r.2/\r.2<1000000000/\r.2.toNat=nv w%1000000000:=by
      have:=RQ (nv w) (show 1000000000 > 0 by omega)
      rw [hr.2.2.2]; omega
     refine hnx _ ⟨?_,hq.1.wf,hq.1.tp,by simp only; omega,?_,by simp only [Pg,PW]; omega,λhz=>⟨by simp,λy hy=>?_⟩⟩ (by simp only [Pg,PW]; omega)
     ·intro y hy
      rcases Pa.1 hy with hy | hy
      ·exact i1 y hy
      ·rw [PA] at hy; subst hy; simp only; omega
     ·simp only
      rw [FZ,Pg,PW,Ue,hq.2.2.1,hr.2.2.1];simp only;rw [hrn.2.2];exact G0 i5
     ·simp only at hz hy
      rw [List.getLast?_append,List.getLast?_singleton] at hy;simp only [Option.some_or,Pf] at hy;subst hy;simp only;rw [hq.2.2.1,hr.2.2.1] at hz;have:nv w / 1000000000=0:=hz;omega
    ·have hw:w=[]:=Pw (by have:=O9 hw; omega)
     subst hw;obtain ⟨j1,j2⟩:=i7 rfl;have hVV:pv P=nv a.words:=by
      rw [i5];show pv P=pv P+1000000000 ^ P.length*0;rw [T8]; rfl
     refine (JX (a:=a) i1 hVV j1 j2 (by omega) (λ_=>hnz)).mono (λr hr=>⟨hr.1,λ_=>?_,hr.2.2⟩)
     rw [hr.2.1]; rfl
   ·show nv a.words=0+1000000000 ^ 0*nv a.words
    rw [Uf]; omega
def B4 (q:Rat):List UInt8:=Lib.itoa q.num++(if q.den=1 then [] else 47::Lib.decDigits q.den)
def ctext (q:Rat):ByteArray:=ba (B4 q)
def fits (q:Rat):Prop:=(Lib.decDigits q.num.natAbs).length<=2000/\(Lib.decDigits q.den).length<=2000
instance (q:Rat):Decidable (fits q):=by unfold fits; infer_instance
theorem AI {l:List UInt8} (h:∀ c ∈ l,Bl c):(47:UInt8) ∉ l:=λhm=>absurd (h 47 hm) (by unfold Bl; decide)
theorem tz (n:Int):Lib.itoa n=if n<0 then 45::Lib.decDigits n.natAbs else Lib.decDigits n.natAbs:=by
 unfold Lib.itoa
 split
 ·rfl
 ·rw [show n.toNat=n.natAbs by omega]
theorem Iv (u:Nat):(Lib.decDigits u).head? ≠ some 45:=by
 obtain ⟨h,_⟩:=lx u;cases hl:Lib.decDigits u with
 | nil=>simp
 | cons c r=>
  rw [hl] at h;have:=h.CQ c (O0 ..);simp only [TN,ne_eq,Pf];rintro rfl;exact absurd this (by unfold Bl; decide)
theorem FA (q:Rat):(B4 q).head? = some 45↔q.num<0:=by
 unfold B4;rw [tz]
 by_cases h:q.num<0
 ·rw [O3 h]; simp [h]
 ·rw [O2 h,Am (lx _).1.ne]
  simp only [h,iff_false];exact Iv _
theorem JM (q:Rat):(if (B4 q).head? = some 45 then (B4 q).tail else B4 q)=Lib.decDigits q.num.natAbs++(if q.den=1 then [] else 47::Lib.decDigits q.den):=by
 by_cases h:q.num<0
 ·rw [O3 ((FA q).2 h)]
  unfold B4;rw [tz,O3 h]; rfl
 ·rw [O2 (λe=>h ((FA q).1 e))]
  unfold B4;rw [tz,O2 h]
theorem EK {c:UInt8}{l:List UInt8} (h:c ∉ l):Lib.indexByte l c = -1:=by
 rcases sZ c l with ⟨_,h2⟩ | ⟨a,b,rfl,_⟩
 ·exact h2
 ·exact absurd (by simp) h
theorem Dq {c:UInt8}{b:List UInt8}:∀ {a:List UInt8},c ∉ a->Lib.indexByte (a++c::b) c=a.length
 | [],_=>by simp [Lib.indexByte]
 | x::a,h=>by
  have hx:(x == c)=false:=by simp only [PH,not_or] at h; simpa using λe=>h.1 e.symm
  have ih:=Dq (b:=b) (a:=a) (λhm=>h (O5 _ hm));rw [Q8];simp only [Lib.indexByte,hx,ih];rw [O2 (by simp),O2 (by simp)]
  simp only [O6]; omega
theorem Aa {l:List UInt8} (h:(47:UInt8) ∉ l):mT (ba l) (⟨#[47]⟩)=some (ba l,⟨#[]⟩,false):=by
 unfold mT iK;rw [show (⟨#[47]⟩:ByteArray)=ba [47] from rfl,Dr,Fy,EK h]
 rfl
theorem Ab {a b:List UInt8} (h:(47:UInt8) ∉ a) (hs:a.length+1+b.length<=maxLen):mT (ba (a++47::b)) (⟨#[47]⟩)=some (ba a,ba b,true):=by
 have hsz:(ba (a++47::b)).size=a.length+1+b.length:=by rw [gM]; simp; omega
 unfold maxLen at hs;unfold mT iK;rw [show (⟨#[47]⟩:ByteArray)=ba [47] from rfl,Dr,Fy,Dq h];simp only [Rv];rw [O3 (by simp),hsz,show (ba [47]).size=1 from rfl,bJ ⟨by omega,by omega⟩]
 unfold dG;rw [O3 ⟨by omega,by omega⟩,O3 ⟨by omega,by omega⟩,OX,show ((a.length:Int)+((1:Nat):Int)).toNat=a.length+1 by omega,q7,q7]
 simp only [Rv,Qh];rw [R4,Pb (by simp; omega),show a++47::b=(a++[47])++b by simp,List.drop_left' (by simp)]
theorem sy (l:List UInt8) (hs:l.length<=maxLen):Gd (oP (ba l)) (λc=>c=0↔D5 l/\l.length<=2000):=by
 unfold oP;refine Gd.nd (by rw [gM]; exact hs) ?_
 rw [w6];refine Gd.seen (λpre _=>∀ y ∈ pre,48<=y.n/\y.n<=57) ?_ ?_ () (λy hy=>by cases hy)
 ·rintro i y _ nx pre ⟨post,hl⟩ hI hnx
  have hy:y ∈ Hl l:=by rw [hl]; simp
  obtain ⟨c,hc,rfl⟩:=PL.1 hy;unfold ua;refine Gd.ite (λhb=>Gd.ret ?_) (λhb=>hnx () (λz hz=>?_))
  ·simp only [Qu,PF] at hb
   constructor
   ·intro h; simp at h
   ·rintro ⟨h,_⟩
    have:=h.CQ c hc;unfold Bl at this; omega
  ·simp only [Tx,Uv] at hb
   rcases Pa.1 hz with hz | hz
   ·exact hI z hz
   ·rw [PA] at hz; subst hz; simp only; omega
 ·intro _ hI
  have hd:∀ c ∈ l,Bl c:=λc hc=>by
   have:=hI ⟨c.toNat⟩ (PL.2 ⟨c,hc,rfl⟩);unfold Bl; simp only at this; omega
  refine Gd.ite (λh=>Gd.ret ?_) (λh=>?_)
  ·have h:l=[]:=wK ((O1 h).trans rfl)
   constructor
   ·intro h; simp at h
   ·rintro ⟨hn,_⟩; exact absurd h hn.ne
  ·have hne:l≠[]:=λe=>absurd (O9 h) (by rw [e]; simp [ba])
   have last:(l.head? = some 48->l=[48])->Gd (if decide (2000<((ba l).size:Int))=true then some (2:Int) else some 0) (λc=>c=0↔D5 l/\l.length<=2000):=λhlead=>by
    rw [gM];refine Gd.ite (λh2=>Gd.ret ?_) (λh2=>Gd.ret ?_)
    ·have:=O1 h2
     constructor
     ·intro h; simp at h
     ·rintro ⟨_,h⟩; omega
    ·have:=O9 h2
     exact ⟨λ_=>⟨⟨hd,hne,hlead⟩,by omega⟩,λ_=>rfl⟩
   refine Gd.ite (λh1=>?_) (λh1=>last (λhh=>?_))
   ·rw [gM] at h1
    have h1:=O1 h1;cases l with
    | nil=>exact absurd rfl hne
    | cons c r=>
     refine Gd.ix (y:=⟨c.toNat⟩) (by omega) rfl (Gd.ite (λh2=>Gd.ret ?_) (λh2=>last (λhh=>?_)))
     ·have h2:=O1 h2
      simp only at h2;constructor
      ·intro h; simp at h
      ·rintro ⟨hn,_⟩
       have hc:c=48:=UInt8.toNat_inj.1 (by show c.toNat=48; omega)
       have:=hn.lead (by rw [hc]; rfl)
       rw [this] at h1; simp at h1
     ·have h2:=O9 h2
      simp only [TN,Pf] at hh;subst hh;exact absurd rfl h2
   ·rw [gM] at h1
    have h1:=O9 h1;cases l with
    | nil=>exact absurd rfl hne
    | cons c r=>
     have:r=[]:=Pw (by simp only [O6] at h1; omega)
     subst this;simp only [TN,Pf] at hh;rw [hh]
theorem AT {n:List UInt8} (hn:D5 n) (l1:n.length<=2000):Gd (kJ (ba n)) (λa=>rX a/\a.words.length<=10000/\fJ a=dv n):=by
 have:=F2 hn.CQ l1 false;simpa using this
theorem Kb {n d:List UInt8} (hn:D5 n) (hd:D5 d) (l1:n.length<=2000) (l2:d.length<=2000):
  Gd (u_ (ba n) (ba d)) (λr=>r.2.2=0/\(rX r.1/\r.1.words.length<=10000/\fJ r.1=dv n)/\(rX r.2.1/\r.2.1.words.length<=10000/\fJ r.2.1=dv d)):=by
 unfold u_;have MG:∀ {l:List UInt8},D5 l->l.length<=2000->Gd (oP (ba l)) (λc=>c=0):=λh hl=>(sy _ (by unfold maxLen; omega)).mono (λc hc=>hc.2 ⟨h,hl⟩)
 refine Gd.jN (λm i _=>m+i=2) (λm i _ nx hI hnx=>?_) (λi _ _=>?_) _ 0 () rfl
 ·unfold vA
  have hi:i=0\/i=1:=by omega
  have hy:∃ l:List UInt8,([ba n,ba d]:List ByteArray)[i]? = some (ba l)/\D5 l/\l.length<=2000:=by
   rcases hi with rfl | rfl
   ·exact ⟨n,rfl,hn,l1⟩
   ·exact ⟨d,rfl,hd,l2⟩
  obtain ⟨l,hl,h1,h2⟩:=hy;refine Gd.ix (by omega) (by rw [OX]; exact hl) (Gd.eC (MG h1 h2) (λc hc=>?_))
  subst hc;exact hnx () (by omega)
 ·exact Gd.eC (AT hn l1) (λa ha=>Gd.eC (AT hd l2) (λb hb=>Gd.ret ⟨rfl,ha,hb⟩))
theorem uu:Lib.decDigits 1=[49]:=TE (by omega)
theorem yb:Lib.decDigits 0=[48]:=TE (by omega)
theorem ya {a b:Nat} (h:Lib.decDigits a=Lib.decDigits b):a=b:=by
 have h1:=(lx a).2;rw [h,(lx b).2] at h1; exact h1.symm
theorem FP {n d:List UInt8} (hn:D5 n) (hd:D5 d) (l1:n.length<=2000) (l2:d.length<=2000):
  Gd (u9 (ba n) (ba d)) (λr=>r.1=(⟨#[49]⟩:ByteArray)↔Nat.gcd (dv n) (dv d)=1):=by
 unfold u9;refine Gd.eC (Kb hn hd l1 l2) (λr hr=>?_);obtain ⟨h0,h1,h2⟩:=hr;rw [h0];refine Gd.eC (Is h1.1 h2.1 (L:=10000) (by omega) h1.2.1 h2.2.1) (λg hg=>?_)
 have e1:nv r.1.words=dv n:=by rw [<- jW,h1.2.2]; rfl
 have e2:nv r.2.1.words=dv d:=by rw [<- jW,h2.2.2]; rfl
 rw [e1,e2] at hg;unfold vz;have hb:Gd ((jZ g).bind λr102=>if (!r102.2)=true then some ((⟨#[]⟩:ByteArray),(2:Int)) else some (r102.1,0)) (λt=>t.1=(⟨#[49]⟩:ByteArray)↔Nat.gcd (dv n) (dv d)=1):=by
  refine Gd.eC (Ap hg.1) (λt ht=>Gd.ite (λhf=>Gd.ret ?_) (λhf=>Gd.ret ?_))
  ·have hf:t.2=false:=by simpa using hf
   rw [hf,hg.2.2.2] at ht;constructor
   ·intro h; exact absurd h (by decide)
   ·intro h
    have:=ht.1;rw [h,uu] at this; simp at this
  ·have hf:t.2=true:=by simpa using hf
   have e3:=ht.2.1 hf;simp only;rw [e3,pA hg.2.1,se,hg.2.2.2,show (⟨#[49]⟩:ByteArray)=ba [49] from rfl];constructor
   ·intro h
    exact ya ((wK h).trans uu.symm)
   ·intro h; rw [h,uu]
 exact Gd.eC hb (λt ht=>Gd.ret ht)
theorem E3 {q:Rat} (h:fits q):oQ (ctext q)=some 0:=by
 refine Gd.eq.1 ?_;have hD:=(lx q.num.natAbs).1;have hE:=(lx q.den).1;unfold oQ ctext;refine Gd.bind_eq (xQ _) ?_;rw [JM];have hz:q.num<0->Lib.decDigits q.num.natAbs≠[48]:=λhn e=>by
  rw [<- yb] at e;have:=ya e; omega
 by_cases hd:q.den=1
 ·rw [O3 hd,PE]
  refine Gd.bind_eq (Aa (AI hD.CQ)) ?_;refine Gd.eC (sy _ (by have:=h.1; unfold maxLen; omega)) (λc hc=>?_)
  have hc0:=hc.2 ⟨hD,h.1⟩;subst hc0;refine Gd.ite (λhx=>by simp at hx) (λ_=>?_)
  unfold lS;refine Gd.ite (λhx=>?_) (λ_=>Gd.ret rfl);exfalso;simp only [show decide ((0:Int)=5)=false from rfl,Bool.or_self,Bool.false_or,QB,PF] at hx;have h1:Lib.decDigits q.num.natAbs=[48]:=wK (hx.1.trans rfl);have h2:=hx.2;rw [gM,gM] at h2;unfold B4 at h2;rw [O3 hd,PE,tz] at h2
  split at h2
  ·rename_i hn; exact hz hn h1
  ·omega
 ·rw [O2 hd]
  refine Gd.bind_eq (Ab (AI hD.CQ) (by have:=h.1; have:=h.2; unfold maxLen; omega)) ?_
  refine Gd.eC (sy _ (by have:=h.1; unfold maxLen; omega)) (λc hc=>?_)
  have hc0:=hc.2 ⟨hD,h.1⟩;subst hc0;refine Gd.ite (λ_=>?_) (λhx=>by simp at hx)
  refine Gd.eC (sy _ (by have:=h.2; unfold maxLen; omega)) (λc hc=>?_)
  have hc0:=hc.2 ⟨hE,h.2⟩;subst hc0;unfold lS;refine Gd.ite (λhx=>?_) (λ_=>Gd.ite (λhx=>by simp at hx) (λ_=>Gd.ite (λ_=>?_) (λhx=>by simp at hx)))
  ·exfalso
   simp only [show decide ((0:Int)=5)=false from rfl,Bool.or_self,Bool.false_or,QB,PF] at hx;have h1:Lib.decDigits q.num.natAbs=[48]:=wK (hx.1.trans rfl);have h2:=hx.2;rw [gM,gM] at h2;unfold B4 at h2;rw [O2 hd,tz] at h2
   split at h2
   ·rename_i hn; exact hz hn h1
   ·omega
  ·refine Gd.eC (FP hD hE h.1 h.2) (λr hr=>?_)
   rw [(lx q.num.natAbs).2,(lx q.den).2] at hr;have hr1:=hr.2 q.reduced;refine Gd.ite (λhx=>?_) (λ_=>Gd.ret rfl);exfalso;simp only [hr1,decide_true,Bool.not_true,Bool.or_false,Qu,PF] at hx;rcases hx with hx | hx
   ·have:=ya ((wK (hx.trans rfl):Lib.decDigits q.den=[48]).trans yb.symm)
    exact q.den_nz this
   ·have:=ya ((wK (hx.trans rfl):Lib.decDigits q.den=[49]).trans uu.symm)
    exact hd this
theorem Le {neg:Bool}{n:List UInt8}{m:Int} (hn:D5 n) (h0:¬ (n=[48]/\neg=true)) (hm:m=if neg=true then -(dv n:Int) else dv n):
  Lib.itoa m=(if neg=true then 45::n else n)/\m.natAbs=dv n:=by
 have hz:dv n=0->n=[48]:=λh=>by
  have e:=vr hn;rw [h,yb] at e; exact e.symm
 rw [tz];cases neg with
 | false=>
  simp only [PZ,Qw] at hm ⊢;rw [O2 (by omega),show m.natAbs=dv n by omega]
  exact ⟨vr hn,rfl⟩
 | true=>
  simp only [SF] at hm ⊢;have hnz:dv n≠0:=λh=>h0 ⟨hz h,rfl⟩;rw [O3 (by omega),show m.natAbs=dv n by omega]
  exact ⟨by rw [vr hn],rfl⟩
theorem G1 (s:ByteArray) (hs:s.size<=maxLen):Gd (oQ s) (λc=>c=0↔∃ q,fits q/\s=ctext q):=by
 have sound:Gd (oQ s) (λc=>c=0->∃ q,fits q/\s=ctext q):=by
  obtain ⟨l,rfl⟩:∃ l,s=ba l:=⟨bl s,(HP s).symm⟩;rw [gM] at hs;unfold oQ;refine Gd.bind_eq (xQ l) ?_;obtain ⟨neg,hneg⟩:∃ neg:Bool,neg=decide (l.head? = some 45):=⟨_,rfl⟩;generalize ht:(if l.head? = some 45 then l.tail else l)=t
  have hl:l=if neg=true then 45::t else t:=by
   by_cases h:l.head? = some 45
   ·rw [O3 h] at ht
    rw [hneg,Uw h,O3 rfl,<- ht];cases l with
    | nil=>cases h
    | cons c r=>simp only [TN,Pf] at h; rw [h]; rfl
   ·rw [O2 h] at ht
    rw [hneg,Uu h,O2 (by simp)]; exact ht
  have htl:t.length<=l.length:=by
   rw [hl]; split
   ·simp
   ·omega
  have hsz:neg=true->(ba t).size<(ba l).size:=λh=>by
   rw [gM,gM,hl,O3 h]; simp
  by_cases hsl:(47:UInt8) ∈ t
  ·obtain ⟨a,b,e,ha,_⟩:∃ a b,t=a++47::b/\(47:UInt8) ∉ a/\True:=by
    rcases sZ 47 t with ⟨h1,_⟩ | ⟨a,b,e,h2,_⟩
    ·exact absurd hsl h1
    ·exact ⟨a,b,e,h2,OV⟩
   have hab:a.length+1+b.length=t.length:=by rw [e]; simp; omega
   rw [e];refine Gd.bind_eq (Ab ha (by omega)) ?_
   refine Gd.eC (sy a (by omega)) (λc1 hc1=>Gd.ite (λ_=>?_) (λhx=>by simp at hx))
   refine Gd.eC (sy b (by omega)) (λc2 hc2=>?_)
   unfold lS;refine Gd.ite (λ_=>Gd.ret (λh=>by simp at h)) (λhA=>Gd.ite (λ_=>Gd.ret (λh=>by simp at h)) (λhB=>Gd.ite (λ_=>?_) (λhx=>by simp at hx)))
   simp only [Tx,Tw,PF] at hB;obtain ⟨n1,n2⟩:=hc1.1 hB.1;obtain ⟨d1,d2⟩:=hc2.1 hB.2;have h0:¬ (a=[48]/\neg=true):=by
    rintro ⟨ea,en⟩;simp only [Tx,Bool.and_eq_false_iff,Uv] at hA;rcases hA.2 with h | h
    ·exact h (by rw [ea]; rfl)
    ·have:=hsz en; rw [e] at this; omega
   refine Gd.eC (FP n1 d1 n2 d2) (λr hr=>Gd.ite (λ_=>Gd.ret (λh=>by simp at h)) (λhC=>Gd.ret (λ_=>?_)))
   simp only [Tx,Tw,PF,Uv] at hC;have hg:=hr.1 hC.2;have hnz:dv b≠0:=λh=>hC.1.1 (by
    have:=vr d1;rw [h,yb] at this; rw [<- this]; rfl)
   have hn1:dv b≠1:=λh=>hC.1.2 (by
    have:=vr d1;rw [h,uu] at this; rw [<- this]; rfl)
   obtain ⟨e1,e2⟩:=Le (neg:=neg) n1 h0 rfl;refine ⟨Rat.mk' (if neg=true then -(dv a:Int) else dv a) (dv b) hnz (by rw [e2]; exact hg),⟨?_,?_⟩,?_⟩
   ·simp only; rw [e2,vr n1]; exact n2
   ·simp only; rw [vr d1]; exact d2
   ·unfold ctext B4
    simp only;rw [e1,O2 hn1,vr d1,hl,e]
    split <;> rfl
  ·refine Gd.bind_eq (Aa hsl) ?_
   refine Gd.eC (sy t (by omega)) (λc1 hc1=>Gd.ite (λhx=>by simp at hx) (λ_=>?_))
   unfold lS;refine Gd.ite (λ_=>Gd.ret (λh=>by simp at h)) (λhA=>Gd.ite (λ_=>Gd.ret (λh=>by simp at h)) (λhB=>Gd.ite (λhx=>by simp at hx) (λ_=>Gd.ret (λ_=>?_))))
   simp only [Tx,Tw,PF] at hB;obtain ⟨n1,n2⟩:=hc1.1 hB.1;have h0:¬ (t=[48]/\neg=true):=by
    rintro ⟨ea,en⟩;simp only [Tx,Bool.and_eq_false_iff,Uv] at hA;rcases hA.2 with h | h
    ·exact h (by rw [ea]; rfl)
    ·have:=hsz en; omega
   obtain ⟨e1,e2⟩:=Le (neg:=neg) n1 h0 rfl;refine ⟨Rat.mk' (if neg=true then -(dv t:Int) else dv t) 1 (by decide) (by rw [e2]; exact Nat.coprime_one_right _),⟨?_,?_⟩,?_⟩
   ·simp only; rw [e2,vr n1]; exact n2
   ·simp only; rw [uu]; decide
   ·unfold ctext B4
    simp only;rw [e1,O3 OV,PE,<- hl]
 obtain ⟨c,e,h⟩:=sound;refine ⟨c,e,h,?_⟩;rintro ⟨q,hq,rfl⟩;rw [E3 hq] at e;exact (OZ e).symm
theorem FC {u k:Nat}{l:List bP} (hw:Wf l) (ht:uF l) (hk:(Lib.decDigits (nv l)).length<=2000):l.length<=300:=by
 rcases QP 300 l.length with h | h
 ·exact absurd (Av (k:=2000) hk) (FM 667 2000 300 (by decide) (by decide) hw ht h)
 ·exact h
theorem ou.small {a:LR} (h:ou a) (hf:fits (rv a)):RL a 300:=by
 obtain ⟨h1,h2⟩:=hf;rw [h.num,jW] at h1;rw [h.den] at h2;exact ⟨FC (u:=0) (k:=0) h.n.wf h.n.tp h1,FC (u:=0) (k:=0) h.d.wf h.d.tp h2⟩
theorem I9 {a:LR} (h:ou a):Gd (oH a) (λr=>(r.2=true↔fits (rv a))/\(r.2=true->r.1=ctext (rv a))):=by
 have e1:(rv a).num.natAbs=nv a.N.words:=by rw [h.num,jW]
 have e2:(rv a).den=nv a.D.words:=h.den;unfold oH;refine Gd.eC (Ap h.n) (λt ht=>Gd.ite (λhf=>Gd.ret ?_) (λhf=>?_))
 ·have hf:t.2=false:=by simpa using hf
  refine ⟨⟨λhh=>by simp at hh,λhh=>?_⟩,λhh=>by simp at hh⟩
  have h1:=ht.1;rw [hf] at h1;have:=hh.1;rw [e1] at this;exact absurd this (O9 h1.symm)
 ·have hf:t.2=true:=by simpa using hf
  have hN:=ht.1;rw [hf] at hN;have hN:=O1 hN.symm;have hNt:=ht.2.1 hf;refine Gd.eC (Ap h.d) (λu hu=>?_);have hval:fJ a.D=((nv a.D.words:Nat):Int):=pA h.pos;have hiff:(u.2=true↔fits (rv a)):=by
   unfold fits;rw [e1,e2,hu.1,PF];exact ⟨λx=>⟨hN,x⟩,λx=>x.2⟩
  have hut:u.2=true->u.1=ba (Lib.decDigits (rv a).den):=λx=>by rw [hu.2.1 x,hval,se,e2]
  have hnt:t.1=ba (Lib.itoa (rv a).num):=by rw [hNt,h.num]; rfl
  refine Gd.ite (λh1=>Gd.ret ⟨hiff,λhh=>?_⟩) (λh1=>Gd.nd ?_ (Gd.nd ?_ (Gd.ret ⟨hiff,λhh=>?_⟩)))
  ·have h1:u.1=(⟨#[49]⟩:ByteArray):=O1 h1
   have:=hut hh;rw [h1] at this;have hd:(rv a).den=1:=ya ((wK (show ba [49]=_ from this)).symm.trans uu.symm);unfold ctext B4;rw [O3 hd,PE]; exact hnt
  ·have:=ht.2.2
   show t.1.size+1<=maxLen;unfold maxLen; omega
  ·have:=ht.2.2
   have:=hu.2.2;rw [Jb];show t.1.size+1+u.1.size<=maxLen;unfold maxLen; omega
  ·have h1:u.1≠(⟨#[49]⟩:ByteArray):=O9 h1
   have h2:=hut hh;have hd:(rv a).den≠1:=λe=>h1 (by rw [h2,e,uu]; rfl)
   unfold ctext B4;rw [O2 hd];simp only;rw [hnt,h2,show (⟨#[47]⟩:ByteArray)=ba [47] from rfl,Eg,Eg,Pr]; rfl
theorem Kl {p q:Rat} (h1:p.num=q.num) (h2:p.den=q.den):p=q:=Rat.ext h1 h2
theorem yU {n:Int} (h:(Lib.decDigits n.natAbs).length<=2000):Gd (kJ (ba (Lib.itoa n))) (λa=>rX a/\a.words.length<=10000/\fJ a=n):=by
 have hD:=lx n.natAbs;have:=F2 hD.1.CQ h (decide (n<0));rw [tz];simp only [PF] at this;refine this.mono (λa ha=>⟨ha.1,ha.2.1,?_⟩);rw [ha.2.2,hD.2]
 split <;> omega
theorem Aq (n:Int):(47:UInt8) ∉ Lib.itoa n:=by
 rw [tz];have:=AI (lx n.natAbs).1.CQ
 split
 ·simp only [PH,not_or]; exact ⟨by decide,this⟩
 ·exact this
theorem FH {n:Int} (h:(Lib.decDigits n.natAbs).length<=2000):(Lib.itoa n).length<=2001:=by
 rw [tz]
 split
 ·simp only [O6]; omega
 ·omega
theorem JS {q:Rat}{k:Nat} (hn:q.num.natAbs<10 ^ k) (hd:q.den<10 ^ k) (hk:1<=k) (hk2:k<=2000):fits q:=
 ⟨P0 (By hk hn) hk2,P0 (By hk hd) hk2⟩
theorem Ey {q:Rat} (h:fits q):(ctext q).size<=10000:=by
 unfold ctext B4;rw [gM,Pg];have:=FH h.1;have:=h.2
 split
 ·simp; omega
 ·simp only [O6]; omega
theorem y9 {l:List ByteArray} (hs:∀ s ∈ l,s.size<=maxLen):Gd (qe l) (λc=>c=0↔∀ s ∈ l,∃ q,fits q/\s=ctext q):=by
 unfold qe;refine Gd.seen (λpre _=>∀ s ∈ pre,∃ q,fits q/\s=ctext q) ?_ (λ_ hI=>Gd.ret ⟨λ_=>hI,λ_=>rfl⟩) () (λs hs=>by cases hs)
 rintro i y _ nx pre ⟨post,hl⟩ hI hnx;have hy:y ∈ l:=by rw [hl]; simp
 unfold rL;refine Gd.eC (G1 y (hs y hy)) (λc hc=>Gd.ite (λh=>Gd.ret ?_) (λh=>hnx () (λz hz=>?_)))
 ·have h:c≠0:=by simpa using h
  exact ⟨λe=>absurd e h,λe=>absurd (hc.2 (e y hy)) h⟩
 ·have h:c=0:=by simpa using h
  rcases Pa.1 hz with hz | hz
  ·exact hI z hz
  ·rw [PA] at hz; subst hz; exact hc.1 h
def RB (q:Rat) (L:Nat):Prop:=∃ r:LR,ou r/\RL r L/\rv r=q
theorem ou.rb {r:LR} (h:ou r) {L:Nat} (hb:RB (rv r) L):RL r L:=by
 obtain ⟨s,h1,h2,h3⟩:=hb;rw [h.ext' h1 h3.symm]; exact h2
theorem RB.mono {q:Rat}{L M:Nat} (h:RB q L) (hM:L<=M):RB q M:=by
 obtain ⟨s,h1,h2,h3⟩:=h;exact ⟨s,h1,h2.mono hM,h3⟩
theorem RB.add {p q:Rat}{A B:Nat} (h:RB p A) (k:RB q B) (hz:A+B<=800000):RB (p+q) (A+B+1):=by
 obtain ⟨a,h1,h2,h3⟩:=h; obtain ⟨b,k1,k2,k3⟩:=k
 obtain ⟨r,_,r1,r2,r3⟩:=vJ h1 k1 h2 k2 hz;exact ⟨r,r1,r2,by rw [r3,h3,k3]⟩
theorem RB.sub {p q:Rat}{A B:Nat} (h:RB p A) (k:RB q B) (hz:A+B<=800000):RB (p-q) (A+B+1):=by
 obtain ⟨a,h1,h2,h3⟩:=h; obtain ⟨b,k1,k2,k3⟩:=k
 obtain ⟨r,_,r1,r2,r3⟩:=xb h1 k1 h2 k2 hz;exact ⟨r,r1,r2,by rw [r3,h3,k3]⟩
theorem RB.mul {p q:Rat}{A B:Nat} (h:RB p A) (k:RB q B) (hz:A+B<=800000):RB (p*q) (A+B):=by
 obtain ⟨a,h1,h2,h3⟩:=h; obtain ⟨b,k1,k2,k3⟩:=k
 obtain ⟨r,_,r1,r2,r3⟩:=yx h1 k1 h2 k2 hz;exact ⟨r,r1,r2,by rw [r3,h3,k3]⟩
theorem LX {w:List bP} (hw:Wf w) (ht:uF w) {k:Nat} (h:nv w<WB ^ k):w.length<=k:=by
 rcases QP k w.length with hl | hl
 ·exfalso
  have hne:w≠[]:=λe=>by rw [e] at hl; simp at hl
  have h1:=DJ hw ht hne;have h2:WB ^ k<=WB ^ (w.length-1):=Ua (by decide) (by omega)
  exact absurd h (Nat.not_lt.2 (P0 h2 h1))
 ·exact hl
theorem Hh (k m:Nat) (h:32*k<=3*m):WB ^ k<=10 ^ m:=by
 have h3:(2:Nat) ^ (32*k)<=2 ^ (3*m):=Ua (by decide) h
 have h5:((2:Nat) ^ 3) ^ m<=10 ^ m:=T_ (by decide) m
 rw [<- Uc] at h5;rw [zK k];exact P0 h3 h5
theorem Jr {k:Nat} (hk:k<=187):WB ^ k<=10 ^ 2000:=Hh k 2000 (by omega)
theorem RB.fits {q:Rat}{L:Nat} (h:RB q L) (hL:L<=187):fits q:=by
 obtain ⟨r,h1,h2,rfl⟩:=h;have e:=Jr hL;have key:∀ {w:List bP},Wf w->w.length<=L->nv w<10 ^ 2000:=λhw hl=>
  Rz (rS hw) (P0 (Ua (by decide) hl) e)
 refine JS (k:=2000) ?_ ?_ (by decide) (Pl _)
 ·rw [h1.num,jW]; exact key h1.n.wf h2.1
 ·rw [h1.den]; exact key h1.d.wf h2.2
theorem Lj {m:Int}{k:Nat} (h:m.natAbs<WB ^ k) (hk:k<=187):∃ a:LI,rX a/\a.words.length<=k/\fJ a=m:=by
 obtain ⟨a,_,h1,h2,h3⟩:=yU (n:=m) (By (by decide) (Rz h (Jr hk)))
 exact ⟨a,h1,LX h1.wf h1.tp (by rw [<- jW,h3]; exact h),h3⟩
theorem RB.ratio {m d:Int}{k:Nat} (h:m.natAbs<WB ^ k) (hd:d.natAbs<WB ^ k) (h0:d≠0) (hk:k<=187):RB ((m:Rat) / (d:Rat)) k:=by
 obtain ⟨a,a1,a2,a3⟩:=Lj h hk;obtain ⟨b,b1,b2,b3⟩:=Lj hd hk;obtain ⟨r,_,r1,r2,r3,r4⟩:=wV a1 b1 (by rw [<- jW,b3]; omega) (by omega) (by omega)
 exact ⟨r,r1,⟨by omega,by omega⟩,by rw [r4,a3,b3,Rat.divInt_eq_div]⟩
theorem RB.int {m:Int}{k:Nat} (h:m.natAbs<WB ^ k) (h1:1<=k) (hk:k<=187):RB (m:Rat) k:=by
 have:=RB.ratio (m:=m) (d:=1) h (by
  have:WB ^ 1<=WB ^ k:=Ua (by decide) h1
  have:WB ^ 1=4294967296:=by decide
  show 1<WB ^ k;omega) (by decide) hk
 have e:(m:Rat) / ((1:Int):Rat)=(m:Rat):=by rw [Rat.intCast_one]; grind
 rwa [e] at this
theorem RB.small {m:Int} (h:m.natAbs<4294967296):RB (m:Rat) 1:=RB.int (k:=1) (by show m.natAbs<4294967296 ^ 1; omega) (by decide) (by decide)
theorem RB.NN {m d:Int} (h:m.natAbs<4294967296) (hd:d.natAbs<4294967296) (h0:d≠0):RB ((m:Rat) / (d:Rat)) 1:=
 RB.ratio (k:=1) (by show m.natAbs<4294967296 ^ 1; omega) (by show d.natAbs<4294967296 ^ 1; omega) h0 (by decide)
theorem DL {q:Rat} (h:fits q):Gd (pG (ctext q)) (λa=>ou a/\RL a 300/\rv a=q):=by
 have fin:∀ a:LR,rX a.N->rX a.D->fJ a.N=q.num->fJ a.D=(q.den:Int)->ou a/\RL a 300/\rv a=q:=λa h1 h2 h3 h4=>by
  have hp:a.D.minus=false:=h2.plus (by omega)
  have hd:nv a.D.words=q.den:=by
   have:=pA hp;omega
  have hok:ou a:=⟨h1,h2,hp,by rw [hd]; exact q.den_nz,by rw [hd,<- jW,h3]; exact q.reduced⟩
  have hv:rv a=q:=Kl (by rw [hok.num,h3]) (by rw [hok.den,hd])
  exact ⟨hok,hok.small (by rw [hv]; exact h),hv⟩
 have hl:=FH h.1;unfold pG ctext B4
 by_cases hd:q.den=1
 ·rw [O3 hd,PE]
  refine Gd.bind_eq (Aa (Aq _)) (Gd.ite (λ_=>?_) (λhx=>by simp at hx))
  refine Gd.eC (yU h.1) (λa ha=>Gd.eC (AM (n:=1) (by omega)) (λb hb=>Gd.ret ?_))
  exact fin _ ha.1 hb.1 ha.2.2 (by rw [hb.2.2,hd]; rfl)
 ·rw [O2 hd]
  refine Gd.bind_eq (Ab (Aq _) (by have:=h.2; unfold maxLen; omega)) (Gd.ite (λhx=>by simp at hx) (λ_=>?_))
  refine Gd.eC (yU h.1) (λa ha=>Gd.eC (AT (lx q.den).1 h.2) (λb hb=>Gd.ret ?_));exact fin _ ha.1 hb.1 ha.2.2 (by rw [hb.2.2,(lx q.den).2])
end Go.Sim
namespace Go.Sim
open _root_.Go.IntKind (i64 u64 u32 u8)
def sm:Nat->(Nat->Rat)->Rat
 | 0,_=>0
 | n+1,f=>sm n f+f n
def pr:Nat->(Nat->Rat)->Rat
 | 0,_=>1
 | n+1,f=>pr n f*f n
theorem oh {f g:Nat->Rat}:∀ {n:Nat},(∀ i,i<n->f i=g i)->sm n f=sm n g
 | 0,_=>rfl
 | n+1,h=>by
  unfold sm;rw [oh (λi hi=>h i (by omega)),h n (by omega)]
theorem vf {f g:Nat->Rat}:∀ {n:Nat},(∀ i,i<n->f i=g i)->pr n f=pr n g
 | 0,_=>rfl
 | n+1,h=>by
  unfold pr;rw [vf (λi hi=>h i (by omega)),h n (by omega)]
theorem uE {f:Nat->Rat}:∀ {n:Nat},(∀ i,i<n->f i=0)->sm n f=0
 | 0,_=>rfl
 | n+1,h=>by
  unfold sm;rw [uE (λi hi=>h i (by omega)),h n (by omega)]; grind
theorem vM (f g:Nat->Rat):∀ n:Nat,sm n (λi=>f i+g i)=sm n f+sm n g
 | 0=>by unfold sm; grind
 | n+1=>by unfold sm; rw [vM f g n]; grind
theorem qM (a:Rat) (f:Nat->Rat):∀ n:Nat,sm n (λi=>a*f i)=a*sm n f
 | 0=>by unfold sm; grind
 | n+1=>by unfold sm; rw [qM a f n]; grind
theorem AZ {f:Nat->Rat}{p:Nat}:∀ {n:Nat},p<n->(∀ i,i<n->i≠p->f i=0)->sm n f=f p
 | 0,h,_=>by omega
 | n+1,h,hz=>by
  unfold sm
  by_cases e:p=n
  ·subst e
   rw [uE (λi hi=>hz i (by omega) (by omega))]; grind
  ·rw [AZ (by omega) (λi hi hne=>hz i (by omega) hne),hz n (by omega) (λh=>e h.symm)]; grind
theorem Je {f:Nat->Rat}{p:Nat}:∀ {n:Nat},p+1<n->(∀ i,i<n->i≠p->i≠p+1->f i=0)->sm n f=f p+f (p+1)
 | 0,h,_=>by omega
 | n+1,h,hz=>by
  unfold sm
  by_cases e:p+1=n
  ·subst e
   rw [AZ (p:=p) (by omega) (λi hi hne=>hz i (by omega) hne (by omega))]
  ·rw [Je (by omega) (λi hi h1 h2=>hz i (by omega) h1 h2),hz n (by omega) (by omega) (λh=>e h.symm)]; grind
theorem sA {f:Nat->Rat}:∀ {n:Nat},(∀ i,i<n->0<=f i)->0<=sm n f
 | 0,_=>Uo
 | n+1,h=>by
  unfold sm;have h1:=sA (n:=n) (λi hi=>h i (by omega))
  have h2:=h n (by omega)
  grind
theorem Jd {f g:Nat->Rat}:∀ {n:Nat},(∀ i,i<n->f i<=g i)->sm n f<=sm n g
 | 0,_=>Uo
 | n+1,h=>by
  unfold sm;have h1:=Jd (n:=n) (λi hi=>h i (by omega))
  have h2:=h n (by omega)
  grind
theorem me {f:Nat->Rat}:∀ {n:Nat},(∀ i,i<n->0<=f i)->0<=pr n f
 | 0,_=>by unfold pr; decide
 | n+1,h=>by
  unfold pr;exact Us (me (n:=n) (λi hi=>h i (by omega))) (h n (by omega))
theorem pL {a b c d:Rat} (h1:a<=b) (h2:c<=d) (a0:0<=a) (c0:0<=c):a*c<=b*d:=by
 have x1:a*c<=b*c:=Rat.mul_le_mul_of_nonneg_right h1 c0;have x2:b*c<=b*d:=Rat.mul_le_mul_of_nonneg_left h2 (by grind)
 exact Up x1 x2
theorem FW {f g:Nat->Rat}:∀ {n:Nat},(∀ i,i<n->0<=f i)->(∀ i,i<n->f i<=g i)->pr n f<=pr n g
 | 0,_,_=>Uo
 | n+1,h0,h=>by
  unfold pr;exact pL (FW (λi hi=>h0 i (by omega)) (λi hi=>h i (by omega))) (h n (by omega)) (me (λi hi=>h0 i (by omega))) (h0 n (by omega))
theorem CC (f g:Nat->Rat):∀ n:Nat,pr n (λi=>f i*g i)=pr n f*pr n g
 | 0=>by unfold pr; grind
 | n+1=>by unfold pr; rw [CC f g n]; grind
abbrev Mt:=Nat->Nat->Rat
def skip (p i:Nat):Nat:=if i<p then i else i+1
def minor (M:Mt) (p:Nat):Mt:=λr c=>M (skip p r) (c+1)
def sg (i:Nat):Rat:=if i%2=0 then 1 else -1
def pW:Nat->Mt->Rat
 | 0,_=>1
 | n+1,M=>sm (n+1) (λi=>sg i*M i 0*pW n (minor M i))
def row (M:Mt) (p:Nat) (x:Nat->Rat):Mt:=λr=>if r=p then x else M r
theorem w8:∀ {n:Nat}{M M':Mt},(∀ r c,r<n->c<n->M r c=M' r c)->pW n M=pW n M'
 | 0,_,_,_=>rfl
 | n+1,M,M',h=>by
  unfold pW;refine oh (λi hi=>?_);rw [h i 0 hi (by omega),w8 (λr c hr hc=>?_)]
  unfold minor;exact h _ _ (by unfold skip; split <;> omega) (by omega)
theorem uf (M:Mt) (p:Nat) (x:Nat->Rat):minor (row M p x) p=minor M p:=by
 funext r c
 unfold minor row;rw [O2 (by unfold skip; split <;> omega)]
theorem vE (M:Mt) {p i:Nat} (h:p<i) (x:Nat->Rat):minor (row M p x) i=row (minor M i) p (λc=>x (c+1)):=by
 funext r c
 unfold minor row
 by_cases e:r=p
 ·subst e
  rw [O3 (by unfold skip; rw [O3 h]),O3 rfl]
 ·rw [O2 (by unfold skip; split <;> omega),O2 e]
theorem vD (M:Mt) {p i:Nat} (h:i<p) (x:Nat->Rat):minor (row M p x) i=row (minor M i) (p-1) (λc=>x (c+1)):=by
 funext r c
 unfold minor row
 by_cases e:r=p-1
 ·subst e
  rw [O3 (by unfold skip; split <;> omega),O3 rfl]
 ·rw [O2 (by unfold skip; split <;> omega),O2 e]
theorem yc:∀ {n:Nat} (M:Mt) {p:Nat} (hp:p<n) (a b:Rat) (x y:Nat->Rat),pW n (row M p (λc=>a*x c+b*y c))=a*pW n (row M p x)+b*pW n (row M p y)
 | 0,_,_,h,_,_,_,_=>by omega
 | n+1,M,p,hp,a,b,x,y=>by
  unfold pW;rw [<- qM,<- qM,<- vM];refine oh (λi hi=>?_);rcases RX i p with h | h | h
  ·rw [vD M h,vD M h,vD M h,yc (minor M i) (by omega) a b (λc=>x (c+1)) (λc=>y (c+1))]
   unfold row;rw [O2 (by omega),O2 (by omega),O2 (by omega)]
   grind
  ·subst h
   rw [uf,uf,uf];unfold row;rw [O3 rfl,O3 rfl,O3 rfl]
   grind
  ·rw [vE M h,vE M h,vE M h,yc (minor M i) (by omega) a b (λc=>x (c+1)) (λc=>y (c+1))]
   unfold row;rw [O2 (by omega),O2 (by omega),O2 (by omega)]
   grind
theorem Kt (i:Nat):sg (i+1) = - sg i:=by
 unfold sg
 by_cases h:i%2=0
 ·rw [O3 h,O2 (by omega)]
 ·rw [if_neg h,if_pos (by omega)]; grind
theorem zv:∀ {n:Nat}{M:Mt}{p:Nat},p+1<n->(∀ c,c<n->M p c=M (p+1) c)->pW n M=0
 | 0,_,_,h,_=>by omega
 | n+1,M,p,hp,he=>by
  unfold pW;rw [Je (p:=p) hp (λi hi h1 h2=>?_)]
  ·have:pW n (minor M p)=pW n (minor M (p+1)):=w8 (λr c hr hc=>by
    unfold minor skip
    by_cases e:r=p
    ·subst e
     rw [O2 (by omega),O3 (by omega)]
     exact (he (c+1) (by omega)).symm
    ·by_cases e2:r<p
     ·rw [O3 e2,O3 (by omega)]
     ·rw [O2 e2,O2 (by omega)])
   rw [this,Kt,he 0 (by omega)]
   grind
  ·have:pW n (minor M i)=0:=by
    rcases RX i p with h | h | h
    ·refine zv (p:=p-1) (by omega) (λc hc=>?_)
     unfold minor skip;rw [O2 (by omega),O2 (by omega),show p-1+1=p by omega]
     exact he (c+1) (by omega)
    ·exact absurd h h1
    ·refine zv (p:=p) (by omega) (λc hc=>?_)
     unfold minor skip;rw [O3 (by omega),O3 (by omega)]
     exact he (c+1) (by omega)
   rw [this]; grind
theorem AW (M:Mt) (p:Nat):row M p (M p)=M:=by
 funext r
 unfold row
 by_cases e:r=p
 ·subst e; rw [O3 rfl]
 ·rw [O2 e]
theorem vh (M:Mt) {p q:Nat} (h:p≠q) (x y:Nat->Rat):row (row M p x) q y=row (row M q y) p x:=by
 funext r
 unfold row
 by_cases e:r=q
 ·subst e; rw [O3 rfl,O2 (λe=>h e.symm),O3 rfl]
 ·rw [O2 e]
  by_cases e2:r=p
  ·rw [O3 e2,O3 e2]
  ·rw [O2 e2,O2 e2,O2 e]
theorem Ac {n:Nat} (M:Mt) {p:Nat} (hp:p<n) (x y:Nat->Rat):pW n (row M p (λc=>x c+y c))=pW n (row M p x)+pW n (row M p y):=by
 have:=yc M hp 1 1 x y;simp only [Rat.one_mul] at this;exact this
theorem Ia {n:Nat} (M:Mt) {p:Nat} (hp:p+1<n) (x y:Nat->Rat):pW n (row (row M p x) (p+1) y) = - pW n (row (row M p y) (p+1) x):=by
 have two:∀ u:Nat->Rat,pW n (row (row M p u) (p+1) u)=0:=λu=>zv hp (λc hc=>by
  unfold row;rw [O2 (by omega),O3 rfl,O3 rfl])
 have h:=two (λc=>x c+y c);have hne:p≠p+1:=by omega
 rw [Ac _ hp,vh M hne,vh M hne,Ac _ (by omega),Ac _ (by omega),<- vh M hne,<- vh M hne,<- vh M hne,<- vh M hne,two x,two y] at h
 grind
theorem B6:∀ (k:Nat) {n:Nat}{M:Mt}{p q:Nat},q=p+1+k->q<n->(∀ c,M p c=M q c)->pW n M=0
 | 0,n,M,p,q,hq,hn,he=>by
  subst hq;exact zv (by omega) (λc _=>he c)
 | k+1,n,M,p,q,hq,hn,he=>by
  have e1:pW n M=pW n (row (row M (q-1) (M (q-1))) (q-1+1) (M (q-1+1))):=by
   rw [AW,AW]
  rw [e1,Ia M (by omega)]
  have:pW n (row (row M (q-1) (M (q-1+1))) (q-1+1) (M (q-1)))=0:=by
   refine B6 k (p:=p) (q:=q-1) (by omega) (by omega) (λc=>?_)
   unfold row;rw [O2 (by omega),O2 (by omega),O2 (by omega),O3 rfl,show q-1+1=q by omega]
   exact he c
  rw [this]; grind
theorem H9 {n:Nat}{M:Mt}{p q:Nat} (hp:p<n) (hq:q<n) (hne:p≠q) (he:∀ c,M p c=M q c):pW n M=0:=by
 rcases QP p q with h | h
 ·exact B6 (q-p-1) (p:=p) (q:=q) (by omega) hq he
 ·exact B6 (p-q-1) (p:=q) (q:=p) (by omega) hp (λc=>(he c).symm)
theorem B8 {n:Nat} (M:Mt) {p:Nat} (hp:p<n):pW n (row M p (λ_=>0))=0:=by
 have:=yc M hp 0 0 (λ_=>0) (λ_=>0);have e:(λc:Nat=>(0:Rat)*(λ_:Nat=>(0:Rat)) c+0*(λ_:Nat=>(0:Rat)) c)=λ_=>0:=by funext c; grind
 rw [e] at this;rw [this]; grind
theorem Ad {n:Nat} (M:Mt) {p:Nat} (hp:p<n) (x:Nat->Rat) (Y:Mt):∀ k:Nat,pW n (row M p (λc=>sm k (λj=>x j*Y j c)))=sm k (λj=>x j*pW n (row M p (Y j)))
 | 0=>B8 M hp
 | k+1=>by
  have e:(λc=>sm (k+1) (λj=>x j*Y j c))=λc=>1*sm k (λj=>x j*Y j c)+x k*Y k c:=by
   funext c
   show sm k (λj=>x j*Y j c)+x k*Y k c=_;rw [Rat.one_mul]
  rw [e,yc M hp 1 (x k) (λc=>sm k (λj=>x j*Y j c)) (Y k),Ad M hp x Y k];show _=sm k _+_
  grind
theorem Dd {n:Nat} (M:Mt) {p:Nat} (hp:p<n) (x:Nat->Rat):pW n (row M p (λc=>sm n (λj=>x j*M j c)))=x p*pW n M:=by
 rw [Ad M hp,AZ hp (λj hj hne=>?_),AW];have:pW n (row M p (M j))=0:=H9 hp hj (λe=>hne e.symm) (λc=>by
  unfold row;rw [O3 rfl,O2 hne])
 rw [this]; grind
theorem H6 {n:Nat}{M:Mt}{x b:Nat->Rat} (h:∀ c,c<n->sm n (λj=>x j*M j c)=b c) {p:Nat} (hp:p<n):pW n (row M p b)=x p*pW n M:=by
 rw [<- Dd M hp];refine w8 (λr c hr hc=>?_);unfold row
 by_cases e:r=p
 ·rw [O3 e,O3 e]; exact (h c hc).symm
 ·rw [O2 e,O2 e]
theorem De:∀ {n:Nat}{M:Mt},(∀ c,c<n->M n c=0)->pW (n+1) M=M n n*pW n M
 | 0,M,_=>by
  show (0:Rat)+sg 0*M 0 0*1=M 0 0*1;have:sg 0=1:=rfl;rw [this]; grind
 | n+1,M,h=>by
  have e1:pW (n+1+1) M=sm (n+1) (λi=>sg i*M i 0*pW (n+1) (minor M i))+sg (n+1)*M (n+1) 0*pW (n+1) (minor M (n+1)):=rfl;have e2:pW (n+1) M=sm (n+1) (λi=>sg i*M i 0*pW n (minor M i)):=rfl;rw [e1,e2,h 0 (by omega),<- qM]
  have:sm (n+1) (λi=>sg i*M i 0*pW (n+1) (minor M i))=sm (n+1) (λi=>M (n+1) (n+1)*(sg i*M i 0*pW n (minor M i))):=by
   refine oh (λi hi=>?_);have hs:skip i n=n+1:=by unfold skip; rw [O2 (by omega)]
   have hl:pW (n+1) (minor M i)=minor M i n n*pW n (minor M i):=De (λc hc=>by
    unfold minor;rw [hs];exact h (c+1) (by omega))
   have hm:minor M i n n=M (n+1) (n+1):=by unfold minor; rw [hs]
   rw [hl,hm]; grind
  rw [this]; grind
def tx (q:Rat):Prop:=∃ z:Int,q=(z:Rat)
theorem yg {a b:Rat} (h:tx a) (k:tx b):tx (a+b):=by
 obtain ⟨x,rfl⟩:=h; obtain ⟨y,rfl⟩:=k
 exact ⟨x+y,(Rat.intCast_add x y).symm⟩
theorem rD {a b:Rat} (h:tx a) (k:tx b):tx (a*b):=by
 obtain ⟨x,rfl⟩:=h; obtain ⟨y,rfl⟩:=k
 exact ⟨x*y,(Um x y).symm⟩
theorem LO (i:Nat):tx (sg i):=by
 unfold sg
 split
 ·exact ⟨1,rfl⟩
 ·exact ⟨-1,rfl⟩
theorem EM {f:Nat->Rat}:∀ {n:Nat},(∀ i,i<n->tx (f i))->tx (sm n f)
 | 0,_=>⟨0,rfl⟩
 | n+1,h=>by unfold sm; exact yg (EM (λi hi=>h i (by omega))) (h n (by omega))
theorem B7:∀ {n:Nat}{M:Mt},(∀ r c,r<n->c<n->tx (M r c))->tx (pW n M)
 | 0,_,_=>⟨1,rfl⟩
 | n+1,M,h=>by
  unfold pW;exact EM (λi hi=>rD (rD (LO i) (h i 0 hi (by omega))) (B7 (λr c hr hc=>h _ _ (by unfold skip; split <;> omega) (by omega))))
theorem FY (v w:Nat->Rat) (hv:∀ i,0<=v i) (hw:∀ i,0<=w i):∀ n:Nat,sm (n+1) (λi=>v i*pr n (λr=>w (skip i r)))+pr (n+1) w<=pr (n+1) (λr=>v r+w r)
 | 0=>by
  show 0+v 0*1+1*w 0<=1*(v 0+w 0)
  grind
 | n+1=>by
  have ih:=FY v w hv hw n;have e1:sm (n+1+1) (λi=>v i*pr (n+1) (λr=>w (skip i r)))=sm (n+1) (λi=>v i*pr (n+1) (λr=>w (skip i r)))+v (n+1)*pr (n+1) (λr=>w (skip (n+1) r)):=rfl;have e2:sm (n+1) (λi=>v i*pr (n+1) (λr=>w (skip i r)))=w (n+1)*sm (n+1) (λi=>v i*pr n (λr=>w (skip i r))):=by
   rw [<- qM];refine oh (λi hi=>?_);have:pr (n+1) (λr=>w (skip i r))=pr n (λr=>w (skip i r))*w (n+1):=by
    show pr n _*w (skip i n)=_;rw [show skip i n=n+1 by unfold skip; rw [O2 (by omega)]]
   rw [this]; grind
  have e3:pr (n+1) (λr=>w (skip (n+1) r))=pr (n+1) w:=vf (λr hr=>by unfold skip; rw [O3 hr])
  have e4:pr (n+1+1) w=pr (n+1) w*w (n+1):=rfl;have e5:pr (n+1+1) (λr=>v r+w r)=pr (n+1) (λr=>v r+w r)*(v (n+1)+w (n+1)):=rfl;rw [e1,e2,e3,e4,e5];have s0:0<=sm (n+1) (λi=>v i*pr n (λr=>w (skip i r))):=sA (λi _=>Rat.mul_nonneg (hv i) (me (λr _=>hw _)));have m1:=Rat.mul_le_mul_of_nonneg_right ih (show (0:Rat)<=v (n+1)+w (n+1) by have:=hv (n+1); have:=hw (n+1); grind)
  have m2:=Us s0 (hv (n+1))
  grind
theorem EA:∀ {n:Nat}{M A:Mt},(∀ r c,0<=A r c)->(∀ r c,r<n->c<n->-A r c<=M r c/\M r c<=A r c)->-pr n (λr=>sm n (A r))<=pW n M/\pW n M<=pr n (λr=>sm n (A r))
 | 0,_,_,_,_=>by unfold pW pr; exact ⟨by decide,by decide⟩
 | n+1,M,A,h0,h=>by
  have hsplit:∀ r,sm (n+1) (A r)=A r 0+sm n (λc=>A r (c+1)):=λr=>by
   have:∀ k,sm (k+1) (A r)=A r 0+sm k (λc=>A r (c+1)):=λk=>by
    induction k with
    | zero=>show 0+A r 0=A r 0+0; grind
    | succ k ih=>
     have e1:sm (k+1+1) (A r)=sm (k+1) (A r)+A r (k+1):=rfl;have e2:sm (k+1) (λc=>A r (c+1))=sm k (λc=>A r (c+1))+A r (k+1):=rfl;rw [e1,e2,ih]; grind
   exact this n
  have hw:∀ r,0<=sm n (λc=>A r (c+1)):=λr=>sA (λc _=>h0 r (c+1));have hp:=FY (λr=>A r 0) (λr=>sm n (λc=>A r (c+1))) (λr=>h0 r 0) hw n;have hP:pr (n+1) (λr=>sm (n+1) (A r))=pr (n+1) (λr=>A r 0+sm n (λc=>A r (c+1))):=vf (λr _=>hsplit r);have hw1:=me (n:=n+1) (f:=λr=>sm n (λc=>A r (c+1))) (λr _=>hw r);have term:∀ i,i<n+1->-(A i 0*pr n (λr=>sm n (λc=>A (skip i r) (c+1))))<=sg i*M i 0*pW n (minor M i)/\sg i*M i 0*pW n (minor M i)<=A i 0*pr n (λr=>sm n (λc=>A (skip i r) (c+1))):=λi hi=>by
   obtain ⟨d1,d2⟩:=EA (n:=n) (M:=minor M i) (A:=λr c=>A (skip i r) (c+1)) (λr c=>h0 _ _) (λr c hr hc=>h _ _ (by unfold skip; split <;> omega) (by omega))
   obtain ⟨m1,m2⟩:=h i 0 hi (by omega)
   have key:∀ a b x y:Rat,-a<=x->x<=a->-b<=y->y<=b->-(a*b)<=x*y/\x*y<=a*b:=λa b x y h1 h2 h3 h4=>by
    have t1:=Rat.mul_nonneg (show (0:Rat)<=a-x by grind) (show (0:Rat)<=b-y by grind)
    have t2:=Rat.mul_nonneg (show (0:Rat)<=a+x by grind) (show (0:Rat)<=b+y by grind)
    have t3:=Rat.mul_nonneg (show (0:Rat)<=a-x by grind) (show (0:Rat)<=b+y by grind)
    have t4:=Rat.mul_nonneg (show (0:Rat)<=a+x by grind) (show (0:Rat)<=b-y by grind)
    constructor <;> grind
   obtain ⟨k1,k2⟩:=key _ _ _ _ m1 m2 d1 d2;unfold sg
   split
   ·constructor <;> grind
   ·constructor <;> grind
  rw [hP];have hle:sm (n+1) (λi=>A i 0*pr n (λr=>sm n (λc=>A (skip i r) (c+1))))<=pr (n+1) (λr=>A r 0+sm n (λc=>A r (c+1))):=by grind
  have up:pW (n+1) M<=sm (n+1) (λi=>A i 0*pr n (λr=>sm n (λc=>A (skip i r) (c+1)))):=Jd (λi hi=>(term i hi).2);have lo:sm (n+1) (λi=>(-1)*(A i 0*pr n (λr=>sm n (λc=>A (skip i r) (c+1)))))<=pW (n+1) M:=Jd (λi hi=>by have:=(term i hi).1; grind)
  rw [qM] at lo;constructor <;> grind
theorem H_ {k:Nat}{M:Mt}{x:Nat->Rat} (hx:x k=1) (h0:∀ c,c<k->sm (k+1) (λj=>x j*M j c)=0):pW (k+1) M=sm (k+1) (λj=>x j*M j k)*pW k M:=by
 have h1:=Dd M (Q3 k) x;rw [hx,Rat.one_mul] at h1;rw [<- h1];have h2:pW (k+1) (row M k (λc=>sm (k+1) (λj=>x j*M j c)))=(row M k (λc=>sm (k+1) (λj=>x j*M j c))) k k*pW k (row M k (λc=>sm (k+1) (λj=>x j*M j c))):=De (λc hc=>by
  unfold row;rw [O3 rfl];exact h0 c hc)
 rw [h2];have h3:pW k (row M k (λc=>sm (k+1) (λj=>x j*M j c)))=pW k M:=w8 (λr c hr hc=>by
  unfold row;rw [O2 (by omega)])
 rw [h3];unfold row;rw [O3 rfl]
theorem Ex {k:Nat}{M:Mt}{x b:Nat->Rat} (hM:∀ r c,r<k->c<k->tx (M r c)) (hb:∀ c,c<k->tx (b c)) (h:∀ c,c<k->sm k (λj=>x j*M j c)=b c) {p:Nat} (hp:p<k):tx (x p*pW k M):=by
 rw [<- H6 h hp];refine B7 (λr c hr hc=>?_);unfold row
 by_cases e:r=p
 ·rw [O3 e]; exact hb c hc
 ·rw [O2 e]; exact hM r c hr hc
theorem CD {f:Nat->Rat}:∀ {n:Nat},(∀ i,i<n->1<=f i)->1<=pr n f
 | 0,_=>by unfold pr; decide
 | n+1,h=>by
  unfold pr;have h1:=CD (n:=n) (λi hi=>h i (by omega))
  have h2:=h n (by omega)
  have:=pL h1 h2 (by decide) (by decide)
  grind
theorem IZ {f:Nat->Rat}{s:Rat} (hs:0<=s) {p:Nat}:∀ {n:Nat},p<n->(∀ i,i<n->1<=f i)->pr n (λr=>if r=p then s else f r)<=pr n f*s
 | 0,h,_=>by omega
 | n+1,h,h1=>by
  have hf:∀ i,i<n+1->0<=f i:=λi hi=>by have:=h1 i hi; grind
  have hp0:=me (n:=n) (f:=f) (λi hi=>hf i (by omega))
  by_cases e:p=n
  ·subst e
   show pr p (λr=>if r=p then s else f r)*(if p=p then s else f p)<=pr p f*f p*s
   rw [O3 rfl];have e2:pr p (λr=>if r=p then s else f r)=pr p f:=vf (λi hi=>O2 (by omega))
   rw [e2];have hps:=Us hp0 hs;have:=pL (Uo (a:=pr p f*s)) (h1 p (by omega)) hps (by decide)
   grind
  ·show pr n (λr=>if r=p then s else f r)*(if n=p then s else f n)<=pr n f*f n*s
   rw [O2 (λe2:n=p=>e e2.symm)];have hpn:p<n:=by omega
   have ih:=IZ (f:=f) hs hpn (λi hi=>h1 i (Nat.lt_succ_of_lt hi));have:=Rat.mul_le_mul_of_nonneg_right ih (hf n (by omega))
   grind
theorem GD {k:Nat}{M A:Mt}{x b a:Nat->Rat}{S:Rat} (hA0:∀ r c,0<=A r c) (ha0:∀ c,0<=a c) (hM:∀ r c,r<k->c<k->-A r c<=M r c/\M r c<=A r c) (hb:∀ c,c<k->-a c<=b c/\b c<=a c)
  (h1:∀ r,r<k->1<=sm k (A r)) (hS:sm k a<=S) (h:∀ c,c<k->sm k (λj=>x j*M j c)=b c) {p:Nat} (hp:p<k):-(pr k (λr=>sm k (A r))*S)<=x p*pW k M/\x p*pW k M<=pr k (λr=>sm k (A r))*S:=by
 rw [<- H6 h hp];obtain ⟨d1,d2⟩:=EA (n:=k) (M:=row M p b) (A:=row A p a) (λr c=>by
  unfold row
  by_cases e:r=p
  ·rw [O3 e]; exact ha0 c
  ·rw [O2 e]; exact hA0 r c) (λr c hr hc=>by
  unfold row
  by_cases e:r=p
  ·rw [O3 e,O3 e]; exact hb c hc
  ·rw [O2 e,O2 e]; exact hM r c hr hc)
 have hs0:0<=sm k a:=sA (λc _=>ha0 c);have e1:pr k (λr=>sm k (row A p a r))=pr k (λr=>if r=p then sm k a else sm k (A r)):=vf (λr _=>by
  unfold row
  by_cases e:r=p
  ·rw [O3 e,O3 e]
  ·rw [O2 e,O2 e])
 rw [e1] at d1 d2;have h2:=IZ hs0 (p:=p) (n:=k) (f:=λr=>sm k (A r)) hp h1;have h3:=Rat.mul_le_mul_of_nonneg_left hS (me (n:=k) (f:=λr=>sm k (A r)) (λr hr=>by have:=h1 r hr; grind))
 have h4:=Rat.le_trans h2 h3;constructor <;> grind
def dl (i j:Nat):Rat:=if i=j then 1 else 0
theorem qi (i:Nat):dl i i=1:=O3 rfl
theorem pz {i j:Nat} (h:i≠j):dl i j=0:=O2 h
structure Gj (n:Nat) (A:Mt) (k:Nat) (m:Mt):Prop where
 comb:∀ i c,i<n->c<n->m i c=sm n (λj=>m i (n+j)*A j c)
 right:∀ i j,i<n->j<n->k<=j->m i (n+j)=dl i j
 left:∀ i c,i<n->c<n->c<k->m i c=dl i c
def tR (k:Nat) (m:Mt):Mt:=λi c=>if i=k then m k c / m k k else m i c-m i k*(m k c / m k k)
theorem Gj.step {n:Nat}{A m:Mt}{k:Nat} (h:Gj n A k m) (hk:k<n) (hd:m k k≠0):Gj n A (k+1) (tR k m):=by
 have hk0:∀ c,c<k->m k c=0:=λc hc=>by rw [h.left k c hk (by omega) hc,pz (by omega)]
 have hkr:∀ j,j<n->k+1<=j->m k (n+j)=0:=λj hj hkj=>by rw [h.right k j hk hj (by omega),pz (by omega)]
 have hdiv:m k k / m k k=1:=by rw [Uk]; exact Ur _ hd
 refine ⟨λi c hi hc=>?_,λi j hi hj hkj=>?_,λi c hi hc hck=>?_⟩
 ·have e1:=h.comb i c hi hc
  have e2:=h.comb k c hk hc;unfold tR
  by_cases e:i=k
  ·subst e
   simp only [if_true];have:(λj=>m i (n+j) / m i i*A j c)=λj=>(m i i)⁻¹*(m i (n+j)*A j c):=by funext j; rw [Rat.div_def]; grind
   rw [this,qM,<- e2,Rat.div_def]; grind
  ·simp only [O2 e]
   have:(λj=>(m i (n+j)-m i k*(m k (n+j) / m k k))*A j c)=λj=>m i (n+j)*A j c+(-(m i k*(m k k)⁻¹))*(m k (n+j)*A j c):=by funext j; rw [Rat.div_def]; grind
   rw [this,vM,qM,<- e1,<- e2,Rat.div_def]; grind
 ·unfold tR
  have e1:=hkr j hj hkj
  by_cases e:i=k
  ·subst e
   rw [if_pos rfl,e1,pz (by omega),Rat.div_def]; grind
  ·rw [if_neg e,e1,h.right i j hi hj (by omega),Rat.div_def]; grind
 ·unfold tR
  by_cases e:i=k
  ·subst e
   rw [O3 rfl]
   by_cases e2:c=i
   ·subst e2; rw [hdiv,qi]
   ·rw [hk0 c (by omega),pz (λe3=>e2 e3.symm),Rat.div_def]; grind
  ·rw [O2 e]
   by_cases e2:c=k
   ·subst e2; rw [hdiv,pz e]; grind
   ·rw [hk0 c (by omega),h.left i c hi hc (by omega),Rat.div_def]; grind
def Pd (n:Nat) (A:Mt):Prop:=∀ x:Nat->Rat,sm n (λc=>x c*sm n (λj=>x j*A j c))=0->∀ i,i<n->x i=0
theorem Gj.Lm {n:Nat}{A m:Mt}{k:Nat} (h:Gj n A k m) (hp:Pd n A) (hk:k<n):m k k≠0:=by
 intro h0;have h1:=hp (λj=>m k (n+j)) (uE (λc hc=>by
  have e1:=(h.comb k c hk hc).symm;show m k (n+c)*sm n (λj=>m k (n+j)*A j c)=0;rw [e1];rcases RX c k with hck | hck | hck
  ·rw [h.left k c hk hc hck,pz (by omega)]; grind
  ·subst hck; rw [h0]; grind
  ·rw [h.right k c hk hc (by omega),pz (by omega)]; grind)) k hk
 have h2:=h.right k k hk hk (Pl k);have h3:m k (n+k)=0:=h1;rw [h2,qi] at h3;exact absurd h3 (by decide)
theorem Gj.LC {n:Nat}{A m:Mt}{k:Nat} (h:Gj n A k m) (hk:k<=n) {i:Nat} (hi:i<n) {c:Nat} (hc:c<n):m i c=sm k (λj=>m i (n+j)*A j c)+(if k<=i then A i c else 0):=by
 have key:∀ q,k<=q->q<=n->sm q (λj=>m i (n+j)*A j c)=sm k (λj=>m i (n+j)*A j c)+(if k<=i/\i<q then A i c else 0):=by
  intro q hq
  induction q with
  | zero=>
   intro _;obtain rfl:k=0:=by omega
   rw [if_neg (by omega)]; grind
  | succ q ih=>
   intro hqn
   by_cases e:k=q+1
   ·rw [<- e,if_neg (by omega)]; grind
   ·have e1:sm (q+1) (λj=>m i (n+j)*A j c)=sm q (λj=>m i (n+j)*A j c)+m i (n+q)*A q c:=rfl
    rw [e1,ih (by omega) (by omega),h.right i q hi (by omega) (by omega)]
    by_cases e2:i=q
    ·subst e2
     rw [qi,if_neg (by omega),if_pos ⟨by omega,by omega⟩]; grind
    ·rw [pz e2]
     by_cases e3:k<=i/\i<q
     ·rw [if_pos e3,if_pos ⟨e3.1,by omega⟩]; grind
     ·rw [if_neg e3,if_neg (by omega)]; grind
 rw [h.comb i c hi hc,key n hk (Pl n)]
 by_cases e:k<=i
 ·rw [O3 ⟨e,hi⟩,O3 e]
 ·rw [O2 (λe2=>e e2.1),O2 e]
theorem Gj.pW {n:Nat}{A m:Mt}{k:Nat} (h:Gj n A k m) (hk:k<n) {L:Nat->Rat} (hL:∀ i,i<n->L i≠0):Sim.pW (k+1) (λr c=>L r*A r c)=L k*m k k*Sim.pW k (λr c=>L r*A r c):=by
 have hc:∀ c,c<n->sm (k+1) (λj=>(L k*m k (n+j) / L j)*(L j*A j c))=L k*m k c:=λc hc=>by
  have e1:=h.LC (Nat.le_of_lt hk) hk hc;rw [O3 (Pl k)] at e1;have e2:sm (k+1) (λj=>(L k*m k (n+j) / L j)*(L j*A j c))=sm (k+1) (λj=>L k*(m k (n+j)*A j c)):=oh (λj hj=>by
   have:=Ur (L j) (hL j (by omega))
   rw [Rat.div_def]; grind)
  rw [e2,qM];have e3:sm (k+1) (λj=>m k (n+j)*A j c)=sm k (λj=>m k (n+j)*A j c)+m k (n+k)*A k c:=rfl;rw [e3,h.right k k hk hk (Nat.le_refl k),qi,e1]; grind
 have h1:=H_ (k:=k) (M:=λr c=>L r*A r c) (x:=λj=>L k*m k (n+j) / L j) (by
  rw [h.right k k hk hk (Pl k),qi,Rat.mul_one,Uk];exact Ur _ (hL k hk)) (λc hck=>by
  rw [hc c (by omega),h.left k c hk (by omega) hck,pz (by omega)]; grind)
 rw [h1,hc k hk]
structure Hx (n:Nat) (A:Mt) (L:Nat->Rat) (B:Mt) (R:Nat->Rat):Prop where
 li:∀ i,i<n->tx (L i)
 l1:∀ i,i<n->1<=L i
 ai:∀ i c,i<n->c<n->tx (L i*A i c)
 b0:∀ i c,0<=B i c
 b1:∀ i,i<n->1<=B i i
 ab:∀ i c,i<n->c<n->-B i c<=L i*A i c/\L i*A i c<=B i c
 rs:∀ i,i<n->sm n (B i)<=R i
theorem zz {f:Nat->Rat} (h:∀ i,0<=f i) {k:Nat}:∀ {n:Nat},k<=n->sm k f<=sm n f
 | 0,hk=>by
  obtain rfl:k=0:=by omega
  exact Uo
 | n+1,hk=>by
  by_cases e:k=n+1
  ·subst e; exact Uo
  ·have h1:=zz h (k:=k) (n:=n) (by omega)
   have h2:=h n;have h3:sm (n+1) f=sm n f+f n:=rfl;rw [h3]
   grind
theorem Lr {f:Nat->Rat} (h:∀ i,0<=f i) {k p:Nat} (hp:p<k):f p<=sm k f:=by
 have h1:=zz h (k:=p+1) (n:=k) (by omega)
 have h2:=sA (n:=p) (f:=f) (λi _=>h i);have h3:sm (p+1) f=sm p f+f p:=rfl
 grind
theorem Hx.L7 {n:Nat}{A B:Mt}{L R:Nat->Rat} (h:Hx n A L B R) {k r:Nat} (hr:r<k) (hk:k<=n):1<=sm k (B r):=by
 have h1:=Lr (h.b0 r) hr;have h2:=h.b1 r (by omega)
 grind
theorem Hx.R1 {n:Nat}{A B:Mt}{L R:Nat->Rat} (h:Hx n A L B R) {r:Nat} (hr:r<n):1<=R r:=by
 have h1:=h.L7 hr (Pl n);have h2:=h.rs r hr
 grind
theorem FX {f:Nat->Rat}{k:Nat}:∀ {n:Nat},k<=n->(∀ i,i<n->1<=f i)->pr k f<=pr n f
 | 0,hk,_=>by
  obtain rfl:k=0:=by omega
  exact Uo
 | n+1,hk,h=>by
  by_cases e:k=n+1
  ·subst e; exact Uo
  ·have h1:=FX (k:=k) (n:=n) (by omega) (λi hi=>h i (by omega))
   have h2:=pL (Rat.le_refl (a:=pr n f)) (h n (by omega)) (me (λi hi=>by have:=h i (by omega); grind)) (by decide)
   have h3:pr (n+1) f=pr n f*f n:=rfl;rw [h3]
   grind
theorem Hx.prod {n:Nat}{A B:Mt}{L R:Nat->Rat} (h:Hx n A L B R) {k:Nat} (hk:k<=n):pr k (λr=>sm k (B r))<=pr n R:=by
 have h1:pr k (λr=>sm k (B r))<=pr k R:=FW (λr hr=>by have:=h.L7 hr hk; grind) (λr hr=>Rat.le_trans (zz (h.b0 r) hk) (h.rs r (by omega)))
 exact Up h1 (FX hk (λi hi=>h.R1 hi))
theorem Hx.pW {n:Nat}{A B:Mt}{L R:Nat->Rat} (h:Hx n A L B R) {k:Nat} (hk:k<=n):tx (Sim.pW k (λr c=>L r*A r c))/\-pr n R<=Sim.pW k (λr c=>L r*A r c)/\Sim.pW k (λr c=>L r*A r c)<=pr n R:=by
 refine ⟨B7 (λr c hr hc=>h.ai r c (by omega) (by omega)),?_⟩
 obtain ⟨d1,d2⟩:=EA (n:=k) (M:=λr c=>L r*A r c) (A:=B) h.b0 (λr c hr hc=>h.ab r c (by omega) (by omega))
 have:=h.prod hk;constructor <;> grind
theorem Gj.num {n:Nat}{A B m:Mt}{L R:Nat->Rat}{k:Nat} (h:Gj n A k m) (s:Hx n A L B R) (hk:k<=n) {i p:Nat} (hi:i<n) (hp:p<k):
  ∃ N:Rat,tx N/\-(pr n R*R i)<=N/\N<=pr n R*R i/\(if k<=i then L i else 1)*m i (n+p)*Sim.pW k (λr c=>L r*A r c)=N*L p:=by
 have hL:∀ j,j<n->L j≠0:=λj hj e=>by have:=s.l1 j hj; rw [e] at this; exact absurd this (by decide)
 have hx:∀ c,c<k->sm k (λj=>((if k<=i then L i else 1)*m i (n+j) / L j)*((λr c=>L r*A r c) j c))=if k<=i then -(L i*A i c) else dl i c:=λc hc=>by
  have e1:=h.LC hk hi (c:=c) (by omega)
  have e2:sm k (λj=>((if k<=i then L i else 1)*m i (n+j) / L j)*((λr c=>L r*A r c) j c))=sm k (λj=>(if k<=i then L i else 1)*(m i (n+j)*A j c)):=oh (λj hj=>by
   have:=Ur (L j) (hL j (by omega))
   simp only [Uk]
   grind)
  rw [e2,qM];have e3:=h.left i c hi (by omega) hc
  by_cases e:k<=i
  ·rw [O3 e,O3 e]
   rw [O3 e,e3,pz (by omega)] at e1
   grind
  ·rw [O2 e,O2 e]
   rw [O2 e,e3] at e1
   grind
 have hb:∀ c,c<k->tx (if k<=i then -(L i*A i c) else dl i c):=λc hc=>by
  by_cases e:k<=i
  ·rw [O3 e]
   obtain ⟨z,hz⟩:=s.ai i c hi (by omega)
   exact ⟨-z,by rw [hz,Un]⟩
  ·rw [O2 e]
   unfold dl
   split
   ·exact ⟨1,rfl⟩
   ·exact ⟨0,rfl⟩
 have hB:∀ c,c<k->-(B i c)<=(if k<=i then -(L i*A i c) else dl i c)/\(if k<=i then -(L i*A i c) else dl i c)<=B i c:=λc hc=>by
  have h1:=s.ab i c hi (by omega)
  have h2:=s.b0 i c
  by_cases e:k<=i
  ·rw [O3 e]
   constructor <;> grind
  ·rw [O2 e]
   unfold dl
   split
   ·rename_i e2
    subst e2;have:=s.b1 i hi;constructor <;> grind
   ·constructor <;> grind
 have c1:=Ex (k:=k) (M:=λr c=>L r*A r c) (λr c hr hc=>s.ai r c (by omega) (by omega)) hb hx hp
 obtain ⟨c2,c3⟩:=GD (k:=k) (M:=λr c=>L r*A r c) (A:=B) (a:=B i) (S:=R i) s.b0 (s.b0 i) (λr c hr hc=>s.ab r c (by omega) (by omega)) hB (λr hr=>s.L7 hr hk) (Up (zz (s.b0 i) hk) (s.rs i hi)) hx hp
 have hP:=Rat.mul_le_mul_of_nonneg_right (s.prod hk) (show (0:Rat)<=R i by have:=s.R1 hi; grind)
 refine ⟨_,c1,by grind,by grind,?_⟩
 have:=Ur (L p) (hL p (by omega))
 rw [Uk]
 grind
def qf (n:Nat) (x:Nat->Rat) (A:Mt):Rat:=sm n (λc=>x c*sm n (λj=>x j*A j c))
theorem I3 (n:Nat) (x:Nat->Rat) (A A':Mt):qf n x (λj c=>A j c+A' j c)=qf n x A+qf n x A':=by
 unfold qf;rw [<- vM];refine oh (λc _=>?_);have:sm n (λj=>x j*(A j c+A' j c))=sm n (λj=>x j*A j c)+sm n (λj=>x j*A' j c):=by
  rw [<- vM];exact oh (λj _=>by grind)
 rw [this]; grind
theorem I4 (n:Nat) (x e:Nat->Rat) (b:Rat):qf n x (λj c=>b*e j*e c)=b*(sm n (λj=>x j*e j)*sm n (λj=>x j*e j)):=by
 unfold qf;have h1:sm n (λc=>x c*sm n (λj=>x j*(b*e j*e c)))=sm n (λc=>(b*sm n (λj=>x j*e j))*(x c*e c)):=oh (λc _=>by
  have:sm n (λj=>x j*(b*e j*e c))=sm n (λj=>(b*e c)*(x j*e j)):=oh (λj _=>by grind)
  rw [this,qM]; grind)
 rw [h1,qM]; grind
def gE:List (Rat×(Nat->Rat))->Mt
 | []=>λ_ _=>0
 | be::l=>λj c=>be.1*be.2 j*be.2 c+gE l j c
theorem sq_nonneg (a:Rat):0<=a*a:=by
 rcases (Rat.le_total:(0:Rat)<=a\/a<=0) with h | h
 ·exact Us h h
 ·have:=Rat.mul_nonneg (show (0:Rat)<=-a by grind) (show (0:Rat)<=-a by grind)
  grind
theorem As (n:Nat) (x:Nat->Rat):∀ (l:List (Rat×(Nat->Rat))),(∀ be ∈ l,0<be.1)->0<=qf n x (gE l)
 | [],_=>by
  have:qf n x (gE [])=0:=uE (λc _=>by
   rw [uE (λj _=>by show x j*0=0; grind)]; grind)
  rw [this]; exact Uo
 | be::l,h=>by
  have h1:=As n x l (λb hb=>h b (O5 _ hb));have h2:=h be (O0 ..);have e:qf n x (gE (be::l))=be.1*(sm n (λj=>x j*be.2 j)*sm n (λj=>x j*be.2 j))+qf n x (gE l):=by
   rw [<- I4,<- I3]; rfl
  rw [e];have h3:=Us (Rat.le_of_lt h2) (sq_nonneg (sm n (λj=>x j*be.2 j)))
  grind
theorem Du (n:Nat) (x:Nat->Rat):∀ (l:List (Rat×(Nat->Rat))),(∀ be ∈ l,0<be.1)->qf n x (gE l)=0->∀ be ∈ l,sm n (λj=>x j*be.2 j)=0
 | [],_,_,be,hb=>by simp at hb
 | be::l,h,h0,b,hb=>by
  have h1:=As n x l (λb hb=>h b (O5 _ hb));have h2:=h be (O0 ..);have e:qf n x (gE (be::l))=be.1*(sm n (λj=>x j*be.2 j)*sm n (λj=>x j*be.2 j))+qf n x (gE l):=by
   rw [<- I4,<- I3]; rfl
  rw [e] at h0;have h3:=Rat.mul_nonneg (Rat.le_of_lt h2) (sq_nonneg (sm n (λj=>x j*be.2 j)));have h4:qf n x (gE l)=0:=by grind
  have h5:be.1*(sm n (λj=>x j*be.2 j)*sm n (λj=>x j*be.2 j))=0:=by grind
  rcases PH.1 hb with rfl | hb
  ·rcases Uq.1 h5 with h6 | h6
   ·rw [h6] at h2; exact absurd h2 (Rat.lt_irrefl)
   ·rcases Uq.1 h6 with h7 | h7 <;> exact h7
  ·exact Du n x l (λb hb=>h b (O5 _ hb)) h4 b hb
inductive Lk (l:List (Rat×Nat×Nat)) (u:Nat):Nat->Prop
 | refl:Lk l u u
 | step {b:Rat}{v w:Nat}:Lk l u v->((b,v,w) ∈ l\/(b,w,v) ∈ l)->Lk l u w
def mK (F:Nat->Nat) (e:Rat×Nat×Nat):Rat×(Nat->Rat):=(e.1,λj=>dl (F j) e.2.1-dl (F j) e.2.2)
theorem MW {n:Nat}{F:Nat->Nat}{l:List (Rat×Nat×Nat)} (hb:∀ e ∈ l,0<e.1) (hF:∀ i j,i<n->j<n->F i=F j->i=j)
  (hr:∀ i,i<n->∃ r,(∀ j,j<n->F j≠r)/\Lk l (F i) r):Pd n (gE (l.map (mK F))):=by
 intro x h0 i hi;have hz:=Du n x (l.map (mK F)) (λbe hbe=>by
  obtain ⟨e,he,rfl⟩:=PL.1 hbe;exact hb e he) h0
 have hd:∀ p q:Nat,sm n (λj=>x j*(dl (F j) p-dl (F j) q))=sm n (λj=>x j*dl (F j) p)-sm n (λj=>x j*dl (F j) q):=λp q=>by
  have h1:sm n (λj=>x j*(dl (F j) p-dl (F j) q))=sm n (λj=>x j*dl (F j) p+(-1)*(x j*dl (F j) q)):=oh (λj _=>by grind)
  rw [h1,vM,qM]; grind
 have he:∀ (b:Rat) (p q:Nat),(b,p,q) ∈ l->sm n (λj=>x j*dl (F j) p)=sm n (λj=>x j*dl (F j) q):=λb p q h=>by
  have h1:sm n (λj=>x j*(dl (F j) p-dl (F j) q))=0:=hz (mK F (b,p,q)) (PL.2 ⟨_,h,rfl⟩);have h2:=hd p q
  grind
 have hl:∀ u v,Lk l u v->sm n (λj=>x j*dl (F j) u)=sm n (λj=>x j*dl (F j) v):=λu v h=>by
  induction h with
  | refl=>rfl
  | step _ h ih=>
   rcases h with h | h
   ·rw [ih]; exact he _ _ _ h
   ·rw [ih]; exact (he _ _ _ h).symm
 obtain ⟨r,hr1,hr2⟩:=hr i hi;have h1:=hl _ _ hr2;have h2:sm n (λj=>x j*dl (F j) r)=0:=uE (λj hj=>by rw [pz (hr1 j hj)]; grind)
 have h3:sm n (λj=>x j*dl (F j) (F i))=x i*dl (F i) (F i):=AZ hi (λj hj hne=>by rw [pz (λe=>hne (hF j i hj hi e))]; grind)
 rw [h2,h3,qi] at h1
 grind
def tk (u:Nat):List (Rat×Nat×Nat)->Rat
 | []=>1
 | e::l=>(if e.2.1=u\/e.2.2=u then e.1 else 1)*tk u l
def uV:List (Rat×Nat×Nat)->Rat
 | []=>1
 | e::l=>e.1*uV l
theorem zx {u:Nat}:∀ {l:List (Rat×Nat×Nat)},(∀ e ∈ l,tx e.1)->tx (tk u l)
 | [],_=>⟨1,rfl⟩
 | e::l,h=>by
  unfold tk;refine rD ?_ (zx (λe he=>h e (O5 _ he)))
  split
  ·exact h e (O0 ..)
  ·exact ⟨1,rfl⟩
theorem yz {u:Nat}:∀ {l:List (Rat×Nat×Nat)},(∀ e ∈ l,1<=e.1)->1<=tk u l
 | [],_=>Uo
 | e::l,h=>by
  unfold tk;have h1:=yz (u:=u) (l:=l) (λe he=>h e (O5 _ he));have h2:=h e (O0 ..)
  split
  ·have:=pL h2 h1 (by decide) (by decide)
   grind
  ·grind
theorem zU:∀ {l:List (Rat×Nat×Nat)},(∀ e ∈ l,1<=e.1)->1<=uV l
 | [],_=>Uo
 | e::l,h=>by
  unfold uV;have h1:=zU (l:=l) (λe he=>h e (O5 _ he));have h2:=h e (O0 ..);have:=pL h2 h1 (by decide) (by decide)
  grind
theorem CJ {u:Nat}:∀ {l:List (Rat×Nat×Nat)},(∀ e ∈ l,tx e.1/\1<=e.1)->∀ e ∈ l,(e.2.1=u\/e.2.2=u)->∀ t:Rat,tx t->tx (tk u l*(t / e.1))
 | [],_,e,he,_,_,_=>by simp at he
 | d::l,h,e,he,hu,t,ht=>by
  have hl:∀ e ∈ l,tx e.1/\1<=e.1:=λe he=>h e (O5 _ he);unfold tk;rcases PH.1 he with rfl | he
  ·rw [O3 hu]
   have hne:e.1≠0:=λe0=>by have:=(h e (O0 ..)).2; rw [e0] at this; exact absurd this (by decide)
   have:=Rat.mul_inv_cancel e.1 hne;have h1:e.1*tk u l*(t / e.1)=tk u l*t:=by rw [Rat.div_def]; grind
   rw [h1];exact rD (zx (λe he=>(hl e he).1)) ht
  ·have h1:=CJ hl e he hu t ht
   have h2:(if d.2.1=u\/d.2.2=u then d.1 else 1)*tk u l*(t / e.1)=(if d.2.1=u\/d.2.2=u then d.1 else 1)*(tk u l*(t / e.1)):=Rat.mul_assoc ..
   rw [h2];refine rD ?_ h1
   split
   ·exact (h d (O0 ..)).1
   ·exact ⟨1,rfl⟩
theorem yT {F:Nat->Nat}{q:Rat} (hq:1<=q) {p:Nat}:∀ {n:Nat},(∀ i j,i<n->j<n->F i=F j->i=j)->pr n (λi=>if F i=p then q else 1)<=q
 | 0,_=>hq
 | n+1,h=>by
  have ih:=yT hq (p:=p) (n:=n) (λi j hi hj e=>h i j (by omega) (by omega) e)
  show pr n (λi=>if F i=p then q else 1)*(if F n=p then q else 1)<=q
  by_cases e:F n=p
  ·rw [O3 e]
   have:pr n (λi=>if F i=p then q else 1)=pr n (λ_=>1):=vf (λi hi=>O2 (λe2=>by
    have:=h i n (by omega) (by omega) (e2.trans e.symm)
    omega))
   rw [this];have h1:∀ k,pr k (λ_=>(1:Rat))=1:=λk=>by
    induction k with
    | zero=>rfl
    | succ k ih=>show pr k (λ_=>(1:Rat))*1=1; rw [ih]; grind
   rw [h1]; grind
  ·rw [if_neg e]; grind
theorem DS {n:Nat}{F:Nat->Nat} (hF:∀ i j,i<n->j<n->F i=F j->i=j):∀ {l:List (Rat×Nat×Nat)},(∀ e ∈ l,1<=e.1)->pr n (λi=>tk (F i) l)<=uV l*uV l
 | [],_=>by
  have h1:∀ k,pr k (λ_=>(1:Rat))=1:=λk=>by
   induction k with
   | zero=>rfl
   | succ k ih=>show pr k (λ_=>(1:Rat))*1=1; rw [ih]; grind
  show pr n (λ_=>(1:Rat))<=1*1;rw [h1,Rat.one_mul]; exact Uo
 | e::l,h=>by
  have hl:∀ e ∈ l,1<=e.1:=λe he=>h e (O5 _ he);have hq:=h e (O0 ..);have ih:=DS hF hl;have e1:pr n (λi=>tk (F i) (e::l))=pr n (λi=>if e.2.1=F i\/e.2.2=F i then e.1 else 1)*pr n (λi=>tk (F i) l):=by rw [<- CC]; rfl
  have e2:pr n (λi=>if e.2.1=F i\/e.2.2=F i then e.1 else 1)<=pr n (λi=>(if F i=e.2.1 then e.1 else 1)*(if F i=e.2.2 then e.1 else 1)):=FW (λi _=>by split <;> grind) (λi _=>by
   have:=pL hq hq (by decide) (by decide)
   by_cases a:F i=e.2.1
   ·by_cases b:F i=e.2.2
    ·rw [O3 (.inl a.symm),O3 a,O3 b]
     have:=Rat.mul_le_mul_of_nonneg_left hq (show (0:Rat)<=e.1 by grind)
     grind
    ·rw [if_pos (.inl a.symm),if_pos a,if_neg b]; grind
   ·by_cases b:F i=e.2.2
    ·rw [if_pos (.inr b.symm),if_neg a,if_pos b]; grind
    ·rw [if_neg (λh=>h.elim (λh=>a h.symm) (λh=>b h.symm)),if_neg a,if_neg b]; grind)
  rw [CC] at e2;have s1:=yT (F:=F) hq (p:=e.2.1) hF;have s2:=yT (F:=F) hq (p:=e.2.2) hF;have n1:0<=pr n (λi=>if F i=e.2.1 then e.1 else 1):=me (λi _=>by split <;> grind)
  have n2:0<=pr n (λi=>if F i=e.2.2 then e.1 else 1):=me (λi _=>by split <;> grind)
  have m1:=pL s1 s2 n1 n2;have n3:0<=pr n (λi=>if e.2.1=F i\/e.2.2=F i then e.1 else 1):=me (λi _=>by split <;> grind)
  have n4:0<=pr n (λi=>tk (F i) l):=me (λi _=>by have:=yz (u:=F i) hl; grind)
  have m2:=pL (Up e2 m1) ih n3 n4;rw [e1];have e3:uV (e::l)=e.1*uV l:=rfl;rw [e3]
  grind
def xp (t:Rat) (e:Rat×Nat×Nat):Rat×Nat×Nat:=(t / e.1,e.2)
def oC (F:Nat->Nat) (e:Rat×Nat×Nat):Rat×(Nat->Rat):=(e.1,λj=>dl (F j) e.2.1+dl (F j) e.2.2)
theorem vR (i j:Nat):dl i j=0\/dl i j=1:=by
 unfold dl
 split
 ·exact .inr rfl
 ·exact .inl rfl
theorem FI (F:Nat->Nat) (i c:Nat):∀ {l:List (Rat×Nat×Nat)},(∀ e ∈ l,0<e.1)->-gE (l.map (oC F)) i c<=gE (l.map (mK F)) i c/\gE (l.map (mK F)) i c<=gE (l.map (oC F)) i c
 | [],_=>by
  show -(0:Rat)<=0/\(0:Rat)<=0;constructor <;> decide
 | e::l,h=>by
  obtain ⟨h1,h2⟩:=FI F i c (l:=l) (λe he=>h e (List.mem_cons_of_mem _ he));have h3:=h e (List.mem_cons_self ..);have e1:gE ((e::l).map (mK F)) i c=e.1*(dl (F i) e.2.1-dl (F i) e.2.2)*(dl (F c) e.2.1-dl (F c) e.2.2)+gE (l.map (mK F)) i c:=rfl;have e2:gE ((e::l).map (oC F)) i c=e.1*(dl (F i) e.2.1+dl (F i) e.2.2)*(dl (F c) e.2.1+dl (F c) e.2.2)+gE (l.map (oC F)) i c:=rfl;rw [e1,e2];rcases vR (F i) e.2.1 with a | a <;> rcases vR (F i) e.2.2 with b | b <;> rcases vR (F c) e.2.1 with u | u <;> rcases vR (F c) e.2.2 with v | v <;> rw [a,b,u,v] <;> constructor <;> grind
theorem wG (F:Nat->Nat) (i c:Nat):∀ {l:List (Rat×Nat×Nat)},(∀ e ∈ l,0<e.1)->0<=gE (l.map (oC F)) i c
 | [],_=>Uo
 | e::l,h=>by
  have h1:=wG F i c (l:=l) (λe he=>h e (List.mem_cons_of_mem _ he));have h3:=h e (List.mem_cons_self ..);have e2:gE ((e::l).map (oC F)) i c=e.1*(dl (F i) e.2.1+dl (F i) e.2.2)*(dl (F c) e.2.1+dl (F c) e.2.2)+gE (l.map (oC F)) i c:=rfl;rw [e2];rcases vR (F i) e.2.1 with a | a <;> rcases vR (F i) e.2.2 with b | b <;> rcases vR (F c) e.2.1 with u | u <;> rcases vR (F c) e.2.2 with v | v <;> rw [a,b,u,v] <;> grind
theorem FJ {F:Nat->Nat}{t:Rat} (ht:tx t) {l:List (Rat×Nat×Nat)} (hq:∀ e ∈ l,tx e.1/\1<=e.1) (i c:Nat):∀ {l':List (Rat×Nat×Nat)},(∀ e ∈ l',e ∈ l)->tx (tk (F i) l*gE ((l'.map (xp t)).map (mK F)) i c)
 | [],_=>by
  have:tk (F i) l*gE ((([]:List (Rat×Nat×Nat)).map (xp t)).map (mK F)) i c=0:=by show tk (F i) l*0=0; grind
  rw [this]; exact ⟨0,rfl⟩
 | e::l',h=>by
  have h1:=FJ (F:=F) ht hq i c (l':=l') (λe he=>h e (O5 _ he));have h2:=h e (O0 ..);have e1:gE (((e::l').map (xp t)).map (mK F)) i c=(t / e.1)*(dl (F i) e.2.1-dl (F i) e.2.2)*(dl (F c) e.2.1-dl (F c) e.2.2)+gE ((l'.map (xp t)).map (mK F)) i c:=rfl;have hI:∀ p q:Nat,tx (dl p q):=λp q=>by
   rcases vR p q with a | a <;> rw [a]
   ·exact ⟨0,rfl⟩
   ·exact ⟨1,rfl⟩
  have hS:∀ {a b:Rat},tx a->tx b->tx (a-b):=λ{a b} ⟨x,hx⟩ ⟨y,hy⟩=>⟨x-y,by rw [hx,hy,Rat.intCast_sub]⟩
  have e2:tk (F i) l*((t / e.1)*(dl (F i) e.2.1-dl (F i) e.2.2)*(dl (F c) e.2.1-dl (F c) e.2.2)+gE ((l'.map (xp t)).map (mK F)) i c)=(tk (F i) l*(t / e.1))*(dl (F i) e.2.1-dl (F i) e.2.2)*(dl (F c) e.2.1-dl (F c) e.2.2)+tk (F i) l*gE ((l'.map (xp t)).map (mK F)) i c:=by grind
  rw [e1,e2];refine yg ?_ h1
  by_cases hu:e.2.1=F i\/e.2.2=F i
  ·exact rD (rD (CJ hq e h2 hu t ht) (hS (hI _ _) (hI _ _))) (hS (hI _ _) (hI _ _))
  ·have a:dl (F i) e.2.1=0:=pz (λe0=>hu (.inl e0.symm))
   have b:dl (F i) e.2.2=0:=pz (λe0=>hu (.inr e0.symm));rw [a,b];have:tk (F i) l*(t / e.1)*(0-0)*(dl (F c) e.2.1-dl (F c) e.2.2)=0:=by grind
   rw [this]; exact ⟨0,rfl⟩
def A2:List (Rat×Nat×Nat)->Rat
 | []=>0
 | e::l=>e.1+A2 l
theorem tF (i j:Nat):0<=dl i j:=by rcases vR i j with h | h <;> rw [h] <;> decide
theorem Ig (i j:Nat):dl i j<=1:=by rcases vR i j with h | h <;> rw [h] <;> decide
theorem F7 {F:Nat->Nat}{p:Nat}:∀ {n:Nat},(∀ i j,i<n->j<n->F i=F j->i=j)->sm n (λc=>dl (F c) p)<=1
 | 0,_=>by unfold sm; decide
 | n+1,h=>by
  have ih:=F7 (F:=F) (p:=p) (n:=n) (λi j hi hj e=>h i j (by omega) (by omega) e)
  show sm n (λc=>dl (F c) p)+dl (F n) p<=1
  by_cases e:F n=p
  ·have:sm n (λc=>dl (F c) p)=0:=uE (λi hi=>pz (λe2=>by
    have:=h i n (by omega) (by omega) (e2.trans e.symm)
    omega))
   rw [this];have:=Ig (F n) p
   grind
  ·rw [pz e]; grind
theorem Ft {n:Nat}{F:Nat->Nat} (hF:∀ i j,i<n->j<n->F i=F j->i=j) (i:Nat):∀ {l:List (Rat×Nat×Nat)},(∀ e ∈ l,0<e.1)->sm n (gE (l.map (oC F)) i)<=4*A2 l
 | [],_=>by
  have:sm n (gE (([]:List (Rat×Nat×Nat)).map (oC F)) i)=0:=uE (λ_ _=>rfl);rw [this];show (0:Rat)<=4*0
  grind
 | e::l,h=>by
  have ih:=Ft hF i (l:=l) (λe he=>h e (O5 _ he));have h3:=h e (O0 ..);have e1:sm n (gE ((e::l).map (oC F)) i)=(e.1*(dl (F i) e.2.1+dl (F i) e.2.2))*(sm n (λc=>dl (F c) e.2.1)+sm n (λc=>dl (F c) e.2.2))+sm n (gE (l.map (oC F)) i):=by
   rw [<- vM,<- qM,<- vM]; rfl
  have e2:A2 (e::l)=e.1+A2 l:=rfl;rw [e1,e2];have s1:=F7 (F:=F) (p:=e.2.1) hF;have s2:=F7 (F:=F) (p:=e.2.2) hF;have n1:=sA (n:=n) (f:=λc=>dl (F c) e.2.1) (λc _=>tF _ _);have n2:=sA (n:=n) (f:=λc=>dl (F c) e.2.2) (λc _=>tF _ _);have d1:=Ig (F i) e.2.1;have d2:=Ig (F i) e.2.2;have d3:=tF (F i) e.2.1;have d4:=tF (F i) e.2.2;have m0:e.1*(dl (F i) e.2.1+dl (F i) e.2.2)<=e.1*2:=Rat.mul_le_mul_of_nonneg_left (by grind) (Rat.le_of_lt h3)
  have m1:0<=e.1*(dl (F i) e.2.1+dl (F i) e.2.2):=Rat.mul_nonneg (Rat.le_of_lt h3) (by grind)
  have m2:=pL m0 (show sm n (λc=>dl (F c) e.2.1)+sm n (λc=>dl (F c) e.2.2)<=2 by grind) m1 (by grind)
  grind
theorem Ka {n:Nat}{F:Nat->Nat}{l:List (Rat×Nat×Nat)}{t:Rat} (hF:∀ i j,i<n->j<n->F i=F j->i=j) (ht:tx t) (t0:0<t) (hq:∀ e ∈ l,tx e.1/\1<=e.1):
  Hx n (gE ((l.map (xp t)).map (mK F))) (λi=>tk (F i) l) (λi c=>tk (F i) l*gE ((l.map (xp t)).map (oC F)) i c+dl i c) (λi=>tk (F i) l*(4*A2 (l.map (xp t)))+1):=by
 have hw:∀ e ∈ l.map (xp t),0<e.1:=λe he=>by
  obtain ⟨d,hd,rfl⟩:=List.mem_map.1 he;have h1:=(hq d hd).2;show 0<t / d.1;rw [Rat.div_def];exact Rat.mul_pos t0 (Rat.inv_pos.2 (by grind))
 have hs1:∀ i,1<=tk (F i) l:=λi=>yz (λe he=>(hq e he).2);have ha0:∀ i c,0<=tk (F i) l*gE ((l.map (xp t)).map (oC F)) i c:=λi c=>Rat.mul_nonneg (by have:=hs1 i; grind) (wG F i c hw)
 refine ⟨λi _=>zx (λe he=>(hq e he).1),λi _=>hs1 i,λi c _ _=>FJ ht hq i c (λe he=>he),λi c=>?_,λi _=>?_,λi c _ _=>?_,λi hi=>?_⟩
 ·have:=ha0 i c
  have:=tF i c
  grind
 ·have:=ha0 i i
  rw [qi]; grind
 ·obtain ⟨h1,h2⟩:=FI F i c hw
  have h3:0<=tk (F i) l:=by have:=hs1 i; grind
  have m1:=Rat.mul_le_mul_of_nonneg_left h1 h3;have m2:=Rat.mul_le_mul_of_nonneg_left h2 h3;have:=tF i c;constructor <;> grind
 ·rw [vM,qM]
  have h1:=Ft hF i hw;have h3:0<=tk (F i) l:=by have:=hs1 i; grind
  have m1:=Rat.mul_le_mul_of_nonneg_left h1 h3;have h2:sm n (λc=>dl i c)<=1:=by
   have e:sm n (λc=>dl i c)=sm n (λc=>dl ((λx:Nat=>x) c) i):=oh (λc _=>by
    unfold dl
    by_cases a:i=c
    ·subst a; rfl
    ·rw [O2 a,O2 (λb=>a b.symm)])
   rw [e];exact F7 (λi j _ _ e=>e)
  have e2:sm n (λc=>gE ((l.map (xp t)).map (oC F)) i c)=sm n (gE ((l.map (xp t)).map (oC F)) i):=rfl;rw [e2]
  grind
theorem Fv {q:Rat}:∀ {l:List (Rat×Nat×Nat)},(∀ e ∈ l,1<=e.1/\e.1<=q)->uV l<=pr l.length (λ_=>q)
 | [],_=>Uo
 | e::l,h=>by
  have h1:=Fv (q:=q) (l:=l) (λe he=>h e (List.mem_cons_of_mem _ he));have h2:=h e (List.mem_cons_self ..);have h3:=zU (l:=l) (λe he=>(h e (List.mem_cons_of_mem _ he)).1);have h4:=pL h1 h2.2 (by grind) (by grind)
  have e1:uV (e::l)=e.1*uV l:=rfl;have e2:pr (e::l).length (λ_=>q)=pr l.length (λ_=>q)*q:=rfl;rw [e1,e2]; grind
theorem MT {n:Nat}{F:Nat->Nat}{l:List (Rat×Nat×Nat)}{s w:Rat} (hF:∀ i j,i<n->j<n->F i=F j->i=j) (hq:∀ e ∈ l,1<=e.1) (s0:0<=s) (hs:s<=w):
  pr n (λi=>tk (F i) l*s+1)<=uV l*uV l*pr n (λ_=>w+1):=by
 have h1:∀ i,1<=tk (F i) l:=λi=>yz hq;have p1:pr n (λi=>tk (F i) l*s+1)<=pr n (λi=>tk (F i) l*(w+1)):=FW (λi _=>by
  have:=Rat.mul_nonneg (show (0:Rat)<=tk (F i) l by have:=h1 i; grind) s0
  grind) (λi _=>by
  have:=Rat.mul_le_mul_of_nonneg_left hs (show (0:Rat)<=tk (F i) l by have:=h1 i; grind)
  have:=h1 i
  grind)
 rw [CC] at p1;have p2:=DS hF hq;have n1:0<=pr n (λi=>tk (F i) l):=me (λi _=>by have:=h1 i; grind)
 have n2:0<=pr n (λ_:Nat=>w+1):=me (λi _=>by grind)
 exact Up p1 (pL p2 Uo n1 n2)
def xw (n:Nat):List Nat:=(List.range n).map (·+1)
theorem vL (n:Nat):(xw n).length=n:=by simp [xw]
theorem CK {n i:Nat} (hi:i<n):(xw n)[i]? = some (i+1):=by simp [xw,hi]
theorem AX {α:Type}{l:List α}{i:Nat}{a:α} (h:l[i]? = some a):l.set i a=l:=by
 apply QD;intro j
 by_cases e:i=j
 ·subst e
  rw [Pq (OY.1 h).1,h]
 ·rw [Pj e]
theorem zy {n i:Nat} (hi:i<n):(xw n).set i (i+1)=xw n:=AX (CK hi)
theorem DT {n i:Nat} (hi:i<n):((xw n).set ((i:Int)).toNat (i+1)).set ((i:Int)).toNat (i+1)=xw n:=by
 rw [OX,zy hi,zy hi]
structure tC (rows:List (List LR)) (n w W:Nat) (m:Mt):Prop where
 len:rows.length=n
 row:∀ i,i<n->∃ l,rows[i]? = some l/\l.length=w/\∀ c,c<w->∃ y,l[c]? = some y/\ou y/\RL y W/\rv y=m i c
theorem tC.congr {rows:List (List LR)}{n w W:Nat}{m m':Mt} (h:tC rows n w W m) (e:∀ i c,i<n->c<w->m i c=m' i c):tC rows n w W m':=by
 refine ⟨h.len,λi hi=>?_⟩;obtain ⟨l,h1,h2,h3⟩:=h.row i hi;refine ⟨l,h1,h2,λc hc=>?_⟩;obtain ⟨y,y1,y2,y3,y4⟩:=h3 c hc;exact ⟨y,y1,y2,y3,by rw [y4,e i c hi hc]⟩
theorem tC.mono {rows:List (List LR)}{n w W W':Nat}{m:Mt} (h:tC rows n w W m) (e:W<=W'):tC rows n w W' m:=by
 refine ⟨h.len,λi hi=>?_⟩;obtain ⟨l,h1,h2,h3⟩:=h.row i hi;refine ⟨l,h1,h2,λc hc=>?_⟩;obtain ⟨y,y1,y2,y3,y4⟩:=h3 c hc;exact ⟨y,y1,y2,y3.mono e,y4⟩
theorem tC.set {rows:List (List LR)}{n w W:Nat}{m:Mt} (h:tC rows n w W m) {i c:Nat} (hi:i<n) (hc:c<w) {e:LR} (he:ou e) (hW:RL e W):
  tC (rows.set i (((rows[i]?).getD []).set c e)) n w W (λi' c'=>if i'=i/\c'=c then rv e else m i' c'):=by
 refine ⟨by rw [Qg]; exact h.len,λi' hi'=>?_⟩
 obtain ⟨l,h1,h2,h3⟩:=h.row i' hi'
 by_cases e1:i=i'
 ·subst e1
  refine ⟨l.set c e,by rw [h1,Pq (by rw [h.len]; exact hi)]; rfl,by rw [Qg]; exact h2,λc' hc'=>?_⟩
  by_cases e2:c=c'
  ·subst e2
   exact ⟨e,by rw [Pq (by omega)],he,hW,by rw [O3 ⟨rfl,rfl⟩]⟩
  ·obtain ⟨y,y1,y2,y3,y4⟩:=h3 c' hc'
   exact ⟨y,by rw [Pj e2]; exact y1,y2,y3,by rw [O2 (λhh=>e2 hh.2.symm)]; exact y4⟩
 ·refine ⟨l,by rw [Pj e1]; exact h1,h2,λc' hc'=>?_⟩
  obtain ⟨y,y1,y2,y3,y4⟩:=h3 c' hc';exact ⟨y,y1,y2,y3,by rw [O2 (λhh=>e1 hh.1.symm)]; exact y4⟩
theorem FN (rows:List (List LR)) (i:Nat):((([]::rows:List (List LR))[i+1]?).getD [])=(rows[i]?).getD []:=rfl
theorem LZ (rows:List (List LR)) (i:Nat) (l:List LR):([]::rows:List (List LR)).set (i+1) l=[]::rows.set i l:=rfl
theorem tC.I8 {rows:List (List LR)}{n w W:Nat}{m:Mt} (h:tC rows n w W m) {i:Nat} (hi:i<n):((([]::rows:List (List LR))[i+1]?).getD []).length=w:=by
 obtain ⟨l,h1,h2,_⟩:=h.row i hi;rw [FN,h1]; exact h2
theorem oN {R:Type}{Q:R->Prop}{n i:Nat} (hi:i<n) {f:Nat->Option R} (h:Gd (f (i+1)) Q):Gd (idx (xw n) (i:Int) f) Q:=
 Gd.ix (by omega) (by rw [OX]; exact CK hi) h
theorem rZ {R:Type}{Q:R->Prop}{rows:List (List LR)}{n w W:Nat}{m:Mt} (h:tC rows n w W m) {i c:Nat} (hi:i<n) (hc:c<w) {f:LR->Option R}
  (hk:∀ y,ou y->RL y W->rv y=m i c->Gd (f y) Q):Gd (idx ((([]::rows:List (List LR))[i+1]?).getD []) (c:Int) f) Q:=by
 obtain ⟨l,h1,h2,h3⟩:=h.row i hi;obtain ⟨y,y1,y2,y3,y4⟩:=h3 c hc;refine Gd.ix (y:=y) (by omega) ?_ (hk y y2 y3 y4)
 rw [FN,h1,OX]; exact y1
theorem wZ {r:LR} (h:ou r):decide (cP r=0)=decide (rv r=0):=by
 unfold cP;rw [Ut,sign_zero h.n,F5 h]
theorem Ko {a b:LR} (ha:ou a) (hb:ou b) (h0:rv b≠0) {A B:Nat} (la:RL a A) (lb:RL b B) (hz:A+B<=800000):
  Gd (pB a b) (λr=>ou r/\RL r (A+B)/\rv r=rv a / rv b):=by
 have:=la.1; have:=la.2; have:=lb.1; have:=lb.2
 have hb0:nv b.N.words≠0:=λe=>h0 ((F5 hb).2 e);unfold pB;refine Gd.eC (uM ha.n hb.d (by omega)) (λx hx=>Gd.eC (uM ha.d hb.n (by omega)) (λz hz'=>?_))
 refine Gd.eC (wV hx.1 hz'.1 (ET hz'.2.2 ha.nz hb0) (by omega) (by omega)) (λr hr=>Gd.ret ⟨hr.1,⟨by omega,by omega⟩,?_⟩)
 rw [hr.2.2.2,hx.2.2,hz'.2.2];unfold rv;rw [Uk,Rat.inv_divInt,Rat.divInt_mul_divInt]
end Go.Sim
namespace Go.Sim
open Go
open _root_.Go.IntKind (i64 u64 u32 u8)
theorem DV {a:LI} (h:rX a):(0<eP a↔0<fJ a)/\(eP a<0↔fJ a<0):=by
 have hz:=vF h.wf h.tp;unfold eP fJ
 by_cases h1:a.words=[]
 ·have h0:nv a.words=0:=hz.2 h1
  have hm:a.minus=false:=by
   cases hm:a.minus
   ·rfl
   ·exact absurd h1 (h.sign hm)
  simp [h1,hm,nv]
 ·have h0:nv a.words≠0:=λe=>h1 (hz.1 e)
  have hl:a.words.length≠0:=λe=>h1 (Pw e);rw [O2 (by simp; exact h1)]
  cases hm:a.minus
  ·simp; omega
  ·simp; omega
theorem Bo {a b c d:Int} (hb:0<b) (hd:0<d):Rat.divInt a b<Rat.divInt c d↔a*d<c*b:=by
 rw [<- Rat.not_le,<- Int.not_le];refine not_congr ?_;have e:=Rat.divInt_sub_divInt a c (d₁:=b) (d₂:=d) (by omega) (by omega)
 have k:=Uj (a:=a*d-c*b) (b:=b*d) (Int.mul_pos hb hd);rw [<- e] at k;constructor
 ·intro h
  have:0<=Rat.divInt a b-Rat.divInt c d:=by grind
  have:=k.1 this;omega
 ·intro h
  have:0<=Rat.divInt a b-Rat.divInt c d:=k.2 (by omega)
  grind
theorem ou.Ih {a:LR} (h:ou a):0<fJ a.D:=by
 rw [pA h.pos];have:=h.nz;omega
theorem CE {a b:LR} (ha:ou a) (hb:ou b) {A B:Nat} (la:RL a A) (lb:RL b B) (hz:A+B<=800000):
  Gd (mj a b) (λr=>(0<r↔rv b<rv a)/\(r<0↔rv a<rv b)):=by
 have:=la.1; have:=la.2; have:=lb.1; have:=lb.2
 unfold mj qT;refine Gd.eC (uM ha.n hb.d (by omega)) (λx hx=>Gd.eC (uM hb.n ha.d (by omega)) (λy hy=>?_))
 refine Gd.eC (P:=λr=>(0<r↔rv b<rv a)/\(r<0↔rv a<rv b)) (Gd.eC (JW hx.1 hy.1 (by omega) (by omega)) (λz hz'=>Gd.ret ?_)) (λr hr=>Gd.ret hr)
 have s:=DV hz'.1;rw [hz'.2.2,hx.2.2,hy.2.2] at s;unfold rv;rw [Bo hb.Ih ha.Ih,Bo ha.Ih hb.Ih];exact ⟨s.1.trans ⟨λh=>by omega,λh=>by omega⟩,s.2.trans ⟨λh=>by omega,λh=>by omega⟩⟩
theorem BG {a:LR} (h:ou a):cP a<0↔rv a<0:=by
 have k:=Uj (a:=fJ a.N) (b:=fJ a.D) h.Ih;unfold cP rv;rw [(DV h.n).2,<- Rat.not_le,k];omega
def L6 (q:Rat):Rat:=if q<0 then -q else q
theorem F1 {a:LR} (ha:ou a) {A:Nat} (la:RL a A) (hz:A<=800000):Gd (nL a) (λr=>ou r/\RL r A/\rv r=L6 (rv a)):=by
 unfold nL L6;refine Gd.ite (λh=>?_) (λh=>?_)
 ·have h:rv a<0:=(BG ha).1 (O1 h)
  refine Gd.eC (F3 ha la hz) (λr hr=>Gd.ret ?_);rw [O3 h]; exact hr
 ·have h:¬ rv a<0:=λe=>O9 h ((BG ha).2 e)
  rw [O2 h];exact Gd.ret ⟨ha,la,rfl⟩
abbrev CX:=(List Nat×List (List LR))×List Int
theorem xd {j w:Nat} (hj:j<=w) (hw:w<=1000):i64.wrap ((j:Int)+1)=((j+1:Nat):Int):=by
 rw [bJ ⟨by omega,by omega⟩]; omega
theorem NV {n w W k i:Nat}{l:List Int}{sg:List Nat}{p:Int}{k1 k2:Nat}{nxO:List (List LR)->Option CX}{f:LR}{rows:List (List LR)}{m:Mt}{F:Rat}{Q:CX->Prop}
  (hSG:(sg.set ((l.length:Int):Int).toNat k1).set (p:Int).toNat k2=xw n) (hl:l.length=k) (hk:k<n) (hi:i<n) (hw:w<=1000) (hkw:k<=w) (hW:W<=100000) (hik:i≠k)
  (hf:ou f) (hfl:RL f W) (fv:rv f=F) (hM:tC rows n w W m) (hb:∀ c,k<=c->c<w->RB (m i c-F*m k c) W)
  (hnx:∀ rows',tC rows' n w W (λi' c=>if i'=i/\k<=c then m i c-F*m k c else m i' c)->Gd (nxO ([]::rows')) Q):
  Gd (gH (λs n'=>n6 l sg p k1 k2 nxO i f s.1 s.2 n') fC ((k:Int),[]::rows)) Q:=by
 refine Gd.gH (λs=>∃ (j:Nat) (rows':List (List LR)),s=((j:Int),[]::rows')/\k<=j/\j<=w/\tC rows' n w W (λi' c=>if i'=i/\k<=c/\c<j then m i c-F*m k c else m i' c)) (λs=>((w:Int)-s.1).toNat) ?_ fC _
  ⟨k,rows,rfl,Pl _,hkw,hM.congr (λi' c _ _=>by rw [O2 (by omega)])⟩ (by simp only [fC]; omega)
 rintro _ nx ⟨j,rows',rfl,hkj,hjw,hM'⟩ hnext;show Gd (n6 l sg p k1 k2 nxO i f (j:Int) ([]::rows') nx) Q;unfold n6;simp only [hSG];refine oN hi ?_;rw [hM'.I8 hi]
 by_cases hj:j<w
 ·refine Gd.ite (λ_=>?_) (λh=>absurd (Uv.1 h) (by simp; omega))
  rw [hl];refine oN hk (rZ hM' hk hj (λy hy hyl hyv=>?_));rw [O2 (by omega)] at hyv
  refine Gd.ite (λhs=>?_) (λhs=>?_)
  ·refine oN hi (oN hi (rZ hM' hi hj (λyi gi gil giv=>oN hk (rZ hM' hk hj (λyr gr grl grv=>?_)))))
   rw [O2 (by omega)] at giv grv
   refine Gd.eC (yx hf gr hfl grl (by omega)) (λmm hmm=>Gd.eC (xb gi hmm.1 gil hmm.2.1 (by omega)) (λr hr=>rZ hM' hi hj (λ_ _ _ _=>?_)))
   have hv:rv r=m i j-F*m k j:=by rw [hr.2.2,hmm.2.2,giv,grv,fv]
   have hrl:RL r W:=hr.1.rb (by rw [hv]; exact hb j hkj hj)
   unfold mb;rw [xd hjw hw];have h2:=hM'.set hi hj hr.1 hrl;refine hnext _ ⟨j+1,_,rfl,by omega,by omega,h2.congr (λi' c _ _=>?_)⟩ (by simp only; omega)
   by_cases e:i'=i/\c=j
   ·obtain ⟨rfl,rfl⟩:=e
    rw [O3 ⟨rfl,rfl⟩,O3 (by omega),hv]
   ·rw [O2 e]
    by_cases e2:i'=i/\k<=c/\c<j
    ·rw [O3 e2,O3 (by omega)]
    ·rw [O2 e2,O2 (by omega)]
  ·have h0:m k j=0:=by
    have:=wZ hy;rw [hyv] at this;have hs2:decide (cP y=0)=true:=by simpa using hs
    rw [this] at hs2;exact O1 hs2
   unfold mb;rw [xd hjw hw];refine hnext _ ⟨j+1,rows',rfl,by omega,by omega,hM'.congr (λi' c _ _=>?_)⟩ (by simp only; omega)
   by_cases e:i'=i/\c=j
   ·obtain ⟨rfl,rfl⟩:=e
    rw [if_neg (by omega),if_pos (by omega),h0]; grind
   ·by_cases e2:i'=i/\k<=c/\c<j
    ·rw [O3 e2,O3 (by omega)]
    ·rw [O2 e2,O2 (by omega)]
 ·refine Gd.ite (λh=>absurd (O1 h) (by omega)) (λ_=>?_)
  unfold jF;refine hnx rows' (hM'.congr (λi' c _ hc=>?_))
  by_cases e:i'=i/\k<=c
  ·rw [O3 e,O3 (by omega)]
  ·rw [O2 e,O2 (by omega)]
theorem NU {n w W k:Nat}{l:List Int}{sg:List Nat}{p:Int}{k1 k2:Nat}{K:List (List LR)->Option CX}{rows:List (List LR)}{m:Mt}{Q:CX->Prop}
  (hSG:(sg.set ((l.length:Int):Int).toNat k1).set (p:Int).toNat k2=xw n) (hl:l.length=k) (hk:k<n) (hw:w<=1000) (hkw:k<w) (hW:W<=100000)
  (hM:tC rows n w W m) (hz:∀ c,c<k->m k c=0) (hb:∀ i c,i<n->i≠k->k<=c->c<w->RB (m i c-m i k*m k c) W)
  (hK:∀ rows',tC rows' n w W (λi c=>if i=k then m k c else m i c-m i k*m k c)->Gd (K ([]::rows')) Q):
  Gd (jN (λkk s n'=>pS l (k:Int) sg p k1 k2 kk s n') K n 0 ([]::rows)) Q:=by
 refine Gd.jN (λM i s=>i+M=n/\∃ rows':List (List LR),s=[]::rows'/\tC rows' n w W (λi' c=>if i'<i/\i'≠k then m i' c-m i' k*m k c else m i' c)) ?_ ?_ n 0 _
  ⟨by omega,rows,rfl,hM.congr (λi' c _ _=>by rw [O2 (by omega)])⟩
 ·rintro M i _ nx ⟨hiM,rows',rfl,hM'⟩ hnx
  have hi:i<n:=by omega
  unfold pS;simp only [hSG];rw [hl];refine Gd.ite (λh=>?_) (λh=>?_)
  ·have e:i=k:=by have:=O1 h; omega
   subst e;unfold jF;refine hnx _ ⟨by omega,rows',rfl,hM'.congr (λi' c _ _=>?_)⟩
   by_cases e:i'<i/\i'≠i
   ·rw [O3 e,O3 (by omega)]
   ·rw [O2 e,O2 (by omega)]
  ·have hik:i≠k:=λe=>by rw [e] at h; simp at h
   refine oN hi (rZ hM' hi hkw (λy hy hyl hyv=>?_));rw [O2 (by omega)] at hyv
   refine Gd.ite (λhs=>?_) (λhs=>?_)
   ·have h0:m i k=0:=by
     have:=wZ hy;rw [hyv] at this;rw [this] at hs;exact O1 hs
    unfold jF;refine hnx _ ⟨by omega,rows',rfl,hM'.congr (λi' c _ _=>?_)⟩
    by_cases e:i'=i
    ·subst e
     rw [if_neg (by omega),if_pos ⟨by omega,hik⟩,h0]; grind
    ·by_cases e2:i'<i/\i'≠k
     ·rw [O3 e2,O3 (by omega)]
     ·rw [O2 e2,O2 (by omega)]
   ·refine oN hi (rZ hM' hi hkw (λf hf hfl hfv=>?_))
    rw [O2 (by omega)] at hfv
    refine NV (m:=λi' c=>if i'<i/\i'≠k then m i' c-m i' k*m k c else m i' c) hSG hl hk hi hw (by omega) hW hik hf hfl hfv hM' (λc h1 h2=>?_) (λrows'' hM''=>?_)
    ·rw [O2 (by omega),O2 (by omega)]
     exact hb i c hi hik h1 h2
    ·refine hnx _ ⟨by omega,rows'',rfl,hM''.congr (λi' c _ _=>?_)⟩
     by_cases e:i'=i
     ·subst e
      rw [O3 (show i'<i'+1/\i'≠k from ⟨by omega,hik⟩),O2 (show ¬ (i'<i'/\i'≠k) by omega),O2 (show ¬ (k<i'/\k≠k) by omega)]
      by_cases e3:k<=c
      ·rw [O3 ⟨rfl,e3⟩]
      ·rw [if_neg (by omega),hz c (by omega)]; grind
     ·rw [O2 (show ¬ (i'=i/\k<=c) from λhh=>e hh.1)]
      by_cases e2:i'<i/\i'≠k
      ·rw [O3 e2,O3 (by omega)]
      ·rw [O2 e2,O2 (by omega)]
 ·rintro i _ ⟨hi,rows',rfl,hM'⟩
  refine hK rows' (hM'.congr (λi' c hi' _=>?_))
  by_cases e:i'=k
  ·subst e; rw [O2 (by omega),O3 rfl]
  ·rw [O3 ⟨by omega,e⟩,O2 e]
end Go.Sim
