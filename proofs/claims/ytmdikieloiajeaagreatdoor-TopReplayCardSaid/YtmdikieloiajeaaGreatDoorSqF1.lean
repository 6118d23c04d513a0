/-
  The proof, part F1.
-/
import Derived.Lib.ItoaNum
import Derived.Lib.ParseIntB
import Derived.KernelRfl
import Derived.Test.YtmdikieloiajeaaGreatDoorSqA2
set_option linter.unusedVariables false
set_option linter.unusedSimpArgs false
set_option linter.unusedSectionVars false
set_option linter.unnecessarySimpa false
namespace Go.Sim
abbrev WA := @BitVec.ofInt_natCast
abbrev WC := @BitVec.toNat_ofNat
abbrev WD := @Bool.eq_false_or_eq_true
abbrev WE := @Bool.not_eq_false'
abbrev WG := @Bool.or_eq_false_iff
abbrev WI := @Int.mul_add
abbrev WJ := @Int.mul_assoc
abbrev WK := @Int.mul_sub
abbrev WL := @Int.natCast_add
abbrev WO := @Go.Lib.decDigits_one
abbrev WU := @List.drop_of_length_le
abbrev WV := @List.eq_nil_or_concat
abbrev WZ := @List.getLast?_eq_getElem?
abbrev W0 := @List.head?_cons
abbrev W1 := @List.length_eq_one_iff
abbrev W3 := @List.length_nil
abbrev W4 := @List.length_pos_iff
abbrev W5 := @List.mem_or_eq_of_mem_set
abbrev W6 := @List.mem_replicate
abbrev W_ := @List.take_add_one
abbrev Xa := @Nat.and_two_pow_sub_one_eq_mod
abbrev Xb := @Nat.div_eq_of_lt
abbrev Xc := @Nat.div_lt_iff_lt_mul
abbrev Xd := @Nat.le_div_iff_mul_le
abbrev Xe := @Nat.lt_of_mul_lt_mul_left
abbrev Xf := @Nat.mod_add_div
abbrev Xg := @Nat.mul_add
abbrev Xh := @Nat.mul_assoc
abbrev Xi := @Nat.mul_comm
abbrev Xj := @Nat.mul_le_mul_left
abbrev Xk := @Nat.mul_zero
abbrev Xl := @Nat.pow_add
abbrev Xm := @Nat.pow_le_pow_left
abbrev Xn := @Nat.pow_le_pow_right
abbrev Xo := @Nat.pow_lt_pow_iff_right
abbrev Xp := @Nat.pow_mul
abbrev Xq := @Nat.pow_pos
abbrev Xr := @Nat.pow_succ
abbrev Xs := @Nat.pow_zero
abbrev Xw := @Rat.divInt_nonneg_iff_of_pos_right
abbrev Xx := @Rat.div_def
abbrev Xz := @Rat.intCast_mul
abbrev XA := @Rat.intCast_neg
abbrev XB := @Rat.le_refl
abbrev XC := @Rat.le_trans
abbrev XD := @Rat.mul_eq_zero
abbrev XE := @Rat.mul_inv_cancel
abbrev XF := @Rat.mul_nonneg
abbrev XG := @UInt8.toNat_ofNat'
abbrev XI := @decide_eq_decide
abbrev XJ := @decide_eq_false
abbrev XK := @decide_eq_false_iff_not
abbrev XL := @decide_eq_true
end Go.Sim
namespace Go.Sim
open Go
open _root_.Go.IntKind (i64 u64 u32 u8)
abbrev WB:Nat:=4294967296
def nv:List bR->Nat
 | []=>0
 | y::l=>y.n.toNat+WB*nv l
def Wf (l:List bR):Prop:=∀ y ∈ l,0<=y.n/\y.n<4294967296
theorem Wf.nil:Wf []:=λy h=>by cases h
theorem Wf.app {a b:List bR} (I:Wf a) (J:Wf b):Wf (a++b):=λy h=>by
 rcases RZ.1 h with h | h
 ·exact I y h
 ·exact J y h
theorem Wf.one {v:Int} (h:0<=v/\v<4294967296):Wf [⟨v⟩]:=λy I=>by
 rw [R_] at I; subst I; exact h
theorem Wf.take {l:List bR} (h:Wf l) (k:Nat):Wf (l.take k):=λy I=>h y (Uv I)
theorem EG:∀ (a b:List bR),nv (a++b)=nv a+WB ^ a.length*nv b
 | [],b=>by simp [nv]
 | y::a,b=>by
  rw [TD,nv,EG a b,nv,RW,Xr];rw [Xg,<- Xh,Xi (WB ^ a.length) WB,Uc]
theorem CE (y:bR):nv [y]=y.n.toNat:=by simp [nv]
theorem vh (a:List bR) (y:bR):nv (a++[y])=nv a+WB ^ a.length*y.n.toNat:=by rw [EG,CE]
theorem tE:∀ {l:List bR},Wf l->nv l<WB ^ l.length
 | [],_=>by simp [nv]
 | y::l,h=>by
  have I:=tE (l:=l) (λz J=>h z (RV _ J));have Y:=h y (by simp)
  rw [nv,RW,Xr];have:WB*nv l+WB<=WB ^ l.length*WB:=by
   rw [Xi (WB ^ l.length) WB,<- Nat.mul_succ];exact Xj _ I
  have:y.n.toNat<WB:=by show y.n.toNat<4294967296; omega
  omega
theorem rT {l:List bR}{k:Nat}{y:bR} (h:l[k]? = some y):nv (l.take (k+1))=nv (l.take k)+WB ^ k*y.n.toNat:=by
 have I:=(RP.1 h).1;rw [W_,h];show nv (l.take k++[y])=_;rw [vh,Sm,SW (by omega)]
theorem Le (n:Nat):nv (List.replicate n (⟨0⟩:bR))=0:=by
 induction n with
 | zero=>rfl
 | succ n ih=>rw [Tv,nv,ih]; rfl
theorem xl {l:List bR}{k:Nat}{v:bR} (h:k<l.length):(l.set k v).take (k+1)=l.take k++[v]:=by
 rw [W_,Sp h,UA (R9 _)]; rfl
theorem yd (n:Int):u32.wrap n=n%4294967296:=by simp [IntKind.wrap,IntKind.bits,IntKind.signed]
theorem EU (n:Int):u64.wrap n=n%18446744073709551616:=by simp [IntKind.wrap,IntKind.bits,IntKind.signed]
theorem gM {n:Int} (h:0<=n/\n<18446744073709551616):u64.wrap n=n:=by rw [EU]; omega
theorem DJ (n:Int):mG .u64 n 32=n / 4294967296:=by
 unfold mG;rw [show (min (32:Int).toNat u64.bits)=32 by decide,T0 _ (by decide)]
 rfl
theorem Lw (n:Int):mG .i64 n 32=n / 4294967296:=by
 unfold mG;rw [show (min (32:Int).toNat i64.bits)=32 by decide,T0 _ (by decide)]
 rfl
abbrev LI:=aC
structure tL (a:LI):Prop where
 wf:Wf a.words
 top:∀ y,a.words.getLast? = some y->y.n≠0
 sign:a.minus=true->a.words≠[]
def gB (a:LI):Int:=if a.minus=true then -(nv a.words:Int) else (nv a.words:Int)
theorem um (minus:Bool):∀ (w:List bR),Wf w->w.length<=1000000->Gd (iQ minus w) (λr=>tL r/\r.words.length<=w.length/\nv r.words=nv w/\(r.minus=true↔minus=true/\nv w≠0)):=by
 intro w hw hl;unfold iQ;refine Gd.fG (λ(l:List bR)=>Wf l/\l.length<=w.length/\nv l=nv w) (λl=>l.length) ?_ eI w ⟨hw,R9 _,rfl⟩ (by simp only [eI]; omega)
 rintro l nx ⟨h1,h2,Z⟩ hnx;have Y:(∀ y,l.getLast? = some y->y.n≠0)->Gd (oL minus l) (λr=>tL r/\r.words.length<=w.length/\nv r.words=nv w/\(r.minus=true↔minus=true/\nv w≠0)):=λht=>by
  have hz:nv l=0->l=[]:=λI=>by
   rcases WV l with h | ⟨a,y,h⟩
   ·exact h
   ·exfalso
    have h:l=a++[y]:=by simpa using h
    have J:=ht y (by rw [h]; simp)
    have hyw:=h1 y (by rw [h]; simp)
    rw [h,vh] at I;have hp:0<WB ^ a.length:=Xq (by decide)
    have:0<WB ^ a.length*y.n.toNat:=Nat.mul_pos hp (by omega)
    omega
  unfold oL;refine Gd.ite (λO=>Gd.ret ⟨⟨h1,ht,?_⟩,h2,Z,?_⟩) (λO=>Gd.ret ⟨⟨h1,ht,λh=>by cases h⟩,h2,Z,?_⟩)
  ·intro h e
   have h:decide (0<(l.length:Int))=true:=h;have e:l=[]:=e;rw [e] at h; simp at h
  ·constructor
   ·intro h
    have h:0<(l.length:Int):=RT h;refine ⟨O,λI=>?_⟩;rw [<- Z] at I;have:=hz I;rw [this] at h; simp at h
   ·intro h
    show decide (0<(l.length:Int))=true;rw [Sy];cases l with
    | nil=>exact absurd (Z.symm.trans rfl) h.2
    | cons a b=>simp
  ·rw [O]
   constructor
   ·intro h; cases h
   ·intro h; cases h.1
 unfold uS;refine Gd.ite (λh=>?_) (λh=>Y (λy J=>?_))
 ·have hpos:0<l.length:=by have:=RT h; omega
  have hw1:i64.wrap ((l.length:Int)-1)=((l.length-1:Nat):Int):=by rw [bG ⟨by omega,by omega⟩]; omega
  rw [hw1];refine Gd.gA (by omega) (Gd.ite (λI=>?_) (λI=>Y (λy J=>?_)))
  ·have I:(l[l.length-1]).n=0:=RT I
   refine Gd.nd ⟨by omega,by omega⟩ ?_
   have hs:tG l 0 (((l.length-1:Nat):Int).toNat)=l.take (l.length-1):=by simp [tG]
   rw [hs];refine hnx _ ⟨h1.take _,by rw [Sm]; omega,?_⟩ (by rw [Sm]; omega)
   have:=rT (l:=l) (k:=l.length-1) (RK (by omega))
   rw [show l.length-1+1=l.length by omega,TE,I] at this
   rw [<- Z,this]; simp
  ·have I:(l[l.length-1]).n≠0:=R2 I
   rw [WZ,RK (by omega)] at J
   rw [<- RQ J]; exact I
 ·have h:¬ 0<(l.length:Int):=R2 h
  have:l=[]:=Sg (by omega)
  rw [this] at J; cases J
theorem Fh {a b:List bR} (ha:Wf a) (hb:Wf b) (hl:b.length<=a.length) (I:a.length<=1000000):
  Gd (lK a b) (λr=>Wf r/\r.length=a.length+1/\nv r=nv a+nv b):=by
 have w1:i64.wrap ((a.length:Int)+1)=((a.length+1:Nat):Int):=by rw [bG ⟨by omega,by omega⟩]; omega
 unfold lK;rw [w1];refine Gd.nd ⟨by omega,by omega⟩ ?_
 refine Gd.kz (λm k (z:List bR×Int)=>k+m=a.length/\z.1.length=a.length+1/\Wf z.1/\0<=z.2/\z.2<=1/\nv (z.1.take k)+WB ^ k*z.2.toNat=nv (a.take k)+nv (b.take k)) ?_ ?_ _ 0 _ ⟨by simp,by simp,λy Z=>?_,Ub _,by show (0:Int)<=1; omega,by simp [nv]⟩
 ·rintro m k ⟨l,c⟩ nx ⟨h0,h1,h2,h3,h4,h5⟩ hnx
  simp only at h1 h2 h3 h4 h5 hnx ⊢;have hka:k<a.length:=by omega
  have J:((k:Int)).toNat=k:=by omega
  obtain ⟨y,Z⟩:∃ y,a[k]? = some y:=⟨_,RK hka⟩;have hyw:=ha y (RY Z);have fin:∀ (n:Int) (x:Nat),n=c+y.n+x->x<WB->nv (b.take (k+1))=nv (b.take k)+WB ^ k*x->Gd (lJ l nx k n) _:=λn x hn Y hb1=>by
   unfold lJ;rw [DJ,J,yd];have Y:x<4294967296:=Y;refine Gd.gA (by omega) (hnx _ ⟨by omega,by simp [h1],?_,by simp only; omega,by simp only; omega,?_⟩)
   ·intro z I
    rcases W5 I with I | I
    ·exact h2 z I
    ·rw [I]; simp only; omega
   ·simp only
    rw [xl (by omega),vh,Sm,SW (by omega),rT Z,hb1]
    simp only;have e1:(n%4294967296).toNat+WB*(n / 4294967296).toNat=c.toNat+y.n.toNat+x:=by
     show (n%4294967296).toNat+4294967296*(n / 4294967296).toNat=_;omega
    have e2:WB ^ k*(n%4294967296).toNat+WB ^ (k+1)*(n / 4294967296).toNat=WB ^ k*c.toNat+WB ^ k*y.n.toNat+WB ^ k*x:=by
     rw [Xr,Xh,<- Xg,e1,Xg,Xg]
    omega
  unfold r7;refine Gd.ix (by omega) (by rw [J]; exact Z) (Gd.ite (λh=>?_) (λh=>?_))
  ·have hkb:k<b.length:=by have:=RT h; omega
   obtain ⟨x,Y⟩:∃ x,b[k]? = some x:=⟨_,RK hkb⟩;have hxw:=hb x (RY Y);refine Gd.ix (by omega) (by rw [J]; exact Y) (fin _ x.n.toNat ?_ (by show x.n.toNat<4294967296; omega) (rT Y))
   rw [gM (n:=y.n) (by omega),gM (n:=c+y.n) (by omega),gM (n:=x.n) (by omega),gM (by omega)]
   omega
  ·have hkb:b.length<=k:=by have:=R2 h; omega
   refine fin _ 0 ?_ (by decide) ?_
   ·rw [gM (n:=y.n) (by omega),gM (by omega)]; simp
   ·rw [R3 (by omega),R3 (by omega)]; simp
 ·rintro k ⟨l,c⟩ ⟨h0,h1,h2,h3,h4,h5⟩
  simp only at h1 h2 h3 h4 h5 ⊢;have hk:k=a.length:=by omega
  subst hk;have hln:((a.length:Int)).toNat=a.length:=by omega
  rw [hln,yd];refine Gd.gA (by omega) (Gd.ret ⟨?_,by simp [h1],?_⟩)
  ·intro z I
   rcases W5 I with I | I
   ·exact h2 z I
   ·rw [I]; simp only; omega
  ·have e:=xl (l:=l) (k:=a.length) (v:=⟨c%4294967296⟩) (by omega)
   rw [R3 (by simp; omega)] at e
   rw [e,vh,Sm,SW (by omega)]
   simp only;rw [TE,R3 hl] at h5;rw [show (c%4294967296).toNat=c.toNat by omega]
   exact h5
 ·rw [W6] at Z
  rw [Z.2]; simp
theorem Oj {a b:List bR} (Z:Wf a) (hb:Wf b) (J:a.length<=1000000) (Y:b.length<=1000000):
  Gd (pR a b) (λr=>Wf r/\r.length=max a.length b.length+1/\nv r=nv a+nv b):=by
 unfold pR;refine Gd.ite (λh=>(Fh hb Z (by have:=RT h; omega) Y).mono ?_) (λh=>(Fh Z hb (by have:=R2 h; omega) J).mono ?_)
 ·rintro r ⟨I,h2,h3⟩
  have:=RT h;exact ⟨I,by omega,by omega⟩
 ·rintro r ⟨I,h2,h3⟩
  have:=R2 h;exact ⟨I,by omega,by omega⟩
def wJ (l:List bR):Prop:=∀ y,l.getLast? = some y->y.n≠0
theorem FX {l:List bR} (J:Wf l) (ht:wJ l) (I:l≠[]):WB ^ (l.length-1)<=nv l:=by
 rcases WV l with h | ⟨a,y,h⟩
 ·exact absurd h I
 ·have h:l=a++[y]:=by simpa using h
  have Z:=ht y (by rw [h]; simp)
  have Y:=J y (by rw [h]; simp)
  rw [h,vh,R5,SR,Nat.add_sub_cancel];have:WB ^ a.length*1<=WB ^ a.length*y.n.toNat:=Xj _ (by omega)
  omega
theorem vW {a b:List bR} (J:Wf a) (Y:Wf b) (I:wJ b) (h:a.length<b.length):nv a<nv b:=by
 have Z:=tE J;have h2:=FX Y I (by intro e; rw [e] at h; simp at h)
 have h3:WB ^ a.length<=WB ^ (b.length-1):=Xn (by decide) (by omega)
 omega
theorem Lb {a b:List bR} (J:Wf a) (Y:Wf b):a.length=b.length->nv a=nv b->a=b:=by
 induction a generalizing b with
 | nil=>intro h _; exact (Sg h.symm).symm
 | cons x a ih=>
  intro h e;cases b with
  | nil=>simp at h
  | cons y b=>
   have Z:=J x (by simp); have hy:=Y y (by simp)
   rw [nv,nv] at e;have e1:x.n.toNat=y.n.toNat:=by
    have:=R7 (·%WB) e;simp only [Nat.add_mul_mod_self_left] at this;rw [TG (by show x.n.toNat<4294967296; omega),TG (by show y.n.toNat<4294967296; omega)] at this
    exact this
   have e2:nv a=nv b:=by
    rw [e1] at e;exact Nat.eq_of_mul_eq_mul_left (by decide) (Nat.add_left_cancel e)
   have:=ih (λz I=>J z (RV _ I)) (λz I=>Y z (RV _ I)) (by simpa using h) e2
   cases x; cases y
   simp only at e1 Z hy;rw [this]
   congr 2; omega
theorem rM {l:List bR}{k:Nat}{x:bR} (h:l[k]? = some x):l.drop k=x::l.drop (k+1):=by
 obtain ⟨I,J⟩:=RP.1 h;rw [Si I,J]
theorem xi {l:List bR}{k:Nat}{x:bR} (h:l[k]? = some x):nv l=nv (l.take k)+WB ^ k*(x.n.toNat+WB*nv (l.drop (k+1))):=by
 have I:=(RP.1 h).1;have e:nv l=nv (l.take k++l.drop k):=by rw [Te]
 rw [e,EG,rM h,Sm,SW (by omega)]
 rfl
def Qk (r:Int) (x y:Nat):Prop:=(r<0↔x<y)/\(r=0↔x=y)
theorem Kk {a b : List bR} (ha : Wf a) (hb : Wf b) (hta : wJ a) (htb : wJ b) (hza : a.length ≤ 1000000) (hzb : b.length ≤ 1000000) : Gd (nN a b) (fun r => Qk r (nv a) (nv b)) := by
  unfold nN;refine Gd.ite (fun h => Gd.ret ?_) (fun h => ?_)
  · have h : ¬ (a.length : Int) = b.length := by simpa using h
    rw [bG ⟨by omega, by omega⟩]
    rcases Nat.lt_or_gt_of_ne (show a.length ≠ b.length by omega) with hl | hl
    · have := vW ha hb htb hl
      exact ⟨⟨fun _ => this, fun _ => by omega⟩, ⟨fun h => by omega, fun h => by omega⟩⟩
    · have := vW hb ha hta hl
      exact ⟨⟨fun h => by omega, fun h => by omega⟩, ⟨fun h => by omega, fun h => by omega⟩⟩
  · have hl : a.length = b.length := by have : (a.length : Int) = b.length := by simpa using h
                                        omega
    rw [bG ⟨by omega, by omega⟩]
    refine Gd.fG (fun (i : Int) => -1 ≤ i ∧ i < a.length ∧ a.drop (i + 1).toNat = b.drop (i + 1).toNat) (fun i => (i + 1).toNat) ?_ eI _ ⟨by omega, by omega, ?_⟩ (by simp only [eI]; omega)
    · rintro i nx ⟨h1, h2, Z⟩ hnx
      unfold r8;refine Gd.ite (fun hi => ?_) (fun hi => Gd.ret ?_)
      · have hi : 0 ≤ i := RT hi
        obtain ⟨k, rfl⟩ : ∃ k : Nat, i = k := ⟨i.toNat, by omega⟩
        obtain ⟨x, hx⟩ : ∃ x, a[k]? = some x := ⟨_, RK (by omega)⟩
        obtain ⟨y, hy⟩ : ∃ y, b[k]? = some y := ⟨_, RK (by omega)⟩
        have hxw := ha x (RY hx); have hyw := hb y (RY hy)
        have Y : ((k : Int)).toNat = k := by omega
        rw [show ((k : Int) + 1).toNat = k + 1 by omega] at Z
        have sa := xi hx;have sb := xi hy;rw [← Z] at sb;have la := tE (ha.take k); have lb := tE (hb.take k)
        rw [Sm, SW (by omega)] at la lb
        generalize nv (a.drop (k + 1)) = T at sa sb;generalize nv (a.take k) = ta at sa la;generalize nv (b.take k) = tb at sb lb;generalize WB ^ k = P at sa sb la lb;have I : ∀ (u v tu tv : Nat), u < v → tu < P → tu + P * (u + WB * T) < tv + P * (v + WB * T) := fun u v tu tv huv hu => by
          have : P * (u + 1) ≤ P * v := Xj _ huv;rw [Xg] at this;rw [Xg, Xg];omega
        refine Gd.ix (by omega) (by rw [Y]; exact hx) (Gd.ix (by omega) (by rw [Y]; exact hy) (Gd.ite (fun hne => ?_) (fun he => ?_)))
        · have hne : ¬ x.n = y.n := by simpa using hne
          refine Gd.ix (by omega) (by rw [Y]; exact hx) (Gd.ix (by omega) (by rw [Y]; exact hy) (Gd.ite (fun J => Gd.ret ?_) (fun J => Gd.ret ?_)))
          · have J : x.n < y.n := RT J
            have := I x.n.toNat y.n.toNat ta tb (by omega) la
            rw [← sa, ← sb] at this;exact ⟨⟨fun _ => this, fun _ => by omega⟩, ⟨fun h => by omega, fun h => by omega⟩⟩
          · have J : ¬ x.n < y.n := R2 J
            have := I y.n.toNat x.n.toNat tb ta (by omega) lb
            rw [← sa, ← sb] at this;exact ⟨⟨fun h => by omega, fun h => by omega⟩, ⟨fun h => by omega, fun h => by omega⟩⟩
        · have he : x.n = y.n := by simpa using he
          rw [bG ⟨by omega, by omega⟩]
          refine hnx _ ⟨by omega, by omega, ?_⟩ (by omega)
          rw [show ((k : Int) - 1 + 1).toNat = k by omega, rM hx, rM hy, Z]
          have : x = y := by cases x; cases y; simp only at he; rw [he]
          rw [this]
      · have hi : ¬ 0 ≤ i := R2 hi
        have : (i + 1).toNat = 0 := by omega
        rw [this, S8, S8] at Z;rw [Z];exact ⟨⟨fun h => by omega, fun h => by omega⟩, ⟨fun _ => rfl, fun _ => rfl⟩⟩
    · rw [show ((a.length : Int) - 1 + 1).toNat = a.length by omega, UB, WU (by omega)]
theorem LF {a b:List bR} (ha:Wf a) (hb:Wf b) (hle:nv b<=nv a) (hl:b.length<=a.length) (hz:a.length<=1000000):
  Gd (nQ a b) (λr=>Wf r/\r.length=a.length/\nv r=nv a-nv b):=by
 unfold nQ;refine Gd.nd ⟨by omega,by omega⟩ ?_
 refine Gd.kz (λm k (z:List bR×Int)=>k+m=a.length/\z.1.length=a.length/\Wf z.1/\-1<=z.2/\z.2<=0/\(nv (z.1.take k):Int)+(WB ^ k:Nat)*z.2=nv (a.take k)-nv (b.take k)) ?_ ?_ _ 0 _ ⟨by simp,by simp,λy hy=>?_,by show (-1:Int)<=0; omega,Ub _,by simp [nv]⟩
 ·rintro m k ⟨l,c⟩ nx ⟨h0,J,Y,h3,h4,Z⟩ hnx
  simp only at J Y h3 h4 Z hnx ⊢;have hka:k<a.length:=by omega
  have I:((k:Int)).toNat=k:=by omega
  obtain ⟨y,hy⟩:∃ y,a[k]? = some y:=⟨_,RK hka⟩;have hyw:=ha y (RY hy);have fin:∀ (n:Int) (x:Nat),n=c+y.n-x->x<WB->nv (b.take (k+1))=nv (b.take k)+WB ^ k*x->Gd (lL l nx k n) _:=λn x hn hx hb1=>by
   unfold lL;rw [Lw,I,yd];have hx:x<4294967296:=hx;refine Gd.gA (by omega) (hnx _ ⟨by omega,by simp [J],?_,by simp only; omega,by simp only; omega,?_⟩)
   ·intro z hz
    rcases W5 hz with hz | hz
    ·exact Y z hz
    ·rw [hz]; simp only; omega
   ·simp only
    rw [xl (by omega),vh,Sm,SW (by omega),rT hy,hb1]
    simp only;have e1:((n%4294967296).toNat:Int)+4294967296*(n / 4294967296)=c+y.n.toNat-x:=by omega
    have e2:((WB ^ k:Nat):Int)*((n%4294967296).toNat:Int)+((WB ^ (k+1):Nat):Int)*(n / 4294967296)=((WB ^ k:Nat):Int)*c+((WB ^ k:Nat):Int)*(y.n.toNat:Int)-((WB ^ k:Nat):Int)*(x:Int):=by
     rw [Xr,SI,WJ,<- WI,show ((WB:Nat):Int)=4294967296 from rfl,e1,WK,WI]
    simp only [WL,SI] at *
    omega
  unfold r_;refine Gd.ix (by omega) (by rw [I]; exact hy) (Gd.ite (λh=>?_) (λh=>?_))
  ·have hkb:k<b.length:=by have:=RT h; omega
   obtain ⟨x,hx⟩:∃ x,b[k]? = some x:=⟨_,RK hkb⟩;have hxw:=hb x (RY hx);refine Gd.ix (by omega) (by rw [I]; exact hx) (fin _ x.n.toNat ?_ (by show x.n.toNat<4294967296; omega) (rT hx))
   rw [bG (n:=y.n) (by omega),bG (n:=c+y.n) (by omega),bG (n:=x.n) (by omega),bG (by omega)]
   omega
  ·have hkb:b.length<=k:=by have:=R2 h; omega
   refine fin _ 0 ?_ (by decide) ?_
   ·rw [bG (n:=y.n) (by omega),bG (by omega)]; simp
   ·rw [R3 (by omega),R3 (by omega)]; simp
 ·rintro k ⟨l,c⟩ ⟨h0,J,Y,h3,h4,Z⟩
  simp only at J Y h3 h4 Z ⊢;have hk:k=a.length:=by omega
  subst hk;rw [TE,R3 hl,R3 (by omega)] at Z
  have hlt:=tE Y;rw [J] at hlt;have hc:c=0:=by
   rcases (show c = -1\/c=0 by omega) with h | h
   ·exfalso; rw [h] at Z; omega
   ·exact h
  rw [hc] at Z;exact Gd.ret ⟨Y,J,by omega⟩
 ·rw [W6] at hy
  rw [hy.2]; simp
theorem tL.tp {a:LI} (h:tL a):wJ a.words:=h.top
theorem yN {r:LI}{m:Bool}{n:Nat} (Y:nv r.words=n) (J:r.minus=true↔m=true/\n≠0):gB r=if m=true then -(n:Int) else n:=by
 unfold gB;rw [Y]
 by_cases I:r.minus=true
 ·rw [RU I,RU (J.1 I).1]
 ·rw [RS I]
  by_cases O:m=true
  ·have:n=0:=by
    by_cases hn:n=0
    ·exact hn
    ·exact absurd (J.2 ⟨O,hn⟩) I
   rw [RU O,this]; rfl
  ·rw [RS O]
theorem EE {a:LI} (h:tL a) (J:a.words.length<=1000000):Gd (lQ a) (λr=>tL r/\r.words.length<=a.words.length/\gB r = -gB a):=by
 unfold lQ;refine Gd.eN (um (!a.minus) a.words h.wf J) (λr I=>Gd.ret ⟨I.1,I.2.1,?_⟩);rw [yN I.2.2.1 I.2.2.2];unfold gB;cases a.minus <;> simp
theorem Er {a b:LI} (Y:tL a) (Z:tL b) (hza:a.words.length<=900000) (hzb:b.words.length<=900000):
  Gd (lP a b) (λr=>tL r/\r.words.length<=max a.words.length b.words.length+1/\gB r=gB a+gB b):=by
 unfold lP;refine Gd.ite (λh=>?_) (λh=>?_)
 ·have h:a.minus=b.minus:=RT h
  refine Gd.eN (Oj Y.wf Z.wf (by omega) (by omega)) (λw hw=>Gd.eN (um a.minus w hw.1 (by omega)) (λr J=>Gd.ret ⟨J.1,by omega,?_⟩))
  rw [yN J.2.2.1 J.2.2.2,hw.2.2];unfold gB;rw [<- h];cases a.minus <;> simp <;> omega
 ·have h:a.minus≠b.minus:=R2 h
  refine Gd.eN (Kk Y.wf Z.wf Y.tp Z.tp (by omega) (by omega)) (λc hc=>Gd.ite (λh0=>?_) (λh0=>?_))
  ·have h0:0<=c:=RT h0
   have hle:nv b.words<=nv a.words:=by
    have:=hc.1; omega
   have I:b.words.length<=a.words.length:=by
    rcases TF a.words.length b.words.length with hlt | hge
    ·have:=vW Y.wf Z.wf Z.tp hlt; omega
    ·exact hge
   refine Gd.eN (LF Y.wf Z.wf hle I (by omega)) (λw hw=>Gd.eN (um a.minus w hw.1 (by omega)) (λr J=>Gd.ret ⟨J.1,by omega,?_⟩))
   rw [yN J.2.2.1 J.2.2.2,hw.2.2];unfold gB;cases ea:a.minus <;> cases eb:b.minus <;> first | (rw [ea,eb] at h; exact absurd rfl h) | (simp; omega)
  ·have h0:¬ 0<=c:=R2 h0
   have hlt:nv a.words<nv b.words:=hc.1.1 (by omega)
   have I:a.words.length<=b.words.length:=by
    rcases TF b.words.length a.words.length with hl | hge
    ·have:=vW Z.wf Y.wf Y.tp hl; omega
    ·exact hge
   refine Gd.eN (LF Z.wf Y.wf (by omega) I (by omega)) (λw hw=>Gd.eN (um b.minus w hw.1 (by omega)) (λr J=>Gd.ret ⟨J.1,by omega,?_⟩))
   rw [yN J.2.2.1 J.2.2.2,hw.2.2];unfold gB;cases ea:a.minus <;> cases eb:b.minus <;> first | (rw [ea,eb] at h; exact absurd rfl h) | (simp; omega)
theorem My {a b:LI} (Z:tL a) (hb:tL b) (I:a.words.length<=900000) (hzb:b.words.length<=900000):
  Gd (oI a b) (λr=>tL r/\r.words.length<=max a.words.length b.words.length+1/\gB r=gB a-gB b):=by
 unfold oI;refine Gd.eN (EE hb (by omega)) (λc J=>Gd.eN (Er Z J.1 I (by omega)) (λr Y=>Gd.ret ⟨Y.1,by omega,by rw [Y.2.2,J.2.2]; omega⟩))
theorem CF {l:List bR}{k:Nat}{x v:bR} (h:l[k]? = some x):nv (l.set k v)+WB ^ k*x.n.toNat=nv l+WB ^ k*v.n.toNat:=by
 have Y:=(RP.1 h).1;have I:=xi h;have J:nv (l.set k v)=nv (l.take k)+WB ^ k*(v.n.toNat+WB*nv (l.drop (k+1))):=by
  have:=xi (l:=l.set k v) (k:=k) (x:=v) (Sp Y);rw [UA (R9 _),TP (by omega)] at this
  exact this
 rw [Xg] at I J;omega
theorem Wf.set {l:List bR} (h:Wf l) {k:Nat}{v:Int} (J:0<=v/\v<4294967296):Wf (l.set k ⟨v⟩):=λz I=>by
 rcases W5 I with I | I
 ·exact h z I
 ·rw [I]; exact J
theorem K8 {nz I J P W c vX x y s B T:Nat} (Z:I+P*vX=nz+P*(s%W)) (hs:s=c+vX+x*y) (h2:nz+P*c=J+x*T*B):I+P*W*(s / W)=J+x*T*B+P*x*y:=by
 have Y:s%W+W*(s / W)=s:=Xf s W;have e:P*(s%W)+P*(W*(s / W))=P*s:=by rw [<- Xg,Y]
 have e2:P*s=P*c+P*vX+P*(x*y):=by rw [hs,Xg,Xg]
 rw [Xh P W,Xh P x];omega
theorem wQ {a b:LI} (ha:tL a) (hb:tL b) (hz:a.words.length+b.words.length<=900000):
  Gd (eZ a b) (λr=>tL r/\r.words.length<=a.words.length+b.words.length/\gB r=gB a*gB b):=by
 have wN:i64.wrap ((a.words.length:Int)+(b.words.length:Int))=((a.words.length+b.words.length:Nat):Int):=by rw [bG ⟨by omega,by omega⟩]; omega
 unfold eZ;rw [wN];refine Gd.nd ⟨by omega,by omega⟩ ?_
 refine Gd.dE (λi ys (z:List bR)=>ys=a.words.drop i/\i<=a.words.length/\z.length=a.words.length+b.words.length/\Wf z/\nv z=nv (a.words.take i)*nv b.words/\∀ q,i+b.words.length<=q->∀ y,z[q]? = some y->y.n=0) ?_ ?_ _ 0 _ ⟨by simp,by omega,by simp; omega,λy J=>?_,by rw [Le]; simp [nv],λq _ y J=>?_⟩
 ·rintro i x ys z0 nx ⟨e0,e1,e2,e3,e4,e5⟩ hnx
  have hi:i<a.words.length:=by
   have:=R7 List.length e0;simp at this; omega
  have hx:a.words[i]? = some x:=by
   have:=R7 (·[0]?) e0;simpa [SB] using this.symm
  have hys:ys=a.words.drop (i+1):=by
   have:=R7 (List.drop 1) e0;simpa using this
  have hxw:=ha.wf x (RY hx);unfold sK;refine Gd.dE (λk bs (z:List bR×Int)=>bs=b.words.drop k/\k<=b.words.length/\z.1.length=a.words.length+b.words.length/\Wf z.1/\0<=z.2/\z.2<4294967296/\nv z.1+WB ^ (i+k)*z.2.toNat=nv z0+x.n.toNat*nv (b.words.take k)*WB ^ i/\∀ q,i+k<=q->z.1[q]? = z0[q]?) ?_ ?_ _ 0 _ ⟨by simp,by omega,e2,e3,Ub _,by show (0:Int)<4294967296; omega,by simp [nv],λq _=>rfl⟩
  ·rintro k y bs ⟨l,c⟩ nx2 ⟨f0,f1,f2,f3,f4,f5,f6,f7⟩ Y
   simp only at f2 f3 f4 f5 f6 f7 Y ⊢;have hk:k<b.words.length:=by
    have:=R7 List.length f0;simp at this; omega
   have J:b.words[k]? = some y:=by
    have:=R7 (·[0]?) f0;simpa [SB] using this.symm
   have hbs:bs=b.words.drop (k+1):=by
    have:=R7 (List.drop 1) f0;simpa using this
   have hyw:=hb.wf y (RY J);obtain ⟨o,Z⟩:∃ o,l[i+k]? = some o:=⟨_,RK (by omega)⟩
   have how:=f3 o (RY Z);have wj:i64.wrap ((i:Int)+(k:Int))=((i+k:Nat):Int):=by rw [bG ⟨by omega,by omega⟩]; omega
   have I:(((i+k:Nat):Int)).toNat=i+k:=by omega
   have hxy0:0<=x.n*y.n:=Int.mul_nonneg hxw.1 hyw.1;have hxy:x.n*y.n<=4294967295*4294967295:=Int.mul_le_mul (by omega) (by omega) hyw.1 (by omega)
   have hs:u64.wrap (c+(u64.wrap ((u64.wrap (o.n))+(u64.wrap ((u64.wrap (x.n))*(u64.wrap (y.n)))))))=c+o.n+x.n*y.n:=by
    rw [gM (n:=o.n) (by omega),gM (n:=x.n) (by omega),gM (n:=y.n) (by omega),gM (n:=x.n*y.n) (by omega),gM (n:=o.n+x.n*y.n) (by omega),gM (by omega)]
    omega
   unfold sL;rw [wj];refine Gd.ix (by omega) (by rw [I]; exact Z) (Gd.ix (by omega) (by rw [I]; exact Z) ?_)
   rw [hs,I,DJ,yd];have hxyn:x.n*y.n=((x.n.toNat*y.n.toNat:Nat):Int):=by
    rw [SI,UZ hxw.1,UZ hyw.1]
   have hsn:c+o.n+x.n*y.n=((c.toNat+o.n.toNat+x.n.toNat*y.n.toNat:Nat):Int):=by rw [hxyn]; omega
   refine Y _ ⟨hbs,by omega,by simp [f2],f3.set (by omega),by simp only; omega,by simp only; omega,?_,λq hq=>?_⟩
   ·simp only
    have g:=CF (l:=l) (k:=i+k) (x:=o) (v:=⟨(c+o.n+x.n*y.n)%4294967296⟩) Z;simp only at g;have g1:((c+o.n+x.n*y.n)%4294967296).toNat=(c.toNat+o.n.toNat+x.n.toNat*y.n.toNat)%WB:=by rw [hsn]; show _=_%4294967296; omega
    have g2:((c+o.n+x.n*y.n) / 4294967296).toNat=(c.toNat+o.n.toNat+x.n.toNat*y.n.toNat) / WB:=by rw [hsn]; show _=_ / 4294967296; omega
    rw [g1] at g;have:=K8 g rfl f6;rw [g2,show i+(k+1)=(i+k)+1 by omega,Xr,this,rT J,Xl]
    rw [Xg,Sd,Uc]
    congr 2
    rw [Xi (WB ^ i) (WB ^ k),Xi (WB ^ k*WB ^ i) x.n.toNat,Xh,Xh,Xh,Xh,Xi y.n.toNat,Xi (WB ^ i) y.n.toNat]
   ·simp only
    rw [Sh (by omega)]
    exact f7 q (by omega)
  ·rintro k ⟨l,c⟩ ⟨f0,f1,f2,f3,f4,f5,f6,f7⟩
   simp only at f2 f3 f4 f5 f6 f7 ⊢;have hk:k=b.words.length:=by
    have:=R7 List.length f0;simp at this; omega
   subst hk;have wj:i64.wrap ((i:Int)+(b.words.length:Int))=((i+b.words.length:Nat):Int):=by rw [bG ⟨by omega,by omega⟩]; omega
   have I:(((i+b.words.length:Nat):Int)).toNat=i+b.words.length:=by omega
   obtain ⟨o,Z⟩:∃ o,l[i+b.words.length]? = some o:=⟨_,RK (by omega)⟩
   have ho0:o.n=0:=e5 _ (R9 _) o (by rw [<- f7 _ (R9 _)]; exact Z)
   rw [wj];refine Gd.ix (by omega) (by rw [I]; exact Z) ?_
   rw [I,yd,show c%4294967296=c by omega]
   refine hnx _ ⟨hys,by omega,by simp [f2],f3.set (by omega),?_,λq hq y J=>?_⟩
   ·have g:=CF (l:=l) (k:=i+b.words.length) (x:=o) (v:=⟨c⟩) Z
    simp only [ho0] at g;rw [TE] at f6;rw [rT hx,Sd,<- e4];have e:WB ^ i*x.n.toNat*nv b.words=x.n.toNat*nv b.words*WB ^ i:=by rw [Xi (WB ^ i),Xh,Xi (WB ^ i),<- Xh]
    rw [e];simp at g;omega
   ·rw [Sh (by omega),f7 _ (by omega)] at J
    exact e5 _ (by omega) y J
 ·rintro i z ⟨e0,e1,e2,e3,e4,e5⟩
  have hi:i=a.words.length:=by
   have:=R7 List.length e0;simp at this; omega
  subst hi;rw [TE] at e4;refine Gd.eN (um _ z e3 (by omega)) (λr hr=>Gd.ret ⟨hr.1,by omega,?_⟩)
  rw [yN hr.2.2.1 hr.2.2.2,e4];unfold gB;cases a.minus <;> cases b.minus <;> simp [Int.mul_neg,Int.neg_mul]
 ·rw [W6] at J
  rw [J.2]; simp
 ·have:=RY J
  rw [W6] at this;rw [this.2]
theorem Ag {r y:Int} (I:0<=r/\r<4294967296) (J:0<=y/\y<4294967296):
  u64.wrap ((BitVec.ofInt (u64).bits (uF .u64 r 32) ||| BitVec.ofInt (u64).bits (u64.wrap y)).toNat)=r*4294967296+y:=by
 obtain ⟨n,rfl⟩:∃ n:Nat,r=n:=⟨r.toNat,by omega⟩
 obtain ⟨m,rfl⟩:∃ m:Nat,y=m:=⟨y.toNat,by omega⟩
 have e1:uF .u64 (n:Int) 32=((n*4294967296:Nat):Int):=by
  unfold uF;rw [show (min (32:Int).toNat u64.bits)=32 by decide,EU]
  show (n:Int)*4294967296%18446744073709551616=_;omega
 rw [e1,gM (n:=(m:Int)) (by omega)]
 show u64.wrap (((BitVec.ofInt 64 ((n*4294967296:Nat):Int) ||| BitVec.ofInt 64 ((m:Nat):Int)).toNat:Nat):Int)=_;rw [WA,WA,BitVec.toNat_or,WC,WC,TG (by omega),TG (by omega)]
 have e2:n*4294967296 ||| m=n*4294967296+m:=by
  have:=Nat.shiftLeft_add_eq_or_of_lt (i:=32) (b:=m) (by omega) n
  rw [Nat.shiftLeft_eq] at this;exact this.symm
 rw [e2,gM (by omega)]
 omega
theorem Jz {r y d:Int} (hr:0<=r/\r<d) (hy:0<=y/\y<4294967296) (hd:0<d/\d<4294967296):
  ∃ q m:Nat,Int.tdiv (r*4294967296+y) d=q/\Int.tmod (r*4294967296+y) d=m/\q<4294967296/\(m:Int)<d/\m+d.toNat*q=WB*r.toNat+y.toNat:=by
 obtain ⟨I,rfl⟩:∃ I:Nat,d=I:=⟨d.toNat,by omega⟩
 obtain ⟨J,rfl⟩:∃ J:Nat,r=J:=⟨r.toNat,by omega⟩
 obtain ⟨Y,rfl⟩:∃ Y:Nat,y=Y:=⟨y.toNat,by omega⟩
 have Z:0<I:=by omega
 have e:∀ W:Nat,Y<W->∃ q m:Nat,Int.tdiv ((J:Int)*W+Y) I=q/\Int.tmod ((J:Int)*W+Y) I=m/\q<W/\m<I/\m+I*q=W*J+Y:=λW hW=>by
  have hN:J*W+Y<I*W:=by
   have:(J+1)*W<=I*W:=R8 _ (by omega)
   rw [Sd] at this;omega
  have hc:(J:Int)*W+Y=((J*W+Y:Nat):Int):=by rw [WL,SI]
  rw [hc];refine ⟨(J*W+Y) / I,(J*W+Y)%I,rfl,rfl,?_,UF _ Z,?_⟩
  ·rw [Xc Z,Xi W I]; exact hN
  ·rw [Xf,Xi J W]
 obtain ⟨q,m,h1,h2,h3,h4,h5⟩:=e WB (by show Y<4294967296; omega)
 refine ⟨q,m,h1,h2,h3,by omega,?_⟩
 simp only [RN];exact h5
theorem JA {q I B m Y J:Nat} (h1:m+I*q=WB*J+Y):(q+WB*B)*I+m=Y+WB*(B*I+J):=by
 rw [Sd,Xg,Xh WB,Xi q I];generalize I*q=Z at h1;generalize WB*J=X at h1 ⊢;generalize WB*(B*I)=T;omega
theorem F8 {a:List bR} (ha:Wf a) (hz:a.length<=1000000) {d:Int} (hd:0<d/\d<4294967296):
  Gd (nP a d) (λr=>Wf r.1/\r.1.length=a.length/\nv r.1=nv a / d.toNat/\r.2=(nv a%d.toNat:Nat)):=by
 unfold nP;refine Gd.nd ⟨by omega,by omega⟩ ?_
 rw [bG ⟨by omega,by omega⟩]
 refine Gd.fG (λ(z:List bR×Int×Int)=>-1<=z.2.2/\z.2.2<a.length/\z.1.length=a.length/\Wf z.1/\0<=z.2.1/\z.2.1<d/\nv (z.1.drop (z.2.2+1).toNat)*d.toNat+z.2.1.toNat=nv (a.drop (z.2.2+1).toNat)) (λz=>(z.2.2+1).toNat) ?_ eI _ ⟨by simp only; omega,by simp only; omega,by simp,λy J=>?_,Ub _,by simp only; omega,?_⟩ (by simp only [eI]; omega)
 ·rintro ⟨l,r,i⟩ nx ⟨h1,h2,h3,h4,h5,h6,I⟩ Z
  simp only at h1 h2 h3 h4 h5 h6 I Z ⊢;unfold r9;refine Gd.ite (λhi=>?_) (λhi=>Gd.ret ?_)
  ·have hi:0<=i:=RT hi
   obtain ⟨k,rfl⟩:∃ k:Nat,i=k:=⟨i.toNat,by omega⟩
   obtain ⟨y,J⟩:∃ y,a[k]? = some y:=⟨_,RK (by omega)⟩
   have hyw:=ha y (RY J);have Y:((k:Int)).toNat=k:=by omega
   rw [gM (n:=d) (by omega)]
   refine Gd.ix (by omega) (by rw [Y]; exact J) (Gd.nd (by omega) (Gd.gA (show k<l.length by omega) (Gd.nd (by omega) ?_)))
   rw [Ag ⟨h5,by omega⟩ hyw]
   rw [show ((k:Int)+1).toNat=k+1 by omega] at I
   obtain ⟨q,m,e1,e2,hqlt,hmlt,hdm⟩:=Jz ⟨h5,h6⟩ hyw hd;rw [e1,e2,Y,gM (n:=(q:Int)) (by omega),yd,bG ⟨by omega,by omega⟩,show (q:Int)%4294967296=(q:Int) by omega]
   refine Z _ ⟨by simp only; omega,by simp only; omega,by simp [h3],h4.set (by omega),by simp only; omega,by simp only; omega,?_⟩ (by simp only; omega)
   simp only;rw [show ((k:Int)-1+1).toNat=k by omega,rM J,rM (l:=l.set k _) (Sp (by omega)),TP (by omega),nv,nv,<- I]
   simp only [RN];exact JA hdm
  ·have hi:¬ 0<=i:=R2 hi
   rw [show (i+1).toNat=0 by omega,S8,S8] at I
   have hdn:0<d.toNat:=by omega
   refine ⟨h4,h3,?_,?_⟩
   ·simp only
    rw [<- I,Xi,Nat.mul_add_div hdn,Xb (by omega)]; rfl
   ·simp only
    rw [yd,<- I,Xi,Nat.mul_add_mod,TG (by omega)]
    omega
 ·rw [W6] at J
  rw [J.2]; simp
 ·simp only
  rw [show ((a.length:Int)-1+1).toNat=a.length by omega,UB,WU (by simp)]
  simp [nv]
theorem CH {n:Int} (h:-9223372036854775808<=n/\n<=9223372036854775807):Gd (mY n) (λr=>tL r/\r.words.length<=2/\gB r=n):=by
 have I:∀ m:Int,0<=m->m<18446744073709551616->(m=n/\0<=n\/m = -n/\n<0)->Gd (qV n m) (λr=>tL r/\r.words.length<=2/\gB r=n):=λm J h1 h2=>by
  unfold qV;rw [DJ,yd,yd];have hw:Wf [⟨m%4294967296⟩,⟨m / 4294967296%4294967296⟩]:=λy Z=>by
   rcases SA.1 Z with rfl | Z
   ·simp only; omega
   ·rw [R_] at Z; subst Z; simp only; omega
  have hv:nv [⟨m%4294967296⟩,⟨m / 4294967296%4294967296⟩]=m.toNat:=by
   simp only [nv];show (m%4294967296).toNat+4294967296*((m / 4294967296%4294967296).toNat+4294967296*0)=_;omega
  refine Gd.eN (um _ _ hw (by simp)) (λr Y=>Gd.ret ⟨Y.1,Y.2.1,?_⟩)
  rw [yN Y.2.2.1 Y.2.2.2,hv];rcases h2 with ⟨rfl,h2⟩ | ⟨rfl,h2⟩
  ·rw [RS (by simp; omega)]; omega
  ·rw [RU (by simp; omega)]; omega
 unfold mY;refine Gd.ite (λJ=>I _ ?_ ?_ (.inr ⟨?_,?_⟩)) (λJ=>I _ ?_ ?_ (.inl ⟨?_,?_⟩))
 ·rw [EU]; omega
 ·rw [EU]; omega
 ·have:=RT J
  rw [EU,EU]; omega
 ·exact RT J
 ·rw [EU]; omega
 ·rw [EU]; omega
 ·have:=R2 J
  rw [EU]; omega
 ·have:=R2 J; omega
theorem OQ {c x s:Nat} (hs:s<=31) (I:c<2 ^ s) (Z:x<4294967296):
  u64.wrap ((BitVec.ofInt (u64).bits (c:Int) ||| BitVec.ofInt (u64).bits (uF .u64 (u64.wrap (x:Int)) (s:Int))).toNat)=((c+x*2 ^ s:Nat):Int):=by
 have J:(2:Nat) ^ s<=2147483648:=Xn (by decide) hs
 have Y:x*2 ^ s<=4294967295*2147483648:=Nat.mul_le_mul (by omega) J
 rw [gM (n:=(x:Int)) (by omega)]
 have e1:uF .u64 (x:Int) (s:Int)=((x*2 ^ s:Nat):Int):=by
  unfold uF;rw [show (min ((s:Int)).toNat u64.bits)=s by show min ((s:Int)).toNat 64=s; omega]
  rw [show (x:Int)*2 ^ s=((x*2 ^ s:Nat):Int) by rw [SI,Int.natCast_pow]; rfl]
  rw [gM (by omega)]
 rw [e1];show u64.wrap (((BitVec.ofInt 64 ((c:Nat):Int) ||| BitVec.ofInt 64 ((x*2 ^ s:Nat):Int)).toNat:Nat):Int)=_;rw [WA,WA,BitVec.toNat_or,WC,WC,TG (by omega),TG (by omega)]
 have e2:c ||| x*2 ^ s=c+x*2 ^ s:=by
  have:=Nat.shiftLeft_add_eq_or_of_lt (i:=s) (b:=c) I x;rw [Nat.shiftLeft_eq] at this;rw [Nat.or_comm,<- this,Uo]
 rw [e2,gM (by omega)]
theorem Hm {A P c x S W out o I:Nat} (h:out+P*c=A*S) (J:o+W*I=c+x*S):(out+P*o)+P*W*I=(A+P*x)*S:=by
 have e:P*o+P*(W*I)=P*c+P*(x*S):=by rw [<- Xg,J,Xg]
 rw [Xh P W,Sd,Xh P x];omega
theorem CU {a:List bR} (ha:Wf a) (hz:a.length<=1000000) {s:Nat} (hs:s<=31):
  Gd (oM a (s:Int)) (λr=>Wf r/\r.length=a.length+1/\nv r=nv a*2 ^ s/\∃ t,r[a.length]? = some t/\t.n.toNat<2 ^ s):=by
 have w1:i64.wrap ((a.length:Int)+1)=((a.length+1:Nat):Int):=by rw [bG ⟨by omega,by omega⟩]; omega
 have hp:(2:Nat) ^ s<=2147483648:=Xn (by decide) hs
 have hp0:0<(2:Nat) ^ s:=Xq (by decide)
 unfold oM;rw [w1];refine Gd.nd ⟨by omega,by omega⟩ ?_
 refine Gd.dE (λk ys (z:List bR×Int)=>ys=a.drop k/\k<=a.length/\z.1.length=a.length+1/\Wf z.1/\0<=z.2/\z.2.toNat<2 ^ s/\nv (z.1.take k)+WB ^ k*z.2.toNat=nv (a.take k)*2 ^ s) ?_ ?_ _ 0 _ ⟨by simp,by omega,by simp,λy hy=>?_,Ub _,by simpa using hp0,by simp [nv]⟩
 ·rintro k x ys ⟨l,c⟩ nx ⟨h0,h1,h2,h3,h4,Z,I⟩ hnx
  simp only at h2 h3 h4 Z I hnx ⊢;have hk:k<a.length:=by
   have:=R7 List.length h0;simp at this; omega
  have hx:a[k]? = some x:=by
   have:=R7 (·[0]?) h0;simpa [SB] using this.symm
  have hys:ys=a.drop (k+1):=by
   have:=R7 (List.drop 1) h0;simpa using this
  have hxw:=ha x (RY hx);obtain ⟨cn,rfl⟩:∃ cn:Nat,c=cn:=⟨c.toNat,by omega⟩
  obtain ⟨X,hX⟩:∃ X:Nat,x.n=X:=⟨x.n.toNat,by omega⟩
  have Y:((k:Int)).toNat=k:=by omega
  unfold sO;rw [hX];simp only [RN] at Z I;rw [OQ hs Z (by omega)]
  refine Gd.nd (by omega) (Gd.gA (show k<l.length by omega) ?_)
  rw [Y,yd,DJ];have hb:cn+X*2 ^ s<4294967296*2 ^ s:=by
   have:(X+1)*2 ^ s<=4294967296*2 ^ s:=R8 _ (by omega)
   rw [Sd] at this;omega
  have J:=Xf (cn+X*2 ^ s) WB;have hq:(cn+X*2 ^ s) / WB<2 ^ s:=by
   rw [Xc (by decide),Xi (2 ^ s)]; exact hb
  have e1:((cn+X*2 ^ s:Nat):Int)%4294967296=(((cn+X*2 ^ s)%WB:Nat):Int):=rfl;have e2:((cn+X*2 ^ s:Nat):Int) / 4294967296=(((cn+X*2 ^ s) / WB:Nat):Int):=rfl;have O:(cn+X*2 ^ s)%WB<WB:=UF _ (by decide)
  rw [e1,e2];generalize (cn+X*2 ^ s)%WB=o at J O;generalize (cn+X*2 ^ s) / WB=c' at J hq;refine hnx _ ⟨hys,by omega,by simp [h2],h3.set ⟨by omega,by have:o<4294967296:=O; omega⟩,by simp only; omega,by simp only [RN]; exact hq,?_⟩
  simp only;rw [xl (by omega),vh,Sm,SW (by omega),rT hx,hX,Xr]
  simp only [RN];exact Hm I J
 ·rintro k ⟨l,c⟩ ⟨h0,h1,h2,h3,h4,Z,I⟩
  simp only at h2 h3 h4 Z I ⊢;have hk:k=a.length:=by
   have:=R7 List.length h0;simp at this; omega
  subst hk;have Y:((a.length:Int)).toNat=a.length:=by omega
  rw [Y,yd,show c%4294967296=c by omega]
  refine Gd.gA (by omega) (Gd.ret ⟨h3.set (by omega),by simp [h2],?_,⟨⟨c⟩,Sp (by omega),Z⟩⟩)
  have e:=xl (l:=l) (k:=a.length) (v:=⟨c⟩) (by omega)
  rw [R3 (by simp; omega)] at e
  rw [e,vh,Sm,SW (by omega)]
  rw [TE] at I;exact I
 ·rw [W6] at hy
  rw [hy.2]; simp
section
variable {W R v1 v2 vl u2 ul top q V U:Nat}
structure Hy (W R v1 v2 vl u2 ul top V U:Nat):Prop where
 V:V=(v1*W+v2)*R+vl
 U:U=(top*W+u2)*R+ul
 vl:vl<R
 ul:ul<R
 u2:u2<W
 v2:v2<W
theorem Hy.OV (h:Hy W R v1 v2 vl u2 ul top V U) (hq:q*V<=U):q*v1<=top:=by
 rcases TF top (q*v1) with J | I
 ·exfalso
  have Y:(top+1)*(W*R)<=q*v1*(W*R):=R8 _ J;have Z:v1*(W*R)<=V:=by
   rw [h.V,Sd,Xh v1]; omega
  have h3:q*(v1*(W*R))<=q*V:=Xj _ Z;have h4:U<(top+1)*(W*R):=by
   have e1:(u2+1)*R<=W*R:=R8 _ h.u2;rw [Sd] at e1;have hul:=h.ul;rw [h.U,Sd,Xh top,Sd top];omega
  rw [Xh q] at Y;omega
 ·exact I
theorem Hy.Ey (h:Hy W R v1 v2 vl u2 ul top V U) (hq:q*V<=U):q*(v1*W+v2)<=top*W+u2:=by
 rcases TF (top*W+u2) (q*(v1*W+v2)) with J | I
 ·exfalso
  have Y:(top*W+u2+1)*R<=q*(v1*W+v2)*R:=R8 _ J;have Z:(v1*W+v2)*R<=V:=by rw [h.V]; omega
  have h3:q*((v1*W+v2)*R)<=q*V:=Xj _ Z;have hul:=h.ul;have hU:=h.U;rw [Sd _ 1] at Y;rw [Xh q] at Y;omega
 ·exact I
theorem Hy.QB (h:Hy W R v1 v2 vl u2 ul top V U) {g:Nat} (J:g<=W) (Y:1<=v1) (hl:g*(v1*W+v2)<=top*W+u2):g*V<U+V:=by
 have Z:g*(v1*W+v2)*R<=(top*W+u2)*R:=R8 _ hl;have h2:g*vl<=W*vl:=R8 _ J;have I:W*(vl+1)<=W*R:=Xj _ h.vl;have h4:1*(W*R)<=v1*(W*R):=R8 _ Y;have e1:g*V=g*(v1*W+v2)*R+g*vl:=by rw [h.V,Xg,Xh]
 have e2:V=v1*(W*R)+v2*R+vl:=by rw [h.V,Sd,Xh]
 have hU:=h.U;have hR:0<R:=by have:=h.vl; omega
 have hW:0<W:=by have:=h.u2; omega
 rw [Xg,Ud] at I;omega
structure Gs (W R v1 v2 vl u2 ul top V U q g rest:Nat):Prop where
 ge:q<=g
 eq:g*v1+rest=top
 rest:rest<W
 le:g<=W+1
structure Pm (W V U q g:Nat):Prop where
 ge:q<=g
 le:g<=q+1
 w:g<=W
theorem Hy.out (h:Hy W R v1 v2 vl u2 ul top V U) {g:Nat} (hq:U<(q+1)*V) (J:q<=g) (Z:g<=W) (hv:1<=v1) (hl:g*(v1*W+v2)<=top*W+u2):Pm W V U q g:=by
 refine ⟨J,?_,Z⟩;have h1:=h.QB Z hv hl;rcases TF (q+1) g with Y | I
 ·exfalso
  have h2:(q+2)*V<=g*V:=R8 _ Y;rw [Sd] at h2 hq;omega
 ·exact I
theorem Gs.stop (h:Hy W R v1 v2 vl u2 ul top V U) {g rest:Nat} (hs:Gs W R v1 v2 vl u2 ul top V U q g rest) (I:U<(q+1)*V) (J:1<=v1) (Y:g<W) (ht:g*v2<=rest*W+u2):Pm W V U q g:=by
 refine h.out I hs.ge (by omega) J ?_
 rw [<- hs.eq,Xg,Sd,Xh];omega
theorem Gs.less (h:Hy W R v1 v2 vl u2 ul top V U) {g rest:Nat} (hs:Gs W R v1 v2 vl u2 ul top V U q g rest) (hq:q*V<=U) (hqW:q<W) (ht:W<=g\/rest*W+u2<g*v2):q<g:=by
 rcases ht with ht | ht
 ·omega
 ·have Y:=h.Ey hq
  rw [<- hs.eq] at Y;rcases TF q g with J | I
  ·exact J
  ·exfalso
   have Z:g*(v1*W+v2)<=q*(v1*W+v2):=R8 _ I;rw [Xg g] at Z;rw [Sd (g*v1),Xh] at Y;omega
theorem Gs.next {g rest:Nat} (hs:Gs W R v1 v2 vl u2 ul top V U q g rest) (hl:q<g) (J:rest+v1<W):Gs W R v1 v2 vl u2 ul top V U q (g-1) (rest+v1):=by
 have h:=hs.eq; have I:=hs.le
 obtain ⟨k,rfl⟩:∃ k,g=k+1:=⟨g-1,by omega⟩
 rw [Sd] at h;exact ⟨by omega,by rw [Nat.add_sub_cancel]; omega,J,by omega⟩
theorem Gs.over (h:Hy W R v1 v2 vl u2 ul top V U) {g rest:Nat} (hs:Gs W R v1 v2 vl u2 ul top V U q g rest) (Z:U<(q+1)*V) (hv:1<=v1) (hl:q<g) (hr:W<=rest+v1):Pm W V U q (g-1):=by
 have he:=hs.eq; have Y:=hs.le; have I:=h.v2
 obtain ⟨k,rfl⟩:∃ k,g=k+1:=⟨g-1,by omega⟩
 rw [Nat.add_sub_cancel];rw [Sd] at he;refine h.out Z (by omega) (by omega) hv ?_
 have h1:k*v2<=W*v2:=R8 _ (by omega)
 have J:W*(v2+1)<=W*W:=Xj _ I;have h3:W*W<=(rest+v1)*W:=R8 _ hr;have e:top=k*v1+(rest+v1):=by omega
 rw [e,Xg k,Sd (k*v1),Xh];rw [Xg] at J;omega
end
def H7:List U8:=fQ (⟨#[0,1,2,2,3,3,3,3,4,4,4,4,4,4,4,4,5,5,5,5,5,5,5,5,5,5,5,5,5,5,5,5,6,6,6,6,6,6,6,6,6,6,6,6,6,6,6,6,6,6,6,6,6,6,6,6,6,6,6,6,6,6,6,6,7,7,7,7,7,7,7,7,7,7,7,7,7,7,7,7,7,7,7,7,7,7,7,7,7,7,7,7,7,7,7,7,7,7,7,7,7,7,7,7,7,7,7,7,7,7,7,7,7,7,7,7,7,7,7,7,7,7,7,7,7,7,7,7,8,8,8,8,8,8,8,8,8,8,8,8,8,8,8,8,8,8,8,8,8,8,8,8,8,8,8,8,8,8,8,8,8,8,8,8,8,8,8,8,8,8,8,8,8,8,8,8,8,8,8,8,8,8,8,8,8,8,8,8,8,8,8,8,8,8,8,8,8,8,8,8,8,8,8,8,8,8,8,8,8,8,8,8,8,8,8,8,8,8,8,8,8,8,8,8,8,8,8,8,8,8,8,8,8,8,8,8,8,8,8,8,8,8,8,8,8,8,8,8,8,8,8,8,8,8,8,8]⟩)
def K2 (i:Nat) (y:U8):Bool:=decide (1<=y.n) && (decide (y.n<=8) && (decide (2 ^ (y.n.toNat-1)<=i) && decide (i<2 ^ y.n.toNat)))
theorem MH:∀ i:Nat,1<=i->i<256->∃ y,H7[i]? = some y/\K2 i y=true:=by
 have h:(List.range 256).all (λi=>decide (i=0) || (match H7[i]? with | some y=>K2 i y | none=>false))=true:=by decide +kernel
 intro i Y J;have:=S2.1 h i (by simpa using J)
 rw [XJ (by omega),V5] at this
 cases I:H7[i]? with
 | none=>rw [I] at this; cases this
 | some y=>rw [I] at this; exact ⟨y,rfl,this⟩
theorem Ez {n m:Int} (h1:1<=n) (h2:n<256) (O:0<=m/\m<=24):Gd (kW n m) (λr=>∃ L:Nat,r=m+L/\1<=L/\L<=8/\2 ^ (L-1)<=n.toNat/\n.toNat<2 ^ L):=by
 obtain ⟨y,hy,I⟩:=MH n.toNat (by omega) (by omega)
 simp only [K2,Tp,Sy] at I;obtain ⟨b1,b2,J,Y⟩:=I;have Z:u8.wrap n=n:=by
  rw [show u8.wrap n=n%256 by simp [IntKind.wrap,IntKind.bits,IntKind.signed]]; omega
 unfold kW;rw [Z];refine Gd.ix (l:=H7) (by omega) hy (Gd.ret ⟨y.n.toNat,?_,by omega,by omega,J,Y⟩)
 rw [bG (n:=y.n) (by omega),bG (by omega)]
 omega
theorem Hn {n:Int}{k:Nat} (I:k<=32):mG .u32 n (k:Int)=n / (2 ^ k:Nat):=by
 unfold mG;rw [show (min ((k:Int)).toNat u32.bits)=k by show min ((k:Int)).toNat 32=k; omega,T0 _ (Int.le_of_lt (Int.pow_pos (by decide)))]
 rw [Int.natCast_pow]; rfl
theorem PI {x:Int} (h1:1<=x) (h2:x<4294967296):Gd (jF x) (λr=>∃ s:Nat,r=s/\s<=31/\2147483648<=x.toNat*2 ^ s/\x.toNat*2 ^ s<4294967296):=by
 have Y:∀ (o:Option Int),Gd o (λr=>∃ l:Nat,r=l/\1<=l/\l<=32/\2 ^ (l-1)<=x.toNat/\x.toNat<2 ^ l)->Gd (o.bind λJ=>some (i64.wrap (32-J))) (λr=>∃ s:Nat,r=s/\s<=31/\2147483648<=x.toNat*2 ^ s/\x.toNat*2 ^ s<4294967296):=λo ho=>by
  refine Gd.eN ho (λr hr=>Gd.ret ?_);obtain ⟨l,rfl,l1,l2,l3,l4⟩:=hr;refine ⟨32-l,by rw [bG (by omega)]; omega,by omega,?_,?_⟩
  ·have:2 ^ (l-1)*2 ^ (32-l)<=x.toNat*2 ^ (32-l):=R8 _ l3
   rw [<- Xl,show l-1+(32-l)=31 by omega] at this
   exact this
  ·have:x.toNat*2 ^ (32-l)<2 ^ l*2 ^ (32-l):=Nat.mul_lt_mul_of_pos_right l4 (Xq (by decide))
   rw [<- Xl,show l+(32-l)=32 by omega] at this
   exact this
 have part:∀ (n:Int) (base:Nat),n=x / (2 ^ base:Nat)->base<=24->∀ L:Nat,1<=L->2 ^ (L-1)<=n.toNat->n.toNat<2 ^ L->2 ^ (base+L-1)<=x.toNat/\x.toNat<2 ^ (base+L):=λn base hn hb L l1 l2 l3=>by
  have e:n.toNat=x.toNat / 2 ^ base:=by
   rw [hn];obtain ⟨X,rfl⟩:∃ X:Nat,x=X:=⟨x.toNat,by omega⟩
   rfl
  have Z:0<2 ^ base:=Xq (by decide)
  rw [e] at l2 l3;rw [Xd Z,<- Xl] at l2;rw [Xc Z,<- Xl] at l3;rw [show base+L-1=L-1+base by omega,Uo base L]
  exact ⟨l2,l3⟩
 unfold jF;refine Y _ ?_;unfold ri;refine Gd.ite (λh=>?_) (λh=>?_)
 ·have h:=RT h
  rw [show mG .u32 x 16=x / 65536 from Hn (k:=16) (by omega)]
  unfold kX;refine Gd.ite (λI=>?_) (λI=>?_)
  ·have I:=RT I
   rw [show mG .u32 (x / 65536) 8=x / 65536 / 256 from Hn (k:=8) (by omega),show i64.wrap (16+8)=24 by decide]
   refine (Ez (by omega) (by omega) (by omega)).mono ?_
   rintro r ⟨L,rfl,l1,l2,l3,l4⟩;obtain ⟨p1,p2⟩:=part (x / 65536 / 256) 24 (by show _=x / 16777216; omega) (by omega) L l1 l3 l4
   exact ⟨24+L,by omega,by omega,by omega,p1,p2⟩
  ·have I:=R2 I
   refine (Ez (by omega) (by omega) (by omega)).mono ?_
   rintro r ⟨L,rfl,l1,l2,l3,l4⟩;obtain ⟨p1,p2⟩:=part (x / 65536) 16 (by show _=x / 65536; omega) (by omega) L l1 l3 l4
   exact ⟨16+L,by omega,by omega,by omega,p1,p2⟩
 ·have h:=R2 h
  unfold kX;refine Gd.ite (λI=>?_) (λI=>?_)
  ·have I:=RT I
   rw [show mG .u32 x 8=x / 256 from Hn (k:=8) (by omega),show i64.wrap (0+8)=8 by decide]
   refine (Ez (by omega) (by omega) (by omega)).mono ?_
   rintro r ⟨L,rfl,l1,l2,l3,l4⟩;obtain ⟨p1,p2⟩:=part (x / 256) 8 (by show _=x / 256; omega) (by omega) L l1 l3 l4
   exact ⟨8+L,by omega,by omega,by omega,p1,p2⟩
  ·have I:=R2 I
   refine (Ez (by omega) (by omega) (by omega)).mono ?_
   rintro r ⟨L,rfl,l1,l2,l3,l4⟩;obtain ⟨p1,p2⟩:=part x 0 (by show _=x / 1; omega) (by omega) L l1 l3 l4
   exact ⟨0+L,by omega,by omega,by omega,p1,p2⟩
theorem Me {t:Nat} (h:t<18446744073709551616):u64.wrap ((BitVec.ofInt (u64).bits (t:Int) &&& BitVec.ofInt (u64).bits 4294967295).toNat)=((t%WB:Nat):Int):=by
 have e:(BitVec.ofInt (u64).bits 4294967295).toNat=4294967295:=by decide
 have e2:(BitVec.ofInt (u64).bits (t:Int)).toNat=t:=by
  show (BitVec.ofInt 64 (t:Int)).toNat=t;rw [WA,WC,TG h]
 rw [BitVec.toNat_and,e,e2];have:=Xa t 32;rw [show (2:Nat) ^ 32-1=4294967295 from rfl] at this;rw [this,show (2:Nat) ^ 32=WB from rfl];have O:t%WB<WB:=UF _ (by decide)
 rw [gM ⟨by omega,by have:t%WB<4294967296:=O; omega⟩]
theorem Ie {l:List bR}{k:Nat}{x v:bR} (h:l[k]? = some x) (J:0<=x.n) (I:0<=v.n):(nv (l.set k v):Int)+((WB ^ k:Nat):Int)*x.n=nv l+((WB ^ k:Nat):Int)*v.n:=by
 have:=R7 (λn:Nat=>(n:Int)) (CF (v:=v) h);simp only [WL,SI] at this;rw [UZ J,UZ I] at this;exact this
theorem MM {nl nl' o nw P W bo ca Y J I Z gy:Int} (hA:nl'+P*o=nl+P*nw) (hB:nw+W*I=bo+o-Y) (hC:Y+W*J=ca+gy) (hI:nl+P*(bo-ca)=Z):
  nl'+P*W*(I-J)=Z-P*gy:=by
 have e:W*(I-J)=bo+o-nw-ca-gy:=by rw [WK]; omega
 rw [WJ,e,<- hI,WK,WK,WK,WI,WK];omega
theorem Ih {l I:List bR}{m:Nat} (h:∀ p,m<=p->l[p]? = I[p]?) (O:m<=l.length):nv l=nv (l.take m)+WB ^ m*nv (I.drop m):=by
 have e:l.drop m=I.drop m:=by
  apply Tz;intro i;rw [SB,SB];exact h _ (by omega)
 have:nv l=nv (l.take m++l.drop m):=by rw [Te]
 rw [this,EG,e,Sm,SW O]
theorem CG (l:List bR) {m:Nat} (O:m<=l.length):nv l=nv (l.take m)+WB ^ m*nv (l.drop m):=Ih (λ_ _=>rfl) O
theorem PJ {b r134 vs:List bR}{j g:Nat}{l0:List bR}{fin:List bR×Int×Int->Option (List bR×List bR)}{Q:List bR×List bR->Prop}
  (hvs:tG r134 0 (((b.length:Int):Int).toNat)=vs) (hvl:vs.length=b.length) (hvw:Wf vs) (hl:Wf l0) (hjn:j+b.length<l0.length) (hN:l0.length<=1000001) (hg:g<=WB)
  (hk:∀ l Z ca,l.length=l0.length->Wf l->-1<=Z->Z<=0->0<=ca->ca<4294967296->(nv l:Int)+((WB ^ (j+b.length):Nat):Int)*(Z-ca)=nv l0-((WB ^ j:Nat):Int)*((g:Int)*(nv vs:Int)) ->
   (∀ p,j+b.length<=p->l[p]? = l0[p]?)->(∀ p,p<j->l[p]? = l0[p]?)->Gd (fin (l,Z,ca)) Q):
  Gd (kz (λk J n=>oV b r134 (j:Int) (g:Int) k J.1 J.2.1 J.2.2 n) fin b.length 0 (l0,0,0)) Q:=by
 have hg:g<=4294967296:=hg;refine Gd.kz (λm k (z:List bR×Int×Int)=>k+m=b.length/\z.1.length=l0.length/\Wf z.1/\-1<=z.2.1/\z.2.1<=0/\0<=z.2.2/\z.2.2<4294967296/\(nv z.1:Int)+((WB ^ (j+k):Nat):Int)*(z.2.1-z.2.2)=nv l0-((WB ^ j:Nat):Int)*((g:Int)*(nv (vs.take k):Int))/\(∀ p,j+k<=p->z.1[p]? = l0[p]?)/\(∀ p,p<j->z.1[p]? = l0[p]?)) ?_ ?_ _ 0 _ ⟨by omega,rfl,hl,by show (-1:Int)<=0; omega,Ub _,Ub _,by show (0:Int)<4294967296; omega,by simp [nv],λp _=>rfl,λp _=>rfl⟩
 ·rintro m k ⟨l,Z,ca⟩ nx ⟨h0,h1,h2,h3,h4,h5,h6,h7,h8,h9⟩ hnx
  simp only at h1 h2 h3 h4 h5 h6 h7 h8 h9 hnx ⊢;have hkb:k<b.length:=by omega
  obtain ⟨y,hy⟩:∃ y,vs[k]? = some y:=⟨_,RK (by omega)⟩
  have hyw:=hvw y (RY hy);obtain ⟨o,ho⟩:∃ o,l[j+k]? = some o:=⟨_,RK (by omega)⟩
  have how:=h2 o (RY ho);have wj:i64.wrap ((k:Int)+(j:Int))=((j+k:Nat):Int):=by rw [bG ⟨by omega,by omega⟩]; omega
  have hjk:(((j+k:Nat):Int)).toNat=j+k:=by omega
  unfold oV;rw [hvs,wj];refine Gd.ix (by omega) (by rw [RN]; exact hy) (Gd.ix (by omega) (by rw [hjk]; exact ho) (Gd.ix (by omega) (by rw [hjk]; exact ho) ?_))
  obtain ⟨Y,hY⟩:∃ Y:Nat,y.n=Y:=⟨y.n.toNat,by omega⟩
  obtain ⟨cn,rfl⟩:∃ cn:Nat,ca=cn:=⟨ca.toNat,by omega⟩
  have hgy:g*Y<=4294967296*4294967295:=Nat.mul_le_mul hg (by omega)
  have ht:u64.wrap ((cn:Int)+(u64.wrap ((g:Int)*(u64.wrap (y.n)))))=((cn+g*Y:Nat):Int):=by
   rw [hY,gM (n:=(Y:Int)) (by omega),show (g:Int)*(Y:Int)=((g*Y:Nat):Int) by rw [SI],gM (n:=((g*Y:Nat):Int)) (by omega),gM (by omega)]
   omega
  rw [ht,Me (by omega),DJ]
  have hdm:=Xf (cn+g*Y) WB;have hlow:(cn+g*Y)%WB<WB:=UF _ (by decide)
  have hcl:(cn+g*Y) / WB<4294967296:=by
   rw [Xc (by decide)]
   show cn+g*Y<4294967296*4294967296;omega
  have e2:((cn+g*Y:Nat):Int) / 4294967296=(((cn+g*Y) / WB:Nat):Int):=rfl;rw [e2];have hC:(((cn+g*Y)%WB:Nat):Int)+4294967296*(((cn+g*Y) / WB:Nat):Int)=(cn:Int)+((g*Y:Nat):Int):=by
   have:(cn+g*Y)%WB+4294967296*((cn+g*Y) / WB)=cn+g*Y:=hdm;omega
  generalize (cn+g*Y)%WB=I at hlow hC;generalize (cn+g*Y) / WB=c2 at hcl hC;have hlow:I<4294967296:=hlow;have hnb:i64.wrap (Z+(i64.wrap ((i64.wrap (o.n))-(i64.wrap ((I:Nat):Int)))))=Z+o.n-I:=by
   rw [bG (n:=o.n) (by omega),bG (n:=(I:Int)) (by omega),bG (n:=o.n-I) (by omega),bG (by omega)]
   omega
  rw [hnb,hjk,yd,Lw];refine hnx _ ⟨by omega,by simp [h1],h2.set (by omega),by simp only; omega,by simp only; omega,by simp only; omega,by simp only; omega,?_,λp hp=>?_,λp hp=>?_⟩
  ·simp only
   have hA:=Ie (l:=l) (k:=j+k) (x:=o) (v:=⟨(Z+o.n-I)%4294967296⟩) ho how.1 (by simp only; omega)
   simp only at hA;have hB:(Z+o.n-I)%4294967296+4294967296*((Z+o.n-I) / 4294967296)=Z+o.n-I:=by omega
   have:=MM hA hB hC h7;rw [show j+(k+1)=(j+k)+1 by omega,Xr,SI,show ((WB:Nat):Int)=4294967296 from rfl,this,rT hy,hY,Xl]
   simp only [RN,WL,SI];rw [WI (g:Int),WI ((WB ^ j:Nat):Int),WJ ((WB ^ j:Nat):Int) ((WB ^ k:Nat):Int)];have e:(g:Int)*(((WB ^ k:Nat):Int)*(Y:Int))=((WB ^ k:Nat):Int)*((g:Int)*(Y:Int)):=by
    rw [<- WJ,Int.mul_comm (g:Int),WJ]
   rw [e];omega
  ·simp only
   rw [Sh (by omega)]
   exact h8 p (by omega)
  ·simp only
   rw [Sh (by omega)]
   exact h9 p hp
 ·rintro k ⟨l,Z,ca⟩ ⟨h0,h1,h2,h3,h4,h5,h6,h7,h8,h9⟩
  simp only at h1 h2 h3 h4 h5 h6 h7 h8 h9;have hk':k=b.length:=by omega
  subst hk';rw [<- hvl,TE] at h7;rw [hvl] at h7;exact hk l Z ca h1 h2 h3 h4 h5 h6 h7 h8 h9
theorem Mc {J I o s P W c Y T T' B X:Nat} (h1:I+P*o=J+P*(s%W)) (hs:s=c+o+Y) (h2:J+P*c=X+B*T) (hP:P*Y=B*(T'-T)) (hT:T<=T'):I+P*W*(s / W)=X+B*T':=by
 have Z:s%W+W*(s / W)=s:=Xf s W;have e:P*(s%W)+P*(W*(s / W))=P*s:=by rw [<- Xg,Z]
 have e2:P*s=P*c+P*o+P*Y:=by rw [hs,Xg,Xg]
 have e3:B*T'=B*T+B*(T'-T):=by rw [<- Xg]; congr 1; omega
 rw [Xh P W];omega
theorem Pv {b J vs:List bR}{j:Nat}{l1:List bR}{fin:List bR×Int->Option (List bR×List bR)}{Q:List bR×List bR->Prop}
  (hvs:tG J 0 (((b.length:Int):Int).toNat)=vs) (hvl:vs.length=b.length) (hvw:Wf vs) (hl:Wf l1) (hjn:j+b.length<l1.length) (hN:l1.length<=1000001)
  (hk:∀ l c,l.length=l1.length->Wf l->0<=c->c<=1->nv l+WB ^ (j+b.length)*c.toNat=nv l1+WB ^ j*nv vs->(∀ p,j+b.length<=p->l[p]? = l1[p]?)->(∀ p,p<j->l[p]? = l1[p]?)->Gd (fin (l,c)) Q):
  Gd (kz (λk I n=>oW b J (j:Int) k I.1 I.2 n) fin b.length 0 (l1,0)) Q:=by
 refine Gd.kz (λm k (z:List bR×Int)=>k+m=b.length/\z.1.length=l1.length/\Wf z.1/\0<=z.2/\z.2<=1/\nv z.1+WB ^ (j+k)*z.2.toNat=nv l1+WB ^ j*nv (vs.take k)/\(∀ p,j+k<=p->z.1[p]? = l1[p]?)/\(∀ p,p<j->z.1[p]? = l1[p]?)) ?_ ?_ _ 0 _ ⟨by omega,rfl,hl,Ub _,by show (0:Int)<=1; omega,by simp [nv],λp _=>rfl,λp _=>rfl⟩
 ·rintro m k ⟨l,c⟩ nx ⟨h0,h1,h2,h3,h4,Y,h8,h9⟩ hnx
  simp only at h1 h2 h3 h4 Y h8 h9 hnx ⊢;obtain ⟨y,hy⟩:∃ y,vs[k]? = some y:=⟨_,RK (by omega)⟩
  have hyw:=hvw y (RY hy);obtain ⟨o,ho⟩:∃ o,l[j+k]? = some o:=⟨_,RK (by omega)⟩
  have how:=h2 o (RY ho);have wj:i64.wrap ((k:Int)+(j:Int))=((j+k:Nat):Int):=by rw [bG ⟨by omega,by omega⟩]; omega
  have Z:(((j+k:Nat):Int)).toNat=j+k:=by omega
  unfold oW;rw [hvs,wj];refine Gd.ix (by omega) (by rw [Z]; exact ho) (Gd.ix (by omega) (by rw [RN]; exact hy) (Gd.ix (by omega) (by rw [Z]; exact ho) ?_))
  have hs:u64.wrap (c+(u64.wrap ((u64.wrap (o.n))+(u64.wrap (y.n)))))=c+o.n+y.n:=by
   rw [gM (n:=o.n) (by omega),gM (n:=y.n) (by omega),gM (n:=o.n+y.n) (by omega),gM (by omega)]
   omega
  rw [hs,Z,DJ,yd];have hsn:c+o.n+y.n=((c.toNat+o.n.toNat+y.n.toNat:Nat):Int):=by omega
  refine hnx _ ⟨by omega,by simp [h1],h2.set (by omega),by simp only; omega,by simp only; omega,?_,λp hp=>?_,λp hp=>?_⟩
  ·simp only
   have g:=CF (l:=l) (k:=j+k) (x:=o) (v:=⟨(c+o.n+y.n)%4294967296⟩) ho;simp only at g;have g1:((c+o.n+y.n)%4294967296).toNat=(c.toNat+o.n.toNat+y.n.toNat)%WB:=by rw [hsn]; show _=_%4294967296; omega
   have g2:((c+o.n+y.n) / 4294967296).toNat=(c.toNat+o.n.toNat+y.n.toNat) / WB:=by rw [hsn]; show _=_ / 4294967296; omega
   rw [g1] at g;rw [g2,show j+(k+1)=(j+k)+1 by omega,Xr]
   refine Mc g rfl Y (T':=nv (vs.take (k+1))) ?_ ?_
   ·rw [rT hy,TX,Xl,Xh]
   ·rw [rT hy]; omega
  ·simp only
   rw [Sh (by omega)]
   exact h8 p (by omega)
  ·simp only
   rw [Sh (by omega)]
   exact h9 p hp
 ·rintro k ⟨l,c⟩ ⟨h0,h1,h2,h3,h4,Y,h8,h9⟩
  simp only at h1 h2 h3 h4 Y h8 h9;have hk':k=b.length:=by omega
  subst hk';rw [<- hvl,TE] at Y;rw [hvl] at Y;exact hk l c h1 h2 h3 h4 Y h8 h9
theorem Ka {qs l':List bR}{j:Nat}{g:Int}{I:List bR×List bR×Int->Option (List bR×List bR)}{Q:List bR×List bR->Prop} (J:j<qs.length) (hN:qs.length<=1000001) (Y:0<=g/\g<4294967296)
  (hn:Gd (I (qs.set j ⟨g⟩,l',(j:Int)-1)) Q):Gd (kV qs (j:Int) I l' g) Q:=by
 unfold kV;refine Gd.gA J ?_;rw [RN,yd,bG (by omega),show g%4294967296=g by omega]
 exact hn
theorem Oo {W P B I U V Y:Nat} (h0:Y=I+P*U) (J:I<P) (hV:V<=B) (hU:U<W*V):Y<P*(W*B):=by
 have Z:U+1<=W*B:=SK hU (Xj _ hV);have h2:P*(U+1)<=P*(W*B):=Xj _ Z;rw [Xg] at h2;omega
theorem Bx {J X M T:Nat} (h:J=X+M*T) (Y:J<M):T=0:=by
 rcases Nat.eq_zero_or_pos T with I | I
 ·exact I
 ·have:M*1<=M*T:=Xj _ I
  omega
theorem Kw {b r134 vs:List bR}{j g q U:Nat}{I qs:List bR}{nx:List bR×List bR×Int->Option (List bR×List bR)}{Q:List bR×List bR->Prop}
  (hvs:tG r134 0 (((b.length:Int):Int).toNat)=vs) (hvl:vs.length=b.length) (hvw:Wf vs) (hl:Wf I) (hjn:j+b.length<I.length) (hN:I.length<=1000001) (hj:j<qs.length) (hqN:qs.length<=1000001)
  (hU:nv (I.drop j)=U) (hV:nv vs<=WB ^ b.length) (hUW:U<WB*nv vs) (hq1:q*nv vs<=U) (hq2:U<(q+1)*nv vs) (hqW:q<WB) (hg:Pm WB (nv vs) U q g)
  (hn:∀ l',l'.length=I.length->Wf l'->nv l'+WB ^ j*(q*nv vs)=nv I->(∀ p,p<j->l'[p]? = I[p]?)->Gd (nx (qs.set j ⟨(q:Int)⟩,l',(j:Int)-1)) Q):
  Gd (fN b r134 qs I (j:Int) nx (g:Int)) Q:=by
 have hqW':q<4294967296:=hqW;have wjn:i64.wrap ((j:Int)+(b.length:Int))=((j+b.length:Nat):Int):=by rw [bG ⟨by omega,by omega⟩]; omega
 have hjk:(((j+b.length:Nat):Int)).toNat=j+b.length:=by omega
 have h0:=CG I (m:=j) (by omega)
 rw [hU] at h0;have hlow:=tE (hl.take j);rw [Sm,SW (by omega)] at hlow
 have hpow:WB ^ (j+b.length+1)=WB ^ j*(WB*WB ^ b.length):=by rw [Xr,Xl,Xi WB,Xh]
 have hbig:nv I<WB ^ (j+b.length+1):=by rw [hpow]; exact Oo h0 hlow hV hUW
 have habove:nv (I.drop (j+b.length+1))=0:=Bx (CG I (m:=j+b.length+1) (by omega)) hbig
 have small:∀ l:List bR,l.length=I.length->Wf l->(∀ p,j+b.length+1<=p->l[p]? = I[p]?)->nv l<WB ^ (j+b.length+1):=λl h1 h2 h3=>by
  rw [Ih h3 (by omega),habove,Xk,Tl]
  have:=tE (h2.take (j+b.length+1));rw [Sm,SW (by omega)] at this
  exact this
 unfold fN;rw [show ((b.length:Int):Int).toNat=b.length by omega] at hvs
 rw [show ((b.length:Int):Int).toNat=b.length by omega]
 refine PJ (by rw [show ((b.length:Int):Int).toNat=b.length by omega]; exact hvs) hvl hvw hl hjn hN hg.w (λl Y ca e1 e2 e3 e4 e5 e6 e7 e8 e9=>?_)
 obtain ⟨o,ho⟩:∃ o,l[j+b.length]? = some o:=⟨_,RK (by omega)⟩
 have how:=e2 o (RY ho);simp only;rw [wjn];refine Gd.ix (by omega) (by rw [hjk]; exact ho) (Gd.ix (by omega) (by rw [hjk]; exact ho) ?_)
 have hnb:i64.wrap (Y+(i64.wrap ((i64.wrap (o.n))-(i64.wrap ca))))=Y+o.n-ca:=by
  rw [bG (n:=o.n) (by omega),bG (n:=ca) (by omega),bG (n:=o.n-ca) (by omega),bG (by omega)]
  omega
 rw [hnb,hjk,yd];have hA:=Ie (l:=l) (k:=j+b.length) (x:=o) (v:=⟨(Y+o.n-ca)%4294967296⟩) ho how.1 (by simp only; omega)
 simp only at hA;have hW1:Wf (l.set (j+b.length) ⟨(Y+o.n-ca)%4294967296⟩):=e2.set (by omega)
 have J:(l.set (j+b.length) (⟨(Y+o.n-ca)%4294967296⟩:bR)).length=I.length:=by simp [e1]
 have hab1:∀ p,j+b.length+1<=p->(l.set (j+b.length) (⟨(Y+o.n-ca)%4294967296⟩:bR))[p]? = I[p]? := λp hp=>by
  rw [Sh (by omega)]; exact e8 p (by omega)
 have hbe1:∀ p,p<j->(l.set (j+b.length) (⟨(Y+o.n-ca)%4294967296⟩:bR))[p]? = I[p]? := λp hp=>by
  rw [Sh (by omega)]; exact e9 p hp
 have hsm1:=small _ J hW1 hab1;generalize l.set (j+b.length) (⟨(Y+o.n-ca)%4294967296⟩:bR)=l1 at hA hW1 J hab1 hbe1 hsm1;have hPW:((WB ^ (j+b.length+1):Nat):Int)=((WB ^ (j+b.length):Nat):Int)*4294967296:=by rw [Xr,SI,show ((WB:Nat):Int)=4294967296 from rfl]
 have hZ:(nv l1:Int)+((WB ^ (j+b.length):Nat):Int)*(Y+o.n-ca-(Y+o.n-ca)%4294967296)=nv I-((WB ^ j:Nat):Int)*((g:Int)*(nv vs:Int)):=by
  rw [<- e7,WK,WK,WI,WK];omega
 have hZU:(nv I:Int)-((WB ^ j:Nat):Int)*((g:Int)*(nv vs:Int))=nv (I.take j)+((WB ^ j:Nat):Int)*((U:Int)-(g:Int)*(nv vs:Int)):=by
  rw [h0,WL,SI,WK]; omega
 have hge:=hg.ge; have hle:=hg.le
 refine Gd.ite (λhneg=>?_) (λhpos=>?_)
 ·have hneg:Y+o.n-ca<0:=RT hneg
  have hdiv:Y+o.n-ca-(Y+o.n-ca)%4294967296 = -4294967296:=by omega
  rw [hdiv] at hZ;have hZ1:(nv l1:Int)-((WB ^ (j+b.length+1):Nat):Int)=nv I-((WB ^ j:Nat):Int)*((g:Int)*(nv vs:Int)):=by
   rw [hPW,<- hZ,Int.mul_neg]; omega
  have hgq:g=q+1:=by
   rcases (show g=q\/g=q+1 by omega) with h | h
   ·exfalso
    rw [h] at hZ1 hZU;have h0':(0:Int)<=(U:Int)-(q:Int)*(nv vs:Int):=by
     have h1':((q*nv vs:Nat):Int)<=U:=by omega
     rw [SI] at h1'; omega
    have:(0:Int)<=((WB ^ j:Nat):Int)*((U:Int)-(q:Int)*(nv vs:Int)):=Int.mul_nonneg (by omega) h0'
    omega
   ·exact h
  refine Pv (j:=j) (l1:=l1) (by rw [show ((b.length:Int):Int).toNat=b.length by omega]; exact hvs) hvl hvw hW1 (by omega) (by omega) (λl2 c f1 f2 f3 f4 f5 f6 f7=>?_)
  obtain ⟨o2,ho2⟩:∃ o2,l2[j+b.length]? = some o2:=⟨_,RK (by omega)⟩
  have how2:=f2 o2 (RY ho2);simp only;refine Gd.ix (by omega) (by rw [hjk]; exact ho2) (Gd.ix (by omega) (by rw [hjk]; exact ho2) ?_)
  rw [yd,yd,show c%4294967296=c by omega]
  have hg1:u64.wrap ((g:Int)-1)=(q:Int):=by rw [hgq,gM (by omega)]; omega
  rw [hg1];have hB:=CF (l:=l2) (k:=j+b.length) (x:=o2) (v:=⟨(o2.n+c)%4294967296⟩) ho2;simp only at hB;have hW2:Wf (l2.set (j+b.length) ⟨(o2.n+c)%4294967296⟩):=f2.set (by omega)
  have Z:(l2.set (j+b.length) (⟨(o2.n+c)%4294967296⟩:bR)).length=I.length:=by simp [f1,J]
  have hab2:∀ p,j+b.length+1<=p->(l2.set (j+b.length) (⟨(o2.n+c)%4294967296⟩:bR))[p]? = I[p]? := λp hp=>by
   rw [Sh (by omega),f6 p (by omega)]; exact hab1 p hp
  have hbe2:∀ p,p<j->(l2.set (j+b.length) (⟨(o2.n+c)%4294967296⟩:bR))[p]? = I[p]? := λp hp=>by
   rw [Sh (by omega),f7 p hp]; exact hbe1 p hp
  have hsm2:=small _ Z hW2 hab2;generalize l2.set (j+b.length) (⟨(o2.n+c)%4294967296⟩:bR)=l3 at hB hW2 Z hab2 hbe2 hsm2;refine Ka hj hqN (by omega) (hn l3 Z hW2 ?_ hbe2)
  obtain ⟨κ,hκ⟩:∃ κ:Nat,o2.n.toNat+c.toNat=((o2.n+c)%4294967296).toNat+WB*κ:=by
   refine ⟨((o2.n+c) / 4294967296).toNat,?_⟩;have eW:WB=4294967296:=rfl;rw [eW]; omega
  have hsum:nv l3+WB ^ (j+b.length+1)*κ=nv l1+WB ^ j*nv vs:=by
   have e:WB ^ (j+b.length)*o2.n.toNat+WB ^ (j+b.length)*c.toNat=WB ^ (j+b.length)*((o2.n+c)%4294967296).toNat+WB ^ (j+b.length)*(WB*κ):=by
    rw [<- Xg,hκ,Xg]
   rw [Xr,Xh];omega
  have hVlt:WB ^ j*nv vs<WB ^ (j+b.length+1):=by
   have h1:WB ^ j*nv vs<=WB ^ j*WB ^ b.length:=Xj _ hV;have h2:WB ^ j*WB ^ b.length<WB ^ (j+b.length+1):=by
    rw [<- Xl]; exact Nat.pow_lt_pow_right (by decide) (by omega)
   omega
  have hZq:(nv l1:Int)+((WB ^ j*nv vs:Nat):Int)=nv (I.take j)+((WB ^ j:Nat):Int)*((U:Int)-(q:Int)*(nv vs:Int))+((WB ^ (j+b.length+1):Nat):Int):=by
   rw [hgq] at hZ1 hZU;have e:((WB ^ j:Nat):Int)*((U:Int)-((q+1:Nat):Int)*(nv vs:Int))=((WB ^ j:Nat):Int)*((U:Int)-(q:Int)*(nv vs:Int))-((WB ^ j*nv vs:Nat):Int):=by
    rw [SI,<- WK]
    congr 1
    rw [show ((q+1:Nat):Int)=(q:Int)+1 by omega,Int.add_mul]
    omega
   rw [e] at hZU;omega
  have hnn:(0:Int)<=((WB ^ j:Nat):Int)*((U:Int)-(q:Int)*(nv vs:Int)):=Int.mul_nonneg (by omega) (by
   have:((q*nv vs:Nat):Int)<=U:=by omega
   rw [SI] at this; omega)
  have hκ1:κ=1:=by
   rcases TF κ 1 with h | h
   ·exfalso
    have:κ=0:=by omega
    rw [this] at hsum; omega
   ·rcases TF 1 κ with h2 | h2
    ·exfalso
     have:WB ^ (j+b.length+1)*2<=WB ^ (j+b.length+1)*κ:=Xj _ h2;omega
    ·omega
  rw [hκ1,Ud] at hsum;have e:((WB ^ j:Nat):Int)*((U:Int)-(q:Int)*(nv vs:Int))=((WB ^ j*U:Nat):Int)-((WB ^ j*(q*nv vs):Nat):Int):=by
   rw [WK,SI,SI,SI]
  rw [e] at hZq;omega
 ·have hpos:¬ Y+o.n-ca<0:=R2 hpos
  have hdiv:Y+o.n-ca-(Y+o.n-ca)%4294967296=0:=by omega
  rw [hdiv,Int.mul_zero,Int.add_zero] at hZ;have hgq:g=q:=by
   rcases (show g=q\/g=q+1 by omega) with h | h
   ·exact h
   ·exfalso
    rw [h] at hZ hZU;have h1:(U:Int)-((q+1:Nat):Int)*(nv vs:Int)<=-1:=by
     have:(U:Int)<(((q+1)*nv vs:Nat):Int):=by omega
     rw [SI] at this; omega
    have h2:((WB ^ j:Nat):Int)*((U:Int)-((q+1:Nat):Int)*(nv vs:Int))<=((WB ^ j:Nat):Int)*(-1):=Int.mul_le_mul_of_nonneg_left h1 (by omega)
    omega
  rw [hgq] at hZ ⊢;refine Ka hj hqN (by omega) (hn l1 J hW1 ?_ hbe1)
  have e:((WB ^ j:Nat):Int)*((q:Int)*(nv vs:Int))=((WB ^ j*(q*nv vs):Nat):Int):=by rw [SI,SI]
  rw [e] at hZ;omega
theorem Ig {l:List bR}{m:Nat}{x y:bR} (J:l[m+1]? = some x) (Y:l[m]? = some y) (I:nv (l.drop (m+2))=0):nv l=(x.n.toNat*WB+y.n.toNat)*WB ^ m+nv (l.take m):=by
 have e:=xi Y;have e1:nv (l.drop (m+1))=x.n.toNat+WB*nv (l.drop (m+2)):=by rw [rM J,nv]
 rw [e,e1,I,Xk,Tl,Xi (WB ^ m),Uo (nv (l.take m)),Uo y.n.toNat,Xi WB x.n.toNat]
theorem Ld {l:List bR}{m:Nat}{x y z:bR} (J:l[m+2]? = some x) (Y:l[m+1]? = some y) (Z:l[m]? = some z) (I:nv (l.drop (m+3))=0):nv l=((x.n.toNat*WB+y.n.toNat)*WB+z.n.toNat)*WB ^ m+nv (l.take m):=by
 have e:=xi Z;have e1:nv (l.drop (m+1))=y.n.toNat+WB*nv (l.drop (m+2)):=by rw [rM Y,nv]
 have e2:nv (l.drop (m+2))=x.n.toNat+WB*nv (l.drop (m+3)):=by rw [rM J,nv]
 rw [e,e1,e2,I,Xk,Tl,Xi (WB ^ m),Uo (nv (l.take m)),Uo z.n.toNat,Xi WB (y.n.toNat+_),Uo y.n.toNat,Xi WB x.n.toNat]
theorem KM {b J vs:List bR}{j n2 q U R v1 v2 vl u2 ul top:Nat}{l0 qs:List bR}{nx:List bR×List bR×Int->Option (List bR×List bR)}{Q:List bR×List bR->Prop}
  (hb:b.length=n2+2) (hvs:tG J 0 (((b.length:Int):Int).toNat)=vs) (hvl:vs.length=b.length) (hl0:j+b.length<l0.length) (hN:l0.length<=1000001)
  (y1 y2 z2:bR) (hy1:vs[n2+1]? = some y1) (hy2:vs[n2]? = some y2) (hz2:l0[j+n2]? = some z2) (e1:y1.n=v1) (e2:y2.n=v2) (e3:z2.n=u2) (w1:v1<4294967296) (hv1:1<=v1)
  (hS:Hy WB R v1 v2 vl u2 ul top (nv vs) U) (hq1:q*nv vs<=U) (hq2:U<(q+1)*nv vs) (hqW:q<WB)
  (hk:∀ g,Pm WB (nv vs) U q g->Gd (fN b J qs l0 (j:Int) nx (g:Int)) Q)
  {g0 I:Nat} (h0:Gs WB R v1 v2 vl u2 ul top (nv vs) U q g0 I):
  Gd (fG (λY n=>oX b J qs l0 (j:Int) nx Y.1 Y.2 n) eI ((g0:Int),(I:Int))) Q:=by
 have hu2:u2<4294967296:=hS.u2;have hv2:v2<4294967296:=hS.v2;have eW:WB=4294967296:=rfl;refine Gd.fG (λ(z:Int×Int)=>∃ g rest:Nat,z=((g:Int),(rest:Int))/\Gs WB R v1 v2 vl u2 ul top (nv vs) U q g rest) (λz=>z.1.toNat) ?_ eI _ ⟨g0,I,rfl,h0⟩ ?_
 ·rintro z nx2 ⟨g,rest,rfl,Z⟩ hnx
  simp only at hnx ⊢;have hrest:rest<4294967296:=Z.rest;have hgW:g<=4294967297:=Z.le;have wn1:i64.wrap ((b.length:Int)-1)=((n2+1:Nat):Int):=by rw [hb,bG (by omega)]; omega
  have wn2:i64.wrap ((b.length:Int)-2)=((n2:Nat):Int):=by rw [hb,bG (by omega)]; omega
  have wjn:i64.wrap ((i64.wrap ((j:Int)+(b.length:Int)))-2)=((j+n2:Nat):Int):=by rw [hb,bG (n:=(j:Int)+_) (by omega),bG (by omega)]; omega
  have dec:q<g->Gd (if decide (4294967296<=(u64.wrap ((rest:Int)+(u64.wrap (y1.n))))) then (fN b J qs l0 (j:Int) nx (u64.wrap ((g:Int)-1))) else (nx2 (u64.wrap ((g:Int)-1),u64.wrap ((rest:Int)+(u64.wrap (y1.n)))))) Q:=λhlt=>by
   have er:u64.wrap ((rest:Int)+(u64.wrap (y1.n)))=((rest+v1:Nat):Int):=by
    rw [e1,gM (n:=(v1:Int)) (by omega),gM (by omega)]; omega
   have eg:u64.wrap ((g:Int)-1)=((g-1:Nat):Int):=by rw [gM (by omega)]; omega
   rw [er,eg];refine Gd.ite (λh=>hk _ (Z.over hS hq2 hv1 hlt (by rw [eW]; have:=RT h; omega))) (λh=>hnx _ ⟨g-1,rest+v1,rfl,Z.next hlt (by rw [eW]; have:=R2 h; omega)⟩ ?_)
   simp only [RN];omega
  unfold oX;rw [hvs,wn1,wn2,wjn];refine Gd.ite (λh=>?_) (λh=>?_)
  ·have h:=RT h
   refine Gd.ix (by omega) (by rw [RN]; exact hy1) (dec (Z.less hS hq1 hqW (.inl (by rw [eW]; omega))))
  ·have h:=R2 h
   refine Gd.ix (by omega) (by rw [RN]; exact hy2) (Gd.ix (by omega) (by rw [RN]; exact hz2) ?_)
   have eor:u64.wrap ((BitVec.ofInt (u64).bits (uF .u64 (rest:Int) 32) ||| BitVec.ofInt (u64).bits (u64.wrap (z2.n))).toNat)=((rest*WB+u2:Nat):Int):=by
    rw [Ag ⟨by omega,by omega⟩ (by rw [e3]; omega),e3,eW]; omega
   have egv:u64.wrap ((g:Int)*(u64.wrap (y2.n)))=((g*v2:Nat):Int):=by
    have hb2:g*v2<=4294967296*4294967295:=Nat.mul_le_mul (by omega) (by omega)
    rw [e2,gM (n:=(v2:Int)) (by omega),show (g:Int)*(v2:Int)=((g*v2:Nat):Int) by rw [SI],gM (by omega)]
   rw [eor,egv];refine Gd.ite (λh2=>Gd.ix (by omega) (by rw [RN]; exact hy1) (dec (Z.less hS hq1 hqW (.inr ?_)))) (λh2=>hk g (Z.stop hS hq2 hv1 (by rw [eW]; omega) ?_))
   ·exact Int.ofNat_lt.1 (RT h2)
   ·have:=R2 h2
    exact Int.ofNat_le.1 (Int.not_lt.1 this)
 ·simp only [eI,RN]
  have:g0<=4294967297:=h0.le;omega
theorem KL {W R v1 v2 vl u2 ul u0 u1 V U q:Nat} (h:Hy W R v1 v2 vl u2 ul (u0*W+u1) V U) (Z:q*V<=U) (J:1<=v1) (hv1:v1<W) (hW:W<=2*v1) (I:u0<=v1) (hu1:u1<W):
  Gs W R v1 v2 vl u2 ul (u0*W+u1) V U q ((u0*W+u1) / v1) ((u0*W+u1)%v1):=by
 have O:(u0*W+u1)%v1<v1:=UF _ J;refine ⟨(Xd J).2 (h.OV Z),?_,by omega,?_⟩
 ·rw [Xi,Uo,Xf]
 ·have h1:u0*W<=v1*W:=R8 _ I
  have Y:u0*W+u1<(W+2)*v1:=by
   rw [Sd,Xi W v1]; omega
  have:=(Xc J).2 Y;omega
theorem Ey {W R u0 u1 v1 v2 vl ul V X:Nat} (Z:X=(u0*W+u1)*R+ul) (Y:V=(v1*W+v2)*R+vl) (hlt:X<V) (hvl:vl<R) (I:v2<W):u0<=v1:=by
 rcases TF v1 u0 with h | h
 ·exfalso
  have h1:(v1+1)*W*R<=u0*W*R:=R8 _ (R8 _ h);have J:(v2+1)*R<=W*R:=R8 _ I;have e1:(v1+1)*W*R=v1*W*R+W*R:=by rw [Sd,Sd,Vy]
  have e2:X=u0*W*R+u1*R+ul:=by rw [Z,Sd]
  have e3:V=v1*W*R+v2*R+vl:=by rw [Y,Sd]
  rw [Sd] at J;omega
 ·exact h
theorem KT {q W D V P I J U0:Nat} (Y:I+P*(q*V)=J) (Z:D*V*(P*W)+J=U0):(q+W*D)*V*P+I=U0:=by
 have e1:(q+W*D)*V*P=P*(q*V)+D*V*(P*W):=by
  rw [Sd,Sd,Xi P (q*V)]
  congr 1
  rw [Xi W D,Xh D W V,Xi W V,<- Xh D V W,Xh (D*V) W P,Xi W P]
 omega
theorem MN {W x y V:Nat} (J:x<W) (I:y<V):x+W*y<W*V:=by
 have:W*(y+1)<=W*V:=Xj _ I;rw [Xg] at this; omega
theorem Lq {P a x q V U:Nat} (hP:0<P) (J:a+P*x+P*(q*V)=a+P*U) (I:U<(q+1)*V):x<V:=by
 have e:P*(x+q*V)=P*U:=by rw [Xg]; omega
 have:=Nat.eq_of_mul_eq_mul_left hP e;rw [Sd] at I;omega
theorem I6 {b r134 vs:List bR}{r127:Int}{I N U0:Nat}{Q:List bR×List bR->Prop}
  (hb:b.length=I+2) (hvs:tG r134 0 (((b.length:Int):Int).toNat)=vs) (hvl:vs.length=b.length) (hvw:Wf vs) (hN:N<=1000001)
  (Y y2:bR) (hy1:vs[I+1]? = some Y) (hy2:vs[I]? = some y2) (hnorm:2147483648<=Y.n)
  (J u0:List bR) (hq0:J.length+b.length=N) (hqw:Wf J) (hu0:u0.length=N) (huw:Wf u0) (hstart:nv (u0.drop J.length)<nv vs) (hval:nv u0=U0)
  (hk:∀ qs u,qs.length=J.length->Wf qs->u.length=N->Wf u->nv qs*nv vs+nv u=U0->nv u<nv vs ->
   Gd (cE (0<=(b.length:Int)/\(b.length:Int)*4<=140737488355328) (kz (λk s1815 n=>mC r127 u k s1815 n) (λs1815=>some (qs,s1815)) ((b.length:Int):Int).toNat 0 (List.replicate ((b.length:Int):Int).toNat (⟨0⟩:bR)))) Q):
  Gd (fG (λZ n=>oU b r127 r134 Z.1 Z.2.1 Z.2.2 n) eI (J,u0,(J.length:Int)-1)) Q:=by
 have hy1w:=hvw Y (RY hy1); have hy2w:=hvw y2 (RY hy2)
 have hVB:nv vs<=WB ^ b.length:=by have:=tE hvw; rw [hvl] at this; omega
 refine Gd.fG (λ(z:List bR×List bR×Int)=>z.1.length=J.length/\Wf z.1/\z.2.1.length=N/\Wf z.2.1/\-1<=z.2.2/\z.2.2<J.length/\nv (z.1.drop (z.2.2+1).toNat)*nv vs*WB ^ (z.2.2+1).toNat+nv z.2.1=U0/\nv (z.2.1.drop (z.2.2+1).toNat)<nv vs) (λz=>(z.2.2+1).toNat) ?_ eI _ ⟨rfl,hqw,hu0,huw,by simp only; omega,by simp only; omega,?_,?_⟩ (by simp only [eI]; omega)
 ·rintro ⟨qs,u,j⟩ nx ⟨h1,h2,h3,h4,h5,h6,h7,h8⟩ hnx
  simp only at h1 h2 h3 h4 h5 h6 h7 h8 hnx ⊢;unfold oU;refine Gd.ite (λhj=>?_) (λhj=>?_)
  ·have hj:=RT hj
   obtain ⟨k,rfl⟩:∃ k:Nat,j=k:=⟨j.toNat,by omega⟩
   rw [show ((k:Int)+1).toNat=k+1 by omega] at h7 h8
   obtain ⟨t0,ht0⟩:∃ t,u[k+I+2]? = some t:=⟨_,RK (by omega)⟩
   obtain ⟨t1,ht1⟩:∃ t,u[k+I+1]? = some t:=⟨_,RK (by omega)⟩
   obtain ⟨t2,ht2⟩:∃ t,u[k+I]? = some t:=⟨_,RK (by omega)⟩
   have w0:=h4 t0 (RY ht0); have w1:=h4 t1 (RY ht1); have w2:=h4 t2 (RY ht2)
   have wjn:i64.wrap ((k:Int)+(b.length:Int))=((k+I+2:Nat):Int):=by rw [hb,bG (by omega)]; omega
   have wjm:i64.wrap (((k+I+2:Nat):Int)-1)=((k+I+1:Nat):Int):=by rw [bG (by omega)]; omega
   have wn1:i64.wrap ((b.length:Int)-1)=((I+1:Nat):Int):=by rw [hb,bG (by omega)]; omega
   rw [hvs,wjn,wjm,wn1];have ey1:u64.wrap Y.n=Y.n:=gM (by omega)
   refine Gd.ix (by omega) (by rw [RN]; exact ht0) (Gd.ix (by omega) (by rw [RN]; exact ht1) (Gd.ix (by omega) (by rw [RN]; exact hy1) (Gd.nd (by rw [ey1]; omega) (Gd.ix (by omega) (by rw [RN]; exact hy1) (Gd.nd (by rw [ey1]; omega) ?_)))))
   rw [gM (n:=t0.n) (by omega),Ag w0 w1,ey1]
   obtain ⟨x,hx⟩:∃ x,u[k]? = some x:=⟨_,RK (by omega)⟩
   have hxw:=h4 x (RY hx);have hU1:nv (u.drop k)=x.n.toNat+WB*nv (u.drop (k+1)):=by rw [rM hx,nv]
   have hUlt:nv (u.drop k)<WB*nv vs:=by rw [hU1]; exact MN (by show x.n.toNat<4294967296; omega) h8
   have hVlt:nv vs<WB ^ (I+2):=by have:=tE hvw; rw [hvl,hb] at this; exact this
   have hz:nv (u.drop (k+1+(I+2)))=0:=by
    have e:=CG (u.drop (k+1)) (m:=I+2) (by rw [Tg]; omega)
    rw [TA] at e;exact Bx e (by omega)
   have hVe:=Ig hy1 hy2 (by rw [WU (by omega)]; rfl)
   have hXe:=Ig (l:=u.drop (k+1)) (m:=I) (x:=t0) (y:=t1) (by rw [SB,show k+1+(I+1)=k+I+2 by omega]; exact ht0) (by rw [SB,show k+1+I=k+I+1 by omega]; exact ht1) (by rw [TA]; exact hz)
   have hUe:=Ld (l:=u.drop k) (m:=I) (x:=t0) (y:=t1) (z:=t2) (by rw [SB,show k+(I+2)=k+I+2 by omega]; exact ht0) (by rw [SB,show k+(I+1)=k+I+1 by omega]; exact ht1) (by rw [SB]; exact ht2) (by rw [TA,show k+(I+3)=k+1+(I+2) by omega]; exact hz)
   have hvl':nv (vs.take I)<WB ^ I:=by have:=tE (hvw.take I); rw [Sm,SW (by omega)] at this; exact this
   have hul':nv ((u.drop k).take I)<WB ^ I:=by
    have:=tE (l:=(u.drop k).take I) (λz hz=>h4 z (List.mem_of_mem_drop (Uv hz)));rw [Sm,Tg,SW (by omega)] at this; exact this
   have hS:Hy WB (WB ^ I) Y.n.toNat y2.n.toNat (nv (vs.take I)) t2.n.toNat (nv ((u.drop k).take I)) (t0.n.toNat*WB+t1.n.toNat) (nv vs) (nv (u.drop k)):=
    ⟨hVe,hUe,hvl',hul',by show t2.n.toNat<4294967296; omega,by show y2.n.toNat<4294967296; omega⟩
   have hle:t0.n.toNat<=Y.n.toNat:=Ey hXe hVe h8 hvl' (by show y2.n.toNat<4294967296; omega)
   have hVpos:0<nv vs:=by omega
   obtain ⟨q,hq1,hq2,hqW⟩:∃ q,q*nv vs<=nv (u.drop k)/\nv (u.drop k)<(q+1)*nv vs/\q<WB:=by
    refine ⟨nv (u.drop k) / nv vs,Nat.div_mul_le_self _ _,?_,(Xc hVpos).2 hUlt⟩;have:=Tq (nv (u.drop k) / nv vs);exact (Xc hVpos).1 this
   have hG:=KL hS hq1 (show 1<=Y.n.toNat by omega) (show Y.n.toNat<WB by show Y.n.toNat<4294967296; omega) (show WB<=2*Y.n.toNat by show 4294967296<=2*Y.n.toNat; omega) hle (show t1.n.toNat<WB by show t1.n.toNat<4294967296; omega)
   have hg0:=hG.le;have etop:t0.n*4294967296+t1.n=((t0.n.toNat*WB+t1.n.toNat:Nat):Int):=by
    show _=((t0.n.toNat*4294967296+t1.n.toNat:Nat):Int); omega
   have ey:Y.n=((Y.n.toNat:Nat):Int):=by omega
   have ed:Int.tdiv (t0.n*4294967296+t1.n) Y.n=(((t0.n.toNat*WB+t1.n.toNat) / Y.n.toNat:Nat):Int):=by
    rw [etop,ey]; rfl
   have em:Int.tmod (t0.n*4294967296+t1.n) Y.n=(((t0.n.toNat*WB+t1.n.toNat)%Y.n.toNat:Nat):Int):=by
    rw [etop,ey]; rfl
   rw [ed,em];generalize (t0.n.toNat*WB+t1.n.toNat) / Y.n.toNat=g0 at hG hg0 ⊢;generalize (t0.n.toNat*WB+t1.n.toNat)%Y.n.toNat=rest0 at hG ⊢;have eW:(WB:Nat)=4294967296:=rfl;rw [eW] at hg0;rw [gM (n:=(g0:Int)) (by omega)]
   refine KM hb hvs hvl (by omega) (by omega) Y y2 t2 hy1 hy2 ht2 (by omega) (by omega) (by omega) (by omega) (by omega) hS hq1 hq2 hqW (λg hg=>?_) hG
   refine Kw hvs hvl hvw h4 (by omega) (by omega) (by omega) (by omega) rfl hVB hUlt hq1 hq2 hqW hg (λl' f1 f2 f3 f4=>?_)
   have ek:((k:Int)-1+1).toNat=k:=by omega
   refine hnx _ ⟨by rw [SO]; exact h1,h2.set (by rw [eW] at hqW; omega),by simp only; omega,f2,by simp only; omega,by simp only; omega,?_,?_⟩ (by simp only; omega)
   ·simp only
    rw [ek,rM (Sp (by omega)),nv,TP (by omega)]
    rw [RN];rw [Xr] at h7;exact KT f3 h7
   ·simp only
    rw [ek];have e1:=CG l' (m:=k) (by omega)
    have e2:=CG u (m:=k) (by omega)
    have e3:l'.take k=u.take k:=by
     apply Tz;intro i;rw [SG,SG]
     by_cases hi:i<k
     ·rw [RU hi,RU hi]; exact f4 i hi
     ·rw [RS hi,RS hi]
    rw [e3] at e1;refine Lq (a:=nv (u.take k)) (P:=WB ^ k) (Xq (by decide)) ?_ hq2
    omega
  ·have hj:=R2 hj
   rw [show (j+1).toNat=0 by omega,S8,Xs,Ud] at h7
   rw [show (j+1).toNat=0 by omega,S8] at h8
   exact hk qs u h1 h2 h3 h4 h7 h8
 ·simp only
  rw [show ((J.length:Int)-1+1).toNat=J.length by omega,UB]
  simp [nv,hval]
 ·simp only
  rw [show ((J.length:Int)-1+1).toNat=J.length by omega]
  exact hstart
theorem De {W S M u0 u1 hi:Nat} (J:W=S*M) (I:0<S):
  (u0+W*(u1+W*hi)) / S%W=(u1*W+u0) / S%W:=by
 have e:u0+W*(u1+W*hi)=(u1*W+u0)+S*(M*(W*hi)):=by
  have e1:W*(W*hi)=S*(M*(W*hi)):=by rw [<- Xh S M,<- J]
  rw [Xg,e1,Xi W u1]; omega
 rw [e,Nat.add_mul_div_left _ _ I];have e2:M*(W*hi)=W*(M*hi):=by rw [<- Xh,Xi M W,Xh]
 rw [e2,Nat.add_mul_mod_self_left]
theorem EV {W S u0 T:Nat} (I:u0<W):(u0+W*T) / S / W=T / S:=by
 rw [Nat.div_div_eq_div_mul,Xi S W,<- Nat.div_div_eq_div_mul,Nat.add_mul_div_left _ _ (by omega),Xb I,Se]
theorem OU {n:Int}{k:Nat} (I:k<=64):mG .u64 n (k:Int)=n / (2 ^ k:Nat):=by
 unfold mG;rw [show (min ((k:Int)).toNat u64.bits)=k by show min ((k:Int)).toNat 64=k; omega,T0 _ (Int.le_of_lt (Int.pow_pos (by decide)))]
 rw [Int.natCast_pow]; rfl
theorem Gc {A P d W D I Z:Nat} (h:A+P*D=Z) (Y:D%W=d) (J:D / W=I):(A+P*d)+P*W*I=Z:=by
 have e:d+W*I=D:=by rw [<- Y,<- J,Xf]
 rw [Xh P W,Uc,<- Xg,e,h]
theorem Hs {n s:Nat} (hs:s<=31) {u:List bR} (hu:Wf u) (hl:n<u.length) (hz:u.length<=1000001) {qs:List bR}{Q:List bR×List bR->Prop} (hlt:nv u / 2 ^ s<WB ^ n)
  (hk:∀ r,Wf r->r.length=n->nv r=nv u / 2 ^ s->Q (qs,r)):
  Gd (kz (λk I n=>mC (s:Int) u k I n) (λI=>some (qs,I)) n 0 (List.replicate n (⟨0⟩:bR))) Q:=by
 have hS:0<(2:Nat) ^ s:=Xq (by decide)
 have hWS:WB=2 ^ s*2 ^ (32-s):=by rw [<- Xl,show s+(32-s)=32 by omega]
 refine Gd.kz (λm k (z:List bR)=>k+m=n/\z.length=n/\Wf z/\nv (z.take k)+WB ^ k*(nv (u.drop k) / 2 ^ s)=nv u / 2 ^ s) ?_ ?_ _ 0 _ ⟨by omega,by simp,λy hy=>?_,by simp [nv]⟩
 ·rintro m k l nx ⟨h0,h1,h2,h3⟩ hnx
  obtain ⟨J,Z⟩:∃ t,u[k]? = some t:=⟨_,RK (by omega)⟩
  obtain ⟨Y,hx1⟩:∃ t,u[k+1]? = some t:=⟨_,RK (by omega)⟩
  have w0:=hu J (RY Z); have w1:=hu Y (RY hx1)
  have wk:i64.wrap ((k:Int)+1)=((k+1:Nat):Int):=by rw [bG (by omega)]; omega
  unfold mC;rw [wk];refine Gd.ix (by omega) (by rw [RN]; exact hx1) (Gd.ix (by omega) (by rw [RN]; exact Z) (Gd.nd (by omega) (Gd.gA (by omega) ?_)))
  rw [gM (n:=Y.n) (by omega),Ag w1 w0,OU (by omega),yd,RN]
  have e1:Y.n*4294967296+J.n=((Y.n.toNat*WB+J.n.toNat:Nat):Int):=by
   show _=((Y.n.toNat*4294967296+J.n.toNat:Nat):Int); omega
  have e2:(Y.n*4294967296+J.n) / ((2 ^ s:Nat):Int)%4294967296=(((Y.n.toNat*WB+J.n.toNat) / 2 ^ s%WB:Nat):Int):=by
   rw [e1]; rfl
  rw [e2];have hd:nv (u.drop k)=J.n.toNat+WB*nv (u.drop (k+1)):=by rw [rM Z,nv]
  have hd1:nv (u.drop (k+1))=Y.n.toNat+WB*nv (u.drop (k+2)):=by rw [rM hx1,nv]
  have O:=De (u0:=J.n.toNat) (u1:=Y.n.toNat) (hi:=nv (u.drop (k+2))) hWS hS;rw [<- hd1,<- hd] at O;have hn:=EV (W:=WB) (S:=2 ^ s) (u0:=J.n.toNat) (T:=nv (u.drop (k+1))) (by show J.n.toNat<4294967296; omega)
  rw [<- hd] at hn;have hlt':(Y.n.toNat*WB+J.n.toNat) / 2 ^ s%WB<WB:=UF _ (by decide)
  refine hnx _ ⟨by omega,by rw [SO]; exact h1,h2.set ⟨by omega,by have:(WB:Nat)=4294967296:=rfl; rw [this] at hlt'; omega⟩,?_⟩
  rw [xl (by omega),vh,Sm,SW (by omega),Xr,RN]
  exact Gc h3 O hn
 ·rintro k l ⟨h0,h1,h2,h3⟩
  have hk':k=n:=by omega
  subst hk';rw [R3 (by omega)] at h3
  have h0':=Bx h3.symm hlt;rw [h0',Xk,Tl] at h3;exact Gd.ret (hk l h2 h1 h3)
 ·rw [W6] at hy
  rw [hy.2]; simp
theorem Oz {q V a b S u:Nat} (J:0<S) (Y:V=b*S) (h:q*V+u=a*S) (Z:u<V):u / S=a-q*b/\a-q*b<b/\q*b<=a:=by
 have e:q*V=q*b*S:=by rw [Y,Xh]
 have I:q*b<=a:=by
  have h1:q*b*S<=a*S:=by omega
  exact Nat.le_of_mul_le_mul_right h1 J
 have e2:u=(a-q*b)*S:=by rw [Nat.mul_sub_right_distrib]; omega
 refine ⟨by rw [e2,Nat.mul_div_cancel _ J],?_,I⟩
 rw [e2,Y] at Z;exact Nat.lt_of_mul_lt_mul_right Z
theorem PA {q a b:Nat} (I:a-q*b<b) (J:q*b<=a):q=a / b/\a-q*b=a%b:=by
 have:=(Nat.div_mod_unique (a:=a) (b:=b) (c:=a-q*b) (d:=q) (by omega)).2 ⟨by rw [Xi b q]; omega,I⟩
 exact ⟨this.1.symm,this.2.symm⟩
theorem LK {W S M x B P:Nat} (I:W=S*M) (J:x*S<W) (hB:B<(x+1)*P):B*S<W*P:=by
 have Y:x<M:=by rw [I,Xi] at J; exact Xe J
 have Z:(x+1)*S<=W:=by rw [I,Xi S M]; exact R8 _ Y
 have hS:0<S:=by
  rcases Nat.eq_zero_or_pos S with h | h
  ·rw [h] at I; simp at I; rw [I] at J; omega
  ·exact h
 have h3:B*S<(x+1)*P*S:=(Nat.mul_lt_mul_right hS).2 hB;have h4:(x+1)*P*S=(x+1)*S*P:=by rw [Xh,Xi P S,<- Xh]
 have h5:(x+1)*S*P<=W*P:=R8 _ Z;omega
theorem Kx {a b:List bR} (ha:Wf a) (hb:Wf b) (hta:wJ a) (Y:wJ b) (hne:b≠[]) (hza:a.length<=900000) (hzb:b.length<=900000):
  Gd (nO a b) (λr=>Wf r.1/\Wf r.2/\r.1.length<=a.length/\r.2.length<=a.length/\nv r.1=nv a / nv b/\nv r.2=nv a%nv b):=by
 unfold nO;refine Gd.eN (Kk ha hb hta Y (by omega) (by omega)) (λc hc=>Gd.ite (λh=>?_) (λh=>?_))
 ·have hlt:=hc.1.1 (RT h)
  exact Gd.ret ⟨Wf.nil,ha,by simp,R9 _,by rw [Xb hlt]; rfl,by rw [TG hlt]⟩
 ·have hge:nv b<=nv a:=by
   have h:=R2 h;have:=mt hc.1.2 h;omega
  have hbl:0<b.length:=W4.2 hne;have hle:b.length<=a.length:=by
   rcases TF a.length b.length with h | h
   ·have:=vW ha hb Y h; omega
   ·exact h
  refine Gd.ite (λZ=>?_) (λZ=>?_)
  ·have Z:=RT Z
   have Z:b.length=1:=by omega
   obtain ⟨x,rfl⟩:=W1.1 Z;have hx:=hb x (by simp)
   have hx0:x.n≠0:=Y x (by simp)
   refine Gd.ix (y:=x) (by omega) (by simp) (Gd.eN (F8 ha (by omega) (d:=x.n) (by omega)) (λr hr=>Gd.ret ?_))
   obtain ⟨r1,r2,r3,r4⟩:=hr;have O:nv a%x.n.toNat<x.n.toNat:=UF _ (by omega)
   refine ⟨r1,?_,by simp only; omega,by simp at hle ⊢; omega,by rw [r3,CE],?_⟩
   ·refine Wf.one ?_
    rw [r4]; omega
   ·simp only
    rw [CE,CE,r4,RN]
  ·have Z:=R2 Z
   obtain ⟨I,J⟩:∃ I,b.length=I+2:=⟨b.length-2,by omega⟩
   have wn1:i64.wrap ((b.length:Int)-1)=((I+1:Nat):Int):=by rw [J,bG (by omega)]; omega
   have wab:i64.wrap ((a.length:Int)-(b.length:Int))=((a.length-b.length:Nat):Int):=by rw [bG (by omega)]; omega
   have wab1:i64.wrap (((a.length-b.length:Nat):Int)+1)=((a.length-b.length+1:Nat):Int):=by rw [bG (by omega)]; omega
   rw [wn1,wab,wab1];obtain ⟨x,hx⟩:∃ t,b[I+1]? = some t:=⟨_,RK (by omega)⟩
   have hxw:=hb x (RY hx);have hx0:x.n≠0:=Y x (by rw [WZ,J]; exact hx)
   refine Gd.ix (by omega) (by rw [RN]; exact hx) (Gd.eN (PI (x:=x.n) (by omega) hxw.2) ?_)
   rintro sv ⟨s,rfl,hs1,hs2,hs3⟩;refine Gd.eN (CU ha (by omega) hs1) (λu0 hu0=>Gd.eN (CU hb (by omega) hs1) (λv0 hv0=>?_))
   obtain ⟨p1,p2,p3,p4⟩:=hu0;obtain ⟨q1,q2,q3,t,q4,q5⟩:=hv0;refine Gd.nd (by omega) (Gd.nd (by omega) ?_)
   have hS:0<(2:Nat) ^ s:=Xq (by decide)
   have hWS:WB=2 ^ s*2 ^ (32-s):=by rw [<- Xl,show s+(32-s)=32 by omega]
   have hbs:nv b=nv (b.take (I+1))+WB ^ (I+1)*x.n.toNat:=by
    have:=rT hx;rw [R3 (by omega)] at this; exact this
   have hbt:nv (b.take (I+1))<WB ^ (I+1):=by
    have:=tE (hb.take (I+1)); rw [Sm,SW (by omega)] at this; exact this
   have hb2:nv b<(x.n.toNat+1)*WB ^ (I+1):=by rw [Sd,Xi x.n.toNat]; omega
   have hvlt:nv v0<WB ^ (I+2):=by
    rw [q3,Xr,Xi _ WB];exact LK hWS hs3 hb2
   have hvs:nv (v0.take b.length)=nv v0/\Wf (v0.take b.length)/\(v0.take b.length).length=b.length:=by
    refine ⟨?_,q1.take _,by rw [Sm]; omega⟩
    have e:=CG v0 (m:=b.length) (by omega)
    have hz:nv (v0.drop b.length)=0:=Bx e (by rw [J]; exact hvlt)
    rw [hz,Xk,Tl] at e;exact e.symm
   have hsl:tG v0 0 (((b.length:Int):Int).toNat)=v0.take b.length:=by
    rw [RN]; rfl
   generalize v0.take b.length=vs at hvs hsl;obtain ⟨v1,v2,v3⟩:=hvs;obtain ⟨y1,hy1⟩:∃ t,vs[I+1]? = some t:=⟨_,RK (by omega)⟩
   obtain ⟨y2,hy2⟩:∃ t,vs[I]? = some t:=⟨_,RK (by omega)⟩
   have hy1w:=v2 y1 (RY hy1);have hVS:nv vs=nv b*2 ^ s:=by rw [v1,q3]
   have hnorm:2147483648<=y1.n:=by
    have e1:nv vs=nv (vs.take (I+1))+WB ^ (I+1)*y1.n.toNat:=by
     have:=rT hy1;rw [R3 (by omega)] at this; exact this
    have e2:nv (vs.take (I+1))<WB ^ (I+1):=by
     have:=tE (v2.take (I+1)); rw [Sm,SW (by omega)] at this; exact this
    have e3:WB ^ (I+1)*x.n.toNat*2 ^ s<=nv b*2 ^ s:=R8 _ (by omega)
    rw [Xh] at e3;have e4:WB ^ (I+1)*(x.n.toNat*2 ^ s)<WB ^ (I+1)*(y1.n.toNat+1):=by rw [Xg (WB ^ (I+1)) y1.n.toNat 1]; omega
    have e5:=Xe e4;omega
   have hst:nv (u0.drop (a.length-b.length+1))<nv vs:=by
    have e:=CG u0 (m:=a.length-b.length+1) (by omega)
    have Z:WB ^ (I+1)<=nv b:=by have:=FX hb Y hne; rw [J] at this; exact this
    have h2:nv a<WB ^ a.length:=tE ha;have h3:nv u0<WB ^ a.length*2 ^ s:=by rw [p3]; exact (Nat.mul_lt_mul_right hS).2 h2
    have h4:WB ^ a.length*2 ^ s=WB ^ (a.length-b.length+1)*(WB ^ (I+1)*2 ^ s):=by
     rw [<- Xh,<- Xl]; congr 2; omega
    have h5:nv (u0.drop (a.length-b.length+1))<WB ^ (I+1)*2 ^ s:=by
     rw [h4] at h3;exact Xe (a:=WB ^ (a.length-b.length+1)) (by omega)
    have h6:WB ^ (I+1)*2 ^ s<=nv b*2 ^ s:=R8 _ Z;omega
   have hstart:((a.length-b.length:Nat):Int)=((List.replicate (a.length-b.length+1) (⟨0⟩:bR)).length:Int)-1:=by
    rw [SZ]; omega
   rw [RN,hstart];refine I6 (N:=a.length+1) (U0:=nv a*2 ^ s) J hsl v3 v2 (by omega) y1 y2 hy1 hy2 hnorm _ u0 (by rw [SZ]; omega) (λy hy=>by rw [W6] at hy; rw [hy.2]; simp) p2 p1 (by rw [SZ]; exact hst) p3 ?_
   intro qs u f1 f2 f3 f4 f5 f6;obtain ⟨g1,g2,g3⟩:=Oz hS hVS f5 f6;obtain ⟨g4,g5⟩:=PA g2 g3;refine Gd.nd (by omega) ?_
   rw [RN];refine Hs hs1 f4 (by omega) (by omega) ?_ (λr r1 r2 r3=>⟨f2,r1,?_,?_,g4,?_⟩)
   ·rw [g1]; have:=tE hb; omega
   ·simp only; rw [f1,SZ]; omega
   ·simp only; omega
   ·simp only; rw [r3,g1,g5]
theorem xF {w:List bR} (J:Wf w) (ht:wJ w):nv w=0↔w=[]:=by
 constructor
 ·intro h
  rcases WV w with I | ⟨a,y,I⟩
  ·exact I
  ·have:=FX J ht (by rw [I]; simp)
   have Y:0<WB ^ (w.length-1):=Xq (by decide)
   omega
 ·intro h; rw [h]; rfl
theorem Lc {a b:List bR} (J:Wf a) (Y:Wf b) (Z:wJ a) (htb:wJ b) (h:nv a=nv b):a=b:=by
 rcases UO a.length b.length with I | I | I
 ·have:=vW J Y htb I; omega
 ·exact Lb J Y I h
 ·have:=vW Y J Z I; omega
theorem tL.ext' {a b:LI} (I:tL a) (J:tL b) (h:gB a=gB b):a=b:=by
 obtain ⟨Y,Z⟩:=a; obtain ⟨bm,bw⟩:=b
 have za:=xF I.wf I.tp; have zb:=xF J.wf J.tp
 have sa:=I.sign; have sb:=J.sign
 simp only [gB] at h za zb sa sb;have key:Y=bm->Z=bw->(aC.mk Y Z)=aC.mk bm bw:=by rintro rfl rfl; rfl
 cases Y <;> cases bm <;> simp at h sa sb
 ·exact key rfl (Lc I.wf J.wf I.tp J.tp (by omega))
 ·have:nv bw=0:=by omega
  exact absurd (zb.1 this) sb
 ·have:nv Z=0:=by omega
  exact absurd (za.1 this) sa
 ·exact key rfl (Lc I.wf J.wf I.tp J.tp (by omega))
def Ph (A B:Nat):Nat:=if B=0 then 0 else 2*Nat.log2 (A*B)+2+(if A<B then 1 else 0)
theorem OC {A B:Nat} (hB:B≠0):Ph B (A%B)<Ph A B:=by
 unfold Ph;rw [RS hB]
 by_cases hR:A%B=0
 ·rw [RU hR]; omega
 ·rw [RS hR]
  have hlt:A%B<B:=UF _ (by omega)
  rw [RS (by omega:¬ B<A%B)]
  by_cases I:A<B
  ·rw [RU I,TG I,Xi B A]; omega
  ·rw [RS I]
   have hle:2*(B*(A%B))<=A*B:=by
    have h1:A%B+B*(A / B)=A:=Xf A B;have Y:1<=A / B:=(Xd (by omega)).2 (by omega)
    have h3:B*1<=B*(A / B):=Xj _ Y;have Z:B*(2*(A%B))<=B*A:=Xj _ (by omega)
    rw [Xi A B,<- Xh,Xi 2 B,Xh]; exact Z
   have J:0<B*(A%B):=Nat.mul_pos (by omega) (by omega)
   have h5:Nat.log2 (B*(A%B))<Nat.log2 (A*B):=by
    have h6:2 ^ Nat.log2 (B*(A%B))<=B*(A%B):=Nat.log2_self_le (by omega)
    have h7:2 ^ (Nat.log2 (B*(A%B))+1)<=A*B:=by rw [Xr]; omega
    exact (Nat.le_log2 (by omega)).2 h7
   omega
theorem BK (n:Nat):WB ^ n=2 ^ (32*n):=by rw [Xp]
theorem OB {a b:List bR} (Y:Wf a) (Z:Wf b) (hza:a.length<=900000) (hzb:b.length<=900000):Ph (nv a) (nv b)<=200000000:=by
 unfold Ph
 split
 ·omega
 ·rename_i h
  have h1:Nat.log2 (nv a*nv b)<=64000000:=by
   by_cases I:nv a*nv b=0
   ·rw [I]; decide
   ·have J:nv a*nv b<2 ^ (32*(a.length+b.length)):=by
     rw [<- BK,Xl];exact Nat.mul_lt_mul_of_lt_of_le (tE Y) (Nat.le_of_lt (tE Z)) (Xq (by decide))
    have:=(Nat.log2_lt I).2 J;omega
  split <;> omega
theorem sign_zero {a:LI} (h:tL a):eX a=0↔nv a.words=0:=by
 unfold eX;rw [xF h.wf h.tp]
 by_cases I:a.words=[]
 ·simp [I]
 ·have:a.words.length≠0:=λh=>I (Sg h)
  rw [RS (by simp; exact I)]
  constructor
  ·intro h; split at h <;> omega
  ·intro h; exact absurd h I
theorem tL.pos {w:List bR} (I:Wf w) (ht:wJ w):tL (aC.mk false w):=⟨I,ht,λh=>by simp at h⟩
theorem KK {a b:LI} (ha:tL a) (hb:tL b) {L:Nat} (hL:L<=900000) (hza:a.words.length<=L) (hzb:b.words.length<=L):
  Gd (qa a b) (λr=>tL r/\r.minus=false/\r.words.length<=L/\nv r.words=Nat.gcd (nv a.words) (nv b.words)):=by
 unfold qa;refine Gd.fG (λ(z:Bool×List bR×Bool×List bR)=>z.1=false/\z.2.2.1=false/\Wf z.2.1/\wJ z.2.1/\Wf z.2.2.2/\wJ z.2.2.2/\z.2.1.length<=L/\z.2.2.2.length<=L/\Nat.gcd (nv z.2.2.2) (nv z.2.1)=Nat.gcd (nv a.words) (nv b.words)) (λz=>Ph (nv z.2.2.2) (nv z.2.1)) ?_ eI _ ⟨rfl,rfl,hb.wf,hb.tp,ha.wf,ha.tp,hzb,hza,rfl⟩ ?_
 ·rintro ⟨c1,l1,c2,l2⟩ nx ⟨h1,h2,J,Y,h5,h6,h7,h8,Z⟩ I
  simp only at h1 h2 J Y h5 h6 h7 h8 Z I ⊢;subst h1 h2;unfold vI th;have hs:=sign_zero (tL.pos J Y);simp only at hs;refine Gd.ite (λh=>?_) (λh=>?_)
  ·have hB:nv l1≠0:=by
    intro e;rw [hs.2 e] at h; simp at h
   refine Gd.eN (Kx h5 J h6 Y (λe=>hB (by rw [e]; rfl)) (by omega) (by omega)) (λr hr=>?_)
   obtain ⟨r1,r2,r3,r4,r5,r6⟩:=hr;refine Gd.nd (by omega) (Gd.eN (um false r.2 r2 (by omega)) (λs hs'=>?_))
   obtain ⟨s1,s2,s3,s4⟩:=hs';have O:s.minus=false:=by
    rcases WD s.minus with h | h
    ·have:=s4.1 h; simp at this
    ·exact h
   refine I _ ⟨O,rfl,s1.wf,s1.tp,J,Y,by simp only; omega,h7,?_⟩ ?_
   ·simp only
    rw [s3,r6,<- Z,<- Nat.gcd_comm (nv l1) (nv l2),Nat.gcd_rec (nv l1) (nv l2),Nat.gcd_comm]
   ·simp only
    rw [s3,r6];exact OC hB
  ·have hB:nv l1=0:=by
    apply hs.1;simpa using h
   rw [hB,Nat.gcd_zero_right] at Z;exact Gd.ret ⟨tL.pos h5 h6,rfl,h8,Z⟩
 ·simp only [eI]
  have:=OB ha.wf hb.wf (by omega) (by omega)
  omega
theorem N2 {a b:LI} (Z:tL a) (hb:tL b) (O:a.minus=false) (h0:nv b.words≠0) (J:a.words.length<=900000) (Y:b.words.length<=900000):
  Gd (cP a b) (λr=>tL r.1/\r.1.minus=false/\r.1.words.length<=a.words.length/\nv r.1.words=nv a.words / nv b.words):=by
 unfold cP l7;refine Gd.eN (Kx Z.wf hb.wf Z.tp hb.tp (λe=>h0 (by rw [e]; rfl)) J Y) (λr hr=>?_)
 obtain ⟨r1,r2,r3,r4,r5,r6⟩:=hr;refine Gd.nd (by omega) (Gd.eN (um _ _ r1 (by omega)) (λs hs=>Gd.nd (by omega) (Gd.eN (um _ _ r2 (by omega)) (λt ht=>?_))))
 obtain ⟨s1,s2,s3,s4⟩:=hs;obtain ⟨t1,t2,t3,t4⟩:=ht;rw [O] at s4 t4;have I:s.minus=false:=by
  rcases WD s.minus with h | h
  ·have:=s4.1 h; simp at this
  ·exact h
 refine Gd.ite (λh=>?_) (λh=>Gd.ret ⟨s1,I,by simp only; omega,by simp only; rw [s3,r5]⟩)
 have:=t4.1 h; simp at this
abbrev LR:=aA
structure pE (r:LR):Prop where
 n:tL r.N
 d:tL r.D
 pos:r.D.minus=false
 nz:nv r.D.words≠0
 Qs:Nat.Coprime (nv r.N.words) (nv r.D.words)
def rv (r:LR):Rat:=Rat.divInt (gB r.N) (gB r.D)
theorem qQ {a:LI} (h:a.minus=false):gB a=(nv a.words:Nat):=by unfold gB; rw [h]; rfl
theorem kQ (a:LI):(gB a).natAbs=nv a.words:=by
 unfold gB
 split <;> omega
theorem pE.eq {r:LR} (h:pE r):rv r=Rat.mk' (gB r.N) (nv r.D.words) h.nz (by rw [kQ]; exact h.Qs):=by
 unfold rv;rw [qQ h.pos];exact (Rat.num_divInt_den (Rat.mk' (gB r.N) (nv r.D.words) h.nz (by rw [kQ]; exact h.Qs)))
theorem pE.num {r:LR} (h:pE r):(rv r).num=gB r.N:=by rw [h.eq]
theorem pE.den {r:LR} (h:pE r):(rv r).den=nv r.D.words:=by rw [h.eq]
theorem pE.ext' {r s:LR} (h:pE r) (k:pE s) (e:rv r=rv s):r=s:=by
 have e1:gB r.N=gB s.N:=by rw [<- h.num,<- k.num,e]
 have e2:nv r.D.words=nv s.D.words:=by rw [<- h.den,<- k.den,e]
 have I:=h.n.ext' k.n e1;have J:=h.d.ext' k.d (by rw [qQ h.pos,qQ k.pos,e2])
 obtain ⟨a,b⟩:=r; obtain ⟨c,d⟩:=s
 simp only at I J; rw [I,J]
def RL (r:LR) (L:Nat):Prop:=r.N.words.length<=L/\r.D.words.length<=L
theorem RL.mono {r:LR}{L M:Nat} (h:RL r L) (I:L<=M):RL r M:=⟨SK h.1 I,SK h.2 I⟩
theorem zg {g a b:Int} (J:g≠0) (I:b≠0):Rat.divInt (g*a) (g*b)=Rat.divInt a b:=by
 rw [Rat.divInt_eq_divInt_iff (Int.mul_ne_zero J I) I];rw [Int.mul_comm g a,WJ]
theorem PN {n d g:LI} (hn:tL n) (hd:tL d) (hg:tL g) (hdm:d.minus=false) (hd0:nv d.words≠0) (Z:nv g.words=Nat.gcd (nv n.words) (nv d.words))
  (hzn:n.words.length<=900000) (hzd:d.words.length<=900000) (hzg:g.words.length<=900000):
  Gd ((cP (aC.mk false n.words) g).bind λJ=>(cP (aC.mk d.minus d.words) g).bind λr203=>if n.minus then (some (aA.mk (aC.mk (decide (0<(J.1.words.length:Int))) J.1.words) r203.1)) else (some (aA.mk (aC.mk false J.1.words) r203.1)))
   (λr=>pE r/\r.N.words.length<=n.words.length/\r.D.words.length<=d.words.length/\rv r=Rat.divInt (gB n) (gB d)):=by
 have hg0:nv g.words≠0:=by
  rw [Z];exact Nat.ne_of_gt (Nat.gcd_pos_of_pos_right _ (by omega))
 have gN:nv g.words ∣ nv n.words:=by rw [Z]; exact Nat.gcd_dvd_left _ _
 have gD:nv g.words ∣ nv d.words:=by rw [Z]; exact Nat.gcd_dvd_right _ _
 have Y:Nat.Coprime (nv n.words / nv g.words) (nv d.words / nv g.words):=by
  rw [Z]; exact Nat.coprime_div_gcd_div_gcd (Nat.gcd_pos_of_pos_right _ (by omega))
 obtain ⟨n',hn'⟩:=gN;obtain ⟨d',I⟩:=gD;have en:nv n.words / nv g.words=n':=by rw [hn',Nat.mul_div_cancel_left _ (by omega)]
 have ed:nv d.words / nv g.words=d':=by rw [I,Nat.mul_div_cancel_left _ (by omega)]
 have hd0':d'≠0:=by intro h; rw [h] at I; simp at I; exact hd0 I
 refine Gd.eN (N2 (a:=aC.mk false n.words) (tL.pos hn.wf hn.tp) hg rfl hg0 hzn hzg) (λr hr=>Gd.eN (N2 (a:=aC.mk d.minus d.words) hd hg hdm hg0 hzd hzg) (λt ht=>?_));obtain ⟨r1,r2,r3,r4⟩:=hr;obtain ⟨t1,t2,t3,t4⟩:=ht;simp only at r3 r4 t3 t4;rw [en] at r4 Y;rw [ed] at t4 Y;have hd2:gB d=(nv g.words:Int)*(d':Int):=by rw [qQ hdm,I,SI]
 have ht2:gB t.1=(d':Int):=by rw [qQ t2,t4]
 refine Gd.ite (λh=>Gd.ret ?_) (λh=>Gd.ret ?_)
 ·have hN:tL (aC.mk (decide (0<(r.1.words.length:Int))) r.1.words):=⟨r1.wf,r1.tp,λh e=>by simp only at h e; rw [e] at h; simp at h⟩
  refine ⟨⟨hN,t1,t2,by simp only; omega,by simp only; rw [r4,t4]; exact Y⟩,r3,t3,?_⟩
  have hi:gB (aC.mk (decide (0<(r.1.words.length:Int))) r.1.words) = -(n':Int):=by
   unfold gB;simp only;rw [r4]
   by_cases hl:r.1.words=[]
   ·rw [hl] at r4 ⊢
    have:n'=0:=r4.symm;rw [this]; simp
   ·have:=W4.2 hl
    rw [RU (by simp; omega)]
  have vp:gB n=(nv g.words:Int)*(-(n':Int)):=by
   unfold gB; rw [RU h,hn',SI,Int.mul_neg]
  unfold rv;simp only;rw [hi,ht2,vp,hd2,zg (by omega) (by omega)]
 ·refine ⟨⟨tL.pos r1.wf r1.tp,t1,t2,by simp only; omega,by simp only; rw [r4,t4]; exact Y⟩,r3,t3,?_⟩
  have hi:gB (aC.mk false r.1.words)=(n':Int):=by
   rw [qQ rfl]; simp only; rw [r4]
  have vp:gB n=(nv g.words:Int)*(n':Int):=by
   rw [qQ h,hn',SI]
  unfold rv;simp only;rw [hi,ht2,vp,hd2,zg (by omega) (by omega)]
theorem FY {w:List bR} (h:decide ((w.length:Int)=1)=true):∃ x,w=[x]:=by
 have:=RT h;exact W1.1 (by omega)
theorem Ii {x:bR} (I:0<=x.n):nv [x]=1↔x.n=1:=by rw [CE]; omega
theorem Lp {n d:LI} (hn:tL n) (hd:tL d) (hdm:d.minus=false) (hd0:nv d.words≠0) (hzn:n.words.length<=900000) (hzd:d.words.length<=900000):
  Gd (nM d.minus d.words n.minus n.words) (λr=>pE r/\r.N.words.length<=n.words.length/\r.D.words.length<=d.words.length/\rv r=Rat.divInt (gB n) (gB d)):=by
 have self:Nat.gcd (nv n.words) (nv d.words)=1->Gd (some (aA.mk (aC.mk n.minus n.words) (aC.mk d.minus d.words))) (λr=>pE r/\r.N.words.length<=n.words.length/\r.D.words.length<=d.words.length/\rv r=Rat.divInt (gB n) (gB d)):=λhg=>
  Gd.ret ⟨⟨hn,hd,hdm,hd0,hg⟩,R9 _,R9 _,rfl⟩
 have part:Gd ((qa (aC.mk n.minus n.words) (aC.mk d.minus d.words)).bind λI=>if decide ((I.words.length:Int)=1) then (idx I.words 0 λy160=>if decide (y160.n=1) then (some (aA.mk (aC.mk n.minus n.words) (aC.mk d.minus d.words))) else ((cP (aC.mk false n.words) I).bind λY=>(cP (aC.mk d.minus d.words) I).bind λr173=>if n.minus then (some (aA.mk (aC.mk (decide (0<(Y.1.words.length:Int))) Y.1.words) r173.1)) else (some (aA.mk (aC.mk false Y.1.words) r173.1)))) else ((cP (aC.mk false n.words) I).bind λJ=>(cP (aC.mk d.minus d.words) I).bind λZ=>if n.minus then (some (aA.mk (aC.mk (decide (0<(J.1.words.length:Int))) J.1.words) Z.1)) else (some (aA.mk (aC.mk false J.1.words) Z.1))))
   (λr=>pE r/\r.N.words.length<=n.words.length/\r.D.words.length<=d.words.length/\rv r=Rat.divInt (gB n) (gB d)):=by
  refine Gd.eN (KK (L:=900000) hn hd (by omega) hzn hzd) (λg hg=>?_)
  obtain ⟨g1,g2,g3,g4⟩:=hg;refine Gd.ite (λh=>?_) (λh=>PN hn hd g1 hdm hd0 g4 hzn hzd g3);obtain ⟨x,hx⟩:=FY h;have hxw:=g1.wf x (by rw [hx]; simp)
  refine Gd.ix (y:=x) (by omega) (by rw [hx]; rfl) (Gd.ite (λh2=>self ?_) (λh2=>PN hn hd g1 hdm hd0 g4 hzn hzd g3))
  rw [<- g4,hx,Ii hxw.1]; exact RT h2
 unfold nM;refine Gd.ite (λh=>?_) (λh=>part);obtain ⟨x,hx⟩:=FY h;have hxw:=hd.wf x (by rw [hx]; simp)
 refine Gd.ix (y:=x) (by omega) (by rw [hx]; rfl) (Gd.ite (λh2=>self ?_) (λh2=>part))
 have:=(Ii hxw.1).2 (RT h2);rw [hx,this,Nat.gcd_one_right]
theorem yD {n d:LI} (hn:tL n) (hd:tL d) (J:nv d.words≠0) (hzn:n.words.length<=900000) (hzd:d.words.length<=900000):
  Gd (nJ n d) (λr=>pE r/\r.N.words.length<=n.words.length/\r.D.words.length<=d.words.length/\rv r=Rat.divInt (gB n) (gB d)):=by
 unfold nJ;refine Gd.ite (λh=>?_) (λh=>Lp hn hd h J hzn hzd);refine Gd.eN (EE hn (by omega)) (λn' Y=>Gd.eN (EE hd (by omega)) (λZ I=>?_))
 have e:nv Z.words=nv d.words:=by rw [<- kQ,I.2.2,Int.natAbs_neg,kQ]
 have O:Z.minus=false:=by
  have h1:=I.2.2;unfold gB at h1;rw [RU h] at h1;rcases WD Z.minus with h2 | h2
  ·rw [RU h2] at h1; omega
  ·exact h2
 refine (Lp Y.1 I.1 O (by rw [e]; exact J) (by omega) (by omega)).mono (λr hr=>⟨hr.1,by omega,by omega,?_⟩)
 rw [hr.2.2.2,Y.2.2,I.2.2];rw [Rat.neg_divInt_neg]
theorem Oa {r:LR} (h:pE r):gB r.D≠0:=by rw [qQ h.pos]; have:=h.nz; omega
theorem G5 {a b c:LI} (h:gB c=gB a*gB b) (I:nv a.words≠0) (J:nv b.words≠0):nv c.words≠0:=by
 rw [<- kQ,h,Int.natAbs_mul,kQ,kQ];exact Nat.mul_ne_zero I J
theorem xK {a b:LR} (J:pE a) (Y:pE b) {A B:Nat} (la:RL a A) (lb:RL b B) (hz:A+B<=800000):
  Gd (iB a b) (λr=>pE r/\RL r (A+B+1)/\rv r=rv a+rv b):=by
 have:=la.1; have:=la.2; have:=lb.1; have:=lb.2
 unfold iB;refine Gd.eN (wQ J.n Y.d (by omega)) (λx hx=>Gd.eN (wQ Y.n J.d (by omega)) (λy hy=>Gd.eN (Er hx.1 hy.1 (by omega) (by omega)) (λs hs=>Gd.eN (wQ J.d Y.d (by omega)) (λz I=>?_))))
 refine Gd.eN (yD hs.1 I.1 (G5 I.2.2 J.nz Y.nz) (by omega) (by omega)) (λr Z=>Gd.ret ⟨Z.1,⟨by omega,by omega⟩,?_⟩)
 rw [Z.2.2.2,hs.2.2,hx.2.2,hy.2.2,I.2.2];unfold rv;rw [Rat.divInt_add_divInt _ _ (Oa J) (Oa Y)]
theorem Ir {a:LR} (I:pE a) {A:Nat} (la:RL a A) (Y:A<=800000):
  Gd (oK a) (λr=>pE r/\RL r A/\rv r = -rv a):=by
 have:=la.1; have:=la.2
 unfold oK;refine Gd.eN (EE I.n (by omega)) (λx J=>Gd.ret ⟨⟨J.1,I.d,I.pos,I.nz,?_⟩,⟨by simp only; omega,la.2⟩,?_⟩)
 ·have e:nv x.words=nv a.N.words:=by rw [<- kQ,J.2.2,Int.natAbs_neg,kQ]
  simp only; rw [e]; exact I.Qs
 ·unfold rv
  simp only;rw [J.2.2,Rat.neg_divInt]
theorem yQ {a b:LR} (Y:pE a) (Z:pE b) {A B:Nat} (la:RL a A) (lb:RL b B) (hz:A+B<=800000):
  Gd (jL a b) (λr=>pE r/\RL r (A+B+1)/\rv r=rv a-rv b):=by
 unfold jL;refine Gd.eN (Ir Z lb (by omega)) (λc I=>Gd.eN (xK Y I.1 la I.2.1 hz) (λr J=>Gd.ret ⟨J.1,J.2.1,?_⟩))
 rw [J.2.2,I.2.2,Rat.sub_eq_add_neg]
theorem Am {a b:LR} (J:pE a) (Y:pE b) {A B:Nat} (la:RL a A) (lb:RL b B) (hz:A+B<=800000):
  Gd (lR a b) (λr=>pE r/\RL r (A+B)/\rv r=rv a*rv b):=by
 have:=la.1; have:=la.2; have:=lb.1; have:=lb.2
 unfold lR;refine Gd.eN (wQ J.n Y.n (by omega)) (λx hx=>Gd.eN (wQ J.d Y.d (by omega)) (λz I=>?_))
 refine Gd.eN (yD hx.1 I.1 (G5 I.2.2 J.nz Y.nz) (by omega) (by omega)) (λr Z=>Gd.ret ⟨Z.1,⟨by omega,by omega⟩,?_⟩)
 rw [Z.2.2.2,hx.2.2,I.2.2];unfold rv;rw [Rat.divInt_mul_divInt]
theorem It {r:LR} (h:pE r):rv r=0↔nv r.N.words=0:=by
 have hn:=h.num;rw [<- kQ,Int.natAbs_eq_zero,<- hn,Rat.num_eq_zero]
theorem vZ {n:Int} (h:-9223372036854775808<=n/\n<=9223372036854775807):Gd (kE n) (λr=>pE r/\RL r 2/\rv r=(n:Rat)):=by
 unfold kE;refine Gd.eN (CH h) (λx Y=>Gd.eN (CH (n:=1) (by omega)) (λy I=>Gd.ret ?_))
 have O:y.minus=false:=by
  have Z:=I.2.2;unfold gB at Z;rcases WD y.minus with J | J
  ·rw [RU J] at Z; omega
  ·exact J
 have hv:nv y.words=1:=by rw [<- kQ,I.2.2]; rfl
 refine ⟨⟨Y.1,I.1,O,by simp only; omega,by simp only; rw [hv]; exact Nat.coprime_one_right _⟩,⟨Y.2.1,I.2.1⟩,?_⟩
 unfold rv;simp only;rw [Y.2.2,I.2.2,Rat.divInt_eq_div,Rat.intCast_one]; grind
theorem HT {n d:Int} (h:-9223372036854775808<=n/\n<=9223372036854775807) (k:-9223372036854775808<=d/\d<=9223372036854775807) (h0:d≠0):
  Gd (rQ n d) (λr=>pE r/\RL r 2/\rv r=(n:Rat) / (d:Rat)):=by
 unfold rQ;refine Gd.eN (CH h) (λx Y=>Gd.eN (CH k) (λy I=>?_));have Z:nv y.words≠0:=by rw [<- kQ,I.2.2]; omega
 refine Gd.eN (yD Y.1 I.1 Z (by omega) (by omega)) (λr J=>Gd.ret ⟨J.1,⟨by omega,by omega⟩,?_⟩)
 rw [J.2.2.2,Y.2.2,I.2.2,Rat.divInt_eq_div]
abbrev bl (s:RI):List UInt8:=s.data.toList
def ba (l:List UInt8):RI:=⟨l.toArray⟩
@[simp] theorem q7 (l:List UInt8):bl (ba l)=l:=rfl
@[simp] theorem HL (s:RI):ba (bl s)=s:=by
 show (⟨s.data.toList.toArray⟩:RI)=s;rw [Array.toArray_toList]
theorem vC {a b:RI} (h:bl a=bl b):a=b:=by rw [<- HL a,h,HL]
theorem ry (s:RI):(bl s).length=s.size:=by show s.data.toList.length=s.data.size; exact Array.length_toList
theorem dA (l:List UInt8):(ba l).size=l.length:=(ry (ba l)).symm
theorem sF (a b:RI):bl (a++b)=bl a++bl b:=by show (a++b).data.toList=_; simp
theorem Gz (a b:List UInt8):ba a++ba b=ba (a++b):=vC (sF _ _)
theorem yo {a b:List UInt8} (h:ba a=ba b):a=b:=by have:=R7 bl h; simpa using this
theorem xq (s:RI) (i j:Nat):bl (s.extract i j)=((bl s).take j).drop i:=by
 show (s.extract i j).data.toList=(s.data.toList.take j).drop i;simp [ByteArray.data_extract,Array.toList_extract,Ug]
theorem sE (l:List UInt8) (i j:Nat):(ba l).extract i j=ba ((l.take j).drop i):=vC (by rw [xq,q7,q7])
theorem rJ (a b:RI):(a++b).size=a.size+b.size:=by rw [<- ry,sF,R5,ry,ry]
theorem kI (c:UInt8):∀ (l:List UInt8),(c ∉ l/\Lib.indexByte l c = -1)\/∃ a b,l=a++c::b/\c ∉ a/\Lib.indexByte l c=a.length
 | []=>.inl ⟨by simp,rfl⟩
 | x::l=>by
  by_cases e:x=c
  ·subst e
   exact .inr ⟨[],l,rfl,by simp,by simp [Lib.indexByte]⟩
  ·have J:(x == c)=false:=by simpa using e
   rcases kI c l with ⟨Y,I⟩ | ⟨a,b,rfl,I,Z⟩
   ·refine .inl ⟨by simp [Y]; exact λh=>e h.symm,?_⟩
    simp [Lib.indexByte,J,I]
   ·refine .inr ⟨x::a,b,rfl,by simp [I]; exact λh=>e h.symm,?_⟩
    simp only [Lib.indexByte,J,Z];rw [RS (by simp),RS (by simp)]
    simp only [RW]; omega
theorem zq (c:UInt8):fQ (ba [c])=[⟨c.toNat⟩]:=by simp [fQ,ba]
theorem FF (s:RI) (c:UInt8):dM s (ba [c])=some (Lib.indexByte (bl s) c):=by
 unfold dM eL
 by_cases e:ba [c]=s
 ·subst e
  rw [RU (by simp)]
  simp [Lib.indexByte]
 ·rw [RS (by simp [dA,e]),RU (by simp [dA]),zq]
  simp [idx,Mu]
theorem IQ (l:List UInt8):fQ (ba l)=l.map λb=>(⟨b.toNat⟩:U8):=rfl
theorem Fk (l:List UInt8):xV (l.map λb=>(⟨b.toNat⟩:U8))=ba l:=by
 refine vC ?_;show (List.map _ (List.map _ l)).toArray.toList=l;rw [List.map_map,Um]
 conv=>rhs; rw [<- List.map_id l]
 refine List.map_congr_left λb _=>?_;simp
def Dh (c:UInt8):Prop:=48<=c.toNat/\c.toNat<=57
instance (c:UInt8):Decidable (Dh c):=by unfold Dh; infer_instance
def KA (acc:Nat):List UInt8->Nat
 | []=>acc
 | c::r=>KA (acc*10+(c.toNat-48)) r
def dv (l:List UInt8):Nat:=KA 0 l
theorem Ef:∀ (l:List UInt8) (acc:Nat),KA acc l=acc*10 ^ l.length+dv l
 | [],acc=>by
  rw [W3,Xs,Ud]; rfl
 | c::r,acc=>by
  have I:=Ef r (0*10+(c.toNat-48));unfold dv KA;rw [Ef r,I,RW,Xr];have:(acc*10+(c.toNat-48))*10 ^ r.length=acc*(10 ^ r.length*10)+(0*10+(c.toNat-48))*10 ^ r.length:=by
   rw [Sd,Tm,Se,Xh,Xi 10]
  rw [this,Uc]
theorem B8 (a b:List UInt8):dv (a++b)=dv a*10 ^ b.length+dv b:=by
 have key:∀ (a:List UInt8) (acc:Nat),KA acc (a++b)=KA (KA acc a) b:=by
  intro a
  induction a with
  | nil=>intro acc; rfl
  | cons c r ih=>intro acc; exact ih _
 unfold dv;rw [key,Ef]; rfl
theorem GL (c:UInt8):dv [c]=c.toNat-48:=by
 show 0*10+(c.toNat-48)=_;omega
theorem zU (c:UInt8) (r:List UInt8):dv (c::r)=(c.toNat-48)*10 ^ r.length+dv r:=by
 have:=B8 [c] r;rw [GL] at this; simpa using this
theorem KC (n:Nat):dv (List.replicate n (48:UInt8))=0:=by
 induction n with
 | zero=>rfl
 | succ n ih=>rw [Tv,zU,ih]; simp
theorem A3:∀ {l:List UInt8},(∀ c ∈ l,Dh c)->dv l<10 ^ l.length
 | [],_=>by
  show 0<10 ^ 0
  decide
 | c::r,h=>by
  have J:=A3 (l:=r) (λz I=>h z (RV _ I));have Y:=(h c (RR ..)).2;rw [zU,RW,Xr,Xi (10 ^ r.length) 10];have:(c.toNat-48)*10 ^ r.length<=9*10 ^ r.length:=R8 _ (by omega)
  generalize 10 ^ r.length=P at *
  omega
theorem KB {c:UInt8}{r:List UInt8} (J:Dh c) (I:c≠48):10 ^ r.length<=dv (c::r):=by
 have:1<=c.toNat-48:=by
  have:=J.1;have Y:c.toNat≠48:=λe=>I (UInt8.toNat_inj.1 (by rw [e]; rfl))
  omega
 rw [zU];have:1*10 ^ r.length<=(c.toNat-48)*10 ^ r.length:=R8 _ this;generalize 10 ^ r.length=P at *
 omega
structure Gl (l:List UInt8):Prop where
 EZ:∀ c ∈ l,Dh c
 ne:l≠[]
 lead:l.head? = some 48->l=[48]
theorem Cg {a b:List UInt8} (h:a≠[]):(a++b).head? = a.head? := by
 cases a with
 | nil=>exact absurd rfl h
 | cons x r=>rfl
theorem Kv {u:Nat} (h:u<10):(UInt8.ofNat (48+u)).toNat=48+u:=by rw [XG]; omega
theorem lY (u:Nat):Gl (Lib.decDigits u)/\dv (Lib.decDigits u)=u:=by
 induction u using Nat.strongRecOn with
 | _ u ih=>
  by_cases h:u<10
  ·rw [WO h]
   have Z:=Kv h;refine ⟨⟨λc I=>?_,by simp,λJ=>?_⟩,by rw [GL,Z]; omega⟩
   ·rw [R_] at I; subst I; unfold Dh; omega
   ·simp only [W0,Sa] at J
    rw [J]
  ·obtain ⟨Y,h2⟩:=ih (u / 10) (by omega)
   have e:Lib.decDigits u=Lib.decDigits (u / 10)++[UInt8.ofNat (48+u%10)]:=by rw [Lib.decDigits,dif_neg h]
   have Z:=Kv (u:=u%10) (by omega)
   rw [e];refine ⟨⟨λc I=>?_,by simp,λJ=>?_⟩,?_⟩
   ·rcases RZ.1 I with I | I
    ·exact Y.EZ c I
    ·rw [R_] at I; subst I; unfold Dh; omega
   ·rw [Cg Y.ne] at J
    have:=Y.lead J;rw [this] at h2;have:dv [48]=0:=rfl;omega
   ·rw [B8,h2,GL,Z]
    simp only [SR,Nat.pow_one]; omega
theorem Ic:∀ {a b:List UInt8},Gl a->Gl b->dv a=dv b->a=b:=by
 have zero:∀ {a:List UInt8},Gl a->dv a=0->a=[48]:=by
  intro a I h0;cases a with
  | nil=>exact absurd rfl I.ne
  | cons c r=>
   by_cases hc:c=48
   ·exact I.lead (by rw [hc]; rfl)
   ·have:=KB (r:=r) (I.EZ c (RR ..)) hc
    have:0<10 ^ r.length:=Xq (by decide)
    omega
 have Z:∀ (a b:List UInt8),a.length=b.length->(∀ c ∈ a,Dh c)->(∀ c ∈ b,Dh c)->dv a=dv b->a=b:=by
  intro a
  induction a with
  | nil=>intro b hl _ _ _; cases b with | nil=>rfl | cons _ _=>simp at hl
  | cons c r ih=>
   intro b hl I Y h;cases b with
   | nil=>simp at hl
   | cons d s=>
    have hl':r.length=s.length:=by simpa using hl
    have h1:=A3 (l:=r) (λz J=>I z (RV _ J));have h2:=A3 (l:=s) (λz J=>Y z (RV _ J));have hc:=I c (RR ..);have hd:=Y d (RR ..);rw [zU,zU,<- hl'] at h;rw [<- hl'] at h2;have hP:0<10 ^ r.length:=Xq (by decide)
    have e1:c.toNat-48=d.toNat-48:=by
     have q1:((c.toNat-48)*10 ^ r.length+dv r) / 10 ^ r.length=c.toNat-48:=by
      rw [Uo,Nat.add_mul_div_right _ _ hP,Xb h1,Se]
     have q2:((d.toNat-48)*10 ^ r.length+dv s) / 10 ^ r.length=d.toNat-48:=by
      rw [Uo,Nat.add_mul_div_right _ _ hP,Xb h2,Se]
     rw [<- q1,h,q2]
    have e2:c=d:=UInt8.toNat_inj.1 (by have:=hc.1; have:=hd.1; omega)
    rw [e1] at h;rw [e2,ih s hl' (λz J=>I z (RV _ J)) (λz J=>Y z (RV _ J)) (by omega)]
 intro a b I Y h
 by_cases h0:dv a=0
 ·rw [zero I h0,zero Y (by omega)]
 ·have big:∀ {l:List UInt8},Gl l->dv l≠0->∃ c r,l=c::r/\10 ^ r.length<=dv l:=by
   intro l hl J;cases l with
   | nil=>exact absurd rfl hl.ne
   | cons c r=>
    refine ⟨c,r,rfl,KB (hl.EZ c (RR ..)) (λhc=>J ?_)⟩;rw [hl.lead (by rw [hc]; rfl)]; rfl
  obtain ⟨c,r,rfl,h1⟩:=big I h0;obtain ⟨d,s,rfl,h2⟩:=big Y (by omega)
  have h3:=A3 I.EZ;have h4:=A3 Y.EZ;refine Z _ _ ?_ I.EZ Y.EZ h;rw [h] at h1 h3;have l1:r.length<(d::s).length:=(Xo (by decide)).1 (UH h1 h4)
  have l2:s.length<(c::r).length:=(Xo (by decide)).1 (UH h2 h3)
  simp only [RW] at l1 l2 ⊢; omega
theorem xu {l:List UInt8} (h:Gl l):Lib.decDigits (dv l)=l:=Ic (lY _).1 h (lY _).2
theorem DC {u k:Nat} (Z:1<=k) (h:u<10 ^ k):(Lib.decDigits u).length<=k:=by
 obtain ⟨I,J⟩:=lY u;cases hl:Lib.decDigits u with
 | nil=>simp
 | cons c r=>
  rw [hl] at I J
  by_cases Y:c=48
  ·rw [I.lead (by rw [Y]; rfl)]; simpa using Z
  ·have:=KB (r:=r) (I.EZ c (RR ..)) Y
   rw [J] at this;have:r.length<k:=(Xo (by decide)).1 (UH this h)
   rw [RW]; exact this
theorem Co {u k:Nat} (h:(Lib.decDigits u).length<=k):u<10 ^ k:=by
 obtain ⟨I,J⟩:=lY u;have:=A3 I.EZ;rw [J] at this;exact Ur this (Xn (by decide) h)
def pad (k:Nat) (r:Nat):List UInt8:=List.replicate (k-(Lib.decDigits r).length) 48++Lib.decDigits r
theorem MT {k r:Nat} (I:1<=k) (h:r<10 ^ k):(pad k r).length=k:=by
 have:=DC I h;unfold pad;rw [R5,SZ]; omega
theorem MS (k r:Nat):∀ c ∈ pad k r,Dh c:=by
 intro c I;rcases RZ.1 I with I | I
 ·rw [(W6.1 I).2]; exact ⟨by decide,by decide⟩
 ·exact (lY r).1.EZ c I
theorem Oy (k r:Nat):dv (pad k r)=r:=by
 unfold pad;rw [B8,KC,(lY r).2]; omega
theorem Mm {k q r:Nat} (hk:1<=k) (hq:0<q) (hr:r<10 ^ k):Lib.decDigits (q*10 ^ k+r)=Lib.decDigits q++pad k r:=by
 obtain ⟨J,Y⟩:=lY q;refine Ic (lY _).1 ⟨λc I=>?_,by simp [J.ne],λZ=>?_⟩ ?_
 ·rcases RZ.1 I with I | I
  ·exact J.EZ c I
  ·exact MS _ _ c I
 ·rw [Cg J.ne] at Z
  rw [J.lead Z] at Y;have:dv [48]=0:=rfl;omega
 ·rw [(lY _).2,B8,Y,MT hk hr,Oy]
theorem Lh {M:Nat} (J:M<1844674407370955162):∀ (l:List UInt8) (acc:Nat),(∀ c ∈ l,Dh c)->KA acc l<=M->acc<=M->Lib.parseUintM M acc l=.ok (KA acc l)
 | [],acc,_,_,_=>rfl
 | c::r,acc,h,hl,ha=>by
  have Y:=h c (RR ..);have I:acc*10+(c.toNat-48)<=M:=by
   have:=Ef r (acc*10+(c.toNat-48));have h1:KA acc (c::r)=KA (acc*10+(c.toNat-48)) r:=rfl;have hP:1<=10 ^ r.length:=Xq (by decide)
   have:(acc*10+(c.toNat-48))*1<=(acc*10+(c.toNat-48))*10 ^ r.length:=Xj _ hP;generalize 10 ^ r.length=P at *
   omega
  rw [Lib.parseUintM,RU (show 48<=c.toNat/\c.toNat<=57 from Y),RS (by omega),RS (by omega)]
  exact Lh J r _ (λz Z=>h z (RV _ Z)) hl I
theorem MY {l:List UInt8} (h:∀ c ∈ l,Dh c) (hl:l.length<=9):MX (ba l)=((dv l:Int),false):=by
 unfold MX;have I:=A3 h;have J:10 ^ l.length<=10 ^ 9:=Xn (by decide) hl
 have e:=Lh (M:=4294967295) (by decide) l 0 h (by show dv l<=_; omega) (by omega)
 show (match Lib.parseUintM 4294967295 0 l with | .ok v=>((v:Int),false) | .range=>(4294967295,true) | _=>(0,true))=_
 rw [e]; rfl
theorem DG (l:List UInt8):eK (ba l) (⟨#[45]⟩)=some (decide (l.head? = some 45)):=by
 have I:(⟨#[45]⟩:RI).size=1:=rfl;unfold eK;rw [I,dA];cases l with
 | nil=>rfl
 | cons c r=>
  rw [RU (by simp; omega)]
  unfold cE;rw [RU (by simp only [RW]; omega),show ((1:Nat):Int).toNat=1 from rfl,sE]
  congr 1
  have e:(ba (((c::r).take 1).drop 0)=(⟨#[45]⟩:RI))↔((c::r).head? = some 45):=by
   rw [show (⟨#[45]⟩:RI)=ba [45] from rfl];constructor
   ·intro h
    have:=yo h;simp at this;simp [this]
   ·intro h
    simp only [W0,Sa] at h;rw [h]; rfl
  exact XI.2 e
theorem Jc (l:List UInt8):nD (ba l) (⟨#[45]⟩)=some (decide (l.head? = some 45)):=by
 unfold nD;rw [DG l]; rfl
theorem zI (l:List UInt8):kZ (ba l) (⟨#[45]⟩)=some (ba (if l.head? = some 45 then l.tail else l)):=by
 have I:(⟨#[45]⟩:RI).size=1:=rfl;unfold kZ iG;rw [DG l];simp only [T9]
 by_cases h:l.head? = some 45
 ·rw [RU (by simp [h]),RU h,I,dA]
  cases l with
  | nil=>cases h
  | cons c r=>
   unfold cE;rw [RU (by simp only [RW]; omega),show ((1:Nat):Int).toNat=1 from rfl,sE]
   simp
 ·rw [RS (by simp [h]),RS h]; rfl
theorem tL.plus {a:LI} (h:tL a) (J:0<=gB a):a.minus=false:=by
 cases O:a.minus with
 | false=>rfl
 | true=>
  have I:=h.sign O;have:nv a.words≠0:=λe=>I ((xF h.wf h.tp).1 e);unfold gB at J;rw [RU O] at J; omega
theorem Mh {n:Nat} (h:0<n) (I:n<=100000):i64.wrap ((Int.tmod (i64.wrap ((n:Int)-1)) 9)+1)=(((n-1)%9+1:Nat):Int):=by
 rw [bG (n:=(n:Int)-1) ⟨by omega,by omega⟩]
 have:Int.tmod ((n:Int)-1) 9=(((n-1)%9:Nat):Int):=by
  rw [show (n:Int)-1=((n-1:Nat):Int) by omega]
  rw [Int.tmod_eq_emod_of_nonneg (by omega)]; rfl
 rw [this,bG ⟨by omega,by omega⟩]; omega
theorem Js {D n c v P:Nat} (h:D=0\/n=9) (hP:P=10 ^ n):D*10 ^ 9+c=D*P+c:=by
 rcases h with h | h
 ·rw [h,Tm,Tm]
 ·rw [hP,h]
theorem Iq {J:List UInt8} (h:∀ c ∈ J,Dh c) (hl:J.length<=2000) (neg:Bool):
  Gd (lz (ba (if neg=true then 45::J else J))) (λa=>tL a/\a.words.length<=10000/\gB a=if neg=true then -(dv J:Int) else dv J):=by
 unfold lz;have hll:(if neg=true then 45::J else J).length<=1000000:=by
  split
  ·simp only [RW]; omega
  ·omega
 have hhd:(if neg=true then 45::J else J).head? = some 45↔neg=true:=by
  cases neg with
  | true=>simp
  | false=>
   simp only [Tr,T5,iff_false];intro hh;cases J with
   | nil=>cases hh
   | cons c r=>
    simp only [W0,Sa] at hh;have:=(h c (RR ..)).1;rw [hh] at this; exact absurd this (by decide)
 have htr:(if (if neg=true then 45::J else J).head? = some 45 then (if neg=true then 45::J else J).tail else (if neg=true then 45::J else J))=J:=by
  cases neg with
  | true=>simp
  | false=>rw [RS (by rw [hhd]; simp)]; simp
 refine Gd.bind_eq (Jc _) (Gd.bind_eq (zI _) ?_);rw [htr];have hdec:decide ((if neg=true then 45::J else J).head? = some 45)=neg:=by
  cases neg with
  | true=>simp
  | false=>rw [XJ (by rw [hhd]; simp)]
 rw [hdec];refine Gd.fG (λ(z:RI×Bool×List bR)=>∃ pre I:List UInt8,J=pre++I/\z.1=ba I/\z.2.1=false/\tL ⟨false,z.2.2⟩/\(nv z.2.2=dv pre)/\z.2.2.length<=5*pre.length/\(pre=[]\/I.length%9=0))
  (λz=>z.1.size) ?_ eI _ ⟨[],J,rfl,rfl,rfl,⟨Wf.nil,λy hy=>by simp at hy,λhh=>by simp at hh⟩,rfl,by simp,.inl rfl⟩ (by rw [dA]; simp only [eI]; omega)
 rintro ⟨s,c,w⟩ nx ⟨pre,I,e1,e2,e3,e4,e5,e6,e7⟩ hnx;simp only at e2 e3 e4 e5 e6 e7 hnx ⊢;subst e2 e3;have hlen:pre.length+I.length<=2000:=by rw [<- R5,<- e1]; exact hl
 unfold uR;rw [dA];refine Gd.ite (λh0=>?_) (λh0=>?_)
 ·have h0:0<I.length:=by have:=RT h0; omega
  rw [Mh h0 (by omega)]
  generalize hn:(I.length-1)%9+1=n;have hn9:n<=9:=by omega
  have hns:n<=I.length:=by have:=Nat.mod_le (I.length-1) 9; omega
  rw [RN,sE,sE,S8,R3 (R9 _),dA];have Z:(I.take n).length=n:=by rw [Sm]; omega
  have hdg:∀ x ∈ I.take n,Dh x:=λx hx=>h x (by rw [e1]; exact SV _ (Uv hx))
  have hpu:=MY hdg (by rw [Z]; exact hn9)
  have hdl:dv (I.take n)<10 ^ 9:=Ur (A3 hdg) (Xn (by decide) (by omega))
  rw [hpu,Z];refine Gd.nd ⟨by omega,by omega⟩ (Gd.nd ⟨by omega,by omega,rfl⟩ ?_)
  rw [bG (n:=(dv (I.take n):Int)) ⟨by omega,by omega⟩]
  refine Gd.eN (CH (n:=1000000000) (by omega)) (λt ht=>Gd.eN (wQ e4 ht.1 (by simp only; omega)) (λm O=>Gd.eN (CH (n:=(dv (I.take n):Int)) (by omega)) (λu hu=>Gd.eN (Er O.1 hu.1 (by simp only at O; omega) (by omega)) (λr hr=>Gd.nd ⟨by omega,by omega⟩ ?_))))
  have hiv:gB (⟨false,w⟩:LI)=(dv pre:Int):=by unfold gB; simp only [Tr,T5]; rw [e5]
  have hval:gB r=((dv (pre++I.take n):Nat):Int):=by
   rw [hr.2.2,O.2.2,ht.2.2,hu.2.2,hiv,B8,Z];have:=Js (D:=dv pre) (n:=n) (c:=dv (I.take n)) (v:=0) (P:=10 ^ n) (by
    rcases e7 with e7 | e7
    ·left; rw [e7]; rfl
    ·right; omega) rfl
   rw [<- this];have e9:(10 ^ 9:Nat)=1000000000:=rfl;rw [e9];generalize dv pre=A;generalize dv (I.take n)=C;omega
  have hrm:r.minus=false:=hr.1.plus (by rw [hval]; omega)
  refine hnx _ ⟨pre++I.take n,I.drop n,by rw [Sc,Te]; exact e1,rfl,hrm,?_,?_,?_,?_⟩ ?_
  ·rw [<- hrm]; exact hr.1
  ·have:=hval
   unfold gB at this;rw [RS (by rw [hrm]; simp)] at this
   simp only; omega
  ·simp only at O ⊢
   rw [R5,Z]; omega
  ·right; rw [Tg]; omega
  ·simp only [dA,Tg]; omega
 ·have h0:¬ 0<I.length:=by have:=R2 h0; omega
  have hs0:I=[]:=Sg (by omega)
  subst hs0;rw [Ss] at e1;subst e1;unfold sA;have e4w:Wf w:=e4.wf;have e4t:wJ w:=e4.top;refine Gd.ite (λY=>Gd.ret ⟨⟨e4.wf,e4.top,λO hw=>?_⟩,by simp only; omega,?_⟩) (λY=>Gd.ret ⟨e4,by simp only; omega,?_⟩)
  ·have hw:w=[]:=hw
   subst hw;simp at O
  ·rw [RU Y]
   unfold gB;simp only [Sy]
   split
   ·rw [e5]
   ·rename_i hh
    have:w=[]:=Sg (by omega)
    rw [this] at e5 ⊢;rw [<- e5]; rfl
  ·rw [RS (by rw [Y]; simp)]
   unfold gB;simp only [Tr,T5];rw [e5]
def pv:List bR->Nat
 | []=>0
 | y::l=>y.n.toNat+1000000000*pv l
theorem Im:∀ (a:List bR) (y:bR),pv (a++[y])=pv a+1000000000 ^ a.length*y.n.toNat
 | [],y=>by
  show y.n.toNat+1000000000*0=0+1000000000 ^ 0*y.n.toNat;rw [Xs]; omega
 | x::a,y=>by
  rw [TD,pv,Im a y,pv,RW,Xr];rw [Xg,<- Xh,Xi (1000000000 ^ a.length) 1000000000,Uc]
theorem M3 {l:List bR}{k:Nat}{y:bR} (h:l[k]? = some y):pv (l.drop k)=pv (l.drop (k+1))*1000000000+y.n.toNat:=by
 rw [rM h,pv]; omega
theorem Kd:(⟨#[48,48,48,48,48,48,48,48,48]⟩:RI)=ba (List.replicate 9 48):=rfl
theorem tQ (n:Nat):jV (n:Int)=ba (Lib.decDigits n):=by unfold jV; rw [Lib.itoa_nonneg]; rfl
theorem Jh {n:Nat} (h:0<n):jV (-(n:Int))=ba (45::Lib.decDigits n):=by
 unfold jV Lib.itoa;rw [RU (by omega),show (-(n:Int)).natAbs=n by omega]; rfl
def JK (D:List UInt8):List U8:=D.map λb=>⟨b.toNat⟩
theorem yL (D:List UInt8):fQ (ba D)=JK D:=IQ D
theorem LS (a b:List UInt8):JK a++JK b=JK (a++b):=by unfold JK; rw [Tb]
theorem D6 (D:List UInt8):xV (JK D)=ba D:=Fk D
theorem EW (D:List UInt8):(JK D).length=D.length:=TL _
theorem OR (N:Nat) {Q:List bR} (I:∀ z ∈ Q,0<=z.n/\z.n<1000000000) (hl:Q.length<=N):pv Q<10 ^ (9*N):=by
 have key:∀ (Q:List bR),(∀ z ∈ Q,0<=z.n/\z.n<1000000000)->pv Q<1000000000 ^ Q.length:=by
  intro Q
  induction Q with
  | nil=>intro _; show 0<1000000000 ^ 0; decide
  | cons z Q ih=>
   intro I;have Z:=ih (λx Y=>I x (RV _ Y));have J:=I z (RR ..);rw [pv,RW,Xr,Xi];generalize 1000000000 ^ Q.length=X at *
   omega
 have J:(1000000000:Nat) ^ Q.length<=1000000000 ^ N:=Xn (by decide) hl
 rw [Xp];exact Ur (key Q I) J
theorem NC (n a b:Nat) (J:a<=3*n) (Y:10*n<=32*b):10 ^ a<=WB ^ b:=by
 have e1:(10:Nat) ^ a<=10 ^ (3*n):=Xn (by decide) J
 have e2:((10:Nat) ^ 3) ^ n<=(2 ^ 10) ^ n:=Xm (by decide) n
 have I:(2:Nat) ^ (10*n)<=2 ^ (32*b):=Xn (by decide) Y
 rw [<- Xp,<- Xp] at e2;rw [BK b];exact SK e1 (SK e2 I)
theorem H9 (n a b:Nat) (Y:a<=3*n) (Z:10*n<=32*b) {w:List bR} (hw:Wf w) (ht:wJ w) (hl:b<w.length):¬ nv w<10 ^ a:=by
 have J:w≠[]:=λe=>by rw [e] at hl; simp at hl
 have I:=FX hw ht J;have hp:WB ^ b<=WB ^ (w.length-1):=Xn (by decide) (by omega)
 exact Nat.not_lt.2 (SK (NC n a b Y Z) (SK hp I))
theorem Lv (N K:Nat) {w:List bR} (hw:Wf w) (hl:w.length<=N) (Z:32*N<=K):nv w<2 ^ K:=by
 have J:=tE hw;have I:WB ^ w.length<=WB ^ N:=Xn (by decide) hl
 rw [BK N] at I;have Y:(2:Nat) ^ (32*N)<=2 ^ K:=Xn (by decide) Z
 exact Ur J (SK I Y)
theorem FU {m:Nat} (h:m<=9):(⟨#[48,48,48,48,48,48,48,48,48]⟩:RI).extract m ((⟨#[48,48,48,48,48,48,48,48,48]⟩:RI).size)=ba (List.replicate (9-m) 48):=by
 rw [Kd,dA,sE,R3 (R9 _),List.drop_replicate]
theorem Mz {a:LI}{P:List bR}{V:Nat} (hP:∀ y ∈ P,0<=y.n/\y.n<1000000000) (hV:pv P=V) (hne:P≠[]) (htop:∀ y,P.getLast? = some y->y.n≠0) (hl:P.length<=1000) (ha:a.minus=true->V≠0):
  Gd (fG (λs300 n=>pJ a P s300.1 s300.2 n) eI (i64.wrap ((P.length:Int)-1),([]:List U8)))
   (λr=>r.2=decide ((Lib.decDigits V).length<=2000)/\r.1=jV (if a.minus=true then -(V:Int) else V)/\r.1.size<=10000):=by
 have hpos:0<P.length:=W4.2 hne;have wl:i64.wrap ((P.length:Int)-1)=(P.length:Int)-1:=bG ⟨by omega,by omega⟩
 rw [wl];refine Gd.fG (λ(z:Int×List U8)=>-1<=z.1/\z.1<P.length/\(z.1=(P.length:Int)-1/\z.2=[]\/z.1<(P.length:Int)-1/\0<pv (P.drop (z.1+1).toNat)/\z.2=JK (Lib.decDigits (pv (P.drop (z.1+1).toNat)))/\z.2.length<=9*1000))
  (λz=>(z.1+1).toNat) ?_ eI _ ⟨by simp only; omega,by simp only; omega,.inl ⟨rfl,rfl⟩⟩ (by simp only [eI]; omega)
 rintro ⟨n,l⟩ nx ⟨h1,h2,I⟩ hnx;simp only at h1 h2 I hnx ⊢;unfold pJ;refine Gd.ite (λhn=>?_) (λhn=>?_)
 ·have hn:0<=n:=RT hn
  obtain ⟨k,rfl⟩:∃ k:Nat,n=k:=⟨n.toNat,by omega⟩
  obtain ⟨y,hy⟩:∃ y,P[k]? = some y:=⟨_,RK (by omega)⟩
  have hyw:=hP y (RY hy);obtain ⟨u,hu⟩:∃ u:Nat,y.n=u:=⟨y.n.toNat,by omega⟩
  have hu9:u<10 ^ 9:=by
   have:(10:Nat) ^ 9=1000000000:=rfl;omega
  have hkn:((k:Int)+1).toNat=k+1:=by omega
  have Y:((k:Int)-1+1).toNat=k:=by omega
  refine Gd.ix (by omega) (by rw [RN]; exact hy) ?_
  rw [hu,gM (n:=(u:Int)) (by omega),tQ]
  refine Gd.nd ⟨by omega,by omega⟩ ?_
  rw [wl];have hlen:(Lib.decDigits u).length<=9:=DC (by decide) hu9
  have Z:=M3 hy;have hun:y.n.toNat=u:=by omega
  rw [hun] at Z;have hwk:i64.wrap ((k:Int)-1)=(k:Int)-1:=bG ⟨by omega,by omega⟩
  refine Gd.ite (λJ=>?_) (λJ=>?_)
  ·have J:(k:Int)<(P.length:Int)-1:=RT J
   rcases I with ⟨I,_⟩ | ⟨_,I,h4,h5⟩
   ·omega
   rw [hkn] at I h4;rw [dA,RN,FU hlen,yL];have hsz:(ba (List.replicate (9-(Lib.decDigits u).length) (48:UInt8))).size=9-(Lib.decDigits u).length:=by rw [dA,SZ]
   rw [hsz];refine Gd.nd ⟨by omega,by show ((Lib.decDigits u).length:Int)<=((9:Nat):Int); omega⟩ (Gd.nd (by omega) ?_)
   unfold lH;rw [hu,gM (n:=(u:Int)) (by omega),tQ,hwk,yL,dA]
   rw [R5,EW,SZ];refine Gd.nd (by omega) ?_
   have hfin:l++JK (List.replicate (9-(Lib.decDigits u).length) (48:UInt8))++JK (Lib.decDigits u)=JK (Lib.decDigits (pv (P.drop k))):=by
    have hdp:=Mm (k:=9) (by decide) I hu9
    rw [show (10:Nat) ^ 9=1000000000 from rfl,<- Z] at hdp;rw [h4,Sc,LS,LS,hdp]
    rfl
   rw [hfin];have hdl:=Co (u:=pv (P.drop k)) (k:=(Lib.decDigits (pv (P.drop k))).length) (R9 _);refine hnx _ ⟨by simp only; omega,by simp only; omega,.inr ⟨by simp only; omega,by simp only; rw [Y,Z]; omega,by simp only; rw [Y],?_⟩⟩ (by simp only; omega)
   simp only;rw [EW];have hb:=OR 1000 (λz hz=>hP z (List.mem_of_mem_drop hz)) (show (P.drop k).length<=1000 by rw [Tg]; omega)
   exact DC (k:=9*1000) (by decide) hb
  ·have J:¬ (k:Int)<(P.length:Int)-1:=R2 J
   rcases I with ⟨I,h4⟩ | ⟨I,_⟩
   ·unfold lH
    rw [hu,gM (n:=(u:Int)) (by omega),tQ,hwk,yL,dA,h4]
    refine Gd.nd (by simp only [W3]; omega) ?_
    have hlast:P.drop (k+1)=[]:=WU (by omega)
    rw [hlast] at Z;have Z:pv (P.drop k)=u:=by rw [Z]; show 0*1000000000+u=u; omega
    have hu0:u≠0:=by
     have:=htop y (by rw [WZ,show P.length-1=k by omega]; exact hy)
     omega
    rw [Tn];refine hnx _ ⟨by simp only; omega,by simp only; omega,.inr ⟨by simp only; omega,by simp only; rw [Y,Z]; omega,by simp only; rw [Y,Z],?_⟩⟩ (by simp only; omega)
    simp only;rw [EW]; omega
   ·omega
 ·have hn:¬ 0<=n:=R2 hn
  rcases I with ⟨I,_⟩ | ⟨_,I,h4,h5⟩
  ·omega
  have hz:(n+1).toNat=0:=by omega
  rw [hz,S8,hV] at I h4;subst h4;rw [EW] at h5 ⊢;have hne':(Lib.decDigits V)≠[]:=(lY V).1.ne;have hp:0<(Lib.decDigits V).length:=W4.2 hne';have hsz:((ba (Lib.decDigits V)).size:Int)=((Lib.decDigits V).length:Int):=by rw [dA]
  have hdd:decide (((ba (Lib.decDigits V)).size:Int)<=2000)=decide ((Lib.decDigits V).length<=2000):=by
   rw [hsz]; exact XI.2 (by omega)
  refine Gd.nd hp (Gd.ite (λO=>Gd.nd ?_ ?_) (λO=>?_))
  ·rw [D6,dA,show (⟨#[45]⟩:RI).size=1 from rfl]
   unfold maxLen; omega
  ·unfold lI
   rw [D6];have hx:(⟨#[45]⟩:RI)++ba (Lib.decDigits V)=ba (45::Lib.decDigits V):=by
    rw [show (⟨#[45]⟩:RI)=ba [45] from rfl,Gz]; rfl
   refine Gd.ret ⟨hdd,?_,?_⟩
   ·rw [RU O,Jh (by have:=ha O; omega)]; exact hx
   ·simp only
    rw [hx,dA,RW]; omega
  ·unfold lI
   rw [D6];refine Gd.ret ⟨hdd,?_,?_⟩
   ·rw [RS (by rw [O]; simp),tQ]
   ·simp only
    rw [dA]; omega
theorem Hb (K N:Nat) {p n W:Nat} (h:1000000000 ^ p*n<=W) (hn:1<=n) (hW:W<2 ^ K) (hK:K<=29*N):p<N:=by
 rcases TF p N with I | I
 ·exact I
 ·exfalso
  have J:((2:Nat) ^ 29) ^ N<=(1000000000:Nat) ^ N:=Xm (by decide) N
  have Z:(1000000000:Nat) ^ N<=1000000000 ^ p:=Xn (by decide) I
  have Y:(1000000000:Nat) ^ p*1<=1000000000 ^ p*n:=Xj _ hn;have h4:(2:Nat) ^ K<=2 ^ (29*N):=Xn (by decide) hK
  rw [<- Xp] at J;rw [Ud] at Y;exact absurd hW (Nat.not_lt.2 (SK h4 (SK J (SK Z (SK Y h)))))
theorem Jq {V A B n:Nat} (h:V=A+B*n):V=(A+B*(n%1000000000))+B*1000000000*(n / 1000000000):=by
 rw [Xh,Uc,<- Xg,Xf]; exact h
theorem Ci {a:LI} (h:tL a):Gd (kU a) (λr=>r.2=decide ((Lib.decDigits (nv a.words)).length<=2000)/\(r.2=true->r.1=jV (gB a))/\r.1.size<=10000):=by
 unfold kU;refine Gd.ite (λJ=>?_) (λJ=>?_)
 ·have J:a.words=[]:=Sg (by have:=RT J; omega)
  have O:a.minus=false:=by
   cases O:a.minus with
   | false=>rfl
   | true=>exact absurd J (h.sign O)
  refine Gd.ret ⟨?_,λ_=>?_,by decide⟩
  ·rw [J]
   have hx:(Lib.decDigits (nv [])).length<=2000:=by
    show (Lib.decDigits 0).length<=2000;rw [WO (by omega)]; simp
   rw [XL hx]
  ·unfold gB
   rw [RS (by rw [O]; simp),J]
   show (⟨#[48]⟩:RI)=jV ((0:Nat):Int);rw [tQ,WO (by omega)]; rfl
 ·have J:a.words.length≠0:=by have:=R2 J; omega
  have hne:a.words≠[]:=λe=>J (by rw [e]; rfl)
  refine Gd.ite (λZ=>?_) (λZ=>?_)
  ·have Z:210<a.words.length:=by have:=RT Z; omega
   refine Gd.ret ⟨?_,λhh=>absurd hh (by simp),by decide⟩
   symm
   refine XJ λhle=>?_;exact H9 667 2000 210 (by decide) (by decide) h.wf h.tp Z (Co (k:=2000) hle)
  ·have Z:a.words.length<=210:=by have:=R2 Z; omega
   have hW:=Lv 210 6720 h.wf Z (by decide)
   have hnz:nv a.words≠0:=λe=>hne ((xF h.wf h.tp).1 e);refine Gd.fG (λ(z:List bR×List bR)=>(∀ y ∈ z.1,0<=y.n/\y.n<1000000000)/\Wf z.2/\wJ z.2/\z.2.length<=210/\nv a.words=pv z.1+1000000000 ^ z.1.length*nv z.2/\z.1.length<=300/\(nv z.2=0->z.1≠[]/\∀ y,z.1.getLast? = some y->y.n≠0))
    (λz=>301-z.1.length) ?_ eI _ ⟨by simp,h.wf,h.tp,Z,?_,by simp,λe=>absurd e hnz⟩ (by simp only [eI,W3]; omega)
   ·rintro ⟨P,w⟩ nx ⟨i1,i2,i3,i4,i5,i6,i7⟩ hnx
    simp only at i1 i2 i3 i4 i5 i6 i7 hnx ⊢;unfold rZ;refine Gd.ite (λhw=>?_) (λhw=>?_)
    ·have hw:0<w.length:=by have:=RT hw; omega
     have hwn:w≠[]:=λe=>by rw [e] at hw; simp at hw
     have hwz:nv w≠0:=λe=>hwn ((xF i2 i3).1 e);have hpl:=Hb 6720 300 (p:=P.length) (n:=nv w) (W:=nv a.words) (by rw [i5]; exact Nat.le_add_left _ _) (by omega) hW (by decide)
     refine Gd.eN (F8 i2 (by omega) (d:=1000000000) (by omega)) (λr Y=>?_)
     have hdn:(1000000000:Int).toNat=1000000000:=rfl;rw [hdn] at Y;refine Gd.nd (by simp only [SR]; omega) (Gd.eN (um false r.1 Y.1 (by omega)) (λq hq=>?_))
     have hrn:0<=r.2/\r.2<1000000000/\r.2.toNat=nv w%1000000000:=by
      have:=UF (nv w) (show 1000000000 > 0 by omega)
      rw [Y.2.2.2]; omega
     refine hnx _ ⟨?_,hq.1.wf,hq.1.tp,by simp only; omega,?_,by simp only [R5,SR]; omega,λhz=>⟨by simp,λy I=>?_⟩⟩ (by simp only [R5,SR]; omega)
     ·intro y I
      rcases RZ.1 I with I | I
      ·exact i1 y I
      ·rw [R_] at I; subst I; simp only; omega
     ·simp only
      rw [Im,R5,SR,Xr,hq.2.2.1,Y.2.2.1];simp only;rw [hrn.2.2];exact Jq i5
     ·simp only at hz I
      rw [List.getLast?_append,List.getLast?_singleton] at I;simp only [Option.some_or,Sa] at I;subst I;simp only;rw [hq.2.2.1,Y.2.2.1] at hz;have:nv w / 1000000000=0:=hz;omega
    ·have hw:w=[]:=Sg (by have:=R2 hw; omega)
     subst hw;obtain ⟨j1,j2⟩:=i7 rfl;have hVV:pv P=nv a.words:=by
      rw [i5];show pv P=pv P+1000000000 ^ P.length*0;rw [Xk]; rfl
     refine (Mz (a:=a) i1 hVV j1 j2 (by omega) (λ_=>hnz)).mono (λr Y=>⟨Y.1,λ_=>?_,Y.2.2⟩)
     rw [Y.2.1]; rfl
   ·show nv a.words=0+1000000000 ^ 0*nv a.words
    rw [Xs]; omega
def D7 (q:Rat):List UInt8:=Lib.itoa q.num++(if q.den=1 then [] else 47::Lib.decDigits q.den)
def ctext (q:Rat):RI:=ba (D7 q)
def fits (q:Rat):Prop:=(Lib.decDigits q.num.natAbs).length<=2000/\(Lib.decDigits q.den).length<=2000
instance (q:Rat):Decidable (fits q):=by unfold fits; infer_instance
theorem CD {l:List UInt8} (h:∀ c ∈ l,Dh c):(47:UInt8) ∉ l:=λO=>absurd (h 47 O) (by unfold Dh; decide)
theorem vd (n:Int):Lib.itoa n=if n<0 then 45::Lib.decDigits n.natAbs else Lib.decDigits n.natAbs:=by
 unfold Lib.itoa
 split
 ·rfl
 ·rw [show n.toNat=n.natAbs by omega]
theorem KN (u:Nat):(Lib.decDigits u).head? ≠ some 45:=by
 obtain ⟨h,_⟩:=lY u;cases hl:Lib.decDigits u with
 | nil=>simp
 | cons c r=>
  rw [hl] at h;have:=h.EZ c (RR ..);simp only [W0,ne_eq,Sa];rintro rfl;exact absurd this (by unfold Dh; decide)
theorem HN (q:Rat):(D7 q).head? = some 45↔q.num<0:=by
 unfold D7;rw [vd]
 by_cases h:q.num<0
 ·rw [RU h]; simp [h]
 ·rw [RS h,Cg (lY _).1.ne]
  simp only [h,iff_false];exact KN _
theorem Mi (q:Rat):(if (D7 q).head? = some 45 then (D7 q).tail else D7 q)=Lib.decDigits q.num.natAbs++(if q.den=1 then [] else 47::Lib.decDigits q.den):=by
 by_cases h:q.num<0
 ·rw [RU ((HN q).2 h)]
  unfold D7;rw [vd,RU h]; rfl
 ·rw [RS (λe=>h ((HN q).1 e))]
  unfold D7;rw [vd,RS h]
theorem GV {c:UInt8}{l:List UInt8} (h:c ∉ l):Lib.indexByte l c = -1:=by
 rcases kI c l with ⟨_,I⟩ | ⟨a,b,rfl,_⟩
 ·exact I
 ·exact absurd (by simp) h
theorem FE {c:UInt8}{b:List UInt8}:∀ {a:List UInt8},c ∉ a->Lib.indexByte (a++c::b) c=a.length
 | [],_=>by simp [Lib.indexByte]
 | x::a,h=>by
  have I:(x == c)=false:=by simp only [SA,not_or] at h; simpa using λe=>h.1 e.symm
  have ih:=FE (b:=b) (a:=a) (λO=>h (RV _ O));rw [TD];simp only [Lib.indexByte,I,ih];rw [RS (by simp),RS (by simp)]
  simp only [RW]; omega
theorem B2 {l:List UInt8} (h:(47:UInt8) ∉ l):iH (ba l) (⟨#[47]⟩)=some (ba l,⟨#[]⟩,false):=by
 unfold iH e_;rw [show (⟨#[47]⟩:RI)=ba [47] from rfl,FF,q7,GV h]
 rfl
theorem B3 {a b:List UInt8} (h:(47:UInt8) ∉ a) (hs:a.length+1+b.length<=maxLen):iH (ba (a++47::b)) (⟨#[47]⟩)=some (ba a,ba b,true):=by
 have I:(ba (a++47::b)).size=a.length+1+b.length:=by rw [dA]; simp; omega
 unfold maxLen at hs;unfold iH e_;rw [show (⟨#[47]⟩:RI)=ba [47] from rfl,FF,q7,FE h];simp only [T9];rw [RU (by simp),I,show (ba [47]).size=1 from rfl,bG ⟨by omega,by omega⟩]
 unfold cE;rw [RU ⟨by omega,by omega⟩,RU ⟨by omega,by omega⟩,RN,show ((a.length:Int)+((1:Nat):Int)).toNat=a.length+1 by omega,sE,sE]
 simp only [T9,S8];rw [UT,R3 (by simp; omega),show a++47::b=(a++[47])++b by simp,List.drop_left' (by simp)]
theorem ug (l:List UInt8) (hs:l.length<=maxLen):Gd (qb (ba l)) (λc=>c=0↔Gl l/\l.length<=2000):=by
 unfold qb;refine Gd.nd (by rw [dA]; exact hs) ?_
 rw [yL];refine Gd.seen (λpre _=>∀ y ∈ pre,48<=y.n/\y.n<=57) ?_ ?_ () (λy hy=>by cases hy)
 ·rintro i y _ nx pre ⟨post,hl⟩ hI hnx
  have hy:y ∈ JK l:=by rw [hl]; simp
  obtain ⟨c,hc,rfl⟩:=SC.1 hy;unfold vQ;refine Gd.ite (λhb=>Gd.ret ?_) (λhb=>hnx () (λz hz=>?_))
  ·simp only [Tt,Sy] at hb
   constructor
   ·intro h; simp at h
   ·rintro ⟨h,_⟩
    have:=h.EZ c hc;unfold Dh at this; omega
  ·simp only [WG,XK] at hb
   rcases RZ.1 hz with hz | hz
   ·exact hI z hz
   ·rw [R_] at hz; subst hz; simp only; omega
 ·intro _ hI
  have hd:∀ c ∈ l,Dh c:=λc hc=>by
   have:=hI ⟨c.toNat⟩ (SC.2 ⟨c,hc,rfl⟩);unfold Dh; simp only at this; omega
  refine Gd.ite (λh=>Gd.ret ?_) (λh=>?_)
  ·have h:l=[]:=yo ((RT h).trans rfl)
   constructor
   ·intro h; simp at h
   ·rintro ⟨hn,_⟩; exact absurd h hn.ne
  ·have hne:l≠[]:=λe=>absurd (R2 h) (by rw [e]; simp [ba])
   have Y:(l.head? = some 48->l=[48])->Gd (if decide (2000<((ba l).size:Int))=true then some (2:Int) else some 0) (λc=>c=0↔Gl l/\l.length<=2000):=λZ=>by
    rw [dA];refine Gd.ite (λI=>Gd.ret ?_) (λI=>Gd.ret ?_)
    ·have:=RT I
     constructor
     ·intro h; simp at h
     ·rintro ⟨_,h⟩; omega
    ·have:=R2 I
     exact ⟨λ_=>⟨⟨hd,hne,Z⟩,by omega⟩,λ_=>rfl⟩
   refine Gd.ite (λJ=>?_) (λJ=>Y (λhh=>?_))
   ·rw [dA] at J
    have J:=RT J;cases l with
    | nil=>exact absurd rfl hne
    | cons c r=>
     refine Gd.ix (y:=⟨c.toNat⟩) (by omega) rfl (Gd.ite (λI=>Gd.ret ?_) (λI=>Y (λhh=>?_)))
     ·have I:=RT I
      simp only at I;constructor
      ·intro h; simp at h
      ·rintro ⟨hn,_⟩
       have hc:c=48:=UInt8.toNat_inj.1 (by show c.toNat=48; omega)
       have:=hn.lead (by rw [hc]; rfl)
       rw [this] at J; simp at J
     ·have I:=R2 I
      simp only [W0,Sa] at hh;subst hh;exact absurd rfl I
   ·rw [dA] at J
    have J:=R2 J;cases l with
    | nil=>exact absurd rfl hne
    | cons c r=>
     have:r=[]:=Sg (by simp only [RW] at J; omega)
     subst this;simp only [W0,Sa] at hh;rw [hh]
theorem CP {n:List UInt8} (hn:Gl n) (l1:n.length<=2000):Gd (lz (ba n)) (λa=>tL a/\a.words.length<=10000/\gB a=dv n):=by
 have:=Iq hn.EZ l1 false;simpa using this
theorem MP {n d:List UInt8} (hn:Gl n) (Y:Gl d) (l1:n.length<=2000) (l2:d.length<=2000):
  Gd (xc (ba n) (ba d)) (λr=>r.2.2=0/\(tL r.1/\r.1.words.length<=10000/\gB r.1=dv n)/\(tL r.2.1/\r.2.1.words.length<=10000/\gB r.2.1=dv d)):=by
 unfold xc;have Px:∀ {l:List UInt8},Gl l->l.length<=2000->Gd (qb (ba l)) (λc=>c=0):=λh hl=>(ug _ (by unfold maxLen; omega)).mono (λc I=>I.2 ⟨h,hl⟩)
 refine Gd.kz (λm i _=>m+i=2) (λm i _ nx hI J=>?_) (λi _ _=>?_) _ 0 () rfl
 ·unfold xz
  have hi:i=0\/i=1:=by omega
  have hy:∃ l:List UInt8,([ba n,ba d]:List RI)[i]? = some (ba l)/\Gl l/\l.length<=2000:=by
   rcases hi with rfl | rfl
   ·exact ⟨n,rfl,hn,l1⟩
   ·exact ⟨d,rfl,Y,l2⟩
  obtain ⟨l,hl,Z,h2⟩:=hy;refine Gd.ix (by omega) (by rw [RN]; exact hl) (Gd.eN (Px Z h2) (λc I=>?_))
  subst I;exact J () (by omega)
 ·exact Gd.eN (CP hn l1) (λa ha=>Gd.eN (CP Y l2) (λb hb=>Gd.ret ⟨rfl,ha,hb⟩))
theorem wu:Lib.decDigits 1=[49]:=WO (by omega)
theorem zS:Lib.decDigits 0=[48]:=WO (by omega)
theorem zR {a b:Nat} (h:Lib.decDigits a=Lib.decDigits b):a=b:=by
 have I:=(lY a).2;rw [h,(lY b).2] at I; exact I.symm
theorem Ib {n d:List UInt8} (hn:Gl n) (hd:Gl d) (l1:n.length<=2000) (l2:d.length<=2000):
  Gd (xb (ba n) (ba d)) (λr=>r.1=(⟨#[49]⟩:RI)↔Nat.gcd (dv n) (dv d)=1):=by
 unfold xb;refine Gd.eN (MP hn hd l1 l2) (λr hr=>?_);obtain ⟨h0,Z,h2⟩:=hr;rw [h0];refine Gd.eN (KK Z.1 h2.1 (L:=10000) (by omega) Z.2.1 h2.2.1) (λg Y=>?_)
 have e1:nv r.1.words=dv n:=by rw [<- kQ,Z.2.2]; rfl
 have e2:nv r.2.1.words=dv d:=by rw [<- kQ,h2.2.2]; rfl
 rw [e1,e2] at Y;unfold xy;have hb:Gd ((kU g).bind λI=>if (!I.2)=true then some ((⟨#[]⟩:RI),(2:Int)) else some (I.1,0)) (λt=>t.1=(⟨#[49]⟩:RI)↔Nat.gcd (dv n) (dv d)=1):=by
  refine Gd.eN (Ci Y.1) (λt ht=>Gd.ite (λJ=>Gd.ret ?_) (λJ=>Gd.ret ?_))
  ·have J:t.2=false:=by simpa using J
   rw [J,Y.2.2.2] at ht;constructor
   ·intro h; exact absurd h (by decide)
   ·intro h
    have:=ht.1;rw [h,wu] at this; simp at this
  ·have J:t.2=true:=by simpa using J
   have e3:=ht.2.1 J;simp only;rw [e3,qQ Y.2.1,tQ,Y.2.2.2,show (⟨#[49]⟩:RI)=ba [49] from rfl];constructor
   ·intro h
    exact zR ((yo h).trans wu.symm)
   ·intro h; rw [h,wu]
 exact Gd.eN hb (λt ht=>Gd.ret ht)
theorem Hf {q:Rat} (h:fits q):qc (ctext q)=some 0:=by
 refine Gd.eq.1 ?_;have Z:=(lY q.num.natAbs).1;have hE:=(lY q.den).1;unfold qc ctext;refine Gd.bind_eq (zI _) ?_;rw [Mi];have hz:q.num<0->Lib.decDigits q.num.natAbs≠[48]:=λhn e=>by
  rw [<- zS] at e;have:=zR e; omega
 by_cases hd:q.den=1
 ·rw [RU hd,Ss]
  refine Gd.bind_eq (B2 (CD Z.EZ)) ?_;refine Gd.eN (ug _ (by have:=h.1; unfold maxLen; omega)) (λc hc=>?_)
  have J:=hc.2 ⟨Z,h.1⟩;subst J;refine Gd.ite (λI=>by simp at I) (λ_=>?_)
  unfold mD;refine Gd.ite (λI=>?_) (λ_=>Gd.ret rfl);exfalso;simp only [show decide ((0:Int)=5)=false from rfl,Bool.or_self,V5,Tp,Sy] at I;have h1:Lib.decDigits q.num.natAbs=[48]:=yo (I.1.trans rfl);have Y:=I.2;rw [dA,dA] at Y;unfold D7 at Y;rw [RU hd,Ss,vd] at Y
  split at Y
  ·rename_i hn; exact hz hn h1
  ·omega
 ·rw [RS hd]
  refine Gd.bind_eq (B3 (CD Z.EZ) (by have:=h.1; have:=h.2; unfold maxLen; omega)) ?_
  refine Gd.eN (ug _ (by have:=h.1; unfold maxLen; omega)) (λc hc=>?_)
  have J:=hc.2 ⟨Z,h.1⟩;subst J;refine Gd.ite (λ_=>?_) (λI=>by simp at I)
  refine Gd.eN (ug _ (by have:=h.2; unfold maxLen; omega)) (λc hc=>?_)
  have J:=hc.2 ⟨hE,h.2⟩;subst J;unfold mD;refine Gd.ite (λI=>?_) (λ_=>Gd.ite (λI=>by simp at I) (λ_=>Gd.ite (λ_=>?_) (λI=>by simp at I)))
  ·exfalso
   simp only [show decide ((0:Int)=5)=false from rfl,Bool.or_self,V5,Tp,Sy] at I;have h1:Lib.decDigits q.num.natAbs=[48]:=yo (I.1.trans rfl);have Y:=I.2;rw [dA,dA] at Y;unfold D7 at Y;rw [RS hd,vd] at Y
   split at Y
   ·rename_i hn; exact hz hn h1
   ·omega
  ·refine Gd.eN (Ib Z hE h.1 h.2) (λr hr=>?_)
   rw [(lY q.num.natAbs).2,(lY q.den).2] at hr;have hr1:=hr.2 q.reduced;refine Gd.ite (λI=>?_) (λ_=>Gd.ret rfl);exfalso;simp only [hr1,decide_true,Bool.not_true,Bool.or_false,Tt,Sy] at I;rcases I with I | I
   ·have:=zR ((yo (I.trans rfl):Lib.decDigits q.den=[48]).trans zS.symm)
    exact q.den_nz this
   ·have:=zR ((yo (I.trans rfl):Lib.decDigits q.den=[49]).trans wu.symm)
    exact hd this
theorem N1 {neg:Bool}{n:List UInt8}{m:Int} (hn:Gl n) (I:¬ (n=[48]/\neg=true)) (O:m=if neg=true then -(dv n:Int) else dv n):
  Lib.itoa m=(if neg=true then 45::n else n)/\m.natAbs=dv n:=by
 have Y:dv n=0->n=[48]:=λh=>by
  have e:=xu hn;rw [h,zS] at e; exact e.symm
 rw [vd];cases neg with
 | false=>
  simp only [Tr,T5] at O ⊢;rw [RS (by omega),show m.natAbs=dv n by omega]
  exact ⟨xu hn,rfl⟩
 | true=>
  simp only [Vz] at O ⊢;have J:dv n≠0:=λh=>I ⟨Y h,rfl⟩;rw [RU (by omega),show m.natAbs=dv n by omega]
  exact ⟨by rw [xu hn],rfl⟩
theorem Jr (s:RI) (hs:s.size<=maxLen):Gd (qc s) (λc=>c=0↔∃ q,fits q/\s=ctext q):=by
 have Z:Gd (qc s) (λc=>c=0->∃ q,fits q/\s=ctext q):=by
  obtain ⟨l,rfl⟩:∃ l,s=ba l:=⟨bl s,(HL s).symm⟩;rw [dA] at hs;unfold qc;refine Gd.bind_eq (zI l) ?_;obtain ⟨neg,I⟩:∃ neg:Bool,neg=decide (l.head? = some 45):=⟨_,rfl⟩;generalize ht:(if l.head? = some 45 then l.tail else l)=t
  have hl:l=if neg=true then 45::t else t:=by
   by_cases h:l.head? = some 45
   ·rw [RU h] at ht
    rw [I,XL h,RU rfl,<- ht];cases l with
    | nil=>cases h
    | cons c r=>simp only [W0,Sa] at h; rw [h]; rfl
   ·rw [RS h] at ht
    rw [I,XJ h,RS (by simp)]; exact ht
  have htl:t.length<=l.length:=by
   rw [hl]; split
   ·simp
   ·omega
  have hsz:neg=true->(ba t).size<(ba l).size:=λh=>by
   rw [dA,dA,hl,RU h]; simp
  by_cases hsl:(47:UInt8) ∈ t
  ·obtain ⟨a,b,e,ha,_⟩:∃ a b,t=a++47::b/\(47:UInt8) ∉ a/\True:=by
    rcases kI 47 t with ⟨h1,_⟩ | ⟨a,b,e,h2,_⟩
    ·exact absurd hsl h1
    ·exact ⟨a,b,e,h2,RM⟩
   have hab:a.length+1+b.length=t.length:=by rw [e]; simp; omega
   rw [e];refine Gd.bind_eq (B3 ha (by omega)) ?_
   refine Gd.eN (ug a (by omega)) (λc1 J=>Gd.ite (λ_=>?_) (λY=>by simp at Y))
   refine Gd.eN (ug b (by omega)) (λc2 hc2=>?_)
   unfold mD;refine Gd.ite (λ_=>Gd.ret (λh=>by simp at h)) (λhA=>Gd.ite (λ_=>Gd.ret (λh=>by simp at h)) (λhB=>Gd.ite (λ_=>?_) (λY=>by simp at Y)))
   simp only [WG,WE,Sy] at hB;obtain ⟨n1,n2⟩:=J.1 hB.1;obtain ⟨d1,d2⟩:=hc2.1 hB.2;have h0:¬ (a=[48]/\neg=true):=by
    rintro ⟨ea,en⟩;simp only [WG,Bool.and_eq_false_iff,XK] at hA;rcases hA.2 with h | h
    ·exact h (by rw [ea]; rfl)
    ·have:=hsz en; rw [e] at this; omega
   refine Gd.eN (Ib n1 d1 n2 d2) (λr hr=>Gd.ite (λ_=>Gd.ret (λh=>by simp at h)) (λhC=>Gd.ret (λ_=>?_)))
   simp only [WG,WE,Sy,XK] at hC;have hg:=hr.1 hC.2;have hnz:dv b≠0:=λh=>hC.1.1 (by
    have:=xu d1;rw [h,zS] at this; rw [<- this]; rfl)
   have hn1:dv b≠1:=λh=>hC.1.2 (by
    have:=xu d1;rw [h,wu] at this; rw [<- this]; rfl)
   obtain ⟨e1,e2⟩:=N1 (neg:=neg) n1 h0 rfl;refine ⟨Rat.mk' (if neg=true then -(dv a:Int) else dv a) (dv b) hnz (by rw [e2]; exact hg),⟨?_,?_⟩,?_⟩
   ·simp only; rw [e2,xu n1]; exact n2
   ·simp only; rw [xu d1]; exact d2
   ·unfold ctext D7
    simp only;rw [e1,RS hn1,xu d1,hl,e]
    split <;> rfl
  ·refine Gd.bind_eq (B2 hsl) ?_
   refine Gd.eN (ug t (by omega)) (λc1 J=>Gd.ite (λY=>by simp at Y) (λ_=>?_))
   unfold mD;refine Gd.ite (λ_=>Gd.ret (λh=>by simp at h)) (λhA=>Gd.ite (λ_=>Gd.ret (λh=>by simp at h)) (λhB=>Gd.ite (λY=>by simp at Y) (λ_=>Gd.ret (λ_=>?_))))
   simp only [WG,WE,Sy] at hB;obtain ⟨n1,n2⟩:=J.1 hB.1;have h0:¬ (t=[48]/\neg=true):=by
    rintro ⟨ea,en⟩;simp only [WG,Bool.and_eq_false_iff,XK] at hA;rcases hA.2 with h | h
    ·exact h (by rw [ea]; rfl)
    ·have:=hsz en; omega
   obtain ⟨e1,e2⟩:=N1 (neg:=neg) n1 h0 rfl;refine ⟨Rat.mk' (if neg=true then -(dv t:Int) else dv t) 1 (by decide) (by rw [e2]; exact Nat.coprime_one_right _),⟨?_,?_⟩,?_⟩
   ·simp only; rw [e2,xu n1]; exact n2
   ·simp only; rw [wu]; decide
   ·unfold ctext D7
    simp only;rw [e1,RU RM,Ss,<- hl]
 obtain ⟨c,e,h⟩:=Z;refine ⟨c,e,h,?_⟩;rintro ⟨q,hq,rfl⟩;rw [Hf hq] at e;exact (RQ e).symm
theorem HP {u k:Nat}{l:List bR} (J:Wf l) (ht:wJ l) (I:(Lib.decDigits (nv l)).length<=2000):l.length<=300:=by
 rcases TF 300 l.length with h | h
 ·exact absurd (Co (k:=2000) I) (H9 667 2000 300 (by decide) (by decide) J ht h)
 ·exact h
theorem pE.small {a:LR} (h:pE a) (Y:fits (rv a)):RL a 300:=by
 obtain ⟨I,J⟩:=Y;rw [h.num,kQ] at I;rw [h.den] at J;exact ⟨HP (u:=0) (k:=0) h.n.wf h.n.tp I,HP (u:=0) (k:=0) h.d.wf h.d.tp J⟩
theorem Lu {a:LR} (h:pE a):Gd (pQ a) (λr=>(r.2=true↔fits (rv a))/\(r.2=true->r.1=ctext (rv a))):=by
 have e1:(rv a).num.natAbs=nv a.N.words:=by rw [h.num,kQ]
 have e2:(rv a).den=nv a.D.words:=h.den;unfold pQ;refine Gd.eN (Ci h.n) (λt ht=>Gd.ite (λY=>Gd.ret ?_) (λY=>?_))
 ·have Y:t.2=false:=by simpa using Y
  refine ⟨⟨λJ=>by simp at J,λJ=>?_⟩,λJ=>by simp at J⟩
  have I:=ht.1;rw [Y] at I;have:=J.1;rw [e1] at this;exact absurd this (R2 I.symm)
 ·have Y:t.2=true:=by simpa using Y
  have hN:=ht.1;rw [Y] at hN;have hN:=RT hN.symm;have hNt:=ht.2.1 Y;refine Gd.eN (Ci h.d) (λu hu=>?_);have hval:gB a.D=((nv a.D.words:Nat):Int):=qQ h.pos;have Z:(u.2=true↔fits (rv a)):=by
   unfold fits;rw [e1,e2,hu.1,Sy];exact ⟨λx=>⟨hN,x⟩,λx=>x.2⟩
  have hut:u.2=true->u.1=ba (Lib.decDigits (rv a).den):=λx=>by rw [hu.2.1 x,hval,tQ,e2]
  have hnt:t.1=ba (Lib.itoa (rv a).num):=by rw [hNt,h.num]; rfl
  refine Gd.ite (λI=>Gd.ret ⟨Z,λJ=>?_⟩) (λI=>Gd.nd ?_ (Gd.nd ?_ (Gd.ret ⟨Z,λJ=>?_⟩)))
  ·have I:u.1=(⟨#[49]⟩:RI):=RT I
   have:=hut J;rw [I] at this;have hd:(rv a).den=1:=zR ((yo (show ba [49]=_ from this)).symm.trans wu.symm);unfold ctext D7;rw [RU hd,Ss]; exact hnt
  ·have:=ht.2.2
   show t.1.size+1<=maxLen;unfold maxLen; omega
  ·have:=ht.2.2
   have:=hu.2.2;rw [rJ];show t.1.size+1+u.1.size<=maxLen;unfold maxLen; omega
  ·have I:u.1≠(⟨#[49]⟩:RI):=R2 I
   have h2:=hut J;have hd:(rv a).den≠1:=λe=>I (by rw [h2,e,wu]; rfl)
   unfold ctext D7;rw [RS hd];simp only;rw [hnt,h2,show (⟨#[47]⟩:RI)=ba [47] from rfl,Gz,Gz,Sc]; rfl
theorem M4 {p q:Rat} (I:p.num=q.num) (J:p.den=q.den):p=q:=Rat.ext I J
theorem AR {n:Int} (h:(Lib.decDigits n.natAbs).length<=2000):Gd (lz (ba (Lib.itoa n))) (λa=>tL a/\a.words.length<=10000/\gB a=n):=by
 have J:=lY n.natAbs;have:=Iq J.1.EZ h (decide (n<0));rw [vd];simp only [Sy] at this;refine this.mono (λa I=>⟨I.1,I.2.1,?_⟩);rw [I.2.2,J.2]
 split <;> omega
theorem Cj (n:Int):(47:UInt8) ∉ Lib.itoa n:=by
 rw [vd];have:=CD (lY n.natAbs).1.EZ
 split
 ·simp only [SA,not_or]; exact ⟨by decide,this⟩
 ·exact this
theorem HY {n:Int} (h:(Lib.decDigits n.natAbs).length<=2000):(Lib.itoa n).length<=2001:=by
 rw [vd]
 split
 ·simp only [RW]; omega
 ·omega
theorem Mq {q:Rat}{k:Nat} (hn:q.num.natAbs<10 ^ k) (Y:q.den<10 ^ k) (J:1<=k) (I:k<=2000):fits q:=
 ⟨SK (DC J hn) I,SK (DC J Y) I⟩
theorem GI {q:Rat} (h:fits q):(ctext q).size<=10000:=by
 unfold ctext D7;rw [dA,R5];have:=HY h.1;have:=h.2
 split
 ·simp; omega
 ·simp only [RW]; omega
theorem Fm {l:List RI} (hs:∀ s ∈ l,s.size<=maxLen):Gd (rH l) (λc=>c=0↔∀ s ∈ l,∃ q,fits q/\s=ctext q):=by
 unfold rH;refine Gd.seen (λpre _=>∀ s ∈ pre,∃ q,fits q/\s=ctext q) ?_ (λ_ J=>Gd.ret ⟨λ_=>J,λ_=>rfl⟩) () (λs hs=>by cases hs)
 rintro i y _ nx pre ⟨post,hl⟩ J Y;have hy:y ∈ l:=by rw [hl]; simp
 unfold tn;refine Gd.eN (Jr y (hs y hy)) (λc Z=>Gd.ite (λh=>Gd.ret ?_) (λh=>Y () (λz I=>?_)))
 ·have h:c≠0:=by simpa using h
  exact ⟨λe=>absurd e h,λe=>absurd (Z.2 (e y hy)) h⟩
 ·have h:c=0:=by simpa using h
  rcases RZ.1 I with I | I
  ·exact J z I
  ·rw [R_] at I; subst I; exact Z.1 h
def RB (q:Rat) (L:Nat):Prop:=∃ r:LR,pE r/\RL r L/\rv r=q
theorem pE.rb {r:LR} (h:pE r) {L:Nat} (Z:RB (rv r) L):RL r L:=by
 obtain ⟨s,I,J,Y⟩:=Z;rw [h.ext' I Y.symm]; exact J
theorem RB.mono {q:Rat}{L M:Nat} (h:RB q L) (Z:L<=M):RB q M:=by
 obtain ⟨s,I,J,Y⟩:=h;exact ⟨s,I,J.mono Z,Y⟩
theorem RB.add {p q:Rat}{A B:Nat} (h:RB p A) (k:RB q B) (Z:A+B<=800000):RB (p+q) (A+B+1):=by
 obtain ⟨a,I,J,Y⟩:=h; obtain ⟨b,k1,k2,k3⟩:=k
 obtain ⟨r,_,r1,r2,r3⟩:=xK I k1 J k2 Z;exact ⟨r,r1,r2,by rw [r3,Y,k3]⟩
theorem RB.sub {p q:Rat}{A B:Nat} (h:RB p A) (k:RB q B) (Z:A+B<=800000):RB (p-q) (A+B+1):=by
 obtain ⟨a,I,J,Y⟩:=h; obtain ⟨b,k1,k2,k3⟩:=k
 obtain ⟨r,_,r1,r2,r3⟩:=yQ I k1 J k2 Z;exact ⟨r,r1,r2,by rw [r3,Y,k3]⟩
theorem RB.mul {p q:Rat}{A B:Nat} (h:RB p A) (k:RB q B) (Z:A+B<=800000):RB (p*q) (A+B):=by
 obtain ⟨a,I,J,Y⟩:=h; obtain ⟨b,k1,k2,k3⟩:=k
 obtain ⟨r,_,r1,r2,r3⟩:=Am I k1 J k2 Z;exact ⟨r,r1,r2,by rw [r3,Y,k3]⟩
theorem OK {w:List bR} (Z:Wf w) (ht:wJ w) {k:Nat} (h:nv w<WB ^ k):w.length<=k:=by
 rcases TF k w.length with hl | hl
 ·exfalso
  have I:w≠[]:=λe=>by rw [e] at hl; simp at hl
  have J:=FX Z ht I;have Y:WB ^ k<=WB ^ (w.length-1):=Xn (by decide) (by omega)
  exact absurd h (Nat.not_lt.2 (SK Y J))
 ·exact hl
theorem JG (k m:Nat) (h:32*k<=3*m):WB ^ k<=10 ^ m:=by
 have J:(2:Nat) ^ (32*k)<=2 ^ (3*m):=Xn (by decide) h
 have I:((2:Nat) ^ 3) ^ m<=10 ^ m:=Xm (by decide) m
 rw [<- Xp] at I;rw [BK k];exact SK J I
theorem LV {k:Nat} (I:k<=187):WB ^ k<=10 ^ 2000:=JG k 2000 (by omega)
theorem RB.fits {q:Rat}{L:Nat} (h:RB q L) (hL:L<=187):fits q:=by
 obtain ⟨r,I,J,rfl⟩:=h;have e:=LV hL;have key:∀ {w:List bR},Wf w->w.length<=L->nv w<10 ^ 2000:=λY hl=>
  Ur (tE Y) (SK (Xn (by decide) hl) e)
 refine Mq (k:=2000) ?_ ?_ (by decide) (R9 _)
 ·rw [I.num,kQ]; exact key I.n.wf J.1
 ·rw [I.den]; exact key I.d.wf J.2
theorem N6 {m:Int}{k:Nat} (h:m.natAbs<WB ^ k) (Y:k<=187):∃ a:LI,tL a/\a.words.length<=k/\gB a=m:=by
 obtain ⟨a,_,I,Z,J⟩:=AR (n:=m) (DC (by decide) (Ur h (LV Y)))
 exact ⟨a,I,OK I.wf I.tp (by rw [<- kQ,J]; exact h),J⟩
theorem RB.ratio {m d:Int}{k:Nat} (h:m.natAbs<WB ^ k) (Z:d.natAbs<WB ^ k) (h0:d≠0) (J:k<=187):RB ((m:Rat) / (d:Rat)) k:=by
 obtain ⟨a,a1,a2,Y⟩:=N6 h J;obtain ⟨b,b1,b2,I⟩:=N6 Z J;obtain ⟨r,_,r1,r2,r3,r4⟩:=yD a1 b1 (by rw [<- kQ,I]; omega) (by omega) (by omega)
 exact ⟨r,r1,⟨by omega,by omega⟩,by rw [r4,Y,I,Rat.divInt_eq_div]⟩
theorem RB.int {m:Int}{k:Nat} (h:m.natAbs<WB ^ k) (I:1<=k) (J:k<=187):RB (m:Rat) k:=by
 have:=RB.ratio (m:=m) (d:=1) h (by
  have:WB ^ 1<=WB ^ k:=Xn (by decide) I
  have:WB ^ 1=4294967296:=by decide
  show 1<WB ^ k;omega) (by decide) J
 have e:(m:Rat) / ((1:Int):Rat)=(m:Rat):=by rw [Rat.intCast_one]; grind
 rwa [e] at this
theorem RB.small {m:Int} (h:m.natAbs<4294967296):RB (m:Rat) 1:=RB.int (k:=1) (by show m.natAbs<4294967296 ^ 1; omega) (by decide) (by decide)
theorem RB.Qv {m d:Int} (h:m.natAbs<4294967296) (J:d.natAbs<4294967296) (I:d≠0):RB ((m:Rat) / (d:Rat)) 1:=
 RB.ratio (k:=1) (by show m.natAbs<4294967296 ^ 1; omega) (by show d.natAbs<4294967296 ^ 1; omega) I (by decide)
theorem F0 {q:Rat} (h:fits q):Gd (qW (ctext q)) (λa=>pE a/\RL a 300/\rv a=q):=by
 have Y:∀ a:LR,tL a.N->tL a.D->gB a.N=q.num->gB a.D=(q.den:Int)->pE a/\RL a 300/\rv a=q:=λa h1 h2 h3 h4=>by
  have hp:a.D.minus=false:=h2.plus (by omega)
  have J:nv a.D.words=q.den:=by
   have:=qQ hp;omega
  have I:pE a:=⟨h1,h2,hp,by rw [J]; exact q.den_nz,by rw [J,<- kQ,h3]; exact q.reduced⟩
  have hv:rv a=q:=M4 (by rw [I.num,h3]) (by rw [I.den,J])
  exact ⟨I,I.small (by rw [hv]; exact h),hv⟩
 have hl:=HY h.1;unfold qW ctext D7
 by_cases J:q.den=1
 ·rw [RU J,Ss]
  refine Gd.bind_eq (B2 (Cj _)) (Gd.ite (λ_=>?_) (λhx=>by simp at hx))
  refine Gd.eN (AR h.1) (λa Z=>Gd.eN (CH (n:=1) (by omega)) (λb hb=>Gd.ret ?_))
  exact Y _ Z.1 hb.1 Z.2.2 (by rw [hb.2.2,J]; rfl)
 ·rw [RS J]
  refine Gd.bind_eq (B3 (Cj _) (by have:=h.2; unfold maxLen; omega)) (Gd.ite (λhx=>by simp at hx) (λ_=>?_))
  refine Gd.eN (AR h.1) (λa Z=>Gd.eN (CP (lY q.den).1 h.2) (λb hb=>Gd.ret ?_));exact Y _ Z.1 hb.1 Z.2.2 (by rw [hb.2.2,(lY q.den).2])
end Go.Sim
namespace Go.Sim
open _root_.Go.IntKind (i64 u64 u32 u8)
def sm:Nat->(Nat->Rat)->Rat
 | 0,_=>0
 | n+1,f=>sm n f+f n
def pr:Nat->(Nat->Rat)->Rat
 | 0,_=>1
 | n+1,f=>pr n f*f n
theorem pB {f g:Nat->Rat}:∀ {n:Nat},(∀ i,i<n->f i=g i)->sm n f=sm n g
 | 0,_=>rfl
 | n+1,h=>by
  unfold sm;rw [pB (λi hi=>h i (by omega)),h n (by omega)]
theorem xj {f g:Nat->Rat}:∀ {n:Nat},(∀ i,i<n->f i=g i)->pr n f=pr n g
 | 0,_=>rfl
 | n+1,h=>by
  unfold pr;rw [xj (λi hi=>h i (by omega)),h n (by omega)]
theorem wI {f:Nat->Rat}:∀ {n:Nat},(∀ i,i<n->f i=0)->sm n f=0
 | 0,_=>rfl
 | n+1,h=>by
  unfold sm;rw [wI (λi hi=>h i (by omega)),h n (by omega)]; grind
theorem xN (f g:Nat->Rat):∀ n:Nat,sm n (λi=>f i+g i)=sm n f+sm n g
 | 0=>by unfold sm; grind
 | n+1=>by unfold sm; rw [xN f g n]; grind
theorem si (a:Rat) (f:Nat->Rat):∀ n:Nat,sm n (λi=>a*f i)=a*sm n f
 | 0=>by unfold sm; grind
 | n+1=>by unfold sm; rw [si a f n]; grind
theorem CW {f:Nat->Rat}{p:Nat}:∀ {n:Nat},p<n->(∀ i,i<n->i≠p->f i=0)->sm n f=f p
 | 0,h,_=>by omega
 | n+1,h,hz=>by
  unfold sm
  by_cases e:p=n
  ·subst e
   rw [wI (λi hi=>hz i (by omega) (by omega))]; grind
  ·rw [CW (by omega) (λi hi I=>hz i (by omega) I),hz n (by omega) (λh=>e h.symm)]; grind
theorem Lz {f:Nat->Rat}{p:Nat}:∀ {n:Nat},p+1<n->(∀ i,i<n->i≠p->i≠p+1->f i=0)->sm n f=f p+f (p+1)
 | 0,h,_=>by omega
 | n+1,h,hz=>by
  unfold sm
  by_cases e:p+1=n
  ·subst e
   rw [CW (p:=p) (by omega) (λi hi I=>hz i (by omega) I (by omega))]
  ·rw [Lz (by omega) (λi hi J Y=>hz i (by omega) J Y),hz n (by omega) (by omega) (λh=>e h.symm)]; grind
theorem uh {f:Nat->Rat}:∀ {n:Nat},(∀ i,i<n->0<=f i)->0<=sm n f
 | 0,_=>XB
 | n+1,h=>by
  unfold sm;have I:=uh (n:=n) (λi hi=>h i (by omega))
  have J:=h n (by omega)
  grind
theorem Ly {f g:Nat->Rat}:∀ {n:Nat},(∀ i,i<n->f i<=g i)->sm n f<=sm n g
 | 0,_=>XB
 | n+1,h=>by
  unfold sm;have I:=Ly (n:=n) (λi hi=>h i (by omega))
  have J:=h n (by omega)
  grind
theorem mU {f:Nat->Rat}:∀ {n:Nat},(∀ i,i<n->0<=f i)->0<=pr n f
 | 0,_=>by unfold pr; decide
 | n+1,h=>by
  unfold pr;exact XF (mU (n:=n) (λi hi=>h i (by omega))) (h n (by omega))
theorem q6 {a b c d:Rat} (J:a<=b) (Y:c<=d) (a0:0<=a) (I:0<=c):a*c<=b*d:=by
 have Z:a*c<=b*c:=Rat.mul_le_mul_of_nonneg_right J I;have x2:b*c<=b*d:=Rat.mul_le_mul_of_nonneg_left Y (by grind)
 exact XC Z x2
theorem Ij {f g:Nat->Rat}:∀ {n:Nat},(∀ i,i<n->0<=f i)->(∀ i,i<n->f i<=g i)->pr n f<=pr n g
 | 0,_,_=>XB
 | n+1,h0,h=>by
  unfold pr;exact q6 (Ij (λi hi=>h0 i (by omega)) (λi hi=>h i (by omega))) (h n (by omega)) (mU (λi hi=>h0 i (by omega))) (h0 n (by omega))
theorem EL (f g:Nat->Rat):∀ n:Nat,pr n (λi=>f i*g i)=pr n f*pr n g
 | 0=>by unfold pr; grind
 | n+1=>by unfold pr; rw [EL f g n]; grind
abbrev Mt:=Nat->Nat->Rat
def skip (p i:Nat):Nat:=if i<p then i else i+1
def minor (M:Mt) (p:Nat):Mt:=λr c=>M (skip p r) (c+1)
def sg (i:Nat):Rat:=if i%2=0 then 1 else -1
def rq:Nat->Mt->Rat
 | 0,_=>1
 | n+1,M=>sm (n+1) (λi=>sg i*M i 0*rq n (minor M i))
def row (M:Mt) (p:Nat) (x:Nat->Rat):Mt:=λr=>if r=p then x else M r
theorem yM:∀ {n:Nat}{M M':Mt},(∀ r c,r<n->c<n->M r c=M' r c)->rq n M=rq n M'
 | 0,_,_,_=>rfl
 | n+1,M,M',h=>by
  unfold rq;refine pB (λi hi=>?_);rw [h i 0 hi (by omega),yM (λr c J I=>?_)]
  unfold minor;exact h _ _ (by unfold skip; split <;> omega) (by omega)
theorem vV (M:Mt) (p:Nat) (x:Nat->Rat):minor (row M p x) p=minor M p:=by
 funext r c
 unfold minor row;rw [RS (by unfold skip; split <;> omega)]
theorem xE (M:Mt) {p i:Nat} (h:p<i) (x:Nat->Rat):minor (row M p x) i=row (minor M i) p (λc=>x (c+1)):=by
 funext r c
 unfold minor row
 by_cases e:r=p
 ·subst e
  rw [RU (by unfold skip; rw [RU h]),RU rfl]
 ·rw [RS (by unfold skip; split <;> omega),RS e]
theorem xD (M:Mt) {p i:Nat} (h:i<p) (x:Nat->Rat):minor (row M p x) i=row (minor M i) (p-1) (λc=>x (c+1)):=by
 funext r c
 unfold minor row
 by_cases e:r=p-1
 ·subst e
  rw [RU (by unfold skip; split <;> omega),RU rfl]
 ·rw [RS (by unfold skip; split <;> omega),RS e]
theorem zT:∀ {n:Nat} (M:Mt) {p:Nat} (I:p<n) (a b:Rat) (x y:Nat->Rat),rq n (row M p (λc=>a*x c+b*y c))=a*rq n (row M p x)+b*rq n (row M p y)
 | 0,_,_,h,_,_,_,_=>by omega
 | n+1,M,p,I,a,b,x,y=>by
  unfold rq;rw [<- si,<- si,<- xN];refine pB (λi hi=>?_);rcases UO i p with h | h | h
  ·rw [xD M h,xD M h,xD M h,zT (minor M i) (by omega) a b (λc=>x (c+1)) (λc=>y (c+1))]
   unfold row;rw [RS (by omega),RS (by omega),RS (by omega)]
   grind
  ·subst h
   rw [vV,vV,vV];unfold row;rw [RU rfl,RU rfl,RU rfl]
   grind
  ·rw [xE M h,xE M h,xE M h,zT (minor M i) (by omega) a b (λc=>x (c+1)) (λc=>y (c+1))]
   unfold row;rw [RS (by omega),RS (by omega),RS (by omega)]
   grind
theorem Nf (i:Nat):sg (i+1) = - sg i:=by
 unfold sg
 by_cases h:i%2=0
 ·rw [RU h,RS (by omega)]
 ·rw [if_neg h,if_pos (by omega)]; grind
theorem Bn:∀ {n:Nat}{M:Mt}{p:Nat},p+1<n->(∀ c,c<n->M p c=M (p+1) c)->rq n M=0
 | 0,_,_,h,_=>by omega
 | n+1,M,p,hp,he=>by
  unfold rq;rw [Lz (p:=p) hp (λi hi J Y=>?_)]
  ·have:rq n (minor M p)=rq n (minor M (p+1)):=yM (λr c Z I=>by
    unfold minor skip
    by_cases e:r=p
    ·subst e
     rw [RS (by omega),RU (by omega)]
     exact (he (c+1) (by omega)).symm
    ·by_cases e2:r<p
     ·rw [RU e2,RU (by omega)]
     ·rw [RS e2,RS (by omega)])
   rw [this,Nf,he 0 (by omega)]
   grind
  ·have:rq n (minor M i)=0:=by
    rcases UO i p with h | h | h
    ·refine Bn (p:=p-1) (by omega) (λc I=>?_)
     unfold minor skip;rw [RS (by omega),RS (by omega),show p-1+1=p by omega]
     exact he (c+1) (by omega)
    ·exact absurd h J
    ·refine Bn (p:=p) (by omega) (λc I=>?_)
     unfold minor skip;rw [RU (by omega),RU (by omega)]
     exact he (c+1) (by omega)
   rw [this]; grind
theorem CS (M:Mt) (p:Nat):row M p (M p)=M:=by
 funext r
 unfold row
 by_cases e:r=p
 ·subst e; rw [RU rfl]
 ·rw [RS e]
theorem xk (M:Mt) {p q:Nat} (h:p≠q) (x y:Nat->Rat):row (row M p x) q y=row (row M q y) p x:=by
 funext r
 unfold row
 by_cases e:r=q
 ·subst e; rw [RU rfl,RS (λe=>h e.symm),RU rfl]
 ·rw [RS e]
  by_cases e2:r=p
  ·rw [RU e2,RU e2]
  ·rw [RS e2,RS e2,RS e]
theorem B5 {n:Nat} (M:Mt) {p:Nat} (I:p<n) (x y:Nat->Rat):rq n (row M p (λc=>x c+y c))=rq n (row M p x)+rq n (row M p y):=by
 have:=zT M I 1 1 x y;simp only [Rat.one_mul] at this;exact this
theorem Ku {n:Nat} (M:Mt) {p:Nat} (J:p+1<n) (x y:Nat->Rat):rq n (row (row M p x) (p+1) y) = - rq n (row (row M p y) (p+1) x):=by
 have two:∀ u:Nat->Rat,rq n (row (row M p u) (p+1) u)=0:=λu=>Bn J (λc Y=>by
  unfold row;rw [RS (by omega),RU rfl,RU rfl])
 have h:=two (λc=>x c+y c);have I:p≠p+1:=by omega
 rw [B5 _ J,xk M I,xk M I,B5 _ (by omega),B5 _ (by omega),<- xk M I,<- xk M I,<- xk M I,<- xk M I,two x,two y] at h
 grind
theorem D9:∀ (k:Nat) {n:Nat}{M:Mt}{p q:Nat},q=p+1+k->q<n->(∀ c,M p c=M q c)->rq n M=0
 | 0,n,M,p,q,hq,hn,he=>by
  subst hq;exact Bn (by omega) (λc _=>he c)
 | k+1,n,M,p,q,hq,hn,he=>by
  have e1:rq n M=rq n (row (row M (q-1) (M (q-1))) (q-1+1) (M (q-1+1))):=by
   rw [CS,CS]
  rw [e1,Ku M (by omega)]
  have:rq n (row (row M (q-1) (M (q-1+1))) (q-1+1) (M (q-1)))=0:=by
   refine D9 k (p:=p) (q:=q-1) (by omega) (by omega) (λc=>?_)
   unfold row;rw [RS (by omega),RS (by omega),RS (by omega),RU rfl,show q-1+1=q by omega]
   exact he c
  rw [this]; grind
theorem Ks {n:Nat}{M:Mt}{p q:Nat} (J:p<n) (Y:q<n) (I:p≠q) (he:∀ c,M p c=M q c):rq n M=0:=by
 rcases TF p q with h | h
 ·exact D9 (q-p-1) (p:=p) (q:=q) (by omega) Y he
 ·exact D9 (p-q-1) (p:=q) (q:=p) (by omega) J (λc=>(he c).symm)
theorem Ea {n:Nat} (M:Mt) {p:Nat} (I:p<n):rq n (row M p (λ_=>0))=0:=by
 have:=zT M I 0 0 (λ_=>0) (λ_=>0);have e:(λc:Nat=>(0:Rat)*(λ_:Nat=>(0:Rat)) c+0*(λ_:Nat=>(0:Rat)) c)=λ_=>0:=by funext c; grind
 rw [e] at this;rw [this]; grind
theorem B6 {n:Nat} (M:Mt) {p:Nat} (I:p<n) (x:Nat->Rat) (Y:Mt):∀ k:Nat,rq n (row M p (λc=>sm k (λj=>x j*Y j c)))=sm k (λj=>x j*rq n (row M p (Y j)))
 | 0=>Ea M I
 | k+1=>by
  have e:(λc=>sm (k+1) (λj=>x j*Y j c))=λc=>1*sm k (λj=>x j*Y j c)+x k*Y k c:=by
   funext c
   show sm k (λj=>x j*Y j c)+x k*Y k c=_;rw [Rat.one_mul]
  rw [e,zT M I 1 (x k) (λc=>sm k (λj=>x j*Y j c)) (Y k),B6 M I x Y k];show _=sm k _+_
  grind
theorem Fq {n:Nat} (M:Mt) {p:Nat} (J:p<n) (x:Nat->Rat):rq n (row M p (λc=>sm n (λj=>x j*M j c)))=x p*rq n M:=by
 rw [B6 M J,CW J (λj Y I=>?_),CS];have:rq n (row M p (M j))=0:=Ks J Y (λe=>I e.symm) (λc=>by
  unfold row;rw [RU rfl,RS I])
 rw [this]; grind
theorem Kn {n:Nat}{M:Mt}{x b:Nat->Rat} (h:∀ c,c<n->sm n (λj=>x j*M j c)=b c) {p:Nat} (J:p<n):rq n (row M p b)=x p*rq n M:=by
 rw [<- Fq M J];refine yM (λr c Y I=>?_);unfold row
 by_cases e:r=p
 ·rw [RU e,RU e]; exact (h c I).symm
 ·rw [RS e,RS e]
theorem Fs:∀ {n:Nat}{M:Mt},(∀ c,c<n->M n c=0)->rq (n+1) M=M n n*rq n M
 | 0,M,_=>by
  show (0:Rat)+sg 0*M 0 0*1=M 0 0*1;have:sg 0=1:=rfl;rw [this]; grind
 | n+1,M,h=>by
  have e1:rq (n+1+1) M=sm (n+1) (λi=>sg i*M i 0*rq (n+1) (minor M i))+sg (n+1)*M (n+1) 0*rq (n+1) (minor M (n+1)):=rfl;have e2:rq (n+1) M=sm (n+1) (λi=>sg i*M i 0*rq n (minor M i)):=rfl;rw [e1,e2,h 0 (by omega),<- si]
  have:sm (n+1) (λi=>sg i*M i 0*rq (n+1) (minor M i))=sm (n+1) (λi=>M (n+1) (n+1)*(sg i*M i 0*rq n (minor M i))):=by
   refine pB (λi hi=>?_);have hs:skip i n=n+1:=by unfold skip; rw [RS (by omega)]
   have hl:rq (n+1) (minor M i)=minor M i n n*rq n (minor M i):=Fs (λc I=>by
    unfold minor;rw [hs];exact h (c+1) (by omega))
   have O:minor M i n n=M (n+1) (n+1):=by unfold minor; rw [hs]
   rw [hl,O]; grind
  rw [this]; grind
def vc (q:Rat):Prop:=∃ z:Int,q=(z:Rat)
theorem zX {a b:Rat} (h:vc a) (k:vc b):vc (a+b):=by
 obtain ⟨x,rfl⟩:=h; obtain ⟨y,rfl⟩:=k
 exact ⟨x+y,(Rat.intCast_add x y).symm⟩
theorem s9 {a b:Rat} (h:vc a) (k:vc b):vc (a*b):=by
 obtain ⟨x,rfl⟩:=h; obtain ⟨y,rfl⟩:=k
 exact ⟨x*y,(Xz x y).symm⟩
theorem OE (i:Nat):vc (sg i):=by
 unfold sg
 split
 ·exact ⟨1,rfl⟩
 ·exact ⟨-1,rfl⟩
theorem GX {f:Nat->Rat}:∀ {n:Nat},(∀ i,i<n->vc (f i))->vc (sm n f)
 | 0,_=>⟨0,rfl⟩
 | n+1,h=>by unfold sm; exact zX (GX (λi hi=>h i (by omega))) (h n (by omega))
theorem D_:∀ {n:Nat}{M:Mt},(∀ r c,r<n->c<n->vc (M r c))->vc (rq n M)
 | 0,_,_=>⟨1,rfl⟩
 | n+1,M,h=>by
  unfold rq;exact GX (λi hi=>s9 (s9 (OE i) (h i 0 hi (by omega))) (D_ (λr c J I=>h _ _ (by unfold skip; split <;> omega) (by omega))))
theorem Il (v w:Nat->Rat) (I:∀ i,0<=v i) (J:∀ i,0<=w i):∀ n:Nat,sm (n+1) (λi=>v i*pr n (λr=>w (skip i r)))+pr (n+1) w<=pr (n+1) (λr=>v r+w r)
 | 0=>by
  show 0+v 0*1+1*w 0<=1*(v 0+w 0)
  grind
 | n+1=>by
  have ih:=Il v w I J n;have e1:sm (n+1+1) (λi=>v i*pr (n+1) (λr=>w (skip i r)))=sm (n+1) (λi=>v i*pr (n+1) (λr=>w (skip i r)))+v (n+1)*pr (n+1) (λr=>w (skip (n+1) r)):=rfl;have e2:sm (n+1) (λi=>v i*pr (n+1) (λr=>w (skip i r)))=w (n+1)*sm (n+1) (λi=>v i*pr n (λr=>w (skip i r))):=by
   rw [<- si];refine pB (λi hi=>?_);have:pr (n+1) (λr=>w (skip i r))=pr n (λr=>w (skip i r))*w (n+1):=by
    show pr n _*w (skip i n)=_;rw [show skip i n=n+1 by unfold skip; rw [RS (by omega)]]
   rw [this]; grind
  have Y:pr (n+1) (λr=>w (skip (n+1) r))=pr (n+1) w:=xj (λr hr=>by unfold skip; rw [RU hr])
  have Z:pr (n+1+1) w=pr (n+1) w*w (n+1):=rfl;have e5:pr (n+1+1) (λr=>v r+w r)=pr (n+1) (λr=>v r+w r)*(v (n+1)+w (n+1)):=rfl;rw [e1,e2,Y,Z,e5];have s0:0<=sm (n+1) (λi=>v i*pr n (λr=>w (skip i r))):=uh (λi _=>Rat.mul_nonneg (I i) (mU (λr _=>J _)));have m1:=Rat.mul_le_mul_of_nonneg_right ih (show (0:Rat)<=v (n+1)+w (n+1) by have:=I (n+1); have:=J (n+1); grind)
  have m2:=XF s0 (I (n+1))
  grind
theorem GK:∀ {n:Nat}{M A:Mt},(∀ r c,0<=A r c)->(∀ r c,r<n->c<n->-A r c<=M r c/\M r c<=A r c)->-pr n (λr=>sm n (A r))<=rq n M/\rq n M<=pr n (λr=>sm n (A r))
 | 0,_,_,_,_=>by unfold rq pr; exact ⟨by decide,by decide⟩
 | n+1,M,A,h0,h=>by
  have I:∀ r,sm (n+1) (A r)=A r 0+sm n (λc=>A r (c+1)):=λr=>by
   have:∀ k,sm (k+1) (A r)=A r 0+sm k (λc=>A r (c+1)):=λk=>by
    induction k with
    | zero=>show 0+A r 0=A r 0+0; grind
    | succ k ih=>
     have e1:sm (k+1+1) (A r)=sm (k+1) (A r)+A r (k+1):=rfl;have e2:sm (k+1) (λc=>A r (c+1))=sm k (λc=>A r (c+1))+A r (k+1):=rfl;rw [e1,e2,ih]; grind
   exact this n
  have Y:∀ r,0<=sm n (λc=>A r (c+1)):=λr=>uh (λc _=>h0 r (c+1));have hp:=Il (λr=>A r 0) (λr=>sm n (λc=>A r (c+1))) (λr=>h0 r 0) Y n;have hP:pr (n+1) (λr=>sm (n+1) (A r))=pr (n+1) (λr=>A r 0+sm n (λc=>A r (c+1))):=xj (λr _=>I r);have hw1:=mU (n:=n+1) (f:=λr=>sm n (λc=>A r (c+1))) (λr _=>Y r);have J:∀ i,i<n+1->-(A i 0*pr n (λr=>sm n (λc=>A (skip i r) (c+1))))<=sg i*M i 0*rq n (minor M i)/\sg i*M i 0*rq n (minor M i)<=A i 0*pr n (λr=>sm n (λc=>A (skip i r) (c+1))):=λi hi=>by
   obtain ⟨d1,d2⟩:=GK (n:=n) (M:=minor M i) (A:=λr c=>A (skip i r) (c+1)) (λr c=>h0 _ _) (λr c hr hc=>h _ _ (by unfold skip; split <;> omega) (by omega))
   obtain ⟨m1,m2⟩:=h i 0 hi (by omega)
   have key:∀ a b x y:Rat,-a<=x->x<=a->-b<=y->y<=b->-(a*b)<=x*y/\x*y<=a*b:=λa b x y h1 h2 h3 h4=>by
    have t1:=Rat.mul_nonneg (show (0:Rat)<=a-x by grind) (show (0:Rat)<=b-y by grind)
    have t2:=Rat.mul_nonneg (show (0:Rat)<=a+x by grind) (show (0:Rat)<=b+y by grind)
    have t3:=Rat.mul_nonneg (show (0:Rat)<=a-x by grind) (show (0:Rat)<=b+y by grind)
    have t4:=Rat.mul_nonneg (show (0:Rat)<=a+x by grind) (show (0:Rat)<=b-y by grind)
    constructor <;> grind
   obtain ⟨k1,k2⟩:=key _ _ _ _ m1 m2 d1 d2;unfold sg
   split
   ·constructor <;> grind
   ·constructor <;> grind
  rw [hP];have Z:sm (n+1) (λi=>A i 0*pr n (λr=>sm n (λc=>A (skip i r) (c+1))))<=pr (n+1) (λr=>A r 0+sm n (λc=>A r (c+1))):=by grind
  have up:rq (n+1) M<=sm (n+1) (λi=>A i 0*pr n (λr=>sm n (λc=>A (skip i r) (c+1)))):=Ly (λi hi=>(J i hi).2);have lo:sm (n+1) (λi=>(-1)*(A i 0*pr n (λr=>sm n (λc=>A (skip i r) (c+1)))))<=rq (n+1) M:=Ly (λi hi=>by have:=(J i hi).1; grind)
  rw [si] at lo;constructor <;> grind
theorem Kt {k:Nat}{M:Mt}{x:Nat->Rat} (hx:x k=1) (Y:∀ c,c<k->sm (k+1) (λj=>x j*M j c)=0):rq (k+1) M=sm (k+1) (λj=>x j*M j k)*rq k M:=by
 have I:=Fq M (Tq k) x;rw [hx,Rat.one_mul] at I;rw [<- I];have Z:rq (k+1) (row M k (λc=>sm (k+1) (λj=>x j*M j c)))=(row M k (λc=>sm (k+1) (λj=>x j*M j c))) k k*rq k (row M k (λc=>sm (k+1) (λj=>x j*M j c))):=Fs (λc J=>by
  unfold row;rw [RU rfl];exact Y c J)
 rw [Z];have h3:rq k (row M k (λc=>sm (k+1) (λj=>x j*M j c)))=rq k M:=yM (λr c hr J=>by
  unfold row;rw [RS (by omega)])
 rw [h3];unfold row;rw [RU rfl]
theorem GH {k:Nat}{M:Mt}{x b:Nat->Rat} (J:∀ r c,r<k->c<k->vc (M r c)) (Y:∀ c,c<k->vc (b c)) (h:∀ c,c<k->sm k (λj=>x j*M j c)=b c) {p:Nat} (Z:p<k):vc (x p*rq k M):=by
 rw [<- Kn h Z];refine D_ (λr c hr I=>?_);unfold row
 by_cases e:r=p
 ·rw [RU e]; exact Y c I
 ·rw [RS e]; exact J r c hr I
theorem EM {f:Nat->Rat}:∀ {n:Nat},(∀ i,i<n->1<=f i)->1<=pr n f
 | 0,_=>by unfold pr; decide
 | n+1,h=>by
  unfold pr;have I:=EM (n:=n) (λi hi=>h i (by omega))
  have J:=h n (by omega)
  have:=q6 I J (by decide) (by decide)
  grind
theorem Lj {f:Nat->Rat}{s:Rat} (hs:0<=s) {p:Nat}:∀ {n:Nat},p<n->(∀ i,i<n->1<=f i)->pr n (λr=>if r=p then s else f r)<=pr n f*s
 | 0,h,_=>by omega
 | n+1,h,h1=>by
  have Z:∀ i,i<n+1->0<=f i:=λi hi=>by have:=h1 i hi; grind
  have I:=mU (n:=n) (f:=f) (λi hi=>Z i (by omega))
  by_cases e:p=n
  ·subst e
   show pr p (λr=>if r=p then s else f r)*(if p=p then s else f p)<=pr p f*f p*s
   rw [RU rfl];have e2:pr p (λr=>if r=p then s else f r)=pr p f:=xj (λi hi=>RS (by omega))
   rw [e2];have Y:=XF I hs;have:=q6 (XB (a:=pr p f*s)) (h1 p (by omega)) Y (by decide)
   grind
  ·show pr n (λr=>if r=p then s else f r)*(if n=p then s else f n)<=pr n f*f n*s
   rw [RS (λe2:n=p=>e e2.symm)];have J:p<n:=by omega
   have ih:=Lj (f:=f) hs J (λi hi=>h1 i (Nat.lt_succ_of_lt hi));have:=Rat.mul_le_mul_of_nonneg_right ih (Z n (by omega))
   grind
theorem I1 {k:Nat}{M A:Mt}{x b a:Nat->Rat}{S:Rat} (J:∀ r c,0<=A r c) (I:∀ c,0<=a c) (hM:∀ r c,r<k->c<k->-A r c<=M r c/\M r c<=A r c) (hb:∀ c,c<k->-a c<=b c/\b c<=a c)
  (h1:∀ r,r<k->1<=sm k (A r)) (hS:sm k a<=S) (h:∀ c,c<k->sm k (λj=>x j*M j c)=b c) {p:Nat} (hp:p<k):-(pr k (λr=>sm k (A r))*S)<=x p*rq k M/\x p*rq k M<=pr k (λr=>sm k (A r))*S:=by
 rw [<- Kn h hp];obtain ⟨d1,d2⟩:=GK (n:=k) (M:=row M p b) (A:=row A p a) (λr c=>by
  unfold row
  by_cases e:r=p
  ·rw [RU e]; exact I c
  ·rw [RS e]; exact J r c) (λr c Y hc=>by
  unfold row
  by_cases e:r=p
  ·rw [RU e,RU e]; exact hb c hc
  ·rw [RS e,RS e]; exact hM r c Y hc)
 have Z:0<=sm k a:=uh (λc _=>I c);have e1:pr k (λr=>sm k (row A p a r))=pr k (λr=>if r=p then sm k a else sm k (A r)):=xj (λr _=>by
  unfold row
  by_cases e:r=p
  ·rw [RU e,RU e]
  ·rw [RS e,RS e])
 rw [e1] at d1 d2;have h2:=Lj Z (p:=p) (n:=k) (f:=λr=>sm k (A r)) hp h1;have h3:=Rat.mul_le_mul_of_nonneg_left hS (mU (n:=k) (f:=λr=>sm k (A r)) (λr Y=>by have:=h1 r Y; grind))
 have h4:=Rat.le_trans h2 h3;constructor <;> grind
def dl (i j:Nat):Rat:=if i=j then 1 else 0
theorem rL (i:Nat):dl i i=1:=RU rfl
theorem qP {i j:Nat} (h:i≠j):dl i j=0:=RS h
structure Gj (n:Nat) (A:Mt) (k:Nat) (m:Mt):Prop where
 comb:∀ i c,i<n->c<n->m i c=sm n (λj=>m i (n+j)*A j c)
 right:∀ i j,i<n->j<n->k<=j->m i (n+j)=dl i j
 left:∀ i c,i<n->c<n->c<k->m i c=dl i c
def vG (k:Nat) (m:Mt):Mt:=λi c=>if i=k then m k c / m k k else m i c-m i k*(m k c / m k k)
theorem Gj.step {n:Nat}{A m:Mt}{k:Nat} (h:Gj n A k m) (hk:k<n) (hd:m k k≠0):Gj n A (k+1) (vG k m):=by
 have Y:∀ c,c<k->m k c=0:=λc J=>by rw [h.left k c hk (by omega) J,qP (by omega)]
 have hkr:∀ j,j<n->k+1<=j->m k (n+j)=0:=λj hj Z=>by rw [h.right k j hk hj (by omega),qP (by omega)]
 have I:m k k / m k k=1:=by rw [Xx]; exact XE _ hd
 refine ⟨λi c hi J=>?_,λi j hi hj Z=>?_,λi c hi J hck=>?_⟩
 ·have e1:=h.comb i c hi J
  have e2:=h.comb k c hk J;unfold vG
  by_cases e:i=k
  ·subst e
   simp only [if_true];have:(λj=>m i (n+j) / m i i*A j c)=λj=>(m i i)⁻¹*(m i (n+j)*A j c):=by funext j; rw [Rat.div_def]; grind
   rw [this,si,<- e2,Rat.div_def]; grind
  ·simp only [RS e]
   have:(λj=>(m i (n+j)-m i k*(m k (n+j) / m k k))*A j c)=λj=>m i (n+j)*A j c+(-(m i k*(m k k)⁻¹))*(m k (n+j)*A j c):=by funext j; rw [Rat.div_def]; grind
   rw [this,xN,si,<- e1,<- e2,Rat.div_def]; grind
 ·unfold vG
  have e1:=hkr j hj Z
  by_cases e:i=k
  ·subst e
   rw [if_pos rfl,e1,qP (by omega),Rat.div_def]; grind
  ·rw [if_neg e,e1,h.right i j hi hj (by omega),Rat.div_def]; grind
 ·unfold vG
  by_cases e:i=k
  ·subst e
   rw [RU rfl]
   by_cases e2:c=i
   ·subst e2; rw [I,rL]
   ·rw [Y c (by omega),qP (λe3=>e2 e3.symm),Rat.div_def]; grind
  ·rw [RS e]
   by_cases e2:c=k
   ·subst e2; rw [I,qP e]; grind
   ·rw [Y c (by omega),h.left i c hi J (by omega),Rat.div_def]; grind
def Pd (n:Nat) (A:Mt):Prop:=∀ x:Nat->Rat,sm n (λc=>x c*sm n (λj=>x j*A j c))=0->∀ i,i<n->x i=0
theorem Gj.N8 {n:Nat}{A m:Mt}{k:Nat} (h:Gj n A k m) (hp:Pd n A) (J:k<n):m k k≠0:=by
 intro h0;have h1:=hp (λj=>m k (n+j)) (wI (λc Y=>by
  have e1:=(h.comb k c J Y).symm;show m k (n+c)*sm n (λj=>m k (n+j)*A j c)=0;rw [e1];rcases UO c k with I | I | I
  ·rw [h.left k c J Y I,qP (by omega)]; grind
  ·subst I; rw [h0]; grind
  ·rw [h.right k c J Y (by omega),qP (by omega)]; grind)) k J
 have h2:=h.right k k J J (R9 k);have Z:m k (n+k)=0:=h1;rw [h2,rL] at Z;exact absurd Z (by decide)
theorem Gj.Ov {n:Nat}{A m:Mt}{k:Nat} (h:Gj n A k m) (Y:k<=n) {i:Nat} (hi:i<n) {c:Nat} (J:c<n):m i c=sm k (λj=>m i (n+j)*A j c)+(if k<=i then A i c else 0):=by
 have key:∀ q,k<=q->q<=n->sm q (λj=>m i (n+j)*A j c)=sm k (λj=>m i (n+j)*A j c)+(if k<=i/\i<q then A i c else 0):=by
  intro q hq
  induction q with
  | zero=>
   intro _;obtain rfl:k=0:=by omega
   rw [if_neg (by omega)]; grind
  | succ q ih=>
   intro Z
   by_cases e:k=q+1
   ·rw [<- e,if_neg (by omega)]; grind
   ·have e1:sm (q+1) (λj=>m i (n+j)*A j c)=sm q (λj=>m i (n+j)*A j c)+m i (n+q)*A q c:=rfl
    rw [e1,ih (by omega) (by omega),h.right i q hi (by omega) (by omega)]
    by_cases e2:i=q
    ·subst e2
     rw [rL,if_neg (by omega),if_pos ⟨by omega,by omega⟩]; grind
    ·rw [qP e2]
     by_cases I:k<=i/\i<q
     ·rw [if_pos I,if_pos ⟨I.1,by omega⟩]; grind
     ·rw [if_neg I,if_neg (by omega)]; grind
 rw [h.comb i c hi J,key n Y (R9 n)]
 by_cases e:k<=i
 ·rw [RU ⟨e,hi⟩,RU e]
 ·rw [RS (λe2=>e e2.1),RS e]
theorem Gj.rq {n:Nat}{A m:Mt}{k:Nat} (h:Gj n A k m) (I:k<n) {L:Nat->Rat} (hL:∀ i,i<n->L i≠0):Sim.rq (k+1) (λr c=>L r*A r c)=L k*m k k*Sim.rq k (λr c=>L r*A r c):=by
 have J:∀ c,c<n->sm (k+1) (λj=>(L k*m k (n+j) / L j)*(L j*A j c))=L k*m k c:=λc J=>by
  have e1:=h.Ov (Nat.le_of_lt I) I J;rw [RU (R9 k)] at e1;have e2:sm (k+1) (λj=>(L k*m k (n+j) / L j)*(L j*A j c))=sm (k+1) (λj=>L k*(m k (n+j)*A j c)):=pB (λj hj=>by
   have:=XE (L j) (hL j (by omega))
   rw [Rat.div_def]; grind)
  rw [e2,si];have Z:sm (k+1) (λj=>m k (n+j)*A j c)=sm k (λj=>m k (n+j)*A j c)+m k (n+k)*A k c:=rfl;rw [Z,h.right k k I I (Nat.le_refl k),rL,e1]; grind
 have h1:=Kt (k:=k) (M:=λr c=>L r*A r c) (x:=λj=>L k*m k (n+j) / L j) (by
  rw [h.right k k I I (R9 k),rL,Rat.mul_one,Xx];exact XE _ (hL k I)) (λc Y=>by
  rw [J c (by omega),h.left k c I (by omega) Y,qP (by omega)]; grind)
 rw [h1,J k I]
structure JU (n:Nat) (A:Mt) (L:Nat->Rat) (B:Mt) (R:Nat->Rat):Prop where
 li:∀ i,i<n->vc (L i)
 l1:∀ i,i<n->1<=L i
 ai:∀ i c,i<n->c<n->vc (L i*A i c)
 b0:∀ i c,0<=B i c
 b1:∀ i,i<n->1<=B i i
 ab:∀ i c,i<n->c<n->-B i c<=L i*A i c/\L i*A i c<=B i c
 rs:∀ i,i<n->sm n (B i)<=R i
theorem Bv {f:Nat->Rat} (h:∀ i,0<=f i) {k:Nat}:∀ {n:Nat},k<=n->sm k f<=sm n f
 | 0,hk=>by
  obtain rfl:k=0:=by omega
  exact XB
 | n+1,hk=>by
  by_cases e:k=n+1
  ·subst e; exact XB
  ·have J:=Bv h (k:=k) (n:=n) (by omega)
   have Y:=h n;have I:sm (n+1) f=sm n f+f n:=rfl;rw [I]
   grind
theorem Oc {f:Nat->Rat} (h:∀ i,0<=f i) {k p:Nat} (Z:p<k):f p<=sm k f:=by
 have I:=Bv h (k:=p+1) (n:=k) (by omega)
 have J:=uh (n:=p) (f:=f) (λi _=>h i);have Y:sm (p+1) f=sm p f+f p:=rfl
 grind
theorem JU.OT {n:Nat}{A B:Mt}{L R:Nat->Rat} (h:JU n A L B R) {k r:Nat} (I:r<k) (Z:k<=n):1<=sm k (B r):=by
 have J:=Oc (h.b0 r) I;have Y:=h.b1 r (by omega)
 grind
theorem JU.R1 {n:Nat}{A B:Mt}{L R:Nat->Rat} (h:JU n A L B R) {r:Nat} (I:r<n):1<=R r:=by
 have J:=h.OT I (R9 n);have Y:=h.rs r I
 grind
theorem Ik {f:Nat->Rat}{k:Nat}:∀ {n:Nat},k<=n->(∀ i,i<n->1<=f i)->pr k f<=pr n f
 | 0,hk,_=>by
  obtain rfl:k=0:=by omega
  exact XB
 | n+1,hk,h=>by
  by_cases e:k=n+1
  ·subst e; exact XB
  ·have J:=Ik (k:=k) (n:=n) (by omega) (λi hi=>h i (by omega))
   have Y:=q6 (Rat.le_refl (a:=pr n f)) (h n (by omega)) (mU (λi hi=>by have:=h i (by omega); grind)) (by decide)
   have I:pr (n+1) f=pr n f*f n:=rfl;rw [I]
   grind
theorem JU.prod {n:Nat}{A B:Mt}{L R:Nat->Rat} (h:JU n A L B R) {k:Nat} (I:k<=n):pr k (λr=>sm k (B r))<=pr n R:=by
 have Y:pr k (λr=>sm k (B r))<=pr k R:=Ij (λr J=>by have:=h.OT J I; grind) (λr J=>Rat.le_trans (Bv (h.b0 r) I) (h.rs r (by omega)))
 exact XC Y (Ik I (λi hi=>h.R1 hi))
theorem JU.rq {n:Nat}{A B:Mt}{L R:Nat->Rat} (h:JU n A L B R) {k:Nat} (J:k<=n):vc (Sim.rq k (λr c=>L r*A r c))/\-pr n R<=Sim.rq k (λr c=>L r*A r c)/\Sim.rq k (λr c=>L r*A r c)<=pr n R:=by
 refine ⟨D_ (λr c Y I=>h.ai r c (by omega) (by omega)),?_⟩
 obtain ⟨d1,d2⟩:=GK (n:=k) (M:=λr c=>L r*A r c) (A:=B) h.b0 (λr c Y I=>h.ab r c (by omega) (by omega))
 have:=h.prod J;constructor <;> grind
theorem Gj.num {n:Nat}{A B m:Mt}{L R:Nat->Rat}{k:Nat} (h:Gj n A k m) (s:JU n A L B R) (J:k<=n) {i p:Nat} (hi:i<n) (hp:p<k):
  ∃ N:Rat,vc N/\-(pr n R*R i)<=N/\N<=pr n R*R i/\(if k<=i then L i else 1)*m i (n+p)*Sim.rq k (λr c=>L r*A r c)=N*L p:=by
 have hL:∀ j,j<n->L j≠0:=λj hj e=>by have:=s.l1 j hj; rw [e] at this; exact absurd this (by decide)
 have hx:∀ c,c<k->sm k (λj=>((if k<=i then L i else 1)*m i (n+j) / L j)*((λr c=>L r*A r c) j c))=if k<=i then -(L i*A i c) else dl i c:=λc I=>by
  have e1:=h.Ov J hi (c:=c) (by omega)
  have e2:sm k (λj=>((if k<=i then L i else 1)*m i (n+j) / L j)*((λr c=>L r*A r c) j c))=sm k (λj=>(if k<=i then L i else 1)*(m i (n+j)*A j c)):=pB (λj hj=>by
   have:=XE (L j) (hL j (by omega))
   simp only [Xx]
   grind)
  rw [e2,si];have Z:=h.left i c hi (by omega) I
  by_cases e:k<=i
  ·rw [RU e,RU e]
   rw [RU e,Z,qP (by omega)] at e1
   grind
  ·rw [RS e,RS e]
   rw [RS e,Z] at e1
   grind
 have hb:∀ c,c<k->vc (if k<=i then -(L i*A i c) else dl i c):=λc I=>by
  by_cases e:k<=i
  ·rw [RU e]
   obtain ⟨z,hz⟩:=s.ai i c hi (by omega)
   exact ⟨-z,by rw [hz,XA]⟩
  ·rw [RS e]
   unfold dl
   split
   ·exact ⟨1,rfl⟩
   ·exact ⟨0,rfl⟩
 have hB:∀ c,c<k->-(B i c)<=(if k<=i then -(L i*A i c) else dl i c)/\(if k<=i then -(L i*A i c) else dl i c)<=B i c:=λc I=>by
  have h1:=s.ab i c hi (by omega)
  have h2:=s.b0 i c
  by_cases e:k<=i
  ·rw [RU e]
   constructor <;> grind
  ·rw [RS e]
   unfold dl
   split
   ·rename_i e2
    subst e2;have:=s.b1 i hi;constructor <;> grind
   ·constructor <;> grind
 have c1:=GH (k:=k) (M:=λr c=>L r*A r c) (λr c Y I=>s.ai r c (by omega) (by omega)) hb hx hp
 obtain ⟨c2,c3⟩:=I1 (k:=k) (M:=λr c=>L r*A r c) (A:=B) (a:=B i) (S:=R i) s.b0 (s.b0 i) (λr c Y I=>s.ab r c (by omega) (by omega)) hB (λr Y=>s.OT Y J) (XC (Bv (s.b0 i) J) (s.rs i hi)) hx hp
 have hP:=Rat.mul_le_mul_of_nonneg_right (s.prod J) (show (0:Rat)<=R i by have:=s.R1 hi; grind)
 refine ⟨_,c1,by grind,by grind,?_⟩
 have:=XE (L p) (hL p (by omega))
 rw [Xx]
 grind
def qf (n:Nat) (x:Nat->Rat) (A:Mt):Rat:=sm n (λc=>x c*sm n (λj=>x j*A j c))
theorem Ln (n:Nat) (x:Nat->Rat) (A I:Mt):qf n x (λj c=>A j c+I j c)=qf n x A+qf n x I:=by
 unfold qf;rw [<- xN];refine pB (λc _=>?_);have:sm n (λj=>x j*(A j c+I j c))=sm n (λj=>x j*A j c)+sm n (λj=>x j*I j c):=by
  rw [<- xN];exact pB (λj _=>by grind)
 rw [this]; grind
theorem Lo (n:Nat) (x e:Nat->Rat) (b:Rat):qf n x (λj c=>b*e j*e c)=b*(sm n (λj=>x j*e j)*sm n (λj=>x j*e j)):=by
 unfold qf;have I:sm n (λc=>x c*sm n (λj=>x j*(b*e j*e c)))=sm n (λc=>(b*sm n (λj=>x j*e j))*(x c*e c)):=pB (λc _=>by
  have:sm n (λj=>x j*(b*e j*e c))=sm n (λj=>(b*e c)*(x j*e j)):=pB (λj _=>by grind)
  rw [this,si]; grind)
 rw [I,si]; grind
def gY:List (Rat×(Nat->Rat))->Mt
 | []=>λ_ _=>0
 | be::l=>λj c=>be.1*be.2 j*be.2 c+gY l j c
theorem sq_nonneg (a:Rat):0<=a*a:=by
 rcases (Rat.le_total:(0:Rat)<=a\/a<=0) with h | h
 ·exact XF h h
 ·have:=Rat.mul_nonneg (show (0:Rat)<=-a by grind) (show (0:Rat)<=-a by grind)
  grind
theorem Cl (n:Nat) (x:Nat->Rat):∀ (l:List (Rat×(Nat->Rat))),(∀ be ∈ l,0<be.1)->0<=qf n x (gY l)
 | [],_=>by
  have:qf n x (gY [])=0:=wI (λc _=>by
   rw [wI (λj _=>by show x j*0=0; grind)]; grind)
  rw [this]; exact XB
 | be::l,h=>by
  have Y:=Cl n x l (λb J=>h b (RV _ J));have I:=h be (RR ..);have e:qf n x (gY (be::l))=be.1*(sm n (λj=>x j*be.2 j)*sm n (λj=>x j*be.2 j))+qf n x (gY l):=by
   rw [<- Lo,<- Ln]; rfl
  rw [e];have Z:=XF (Rat.le_of_lt I) (sq_nonneg (sm n (λj=>x j*be.2 j)))
  grind
theorem FJ (n:Nat) (x:Nat->Rat):∀ (l:List (Rat×(Nat->Rat))),(∀ be ∈ l,0<be.1)->qf n x (gY l)=0->∀ be ∈ l,sm n (λj=>x j*be.2 j)=0
 | [],_,_,be,I=>by simp at I
 | be::l,h,h0,b,I=>by
  have h1:=Cl n x l (λb I=>h b (RV _ I));have J:=h be (RR ..);have e:qf n x (gY (be::l))=be.1*(sm n (λj=>x j*be.2 j)*sm n (λj=>x j*be.2 j))+qf n x (gY l):=by
   rw [<- Lo,<- Ln]; rfl
  rw [e] at h0;have h3:=Rat.mul_nonneg (Rat.le_of_lt J) (sq_nonneg (sm n (λj=>x j*be.2 j)));have h4:qf n x (gY l)=0:=by grind
  have h5:be.1*(sm n (λj=>x j*be.2 j)*sm n (λj=>x j*be.2 j))=0:=by grind
  rcases SA.1 I with rfl | I
  ·rcases XD.1 h5 with Y | Y
   ·rw [Y] at J; exact absurd J (Rat.lt_irrefl)
   ·rcases XD.1 Y with Z | Z <;> exact Z
  ·exact FJ n x l (λb I=>h b (RV _ I)) h4 b I
inductive Lk (l:List (Rat×Nat×Nat)) (u:Nat):Nat->Prop
 | refl:Lk l u u
 | step {b:Rat}{v w:Nat}:Lk l u v->((b,v,w) ∈ l\/(b,w,v) ∈ l)->Lk l u w
def nE (F:Nat->Nat) (e:Rat×Nat×Nat):Rat×(Nat->Rat):=(e.1,λj=>dl (F j) e.2.1-dl (F j) e.2.2)
theorem PM {n:Nat}{F:Nat->Nat}{l:List (Rat×Nat×Nat)} (hb:∀ e ∈ l,0<e.1) (hF:∀ i j,i<n->j<n->F i=F j->i=j)
  (hr:∀ i,i<n->∃ r,(∀ j,j<n->F j≠r)/\Lk l (F i) r):Pd n (gY (l.map (nE F))):=by
 intro x h0 i hi;have hz:=FJ n x (l.map (nE F)) (λbe J=>by
  obtain ⟨e,he,rfl⟩:=SC.1 J;exact hb e he) h0
 have hd:∀ p q:Nat,sm n (λj=>x j*(dl (F j) p-dl (F j) q))=sm n (λj=>x j*dl (F j) p)-sm n (λj=>x j*dl (F j) q):=λp q=>by
  have I:sm n (λj=>x j*(dl (F j) p-dl (F j) q))=sm n (λj=>x j*dl (F j) p+(-1)*(x j*dl (F j) q)):=pB (λj _=>by grind)
  rw [I,xN,si]; grind
 have he:∀ (b:Rat) (p q:Nat),(b,p,q) ∈ l->sm n (λj=>x j*dl (F j) p)=sm n (λj=>x j*dl (F j) q):=λb p q h=>by
  have I:sm n (λj=>x j*(dl (F j) p-dl (F j) q))=0:=hz (nE F (b,p,q)) (SC.2 ⟨_,h,rfl⟩);have h2:=hd p q
  grind
 have hl:∀ u v,Lk l u v->sm n (λj=>x j*dl (F j) u)=sm n (λj=>x j*dl (F j) v):=λu v h=>by
  induction h with
  | refl=>rfl
  | step _ h ih=>
   rcases h with h | h
   ·rw [ih]; exact he _ _ _ h
   ·rw [ih]; exact (he _ _ _ h).symm
 obtain ⟨r,hr1,hr2⟩:=hr i hi;have I:=hl _ _ hr2;have h2:sm n (λj=>x j*dl (F j) r)=0:=wI (λj Y=>by rw [qP (hr1 j Y)]; grind)
 have h3:sm n (λj=>x j*dl (F j) (F i))=x i*dl (F i) (F i):=CW hi (λj Y Z=>by rw [qP (λe=>Z (hF j i Y hi e))]; grind)
 rw [h2,h3,rL] at I
 grind
def u4 (u:Nat):List (Rat×Nat×Nat)->Rat
 | []=>1
 | e::l=>(if e.2.1=u\/e.2.2=u then e.1 else 1)*u4 u l
def wW:List (Rat×Nat×Nat)->Rat
 | []=>1
 | e::l=>e.1*wW l
theorem Bt {u:Nat}:∀ {l:List (Rat×Nat×Nat)},(∀ e ∈ l,vc e.1)->vc (u4 u l)
 | [],_=>⟨1,rfl⟩
 | e::l,h=>by
  unfold u4;refine s9 ?_ (Bt (λe he=>h e (RV _ he)))
  split
  ·exact h e (RR ..)
  ·exact ⟨1,rfl⟩
theorem Ap {u:Nat}:∀ {l:List (Rat×Nat×Nat)},(∀ e ∈ l,1<=e.1)->1<=u4 u l
 | [],_=>XB
 | e::l,h=>by
  unfold u4;have I:=Ap (u:=u) (l:=l) (λe he=>h e (RV _ he));have J:=h e (RR ..)
  split
  ·have:=q6 J I (by decide) (by decide)
   grind
  ·grind
theorem BW:∀ {l:List (Rat×Nat×Nat)},(∀ e ∈ l,1<=e.1)->1<=wW l
 | [],_=>XB
 | e::l,h=>by
  unfold wW;have I:=BW (l:=l) (λe he=>h e (RV _ he));have J:=h e (RR ..);have:=q6 J I (by decide) (by decide)
  grind
theorem ER {u:Nat}:∀ {l:List (Rat×Nat×Nat)},(∀ e ∈ l,vc e.1/\1<=e.1)->∀ e ∈ l,(e.2.1=u\/e.2.2=u)->∀ t:Rat,vc t->vc (u4 u l*(t / e.1))
 | [],_,e,he,_,_,_=>by simp at he
 | d::l,h,e,he,hu,t,ht=>by
  have hl:∀ e ∈ l,vc e.1/\1<=e.1:=λe he=>h e (RV _ he);unfold u4;rcases SA.1 he with rfl | he
  ·rw [RU hu]
   have J:e.1≠0:=λY=>by have:=(h e (RR ..)).2; rw [Y] at this; exact absurd this (by decide)
   have:=Rat.mul_inv_cancel e.1 J;have I:e.1*u4 u l*(t / e.1)=u4 u l*t:=by rw [Rat.div_def]; grind
   rw [I];exact s9 (Bt (λe he=>(hl e he).1)) ht
  ·have I:=ER hl e he hu t ht
   have Z:(if d.2.1=u\/d.2.2=u then d.1 else 1)*u4 u l*(t / e.1)=(if d.2.1=u\/d.2.2=u then d.1 else 1)*(u4 u l*(t / e.1)):=Rat.mul_assoc ..
   rw [Z];refine s9 ?_ I
   split
   ·exact (h d (RR ..)).1
   ·exact ⟨1,rfl⟩
theorem AQ {F:Nat->Nat}{q:Rat} (I:1<=q) {p:Nat}:∀ {n:Nat},(∀ i j,i<n->j<n->F i=F j->i=j)->pr n (λi=>if F i=p then q else 1)<=q
 | 0,_=>I
 | n+1,h=>by
  have ih:=AQ I (p:=p) (n:=n) (λi j hi Y e=>h i j (by omega) (by omega) e)
  show pr n (λi=>if F i=p then q else 1)*(if F n=p then q else 1)<=q
  by_cases e:F n=p
  ·rw [RU e]
   have:pr n (λi=>if F i=p then q else 1)=pr n (λ_=>1):=xj (λi hi=>RS (λe2=>by
    have:=h i n (by omega) (by omega) (e2.trans e.symm)
    omega))
   rw [this];have J:∀ k,pr k (λ_=>(1:Rat))=1:=λk=>by
    induction k with
    | zero=>rfl
    | succ k ih=>show pr k (λ_=>(1:Rat))*1=1; rw [ih]; grind
   rw [J]; grind
  ·rw [if_neg e]; grind
theorem F6 {n:Nat}{F:Nat->Nat} (J:∀ i j,i<n->j<n->F i=F j->i=j):∀ {l:List (Rat×Nat×Nat)},(∀ e ∈ l,1<=e.1)->pr n (λi=>u4 (F i) l)<=wW l*wW l
 | [],_=>by
  have Z:∀ k,pr k (λ_=>(1:Rat))=1:=λk=>by
   induction k with
   | zero=>rfl
   | succ k ih=>show pr k (λ_=>(1:Rat))*1=1; rw [ih]; grind
  show pr n (λ_=>(1:Rat))<=1*1;rw [Z,Rat.one_mul]; exact XB
 | e::l,h=>by
  have hl:∀ e ∈ l,1<=e.1:=λe he=>h e (RV _ he);have I:=h e (RR ..);have ih:=F6 J hl;have e1:pr n (λi=>u4 (F i) (e::l))=pr n (λi=>if e.2.1=F i\/e.2.2=F i then e.1 else 1)*pr n (λi=>u4 (F i) l):=by rw [<- EL]; rfl
  have e2:pr n (λi=>if e.2.1=F i\/e.2.2=F i then e.1 else 1)<=pr n (λi=>(if F i=e.2.1 then e.1 else 1)*(if F i=e.2.2 then e.1 else 1)):=Ij (λi _=>by split <;> grind) (λi _=>by
   have:=q6 I I (by decide) (by decide)
   by_cases a:F i=e.2.1
   ·by_cases b:F i=e.2.2
    ·rw [RU (.inl a.symm),RU a,RU b]
     have:=Rat.mul_le_mul_of_nonneg_left I (show (0:Rat)<=e.1 by grind)
     grind
    ·rw [if_pos (.inl a.symm),if_pos a,if_neg b]; grind
   ·by_cases b:F i=e.2.2
    ·rw [if_pos (.inr b.symm),if_neg a,if_pos b]; grind
    ·rw [if_neg (λh=>h.elim (λh=>a h.symm) (λh=>b h.symm)),if_neg a,if_neg b]; grind)
  rw [EL] at e2;have s1:=AQ (F:=F) I (p:=e.2.1) J;have s2:=AQ (F:=F) I (p:=e.2.2) J;have n1:0<=pr n (λi=>if F i=e.2.1 then e.1 else 1):=mU (λi _=>by split <;> grind)
  have n2:0<=pr n (λi=>if F i=e.2.2 then e.1 else 1):=mU (λi _=>by split <;> grind)
  have m1:=q6 s1 s2 n1 n2;have n3:0<=pr n (λi=>if e.2.1=F i\/e.2.2=F i then e.1 else 1):=mU (λi _=>by split <;> grind)
  have n4:0<=pr n (λi=>u4 (F i) l):=mU (λi _=>by have:=Ap (u:=F i) hl; grind)
  have m2:=q6 (XC e2 m1) ih n3 n4;rw [e1];have Y:wW (e::l)=e.1*wW l:=rfl;rw [Y]
  grind
def zd (t:Rat) (e:Rat×Nat×Nat):Rat×Nat×Nat:=(t / e.1,e.2)
def pI (F:Nat->Nat) (e:Rat×Nat×Nat):Rat×(Nat->Rat):=(e.1,λj=>dl (F j) e.2.1+dl (F j) e.2.2)
theorem xQ (i j:Nat):dl i j=0\/dl i j=1:=by
 unfold dl
 split
 ·exact .inr rfl
 ·exact .inl rfl
theorem H4 (F:Nat->Nat) (i c:Nat):∀ {l:List (Rat×Nat×Nat)},(∀ e ∈ l,0<e.1)->-gY (l.map (pI F)) i c<=gY (l.map (nE F)) i c/\gY (l.map (nE F)) i c<=gY (l.map (pI F)) i c
 | [],_=>by
  show -(0:Rat)<=0/\(0:Rat)<=0;constructor <;> decide
 | e::l,h=>by
  obtain ⟨I,J⟩:=H4 F i c (l:=l) (λe he=>h e (List.mem_cons_of_mem _ he));have Y:=h e (List.mem_cons_self ..);have e1:gY ((e::l).map (nE F)) i c=e.1*(dl (F i) e.2.1-dl (F i) e.2.2)*(dl (F c) e.2.1-dl (F c) e.2.2)+gY (l.map (nE F)) i c:=rfl;have e2:gY ((e::l).map (pI F)) i c=e.1*(dl (F i) e.2.1+dl (F i) e.2.2)*(dl (F c) e.2.1+dl (F c) e.2.2)+gY (l.map (pI F)) i c:=rfl;rw [e1,e2];rcases xQ (F i) e.2.1 with a | a <;> rcases xQ (F i) e.2.2 with b | b <;> rcases xQ (F c) e.2.1 with u | u <;> rcases xQ (F c) e.2.2 with v | v <;> rw [a,b,u,v] <;> constructor <;> grind
theorem yl (F:Nat->Nat) (i c:Nat):∀ {l:List (Rat×Nat×Nat)},(∀ e ∈ l,0<e.1)->0<=gY (l.map (pI F)) i c
 | [],_=>XB
 | e::l,h=>by
  have I:=yl F i c (l:=l) (λe he=>h e (List.mem_cons_of_mem _ he));have J:=h e (List.mem_cons_self ..);have e2:gY ((e::l).map (pI F)) i c=e.1*(dl (F i) e.2.1+dl (F i) e.2.2)*(dl (F c) e.2.1+dl (F c) e.2.2)+gY (l.map (pI F)) i c:=rfl;rw [e2];rcases xQ (F i) e.2.1 with a | a <;> rcases xQ (F i) e.2.2 with b | b <;> rcases xQ (F c) e.2.1 with u | u <;> rcases xQ (F c) e.2.2 with v | v <;> rw [a,b,u,v] <;> grind
theorem H6 {F:Nat->Nat}{t:Rat} (ht:vc t) {l:List (Rat×Nat×Nat)} (hq:∀ e ∈ l,vc e.1/\1<=e.1) (i c:Nat):∀ {l':List (Rat×Nat×Nat)},(∀ e ∈ l',e ∈ l)->vc (u4 (F i) l*gY ((l'.map (zd t)).map (nE F)) i c)
 | [],_=>by
  have:u4 (F i) l*gY ((([]:List (Rat×Nat×Nat)).map (zd t)).map (nE F)) i c=0:=by show u4 (F i) l*0=0; grind
  rw [this]; exact ⟨0,rfl⟩
 | e::l',h=>by
  have h1:=H6 (F:=F) ht hq i c (l':=l') (λe he=>h e (RV _ he));have h2:=h e (RR ..);have e1:gY (((e::l').map (zd t)).map (nE F)) i c=(t / e.1)*(dl (F i) e.2.1-dl (F i) e.2.2)*(dl (F c) e.2.1-dl (F c) e.2.2)+gY ((l'.map (zd t)).map (nE F)) i c:=rfl;have I:∀ p q:Nat,vc (dl p q):=λp q=>by
   rcases xQ p q with a | a <;> rw [a]
   ·exact ⟨0,rfl⟩
   ·exact ⟨1,rfl⟩
  have Z:∀ {a b:Rat},vc a->vc b->vc (a-b):=λ{a b} ⟨x,hx⟩ ⟨y,hy⟩=>⟨x-y,by rw [hx,hy,Rat.intCast_sub]⟩
  have e2:u4 (F i) l*((t / e.1)*(dl (F i) e.2.1-dl (F i) e.2.2)*(dl (F c) e.2.1-dl (F c) e.2.2)+gY ((l'.map (zd t)).map (nE F)) i c)=(u4 (F i) l*(t / e.1))*(dl (F i) e.2.1-dl (F i) e.2.2)*(dl (F c) e.2.1-dl (F c) e.2.2)+u4 (F i) l*gY ((l'.map (zd t)).map (nE F)) i c:=by grind
  rw [e1,e2];refine zX ?_ h1
  by_cases Y:e.2.1=F i\/e.2.2=F i
  ·exact s9 (s9 (ER hq e h2 Y t ht) (Z (I _ _) (I _ _))) (Z (I _ _) (I _ _))
  ·have a:dl (F i) e.2.1=0:=qP (λJ=>Y (.inl J.symm))
   have b:dl (F i) e.2.2=0:=qP (λJ=>Y (.inr J.symm));rw [a,b];have:u4 (F i) l*(t / e.1)*(0-0)*(dl (F c) e.2.1-dl (F c) e.2.2)=0:=by grind
   rw [this]; exact ⟨0,rfl⟩
def CZ:List (Rat×Nat×Nat)->Rat
 | []=>0
 | e::l=>e.1+CZ l
theorem vo (i j:Nat):0<=dl i j:=by rcases xQ i j with h | h <;> rw [h] <;> decide
theorem Ky (i j:Nat):dl i j<=1:=by rcases xQ i j with h | h <;> rw [h] <;> decide
theorem Iv {F:Nat->Nat}{p:Nat}:∀ {n:Nat},(∀ i j,i<n->j<n->F i=F j->i=j)->sm n (λc=>dl (F c) p)<=1
 | 0,_=>by unfold sm; decide
 | n+1,h=>by
  have ih:=Iv (F:=F) (p:=p) (n:=n) (λi j hi I e=>h i j (by omega) (by omega) e)
  show sm n (λc=>dl (F c) p)+dl (F n) p<=1
  by_cases e:F n=p
  ·have:sm n (λc=>dl (F c) p)=0:=wI (λi hi=>qP (λe2=>by
    have:=h i n (by omega) (by omega) (e2.trans e.symm)
    omega))
   rw [this];have:=Ky (F n) p
   grind
  ·rw [qP e]; grind
theorem HE {n:Nat}{F:Nat->Nat} (I:∀ i j,i<n->j<n->F i=F j->i=j) (i:Nat):∀ {l:List (Rat×Nat×Nat)},(∀ e ∈ l,0<e.1)->sm n (gY (l.map (pI F)) i)<=4*CZ l
 | [],_=>by
  have:sm n (gY (([]:List (Rat×Nat×Nat)).map (pI F)) i)=0:=wI (λ_ _=>rfl);rw [this];show (0:Rat)<=4*0
  grind
 | e::l,h=>by
  have ih:=HE I i (l:=l) (λe he=>h e (RV _ he));have J:=h e (RR ..);have e1:sm n (gY ((e::l).map (pI F)) i)=(e.1*(dl (F i) e.2.1+dl (F i) e.2.2))*(sm n (λc=>dl (F c) e.2.1)+sm n (λc=>dl (F c) e.2.2))+sm n (gY (l.map (pI F)) i):=by
   rw [<- xN,<- si,<- xN]; rfl
  have e2:CZ (e::l)=e.1+CZ l:=rfl;rw [e1,e2];have s1:=Iv (F:=F) (p:=e.2.1) I;have s2:=Iv (F:=F) (p:=e.2.2) I;have n1:=uh (n:=n) (f:=λc=>dl (F c) e.2.1) (λc _=>vo _ _);have n2:=uh (n:=n) (f:=λc=>dl (F c) e.2.2) (λc _=>vo _ _);have d1:=Ky (F i) e.2.1;have d2:=Ky (F i) e.2.2;have d3:=vo (F i) e.2.1;have d4:=vo (F i) e.2.2;have Y:e.1*(dl (F i) e.2.1+dl (F i) e.2.2)<=e.1*2:=Rat.mul_le_mul_of_nonneg_left (by grind) (Rat.le_of_lt J)
  have Z:0<=e.1*(dl (F i) e.2.1+dl (F i) e.2.2):=Rat.mul_nonneg (Rat.le_of_lt J) (by grind)
  have m2:=q6 Y (show sm n (λc=>dl (F c) e.2.1)+sm n (λc=>dl (F c) e.2.2)<=2 by grind) Z (by grind)
  grind
theorem MO {n:Nat}{F:Nat->Nat}{l:List (Rat×Nat×Nat)}{t:Rat} (hF:∀ i j,i<n->j<n->F i=F j->i=j) (ht:vc t) (t0:0<t) (hq:∀ e ∈ l,vc e.1/\1<=e.1):
  JU n (gY ((l.map (zd t)).map (nE F))) (λi=>u4 (F i) l) (λi c=>u4 (F i) l*gY ((l.map (zd t)).map (pI F)) i c+dl i c) (λi=>u4 (F i) l*(4*CZ (l.map (zd t)))+1):=by
 have hw:∀ e ∈ l.map (zd t),0<e.1:=λe he=>by
  obtain ⟨d,hd,rfl⟩:=List.mem_map.1 he;have Y:=(hq d hd).2;show 0<t / d.1;rw [Rat.div_def];exact Rat.mul_pos t0 (Rat.inv_pos.2 (by grind))
 have I:∀ i,1<=u4 (F i) l:=λi=>Ap (λe he=>(hq e he).2);have J:∀ i c,0<=u4 (F i) l*gY ((l.map (zd t)).map (pI F)) i c:=λi c=>Rat.mul_nonneg (by have:=I i; grind) (yl F i c hw)
 refine ⟨λi _=>Bt (λe he=>(hq e he).1),λi _=>I i,λi c _ _=>H6 ht hq i c (λe he=>he),λi c=>?_,λi _=>?_,λi c _ _=>?_,λi hi=>?_⟩
 ·have:=J i c
  have:=vo i c
  grind
 ·have:=J i i
  rw [rL]; grind
 ·obtain ⟨Y,h2⟩:=H4 F i c hw
  have Z:0<=u4 (F i) l:=by have:=I i; grind
  have m1:=Rat.mul_le_mul_of_nonneg_left Y Z;have m2:=Rat.mul_le_mul_of_nonneg_left h2 Z;have:=vo i c;constructor <;> grind
 ·rw [xN,si]
  have Y:=HE hF i hw;have Z:0<=u4 (F i) l:=by have:=I i; grind
  have m1:=Rat.mul_le_mul_of_nonneg_left Y Z;have h2:sm n (λc=>dl i c)<=1:=by
   have e:sm n (λc=>dl i c)=sm n (λc=>dl ((λx:Nat=>x) c) i):=pB (λc _=>by
    unfold dl
    by_cases a:i=c
    ·subst a; rfl
    ·rw [RS a,RS (λb=>a b.symm)])
   rw [e];exact Iv (λi j _ _ e=>e)
  have e2:sm n (λc=>gY ((l.map (zd t)).map (pI F)) i c)=sm n (gY ((l.map (zd t)).map (pI F)) i):=rfl;rw [e2]
  grind
theorem HH {q:Rat}:∀ {l:List (Rat×Nat×Nat)},(∀ e ∈ l,1<=e.1/\e.1<=q)->wW l<=pr l.length (λ_=>q)
 | [],_=>XB
 | e::l,h=>by
  have I:=HH (q:=q) (l:=l) (λe he=>h e (List.mem_cons_of_mem _ he));have J:=h e (List.mem_cons_self ..);have Y:=BW (l:=l) (λe he=>(h e (List.mem_cons_of_mem _ he)).1);have Z:=q6 I J.2 (by grind) (by grind)
  have e1:wW (e::l)=e.1*wW l:=rfl;have e2:pr (e::l).length (λ_=>q)=pr l.length (λ_=>q)*q:=rfl;rw [e1,e2]; grind
theorem PK {n:Nat}{F:Nat->Nat}{l:List (Rat×Nat×Nat)}{s w:Rat} (Y:∀ i j,i<n->j<n->F i=F j->i=j) (J:∀ e ∈ l,1<=e.1) (s0:0<=s) (hs:s<=w):
  pr n (λi=>u4 (F i) l*s+1)<=wW l*wW l*pr n (λ_=>w+1):=by
 have I:∀ i,1<=u4 (F i) l:=λi=>Ap J;have p1:pr n (λi=>u4 (F i) l*s+1)<=pr n (λi=>u4 (F i) l*(w+1)):=Ij (λi _=>by
  have:=Rat.mul_nonneg (show (0:Rat)<=u4 (F i) l by have:=I i; grind) s0
  grind) (λi _=>by
  have:=Rat.mul_le_mul_of_nonneg_left hs (show (0:Rat)<=u4 (F i) l by have:=I i; grind)
  have:=I i
  grind)
 rw [EL] at p1;have p2:=F6 Y J;have Z:0<=pr n (λi=>u4 (F i) l):=mU (λi _=>by have:=I i; grind)
 have n2:0<=pr n (λ_:Nat=>w+1):=mU (λi _=>by grind)
 exact XC p1 (q6 p2 XB Z n2)
def zk (n:Nat):List Nat:=(List.range n).map (·+1)
theorem xM (n:Nat):(zk n).length=n:=by simp [zk]
theorem ES {n i:Nat} (hi:i<n):(zk n)[i]? = some (i+1):=by simp [zk,hi]
theorem CT {α:Type}{l:List α}{i:Nat}{a:α} (h:l[i]? = some a):l.set i a=l:=by
 apply Tz;intro j
 by_cases e:i=j
 ·subst e
  rw [Sp (RP.1 h).1,h]
 ·rw [Sh e]
theorem Bu {n i:Nat} (hi:i<n):(zk n).set i (i+1)=zk n:=CT (ES hi)
theorem F7 {n i:Nat} (hi:i<n):((zk n).set ((i:Int)).toNat (i+1)).set ((i:Int)).toNat (i+1)=zk n:=by
 rw [RN,Bu hi,Bu hi]
structure vi (rows:List (List LR)) (n w W:Nat) (m:Mt):Prop where
 len:rows.length=n
 row:∀ i,i<n->∃ l,rows[i]? = some l/\l.length=w/\∀ c,c<w->∃ y,l[c]? = some y/\pE y/\RL y W/\rv y=m i c
theorem vi.congr {rows:List (List LR)}{n w W:Nat}{m J:Mt} (h:vi rows n w W m) (e:∀ i c,i<n->c<w->m i c=J i c):vi rows n w W J:=by
 refine ⟨h.len,λi hi=>?_⟩;obtain ⟨l,Y,Z,h3⟩:=h.row i hi;refine ⟨l,Y,Z,λc I=>?_⟩;obtain ⟨y,y1,y2,y3,y4⟩:=h3 c I;exact ⟨y,y1,y2,y3,by rw [y4,e i c hi I]⟩
theorem vi.mono {rows:List (List LR)}{n w W I:Nat}{m:Mt} (h:vi rows n w W m) (e:W<=I):vi rows n w I m:=by
 refine ⟨h.len,λi hi=>?_⟩;obtain ⟨l,J,Y,Z⟩:=h.row i hi;refine ⟨l,J,Y,λc hc=>?_⟩;obtain ⟨y,y1,y2,y3,y4⟩:=Z c hc;exact ⟨y,y1,y2,y3.mono e,y4⟩
theorem vi.set {rows:List (List LR)}{n w W:Nat}{m:Mt} (h:vi rows n w W m) {i c:Nat} (hi:i<n) (hc:c<w) {e:LR} (he:pE e) (hW:RL e W):
  vi (rows.set i (((rows[i]?).getD []).set c e)) n w W (λi' I=>if i'=i/\I=c then rv e else m i' I):=by
 refine ⟨by rw [SO]; exact h.len,λi' Z=>?_⟩
 obtain ⟨l,h1,h2,h3⟩:=h.row i' Z
 by_cases e1:i=i'
 ·subst e1
  refine ⟨l.set c e,by rw [h1,Sp (by rw [h.len]; exact hi)]; rfl,by rw [SO]; exact h2,λI J=>?_⟩
  by_cases e2:c=I
  ·subst e2
   exact ⟨e,by rw [Sp (by omega)],he,hW,by rw [RU ⟨rfl,rfl⟩]⟩
  ·obtain ⟨y,y1,y2,y3,y4⟩:=h3 I J
   exact ⟨y,by rw [Sh e2]; exact y1,y2,y3,by rw [RS (λY=>e2 Y.2.symm)]; exact y4⟩
 ·refine ⟨l,by rw [Sh e1]; exact h1,h2,λI J=>?_⟩
  obtain ⟨y,y1,y2,y3,y4⟩:=h3 I J;exact ⟨y,y1,y2,y3,by rw [RS (λY=>e1 Y.1.symm)]; exact y4⟩
theorem H_ (rows:List (List LR)) (i:Nat):((([]::rows:List (List LR))[i+1]?).getD [])=(rows[i]?).getD []:=rfl
theorem OM (rows:List (List LR)) (i:Nat) (l:List LR):([]::rows:List (List LR)).set (i+1) l=[]::rows.set i l:=rfl
theorem vi.Lt {rows:List (List LR)}{n w W:Nat}{m:Mt} (h:vi rows n w W m) {i:Nat} (hi:i<n):((([]::rows:List (List LR))[i+1]?).getD []).length=w:=by
 obtain ⟨l,I,J,_⟩:=h.row i hi;rw [H_,I]; exact J
theorem p_ {R:Type}{Q:R->Prop}{n i:Nat} (hi:i<n) {f:Nat->Option R} (h:Gd (f (i+1)) Q):Gd (idx (zk n) (i:Int) f) Q:=
 Gd.ix (by omega) (by rw [RN]; exact ES hi) h
theorem tM {R:Type}{Q:R->Prop}{rows:List (List LR)}{n w W:Nat}{m:Mt} (h:vi rows n w W m) {i c:Nat} (hi:i<n) (Y:c<w) {f:LR->Option R}
  (Z:∀ y,pE y->RL y W->rv y=m i c->Gd (f y) Q):Gd (idx ((([]::rows:List (List LR))[i+1]?).getD []) (c:Int) f) Q:=by
 obtain ⟨l,I,h2,J⟩:=h.row i hi;obtain ⟨y,y1,y2,y3,y4⟩:=J c Y;refine Gd.ix (y:=y) (by omega) ?_ (Z y y2 y3 y4)
 rw [H_,I,RN]; exact y1
theorem yH {r:LR} (h:pE r):decide (cW r=0)=decide (rv r=0):=by
 unfold cW;rw [XI,sign_zero h.n,It h]
theorem M7 {a b:LR} (J:pE a) (Y:pE b) (h0:rv b≠0) {A B:Nat} (la:RL a A) (lb:RL b B) (hz:A+B<=800000):
  Gd (qR a b) (λr=>pE r/\RL r (A+B)/\rv r=rv a / rv b):=by
 have:=la.1; have:=la.2; have:=lb.1; have:=lb.2
 have Z:nv b.N.words≠0:=λe=>h0 ((It Y).2 e);unfold qR;refine Gd.eN (wQ J.n Y.d (by omega)) (λx hx=>Gd.eN (wQ J.d Y.n (by omega)) (λz I=>?_))
 refine Gd.eN (yD hx.1 I.1 (G5 I.2.2 J.nz Z) (by omega) (by omega)) (λr hr=>Gd.ret ⟨hr.1,⟨by omega,by omega⟩,?_⟩)
 rw [hr.2.2.2,hx.2.2,I.2.2];unfold rv;rw [Xx,Rat.inv_divInt,Rat.divInt_mul_divInt]
end Go.Sim
namespace Go.Sim
open Go
open _root_.Go.IntKind (i64 u64 u32 u8)
theorem F9 {a:LI} (h:tL a):(0<eX a↔0<gB a)/\(eX a<0↔gB a<0):=by
 have J:=xF h.wf h.tp;unfold eX gB
 by_cases I:a.words=[]
 ·have Y:nv a.words=0:=J.2 I
  have O:a.minus=false:=by
   cases O:a.minus
   ·rfl
   ·exact absurd I (h.sign O)
  simp [I,O,nv]
 ·have Y:nv a.words≠0:=λe=>I (J.1 e)
  have hl:a.words.length≠0:=λe=>I (Sg e);rw [RS (by simp; exact I)]
  cases O:a.minus
  ·simp; omega
  ·simp; omega
theorem Dq {a b c d:Int} (I:0<b) (J:0<d):Rat.divInt a b<Rat.divInt c d↔a*d<c*b:=by
 rw [<- Rat.not_le,<- Int.not_le];refine not_congr ?_;have e:=Rat.divInt_sub_divInt a c (d₁:=b) (d₂:=d) (by omega) (by omega)
 have k:=Xw (a:=a*d-c*b) (b:=b*d) (Int.mul_pos I J);rw [<- e] at k;constructor
 ·intro h
  have:0<=Rat.divInt a b-Rat.divInt c d:=by grind
  have:=k.1 this;omega
 ·intro h
  have:0<=Rat.divInt a b-Rat.divInt c d:=k.2 (by omega)
  grind
theorem pE.Kz {a:LR} (h:pE a):0<gB a.D:=by
 rw [qQ h.pos];have:=h.nz;omega
theorem EN {a b:LR} (J:pE a) (Y:pE b) {A B:Nat} (la:RL a A) (lb:RL b B) (hz:A+B<=800000):
  Gd (mZ a b) (λr=>(0<r↔rv b<rv a)/\(r<0↔rv a<rv b)):=by
 have:=la.1; have:=la.2; have:=lb.1; have:=lb.2
 unfold mZ sx;refine Gd.eN (wQ J.n Y.d (by omega)) (λx Z=>Gd.eN (wQ Y.n J.d (by omega)) (λy hy=>?_))
 refine Gd.eN (P:=λr=>(0<r↔rv b<rv a)/\(r<0↔rv a<rv b)) (Gd.eN (My Z.1 hy.1 (by omega) (by omega)) (λz I=>Gd.ret ?_)) (λr hr=>Gd.ret hr)
 have s:=F9 I.1;rw [I.2.2,Z.2.2,hy.2.2] at s;unfold rv;rw [Dq Y.Kz J.Kz,Dq J.Kz Y.Kz];exact ⟨s.1.trans ⟨λh=>by omega,λh=>by omega⟩,s.2.trans ⟨λh=>by omega,λh=>by omega⟩⟩
theorem DI {a:LR} (h:pE a):cW a<0↔rv a<0:=by
 have k:=Xw (a:=gB a.N) (b:=gB a.D) h.Kz;unfold cW rv;rw [(F9 h.n).2,<- Rat.not_le,k];omega
def OS (q:Rat):Rat:=if q<0 then -q else q
theorem Ip {a:LR} (I:pE a) {A:Nat} (la:RL a A) (Y:A<=800000):Gd (oJ a) (λr=>pE r/\RL r A/\rv r=OS (rv a)):=by
 unfold oJ OS;refine Gd.ite (λh=>?_) (λh=>?_)
 ·have h:rv a<0:=(DI I).1 (RT h)
  refine Gd.eN (Ir I la Y) (λr J=>Gd.ret ?_);rw [RU h]; exact J
 ·have h:¬ rv a<0:=λe=>R2 h ((DI I).2 e)
  rw [RS h];exact Gd.ret ⟨I,la,rfl⟩
abbrev E5:=(List Nat×List (List LR))×List Int
theorem yT {j w:Nat} (I:j<=w) (J:w<=1000):i64.wrap ((j:Int)+1)=((j+1:Nat):Int):=by
 rw [bG ⟨by omega,by omega⟩]; omega
theorem QE {n w W k i:Nat}{l:List Int}{sg:List Nat}{p:Int}{k1 k2:Nat}{nxO:List (List LR)->Option E5}{f:LR}{rows:List (List LR)}{m:Mt}{F:Rat}{Q:E5->Prop}
  (hSG:(sg.set ((l.length:Int):Int).toNat k1).set (p:Int).toNat k2=zk n) (hl:l.length=k) (hk:k<n) (hi:i<n) (hw:w<=1000) (hkw:k<=w) (hW:W<=100000) (hik:i≠k)
  (hf:pE f) (hfl:RL f W) (fv:rv f=F) (hM:vi rows n w W m) (hb:∀ c,k<=c->c<w->RB (m i c-F*m k c) W)
  (hnx:∀ I,vi I n w W (λi' c=>if i'=i/\k<=c then m i c-F*m k c else m i' c)->Gd (nxO ([]::I)) Q):
  Gd (fG (λs n'=>o9 l sg p k1 k2 nxO i f s.1 s.2 n') eI ((k:Int),[]::rows)) Q:=by
 refine Gd.fG (λs=>∃ (j:Nat) (I:List (List LR)),s=((j:Int),[]::I)/\k<=j/\j<=w/\vi I n w W (λi' c=>if i'=i/\k<=c/\c<j then m i c-F*m k c else m i' c)) (λs=>((w:Int)-s.1).toNat) ?_ eI _
  ⟨k,rows,rfl,R9 _,hkw,hM.congr (λi' c _ _=>by rw [RS (by omega)])⟩ (by simp only [eI]; omega)
 rintro _ nx ⟨j,I,rfl,hkj,hjw,J⟩ Y;show Gd (o9 l sg p k1 k2 nxO i f (j:Int) ([]::I) nx) Q;unfold o9;simp only [hSG];refine p_ hi ?_;rw [J.Lt hi]
 by_cases hj:j<w
 ·refine Gd.ite (λ_=>?_) (λh=>absurd (XK.1 h) (by simp; omega))
  rw [hl];refine p_ hk (tM J hk hj (λy hy hyl hyv=>?_));rw [RS (by omega)] at hyv
  refine Gd.ite (λhs=>?_) (λhs=>?_)
  ·refine p_ hi (p_ hi (tM J hi hj (λyi gi gil giv=>p_ hk (tM J hk hj (λyr gr grl grv=>?_)))))
   rw [RS (by omega)] at giv grv
   refine Gd.eN (Am hf gr hfl grl (by omega)) (λmm Z=>Gd.eN (yQ gi Z.1 gil Z.2.1 (by omega)) (λr hr=>tM J hi hj (λ_ _ _ _=>?_)))
   have hv:rv r=m i j-F*m k j:=by rw [hr.2.2,Z.2.2,giv,grv,fv]
   have hrl:RL r W:=hr.1.rb (by rw [hv]; exact hb j hkj hj)
   unfold mS;rw [yT hjw hw];have h2:=J.set hi hj hr.1 hrl;refine Y _ ⟨j+1,_,rfl,by omega,by omega,h2.congr (λi' c _ _=>?_)⟩ (by simp only; omega)
   by_cases e:i'=i/\c=j
   ·obtain ⟨rfl,rfl⟩:=e
    rw [RU ⟨rfl,rfl⟩,RU (by omega),hv]
   ·rw [RS e]
    by_cases e2:i'=i/\k<=c/\c<j
    ·rw [RU e2,RU (by omega)]
    ·rw [RS e2,RS (by omega)]
  ·have h0:m k j=0:=by
    have:=yH hy;rw [hyv] at this;have hs2:decide (cW y=0)=true:=by simpa using hs
    rw [this] at hs2;exact RT hs2
   unfold mS;rw [yT hjw hw];refine Y _ ⟨j+1,I,rfl,by omega,by omega,J.congr (λi' c _ _=>?_)⟩ (by simp only; omega)
   by_cases e:i'=i/\c=j
   ·obtain ⟨rfl,rfl⟩:=e
    rw [if_neg (by omega),if_pos (by omega),h0]; grind
   ·by_cases e2:i'=i/\k<=c/\c<j
    ·rw [RU e2,RU (by omega)]
    ·rw [RS e2,RS (by omega)]
 ·refine Gd.ite (λh=>absurd (RT h) (by omega)) (λ_=>?_)
  unfold jZ;refine hnx I (J.congr (λi' c _ hc=>?_))
  by_cases e:i'=i/\k<=c
  ·rw [RU e,RU (by omega)]
  ·rw [RS e,RS (by omega)]
theorem QD {n w W k:Nat}{l:List Int}{sg:List Nat}{p:Int}{k1 k2:Nat}{K:List (List LR)->Option E5}{rows:List (List LR)}{m:Mt}{Q:E5->Prop}
  (hSG:(sg.set ((l.length:Int):Int).toNat k1).set (p:Int).toNat k2=zk n) (hl:l.length=k) (hk:k<n) (hw:w<=1000) (hkw:k<w) (hW:W<=100000)
  (hM:vi rows n w W m) (hz:∀ c,c<k->m k c=0) (hb:∀ i c,i<n->i≠k->k<=c->c<w->RB (m i c-m i k*m k c) W)
  (hK:∀ I,vi I n w W (λi c=>if i=k then m k c else m i c-m i k*m k c)->Gd (K ([]::I)) Q):
  Gd (kz (λkk s n'=>rh l (k:Int) sg p k1 k2 kk s n') K n 0 ([]::rows)) Q:=by
 refine Gd.kz (λM i s=>i+M=n/\∃ I:List (List LR),s=[]::I/\vi I n w W (λi' c=>if i'<i/\i'≠k then m i' c-m i' k*m k c else m i' c)) ?_ ?_ n 0 _
  ⟨by omega,rows,rfl,hM.congr (λi' c _ _=>by rw [RS (by omega)])⟩
 ·rintro M i _ nx ⟨hiM,I,rfl,J⟩ hnx
  have hi:i<n:=by omega
  unfold rh;simp only [hSG];rw [hl];refine Gd.ite (λh=>?_) (λh=>?_)
  ·have e:i=k:=by have:=RT h; omega
   subst e;unfold jZ;refine hnx _ ⟨by omega,I,rfl,J.congr (λi' c _ _=>?_)⟩
   by_cases e:i'<i/\i'≠i
   ·rw [RU e,RU (by omega)]
   ·rw [RS e,RS (by omega)]
  ·have Y:i≠k:=λe=>by rw [e] at h; simp at h
   refine p_ hi (tM J hi hkw (λy hy hyl hyv=>?_));rw [RS (by omega)] at hyv
   refine Gd.ite (λhs=>?_) (λhs=>?_)
   ·have h0:m i k=0:=by
     have:=yH hy;rw [hyv] at this;rw [this] at hs;exact RT hs
    unfold jZ;refine hnx _ ⟨by omega,I,rfl,J.congr (λi' c _ _=>?_)⟩
    by_cases e:i'=i
    ·subst e
     rw [if_neg (by omega),if_pos ⟨by omega,Y⟩,h0]; grind
    ·by_cases e2:i'<i/\i'≠k
     ·rw [RU e2,RU (by omega)]
     ·rw [RS e2,RS (by omega)]
   ·refine p_ hi (tM J hi hkw (λf hf hfl hfv=>?_))
    rw [RS (by omega)] at hfv
    refine QE (m:=λi' c=>if i'<i/\i'≠k then m i' c-m i' k*m k c else m i' c) hSG hl hk hi hw (by omega) hW Y hf hfl hfv J (λc h1 h2=>?_) (λZ hM''=>?_)
    ·rw [RS (by omega),RS (by omega)]
     exact hb i c hi Y h1 h2
    ·refine hnx _ ⟨by omega,Z,rfl,hM''.congr (λi' c _ _=>?_)⟩
     by_cases e:i'=i
     ·subst e
      rw [RU (show i'<i'+1/\i'≠k from ⟨by omega,Y⟩),RS (show ¬ (i'<i'/\i'≠k) by omega),RS (show ¬ (k<i'/\k≠k) by omega)]
      by_cases e3:k<=c
      ·rw [RU ⟨rfl,e3⟩]
      ·rw [if_neg (by omega),hz c (by omega)]; grind
     ·rw [RS (show ¬ (i'=i/\k<=c) from λhh=>e hh.1)]
      by_cases e2:i'<i/\i'≠k
      ·rw [RU e2,RU (by omega)]
      ·rw [RS e2,RS (by omega)]
 ·rintro i _ ⟨hi,I,rfl,J⟩
  refine hK I (J.congr (λi' c hi' _=>?_))
  by_cases e:i'=k
  ·subst e; rw [RS (by omega),RU rfl]
  ·rw [RU ⟨by omega,e⟩,RS e]
def KD (k:Nat) (m:Mt):Mt:=λi c=>if i=k/\k<=c then m k c / m k k else m i c
theorem Eg {k i:Nat} (h:i≠k) (m:Mt) (c:Nat):KD k m i c=m i c:=RS (λI=>h I.1)
theorem GM {k c:Nat} (h:k<=c) (m:Mt):KD k m k c=m k c / m k k:=RU ⟨rfl,h⟩
theorem GN {k c:Nat} (h:c<k) (m:Mt):KD k m k c=m k c:=RS (λI=>by omega)
theorem QC {n w W k:Nat}{l:List Int}{sg:List Nat}{p:Int}{k1 k2:Nat}{nx:(List Int×Int×List Nat×List (List LR))->Option E5}{d:LR}{rows:List (List LR)}{m:Mt}{Q:E5->Prop}
  (hSG:(sg.set ((l.length:Int):Int).toNat k1).set (p:Int).toNat k2=zk n) (hl:l.length=k) (Y:k<n) (hn:n<=1000) (hw:w<=1000) (hkw:k<w) (hW:W<=100000)
  (hd:pE d) (hdl:RL d W) (hdv:rv d=m k k) (hd0:m k k≠0) (hM:vi rows n w W m) (hz:∀ c,c<k->m k c=0) (hb:∀ i c,i<n->c<w->RB (vG k m i c) W)
  (hnx:∀ I,vi I n w W (vG k m)->Gd (nx (l++[(k:Int)],((k+1:Nat):Int),zk n,[]::I)) Q):
  Gd (fG (λs n'=>oZ l (k:Int) sg nx p k1 k2 d s.1 s.2 n') eI ((k:Int),[]::rows)) Q:=by
 refine Gd.fG (λs=>∃ (j:Nat) (I:List (List LR)),s=((j:Int),[]::I)/\k<=j/\j<=w/\vi I n w W (λi' c=>if i'=k/\k<=c/\c<j then m k c / m k k else m i' c)) (λs=>((w:Int)-s.1).toNat) ?_ eI _
  ⟨k,rows,rfl,R9 _,by omega,hM.congr (λi' c _ _=>by rw [RS (by omega)])⟩ (by simp only [eI]; omega)
 rintro _ nxL ⟨j,I,rfl,hkj,hjw,J⟩ hnext;show Gd (oZ l (k:Int) sg nx p k1 k2 d (j:Int) ([]::I) nxL) Q;have hdiv:m k k / m k k=1:=by rw [Xx]; exact XE _ hd0
 unfold oZ;simp only [hSG];rw [hl];refine p_ Y ?_;rw [J.Lt Y]
 by_cases hj:j<w
 ·refine Gd.ite (λ_=>?_) (λh=>absurd (XK.1 h) (by simp; omega))
  refine p_ Y (p_ Y (tM J Y hj (λy hy hyl hyv=>?_)));rw [RS (by omega)] at hyv
  refine Gd.eN (M7 hy hd (by rw [hdv]; exact hd0) hyl hdl (by omega)) (λr hr=>tM J Y hj (λ_ _ _ _=>?_))
  have hv:rv r=m k j / m k k:=by rw [hr.2.2,hyv,hdv]
  have hrl:RL r W:=hr.1.rb (by
   rw [hv];have:=hb k j Y hj;unfold vG at this;rw [RU rfl] at this;exact this)
  rw [yT hjw hw];refine hnext _ ⟨j+1,_,rfl,by omega,by omega,(J.set Y hj hr.1 hrl).congr (λi' c _ _=>?_)⟩ (by simp only; omega)
  by_cases e:i'=k/\c=j
  ·obtain ⟨rfl,rfl⟩:=e
   rw [RU ⟨rfl,rfl⟩,RU (by omega),hv]
  ·rw [RS e]
   by_cases e2:i'=k/\k<=c/\c<j
   ·rw [RU e2,RU (by omega)]
   ·rw [RS e2,RS (by omega)]
 ·refine Gd.ite (λh=>absurd (RT h) (by omega)) (λ_=>?_)
  rw [xM,RN];refine Gd.nd (by omega) ?_
  refine QD (m:=KD k m) hSG hl Y hw hkw hW (J.congr (λi' c _ hc=>?_)) (λc hc=>(GN hc m).trans (hz c hc)) (λi c hi hik h1 h2=>?_) (λZ hM''=>?_)
  ·unfold KD
   by_cases e:i'=k/\k<=c
   ·rw [RU e,RU (by omega)]
   ·rw [RS e,RS (by omega)]
  ·rw [Eg hik,Eg hik,GM h1]
   have:=hb i c hi h2;unfold vG at this;rw [RS hik] at this;exact this
  ·refine Gd.nd (by rw [show ([(k:Int)]:List Int).length=1 from rfl]; omega) ?_
   unfold oY;rw [yT (show k<=w by omega) hw]
   refine hnx Z (hM''.congr (λi c _ _=>?_));unfold vG
   by_cases e:i=k
   ·subst e
    rw [RU rfl,RU rfl]
    by_cases e2:i<=c
    ·rw [GM e2]
    ·rw [GN (by omega),hz c (by omega),Rat.div_def]; grind
   ·rw [RS e,RS e,Eg e,Eg e]
    by_cases e2:k<=c
    ·rw [GM e2]
    ·rw [GN (by omega),hz c (by omega),Rat.div_def]; grind
theorem Jt {n w W k:Nat}{Y:Int}{l:List Int}{nx:(List Int×Int×List Nat×List (List LR))->Option E5}{rows:List (List LR)}{m:Mt}{Q:E5->Prop}
  (hl:l.length=k) (I:k<n) (hc:(k:Int)<Y) (hn:n<=1000) (hw:w<=1000) (Z:k<w) (hW:W<=100000)
  (hd0:m k k≠0) (hM:vi rows n w W m) (hz:∀ c,c<k->m k c=0) (hb:∀ i c,i<n->c<w->RB (vG k m i c) W)
  (hnx:∀ J,vi J n w W (vG k m)->Gd (nx (l++[(k:Int)],((k+1:Nat):Int),zk n,[]::J)) Q):
  Gd (mR Y l (k:Int) (zk n) ([]::rows) nx) Q:=by
 unfold mR;rw [hl,xM];refine Gd.ite (λ_=>?_) (λh=>absurd h (by simp; omega))
 refine Gd.fG (λs=>s=(k:Int)) (λ_=>0) ?_ eI _ rfl (by simp only [eI]; omega)
 rintro _ nx2 rfl _;unfold tk;rw [xM];refine Gd.ite (λ_=>?_) (λh=>absurd (XK.1 h) (by simp; omega))
 refine p_ I (tM hM I Z (λy hy hyl hyv=>?_));rw [yH hy,hyv];refine Gd.ite (λh=>absurd (RT h) hd0) (λ_=>?_);unfold o_;rw [xM,hl];refine Gd.ite (λh=>absurd (RT h) (by omega)) (λ_=>?_)
 refine p_ I (p_ I (p_ I ?_));rw [F7 I,RN,Bu I];refine p_ I (p_ I (tM hM I Z (λd hd hdl hdv=>?_)));exact QC (by rw [hl]; exact F7 I) hl I hn hw Z hW hd hdl hdv hd0 hM hz hb hnx
end Go.Sim
