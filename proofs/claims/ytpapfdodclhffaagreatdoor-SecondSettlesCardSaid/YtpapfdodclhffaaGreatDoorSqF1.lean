/-
  The proof, part F1.
-/
import Derived.Lib.ItoaNum
import Derived.Lib.ParseIntB
import Derived.KernelRfl
import Derived.Test.YtpapfdodclhffaaGreatDoorSqA2
set_option linter.unusedVariables false
set_option linter.unusedSimpArgs false
set_option linter.unusedSectionVars false
set_option linter.unnecessarySimpa false
namespace Go.Sim
abbrev Xx := @BitVec.ofInt_natCast
abbrev Xy := @BitVec.toNat_ofNat
abbrev Xz := @Bool.eq_false_or_eq_true
abbrev XA := @Bool.not_eq_false'
abbrev XB := @Bool.or_eq_false_iff
abbrev XE := @Int.mul_add
abbrev XF := @Int.mul_assoc
abbrev XG := @Int.mul_sub
abbrev XH := @Int.natCast_add
abbrev XK := @Go.Lib.decDigits_one
abbrev XO := @List.drop_of_length_le
abbrev XP := @List.eq_nil_or_concat
abbrev XT := @List.getLast?_eq_getElem?
abbrev XU := @List.head?_cons
abbrev XV := @List.length_eq_one_iff
abbrev XY := @List.length_nil
abbrev XZ := @List.length_pos_iff
abbrev X0 := @List.mem_or_eq_of_mem_set
abbrev X3 := @List.mem_replicate
abbrev X6 := @List.take_add_one
abbrev X8 := @Nat.and_two_pow_sub_one_eq_mod
abbrev X9 := @Nat.div_eq_of_lt
abbrev X_ := @Nat.div_lt_iff_lt_mul
abbrev Ya := @Nat.le_div_iff_mul_le
abbrev Yb := @Nat.lt_of_mul_lt_mul_left
abbrev Yc := @Nat.mod_add_div
abbrev Yd := @Nat.mul_add
abbrev Ye := @Nat.mul_assoc
abbrev Yf := @Nat.mul_comm
abbrev Yg := @Nat.mul_le_mul_left
abbrev Yh := @Nat.mul_zero
abbrev Yi := @Nat.pow_add
abbrev Yj := @Nat.pow_le_pow_left
abbrev Yk := @Nat.pow_le_pow_right
abbrev Yl := @Nat.pow_lt_pow_iff_right
abbrev Ym := @Nat.pow_mul
abbrev Yn := @Nat.pow_pos
abbrev Yo := @Nat.pow_succ
abbrev Yp := @Nat.pow_zero
abbrev YW := @Rat.divInt_nonneg_iff_of_pos_right
abbrev YX := @Rat.div_def
abbrev YZ := @Rat.intCast_mul
abbrev Y0 := @Rat.intCast_neg
abbrev Y1 := @Rat.le_refl
abbrev Y2 := @Rat.le_trans
abbrev Y3 := @Rat.mul_eq_zero
abbrev Y4 := @Rat.mul_inv_cancel
abbrev Y5 := @Rat.mul_nonneg
abbrev Y9 := @decide_eq_decide
abbrev Y_ := @decide_eq_false
abbrev Za := @decide_eq_false_iff_not
abbrev Zb := @decide_eq_true
end Go.Sim
namespace Go.Sim
open Go
open _root_.Go.IntKind (i64 u64 u32 u8)
abbrev WB:Nat:=4294967296
def nv:List cL->Nat
 | []=>0
 | y::l=>y.n.toNat+WB*nv l
def Wf (l:List cL):Prop:=∀ y ∈ l,0<=y.n/\y.n<4294967296
theorem Wf.nil:Wf []:=λy h=>by cases h
theorem Wf.app {a b:List cL} (I:Wf a) (J:Wf b):Wf (a++b):=λy h=>by
 rcases Sf.1 h with h | h
 ·exact I y h
 ·exact J y h
theorem Wf.one {v:Int} (h:0<=v/\v<4294967296):Wf [⟨v⟩]:=λy I=>by
 rw [Sy] at I; subst I; exact h
theorem Wf.take {l:List cL} (h:Wf l) (k:Nat):Wf (l.take k):=λy I=>h y (Uu I)
theorem Fz:∀ (a b:List cL),nv (a++b)=nv a+WB ^ a.length*nv b
 | [],b=>by simp [nv]
 | y::a,b=>by
  rw [Ur,nv,Fz a b,nv,R_,Yo];rw [Yd,<- Ye,Yf (WB ^ a.length) WB,Uv]
theorem DE (y:cL):nv [y]=y.n.toNat:=by simp [nv]
theorem vS (a:List cL) (y:cL):nv (a++[y])=nv a+WB ^ a.length*y.n.toNat:=by rw [Fz,DE]
theorem ui:∀ {l:List cL},Wf l->nv l<WB ^ l.length
 | [],_=>by simp [nv]
 | y::l,h=>by
  have h1:=ui (l:=l) (λz I=>h z (Sa _ I));have h2:=h y (by simp)
  rw [nv,R_,Yo];have:WB*nv l+WB<=WB ^ l.length*WB:=by
   rw [Yf (WB ^ l.length) WB,<- Nat.mul_succ];exact Yg _ h1
  have:y.n.toNat<WB:=by show y.n.toNat<4294967296; omega
  omega
theorem sK {l:List cL}{k:Nat}{y:cL} (h:l[k]? = some y):nv (l.take (k+1))=nv (l.take k)+WB ^ k*y.n.toNat:=by
 have I:=(R3.1 h).1;rw [X6,h];show nv (l.take k++[y])=_;rw [vS,Ss,S7 (by omega)]
theorem L8 (n:Nat):nv (List.replicate n (⟨0⟩:cL))=0:=by
 induction n with
 | zero=>rfl
 | succ n ih=>rw [UL,nv,ih]; rfl
theorem xN {l:List cL}{k:Nat}{v:cL} (h:k<l.length):(l.set k v).take (k+1)=l.take k++[v]:=by
 rw [X6,SC h,Vb (Sj _)]; rfl
theorem yV (n:Int):u32.wrap n=n%4294967296:=by simp [IntKind.wrap,IntKind.bits,IntKind.signed]
theorem FP (n:Int):u64.wrap n=n%18446744073709551616:=by simp [IntKind.wrap,IntKind.bits,IntKind.signed]
theorem i_ {n:Int} (h:0<=n/\n<18446744073709551616):u64.wrap n=n:=by rw [FP]; omega
theorem EJ (n:Int):pL .u64 n 32=n / 4294967296:=by
 unfold pL;rw [show (min (32:Int).toNat u64.bits)=32 by decide,UR _ (by decide)]
 rfl
theorem Mn (n:Int):pL .i64 n 32=n / 4294967296:=by
 unfold pL;rw [show (min (32:Int).toNat i64.bits)=32 by decide,UR _ (by decide)]
 rfl
abbrev LI:=aF
structure uw (a:LI):Prop where
 wf:Wf a.words
 top:∀ y,a.words.getLast? = some y->y.n≠0
 sign:a.minus=true->a.words≠[]
def iK (a:LI):Int:=if a.minus=true then -(nv a.words:Int) else (nv a.words:Int)
theorem uW (minus:Bool):∀ (w:List cL),Wf w->w.length<=1000000->Gd (kN minus w) (λr=>uw r/\r.words.length<=w.length/\nv r.words=nv w/\(r.minus=true↔minus=true/\nv w≠0)):=by
 intro w hw hl;unfold kN;refine Gd.iV (λ(l:List cL)=>Wf l/\l.length<=w.length/\nv l=nv w) (λl=>l.length) ?_ gO w ⟨hw,Sj _,rfl⟩ (by simp only [gO]; omega)
 rintro l nx ⟨h1,h2,Z⟩ hnx;have Y:(∀ y,l.getLast? = some y->y.n≠0)->Gd (pQ minus l) (λr=>uw r/\r.words.length<=w.length/\nv r.words=nv w/\(r.minus=true↔minus=true/\nv w≠0)):=λht=>by
  have hz:nv l=0->l=[]:=λI=>by
   rcases XP l with h | ⟨a,y,h⟩
   ·exact h
   ·exfalso
    have h:l=a++[y]:=by simpa using h
    have J:=ht y (by rw [h]; simp)
    have hyw:=h1 y (by rw [h]; simp)
    rw [h,vS] at I;have hp:0<WB ^ a.length:=Yn (by decide)
    have:0<WB ^ a.length*y.n.toNat:=Nat.mul_pos hp (by omega)
    omega
  unfold pQ;refine Gd.ite (λO=>Gd.ret ⟨⟨h1,ht,?_⟩,h2,Z,?_⟩) (λO=>Gd.ret ⟨⟨h1,ht,λh=>by cases h⟩,h2,Z,?_⟩)
  ·intro h e
   have h:decide (0<(l.length:Int))=true:=h;have e:l=[]:=e;rw [e] at h; simp at h
  ·constructor
   ·intro h
    have h:0<(l.length:Int):=R7 h;refine ⟨O,λI=>?_⟩;rw [<- Z] at I;have:=hz I;rw [this] at h; simp at h
   ·intro h
    show decide (0<(l.length:Int))=true;rw [SO];cases l with
    | nil=>exact absurd (Z.symm.trans rfl) h.2
    | cons a b=>simp
  ·rw [O]
   constructor
   ·intro h; cases h
   ·intro h; cases h.1
 unfold vr;refine Gd.ite (λh=>?_) (λh=>Y (λy J=>?_))
 ·have hpos:0<l.length:=by have:=R7 h; omega
  have hw1:i64.wrap ((l.length:Int)-1)=((l.length-1:Nat):Int):=by rw [bZ ⟨by omega,by omega⟩]; omega
  rw [hw1];refine Gd.iT (by omega) (Gd.ite (λI=>?_) (λI=>Y (λy J=>?_)))
  ·have I:(l[l.length-1]).n=0:=R7 I
   refine Gd.nd ⟨by omega,by omega⟩ ?_
   have hs:pM l 0 (((l.length-1:Nat):Int).toNat)=l.take (l.length-1):=by simp [pM]
   rw [hs];refine hnx _ ⟨h1.take _,by rw [Ss]; omega,?_⟩ (by rw [Ss]; omega)
   have:=sK (l:=l) (k:=l.length-1) (RY (by omega))
   rw [show l.length-1+1=l.length by omega,TY,I] at this
   rw [<- Z,this]; simp
  ·have I:(l[l.length-1]).n≠0:=Sc I
   rw [XT,RY (by omega)] at J
   rw [<- RX J]; exact I
 ·have h:¬ 0<(l.length:Int):=Sc h
  have:l=[]:=Sv (by omega)
  rw [this] at J; cases J
theorem Gg {a b:List cL} (ha:Wf a) (hb:Wf b) (hl:b.length<=a.length) (I:a.length<=1000000):
  Gd (mJ a b) (λr=>Wf r/\r.length=a.length+1/\nv r=nv a+nv b):=by
 have w1:i64.wrap ((a.length:Int)+1)=((a.length+1:Nat):Int):=by rw [bZ ⟨by omega,by omega⟩]; omega
 unfold mJ;rw [w1];refine Gd.nd ⟨by omega,by omega⟩ ?_
 refine Gd.lH (λm k (z:List cL×Int)=>k+m=a.length/\z.1.length=a.length+1/\Wf z.1/\0<=z.2/\z.2<=1/\nv (z.1.take k)+WB ^ k*z.2.toNat=nv (a.take k)+nv (b.take k)) ?_ ?_ _ 0 _ ⟨by simp,by simp,λy Z=>?_,T_ _,by show (0:Int)<=1; omega,by simp [nv]⟩
 ·rintro m k ⟨l,c⟩ nx ⟨h0,h1,h2,h3,h4,h5⟩ hnx
  simp only at h1 h2 h3 h4 h5 hnx ⊢;have hka:k<a.length:=by omega
  have J:((k:Int)).toNat=k:=by omega
  obtain ⟨y,Z⟩:∃ y,a[k]? = some y:=⟨_,RY hka⟩;have hyw:=ha y (Sd Z);have fin:∀ (n:Int) (x:Nat),n=c+y.n+x->x<WB->nv (b.take (k+1))=nv (b.take k)+WB ^ k*x->Gd (mI l nx k n) _:=λn x hn Y hb1=>by
   unfold mI;rw [EJ,J,yV];have Y:x<4294967296:=Y;refine Gd.iT (by omega) (hnx _ ⟨by omega,by simp [h1],?_,by simp only; omega,by simp only; omega,?_⟩)
   ·intro z I
    rcases X0 I with I | I
    ·exact h2 z I
    ·rw [I]; simp only; omega
   ·simp only
    rw [xN (by omega),vS,Ss,S7 (by omega),sK Z,hb1]
    simp only;have e1:(n%4294967296).toNat+WB*(n / 4294967296).toNat=c.toNat+y.n.toNat+x:=by
     show (n%4294967296).toNat+4294967296*(n / 4294967296).toNat=_;omega
    have e2:WB ^ k*(n%4294967296).toNat+WB ^ (k+1)*(n / 4294967296).toNat=WB ^ k*c.toNat+WB ^ k*y.n.toNat+WB ^ k*x:=by
     rw [Yo,Ye,<- Yd,e1,Yd,Yd]
    omega
  unfold sR;refine Gd.ix (by omega) (by rw [J]; exact Z) (Gd.ite (λh=>?_) (λh=>?_))
  ·have hkb:k<b.length:=by have:=R7 h; omega
   obtain ⟨x,Y⟩:∃ x,b[k]? = some x:=⟨_,RY hkb⟩;have hxw:=hb x (Sd Y);refine Gd.ix (by omega) (by rw [J]; exact Y) (fin _ x.n.toNat ?_ (by show x.n.toNat<4294967296; omega) (sK Y))
   rw [i_ (n:=y.n) (by omega),i_ (n:=c+y.n) (by omega),i_ (n:=x.n) (by omega),i_ (by omega)]
   omega
  ·have hkb:b.length<=k:=by have:=Sc h; omega
   refine fin _ 0 ?_ (by decide) ?_
   ·rw [i_ (n:=y.n) (by omega),i_ (by omega)]; simp
   ·rw [Sh (by omega),Sh (by omega)]; simp
 ·rintro k ⟨l,c⟩ ⟨h0,h1,h2,h3,h4,h5⟩
  simp only at h1 h2 h3 h4 h5 ⊢;have hk:k=a.length:=by omega
  subst hk;have hln:((a.length:Int)).toNat=a.length:=by omega
  rw [hln,yV];refine Gd.iT (by omega) (Gd.ret ⟨?_,by simp [h1],?_⟩)
  ·intro z I
   rcases X0 I with I | I
   ·exact h2 z I
   ·rw [I]; simp only; omega
  ·have e:=xN (l:=l) (k:=a.length) (v:=⟨c%4294967296⟩) (by omega)
   rw [Sh (by simp; omega)] at e
   rw [e,vS,Ss,S7 (by omega)]
   simp only;rw [TY,Sh hl] at h5;rw [show (c%4294967296).toNat=c.toNat by omega]
   exact h5
 ·rw [X3] at Z
  rw [Z.2]; simp
theorem OH {a b:List cL} (Y:Wf a) (Z:Wf b) (I:a.length<=1000000) (J:b.length<=1000000):
  Gd (qO a b) (λr=>Wf r/\r.length=max a.length b.length+1/\nv r=nv a+nv b):=by
 unfold qO;refine Gd.ite (λh=>(Gg Z Y (by have:=R7 h; omega) J).mono ?_) (λh=>(Gg Y Z (by have:=Sc h; omega) I).mono ?_)
 ·rintro r ⟨h1,h2,h3⟩
  have:=R7 h;exact ⟨h1,by omega,by omega⟩
 ·rintro r ⟨h1,h2,h3⟩
  have:=Sc h;exact ⟨h1,by omega,by omega⟩
def xg (l:List cL):Prop:=∀ y,l.getLast? = some y->y.n≠0
theorem GQ {l:List cL} (J:Wf l) (ht:xg l) (I:l≠[]):WB ^ (l.length-1)<=nv l:=by
 rcases XP l with h | ⟨a,y,h⟩
 ·exact absurd h I
 ·have h:l=a++[y]:=by simpa using h
  have Z:=ht y (by rw [h]; simp)
  have Y:=J y (by rw [h]; simp)
  rw [h,vS,Sg,S4,Nat.add_sub_cancel];have:WB ^ a.length*1<=WB ^ a.length*y.n.toNat:=Yg _ (by omega)
  omega
theorem wJ {a b:List cL} (J:Wf a) (Y:Wf b) (I:xg b) (h:a.length<b.length):nv a<nv b:=by
 have h1:=ui J;have h2:=GQ Y I (by intro e; rw [e] at h; simp at h)
 have Z:WB ^ a.length<=WB ^ (b.length-1):=Yk (by decide) (by omega)
 omega
theorem L5 {a b:List cL} (J:Wf a) (Y:Wf b):a.length=b.length->nv a=nv b->a=b:=by
 induction a generalizing b with
 | nil=>intro h _; exact (Sv h.symm).symm
 | cons x a ih=>
  intro h e;cases b with
  | nil=>simp at h
  | cons y b=>
   have Z:=J x (by simp); have hy:=Y y (by simp)
   rw [nv,nv] at e;have e1:x.n.toNat=y.n.toNat:=by
    have:=SJ (·%WB) e;simp only [Nat.add_mul_mod_self_left] at this;rw [T0 (by show x.n.toNat<4294967296; omega),T0 (by show y.n.toNat<4294967296; omega)] at this
    exact this
   have e2:nv a=nv b:=by
    rw [e1] at e;exact Nat.eq_of_mul_eq_mul_left (by decide) (Nat.add_left_cancel e)
   have:=ih (λz I=>J z (Sa _ I)) (λz I=>Y z (Sa _ I)) (by simpa using h) e2
   cases x; cases y
   simp only at e1 Z hy;rw [this]
   congr 2; omega
theorem sD {l:List cL}{k:Nat}{x:cL} (h:l[k]? = some x):l.drop k=x::l.drop (k+1):=by
 obtain ⟨I,J⟩:=R3.1 h;rw [SF I,J]
theorem xK {l:List cL}{k:Nat}{x:cL} (h:l[k]? = some x):nv l=nv (l.take k)+WB ^ k*(x.n.toNat+WB*nv (l.drop (k+1))):=by
 have I:=(R3.1 h).1;have e:nv l=nv (l.take k++l.drop k):=by rw [TA]
 rw [e,Fz,sD h,Ss,S7 (by omega)]
 rfl
def QL (r:Int) (x y:Nat):Prop:=(r<0↔x<y)/\(r=0↔x=y)
theorem K7 {a b : List cL} (ha : Wf a) (hb : Wf b) (hta : xg a) (htb : xg b) (hza : a.length ≤ 1000000) (hzb : b.length ≤ 1000000) : Gd (oX a b) (fun r => QL r (nv a) (nv b)) := by
  unfold oX;refine Gd.ite (fun h => Gd.ret ?_) (fun h => ?_)
  · have h : ¬ (a.length : Int) = b.length := by simpa using h
    rw [bZ ⟨by omega, by omega⟩]
    rcases Nat.lt_or_gt_of_ne (show a.length ≠ b.length by omega) with hl | hl
    · have := wJ ha hb htb hl
      exact ⟨⟨fun _ => this, fun _ => by omega⟩, ⟨fun h => by omega, fun h => by omega⟩⟩
    · have := wJ hb ha hta hl
      exact ⟨⟨fun h => by omega, fun h => by omega⟩, ⟨fun h => by omega, fun h => by omega⟩⟩
  · have hl : a.length = b.length := by have : (a.length : Int) = b.length := by simpa using h
                                        omega
    rw [bZ ⟨by omega, by omega⟩]
    refine Gd.iV (fun (i : Int) => -1 ≤ i ∧ i < a.length ∧ a.drop (i + 1).toNat = b.drop (i + 1).toNat) (fun i => (i + 1).toNat) ?_ gO _ ⟨by omega, by omega, ?_⟩ (by simp only [gO]; omega)
    · rintro i nx ⟨h1, h2, Z⟩ hnx
      unfold sS;refine Gd.ite (fun hi => ?_) (fun hi => Gd.ret ?_)
      · have hi : 0 ≤ i := R7 hi
        obtain ⟨k, rfl⟩ : ∃ k : Nat, i = k := ⟨i.toNat, by omega⟩
        obtain ⟨x, hx⟩ : ∃ x, a[k]? = some x := ⟨_, RY (by omega)⟩
        obtain ⟨y, hy⟩ : ∃ y, b[k]? = some y := ⟨_, RY (by omega)⟩
        have hxw := ha x (Sd hx); have hyw := hb y (Sd hy)
        have Y : ((k : Int)).toNat = k := by omega
        rw [show ((k : Int) + 1).toNat = k + 1 by omega] at Z
        have sa := xK hx;have sb := xK hy;rw [← Z] at sb;have la := ui (ha.take k); have lb := ui (hb.take k)
        rw [Ss, S7 (by omega)] at la lb
        generalize nv (a.drop (k + 1)) = T at sa sb;generalize nv (a.take k) = ta at sa la;generalize nv (b.take k) = tb at sb lb;generalize WB ^ k = P at sa sb la lb;have I : ∀ (u v tu tv : Nat), u < v → tu < P → tu + P * (u + WB * T) < tv + P * (v + WB * T) := fun u v tu tv huv hu => by
          have : P * (u + 1) ≤ P * v := Yg _ huv;rw [Yd] at this;rw [Yd, Yd];omega
        refine Gd.ix (by omega) (by rw [Y]; exact hx) (Gd.ix (by omega) (by rw [Y]; exact hy) (Gd.ite (fun hne => ?_) (fun he => ?_)))
        · have hne : ¬ x.n = y.n := by simpa using hne
          refine Gd.ix (by omega) (by rw [Y]; exact hx) (Gd.ix (by omega) (by rw [Y]; exact hy) (Gd.ite (fun J => Gd.ret ?_) (fun J => Gd.ret ?_)))
          · have J : x.n < y.n := R7 J
            have := I x.n.toNat y.n.toNat ta tb (by omega) la
            rw [← sa, ← sb] at this;exact ⟨⟨fun _ => this, fun _ => by omega⟩, ⟨fun h => by omega, fun h => by omega⟩⟩
          · have J : ¬ x.n < y.n := Sc J
            have := I y.n.toNat x.n.toNat tb ta (by omega) lb
            rw [← sa, ← sb] at this;exact ⟨⟨fun h => by omega, fun h => by omega⟩, ⟨fun h => by omega, fun h => by omega⟩⟩
        · have he : x.n = y.n := by simpa using he
          rw [bZ ⟨by omega, by omega⟩]
          refine hnx _ ⟨by omega, by omega, ?_⟩ (by omega)
          rw [show ((k : Int) - 1 + 1).toNat = k by omega, sD hx, sD hy, Z]
          have : x = y := by cases x; cases y; simp only at he; rw [he]
          rw [this]
      · have hi : ¬ 0 ≤ i := Sc hi
        have : (i + 1).toNat = 0 := by omega
        rw [this, Tr, Tr] at Z;rw [Z];exact ⟨⟨fun h => by omega, fun h => by omega⟩, ⟨fun _ => rfl, fun _ => rfl⟩⟩
    · rw [show ((a.length : Int) - 1 + 1).toNat = a.length by omega, Vc, XO (by omega)]
theorem Mw {a b:List cL} (ha:Wf a) (hb:Wf b) (hle:nv b<=nv a) (hl:b.length<=a.length) (hz:a.length<=1000000):
  Gd (o9 a b) (λr=>Wf r/\r.length=a.length/\nv r=nv a-nv b):=by
 unfold o9;refine Gd.nd ⟨by omega,by omega⟩ ?_
 refine Gd.lH (λm k (z:List cL×Int)=>k+m=a.length/\z.1.length=a.length/\Wf z.1/\-1<=z.2/\z.2<=0/\(nv (z.1.take k):Int)+(WB ^ k:Nat)*z.2=nv (a.take k)-nv (b.take k)) ?_ ?_ _ 0 _ ⟨by simp,by simp,λy Z=>?_,by show (-1:Int)<=0; omega,T_ _,by simp [nv]⟩
 ·rintro m k ⟨l,c⟩ nx ⟨h0,h1,h2,h3,h4,J⟩ hnx
  simp only at h1 h2 h3 h4 J hnx ⊢;have hka:k<a.length:=by omega
  have I:((k:Int)).toNat=k:=by omega
  obtain ⟨y,Z⟩:∃ y,a[k]? = some y:=⟨_,RY hka⟩;have hyw:=ha y (Sd Z);have fin:∀ (n:Int) (x:Nat),n=c+y.n-x->x<WB->nv (b.take (k+1))=nv (b.take k)+WB ^ k*x->Gd (mK l nx k n) _:=λn x hn Y hb1=>by
   unfold mK;rw [Mn,I,yV];have Y:x<4294967296:=Y;refine Gd.iT (by omega) (hnx _ ⟨by omega,by simp [h1],?_,by simp only; omega,by simp only; omega,?_⟩)
   ·intro z hz
    rcases X0 hz with hz | hz
    ·exact h2 z hz
    ·rw [hz]; simp only; omega
   ·simp only
    rw [xN (by omega),vS,Ss,S7 (by omega),sK Z,hb1]
    simp only;have e1:((n%4294967296).toNat:Int)+4294967296*(n / 4294967296)=c+y.n.toNat-x:=by omega
    have e2:((WB ^ k:Nat):Int)*((n%4294967296).toNat:Int)+((WB ^ (k+1):Nat):Int)*(n / 4294967296)=((WB ^ k:Nat):Int)*c+((WB ^ k:Nat):Int)*(y.n.toNat:Int)-((WB ^ k:Nat):Int)*(x:Int):=by
     rw [Yo,SX,XF,<- XE,show ((WB:Nat):Int)=4294967296 from rfl,e1,XG,XE]
    simp only [XH,SX] at *
    omega
  unfold sU;refine Gd.ix (by omega) (by rw [I]; exact Z) (Gd.ite (λh=>?_) (λh=>?_))
  ·have hkb:k<b.length:=by have:=R7 h; omega
   obtain ⟨x,Y⟩:∃ x,b[k]? = some x:=⟨_,RY hkb⟩;have hxw:=hb x (Sd Y);refine Gd.ix (by omega) (by rw [I]; exact Y) (fin _ x.n.toNat ?_ (by show x.n.toNat<4294967296; omega) (sK Y))
   rw [bZ (n:=y.n) (by omega),bZ (n:=c+y.n) (by omega),bZ (n:=x.n) (by omega),bZ (by omega)]
   omega
  ·have hkb:b.length<=k:=by have:=Sc h; omega
   refine fin _ 0 ?_ (by decide) ?_
   ·rw [bZ (n:=y.n) (by omega),bZ (by omega)]; simp
   ·rw [Sh (by omega),Sh (by omega)]; simp
 ·rintro k ⟨l,c⟩ ⟨h0,h1,h2,h3,h4,J⟩
  simp only at h1 h2 h3 h4 J ⊢;have hk:k=a.length:=by omega
  subst hk;rw [TY,Sh hl,Sh (by omega)] at J
  have hlt:=ui h2;rw [h1] at hlt;have hc:c=0:=by
   rcases (show c = -1\/c=0 by omega) with h | h
   ·exfalso; rw [h] at J; omega
   ·exact h
  rw [hc] at J;exact Gd.ret ⟨h2,h1,by omega⟩
 ·rw [X3] at Z
  rw [Z.2]; simp
theorem uw.tp {a:LI} (h:uw a):xg a.words:=h.top
theorem zA {r:LI}{m:Bool}{n:Nat} (h1:nv r.words=n) (h2:r.minus=true↔m=true/\n≠0):iK r=if m=true then -(n:Int) else n:=by
 unfold iK;rw [h1]
 by_cases I:r.minus=true
 ·rw [R9 I,R9 (h2.1 I).1]
 ·rw [R8 I]
  by_cases O:m=true
  ·have:n=0:=by
    by_cases hn:n=0
    ·exact hn
    ·exact absurd (h2.2 ⟨O,hn⟩) I
   rw [R9 O,this]; rfl
  ·rw [R8 O]
theorem Fx {a:LI} (h:uw a) (J:a.words.length<=1000000):Gd (mP a) (λr=>uw r/\r.words.length<=a.words.length/\iK r = -iK a):=by
 unfold mP;refine Gd.fH (uW (!a.minus) a.words h.wf J) (λr I=>Gd.ret ⟨I.1,I.2.1,?_⟩);rw [zA I.2.2.1 I.2.2.2];unfold iK;cases a.minus <;> simp
theorem Fm {a b:LI} (Y:uw a) (Z:uw b) (hza:a.words.length<=900000) (hzb:b.words.length<=900000):
  Gd (mO a b) (λr=>uw r/\r.words.length<=max a.words.length b.words.length+1/\iK r=iK a+iK b):=by
 unfold mO;refine Gd.ite (λh=>?_) (λh=>?_)
 ·have h:a.minus=b.minus:=R7 h
  refine Gd.fH (OH Y.wf Z.wf (by omega) (by omega)) (λw hw=>Gd.fH (uW a.minus w hw.1 (by omega)) (λr J=>Gd.ret ⟨J.1,by omega,?_⟩))
  rw [zA J.2.2.1 J.2.2.2,hw.2.2];unfold iK;rw [<- h];cases a.minus <;> simp <;> omega
 ·have h:a.minus≠b.minus:=Sc h
  refine Gd.fH (K7 Y.wf Z.wf Y.tp Z.tp (by omega) (by omega)) (λc hc=>Gd.ite (λh0=>?_) (λh0=>?_))
  ·have h0:0<=c:=R7 h0
   have hle:nv b.words<=nv a.words:=by
    have:=hc.1; omega
   have I:b.words.length<=a.words.length:=by
    rcases TZ a.words.length b.words.length with hlt | hge
    ·have:=wJ Y.wf Z.wf Z.tp hlt; omega
    ·exact hge
   refine Gd.fH (Mw Y.wf Z.wf hle I (by omega)) (λw hw=>Gd.fH (uW a.minus w hw.1 (by omega)) (λr J=>Gd.ret ⟨J.1,by omega,?_⟩))
   rw [zA J.2.2.1 J.2.2.2,hw.2.2];unfold iK;cases ea:a.minus <;> cases eb:b.minus <;> first | (rw [ea,eb] at h; exact absurd rfl h) | (simp; omega)
  ·have h0:¬ 0<=c:=Sc h0
   have hlt:nv a.words<nv b.words:=hc.1.1 (by omega)
   have I:a.words.length<=b.words.length:=by
    rcases TZ b.words.length a.words.length with hl | hge
    ·have:=wJ Z.wf Y.wf Y.tp hl; omega
    ·exact hge
   refine Gd.fH (Mw Z.wf Y.wf (by omega) I (by omega)) (λw hw=>Gd.fH (uW b.minus w hw.1 (by omega)) (λr J=>Gd.ret ⟨J.1,by omega,?_⟩))
   rw [zA J.2.2.1 J.2.2.2,hw.2.2];unfold iK;cases ea:a.minus <;> cases eb:b.minus <;> first | (rw [ea,eb] at h; exact absurd rfl h) | (simp; omega)
theorem Ni {a b:LI} (Z:uw a) (hb:uw b) (I:a.words.length<=900000) (hzb:b.words.length<=900000):
  Gd (pN a b) (λr=>uw r/\r.words.length<=max a.words.length b.words.length+1/\iK r=iK a-iK b):=by
 unfold pN;refine Gd.fH (Fx hb (by omega)) (λc J=>Gd.fH (Fm Z J.1 I (by omega)) (λr Y=>Gd.ret ⟨Y.1,by omega,by rw [Y.2.2,J.2.2]; omega⟩))
theorem DF {l:List cL}{k:Nat}{x v:cL} (h:l[k]? = some x):nv (l.set k v)+WB ^ k*x.n.toNat=nv l+WB ^ k*v.n.toNat:=by
 have I:=(R3.1 h).1;have h1:=xK h;have h2:nv (l.set k v)=nv (l.take k)+WB ^ k*(v.n.toNat+WB*nv (l.drop (k+1))):=by
  have:=xK (l:=l.set k v) (k:=k) (x:=v) (SC I);rw [Vb (Sj _),UK (by omega)] at this
  exact this
 rw [Yd] at h1 h2;omega
theorem Wf.set {l:List cL} (h:Wf l) {k:Nat}{v:Int} (J:0<=v/\v<4294967296):Wf (l.set k ⟨v⟩):=λz I=>by
 rcases X0 I with I | I
 ·exact h z I
 ·rw [I]; exact J
theorem LZ {nz I J P W c vf x y s B T:Nat} (h1:I+P*vf=nz+P*(s%W)) (hs:s=c+vf+x*y) (h2:nz+P*c=J+x*T*B):I+P*W*(s / W)=J+x*T*B+P*x*y:=by
 have Y:s%W+W*(s / W)=s:=Yc s W;have e:P*(s%W)+P*(W*(s / W))=P*s:=by rw [<- Yd,Y]
 have e2:P*s=P*c+P*vf+P*(x*y):=by rw [hs,Yd,Yd]
 rw [Ye P W,Ye P x];omega
theorem xn {a b:LI} (ha:uw a) (hb:uw b) (hz:a.words.length+b.words.length<=900000):
  Gd (gI a b) (λr=>uw r/\r.words.length<=a.words.length+b.words.length/\iK r=iK a*iK b):=by
 have wN:i64.wrap ((a.words.length:Int)+(b.words.length:Int))=((a.words.length+b.words.length:Nat):Int):=by rw [bZ ⟨by omega,by omega⟩]; omega
 unfold gI;rw [wN];refine Gd.nd ⟨by omega,by omega⟩ ?_
 refine Gd.eL (λi ys (z:List cL)=>ys=a.words.drop i/\i<=a.words.length/\z.length=a.words.length+b.words.length/\Wf z/\nv z=nv (a.words.take i)*nv b.words/\∀ q,i+b.words.length<=q->∀ y,z[q]? = some y->y.n=0) ?_ ?_ _ 0 _ ⟨by simp,by omega,by simp; omega,λy J=>?_,by rw [L8]; simp [nv],λq _ y J=>?_⟩
 ·rintro i x ys z0 nx ⟨e0,e1,e2,e3,e4,e5⟩ hnx
  have hi:i<a.words.length:=by
   have:=SJ List.length e0;simp at this; omega
  have hx:a.words[i]? = some x:=by
   have:=SJ (·[0]?) e0;simpa [SK] using this.symm
  have hys:ys=a.words.drop (i+1):=by
   have:=SJ (List.drop 1) e0;simpa using this
  have hxw:=ha.wf x (Sd hx);unfold tA;refine Gd.eL (λk bs (z:List cL×Int)=>bs=b.words.drop k/\k<=b.words.length/\z.1.length=a.words.length+b.words.length/\Wf z.1/\0<=z.2/\z.2<4294967296/\nv z.1+WB ^ (i+k)*z.2.toNat=nv z0+x.n.toNat*nv (b.words.take k)*WB ^ i/\∀ q,i+k<=q->z.1[q]? = z0[q]?) ?_ ?_ _ 0 _ ⟨by simp,by omega,e2,e3,T_ _,by show (0:Int)<4294967296; omega,by simp [nv],λq _=>rfl⟩
  ·rintro k y bs ⟨l,c⟩ nx2 ⟨f0,f1,f2,f3,f4,f5,f6,f7⟩ Y
   simp only at f2 f3 f4 f5 f6 f7 Y ⊢;have hk:k<b.words.length:=by
    have:=SJ List.length f0;simp at this; omega
   have J:b.words[k]? = some y:=by
    have:=SJ (·[0]?) f0;simpa [SK] using this.symm
   have hbs:bs=b.words.drop (k+1):=by
    have:=SJ (List.drop 1) f0;simpa using this
   have hyw:=hb.wf y (Sd J);obtain ⟨o,Z⟩:∃ o,l[i+k]? = some o:=⟨_,RY (by omega)⟩
   have how:=f3 o (Sd Z);have wj:i64.wrap ((i:Int)+(k:Int))=((i+k:Nat):Int):=by rw [bZ ⟨by omega,by omega⟩]; omega
   have I:(((i+k:Nat):Int)).toNat=i+k:=by omega
   have hxy0:0<=x.n*y.n:=Int.mul_nonneg hxw.1 hyw.1;have hxy:x.n*y.n<=4294967295*4294967295:=Int.mul_le_mul (by omega) (by omega) hyw.1 (by omega)
   have hs:u64.wrap (c+(u64.wrap ((u64.wrap (o.n))+(u64.wrap ((u64.wrap (x.n))*(u64.wrap (y.n)))))))=c+o.n+x.n*y.n:=by
    rw [i_ (n:=o.n) (by omega),i_ (n:=x.n) (by omega),i_ (n:=y.n) (by omega),i_ (n:=x.n*y.n) (by omega),i_ (n:=o.n+x.n*y.n) (by omega),i_ (by omega)]
    omega
   unfold tB;rw [wj];refine Gd.ix (by omega) (by rw [I]; exact Z) (Gd.ix (by omega) (by rw [I]; exact Z) ?_)
   rw [hs,I,EJ,yV];have hxyn:x.n*y.n=((x.n.toNat*y.n.toNat:Nat):Int):=by
    rw [SX,VS hxw.1,VS hyw.1]
   have hsn:c+o.n+x.n*y.n=((c.toNat+o.n.toNat+x.n.toNat*y.n.toNat:Nat):Int):=by rw [hxyn]; omega
   refine Y _ ⟨hbs,by omega,by simp [f2],f3.set (by omega),by simp only; omega,by simp only; omega,?_,λq hq=>?_⟩
   ·simp only
    have g:=DF (l:=l) (k:=i+k) (x:=o) (v:=⟨(c+o.n+x.n*y.n)%4294967296⟩) Z;simp only at g;have g1:((c+o.n+x.n*y.n)%4294967296).toNat=(c.toNat+o.n.toNat+x.n.toNat*y.n.toNat)%WB:=by rw [hsn]; show _=_%4294967296; omega
    have g2:((c+o.n+x.n*y.n) / 4294967296).toNat=(c.toNat+o.n.toNat+x.n.toNat*y.n.toNat) / WB:=by rw [hsn]; show _=_ / 4294967296; omega
    rw [g1] at g;have:=LZ g rfl f6;rw [g2,show i+(k+1)=(i+k)+1 by omega,Yo,this,sK J,Yi]
    rw [Yd,So,Uv]
    congr 2
    rw [Yf (WB ^ i) (WB ^ k),Yf (WB ^ k*WB ^ i) x.n.toNat,Ye,Ye,Ye,Ye,Yf y.n.toNat,Yf (WB ^ i) y.n.toNat]
   ·simp only
    rw [Sx (by omega)]
    exact f7 q (by omega)
  ·rintro k ⟨l,c⟩ ⟨f0,f1,f2,f3,f4,f5,f6,f7⟩
   simp only at f2 f3 f4 f5 f6 f7 ⊢;have hk:k=b.words.length:=by
    have:=SJ List.length f0;simp at this; omega
   subst hk;have wj:i64.wrap ((i:Int)+(b.words.length:Int))=((i+b.words.length:Nat):Int):=by rw [bZ ⟨by omega,by omega⟩]; omega
   have I:(((i+b.words.length:Nat):Int)).toNat=i+b.words.length:=by omega
   obtain ⟨o,Z⟩:∃ o,l[i+b.words.length]? = some o:=⟨_,RY (by omega)⟩
   have ho0:o.n=0:=e5 _ (Sj _) o (by rw [<- f7 _ (Sj _)]; exact Z)
   rw [wj];refine Gd.ix (by omega) (by rw [I]; exact Z) ?_
   rw [I,yV,show c%4294967296=c by omega]
   refine hnx _ ⟨hys,by omega,by simp [f2],f3.set (by omega),?_,λq hq y J=>?_⟩
   ·have g:=DF (l:=l) (k:=i+b.words.length) (x:=o) (v:=⟨c⟩) Z
    simp only [ho0] at g;rw [TY] at f6;rw [sK hx,So,<- e4];have e:WB ^ i*x.n.toNat*nv b.words=x.n.toNat*nv b.words*WB ^ i:=by rw [Yf (WB ^ i),Ye,Yf (WB ^ i),<- Ye]
    rw [e];simp at g;omega
   ·rw [Sx (by omega),f7 _ (by omega)] at J
    exact e5 _ (by omega) y J
 ·rintro i z ⟨e0,e1,e2,e3,e4,e5⟩
  have hi:i=a.words.length:=by
   have:=SJ List.length e0;simp at this; omega
  subst hi;rw [TY] at e4;refine Gd.fH (uW _ z e3 (by omega)) (λr hr=>Gd.ret ⟨hr.1,by omega,?_⟩)
  rw [zA hr.2.2.1 hr.2.2.2,e4];unfold iK;cases a.minus <;> cases b.minus <;> simp [Int.mul_neg,Int.neg_mul]
 ·rw [X3] at J
  rw [J.2]; simp
 ·have:=Sd J
  rw [X3] at this;rw [this.2]
theorem A5 {r y:Int} (I:0<=r/\r<4294967296) (J:0<=y/\y<4294967296):
  u64.wrap ((BitVec.ofInt (u64).bits (vc .u64 r 32) ||| BitVec.ofInt (u64).bits (u64.wrap y)).toNat)=r*4294967296+y:=by
 obtain ⟨n,rfl⟩:∃ n:Nat,r=n:=⟨r.toNat,by omega⟩
 obtain ⟨m,rfl⟩:∃ m:Nat,y=m:=⟨y.toNat,by omega⟩
 have e1:vc .u64 (n:Int) 32=((n*4294967296:Nat):Int):=by
  unfold vc;rw [show (min (32:Int).toNat u64.bits)=32 by decide,FP]
  show (n:Int)*4294967296%18446744073709551616=_;omega
 rw [e1,i_ (n:=(m:Int)) (by omega)]
 show u64.wrap (((BitVec.ofInt 64 ((n*4294967296:Nat):Int) ||| BitVec.ofInt 64 ((m:Nat):Int)).toNat:Nat):Int)=_;rw [Xx,Xx,BitVec.toNat_or,Xy,Xy,T0 (by omega),T0 (by omega)]
 have e2:n*4294967296 ||| m=n*4294967296+m:=by
  have:=Nat.shiftLeft_add_eq_or_of_lt (i:=32) (b:=m) (by omega) n
  rw [Nat.shiftLeft_eq] at this;exact this.symm
 rw [e2,i_ (by omega)]
 omega
theorem Kg {r y d:Int} (hr:0<=r/\r<d) (hy:0<=y/\y<4294967296) (hd:0<d/\d<4294967296):
  ∃ q m:Nat,Int.tdiv (r*4294967296+y) d=q/\Int.tmod (r*4294967296+y) d=m/\q<4294967296/\(m:Int)<d/\m+d.toNat*q=WB*r.toNat+y.toNat:=by
 obtain ⟨I,rfl⟩:∃ I:Nat,d=I:=⟨d.toNat,by omega⟩
 obtain ⟨J,rfl⟩:∃ J:Nat,r=J:=⟨r.toNat,by omega⟩
 obtain ⟨Y,rfl⟩:∃ Y:Nat,y=Y:=⟨y.toNat,by omega⟩
 have Z:0<I:=by omega
 have e:∀ W:Nat,Y<W->∃ q m:Nat,Int.tdiv ((J:Int)*W+Y) I=q/\Int.tmod ((J:Int)*W+Y) I=m/\q<W/\m<I/\m+I*q=W*J+Y:=λW hW=>by
  have hN:J*W+Y<I*W:=by
   have:(J+1)*W<=I*W:=Si _ (by omega)
   rw [So] at this;omega
  have hc:(J:Int)*W+Y=((J*W+Y:Nat):Int):=by rw [XH,SX]
  rw [hc];refine ⟨(J*W+Y) / I,(J*W+Y)%I,rfl,rfl,?_,U3 _ Z,?_⟩
  ·rw [X_ Z,Yf W I]; exact hN
  ·rw [Yc,Yf J W]
 obtain ⟨q,m,h1,h2,h3,h4,h5⟩:=e WB (by show Y<4294967296; omega)
 refine ⟨q,m,h1,h2,h3,by omega,?_⟩
 simp only [RZ];exact h5
theorem Kh {q I B m Y J:Nat} (h1:m+I*q=WB*J+Y):(q+WB*B)*I+m=Y+WB*(B*I+J):=by
 rw [So,Yd,Ye WB,Yf q I];generalize I*q=Z at h1;generalize WB*J=X at h1 ⊢;generalize WB*(B*I)=T;omega
theorem G3 {a:List cL} (ha:Wf a) (hz:a.length<=1000000) {d:Int} (hd:0<d/\d<4294967296):
  Gd (oZ a d) (λr=>Wf r.1/\r.1.length=a.length/\nv r.1=nv a / d.toNat/\r.2=(nv a%d.toNat:Nat)):=by
 unfold oZ;refine Gd.nd ⟨by omega,by omega⟩ ?_
 rw [bZ ⟨by omega,by omega⟩]
 refine Gd.iV (λ(z:List cL×Int×Int)=>-1<=z.2.2/\z.2.2<a.length/\z.1.length=a.length/\Wf z.1/\0<=z.2.1/\z.2.1<d/\nv (z.1.drop (z.2.2+1).toNat)*d.toNat+z.2.1.toNat=nv (a.drop (z.2.2+1).toNat)) (λz=>(z.2.2+1).toNat) ?_ gO _ ⟨by simp only; omega,by simp only; omega,by simp,λy J=>?_,T_ _,by simp only; omega,?_⟩ (by simp only [gO]; omega)
 ·rintro ⟨l,r,i⟩ nx ⟨h1,h2,h3,h4,h5,h6,I⟩ Z
  simp only at h1 h2 h3 h4 h5 h6 I Z ⊢;unfold sT;refine Gd.ite (λhi=>?_) (λhi=>Gd.ret ?_)
  ·have hi:0<=i:=R7 hi
   obtain ⟨k,rfl⟩:∃ k:Nat,i=k:=⟨i.toNat,by omega⟩
   obtain ⟨y,J⟩:∃ y,a[k]? = some y:=⟨_,RY (by omega)⟩
   have hyw:=ha y (Sd J);have Y:((k:Int)).toNat=k:=by omega
   rw [i_ (n:=d) (by omega)]
   refine Gd.ix (by omega) (by rw [Y]; exact J) (Gd.nd (by omega) (Gd.iT (show k<l.length by omega) (Gd.nd (by omega) ?_)))
   rw [A5 ⟨h5,by omega⟩ hyw]
   rw [show ((k:Int)+1).toNat=k+1 by omega] at I
   obtain ⟨q,m,e1,e2,hqlt,hmlt,hdm⟩:=Kg ⟨h5,h6⟩ hyw hd;rw [e1,e2,Y,i_ (n:=(q:Int)) (by omega),yV,bZ ⟨by omega,by omega⟩,show (q:Int)%4294967296=(q:Int) by omega]
   refine Z _ ⟨by simp only; omega,by simp only; omega,by simp [h3],h4.set (by omega),by simp only; omega,by simp only; omega,?_⟩ (by simp only; omega)
   simp only;rw [show ((k:Int)-1+1).toNat=k by omega,sD J,sD (l:=l.set k _) (SC (by omega)),UK (by omega),nv,nv,<- I]
   simp only [RZ];exact Kh hdm
  ·have hi:¬ 0<=i:=Sc hi
   rw [show (i+1).toNat=0 by omega,Tr,Tr] at I
   have hdn:0<d.toNat:=by omega
   refine ⟨h4,h3,?_,?_⟩
   ·simp only
    rw [<- I,Yf,Nat.mul_add_div hdn,X9 (by omega)]; rfl
   ·simp only
    rw [yV,<- I,Yf,Nat.mul_add_mod,T0 (by omega)]
    omega
 ·rw [X3] at J
  rw [J.2]; simp
 ·simp only
  rw [show ((a.length:Int)-1+1).toNat=a.length by omega,Vc,XO (by simp)]
  simp [nv]
theorem DH {n:Int} (h:-9223372036854775808<=n/\n<=9223372036854775807):Gd (n9 n) (λr=>uw r/\r.words.length<=2/\iK r=n):=by
 have I:∀ m:Int,0<=m->m<18446744073709551616->(m=n/\0<=n\/m = -n/\n<0)->Gd (rM n m) (λr=>uw r/\r.words.length<=2/\iK r=n):=λm J h1 h2=>by
  unfold rM;rw [EJ,yV,yV];have hw:Wf [⟨m%4294967296⟩,⟨m / 4294967296%4294967296⟩]:=λy Z=>by
   rcases SQ.1 Z with rfl | Z
   ·simp only; omega
   ·rw [Sy] at Z; subst Z; simp only; omega
  have hv:nv [⟨m%4294967296⟩,⟨m / 4294967296%4294967296⟩]=m.toNat:=by
   simp only [nv];show (m%4294967296).toNat+4294967296*((m / 4294967296%4294967296).toNat+4294967296*0)=_;omega
  refine Gd.fH (uW _ _ hw (by simp)) (λr Y=>Gd.ret ⟨Y.1,Y.2.1,?_⟩)
  rw [zA Y.2.2.1 Y.2.2.2,hv];rcases h2 with ⟨rfl,h2⟩ | ⟨rfl,h2⟩
  ·rw [R8 (by simp; omega)]; omega
  ·rw [R9 (by simp; omega)]; omega
 unfold n9;refine Gd.ite (λJ=>I _ ?_ ?_ (.inr ⟨?_,?_⟩)) (λJ=>I _ ?_ ?_ (.inl ⟨?_,?_⟩))
 ·rw [FP]; omega
 ·rw [FP]; omega
 ·have:=R7 J
  rw [FP,FP]; omega
 ·exact R7 J
 ·rw [FP]; omega
 ·rw [FP]; omega
 ·have:=Sc J
  rw [FP]; omega
 ·have:=Sc J; omega
theorem O8 {c x s:Nat} (hs:s<=31) (I:c<2 ^ s) (Z:x<4294967296):
  u64.wrap ((BitVec.ofInt (u64).bits (c:Int) ||| BitVec.ofInt (u64).bits (vc .u64 (u64.wrap (x:Int)) (s:Int))).toNat)=((c+x*2 ^ s:Nat):Int):=by
 have J:(2:Nat) ^ s<=2147483648:=Yk (by decide) hs
 have Y:x*2 ^ s<=4294967295*2147483648:=Nat.mul_le_mul (by omega) J
 rw [i_ (n:=(x:Int)) (by omega)]
 have e1:vc .u64 (x:Int) (s:Int)=((x*2 ^ s:Nat):Int):=by
  unfold vc;rw [show (min ((s:Int)).toNat u64.bits)=s by show min ((s:Int)).toNat 64=s; omega]
  rw [show (x:Int)*2 ^ s=((x*2 ^ s:Nat):Int) by rw [SX,Int.natCast_pow]; rfl]
  rw [i_ (by omega)]
 rw [e1];show u64.wrap (((BitVec.ofInt 64 ((c:Nat):Int) ||| BitVec.ofInt 64 ((x*2 ^ s:Nat):Int)).toNat:Nat):Int)=_;rw [Xx,Xx,BitVec.toNat_or,Xy,Xy,T0 (by omega),T0 (by omega)]
 have e2:c ||| x*2 ^ s=c+x*2 ^ s:=by
  have:=Nat.shiftLeft_add_eq_or_of_lt (i:=s) (b:=c) I x;rw [Nat.shiftLeft_eq] at this;rw [Nat.or_comm,<- this,UN]
 rw [e2,i_ (by omega)]
theorem Ij {A P c x S W out o I:Nat} (h:out+P*c=A*S) (J:o+W*I=c+x*S):(out+P*o)+P*W*I=(A+P*x)*S:=by
 have e:P*o+P*(W*I)=P*c+P*(x*S):=by rw [<- Yd,J,Yd]
 rw [Ye P W,So,Ye P x];omega
theorem DU {a:List cL} (ha:Wf a) (hz:a.length<=1000000) {s:Nat} (hs:s<=31):
  Gd (pR a (s:Int)) (λr=>Wf r/\r.length=a.length+1/\nv r=nv a*2 ^ s/\∃ t,r[a.length]? = some t/\t.n.toNat<2 ^ s):=by
 have w1:i64.wrap ((a.length:Int)+1)=((a.length+1:Nat):Int):=by rw [bZ ⟨by omega,by omega⟩]; omega
 have hp:(2:Nat) ^ s<=2147483648:=Yk (by decide) hs
 have hp0:0<(2:Nat) ^ s:=Yn (by decide)
 unfold pR;rw [w1];refine Gd.nd ⟨by omega,by omega⟩ ?_
 refine Gd.eL (λk ys (z:List cL×Int)=>ys=a.drop k/\k<=a.length/\z.1.length=a.length+1/\Wf z.1/\0<=z.2/\z.2.toNat<2 ^ s/\nv (z.1.take k)+WB ^ k*z.2.toNat=nv (a.take k)*2 ^ s) ?_ ?_ _ 0 _ ⟨by simp,by omega,by simp,λy hy=>?_,T_ _,by simpa using hp0,by simp [nv]⟩
 ·rintro k x ys ⟨l,c⟩ nx ⟨h0,h1,h2,h3,h4,Z,I⟩ hnx
  simp only at h2 h3 h4 Z I hnx ⊢;have hk:k<a.length:=by
   have:=SJ List.length h0;simp at this; omega
  have hx:a[k]? = some x:=by
   have:=SJ (·[0]?) h0;simpa [SK] using this.symm
  have hys:ys=a.drop (k+1):=by
   have:=SJ (List.drop 1) h0;simpa using this
  have hxw:=ha x (Sd hx);obtain ⟨cn,rfl⟩:∃ cn:Nat,c=cn:=⟨c.toNat,by omega⟩
  obtain ⟨X,hX⟩:∃ X:Nat,x.n=X:=⟨x.n.toNat,by omega⟩
  have Y:((k:Int)).toNat=k:=by omega
  unfold tE;rw [hX];simp only [RZ] at Z I;rw [O8 hs Z (by omega)]
  refine Gd.nd (by omega) (Gd.iT (show k<l.length by omega) ?_)
  rw [Y,yV,EJ];have hb:cn+X*2 ^ s<4294967296*2 ^ s:=by
   have:(X+1)*2 ^ s<=4294967296*2 ^ s:=Si _ (by omega)
   rw [So] at this;omega
  have J:=Yc (cn+X*2 ^ s) WB;have hq:(cn+X*2 ^ s) / WB<2 ^ s:=by
   rw [X_ (by decide),Yf (2 ^ s)]; exact hb
  have e1:((cn+X*2 ^ s:Nat):Int)%4294967296=(((cn+X*2 ^ s)%WB:Nat):Int):=rfl;have e2:((cn+X*2 ^ s:Nat):Int) / 4294967296=(((cn+X*2 ^ s) / WB:Nat):Int):=rfl;have O:(cn+X*2 ^ s)%WB<WB:=U3 _ (by decide)
  rw [e1,e2];generalize (cn+X*2 ^ s)%WB=o at J O;generalize (cn+X*2 ^ s) / WB=c' at J hq;refine hnx _ ⟨hys,by omega,by simp [h2],h3.set ⟨by omega,by have:o<4294967296:=O; omega⟩,by simp only; omega,by simp only [RZ]; exact hq,?_⟩
  simp only;rw [xN (by omega),vS,Ss,S7 (by omega),sK hx,hX,Yo]
  simp only [RZ];exact Ij I J
 ·rintro k ⟨l,c⟩ ⟨h0,h1,h2,h3,h4,Z,I⟩
  simp only at h2 h3 h4 Z I ⊢;have hk:k=a.length:=by
   have:=SJ List.length h0;simp at this; omega
  subst hk;have Y:((a.length:Int)).toNat=a.length:=by omega
  rw [Y,yV,show c%4294967296=c by omega]
  refine Gd.iT (by omega) (Gd.ret ⟨h3.set (by omega),by simp [h2],?_,⟨⟨c⟩,SC (by omega),Z⟩⟩)
  have e:=xN (l:=l) (k:=a.length) (v:=⟨c⟩) (by omega)
  rw [Sh (by simp; omega)] at e
  rw [e,vS,Ss,S7 (by omega)]
  rw [TY] at I;exact I
 ·rw [X3] at hy
  rw [hy.2]; simp
section
variable {W R v1 v2 vl u2 ul top q V U:Nat}
structure Iw (W R v1 v2 vl u2 ul top V U:Nat):Prop where
 V:V=(v1*W+v2)*R+vl
 U:U=(top*W+u2)*R+ul
 vl:vl<R
 ul:ul<R
 u2:u2<W
 v2:v2<W
theorem Iw.Pe (h:Iw W R v1 v2 vl u2 ul top V U) (hq:q*V<=U):q*v1<=top:=by
 rcases TZ top (q*v1) with J | I
 ·exfalso
  have h1:(top+1)*(W*R)<=q*v1*(W*R):=Si _ J;have h2:v1*(W*R)<=V:=by
   rw [h.V,So,Ye v1]; omega
  have Z:q*(v1*(W*R))<=q*V:=Yg _ h2;have h4:U<(top+1)*(W*R):=by
   have e1:(u2+1)*R<=W*R:=Si _ h.u2;rw [So] at e1;have Y:=h.ul;rw [h.U,So,Ye top,So top];omega
  rw [Ye q] at h1;omega
 ·exact I
theorem Iw.Fs (h:Iw W R v1 v2 vl u2 ul top V U) (hq:q*V<=U):q*(v1*W+v2)<=top*W+u2:=by
 rcases TZ (top*W+u2) (q*(v1*W+v2)) with J | I
 ·exfalso
  have h1:(top*W+u2+1)*R<=q*(v1*W+v2)*R:=Si _ J;have h2:(v1*W+v2)*R<=V:=by rw [h.V]; omega
  have Z:q*((v1*W+v2)*R)<=q*V:=Yg _ h2;have Y:=h.ul;have hU:=h.U;rw [So _ 1] at h1;rw [Ye q] at h1;omega
 ·exact I
theorem Iw.QY (h:Iw W R v1 v2 vl u2 ul top V U) {g:Nat} (J:g<=W) (Y:1<=v1) (hl:g*(v1*W+v2)<=top*W+u2):g*V<U+V:=by
 have h1:g*(v1*W+v2)*R<=(top*W+u2)*R:=Si _ hl;have h2:g*vl<=W*vl:=Si _ J;have I:W*(vl+1)<=W*R:=Yg _ h.vl;have Z:1*(W*R)<=v1*(W*R):=Si _ Y;have e1:g*V=g*(v1*W+v2)*R+g*vl:=by rw [h.V,Yd,Ye]
 have e2:V=v1*(W*R)+v2*R+vl:=by rw [h.V,So,Ye]
 have hU:=h.U;have hR:0<R:=by have:=h.vl; omega
 have hW:0<W:=by have:=h.u2; omega
 rw [Yd,UO] at I;omega
structure Gs (W R v1 v2 vl u2 ul top V U q g rest:Nat):Prop where
 ge:q<=g
 eq:g*v1+rest=top
 rest:rest<W
 le:g<=W+1
structure PG (W V U q g:Nat):Prop where
 ge:q<=g
 le:g<=q+1
 w:g<=W
theorem Iw.out (h:Iw W R v1 v2 vl u2 ul top V U) {g:Nat} (hq:U<(q+1)*V) (J:q<=g) (Z:g<=W) (hv:1<=v1) (hl:g*(v1*W+v2)<=top*W+u2):PG W V U q g:=by
 refine ⟨J,?_,Z⟩;have h1:=h.QY Z hv hl;rcases TZ (q+1) g with Y | I
 ·exfalso
  have h2:(q+2)*V<=g*V:=Si _ Y;rw [So] at h2 hq;omega
 ·exact I
theorem Gs.stop (h:Iw W R v1 v2 vl u2 ul top V U) {g rest:Nat} (hs:Gs W R v1 v2 vl u2 ul top V U q g rest) (I:U<(q+1)*V) (J:1<=v1) (Y:g<W) (ht:g*v2<=rest*W+u2):PG W V U q g:=by
 refine h.out I hs.ge (by omega) J ?_
 rw [<- hs.eq,Yd,So,Ye];omega
theorem Gs.less (h:Iw W R v1 v2 vl u2 ul top V U) {g rest:Nat} (hs:Gs W R v1 v2 vl u2 ul top V U q g rest) (Y:q*V<=U) (Z:q<W) (ht:W<=g\/rest*W+u2<g*v2):q<g:=by
 rcases ht with ht | ht
 ·omega
 ·have h1:=h.Fs Y
  rw [<- hs.eq] at h1;rcases TZ q g with J | I
  ·exact J
  ·exfalso
   have h2:g*(v1*W+v2)<=q*(v1*W+v2):=Si _ I;rw [Yd g] at h2;rw [So (g*v1),Ye] at h1;omega
theorem Gs.next {g rest:Nat} (hs:Gs W R v1 v2 vl u2 ul top V U q g rest) (hl:q<g) (J:rest+v1<W):Gs W R v1 v2 vl u2 ul top V U q (g-1) (rest+v1):=by
 have h:=hs.eq; have I:=hs.le
 obtain ⟨k,rfl⟩:∃ k,g=k+1:=⟨g-1,by omega⟩
 rw [So] at h;exact ⟨by omega,by rw [Nat.add_sub_cancel]; omega,J,by omega⟩
theorem Gs.over (h:Iw W R v1 v2 vl u2 ul top V U) {g rest:Nat} (hs:Gs W R v1 v2 vl u2 ul top V U q g rest) (Y:U<(q+1)*V) (hv:1<=v1) (hl:q<g) (Z:W<=rest+v1):PG W V U q (g-1):=by
 have he:=hs.eq; have J:=hs.le; have I:=h.v2
 obtain ⟨k,rfl⟩:∃ k,g=k+1:=⟨g-1,by omega⟩
 rw [Nat.add_sub_cancel];rw [So] at he;refine h.out Y (by omega) (by omega) hv ?_
 have h1:k*v2<=W*v2:=Si _ (by omega)
 have h2:W*(v2+1)<=W*W:=Yg _ I;have h3:W*W<=(rest+v1)*W:=Si _ Z;have e:top=k*v1+(rest+v1):=by omega
 rw [e,Yd k,So (k*v1),Ye];rw [Yd] at h2;omega
end
def IW:List U8:=lz (⟨#[0,1,2,2,3,3,3,3,4,4,4,4,4,4,4,4,5,5,5,5,5,5,5,5,5,5,5,5,5,5,5,5,6,6,6,6,6,6,6,6,6,6,6,6,6,6,6,6,6,6,6,6,6,6,6,6,6,6,6,6,6,6,6,6,7,7,7,7,7,7,7,7,7,7,7,7,7,7,7,7,7,7,7,7,7,7,7,7,7,7,7,7,7,7,7,7,7,7,7,7,7,7,7,7,7,7,7,7,7,7,7,7,7,7,7,7,7,7,7,7,7,7,7,7,7,7,7,7,8,8,8,8,8,8,8,8,8,8,8,8,8,8,8,8,8,8,8,8,8,8,8,8,8,8,8,8,8,8,8,8,8,8,8,8,8,8,8,8,8,8,8,8,8,8,8,8,8,8,8,8,8,8,8,8,8,8,8,8,8,8,8,8,8,8,8,8,8,8,8,8,8,8,8,8,8,8,8,8,8,8,8,8,8,8,8,8,8,8,8,8,8,8,8,8,8,8,8,8,8,8,8,8,8,8,8,8,8,8,8,8,8,8,8,8,8,8,8,8,8,8,8,8,8,8,8,8]⟩)
def LS (i:Nat) (y:U8):Bool:=decide (1<=y.n) && (decide (y.n<=8) && (decide (2 ^ (y.n.toNat-1)<=i) && decide (i<2 ^ y.n.toNat)))
theorem Nr:∀ i:Nat,1<=i->i<256->∃ y,IW[i]? = some y/\LS i y=true:=by
 have h:(List.range 256).all (λi=>decide (i=0) || (match IW[i]? with | some y=>LS i y | none=>false))=true:=by decide +kernel
 intro i h1 h2;have:=Tg.1 h i (by simpa using h2)
 rw [Y_ (by omega),Bool.false_or] at this
 cases I:IW[i]? with
 | none=>rw [I] at this; cases this
 | some y=>rw [I] at this; exact ⟨y,rfl,this⟩
theorem Ft {n m:Int} (h1:1<=n) (h2:n<256) (O:0<=m/\m<=24):Gd (l_ n m) (λr=>∃ L:Nat,r=m+L/\1<=L/\L<=8/\2 ^ (L-1)<=n.toNat/\n.toNat<2 ^ L):=by
 obtain ⟨y,Y,I⟩:=Nr n.toNat (by omega) (by omega)
 simp only [LS,TL,SO] at I;obtain ⟨b1,b2,b3,b4⟩:=I;have J:u8.wrap n=n:=by
  rw [show u8.wrap n=n%256 by simp [IntKind.wrap,IntKind.bits,IntKind.signed]]; omega
 unfold l_;rw [J];refine Gd.ix (l:=IW) (by omega) Y (Gd.ret ⟨y.n.toNat,?_,by omega,by omega,b3,b4⟩)
 rw [bZ (n:=y.n) (by omega),bZ (by omega)]
 omega
theorem Ik {n:Int}{k:Nat} (I:k<=32):pL .u32 n (k:Int)=n / (2 ^ k:Nat):=by
 unfold pL;rw [show (min ((k:Int)).toNat u32.bits)=k by show min ((k:Int)).toNat 32=k; omega,UR _ (Int.le_of_lt (Int.pow_pos (by decide)))]
 rw [Int.natCast_pow]; rfl
theorem P6 {x:Int} (h1:1<=x) (h2:x<4294967296):Gd (kY x) (λr=>∃ s:Nat,r=s/\s<=31/\2147483648<=x.toNat*2 ^ s/\x.toNat*2 ^ s<4294967296):=by
 have Y:∀ (o:Option Int),Gd o (λr=>∃ l:Nat,r=l/\1<=l/\l<=32/\2 ^ (l-1)<=x.toNat/\x.toNat<2 ^ l)->Gd (o.bind λJ=>some (i64.wrap (32-J))) (λr=>∃ s:Nat,r=s/\s<=31/\2147483648<=x.toNat*2 ^ s/\x.toNat*2 ^ s<4294967296):=λo ho=>by
  refine Gd.fH ho (λr hr=>Gd.ret ?_);obtain ⟨l,rfl,l1,l2,l3,l4⟩:=hr;refine ⟨32-l,by rw [bZ (by omega)]; omega,by omega,?_,?_⟩
  ·have:2 ^ (l-1)*2 ^ (32-l)<=x.toNat*2 ^ (32-l):=Si _ l3
   rw [<- Yi,show l-1+(32-l)=31 by omega] at this
   exact this
  ·have:x.toNat*2 ^ (32-l)<2 ^ l*2 ^ (32-l):=Nat.mul_lt_mul_of_pos_right l4 (Yn (by decide))
   rw [<- Yi,show l+(32-l)=32 by omega] at this
   exact this
 have part:∀ (n:Int) (base:Nat),n=x / (2 ^ base:Nat)->base<=24->∀ L:Nat,1<=L->2 ^ (L-1)<=n.toNat->n.toNat<2 ^ L->2 ^ (base+L-1)<=x.toNat/\x.toNat<2 ^ (base+L):=λn base hn hb L l1 l2 l3=>by
  have e:n.toNat=x.toNat / 2 ^ base:=by
   rw [hn];obtain ⟨X,rfl⟩:∃ X:Nat,x=X:=⟨x.toNat,by omega⟩
   rfl
  have Z:0<2 ^ base:=Yn (by decide)
  rw [e] at l2 l3;rw [Ya Z,<- Yi] at l2;rw [X_ Z,<- Yi] at l3;rw [show base+L-1=L-1+base by omega,UN base L]
  exact ⟨l2,l3⟩
 unfold kY;refine Y _ ?_;unfold r8;refine Gd.ite (λh=>?_) (λh=>?_)
 ·have h:=R7 h
  rw [show pL .u32 x 16=x / 65536 from Ik (k:=16) (by omega)]
  unfold mb;refine Gd.ite (λI=>?_) (λI=>?_)
  ·have I:=R7 I
   rw [show pL .u32 (x / 65536) 8=x / 65536 / 256 from Ik (k:=8) (by omega),show i64.wrap (16+8)=24 by decide]
   refine (Ft (by omega) (by omega) (by omega)).mono ?_
   rintro r ⟨L,rfl,l1,l2,l3,l4⟩;obtain ⟨p1,p2⟩:=part (x / 65536 / 256) 24 (by show _=x / 16777216; omega) (by omega) L l1 l3 l4
   exact ⟨24+L,by omega,by omega,by omega,p1,p2⟩
  ·have I:=Sc I
   refine (Ft (by omega) (by omega) (by omega)).mono ?_
   rintro r ⟨L,rfl,l1,l2,l3,l4⟩;obtain ⟨p1,p2⟩:=part (x / 65536) 16 (by show _=x / 65536; omega) (by omega) L l1 l3 l4
   exact ⟨16+L,by omega,by omega,by omega,p1,p2⟩
 ·have h:=Sc h
  unfold mb;refine Gd.ite (λI=>?_) (λI=>?_)
  ·have I:=R7 I
   rw [show pL .u32 x 8=x / 256 from Ik (k:=8) (by omega),show i64.wrap (0+8)=8 by decide]
   refine (Ft (by omega) (by omega) (by omega)).mono ?_
   rintro r ⟨L,rfl,l1,l2,l3,l4⟩;obtain ⟨p1,p2⟩:=part (x / 256) 8 (by show _=x / 256; omega) (by omega) L l1 l3 l4
   exact ⟨8+L,by omega,by omega,by omega,p1,p2⟩
  ·have I:=Sc I
   refine (Ft (by omega) (by omega) (by omega)).mono ?_
   rintro r ⟨L,rfl,l1,l2,l3,l4⟩;obtain ⟨p1,p2⟩:=part x 0 (by show _=x / 1; omega) (by omega) L l1 l3 l4
   exact ⟨0+L,by omega,by omega,by omega,p1,p2⟩
theorem MX {t:Nat} (h:t<18446744073709551616):u64.wrap ((BitVec.ofInt (u64).bits (t:Int) &&& BitVec.ofInt (u64).bits 4294967295).toNat)=((t%WB:Nat):Int):=by
 have e:(BitVec.ofInt (u64).bits 4294967295).toNat=4294967295:=by decide
 have e2:(BitVec.ofInt (u64).bits (t:Int)).toNat=t:=by
  show (BitVec.ofInt 64 (t:Int)).toNat=t;rw [Xx,Xy,T0 h]
 rw [BitVec.toNat_and,e,e2];have:=X8 t 32;rw [show (2:Nat) ^ 32-1=4294967295 from rfl] at this;rw [this,show (2:Nat) ^ 32=WB from rfl];have O:t%WB<WB:=U3 _ (by decide)
 rw [i_ ⟨by omega,by have:t%WB<4294967296:=O; omega⟩]
theorem I4 {l:List cL}{k:Nat}{x v:cL} (h:l[k]? = some x) (J:0<=x.n) (I:0<=v.n):(nv (l.set k v):Int)+((WB ^ k:Nat):Int)*x.n=nv l+((WB ^ k:Nat):Int)*v.n:=by
 have:=SJ (λn:Nat=>(n:Int)) (DF (v:=v) h);simp only [XH,SX] at this;rw [VS J,VS I] at this;exact this
theorem Nw {nl nl' o nw P W bo ca Y J I Z gy:Int} (hA:nl'+P*o=nl+P*nw) (hB:nw+W*I=bo+o-Y) (hC:Y+W*J=ca+gy) (hI:nl+P*(bo-ca)=Z):
  nl'+P*W*(I-J)=Z-P*gy:=by
 have e:W*(I-J)=bo+o-nw-ca-gy:=by rw [XG]; omega
 rw [XF,e,<- hI,XG,XG,XG,XE,XG];omega
theorem I6 {l l0:List cL}{m:Nat} (h:∀ p,m<=p->l[p]? = l0[p]?) (O:m<=l.length):nv l=nv (l.take m)+WB ^ m*nv (l0.drop m):=by
 have e:l.drop m=l0.drop m:=by
  apply TP;intro i;rw [SK,SK];exact h _ (by omega)
 have:nv l=nv (l.take m++l.drop m):=by rw [TA]
 rw [this,Fz,e,Ss,S7 O]
theorem DG (l:List cL) {m:Nat} (O:m<=l.length):nv l=nv (l.take m)+WB ^ m*nv (l.drop m):=I6 (λ_ _=>rfl) O
theorem P7 {b r134 vs:List cL}{j g:Nat}{l0:List cL}{fin:List cL×Int×Int->Option (List cL×List cL)}{Q:List cL×List cL->Prop}
  (hvs:pM r134 0 (((b.length:Int):Int).toNat)=vs) (hvl:vs.length=b.length) (hvw:Wf vs) (hl:Wf l0) (hjn:j+b.length<l0.length) (hN:l0.length<=1000001) (hg:g<=WB)
  (hk:∀ l Z ca,l.length=l0.length->Wf l->-1<=Z->Z<=0->0<=ca->ca<4294967296->(nv l:Int)+((WB ^ (j+b.length):Nat):Int)*(Z-ca)=nv l0-((WB ^ j:Nat):Int)*((g:Int)*(nv vs:Int)) ->
   (∀ p,j+b.length<=p->l[p]? = l0[p]?)->(∀ p,p<j->l[p]? = l0[p]?)->Gd (fin (l,Z,ca)) Q):
  Gd (lH (λk J n=>qa b r134 (j:Int) (g:Int) k J.1 J.2.1 J.2.2 n) fin b.length 0 (l0,0,0)) Q:=by
 have hg:g<=4294967296:=hg;refine Gd.lH (λm k (z:List cL×Int×Int)=>k+m=b.length/\z.1.length=l0.length/\Wf z.1/\-1<=z.2.1/\z.2.1<=0/\0<=z.2.2/\z.2.2<4294967296/\(nv z.1:Int)+((WB ^ (j+k):Nat):Int)*(z.2.1-z.2.2)=nv l0-((WB ^ j:Nat):Int)*((g:Int)*(nv (vs.take k):Int))/\(∀ p,j+k<=p->z.1[p]? = l0[p]?)/\(∀ p,p<j->z.1[p]? = l0[p]?)) ?_ ?_ _ 0 _ ⟨by omega,rfl,hl,by show (-1:Int)<=0; omega,T_ _,T_ _,by show (0:Int)<4294967296; omega,by simp [nv],λp _=>rfl,λp _=>rfl⟩
 ·rintro m k ⟨l,Z,ca⟩ nx ⟨h0,h1,h2,h3,h4,h5,h6,h7,h8,h9⟩ hnx
  simp only at h1 h2 h3 h4 h5 h6 h7 h8 h9 hnx ⊢;have hkb:k<b.length:=by omega
  obtain ⟨y,hy⟩:∃ y,vs[k]? = some y:=⟨_,RY (by omega)⟩
  have hyw:=hvw y (Sd hy);obtain ⟨o,ho⟩:∃ o,l[j+k]? = some o:=⟨_,RY (by omega)⟩
  have how:=h2 o (Sd ho);have wj:i64.wrap ((k:Int)+(j:Int))=((j+k:Nat):Int):=by rw [bZ ⟨by omega,by omega⟩]; omega
  have hjk:(((j+k:Nat):Int)).toNat=j+k:=by omega
  unfold qa;rw [hvs,wj];refine Gd.ix (by omega) (by rw [RZ]; exact hy) (Gd.ix (by omega) (by rw [hjk]; exact ho) (Gd.ix (by omega) (by rw [hjk]; exact ho) ?_))
  obtain ⟨Y,hY⟩:∃ Y:Nat,y.n=Y:=⟨y.n.toNat,by omega⟩
  obtain ⟨cn,rfl⟩:∃ cn:Nat,ca=cn:=⟨ca.toNat,by omega⟩
  have hgy:g*Y<=4294967296*4294967295:=Nat.mul_le_mul hg (by omega)
  have ht:u64.wrap ((cn:Int)+(u64.wrap ((g:Int)*(u64.wrap (y.n)))))=((cn+g*Y:Nat):Int):=by
   rw [hY,i_ (n:=(Y:Int)) (by omega),show (g:Int)*(Y:Int)=((g*Y:Nat):Int) by rw [SX],i_ (n:=((g*Y:Nat):Int)) (by omega),i_ (by omega)]
   omega
  rw [ht,MX (by omega),EJ]
  have hdm:=Yc (cn+g*Y) WB;have hlow:(cn+g*Y)%WB<WB:=U3 _ (by decide)
  have hcl:(cn+g*Y) / WB<4294967296:=by
   rw [X_ (by decide)]
   show cn+g*Y<4294967296*4294967296;omega
  have e2:((cn+g*Y:Nat):Int) / 4294967296=(((cn+g*Y) / WB:Nat):Int):=rfl;rw [e2];have hC:(((cn+g*Y)%WB:Nat):Int)+4294967296*(((cn+g*Y) / WB:Nat):Int)=(cn:Int)+((g*Y:Nat):Int):=by
   have:(cn+g*Y)%WB+4294967296*((cn+g*Y) / WB)=cn+g*Y:=hdm;omega
  generalize (cn+g*Y)%WB=I at hlow hC;generalize (cn+g*Y) / WB=c2 at hcl hC;have hlow:I<4294967296:=hlow;have hnb:i64.wrap (Z+(i64.wrap ((i64.wrap (o.n))-(i64.wrap ((I:Nat):Int)))))=Z+o.n-I:=by
   rw [bZ (n:=o.n) (by omega),bZ (n:=(I:Int)) (by omega),bZ (n:=o.n-I) (by omega),bZ (by omega)]
   omega
  rw [hnb,hjk,yV,Mn];refine hnx _ ⟨by omega,by simp [h1],h2.set (by omega),by simp only; omega,by simp only; omega,by simp only; omega,by simp only; omega,?_,λp hp=>?_,λp hp=>?_⟩
  ·simp only
   have hA:=I4 (l:=l) (k:=j+k) (x:=o) (v:=⟨(Z+o.n-I)%4294967296⟩) ho how.1 (by simp only; omega)
   simp only at hA;have hB:(Z+o.n-I)%4294967296+4294967296*((Z+o.n-I) / 4294967296)=Z+o.n-I:=by omega
   have:=Nw hA hB hC h7;rw [show j+(k+1)=(j+k)+1 by omega,Yo,SX,show ((WB:Nat):Int)=4294967296 from rfl,this,sK hy,hY,Yi]
   simp only [RZ,XH,SX];rw [XE (g:Int),XE ((WB ^ j:Nat):Int),XF ((WB ^ j:Nat):Int) ((WB ^ k:Nat):Int)];have e:(g:Int)*(((WB ^ k:Nat):Int)*(Y:Int))=((WB ^ k:Nat):Int)*((g:Int)*(Y:Int)):=by
    rw [<- XF,Int.mul_comm (g:Int),XF]
   rw [e];omega
  ·simp only
   rw [Sx (by omega)]
   exact h8 p (by omega)
  ·simp only
   rw [Sx (by omega)]
   exact h9 p hp
 ·rintro k ⟨l,Z,ca⟩ ⟨h0,h1,h2,h3,h4,h5,h6,h7,h8,h9⟩
  simp only at h1 h2 h3 h4 h5 h6 h7 h8 h9;have hk':k=b.length:=by omega
  subst hk';rw [<- hvl,TY] at h7;rw [hvl] at h7;exact hk l Z ca h1 h2 h3 h4 h5 h6 h7 h8 h9
theorem MW {J I o s P W c Y T T' B X:Nat} (h1:I+P*o=J+P*(s%W)) (hs:s=c+o+Y) (h2:J+P*c=X+B*T) (hP:P*Y=B*(T'-T)) (hT:T<=T'):I+P*W*(s / W)=X+B*T':=by
 have Z:s%W+W*(s / W)=s:=Yc s W;have e:P*(s%W)+P*(W*(s / W))=P*s:=by rw [<- Yd,Z]
 have e2:P*s=P*c+P*o+P*Y:=by rw [hs,Yd,Yd]
 have e3:B*T'=B*T+B*(T'-T):=by rw [<- Yd]; congr 1; omega
 rw [Ye P W];omega
theorem PT {b J vs:List cL}{j:Nat}{l1:List cL}{fin:List cL×Int->Option (List cL×List cL)}{Q:List cL×List cL->Prop}
  (hvs:pM J 0 (((b.length:Int):Int).toNat)=vs) (hvl:vs.length=b.length) (hvw:Wf vs) (hl:Wf l1) (hjn:j+b.length<l1.length) (hN:l1.length<=1000001)
  (hk:∀ l c,l.length=l1.length->Wf l->0<=c->c<=1->nv l+WB ^ (j+b.length)*c.toNat=nv l1+WB ^ j*nv vs->(∀ p,j+b.length<=p->l[p]? = l1[p]?)->(∀ p,p<j->l[p]? = l1[p]?)->Gd (fin (l,c)) Q):
  Gd (lH (λk I n=>qb b J (j:Int) k I.1 I.2 n) fin b.length 0 (l1,0)) Q:=by
 refine Gd.lH (λm k (z:List cL×Int)=>k+m=b.length/\z.1.length=l1.length/\Wf z.1/\0<=z.2/\z.2<=1/\nv z.1+WB ^ (j+k)*z.2.toNat=nv l1+WB ^ j*nv (vs.take k)/\(∀ p,j+k<=p->z.1[p]? = l1[p]?)/\(∀ p,p<j->z.1[p]? = l1[p]?)) ?_ ?_ _ 0 _ ⟨by omega,rfl,hl,T_ _,by show (0:Int)<=1; omega,by simp [nv],λp _=>rfl,λp _=>rfl⟩
 ·rintro m k ⟨l,c⟩ nx ⟨h0,h1,h2,h3,h4,Y,h8,h9⟩ hnx
  simp only at h1 h2 h3 h4 Y h8 h9 hnx ⊢;obtain ⟨y,hy⟩:∃ y,vs[k]? = some y:=⟨_,RY (by omega)⟩
  have hyw:=hvw y (Sd hy);obtain ⟨o,ho⟩:∃ o,l[j+k]? = some o:=⟨_,RY (by omega)⟩
  have how:=h2 o (Sd ho);have wj:i64.wrap ((k:Int)+(j:Int))=((j+k:Nat):Int):=by rw [bZ ⟨by omega,by omega⟩]; omega
  have Z:(((j+k:Nat):Int)).toNat=j+k:=by omega
  unfold qb;rw [hvs,wj];refine Gd.ix (by omega) (by rw [Z]; exact ho) (Gd.ix (by omega) (by rw [RZ]; exact hy) (Gd.ix (by omega) (by rw [Z]; exact ho) ?_))
  have hs:u64.wrap (c+(u64.wrap ((u64.wrap (o.n))+(u64.wrap (y.n)))))=c+o.n+y.n:=by
   rw [i_ (n:=o.n) (by omega),i_ (n:=y.n) (by omega),i_ (n:=o.n+y.n) (by omega),i_ (by omega)]
   omega
  rw [hs,Z,EJ,yV];have hsn:c+o.n+y.n=((c.toNat+o.n.toNat+y.n.toNat:Nat):Int):=by omega
  refine hnx _ ⟨by omega,by simp [h1],h2.set (by omega),by simp only; omega,by simp only; omega,?_,λp hp=>?_,λp hp=>?_⟩
  ·simp only
   have g:=DF (l:=l) (k:=j+k) (x:=o) (v:=⟨(c+o.n+y.n)%4294967296⟩) ho;simp only at g;have g1:((c+o.n+y.n)%4294967296).toNat=(c.toNat+o.n.toNat+y.n.toNat)%WB:=by rw [hsn]; show _=_%4294967296; omega
   have g2:((c+o.n+y.n) / 4294967296).toNat=(c.toNat+o.n.toNat+y.n.toNat) / WB:=by rw [hsn]; show _=_ / 4294967296; omega
   rw [g1] at g;rw [g2,show j+(k+1)=(j+k)+1 by omega,Yo]
   refine MW g rfl Y (T':=nv (vs.take (k+1))) ?_ ?_
   ·rw [sK hy,TN,Yi,Ye]
   ·rw [sK hy]; omega
  ·simp only
   rw [Sx (by omega)]
   exact h8 p (by omega)
  ·simp only
   rw [Sx (by omega)]
   exact h9 p hp
 ·rintro k ⟨l,c⟩ ⟨h0,h1,h2,h3,h4,Y,h8,h9⟩
  simp only at h1 h2 h3 h4 Y h8 h9;have hk':k=b.length:=by omega
  subst hk';rw [<- hvl,TY] at Y;rw [hvl] at Y;exact hk l c h1 h2 h3 h4 Y h8 h9
theorem KW {qs l':List cL}{j:Nat}{g:Int}{I:List cL×List cL×Int->Option (List cL×List cL)}{Q:List cL×List cL->Prop} (J:j<qs.length) (hN:qs.length<=1000001) (Y:0<=g/\g<4294967296)
  (hn:Gd (I (qs.set j ⟨g⟩,l',(j:Int)-1)) Q):Gd (l9 qs (j:Int) I l' g) Q:=by
 unfold l9;refine Gd.iT J ?_;rw [RZ,yV,bZ (by omega),show g%4294967296=g by omega]
 exact hn
theorem OK {W P B I U V Y:Nat} (h0:Y=I+P*U) (J:I<P) (Z:V<=B) (hU:U<W*V):Y<P*(W*B):=by
 have h1:U+1<=W*B:=S6 hU (Yg _ Z);have h2:P*(U+1)<=P*(W*B):=Yg _ h1;rw [Yd] at h2;omega
theorem CE {J X M T:Nat} (h:J=X+M*T) (Y:J<M):T=0:=by
 rcases Nat.eq_zero_or_pos T with I | I
 ·exact I
 ·have:M*1<=M*T:=Yg _ I
  omega
theorem Ll {b r134 vs:List cL}{j g q U:Nat}{l0 qs:List cL}{nx:List cL×List cL×Int->Option (List cL×List cL)}{Q:List cL×List cL->Prop}
  (hvs:pM r134 0 (((b.length:Int):Int).toNat)=vs) (hvl:vs.length=b.length) (hvw:Wf vs) (hl:Wf l0) (hjn:j+b.length<l0.length) (hN:l0.length<=1000001) (hj:j<qs.length) (hqN:qs.length<=1000001)
  (hU:nv (l0.drop j)=U) (hV:nv vs<=WB ^ b.length) (hUW:U<WB*nv vs) (hq1:q*nv vs<=U) (hq2:U<(q+1)*nv vs) (hqW:q<WB) (hg:PG WB (nv vs) U q g)
  (hn:∀ l',l'.length=l0.length->Wf l'->nv l'+WB ^ j*(q*nv vs)=nv l0->(∀ p,p<j->l'[p]? = l0[p]?)->Gd (nx (qs.set j ⟨(q:Int)⟩,l',(j:Int)-1)) Q):
  Gd (gY b r134 qs l0 (j:Int) nx (g:Int)) Q:=by
 have hqW':q<4294967296:=hqW;have wjn:i64.wrap ((j:Int)+(b.length:Int))=((j+b.length:Nat):Int):=by rw [bZ ⟨by omega,by omega⟩]; omega
 have hjk:(((j+b.length:Nat):Int)).toNat=j+b.length:=by omega
 have h0:=DG l0 (m:=j) (by omega)
 rw [hU] at h0;have hlow:=ui (hl.take j);rw [Ss,S7 (by omega)] at hlow
 have hpow:WB ^ (j+b.length+1)=WB ^ j*(WB*WB ^ b.length):=by rw [Yo,Yi,Yf WB,Ye]
 have hbig:nv l0<WB ^ (j+b.length+1):=by rw [hpow]; exact OK h0 hlow hV hUW
 have habove:nv (l0.drop (j+b.length+1))=0:=CE (DG l0 (m:=j+b.length+1) (by omega)) hbig
 have small:∀ l:List cL,l.length=l0.length->Wf l->(∀ p,j+b.length+1<=p->l[p]? = l0[p]?)->nv l<WB ^ (j+b.length+1):=λl h1 h2 h3=>by
  rw [I6 h3 (by omega),habove,Yh,Tt]
  have:=ui (h2.take (j+b.length+1));rw [Ss,S7 (by omega)] at this
  exact this
 unfold gY;rw [show ((b.length:Int):Int).toNat=b.length by omega] at hvs
 rw [show ((b.length:Int):Int).toNat=b.length by omega]
 refine P7 (by rw [show ((b.length:Int):Int).toNat=b.length by omega]; exact hvs) hvl hvw hl hjn hN hg.w (λl J ca e1 e2 e3 e4 e5 e6 e7 e8 e9=>?_)
 obtain ⟨o,ho⟩:∃ o,l[j+b.length]? = some o:=⟨_,RY (by omega)⟩
 have how:=e2 o (Sd ho);simp only;rw [wjn];refine Gd.ix (by omega) (by rw [hjk]; exact ho) (Gd.ix (by omega) (by rw [hjk]; exact ho) ?_)
 have hnb:i64.wrap (J+(i64.wrap ((i64.wrap (o.n))-(i64.wrap ca))))=J+o.n-ca:=by
  rw [bZ (n:=o.n) (by omega),bZ (n:=ca) (by omega),bZ (n:=o.n-ca) (by omega),bZ (by omega)]
  omega
 rw [hnb,hjk,yV];have hA:=I4 (l:=l) (k:=j+b.length) (x:=o) (v:=⟨(J+o.n-ca)%4294967296⟩) ho how.1 (by simp only; omega)
 simp only at hA;have hW1:Wf (l.set (j+b.length) ⟨(J+o.n-ca)%4294967296⟩):=e2.set (by omega)
 have I:(l.set (j+b.length) (⟨(J+o.n-ca)%4294967296⟩:cL)).length=l0.length:=by simp [e1]
 have hab1:∀ p,j+b.length+1<=p->(l.set (j+b.length) (⟨(J+o.n-ca)%4294967296⟩:cL))[p]? = l0[p]? := λp hp=>by
  rw [Sx (by omega)]; exact e8 p (by omega)
 have hbe1:∀ p,p<j->(l.set (j+b.length) (⟨(J+o.n-ca)%4294967296⟩:cL))[p]? = l0[p]? := λp hp=>by
  rw [Sx (by omega)]; exact e9 p hp
 have hsm1:=small _ I hW1 hab1;generalize l.set (j+b.length) (⟨(J+o.n-ca)%4294967296⟩:cL)=l1 at hA hW1 I hab1 hbe1 hsm1;have hPW:((WB ^ (j+b.length+1):Nat):Int)=((WB ^ (j+b.length):Nat):Int)*4294967296:=by rw [Yo,SX,show ((WB:Nat):Int)=4294967296 from rfl]
 have hZ:(nv l1:Int)+((WB ^ (j+b.length):Nat):Int)*(J+o.n-ca-(J+o.n-ca)%4294967296)=nv l0-((WB ^ j:Nat):Int)*((g:Int)*(nv vs:Int)):=by
  rw [<- e7,XG,XG,XE,XG];omega
 have hZU:(nv l0:Int)-((WB ^ j:Nat):Int)*((g:Int)*(nv vs:Int))=nv (l0.take j)+((WB ^ j:Nat):Int)*((U:Int)-(g:Int)*(nv vs:Int)):=by
  rw [h0,XH,SX,XG]; omega
 have hge:=hg.ge; have hle:=hg.le
 refine Gd.ite (λhneg=>?_) (λhpos=>?_)
 ·have hneg:J+o.n-ca<0:=R7 hneg
  have hdiv:J+o.n-ca-(J+o.n-ca)%4294967296 = -4294967296:=by omega
  rw [hdiv] at hZ;have hZ1:(nv l1:Int)-((WB ^ (j+b.length+1):Nat):Int)=nv l0-((WB ^ j:Nat):Int)*((g:Int)*(nv vs:Int)):=by
   rw [hPW,<- hZ,Int.mul_neg]; omega
  have hgq:g=q+1:=by
   rcases (show g=q\/g=q+1 by omega) with h | h
   ·exfalso
    rw [h] at hZ1 hZU;have h0':(0:Int)<=(U:Int)-(q:Int)*(nv vs:Int):=by
     have h1':((q*nv vs:Nat):Int)<=U:=by omega
     rw [SX] at h1'; omega
    have:(0:Int)<=((WB ^ j:Nat):Int)*((U:Int)-(q:Int)*(nv vs:Int)):=Int.mul_nonneg (by omega) h0'
    omega
   ·exact h
  refine PT (j:=j) (l1:=l1) (by rw [show ((b.length:Int):Int).toNat=b.length by omega]; exact hvs) hvl hvw hW1 (by omega) (by omega) (λl2 c f1 f2 f3 f4 f5 f6 f7=>?_)
  obtain ⟨Z,ho2⟩:∃ Z,l2[j+b.length]? = some Z:=⟨_,RY (by omega)⟩
  have how2:=f2 Z (Sd ho2);simp only;refine Gd.ix (by omega) (by rw [hjk]; exact ho2) (Gd.ix (by omega) (by rw [hjk]; exact ho2) ?_)
  rw [yV,yV,show c%4294967296=c by omega]
  have hg1:u64.wrap ((g:Int)-1)=(q:Int):=by rw [hgq,i_ (by omega)]; omega
  rw [hg1];have hB:=DF (l:=l2) (k:=j+b.length) (x:=Z) (v:=⟨(Z.n+c)%4294967296⟩) ho2;simp only at hB;have hW2:Wf (l2.set (j+b.length) ⟨(Z.n+c)%4294967296⟩):=f2.set (by omega)
  have Y:(l2.set (j+b.length) (⟨(Z.n+c)%4294967296⟩:cL)).length=l0.length:=by simp [f1,I]
  have hab2:∀ p,j+b.length+1<=p->(l2.set (j+b.length) (⟨(Z.n+c)%4294967296⟩:cL))[p]? = l0[p]? := λp hp=>by
   rw [Sx (by omega),f6 p (by omega)]; exact hab1 p hp
  have hbe2:∀ p,p<j->(l2.set (j+b.length) (⟨(Z.n+c)%4294967296⟩:cL))[p]? = l0[p]? := λp hp=>by
   rw [Sx (by omega),f7 p hp]; exact hbe1 p hp
  have hsm2:=small _ Y hW2 hab2;generalize l2.set (j+b.length) (⟨(Z.n+c)%4294967296⟩:cL)=l3 at hB hW2 Y hab2 hbe2 hsm2;refine KW hj hqN (by omega) (hn l3 Y hW2 ?_ hbe2)
  obtain ⟨κ,hκ⟩:∃ κ:Nat,Z.n.toNat+c.toNat=((Z.n+c)%4294967296).toNat+WB*κ:=by
   refine ⟨((Z.n+c) / 4294967296).toNat,?_⟩;have eW:WB=4294967296:=rfl;rw [eW]; omega
  have hsum:nv l3+WB ^ (j+b.length+1)*κ=nv l1+WB ^ j*nv vs:=by
   have e:WB ^ (j+b.length)*Z.n.toNat+WB ^ (j+b.length)*c.toNat=WB ^ (j+b.length)*((Z.n+c)%4294967296).toNat+WB ^ (j+b.length)*(WB*κ):=by
    rw [<- Yd,hκ,Yd]
   rw [Yo,Ye];omega
  have hVlt:WB ^ j*nv vs<WB ^ (j+b.length+1):=by
   have h1:WB ^ j*nv vs<=WB ^ j*WB ^ b.length:=Yg _ hV;have h2:WB ^ j*WB ^ b.length<WB ^ (j+b.length+1):=by
    rw [<- Yi]; exact Nat.pow_lt_pow_right (by decide) (by omega)
   omega
  have hZq:(nv l1:Int)+((WB ^ j*nv vs:Nat):Int)=nv (l0.take j)+((WB ^ j:Nat):Int)*((U:Int)-(q:Int)*(nv vs:Int))+((WB ^ (j+b.length+1):Nat):Int):=by
   rw [hgq] at hZ1 hZU;have e:((WB ^ j:Nat):Int)*((U:Int)-((q+1:Nat):Int)*(nv vs:Int))=((WB ^ j:Nat):Int)*((U:Int)-(q:Int)*(nv vs:Int))-((WB ^ j*nv vs:Nat):Int):=by
    rw [SX,<- XG]
    congr 1
    rw [show ((q+1:Nat):Int)=(q:Int)+1 by omega,Int.add_mul]
    omega
   rw [e] at hZU;omega
  have hnn:(0:Int)<=((WB ^ j:Nat):Int)*((U:Int)-(q:Int)*(nv vs:Int)):=Int.mul_nonneg (by omega) (by
   have:((q*nv vs:Nat):Int)<=U:=by omega
   rw [SX] at this; omega)
  have hκ1:κ=1:=by
   rcases TZ κ 1 with h | h
   ·exfalso
    have:κ=0:=by omega
    rw [this] at hsum; omega
   ·rcases TZ 1 κ with h2 | h2
    ·exfalso
     have:WB ^ (j+b.length+1)*2<=WB ^ (j+b.length+1)*κ:=Yg _ h2;omega
    ·omega
  rw [hκ1,UO] at hsum;have e:((WB ^ j:Nat):Int)*((U:Int)-(q:Int)*(nv vs:Int))=((WB ^ j*U:Nat):Int)-((WB ^ j*(q*nv vs):Nat):Int):=by
   rw [XG,SX,SX,SX]
  rw [e] at hZq;omega
 ·have hpos:¬ J+o.n-ca<0:=Sc hpos
  have hdiv:J+o.n-ca-(J+o.n-ca)%4294967296=0:=by omega
  rw [hdiv,Int.mul_zero,Int.add_zero] at hZ;have hgq:g=q:=by
   rcases (show g=q\/g=q+1 by omega) with h | h
   ·exact h
   ·exfalso
    rw [h] at hZ hZU;have h1:(U:Int)-((q+1:Nat):Int)*(nv vs:Int)<=-1:=by
     have:(U:Int)<(((q+1)*nv vs:Nat):Int):=by omega
     rw [SX] at this; omega
    have h2:((WB ^ j:Nat):Int)*((U:Int)-((q+1:Nat):Int)*(nv vs:Int))<=((WB ^ j:Nat):Int)*(-1):=Int.mul_le_mul_of_nonneg_left h1 (by omega)
    omega
  rw [hgq] at hZ ⊢;refine KW hj hqN (by omega) (hn l1 I hW1 ?_ hbe1)
  have e:((WB ^ j:Nat):Int)*((q:Int)*(nv vs:Int))=((WB ^ j*(q*nv vs):Nat):Int):=by rw [SX,SX]
  rw [e] at hZ;omega
theorem I5 {l:List cL}{m:Nat}{x y:cL} (h1:l[m+1]? = some x) (h2:l[m]? = some y) (I:nv (l.drop (m+2))=0):nv l=(x.n.toNat*WB+y.n.toNat)*WB ^ m+nv (l.take m):=by
 have e:=xK h2;have e1:nv (l.drop (m+1))=x.n.toNat+WB*nv (l.drop (m+2)):=by rw [sD h1,nv]
 rw [e,e1,I,Yh,Tt,Yf (WB ^ m),UN (nv (l.take m)),UN y.n.toNat,Yf WB x.n.toNat]
theorem L7 {l:List cL}{m:Nat}{x y z:cL} (h1:l[m+2]? = some x) (h2:l[m+1]? = some y) (J:l[m]? = some z) (I:nv (l.drop (m+3))=0):nv l=((x.n.toNat*WB+y.n.toNat)*WB+z.n.toNat)*WB ^ m+nv (l.take m):=by
 have e:=xK J;have e1:nv (l.drop (m+1))=y.n.toNat+WB*nv (l.drop (m+2)):=by rw [sD h2,nv]
 have e2:nv (l.drop (m+2))=x.n.toNat+WB*nv (l.drop (m+3)):=by rw [sD h1,nv]
 rw [e,e1,e2,I,Yh,Tt,Yf (WB ^ m),UN (nv (l.take m)),UN z.n.toNat,Yf WB (y.n.toNat+_),UN y.n.toNat,Yf WB x.n.toNat]
theorem LB {b J vs:List cL}{j n2 q U R v1 v2 vl u2 ul top:Nat}{l0 qs:List cL}{nx:List cL×List cL×Int->Option (List cL×List cL)}{Q:List cL×List cL->Prop}
  (hb:b.length=n2+2) (hvs:pM J 0 (((b.length:Int):Int).toNat)=vs) (hvl:vs.length=b.length) (hl0:j+b.length<l0.length) (hN:l0.length<=1000001)
  (y1 y2 z2:cL) (hy1:vs[n2+1]? = some y1) (hy2:vs[n2]? = some y2) (hz2:l0[j+n2]? = some z2) (e1:y1.n=v1) (e2:y2.n=v2) (e3:z2.n=u2) (w1:v1<4294967296) (hv1:1<=v1)
  (hS:Iw WB R v1 v2 vl u2 ul top (nv vs) U) (hq1:q*nv vs<=U) (hq2:U<(q+1)*nv vs) (hqW:q<WB)
  (hk:∀ g,PG WB (nv vs) U q g->Gd (gY b J qs l0 (j:Int) nx (g:Int)) Q)
  {g0 I:Nat} (h0:Gs WB R v1 v2 vl u2 ul top (nv vs) U q g0 I):
  Gd (iV (λY n=>qc b J qs l0 (j:Int) nx Y.1 Y.2 n) gO ((g0:Int),(I:Int))) Q:=by
 have hu2:u2<4294967296:=hS.u2;have hv2:v2<4294967296:=hS.v2;have eW:WB=4294967296:=rfl;refine Gd.iV (λ(z:Int×Int)=>∃ g rest:Nat,z=((g:Int),(rest:Int))/\Gs WB R v1 v2 vl u2 ul top (nv vs) U q g rest) (λz=>z.1.toNat) ?_ gO _ ⟨g0,I,rfl,h0⟩ ?_
 ·rintro z nx2 ⟨g,rest,rfl,Z⟩ hnx
  simp only at hnx ⊢;have hrest:rest<4294967296:=Z.rest;have hgW:g<=4294967297:=Z.le;have wn1:i64.wrap ((b.length:Int)-1)=((n2+1:Nat):Int):=by rw [hb,bZ (by omega)]; omega
  have wn2:i64.wrap ((b.length:Int)-2)=((n2:Nat):Int):=by rw [hb,bZ (by omega)]; omega
  have wjn:i64.wrap ((i64.wrap ((j:Int)+(b.length:Int)))-2)=((j+n2:Nat):Int):=by rw [hb,bZ (n:=(j:Int)+_) (by omega),bZ (by omega)]; omega
  have dec:q<g->Gd (if decide (4294967296<=(u64.wrap ((rest:Int)+(u64.wrap (y1.n))))) then (gY b J qs l0 (j:Int) nx (u64.wrap ((g:Int)-1))) else (nx2 (u64.wrap ((g:Int)-1),u64.wrap ((rest:Int)+(u64.wrap (y1.n)))))) Q:=λhlt=>by
   have er:u64.wrap ((rest:Int)+(u64.wrap (y1.n)))=((rest+v1:Nat):Int):=by
    rw [e1,i_ (n:=(v1:Int)) (by omega),i_ (by omega)]; omega
   have eg:u64.wrap ((g:Int)-1)=((g-1:Nat):Int):=by rw [i_ (by omega)]; omega
   rw [er,eg];refine Gd.ite (λh=>hk _ (Z.over hS hq2 hv1 hlt (by rw [eW]; have:=R7 h; omega))) (λh=>hnx _ ⟨g-1,rest+v1,rfl,Z.next hlt (by rw [eW]; have:=Sc h; omega)⟩ ?_)
   simp only [RZ];omega
  unfold qc;rw [hvs,wn1,wn2,wjn];refine Gd.ite (λh=>?_) (λh=>?_)
  ·have h:=R7 h
   refine Gd.ix (by omega) (by rw [RZ]; exact hy1) (dec (Z.less hS hq1 hqW (.inl (by rw [eW]; omega))))
  ·have h:=Sc h
   refine Gd.ix (by omega) (by rw [RZ]; exact hy2) (Gd.ix (by omega) (by rw [RZ]; exact hz2) ?_)
   have eor:u64.wrap ((BitVec.ofInt (u64).bits (vc .u64 (rest:Int) 32) ||| BitVec.ofInt (u64).bits (u64.wrap (z2.n))).toNat)=((rest*WB+u2:Nat):Int):=by
    rw [A5 ⟨by omega,by omega⟩ (by rw [e3]; omega),e3,eW]; omega
   have egv:u64.wrap ((g:Int)*(u64.wrap (y2.n)))=((g*v2:Nat):Int):=by
    have hb2:g*v2<=4294967296*4294967295:=Nat.mul_le_mul (by omega) (by omega)
    rw [e2,i_ (n:=(v2:Int)) (by omega),show (g:Int)*(v2:Int)=((g*v2:Nat):Int) by rw [SX],i_ (by omega)]
   rw [eor,egv];refine Gd.ite (λh2=>Gd.ix (by omega) (by rw [RZ]; exact hy1) (dec (Z.less hS hq1 hqW (.inr ?_)))) (λh2=>hk g (Z.stop hS hq2 hv1 (by rw [eW]; omega) ?_))
   ·exact Int.ofNat_lt.1 (R7 h2)
   ·have:=Sc h2
    exact Int.ofNat_le.1 (Int.not_lt.1 this)
 ·simp only [gO,RZ]
  have:g0<=4294967297:=h0.le;omega
theorem Lz {W R v1 v2 vl u2 ul u0 u1 V U q:Nat} (h:Iw W R v1 v2 vl u2 ul (u0*W+u1) V U) (Y:q*V<=U) (J:1<=v1) (hv1:v1<W) (hW:W<=2*v1) (I:u0<=v1) (Z:u1<W):
  Gs W R v1 v2 vl u2 ul (u0*W+u1) V U q ((u0*W+u1) / v1) ((u0*W+u1)%v1):=by
 have O:(u0*W+u1)%v1<v1:=U3 _ J;refine ⟨(Ya J).2 (h.Pe Y),?_,by omega,?_⟩
 ·rw [Yf,UN,Yc]
 ·have h1:u0*W<=v1*W:=Si _ I
  have h2:u0*W+u1<(W+2)*v1:=by
   rw [So,Yf W v1]; omega
  have:=(X_ J).2 h2;omega
theorem Fs {W R u0 u1 v1 v2 vl ul V X:Nat} (Y:X=(u0*W+u1)*R+ul) (J:V=(v1*W+v2)*R+vl) (Z:X<V) (hvl:vl<R) (I:v2<W):u0<=v1:=by
 rcases TZ v1 u0 with h | h
 ·exfalso
  have h1:(v1+1)*W*R<=u0*W*R:=Si _ (Si _ h);have h2:(v2+1)*R<=W*R:=Si _ I;have e1:(v1+1)*W*R=v1*W*R+W*R:=by rw [So,So,Wx]
  have e2:X=u0*W*R+u1*R+ul:=by rw [Y,So]
  have e3:V=v1*W*R+v2*R+vl:=by rw [J,So]
  rw [So] at h2;omega
 ·exact h
theorem LJ {q W D V P I J U0:Nat} (h1:I+P*(q*V)=J) (h2:D*V*(P*W)+J=U0):(q+W*D)*V*P+I=U0:=by
 have e1:(q+W*D)*V*P=P*(q*V)+D*V*(P*W):=by
  rw [So,So,Yf P (q*V)]
  congr 1
  rw [Yf W D,Ye D W V,Yf W V,<- Ye D V W,Ye (D*V) W P,Yf W P]
 omega
theorem Nx {W x y V:Nat} (J:x<W) (I:y<V):x+W*y<W*V:=by
 have:W*(y+1)<=W*V:=Yg _ I;rw [Yd] at this; omega
theorem Mi {P a x q V U:Nat} (hP:0<P) (h1:a+P*x+P*(q*V)=a+P*U) (h2:U<(q+1)*V):x<V:=by
 have e:P*(x+q*V)=P*U:=by rw [Yd]; omega
 have:=Nat.eq_of_mul_eq_mul_left hP e;rw [So] at h2;omega
theorem JM {b r134 vs:List cL}{r127:Int}{n2 N U0:Nat}{Q:List cL×List cL->Prop}
  (hb:b.length=n2+2) (hvs:pM r134 0 (((b.length:Int):Int).toNat)=vs) (hvl:vs.length=b.length) (hvw:Wf vs) (hN:N<=1000001)
  (J y2:cL) (hy1:vs[n2+1]? = some J) (hy2:vs[n2]? = some y2) (hnorm:2147483648<=J.n)
  (I u0:List cL) (hq0:I.length+b.length=N) (hqw:Wf I) (hu0:u0.length=N) (huw:Wf u0) (hstart:nv (u0.drop I.length)<nv vs) (hval:nv u0=U0)
  (hk:∀ qs u,qs.length=I.length->Wf qs->u.length=N->Wf u->nv qs*nv vs+nv u=U0->nv u<nv vs ->
   Gd (cZ (0<=(b.length:Int)/\(b.length:Int)*4<=140737488355328) (lH (λk Z n=>nG r127 u k Z n) (λZ=>some (qs,Z)) ((b.length:Int):Int).toNat 0 (List.replicate ((b.length:Int):Int).toNat (⟨0⟩:cL)))) Q):
  Gd (iV (λY n=>p_ b r127 r134 Y.1 Y.2.1 Y.2.2 n) gO (I,u0,(I.length:Int)-1)) Q:=by
 have hy1w:=hvw J (Sd hy1); have hy2w:=hvw y2 (Sd hy2)
 have hVB:nv vs<=WB ^ b.length:=by have:=ui hvw; rw [hvl] at this; omega
 refine Gd.iV (λ(z:List cL×List cL×Int)=>z.1.length=I.length/\Wf z.1/\z.2.1.length=N/\Wf z.2.1/\-1<=z.2.2/\z.2.2<I.length/\nv (z.1.drop (z.2.2+1).toNat)*nv vs*WB ^ (z.2.2+1).toNat+nv z.2.1=U0/\nv (z.2.1.drop (z.2.2+1).toNat)<nv vs) (λz=>(z.2.2+1).toNat) ?_ gO _ ⟨rfl,hqw,hu0,huw,by simp only; omega,by simp only; omega,?_,?_⟩ (by simp only [gO]; omega)
 ·rintro ⟨qs,u,j⟩ nx ⟨h1,h2,h3,h4,h5,h6,h7,h8⟩ hnx
  simp only at h1 h2 h3 h4 h5 h6 h7 h8 hnx ⊢;unfold p_;refine Gd.ite (λhj=>?_) (λhj=>?_)
  ·have hj:=R7 hj
   obtain ⟨k,rfl⟩:∃ k:Nat,j=k:=⟨j.toNat,by omega⟩
   rw [show ((k:Int)+1).toNat=k+1 by omega] at h7 h8
   obtain ⟨t0,ht0⟩:∃ t,u[k+n2+2]? = some t:=⟨_,RY (by omega)⟩
   obtain ⟨t1,ht1⟩:∃ t,u[k+n2+1]? = some t:=⟨_,RY (by omega)⟩
   obtain ⟨t2,ht2⟩:∃ t,u[k+n2]? = some t:=⟨_,RY (by omega)⟩
   have w0:=h4 t0 (Sd ht0); have w1:=h4 t1 (Sd ht1); have w2:=h4 t2 (Sd ht2)
   have wjn:i64.wrap ((k:Int)+(b.length:Int))=((k+n2+2:Nat):Int):=by rw [hb,bZ (by omega)]; omega
   have wjm:i64.wrap (((k+n2+2:Nat):Int)-1)=((k+n2+1:Nat):Int):=by rw [bZ (by omega)]; omega
   have wn1:i64.wrap ((b.length:Int)-1)=((n2+1:Nat):Int):=by rw [hb,bZ (by omega)]; omega
   rw [hvs,wjn,wjm,wn1];have ey1:u64.wrap J.n=J.n:=i_ (by omega)
   refine Gd.ix (by omega) (by rw [RZ]; exact ht0) (Gd.ix (by omega) (by rw [RZ]; exact ht1) (Gd.ix (by omega) (by rw [RZ]; exact hy1) (Gd.nd (by rw [ey1]; omega) (Gd.ix (by omega) (by rw [RZ]; exact hy1) (Gd.nd (by rw [ey1]; omega) ?_)))))
   rw [i_ (n:=t0.n) (by omega),A5 w0 w1,ey1]
   obtain ⟨x,hx⟩:∃ x,u[k]? = some x:=⟨_,RY (by omega)⟩
   have hxw:=h4 x (Sd hx);have hU1:nv (u.drop k)=x.n.toNat+WB*nv (u.drop (k+1)):=by rw [sD hx,nv]
   have hUlt:nv (u.drop k)<WB*nv vs:=by rw [hU1]; exact Nx (by show x.n.toNat<4294967296; omega) h8
   have hVlt:nv vs<WB ^ (n2+2):=by have:=ui hvw; rw [hvl,hb] at this; exact this
   have hz:nv (u.drop (k+1+(n2+2)))=0:=by
    have e:=DG (u.drop (k+1)) (m:=n2+2) (by rw [Tx]; omega)
    rw [TW] at e;exact CE e (by omega)
   have hVe:=I5 hy1 hy2 (by rw [XO (by omega)]; rfl)
   have hXe:=I5 (l:=u.drop (k+1)) (m:=n2) (x:=t0) (y:=t1) (by rw [SK,show k+1+(n2+1)=k+n2+2 by omega]; exact ht0) (by rw [SK,show k+1+n2=k+n2+1 by omega]; exact ht1) (by rw [TW]; exact hz)
   have hUe:=L7 (l:=u.drop k) (m:=n2) (x:=t0) (y:=t1) (z:=t2) (by rw [SK,show k+(n2+2)=k+n2+2 by omega]; exact ht0) (by rw [SK,show k+(n2+1)=k+n2+1 by omega]; exact ht1) (by rw [SK]; exact ht2) (by rw [TW,show k+(n2+3)=k+1+(n2+2) by omega]; exact hz)
   have hvl':nv (vs.take n2)<WB ^ n2:=by have:=ui (hvw.take n2); rw [Ss,S7 (by omega)] at this; exact this
   have hul':nv ((u.drop k).take n2)<WB ^ n2:=by
    have:=ui (l:=(u.drop k).take n2) (λz hz=>h4 z (Wq (Uu hz)));rw [Ss,Tx,S7 (by omega)] at this; exact this
   have hS:Iw WB (WB ^ n2) J.n.toNat y2.n.toNat (nv (vs.take n2)) t2.n.toNat (nv ((u.drop k).take n2)) (t0.n.toNat*WB+t1.n.toNat) (nv vs) (nv (u.drop k)):=
    ⟨hVe,hUe,hvl',hul',by show t2.n.toNat<4294967296; omega,by show y2.n.toNat<4294967296; omega⟩
   have hle:t0.n.toNat<=J.n.toNat:=Fs hXe hVe h8 hvl' (by show y2.n.toNat<4294967296; omega)
   have hVpos:0<nv vs:=by omega
   obtain ⟨q,hq1,hq2,hqW⟩:∃ q,q*nv vs<=nv (u.drop k)/\nv (u.drop k)<(q+1)*nv vs/\q<WB:=by
    refine ⟨nv (u.drop k) / nv vs,Nat.div_mul_le_self _ _,?_,(X_ hVpos).2 hUlt⟩;have:=Th (nv (u.drop k) / nv vs);exact (X_ hVpos).1 this
   have hG:=Lz hS hq1 (show 1<=J.n.toNat by omega) (show J.n.toNat<WB by show J.n.toNat<4294967296; omega) (show WB<=2*J.n.toNat by show 4294967296<=2*J.n.toNat; omega) hle (show t1.n.toNat<WB by show t1.n.toNat<4294967296; omega)
   have hg0:=hG.le;have etop:t0.n*4294967296+t1.n=((t0.n.toNat*WB+t1.n.toNat:Nat):Int):=by
    show _=((t0.n.toNat*4294967296+t1.n.toNat:Nat):Int); omega
   have ey:J.n=((J.n.toNat:Nat):Int):=by omega
   have ed:Int.tdiv (t0.n*4294967296+t1.n) J.n=(((t0.n.toNat*WB+t1.n.toNat) / J.n.toNat:Nat):Int):=by
    rw [etop,ey]; rfl
   have em:Int.tmod (t0.n*4294967296+t1.n) J.n=(((t0.n.toNat*WB+t1.n.toNat)%J.n.toNat:Nat):Int):=by
    rw [etop,ey]; rfl
   rw [ed,em];generalize (t0.n.toNat*WB+t1.n.toNat) / J.n.toNat=g0 at hG hg0 ⊢;generalize (t0.n.toNat*WB+t1.n.toNat)%J.n.toNat=rest0 at hG ⊢;have eW:(WB:Nat)=4294967296:=rfl;rw [eW] at hg0;rw [i_ (n:=(g0:Int)) (by omega)]
   refine LB hb hvs hvl (by omega) (by omega) J y2 t2 hy1 hy2 ht2 (by omega) (by omega) (by omega) (by omega) (by omega) hS hq1 hq2 hqW (λg hg=>?_) hG
   refine Ll hvs hvl hvw h4 (by omega) (by omega) (by omega) (by omega) rfl hVB hUlt hq1 hq2 hqW hg (λl' f1 f2 f3 f4=>?_)
   have ek:((k:Int)-1+1).toNat=k:=by omega
   refine hnx _ ⟨by rw [Tp]; exact h1,h2.set (by rw [eW] at hqW; omega),by simp only; omega,f2,by simp only; omega,by simp only; omega,?_,?_⟩ (by simp only; omega)
   ·simp only
    rw [ek,sD (SC (by omega)),nv,UK (by omega)]
    rw [RZ];rw [Yo] at h7;exact LJ f3 h7
   ·simp only
    rw [ek];have e1:=DG l' (m:=k) (by omega)
    have e2:=DG u (m:=k) (by omega)
    have e3:l'.take k=u.take k:=by
     apply TP;intro i;rw [SU,SU]
     by_cases hi:i<k
     ·rw [R9 hi,R9 hi]; exact f4 i hi
     ·rw [R8 hi,R8 hi]
    rw [e3] at e1;refine Mi (a:=nv (u.take k)) (P:=WB ^ k) (Yn (by decide)) ?_ hq2
    omega
  ·have hj:=Sc hj
   rw [show (j+1).toNat=0 by omega,Tr,Yp,UO] at h7
   rw [show (j+1).toNat=0 by omega,Tr] at h8
   exact hk qs u h1 h2 h3 h4 h7 h8
 ·simp only
  rw [show ((I.length:Int)-1+1).toNat=I.length by omega,Vc]
  simp [nv,hval]
 ·simp only
  rw [show ((I.length:Int)-1+1).toNat=I.length by omega]
  exact hstart
theorem D9 {W S M u0 u1 hi:Nat} (J:W=S*M) (I:0<S):
  (u0+W*(u1+W*hi)) / S%W=(u1*W+u0) / S%W:=by
 have e:u0+W*(u1+W*hi)=(u1*W+u0)+S*(M*(W*hi)):=by
  have e1:W*(W*hi)=S*(M*(W*hi)):=by rw [<- Ye S M,<- J]
  rw [Yd,e1,Yf W u1]; omega
 rw [e,Nat.add_mul_div_left _ _ I];have e2:M*(W*hi)=W*(M*hi):=by rw [<- Ye,Yf M W,Ye]
 rw [e2,Nat.add_mul_mod_self_left]
theorem FQ {W S u0 T:Nat} (I:u0<W):(u0+W*T) / S / W=T / S:=by
 rw [Nat.div_div_eq_div_mul,Yf S W,<- Nat.div_div_eq_div_mul,Nat.add_mul_div_left _ _ (by omega),X9 I,Sp]
theorem Pc {n:Int}{k:Nat} (I:k<=64):pL .u64 n (k:Int)=n / (2 ^ k:Nat):=by
 unfold pL;rw [show (min ((k:Int)).toNat u64.bits)=k by show min ((k:Int)).toNat 64=k; omega,UR _ (Int.le_of_lt (Int.pow_pos (by decide)))]
 rw [Int.natCast_pow]; rfl
theorem G8 {A P d W D I Z:Nat} (h:A+P*D=Z) (Y:D%W=d) (J:D / W=I):(A+P*d)+P*W*I=Z:=by
 have e:d+W*I=D:=by rw [<- Y,<- J,Yc]
 rw [Ye P W,Uv,<- Yd,e,h]
theorem Iq {n s:Nat} (hs:s<=31) {u:List cL} (hu:Wf u) (hl:n<u.length) (hz:u.length<=1000001) {qs:List cL}{Q:List cL×List cL->Prop} (hlt:nv u / 2 ^ s<WB ^ n)
  (hk:∀ r,Wf r->r.length=n->nv r=nv u / 2 ^ s->Q (qs,r)):
  Gd (lH (λk I n=>nG (s:Int) u k I n) (λI=>some (qs,I)) n 0 (List.replicate n (⟨0⟩:cL))) Q:=by
 have hS:0<(2:Nat) ^ s:=Yn (by decide)
 have hWS:WB=2 ^ s*2 ^ (32-s):=by rw [<- Yi,show s+(32-s)=32 by omega]
 refine Gd.lH (λm k (z:List cL)=>k+m=n/\z.length=n/\Wf z/\nv (z.take k)+WB ^ k*(nv (u.drop k) / 2 ^ s)=nv u / 2 ^ s) ?_ ?_ _ 0 _ ⟨by omega,by simp,λy hy=>?_,by simp [nv]⟩
 ·rintro m k l nx ⟨h0,h1,h2,h3⟩ hnx
  obtain ⟨J,Z⟩:∃ t,u[k]? = some t:=⟨_,RY (by omega)⟩
  obtain ⟨Y,hx1⟩:∃ t,u[k+1]? = some t:=⟨_,RY (by omega)⟩
  have w0:=hu J (Sd Z); have w1:=hu Y (Sd hx1)
  have wk:i64.wrap ((k:Int)+1)=((k+1:Nat):Int):=by rw [bZ (by omega)]; omega
  unfold nG;rw [wk];refine Gd.ix (by omega) (by rw [RZ]; exact hx1) (Gd.ix (by omega) (by rw [RZ]; exact Z) (Gd.nd (by omega) (Gd.iT (by omega) ?_)))
  rw [i_ (n:=Y.n) (by omega),A5 w1 w0,Pc (by omega),yV,RZ]
  have e1:Y.n*4294967296+J.n=((Y.n.toNat*WB+J.n.toNat:Nat):Int):=by
   show _=((Y.n.toNat*4294967296+J.n.toNat:Nat):Int); omega
  have e2:(Y.n*4294967296+J.n) / ((2 ^ s:Nat):Int)%4294967296=(((Y.n.toNat*WB+J.n.toNat) / 2 ^ s%WB:Nat):Int):=by
   rw [e1]; rfl
  rw [e2];have hd:nv (u.drop k)=J.n.toNat+WB*nv (u.drop (k+1)):=by rw [sD Z,nv]
  have hd1:nv (u.drop (k+1))=Y.n.toNat+WB*nv (u.drop (k+2)):=by rw [sD hx1,nv]
  have O:=D9 (u0:=J.n.toNat) (u1:=Y.n.toNat) (hi:=nv (u.drop (k+2))) hWS hS;rw [<- hd1,<- hd] at O;have hn:=FQ (W:=WB) (S:=2 ^ s) (u0:=J.n.toNat) (T:=nv (u.drop (k+1))) (by show J.n.toNat<4294967296; omega)
  rw [<- hd] at hn;have hlt':(Y.n.toNat*WB+J.n.toNat) / 2 ^ s%WB<WB:=U3 _ (by decide)
  refine hnx _ ⟨by omega,by rw [Tp]; exact h1,h2.set ⟨by omega,by have:(WB:Nat)=4294967296:=rfl; rw [this] at hlt'; omega⟩,?_⟩
  rw [xN (by omega),vS,Ss,S7 (by omega),Yo,RZ]
  exact G8 h3 O hn
 ·rintro k l ⟨h0,h1,h2,h3⟩
  have hk':k=n:=by omega
  subst hk';rw [Sh (by omega)] at h3
  have h0':=CE h3.symm hlt;rw [h0',Yh,Tt] at h3;exact Gd.ret (hk l h2 h1 h3)
 ·rw [X3] at hy
  rw [hy.2]; simp
theorem OQ {q V a b S u:Nat} (J:0<S) (Y:V=b*S) (h:q*V+u=a*S) (Z:u<V):u / S=a-q*b/\a-q*b<b/\q*b<=a:=by
 have e:q*V=q*b*S:=by rw [Y,Ye]
 have I:q*b<=a:=by
  have h1:q*b*S<=a*S:=by omega
  exact Nat.le_of_mul_le_mul_right h1 J
 have e2:u=(a-q*b)*S:=by rw [Nat.mul_sub_right_distrib]; omega
 refine ⟨by rw [e2,Nat.mul_div_cancel _ J],?_,I⟩
 rw [e2,Y] at Z;exact Nat.lt_of_mul_lt_mul_right Z
theorem PX {q a b:Nat} (h1:a-q*b<b) (h2:q*b<=a):q=a / b/\a-q*b=a%b:=by
 have:=(Nat.div_mod_unique (a:=a) (b:=b) (c:=a-q*b) (d:=q) (by omega)).2 ⟨by rw [Yf b q]; omega,h1⟩
 exact ⟨this.1.symm,this.2.symm⟩
theorem MA {W S M x B P:Nat} (I:W=S*M) (J:x*S<W) (Y:B<(x+1)*P):B*S<W*P:=by
 have h1:x<M:=by rw [I,Yf] at J; exact Yb J
 have h2:(x+1)*S<=W:=by rw [I,Yf S M]; exact Si _ h1
 have Z:0<S:=by
  rcases Nat.eq_zero_or_pos S with h | h
  ·rw [h] at I; simp at I; rw [I] at J; omega
  ·exact h
 have h3:B*S<(x+1)*P*S:=(Nat.mul_lt_mul_right Z).2 Y;have h4:(x+1)*P*S=(x+1)*S*P:=by rw [Ye,Yf P S,<- Ye]
 have h5:(x+1)*S*P<=W*P:=Si _ h2;omega
theorem Lm {a b:List cL} (ha:Wf a) (Z:Wf b) (hta:xg a) (J:xg b) (hne:b≠[]) (hza:a.length<=900000) (hzb:b.length<=900000):
  Gd (oY a b) (λr=>Wf r.1/\Wf r.2/\r.1.length<=a.length/\r.2.length<=a.length/\nv r.1=nv a / nv b/\nv r.2=nv a%nv b):=by
 unfold oY;refine Gd.fH (K7 ha Z hta J (by omega) (by omega)) (λc hc=>Gd.ite (λh=>?_) (λh=>?_))
 ·have hlt:=hc.1.1 (R7 h)
  exact Gd.ret ⟨Wf.nil,ha,by simp,Sj _,by rw [X9 hlt]; rfl,by rw [T0 hlt]⟩
 ·have hge:nv b<=nv a:=by
   have h:=Sc h;have:=mt hc.1.2 h;omega
  have hbl:0<b.length:=XZ.2 hne;have hle:b.length<=a.length:=by
   rcases TZ a.length b.length with h | h
   ·have:=wJ ha Z J h; omega
   ·exact h
  refine Gd.ite (λh1=>?_) (λh1=>?_)
  ·have h1:=R7 h1
   have h1:b.length=1:=by omega
   obtain ⟨x,rfl⟩:=XV.1 h1;have hx:=Z x (by simp)
   have hx0:x.n≠0:=J x (by simp)
   refine Gd.ix (y:=x) (by omega) (by simp) (Gd.fH (G3 ha (by omega) (d:=x.n) (by omega)) (λr hr=>Gd.ret ?_))
   obtain ⟨r1,r2,r3,r4⟩:=hr;have O:nv a%x.n.toNat<x.n.toNat:=U3 _ (by omega)
   refine ⟨r1,?_,by simp only; omega,by simp at hle ⊢; omega,by rw [r3,DE],?_⟩
   ·refine Wf.one ?_
    rw [r4]; omega
   ·simp only
    rw [DE,DE,r4,RZ]
  ·have h1:=Sc h1
   obtain ⟨n2,I⟩:∃ n2,b.length=n2+2:=⟨b.length-2,by omega⟩
   have wn1:i64.wrap ((b.length:Int)-1)=((n2+1:Nat):Int):=by rw [I,bZ (by omega)]; omega
   have wab:i64.wrap ((a.length:Int)-(b.length:Int))=((a.length-b.length:Nat):Int):=by rw [bZ (by omega)]; omega
   have wab1:i64.wrap (((a.length-b.length:Nat):Int)+1)=((a.length-b.length+1:Nat):Int):=by rw [bZ (by omega)]; omega
   rw [wn1,wab,wab1];obtain ⟨x,hx⟩:∃ t,b[n2+1]? = some t:=⟨_,RY (by omega)⟩
   have hxw:=Z x (Sd hx);have hx0:x.n≠0:=J x (by rw [XT,I]; exact hx)
   refine Gd.ix (by omega) (by rw [RZ]; exact hx) (Gd.fH (P6 (x:=x.n) (by omega) hxw.2) ?_)
   rintro sv ⟨s,rfl,hs1,hs2,hs3⟩;refine Gd.fH (DU ha (by omega) hs1) (λu0 hu0=>Gd.fH (DU Z (by omega) hs1) (λv0 hv0=>?_))
   obtain ⟨p1,p2,p3,p4⟩:=hu0;obtain ⟨q1,q2,q3,t,q4,q5⟩:=hv0;refine Gd.nd (by omega) (Gd.nd (by omega) ?_)
   have hS:0<(2:Nat) ^ s:=Yn (by decide)
   have hWS:WB=2 ^ s*2 ^ (32-s):=by rw [<- Yi,show s+(32-s)=32 by omega]
   have hbs:nv b=nv (b.take (n2+1))+WB ^ (n2+1)*x.n.toNat:=by
    have:=sK hx;rw [Sh (by omega)] at this; exact this
   have hbt:nv (b.take (n2+1))<WB ^ (n2+1):=by
    have:=ui (Z.take (n2+1)); rw [Ss,S7 (by omega)] at this; exact this
   have hb2:nv b<(x.n.toNat+1)*WB ^ (n2+1):=by rw [So,Yf x.n.toNat]; omega
   have hvlt:nv v0<WB ^ (n2+2):=by
    rw [q3,Yo,Yf _ WB];exact MA hWS hs3 hb2
   have hvs:nv (v0.take b.length)=nv v0/\Wf (v0.take b.length)/\(v0.take b.length).length=b.length:=by
    refine ⟨?_,q1.take _,by rw [Ss]; omega⟩
    have e:=DG v0 (m:=b.length) (by omega)
    have hz:nv (v0.drop b.length)=0:=CE e (by rw [I]; exact hvlt)
    rw [hz,Yh,Tt] at e;exact e.symm
   have hsl:pM v0 0 (((b.length:Int):Int).toNat)=v0.take b.length:=by
    rw [RZ]; rfl
   generalize v0.take b.length=vs at hvs hsl;obtain ⟨v1,v2,v3⟩:=hvs;obtain ⟨y1,hy1⟩:∃ t,vs[n2+1]? = some t:=⟨_,RY (by omega)⟩
   obtain ⟨y2,hy2⟩:∃ t,vs[n2]? = some t:=⟨_,RY (by omega)⟩
   have hy1w:=v2 y1 (Sd hy1);have hVS:nv vs=nv b*2 ^ s:=by rw [v1,q3]
   have hnorm:2147483648<=y1.n:=by
    have e1:nv vs=nv (vs.take (n2+1))+WB ^ (n2+1)*y1.n.toNat:=by
     have:=sK hy1;rw [Sh (by omega)] at this; exact this
    have e2:nv (vs.take (n2+1))<WB ^ (n2+1):=by
     have:=ui (v2.take (n2+1)); rw [Ss,S7 (by omega)] at this; exact this
    have e3:WB ^ (n2+1)*x.n.toNat*2 ^ s<=nv b*2 ^ s:=Si _ (by omega)
    rw [Ye] at e3;have e4:WB ^ (n2+1)*(x.n.toNat*2 ^ s)<WB ^ (n2+1)*(y1.n.toNat+1):=by rw [Yd (WB ^ (n2+1)) y1.n.toNat 1]; omega
    have e5:=Yb e4;omega
   have hst:nv (u0.drop (a.length-b.length+1))<nv vs:=by
    have e:=DG u0 (m:=a.length-b.length+1) (by omega)
    have h1:WB ^ (n2+1)<=nv b:=by have:=GQ Z J hne; rw [I] at this; exact this
    have h2:nv a<WB ^ a.length:=ui ha;have h3:nv u0<WB ^ a.length*2 ^ s:=by rw [p3]; exact (Nat.mul_lt_mul_right hS).2 h2
    have h4:WB ^ a.length*2 ^ s=WB ^ (a.length-b.length+1)*(WB ^ (n2+1)*2 ^ s):=by
     rw [<- Ye,<- Yi]; congr 2; omega
    have h5:nv (u0.drop (a.length-b.length+1))<WB ^ (n2+1)*2 ^ s:=by
     rw [h4] at h3;exact Yb (a:=WB ^ (a.length-b.length+1)) (by omega)
    have h6:WB ^ (n2+1)*2 ^ s<=nv b*2 ^ s:=Si _ h1;omega
   have Y:((a.length-b.length:Nat):Int)=((List.replicate (a.length-b.length+1) (⟨0⟩:cL)).length:Int)-1:=by
    rw [Tl]; omega
   rw [RZ,Y];refine JM (N:=a.length+1) (U0:=nv a*2 ^ s) I hsl v3 v2 (by omega) y1 y2 hy1 hy2 hnorm _ u0 (by rw [Tl]; omega) (λy hy=>by rw [X3] at hy; rw [hy.2]; simp) p2 p1 (by rw [Tl]; exact hst) p3 ?_
   intro qs u f1 f2 f3 f4 f5 f6;obtain ⟨g1,g2,g3⟩:=OQ hS hVS f5 f6;obtain ⟨g4,g5⟩:=PX g2 g3;refine Gd.nd (by omega) ?_
   rw [RZ];refine Iq hs1 f4 (by omega) (by omega) ?_ (λr r1 r2 r3=>⟨f2,r1,?_,?_,g4,?_⟩)
   ·rw [g1]; have:=ui Z; omega
   ·simp only; rw [f1,Tl]; omega
   ·simp only; omega
   ·simp only; rw [r3,g1,g5]
theorem ya {w:List cL} (J:Wf w) (ht:xg w):nv w=0↔w=[]:=by
 constructor
 ·intro h
  rcases XP w with I | ⟨a,y,I⟩
  ·exact I
  ·have:=GQ J ht (by rw [I]; simp)
   have Y:0<WB ^ (w.length-1):=Yn (by decide)
   omega
 ·intro h; rw [h]; rfl
theorem L6 {a b:List cL} (I:Wf a) (J:Wf b) (Y:xg a) (Z:xg b) (h:nv a=nv b):a=b:=by
 rcases Vm a.length b.length with h1 | h1 | h1
 ·have:=wJ I J Z h1; omega
 ·exact L5 I J h1 h
 ·have:=wJ J I Y h1; omega
theorem uw.ext' {a b:LI} (I:uw a) (J:uw b) (h:iK a=iK b):a=b:=by
 obtain ⟨Y,Z⟩:=a; obtain ⟨bm,bw⟩:=b
 have za:=ya I.wf I.tp; have zb:=ya J.wf J.tp
 have sa:=I.sign; have sb:=J.sign
 simp only [iK] at h za zb sa sb;have key:Y=bm->Z=bw->(aF.mk Y Z)=aF.mk bm bw:=by rintro rfl rfl; rfl
 cases Y <;> cases bm <;> simp at h sa sb
 ·exact key rfl (L6 I.wf J.wf I.tp J.tp (by omega))
 ·have:nv bw=0:=by omega
  exact absurd (zb.1 this) sb
 ·have:nv Z=0:=by omega
  exact absurd (za.1 this) sa
 ·exact key rfl (L6 I.wf J.wf I.tp J.tp (by omega))
def PC (A B:Nat):Nat:=if B=0 then 0 else 2*Nat.log2 (A*B)+2+(if A<B then 1 else 0)
theorem OS {A B:Nat} (hB:B≠0):PC B (A%B)<PC A B:=by
 unfold PC;rw [R8 hB]
 by_cases hR:A%B=0
 ·rw [R9 hR]; omega
 ·rw [R8 hR]
  have hlt:A%B<B:=U3 _ (by omega)
  rw [R8 (by omega:¬ B<A%B)]
  by_cases I:A<B
  ·rw [R9 I,T0 I,Yf B A]; omega
  ·rw [R8 I]
   have hle:2*(B*(A%B))<=A*B:=by
    have h1:A%B+B*(A / B)=A:=Yc A B;have h2:1<=A / B:=(Ya (by omega)).2 (by omega)
    have h3:B*1<=B*(A / B):=Yg _ h2;have Y:B*(2*(A%B))<=B*A:=Yg _ (by omega)
    rw [Yf A B,<- Ye,Yf 2 B,Ye]; exact Y
   have J:0<B*(A%B):=Nat.mul_pos (by omega) (by omega)
   have h5:Nat.log2 (B*(A%B))<Nat.log2 (A*B):=by
    have h6:2 ^ Nat.log2 (B*(A%B))<=B*(A%B):=Nat.log2_self_le (by omega)
    have Z:2 ^ (Nat.log2 (B*(A%B))+1)<=A*B:=by rw [Yo]; omega
    exact (Nat.le_log2 (by omega)).2 Z
   omega
theorem CR (n:Nat):WB ^ n=2 ^ (32*n):=by rw [Ym]
theorem OR {a b:List cL} (J:Wf a) (Y:Wf b) (Z:a.length<=900000) (hzb:b.length<=900000):PC (nv a) (nv b)<=200000000:=by
 unfold PC
 split
 ·omega
 ·rename_i h
  have h1:Nat.log2 (nv a*nv b)<=64000000:=by
   by_cases I:nv a*nv b=0
   ·rw [I]; decide
   ·have h2:nv a*nv b<2 ^ (32*(a.length+b.length)):=by
     rw [<- CR,Yi];exact Nat.mul_lt_mul_of_lt_of_le (ui J) (Nat.le_of_lt (ui Y)) (Yn (by decide))
    have:=(Nat.log2_lt I).2 h2;omega
  split <;> omega
theorem sign_zero {a:LI} (h:uw a):gH a=0↔nv a.words=0:=by
 unfold gH;rw [ya h.wf h.tp]
 by_cases h1:a.words=[]
 ·simp [h1]
 ·have:a.words.length≠0:=λh=>h1 (Sv h)
  rw [R8 (by simp; exact h1)]
  constructor
  ·intro h; split at h <;> omega
  ·intro h; exact absurd h h1
theorem uw.pos {w:List cL} (I:Wf w) (ht:xg w):uw (aF.mk false w):=⟨I,ht,λh=>by simp at h⟩
theorem Ly {a b:LI} (ha:uw a) (hb:uw b) {L:Nat} (hL:L<=900000) (hza:a.words.length<=L) (hzb:b.words.length<=L):
  Gd (qV a b) (λr=>uw r/\r.minus=false/\r.words.length<=L/\nv r.words=Nat.gcd (nv a.words) (nv b.words)):=by
 unfold qV;refine Gd.iV (λ(z:Bool×List cL×Bool×List cL)=>z.1=false/\z.2.2.1=false/\Wf z.2.1/\xg z.2.1/\Wf z.2.2.2/\xg z.2.2.2/\z.2.1.length<=L/\z.2.2.2.length<=L/\Nat.gcd (nv z.2.2.2) (nv z.2.1)=Nat.gcd (nv a.words) (nv b.words)) (λz=>PC (nv z.2.2.2) (nv z.2.1)) ?_ gO _ ⟨rfl,rfl,hb.wf,hb.tp,ha.wf,ha.tp,hzb,hza,rfl⟩ ?_
 ·rintro ⟨c1,l1,c2,l2⟩ nx ⟨h1,h2,J,Y,h5,h6,h7,h8,Z⟩ I
  simp only at h1 h2 J Y h5 h6 h7 h8 Z I ⊢;subst h1 h2;unfold wy tY;have hs:=sign_zero (uw.pos J Y);simp only at hs;refine Gd.ite (λh=>?_) (λh=>?_)
  ·have hB:nv l1≠0:=by
    intro e;rw [hs.2 e] at h; simp at h
   refine Gd.fH (Lm h5 J h6 Y (λe=>hB (by rw [e]; rfl)) (by omega) (by omega)) (λr hr=>?_)
   obtain ⟨r1,r2,r3,r4,r5,r6⟩:=hr;refine Gd.nd (by omega) (Gd.fH (uW false r.2 r2 (by omega)) (λs hs'=>?_))
   obtain ⟨s1,s2,s3,s4⟩:=hs';have O:s.minus=false:=by
    rcases Xz s.minus with h | h
    ·have:=s4.1 h; simp at this
    ·exact h
   refine I _ ⟨O,rfl,s1.wf,s1.tp,J,Y,by simp only; omega,h7,?_⟩ ?_
   ·simp only
    rw [s3,r6,<- Z,<- Nat.gcd_comm (nv l1) (nv l2),Nat.gcd_rec (nv l1) (nv l2),Nat.gcd_comm]
   ·simp only
    rw [s3,r6];exact OS hB
  ·have hB:nv l1=0:=by
    apply hs.1;simpa using h
   rw [hB,Nat.gcd_zero_right] at Z;exact Gd.ret ⟨uw.pos h5 h6,rfl,h8,Z⟩
 ·simp only [gO]
  have:=OR ha.wf hb.wf (by omega) (by omega)
  omega
theorem Ol {a b:LI} (Z:uw a) (hb:uw b) (O:a.minus=false) (h0:nv b.words≠0) (J:a.words.length<=900000) (Y:b.words.length<=900000):
  Gd (dO a b) (λr=>uw r.1/\r.1.minus=false/\r.1.words.length<=a.words.length/\nv r.1.words=nv a.words / nv b.words):=by
 unfold dO m_;refine Gd.fH (Lm Z.wf hb.wf Z.tp hb.tp (λe=>h0 (by rw [e]; rfl)) J Y) (λr hr=>?_)
 obtain ⟨r1,r2,r3,r4,r5,r6⟩:=hr;refine Gd.nd (by omega) (Gd.fH (uW _ _ r1 (by omega)) (λs hs=>Gd.nd (by omega) (Gd.fH (uW _ _ r2 (by omega)) (λt ht=>?_))))
 obtain ⟨s1,s2,s3,s4⟩:=hs;obtain ⟨t1,t2,t3,t4⟩:=ht;rw [O] at s4 t4;have I:s.minus=false:=by
  rcases Xz s.minus with h | h
  ·have:=s4.1 h; simp at this
  ·exact h
 refine Gd.ite (λh=>?_) (λh=>Gd.ret ⟨s1,I,by simp only; omega,by simp only; rw [s3,r5]⟩)
 have:=t4.1 h; simp at this
abbrev LR:=aA
structure qB (r:LR):Prop where
 n:uw r.N
 d:uw r.D
 pos:r.D.minus=false
 nz:nv r.D.words≠0
 QT:Nat.Coprime (nv r.N.words) (nv r.D.words)
def rv (r:LR):Rat:=Rat.divInt (iK r.N) (iK r.D)
theorem rG {a:LI} (h:a.minus=false):iK a=(nv a.words:Nat):=by unfold iK; rw [h]; rfl
theorem lY (a:LI):(iK a).natAbs=nv a.words:=by
 unfold iK
 split <;> omega
theorem qB.eq {r:LR} (h:qB r):rv r=Rat.mk' (iK r.N) (nv r.D.words) h.nz (by rw [lY]; exact h.QT):=by
 unfold rv;rw [rG h.pos];exact (Rat.num_divInt_den (Rat.mk' (iK r.N) (nv r.D.words) h.nz (by rw [lY]; exact h.QT)))
theorem qB.num {r:LR} (h:qB r):(rv r).num=iK r.N:=by rw [h.eq]
theorem qB.den {r:LR} (h:qB r):(rv r).den=nv r.D.words:=by rw [h.eq]
theorem qB.ext' {r s:LR} (h:qB r) (k:qB s) (e:rv r=rv s):r=s:=by
 have e1:iK r.N=iK s.N:=by rw [<- h.num,<- k.num,e]
 have e2:nv r.D.words=nv s.D.words:=by rw [<- h.den,<- k.den,e]
 have I:=h.n.ext' k.n e1;have J:=h.d.ext' k.d (by rw [rG h.pos,rG k.pos,e2])
 obtain ⟨a,b⟩:=r; obtain ⟨c,d⟩:=s
 simp only at I J; rw [I,J]
def RL (r:LR) (L:Nat):Prop:=r.N.words.length<=L/\r.D.words.length<=L
theorem RL.mono {r:LR}{L M:Nat} (h:RL r L) (I:L<=M):RL r M:=⟨S6 h.1 I,S6 h.2 I⟩
theorem zT {g a b:Int} (J:g≠0) (I:b≠0):Rat.divInt (g*a) (g*b)=Rat.divInt a b:=by
 rw [Rat.divInt_eq_divInt_iff (Int.mul_ne_zero J I) I];rw [Int.mul_comm g a,XF]
theorem Qa {n d g:LI} (hn:uw n) (hd:uw d) (hg:uw g) (hdm:d.minus=false) (hd0:nv d.words≠0) (Z:nv g.words=Nat.gcd (nv n.words) (nv d.words))
  (hzn:n.words.length<=900000) (hzd:d.words.length<=900000) (hzg:g.words.length<=900000):
  Gd ((dO (aF.mk false n.words) g).bind λJ=>(dO (aF.mk d.minus d.words) g).bind λr203=>if n.minus then (some (aA.mk (aF.mk (decide (0<(J.1.words.length:Int))) J.1.words) r203.1)) else (some (aA.mk (aF.mk false J.1.words) r203.1)))
   (λr=>qB r/\r.N.words.length<=n.words.length/\r.D.words.length<=d.words.length/\rv r=Rat.divInt (iK n) (iK d)):=by
 have hg0:nv g.words≠0:=by
  rw [Z];exact Nat.ne_of_gt (Nat.gcd_pos_of_pos_right _ (by omega))
 have gN:nv g.words ∣ nv n.words:=by rw [Z]; exact Nat.gcd_dvd_left _ _
 have gD:nv g.words ∣ nv d.words:=by rw [Z]; exact Nat.gcd_dvd_right _ _
 have Y:Nat.Coprime (nv n.words / nv g.words) (nv d.words / nv g.words):=by
  rw [Z]; exact Nat.coprime_div_gcd_div_gcd (Nat.gcd_pos_of_pos_right _ (by omega))
 obtain ⟨n',hn'⟩:=gN;obtain ⟨d',I⟩:=gD;have en:nv n.words / nv g.words=n':=by rw [hn',Nat.mul_div_cancel_left _ (by omega)]
 have ed:nv d.words / nv g.words=d':=by rw [I,Nat.mul_div_cancel_left _ (by omega)]
 have hd0':d'≠0:=by intro h; rw [h] at I; simp at I; exact hd0 I
 refine Gd.fH (Ol (a:=aF.mk false n.words) (uw.pos hn.wf hn.tp) hg rfl hg0 hzn hzg) (λr hr=>Gd.fH (Ol (a:=aF.mk d.minus d.words) hd hg hdm hg0 hzd hzg) (λt ht=>?_));obtain ⟨r1,r2,r3,r4⟩:=hr;obtain ⟨t1,t2,t3,t4⟩:=ht;simp only at r3 r4 t3 t4;rw [en] at r4 Y;rw [ed] at t4 Y;have hd2:iK d=(nv g.words:Int)*(d':Int):=by rw [rG hdm,I,SX]
 have ht2:iK t.1=(d':Int):=by rw [rG t2,t4]
 refine Gd.ite (λh=>Gd.ret ?_) (λh=>Gd.ret ?_)
 ·have hN:uw (aF.mk (decide (0<(r.1.words.length:Int))) r.1.words):=⟨r1.wf,r1.tp,λh e=>by simp only at h e; rw [e] at h; simp at h⟩
  refine ⟨⟨hN,t1,t2,by simp only; omega,by simp only; rw [r4,t4]; exact Y⟩,r3,t3,?_⟩
  have hi:iK (aF.mk (decide (0<(r.1.words.length:Int))) r.1.words) = -(n':Int):=by
   unfold iK;simp only;rw [r4]
   by_cases hl:r.1.words=[]
   ·rw [hl] at r4 ⊢
    have:n'=0:=r4.symm;rw [this]; simp
   ·have:=XZ.2 hl
    rw [R9 (by simp; omega)]
  have vZ:iK n=(nv g.words:Int)*(-(n':Int)):=by
   unfold iK; rw [R9 h,hn',SX,Int.mul_neg]
  unfold rv;simp only;rw [hi,ht2,vZ,hd2,zT (by omega) (by omega)]
 ·refine ⟨⟨uw.pos r1.wf r1.tp,t1,t2,by simp only; omega,by simp only; rw [r4,t4]; exact Y⟩,r3,t3,?_⟩
  have hi:iK (aF.mk false r.1.words)=(n':Int):=by
   rw [rG rfl]; simp only; rw [r4]
  have vZ:iK n=(nv g.words:Int)*(n':Int):=by
   rw [rG h,hn',SX]
  unfold rv;simp only;rw [hi,ht2,vZ,hd2,zT (by omega) (by omega)]
theorem GR {w:List cL} (h:decide ((w.length:Int)=1)=true):∃ x,w=[x]:=by
 have:=R7 h;exact XV.1 (by omega)
theorem I7 {x:cL} (I:0<=x.n):nv [x]=1↔x.n=1:=by rw [DE]; omega
theorem Mh {n d:LI} (hn:uw n) (hd:uw d) (hdm:d.minus=false) (hd0:nv d.words≠0) (hzn:n.words.length<=900000) (hzd:d.words.length<=900000):
  Gd (oW d.minus d.words n.minus n.words) (λr=>qB r/\r.N.words.length<=n.words.length/\r.D.words.length<=d.words.length/\rv r=Rat.divInt (iK n) (iK d)):=by
 have self:Nat.gcd (nv n.words) (nv d.words)=1->Gd (some (aA.mk (aF.mk n.minus n.words) (aF.mk d.minus d.words))) (λr=>qB r/\r.N.words.length<=n.words.length/\r.D.words.length<=d.words.length/\rv r=Rat.divInt (iK n) (iK d)):=λhg=>
  Gd.ret ⟨⟨hn,hd,hdm,hd0,hg⟩,Sj _,Sj _,rfl⟩
 have part:Gd ((qV (aF.mk n.minus n.words) (aF.mk d.minus d.words)).bind λI=>if decide ((I.words.length:Int)=1) then (idx I.words 0 λy160=>if decide (y160.n=1) then (some (aA.mk (aF.mk n.minus n.words) (aF.mk d.minus d.words))) else ((dO (aF.mk false n.words) I).bind λY=>(dO (aF.mk d.minus d.words) I).bind λr173=>if n.minus then (some (aA.mk (aF.mk (decide (0<(Y.1.words.length:Int))) Y.1.words) r173.1)) else (some (aA.mk (aF.mk false Y.1.words) r173.1)))) else ((dO (aF.mk false n.words) I).bind λJ=>(dO (aF.mk d.minus d.words) I).bind λZ=>if n.minus then (some (aA.mk (aF.mk (decide (0<(J.1.words.length:Int))) J.1.words) Z.1)) else (some (aA.mk (aF.mk false J.1.words) Z.1))))
   (λr=>qB r/\r.N.words.length<=n.words.length/\r.D.words.length<=d.words.length/\rv r=Rat.divInt (iK n) (iK d)):=by
  refine Gd.fH (Ly (L:=900000) hn hd (by omega) hzn hzd) (λg hg=>?_)
  obtain ⟨g1,g2,g3,g4⟩:=hg;refine Gd.ite (λh=>?_) (λh=>Qa hn hd g1 hdm hd0 g4 hzn hzd g3);obtain ⟨x,hx⟩:=GR h;have hxw:=g1.wf x (by rw [hx]; simp)
  refine Gd.ix (y:=x) (by omega) (by rw [hx]; rfl) (Gd.ite (λh2=>self ?_) (λh2=>Qa hn hd g1 hdm hd0 g4 hzn hzd g3))
  rw [<- g4,hx,I7 hxw.1]; exact R7 h2
 unfold oW;refine Gd.ite (λh=>?_) (λh=>part);obtain ⟨x,hx⟩:=GR h;have hxw:=hd.wf x (by rw [hx]; simp)
 refine Gd.ix (y:=x) (by omega) (by rw [hx]; rfl) (Gd.ite (λh2=>self ?_) (λh2=>part))
 have:=(I7 hxw.1).2 (R7 h2);rw [hx,this,Nat.gcd_one_right]
theorem zp {n d:LI} (hn:uw n) (hd:uw d) (J:nv d.words≠0) (hzn:n.words.length<=900000) (hzd:d.words.length<=900000):
  Gd (oQ n d) (λr=>qB r/\r.N.words.length<=n.words.length/\r.D.words.length<=d.words.length/\rv r=Rat.divInt (iK n) (iK d)):=by
 unfold oQ;refine Gd.ite (λh=>?_) (λh=>Mh hn hd h J hzn hzd);refine Gd.fH (Fx hn (by omega)) (λn' Y=>Gd.fH (Fx hd (by omega)) (λZ I=>?_))
 have e:nv Z.words=nv d.words:=by rw [<- lY,I.2.2,Int.natAbs_neg,lY]
 have O:Z.minus=false:=by
  have h1:=I.2.2;unfold iK at h1;rw [R9 h] at h1;rcases Xz Z.minus with h2 | h2
  ·rw [R9 h2] at h1; omega
  ·exact h2
 refine (Mh Y.1 I.1 O (by rw [e]; exact J) (by omega) (by omega)).mono (λr hr=>⟨hr.1,by omega,by omega,?_⟩)
 rw [hr.2.2.2,Y.2.2,I.2.2];rw [Rat.neg_divInt_neg]
theorem Ox {r:LR} (h:qB r):iK r.D≠0:=by rw [rG h.pos]; have:=h.nz; omega
theorem HV {a b c:LI} (h:iK c=iK a*iK b) (I:nv a.words≠0) (J:nv b.words≠0):nv c.words≠0:=by
 rw [<- lY,h,Int.natAbs_mul,lY,lY];exact Nat.mul_ne_zero I J
theorem yd {a b:LR} (J:qB a) (Y:qB b) {A B:Nat} (la:RL a A) (lb:RL b B) (hz:A+B<=800000):
  Gd (jU a b) (λr=>qB r/\RL r (A+B+1)/\rv r=rv a+rv b):=by
 have:=la.1; have:=la.2; have:=lb.1; have:=lb.2
 unfold jU;refine Gd.fH (xn J.n Y.d (by omega)) (λx hx=>Gd.fH (xn Y.n J.d (by omega)) (λy hy=>Gd.fH (Fm hx.1 hy.1 (by omega) (by omega)) (λs hs=>Gd.fH (xn J.d Y.d (by omega)) (λz I=>?_))))
 refine Gd.fH (zp hs.1 I.1 (HV I.2.2 J.nz Y.nz) (by omega) (by omega)) (λr Z=>Gd.ret ⟨Z.1,⟨by omega,by omega⟩,?_⟩)
 rw [Z.2.2.2,hs.2.2,hx.2.2,hy.2.2,I.2.2];unfold rv;rw [Rat.divInt_add_divInt _ _ (Ox J) (Ox Y)]
theorem Jf {a:LR} (I:qB a) {A:Nat} (la:RL a A) (Y:A<=800000):
  Gd (pP a) (λr=>qB r/\RL r A/\rv r = -rv a):=by
 have:=la.1; have:=la.2
 unfold pP;refine Gd.fH (Fx I.n (by omega)) (λx J=>Gd.ret ⟨⟨J.1,I.d,I.pos,I.nz,?_⟩,⟨by simp only; omega,la.2⟩,?_⟩)
 ·have e:nv x.words=nv a.N.words:=by rw [<- lY,J.2.2,Int.natAbs_neg,lY]
  simp only; rw [e]; exact I.QT
 ·unfold rv
  simp only;rw [J.2.2,Rat.neg_divInt]
theorem zD {a b:LR} (Y:qB a) (Z:qB b) {A B:Nat} (la:RL a A) (lb:RL b B) (hz:A+B<=800000):
  Gd (lu a b) (λr=>qB r/\RL r (A+B+1)/\rv r=rv a-rv b):=by
 unfold lu;refine Gd.fH (Jf Z lb (by omega)) (λc I=>Gd.fH (yd Y I.1 la I.2.1 hz) (λr J=>Gd.ret ⟨J.1,J.2.1,?_⟩))
 rw [J.2.2,I.2.2,Rat.sub_eq_add_neg]
theorem A_ {a b:LR} (J:qB a) (Y:qB b) {A B:Nat} (la:RL a A) (lb:RL b B) (hz:A+B<=800000):
  Gd (mQ a b) (λr=>qB r/\RL r (A+B)/\rv r=rv a*rv b):=by
 have:=la.1; have:=la.2; have:=lb.1; have:=lb.2
 unfold mQ;refine Gd.fH (xn J.n Y.n (by omega)) (λx hx=>Gd.fH (xn J.d Y.d (by omega)) (λz I=>?_))
 refine Gd.fH (zp hx.1 I.1 (HV I.2.2 J.nz Y.nz) (by omega) (by omega)) (λr Z=>Gd.ret ⟨Z.1,⟨by omega,by omega⟩,?_⟩)
 rw [Z.2.2.2,hx.2.2,I.2.2];unfold rv;rw [Rat.divInt_mul_divInt]
theorem Jh {r:LR} (h:qB r):rv r=0↔nv r.N.words=0:=by
 have hn:=h.num;rw [<- lY,Int.natAbs_eq_zero,<- hn,Rat.num_eq_zero]
theorem wT {n:Int} (h:-9223372036854775808<=n/\n<=9223372036854775807):Gd (lQ n) (λr=>qB r/\RL r 2/\rv r=(n:Rat)):=by
 unfold lQ;refine Gd.fH (DH h) (λx J=>Gd.fH (DH (n:=1) (by omega)) (λy I=>Gd.ret ?_))
 have O:y.minus=false:=by
  have h1:=I.2.2;unfold iK at h1;rcases Xz y.minus with h2 | h2
  ·rw [R9 h2] at h1; omega
  ·exact h2
 have Y:nv y.words=1:=by rw [<- lY,I.2.2]; rfl
 refine ⟨⟨J.1,I.1,O,by simp only; omega,by simp only; rw [Y]; exact Nat.coprime_one_right _⟩,⟨J.2.1,I.2.1⟩,?_⟩
 unfold rv;simp only;rw [J.2.2,I.2.2,Rat.divInt_eq_div,Rat.intCast_one]; grind
theorem IN {n d:Int} (h:-9223372036854775808<=n/\n<=9223372036854775807) (k:-9223372036854775808<=d/\d<=9223372036854775807) (h0:d≠0):
  Gd (sG n d) (λr=>qB r/\RL r 2/\rv r=(n:Rat) / (d:Rat)):=by
 unfold sG;refine Gd.fH (DH h) (λx Y=>Gd.fH (DH k) (λy I=>?_));have Z:nv y.words≠0:=by rw [<- lY,I.2.2]; omega
 refine Gd.fH (zp Y.1 I.1 Z (by omega) (by omega)) (λr J=>Gd.ret ⟨J.1,⟨by omega,by omega⟩,?_⟩)
 rw [J.2.2.2,Y.2.2,I.2.2,Rat.divInt_eq_div]
abbrev bl (s:RU):List UInt8:=s.data.toList
def ba (l:List UInt8):RU:=⟨l.toArray⟩
@[simp] theorem IH (l:List UInt8):bl (ba l)=l:=rfl
@[simp] theorem KZ (s:RU):ba (bl s)=s:=by
 show (⟨s.data.toList.toArray⟩:RU)=s;rw [Array.toArray_toList]
theorem Hn {a b:RU} (h:bl a=bl b):a=b:=by rw [<- KZ a,h,KZ]
theorem E3 (s:RU):(bl s).length=s.size:=by show s.data.toList.length=s.data.size; exact Array.length_toList
theorem jX (l:List UInt8):(ba l).size=l.length:=(E3 (ba l)).symm
theorem K2 (a b:RU):bl (a++b)=bl a++bl b:=by show (a++b).data.toList=_; simp
theorem Hk (a b:List UInt8):ba a++ba b=ba (a++b):=Hn (K2 _ _)
theorem y_ {a b:List UInt8} (h:ba a=ba b):a=b:=by have:=SJ bl h; simpa using this
theorem Hm (s:RU) (i j:Nat):bl (s.extract i j)=((bl s).take j).drop i:=by
 show (s.extract i j).data.toList=(s.data.toList.take j).drop i;simp [ByteArray.data_extract,Array.toList_extract,Um]
theorem tr (l:List UInt8) (i j:Nat):(ba l).extract i j=ba ((l.take j).drop i):=Hn (by rw [Hm,IH,IH])
theorem DV (a b:RU):(a++b).size=a.size+b.size:=by rw [<- E3,K2,Sg,E3,E3]
theorem vj (c:UInt8):∀ (l:List UInt8),(c ∉ l/\Lib.indexByte l c = -1)\/∃ a b,l=a++c::b/\c ∉ a/\Lib.indexByte l c=a.length
 | []=>.inl ⟨by simp,rfl⟩
 | x::l=>by
  by_cases e:x=c
  ·subst e
   exact .inr ⟨[],l,rfl,by simp,by simp [Lib.indexByte]⟩
  ·have I:(x == c)=false:=by simpa using e
   rcases vj c l with ⟨h1,h2⟩ | ⟨a,b,rfl,h2,J⟩
   ·refine .inl ⟨by simp [h1]; exact λh=>e h.symm,?_⟩
    simp [Lib.indexByte,I,h2]
   ·refine .inr ⟨x::a,b,rfl,by simp [h2]; exact λh=>e h.symm,?_⟩
    simp only [Lib.indexByte,I,J];rw [R8 (by simp),R8 (by simp)]
    simp only [R_]; omega
theorem Hs (c:UInt8):lz (ba [c])=[⟨c.toNat⟩]:=by simp [lz,ba]
theorem GA (s:RU) (c:UInt8):jT s (ba [c])=some (Lib.indexByte (bl s) c):=by
 unfold jT gX
 by_cases e:ba [c]=s
 ·subst e
  rw [R9 (by simp)]
  simp [Lib.indexByte]
 ·rw [R8 (by simp [jX,e]),R9 (by simp [jX]),Hs]
  simp [idx,OU]
theorem JC (l:List UInt8):lz (ba l)=l.map λb=>(⟨b.toNat⟩:U8):=rfl
theorem Gi (l:List UInt8):AP (l.map λb=>(⟨b.toNat⟩:U8))=ba l:=by
 refine Hn ?_;show (List.map _ (List.map _ l)).toArray.toList=l;rw [List.map_map,Uk]
 conv=>rhs; rw [<- List.map_id l]
 refine List.map_congr_left λb _=>?_;simp
def Eb (c:UInt8):Prop:=48<=c.toNat/\c.toNat<=57
instance (c:UInt8):Decidable (Eb c):=by unfold Eb; infer_instance
def Lp (acc:Nat):List UInt8->Nat
 | []=>acc
 | c::r=>Lp (acc*10+(c.toNat-48)) r
def dv (l:List UInt8):Nat:=Lp 0 l
theorem Fc:∀ (l:List UInt8) (acc:Nat),Lp acc l=acc*10 ^ l.length+dv l
 | [],acc=>by
  rw [XY,Yp,UO]; rfl
 | c::r,acc=>by
  have h2:=Fc r (0*10+(c.toNat-48));unfold dv Lp;rw [Fc r,h2,R_,Yo];have:(acc*10+(c.toNat-48))*10 ^ r.length=acc*(10 ^ r.length*10)+(0*10+(c.toNat-48))*10 ^ r.length:=by
   rw [So,TC,Sp,Ye,Yf 10]
  rw [this,Uv]
theorem C9 (a b:List UInt8):dv (a++b)=dv a*10 ^ b.length+dv b:=by
 have key:∀ (a:List UInt8) (acc:Nat),Lp acc (a++b)=Lp (Lp acc a) b:=by
  intro a
  induction a with
  | nil=>intro acc; rfl
  | cons c r ih=>intro acc; exact ih _
 unfold dv;rw [key,Fc]; rfl
theorem HC (c:UInt8):dv [c]=c.toNat-48:=by
 show 0*10+(c.toNat-48)=_;omega
theorem AT (c:UInt8) (r:List UInt8):dv (c::r)=(c.toNat-48)*10 ^ r.length+dv r:=by
 have:=C9 [c] r;rw [HC] at this; simpa using this
theorem Lr (n:Nat):dv (List.replicate n (48:UInt8))=0:=by
 induction n with
 | zero=>rfl
 | succ n ih=>rw [UL,AT,ih]; simp
theorem BS:∀ {l:List UInt8},(∀ c ∈ l,Eb c)->dv l<10 ^ l.length
 | [],_=>by
  show 0<10 ^ 0
  decide
 | c::r,h=>by
  have h1:=BS (l:=r) (λz I=>h z (Sa _ I));have h2:=(h c (R6 ..)).2;rw [AT,R_,Yo,Yf (10 ^ r.length) 10];have:(c.toNat-48)*10 ^ r.length<=9*10 ^ r.length:=Si _ (by omega)
  generalize 10 ^ r.length=P at *
  omega
theorem Lq {c:UInt8}{r:List UInt8} (J:Eb c) (I:c≠48):10 ^ r.length<=dv (c::r):=by
 have:1<=c.toNat-48:=by
  have:=J.1;have Y:c.toNat≠48:=λe=>I (UInt8.toNat_inj.1 (by rw [e]; rfl))
  omega
 rw [AT];have:1*10 ^ r.length<=(c.toNat-48)*10 ^ r.length:=Si _ this;generalize 10 ^ r.length=P at *
 omega
structure Hc (l:List UInt8):Prop where
 FW:∀ c ∈ l,Eb c
 ne:l≠[]
 lead:l.head? = some 48->l=[48]
theorem Dg {a b:List UInt8} (h:a≠[]):(a++b).head? = a.head? := by
 cases a with
 | nil=>exact absurd rfl h
 | cons x r=>rfl
theorem Lj {u:Nat} (h:u<10):(UInt8.ofNat (48+u)).toNat=48+u:=by rw [UInt8.toNat_ofNat']; omega
theorem mV (u:Nat):Hc (Lib.decDigits u)/\dv (Lib.decDigits u)=u:=by
 induction u using Nat.strongRecOn with
 | _ u ih=>
  by_cases h:u<10
  ·rw [XK h]
   have Y:=Lj h;refine ⟨⟨λc I=>?_,by simp,λJ=>?_⟩,by rw [HC,Y]; omega⟩
   ·rw [Sy] at I; subst I; unfold Eb; omega
   ·simp only [XU,Sn] at J
    rw [J]
  ·obtain ⟨h1,h2⟩:=ih (u / 10) (by omega)
   have e:Lib.decDigits u=Lib.decDigits (u / 10)++[UInt8.ofNat (48+u%10)]:=by rw [Lib.decDigits,dif_neg h]
   have Y:=Lj (u:=u%10) (by omega)
   rw [e];refine ⟨⟨λc I=>?_,by simp,λJ=>?_⟩,?_⟩
   ·rcases Sf.1 I with I | I
    ·exact h1.FW c I
    ·rw [Sy] at I; subst I; unfold Eb; omega
   ·rw [Dg h1.ne] at J
    have:=h1.lead J;rw [this] at h2;have:dv [48]=0:=rfl;omega
   ·rw [C9,h2,HC,Y]
    simp only [S4,Nat.pow_one]; omega
theorem I3:∀ {a b:List UInt8},Hc a->Hc b->dv a=dv b->a=b:=by
 have zero:∀ {a:List UInt8},Hc a->dv a=0->a=[48]:=by
  intro a I h0;cases a with
  | nil=>exact absurd rfl I.ne
  | cons c r=>
   by_cases hc:c=48
   ·exact I.lead (by rw [hc]; rfl)
   ·have:=Lq (r:=r) (I.FW c (R6 ..)) hc
    have:0<10 ^ r.length:=Yn (by decide)
    omega
 have Z:∀ (a b:List UInt8),a.length=b.length->(∀ c ∈ a,Eb c)->(∀ c ∈ b,Eb c)->dv a=dv b->a=b:=by
  intro a
  induction a with
  | nil=>intro b hl _ _ _; cases b with | nil=>rfl | cons _ _=>simp at hl
  | cons c r ih=>
   intro b hl I Y h;cases b with
   | nil=>simp at hl
   | cons d s=>
    have hl':r.length=s.length:=by simpa using hl
    have h1:=BS (l:=r) (λz J=>I z (Sa _ J));have h2:=BS (l:=s) (λz J=>Y z (Sa _ J));have hc:=I c (R6 ..);have hd:=Y d (R6 ..);rw [AT,AT,<- hl'] at h;rw [<- hl'] at h2;have hP:0<10 ^ r.length:=Yn (by decide)
    have e1:c.toNat-48=d.toNat-48:=by
     have q1:((c.toNat-48)*10 ^ r.length+dv r) / 10 ^ r.length=c.toNat-48:=by
      rw [UN,Nat.add_mul_div_right _ _ hP,X9 h1,Sp]
     have q2:((d.toNat-48)*10 ^ r.length+dv s) / 10 ^ r.length=d.toNat-48:=by
      rw [UN,Nat.add_mul_div_right _ _ hP,X9 h2,Sp]
     rw [<- q1,h,q2]
    have e2:c=d:=UInt8.toNat_inj.1 (by have:=hc.1; have:=hd.1; omega)
    rw [e1] at h;rw [e2,ih s hl' (λz J=>I z (Sa _ J)) (λz J=>Y z (Sa _ J)) (by omega)]
 intro a b I Y h
 by_cases h0:dv a=0
 ·rw [zero I h0,zero Y (by omega)]
 ·have big:∀ {l:List UInt8},Hc l->dv l≠0->∃ c r,l=c::r/\10 ^ r.length<=dv l:=by
   intro l hl J;cases l with
   | nil=>exact absurd rfl hl.ne
   | cons c r=>
    refine ⟨c,r,rfl,Lq (hl.FW c (R6 ..)) (λhc=>J ?_)⟩;rw [hl.lead (by rw [hc]; rfl)]; rfl
  obtain ⟨c,r,rfl,h1⟩:=big I h0;obtain ⟨d,s,rfl,h2⟩:=big Y (by omega)
  have h3:=BS I.FW;have h4:=BS Y.FW;refine Z _ _ ?_ I.FW Y.FW h;rw [h] at h1 h3;have l1:r.length<(d::s).length:=(Yl (by decide)).1 (Vh h1 h4)
  have l2:s.length<(c::r).length:=(Yl (by decide)).1 (Vh h2 h3)
  simp only [R_] at l1 l2 ⊢; omega
theorem xR {l:List UInt8} (h:Hc l):Lib.decDigits (dv l)=l:=I3 (mV _).1 h (mV _).2
theorem EB {u k:Nat} (J:1<=k) (h:u<10 ^ k):(Lib.decDigits u).length<=k:=by
 obtain ⟨h1,h2⟩:=mV u;cases hl:Lib.decDigits u with
 | nil=>simp
 | cons c r=>
  rw [hl] at h1 h2
  by_cases I:c=48
  ·rw [h1.lead (by rw [I]; rfl)]; simpa using J
  ·have:=Lq (r:=r) (h1.FW c (R6 ..)) I
   rw [h2] at this;have:r.length<k:=(Yl (by decide)).1 (Vh this h)
   rw [R_]; exact this
theorem Dp {u k:Nat} (h:(Lib.decDigits u).length<=k):u<10 ^ k:=by
 obtain ⟨h1,h2⟩:=mV u;have:=BS h1.FW;rw [h2] at this;exact UZ this (Yk (by decide) h)
def pad (k:Nat) (r:Nat):List UInt8:=List.replicate (k-(Lib.decDigits r).length) 48++Lib.decDigits r
theorem NC {k r:Nat} (I:1<=k) (h:r<10 ^ k):(pad k r).length=k:=by
 have:=EB I h;unfold pad;rw [Sg,Tl]; omega
theorem NB (k r:Nat):∀ c ∈ pad k r,Eb c:=by
 intro c I;rcases Sf.1 I with I | I
 ·rw [(X3.1 I).2]; exact ⟨by decide,by decide⟩
 ·exact (mV r).1.FW c I
theorem OP (k r:Nat):dv (pad k r)=r:=by
 unfold pad;rw [C9,Lr,(mV r).2]; omega
theorem M8 {k q r:Nat} (Y:1<=k) (hq:0<q) (Z:r<10 ^ k):Lib.decDigits (q*10 ^ k+r)=Lib.decDigits q++pad k r:=by
 obtain ⟨h1,h2⟩:=mV q;refine I3 (mV _).1 ⟨λc I=>?_,by simp [h1.ne],λJ=>?_⟩ ?_
 ·rcases Sf.1 I with I | I
  ·exact h1.FW c I
  ·exact NB _ _ c I
 ·rw [Dg h1.ne] at J
  rw [h1.lead J] at h2;have:dv [48]=0:=rfl;omega
 ·rw [(mV _).2,C9,h2,NC Y Z,OP]
theorem L_ {M:Nat} (J:M<1844674407370955162):∀ (l:List UInt8) (acc:Nat),(∀ c ∈ l,Eb c)->Lp acc l<=M->acc<=M->Lib.parseUintM M acc l=.ok (Lp acc l)
 | [],acc,_,_,_=>rfl
 | c::r,acc,h,hl,ha=>by
  have Y:=h c (R6 ..);have I:acc*10+(c.toNat-48)<=M:=by
   have:=Fc r (acc*10+(c.toNat-48));have h1:Lp acc (c::r)=Lp (acc*10+(c.toNat-48)) r:=rfl;have hP:1<=10 ^ r.length:=Yn (by decide)
   have:(acc*10+(c.toNat-48))*1<=(acc*10+(c.toNat-48))*10 ^ r.length:=Yg _ hP;generalize 10 ^ r.length=P at *
   omega
  rw [Lib.parseUintM,R9 (show 48<=c.toNat/\c.toNat<=57 from Y),R8 (by omega),R8 (by omega)]
  exact L_ J r _ (λz Z=>h z (Sa _ Z)) hl I
theorem NH {l:List UInt8} (h:∀ c ∈ l,Eb c) (hl:l.length<=9):NG (ba l)=((dv l:Int),false):=by
 unfold NG;have h1:=BS h;have h2:10 ^ l.length<=10 ^ 9:=Yk (by decide) hl
 have e:=L_ (M:=4294967295) (by decide) l 0 h (by show dv l<=_; omega) (by omega)
 show (match Lib.parseUintM 4294967295 0 l with | .ok v=>((v:Int),false) | .range=>(4294967295,true) | _=>(0,true))=_
 rw [e]; rfl
theorem EF (l:List UInt8):fS (ba l) (⟨#[45]⟩)=some (decide (l.head? = some 45)):=by
 have h1:(⟨#[45]⟩:RU).size=1:=rfl;unfold fS;rw [h1,jX];cases l with
 | nil=>rfl
 | cons c r=>
  rw [R9 (by simp; omega)]
  unfold cZ;rw [R9 (by simp only [R_]; omega),show ((1:Nat):Int).toNat=1 from rfl,tr]
  congr 1
  have e:(ba (((c::r).take 1).drop 0)=(⟨#[45]⟩:RU))↔((c::r).head? = some 45):=by
   rw [show (⟨#[45]⟩:RU)=ba [45] from rfl];constructor
   ·intro h
    have:=y_ h;simp at this;simp [this]
   ·intro h
    simp only [XU,Sn] at h;rw [h]; rfl
  exact Y9.2 e
theorem JU (l:List UInt8):oJ (ba l) (⟨#[45]⟩)=some (decide (l.head? = some 45)):=by
 unfold oJ;rw [EF l]; rfl
theorem AD (l:List UInt8):mf (ba l) (⟨#[45]⟩)=some (ba (if l.head? = some 45 then l.tail else l)):=by
 have h1:(⟨#[45]⟩:RU).size=1:=rfl;unfold mf jY;rw [EF l];simp only [UT]
 by_cases h:l.head? = some 45
 ·rw [R9 (by simp [h]),R9 h,h1,jX]
  cases l with
  | nil=>cases h
  | cons c r=>
   unfold cZ;rw [R9 (by simp only [R_]; omega),show ((1:Nat):Int).toNat=1 from rfl,tr]
   simp
 ·rw [R8 (by simp [h]),R8 h]; rfl
theorem uw.plus {a:LI} (h:uw a) (J:0<=iK a):a.minus=false:=by
 cases O:a.minus with
 | false=>rfl
 | true=>
  have I:=h.sign O;have:nv a.words≠0:=λe=>I ((ya h.wf h.tp).1 e);unfold iK at J;rw [R9 O] at J; omega
theorem M3 {n:Nat} (h:0<n) (h2:n<=100000):i64.wrap ((Int.tmod (i64.wrap ((n:Int)-1)) 9)+1)=(((n-1)%9+1:Nat):Int):=by
 rw [bZ (n:=(n:Int)-1) ⟨by omega,by omega⟩]
 have:Int.tmod ((n:Int)-1) 9=(((n-1)%9:Nat):Int):=by
  rw [show (n:Int)-1=((n-1:Nat):Int) by omega]
  rw [Int.tmod_eq_emod_of_nonneg (by omega)]; rfl
 rw [this,bZ ⟨by omega,by omega⟩]; omega
theorem J9 {D n c v P:Nat} (h:D=0\/n=9) (hP:P=10 ^ n):D*10 ^ 9+c=D*P+c:=by
 rcases h with h | h
 ·rw [h,TC,TC]
 ·rw [hP,h]
theorem Je {J:List UInt8} (h:∀ c ∈ J,Eb c) (hl:J.length<=2000) (neg:Bool):
  Gd (mu (ba (if neg=true then 45::J else J))) (λa=>uw a/\a.words.length<=10000/\iK a=if neg=true then -(dv J:Int) else dv J):=by
 unfold mu;have hll:(if neg=true then 45::J else J).length<=1000000:=by
  split
  ·simp only [R_]; omega
  ·omega
 have hhd:(if neg=true then 45::J else J).head? = some 45↔neg=true:=by
  cases neg with
  | true=>simp
  | false=>
   simp only [Te,TV,iff_false];intro hh;cases J with
   | nil=>cases hh
   | cons c r=>
    simp only [XU,Sn] at hh;have:=(h c (R6 ..)).1;rw [hh] at this; exact absurd this (by decide)
 have htr:(if (if neg=true then 45::J else J).head? = some 45 then (if neg=true then 45::J else J).tail else (if neg=true then 45::J else J))=J:=by
  cases neg with
  | true=>simp
  | false=>rw [R8 (by rw [hhd]; simp)]; simp
 refine Gd.bind_eq (JU _) (Gd.bind_eq (AD _) ?_);rw [htr];have hdec:decide ((if neg=true then 45::J else J).head? = some 45)=neg:=by
  cases neg with
  | true=>simp
  | false=>rw [Y_ (by rw [hhd]; simp)]
 rw [hdec];refine Gd.iV (λ(z:RU×Bool×List cL)=>∃ pre I:List UInt8,J=pre++I/\z.1=ba I/\z.2.1=false/\uw ⟨false,z.2.2⟩/\(nv z.2.2=dv pre)/\z.2.2.length<=5*pre.length/\(pre=[]\/I.length%9=0))
  (λz=>z.1.size) ?_ gO _ ⟨[],J,rfl,rfl,rfl,⟨Wf.nil,λy hy=>by simp at hy,λhh=>by simp at hh⟩,rfl,by simp,.inl rfl⟩ (by rw [jX]; simp only [gO]; omega)
 rintro ⟨s,c,w⟩ nx ⟨pre,I,e1,e2,e3,e4,e5,e6,e7⟩ hnx;simp only at e2 e3 e4 e5 e6 e7 hnx ⊢;subst e2 e3;have hlen:pre.length+I.length<=2000:=by rw [<- Sg,<- e1]; exact hl
 unfold vq;rw [jX];refine Gd.ite (λh0=>?_) (λh0=>?_)
 ·have h0:0<I.length:=by have:=R7 h0; omega
  rw [M3 h0 (by omega)]
  generalize hn:(I.length-1)%9+1=n;have hn9:n<=9:=by omega
  have hns:n<=I.length:=by have:=Nat.mod_le (I.length-1) 9; omega
  rw [RZ,tr,tr,Tr,Sh (Sj _),jX];have Z:(I.take n).length=n:=by rw [Ss]; omega
  have hdg:∀ x ∈ I.take n,Eb x:=λx hx=>h x (by rw [e1]; exact S8 _ (Uu hx))
  have hpu:=NH hdg (by rw [Z]; exact hn9)
  have hdl:dv (I.take n)<10 ^ 9:=UZ (BS hdg) (Yk (by decide) (by omega))
  rw [hpu,Z];refine Gd.nd ⟨by omega,by omega⟩ (Gd.nd ⟨by omega,by omega,rfl⟩ ?_)
  rw [bZ (n:=(dv (I.take n):Int)) ⟨by omega,by omega⟩]
  refine Gd.fH (DH (n:=1000000000) (by omega)) (λt ht=>Gd.fH (xn e4 ht.1 (by simp only; omega)) (λm O=>Gd.fH (DH (n:=(dv (I.take n):Int)) (by omega)) (λu hu=>Gd.fH (Fm O.1 hu.1 (by simp only at O; omega) (by omega)) (λr hr=>Gd.nd ⟨by omega,by omega⟩ ?_))))
  have hiv:iK (⟨false,w⟩:LI)=(dv pre:Int):=by unfold iK; simp only [Te,TV]; rw [e5]
  have hval:iK r=((dv (pre++I.take n):Nat):Int):=by
   rw [hr.2.2,O.2.2,ht.2.2,hu.2.2,hiv,C9,Z];have:=J9 (D:=dv pre) (n:=n) (c:=dv (I.take n)) (v:=0) (P:=10 ^ n) (by
    rcases e7 with e7 | e7
    ·left; rw [e7]; rfl
    ·right; omega) rfl
   rw [<- this];have e9:(10 ^ 9:Nat)=1000000000:=rfl;rw [e9];generalize dv pre=A;generalize dv (I.take n)=C;omega
  have hrm:r.minus=false:=hr.1.plus (by rw [hval]; omega)
  refine hnx _ ⟨pre++I.take n,I.drop n,by rw [Sr,TA]; exact e1,rfl,hrm,?_,?_,?_,?_⟩ ?_
  ·rw [<- hrm]; exact hr.1
  ·have:=hval
   unfold iK at this;rw [R8 (by rw [hrm]; simp)] at this
   simp only; omega
  ·simp only at O ⊢
   rw [Sg,Z]; omega
  ·right; rw [Tx]; omega
  ·simp only [jX,Tx]; omega
 ·have h0:¬ 0<I.length:=by have:=Sc h0; omega
  have hs0:I=[]:=Sv (by omega)
  subst hs0;rw [SN] at e1;subst e1;unfold th;have e4w:Wf w:=e4.wf;have e4t:xg w:=e4.top;refine Gd.ite (λY=>Gd.ret ⟨⟨e4.wf,e4.top,λO hw=>?_⟩,by simp only; omega,?_⟩) (λY=>Gd.ret ⟨e4,by simp only; omega,?_⟩)
  ·have hw:w=[]:=hw
   subst hw;simp at O
  ·rw [R9 Y]
   unfold iK;simp only [SO]
   split
   ·rw [e5]
   ·rename_i hh
    have:w=[]:=Sv (by omega)
    rw [this] at e5 ⊢;rw [<- e5]; rfl
  ·rw [R8 (by rw [Y]; simp)]
   unfold iK;simp only [Te,TV];rw [e5]
def pv:List cL->Nat
 | []=>0
 | y::l=>y.n.toNat+1000000000*pv l
theorem Jb:∀ (a:List cL) (y:cL),pv (a++[y])=pv a+1000000000 ^ a.length*y.n.toNat
 | [],y=>by
  show y.n.toNat+1000000000*0=0+1000000000 ^ 0*y.n.toNat;rw [Yp]; omega
 | x::a,y=>by
  rw [Ur,pv,Jb a y,pv,R_,Yo];rw [Yd,<- Ye,Yf (1000000000 ^ a.length) 1000000000,Uv]
theorem NJ {l:List cL}{k:Nat}{y:cL} (h:l[k]? = some y):pv (l.drop k)=pv (l.drop (k+1))*1000000000+y.n.toNat:=by
 rw [sD h,pv]; omega
theorem K0:(⟨#[48,48,48,48,48,48,48,48,48]⟩:RU)=ba (List.replicate 9 48):=rfl
theorem uB (n:Nat):ny (n:Int)=ba (Lib.decDigits n):=by unfold ny; rw [Lib.itoa_nonneg]; rfl
theorem JZ {n:Nat} (h:0<n):ny (-(n:Int))=ba (45::Lib.decDigits n):=by
 unfold ny Lib.itoa;rw [R9 (by omega),show (-(n:Int)).natAbs=n by omega]; rfl
def Kv (D:List UInt8):List U8:=D.map λb=>⟨b.toNat⟩
theorem zy (D:List UInt8):lz (ba D)=Kv D:=JC D
theorem MC (a b:List UInt8):Kv a++Kv b=Kv (a++b):=by unfold Kv; rw [Tu]
theorem E4 (D:List UInt8):AP (Kv D)=ba D:=Gi D
theorem FR (D:List UInt8):(Kv D).length=D.length:=Uc _
theorem O_ (N:Nat) {Q:List cL} (I:∀ z ∈ Q,0<=z.n/\z.n<1000000000) (hl:Q.length<=N):pv Q<10 ^ (9*N):=by
 have key:∀ (Q:List cL),(∀ z ∈ Q,0<=z.n/\z.n<1000000000)->pv Q<1000000000 ^ Q.length:=by
  intro Q
  induction Q with
  | nil=>intro _; show 0<1000000000 ^ 0; decide
  | cons z Q ih=>
   intro I;have h1:=ih (λx J=>I x (Sa _ J));have h2:=I z (R6 ..);rw [pv,R_,Yo,Yf];generalize 1000000000 ^ Q.length=X at *
   omega
 have h2:(1000000000:Nat) ^ Q.length<=1000000000 ^ N:=Yk (by decide) hl
 rw [Ym];exact UZ (key Q I) h2
theorem NY (n a b:Nat) (h1:a<=3*n) (h2:10*n<=32*b):10 ^ a<=WB ^ b:=by
 have e1:(10:Nat) ^ a<=10 ^ (3*n):=Yk (by decide) h1
 have e2:((10:Nat) ^ 3) ^ n<=(2 ^ 10) ^ n:=Yj (by decide) n
 have I:(2:Nat) ^ (10*n)<=2 ^ (32*b):=Yk (by decide) h2
 rw [<- Ym,<- Ym] at e2;rw [CR b];exact S6 e1 (S6 e2 I)
theorem IY (n a b:Nat) (h1:a<=3*n) (h2:10*n<=32*b) {w:List cL} (Z:Wf w) (ht:xg w) (hl:b<w.length):¬ nv w<10 ^ a:=by
 have J:w≠[]:=λe=>by rw [e] at hl; simp at hl
 have I:=GQ Z ht J;have Y:WB ^ b<=WB ^ (w.length-1):=Yk (by decide) (by omega)
 exact Nat.not_lt.2 (S6 (NY n a b h1 h2) (S6 Y I))
theorem Mm (N K:Nat) {w:List cL} (Z:Wf w) (hl:w.length<=N) (Y:32*N<=K):nv w<2 ^ K:=by
 have h2:=ui Z;have I:WB ^ w.length<=WB ^ N:=Yk (by decide) hl
 rw [CR N] at I;have J:(2:Nat) ^ (32*N)<=2 ^ K:=Yk (by decide) Y
 exact UZ h2 (S6 I J)
theorem GN {m:Nat} (h:m<=9):(⟨#[48,48,48,48,48,48,48,48,48]⟩:RU).extract m ((⟨#[48,48,48,48,48,48,48,48,48]⟩:RU).size)=ba (List.replicate (9-m) 48):=by
 rw [K0,jX,tr,Sh (Sj _),List.drop_replicate]
theorem Nj {a:LI}{P:List cL}{V:Nat} (hP:∀ y ∈ P,0<=y.n/\y.n<1000000000) (hV:pv P=V) (hne:P≠[]) (htop:∀ y,P.getLast? = some y->y.n≠0) (hl:P.length<=1000) (ha:a.minus=true->V≠0):
  Gd (iV (λs300 n=>qI a P s300.1 s300.2 n) gO (i64.wrap ((P.length:Int)-1),([]:List U8)))
   (λr=>r.2=decide ((Lib.decDigits V).length<=2000)/\r.1=ny (if a.minus=true then -(V:Int) else V)/\r.1.size<=10000):=by
 have hpos:0<P.length:=XZ.2 hne;have wl:i64.wrap ((P.length:Int)-1)=(P.length:Int)-1:=bZ ⟨by omega,by omega⟩
 rw [wl];refine Gd.iV (λ(z:Int×List U8)=>-1<=z.1/\z.1<P.length/\(z.1=(P.length:Int)-1/\z.2=[]\/z.1<(P.length:Int)-1/\0<pv (P.drop (z.1+1).toNat)/\z.2=Kv (Lib.decDigits (pv (P.drop (z.1+1).toNat)))/\z.2.length<=9*1000))
  (λz=>(z.1+1).toNat) ?_ gO _ ⟨by simp only; omega,by simp only; omega,.inl ⟨rfl,rfl⟩⟩ (by simp only [gO]; omega)
 rintro ⟨n,l⟩ nx ⟨h1,h2,I⟩ hnx;simp only at h1 h2 I hnx ⊢;unfold qI;refine Gd.ite (λhn=>?_) (λhn=>?_)
 ·have hn:0<=n:=R7 hn
  obtain ⟨k,rfl⟩:∃ k:Nat,n=k:=⟨n.toNat,by omega⟩
  obtain ⟨y,hy⟩:∃ y,P[k]? = some y:=⟨_,RY (by omega)⟩
  have hyw:=hP y (Sd hy);obtain ⟨u,hu⟩:∃ u:Nat,y.n=u:=⟨y.n.toNat,by omega⟩
  have hu9:u<10 ^ 9:=by
   have:(10:Nat) ^ 9=1000000000:=rfl;omega
  have hkn:((k:Int)+1).toNat=k+1:=by omega
  have Y:((k:Int)-1+1).toNat=k:=by omega
  refine Gd.ix (by omega) (by rw [RZ]; exact hy) ?_
  rw [hu,i_ (n:=(u:Int)) (by omega),uB]
  refine Gd.nd ⟨by omega,by omega⟩ ?_
  rw [wl];have hlen:(Lib.decDigits u).length<=9:=EB (by decide) hu9
  have Z:=NJ hy;have hun:y.n.toNat=u:=by omega
  rw [hun] at Z;have hwk:i64.wrap ((k:Int)-1)=(k:Int)-1:=bZ ⟨by omega,by omega⟩
  refine Gd.ite (λJ=>?_) (λJ=>?_)
  ·have J:(k:Int)<(P.length:Int)-1:=R7 J
   rcases I with ⟨I,_⟩ | ⟨_,I,h4,h5⟩
   ·omega
   rw [hkn] at I h4;rw [jX,RZ,GN hlen,zy];have hsz:(ba (List.replicate (9-(Lib.decDigits u).length) (48:UInt8))).size=9-(Lib.decDigits u).length:=by rw [jX,Tl]
   rw [hsz];refine Gd.nd ⟨by omega,by show ((Lib.decDigits u).length:Int)<=((9:Nat):Int); omega⟩ (Gd.nd (by omega) ?_)
   unfold mG;rw [hu,i_ (n:=(u:Int)) (by omega),uB,hwk,zy,jX]
   rw [Sg,FR,Tl];refine Gd.nd (by omega) ?_
   have hfin:l++Kv (List.replicate (9-(Lib.decDigits u).length) (48:UInt8))++Kv (Lib.decDigits u)=Kv (Lib.decDigits (pv (P.drop k))):=by
    have hdp:=M8 (k:=9) (by decide) I hu9
    rw [show (10:Nat) ^ 9=1000000000 from rfl,<- Z] at hdp;rw [h4,Sr,MC,MC,hdp]
    rfl
   rw [hfin];have hdl:=Dp (u:=pv (P.drop k)) (k:=(Lib.decDigits (pv (P.drop k))).length) (Sj _);refine hnx _ ⟨by simp only; omega,by simp only; omega,.inr ⟨by simp only; omega,by simp only; rw [Y,Z]; omega,by simp only; rw [Y],?_⟩⟩ (by simp only; omega)
   simp only;rw [FR];have hb:=O_ 1000 (λz hz=>hP z (Wq hz)) (show (P.drop k).length<=1000 by rw [Tx]; omega)
   exact EB (k:=9*1000) (by decide) hb
  ·have J:¬ (k:Int)<(P.length:Int)-1:=Sc J
   rcases I with ⟨I,h4⟩ | ⟨I,_⟩
   ·unfold mG
    rw [hu,i_ (n:=(u:Int)) (by omega),uB,hwk,zy,jX,h4]
    refine Gd.nd (by simp only [XY]; omega) ?_
    have hlast:P.drop (k+1)=[]:=XO (by omega)
    rw [hlast] at Z;have Z:pv (P.drop k)=u:=by rw [Z]; show 0*1000000000+u=u; omega
    have hu0:u≠0:=by
     have:=htop y (by rw [XT,show P.length-1=k by omega]; exact hy)
     omega
    rw [TG];refine hnx _ ⟨by simp only; omega,by simp only; omega,.inr ⟨by simp only; omega,by simp only; rw [Y,Z]; omega,by simp only; rw [Y,Z],?_⟩⟩ (by simp only; omega)
    simp only;rw [FR]; omega
   ·omega
 ·have hn:¬ 0<=n:=Sc hn
  rcases I with ⟨I,_⟩ | ⟨_,I,h4,h5⟩
  ·omega
  have hz:(n+1).toNat=0:=by omega
  rw [hz,Tr,hV] at I h4;subst h4;rw [FR] at h5 ⊢;have hne':(Lib.decDigits V)≠[]:=(mV V).1.ne;have hp:0<(Lib.decDigits V).length:=XZ.2 hne';have hsz:((ba (Lib.decDigits V)).size:Int)=((Lib.decDigits V).length:Int):=by rw [jX]
  have hdd:decide (((ba (Lib.decDigits V)).size:Int)<=2000)=decide ((Lib.decDigits V).length<=2000):=by
   rw [hsz]; exact Y9.2 (by omega)
  refine Gd.nd hp (Gd.ite (λO=>Gd.nd ?_ ?_) (λO=>?_))
  ·rw [E4,jX,show (⟨#[45]⟩:RU).size=1 from rfl]
   unfold maxLen; omega
  ·unfold mH
   rw [E4];have hx:(⟨#[45]⟩:RU)++ba (Lib.decDigits V)=ba (45::Lib.decDigits V):=by
    rw [show (⟨#[45]⟩:RU)=ba [45] from rfl,Hk]; rfl
   refine Gd.ret ⟨hdd,?_,?_⟩
   ·rw [R9 O,JZ (by have:=ha O; omega)]; exact hx
   ·simp only
    rw [hx,jX,R_]; omega
  ·unfold mH
   rw [E4];refine Gd.ret ⟨hdd,?_,?_⟩
   ·rw [R8 (by rw [O]; simp),uB]
   ·simp only
    rw [jX]; omega
theorem H9 (K N:Nat) {p n W:Nat} (h:1000000000 ^ p*n<=W) (hn:1<=n) (hW:W<2 ^ K) (Z:K<=29*N):p<N:=by
 rcases TZ p N with I | I
 ·exact I
 ·exfalso
  have h1:((2:Nat) ^ 29) ^ N<=(1000000000:Nat) ^ N:=Yj (by decide) N
  have h2:(1000000000:Nat) ^ N<=1000000000 ^ p:=Yk (by decide) I
  have J:(1000000000:Nat) ^ p*1<=1000000000 ^ p*n:=Yg _ hn;have Y:(2:Nat) ^ K<=2 ^ (29*N):=Yk (by decide) Z
  rw [<- Ym] at h1;rw [UO] at J;exact absurd hW (Nat.not_lt.2 (S6 Y (S6 h1 (S6 h2 (S6 J h)))))
theorem J7 {V A B n:Nat} (h:V=A+B*n):V=(A+B*(n%1000000000))+B*1000000000*(n / 1000000000):=by
 rw [Ye,Uv,<- Yd,Yc]; exact h
theorem Di {a:LI} (h:uw a):Gd (l8 a) (λr=>r.2=decide ((Lib.decDigits (nv a.words)).length<=2000)/\(r.2=true->r.1=ny (iK a))/\r.1.size<=10000):=by
 unfold l8;refine Gd.ite (λJ=>?_) (λJ=>?_)
 ·have J:a.words=[]:=Sv (by have:=R7 J; omega)
  have O:a.minus=false:=by
   cases O:a.minus with
   | false=>rfl
   | true=>exact absurd J (h.sign O)
  refine Gd.ret ⟨?_,λ_=>?_,by decide⟩
  ·rw [J]
   have hx:(Lib.decDigits (nv [])).length<=2000:=by
    show (Lib.decDigits 0).length<=2000;rw [XK (by omega)]; simp
   rw [Zb hx]
  ·unfold iK
   rw [R8 (by rw [O]; simp),J]
   show (⟨#[48]⟩:RU)=ny ((0:Nat):Int);rw [uB,XK (by omega)]; rfl
 ·have J:a.words.length≠0:=by have:=Sc J; omega
  have hne:a.words≠[]:=λe=>J (by rw [e]; rfl)
  refine Gd.ite (λh1=>?_) (λh1=>?_)
  ·have h1:210<a.words.length:=by have:=R7 h1; omega
   refine Gd.ret ⟨?_,λhh=>absurd hh (by simp),by decide⟩
   symm
   refine Y_ λhle=>?_;exact IY 667 2000 210 (by decide) (by decide) h.wf h.tp h1 (Dp (k:=2000) hle)
  ·have h1:a.words.length<=210:=by have:=Sc h1; omega
   have hW:=Mm 210 6720 h.wf h1 (by decide)
   have hnz:nv a.words≠0:=λe=>hne ((ya h.wf h.tp).1 e);refine Gd.iV (λ(z:List cL×List cL)=>(∀ y ∈ z.1,0<=y.n/\y.n<1000000000)/\Wf z.2/\xg z.2/\z.2.length<=210/\nv a.words=pv z.1+1000000000 ^ z.1.length*nv z.2/\z.1.length<=300/\(nv z.2=0->z.1≠[]/\∀ y,z.1.getLast? = some y->y.n≠0))
    (λz=>301-z.1.length) ?_ gO _ ⟨by simp,h.wf,h.tp,h1,?_,by simp,λe=>absurd e hnz⟩ (by simp only [gO,XY]; omega)
   ·rintro ⟨P,w⟩ nx ⟨i1,i2,i3,i4,i5,i6,i7⟩ hnx
    simp only at i1 i2 i3 i4 i5 i6 i7 hnx ⊢;unfold sQ;refine Gd.ite (λZ=>?_) (λZ=>?_)
    ·have Z:0<w.length:=by have:=R7 Z; omega
     have hwn:w≠[]:=λe=>by rw [e] at Z; simp at Z
     have hwz:nv w≠0:=λe=>hwn ((ya i2 i3).1 e);have hpl:=H9 6720 300 (p:=P.length) (n:=nv w) (W:=nv a.words) (by rw [i5]; exact Nat.le_add_left _ _) (by omega) hW (by decide)
     refine Gd.fH (G3 i2 (by omega) (d:=1000000000) (by omega)) (λr Y=>?_)
     have hdn:(1000000000:Int).toNat=1000000000:=rfl;rw [hdn] at Y;refine Gd.nd (by simp only [S4]; omega) (Gd.fH (uW false r.1 Y.1 (by omega)) (λq hq=>?_))
     have hrn:0<=r.2/\r.2<1000000000/\r.2.toNat=nv w%1000000000:=by
      have:=U3 (nv w) (show 1000000000 > 0 by omega)
      rw [Y.2.2.2]; omega
     refine hnx _ ⟨?_,hq.1.wf,hq.1.tp,by simp only; omega,?_,by simp only [Sg,S4]; omega,λhz=>⟨by simp,λy I=>?_⟩⟩ (by simp only [Sg,S4]; omega)
     ·intro y I
      rcases Sf.1 I with I | I
      ·exact i1 y I
      ·rw [Sy] at I; subst I; simp only; omega
     ·simp only
      rw [Jb,Sg,S4,Yo,hq.2.2.1,Y.2.2.1];simp only;rw [hrn.2.2];exact J7 i5
     ·simp only at hz I
      rw [List.getLast?_append,List.getLast?_singleton] at I;simp only [Option.some_or,Sn] at I;subst I;simp only;rw [hq.2.2.1,Y.2.2.1] at hz;have:nv w / 1000000000=0:=hz;omega
    ·have Z:w=[]:=Sv (by have:=Sc Z; omega)
     subst Z;obtain ⟨j1,j2⟩:=i7 rfl;have hVV:pv P=nv a.words:=by
      rw [i5];show pv P=pv P+1000000000 ^ P.length*0;rw [Yh]; rfl
     refine (Nj (a:=a) i1 hVV j1 j2 (by omega) (λ_=>hnz)).mono (λr Y=>⟨Y.1,λ_=>?_,Y.2.2⟩)
     rw [Y.2.1]; rfl
   ·show nv a.words=0+1000000000 ^ 0*nv a.words
    rw [Yp]; omega
def E5 (q:Rat):List UInt8:=Lib.itoa q.num++(if q.den=1 then [] else 47::Lib.decDigits q.den)
def ctext (q:Rat):RU:=ba (E5 q)
def fits (q:Rat):Prop:=(Lib.decDigits q.num.natAbs).length<=2000/\(Lib.decDigits q.den).length<=2000
instance (q:Rat):Decidable (fits q):=by unfold fits; infer_instance
theorem DD {l:List UInt8} (h:∀ c ∈ l,Eb c):(47:UInt8) ∉ l:=λO=>absurd (h 47 O) (by unfold Eb; decide)
theorem vP (n:Int):Lib.itoa n=if n<0 then 45::Lib.decDigits n.natAbs else Lib.decDigits n.natAbs:=by
 unfold Lib.itoa
 split
 ·rfl
 ·rw [show n.toNat=n.natAbs by omega]
theorem LC (u:Nat):(Lib.decDigits u).head? ≠ some 45:=by
 obtain ⟨h,_⟩:=mV u;cases hl:Lib.decDigits u with
 | nil=>simp
 | cons c r=>
  rw [hl] at h;have:=h.FW c (R6 ..);simp only [XU,ne_eq,Sn];rintro rfl;exact absurd this (by unfold Eb; decide)
theorem IJ (q:Rat):(E5 q).head? = some 45↔q.num<0:=by
 unfold E5;rw [vP]
 by_cases h:q.num<0
 ·rw [R9 h]; simp [h]
 ·rw [R8 h,Dg (mV _).1.ne]
  simp only [h,iff_false];exact LC _
theorem M4 (q:Rat):(if (E5 q).head? = some 45 then (E5 q).tail else E5 q)=Lib.decDigits q.num.natAbs++(if q.den=1 then [] else 47::Lib.decDigits q.den):=by
 by_cases h:q.num<0
 ·rw [R9 ((IJ q).2 h)]
  unfold E5;rw [vP,R9 h]; rfl
 ·rw [R8 (λe=>h ((IJ q).1 e))]
  unfold E5;rw [vP,R8 h]
theorem HN {c:UInt8}{l:List UInt8} (h:c ∉ l):Lib.indexByte l c = -1:=by
 rcases vj c l with ⟨_,h2⟩ | ⟨a,b,rfl,_⟩
 ·exact h2
 ·exact absurd (by simp) h
theorem Gz {c:UInt8}{b:List UInt8}:∀ {a:List UInt8},c ∉ a->Lib.indexByte (a++c::b) c=a.length
 | [],_=>by simp [Lib.indexByte]
 | x::a,h=>by
  have I:(x == c)=false:=by simp only [SQ,not_or] at h; simpa using λe=>h.1 e.symm
  have ih:=Gz (b:=b) (a:=a) (λO=>h (Sa _ O));rw [Ur];simp only [Lib.indexByte,I,ih];rw [R8 (by simp),R8 (by simp)]
  simp only [R_]; omega
theorem C4 {l:List UInt8} (h:(47:UInt8) ∉ l):oS (ba l) (⟨#[47]⟩)=some (ba l,⟨#[]⟩,false):=by
 unfold oS kX;rw [show (⟨#[47]⟩:RU)=ba [47] from rfl,GA,IH,HN h]
 rfl
theorem C5 {a b:List UInt8} (h:(47:UInt8) ∉ a) (hs:a.length+1+b.length<=maxLen):oS (ba (a++47::b)) (⟨#[47]⟩)=some (ba a,ba b,true):=by
 have I:(ba (a++47::b)).size=a.length+1+b.length:=by rw [jX]; simp; omega
 unfold maxLen at hs;unfold oS kX;rw [show (⟨#[47]⟩:RU)=ba [47] from rfl,GA,IH,Gz h];simp only [UT];rw [R9 (by simp),I,show (ba [47]).size=1 from rfl,bZ ⟨by omega,by omega⟩]
 unfold cZ;rw [R9 ⟨by omega,by omega⟩,R9 ⟨by omega,by omega⟩,RZ,show ((a.length:Int)+((1:Nat):Int)).toNat=a.length+1 by omega,tr,tr]
 simp only [UT,Tr];rw [UY,Sh (by simp; omega),show a++47::b=(a++[47])++b by simp,List.drop_left' (by simp)]
theorem uP (l:List UInt8) (hs:l.length<=maxLen):Gd (qW (ba l)) (λc=>c=0↔Hc l/\l.length<=2000):=by
 unfold qW;refine Gd.nd (by rw [jX]; exact hs) ?_
 rw [zy];refine Gd.seen (λpre _=>∀ y ∈ pre,48<=y.n/\y.n<=57) ?_ ?_ () (λy hy=>by cases hy)
 ·rintro i y _ nx pre ⟨post,hl⟩ hI hnx
  have hy:y ∈ Kv l:=by rw [hl]; simp
  obtain ⟨c,hc,rfl⟩:=SV.1 hy;unfold wG;refine Gd.ite (λhb=>Gd.ret ?_) (λhb=>hnx () (λz Z=>?_))
  ·simp only [TI,SO] at hb
   constructor
   ·intro h; simp at h
   ·rintro ⟨h,_⟩
    have:=h.FW c hc;unfold Eb at this; omega
  ·simp only [XB,Za] at hb
   rcases Sf.1 Z with Z | Z
   ·exact hI z Z
   ·rw [Sy] at Z; subst Z; simp only; omega
 ·intro _ hI
  have hd:∀ c ∈ l,Eb c:=λc hc=>by
   have:=hI ⟨c.toNat⟩ (SV.2 ⟨c,hc,rfl⟩);unfold Eb; simp only at this; omega
  refine Gd.ite (λh=>Gd.ret ?_) (λh=>?_)
  ·have h:l=[]:=y_ ((R7 h).trans rfl)
   constructor
   ·intro h; simp at h
   ·rintro ⟨hn,_⟩; exact absurd h hn.ne
  ·have Y:l≠[]:=λe=>absurd (Sc h) (by rw [e]; simp [ba])
   have I:(l.head? = some 48->l=[48])->Gd (if decide (2000<((ba l).size:Int))=true then some (2:Int) else some 0) (λc=>c=0↔Hc l/\l.length<=2000):=λJ=>by
    rw [jX];refine Gd.ite (λh2=>Gd.ret ?_) (λh2=>Gd.ret ?_)
    ·have:=R7 h2
     constructor
     ·intro h; simp at h
     ·rintro ⟨_,h⟩; omega
    ·have:=Sc h2
     exact ⟨λ_=>⟨⟨hd,Y,J⟩,by omega⟩,λ_=>rfl⟩
   refine Gd.ite (λh1=>?_) (λh1=>I (λhh=>?_))
   ·rw [jX] at h1
    have h1:=R7 h1;cases l with
    | nil=>exact absurd rfl Y
    | cons c r=>
     refine Gd.ix (y:=⟨c.toNat⟩) (by omega) rfl (Gd.ite (λh2=>Gd.ret ?_) (λh2=>I (λhh=>?_)))
     ·have h2:=R7 h2
      simp only at h2;constructor
      ·intro h; simp at h
      ·rintro ⟨hn,_⟩
       have hc:c=48:=UInt8.toNat_inj.1 (by show c.toNat=48; omega)
       have:=hn.lead (by rw [hc]; rfl)
       rw [this] at h1; simp at h1
     ·have h2:=Sc h2
      simp only [XU,Sn] at hh;subst hh;exact absurd rfl h2
   ·rw [jX] at h1
    have h1:=Sc h1;cases l with
    | nil=>exact absurd rfl Y
    | cons c r=>
     have:r=[]:=Sv (by simp only [R_] at h1; omega)
     subst this;simp only [XU,Sn] at hh;rw [hh]
theorem DN {n:List UInt8} (hn:Hc n) (l1:n.length<=2000):Gd (mu (ba n)) (λa=>uw a/\a.words.length<=10000/\iK a=dv n):=by
 have:=Je hn.FW l1 false;simpa using this
theorem Nz {n d:List UInt8} (hn:Hc n) (Y:Hc d) (l1:n.length<=2000) (l2:d.length<=2000):
  Gd (xG (ba n) (ba d)) (λr=>r.2.2=0/\(uw r.1/\r.1.words.length<=10000/\iK r.1=dv n)/\(uw r.2.1/\r.2.1.words.length<=10000/\iK r.2.1=dv d)):=by
 unfold xG;have PU:∀ {l:List UInt8},Hc l->l.length<=2000->Gd (qW (ba l)) (λc=>c=0):=λh hl=>(uP _ (by unfold maxLen; omega)).mono (λc I=>I.2 ⟨h,hl⟩)
 refine Gd.lH (λm i _=>m+i=2) (λm i _ nx hI J=>?_) (λi _ _=>?_) _ 0 () rfl
 ·unfold xX
  have hi:i=0\/i=1:=by omega
  have hy:∃ l:List UInt8,([ba n,ba d]:List RU)[i]? = some (ba l)/\Hc l/\l.length<=2000:=by
   rcases hi with rfl | rfl
   ·exact ⟨n,rfl,hn,l1⟩
   ·exact ⟨d,rfl,Y,l2⟩
  obtain ⟨l,hl,h1,h2⟩:=hy;refine Gd.ix (by omega) (by rw [RZ]; exact hl) (Gd.fH (PU h1 h2) (λc I=>?_))
  subst I;exact J () (by omega)
 ·exact Gd.fH (DN hn l1) (λa Z=>Gd.fH (DN Y l2) (λb hb=>Gd.ret ⟨rfl,Z,hb⟩))
theorem w7:Lib.decDigits 1=[49]:=XK (by omega)
theorem AR:Lib.decDigits 0=[48]:=XK (by omega)
theorem AQ {a b:Nat} (h:Lib.decDigits a=Lib.decDigits b):a=b:=by
 have h1:=(mV a).2;rw [h,(mV b).2] at h1; exact h1.symm
theorem I1 {n d:List UInt8} (hn:Hc n) (hd:Hc d) (l1:n.length<=2000) (l2:d.length<=2000):
  Gd (xF (ba n) (ba d)) (λr=>r.1=(⟨#[49]⟩:RU)↔Nat.gcd (dv n) (dv d)=1):=by
 unfold xF;refine Gd.fH (Nz hn hd l1 l2) (λr hr=>?_);obtain ⟨h0,h1,h2⟩:=hr;rw [h0];refine Gd.fH (Ly h1.1 h2.1 (L:=10000) (by omega) h1.2.1 h2.2.1) (λg Y=>?_)
 have e1:nv r.1.words=dv n:=by rw [<- lY,h1.2.2]; rfl
 have e2:nv r.2.1.words=dv d:=by rw [<- lY,h2.2.2]; rfl
 rw [e1,e2] at Y;unfold xW;have hb:Gd ((l8 g).bind λI=>if (!I.2)=true then some ((⟨#[]⟩:RU),(2:Int)) else some (I.1,0)) (λt=>t.1=(⟨#[49]⟩:RU)↔Nat.gcd (dv n) (dv d)=1):=by
  refine Gd.fH (Di Y.1) (λt ht=>Gd.ite (λJ=>Gd.ret ?_) (λJ=>Gd.ret ?_))
  ·have J:t.2=false:=by simpa using J
   rw [J,Y.2.2.2] at ht;constructor
   ·intro h; exact absurd h (by decide)
   ·intro h
    have:=ht.1;rw [h,w7] at this; simp at this
  ·have J:t.2=true:=by simpa using J
   have Z:=ht.2.1 J;simp only;rw [Z,rG Y.2.1,uB,Y.2.2.2,show (⟨#[49]⟩:RU)=ba [49] from rfl];constructor
   ·intro h
    exact AQ ((y_ h).trans w7.symm)
   ·intro h; rw [h,w7]
 exact Gd.fH hb (λt ht=>Gd.ret ht)
theorem Ib {q:Rat} (h:fits q):qX (ctext q)=some 0:=by
 refine Gd.eq.1 ?_;have Y:=(mV q.num.natAbs).1;have hE:=(mV q.den).1;unfold qX ctext;refine Gd.bind_eq (AD _) ?_;rw [M4];have hz:q.num<0->Lib.decDigits q.num.natAbs≠[48]:=λhn e=>by
  rw [<- AR] at e;have:=AQ e; omega
 by_cases hd:q.den=1
 ·rw [R9 hd,SN]
  refine Gd.bind_eq (C4 (DD Y.FW)) ?_;refine Gd.fH (uP _ (by have:=h.1; unfold maxLen; omega)) (λc Z=>?_)
  have J:=Z.2 ⟨Y,h.1⟩;subst J;refine Gd.ite (λI=>by simp at I) (λ_=>?_)
  unfold nH;refine Gd.ite (λI=>?_) (λ_=>Gd.ret rfl);exfalso;simp only [show decide ((0:Int)=5)=false from rfl,Bool.or_self,Bool.false_or,TL,SO] at I;have h1:Lib.decDigits q.num.natAbs=[48]:=y_ (I.1.trans rfl);have h2:=I.2;rw [jX,jX] at h2;unfold E5 at h2;rw [R9 hd,SN,vP] at h2
  split at h2
  ·rename_i hn; exact hz hn h1
  ·omega
 ·rw [R8 hd]
  refine Gd.bind_eq (C5 (DD Y.FW) (by have:=h.1; have:=h.2; unfold maxLen; omega)) ?_
  refine Gd.fH (uP _ (by have:=h.1; unfold maxLen; omega)) (λc Z=>?_)
  have J:=Z.2 ⟨Y,h.1⟩;subst J;refine Gd.ite (λ_=>?_) (λI=>by simp at I)
  refine Gd.fH (uP _ (by have:=h.2; unfold maxLen; omega)) (λc Z=>?_)
  have J:=Z.2 ⟨hE,h.2⟩;subst J;unfold nH;refine Gd.ite (λI=>?_) (λ_=>Gd.ite (λI=>by simp at I) (λ_=>Gd.ite (λ_=>?_) (λI=>by simp at I)))
  ·exfalso
   simp only [show decide ((0:Int)=5)=false from rfl,Bool.or_self,Bool.false_or,TL,SO] at I;have h1:Lib.decDigits q.num.natAbs=[48]:=y_ (I.1.trans rfl);have h2:=I.2;rw [jX,jX] at h2;unfold E5 at h2;rw [R8 hd,vP] at h2
   split at h2
   ·rename_i hn; exact hz hn h1
   ·omega
  ·refine Gd.fH (I1 Y hE h.1 h.2) (λr hr=>?_)
   rw [(mV q.num.natAbs).2,(mV q.den).2] at hr;have hr1:=hr.2 q.reduced;refine Gd.ite (λI=>?_) (λ_=>Gd.ret rfl);exfalso;simp only [hr1,decide_true,Bool.not_true,Bool.or_false,TI,SO] at I;rcases I with I | I
   ·have:=AQ ((y_ (I.trans rfl):Lib.decDigits q.den=[48]).trans AR.symm)
    exact q.den_nz this
   ·have:=AQ ((y_ (I.trans rfl):Lib.decDigits q.den=[49]).trans w7.symm)
    exact hd this
theorem Oj {neg:Bool}{n:List UInt8}{m:Int} (hn:Hc n) (I:¬ (n=[48]/\neg=true)) (O:m=if neg=true then -(dv n:Int) else dv n):
  Lib.itoa m=(if neg=true then 45::n else n)/\m.natAbs=dv n:=by
 have Y:dv n=0->n=[48]:=λh=>by
  have e:=xR hn;rw [h,AR] at e; exact e.symm
 rw [vP];cases neg with
 | false=>
  simp only [Te,TV] at O ⊢;rw [R8 (by omega),show m.natAbs=dv n by omega]
  exact ⟨xR hn,rfl⟩
 | true=>
  simp only [Wy] at O ⊢;have J:dv n≠0:=λh=>I ⟨Y h,rfl⟩;rw [R9 (by omega),show m.natAbs=dv n by omega]
  exact ⟨by rw [xR hn],rfl⟩
theorem J8 (s:RU) (hs:s.size<=maxLen):Gd (qX s) (λc=>c=0↔∃ q,fits q/\s=ctext q):=by
 have Z:Gd (qX s) (λc=>c=0->∃ q,fits q/\s=ctext q):=by
  obtain ⟨l,rfl⟩:∃ l,s=ba l:=⟨bl s,(KZ s).symm⟩;rw [jX] at hs;unfold qX;refine Gd.bind_eq (AD l) ?_;obtain ⟨neg,I⟩:∃ neg:Bool,neg=decide (l.head? = some 45):=⟨_,rfl⟩;generalize ht:(if l.head? = some 45 then l.tail else l)=t
  have hl:l=if neg=true then 45::t else t:=by
   by_cases h:l.head? = some 45
   ·rw [R9 h] at ht
    rw [I,Zb h,R9 rfl,<- ht];cases l with
    | nil=>cases h
    | cons c r=>simp only [XU,Sn] at h; rw [h]; rfl
   ·rw [R8 h] at ht
    rw [I,Y_ h,R8 (by simp)]; exact ht
  have htl:t.length<=l.length:=by
   rw [hl]; split
   ·simp
   ·omega
  have hsz:neg=true->(ba t).size<(ba l).size:=λh=>by
   rw [jX,jX,hl,R9 h]; simp
  by_cases hsl:(47:UInt8) ∈ t
  ·obtain ⟨a,b,e,ha,_⟩:∃ a b,t=a++47::b/\(47:UInt8) ∉ a/\True:=by
    rcases vj 47 t with ⟨h1,_⟩ | ⟨a,b,e,h2,_⟩
    ·exact absurd hsl h1
    ·exact ⟨a,b,e,h2,RW⟩
   have hab:a.length+1+b.length=t.length:=by rw [e]; simp; omega
   rw [e];refine Gd.bind_eq (C5 ha (by omega)) ?_
   refine Gd.fH (uP a (by omega)) (λc1 J=>Gd.ite (λ_=>?_) (λY=>by simp at Y))
   refine Gd.fH (uP b (by omega)) (λc2 hc2=>?_)
   unfold nH;refine Gd.ite (λ_=>Gd.ret (λh=>by simp at h)) (λhA=>Gd.ite (λ_=>Gd.ret (λh=>by simp at h)) (λhB=>Gd.ite (λ_=>?_) (λY=>by simp at Y)))
   simp only [XB,XA,SO] at hB;obtain ⟨n1,n2⟩:=J.1 hB.1;obtain ⟨d1,d2⟩:=hc2.1 hB.2;have h0:¬ (a=[48]/\neg=true):=by
    rintro ⟨ea,en⟩;simp only [XB,Bool.and_eq_false_iff,Za] at hA;rcases hA.2 with h | h
    ·exact h (by rw [ea]; rfl)
    ·have:=hsz en; rw [e] at this; omega
   refine Gd.fH (I1 n1 d1 n2 d2) (λr hr=>Gd.ite (λ_=>Gd.ret (λh=>by simp at h)) (λhC=>Gd.ret (λ_=>?_)))
   simp only [XB,XA,SO,Za] at hC;have hg:=hr.1 hC.2;have hnz:dv b≠0:=λh=>hC.1.1 (by
    have:=xR d1;rw [h,AR] at this; rw [<- this]; rfl)
   have hn1:dv b≠1:=λh=>hC.1.2 (by
    have:=xR d1;rw [h,w7] at this; rw [<- this]; rfl)
   obtain ⟨e1,e2⟩:=Oj (neg:=neg) n1 h0 rfl;refine ⟨Rat.mk' (if neg=true then -(dv a:Int) else dv a) (dv b) hnz (by rw [e2]; exact hg),⟨?_,?_⟩,?_⟩
   ·simp only; rw [e2,xR n1]; exact n2
   ·simp only; rw [xR d1]; exact d2
   ·unfold ctext E5
    simp only;rw [e1,R8 hn1,xR d1,hl,e]
    split <;> rfl
  ·refine Gd.bind_eq (C4 hsl) ?_
   refine Gd.fH (uP t (by omega)) (λc1 J=>Gd.ite (λY=>by simp at Y) (λ_=>?_))
   unfold nH;refine Gd.ite (λ_=>Gd.ret (λh=>by simp at h)) (λhA=>Gd.ite (λ_=>Gd.ret (λh=>by simp at h)) (λhB=>Gd.ite (λY=>by simp at Y) (λ_=>Gd.ret (λ_=>?_))))
   simp only [XB,XA,SO] at hB;obtain ⟨n1,n2⟩:=J.1 hB.1;have h0:¬ (t=[48]/\neg=true):=by
    rintro ⟨ea,en⟩;simp only [XB,Bool.and_eq_false_iff,Za] at hA;rcases hA.2 with h | h
    ·exact h (by rw [ea]; rfl)
    ·have:=hsz en; omega
   obtain ⟨e1,e2⟩:=Oj (neg:=neg) n1 h0 rfl;refine ⟨Rat.mk' (if neg=true then -(dv t:Int) else dv t) 1 (by decide) (by rw [e2]; exact Nat.coprime_one_right _),⟨?_,?_⟩,?_⟩
   ·simp only; rw [e2,xR n1]; exact n2
   ·simp only; rw [w7]; decide
   ·unfold ctext E5
    simp only;rw [e1,R9 RW,SN,<- hl]
 obtain ⟨c,e,h⟩:=Z;refine ⟨c,e,h,?_⟩;rintro ⟨q,hq,rfl⟩;rw [Ib hq] at e;exact (RX e).symm
theorem IL {u k:Nat}{l:List cL} (J:Wf l) (ht:xg l) (I:(Lib.decDigits (nv l)).length<=2000):l.length<=300:=by
 rcases TZ 300 l.length with h | h
 ·exact absurd (Dp (k:=2000) I) (IY 667 2000 300 (by decide) (by decide) J ht h)
 ·exact h
theorem qB.small {a:LR} (h:qB a) (I:fits (rv a)):RL a 300:=by
 obtain ⟨h1,h2⟩:=I;rw [h.num,lY] at h1;rw [h.den] at h2;exact ⟨IL (u:=0) (k:=0) h.n.wf h.n.tp h1,IL (u:=0) (k:=0) h.d.wf h.d.tp h2⟩
theorem Ml {a:LR} (h:qB a):Gd (qM a) (λr=>(r.2=true↔fits (rv a))/\(r.2=true->r.1=ctext (rv a))):=by
 have e1:(rv a).num.natAbs=nv a.N.words:=by rw [h.num,lY]
 have e2:(rv a).den=nv a.D.words:=h.den;unfold qM;refine Gd.fH (Di h.n) (λt ht=>Gd.ite (λJ=>Gd.ret ?_) (λJ=>?_))
 ·have J:t.2=false:=by simpa using J
  refine ⟨⟨λI=>by simp at I,λI=>?_⟩,λI=>by simp at I⟩
  have h1:=ht.1;rw [J] at h1;have:=I.1;rw [e1] at this;exact absurd this (Sc h1.symm)
 ·have J:t.2=true:=by simpa using J
  have hN:=ht.1;rw [J] at hN;have hN:=R7 hN.symm;have hNt:=ht.2.1 J;refine Gd.fH (Di h.d) (λu hu=>?_);have hval:iK a.D=((nv a.D.words:Nat):Int):=rG h.pos;have Y:(u.2=true↔fits (rv a)):=by
   unfold fits;rw [e1,e2,hu.1,SO];exact ⟨λx=>⟨hN,x⟩,λx=>x.2⟩
  have hut:u.2=true->u.1=ba (Lib.decDigits (rv a).den):=λx=>by rw [hu.2.1 x,hval,uB,e2]
  have Z:t.1=ba (Lib.itoa (rv a).num):=by rw [hNt,h.num]; rfl
  refine Gd.ite (λh1=>Gd.ret ⟨Y,λI=>?_⟩) (λh1=>Gd.nd ?_ (Gd.nd ?_ (Gd.ret ⟨Y,λI=>?_⟩)))
  ·have h1:u.1=(⟨#[49]⟩:RU):=R7 h1
   have:=hut I;rw [h1] at this;have hd:(rv a).den=1:=AQ ((y_ (show ba [49]=_ from this)).symm.trans w7.symm);unfold ctext E5;rw [R9 hd,SN]; exact Z
  ·have:=ht.2.2
   show t.1.size+1<=maxLen;unfold maxLen; omega
  ·have:=ht.2.2
   have:=hu.2.2;rw [DV];show t.1.size+1+u.1.size<=maxLen;unfold maxLen; omega
  ·have h1:u.1≠(⟨#[49]⟩:RU):=Sc h1
   have h2:=hut I;have hd:(rv a).den≠1:=λe=>h1 (by rw [h2,e,w7]; rfl)
   unfold ctext E5;rw [R8 hd];simp only;rw [Z,h2,show (⟨#[47]⟩:RU)=ba [47] from rfl,Hk,Hk,Sr]; rfl
theorem NK {p q:Rat} (h1:p.num=q.num) (h2:p.den=q.den):p=q:=Rat.ext h1 h2
theorem BJ {n:Int} (h:(Lib.decDigits n.natAbs).length<=2000):Gd (mu (ba (Lib.itoa n))) (λa=>uw a/\a.words.length<=10000/\iK a=n):=by
 have J:=mV n.natAbs;have:=Je J.1.FW h (decide (n<0));rw [vP];simp only [SO] at this;refine this.mono (λa I=>⟨I.1,I.2.1,?_⟩);rw [I.2.2,J.2]
 split <;> omega
theorem Dl (n:Int):(47:UInt8) ∉ Lib.itoa n:=by
 rw [vP];have:=DD (mV n.natAbs).1.FW
 split
 ·simp only [SQ,not_or]; exact ⟨by decide,this⟩
 ·exact this
theorem IS {n:Int} (h:(Lib.decDigits n.natAbs).length<=2000):(Lib.itoa n).length<=2001:=by
 rw [vP]
 split
 ·simp only [R_]; omega
 ·omega
theorem Na {q:Rat}{k:Nat} (hn:q.num.natAbs<10 ^ k) (Y:q.den<10 ^ k) (J:1<=k) (I:k<=2000):fits q:=
 ⟨S6 (EB J hn) I,S6 (EB J Y) I⟩
theorem Hx {q:Rat} (h:fits q):(ctext q).size<=10000:=by
 unfold ctext E5;rw [jX,Sg];have:=IS h.1;have:=h.2
 split
 ·simp; omega
 ·simp only [R_]; omega
theorem Gl {l:List RU} (hs:∀ s ∈ l,s.size<=maxLen):Gd (ss l) (λc=>c=0↔∀ s ∈ l,∃ q,fits q/\s=ctext q):=by
 unfold ss;refine Gd.seen (λpre _=>∀ s ∈ pre,∃ q,fits q/\s=ctext q) ?_ (λ_ J=>Gd.ret ⟨λ_=>J,λ_=>rfl⟩) () (λs hs=>by cases hs)
 rintro i y _ nx pre ⟨post,hl⟩ J Y;have hy:y ∈ l:=by rw [hl]; simp
 unfold ua;refine Gd.fH (J8 y (hs y hy)) (λc Z=>Gd.ite (λh=>Gd.ret ?_) (λh=>Y () (λz I=>?_)))
 ·have h:c≠0:=by simpa using h
  exact ⟨λe=>absurd e h,λe=>absurd (Z.2 (e y hy)) h⟩
 ·have h:c=0:=by simpa using h
  rcases Sf.1 I with I | I
  ·exact J z I
  ·rw [Sy] at I; subst I; exact Z.1 h
def RB (q:Rat) (L:Nat):Prop:=∃ r:LR,qB r/\RL r L/\rv r=q
theorem qB.rb {r:LR} (h:qB r) {L:Nat} (J:RB (rv r) L):RL r L:=by
 obtain ⟨s,h1,h2,I⟩:=J;rw [h.ext' h1 I.symm]; exact h2
theorem RB.mono {q:Rat}{L M:Nat} (h:RB q L) (J:L<=M):RB q M:=by
 obtain ⟨s,h1,h2,I⟩:=h;exact ⟨s,h1,h2.mono J,I⟩
theorem RB.add {p q:Rat}{A B:Nat} (h:RB p A) (k:RB q B) (J:A+B<=800000):RB (p+q) (A+B+1):=by
 obtain ⟨a,h1,h2,I⟩:=h; obtain ⟨b,Y,Z,k3⟩:=k
 obtain ⟨r,_,r1,r2,r3⟩:=yd h1 Y h2 Z J;exact ⟨r,r1,r2,by rw [r3,I,k3]⟩
theorem RB.sub {p q:Rat}{A B:Nat} (h:RB p A) (k:RB q B) (J:A+B<=800000):RB (p-q) (A+B+1):=by
 obtain ⟨a,h1,h2,I⟩:=h; obtain ⟨b,Y,Z,k3⟩:=k
 obtain ⟨r,_,r1,r2,r3⟩:=zD h1 Y h2 Z J;exact ⟨r,r1,r2,by rw [r3,I,k3]⟩
theorem RB.mul {p q:Rat}{A B:Nat} (h:RB p A) (k:RB q B) (J:A+B<=800000):RB (p*q) (A+B):=by
 obtain ⟨a,h1,h2,I⟩:=h; obtain ⟨b,Y,Z,k3⟩:=k
 obtain ⟨r,_,r1,r2,r3⟩:=A_ h1 Y h2 Z J;exact ⟨r,r1,r2,by rw [r3,I,k3]⟩
theorem O2 {w:List cL} (J:Wf w) (ht:xg w) {k:Nat} (h:nv w<WB ^ k):w.length<=k:=by
 rcases TZ k w.length with hl | hl
 ·exfalso
  have I:w≠[]:=λe=>by rw [e] at hl; simp at hl
  have h1:=GQ J ht I;have h2:WB ^ k<=WB ^ (w.length-1):=Yk (by decide) (by omega)
  exact absurd h (Nat.not_lt.2 (S6 h2 h1))
 ·exact hl
theorem Kn (k m:Nat) (h:32*k<=3*m):WB ^ k<=10 ^ m:=by
 have J:(2:Nat) ^ (32*k)<=2 ^ (3*m):=Yk (by decide) h
 have I:((2:Nat) ^ 3) ^ m<=10 ^ m:=Yj (by decide) m
 rw [<- Ym] at I;rw [CR k];exact S6 J I
theorem MD {k:Nat} (I:k<=187):WB ^ k<=10 ^ 2000:=Kn k 2000 (by omega)
theorem RB.fits {q:Rat}{L:Nat} (h:RB q L) (hL:L<=187):fits q:=by
 obtain ⟨r,h1,h2,rfl⟩:=h;have e:=MD hL;have key:∀ {w:List cL},Wf w->w.length<=L->nv w<10 ^ 2000:=λI hl=>
  UZ (ui I) (S6 (Yk (by decide) hl) e)
 refine Na (k:=2000) ?_ ?_ (by decide) (Sj _)
 ·rw [h1.num,lY]; exact key h1.n.wf h2.1
 ·rw [h1.den]; exact key h1.d.wf h2.2
theorem Ot {m:Int}{k:Nat} (h:m.natAbs<WB ^ k) (J:k<=187):∃ a:LI,uw a/\a.words.length<=k/\iK a=m:=by
 obtain ⟨a,_,h1,h2,I⟩:=BJ (n:=m) (EB (by decide) (UZ h (MD J)))
 exact ⟨a,h1,O2 h1.wf h1.tp (by rw [<- lY,I]; exact h),I⟩
theorem RB.ratio {m d:Int}{k:Nat} (h:m.natAbs<WB ^ k) (Y:d.natAbs<WB ^ k) (h0:d≠0) (I:k<=187):RB ((m:Rat) / (d:Rat)) k:=by
 obtain ⟨a,a1,a2,J⟩:=Ot h I;obtain ⟨b,b1,b2,b3⟩:=Ot Y I;obtain ⟨r,_,r1,r2,r3,Z⟩:=zp a1 b1 (by rw [<- lY,b3]; omega) (by omega) (by omega)
 exact ⟨r,r1,⟨by omega,by omega⟩,by rw [Z,J,b3,Rat.divInt_eq_div]⟩
theorem RB.int {m:Int}{k:Nat} (h:m.natAbs<WB ^ k) (h1:1<=k) (I:k<=187):RB (m:Rat) k:=by
 have:=RB.ratio (m:=m) (d:=1) h (by
  have:WB ^ 1<=WB ^ k:=Yk (by decide) h1
  have:WB ^ 1=4294967296:=by decide
  show 1<WB ^ k;omega) (by decide) I
 have e:(m:Rat) / ((1:Int):Rat)=(m:Rat):=by rw [Rat.intCast_one]; grind
 rwa [e] at this
theorem RB.small {m:Int} (h:m.natAbs<4294967296):RB (m:Rat) 1:=RB.int (k:=1) (by show m.natAbs<4294967296 ^ 1; omega) (by decide) (by decide)
theorem RB.QV {m d:Int} (h:m.natAbs<4294967296) (J:d.natAbs<4294967296) (I:d≠0):RB ((m:Rat) / (d:Rat)) 1:=
 RB.ratio (k:=1) (by show m.natAbs<4294967296 ^ 1; omega) (by show d.natAbs<4294967296 ^ 1; omega) I (by decide)
theorem GS {q:Rat} (h:fits q):Gd (rN (ctext q)) (λa=>qB a/\RL a 300/\rv a=q):=by
 have Y:∀ a:LR,uw a.N->uw a.D->iK a.N=q.num->iK a.D=(q.den:Int)->qB a/\RL a 300/\rv a=q:=λa h1 h2 h3 h4=>by
  have hp:a.D.minus=false:=h2.plus (by omega)
  have J:nv a.D.words=q.den:=by
   have:=rG hp;omega
  have I:qB a:=⟨h1,h2,hp,by rw [J]; exact q.den_nz,by rw [J,<- lY,h3]; exact q.reduced⟩
  have hv:rv a=q:=NK (by rw [I.num,h3]) (by rw [I.den,J])
  exact ⟨I,I.small (by rw [hv]; exact h),hv⟩
 have hl:=IS h.1;unfold rN ctext E5
 by_cases J:q.den=1
 ·rw [R9 J,SN]
  refine Gd.bind_eq (C4 (Dl _)) (Gd.ite (λ_=>?_) (λhx=>by simp at hx))
  refine Gd.fH (BJ h.1) (λa Z=>Gd.fH (DH (n:=1) (by omega)) (λb hb=>Gd.ret ?_))
  exact Y _ Z.1 hb.1 Z.2.2 (by rw [hb.2.2,J]; rfl)
 ·rw [R8 J]
  refine Gd.bind_eq (C5 (Dl _) (by have:=h.2; unfold maxLen; omega)) (Gd.ite (λhx=>by simp at hx) (λ_=>?_))
  refine Gd.fH (BJ h.1) (λa Z=>Gd.fH (DN (mV q.den).1 h.2) (λb hb=>Gd.ret ?_));exact Y _ Z.1 hb.1 Z.2.2 (by rw [hb.2.2,(mV q.den).2])
end Go.Sim
namespace Go.Sim
open _root_.Go.IntKind (i64 u64 u32 u8)
def sm:Nat->(Nat->Rat)->Rat
 | 0,_=>0
 | n+1,f=>sm n f+f n
def pr:Nat->(Nat->Rat)->Rat
 | 0,_=>1
 | n+1,f=>pr n f*f n
theorem qA {f g:Nat->Rat}:∀ {n:Nat},(∀ i,i<n->f i=g i)->sm n f=sm n g
 | 0,_=>rfl
 | n+1,h=>by
  unfold sm;rw [qA (λi hi=>h i (by omega)),h n (by omega)]
theorem xL {f g:Nat->Rat}:∀ {n:Nat},(∀ i,i<n->f i=g i)->pr n f=pr n g
 | 0,_=>rfl
 | n+1,h=>by
  unfold pr;rw [xL (λi hi=>h i (by omega)),h n (by omega)]
theorem xf {f:Nat->Rat}:∀ {n:Nat},(∀ i,i<n->f i=0)->sm n f=0
 | 0,_=>rfl
 | n+1,h=>by
  unfold sm;rw [xf (λi hi=>h i (by omega)),h n (by omega)]; grind
theorem yh (f g:Nat->Rat):∀ n:Nat,sm n (λi=>f i+g i)=sm n f+sm n g
 | 0=>by unfold sm; grind
 | n+1=>by unfold sm; rw [yh f g n]; grind
theorem sZ (a:Rat) (f:Nat->Rat):∀ n:Nat,sm n (λi=>a*f i)=a*sm n f
 | 0=>by unfold sm; grind
 | n+1=>by unfold sm; rw [sZ a f n]; grind
theorem DW {f:Nat->Rat}{p:Nat}:∀ {n:Nat},p<n->(∀ i,i<n->i≠p->f i=0)->sm n f=f p
 | 0,h,_=>by omega
 | n+1,h,hz=>by
  unfold sm
  by_cases e:p=n
  ·subst e
   rw [xf (λi hi=>hz i (by omega) (by omega))]; grind
  ·rw [DW (by omega) (λi hi I=>hz i (by omega) I),hz n (by omega) (λh=>e h.symm)]; grind
theorem Mq {f:Nat->Rat}{p:Nat}:∀ {n:Nat},p+1<n->(∀ i,i<n->i≠p->i≠p+1->f i=0)->sm n f=f p+f (p+1)
 | 0,h,_=>by omega
 | n+1,h,hz=>by
  unfold sm
  by_cases e:p+1=n
  ·subst e
   rw [DW (p:=p) (by omega) (λi hi I=>hz i (by omega) I (by omega))]
  ·rw [Mq (by omega) (λi hi h1 h2=>hz i (by omega) h1 h2),hz n (by omega) (by omega) (λh=>e h.symm)]; grind
theorem uR {f:Nat->Rat}:∀ {n:Nat},(∀ i,i<n->0<=f i)->0<=sm n f
 | 0,_=>Y1
 | n+1,h=>by
  unfold sm;have h1:=uR (n:=n) (λi hi=>h i (by omega))
  have h2:=h n (by omega)
  grind
theorem Mp {f g:Nat->Rat}:∀ {n:Nat},(∀ i,i<n->f i<=g i)->sm n f<=sm n g
 | 0,_=>Y1
 | n+1,h=>by
  unfold sm;have h1:=Mp (n:=n) (λi hi=>h i (by omega))
  have h2:=h n (by omega)
  grind
theorem nX {f:Nat->Rat}:∀ {n:Nat},(∀ i,i<n->0<=f i)->0<=pr n f
 | 0,_=>by unfold pr; decide
 | n+1,h=>by
  unfold pr;exact Y5 (nX (n:=n) (λi hi=>h i (by omega))) (h n (by omega))
theorem rS {a b c d:Rat} (h1:a<=b) (h2:c<=d) (a0:0<=a) (I:0<=c):a*c<=b*d:=by
 have J:a*c<=b*c:=Rat.mul_le_mul_of_nonneg_right h1 I;have Y:b*c<=b*d:=Rat.mul_le_mul_of_nonneg_left h2 (by grind)
 exact Y2 J Y
theorem I9 {f g:Nat->Rat}:∀ {n:Nat},(∀ i,i<n->0<=f i)->(∀ i,i<n->f i<=g i)->pr n f<=pr n g
 | 0,_,_=>Y1
 | n+1,h0,h=>by
  unfold pr;exact rS (I9 (λi hi=>h0 i (by omega)) (λi hi=>h i (by omega))) (h n (by omega)) (nX (λi hi=>h0 i (by omega))) (h0 n (by omega))
theorem FF (f g:Nat->Rat):∀ n:Nat,pr n (λi=>f i*g i)=pr n f*pr n g
 | 0=>by unfold pr; grind
 | n+1=>by unfold pr; rw [FF f g n]; grind
abbrev Mt:=Nat->Nat->Rat
def skip (p i:Nat):Nat:=if i<p then i else i+1
def minor (M:Mt) (p:Nat):Mt:=λr c=>M (skip p r) (c+1)
def sg (i:Nat):Rat:=if i%2=0 then 1 else -1
def rE:Nat->Mt->Rat
 | 0,_=>1
 | n+1,M=>sm (n+1) (λi=>sg i*M i 0*rE n (minor M i))
def row (M:Mt) (p:Nat) (x:Nat->Rat):Mt:=λr=>if r=p then x else M r
theorem zz:∀ {n:Nat}{M M':Mt},(∀ r c,r<n->c<n->M r c=M' r c)->rE n M=rE n M'
 | 0,_,_,_=>rfl
 | n+1,M,M',h=>by
  unfold rE;refine qA (λi hi=>?_);rw [h i 0 hi (by omega),zz (λr c J I=>?_)]
  unfold minor;exact h _ _ (by unfold skip; split <;> omega) (by omega)
theorem wI (M:Mt) (p:Nat) (x:Nat->Rat):minor (row M p x) p=minor M p:=by
 funext r c
 unfold minor row;rw [R8 (by unfold skip; split <;> omega)]
theorem x_ (M:Mt) {p i:Nat} (h:p<i) (x:Nat->Rat):minor (row M p x) i=row (minor M i) p (λc=>x (c+1)):=by
 funext r c
 unfold minor row
 by_cases e:r=p
 ·subst e
  rw [R9 (by unfold skip; rw [R9 h]),R9 rfl]
 ·rw [R8 (by unfold skip; split <;> omega),R8 e]
theorem x9 (M:Mt) {p i:Nat} (h:i<p) (x:Nat->Rat):minor (row M p x) i=row (minor M i) (p-1) (λc=>x (c+1)):=by
 funext r c
 unfold minor row
 by_cases e:r=p-1
 ·subst e
  rw [R9 (by unfold skip; split <;> omega),R9 rfl]
 ·rw [R8 (by unfold skip; split <;> omega),R8 e]
theorem AS:∀ {n:Nat} (M:Mt) {p:Nat} (I:p<n) (a b:Rat) (x y:Nat->Rat),rE n (row M p (λc=>a*x c+b*y c))=a*rE n (row M p x)+b*rE n (row M p y)
 | 0,_,_,h,_,_,_,_=>by omega
 | n+1,M,p,I,a,b,x,y=>by
  unfold rE;rw [<- sZ,<- sZ,<- yh];refine qA (λi hi=>?_);rcases Vm i p with h | h | h
  ·rw [x9 M h,x9 M h,x9 M h,AS (minor M i) (by omega) a b (λc=>x (c+1)) (λc=>y (c+1))]
   unfold row;rw [R8 (by omega),R8 (by omega),R8 (by omega)]
   grind
  ·subst h
   rw [wI,wI,wI];unfold row;rw [R9 rfl,R9 rfl,R9 rfl]
   grind
  ·rw [x_ M h,x_ M h,x_ M h,AS (minor M i) (by omega) a b (λc=>x (c+1)) (λc=>y (c+1))]
   unfold row;rw [R8 (by omega),R8 (by omega),R8 (by omega)]
   grind
theorem NT (i:Nat):sg (i+1) = - sg i:=by
 unfold sg
 by_cases h:i%2=0
 ·rw [R9 h,R8 (by omega)]
 ·rw [if_neg h,if_pos (by omega)]; grind
theorem Cr:∀ {n:Nat}{M:Mt}{p:Nat},p+1<n->(∀ c,c<n->M p c=M (p+1) c)->rE n M=0
 | 0,_,_,h,_=>by omega
 | n+1,M,p,hp,he=>by
  unfold rE;rw [Mq (p:=p) hp (λi hi h1 h2=>?_)]
  ·have:rE n (minor M p)=rE n (minor M (p+1)):=zz (λr c J I=>by
    unfold minor skip
    by_cases e:r=p
    ·subst e
     rw [R8 (by omega),R9 (by omega)]
     exact (he (c+1) (by omega)).symm
    ·by_cases e2:r<p
     ·rw [R9 e2,R9 (by omega)]
     ·rw [R8 e2,R8 (by omega)])
   rw [this,NT,he 0 (by omega)]
   grind
  ·have:rE n (minor M i)=0:=by
    rcases Vm i p with h | h | h
    ·refine Cr (p:=p-1) (by omega) (λc I=>?_)
     unfold minor skip;rw [R8 (by omega),R8 (by omega),show p-1+1=p by omega]
     exact he (c+1) (by omega)
    ·exact absurd h h1
    ·refine Cr (p:=p) (by omega) (λc I=>?_)
     unfold minor skip;rw [R9 (by omega),R9 (by omega)]
     exact he (c+1) (by omega)
   rw [this]; grind
theorem DQ (M:Mt) (p:Nat):row M p (M p)=M:=by
 funext r
 unfold row
 by_cases e:r=p
 ·subst e; rw [R9 rfl]
 ·rw [R8 e]
theorem xM (M:Mt) {p q:Nat} (h:p≠q) (x y:Nat->Rat):row (row M p x) q y=row (row M q y) p x:=by
 funext r
 unfold row
 by_cases e:r=q
 ·subst e; rw [R9 rfl,R8 (λe=>h e.symm),R9 rfl]
 ·rw [R8 e]
  by_cases e2:r=p
  ·rw [R9 e2,R9 e2]
  ·rw [R8 e2,R8 e2,R8 e]
theorem C7 {n:Nat} (M:Mt) {p:Nat} (I:p<n) (x y:Nat->Rat):rE n (row M p (λc=>x c+y c))=rE n (row M p x)+rE n (row M p y):=by
 have:=AS M I 1 1 x y;simp only [Rat.one_mul] at this;exact this
theorem Li {n:Nat} (M:Mt) {p:Nat} (J:p+1<n) (x y:Nat->Rat):rE n (row (row M p x) (p+1) y) = - rE n (row (row M p y) (p+1) x):=by
 have two:∀ u:Nat->Rat,rE n (row (row M p u) (p+1) u)=0:=λu=>Cr J (λc Y=>by
  unfold row;rw [R8 (by omega),R9 rfl,R9 rfl])
 have h:=two (λc=>x c+y c);have I:p≠p+1:=by omega
 rw [C7 _ J,xM M I,xM M I,C7 _ (by omega),C7 _ (by omega),<- xM M I,<- xM M I,<- xM M I,<- xM M I,two x,two y] at h
 grind
theorem E8:∀ (k:Nat) {n:Nat}{M:Mt}{p q:Nat},q=p+1+k->q<n->(∀ c,M p c=M q c)->rE n M=0
 | 0,n,M,p,q,hq,hn,he=>by
  subst hq;exact Cr (by omega) (λc _=>he c)
 | k+1,n,M,p,q,hq,hn,he=>by
  have e1:rE n M=rE n (row (row M (q-1) (M (q-1))) (q-1+1) (M (q-1+1))):=by
   rw [DQ,DQ]
  rw [e1,Li M (by omega)]
  have:rE n (row (row M (q-1) (M (q-1+1))) (q-1+1) (M (q-1)))=0:=by
   refine E8 k (p:=p) (q:=q-1) (by omega) (by omega) (λc=>?_)
   unfold row;rw [R8 (by omega),R8 (by omega),R8 (by omega),R9 rfl,show q-1+1=q by omega]
   exact he c
  rw [this]; grind
theorem Lf {n:Nat}{M:Mt}{p q:Nat} (J:p<n) (Y:q<n) (I:p≠q) (he:∀ c,M p c=M q c):rE n M=0:=by
 rcases TZ p q with h | h
 ·exact E8 (q-p-1) (p:=p) (q:=q) (by omega) Y he
 ·exact E8 (p-q-1) (p:=q) (q:=p) (by omega) J (λc=>(he c).symm)
theorem E_ {n:Nat} (M:Mt) {p:Nat} (I:p<n):rE n (row M p (λ_=>0))=0:=by
 have:=AS M I 0 0 (λ_=>0) (λ_=>0);have e:(λc:Nat=>(0:Rat)*(λ_:Nat=>(0:Rat)) c+0*(λ_:Nat=>(0:Rat)) c)=λ_=>0:=by funext c; grind
 rw [e] at this;rw [this]; grind
theorem C8 {n:Nat} (M:Mt) {p:Nat} (I:p<n) (x:Nat->Rat) (Y:Mt):∀ k:Nat,rE n (row M p (λc=>sm k (λj=>x j*Y j c)))=sm k (λj=>x j*rE n (row M p (Y j)))
 | 0=>E_ M I
 | k+1=>by
  have e:(λc=>sm (k+1) (λj=>x j*Y j c))=λc=>1*sm k (λj=>x j*Y j c)+x k*Y k c:=by
   funext c
   show sm k (λj=>x j*Y j c)+x k*Y k c=_;rw [Rat.one_mul]
  rw [e,AS M I 1 (x k) (λc=>sm k (λj=>x j*Y j c)) (Y k),C8 M I x Y k];show _=sm k _+_
  grind
theorem Gn {n:Nat} (M:Mt) {p:Nat} (J:p<n) (x:Nat->Rat):rE n (row M p (λc=>sm n (λj=>x j*M j c)))=x p*rE n M:=by
 rw [C8 M J,DW J (λj Y I=>?_),DQ];have:rE n (row M p (M j))=0:=Lf J Y (λe=>I e.symm) (λc=>by
  unfold row;rw [R9 rfl,R8 I])
 rw [this]; grind
theorem La {n:Nat}{M:Mt}{x b:Nat->Rat} (h:∀ c,c<n->sm n (λj=>x j*M j c)=b c) {p:Nat} (J:p<n):rE n (row M p b)=x p*rE n M:=by
 rw [<- Gn M J];refine zz (λr c Y I=>?_);unfold row
 by_cases e:r=p
 ·rw [R9 e,R9 e]; exact (h c I).symm
 ·rw [R8 e,R8 e]
theorem Gp:∀ {n:Nat}{M:Mt},(∀ c,c<n->M n c=0)->rE (n+1) M=M n n*rE n M
 | 0,M,_=>by
  show (0:Rat)+sg 0*M 0 0*1=M 0 0*1;have:sg 0=1:=rfl;rw [this]; grind
 | n+1,M,h=>by
  have e1:rE (n+1+1) M=sm (n+1) (λi=>sg i*M i 0*rE (n+1) (minor M i))+sg (n+1)*M (n+1) 0*rE (n+1) (minor M (n+1)):=rfl;have e2:rE (n+1) M=sm (n+1) (λi=>sg i*M i 0*rE n (minor M i)):=rfl;rw [e1,e2,h 0 (by omega),<- sZ]
  have:sm (n+1) (λi=>sg i*M i 0*rE (n+1) (minor M i))=sm (n+1) (λi=>M (n+1) (n+1)*(sg i*M i 0*rE n (minor M i))):=by
   refine qA (λi hi=>?_);have hs:skip i n=n+1:=by unfold skip; rw [R8 (by omega)]
   have hl:rE (n+1) (minor M i)=minor M i n n*rE n (minor M i):=Gp (λc I=>by
    unfold minor;rw [hs];exact h (c+1) (by omega))
   have O:minor M i n n=M (n+1) (n+1):=by unfold minor; rw [hs]
   rw [hl,O]; grind
  rw [this]; grind
def vO (q:Rat):Prop:=∃ z:Int,q=(z:Rat)
theorem AW {a b:Rat} (h:vO a) (k:vO b):vO (a+b):=by
 obtain ⟨x,rfl⟩:=h; obtain ⟨y,rfl⟩:=k
 exact ⟨x+y,(Rat.intCast_add x y).symm⟩
theorem tU {a b:Rat} (h:vO a) (k:vO b):vO (a*b):=by
 obtain ⟨x,rfl⟩:=h; obtain ⟨y,rfl⟩:=k
 exact ⟨x*y,(YZ x y).symm⟩
theorem OV (i:Nat):vO (sg i):=by
 unfold sg
 split
 ·exact ⟨1,rfl⟩
 ·exact ⟨-1,rfl⟩
theorem HP {f:Nat->Rat}:∀ {n:Nat},(∀ i,i<n->vO (f i))->vO (sm n f)
 | 0,_=>⟨0,rfl⟩
 | n+1,h=>by unfold sm; exact AW (HP (λi hi=>h i (by omega))) (h n (by omega))
theorem E9:∀ {n:Nat}{M:Mt},(∀ r c,r<n->c<n->vO (M r c))->vO (rE n M)
 | 0,_,_=>⟨1,rfl⟩
 | n+1,M,h=>by
  unfold rE;exact HP (λi hi=>tU (tU (OV i) (h i 0 hi (by omega))) (E9 (λr c J I=>h _ _ (by unfold skip; split <;> omega) (by omega))))
theorem Ja (v w:Nat->Rat) (I:∀ i,0<=v i) (J:∀ i,0<=w i):∀ n:Nat,sm (n+1) (λi=>v i*pr n (λr=>w (skip i r)))+pr (n+1) w<=pr (n+1) (λr=>v r+w r)
 | 0=>by
  show 0+v 0*1+1*w 0<=1*(v 0+w 0)
  grind
 | n+1=>by
  have ih:=Ja v w I J n;have e1:sm (n+1+1) (λi=>v i*pr (n+1) (λr=>w (skip i r)))=sm (n+1) (λi=>v i*pr (n+1) (λr=>w (skip i r)))+v (n+1)*pr (n+1) (λr=>w (skip (n+1) r)):=rfl;have e2:sm (n+1) (λi=>v i*pr (n+1) (λr=>w (skip i r)))=w (n+1)*sm (n+1) (λi=>v i*pr n (λr=>w (skip i r))):=by
   rw [<- sZ];refine qA (λi hi=>?_);have:pr (n+1) (λr=>w (skip i r))=pr n (λr=>w (skip i r))*w (n+1):=by
    show pr n _*w (skip i n)=_;rw [show skip i n=n+1 by unfold skip; rw [R8 (by omega)]]
   rw [this]; grind
  have Y:pr (n+1) (λr=>w (skip (n+1) r))=pr (n+1) w:=xL (λr hr=>by unfold skip; rw [R9 hr])
  have Z:pr (n+1+1) w=pr (n+1) w*w (n+1):=rfl;have e5:pr (n+1+1) (λr=>v r+w r)=pr (n+1) (λr=>v r+w r)*(v (n+1)+w (n+1)):=rfl;rw [e1,e2,Y,Z,e5];have s0:0<=sm (n+1) (λi=>v i*pr n (λr=>w (skip i r))):=uR (λi _=>Rat.mul_nonneg (I i) (nX (λr _=>J _)));have m1:=Rat.mul_le_mul_of_nonneg_right ih (show (0:Rat)<=v (n+1)+w (n+1) by have:=I (n+1); have:=J (n+1); grind)
  have m2:=Y5 s0 (I (n+1))
  grind
theorem HA:∀ {n:Nat}{M A:Mt},(∀ r c,0<=A r c)->(∀ r c,r<n->c<n->-A r c<=M r c/\M r c<=A r c)->-pr n (λr=>sm n (A r))<=rE n M/\rE n M<=pr n (λr=>sm n (A r))
 | 0,_,_,_,_=>by unfold rE pr; exact ⟨by decide,by decide⟩
 | n+1,M,A,h0,h=>by
  have I:∀ r,sm (n+1) (A r)=A r 0+sm n (λc=>A r (c+1)):=λr=>by
   have:∀ k,sm (k+1) (A r)=A r 0+sm k (λc=>A r (c+1)):=λk=>by
    induction k with
    | zero=>show 0+A r 0=A r 0+0; grind
    | succ k ih=>
     have e1:sm (k+1+1) (A r)=sm (k+1) (A r)+A r (k+1):=rfl;have e2:sm (k+1) (λc=>A r (c+1))=sm k (λc=>A r (c+1))+A r (k+1):=rfl;rw [e1,e2,ih]; grind
   exact this n
  have J:∀ r,0<=sm n (λc=>A r (c+1)):=λr=>uR (λc _=>h0 r (c+1));have hp:=Ja (λr=>A r 0) (λr=>sm n (λc=>A r (c+1))) (λr=>h0 r 0) J n;have hP:pr (n+1) (λr=>sm (n+1) (A r))=pr (n+1) (λr=>A r 0+sm n (λc=>A r (c+1))):=xL (λr _=>I r);have Z:=nX (n:=n+1) (f:=λr=>sm n (λc=>A r (c+1))) (λr _=>J r);have term:∀ i,i<n+1->-(A i 0*pr n (λr=>sm n (λc=>A (skip i r) (c+1))))<=sg i*M i 0*rE n (minor M i)/\sg i*M i 0*rE n (minor M i)<=A i 0*pr n (λr=>sm n (λc=>A (skip i r) (c+1))):=λi hi=>by
   obtain ⟨d1,d2⟩:=HA (n:=n) (M:=minor M i) (A:=λr c=>A (skip i r) (c+1)) (λr c=>h0 _ _) (λr c hr hc=>h _ _ (by unfold skip; split <;> omega) (by omega))
   obtain ⟨m1,m2⟩:=h i 0 hi (by omega)
   have key:∀ a b x y:Rat,-a<=x->x<=a->-b<=y->y<=b->-(a*b)<=x*y/\x*y<=a*b:=λa b x y h1 h2 h3 h4=>by
    have t1:=Rat.mul_nonneg (show (0:Rat)<=a-x by grind) (show (0:Rat)<=b-y by grind)
    have t2:=Rat.mul_nonneg (show (0:Rat)<=a+x by grind) (show (0:Rat)<=b+y by grind)
    have t3:=Rat.mul_nonneg (show (0:Rat)<=a-x by grind) (show (0:Rat)<=b+y by grind)
    have t4:=Rat.mul_nonneg (show (0:Rat)<=a+x by grind) (show (0:Rat)<=b-y by grind)
    constructor <;> grind
   obtain ⟨k1,k2⟩:=key _ _ _ _ m1 m2 d1 d2;unfold sg
   split
   ·constructor <;> grind
   ·constructor <;> grind
  rw [hP];have Y:sm (n+1) (λi=>A i 0*pr n (λr=>sm n (λc=>A (skip i r) (c+1))))<=pr (n+1) (λr=>A r 0+sm n (λc=>A r (c+1))):=by grind
  have up:rE (n+1) M<=sm (n+1) (λi=>A i 0*pr n (λr=>sm n (λc=>A (skip i r) (c+1)))):=Mp (λi hi=>(term i hi).2);have lo:sm (n+1) (λi=>(-1)*(A i 0*pr n (λr=>sm n (λc=>A (skip i r) (c+1)))))<=rE (n+1) M:=Mp (λi hi=>by have:=(term i hi).1; grind)
  rw [sZ] at lo;constructor <;> grind
theorem Lh {k:Nat}{M:Mt}{x:Nat->Rat} (Z:x k=1) (J:∀ c,c<k->sm (k+1) (λj=>x j*M j c)=0):rE (k+1) M=sm (k+1) (λj=>x j*M j k)*rE k M:=by
 have h1:=Gn M (Th k) x;rw [Z,Rat.one_mul] at h1;rw [<- h1];have h2:rE (k+1) (row M k (λc=>sm (k+1) (λj=>x j*M j c)))=(row M k (λc=>sm (k+1) (λj=>x j*M j c))) k k*rE k (row M k (λc=>sm (k+1) (λj=>x j*M j c))):=Gp (λc I=>by
  unfold row;rw [R9 rfl];exact J c I)
 rw [h2];have Y:rE k (row M k (λc=>sm (k+1) (λj=>x j*M j c)))=rE k M:=zz (λr c hr I=>by
  unfold row;rw [R8 (by omega)])
 rw [Y];unfold row;rw [R9 rfl]
theorem Hw {k:Nat}{M:Mt}{x b:Nat->Rat} (J:∀ r c,r<k->c<k->vO (M r c)) (Y:∀ c,c<k->vO (b c)) (h:∀ c,c<k->sm k (λj=>x j*M j c)=b c) {p:Nat} (Z:p<k):vO (x p*rE k M):=by
 rw [<- La h Z];refine E9 (λr c hr I=>?_);unfold row
 by_cases e:r=p
 ·rw [R9 e]; exact Y c I
 ·rw [R8 e]; exact J r c hr I
theorem FG {f:Nat->Rat}:∀ {n:Nat},(∀ i,i<n->1<=f i)->1<=pr n f
 | 0,_=>by unfold pr; decide
 | n+1,h=>by
  unfold pr;have h1:=FG (n:=n) (λi hi=>h i (by omega))
  have h2:=h n (by omega)
  have:=rS h1 h2 (by decide) (by decide)
  grind
theorem Mb {f:Nat->Rat}{s:Rat} (hs:0<=s) {p:Nat}:∀ {n:Nat},p<n->(∀ i,i<n->1<=f i)->pr n (λr=>if r=p then s else f r)<=pr n f*s
 | 0,h,_=>by omega
 | n+1,h,h1=>by
  have Z:∀ i,i<n+1->0<=f i:=λi hi=>by have:=h1 i hi; grind
  have I:=nX (n:=n) (f:=f) (λi hi=>Z i (by omega))
  by_cases e:p=n
  ·subst e
   show pr p (λr=>if r=p then s else f r)*(if p=p then s else f p)<=pr p f*f p*s
   rw [R9 rfl];have e2:pr p (λr=>if r=p then s else f r)=pr p f:=xL (λi hi=>R8 (by omega))
   rw [e2];have Y:=Y5 I hs;have:=rS (Y1 (a:=pr p f*s)) (h1 p (by omega)) Y (by decide)
   grind
  ·show pr n (λr=>if r=p then s else f r)*(if n=p then s else f n)<=pr n f*f n*s
   rw [R8 (λe2:n=p=>e e2.symm)];have J:p<n:=by omega
   have ih:=Mb (f:=f) hs J (λi hi=>h1 i (Nat.lt_succ_of_lt hi));have:=Rat.mul_le_mul_of_nonneg_right ih (Z n (by omega))
   grind
theorem JK {k:Nat}{M A:Mt}{x b a:Nat->Rat}{S:Rat} (J:∀ r c,0<=A r c) (I:∀ c,0<=a c) (hM:∀ r c,r<k->c<k->-A r c<=M r c/\M r c<=A r c) (hb:∀ c,c<k->-a c<=b c/\b c<=a c)
  (h1:∀ r,r<k->1<=sm k (A r)) (hS:sm k a<=S) (h:∀ c,c<k->sm k (λj=>x j*M j c)=b c) {p:Nat} (hp:p<k):-(pr k (λr=>sm k (A r))*S)<=x p*rE k M/\x p*rE k M<=pr k (λr=>sm k (A r))*S:=by
 rw [<- La h hp];obtain ⟨d1,d2⟩:=HA (n:=k) (M:=row M p b) (A:=row A p a) (λr c=>by
  unfold row
  by_cases e:r=p
  ·rw [R9 e]; exact I c
  ·rw [R8 e]; exact J r c) (λr c Y hc=>by
  unfold row
  by_cases e:r=p
  ·rw [R9 e,R9 e]; exact hb c hc
  ·rw [R8 e,R8 e]; exact hM r c Y hc)
 have Z:0<=sm k a:=uR (λc _=>I c);have e1:pr k (λr=>sm k (row A p a r))=pr k (λr=>if r=p then sm k a else sm k (A r)):=xL (λr _=>by
  unfold row
  by_cases e:r=p
  ·rw [R9 e,R9 e]
  ·rw [R8 e,R8 e])
 rw [e1] at d1 d2;have h2:=Mb Z (p:=p) (n:=k) (f:=λr=>sm k (A r)) hp h1;have h3:=Rat.mul_le_mul_of_nonneg_left hS (nX (n:=k) (f:=λr=>sm k (A r)) (λr Y=>by have:=h1 r Y; grind))
 have h4:=Rat.le_trans h2 h3;constructor <;> grind
def dl (i j:Nat):Rat:=if i=j then 1 else 0
theorem sC (i:Nat):dl i i=1:=R9 rfl
theorem rF {i j:Nat} (h:i≠j):dl i j=0:=R8 h
structure Gj (n:Nat) (A:Mt) (k:Nat) (m:Mt):Prop where
 comb:∀ i c,i<n->c<n->m i c=sm n (λj=>m i (n+j)*A j c)
 right:∀ i j,i<n->j<n->k<=j->m i (n+j)=dl i j
 left:∀ i c,i<n->c<n->c<k->m i c=dl i c
def wi (k:Nat) (m:Mt):Mt:=λi c=>if i=k then m k c / m k k else m i c-m i k*(m k c / m k k)
theorem Gj.step {n:Nat}{A m:Mt}{k:Nat} (h:Gj n A k m) (hk:k<n) (hd:m k k≠0):Gj n A (k+1) (wi k m):=by
 have Y:∀ c,c<k->m k c=0:=λc J=>by rw [h.left k c hk (by omega) J,rF (by omega)]
 have hkr:∀ j,j<n->k+1<=j->m k (n+j)=0:=λj hj Z=>by rw [h.right k j hk hj (by omega),rF (by omega)]
 have I:m k k / m k k=1:=by rw [YX]; exact Y4 _ hd
 refine ⟨λi c hi J=>?_,λi j hi hj Z=>?_,λi c hi J hck=>?_⟩
 ·have e1:=h.comb i c hi J
  have e2:=h.comb k c hk J;unfold wi
  by_cases e:i=k
  ·subst e
   simp only [if_true];have:(λj=>m i (n+j) / m i i*A j c)=λj=>(m i i)⁻¹*(m i (n+j)*A j c):=by funext j; rw [Rat.div_def]; grind
   rw [this,sZ,<- e2,Rat.div_def]; grind
  ·simp only [R8 e]
   have:(λj=>(m i (n+j)-m i k*(m k (n+j) / m k k))*A j c)=λj=>m i (n+j)*A j c+(-(m i k*(m k k)⁻¹))*(m k (n+j)*A j c):=by funext j; rw [Rat.div_def]; grind
   rw [this,yh,sZ,<- e1,<- e2,Rat.div_def]; grind
 ·unfold wi
  have e1:=hkr j hj Z
  by_cases e:i=k
  ·subst e
   rw [if_pos rfl,e1,rF (by omega),Rat.div_def]; grind
  ·rw [if_neg e,e1,h.right i j hi hj (by omega),Rat.div_def]; grind
 ·unfold wi
  by_cases e:i=k
  ·subst e
   rw [R9 rfl]
   by_cases e2:c=i
   ·subst e2; rw [I,sC]
   ·rw [Y c (by omega),rF (λe3=>e2 e3.symm),Rat.div_def]; grind
  ·rw [R8 e]
   by_cases e2:c=k
   ·subst e2; rw [I,rF e]; grind
   ·rw [Y c (by omega),h.left i c hi J (by omega),Rat.div_def]; grind
def Pd (n:Nat) (A:Mt):Prop:=∀ x:Nat->Rat,sm n (λc=>x c*sm n (λj=>x j*A j c))=0->∀ i,i<n->x i=0
theorem Gj.Ou {n:Nat}{A m:Mt}{k:Nat} (h:Gj n A k m) (hp:Pd n A) (J:k<n):m k k≠0:=by
 intro h0;have h1:=hp (λj=>m k (n+j)) (xf (λc Y=>by
  have e1:=(h.comb k c J Y).symm;show m k (n+c)*sm n (λj=>m k (n+j)*A j c)=0;rw [e1];rcases Vm c k with I | I | I
  ·rw [h.left k c J Y I,rF (by omega)]; grind
  ·subst I; rw [h0]; grind
  ·rw [h.right k c J Y (by omega),rF (by omega)]; grind)) k J
 have h2:=h.right k k J J (Sj k);have Z:m k (n+k)=0:=h1;rw [h2,sC] at Z;exact absurd Z (by decide)
theorem Gj.OM {n:Nat}{A m:Mt}{k:Nat} (h:Gj n A k m) (Y:k<=n) {i:Nat} (hi:i<n) {c:Nat} (J:c<n):m i c=sm k (λj=>m i (n+j)*A j c)+(if k<=i then A i c else 0):=by
 have key:∀ q,k<=q->q<=n->sm q (λj=>m i (n+j)*A j c)=sm k (λj=>m i (n+j)*A j c)+(if k<=i/\i<q then A i c else 0):=by
  intro q hq
  induction q with
  | zero=>
   intro _;obtain rfl:k=0:=by omega
   rw [if_neg (by omega)]; grind
  | succ q ih=>
   intro Z
   by_cases e:k=q+1
   ·rw [<- e,if_neg (by omega)]; grind
   ·have e1:sm (q+1) (λj=>m i (n+j)*A j c)=sm q (λj=>m i (n+j)*A j c)+m i (n+q)*A q c:=rfl
    rw [e1,ih (by omega) (by omega),h.right i q hi (by omega) (by omega)]
    by_cases e2:i=q
    ·subst e2
     rw [sC,if_neg (by omega),if_pos ⟨by omega,by omega⟩]; grind
    ·rw [rF e2]
     by_cases I:k<=i/\i<q
     ·rw [if_pos I,if_pos ⟨I.1,by omega⟩]; grind
     ·rw [if_neg I,if_neg (by omega)]; grind
 rw [h.comb i c hi J,key n Y (Sj n)]
 by_cases e:k<=i
 ·rw [R9 ⟨e,hi⟩,R9 e]
 ·rw [R8 (λe2=>e e2.1),R8 e]
theorem Gj.rE {n:Nat}{A m:Mt}{k:Nat} (h:Gj n A k m) (I:k<n) {L:Nat->Rat} (hL:∀ i,i<n->L i≠0):Sim.rE (k+1) (λr c=>L r*A r c)=L k*m k k*Sim.rE k (λr c=>L r*A r c):=by
 have J:∀ c,c<n->sm (k+1) (λj=>(L k*m k (n+j) / L j)*(L j*A j c))=L k*m k c:=λc J=>by
  have e1:=h.OM (Nat.le_of_lt I) I J;rw [R9 (Sj k)] at e1;have e2:sm (k+1) (λj=>(L k*m k (n+j) / L j)*(L j*A j c))=sm (k+1) (λj=>L k*(m k (n+j)*A j c)):=qA (λj hj=>by
   have:=Y4 (L j) (hL j (by omega))
   rw [Rat.div_def]; grind)
  rw [e2,sZ];have Z:sm (k+1) (λj=>m k (n+j)*A j c)=sm k (λj=>m k (n+j)*A j c)+m k (n+k)*A k c:=rfl;rw [Z,h.right k k I I (Nat.le_refl k),sC,e1]; grind
 have h1:=Lh (k:=k) (M:=λr c=>L r*A r c) (x:=λj=>L k*m k (n+j) / L j) (by
  rw [h.right k k I I (Sj k),sC,Rat.mul_one,YX];exact Y4 _ (hL k I)) (λc Y=>by
  rw [J c (by omega),h.left k c I (by omega) Y,rF (by omega)]; grind)
 rw [h1,J k I]
structure KH (n:Nat) (A:Mt) (L:Nat->Rat) (B:Mt) (R:Nat->Rat):Prop where
 li:∀ i,i<n->vO (L i)
 l1:∀ i,i<n->1<=L i
 ai:∀ i c,i<n->c<n->vO (L i*A i c)
 b0:∀ i c,0<=B i c
 b1:∀ i,i<n->1<=B i i
 ab:∀ i c,i<n->c<n->-B i c<=L i*A i c/\L i*A i c<=B i c
 rs:∀ i,i<n->sm n (B i)<=R i
theorem CB {f:Nat->Rat} (h:∀ i,0<=f i) {k:Nat}:∀ {n:Nat},k<=n->sm k f<=sm n f
 | 0,hk=>by
  obtain rfl:k=0:=by omega
  exact Y1
 | n+1,hk=>by
  by_cases e:k=n+1
  ·subst e; exact Y1
  ·have h1:=CB h (k:=k) (n:=n) (by omega)
   have h2:=h n;have I:sm (n+1) f=sm n f+f n:=rfl;rw [I]
   grind
theorem OA {f:Nat->Rat} (h:∀ i,0<=f i) {k p:Nat} (J:p<k):f p<=sm k f:=by
 have h1:=CB h (k:=p+1) (n:=k) (by omega)
 have h2:=uR (n:=p) (f:=f) (λi _=>h i);have I:sm (p+1) f=sm p f+f p:=rfl
 grind
theorem KH.Pb {n:Nat}{A B:Mt}{L R:Nat->Rat} (h:KH n A L B R) {k r:Nat} (I:r<k) (J:k<=n):1<=sm k (B r):=by
 have h1:=OA (h.b0 r) I;have h2:=h.b1 r (by omega)
 grind
theorem KH.R1 {n:Nat}{A B:Mt}{L R:Nat->Rat} (h:KH n A L B R) {r:Nat} (I:r<n):1<=R r:=by
 have h1:=h.Pb I (Sj n);have h2:=h.rs r I
 grind
theorem I_ {f:Nat->Rat}{k:Nat}:∀ {n:Nat},k<=n->(∀ i,i<n->1<=f i)->pr k f<=pr n f
 | 0,hk,_=>by
  obtain rfl:k=0:=by omega
  exact Y1
 | n+1,hk,h=>by
  by_cases e:k=n+1
  ·subst e; exact Y1
  ·have h1:=I_ (k:=k) (n:=n) (by omega) (λi hi=>h i (by omega))
   have h2:=rS (Rat.le_refl (a:=pr n f)) (h n (by omega)) (nX (λi hi=>by have:=h i (by omega); grind)) (by decide)
   have I:pr (n+1) f=pr n f*f n:=rfl;rw [I]
   grind
theorem KH.prod {n:Nat}{A B:Mt}{L R:Nat->Rat} (h:KH n A L B R) {k:Nat} (I:k<=n):pr k (λr=>sm k (B r))<=pr n R:=by
 have h1:pr k (λr=>sm k (B r))<=pr k R:=I9 (λr J=>by have:=h.Pb J I; grind) (λr J=>Rat.le_trans (CB (h.b0 r) I) (h.rs r (by omega)))
 exact Y2 h1 (I_ I (λi hi=>h.R1 hi))
theorem KH.rE {n:Nat}{A B:Mt}{L R:Nat->Rat} (h:KH n A L B R) {k:Nat} (J:k<=n):vO (Sim.rE k (λr c=>L r*A r c))/\-pr n R<=Sim.rE k (λr c=>L r*A r c)/\Sim.rE k (λr c=>L r*A r c)<=pr n R:=by
 refine ⟨E9 (λr c Y I=>h.ai r c (by omega) (by omega)),?_⟩
 obtain ⟨d1,d2⟩:=HA (n:=k) (M:=λr c=>L r*A r c) (A:=B) h.b0 (λr c Y I=>h.ab r c (by omega) (by omega))
 have:=h.prod J;constructor <;> grind
theorem Gj.num {n:Nat}{A B m:Mt}{L R:Nat->Rat}{k:Nat} (h:Gj n A k m) (s:KH n A L B R) (J:k<=n) {i p:Nat} (hi:i<n) (hp:p<k):
  ∃ N:Rat,vO N/\-(pr n R*R i)<=N/\N<=pr n R*R i/\(if k<=i then L i else 1)*m i (n+p)*Sim.rE k (λr c=>L r*A r c)=N*L p:=by
 have hL:∀ j,j<n->L j≠0:=λj hj e=>by have:=s.l1 j hj; rw [e] at this; exact absurd this (by decide)
 have hx:∀ c,c<k->sm k (λj=>((if k<=i then L i else 1)*m i (n+j) / L j)*((λr c=>L r*A r c) j c))=if k<=i then -(L i*A i c) else dl i c:=λc I=>by
  have e1:=h.OM J hi (c:=c) (by omega)
  have e2:sm k (λj=>((if k<=i then L i else 1)*m i (n+j) / L j)*((λr c=>L r*A r c) j c))=sm k (λj=>(if k<=i then L i else 1)*(m i (n+j)*A j c)):=qA (λj hj=>by
   have:=Y4 (L j) (hL j (by omega))
   simp only [YX]
   grind)
  rw [e2,sZ];have Z:=h.left i c hi (by omega) I
  by_cases e:k<=i
  ·rw [R9 e,R9 e]
   rw [R9 e,Z,rF (by omega)] at e1
   grind
  ·rw [R8 e,R8 e]
   rw [R8 e,Z] at e1
   grind
 have hb:∀ c,c<k->vO (if k<=i then -(L i*A i c) else dl i c):=λc I=>by
  by_cases e:k<=i
  ·rw [R9 e]
   obtain ⟨z,hz⟩:=s.ai i c hi (by omega)
   exact ⟨-z,by rw [hz,Y0]⟩
  ·rw [R8 e]
   unfold dl
   split
   ·exact ⟨1,rfl⟩
   ·exact ⟨0,rfl⟩
 have hB:∀ c,c<k->-(B i c)<=(if k<=i then -(L i*A i c) else dl i c)/\(if k<=i then -(L i*A i c) else dl i c)<=B i c:=λc I=>by
  have h1:=s.ab i c hi (by omega)
  have h2:=s.b0 i c
  by_cases e:k<=i
  ·rw [R9 e]
   constructor <;> grind
  ·rw [R8 e]
   unfold dl
   split
   ·rename_i e2
    subst e2;have:=s.b1 i hi;constructor <;> grind
   ·constructor <;> grind
 have c1:=Hw (k:=k) (M:=λr c=>L r*A r c) (λr c Y I=>s.ai r c (by omega) (by omega)) hb hx hp
 obtain ⟨c2,c3⟩:=JK (k:=k) (M:=λr c=>L r*A r c) (A:=B) (a:=B i) (S:=R i) s.b0 (s.b0 i) (λr c Y I=>s.ab r c (by omega) (by omega)) hB (λr Y=>s.Pb Y J) (Y2 (CB (s.b0 i) J) (s.rs i hi)) hx hp
 have hP:=Rat.mul_le_mul_of_nonneg_right (s.prod J) (show (0:Rat)<=R i by have:=s.R1 hi; grind)
 refine ⟨_,c1,by grind,by grind,?_⟩
 have:=Y4 (L p) (hL p (by omega))
 rw [YX]
 grind
def qf (n:Nat) (x:Nat->Rat) (A:Mt):Rat:=sm n (λc=>x c*sm n (λj=>x j*A j c))
theorem Mf (n:Nat) (x:Nat->Rat) (A I:Mt):qf n x (λj c=>A j c+I j c)=qf n x A+qf n x I:=by
 unfold qf;rw [<- yh];refine qA (λc _=>?_);have:sm n (λj=>x j*(A j c+I j c))=sm n (λj=>x j*A j c)+sm n (λj=>x j*I j c):=by
  rw [<- yh];exact qA (λj _=>by grind)
 rw [this]; grind
theorem Mg (n:Nat) (x e:Nat->Rat) (b:Rat):qf n x (λj c=>b*e j*e c)=b*(sm n (λj=>x j*e j)*sm n (λj=>x j*e j)):=by
 unfold qf;have h1:sm n (λc=>x c*sm n (λj=>x j*(b*e j*e c)))=sm n (λc=>(b*sm n (λj=>x j*e j))*(x c*e c)):=qA (λc _=>by
  have:sm n (λj=>x j*(b*e j*e c))=sm n (λj=>(b*e c)*(x j*e j)):=qA (λj _=>by grind)
  rw [this,sZ]; grind)
 rw [h1,sZ]; grind
def jP:List (Rat×(Nat->Rat))->Mt
 | []=>λ_ _=>0
 | be::l=>λj c=>be.1*be.2 j*be.2 c+jP l j c
theorem sq_nonneg (a:Rat):0<=a*a:=by
 rcases (Rat.le_total:(0:Rat)<=a\/a<=0) with h | h
 ·exact Y5 h h
 ·have:=Rat.mul_nonneg (show (0:Rat)<=-a by grind) (show (0:Rat)<=-a by grind)
  grind
theorem Dm (n:Nat) (x:Nat->Rat):∀ (l:List (Rat×(Nat->Rat))),(∀ be ∈ l,0<be.1)->0<=qf n x (jP l)
 | [],_=>by
  have:qf n x (jP [])=0:=xf (λc _=>by
   rw [xf (λj _=>by show x j*0=0; grind)]; grind)
  rw [this]; exact Y1
 | be::l,h=>by
  have h1:=Dm n x l (λb I=>h b (Sa _ I));have h2:=h be (R6 ..);have e:qf n x (jP (be::l))=be.1*(sm n (λj=>x j*be.2 j)*sm n (λj=>x j*be.2 j))+qf n x (jP l):=by
   rw [<- Mg,<- Mf]; rfl
  rw [e];have J:=Y5 (Rat.le_of_lt h2) (sq_nonneg (sm n (λj=>x j*be.2 j)))
  grind
theorem GC (n:Nat) (x:Nat->Rat):∀ (l:List (Rat×(Nat->Rat))),(∀ be ∈ l,0<be.1)->qf n x (jP l)=0->∀ be ∈ l,sm n (λj=>x j*be.2 j)=0
 | [],_,_,be,I=>by simp at I
 | be::l,h,h0,b,I=>by
  have h1:=Dm n x l (λb I=>h b (Sa _ I));have h2:=h be (R6 ..);have e:qf n x (jP (be::l))=be.1*(sm n (λj=>x j*be.2 j)*sm n (λj=>x j*be.2 j))+qf n x (jP l):=by
   rw [<- Mg,<- Mf]; rfl
  rw [e] at h0;have h3:=Rat.mul_nonneg (Rat.le_of_lt h2) (sq_nonneg (sm n (λj=>x j*be.2 j)));have Z:qf n x (jP l)=0:=by grind
  have h5:be.1*(sm n (λj=>x j*be.2 j)*sm n (λj=>x j*be.2 j))=0:=by grind
  rcases SQ.1 I with rfl | I
  ·rcases Y3.1 h5 with J | J
   ·rw [J] at h2; exact absurd h2 (Rat.lt_irrefl)
   ·rcases Y3.1 J with Y | Y <;> exact Y
  ·exact GC n x l (λb I=>h b (Sa _ I)) Z b I
inductive Lk (l:List (Rat×Nat×Nat)) (u:Nat):Nat->Prop
 | refl:Lk l u u
 | step {b:Rat}{v w:Nat}:Lk l u v->((b,v,w) ∈ l\/(b,w,v) ∈ l)->Lk l u w
def oL (F:Nat->Nat) (e:Rat×Nat×Nat):Rat×(Nat->Rat):=(e.1,λj=>dl (F j) e.2.1-dl (F j) e.2.2)
theorem P_ {n:Nat}{F:Nat->Nat}{l:List (Rat×Nat×Nat)} (hb:∀ e ∈ l,0<e.1) (hF:∀ i j,i<n->j<n->F i=F j->i=j)
  (hr:∀ i,i<n->∃ r,(∀ j,j<n->F j≠r)/\Lk l (F i) r):Pd n (jP (l.map (oL F))):=by
 intro x h0 i hi;have hz:=GC n x (l.map (oL F)) (λbe I=>by
  obtain ⟨e,he,rfl⟩:=SV.1 I;exact hb e he) h0
 have hd:∀ p q:Nat,sm n (λj=>x j*(dl (F j) p-dl (F j) q))=sm n (λj=>x j*dl (F j) p)-sm n (λj=>x j*dl (F j) q):=λp q=>by
  have h1:sm n (λj=>x j*(dl (F j) p-dl (F j) q))=sm n (λj=>x j*dl (F j) p+(-1)*(x j*dl (F j) q)):=qA (λj _=>by grind)
  rw [h1,yh,sZ]; grind
 have he:∀ (b:Rat) (p q:Nat),(b,p,q) ∈ l->sm n (λj=>x j*dl (F j) p)=sm n (λj=>x j*dl (F j) q):=λb p q h=>by
  have h1:sm n (λj=>x j*(dl (F j) p-dl (F j) q))=0:=hz (oL F (b,p,q)) (SV.2 ⟨_,h,rfl⟩);have h2:=hd p q
  grind
 have hl:∀ u v,Lk l u v->sm n (λj=>x j*dl (F j) u)=sm n (λj=>x j*dl (F j) v):=λu v h=>by
  induction h with
  | refl=>rfl
  | step _ h ih=>
   rcases h with h | h
   ·rw [ih]; exact he _ _ _ h
   ·rw [ih]; exact (he _ _ _ h).symm
 obtain ⟨r,Z,hr2⟩:=hr i hi;have h1:=hl _ _ hr2;have h2:sm n (λj=>x j*dl (F j) r)=0:=xf (λj J=>by rw [rF (Z j J)]; grind)
 have h3:sm n (λj=>x j*dl (F j) (F i))=x i*dl (F i) (F i):=DW hi (λj J Y=>by rw [rF (λe=>Y (hF j i J hi e))]; grind)
 rw [h2,h3,sC] at h1
 grind
def vF (u:Nat):List (Rat×Nat×Nat)->Rat
 | []=>1
 | e::l=>(if e.2.1=u\/e.2.2=u then e.1 else 1)*vF u l
def xx:List (Rat×Nat×Nat)->Rat
 | []=>1
 | e::l=>e.1*xx l
theorem Cy {u:Nat}:∀ {l:List (Rat×Nat×Nat)},(∀ e ∈ l,vO e.1)->vO (vF u l)
 | [],_=>⟨1,rfl⟩
 | e::l,h=>by
  unfold vF;refine tU ?_ (Cy (λe he=>h e (Sa _ he)))
  split
  ·exact h e (R6 ..)
  ·exact ⟨1,rfl⟩
theorem Bb {u:Nat}:∀ {l:List (Rat×Nat×Nat)},(∀ e ∈ l,1<=e.1)->1<=vF u l
 | [],_=>Y1
 | e::l,h=>by
  unfold vF;have h1:=Bb (u:=u) (l:=l) (λe he=>h e (Sa _ he));have h2:=h e (R6 ..)
  split
  ·have:=rS h2 h1 (by decide) (by decide)
   grind
  ·grind
theorem CZ:∀ {l:List (Rat×Nat×Nat)},(∀ e ∈ l,1<=e.1)->1<=xx l
 | [],_=>Y1
 | e::l,h=>by
  unfold xx;have h1:=CZ (l:=l) (λe he=>h e (Sa _ he));have h2:=h e (R6 ..);have:=rS h2 h1 (by decide) (by decide)
  grind
theorem FL {u:Nat}:∀ {l:List (Rat×Nat×Nat)},(∀ e ∈ l,vO e.1/\1<=e.1)->∀ e ∈ l,(e.2.1=u\/e.2.2=u)->∀ t:Rat,vO t->vO (vF u l*(t / e.1))
 | [],_,e,he,_,_,_=>by simp at he
 | d::l,h,e,he,hu,t,ht=>by
  have hl:∀ e ∈ l,vO e.1/\1<=e.1:=λe he=>h e (Sa _ he);unfold vF;rcases SQ.1 he with rfl | he
  ·rw [R9 hu]
   have I:e.1≠0:=λJ=>by have:=(h e (R6 ..)).2; rw [J] at this; exact absurd this (by decide)
   have:=Rat.mul_inv_cancel e.1 I;have h1:e.1*vF u l*(t / e.1)=vF u l*t:=by rw [Rat.div_def]; grind
   rw [h1];exact tU (Cy (λe he=>(hl e he).1)) ht
  ·have h1:=FL hl e he hu t ht
   have h2:(if d.2.1=u\/d.2.2=u then d.1 else 1)*vF u l*(t / e.1)=(if d.2.1=u\/d.2.2=u then d.1 else 1)*(vF u l*(t / e.1)):=Rat.mul_assoc ..
   rw [h2];refine tU ?_ h1
   split
   ·exact (h d (R6 ..)).1
   ·exact ⟨1,rfl⟩
theorem BI {F:Nat->Nat}{q:Rat} (I:1<=q) {p:Nat}:∀ {n:Nat},(∀ i j,i<n->j<n->F i=F j->i=j)->pr n (λi=>if F i=p then q else 1)<=q
 | 0,_=>I
 | n+1,h=>by
  have ih:=BI I (p:=p) (n:=n) (λi j hi J e=>h i j (by omega) (by omega) e)
  show pr n (λi=>if F i=p then q else 1)*(if F n=p then q else 1)<=q
  by_cases e:F n=p
  ·rw [R9 e]
   have:pr n (λi=>if F i=p then q else 1)=pr n (λ_=>1):=xL (λi hi=>R8 (λe2=>by
    have:=h i n (by omega) (by omega) (e2.trans e.symm)
    omega))
   rw [this];have h1:∀ k,pr k (λ_=>(1:Rat))=1:=λk=>by
    induction k with
    | zero=>rfl
    | succ k ih=>show pr k (λ_=>(1:Rat))*1=1; rw [ih]; grind
   rw [h1]; grind
  ·rw [if_neg e]; grind
theorem G0 {n:Nat}{F:Nat->Nat} (J:∀ i j,i<n->j<n->F i=F j->i=j):∀ {l:List (Rat×Nat×Nat)},(∀ e ∈ l,1<=e.1)->pr n (λi=>vF (F i) l)<=xx l*xx l
 | [],_=>by
  have h1:∀ k,pr k (λ_=>(1:Rat))=1:=λk=>by
   induction k with
   | zero=>rfl
   | succ k ih=>show pr k (λ_=>(1:Rat))*1=1; rw [ih]; grind
  show pr n (λ_=>(1:Rat))<=1*1;rw [h1,Rat.one_mul]; exact Y1
 | e::l,h=>by
  have hl:∀ e ∈ l,1<=e.1:=λe he=>h e (Sa _ he);have I:=h e (R6 ..);have ih:=G0 J hl;have e1:pr n (λi=>vF (F i) (e::l))=pr n (λi=>if e.2.1=F i\/e.2.2=F i then e.1 else 1)*pr n (λi=>vF (F i) l):=by rw [<- FF]; rfl
  have e2:pr n (λi=>if e.2.1=F i\/e.2.2=F i then e.1 else 1)<=pr n (λi=>(if F i=e.2.1 then e.1 else 1)*(if F i=e.2.2 then e.1 else 1)):=I9 (λi _=>by split <;> grind) (λi _=>by
   have:=rS I I (by decide) (by decide)
   by_cases a:F i=e.2.1
   ·by_cases b:F i=e.2.2
    ·rw [R9 (.inl a.symm),R9 a,R9 b]
     have:=Rat.mul_le_mul_of_nonneg_left I (show (0:Rat)<=e.1 by grind)
     grind
    ·rw [if_pos (.inl a.symm),if_pos a,if_neg b]; grind
   ·by_cases b:F i=e.2.2
    ·rw [if_pos (.inr b.symm),if_neg a,if_pos b]; grind
    ·rw [if_neg (λh=>h.elim (λh=>a h.symm) (λh=>b h.symm)),if_neg a,if_neg b]; grind)
  rw [FF] at e2;have s1:=BI (F:=F) I (p:=e.2.1) J;have s2:=BI (F:=F) I (p:=e.2.2) J;have n1:0<=pr n (λi=>if F i=e.2.1 then e.1 else 1):=nX (λi _=>by split <;> grind)
  have n2:0<=pr n (λi=>if F i=e.2.2 then e.1 else 1):=nX (λi _=>by split <;> grind)
  have Z:=rS s1 s2 n1 n2;have n3:0<=pr n (λi=>if e.2.1=F i\/e.2.2=F i then e.1 else 1):=nX (λi _=>by split <;> grind)
  have n4:0<=pr n (λi=>vF (F i) l):=nX (λi _=>by have:=Bb (u:=F i) hl; grind)
  have m2:=rS (Y2 e2 Z) ih n3 n4;rw [e1];have Y:xx (e::l)=e.1*xx l:=rfl;rw [Y]
  grind
def zR (t:Rat) (e:Rat×Nat×Nat):Rat×Nat×Nat:=(t / e.1,e.2)
def qF (F:Nat->Nat) (e:Rat×Nat×Nat):Rat×(Nat->Rat):=(e.1,λj=>dl (F j) e.2.1+dl (F j) e.2.2)
theorem yC (i j:Nat):dl i j=0\/dl i j=1:=by
 unfold dl
 split
 ·exact .inr rfl
 ·exact .inl rfl
theorem IU (F:Nat->Nat) (i c:Nat):∀ {l:List (Rat×Nat×Nat)},(∀ e ∈ l,0<e.1)->-jP (l.map (qF F)) i c<=jP (l.map (oL F)) i c/\jP (l.map (oL F)) i c<=jP (l.map (qF F)) i c
 | [],_=>by
  show -(0:Rat)<=0/\(0:Rat)<=0;constructor <;> decide
 | e::l,h=>by
  obtain ⟨h1,h2⟩:=IU F i c (l:=l) (λe he=>h e (List.mem_cons_of_mem _ he));have I:=h e (List.mem_cons_self ..);have e1:jP ((e::l).map (oL F)) i c=e.1*(dl (F i) e.2.1-dl (F i) e.2.2)*(dl (F c) e.2.1-dl (F c) e.2.2)+jP (l.map (oL F)) i c:=rfl;have e2:jP ((e::l).map (qF F)) i c=e.1*(dl (F i) e.2.1+dl (F i) e.2.2)*(dl (F c) e.2.1+dl (F c) e.2.2)+jP (l.map (qF F)) i c:=rfl;rw [e1,e2];rcases yC (F i) e.2.1 with a | a <;> rcases yC (F i) e.2.2 with b | b <;> rcases yC (F c) e.2.1 with u | u <;> rcases yC (F c) e.2.2 with v | v <;> rw [a,b,u,v] <;> constructor <;> grind
theorem y7 (F:Nat->Nat) (i c:Nat):∀ {l:List (Rat×Nat×Nat)},(∀ e ∈ l,0<e.1)->0<=jP (l.map (qF F)) i c
 | [],_=>Y1
 | e::l,h=>by
  have h1:=y7 F i c (l:=l) (λe he=>h e (List.mem_cons_of_mem _ he));have I:=h e (List.mem_cons_self ..);have e2:jP ((e::l).map (qF F)) i c=e.1*(dl (F i) e.2.1+dl (F i) e.2.2)*(dl (F c) e.2.1+dl (F c) e.2.2)+jP (l.map (qF F)) i c:=rfl;rw [e2];rcases yC (F i) e.2.1 with a | a <;> rcases yC (F i) e.2.2 with b | b <;> rcases yC (F c) e.2.1 with u | u <;> rcases yC (F c) e.2.2 with v | v <;> rw [a,b,u,v] <;> grind
theorem IV {F:Nat->Nat}{t:Rat} (ht:vO t) {l:List (Rat×Nat×Nat)} (hq:∀ e ∈ l,vO e.1/\1<=e.1) (i c:Nat):∀ {l':List (Rat×Nat×Nat)},(∀ e ∈ l',e ∈ l)->vO (vF (F i) l*jP ((l'.map (zR t)).map (oL F)) i c)
 | [],_=>by
  have:vF (F i) l*jP ((([]:List (Rat×Nat×Nat)).map (zR t)).map (oL F)) i c=0:=by show vF (F i) l*0=0; grind
  rw [this]; exact ⟨0,rfl⟩
 | e::l',h=>by
  have h1:=IV (F:=F) ht hq i c (l':=l') (λe he=>h e (Sa _ he));have h2:=h e (R6 ..);have e1:jP (((e::l').map (zR t)).map (oL F)) i c=(t / e.1)*(dl (F i) e.2.1-dl (F i) e.2.2)*(dl (F c) e.2.1-dl (F c) e.2.2)+jP ((l'.map (zR t)).map (oL F)) i c:=rfl;have I:∀ p q:Nat,vO (dl p q):=λp q=>by
   rcases yC p q with a | a <;> rw [a]
   ·exact ⟨0,rfl⟩
   ·exact ⟨1,rfl⟩
  have Z:∀ {a b:Rat},vO a->vO b->vO (a-b):=λ{a b} ⟨x,hx⟩ ⟨y,hy⟩=>⟨x-y,by rw [hx,hy,Rat.intCast_sub]⟩
  have e2:vF (F i) l*((t / e.1)*(dl (F i) e.2.1-dl (F i) e.2.2)*(dl (F c) e.2.1-dl (F c) e.2.2)+jP ((l'.map (zR t)).map (oL F)) i c)=(vF (F i) l*(t / e.1))*(dl (F i) e.2.1-dl (F i) e.2.2)*(dl (F c) e.2.1-dl (F c) e.2.2)+vF (F i) l*jP ((l'.map (zR t)).map (oL F)) i c:=by grind
  rw [e1,e2];refine AW ?_ h1
  by_cases Y:e.2.1=F i\/e.2.2=F i
  ·exact tU (tU (FL hq e h2 Y t ht) (Z (I _ _) (I _ _))) (Z (I _ _) (I _ _))
  ·have a:dl (F i) e.2.1=0:=rF (λJ=>Y (.inl J.symm))
   have b:dl (F i) e.2.2=0:=rF (λJ=>Y (.inr J.symm));rw [a,b];have:vF (F i) l*(t / e.1)*(0-0)*(dl (F c) e.2.1-dl (F c) e.2.2)=0:=by grind
   rw [this]; exact ⟨0,rfl⟩
def DZ:List (Rat×Nat×Nat)->Rat
 | []=>0
 | e::l=>e.1+DZ l
theorem vX (i j:Nat):0<=dl i j:=by rcases yC i j with h | h <;> rw [h] <;> decide
theorem Ln (i j:Nat):dl i j<=1:=by rcases yC i j with h | h <;> rw [h] <;> decide
theorem Jj {F:Nat->Nat}{p:Nat}:∀ {n:Nat},(∀ i j,i<n->j<n->F i=F j->i=j)->sm n (λc=>dl (F c) p)<=1
 | 0,_=>by unfold sm; decide
 | n+1,h=>by
  have ih:=Jj (F:=F) (p:=p) (n:=n) (λi j hi I e=>h i j (by omega) (by omega) e)
  show sm n (λc=>dl (F c) p)+dl (F n) p<=1
  by_cases e:F n=p
  ·have:sm n (λc=>dl (F c) p)=0:=xf (λi hi=>rF (λe2=>by
    have:=h i n (by omega) (by omega) (e2.trans e.symm)
    omega))
   rw [this];have:=Ln (F n) p
   grind
  ·rw [rF e]; grind
theorem ID {n:Nat}{F:Nat->Nat} (I:∀ i j,i<n->j<n->F i=F j->i=j) (i:Nat):∀ {l:List (Rat×Nat×Nat)},(∀ e ∈ l,0<e.1)->sm n (jP (l.map (qF F)) i)<=4*DZ l
 | [],_=>by
  have:sm n (jP (([]:List (Rat×Nat×Nat)).map (qF F)) i)=0:=xf (λ_ _=>rfl);rw [this];show (0:Rat)<=4*0
  grind
 | e::l,h=>by
  have ih:=ID I i (l:=l) (λe he=>h e (Sa _ he));have J:=h e (R6 ..);have e1:sm n (jP ((e::l).map (qF F)) i)=(e.1*(dl (F i) e.2.1+dl (F i) e.2.2))*(sm n (λc=>dl (F c) e.2.1)+sm n (λc=>dl (F c) e.2.2))+sm n (jP (l.map (qF F)) i):=by
   rw [<- yh,<- sZ,<- yh]; rfl
  have e2:DZ (e::l)=e.1+DZ l:=rfl;rw [e1,e2];have s1:=Jj (F:=F) (p:=e.2.1) I;have s2:=Jj (F:=F) (p:=e.2.2) I;have n1:=uR (n:=n) (f:=λc=>dl (F c) e.2.1) (λc _=>vX _ _);have n2:=uR (n:=n) (f:=λc=>dl (F c) e.2.2) (λc _=>vX _ _);have d1:=Ln (F i) e.2.1;have d2:=Ln (F i) e.2.2;have d3:=vX (F i) e.2.1;have d4:=vX (F i) e.2.2;have Y:e.1*(dl (F i) e.2.1+dl (F i) e.2.2)<=e.1*2:=Rat.mul_le_mul_of_nonneg_left (by grind) (Rat.le_of_lt J)
  have Z:0<=e.1*(dl (F i) e.2.1+dl (F i) e.2.2):=Rat.mul_nonneg (Rat.le_of_lt J) (by grind)
  have m2:=rS Y (show sm n (λc=>dl (F c) e.2.1)+sm n (λc=>dl (F c) e.2.2)<=2 by grind) Z (by grind)
  grind
theorem Ny {n:Nat}{F:Nat->Nat}{l:List (Rat×Nat×Nat)}{t:Rat} (hF:∀ i j,i<n->j<n->F i=F j->i=j) (ht:vO t) (t0:0<t) (Z:∀ e ∈ l,vO e.1/\1<=e.1):
  KH n (jP ((l.map (zR t)).map (oL F))) (λi=>vF (F i) l) (λi c=>vF (F i) l*jP ((l.map (zR t)).map (qF F)) i c+dl i c) (λi=>vF (F i) l*(4*DZ (l.map (zR t)))+1):=by
 have hw:∀ e ∈ l.map (zR t),0<e.1:=λe he=>by
  obtain ⟨d,hd,rfl⟩:=List.mem_map.1 he;have h1:=(Z d hd).2;show 0<t / d.1;rw [Rat.div_def];exact Rat.mul_pos t0 (Rat.inv_pos.2 (by grind))
 have I:∀ i,1<=vF (F i) l:=λi=>Bb (λe he=>(Z e he).2);have J:∀ i c,0<=vF (F i) l*jP ((l.map (zR t)).map (qF F)) i c:=λi c=>Rat.mul_nonneg (by have:=I i; grind) (y7 F i c hw)
 refine ⟨λi _=>Cy (λe he=>(Z e he).1),λi _=>I i,λi c _ _=>IV ht Z i c (λe he=>he),λi c=>?_,λi _=>?_,λi c _ _=>?_,λi hi=>?_⟩
 ·have:=J i c
  have:=vX i c
  grind
 ·have:=J i i
  rw [sC]; grind
 ·obtain ⟨h1,h2⟩:=IU F i c hw
  have Y:0<=vF (F i) l:=by have:=I i; grind
  have m1:=Rat.mul_le_mul_of_nonneg_left h1 Y;have m2:=Rat.mul_le_mul_of_nonneg_left h2 Y;have:=vX i c;constructor <;> grind
 ·rw [yh,sZ]
  have h1:=ID hF i hw;have Y:0<=vF (F i) l:=by have:=I i; grind
  have m1:=Rat.mul_le_mul_of_nonneg_left h1 Y;have h2:sm n (λc=>dl i c)<=1:=by
   have e:sm n (λc=>dl i c)=sm n (λc=>dl ((λx:Nat=>x) c) i):=qA (λc _=>by
    unfold dl
    by_cases a:i=c
    ·subst a; rfl
    ·rw [R8 a,R8 (λb=>a b.symm)])
   rw [e];exact Jj (λi j _ _ e=>e)
  have e2:sm n (λc=>jP ((l.map (zR t)).map (qF F)) i c)=sm n (jP ((l.map (zR t)).map (qF F)) i):=rfl;rw [e2]
  grind
theorem IF {q:Rat}:∀ {l:List (Rat×Nat×Nat)},(∀ e ∈ l,1<=e.1/\e.1<=q)->xx l<=pr l.length (λ_=>q)
 | [],_=>Y1
 | e::l,h=>by
  have h1:=IF (q:=q) (l:=l) (λe he=>h e (List.mem_cons_of_mem _ he));have h2:=h e (List.mem_cons_self ..);have I:=CZ (l:=l) (λe he=>(h e (List.mem_cons_of_mem _ he)).1);have J:=rS h1 h2.2 (by grind) (by grind)
  have e1:xx (e::l)=e.1*xx l:=rfl;have e2:pr (e::l).length (λ_=>q)=pr l.length (λ_=>q)*q:=rfl;rw [e1,e2]; grind
theorem P8 {n:Nat}{F:Nat->Nat}{l:List (Rat×Nat×Nat)}{s w:Rat} (J:∀ i j,i<n->j<n->F i=F j->i=j) (I:∀ e ∈ l,1<=e.1) (Z:0<=s) (hs:s<=w):
  pr n (λi=>vF (F i) l*s+1)<=xx l*xx l*pr n (λ_=>w+1):=by
 have h1:∀ i,1<=vF (F i) l:=λi=>Bb I;have p1:pr n (λi=>vF (F i) l*s+1)<=pr n (λi=>vF (F i) l*(w+1)):=I9 (λi _=>by
  have:=Rat.mul_nonneg (show (0:Rat)<=vF (F i) l by have:=h1 i; grind) Z
  grind) (λi _=>by
  have:=Rat.mul_le_mul_of_nonneg_left hs (show (0:Rat)<=vF (F i) l by have:=h1 i; grind)
  have:=h1 i
  grind)
 rw [FF] at p1;have p2:=G0 J I;have Y:0<=pr n (λi=>vF (F i) l):=nX (λi _=>by have:=h1 i; grind)
 have n2:0<=pr n (λ_:Nat=>w+1):=nX (λi _=>by grind)
 exact Y2 p1 (rS p2 Y1 Y n2)
def zX (n:Nat):List Nat:=(List.range n).map (·+1)
theorem yf (n:Nat):(zX n).length=n:=by simp [zX]
theorem FN {n i:Nat} (hi:i<n):(zX n)[i]? = some (i+1):=by simp [zX,hi]
theorem DS {α:Type}{l:List α}{i:Nat}{a:α} (h:l[i]? = some a):l.set i a=l:=by
 apply TP;intro j
 by_cases e:i=j
 ·subst e
  rw [SC (R3.1 h).1,h]
 ·rw [Sx e]
theorem CA {n i:Nat} (hi:i<n):(zX n).set i (i+1)=zX n:=DS (FN hi)
theorem G2 {n i:Nat} (hi:i<n):((zX n).set ((i:Int)).toNat (i+1)).set ((i:Int)).toNat (i+1)=zX n:=by
 rw [RZ,CA hi,CA hi]
structure vU (rows:List (List LR)) (n w W:Nat) (m:Mt):Prop where
 len:rows.length=n
 row:∀ i,i<n->∃ l,rows[i]? = some l/\l.length=w/\∀ c,c<w->∃ y,l[c]? = some y/\qB y/\RL y W/\rv y=m i c
theorem vU.congr {rows:List (List LR)}{n w W:Nat}{m J:Mt} (h:vU rows n w W m) (e:∀ i c,i<n->c<w->m i c=J i c):vU rows n w W J:=by
 refine ⟨h.len,λi hi=>?_⟩;obtain ⟨l,h1,h2,Y⟩:=h.row i hi;refine ⟨l,h1,h2,λc I=>?_⟩;obtain ⟨y,Z,y2,y3,y4⟩:=Y c I;exact ⟨y,Z,y2,y3,by rw [y4,e i c hi I]⟩
theorem vU.mono {rows:List (List LR)}{n w W I:Nat}{m:Mt} (h:vU rows n w W m) (e:W<=I):vU rows n w I m:=by
 refine ⟨h.len,λi hi=>?_⟩;obtain ⟨l,h1,h2,J⟩:=h.row i hi;refine ⟨l,h1,h2,λc Y=>?_⟩;obtain ⟨y,Z,y2,y3,y4⟩:=J c Y;exact ⟨y,Z,y2,y3.mono e,y4⟩
theorem vU.set {rows:List (List LR)}{n w W:Nat}{m:Mt} (h:vU rows n w W m) {i c:Nat} (hi:i<n) (hc:c<w) {e:LR} (he:qB e) (hW:RL e W):
  vU (rows.set i (((rows[i]?).getD []).set c e)) n w W (λi' I=>if i'=i/\I=c then rv e else m i' I):=by
 refine ⟨by rw [Tp]; exact h.len,λi' Z=>?_⟩
 obtain ⟨l,h1,h2,h3⟩:=h.row i' Z
 by_cases e1:i=i'
 ·subst e1
  refine ⟨l.set c e,by rw [h1,SC (by rw [h.len]; exact hi)]; rfl,by rw [Tp]; exact h2,λI J=>?_⟩
  by_cases e2:c=I
  ·subst e2
   exact ⟨e,by rw [SC (by omega)],he,hW,by rw [R9 ⟨rfl,rfl⟩]⟩
  ·obtain ⟨y,y1,y2,y3,y4⟩:=h3 I J
   exact ⟨y,by rw [Sx e2]; exact y1,y2,y3,by rw [R8 (λY=>e2 Y.2.symm)]; exact y4⟩
 ·refine ⟨l,by rw [Sx e1]; exact h1,h2,λI J=>?_⟩
  obtain ⟨y,y1,y2,y3,y4⟩:=h3 I J;exact ⟨y,y1,y2,y3,by rw [R8 (λY=>e1 Y.1.symm)]; exact y4⟩
theorem IZ (rows:List (List LR)) (i:Nat):((([]::rows:List (List LR))[i+1]?).getD [])=(rows[i]?).getD []:=rfl
theorem O4 (rows:List (List LR)) (i:Nat) (l:List LR):([]::rows:List (List LR)).set (i+1) l=[]::rows.set i l:=rfl
theorem vU.Mk {rows:List (List LR)}{n w W:Nat}{m:Mt} (h:vU rows n w W m) {i:Nat} (hi:i<n):((([]::rows:List (List LR))[i+1]?).getD []).length=w:=by
 obtain ⟨l,h1,h2,_⟩:=h.row i hi;rw [IZ,h1]; exact h2
theorem qU {R:Type}{Q:R->Prop}{n i:Nat} (hi:i<n) {f:Nat->Option R} (h:Gd (f (i+1)) Q):Gd (idx (zX n) (i:Int) f) Q:=
 Gd.ix (by omega) (by rw [RZ]; exact FN hi) h
theorem ux {R:Type}{Q:R->Prop}{rows:List (List LR)}{n w W:Nat}{m:Mt} (h:vU rows n w W m) {i c:Nat} (hi:i<n) (J:c<w) {f:LR->Option R}
  (Y:∀ y,qB y->RL y W->rv y=m i c->Gd (f y) Q):Gd (idx ((([]::rows:List (List LR))[i+1]?).getD []) (c:Int) f) Q:=by
 obtain ⟨l,h1,h2,I⟩:=h.row i hi;obtain ⟨y,Z,y2,y3,y4⟩:=I c J;refine Gd.ix (y:=y) (by omega) ?_ (Y y y2 y3 y4)
 rw [IZ,h1,RZ]; exact Z
theorem zu {r:LR} (h:qB r):decide (dW r=0)=decide (rv r=0):=by
 unfold dW;rw [Y9,sign_zero h.n,Jh h]
theorem NO {a b:LR} (J:qB a) (Y:qB b) (h0:rv b≠0) {A B:Nat} (la:RL a A) (lb:RL b B) (hz:A+B<=800000):
  Gd (rH a b) (λr=>qB r/\RL r (A+B)/\rv r=rv a / rv b):=by
 have:=la.1; have:=la.2; have:=lb.1; have:=lb.2
 have Z:nv b.N.words≠0:=λe=>h0 ((Jh Y).2 e);unfold rH;refine Gd.fH (xn J.n Y.d (by omega)) (λx hx=>Gd.fH (xn J.d Y.n (by omega)) (λz I=>?_))
 refine Gd.fH (zp hx.1 I.1 (HV I.2.2 J.nz Z) (by omega) (by omega)) (λr hr=>Gd.ret ⟨hr.1,⟨by omega,by omega⟩,?_⟩)
 rw [hr.2.2.2,hx.2.2,I.2.2];unfold rv;rw [YX,Rat.inv_divInt,Rat.divInt_mul_divInt]
end Go.Sim
namespace Go.Sim
open Go
open _root_.Go.IntKind (i64 u64 u32 u8)
theorem G4 {a:LI} (h:uw a):(0<gH a↔0<iK a)/\(gH a<0↔iK a<0):=by
 have I:=ya h.wf h.tp;unfold gH iK
 by_cases h1:a.words=[]
 ·have J:nv a.words=0:=I.2 h1
  have O:a.minus=false:=by
   cases O:a.minus
   ·rfl
   ·exact absurd h1 (h.sign O)
  simp [h1,O,nv]
 ·have J:nv a.words≠0:=λe=>h1 (I.1 e)
  have hl:a.words.length≠0:=λe=>h1 (Sv e);rw [R8 (by simp; exact h1)]
  cases O:a.minus
  ·simp; omega
  ·simp; omega
theorem En {a b c d:Int} (I:0<b) (J:0<d):Rat.divInt a b<Rat.divInt c d↔a*d<c*b:=by
 rw [<- Rat.not_le,<- Int.not_le];refine not_congr ?_;have e:=Rat.divInt_sub_divInt a c (d₁:=b) (d₂:=d) (by omega) (by omega)
 have k:=YW (a:=a*d-c*b) (b:=b*d) (Int.mul_pos I J);rw [<- e] at k;constructor
 ·intro h
  have:0<=Rat.divInt a b-Rat.divInt c d:=by grind
  have:=k.1 this;omega
 ·intro h
  have:0<=Rat.divInt a b-Rat.divInt c d:=k.2 (by omega)
  grind
theorem qB.Lo {a:LR} (h:qB a):0<iK a.D:=by
 rw [rG h.pos];have:=h.nz;omega
theorem FH {a b:LR} (J:qB a) (Y:qB b) {A B:Nat} (la:RL a A) (lb:RL b B) (hz:A+B<=800000):
  Gd (n_ a b) (λr=>(0<r↔rv b<rv a)/\(r<0↔rv a<rv b)):=by
 have:=la.1; have:=la.2; have:=lb.1; have:=lb.2
 unfold n_ te;refine Gd.fH (xn J.n Y.d (by omega)) (λx Z=>Gd.fH (xn Y.n J.d (by omega)) (λy hy=>?_))
 refine Gd.fH (P:=λr=>(0<r↔rv b<rv a)/\(r<0↔rv a<rv b)) (Gd.fH (Ni Z.1 hy.1 (by omega) (by omega)) (λz I=>Gd.ret ?_)) (λr hr=>Gd.ret hr)
 have s:=G4 I.1;rw [I.2.2,Z.2.2,hy.2.2] at s;unfold rv;rw [En Y.Lo J.Lo,En J.Lo Y.Lo];exact ⟨s.1.trans ⟨λh=>by omega,λh=>by omega⟩,s.2.trans ⟨λh=>by omega,λh=>by omega⟩⟩
theorem EI {a:LR} (h:qB a):dW a<0↔rv a<0:=by
 have k:=YW (a:=iK a.N) (b:=iK a.D) h.Lo;unfold dW rv;rw [(G4 h.n).2,<- Rat.not_le,k];omega
def Pa (q:Rat):Rat:=if q<0 then -q else q
theorem Jd {a:LR} (I:qB a) {A:Nat} (la:RL a A) (Y:A<=800000):Gd (pO a) (λr=>qB r/\RL r A/\rv r=Pa (rv a)):=by
 unfold pO Pa;refine Gd.ite (λh=>?_) (λh=>?_)
 ·have h:rv a<0:=(EI I).1 (R7 h)
  refine Gd.fH (Jf I la Y) (λr J=>Gd.ret ?_);rw [R9 h]; exact J
 ·have h:¬ rv a<0:=λe=>Sc h ((EI I).2 e)
  rw [R8 h];exact Gd.ret ⟨I,la,rfl⟩
abbrev F3:=(List Nat×List (List LR))×List Int
theorem zG {j w:Nat} (I:j<=w) (J:w<=1000):i64.wrap ((j:Int)+1)=((j+1:Nat):Int):=by
 rw [bZ ⟨by omega,by omega⟩]; omega
theorem Q1 {n w W k i:Nat}{l:List Int}{sg:List Nat}{p:Int}{k1 k2:Nat}{nxO:List (List LR)->Option F3}{f:LR}{rows:List (List LR)}{m:Mt}{F:Rat}{Q:F3->Prop}
  (hSG:(sg.set ((l.length:Int):Int).toNat k1).set (p:Int).toNat k2=zX n) (hl:l.length=k) (hk:k<n) (hi:i<n) (hw:w<=1000) (hkw:k<=w) (hW:W<=100000) (hik:i≠k)
  (hf:qB f) (hfl:RL f W) (fv:rv f=F) (hM:vU rows n w W m) (hb:∀ c,k<=c->c<w->RB (m i c-F*m k c) W)
  (hnx:∀ I,vU I n w W (λi' c=>if i'=i/\k<=c then m i c-F*m k c else m i' c)->Gd (nxO ([]::I)) Q):
  Gd (iV (λs n'=>qh l sg p k1 k2 nxO i f s.1 s.2 n') gO ((k:Int),[]::rows)) Q:=by
 refine Gd.iV (λs=>∃ (j:Nat) (I:List (List LR)),s=((j:Int),[]::I)/\k<=j/\j<=w/\vU I n w W (λi' c=>if i'=i/\k<=c/\c<j then m i c-F*m k c else m i' c)) (λs=>((w:Int)-s.1).toNat) ?_ gO _
  ⟨k,rows,rfl,Sj _,hkw,hM.congr (λi' c _ _=>by rw [R8 (by omega)])⟩ (by simp only [gO]; omega)
 rintro _ nx ⟨j,I,rfl,hkj,hjw,J⟩ Y;show Gd (qh l sg p k1 k2 nxO i f (j:Int) ([]::I) nx) Q;unfold qh;simp only [hSG];refine qU hi ?_;rw [J.Mk hi]
 by_cases hj:j<w
 ·refine Gd.ite (λ_=>?_) (λh=>absurd (Za.1 h) (by simp; omega))
  rw [hl];refine qU hk (ux J hk hj (λy hy hyl hyv=>?_));rw [R8 (by omega)] at hyv
  refine Gd.ite (λhs=>?_) (λhs=>?_)
  ·refine qU hi (qU hi (ux J hi hj (λyi gi gil giv=>qU hk (ux J hk hj (λyr gr grl grv=>?_)))))
   rw [R8 (by omega)] at giv grv
   refine Gd.fH (A_ hf gr hfl grl (by omega)) (λmm Z=>Gd.fH (zD gi Z.1 gil Z.2.1 (by omega)) (λr hr=>ux J hi hj (λ_ _ _ _=>?_)))
   have hv:rv r=m i j-F*m k j:=by rw [hr.2.2,Z.2.2,giv,grv,fv]
   have hrl:RL r W:=hr.1.rb (by rw [hv]; exact hb j hkj hj)
   unfold nU;rw [zG hjw hw];have h2:=J.set hi hj hr.1 hrl;refine Y _ ⟨j+1,_,rfl,by omega,by omega,h2.congr (λi' c _ _=>?_)⟩ (by simp only; omega)
   by_cases e:i'=i/\c=j
   ·obtain ⟨rfl,rfl⟩:=e
    rw [R9 ⟨rfl,rfl⟩,R9 (by omega),hv]
   ·rw [R8 e]
    by_cases e2:i'=i/\k<=c/\c<j
    ·rw [R9 e2,R9 (by omega)]
    ·rw [R8 e2,R8 (by omega)]
  ·have h0:m k j=0:=by
    have:=zu hy;rw [hyv] at this;have hs2:decide (dW y=0)=true:=by simpa using hs
    rw [this] at hs2;exact R7 hs2
   unfold nU;rw [zG hjw hw];refine Y _ ⟨j+1,I,rfl,by omega,by omega,J.congr (λi' c _ _=>?_)⟩ (by simp only; omega)
   by_cases e:i'=i/\c=j
   ·obtain ⟨rfl,rfl⟩:=e
    rw [if_neg (by omega),if_pos (by omega),h0]; grind
   ·by_cases e2:i'=i/\k<=c/\c<j
    ·rw [R9 e2,R9 (by omega)]
    ·rw [R8 e2,R8 (by omega)]
 ·refine Gd.ite (λh=>absurd (R7 h) (by omega)) (λ_=>?_)
  unfold lL;refine hnx I (J.congr (λi' c _ hc=>?_))
  by_cases e:i'=i/\k<=c
  ·rw [R9 e,R9 (by omega)]
  ·rw [R8 e,R8 (by omega)]
theorem Q0 {n w W k:Nat}{l:List Int}{sg:List Nat}{p:Int}{k1 k2:Nat}{K:List (List LR)->Option F3}{rows:List (List LR)}{m:Mt}{Q:F3->Prop}
  (hSG:(sg.set ((l.length:Int):Int).toNat k1).set (p:Int).toNat k2=zX n) (hl:l.length=k) (hk:k<n) (hw:w<=1000) (hkw:k<w) (hW:W<=100000)
  (hM:vU rows n w W m) (hz:∀ c,c<k->m k c=0) (hb:∀ i c,i<n->i≠k->k<=c->c<w->RB (m i c-m i k*m k c) W)
  (hK:∀ I,vU I n w W (λi c=>if i=k then m k c else m i c-m i k*m k c)->Gd (K ([]::I)) Q):
  Gd (lH (λkk s n'=>r7 l (k:Int) sg p k1 k2 kk s n') K n 0 ([]::rows)) Q:=by
 refine Gd.lH (λM i s=>i+M=n/\∃ I:List (List LR),s=[]::I/\vU I n w W (λi' c=>if i'<i/\i'≠k then m i' c-m i' k*m k c else m i' c)) ?_ ?_ n 0 _
  ⟨by omega,rows,rfl,hM.congr (λi' c _ _=>by rw [R8 (by omega)])⟩
 ·rintro M i _ nx ⟨hiM,I,rfl,J⟩ hnx
  have hi:i<n:=by omega
  unfold r7;simp only [hSG];rw [hl];refine Gd.ite (λh=>?_) (λh=>?_)
  ·have e:i=k:=by have:=R7 h; omega
   subst e;unfold lL;refine hnx _ ⟨by omega,I,rfl,J.congr (λi' c _ _=>?_)⟩
   by_cases e:i'<i/\i'≠i
   ·rw [R9 e,R9 (by omega)]
   ·rw [R8 e,R8 (by omega)]
  ·have Y:i≠k:=λe=>by rw [e] at h; simp at h
   refine qU hi (ux J hi hkw (λy hy hyl hyv=>?_));rw [R8 (by omega)] at hyv
   refine Gd.ite (λhs=>?_) (λhs=>?_)
   ·have h0:m i k=0:=by
     have:=zu hy;rw [hyv] at this;rw [this] at hs;exact R7 hs
    unfold lL;refine hnx _ ⟨by omega,I,rfl,J.congr (λi' c _ _=>?_)⟩
    by_cases e:i'=i
    ·subst e
     rw [if_neg (by omega),if_pos ⟨by omega,Y⟩,h0]; grind
    ·by_cases e2:i'<i/\i'≠k
     ·rw [R9 e2,R9 (by omega)]
     ·rw [R8 e2,R8 (by omega)]
   ·refine qU hi (ux J hi hkw (λf hf hfl hfv=>?_))
    rw [R8 (by omega)] at hfv
    refine Q1 (m:=λi' c=>if i'<i/\i'≠k then m i' c-m i' k*m k c else m i' c) hSG hl hk hi hw (by omega) hW Y hf hfl hfv J (λc h1 h2=>?_) (λZ hM''=>?_)
    ·rw [R8 (by omega),R8 (by omega)]
     exact hb i c hi Y h1 h2
    ·refine hnx _ ⟨by omega,Z,rfl,hM''.congr (λi' c _ _=>?_)⟩
     by_cases e:i'=i
     ·subst e
      rw [R9 (show i'<i'+1/\i'≠k from ⟨by omega,Y⟩),R8 (show ¬ (i'<i'/\i'≠k) by omega),R8 (show ¬ (k<i'/\k≠k) by omega)]
      by_cases e3:k<=c
      ·rw [R9 ⟨rfl,e3⟩]
      ·rw [if_neg (by omega),hz c (by omega)]; grind
     ·rw [R8 (show ¬ (i'=i/\k<=c) from λhh=>e hh.1)]
      by_cases e2:i'<i/\i'≠k
      ·rw [R9 e2,R9 (by omega)]
      ·rw [R8 e2,R8 (by omega)]
 ·rintro i _ ⟨hi,I,rfl,J⟩
  refine hK I (J.congr (λi' c hi' _=>?_))
  by_cases e:i'=k
  ·subst e; rw [R8 (by omega),R9 rfl]
  ·rw [R9 ⟨by omega,e⟩,R8 e]
def Ls (k:Nat) (m:Mt):Mt:=λi c=>if i=k/\k<=c then m k c / m k k else m i c
theorem Fe {k i:Nat} (h:i≠k) (m:Mt) (c:Nat):Ls k m i c=m i c:=R8 (λI=>h I.1)
theorem HD {k c:Nat} (h:k<=c) (m:Mt):Ls k m k c=m k c / m k k:=R9 ⟨rfl,h⟩
theorem HE {k c:Nat} (h:c<k) (m:Mt):Ls k m k c=m k c:=R8 (λI=>by omega)
theorem QZ {n w W k:Nat}{l:List Int}{sg:List Nat}{p:Int}{k1 k2:Nat}{nx:(List Int×Int×List Nat×List (List LR))->Option F3}{d:LR}{rows:List (List LR)}{m:Mt}{Q:F3->Prop}
  (hSG:(sg.set ((l.length:Int):Int).toNat k1).set (p:Int).toNat k2=zX n) (hl:l.length=k) (Y:k<n) (hn:n<=1000) (hw:w<=1000) (hkw:k<w) (hW:W<=100000)
  (hd:qB d) (hdl:RL d W) (hdv:rv d=m k k) (hd0:m k k≠0) (hM:vU rows n w W m) (hz:∀ c,c<k->m k c=0) (hb:∀ i c,i<n->c<w->RB (wi k m i c) W)
  (hnx:∀ I,vU I n w W (wi k m)->Gd (nx (l++[(k:Int)],((k+1:Nat):Int),zX n,[]::I)) Q):
  Gd (iV (λs n'=>qe l (k:Int) sg nx p k1 k2 d s.1 s.2 n') gO ((k:Int),[]::rows)) Q:=by
 refine Gd.iV (λs=>∃ (j:Nat) (I:List (List LR)),s=((j:Int),[]::I)/\k<=j/\j<=w/\vU I n w W (λi' c=>if i'=k/\k<=c/\c<j then m k c / m k k else m i' c)) (λs=>((w:Int)-s.1).toNat) ?_ gO _
  ⟨k,rows,rfl,Sj _,by omega,hM.congr (λi' c _ _=>by rw [R8 (by omega)])⟩ (by simp only [gO]; omega)
 rintro _ nxL ⟨j,I,rfl,hkj,hjw,J⟩ hnext;show Gd (qe l (k:Int) sg nx p k1 k2 d (j:Int) ([]::I) nxL) Q;have hdiv:m k k / m k k=1:=by rw [YX]; exact Y4 _ hd0
 unfold qe;simp only [hSG];rw [hl];refine qU Y ?_;rw [J.Mk Y]
 by_cases hj:j<w
 ·refine Gd.ite (λ_=>?_) (λh=>absurd (Za.1 h) (by simp; omega))
  refine qU Y (qU Y (ux J Y hj (λy hy hyl hyv=>?_)));rw [R8 (by omega)] at hyv
  refine Gd.fH (NO hy hd (by rw [hdv]; exact hd0) hyl hdl (by omega)) (λr hr=>ux J Y hj (λ_ _ _ _=>?_))
  have hv:rv r=m k j / m k k:=by rw [hr.2.2,hyv,hdv]
  have hrl:RL r W:=hr.1.rb (by
   rw [hv];have:=hb k j Y hj;unfold wi at this;rw [R9 rfl] at this;exact this)
  rw [zG hjw hw];refine hnext _ ⟨j+1,_,rfl,by omega,by omega,(J.set Y hj hr.1 hrl).congr (λi' c _ _=>?_)⟩ (by simp only; omega)
  by_cases e:i'=k/\c=j
  ·obtain ⟨rfl,rfl⟩:=e
   rw [R9 ⟨rfl,rfl⟩,R9 (by omega),hv]
  ·rw [R8 e]
   by_cases e2:i'=k/\k<=c/\c<j
   ·rw [R9 e2,R9 (by omega)]
   ·rw [R8 e2,R8 (by omega)]
 ·refine Gd.ite (λh=>absurd (R7 h) (by omega)) (λ_=>?_)
  rw [yf,RZ];refine Gd.nd (by omega) ?_
  refine Q0 (m:=Ls k m) hSG hl Y hw hkw hW (J.congr (λi' c _ hc=>?_)) (λc hc=>(HE hc m).trans (hz c hc)) (λi c hi hik h1 h2=>?_) (λZ hM''=>?_)
  ·unfold Ls
   by_cases e:i'=k/\k<=c
   ·rw [R9 e,R9 (by omega)]
   ·rw [R8 e,R8 (by omega)]
  ·rw [Fe hik,Fe hik,HD h1]
   have:=hb i c hi h2;unfold wi at this;rw [R8 hik] at this;exact this
  ·refine Gd.nd (by rw [show ([(k:Int)]:List Int).length=1 from rfl]; omega) ?_
   unfold qd;rw [zG (show k<=w by omega) hw]
   refine hnx Z (hM''.congr (λi c _ _=>?_));unfold wi
   by_cases e:i=k
   ·subst e
    rw [R9 rfl,R9 rfl]
    by_cases e2:i<=c
    ·rw [HD e2]
    ·rw [HE (by omega),hz c (by omega),Rat.div_def]; grind
   ·rw [R8 e,R8 e,Fe e,Fe e]
    by_cases e2:k<=c
    ·rw [HD e2]
    ·rw [HE (by omega),hz c (by omega),Rat.div_def]; grind
theorem J_ {n w W k:Nat}{Y:Int}{l:List Int}{nx:(List Int×Int×List Nat×List (List LR))->Option F3}{rows:List (List LR)}{m:Mt}{Q:F3->Prop}
  (hl:l.length=k) (I:k<n) (hc:(k:Int)<Y) (hn:n<=1000) (hw:w<=1000) (Z:k<w) (hW:W<=100000)
  (hd0:m k k≠0) (hM:vU rows n w W m) (hz:∀ c,c<k->m k c=0) (hb:∀ i c,i<n->c<w->RB (wi k m i c) W)
  (hnx:∀ J,vU J n w W (wi k m)->Gd (nx (l++[(k:Int)],((k+1:Nat):Int),zX n,[]::J)) Q):
  Gd (nT Y l (k:Int) (zX n) ([]::rows) nx) Q:=by
 unfold nT;rw [hl,yf];refine Gd.ite (λ_=>?_) (λh=>absurd h (by simp; omega))
 refine Gd.iV (λs=>s=(k:Int)) (λ_=>0) ?_ gO _ rfl (by simp only [gO]; omega)
 rintro _ nx2 rfl _;unfold t_;rw [yf];refine Gd.ite (λ_=>?_) (λh=>absurd (Za.1 h) (by simp; omega))
 refine qU I (ux hM I Z (λy hy hyl hyv=>?_));rw [zu hy,hyv];refine Gd.ite (λh=>absurd (R7 h) hd0) (λ_=>?_);unfold qi;rw [yf,hl];refine Gd.ite (λh=>absurd (R7 h) (by omega)) (λ_=>?_)
 refine qU I (qU I (qU I ?_));rw [G2 I,RZ,CA I];refine qU I (qU I (ux hM I Z (λd hd hdl hdv=>?_)));exact QZ (by rw [hl]; exact G2 I) hl I hn hw Z hW hd hdl hdv hd0 hM hz hb hnx
end Go.Sim
