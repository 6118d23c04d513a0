/-
  The proof, part F1.
-/
import Derived.Lib.ItoaNum
import Derived.Lib.ParseIntB
import Derived.KernelRfl
import Derived.Test.YtkpbgofhndmbnaaGreatDoorSqA2
set_option linter.unusedVariables false
set_option linter.unusedSimpArgs false
set_option linter.unusedSectionVars false
set_option linter.unnecessarySimpa false
namespace Go.Sim
abbrev Vc := @BitVec.ofInt_natCast
abbrev Vd := @BitVec.toNat_ofNat
abbrev Ve := @Bool.eq_false_or_eq_true
abbrev Vf := @Bool.not_eq_false'
abbrev Vg := @Bool.or_eq_false_iff
abbrev Vi := @Int.mul_add
abbrev Vj := @Int.mul_assoc
abbrev Vk := @Int.mul_sub
abbrev Vl := @Int.natCast_add
abbrev Vo := @Go.Lib.decDigits_one
abbrev Vs := @List.drop_of_length_le
abbrev Vt := @List.eq_nil_or_concat
abbrev Vx := @List.getLast?_eq_getElem?
abbrev Vy := @List.head?_cons
abbrev Vz := @List.length_eq_one_iff
abbrev VB := @List.length_nil
abbrev VC := @List.length_pos_iff
abbrev VD := @List.mem_or_eq_of_mem_set
abbrev VE := @List.mem_replicate
abbrev VG := @List.take_add_one
abbrev VI := @Nat.and_two_pow_sub_one_eq_mod
abbrev VJ := @Nat.div_eq_of_lt
abbrev VK := @Nat.div_lt_iff_lt_mul
abbrev VL := @Nat.le_div_iff_mul_le
abbrev VM := @Nat.lt_of_mul_lt_mul_left
abbrev VN := @Nat.mod_add_div
abbrev VO := @Nat.mul_add
abbrev VP := @Nat.mul_assoc
abbrev VQ := @Nat.mul_comm
abbrev VR := @Nat.mul_le_mul_left
abbrev VS := @Nat.mul_zero
abbrev VT := @Nat.pow_add
abbrev VU := @Nat.pow_le_pow_left
abbrev VV := @Nat.pow_le_pow_right
abbrev VW := @Nat.pow_lt_pow_iff_right
abbrev VX := @Nat.pow_mul
abbrev VY := @Nat.pow_pos
abbrev VZ := @Nat.pow_succ
abbrev V0 := @Nat.pow_zero
abbrev V_ := @Rat.divInt_nonneg_iff_of_pos_right
abbrev Wa := @Rat.div_def
abbrev Wc := @Rat.intCast_mul
abbrev Wd := @Rat.intCast_neg
abbrev We := @Rat.le_refl
abbrev Wg := @Rat.le_trans
abbrev Wh := @Rat.mul_eq_zero
abbrev Wj := @Rat.mul_inv_cancel
abbrev Wl := @Rat.mul_nonneg
abbrev Wm := @decide_eq_decide
abbrev Wn := @decide_eq_false
abbrev Wo := @decide_eq_false_iff_not
abbrev Wq := @decide_eq_true
end Go.Sim
namespace Go.Sim
open Go
open _root_.Go.IntKind (i64 u64 u32 u8)
abbrev WB:Nat:=4294967296
def nv:List bU->Nat
 | []=>0
 | y::l=>y.n.toNat+WB*nv l
def Wf (l:List bU):Prop:=∀ y ∈ l,0<=y.n/\y.n<4294967296
theorem Wf.nil:Wf []:=λy h=>by cases h
theorem Wf.app {a b:List bU} (I:Wf a) (J:Wf b):Wf (a++b):=λy h=>by
 rcases QG.1 h with h | h
 ·exact I y h
 ·exact J y h
theorem Wf.one {v:Int} (h:0<=v/\v<4294967296):Wf [⟨v⟩]:=λy I=>by
 rw [QY] at I; subst I; exact h
theorem Wf.take {l:List bU} (h:Wf l) (k:Nat):Wf (l.take k):=λy I=>h y (SQ I)
theorem DK:∀ (a b:List bU),nv (a++b)=nv a+WB ^ a.length*nv b
 | [],b=>by simp [nv]
 | y::a,b=>by
  rw [SL,nv,DK a b,nv,QA,VZ];rw [VO,<- VP,VQ (WB ^ a.length) WB,SN]
theorem BS (y:bU):nv [y]=y.n.toNat:=by simp [nv]
theorem uG (a:List bU) (y:bU):nv (a++[y])=nv a+WB ^ a.length*y.n.toNat:=by rw [DK,BS]
theorem sU:∀ {l:List bU},Wf l->nv l<WB ^ l.length
 | [],_=>by simp [nv]
 | y::l,h=>by
  have I:=sU (l:=l) (λz J=>h z (Qy _ J));have O:=h y (by simp)
  rw [nv,QA,VZ];have:WB*nv l+WB<=WB ^ l.length*WB:=by
   rw [VQ (WB ^ l.length) WB,<- Nat.mul_succ];exact VR _ I
  have:y.n.toNat<WB:=by show y.n.toNat<4294967296; omega
  omega
theorem rp {l:List bU}{k:Nat}{y:bU} (h:l[k]? = some y):nv (l.take (k+1))=nv (l.take k)+WB ^ k*y.n.toNat:=by
 have I:=(Qt.1 h).1;rw [VG,h];show nv (l.take k++[y])=_;rw [uG,QR,Rv (by omega)]
theorem Kr (n:Nat):nv (List.replicate n (⟨0⟩:bU))=0:=by
 induction n with
 | zero=>rfl
 | succ n ih=>rw [SZ,nv,ih]; rfl
theorem wG {l:List bU}{k:Nat}{v:bU} (h:k<l.length):(l.set k v).take (k+1)=l.take k++[v]:=by
 rw [VG,QU h,Ti (QM _)]; rfl
theorem xq (n:Int):u32.wrap n=n%4294967296:=by simp [IntKind.wrap,IntKind.bits,IntKind.signed]
theorem Ef (n:Int):u64.wrap n=n%18446744073709551616:=by simp [IntKind.wrap,IntKind.bits,IntKind.signed]
theorem gX {n:Int} (h:0<=n/\n<18446744073709551616):u64.wrap n=n:=by rw [Ef]; omega
theorem CY (n:Int):oG .u64 n 32=n / 4294967296:=by
 unfold oG;rw [show (min (32:Int).toNat u64.bits)=32 by decide,S7 _ (by decide)]
 rfl
theorem KL (n:Int):oG .i64 n 32=n / 4294967296:=by
 unfold oG;rw [show (min (32:Int).toNat i64.bits)=32 by decide,S7 _ (by decide)]
 rfl
abbrev LI:=aD
structure s5 (a:LI):Prop where
 wf:Wf a.words
 top:∀ y,a.words.getLast? = some y->y.n≠0
 sign:a.minus=true->a.words≠[]
def gL (a:LI):Int:=if a.minus=true then -(nv a.words:Int) else (nv a.words:Int)
theorem tK (minus:Bool):∀ (w:List bU),Wf w->w.length<=1000000->Gd (jE minus w) (λr=>s5 r/\r.words.length<=w.length/\nv r.words=nv w/\(r.minus=true↔minus=true/\nv w≠0)):=by
 intro w hw hl;unfold jE;refine Gd.iL (λ(l:List bU)=>Wf l/\l.length<=w.length/\nv l=nv w) (λl=>l.length) ?_ fT w ⟨hw,QM _,rfl⟩ (by simp only [fT]; omega)
 rintro l nx ⟨Z,h2,Y⟩ hnx;have O:(∀ y,l.getLast? = some y->y.n≠0)->Gd (oK minus l) (λr=>s5 r/\r.words.length<=w.length/\nv r.words=nv w/\(r.minus=true↔minus=true/\nv w≠0)):=λht=>by
  have hz:nv l=0->l=[]:=λI=>by
   rcases Vt l with h | ⟨a,y,h⟩
   ·exact h
   ·exfalso
    have h:l=a++[y]:=by simpa using h
    have J:=ht y (by rw [h]; simp)
    have hyw:=Z y (by rw [h]; simp)
    rw [h,uG] at I;have hp:0<WB ^ a.length:=VY (by decide)
    have:0<WB ^ a.length*y.n.toNat:=Nat.mul_pos hp (by omega)
    omega
  unfold oK;refine Gd.ite (λhm=>Gd.ret ⟨⟨Z,ht,?_⟩,h2,Y,?_⟩) (λhm=>Gd.ret ⟨⟨Z,ht,λh=>by cases h⟩,h2,Y,?_⟩)
  ·intro h e
   have h:decide (0<(l.length:Int))=true:=h;have e:l=[]:=e;rw [e] at h; simp at h
  ·constructor
   ·intro h
    have h:0<(l.length:Int):=Qv h;refine ⟨hm,λI=>?_⟩;rw [<- Y] at I;have:=hz I;rw [this] at h; simp at h
   ·intro h
    show decide (0<(l.length:Int))=true;rw [Rb];cases l with
    | nil=>exact absurd (Y.symm.trans rfl) h.2
    | cons a b=>simp
  ·rw [hm]
   constructor
   ·intro h; cases h
   ·intro h; cases h.1
 unfold ug;refine Gd.ite (λh=>?_) (λh=>O (λy J=>?_))
 ·have hpos:0<l.length:=by have:=Qv h; omega
  have hw1:i64.wrap ((l.length:Int)-1)=((l.length-1:Nat):Int):=by rw [bT ⟨by omega,by omega⟩]; omega
  rw [hw1];refine Gd.iP (by omega) (Gd.ite (λI=>?_) (λI=>O (λy J=>?_)))
  ·have I:(l[l.length-1]).n=0:=Qv I
   refine Gd.nd ⟨by omega,by omega⟩ ?_
   have hs:rJ l 0 (((l.length-1:Nat):Int).toNat)=l.take (l.length-1):=by simp [rJ]
   rw [hs];refine hnx _ ⟨Z.take _,by rw [QR]; omega,?_⟩ (by rw [QR]; omega)
   have:=rp (l:=l) (k:=l.length-1) (Qp (by omega))
   rw [show l.length-1+1=l.length by omega,Sh,I] at this
   rw [<- Y,this]; simp
  ·have I:(l[l.length-1]).n≠0:=QE I
   rw [Vx,Qp (by omega)] at J
   rw [<- Qs J]; exact I
 ·have h:¬ 0<(l.length:Int):=QE h
  have:l=[]:=QZ (by omega)
  rw [this] at J; cases J
theorem EE {a b:List bU} (ha:Wf a) (hb:Wf b) (hl:b.length<=a.length) (I:a.length<=1000000):
  Gd (lU a b) (λr=>Wf r/\r.length=a.length+1/\nv r=nv a+nv b):=by
 have w1:i64.wrap ((a.length:Int)+1)=((a.length+1:Nat):Int):=by rw [bT ⟨by omega,by omega⟩]; omega
 unfold lU;rw [w1];refine Gd.nd ⟨by omega,by omega⟩ ?_
 refine Gd.kW (λm k (z:List bU×Int)=>k+m=a.length/\z.1.length=a.length+1/\Wf z.1/\0<=z.2/\z.2<=1/\nv (z.1.take k)+WB ^ k*z.2.toNat=nv (a.take k)+nv (b.take k)) ?_ ?_ _ 0 _ ⟨by simp,by simp,λy Y=>?_,S1 _,by show (0:Int)<=1; omega,by simp [nv]⟩
 ·rintro m k ⟨l,c⟩ nx ⟨h0,h1,h2,h3,h4,h5⟩ hnx
  simp only at h1 h2 h3 h4 h5 hnx ⊢;have hka:k<a.length:=by omega
  have J:((k:Int)).toNat=k:=by omega
  obtain ⟨y,Y⟩:∃ y,a[k]? = some y:=⟨_,Qp hka⟩;have hyw:=ha y (QB Y);have Z:∀ (n:Int) (x:Nat),n=c+y.n+x->x<WB->nv (b.take (k+1))=nv (b.take k)+WB ^ k*x->Gd (lT l nx k n) _:=λn x hn O hb1=>by
   unfold lT;rw [CY,J,xq];have O:x<4294967296:=O;refine Gd.iP (by omega) (hnx _ ⟨by omega,by simp [h1],?_,by simp only; omega,by simp only; omega,?_⟩)
   ·intro z I
    rcases VD I with I | I
    ·exact h2 z I
    ·rw [I]; simp only; omega
   ·simp only
    rw [wG (by omega),uG,QR,Rv (by omega),rp Y,hb1]
    simp only;have e1:(n%4294967296).toNat+WB*(n / 4294967296).toNat=c.toNat+y.n.toNat+x:=by
     show (n%4294967296).toNat+4294967296*(n / 4294967296).toNat=_;omega
    have e2:WB ^ k*(n%4294967296).toNat+WB ^ (k+1)*(n / 4294967296).toNat=WB ^ k*c.toNat+WB ^ k*y.n.toNat+WB ^ k*x:=by
     rw [VZ,VP,<- VO,e1,VO,VO]
    omega
  unfold rB;refine Gd.ix (by omega) (by rw [J]; exact Y) (Gd.ite (λh=>?_) (λh=>?_))
  ·have hkb:k<b.length:=by have:=Qv h; omega
   obtain ⟨x,O⟩:∃ x,b[k]? = some x:=⟨_,Qp hkb⟩;have hxw:=hb x (QB O);refine Gd.ix (by omega) (by rw [J]; exact O) (Z _ x.n.toNat ?_ (by show x.n.toNat<4294967296; omega) (rp O))
   rw [gX (n:=y.n) (by omega),gX (n:=c+y.n) (by omega),gX (n:=x.n) (by omega),gX (by omega)]
   omega
  ·have hkb:b.length<=k:=by have:=QE h; omega
   refine Z _ 0 ?_ (by decide) ?_
   ·rw [gX (n:=y.n) (by omega),gX (by omega)]; simp
   ·rw [QH (by omega),QH (by omega)]; simp
 ·rintro k ⟨l,c⟩ ⟨h0,h1,h2,h3,h4,h5⟩
  simp only at h1 h2 h3 h4 h5 ⊢;have hk:k=a.length:=by omega
  subst hk;have hln:((a.length:Int)).toNat=a.length:=by omega
  rw [hln,xq];refine Gd.iP (by omega) (Gd.ret ⟨?_,by simp [h1],?_⟩)
  ·intro z I
   rcases VD I with I | I
   ·exact h2 z I
   ·rw [I]; simp only; omega
  ·have e:=wG (l:=l) (k:=a.length) (v:=⟨c%4294967296⟩) (by omega)
   rw [QH (by simp; omega)] at e
   rw [e,uG,QR,Rv (by omega)]
   simp only;rw [Sh,QH hl] at h5;rw [show (c%4294967296).toNat=c.toNat by omega]
   exact h5
 ·rw [VE] at Y
  rw [Y.2]; simp
theorem M3 {a b:List bU} (Y:Wf a) (Z:Wf b) (J:a.length<=1000000) (O:b.length<=1000000):
  Gd (pJ a b) (λr=>Wf r/\r.length=max a.length b.length+1/\nv r=nv a+nv b):=by
 unfold pJ;refine Gd.ite (λh=>(EE Z Y (by have:=Qv h; omega) O).mono ?_) (λh=>(EE Y Z (by have:=QE h; omega) J).mono ?_)
 ·rintro r ⟨I,h2,h3⟩
  have:=Qv h;exact ⟨I,by omega,by omega⟩
 ·rintro r ⟨I,h2,h3⟩
  have:=QE h;exact ⟨I,by omega,by omega⟩
def vI (l:List bU):Prop:=∀ y,l.getLast? = some y->y.n≠0
theorem Fb {l:List bU} (J:Wf l) (ht:vI l) (I:l≠[]):WB ^ (l.length-1)<=nv l:=by
 rcases Vt l with h | ⟨a,y,h⟩
 ·exact absurd h I
 ·have h:l=a++[y]:=by simpa using h
  have Y:=ht y (by rw [h]; simp)
  have O:=J y (by rw [h]; simp)
  rw [h,uG,QJ,Ro,Nat.add_sub_cancel];have:WB ^ a.length*1<=WB ^ a.length*y.n.toNat:=VR _ (by omega)
  omega
theorem vf {a b:List bU} (J:Wf a) (O:Wf b) (I:vI b) (h:a.length<b.length):nv a<nv b:=by
 have Y:=sU J;have Z:=Fb O I (by intro e; rw [e] at h; simp at h)
 have h3:WB ^ a.length<=WB ^ (b.length-1):=VV (by decide) (by omega)
 omega
theorem Kn {a b:List bU} (J:Wf a) (O:Wf b):a.length=b.length->nv a=nv b->a=b:=by
 induction a generalizing b with
 | nil=>intro h _; exact (QZ h.symm).symm
 | cons x a ih=>
  intro h e;cases b with
  | nil=>simp at h
  | cons y b=>
   have Y:=J x (by simp); have Z:=O y (by simp)
   rw [nv,nv] at e;have e1:x.n.toNat=y.n.toNat:=by
    have:=Q9 (·%WB) e;simp only [Nat.add_mul_mod_self_left] at this;rw [Sj (by show x.n.toNat<4294967296; omega),Sj (by show y.n.toNat<4294967296; omega)] at this
    exact this
   have e2:nv a=nv b:=by
    rw [e1] at e;exact Nat.eq_of_mul_eq_mul_left (by decide) (Nat.add_left_cancel e)
   have:=ih (λz I=>J z (Qy _ I)) (λz I=>O z (Qy _ I)) (by simpa using h) e2
   cases x; cases y
   simp only at e1 Y Z;rw [this]
   congr 2; omega
theorem rf {l:List bU}{k:Nat}{x:bU} (h:l[k]? = some x):l.drop k=x::l.drop (k+1):=by
 obtain ⟨I,J⟩:=Qt.1 h;rw [Q0 I,J]
theorem wC {l:List bU}{k:Nat}{x:bU} (h:l[k]? = some x):nv l=nv (l.take k)+WB ^ k*(x.n.toNat+WB*nv (l.drop (k+1))):=by
 have I:=(Qt.1 h).1;have e:nv l=nv (l.take k++l.drop k):=by rw [RT]
 rw [e,DK,rf h,QR,Rv (by omega)]
 rfl
def O9 (r:Int) (x y:Nat):Prop:=(r<0↔x<y)/\(r=0↔x=y)
theorem Jy {a b : List bU} (ha : Wf a) (hb : Wf b) (hta : vI a) (htb : vI b) (hza : a.length ≤ 1000000) (hzb : b.length ≤ 1000000) : Gd (nR a b) (fun r => O9 r (nv a) (nv b)) := by
  unfold nR;refine Gd.ite (fun h => Gd.ret ?_) (fun h => ?_)
  · have h : ¬ (a.length : Int) = b.length := by simpa using h
    rw [bT ⟨by omega, by omega⟩]
    rcases Nat.lt_or_gt_of_ne (show a.length ≠ b.length by omega) with hl | hl
    · have := vf ha hb htb hl
      exact ⟨⟨fun _ => this, fun _ => by omega⟩, ⟨fun h => by omega, fun h => by omega⟩⟩
    · have := vf hb ha hta hl
      exact ⟨⟨fun h => by omega, fun h => by omega⟩, ⟨fun h => by omega, fun h => by omega⟩⟩
  · have hl : a.length = b.length := by have : (a.length : Int) = b.length := by simpa using h
                                        omega
    rw [bT ⟨by omega, by omega⟩]
    refine Gd.iL (fun (i : Int) => -1 ≤ i ∧ i < a.length ∧ a.drop (i + 1).toNat = b.drop (i + 1).toNat) (fun i => (i + 1).toNat) ?_ fT _ ⟨by omega, by omega, ?_⟩ (by simp only [fT]; omega)
    · rintro i nx ⟨h1, h2, Y⟩ hnx
      unfold rC;refine Gd.ite (fun hi => ?_) (fun hi => Gd.ret ?_)
      · have hi : 0 ≤ i := Qv hi
        obtain ⟨k, rfl⟩ : ∃ k : Nat, i = k := ⟨i.toNat, by omega⟩
        obtain ⟨x, hx⟩ : ∃ x, a[k]? = some x := ⟨_, Qp (by omega)⟩
        obtain ⟨y, hy⟩ : ∃ y, b[k]? = some y := ⟨_, Qp (by omega)⟩
        have hxw := ha x (QB hx); have hyw := hb y (QB hy)
        have O : ((k : Int)).toNat = k := by omega
        rw [show ((k : Int) + 1).toNat = k + 1 by omega] at Y
        have sa := wC hx;have sb := wC hy;rw [← Y] at sb;have la := sU (ha.take k); have lb := sU (hb.take k)
        rw [QR, Rv (by omega)] at la lb
        generalize nv (a.drop (k + 1)) = T at sa sb;generalize nv (a.take k) = ta at sa la;generalize nv (b.take k) = tb at sb lb;generalize WB ^ k = P at sa sb la lb;have I : ∀ (u v tu tv : Nat), u < v → tu < P → tu + P * (u + WB * T) < tv + P * (v + WB * T) := fun u v tu tv huv hu => by
          have : P * (u + 1) ≤ P * v := VR _ huv;rw [VO] at this;rw [VO, VO];omega
        refine Gd.ix (by omega) (by rw [O]; exact hx) (Gd.ix (by omega) (by rw [O]; exact hy) (Gd.ite (fun Z => ?_) (fun he => ?_)))
        · have Z : ¬ x.n = y.n := by simpa using Z
          refine Gd.ix (by omega) (by rw [O]; exact hx) (Gd.ix (by omega) (by rw [O]; exact hy) (Gd.ite (fun J => Gd.ret ?_) (fun J => Gd.ret ?_)))
          · have J : x.n < y.n := Qv J
            have := I x.n.toNat y.n.toNat ta tb (by omega) la
            rw [← sa, ← sb] at this;exact ⟨⟨fun _ => this, fun _ => by omega⟩, ⟨fun h => by omega, fun h => by omega⟩⟩
          · have J : ¬ x.n < y.n := QE J
            have := I y.n.toNat x.n.toNat tb ta (by omega) lb
            rw [← sa, ← sb] at this;exact ⟨⟨fun h => by omega, fun h => by omega⟩, ⟨fun h => by omega, fun h => by omega⟩⟩
        · have he : x.n = y.n := by simpa using he
          rw [bT ⟨by omega, by omega⟩]
          refine hnx _ ⟨by omega, by omega, ?_⟩ (by omega)
          rw [show ((k : Int) - 1 + 1).toNat = k by omega, rf hx, rf hy, Y]
          have : x = y := by cases x; cases y; simp only at he; rw [he]
          rw [this]
      · have hi : ¬ 0 ≤ i := QE hi
        have : (i + 1).toNat = 0 := by omega
        rw [this, RN, RN] at Y;rw [Y];exact ⟨⟨fun h => by omega, fun h => by omega⟩, ⟨fun _ => rfl, fun _ => rfl⟩⟩
    · rw [show ((a.length : Int) - 1 + 1).toNat = a.length by omega, Tj, Vs (by omega)]
theorem KS {a b:List bU} (ha:Wf a) (hb:Wf b) (hle:nv b<=nv a) (hl:b.length<=a.length) (hz:a.length<=1000000):
  Gd (nU a b) (λr=>Wf r/\r.length=a.length/\nv r=nv a-nv b):=by
 unfold nU;refine Gd.nd ⟨by omega,by omega⟩ ?_
 refine Gd.kW (λm k (z:List bU×Int)=>k+m=a.length/\z.1.length=a.length/\Wf z.1/\-1<=z.2/\z.2<=0/\(nv (z.1.take k):Int)+(WB ^ k:Nat)*z.2=nv (a.take k)-nv (b.take k)) ?_ ?_ _ 0 _ ⟨by simp,by simp,λy hy=>?_,by show (-1:Int)<=0; omega,S1 _,by simp [nv]⟩
 ·rintro m k ⟨l,c⟩ nx ⟨h0,J,O,h3,h4,Y⟩ hnx
  simp only at J O h3 h4 Y hnx ⊢;have hka:k<a.length:=by omega
  have I:((k:Int)).toNat=k:=by omega
  obtain ⟨y,hy⟩:∃ y,a[k]? = some y:=⟨_,Qp hka⟩;have hyw:=ha y (QB hy);have fin:∀ (n:Int) (x:Nat),n=c+y.n-x->x<WB->nv (b.take (k+1))=nv (b.take k)+WB ^ k*x->Gd (lV l nx k n) _:=λn x hn Z hb1=>by
   unfold lV;rw [KL,I,xq];have Z:x<4294967296:=Z;refine Gd.iP (by omega) (hnx _ ⟨by omega,by simp [J],?_,by simp only; omega,by simp only; omega,?_⟩)
   ·intro z hz
    rcases VD hz with hz | hz
    ·exact O z hz
    ·rw [hz]; simp only; omega
   ·simp only
    rw [wG (by omega),uG,QR,Rv (by omega),rp hy,hb1]
    simp only;have e1:((n%4294967296).toNat:Int)+4294967296*(n / 4294967296)=c+y.n.toNat-x:=by omega
    have e2:((WB ^ k:Nat):Int)*((n%4294967296).toNat:Int)+((WB ^ (k+1):Nat):Int)*(n / 4294967296)=((WB ^ k:Nat):Int)*c+((WB ^ k:Nat):Int)*(y.n.toNat:Int)-((WB ^ k:Nat):Int)*(x:Int):=by
     rw [VZ,Rg,Vj,<- Vi,show ((WB:Nat):Int)=4294967296 from rfl,e1,Vk,Vi]
    simp only [Vl,Rg] at *
    omega
  unfold rE;refine Gd.ix (by omega) (by rw [I]; exact hy) (Gd.ite (λh=>?_) (λh=>?_))
  ·have hkb:k<b.length:=by have:=Qv h; omega
   obtain ⟨x,Z⟩:∃ x,b[k]? = some x:=⟨_,Qp hkb⟩;have hxw:=hb x (QB Z);refine Gd.ix (by omega) (by rw [I]; exact Z) (fin _ x.n.toNat ?_ (by show x.n.toNat<4294967296; omega) (rp Z))
   rw [bT (n:=y.n) (by omega),bT (n:=c+y.n) (by omega),bT (n:=x.n) (by omega),bT (by omega)]
   omega
  ·have hkb:b.length<=k:=by have:=QE h; omega
   refine fin _ 0 ?_ (by decide) ?_
   ·rw [bT (n:=y.n) (by omega),bT (by omega)]; simp
   ·rw [QH (by omega),QH (by omega)]; simp
 ·rintro k ⟨l,c⟩ ⟨h0,J,O,h3,h4,Y⟩
  simp only at J O h3 h4 Y ⊢;have hk:k=a.length:=by omega
  subst hk;rw [Sh,QH hl,QH (by omega)] at Y
  have hlt:=sU O;rw [J] at hlt;have hc:c=0:=by
   rcases (show c = -1\/c=0 by omega) with h | h
   ·exfalso; rw [h] at Y; omega
   ·exact h
  rw [hc] at Y;exact Gd.ret ⟨O,J,by omega⟩
 ·rw [VE] at hy
  rw [hy.2]; simp
theorem s5.tp {a:LI} (h:s5 a):vI a.words:=h.top
theorem xY {r:LI}{m:Bool}{n:Nat} (O:nv r.words=n) (J:r.minus=true↔m=true/\n≠0):gL r=if m=true then -(n:Int) else n:=by
 unfold gL;rw [O]
 by_cases I:r.minus=true
 ·rw [Qx I,Qx (J.1 I).1]
 ·rw [Qw I]
  by_cases hm:m=true
  ·have:n=0:=by
    by_cases hn:n=0
    ·exact hn
    ·exact absurd (J.2 ⟨hm,hn⟩) I
   rw [Qx hm,this]; rfl
  ·rw [Qw hm]
theorem DI {a:LI} (h:s5 a) (J:a.words.length<=1000000):Gd (lY a) (λr=>s5 r/\r.words.length<=a.words.length/\gL r = -gL a):=by
 unfold lY;refine Gd.eM (tK (!a.minus) a.words h.wf J) (λr I=>Gd.ret ⟨I.1,I.2.1,?_⟩);rw [xY I.2.2.1 I.2.2.2];unfold gL;cases a.minus <;> simp
theorem Dy {a b:LI} (O:s5 a) (Y:s5 b) (hza:a.words.length<=900000) (hzb:b.words.length<=900000):
  Gd (lX a b) (λr=>s5 r/\r.words.length<=max a.words.length b.words.length+1/\gL r=gL a+gL b):=by
 unfold lX;refine Gd.ite (λh=>?_) (λh=>?_)
 ·have h:a.minus=b.minus:=Qv h
  refine Gd.eM (M3 O.wf Y.wf (by omega) (by omega)) (λw Z=>Gd.eM (tK a.minus w Z.1 (by omega)) (λr J=>Gd.ret ⟨J.1,by omega,?_⟩))
  rw [xY J.2.2.1 J.2.2.2,Z.2.2];unfold gL;rw [<- h];cases a.minus <;> simp <;> omega
 ·have h:a.minus≠b.minus:=QE h
  refine Gd.eM (Jy O.wf Y.wf O.tp Y.tp (by omega) (by omega)) (λc hc=>Gd.ite (λh0=>?_) (λh0=>?_))
  ·have h0:0<=c:=Qv h0
   have hle:nv b.words<=nv a.words:=by
    have:=hc.1; omega
   have I:b.words.length<=a.words.length:=by
    rcases Sr a.words.length b.words.length with hlt | hge
    ·have:=vf O.wf Y.wf Y.tp hlt; omega
    ·exact hge
   refine Gd.eM (KS O.wf Y.wf hle I (by omega)) (λw Z=>Gd.eM (tK a.minus w Z.1 (by omega)) (λr J=>Gd.ret ⟨J.1,by omega,?_⟩))
   rw [xY J.2.2.1 J.2.2.2,Z.2.2];unfold gL;cases ea:a.minus <;> cases eb:b.minus <;> first | (rw [ea,eb] at h; exact absurd rfl h) | (simp; omega)
  ·have h0:¬ 0<=c:=QE h0
   have hlt:nv a.words<nv b.words:=hc.1.1 (by omega)
   have I:a.words.length<=b.words.length:=by
    rcases Sr b.words.length a.words.length with hl | hge
    ·have:=vf Y.wf O.wf O.tp hl; omega
    ·exact hge
   refine Gd.eM (KS Y.wf O.wf (by omega) I (by omega)) (λw Z=>Gd.eM (tK b.minus w Z.1 (by omega)) (λr J=>Gd.ret ⟨J.1,by omega,?_⟩))
   rw [xY J.2.2.1 J.2.2.2,Z.2.2];unfold gL;cases ea:a.minus <;> cases eb:b.minus <;> first | (rw [ea,eb] at h; exact absurd rfl h) | (simp; omega)
theorem Lz {a b:LI} (Y:s5 a) (Z:s5 b) (I:a.words.length<=900000) (hzb:b.words.length<=900000):
  Gd (oH a b) (λr=>s5 r/\r.words.length<=max a.words.length b.words.length+1/\gL r=gL a-gL b):=by
 unfold oH;refine Gd.eM (DI Z (by omega)) (λc J=>Gd.eM (Dy Y J.1 I (by omega)) (λr O=>Gd.ret ⟨O.1,by omega,by rw [O.2.2,J.2.2]; omega⟩))
theorem BU {l:List bU}{k:Nat}{x v:bU} (h:l[k]? = some x):nv (l.set k v)+WB ^ k*x.n.toNat=nv l+WB ^ k*v.n.toNat:=by
 have O:=(Qt.1 h).1;have I:=wC h;have J:nv (l.set k v)=nv (l.take k)+WB ^ k*(v.n.toNat+WB*nv (l.drop (k+1))):=by
  have:=wC (l:=l.set k v) (k:=k) (x:=v) (QU O);rw [Ti (QM _),SY (by omega)] at this
  exact this
 rw [VO] at I J;omega
theorem Wf.set {l:List bU} (h:Wf l) {k:Nat}{v:Int} (J:0<=v/\v<4294967296):Wf (l.set k ⟨v⟩):=λz I=>by
 rcases VD I with I | I
 ·exact h z I
 ·rw [I]; exact J
theorem Kh {nz I J P W c vh x y s B T:Nat} (Y:I+P*vh=nz+P*(s%W)) (hs:s=c+vh+x*y) (Z:nz+P*c=J+x*T*B):I+P*W*(s / W)=J+x*T*B+P*x*y:=by
 have O:s%W+W*(s / W)=s:=VN s W;have e:P*(s%W)+P*(W*(s / W))=P*s:=by rw [<- VO,O]
 have e2:P*s=P*c+P*vh+P*(x*y):=by rw [hs,VO,VO]
 rw [VP P W,VP P x];omega
theorem vR {a b:LI} (ha:s5 a) (hb:s5 b) (hz:a.words.length+b.words.length<=900000):
  Gd (fI a b) (λr=>s5 r/\r.words.length<=a.words.length+b.words.length/\gL r=gL a*gL b):=by
 have wN:i64.wrap ((a.words.length:Int)+(b.words.length:Int))=((a.words.length+b.words.length:Nat):Int):=by rw [bT ⟨by omega,by omega⟩]; omega
 unfold fI;rw [wN];refine Gd.nd ⟨by omega,by omega⟩ ?_
 refine Gd.dO (λi ys (z:List bU)=>ys=a.words.drop i/\i<=a.words.length/\z.length=a.words.length+b.words.length/\Wf z/\nv z=nv (a.words.take i)*nv b.words/\∀ q,i+b.words.length<=q->∀ y,z[q]? = some y->y.n=0) ?_ ?_ _ 0 _ ⟨by simp,by omega,by simp; omega,λy J=>?_,by rw [Kr]; simp [nv],λq _ y J=>?_⟩
 ·rintro i x ys z0 nx ⟨e0,e1,e2,e3,e4,e5⟩ hnx
  have hi:i<a.words.length:=by
   have:=Q9 List.length e0;simp at this; omega
  have hx:a.words[i]? = some x:=by
   have:=Q9 (·[0]?) e0;simpa [Q_] using this.symm
  have hys:ys=a.words.drop (i+1):=by
   have:=Q9 (List.drop 1) e0;simpa using this
  have hxw:=ha.wf x (QB hx);unfold sh;refine Gd.dO (λk bs (z:List bU×Int)=>bs=b.words.drop k/\k<=b.words.length/\z.1.length=a.words.length+b.words.length/\Wf z.1/\0<=z.2/\z.2<4294967296/\nv z.1+WB ^ (i+k)*z.2.toNat=nv z0+x.n.toNat*nv (b.words.take k)*WB ^ i/\∀ q,i+k<=q->z.1[q]? = z0[q]?) ?_ ?_ _ 0 _ ⟨by simp,by omega,e2,e3,S1 _,by show (0:Int)<4294967296; omega,by simp [nv],λq _=>rfl⟩
  ·rintro k y bs ⟨l,c⟩ nx2 ⟨f0,f1,f2,f3,f4,f5,f6,f7⟩ O
   simp only at f2 f3 f4 f5 f6 f7 O ⊢;have hk:k<b.words.length:=by
    have:=Q9 List.length f0;simp at this; omega
   have J:b.words[k]? = some y:=by
    have:=Q9 (·[0]?) f0;simpa [Q_] using this.symm
   have hbs:bs=b.words.drop (k+1):=by
    have:=Q9 (List.drop 1) f0;simpa using this
   have Z:=hb.wf y (QB J);obtain ⟨o,Y⟩:∃ o,l[i+k]? = some o:=⟨_,Qp (by omega)⟩
   have how:=f3 o (QB Y);have wj:i64.wrap ((i:Int)+(k:Int))=((i+k:Nat):Int):=by rw [bT ⟨by omega,by omega⟩]; omega
   have I:(((i+k:Nat):Int)).toNat=i+k:=by omega
   have hxy0:0<=x.n*y.n:=Int.mul_nonneg hxw.1 Z.1;have hxy:x.n*y.n<=4294967295*4294967295:=Int.mul_le_mul (by omega) (by omega) Z.1 (by omega)
   have hs:u64.wrap (c+(u64.wrap ((u64.wrap (o.n))+(u64.wrap ((u64.wrap (x.n))*(u64.wrap (y.n)))))))=c+o.n+x.n*y.n:=by
    rw [gX (n:=o.n) (by omega),gX (n:=x.n) (by omega),gX (n:=y.n) (by omega),gX (n:=x.n*y.n) (by omega),gX (n:=o.n+x.n*y.n) (by omega),gX (by omega)]
    omega
   unfold si;rw [wj];refine Gd.ix (by omega) (by rw [I]; exact Y) (Gd.ix (by omega) (by rw [I]; exact Y) ?_)
   rw [hs,I,CY,xq];have hxyn:x.n*y.n=((x.n.toNat*y.n.toNat:Nat):Int):=by
    rw [Rg,TN hxw.1,TN Z.1]
   have hsn:c+o.n+x.n*y.n=((c.toNat+o.n.toNat+x.n.toNat*y.n.toNat:Nat):Int):=by rw [hxyn]; omega
   refine O _ ⟨hbs,by omega,by simp [f2],f3.set (by omega),by simp only; omega,by simp only; omega,?_,λq hq=>?_⟩
   ·simp only
    have g:=BU (l:=l) (k:=i+k) (x:=o) (v:=⟨(c+o.n+x.n*y.n)%4294967296⟩) Y;simp only at g;have g1:((c+o.n+x.n*y.n)%4294967296).toNat=(c.toNat+o.n.toNat+x.n.toNat*y.n.toNat)%WB:=by rw [hsn]; show _=_%4294967296; omega
    have g2:((c+o.n+x.n*y.n) / 4294967296).toNat=(c.toNat+o.n.toNat+x.n.toNat*y.n.toNat) / WB:=by rw [hsn]; show _=_ / 4294967296; omega
    rw [g1] at g;have:=Kh g rfl f6;rw [g2,show i+(k+1)=(i+k)+1 by omega,VZ,this,rp J,VT]
    rw [VO,QO,SN]
    congr 2
    rw [VQ (WB ^ i) (WB ^ k),VQ (WB ^ k*WB ^ i) x.n.toNat,VP,VP,VP,VP,VQ y.n.toNat,VQ (WB ^ i) y.n.toNat]
   ·simp only
    rw [QQ (by omega)]
    exact f7 q (by omega)
  ·rintro k ⟨l,c⟩ ⟨f0,f1,f2,f3,f4,f5,f6,f7⟩
   simp only at f2 f3 f4 f5 f6 f7 ⊢;have hk:k=b.words.length:=by
    have:=Q9 List.length f0;simp at this; omega
   subst hk;have wj:i64.wrap ((i:Int)+(b.words.length:Int))=((i+b.words.length:Nat):Int):=by rw [bT ⟨by omega,by omega⟩]; omega
   have I:(((i+b.words.length:Nat):Int)).toNat=i+b.words.length:=by omega
   obtain ⟨o,Y⟩:∃ o,l[i+b.words.length]? = some o:=⟨_,Qp (by omega)⟩
   have ho0:o.n=0:=e5 _ (QM _) o (by rw [<- f7 _ (QM _)]; exact Y)
   rw [wj];refine Gd.ix (by omega) (by rw [I]; exact Y) ?_
   rw [I,xq,show c%4294967296=c by omega]
   refine hnx _ ⟨hys,by omega,by simp [f2],f3.set (by omega),?_,λq hq y J=>?_⟩
   ·have g:=BU (l:=l) (k:=i+b.words.length) (x:=o) (v:=⟨c⟩) Y
    simp only [ho0] at g;rw [Sh] at f6;rw [rp hx,QO,<- e4];have e:WB ^ i*x.n.toNat*nv b.words=x.n.toNat*nv b.words*WB ^ i:=by rw [VQ (WB ^ i),VP,VQ (WB ^ i),<- VP]
    rw [e];simp at g;omega
   ·rw [QQ (by omega),f7 _ (by omega)] at J
    exact e5 _ (by omega) y J
 ·rintro i z ⟨e0,e1,e2,e3,e4,e5⟩
  have hi:i=a.words.length:=by
   have:=Q9 List.length e0;simp at this; omega
  subst hi;rw [Sh] at e4;refine Gd.eM (tK _ z e3 (by omega)) (λr hr=>Gd.ret ⟨hr.1,by omega,?_⟩)
  rw [xY hr.2.2.1 hr.2.2.2,e4];unfold gL;cases a.minus <;> cases b.minus <;> simp [Int.mul_neg,Int.neg_mul]
 ·rw [VE] at J
  rw [J.2]; simp
 ·have:=QB J
  rw [VE] at this;rw [this.2]
theorem zt {r y:Int} (I:0<=r/\r<4294967296) (J:0<=y/\y<4294967296):
  u64.wrap ((BitVec.ofInt (u64).bits (t_ .u64 r 32) ||| BitVec.ofInt (u64).bits (u64.wrap y)).toNat)=r*4294967296+y:=by
 obtain ⟨n,rfl⟩:∃ n:Nat,r=n:=⟨r.toNat,by omega⟩
 obtain ⟨m,rfl⟩:∃ m:Nat,y=m:=⟨y.toNat,by omega⟩
 have e1:t_ .u64 (n:Int) 32=((n*4294967296:Nat):Int):=by
  unfold t_;rw [show (min (32:Int).toNat u64.bits)=32 by decide,Ef]
  show (n:Int)*4294967296%18446744073709551616=_;omega
 rw [e1,gX (n:=(m:Int)) (by omega)]
 show u64.wrap (((BitVec.ofInt 64 ((n*4294967296:Nat):Int) ||| BitVec.ofInt 64 ((m:Nat):Int)).toNat:Nat):Int)=_;rw [Vc,Vc,BitVec.toNat_or,Vd,Vd,Sj (by omega),Sj (by omega)]
 have e2:n*4294967296 ||| m=n*4294967296+m:=by
  have:=Nat.shiftLeft_add_eq_or_of_lt (i:=32) (b:=m) (by omega) n
  rw [Nat.shiftLeft_eq] at this;exact this.symm
 rw [e2,gX (by omega)]
 omega
theorem IG {r y d:Int} (hr:0<=r/\r<d) (hy:0<=y/\y<4294967296) (hd:0<d/\d<4294967296):
  ∃ q m:Nat,Int.tdiv (r*4294967296+y) d=q/\Int.tmod (r*4294967296+y) d=m/\q<4294967296/\(m:Int)<d/\m+d.toNat*q=WB*r.toNat+y.toNat:=by
 obtain ⟨I,rfl⟩:∃ I:Nat,d=I:=⟨d.toNat,by omega⟩
 obtain ⟨J,rfl⟩:∃ J:Nat,r=J:=⟨r.toNat,by omega⟩
 obtain ⟨Y,rfl⟩:∃ Y:Nat,y=Y:=⟨y.toNat,by omega⟩
 have O:0<I:=by omega
 have e:∀ W:Nat,Y<W->∃ q m:Nat,Int.tdiv ((J:Int)*W+Y) I=q/\Int.tmod ((J:Int)*W+Y) I=m/\q<W/\m<I/\m+I*q=W*J+Y:=λW hW=>by
  have hN:J*W+Y<I*W:=by
   have:(J+1)*W<=I*W:=QI _ (by omega)
   rw [QO] at this;omega
  have hc:(J:Int)*W+Y=((J*W+Y:Nat):Int):=by rw [Vl,Rg]
  rw [hc];refine ⟨(J*W+Y) / I,(J*W+Y)%I,rfl,rfl,?_,Tn _ O,?_⟩
  ·rw [VK O,VQ W I]; exact hN
  ·rw [VN,VQ J W]
 obtain ⟨q,m,Z,h2,h3,h4,h5⟩:=e WB (by show Y<4294967296; omega)
 refine ⟨q,m,Z,h2,h3,by omega,?_⟩
 simp only [Qr];exact h5
theorem IH {q I B m Y J:Nat} (O:m+I*q=WB*J+Y):(q+WB*B)*I+m=Y+WB*(B*I+J):=by
 rw [QO,VO,VP WB,VQ q I];generalize I*q=Z at O;generalize WB*J=X at O ⊢;generalize WB*(B*I)=T;omega
theorem Fq {a:List bU} (ha:Wf a) (hz:a.length<=1000000) {d:Int} (hd:0<d/\d<4294967296):
  Gd (nT a d) (λr=>Wf r.1/\r.1.length=a.length/\nv r.1=nv a / d.toNat/\r.2=(nv a%d.toNat:Nat)):=by
 unfold nT;refine Gd.nd ⟨by omega,by omega⟩ ?_
 rw [bT ⟨by omega,by omega⟩]
 refine Gd.iL (λ(z:List bU×Int×Int)=>-1<=z.2.2/\z.2.2<a.length/\z.1.length=a.length/\Wf z.1/\0<=z.2.1/\z.2.1<d/\nv (z.1.drop (z.2.2+1).toNat)*d.toNat+z.2.1.toNat=nv (a.drop (z.2.2+1).toNat)) (λz=>(z.2.2+1).toNat) ?_ fT _ ⟨by simp only; omega,by simp only; omega,by simp,λy J=>?_,S1 _,by simp only; omega,?_⟩ (by simp only [fT]; omega)
 ·rintro ⟨l,r,i⟩ nx ⟨h1,h2,h3,h4,h5,h6,I⟩ Y
  simp only at h1 h2 h3 h4 h5 h6 I Y ⊢;unfold rD;refine Gd.ite (λhi=>?_) (λhi=>Gd.ret ?_)
  ·have hi:0<=i:=Qv hi
   obtain ⟨k,rfl⟩:∃ k:Nat,i=k:=⟨i.toNat,by omega⟩
   obtain ⟨y,J⟩:∃ y,a[k]? = some y:=⟨_,Qp (by omega)⟩
   have Z:=ha y (QB J);have O:((k:Int)).toNat=k:=by omega
   rw [gX (n:=d) (by omega)]
   refine Gd.ix (by omega) (by rw [O]; exact J) (Gd.nd (by omega) (Gd.iP (show k<l.length by omega) (Gd.nd (by omega) ?_)))
   rw [zt ⟨h5,by omega⟩ Z]
   rw [show ((k:Int)+1).toNat=k+1 by omega] at I
   obtain ⟨q,m,e1,e2,hqlt,hmlt,hdm⟩:=IG ⟨h5,h6⟩ Z hd;rw [e1,e2,O,gX (n:=(q:Int)) (by omega),xq,bT ⟨by omega,by omega⟩,show (q:Int)%4294967296=(q:Int) by omega]
   refine Y _ ⟨by simp only; omega,by simp only; omega,by simp [h3],h4.set (by omega),by simp only; omega,by simp only; omega,?_⟩ (by simp only; omega)
   simp only;rw [show ((k:Int)-1+1).toNat=k by omega,rf J,rf (l:=l.set k _) (QU (by omega)),SY (by omega),nv,nv,<- I]
   simp only [Qr];exact IH hdm
  ·have hi:¬ 0<=i:=QE hi
   rw [show (i+1).toNat=0 by omega,RN,RN] at I
   have hdn:0<d.toNat:=by omega
   refine ⟨h4,h3,?_,?_⟩
   ·simp only
    rw [<- I,VQ,Nat.mul_add_div hdn,VJ (by omega)]; rfl
   ·simp only
    rw [xq,<- I,VQ,Nat.mul_add_mod,Sj (by omega)]
    omega
 ·rw [VE] at J
  rw [J.2]; simp
 ·simp only
  rw [show ((a.length:Int)-1+1).toNat=a.length by omega,Tj,Vs (by simp)]
  simp [nv]
theorem BW {n:Int} (h:-9223372036854775808<=n/\n<=9223372036854775807):Gd (mZ n) (λr=>s5 r/\r.words.length<=2/\gL r=n):=by
 have I:∀ m:Int,0<=m->m<18446744073709551616->(m=n/\0<=n\/m = -n/\n<0)->Gd (qC n m) (λr=>s5 r/\r.words.length<=2/\gL r=n):=λm J h1 Z=>by
  unfold qC;rw [CY,xq,xq];have hw:Wf [⟨m%4294967296⟩,⟨m / 4294967296%4294967296⟩]:=λy Y=>by
   rcases Ra.1 Y with rfl | Y
   ·simp only; omega
   ·rw [QY] at Y; subst Y; simp only; omega
  have hv:nv [⟨m%4294967296⟩,⟨m / 4294967296%4294967296⟩]=m.toNat:=by
   simp only [nv];show (m%4294967296).toNat+4294967296*((m / 4294967296%4294967296).toNat+4294967296*0)=_;omega
  refine Gd.eM (tK _ _ hw (by simp)) (λr O=>Gd.ret ⟨O.1,O.2.1,?_⟩)
  rw [xY O.2.2.1 O.2.2.2,hv];rcases Z with ⟨rfl,Z⟩ | ⟨rfl,Z⟩
  ·rw [Qw (by simp; omega)]; omega
  ·rw [Qx (by simp; omega)]; omega
 unfold mZ;refine Gd.ite (λJ=>I _ ?_ ?_ (.inr ⟨?_,?_⟩)) (λJ=>I _ ?_ ?_ (.inl ⟨?_,?_⟩))
 ·rw [Ef]; omega
 ·rw [Ef]; omega
 ·have:=Qv J
  rw [Ef,Ef]; omega
 ·exact Qv J
 ·rw [Ef]; omega
 ·rw [Ef]; omega
 ·have:=QE J
  rw [Ef]; omega
 ·have:=QE J; omega
theorem NA {c x s:Nat} (hs:s<=31) (I:c<2 ^ s) (Y:x<4294967296):
  u64.wrap ((BitVec.ofInt (u64).bits (c:Int) ||| BitVec.ofInt (u64).bits (t_ .u64 (u64.wrap (x:Int)) (s:Int))).toNat)=((c+x*2 ^ s:Nat):Int):=by
 have J:(2:Nat) ^ s<=2147483648:=VV (by decide) hs
 have O:x*2 ^ s<=4294967295*2147483648:=Nat.mul_le_mul (by omega) J
 rw [gX (n:=(x:Int)) (by omega)]
 have e1:t_ .u64 (x:Int) (s:Int)=((x*2 ^ s:Nat):Int):=by
  unfold t_;rw [show (min ((s:Int)).toNat u64.bits)=s by show min ((s:Int)).toNat 64=s; omega]
  rw [show (x:Int)*2 ^ s=((x*2 ^ s:Nat):Int) by rw [Rg,Int.natCast_pow]; rfl]
  rw [gX (by omega)]
 rw [e1];show u64.wrap (((BitVec.ofInt 64 ((c:Nat):Int) ||| BitVec.ofInt 64 ((x*2 ^ s:Nat):Int)).toNat:Nat):Int)=_;rw [Vc,Vc,BitVec.toNat_or,Vd,Vd,Sj (by omega),Sj (by omega)]
 have e2:c ||| x*2 ^ s=c+x*2 ^ s:=by
  have:=Nat.shiftLeft_add_eq_or_of_lt (i:=s) (b:=c) I x;rw [Nat.shiftLeft_eq] at this;rw [Nat.or_comm,<- this,S3]
 rw [e2,gX (by omega)]
theorem GB {A P c x S W out o I:Nat} (h:out+P*c=A*S) (J:o+W*I=c+x*S):(out+P*o)+P*W*I=(A+P*x)*S:=by
 have e:P*o+P*(W*I)=P*c+P*(x*S):=by rw [<- VO,J,VO]
 rw [VP P W,QO,VP P x];omega
theorem B7 {a:List bU} (ha:Wf a) (hz:a.length<=1000000) {s:Nat} (hs:s<=31):
  Gd (oL a (s:Int)) (λr=>Wf r/\r.length=a.length+1/\nv r=nv a*2 ^ s/\∃ t,r[a.length]? = some t/\t.n.toNat<2 ^ s):=by
 have w1:i64.wrap ((a.length:Int)+1)=((a.length+1:Nat):Int):=by rw [bT ⟨by omega,by omega⟩]; omega
 have hp:(2:Nat) ^ s<=2147483648:=VV (by decide) hs
 have hp0:0<(2:Nat) ^ s:=VY (by decide)
 unfold oL;rw [w1];refine Gd.nd ⟨by omega,by omega⟩ ?_
 refine Gd.dO (λk ys (z:List bU×Int)=>ys=a.drop k/\k<=a.length/\z.1.length=a.length+1/\Wf z.1/\0<=z.2/\z.2.toNat<2 ^ s/\nv (z.1.take k)+WB ^ k*z.2.toNat=nv (a.take k)*2 ^ s) ?_ ?_ _ 0 _ ⟨by simp,by omega,by simp,λy hy=>?_,S1 _,by simpa using hp0,by simp [nv]⟩
 ·rintro k x ys ⟨l,c⟩ nx ⟨Z,h1,h2,h3,h4,Y,I⟩ hnx
  simp only at h2 h3 h4 Y I hnx ⊢;have hk:k<a.length:=by
   have:=Q9 List.length Z;simp at this; omega
  have hx:a[k]? = some x:=by
   have:=Q9 (·[0]?) Z;simpa [Q_] using this.symm
  have hys:ys=a.drop (k+1):=by
   have:=Q9 (List.drop 1) Z;simpa using this
  have hxw:=ha x (QB hx);obtain ⟨cn,rfl⟩:∃ cn:Nat,c=cn:=⟨c.toNat,by omega⟩
  obtain ⟨X,hX⟩:∃ X:Nat,x.n=X:=⟨x.n.toNat,by omega⟩
  have O:((k:Int)).toNat=k:=by omega
  unfold sn;rw [hX];simp only [Qr] at Y I;rw [NA hs Y (by omega)]
  refine Gd.nd (by omega) (Gd.iP (show k<l.length by omega) ?_)
  rw [O,xq,CY];have hb:cn+X*2 ^ s<4294967296*2 ^ s:=by
   have:(X+1)*2 ^ s<=4294967296*2 ^ s:=QI _ (by omega)
   rw [QO] at this;omega
  have J:=VN (cn+X*2 ^ s) WB;have hq:(cn+X*2 ^ s) / WB<2 ^ s:=by
   rw [VK (by decide),VQ (2 ^ s)]; exact hb
  have e1:((cn+X*2 ^ s:Nat):Int)%4294967296=(((cn+X*2 ^ s)%WB:Nat):Int):=rfl;have e2:((cn+X*2 ^ s:Nat):Int) / 4294967296=(((cn+X*2 ^ s) / WB:Nat):Int):=rfl;have hm:(cn+X*2 ^ s)%WB<WB:=Tn _ (by decide)
  rw [e1,e2];generalize (cn+X*2 ^ s)%WB=o at J hm;generalize (cn+X*2 ^ s) / WB=c' at J hq;refine hnx _ ⟨hys,by omega,by simp [h2],h3.set ⟨by omega,by have:o<4294967296:=hm; omega⟩,by simp only; omega,by simp only [Qr]; exact hq,?_⟩
  simp only;rw [wG (by omega),uG,QR,Rv (by omega),rp hx,hX,VZ]
  simp only [Qr];exact GB I J
 ·rintro k ⟨l,c⟩ ⟨Z,h1,h2,h3,h4,Y,I⟩
  simp only at h2 h3 h4 Y I ⊢;have hk:k=a.length:=by
   have:=Q9 List.length Z;simp at this; omega
  subst hk;have O:((a.length:Int)).toNat=a.length:=by omega
  rw [O,xq,show c%4294967296=c by omega]
  refine Gd.iP (by omega) (Gd.ret ⟨h3.set (by omega),by simp [h2],?_,⟨⟨c⟩,QU (by omega),Y⟩⟩)
  have e:=wG (l:=l) (k:=a.length) (v:=⟨c⟩) (by omega)
  rw [QH (by simp; omega)] at e
  rw [e,uG,QR,Rv (by omega)]
  rw [Sh] at I;exact I
 ·rw [VE] at hy
  rw [hy.2]; simp
section
variable {W R v1 v2 vl u2 ul top q V U:Nat}
structure GM (W R v1 v2 vl u2 ul top V U:Nat):Prop where
 V:V=(v1*W+v2)*R+vl
 U:U=(top*W+u2)*R+ul
 vl:vl<R
 ul:ul<R
 u2:u2<W
 v2:v2<W
theorem GM.NG (h:GM W R v1 v2 vl u2 ul top V U) (hq:q*V<=U):q*v1<=top:=by
 rcases Sr top (q*v1) with J | I
 ·exfalso
  have O:(top+1)*(W*R)<=q*v1*(W*R):=QI _ J;have Y:v1*(W*R)<=V:=by
   rw [h.V,QO,VP v1]; omega
  have h3:q*(v1*(W*R))<=q*V:=VR _ Y;have h4:U<(top+1)*(W*R):=by
   have e1:(u2+1)*R<=W*R:=QI _ h.u2;rw [QO] at e1;have Z:=h.ul;rw [h.U,QO,VP top,QO top];omega
  rw [VP q] at O;omega
 ·exact I
theorem GM.DD (h:GM W R v1 v2 vl u2 ul top V U) (hq:q*V<=U):q*(v1*W+v2)<=top*W+u2:=by
 rcases Sr (top*W+u2) (q*(v1*W+v2)) with J | I
 ·exfalso
  have O:(top*W+u2+1)*R<=q*(v1*W+v2)*R:=QI _ J;have Y:(v1*W+v2)*R<=V:=by rw [h.V]; omega
  have h3:q*((v1*W+v2)*R)<=q*V:=VR _ Y;have Z:=h.ul;have hU:=h.U;rw [QO _ 1] at O;rw [VP q] at O;omega
 ·exact I
theorem GM.Pp (h:GM W R v1 v2 vl u2 ul top V U) {g:Nat} (J:g<=W) (O:1<=v1) (hl:g*(v1*W+v2)<=top*W+u2):g*V<U+V:=by
 have Y:g*(v1*W+v2)*R<=(top*W+u2)*R:=QI _ hl;have Z:g*vl<=W*vl:=QI _ J;have I:W*(vl+1)<=W*R:=VR _ h.vl;have h4:1*(W*R)<=v1*(W*R):=QI _ O;have e1:g*V=g*(v1*W+v2)*R+g*vl:=by rw [h.V,VO,VP]
 have e2:V=v1*(W*R)+v2*R+vl:=by rw [h.V,QO,VP]
 have hU:=h.U;have hR:0<R:=by have:=h.vl; omega
 have hW:0<W:=by have:=h.u2; omega
 rw [VO,S4] at I;omega
structure Gs (W R v1 v2 vl u2 ul top V U q g rest:Nat):Prop where
 ge:q<=g
 eq:g*v1+rest=top
 rest:rest<W
 le:g<=W+1
structure N2 (W V U q g:Nat):Prop where
 ge:q<=g
 le:g<=q+1
 w:g<=W
theorem GM.out (h:GM W R v1 v2 vl u2 ul top V U) {g:Nat} (hq:U<(q+1)*V) (J:q<=g) (Y:g<=W) (hv:1<=v1) (hl:g*(v1*W+v2)<=top*W+u2):N2 W V U q g:=by
 refine ⟨J,?_,Y⟩;have h1:=h.Pp Y hv hl;rcases Sr (q+1) g with O | I
 ·exfalso
  have Z:(q+2)*V<=g*V:=QI _ O;rw [QO] at Z hq;omega
 ·exact I
theorem Gs.stop (h:GM W R v1 v2 vl u2 ul top V U) {g rest:Nat} (hs:Gs W R v1 v2 vl u2 ul top V U q g rest) (I:U<(q+1)*V) (J:1<=v1) (O:g<W) (ht:g*v2<=rest*W+u2):N2 W V U q g:=by
 refine h.out I hs.ge (by omega) J ?_
 rw [<- hs.eq,VO,QO,VP];omega
theorem Gs.less (h:GM W R v1 v2 vl u2 ul top V U) {g rest:Nat} (hs:Gs W R v1 v2 vl u2 ul top V U q g rest) (Z:q*V<=U) (hqW:q<W) (ht:W<=g\/rest*W+u2<g*v2):q<g:=by
 rcases ht with ht | ht
 ·omega
 ·have O:=h.DD Z
  rw [<- hs.eq] at O;rcases Sr q g with J | I
  ·exact J
  ·exfalso
   have Y:g*(v1*W+v2)<=q*(v1*W+v2):=QI _ I;rw [VO g] at Y;rw [QO (g*v1),VP] at O;omega
theorem Gs.next {g rest:Nat} (hs:Gs W R v1 v2 vl u2 ul top V U q g rest) (hl:q<g) (J:rest+v1<W):Gs W R v1 v2 vl u2 ul top V U q (g-1) (rest+v1):=by
 have h:=hs.eq; have I:=hs.le
 obtain ⟨k,rfl⟩:∃ k,g=k+1:=⟨g-1,by omega⟩
 rw [QO] at h;exact ⟨by omega,by rw [Nat.add_sub_cancel]; omega,J,by omega⟩
theorem Gs.over (h:GM W R v1 v2 vl u2 ul top V U) {g rest:Nat} (hs:Gs W R v1 v2 vl u2 ul top V U q g rest) (Y:U<(q+1)*V) (hv:1<=v1) (hl:q<g) (Z:W<=rest+v1):N2 W V U q (g-1):=by
 have he:=hs.eq; have O:=hs.le; have I:=h.v2
 obtain ⟨k,rfl⟩:∃ k,g=k+1:=⟨g-1,by omega⟩
 rw [Nat.add_sub_cancel];rw [QO] at he;refine h.out Y (by omega) (by omega) hv ?_
 have h1:k*v2<=W*v2:=QI _ (by omega)
 have J:W*(v2+1)<=W*W:=VR _ I;have h3:W*W<=(rest+v1)*W:=QI _ Z;have e:top=k*v1+(rest+v1):=by omega
 rw [e,VO k,QO (k*v1),VP];rw [VO] at J;omega
end
def Hb:List U8:=kC (⟨#[0,1,2,2,3,3,3,3,4,4,4,4,4,4,4,4,5,5,5,5,5,5,5,5,5,5,5,5,5,5,5,5,6,6,6,6,6,6,6,6,6,6,6,6,6,6,6,6,6,6,6,6,6,6,6,6,6,6,6,6,6,6,6,6,7,7,7,7,7,7,7,7,7,7,7,7,7,7,7,7,7,7,7,7,7,7,7,7,7,7,7,7,7,7,7,7,7,7,7,7,7,7,7,7,7,7,7,7,7,7,7,7,7,7,7,7,7,7,7,7,7,7,7,7,7,7,7,7,8,8,8,8,8,8,8,8,8,8,8,8,8,8,8,8,8,8,8,8,8,8,8,8,8,8,8,8,8,8,8,8,8,8,8,8,8,8,8,8,8,8,8,8,8,8,8,8,8,8,8,8,8,8,8,8,8,8,8,8,8,8,8,8,8,8,8,8,8,8,8,8,8,8,8,8,8,8,8,8,8,8,8,8,8,8,8,8,8,8,8,8,8,8,8,8,8,8,8,8,8,8,8,8,8,8,8,8,8,8,8,8,8,8,8,8,8,8,8,8,8,8,8,8,8,8,8,8]⟩)
def Kc (i:Nat) (y:U8):Bool:=decide (1<=y.n) && (decide (y.n<=8) && (decide (2 ^ (y.n.toNat-1)<=i) && decide (i<2 ^ y.n.toNat)))
theorem LJ:∀ i:Nat,1<=i->i<256->∃ y,Hb[i]? = some y/\Kc i y=true:=by
 have h:(List.range 256).all (λi=>decide (i=0) || (match Hb[i]? with | some y=>Kc i y | none=>false))=true:=by decide +kernel
 intro i O J;have:=RE.1 h i (by simpa using J)
 rw [Wn (by omega),Bool.false_or] at this
 cases I:Hb[i]? with
 | none=>rw [I] at this; cases this
 | some y=>rw [I] at this; exact ⟨y,rfl,this⟩
theorem DE {n m:Int} (h1:1<=n) (h2:n<256) (hm:0<=m/\m<=24):Gd (lz n m) (λr=>∃ L:Nat,r=m+L/\1<=L/\L<=8/\2 ^ (L-1)<=n.toNat/\n.toNat<2 ^ L):=by
 obtain ⟨y,Z,I⟩:=LJ n.toNat (by omega) (by omega)
 simp only [Kc,Sg,Rb] at I;obtain ⟨b1,b2,J,O⟩:=I;have Y:u8.wrap n=n:=by
  rw [show u8.wrap n=n%256 by simp [IntKind.wrap,IntKind.bits,IntKind.signed]]; omega
 unfold lz;rw [Y];refine Gd.ix (l:=Hb) (by omega) Z (Gd.ret ⟨y.n.toNat,?_,by omega,by omega,J,O⟩)
 rw [bT (n:=y.n) (by omega),bT (by omega)]
 omega
theorem GC {n:Int}{k:Nat} (I:k<=32):oG .u32 n (k:Int)=n / (2 ^ k:Nat):=by
 unfold oG;rw [show (min ((k:Int)).toNat u32.bits)=k by show min ((k:Int)).toNat 32=k; omega,S7 _ (Int.le_of_lt (Int.pow_pos (by decide)))]
 rw [Int.natCast_pow]; rfl
theorem Ot {x:Int} (h1:1<=x) (h2:x<4294967296):Gd (jU x) (λr=>∃ s:Nat,r=s/\s<=31/\2147483648<=x.toNat*2 ^ s/\x.toNat*2 ^ s<4294967296):=by
 have O:∀ (o:Option Int),Gd o (λr=>∃ l:Nat,r=l/\1<=l/\l<=32/\2 ^ (l-1)<=x.toNat/\x.toNat<2 ^ l)->Gd (o.bind λJ=>some (i64.wrap (32-J))) (λr=>∃ s:Nat,r=s/\s<=31/\2147483648<=x.toNat*2 ^ s/\x.toNat*2 ^ s<4294967296):=λo Z=>by
  refine Gd.eM Z (λr hr=>Gd.ret ?_);obtain ⟨l,rfl,l1,l2,l3,l4⟩:=hr;refine ⟨32-l,by rw [bT (by omega)]; omega,by omega,?_,?_⟩
  ·have:2 ^ (l-1)*2 ^ (32-l)<=x.toNat*2 ^ (32-l):=QI _ l3
   rw [<- VT,show l-1+(32-l)=31 by omega] at this
   exact this
  ·have:x.toNat*2 ^ (32-l)<2 ^ l*2 ^ (32-l):=Nat.mul_lt_mul_of_pos_right l4 (VY (by decide))
   rw [<- VT,show l+(32-l)=32 by omega] at this
   exact this
 have part:∀ (n:Int) (base:Nat),n=x / (2 ^ base:Nat)->base<=24->∀ L:Nat,1<=L->2 ^ (L-1)<=n.toNat->n.toNat<2 ^ L->2 ^ (base+L-1)<=x.toNat/\x.toNat<2 ^ (base+L):=λn base hn hb L l1 l2 l3=>by
  have e:n.toNat=x.toNat / 2 ^ base:=by
   rw [hn];obtain ⟨X,rfl⟩:∃ X:Nat,x=X:=⟨x.toNat,by omega⟩
   rfl
  have Y:0<2 ^ base:=VY (by decide)
  rw [e] at l2 l3;rw [VL Y,<- VT] at l2;rw [VK Y,<- VT] at l3;rw [show base+L-1=L-1+base by omega,S3 base L]
  exact ⟨l2,l3⟩
 unfold jU;refine O _ ?_;unfold qS;refine Gd.ite (λh=>?_) (λh=>?_)
 ·have h:=Qv h
  rw [show oG .u32 x 16=x / 65536 from GC (k:=16) (by omega)]
  unfold lA;refine Gd.ite (λI=>?_) (λI=>?_)
  ·have I:=Qv I
   rw [show oG .u32 (x / 65536) 8=x / 65536 / 256 from GC (k:=8) (by omega),show i64.wrap (16+8)=24 by decide]
   refine (DE (by omega) (by omega) (by omega)).mono ?_
   rintro r ⟨L,rfl,l1,l2,l3,l4⟩;obtain ⟨p1,p2⟩:=part (x / 65536 / 256) 24 (by show _=x / 16777216; omega) (by omega) L l1 l3 l4
   exact ⟨24+L,by omega,by omega,by omega,p1,p2⟩
  ·have I:=QE I
   refine (DE (by omega) (by omega) (by omega)).mono ?_
   rintro r ⟨L,rfl,l1,l2,l3,l4⟩;obtain ⟨p1,p2⟩:=part (x / 65536) 16 (by show _=x / 65536; omega) (by omega) L l1 l3 l4
   exact ⟨16+L,by omega,by omega,by omega,p1,p2⟩
 ·have h:=QE h
  unfold lA;refine Gd.ite (λI=>?_) (λI=>?_)
  ·have I:=Qv I
   rw [show oG .u32 x 8=x / 256 from GC (k:=8) (by omega),show i64.wrap (0+8)=8 by decide]
   refine (DE (by omega) (by omega) (by omega)).mono ?_
   rintro r ⟨L,rfl,l1,l2,l3,l4⟩;obtain ⟨p1,p2⟩:=part (x / 256) 8 (by show _=x / 256; omega) (by omega) L l1 l3 l4
   exact ⟨8+L,by omega,by omega,by omega,p1,p2⟩
  ·have I:=QE I
   refine (DE (by omega) (by omega) (by omega)).mono ?_
   rintro r ⟨L,rfl,l1,l2,l3,l4⟩;obtain ⟨p1,p2⟩:=part x 0 (by show _=x / 1; omega) (by omega) L l1 l3 l4
   exact ⟨0+L,by omega,by omega,by omega,p1,p2⟩
theorem Lj {t:Nat} (h:t<18446744073709551616):u64.wrap ((BitVec.ofInt (u64).bits (t:Int) &&& BitVec.ofInt (u64).bits 4294967295).toNat)=((t%WB:Nat):Int):=by
 have e:(BitVec.ofInt (u64).bits 4294967295).toNat=4294967295:=by decide
 have e2:(BitVec.ofInt (u64).bits (t:Int)).toNat=t:=by
  show (BitVec.ofInt 64 (t:Int)).toNat=t;rw [Vc,Vd,Sj h]
 rw [BitVec.toNat_and,e,e2];have:=VI t 32;rw [show (2:Nat) ^ 32-1=4294967295 from rfl] at this;rw [this,show (2:Nat) ^ 32=WB from rfl];have hm:t%WB<WB:=Tn _ (by decide)
 rw [gX ⟨by omega,by have:t%WB<4294967296:=hm; omega⟩]
theorem Hk {l:List bU}{k:Nat}{x v:bU} (h:l[k]? = some x) (J:0<=x.n) (I:0<=v.n):(nv (l.set k v):Int)+((WB ^ k:Nat):Int)*x.n=nv l+((WB ^ k:Nat):Int)*v.n:=by
 have:=Q9 (λn:Nat=>(n:Int)) (BU (v:=v) h);simp only [Vl,Rg] at this;rw [TN J,TN I] at this;exact this
theorem LO {nl Y o nw P W bo ca O J I Z gy:Int} (hA:Y+P*o=nl+P*nw) (hB:nw+W*I=bo+o-O) (hC:O+W*J=ca+gy) (hI:nl+P*(bo-ca)=Z):
  Y+P*W*(I-J)=Z-P*gy:=by
 have e:W*(I-J)=bo+o-nw-ca-gy:=by rw [Vk]; omega
 rw [Vj,e,<- hI,Vk,Vk,Vk,Vi,Vk];omega
theorem Hm {l I:List bU}{m:Nat} (h:∀ p,m<=p->l[p]? = I[p]?) (hm:m<=l.length):nv l=nv (l.take m)+WB ^ m*nv (I.drop m):=by
 have e:l.drop m=I.drop m:=by
  apply Sa;intro i;rw [Q_,Q_];exact h _ (by omega)
 have:nv l=nv (l.take m++l.drop m):=by rw [RT]
 rw [this,DK,e,QR,Rv hm]
theorem BV (l:List bU) {m:Nat} (hm:m<=l.length):nv l=nv (l.take m)+WB ^ m*nv (l.drop m):=Hm (λ_ _=>rfl) hm
theorem Ou {b r134 vs:List bU}{j g:Nat}{Z:List bU}{fin:List bU×Int×Int->Option (List bU×List bU)}{Q:List bU×List bU->Prop}
  (hvs:rJ r134 0 (((b.length:Int):Int).toNat)=vs) (hvl:vs.length=b.length) (hvw:Wf vs) (hl:Wf Z) (hjn:j+b.length<Z.length) (hN:Z.length<=1000001) (hg:g<=WB)
  (hk:∀ l O ca,l.length=Z.length->Wf l->-1<=O->O<=0->0<=ca->ca<4294967296->(nv l:Int)+((WB ^ (j+b.length):Nat):Int)*(O-ca)=nv Z-((WB ^ j:Nat):Int)*((g:Int)*(nv vs:Int)) ->
   (∀ p,j+b.length<=p->l[p]? = Z[p]?)->(∀ p,p<j->l[p]? = Z[p]?)->Gd (fin (l,O,ca)) Q):
  Gd (kW (λk J n=>oS b r134 (j:Int) (g:Int) k J.1 J.2.1 J.2.2 n) fin b.length 0 (Z,0,0)) Q:=by
 have hg:g<=4294967296:=hg;refine Gd.kW (λm k (z:List bU×Int×Int)=>k+m=b.length/\z.1.length=Z.length/\Wf z.1/\-1<=z.2.1/\z.2.1<=0/\0<=z.2.2/\z.2.2<4294967296/\(nv z.1:Int)+((WB ^ (j+k):Nat):Int)*(z.2.1-z.2.2)=nv Z-((WB ^ j:Nat):Int)*((g:Int)*(nv (vs.take k):Int))/\(∀ p,j+k<=p->z.1[p]? = Z[p]?)/\(∀ p,p<j->z.1[p]? = Z[p]?)) ?_ ?_ _ 0 _ ⟨by omega,rfl,hl,by show (-1:Int)<=0; omega,S1 _,S1 _,by show (0:Int)<4294967296; omega,by simp [nv],λp _=>rfl,λp _=>rfl⟩
 ·rintro m k ⟨l,O,ca⟩ nx ⟨h0,h1,h2,h3,h4,h5,h6,h7,h8,h9⟩ hnx
  simp only at h1 h2 h3 h4 h5 h6 h7 h8 h9 hnx ⊢;have hkb:k<b.length:=by omega
  obtain ⟨y,hy⟩:∃ y,vs[k]? = some y:=⟨_,Qp (by omega)⟩
  have hyw:=hvw y (QB hy);obtain ⟨o,ho⟩:∃ o,l[j+k]? = some o:=⟨_,Qp (by omega)⟩
  have how:=h2 o (QB ho);have wj:i64.wrap ((k:Int)+(j:Int))=((j+k:Nat):Int):=by rw [bT ⟨by omega,by omega⟩]; omega
  have hjk:(((j+k:Nat):Int)).toNat=j+k:=by omega
  unfold oS;rw [hvs,wj];refine Gd.ix (by omega) (by rw [Qr]; exact hy) (Gd.ix (by omega) (by rw [hjk]; exact ho) (Gd.ix (by omega) (by rw [hjk]; exact ho) ?_))
  obtain ⟨Y,hY⟩:∃ Y:Nat,y.n=Y:=⟨y.n.toNat,by omega⟩
  obtain ⟨cn,rfl⟩:∃ cn:Nat,ca=cn:=⟨ca.toNat,by omega⟩
  have hgy:g*Y<=4294967296*4294967295:=Nat.mul_le_mul hg (by omega)
  have ht:u64.wrap ((cn:Int)+(u64.wrap ((g:Int)*(u64.wrap (y.n)))))=((cn+g*Y:Nat):Int):=by
   rw [hY,gX (n:=(Y:Int)) (by omega),show (g:Int)*(Y:Int)=((g*Y:Nat):Int) by rw [Rg],gX (n:=((g*Y:Nat):Int)) (by omega),gX (by omega)]
   omega
  rw [ht,Lj (by omega),CY]
  have hdm:=VN (cn+g*Y) WB;have hlow:(cn+g*Y)%WB<WB:=Tn _ (by decide)
  have hcl:(cn+g*Y) / WB<4294967296:=by
   rw [VK (by decide)]
   show cn+g*Y<4294967296*4294967296;omega
  have e2:((cn+g*Y:Nat):Int) / 4294967296=(((cn+g*Y) / WB:Nat):Int):=rfl;rw [e2];have hC:(((cn+g*Y)%WB:Nat):Int)+4294967296*(((cn+g*Y) / WB:Nat):Int)=(cn:Int)+((g*Y:Nat):Int):=by
   have:(cn+g*Y)%WB+4294967296*((cn+g*Y) / WB)=cn+g*Y:=hdm;omega
  generalize (cn+g*Y)%WB=I at hlow hC;generalize (cn+g*Y) / WB=c2 at hcl hC;have hlow:I<4294967296:=hlow;have hnb:i64.wrap (O+(i64.wrap ((i64.wrap (o.n))-(i64.wrap ((I:Nat):Int)))))=O+o.n-I:=by
   rw [bT (n:=o.n) (by omega),bT (n:=(I:Int)) (by omega),bT (n:=o.n-I) (by omega),bT (by omega)]
   omega
  rw [hnb,hjk,xq,KL];refine hnx _ ⟨by omega,by simp [h1],h2.set (by omega),by simp only; omega,by simp only; omega,by simp only; omega,by simp only; omega,?_,λp hp=>?_,λp hp=>?_⟩
  ·simp only
   have hA:=Hk (l:=l) (k:=j+k) (x:=o) (v:=⟨(O+o.n-I)%4294967296⟩) ho how.1 (by simp only; omega)
   simp only at hA;have hB:(O+o.n-I)%4294967296+4294967296*((O+o.n-I) / 4294967296)=O+o.n-I:=by omega
   have:=LO hA hB hC h7;rw [show j+(k+1)=(j+k)+1 by omega,VZ,Rg,show ((WB:Nat):Int)=4294967296 from rfl,this,rp hy,hY,VT]
   simp only [Qr,Vl,Rg];rw [Vi (g:Int),Vi ((WB ^ j:Nat):Int),Vj ((WB ^ j:Nat):Int) ((WB ^ k:Nat):Int)];have e:(g:Int)*(((WB ^ k:Nat):Int)*(Y:Int))=((WB ^ k:Nat):Int)*((g:Int)*(Y:Int)):=by
    rw [<- Vj,Int.mul_comm (g:Int),Vj]
   rw [e];omega
  ·simp only
   rw [QQ (by omega)]
   exact h8 p (by omega)
  ·simp only
   rw [QQ (by omega)]
   exact h9 p hp
 ·rintro k ⟨l,O,ca⟩ ⟨h0,h1,h2,h3,h4,h5,h6,h7,h8,h9⟩
  simp only at h1 h2 h3 h4 h5 h6 h7 h8 h9;have hk':k=b.length:=by omega
  subst hk';rw [<- hvl,Sh] at h7;rw [hvl] at h7;exact hk l O ca h1 h2 h3 h4 h5 h6 h7 h8 h9
theorem Li {J I o s P W c Y T T' B X:Nat} (h1:I+P*o=J+P*(s%W)) (hs:s=c+o+Y) (h2:J+P*c=X+B*T) (hP:P*Y=B*(T'-T)) (hT:T<=T'):I+P*W*(s / W)=X+B*T':=by
 have O:s%W+W*(s / W)=s:=VN s W;have e:P*(s%W)+P*(W*(s / W))=P*s:=by rw [<- VO,O]
 have e2:P*s=P*c+P*o+P*Y:=by rw [hs,VO,VO]
 have Z:B*T'=B*T+B*(T'-T):=by rw [<- VO]; congr 1; omega
 rw [VP P W];omega
theorem Oa {b J vs:List bU}{j:Nat}{l1:List bU}{fin:List bU×Int->Option (List bU×List bU)}{Q:List bU×List bU->Prop}
  (hvs:rJ J 0 (((b.length:Int):Int).toNat)=vs) (hvl:vs.length=b.length) (hvw:Wf vs) (hl:Wf l1) (hjn:j+b.length<l1.length) (hN:l1.length<=1000001)
  (hk:∀ l c,l.length=l1.length->Wf l->0<=c->c<=1->nv l+WB ^ (j+b.length)*c.toNat=nv l1+WB ^ j*nv vs->(∀ p,j+b.length<=p->l[p]? = l1[p]?)->(∀ p,p<j->l[p]? = l1[p]?)->Gd (fin (l,c)) Q):
  Gd (kW (λk I n=>oT b J (j:Int) k I.1 I.2 n) fin b.length 0 (l1,0)) Q:=by
 refine Gd.kW (λm k (z:List bU×Int)=>k+m=b.length/\z.1.length=l1.length/\Wf z.1/\0<=z.2/\z.2<=1/\nv z.1+WB ^ (j+k)*z.2.toNat=nv l1+WB ^ j*nv (vs.take k)/\(∀ p,j+k<=p->z.1[p]? = l1[p]?)/\(∀ p,p<j->z.1[p]? = l1[p]?)) ?_ ?_ _ 0 _ ⟨by omega,rfl,hl,S1 _,by show (0:Int)<=1; omega,by simp [nv],λp _=>rfl,λp _=>rfl⟩
 ·rintro m k ⟨l,c⟩ nx ⟨h0,h1,Z,h3,h4,O,h8,h9⟩ hnx
  simp only at h1 Z h3 h4 O h8 h9 hnx ⊢;obtain ⟨y,hy⟩:∃ y,vs[k]? = some y:=⟨_,Qp (by omega)⟩
  have hyw:=hvw y (QB hy);obtain ⟨o,ho⟩:∃ o,l[j+k]? = some o:=⟨_,Qp (by omega)⟩
  have how:=Z o (QB ho);have wj:i64.wrap ((k:Int)+(j:Int))=((j+k:Nat):Int):=by rw [bT ⟨by omega,by omega⟩]; omega
  have Y:(((j+k:Nat):Int)).toNat=j+k:=by omega
  unfold oT;rw [hvs,wj];refine Gd.ix (by omega) (by rw [Y]; exact ho) (Gd.ix (by omega) (by rw [Qr]; exact hy) (Gd.ix (by omega) (by rw [Y]; exact ho) ?_))
  have hs:u64.wrap (c+(u64.wrap ((u64.wrap (o.n))+(u64.wrap (y.n)))))=c+o.n+y.n:=by
   rw [gX (n:=o.n) (by omega),gX (n:=y.n) (by omega),gX (n:=o.n+y.n) (by omega),gX (by omega)]
   omega
  rw [hs,Y,CY,xq];have hsn:c+o.n+y.n=((c.toNat+o.n.toNat+y.n.toNat:Nat):Int):=by omega
  refine hnx _ ⟨by omega,by simp [h1],Z.set (by omega),by simp only; omega,by simp only; omega,?_,λp hp=>?_,λp hp=>?_⟩
  ·simp only
   have g:=BU (l:=l) (k:=j+k) (x:=o) (v:=⟨(c+o.n+y.n)%4294967296⟩) ho;simp only at g;have g1:((c+o.n+y.n)%4294967296).toNat=(c.toNat+o.n.toNat+y.n.toNat)%WB:=by rw [hsn]; show _=_%4294967296; omega
   have g2:((c+o.n+y.n) / 4294967296).toNat=(c.toNat+o.n.toNat+y.n.toNat) / WB:=by rw [hsn]; show _=_ / 4294967296; omega
   rw [g1] at g;rw [g2,show j+(k+1)=(j+k)+1 by omega,VZ]
   refine Li g rfl O (T':=nv (vs.take (k+1))) ?_ ?_
   ·rw [rp hy,SD,VT,VP]
   ·rw [rp hy]; omega
  ·simp only
   rw [QQ (by omega)]
   exact h8 p (by omega)
  ·simp only
   rw [QQ (by omega)]
   exact h9 p hp
 ·rintro k ⟨l,c⟩ ⟨h0,h1,Z,h3,h4,O,h8,h9⟩
  simp only at h1 Z h3 h4 O h8 h9;have hk':k=b.length:=by omega
  subst hk';rw [<- hvl,Sh] at O;rw [hvl] at O;exact hk l c h1 Z h3 h4 O h8 h9
theorem Jn {qs l':List bU}{j:Nat}{g:Int}{I:List bU×List bU×Int->Option (List bU×List bU)}{Q:List bU×List bU->Prop} (J:j<qs.length) (hN:qs.length<=1000001) (O:0<=g/\g<4294967296)
  (hn:Gd (I (qs.set j ⟨g⟩,l',(j:Int)-1)) Q):Gd (ly qs (j:Int) I l' g) Q:=by
 unfold ly;refine Gd.iP J ?_;rw [Qr,xq,bT (by omega),show g%4294967296=g by omega]
 exact hn
theorem M6 {W P B I U V O:Nat} (h0:O=I+P*U) (J:I<P) (hV:V<=B) (hU:U<W*V):O<P*(W*B):=by
 have Y:U+1<=W*B:=Rp hU (VR _ hV);have Z:P*(U+1)<=P*(W*B):=VR _ Y;rw [VO] at Z;omega
theorem AP {J X M T:Nat} (h:J=X+M*T) (O:J<M):T=0:=by
 rcases Nat.eq_zero_or_pos T with I | I
 ·exact I
 ·have:M*1<=M*T:=VR _ I
  omega
theorem JJ {b r134 vs:List bU}{j g q U:Nat}{I qs:List bU}{nx:List bU×List bU×Int->Option (List bU×List bU)}{Q:List bU×List bU->Prop}
  (hvs:rJ r134 0 (((b.length:Int):Int).toNat)=vs) (hvl:vs.length=b.length) (hvw:Wf vs) (hl:Wf I) (hjn:j+b.length<I.length) (hN:I.length<=1000001) (hj:j<qs.length) (hqN:qs.length<=1000001)
  (hU:nv (I.drop j)=U) (hV:nv vs<=WB ^ b.length) (hUW:U<WB*nv vs) (hq1:q*nv vs<=U) (hq2:U<(q+1)*nv vs) (hqW:q<WB) (hg:N2 WB (nv vs) U q g)
  (hn:∀ l',l'.length=I.length->Wf l'->nv l'+WB ^ j*(q*nv vs)=nv I->(∀ p,p<j->l'[p]? = I[p]?)->Gd (nx (qs.set j ⟨(q:Int)⟩,l',(j:Int)-1)) Q):
  Gd (fX b r134 qs I (j:Int) nx (g:Int)) Q:=by
 have hqW':q<4294967296:=hqW;have wjn:i64.wrap ((j:Int)+(b.length:Int))=((j+b.length:Nat):Int):=by rw [bT ⟨by omega,by omega⟩]; omega
 have hjk:(((j+b.length:Nat):Int)).toNat=j+b.length:=by omega
 have h0:=BV I (m:=j) (by omega)
 rw [hU] at h0;have hlow:=sU (hl.take j);rw [QR,Rv (by omega)] at hlow
 have hpow:WB ^ (j+b.length+1)=WB ^ j*(WB*WB ^ b.length):=by rw [VZ,VT,VQ WB,VP]
 have hbig:nv I<WB ^ (j+b.length+1):=by rw [hpow]; exact M6 h0 hlow hV hUW
 have habove:nv (I.drop (j+b.length+1))=0:=AP (BV I (m:=j+b.length+1) (by omega)) hbig
 have small:∀ l:List bU,l.length=I.length->Wf l->(∀ p,j+b.length+1<=p->l[p]? = I[p]?)->nv l<WB ^ (j+b.length+1):=λl h1 h2 h3=>by
  rw [Hm h3 (by omega),habove,VS,RZ]
  have:=sU (h2.take (j+b.length+1));rw [QR,Rv (by omega)] at this
  exact this
 unfold fX;rw [show ((b.length:Int):Int).toNat=b.length by omega] at hvs
 rw [show ((b.length:Int):Int).toNat=b.length by omega]
 refine Ou (by rw [show ((b.length:Int):Int).toNat=b.length by omega]; exact hvs) hvl hvw hl hjn hN hg.w (λl O ca e1 e2 e3 e4 e5 e6 e7 e8 e9=>?_)
 obtain ⟨o,ho⟩:∃ o,l[j+b.length]? = some o:=⟨_,Qp (by omega)⟩
 have how:=e2 o (QB ho);simp only;rw [wjn];refine Gd.ix (by omega) (by rw [hjk]; exact ho) (Gd.ix (by omega) (by rw [hjk]; exact ho) ?_)
 have hnb:i64.wrap (O+(i64.wrap ((i64.wrap (o.n))-(i64.wrap ca))))=O+o.n-ca:=by
  rw [bT (n:=o.n) (by omega),bT (n:=ca) (by omega),bT (n:=o.n-ca) (by omega),bT (by omega)]
  omega
 rw [hnb,hjk,xq];have hA:=Hk (l:=l) (k:=j+b.length) (x:=o) (v:=⟨(O+o.n-ca)%4294967296⟩) ho how.1 (by simp only; omega)
 simp only at hA;have hW1:Wf (l.set (j+b.length) ⟨(O+o.n-ca)%4294967296⟩):=e2.set (by omega)
 have J:(l.set (j+b.length) (⟨(O+o.n-ca)%4294967296⟩:bU)).length=I.length:=by simp [e1]
 have hab1:∀ p,j+b.length+1<=p->(l.set (j+b.length) (⟨(O+o.n-ca)%4294967296⟩:bU))[p]? = I[p]? := λp hp=>by
  rw [QQ (by omega)]; exact e8 p (by omega)
 have hbe1:∀ p,p<j->(l.set (j+b.length) (⟨(O+o.n-ca)%4294967296⟩:bU))[p]? = I[p]? := λp hp=>by
  rw [QQ (by omega)]; exact e9 p hp
 have hsm1:=small _ J hW1 hab1;generalize l.set (j+b.length) (⟨(O+o.n-ca)%4294967296⟩:bU)=l1 at hA hW1 J hab1 hbe1 hsm1;have hPW:((WB ^ (j+b.length+1):Nat):Int)=((WB ^ (j+b.length):Nat):Int)*4294967296:=by rw [VZ,Rg,show ((WB:Nat):Int)=4294967296 from rfl]
 have hZ:(nv l1:Int)+((WB ^ (j+b.length):Nat):Int)*(O+o.n-ca-(O+o.n-ca)%4294967296)=nv I-((WB ^ j:Nat):Int)*((g:Int)*(nv vs:Int)):=by
  rw [<- e7,Vk,Vk,Vi,Vk];omega
 have hZU:(nv I:Int)-((WB ^ j:Nat):Int)*((g:Int)*(nv vs:Int))=nv (I.take j)+((WB ^ j:Nat):Int)*((U:Int)-(g:Int)*(nv vs:Int)):=by
  rw [h0,Vl,Rg,Vk]; omega
 have hge:=hg.ge; have hle:=hg.le
 refine Gd.ite (λhneg=>?_) (λhpos=>?_)
 ·have hneg:O+o.n-ca<0:=Qv hneg
  have hdiv:O+o.n-ca-(O+o.n-ca)%4294967296 = -4294967296:=by omega
  rw [hdiv] at hZ;have hZ1:(nv l1:Int)-((WB ^ (j+b.length+1):Nat):Int)=nv I-((WB ^ j:Nat):Int)*((g:Int)*(nv vs:Int)):=by
   rw [hPW,<- hZ,Int.mul_neg]; omega
  have hgq:g=q+1:=by
   rcases (show g=q\/g=q+1 by omega) with h | h
   ·exfalso
    rw [h] at hZ1 hZU;have h0':(0:Int)<=(U:Int)-(q:Int)*(nv vs:Int):=by
     have h1':((q*nv vs:Nat):Int)<=U:=by omega
     rw [Rg] at h1'; omega
    have:(0:Int)<=((WB ^ j:Nat):Int)*((U:Int)-(q:Int)*(nv vs:Int)):=Int.mul_nonneg (by omega) h0'
    omega
   ·exact h
  refine Oa (j:=j) (l1:=l1) (by rw [show ((b.length:Int):Int).toNat=b.length by omega]; exact hvs) hvl hvw hW1 (by omega) (by omega) (λl2 c f1 f2 f3 f4 f5 f6 f7=>?_)
  obtain ⟨Z,ho2⟩:∃ Z,l2[j+b.length]? = some Z:=⟨_,Qp (by omega)⟩
  have how2:=f2 Z (QB ho2);simp only;refine Gd.ix (by omega) (by rw [hjk]; exact ho2) (Gd.ix (by omega) (by rw [hjk]; exact ho2) ?_)
  rw [xq,xq,show c%4294967296=c by omega]
  have hg1:u64.wrap ((g:Int)-1)=(q:Int):=by rw [hgq,gX (by omega)]; omega
  rw [hg1];have hB:=BU (l:=l2) (k:=j+b.length) (x:=Z) (v:=⟨(Z.n+c)%4294967296⟩) ho2;simp only at hB;have hW2:Wf (l2.set (j+b.length) ⟨(Z.n+c)%4294967296⟩):=f2.set (by omega)
  have Y:(l2.set (j+b.length) (⟨(Z.n+c)%4294967296⟩:bU)).length=I.length:=by simp [f1,J]
  have hab2:∀ p,j+b.length+1<=p->(l2.set (j+b.length) (⟨(Z.n+c)%4294967296⟩:bU))[p]? = I[p]? := λp hp=>by
   rw [QQ (by omega),f6 p (by omega)]; exact hab1 p hp
  have hbe2:∀ p,p<j->(l2.set (j+b.length) (⟨(Z.n+c)%4294967296⟩:bU))[p]? = I[p]? := λp hp=>by
   rw [QQ (by omega),f7 p hp]; exact hbe1 p hp
  have hsm2:=small _ Y hW2 hab2;generalize l2.set (j+b.length) (⟨(Z.n+c)%4294967296⟩:bU)=l3 at hB hW2 Y hab2 hbe2 hsm2;refine Jn hj hqN (by omega) (hn l3 Y hW2 ?_ hbe2)
  obtain ⟨κ,hκ⟩:∃ κ:Nat,Z.n.toNat+c.toNat=((Z.n+c)%4294967296).toNat+WB*κ:=by
   refine ⟨((Z.n+c) / 4294967296).toNat,?_⟩;have eW:WB=4294967296:=rfl;rw [eW]; omega
  have hsum:nv l3+WB ^ (j+b.length+1)*κ=nv l1+WB ^ j*nv vs:=by
   have e:WB ^ (j+b.length)*Z.n.toNat+WB ^ (j+b.length)*c.toNat=WB ^ (j+b.length)*((Z.n+c)%4294967296).toNat+WB ^ (j+b.length)*(WB*κ):=by
    rw [<- VO,hκ,VO]
   rw [VZ,VP];omega
  have hVlt:WB ^ j*nv vs<WB ^ (j+b.length+1):=by
   have h1:WB ^ j*nv vs<=WB ^ j*WB ^ b.length:=VR _ hV;have h2:WB ^ j*WB ^ b.length<WB ^ (j+b.length+1):=by
    rw [<- VT]; exact Nat.pow_lt_pow_right (by decide) (by omega)
   omega
  have hZq:(nv l1:Int)+((WB ^ j*nv vs:Nat):Int)=nv (I.take j)+((WB ^ j:Nat):Int)*((U:Int)-(q:Int)*(nv vs:Int))+((WB ^ (j+b.length+1):Nat):Int):=by
   rw [hgq] at hZ1 hZU;have e:((WB ^ j:Nat):Int)*((U:Int)-((q+1:Nat):Int)*(nv vs:Int))=((WB ^ j:Nat):Int)*((U:Int)-(q:Int)*(nv vs:Int))-((WB ^ j*nv vs:Nat):Int):=by
    rw [Rg,<- Vk]
    congr 1
    rw [show ((q+1:Nat):Int)=(q:Int)+1 by omega,Int.add_mul]
    omega
   rw [e] at hZU;omega
  have hnn:(0:Int)<=((WB ^ j:Nat):Int)*((U:Int)-(q:Int)*(nv vs:Int)):=Int.mul_nonneg (by omega) (by
   have:((q*nv vs:Nat):Int)<=U:=by omega
   rw [Rg] at this; omega)
  have hκ1:κ=1:=by
   rcases Sr κ 1 with h | h
   ·exfalso
    have:κ=0:=by omega
    rw [this] at hsum; omega
   ·rcases Sr 1 κ with h2 | h2
    ·exfalso
     have:WB ^ (j+b.length+1)*2<=WB ^ (j+b.length+1)*κ:=VR _ h2;omega
    ·omega
  rw [hκ1,S4] at hsum;have e:((WB ^ j:Nat):Int)*((U:Int)-(q:Int)*(nv vs:Int))=((WB ^ j*U:Nat):Int)-((WB ^ j*(q*nv vs):Nat):Int):=by
   rw [Vk,Rg,Rg,Rg]
  rw [e] at hZq;omega
 ·have hpos:¬ O+o.n-ca<0:=QE hpos
  have hdiv:O+o.n-ca-(O+o.n-ca)%4294967296=0:=by omega
  rw [hdiv,Int.mul_zero,Int.add_zero] at hZ;have hgq:g=q:=by
   rcases (show g=q\/g=q+1 by omega) with h | h
   ·exact h
   ·exfalso
    rw [h] at hZ hZU;have h1:(U:Int)-((q+1:Nat):Int)*(nv vs:Int)<=-1:=by
     have:(U:Int)<(((q+1)*nv vs:Nat):Int):=by omega
     rw [Rg] at this; omega
    have h2:((WB ^ j:Nat):Int)*((U:Int)-((q+1:Nat):Int)*(nv vs:Int))<=((WB ^ j:Nat):Int)*(-1):=Int.mul_le_mul_of_nonneg_left h1 (by omega)
    omega
  rw [hgq] at hZ ⊢;refine Jn hj hqN (by omega) (hn l1 J hW1 ?_ hbe1)
  have e:((WB ^ j:Nat):Int)*((q:Int)*(nv vs:Int))=((WB ^ j*(q*nv vs):Nat):Int):=by rw [Rg,Rg]
  rw [e] at hZ;omega
theorem Hl {l:List bU}{m:Nat}{x y:bU} (J:l[m+1]? = some x) (O:l[m]? = some y) (I:nv (l.drop (m+2))=0):nv l=(x.n.toNat*WB+y.n.toNat)*WB ^ m+nv (l.take m):=by
 have e:=wC O;have e1:nv (l.drop (m+1))=x.n.toNat+WB*nv (l.drop (m+2)):=by rw [rf J,nv]
 rw [e,e1,I,VS,RZ,VQ (WB ^ m),S3 (nv (l.take m)),S3 y.n.toNat,VQ WB x.n.toNat]
theorem Kq {l:List bU}{m:Nat}{x y z:bU} (J:l[m+2]? = some x) (O:l[m+1]? = some y) (Y:l[m]? = some z) (I:nv (l.drop (m+3))=0):nv l=((x.n.toNat*WB+y.n.toNat)*WB+z.n.toNat)*WB ^ m+nv (l.take m):=by
 have e:=wC Y;have e1:nv (l.drop (m+1))=y.n.toNat+WB*nv (l.drop (m+2)):=by rw [rf O,nv]
 have e2:nv (l.drop (m+2))=x.n.toNat+WB*nv (l.drop (m+3)):=by rw [rf J,nv]
 rw [e,e1,e2,I,VS,RZ,VQ (WB ^ m),S3 (nv (l.take m)),S3 z.n.toNat,VQ WB (y.n.toNat+_),S3 y.n.toNat,VQ WB x.n.toNat]
theorem J0 {b J vs:List bU}{j Z q U R v1 v2 vl u2 ul top:Nat}{l0 qs:List bU}{nx:List bU×List bU×Int->Option (List bU×List bU)}{Q:List bU×List bU->Prop}
  (hb:b.length=Z+2) (hvs:rJ J 0 (((b.length:Int):Int).toNat)=vs) (hvl:vs.length=b.length) (hl0:j+b.length<l0.length) (hN:l0.length<=1000001)
  (y1 y2 z2:bU) (hy1:vs[Z+1]? = some y1) (hy2:vs[Z]? = some y2) (hz2:l0[j+Z]? = some z2) (e1:y1.n=v1) (e2:y2.n=v2) (e3:z2.n=u2) (w1:v1<4294967296) (hv1:1<=v1)
  (hS:GM WB R v1 v2 vl u2 ul top (nv vs) U) (hq1:q*nv vs<=U) (hq2:U<(q+1)*nv vs) (hqW:q<WB)
  (hk:∀ g,N2 WB (nv vs) U q g->Gd (fX b J qs l0 (j:Int) nx (g:Int)) Q)
  {g0 I:Nat} (h0:Gs WB R v1 v2 vl u2 ul top (nv vs) U q g0 I):
  Gd (iL (λO n=>oU b J qs l0 (j:Int) nx O.1 O.2 n) fT ((g0:Int),(I:Int))) Q:=by
 have hu2:u2<4294967296:=hS.u2;have hv2:v2<4294967296:=hS.v2;have eW:WB=4294967296:=rfl;refine Gd.iL (λ(z:Int×Int)=>∃ g rest:Nat,z=((g:Int),(rest:Int))/\Gs WB R v1 v2 vl u2 ul top (nv vs) U q g rest) (λz=>z.1.toNat) ?_ fT _ ⟨g0,I,rfl,h0⟩ ?_
 ·rintro z nx2 ⟨g,rest,rfl,Y⟩ hnx
  simp only at hnx ⊢;have hrest:rest<4294967296:=Y.rest;have hgW:g<=4294967297:=Y.le;have wn1:i64.wrap ((b.length:Int)-1)=((Z+1:Nat):Int):=by rw [hb,bT (by omega)]; omega
  have wn2:i64.wrap ((b.length:Int)-2)=((Z:Nat):Int):=by rw [hb,bT (by omega)]; omega
  have wjn:i64.wrap ((i64.wrap ((j:Int)+(b.length:Int)))-2)=((j+Z:Nat):Int):=by rw [hb,bT (n:=(j:Int)+_) (by omega),bT (by omega)]; omega
  have dec:q<g->Gd (if decide (4294967296<=(u64.wrap ((rest:Int)+(u64.wrap (y1.n))))) then (fX b J qs l0 (j:Int) nx (u64.wrap ((g:Int)-1))) else (nx2 (u64.wrap ((g:Int)-1),u64.wrap ((rest:Int)+(u64.wrap (y1.n)))))) Q:=λhlt=>by
   have er:u64.wrap ((rest:Int)+(u64.wrap (y1.n)))=((rest+v1:Nat):Int):=by
    rw [e1,gX (n:=(v1:Int)) (by omega),gX (by omega)]; omega
   have eg:u64.wrap ((g:Int)-1)=((g-1:Nat):Int):=by rw [gX (by omega)]; omega
   rw [er,eg];refine Gd.ite (λh=>hk _ (Y.over hS hq2 hv1 hlt (by rw [eW]; have:=Qv h; omega))) (λh=>hnx _ ⟨g-1,rest+v1,rfl,Y.next hlt (by rw [eW]; have:=QE h; omega)⟩ ?_)
   simp only [Qr];omega
  unfold oU;rw [hvs,wn1,wn2,wjn];refine Gd.ite (λh=>?_) (λh=>?_)
  ·have h:=Qv h
   refine Gd.ix (by omega) (by rw [Qr]; exact hy1) (dec (Y.less hS hq1 hqW (.inl (by rw [eW]; omega))))
  ·have h:=QE h
   refine Gd.ix (by omega) (by rw [Qr]; exact hy2) (Gd.ix (by omega) (by rw [Qr]; exact hz2) ?_)
   have eor:u64.wrap ((BitVec.ofInt (u64).bits (t_ .u64 (rest:Int) 32) ||| BitVec.ofInt (u64).bits (u64.wrap (z2.n))).toNat)=((rest*WB+u2:Nat):Int):=by
    rw [zt ⟨by omega,by omega⟩ (by rw [e3]; omega),e3,eW]; omega
   have egv:u64.wrap ((g:Int)*(u64.wrap (y2.n)))=((g*v2:Nat):Int):=by
    have hb2:g*v2<=4294967296*4294967295:=Nat.mul_le_mul (by omega) (by omega)
    rw [e2,gX (n:=(v2:Int)) (by omega),show (g:Int)*(v2:Int)=((g*v2:Nat):Int) by rw [Rg],gX (by omega)]
   rw [eor,egv];refine Gd.ite (λh2=>Gd.ix (by omega) (by rw [Qr]; exact hy1) (dec (Y.less hS hq1 hqW (.inr ?_)))) (λh2=>hk g (Y.stop hS hq2 hv1 (by rw [eW]; omega) ?_))
   ·exact Int.ofNat_lt.1 (Qv h2)
   ·have:=QE h2
    exact Int.ofNat_le.1 (Int.not_lt.1 this)
 ·simp only [fT,Qr]
  have:g0<=4294967297:=h0.le;omega
theorem JZ {W R v1 v2 vl u2 ul u0 u1 V U q:Nat} (h:GM W R v1 v2 vl u2 ul (u0*W+u1) V U) (Y:q*V<=U) (J:1<=v1) (hv1:v1<W) (hW:W<=2*v1) (I:u0<=v1) (Z:u1<W):
  Gs W R v1 v2 vl u2 ul (u0*W+u1) V U q ((u0*W+u1) / v1) ((u0*W+u1)%v1):=by
 have hm:(u0*W+u1)%v1<v1:=Tn _ J;refine ⟨(VL J).2 (h.NG Y),?_,by omega,?_⟩
 ·rw [VQ,S3,VN]
 ·have h1:u0*W<=v1*W:=QI _ I
  have O:u0*W+u1<(W+2)*v1:=by
   rw [QO,VQ W v1]; omega
  have:=(VK J).2 O;omega
theorem DD {W R u0 u1 v1 v2 vl ul V X:Nat} (Y:X=(u0*W+u1)*R+ul) (O:V=(v1*W+v2)*R+vl) (Z:X<V) (hvl:vl<R) (I:v2<W):u0<=v1:=by
 rcases Sr v1 u0 with h | h
 ·exfalso
  have h1:(v1+1)*W*R<=u0*W*R:=QI _ (QI _ h);have J:(v2+1)*R<=W*R:=QI _ I;have e1:(v1+1)*W*R=v1*W*R+W*R:=by rw [QO,QO,Ul]
  have e2:X=u0*W*R+u1*R+ul:=by rw [Y,QO]
  have e3:V=v1*W*R+v2*R+vl:=by rw [O,QO]
  rw [QO] at J;omega
 ·exact h
theorem J6 {q W D V P I J U0:Nat} (O:I+P*(q*V)=J) (Y:D*V*(P*W)+J=U0):(q+W*D)*V*P+I=U0:=by
 have e1:(q+W*D)*V*P=P*(q*V)+D*V*(P*W):=by
  rw [QO,QO,VQ P (q*V)]
  congr 1
  rw [VQ W D,VP D W V,VQ W V,<- VP D V W,VP (D*V) W P,VQ W P]
 omega
theorem LP {W x y V:Nat} (J:x<W) (I:y<V):x+W*y<W*V:=by
 have:W*(y+1)<=W*V:=VR _ I;rw [VO] at this; omega
theorem KF {P a x q V U:Nat} (hP:0<P) (J:a+P*x+P*(q*V)=a+P*U) (I:U<(q+1)*V):x<V:=by
 have e:P*(x+q*V)=P*U:=by rw [VO]; omega
 have:=Nat.eq_of_mul_eq_mul_left hP e;rw [QO] at I;omega
theorem H9 {b r134 vs:List bU}{r127:Int}{I N U0:Nat}{Q:List bU×List bU->Prop}
  (hb:b.length=I+2) (hvs:rJ r134 0 (((b.length:Int):Int).toNat)=vs) (hvl:vs.length=b.length) (hvw:Wf vs) (hN:N<=1000001)
  (O y2:bU) (hy1:vs[I+1]? = some O) (hy2:vs[I]? = some y2) (hnorm:2147483648<=O.n)
  (J u0:List bU) (hq0:J.length+b.length=N) (hqw:Wf J) (hu0:u0.length=N) (huw:Wf u0) (hstart:nv (u0.drop J.length)<nv vs) (hval:nv u0=U0)
  (hk:∀ qs u,qs.length=J.length->Wf qs->u.length=N->Wf u->nv qs*nv vs+nv u=U0->nv u<nv vs ->
   Gd (cW (0<=(b.length:Int)/\(b.length:Int)*4<=140737488355328) (kW (λk Z n=>mF r127 u k Z n) (λZ=>some (qs,Z)) ((b.length:Int):Int).toNat 0 (List.replicate ((b.length:Int):Int).toNat (⟨0⟩:bU)))) Q):
  Gd (iL (λY n=>oR b r127 r134 Y.1 Y.2.1 Y.2.2 n) fT (J,u0,(J.length:Int)-1)) Q:=by
 have hy1w:=hvw O (QB hy1); have hy2w:=hvw y2 (QB hy2)
 have hVB:nv vs<=WB ^ b.length:=by have:=sU hvw; rw [hvl] at this; omega
 refine Gd.iL (λ(z:List bU×List bU×Int)=>z.1.length=J.length/\Wf z.1/\z.2.1.length=N/\Wf z.2.1/\-1<=z.2.2/\z.2.2<J.length/\nv (z.1.drop (z.2.2+1).toNat)*nv vs*WB ^ (z.2.2+1).toNat+nv z.2.1=U0/\nv (z.2.1.drop (z.2.2+1).toNat)<nv vs) (λz=>(z.2.2+1).toNat) ?_ fT _ ⟨rfl,hqw,hu0,huw,by simp only; omega,by simp only; omega,?_,?_⟩ (by simp only [fT]; omega)
 ·rintro ⟨qs,u,j⟩ nx ⟨h1,h2,h3,h4,h5,h6,h7,h8⟩ hnx
  simp only at h1 h2 h3 h4 h5 h6 h7 h8 hnx ⊢;unfold oR;refine Gd.ite (λhj=>?_) (λhj=>?_)
  ·have hj:=Qv hj
   obtain ⟨k,rfl⟩:∃ k:Nat,j=k:=⟨j.toNat,by omega⟩
   rw [show ((k:Int)+1).toNat=k+1 by omega] at h7 h8
   obtain ⟨t0,ht0⟩:∃ t,u[k+I+2]? = some t:=⟨_,Qp (by omega)⟩
   obtain ⟨t1,ht1⟩:∃ t,u[k+I+1]? = some t:=⟨_,Qp (by omega)⟩
   obtain ⟨t2,ht2⟩:∃ t,u[k+I]? = some t:=⟨_,Qp (by omega)⟩
   have w0:=h4 t0 (QB ht0); have w1:=h4 t1 (QB ht1); have w2:=h4 t2 (QB ht2)
   have wjn:i64.wrap ((k:Int)+(b.length:Int))=((k+I+2:Nat):Int):=by rw [hb,bT (by omega)]; omega
   have wjm:i64.wrap (((k+I+2:Nat):Int)-1)=((k+I+1:Nat):Int):=by rw [bT (by omega)]; omega
   have wn1:i64.wrap ((b.length:Int)-1)=((I+1:Nat):Int):=by rw [hb,bT (by omega)]; omega
   rw [hvs,wjn,wjm,wn1];have ey1:u64.wrap O.n=O.n:=gX (by omega)
   refine Gd.ix (by omega) (by rw [Qr]; exact ht0) (Gd.ix (by omega) (by rw [Qr]; exact ht1) (Gd.ix (by omega) (by rw [Qr]; exact hy1) (Gd.nd (by rw [ey1]; omega) (Gd.ix (by omega) (by rw [Qr]; exact hy1) (Gd.nd (by rw [ey1]; omega) ?_)))))
   rw [gX (n:=t0.n) (by omega),zt w0 w1,ey1]
   obtain ⟨x,hx⟩:∃ x,u[k]? = some x:=⟨_,Qp (by omega)⟩
   have hxw:=h4 x (QB hx);have hU1:nv (u.drop k)=x.n.toNat+WB*nv (u.drop (k+1)):=by rw [rf hx,nv]
   have hUlt:nv (u.drop k)<WB*nv vs:=by rw [hU1]; exact LP (by show x.n.toNat<4294967296; omega) h8
   have hVlt:nv vs<WB ^ (I+2):=by have:=sU hvw; rw [hvl,hb] at this; exact this
   have hz:nv (u.drop (k+1+(I+2)))=0:=by
    have e:=BV (u.drop (k+1)) (m:=I+2) (by rw [R3]; omega)
    rw [Sd] at e;exact AP e (by omega)
   have hVe:=Hl hy1 hy2 (by rw [Vs (by omega)]; rfl)
   have hXe:=Hl (l:=u.drop (k+1)) (m:=I) (x:=t0) (y:=t1) (by rw [Q_,show k+1+(I+1)=k+I+2 by omega]; exact ht0) (by rw [Q_,show k+1+I=k+I+1 by omega]; exact ht1) (by rw [Sd]; exact hz)
   have hUe:=Kq (l:=u.drop k) (m:=I) (x:=t0) (y:=t1) (z:=t2) (by rw [Q_,show k+(I+2)=k+I+2 by omega]; exact ht0) (by rw [Q_,show k+(I+1)=k+I+1 by omega]; exact ht1) (by rw [Q_]; exact ht2) (by rw [Sd,show k+(I+3)=k+1+(I+2) by omega]; exact hz)
   have hvl':nv (vs.take I)<WB ^ I:=by have:=sU (hvw.take I); rw [QR,Rv (by omega)] at this; exact this
   have hul':nv ((u.drop k).take I)<WB ^ I:=by
    have:=sU (l:=(u.drop k).take I) (λz hz=>h4 z (List.mem_of_mem_drop (SQ hz)));rw [QR,R3,Rv (by omega)] at this; exact this
   have hS:GM WB (WB ^ I) O.n.toNat y2.n.toNat (nv (vs.take I)) t2.n.toNat (nv ((u.drop k).take I)) (t0.n.toNat*WB+t1.n.toNat) (nv vs) (nv (u.drop k)):=
    ⟨hVe,hUe,hvl',hul',by show t2.n.toNat<4294967296; omega,by show y2.n.toNat<4294967296; omega⟩
   have hle:t0.n.toNat<=O.n.toNat:=DD hXe hVe h8 hvl' (by show y2.n.toNat<4294967296; omega)
   have hVpos:0<nv vs:=by omega
   obtain ⟨q,hq1,hq2,hqW⟩:∃ q,q*nv vs<=nv (u.drop k)/\nv (u.drop k)<(q+1)*nv vs/\q<WB:=by
    refine ⟨nv (u.drop k) / nv vs,Nat.div_mul_le_self _ _,?_,(VK hVpos).2 hUlt⟩;have:=Si (nv (u.drop k) / nv vs);exact (VK hVpos).1 this
   have hG:=JZ hS hq1 (show 1<=O.n.toNat by omega) (show O.n.toNat<WB by show O.n.toNat<4294967296; omega) (show WB<=2*O.n.toNat by show 4294967296<=2*O.n.toNat; omega) hle (show t1.n.toNat<WB by show t1.n.toNat<4294967296; omega)
   have hg0:=hG.le;have etop:t0.n*4294967296+t1.n=((t0.n.toNat*WB+t1.n.toNat:Nat):Int):=by
    show _=((t0.n.toNat*4294967296+t1.n.toNat:Nat):Int); omega
   have ey:O.n=((O.n.toNat:Nat):Int):=by omega
   have ed:Int.tdiv (t0.n*4294967296+t1.n) O.n=(((t0.n.toNat*WB+t1.n.toNat) / O.n.toNat:Nat):Int):=by
    rw [etop,ey]; rfl
   have em:Int.tmod (t0.n*4294967296+t1.n) O.n=(((t0.n.toNat*WB+t1.n.toNat)%O.n.toNat:Nat):Int):=by
    rw [etop,ey]; rfl
   rw [ed,em];generalize (t0.n.toNat*WB+t1.n.toNat) / O.n.toNat=g0 at hG hg0 ⊢;generalize (t0.n.toNat*WB+t1.n.toNat)%O.n.toNat=rest0 at hG ⊢;have eW:(WB:Nat)=4294967296:=rfl;rw [eW] at hg0;rw [gX (n:=(g0:Int)) (by omega)]
   refine J0 hb hvs hvl (by omega) (by omega) O y2 t2 hy1 hy2 ht2 (by omega) (by omega) (by omega) (by omega) (by omega) hS hq1 hq2 hqW (λg hg=>?_) hG
   refine JJ hvs hvl hvw h4 (by omega) (by omega) (by omega) (by omega) rfl hVB hUlt hq1 hq2 hqW hg (λl' f1 f2 f3 f4=>?_)
   have ek:((k:Int)-1+1).toNat=k:=by omega
   refine hnx _ ⟨by rw [RM]; exact h1,h2.set (by rw [eW] at hqW; omega),by simp only; omega,f2,by simp only; omega,by simp only; omega,?_,?_⟩ (by simp only; omega)
   ·simp only
    rw [ek,rf (QU (by omega)),nv,SY (by omega)]
    rw [Qr];rw [VZ] at h7;exact J6 f3 h7
   ·simp only
    rw [ek];have e1:=BV l' (m:=k) (by omega)
    have e2:=BV u (m:=k) (by omega)
    have e3:l'.take k=u.take k:=by
     apply Sa;intro i;rw [Rf,Rf]
     by_cases hi:i<k
     ·rw [Qx hi,Qx hi]; exact f4 i hi
     ·rw [Qw hi,Qw hi]
    rw [e3] at e1;refine KF (a:=nv (u.take k)) (P:=WB ^ k) (VY (by decide)) ?_ hq2
    omega
  ·have hj:=QE hj
   rw [show (j+1).toNat=0 by omega,RN,V0,S4] at h7
   rw [show (j+1).toNat=0 by omega,RN] at h8
   exact hk qs u h1 h2 h3 h4 h7 h8
 ·simp only
  rw [show ((J.length:Int)-1+1).toNat=J.length by omega,Tj]
  simp [nv,hval]
 ·simp only
  rw [show ((J.length:Int)-1+1).toNat=J.length by omega]
  exact hstart
theorem Cv {W S M u0 u1 hi:Nat} (J:W=S*M) (I:0<S):
  (u0+W*(u1+W*hi)) / S%W=(u1*W+u0) / S%W:=by
 have e:u0+W*(u1+W*hi)=(u1*W+u0)+S*(M*(W*hi)):=by
  have e1:W*(W*hi)=S*(M*(W*hi)):=by rw [<- VP S M,<- J]
  rw [VO,e1,VQ W u1]; omega
 rw [e,Nat.add_mul_div_left _ _ I];have e2:M*(W*hi)=W*(M*hi):=by rw [<- VP,VQ M W,VP]
 rw [e2,Nat.add_mul_mod_self_left]
theorem Eg {W S u0 T:Nat} (I:u0<W):(u0+W*T) / S / W=T / S:=by
 rw [Nat.div_div_eq_div_mul,VQ S W,<- Nat.div_div_eq_div_mul,Nat.add_mul_div_left _ _ (by omega),VJ I,QP]
theorem NF {n:Int}{k:Nat} (I:k<=64):oG .u64 n (k:Int)=n / (2 ^ k:Nat):=by
 unfold oG;rw [show (min ((k:Int)).toNat u64.bits)=k by show min ((k:Int)).toNat 64=k; omega,S7 _ (Int.le_of_lt (Int.pow_pos (by decide)))]
 rw [Int.natCast_pow]; rfl
theorem Fw {A P d W D I Z:Nat} (h:A+P*D=Z) (O:D%W=d) (J:D / W=I):(A+P*d)+P*W*I=Z:=by
 have e:d+W*I=D:=by rw [<- O,<- J,VN]
 rw [VP P W,SN,<- VO,e,h]
theorem GH {n s:Nat} (hs:s<=31) {u:List bU} (hu:Wf u) (hl:n<u.length) (hz:u.length<=1000001) {qs:List bU}{Q:List bU×List bU->Prop} (hlt:nv u / 2 ^ s<WB ^ n)
  (hk:∀ r,Wf r->r.length=n->nv r=nv u / 2 ^ s->Q (qs,r)):
  Gd (kW (λk I n=>mF (s:Int) u k I n) (λI=>some (qs,I)) n 0 (List.replicate n (⟨0⟩:bU))) Q:=by
 have hS:0<(2:Nat) ^ s:=VY (by decide)
 have hWS:WB=2 ^ s*2 ^ (32-s):=by rw [<- VT,show s+(32-s)=32 by omega]
 refine Gd.kW (λm k (z:List bU)=>k+m=n/\z.length=n/\Wf z/\nv (z.take k)+WB ^ k*(nv (u.drop k) / 2 ^ s)=nv u / 2 ^ s) ?_ ?_ _ 0 _ ⟨by omega,by simp,λy hy=>?_,by simp [nv]⟩
 ·rintro m k l nx ⟨h0,h1,h2,h3⟩ hnx
  obtain ⟨J,Y⟩:∃ t,u[k]? = some t:=⟨_,Qp (by omega)⟩
  obtain ⟨O,Z⟩:∃ t,u[k+1]? = some t:=⟨_,Qp (by omega)⟩
  have w0:=hu J (QB Y); have w1:=hu O (QB Z)
  have wk:i64.wrap ((k:Int)+1)=((k+1:Nat):Int):=by rw [bT (by omega)]; omega
  unfold mF;rw [wk];refine Gd.ix (by omega) (by rw [Qr]; exact Z) (Gd.ix (by omega) (by rw [Qr]; exact Y) (Gd.nd (by omega) (Gd.iP (by omega) ?_)))
  rw [gX (n:=O.n) (by omega),zt w1 w0,NF (by omega),xq,Qr]
  have e1:O.n*4294967296+J.n=((O.n.toNat*WB+J.n.toNat:Nat):Int):=by
   show _=((O.n.toNat*4294967296+J.n.toNat:Nat):Int); omega
  have e2:(O.n*4294967296+J.n) / ((2 ^ s:Nat):Int)%4294967296=(((O.n.toNat*WB+J.n.toNat) / 2 ^ s%WB:Nat):Int):=by
   rw [e1]; rfl
  rw [e2];have hd:nv (u.drop k)=J.n.toNat+WB*nv (u.drop (k+1)):=by rw [rf Y,nv]
  have hd1:nv (u.drop (k+1))=O.n.toNat+WB*nv (u.drop (k+2)):=by rw [rf Z,nv]
  have hm:=Cv (u0:=J.n.toNat) (u1:=O.n.toNat) (hi:=nv (u.drop (k+2))) hWS hS;rw [<- hd1,<- hd] at hm;have hn:=Eg (W:=WB) (S:=2 ^ s) (u0:=J.n.toNat) (T:=nv (u.drop (k+1))) (by show J.n.toNat<4294967296; omega)
  rw [<- hd] at hn;have hlt':(O.n.toNat*WB+J.n.toNat) / 2 ^ s%WB<WB:=Tn _ (by decide)
  refine hnx _ ⟨by omega,by rw [RM]; exact h1,h2.set ⟨by omega,by have:(WB:Nat)=4294967296:=rfl; rw [this] at hlt'; omega⟩,?_⟩
  rw [wG (by omega),uG,QR,Rv (by omega),VZ,Qr]
  exact Fw h3 hm hn
 ·rintro k l ⟨h0,h1,h2,h3⟩
  have hk':k=n:=by omega
  subst hk';rw [QH (by omega)] at h3
  have h0':=AP h3.symm hlt;rw [h0',VS,RZ] at h3;exact Gd.ret (hk l h2 h1 h3)
 ·rw [VE] at hy
  rw [hy.2]; simp
theorem Nd {q V a b S u:Nat} (J:0<S) (O:V=b*S) (h:q*V+u=a*S) (Y:u<V):u / S=a-q*b/\a-q*b<b/\q*b<=a:=by
 have e:q*V=q*b*S:=by rw [O,VP]
 have I:q*b<=a:=by
  have Z:q*b*S<=a*S:=by omega
  exact Nat.le_of_mul_le_mul_right Z J
 have e2:u=(a-q*b)*S:=by rw [Nat.mul_sub_right_distrib]; omega
 refine ⟨by rw [e2,Nat.mul_div_cancel _ J],?_,I⟩
 rw [e2,O] at Y;exact Nat.lt_of_mul_lt_mul_right Y
theorem Oe {q a b:Nat} (I:a-q*b<b) (J:q*b<=a):q=a / b/\a-q*b=a%b:=by
 have:=(Nat.div_mod_unique (a:=a) (b:=b) (c:=a-q*b) (d:=q) (by omega)).2 ⟨by rw [VQ b q]; omega,I⟩
 exact ⟨this.1.symm,this.2.symm⟩
theorem KV {W S M x B P:Nat} (I:W=S*M) (J:x*S<W) (Z:B<(x+1)*P):B*S<W*P:=by
 have O:x<M:=by rw [I,VQ] at J; exact VM J
 have Y:(x+1)*S<=W:=by rw [I,VQ S M]; exact QI _ O
 have hS:0<S:=by
  rcases Nat.eq_zero_or_pos S with h | h
  ·rw [h] at I; simp at I; rw [I] at J; omega
  ·exact h
 have h3:B*S<(x+1)*P*S:=(Nat.mul_lt_mul_right hS).2 Z;have h4:(x+1)*P*S=(x+1)*S*P:=by rw [VP,VQ P S,<- VP]
 have h5:(x+1)*S*P<=W*P:=QI _ Y;omega
theorem JK {a b:List bU} (ha:Wf a) (hb:Wf b) (hta:vI a) (O:vI b) (hne:b≠[]) (hza:a.length<=900000) (hzb:b.length<=900000):
  Gd (nS a b) (λr=>Wf r.1/\Wf r.2/\r.1.length<=a.length/\r.2.length<=a.length/\nv r.1=nv a / nv b/\nv r.2=nv a%nv b):=by
 unfold nS;refine Gd.eM (Jy ha hb hta O (by omega) (by omega)) (λc hc=>Gd.ite (λh=>?_) (λh=>?_))
 ·have hlt:=hc.1.1 (Qv h)
  exact Gd.ret ⟨Wf.nil,ha,by simp,QM _,by rw [VJ hlt]; rfl,by rw [Sj hlt]⟩
 ·have hge:nv b<=nv a:=by
   have h:=QE h;have:=mt hc.1.2 h;omega
  have hbl:0<b.length:=VC.2 hne;have hle:b.length<=a.length:=by
   rcases Sr a.length b.length with h | h
   ·have:=vf ha hb O h; omega
   ·exact h
  refine Gd.ite (λY=>?_) (λY=>?_)
  ·have Y:=Qv Y
   have Y:b.length=1:=by omega
   obtain ⟨x,rfl⟩:=Vz.1 Y;have hx:=hb x (by simp)
   have hx0:x.n≠0:=O x (by simp)
   refine Gd.ix (y:=x) (by omega) (by simp) (Gd.eM (Fq ha (by omega) (d:=x.n) (by omega)) (λr hr=>Gd.ret ?_))
   obtain ⟨r1,r2,r3,r4⟩:=hr;have hm:nv a%x.n.toNat<x.n.toNat:=Tn _ (by omega)
   refine ⟨r1,?_,by simp only; omega,by simp at hle ⊢; omega,by rw [r3,BS],?_⟩
   ·refine Wf.one ?_
    rw [r4]; omega
   ·simp only
    rw [BS,BS,r4,Qr]
  ·have Y:=QE Y
   obtain ⟨I,J⟩:∃ I,b.length=I+2:=⟨b.length-2,by omega⟩
   have wn1:i64.wrap ((b.length:Int)-1)=((I+1:Nat):Int):=by rw [J,bT (by omega)]; omega
   have wab:i64.wrap ((a.length:Int)-(b.length:Int))=((a.length-b.length:Nat):Int):=by rw [bT (by omega)]; omega
   have wab1:i64.wrap (((a.length-b.length:Nat):Int)+1)=((a.length-b.length+1:Nat):Int):=by rw [bT (by omega)]; omega
   rw [wn1,wab,wab1];obtain ⟨x,hx⟩:∃ t,b[I+1]? = some t:=⟨_,Qp (by omega)⟩
   have hxw:=hb x (QB hx);have hx0:x.n≠0:=O x (by rw [Vx,J]; exact hx)
   refine Gd.ix (by omega) (by rw [Qr]; exact hx) (Gd.eM (Ot (x:=x.n) (by omega) hxw.2) ?_)
   rintro sv ⟨s,rfl,hs1,hs2,hs3⟩;refine Gd.eM (B7 ha (by omega) hs1) (λu0 hu0=>Gd.eM (B7 hb (by omega) hs1) (λv0 hv0=>?_))
   obtain ⟨p1,p2,p3,p4⟩:=hu0;obtain ⟨q1,q2,q3,t,q4,q5⟩:=hv0;refine Gd.nd (by omega) (Gd.nd (by omega) ?_)
   have hS:0<(2:Nat) ^ s:=VY (by decide)
   have hWS:WB=2 ^ s*2 ^ (32-s):=by rw [<- VT,show s+(32-s)=32 by omega]
   have hbs:nv b=nv (b.take (I+1))+WB ^ (I+1)*x.n.toNat:=by
    have:=rp hx;rw [QH (by omega)] at this; exact this
   have hbt:nv (b.take (I+1))<WB ^ (I+1):=by
    have:=sU (hb.take (I+1)); rw [QR,Rv (by omega)] at this; exact this
   have hb2:nv b<(x.n.toNat+1)*WB ^ (I+1):=by rw [QO,VQ x.n.toNat]; omega
   have hvlt:nv v0<WB ^ (I+2):=by
    rw [q3,VZ,VQ _ WB];exact KV hWS hs3 hb2
   have hvs:nv (v0.take b.length)=nv v0/\Wf (v0.take b.length)/\(v0.take b.length).length=b.length:=by
    refine ⟨?_,q1.take _,by rw [QR]; omega⟩
    have e:=BV v0 (m:=b.length) (by omega)
    have hz:nv (v0.drop b.length)=0:=AP e (by rw [J]; exact hvlt)
    rw [hz,VS,RZ] at e;exact e.symm
   have hsl:rJ v0 0 (((b.length:Int):Int).toNat)=v0.take b.length:=by
    rw [Qr]; rfl
   generalize v0.take b.length=vs at hvs hsl;obtain ⟨v1,v2,v3⟩:=hvs;obtain ⟨y1,hy1⟩:∃ t,vs[I+1]? = some t:=⟨_,Qp (by omega)⟩
   obtain ⟨y2,hy2⟩:∃ t,vs[I]? = some t:=⟨_,Qp (by omega)⟩
   have hy1w:=v2 y1 (QB hy1);have hVS:nv vs=nv b*2 ^ s:=by rw [v1,q3]
   have hnorm:2147483648<=y1.n:=by
    have e1:nv vs=nv (vs.take (I+1))+WB ^ (I+1)*y1.n.toNat:=by
     have:=rp hy1;rw [QH (by omega)] at this; exact this
    have e2:nv (vs.take (I+1))<WB ^ (I+1):=by
     have:=sU (v2.take (I+1)); rw [QR,Rv (by omega)] at this; exact this
    have e3:WB ^ (I+1)*x.n.toNat*2 ^ s<=nv b*2 ^ s:=QI _ (by omega)
    rw [VP] at e3;have e4:WB ^ (I+1)*(x.n.toNat*2 ^ s)<WB ^ (I+1)*(y1.n.toNat+1):=by rw [VO (WB ^ (I+1)) y1.n.toNat 1]; omega
    have e5:=VM e4;omega
   have hst:nv (u0.drop (a.length-b.length+1))<nv vs:=by
    have e:=BV u0 (m:=a.length-b.length+1) (by omega)
    have Y:WB ^ (I+1)<=nv b:=by have:=Fb hb O hne; rw [J] at this; exact this
    have h2:nv a<WB ^ a.length:=sU ha;have h3:nv u0<WB ^ a.length*2 ^ s:=by rw [p3]; exact (Nat.mul_lt_mul_right hS).2 h2
    have h4:WB ^ a.length*2 ^ s=WB ^ (a.length-b.length+1)*(WB ^ (I+1)*2 ^ s):=by
     rw [<- VP,<- VT]; congr 2; omega
    have h5:nv (u0.drop (a.length-b.length+1))<WB ^ (I+1)*2 ^ s:=by
     rw [h4] at h3;exact VM (a:=WB ^ (a.length-b.length+1)) (by omega)
    have h6:WB ^ (I+1)*2 ^ s<=nv b*2 ^ s:=QI _ Y;omega
   have Z:((a.length-b.length:Nat):Int)=((List.replicate (a.length-b.length+1) (⟨0⟩:bU)).length:Int)-1:=by
    rw [RI]; omega
   rw [Qr,Z];refine H9 (N:=a.length+1) (U0:=nv a*2 ^ s) J hsl v3 v2 (by omega) y1 y2 hy1 hy2 hnorm _ u0 (by rw [RI]; omega) (λy hy=>by rw [VE] at hy; rw [hy.2]; simp) p2 p1 (by rw [RI]; exact hst) p3 ?_
   intro qs u f1 f2 f3 f4 f5 f6;obtain ⟨g1,g2,g3⟩:=Nd hS hVS f5 f6;obtain ⟨g4,g5⟩:=Oe g2 g3;refine Gd.nd (by omega) ?_
   rw [Qr];refine GH hs1 f4 (by omega) (by omega) ?_ (λr r1 r2 r3=>⟨f2,r1,?_,?_,g4,?_⟩)
   ·rw [g1]; have:=sU hb; omega
   ·simp only; rw [f1,RI]; omega
   ·simp only; omega
   ·simp only; rw [r3,g1,g5]
theorem wY {w:List bU} (J:Wf w) (ht:vI w):nv w=0↔w=[]:=by
 constructor
 ·intro h
  rcases Vt w with I | ⟨a,y,I⟩
  ·exact I
  ·have:=Fb J ht (by rw [I]; simp)
   have O:0<WB ^ (w.length-1):=VY (by decide)
   omega
 ·intro h; rw [h]; rfl
theorem Ko {a b:List bU} (J:Wf a) (O:Wf b) (Y:vI a) (Z:vI b) (h:nv a=nv b):a=b:=by
 rcases Tw a.length b.length with I | I | I
 ·have:=vf J O Z I; omega
 ·exact Kn J O I h
 ·have:=vf O J Y I; omega
theorem s5.ext' {a b:LI} (I:s5 a) (J:s5 b) (h:gL a=gL b):a=b:=by
 obtain ⟨O,Y⟩:=a; obtain ⟨Z,bw⟩:=b
 have za:=wY I.wf I.tp; have zb:=wY J.wf J.tp
 have sa:=I.sign; have sb:=J.sign
 simp only [gL] at h za zb sa sb;have key:O=Z->Y=bw->(aD.mk O Y)=aD.mk Z bw:=by rintro rfl rfl; rfl
 cases O <;> cases Z <;> simp at h sa sb
 ·exact key rfl (Ko I.wf J.wf I.tp J.tp (by omega))
 ·have:nv bw=0:=by omega
  exact absurd (zb.1 this) sb
 ·have:nv Y=0:=by omega
  exact absurd (za.1 this) sa
 ·exact key rfl (Ko I.wf J.wf I.tp J.tp (by omega))
def NZ (A B:Nat):Nat:=if B=0 then 0 else 2*Nat.log2 (A*B)+2+(if A<B then 1 else 0)
theorem Nh {A B:Nat} (hB:B≠0):NZ B (A%B)<NZ A B:=by
 unfold NZ;rw [Qw hB]
 by_cases hR:A%B=0
 ·rw [Qx hR]; omega
 ·rw [Qw hR]
  have hlt:A%B<B:=Tn _ (by omega)
  rw [Qw (by omega:¬ B<A%B)]
  by_cases I:A<B
  ·rw [Qx I,Sj I,VQ B A]; omega
  ·rw [Qw I]
   have hle:2*(B*(A%B))<=A*B:=by
    have h1:A%B+B*(A / B)=A:=VN A B;have O:1<=A / B:=(VL (by omega)).2 (by omega)
    have h3:B*1<=B*(A / B):=VR _ O;have Y:B*(2*(A%B))<=B*A:=VR _ (by omega)
    rw [VQ A B,<- VP,VQ 2 B,VP]; exact Y
   have J:0<B*(A%B):=Nat.mul_pos (by omega) (by omega)
   have h5:Nat.log2 (B*(A%B))<Nat.log2 (A*B):=by
    have h6:2 ^ Nat.log2 (B*(A%B))<=B*(A%B):=Nat.log2_self_le (by omega)
    have Z:2 ^ (Nat.log2 (B*(A%B))+1)<=A*B:=by rw [VZ]; omega
    exact (Nat.le_log2 (by omega)).2 Z
   omega
theorem A1 (n:Nat):WB ^ n=2 ^ (32*n):=by rw [VX]
theorem Ng {a b:List bU} (O:Wf a) (Y:Wf b) (Z:a.length<=900000) (hzb:b.length<=900000):NZ (nv a) (nv b)<=200000000:=by
 unfold NZ
 split
 ·omega
 ·rename_i h
  have h1:Nat.log2 (nv a*nv b)<=64000000:=by
   by_cases I:nv a*nv b=0
   ·rw [I]; decide
   ·have J:nv a*nv b<2 ^ (32*(a.length+b.length)):=by
     rw [<- A1,VT];exact Nat.mul_lt_mul_of_lt_of_le (sU O) (Nat.le_of_lt (sU Y)) (VY (by decide))
    have:=(Nat.log2_lt I).2 J;omega
  split <;> omega
theorem sign_zero {a:LI} (h:s5 a):fH a=0↔nv a.words=0:=by
 unfold fH;rw [wY h.wf h.tp]
 by_cases I:a.words=[]
 ·simp [I]
 ·have:a.words.length≠0:=λh=>I (QZ h)
  rw [Qw (by simp; exact I)]
  constructor
  ·intro h; split at h <;> omega
  ·intro h; exact absurd h I
theorem s5.pos {w:List bU} (I:Wf w) (ht:vI w):s5 (aD.mk false w):=⟨I,ht,λh=>by simp at h⟩
theorem JY {a b:LI} (ha:s5 a) (hb:s5 b) {L:Nat} (hL:L<=900000) (hza:a.words.length<=L) (hzb:b.words.length<=L):
  Gd (pS a b) (λr=>s5 r/\r.minus=false/\r.words.length<=L/\nv r.words=Nat.gcd (nv a.words) (nv b.words)):=by
 unfold pS;refine Gd.iL (λ(z:Bool×List bU×Bool×List bU)=>z.1=false/\z.2.2.1=false/\Wf z.2.1/\vI z.2.1/\Wf z.2.2.2/\vI z.2.2.2/\z.2.1.length<=L/\z.2.2.2.length<=L/\Nat.gcd (nv z.2.2.2) (nv z.2.1)=Nat.gcd (nv a.words) (nv b.words)) (λz=>NZ (nv z.2.2.2) (nv z.2.1)) ?_ fT _ ⟨rfl,rfl,hb.wf,hb.tp,ha.wf,ha.tp,hzb,hza,rfl⟩ ?_
 ·rintro ⟨c1,l1,c2,l2⟩ nx ⟨h1,h2,J,O,h5,h6,h7,h8,Y⟩ I
  simp only at h1 h2 J O h5 h6 h7 h8 Y I ⊢;subst h1 h2;unfold uX sH;have hs:=sign_zero (s5.pos J O);simp only at hs;refine Gd.ite (λh=>?_) (λh=>?_)
  ·have Z:nv l1≠0:=by
    intro e;rw [hs.2 e] at h; simp at h
   refine Gd.eM (JK h5 J h6 O (λe=>Z (by rw [e]; rfl)) (by omega) (by omega)) (λr hr=>?_)
   obtain ⟨r1,r2,r3,r4,r5,r6⟩:=hr;refine Gd.nd (by omega) (Gd.eM (tK false r.2 r2 (by omega)) (λs hs'=>?_))
   obtain ⟨s1,s2,s3,s4⟩:=hs';have hm:s.minus=false:=by
    rcases Ve s.minus with h | h
    ·have:=s4.1 h; simp at this
    ·exact h
   refine I _ ⟨hm,rfl,s1.wf,s1.tp,J,O,by simp only; omega,h7,?_⟩ ?_
   ·simp only
    rw [s3,r6,<- Y,<- Nat.gcd_comm (nv l1) (nv l2),Nat.gcd_rec (nv l1) (nv l2),Nat.gcd_comm]
   ·simp only
    rw [s3,r6];exact Nh Z
  ·have Z:nv l1=0:=by
    apply hs.1;simpa using h
   rw [Z,Nat.gcd_zero_right] at Y;exact Gd.ret ⟨s5.pos h5 h6,rfl,h8,Y⟩
 ·simp only [fT]
  have:=Ng ha.wf hb.wf (by omega) (by omega)
  omega
theorem MJ {a b:LI} (Y:s5 a) (Z:s5 b) (hm:a.minus=false) (h0:nv b.words≠0) (J:a.words.length<=900000) (O:b.words.length<=900000):
  Gd (cS a b) (λr=>s5 r.1/\r.1.minus=false/\r.1.words.length<=a.words.length/\nv r.1.words=nv a.words / nv b.words):=by
 unfold cS mg;refine Gd.eM (JK Y.wf Z.wf Y.tp Z.tp (λe=>h0 (by rw [e]; rfl)) J O) (λr hr=>?_)
 obtain ⟨r1,r2,r3,r4,r5,r6⟩:=hr;refine Gd.nd (by omega) (Gd.eM (tK _ _ r1 (by omega)) (λs hs=>Gd.nd (by omega) (Gd.eM (tK _ _ r2 (by omega)) (λt ht=>?_))))
 obtain ⟨s1,s2,s3,s4⟩:=hs;obtain ⟨t1,t2,t3,t4⟩:=ht;rw [hm] at s4 t4;have I:s.minus=false:=by
  rcases Ve s.minus with h | h
  ·have:=s4.1 h; simp at this
  ·exact h
 refine Gd.ite (λh=>?_) (λh=>Gd.ret ⟨s1,I,by simp only; omega,by simp only; rw [s3,r5]⟩)
 have:=t4.1 h; simp at this
abbrev LR:=aA
structure py (r:LR):Prop where
 n:s5 r.N
 d:s5 r.D
 pos:r.D.minus=false
 nz:nv r.D.words≠0
 Pk:Nat.Coprime (nv r.N.words) (nv r.D.words)
def rv (r:LR):Rat:=Rat.divInt (gL r.N) (gL r.D)
theorem qw {a:LI} (h:a.minus=false):gL a=(nv a.words:Nat):=by unfold gL; rw [h]; rfl
theorem lq (a:LI):(gL a).natAbs=nv a.words:=by
 unfold gL
 split <;> omega
theorem py.eq {r:LR} (h:py r):rv r=Rat.mk' (gL r.N) (nv r.D.words) h.nz (by rw [lq]; exact h.Pk):=by
 unfold rv;rw [qw h.pos];exact (Rat.num_divInt_den (Rat.mk' (gL r.N) (nv r.D.words) h.nz (by rw [lq]; exact h.Pk)))
theorem py.num {r:LR} (h:py r):(rv r).num=gL r.N:=by rw [h.eq]
theorem py.den {r:LR} (h:py r):(rv r).den=nv r.D.words:=by rw [h.eq]
theorem py.ext' {r s:LR} (h:py r) (k:py s) (e:rv r=rv s):r=s:=by
 have e1:gL r.N=gL s.N:=by rw [<- h.num,<- k.num,e]
 have e2:nv r.D.words=nv s.D.words:=by rw [<- h.den,<- k.den,e]
 have I:=h.n.ext' k.n e1;have J:=h.d.ext' k.d (by rw [qw h.pos,qw k.pos,e2])
 obtain ⟨a,b⟩:=r; obtain ⟨c,d⟩:=s
 simp only at I J; rw [I,J]
def RL (r:LR) (L:Nat):Prop:=r.N.words.length<=L/\r.D.words.length<=L
theorem RL.mono {r:LR}{L M:Nat} (h:RL r L) (I:L<=M):RL r M:=⟨Rp h.1 I,Rp h.2 I⟩
theorem yq {g a b:Int} (J:g≠0) (I:b≠0):Rat.divInt (g*a) (g*b)=Rat.divInt a b:=by
 rw [Rat.divInt_eq_divInt_iff (Int.mul_ne_zero J I) I];rw [Int.mul_comm g a,Vj]
theorem Oy {n d g:LI} (hn:s5 n) (hd:s5 d) (hg:s5 g) (hdm:d.minus=false) (hd0:nv d.words≠0) (Y:nv g.words=Nat.gcd (nv n.words) (nv d.words))
  (hzn:n.words.length<=900000) (hzd:d.words.length<=900000) (hzg:g.words.length<=900000):
  Gd ((cS (aD.mk false n.words) g).bind λJ=>(cS (aD.mk d.minus d.words) g).bind λZ=>if n.minus then (some (aA.mk (aD.mk (decide (0<(J.1.words.length:Int))) J.1.words) Z.1)) else (some (aA.mk (aD.mk false J.1.words) Z.1)))
   (λr=>py r/\r.N.words.length<=n.words.length/\r.D.words.length<=d.words.length/\rv r=Rat.divInt (gL n) (gL d)):=by
 have hg0:nv g.words≠0:=by
  rw [Y];exact Nat.ne_of_gt (Nat.gcd_pos_of_pos_right _ (by omega))
 have gN:nv g.words ∣ nv n.words:=by rw [Y]; exact Nat.gcd_dvd_left _ _
 have gD:nv g.words ∣ nv d.words:=by rw [Y]; exact Nat.gcd_dvd_right _ _
 have O:Nat.Coprime (nv n.words / nv g.words) (nv d.words / nv g.words):=by
  rw [Y]; exact Nat.coprime_div_gcd_div_gcd (Nat.gcd_pos_of_pos_right _ (by omega))
 obtain ⟨n',hn'⟩:=gN;obtain ⟨d',I⟩:=gD;have en:nv n.words / nv g.words=n':=by rw [hn',Nat.mul_div_cancel_left _ (by omega)]
 have ed:nv d.words / nv g.words=d':=by rw [I,Nat.mul_div_cancel_left _ (by omega)]
 have hd0':d'≠0:=by intro h; rw [h] at I; simp at I; exact hd0 I
 refine Gd.eM (MJ (a:=aD.mk false n.words) (s5.pos hn.wf hn.tp) hg rfl hg0 hzn hzg) (λr hr=>Gd.eM (MJ (a:=aD.mk d.minus d.words) hd hg hdm hg0 hzd hzg) (λt ht=>?_));obtain ⟨r1,r2,r3,r4⟩:=hr;obtain ⟨t1,t2,t3,t4⟩:=ht;simp only at r3 r4 t3 t4;rw [en] at r4 O;rw [ed] at t4 O;have hd2:gL d=(nv g.words:Int)*(d':Int):=by rw [qw hdm,I,Rg]
 have ht2:gL t.1=(d':Int):=by rw [qw t2,t4]
 refine Gd.ite (λh=>Gd.ret ?_) (λh=>Gd.ret ?_)
 ·have hN:s5 (aD.mk (decide (0<(r.1.words.length:Int))) r.1.words):=⟨r1.wf,r1.tp,λh e=>by simp only at h e; rw [e] at h; simp at h⟩
  refine ⟨⟨hN,t1,t2,by simp only; omega,by simp only; rw [r4,t4]; exact O⟩,r3,t3,?_⟩
  have hi:gL (aD.mk (decide (0<(r.1.words.length:Int))) r.1.words) = -(n':Int):=by
   unfold gL;simp only;rw [r4]
   by_cases hl:r.1.words=[]
   ·rw [hl] at r4 ⊢
    have:n'=0:=r4.symm;rw [this]; simp
   ·have:=VC.2 hl
    rw [Qx (by simp; omega)]
  have um:gL n=(nv g.words:Int)*(-(n':Int)):=by
   unfold gL; rw [Qx h,hn',Rg,Int.mul_neg]
  unfold rv;simp only;rw [hi,ht2,um,hd2,yq (by omega) (by omega)]
 ·refine ⟨⟨s5.pos r1.wf r1.tp,t1,t2,by simp only; omega,by simp only; rw [r4,t4]; exact O⟩,r3,t3,?_⟩
  have hi:gL (aD.mk false r.1.words)=(n':Int):=by
   rw [qw rfl]; simp only; rw [r4]
  have um:gL n=(nv g.words:Int)*(n':Int):=by
   rw [qw h,hn',Rg]
  unfold rv;simp only;rw [hi,ht2,um,hd2,yq (by omega) (by omega)]
theorem Fc {w:List bU} (h:decide ((w.length:Int)=1)=true):∃ x,w=[x]:=by
 have:=Qv h;exact Vz.1 (by omega)
theorem Hn {x:bU} (I:0<=x.n):nv [x]=1↔x.n=1:=by rw [BS]; omega
theorem KC {n d:LI} (hn:s5 n) (hd:s5 d) (hdm:d.minus=false) (hd0:nv d.words≠0) (hzn:n.words.length<=900000) (hzd:d.words.length<=900000):
  Gd (nQ d.minus d.words n.minus n.words) (λr=>py r/\r.N.words.length<=n.words.length/\r.D.words.length<=d.words.length/\rv r=Rat.divInt (gL n) (gL d)):=by
 have self:Nat.gcd (nv n.words) (nv d.words)=1->Gd (some (aA.mk (aD.mk n.minus n.words) (aD.mk d.minus d.words))) (λr=>py r/\r.N.words.length<=n.words.length/\r.D.words.length<=d.words.length/\rv r=Rat.divInt (gL n) (gL d)):=λhg=>
  Gd.ret ⟨⟨hn,hd,hdm,hd0,hg⟩,QM _,QM _,rfl⟩
 have part:Gd ((pS (aD.mk n.minus n.words) (aD.mk d.minus d.words)).bind λI=>if decide ((I.words.length:Int)=1) then (idx I.words 0 λy160=>if decide (y160.n=1) then (some (aA.mk (aD.mk n.minus n.words) (aD.mk d.minus d.words))) else ((cS (aD.mk false n.words) I).bind λO=>(cS (aD.mk d.minus d.words) I).bind λZ=>if n.minus then (some (aA.mk (aD.mk (decide (0<(O.1.words.length:Int))) O.1.words) Z.1)) else (some (aA.mk (aD.mk false O.1.words) Z.1)))) else ((cS (aD.mk false n.words) I).bind λJ=>(cS (aD.mk d.minus d.words) I).bind λY=>if n.minus then (some (aA.mk (aD.mk (decide (0<(J.1.words.length:Int))) J.1.words) Y.1)) else (some (aA.mk (aD.mk false J.1.words) Y.1))))
   (λr=>py r/\r.N.words.length<=n.words.length/\r.D.words.length<=d.words.length/\rv r=Rat.divInt (gL n) (gL d)):=by
  refine Gd.eM (JY (L:=900000) hn hd (by omega) hzn hzd) (λg hg=>?_)
  obtain ⟨g1,g2,g3,g4⟩:=hg;refine Gd.ite (λh=>?_) (λh=>Oy hn hd g1 hdm hd0 g4 hzn hzd g3);obtain ⟨x,hx⟩:=Fc h;have hxw:=g1.wf x (by rw [hx]; simp)
  refine Gd.ix (y:=x) (by omega) (by rw [hx]; rfl) (Gd.ite (λh2=>self ?_) (λh2=>Oy hn hd g1 hdm hd0 g4 hzn hzd g3))
  rw [<- g4,hx,Hn hxw.1]; exact Qv h2
 unfold nQ;refine Gd.ite (λh=>?_) (λh=>part);obtain ⟨x,hx⟩:=Fc h;have hxw:=hd.wf x (by rw [hx]; simp)
 refine Gd.ix (y:=x) (by omega) (by rw [hx]; rfl) (Gd.ite (λh2=>self ?_) (λh2=>part))
 have:=(Hn hxw.1).2 (Qv h2);rw [hx,this,Nat.gcd_one_right]
theorem xN {n d:LI} (hn:s5 n) (hd:s5 d) (J:nv d.words≠0) (hzn:n.words.length<=900000) (hzd:d.words.length<=900000):
  Gd (nM n d) (λr=>py r/\r.N.words.length<=n.words.length/\r.D.words.length<=d.words.length/\rv r=Rat.divInt (gL n) (gL d)):=by
 unfold nM;refine Gd.ite (λh=>?_) (λh=>KC hn hd h J hzn hzd);refine Gd.eM (DI hn (by omega)) (λn' O=>Gd.eM (DI hd (by omega)) (λY I=>?_))
 have e:nv Y.words=nv d.words:=by rw [<- lq,I.2.2,Int.natAbs_neg,lq]
 have hm:Y.minus=false:=by
  have Z:=I.2.2;unfold gL at Z;rw [Qx h] at Z;rcases Ve Y.minus with h2 | h2
  ·rw [Qx h2] at Z; omega
  ·exact h2
 refine (KC O.1 I.1 hm (by rw [e]; exact J) (by omega) (by omega)).mono (λr hr=>⟨hr.1,by omega,by omega,?_⟩)
 rw [hr.2.2.2,O.2.2,I.2.2];rw [Rat.neg_divInt_neg]
theorem MR {r:LR} (h:py r):gL r.D≠0:=by rw [qw h.pos]; have:=h.nz; omega
theorem Gi {a b c:LI} (h:gL c=gL a*gL b) (I:nv a.words≠0) (J:nv b.words≠0):nv c.words≠0:=by
 rw [<- lq,h,Int.natAbs_mul,lq,lq];exact Nat.mul_ne_zero I J
theorem w6 {a b:LR} (J:py a) (O:py b) {A B:Nat} (la:RL a A) (lb:RL b B) (hz:A+B<=800000):
  Gd (iS a b) (λr=>py r/\RL r (A+B+1)/\rv r=rv a+rv b):=by
 have:=la.1; have:=la.2; have:=lb.1; have:=lb.2
 unfold iS;refine Gd.eM (vR J.n O.d (by omega)) (λx Z=>Gd.eM (vR O.n J.d (by omega)) (λy hy=>Gd.eM (Dy Z.1 hy.1 (by omega) (by omega)) (λs hs=>Gd.eM (vR J.d O.d (by omega)) (λz I=>?_))))
 refine Gd.eM (xN hs.1 I.1 (Gi I.2.2 J.nz O.nz) (by omega) (by omega)) (λr Y=>Gd.ret ⟨Y.1,⟨by omega,by omega⟩,?_⟩)
 rw [Y.2.2.2,hs.2.2,Z.2.2,hy.2.2,I.2.2];unfold rv;rw [Rat.divInt_add_divInt _ _ (MR J) (MR O)]
theorem Hw {a:LR} (I:py a) {A:Nat} (la:RL a A) (O:A<=800000):
  Gd (oJ a) (λr=>py r/\RL r A/\rv r = -rv a):=by
 have:=la.1; have:=la.2
 unfold oJ;refine Gd.eM (DI I.n (by omega)) (λx J=>Gd.ret ⟨⟨J.1,I.d,I.pos,I.nz,?_⟩,⟨by simp only; omega,la.2⟩,?_⟩)
 ·have e:nv x.words=nv a.N.words:=by rw [<- lq,J.2.2,Int.natAbs_neg,lq]
  simp only; rw [e]; exact I.Pk
 ·unfold rv
  simp only;rw [J.2.2,Rat.neg_divInt]
theorem x_ {a b:LR} (O:py a) (Y:py b) {A B:Nat} (la:RL a A) (lb:RL b B) (Z:A+B<=800000):
  Gd (kz a b) (λr=>py r/\RL r (A+B+1)/\rv r=rv a-rv b):=by
 unfold kz;refine Gd.eM (Hw Y lb (by omega)) (λc I=>Gd.eM (w6 O I.1 la I.2.1 Z) (λr J=>Gd.ret ⟨J.1,J.2.1,?_⟩))
 rw [J.2.2,I.2.2,Rat.sub_eq_add_neg]
theorem zz {a b:LR} (J:py a) (O:py b) {A B:Nat} (la:RL a A) (lb:RL b B) (hz:A+B<=800000):
  Gd (lZ a b) (λr=>py r/\RL r (A+B)/\rv r=rv a*rv b):=by
 have:=la.1; have:=la.2; have:=lb.1; have:=lb.2
 unfold lZ;refine Gd.eM (vR J.n O.n (by omega)) (λx Z=>Gd.eM (vR J.d O.d (by omega)) (λz I=>?_))
 refine Gd.eM (xN Z.1 I.1 (Gi I.2.2 J.nz O.nz) (by omega) (by omega)) (λr Y=>Gd.ret ⟨Y.1,⟨by omega,by omega⟩,?_⟩)
 rw [Y.2.2.2,Z.2.2,I.2.2];unfold rv;rw [Rat.divInt_mul_divInt]
theorem Hz {r:LR} (h:py r):rv r=0↔nv r.N.words=0:=by
 have hn:=h.num;rw [<- lq,Int.natAbs_eq_zero,<- hn,Rat.num_eq_zero]
theorem vj {n:Int} (h:-9223372036854775808<=n/\n<=9223372036854775807):Gd (kX n) (λr=>py r/\RL r 2/\rv r=(n:Rat)):=by
 unfold kX;refine Gd.eM (BW h) (λx O=>Gd.eM (BW (n:=1) (by omega)) (λy I=>Gd.ret ?_))
 have hm:y.minus=false:=by
  have Y:=I.2.2;unfold gL at Y;rcases Ve y.minus with J | J
  ·rw [Qx J] at Y; omega
  ·exact J
 have Z:nv y.words=1:=by rw [<- lq,I.2.2]; rfl
 refine ⟨⟨O.1,I.1,hm,by simp only; omega,by simp only; rw [Z]; exact Nat.coprime_one_right _⟩,⟨O.2.1,I.2.1⟩,?_⟩
 unfold rv;simp only;rw [O.2.2,I.2.2,Rat.divInt_eq_div,Rat.intCast_one]; grind
theorem G5 {n d:Int} (h:-9223372036854775808<=n/\n<=9223372036854775807) (k:-9223372036854775808<=d/\d<=9223372036854775807) (Z:d≠0):
  Gd (rj n d) (λr=>py r/\RL r 2/\rv r=(n:Rat) / (d:Rat)):=by
 unfold rj;refine Gd.eM (BW h) (λx O=>Gd.eM (BW k) (λy I=>?_));have Y:nv y.words≠0:=by rw [<- lq,I.2.2]; omega
 refine Gd.eM (xN O.1 I.1 Y (by omega) (by omega)) (λr J=>Gd.ret ⟨J.1,⟨by omega,by omega⟩,?_⟩)
 rw [J.2.2.2,O.2.2,I.2.2,Rat.divInt_eq_div]
abbrev bl (s:Qm):List UInt8:=s.data.toList
def ba (l:List UInt8):Qm:=⟨l.toArray⟩
@[simp] theorem GY (l:List UInt8):bl (ba l)=l:=rfl
@[simp] theorem Jq (s:Qm):ba (bl s)=s:=by
 show (⟨s.data.toList.toArray⟩:Qm)=s;rw [Array.toArray_toList]
theorem FN {a b:Qm} (h:bl a=bl b):a=b:=by rw [<- Jq a,h,Jq]
theorem Dg (s:Qm):(bl s).length=s.size:=by show s.data.toList.length=s.data.size; exact Array.length_toList
theorem iV (l:List UInt8):(ba l).size=l.length:=(Dg (ba l)).symm
theorem Jt (a b:Qm):bl (a++b)=bl a++bl b:=by show (a++b).data.toList=_; simp
theorem FL (a b:List UInt8):ba a++ba b=ba (a++b):=FN (Jt _ _)
theorem xA {a b:List UInt8} (h:ba a=ba b):a=b:=by have:=Q9 bl h; simpa using this
theorem FM (s:Qm) (i j:Nat):bl (s.extract i j)=((bl s).take j).drop i:=by
 show (s.extract i j).data.toList=(s.data.toList.take j).drop i;simp [ByteArray.data_extract,Array.toList_extract,SP]
theorem r_ (l:List UInt8) (i j:Nat):(ba l).extract i j=ba ((l.take j).drop i):=FN (by rw [FM,GY,GY])
theorem B8 (a b:Qm):(a++b).size=a.size+b.size:=by rw [<- Dg,Jt,QJ,Dg,Dg]
theorem uc (c:UInt8):∀ (l:List UInt8),(c ∉ l/\Lib.indexByte l c = -1)\/∃ a b,l=a++c::b/\c ∉ a/\Lib.indexByte l c=a.length
 | []=>.inl ⟨by simp,rfl⟩
 | x::l=>by
  by_cases e:x=c
  ·subst e
   exact .inr ⟨[],l,rfl,by simp,by simp [Lib.indexByte]⟩
  ·have J:(x == c)=false:=by simpa using e
   rcases uc c l with ⟨O,I⟩ | ⟨a,b,rfl,I,Y⟩
   ·refine .inl ⟨by simp [O]; exact λh=>e h.symm,?_⟩
    simp [Lib.indexByte,J,I]
   ·refine .inr ⟨x::a,b,rfl,by simp [I]; exact λh=>e h.symm,?_⟩
    simp only [Lib.indexByte,J,Y];rw [Qw (by simp),Qw (by simp)]
    simp only [QA]; omega
theorem FR (c:UInt8):kC (ba [c])=[⟨c.toNat⟩]:=by simp [kC,ba]
theorem EU (s:Qm) (c:UInt8):iQ s (ba [c])=some (Lib.indexByte (bl s) c):=by
 unfold iQ fW
 by_cases e:ba [c]=s
 ·subst e
  rw [Qx (by simp)]
  simp [Lib.indexByte]
 ·rw [Qw (by simp [iV,e]),Qx (by simp [iV]),FR]
  simp [idx,Nk]
theorem HS (l:List UInt8):kC (ba l)=l.map λb=>(⟨b.toNat⟩:U8):=rfl
theorem EG (l:List UInt8):zd (l.map λb=>(⟨b.toNat⟩:U8))=ba l:=by
 refine FN ?_;show (List.map _ (List.map _ l)).toArray.toList=l;rw [List.map_map,S0]
 conv=>rhs; rw [<- List.map_id l]
 refine List.map_congr_left λb _=>?_;simp
def Cz (c:UInt8):Prop:=48<=c.toNat/\c.toNat<=57
instance (c:UInt8):Decidable (Cz c):=by unfold Cz; infer_instance
def JN (acc:Nat):List UInt8->Nat
 | []=>acc
 | c::r=>JN (acc*10+(c.toNat-48)) r
def dv (l:List UInt8):Nat:=JN 0 l
theorem Dp:∀ (l:List UInt8) (acc:Nat),JN acc l=acc*10 ^ l.length+dv l
 | [],acc=>by
  rw [VB,V0,S4]; rfl
 | c::r,acc=>by
  have I:=Dp r (0*10+(c.toNat-48));unfold dv JN;rw [Dp r,I,QA,VZ];have:(acc*10+(c.toNat-48))*10 ^ r.length=acc*(10 ^ r.length*10)+(0*10+(c.toNat-48))*10 ^ r.length:=by
   rw [QO,R2,QP,VP,VQ 10]
  rw [this,SN]
theorem Bp (a b:List UInt8):dv (a++b)=dv a*10 ^ b.length+dv b:=by
 have key:∀ (a:List UInt8) (acc:Nat),JN acc (a++b)=JN (JN acc a) b:=by
  intro a
  induction a with
  | nil=>intro acc; rfl
  | cons c r ih=>intro acc; exact ih _
 unfold dv;rw [key,Dp]; rfl
theorem F1 (c:UInt8):dv [c]=c.toNat-48:=by
 show 0*10+(c.toNat-48)=_;omega
theorem zi (c:UInt8) (r:List UInt8):dv (c::r)=(c.toNat-48)*10 ^ r.length+dv r:=by
 have:=Bp [c] r;rw [F1] at this; simpa using this
theorem JP (n:Nat):dv (List.replicate n (48:UInt8))=0:=by
 induction n with
 | zero=>rfl
 | succ n ih=>rw [SZ,zi,ih]; simp
theorem Aj:∀ {l:List UInt8},(∀ c ∈ l,Cz c)->dv l<10 ^ l.length
 | [],_=>by
  show 0<10 ^ 0
  decide
 | c::r,h=>by
  have J:=Aj (l:=r) (λz I=>h z (Qy _ I));have O:=(h c (Qu ..)).2;rw [zi,QA,VZ,VQ (10 ^ r.length) 10];have:(c.toNat-48)*10 ^ r.length<=9*10 ^ r.length:=QI _ (by omega)
  generalize 10 ^ r.length=P at *
  omega
theorem JO {c:UInt8}{r:List UInt8} (J:Cz c) (I:c≠48):10 ^ r.length<=dv (c::r):=by
 have:1<=c.toNat-48:=by
  have:=J.1;have O:c.toNat≠48:=λe=>I (UInt8.toNat_inj.1 (by rw [e]; rfl))
  omega
 rw [zi];have:1*10 ^ r.length<=(c.toNat-48)*10 ^ r.length:=QI _ this;generalize 10 ^ r.length=P at *
 omega
structure FB (l:List UInt8):Prop where
 Ej:∀ c ∈ l,Cz c
 ne:l≠[]
 lead:l.head? = some 48->l=[48]
theorem By {a b:List UInt8} (h:a≠[]):(a++b).head? = a.head? := by
 cases a with
 | nil=>exact absurd rfl h
 | cons x r=>rfl
theorem JH {u:Nat} (h:u<10):(UInt8.ofNat (48+u)).toNat=48+u:=by rw [UInt8.toNat_ofNat']; omega
theorem me (u:Nat):FB (Lib.decDigits u)/\dv (Lib.decDigits u)=u:=by
 induction u using Nat.strongRecOn with
 | _ u ih=>
  by_cases h:u<10
  ·rw [Vo h]
   have Y:=JH h;refine ⟨⟨λc I=>?_,by simp,λJ=>?_⟩,by rw [F1,Y]; omega⟩
   ·rw [QY] at I; subst I; unfold Cz; omega
   ·simp only [Vy,QL] at J
    rw [J]
  ·obtain ⟨O,Z⟩:=ih (u / 10) (by omega)
   have e:Lib.decDigits u=Lib.decDigits (u / 10)++[UInt8.ofNat (48+u%10)]:=by rw [Lib.decDigits,dif_neg h]
   have Y:=JH (u:=u%10) (by omega)
   rw [e];refine ⟨⟨λc I=>?_,by simp,λJ=>?_⟩,?_⟩
   ·rcases QG.1 I with I | I
    ·exact O.Ej c I
    ·rw [QY] at I; subst I; unfold Cz; omega
   ·rw [By O.ne] at J
    have:=O.lead J;rw [this] at Z;have:dv [48]=0:=rfl;omega
   ·rw [Bp,Z,F1,Y]
    simp only [Ro,Nat.pow_one]; omega
theorem Hj:∀ {a b:List UInt8},FB a->FB b->dv a=dv b->a=b:=by
 have zero:∀ {a:List UInt8},FB a->dv a=0->a=[48]:=by
  intro a I h0;cases a with
  | nil=>exact absurd rfl I.ne
  | cons c r=>
   by_cases hc:c=48
   ·exact I.lead (by rw [hc]; rfl)
   ·have:=JO (r:=r) (I.Ej c (Qu ..)) hc
    have:0<10 ^ r.length:=VY (by decide)
    omega
 have Y:∀ (a b:List UInt8),a.length=b.length->(∀ c ∈ a,Cz c)->(∀ c ∈ b,Cz c)->dv a=dv b->a=b:=by
  intro a
  induction a with
  | nil=>intro b hl _ _ _; cases b with | nil=>rfl | cons _ _=>simp at hl
  | cons c r ih=>
   intro b hl I O h;cases b with
   | nil=>simp at hl
   | cons d s=>
    have Z:r.length=s.length:=by simpa using hl
    have h1:=Aj (l:=r) (λz J=>I z (Qy _ J));have h2:=Aj (l:=s) (λz J=>O z (Qy _ J));have hc:=I c (Qu ..);have hd:=O d (Qu ..);rw [zi,zi,<- Z] at h;rw [<- Z] at h2;have hP:0<10 ^ r.length:=VY (by decide)
    have e1:c.toNat-48=d.toNat-48:=by
     have q1:((c.toNat-48)*10 ^ r.length+dv r) / 10 ^ r.length=c.toNat-48:=by
      rw [S3,Nat.add_mul_div_right _ _ hP,VJ h1,QP]
     have q2:((d.toNat-48)*10 ^ r.length+dv s) / 10 ^ r.length=d.toNat-48:=by
      rw [S3,Nat.add_mul_div_right _ _ hP,VJ h2,QP]
     rw [<- q1,h,q2]
    have e2:c=d:=UInt8.toNat_inj.1 (by have:=hc.1; have:=hd.1; omega)
    rw [e1] at h;rw [e2,ih s Z (λz J=>I z (Qy _ J)) (λz J=>O z (Qy _ J)) (by omega)]
 intro a b I O h
 by_cases h0:dv a=0
 ·rw [zero I h0,zero O (by omega)]
 ·have big:∀ {l:List UInt8},FB l->dv l≠0->∃ c r,l=c::r/\10 ^ r.length<=dv l:=by
   intro l hl J;cases l with
   | nil=>exact absurd rfl hl.ne
   | cons c r=>
    refine ⟨c,r,rfl,JO (hl.Ej c (Qu ..)) (λhc=>J ?_)⟩;rw [hl.lead (by rw [hc]; rfl)]; rfl
  obtain ⟨c,r,rfl,h1⟩:=big I h0;obtain ⟨d,s,rfl,h2⟩:=big O (by omega)
  have h3:=Aj I.Ej;have h4:=Aj O.Ej;refine Y _ _ ?_ I.Ej O.Ej h;rw [h] at h1 h3;have l1:r.length<(d::s).length:=(VW (by decide)).1 (Tq h1 h4)
  have l2:s.length<(c::r).length:=(VW (by decide)).1 (Tq h2 h3)
  simp only [QA] at l1 l2 ⊢; omega
theorem wO {l:List UInt8} (h:FB l):Lib.decDigits (dv l)=l:=Hj (me _).1 h (me _).2
theorem CR {u k:Nat} (Y:1<=k) (h:u<10 ^ k):(Lib.decDigits u).length<=k:=by
 obtain ⟨I,J⟩:=me u;cases hl:Lib.decDigits u with
 | nil=>simp
 | cons c r=>
  rw [hl] at I J
  by_cases O:c=48
  ·rw [I.lead (by rw [O]; rfl)]; simpa using Y
  ·have:=JO (r:=r) (I.Ej c (Qu ..)) O
   rw [J] at this;have:r.length<k:=(VW (by decide)).1 (Tq this h)
   rw [QA]; exact this
theorem BH {u k:Nat} (h:(Lib.decDigits u).length<=k):u<10 ^ k:=by
 obtain ⟨I,J⟩:=me u;have:=Aj I.Ej;rw [J] at this;exact Tb this (VV (by decide) h)
def pad (k:Nat) (r:Nat):List UInt8:=List.replicate (k-(Lib.decDigits r).length) 48++Lib.decDigits r
theorem LX {k r:Nat} (I:1<=k) (h:r<10 ^ k):(pad k r).length=k:=by
 have:=CR I h;unfold pad;rw [QJ,RI]; omega
theorem LW (k r:Nat):∀ c ∈ pad k r,Cz c:=by
 intro c I;rcases QG.1 I with I | I
 ·rw [(VE.1 I).2]; exact ⟨by decide,by decide⟩
 ·exact (me r).1.Ej c I
theorem Nc (k r:Nat):dv (pad k r)=r:=by
 unfold pad;rw [Bp,JP,(me r).2]; omega
theorem Ls {k q r:Nat} (Z:1<=k) (hq:0<q) (hr:r<10 ^ k):Lib.decDigits (q*10 ^ k+r)=Lib.decDigits q++pad k r:=by
 obtain ⟨J,O⟩:=me q;refine Hj (me _).1 ⟨λc I=>?_,by simp [J.ne],λY=>?_⟩ ?_
 ·rcases QG.1 I with I | I
  ·exact J.Ej c I
  ·exact LW _ _ c I
 ·rw [By J.ne] at Y
  rw [J.lead Y] at O;have:dv [48]=0:=rfl;omega
 ·rw [(me _).2,Bp,O,LX Z hr,Nc]
theorem Ku {M:Nat} (J:M<1844674407370955162):∀ (l:List UInt8) (acc:Nat),(∀ c ∈ l,Cz c)->JN acc l<=M->acc<=M->Lib.parseUintM M acc l=.ok (JN acc l)
 | [],acc,_,_,_=>rfl
 | c::r,acc,h,hl,ha=>by
  have O:=h c (Qu ..);have I:acc*10+(c.toNat-48)<=M:=by
   have:=Dp r (acc*10+(c.toNat-48));have Z:JN acc (c::r)=JN (acc*10+(c.toNat-48)) r:=rfl;have hP:1<=10 ^ r.length:=VY (by decide)
   have:(acc*10+(c.toNat-48))*1<=(acc*10+(c.toNat-48))*10 ^ r.length:=VR _ hP;generalize 10 ^ r.length=P at *
   omega
  rw [Lib.parseUintM,Qx (show 48<=c.toNat/\c.toNat<=57 from O),Qw (by omega),Qw (by omega)]
  exact Ku J r _ (λz Y=>h z (Qy _ Y)) hl I
theorem L3 {l:List UInt8} (h:∀ c ∈ l,Cz c) (hl:l.length<=9):L1 (ba l)=((dv l:Int),false):=by
 unfold L1;have I:=Aj h;have J:10 ^ l.length<=10 ^ 9:=VV (by decide) hl
 have e:=Ku (M:=4294967295) (by decide) l 0 h (by show dv l<=_; omega) (by omega)
 show (match Lib.parseUintM 4294967295 0 l with | .ok v=>((v:Int),false) | .range=>(4294967295,true) | _=>(0,true))=_
 rw [e]; rfl
theorem CV (l:List UInt8):eS (ba l) (⟨#[45]⟩)=some (decide (l.head? = some 45)):=by
 have I:(⟨#[45]⟩:Qm).size=1:=rfl;unfold eS;rw [I,iV];cases l with
 | nil=>rfl
 | cons c r=>
  rw [Qx (by simp; omega)]
  unfold cW;rw [Qx (by simp only [QA]; omega),show ((1:Nat):Int).toNat=1 from rfl,r_]
  congr 1
  have e:(ba (((c::r).take 1).drop 0)=(⟨#[45]⟩:Qm))↔((c::r).head? = some 45):=by
   rw [show (⟨#[45]⟩:Qm)=ba [45] from rfl];constructor
   ·intro h
    have:=xA h;simp at this;simp [this]
   ·intro h
    simp only [Vy,QL] at h;rw [h]; rfl
  exact Wm.2 e
theorem Ih (l:List UInt8):nE (ba l) (⟨#[45]⟩)=some (decide (l.head? = some 45)):=by
 unfold nE;rw [CV l]; rfl
theorem yX (l:List UInt8):lC (ba l) (⟨#[45]⟩)=some (ba (if l.head? = some 45 then l.tail else l)):=by
 have I:(⟨#[45]⟩:Qm).size=1:=rfl;unfold lC iW;rw [CV l];simp only [S9]
 by_cases h:l.head? = some 45
 ·rw [Qx (by simp [h]),Qx h,I,iV]
  cases l with
  | nil=>cases h
  | cons c r=>
   unfold cW;rw [Qx (by simp only [QA]; omega),show ((1:Nat):Int).toNat=1 from rfl,r_]
   simp
 ·rw [Qw (by simp [h]),Qw h]; rfl
theorem s5.plus {a:LI} (h:s5 a) (J:0<=gL a):a.minus=false:=by
 cases hm:a.minus with
 | false=>rfl
 | true=>
  have I:=h.sign hm;have:nv a.words≠0:=λe=>I ((wY h.wf h.tp).1 e);unfold gL at J;rw [Qx hm] at J; omega
theorem Ln {n:Nat} (h:0<n) (I:n<=100000):i64.wrap ((Int.tmod (i64.wrap ((n:Int)-1)) 9)+1)=(((n-1)%9+1:Nat):Int):=by
 rw [bT (n:=(n:Int)-1) ⟨by omega,by omega⟩]
 have:Int.tmod ((n:Int)-1) 9=(((n-1)%9:Nat):Int):=by
  rw [show (n:Int)-1=((n-1:Nat):Int) by omega]
  rw [Int.tmod_eq_emod_of_nonneg (by omega)]; rfl
 rw [this,bT ⟨by omega,by omega⟩]; omega
theorem Iy {D n c v P:Nat} (h:D=0\/n=9) (hP:P=10 ^ n):D*10 ^ 9+c=D*P+c:=by
 rcases h with h | h
 ·rw [h,R2,R2]
 ·rw [hP,h]
theorem Hv {J:List UInt8} (h:∀ c ∈ J,Cz c) (hl:J.length<=2000) (neg:Bool):
  Gd (lK (ba (if neg=true then 45::J else J))) (λa=>s5 a/\a.words.length<=10000/\gL a=if neg=true then -(dv J:Int) else dv J):=by
 unfold lK;have hll:(if neg=true then 45::J else J).length<=1000000:=by
  split
  ·simp only [QA]; omega
  ·omega
 have hhd:(if neg=true then 45::J else J).head? = some 45↔neg=true:=by
  cases neg with
  | true=>simp
  | false=>
   simp only [RC,Sc,iff_false];intro hh;cases J with
   | nil=>cases hh
   | cons c r=>
    simp only [Vy,QL] at hh;have:=(h c (Qu ..)).1;rw [hh] at this; exact absurd this (by decide)
 have htr:(if (if neg=true then 45::J else J).head? = some 45 then (if neg=true then 45::J else J).tail else (if neg=true then 45::J else J))=J:=by
  cases neg with
  | true=>simp
  | false=>rw [Qw (by rw [hhd]; simp)]; simp
 refine Gd.bind_eq (Ih _) (Gd.bind_eq (yX _) ?_);rw [htr];have hdec:decide ((if neg=true then 45::J else J).head? = some 45)=neg:=by
  cases neg with
  | true=>simp
  | false=>rw [Wn (by rw [hhd]; simp)]
 rw [hdec];refine Gd.iL (λ(z:Qm×Bool×List bU)=>∃ pre I:List UInt8,J=pre++I/\z.1=ba I/\z.2.1=false/\s5 ⟨false,z.2.2⟩/\(nv z.2.2=dv pre)/\z.2.2.length<=5*pre.length/\(pre=[]\/I.length%9=0))
  (λz=>z.1.size) ?_ fT _ ⟨[],J,rfl,rfl,rfl,⟨Wf.nil,λy hy=>by simp at hy,λhh=>by simp at hh⟩,rfl,by simp,.inl rfl⟩ (by rw [iV]; simp only [fT]; omega)
 rintro ⟨s,c,w⟩ nx ⟨pre,I,e1,e2,e3,e4,e5,e6,e7⟩ hnx;simp only at e2 e3 e4 e5 e6 e7 hnx ⊢;subst e2 e3;have hlen:pre.length+I.length<=2000:=by rw [<- QJ,<- e1]; exact hl
 unfold uf;rw [iV];refine Gd.ite (λh0=>?_) (λh0=>?_)
 ·have h0:0<I.length:=by have:=Qv h0; omega
  rw [Ln h0 (by omega)]
  generalize hn:(I.length-1)%9+1=n;have hn9:n<=9:=by omega
  have hns:n<=I.length:=by have:=Nat.mod_le (I.length-1) 9; omega
  rw [Qr,r_,r_,RN,QH (QM _),iV];have Y:(I.take n).length=n:=by rw [QR]; omega
  have hdg:∀ x ∈ I.take n,Cz x:=λx hx=>h x (by rw [e1]; exact Rs _ (SQ hx))
  have hpu:=L3 hdg (by rw [Y]; exact hn9)
  have hdl:dv (I.take n)<10 ^ 9:=Tb (Aj hdg) (VV (by decide) (by omega))
  rw [hpu,Y];refine Gd.nd ⟨by omega,by omega⟩ (Gd.nd ⟨by omega,by omega,rfl⟩ ?_)
  rw [bT (n:=(dv (I.take n):Int)) ⟨by omega,by omega⟩]
  refine Gd.eM (BW (n:=1000000000) (by omega)) (λt ht=>Gd.eM (vR e4 ht.1 (by simp only; omega)) (λm hm=>Gd.eM (BW (n:=(dv (I.take n):Int)) (by omega)) (λu hu=>Gd.eM (Dy hm.1 hu.1 (by simp only at hm; omega) (by omega)) (λr hr=>Gd.nd ⟨by omega,by omega⟩ ?_))))
  have hiv:gL (⟨false,w⟩:LI)=(dv pre:Int):=by unfold gL; simp only [RC,Sc]; rw [e5]
  have Z:gL r=((dv (pre++I.take n):Nat):Int):=by
   rw [hr.2.2,hm.2.2,ht.2.2,hu.2.2,hiv,Bp,Y];have:=Iy (D:=dv pre) (n:=n) (c:=dv (I.take n)) (v:=0) (P:=10 ^ n) (by
    rcases e7 with e7 | e7
    ·left; rw [e7]; rfl
    ·right; omega) rfl
   rw [<- this];have e9:(10 ^ 9:Nat)=1000000000:=rfl;rw [e9];generalize dv pre=A;generalize dv (I.take n)=C;omega
  have hrm:r.minus=false:=hr.1.plus (by rw [Z]; omega)
  refine hnx _ ⟨pre++I.take n,I.drop n,by rw [QV,RT]; exact e1,rfl,hrm,?_,?_,?_,?_⟩ ?_
  ·rw [<- hrm]; exact hr.1
  ·have:=Z
   unfold gL at this;rw [Qw (by rw [hrm]; simp)] at this
   simp only; omega
  ·simp only at hm ⊢
   rw [QJ,Y]; omega
  ·right; rw [R3]; omega
  ·simp only [iV,R3]; omega
 ·have h0:¬ 0<I.length:=by have:=QE h0; omega
  have hs0:I=[]:=QZ (by omega)
  subst hs0;rw [Q8] at e1;subst e1;unfold rX;have e4w:Wf w:=e4.wf;have e4t:vI w:=e4.top;refine Gd.ite (λO=>Gd.ret ⟨⟨e4.wf,e4.top,λhm hw=>?_⟩,by simp only; omega,?_⟩) (λO=>Gd.ret ⟨e4,by simp only; omega,?_⟩)
  ·have hw:w=[]:=hw
   subst hw;simp at hm
  ·rw [Qx O]
   unfold gL;simp only [Rb]
   split
   ·rw [e5]
   ·rename_i hh
    have:w=[]:=QZ (by omega)
    rw [this] at e5 ⊢;rw [<- e5]; rfl
  ·rw [Qw (by rw [O]; simp)]
   unfold gL;simp only [RC,Sc];rw [e5]
def pv:List bU->Nat
 | []=>0
 | y::l=>y.n.toNat+1000000000*pv l
theorem Hs:∀ (a:List bU) (y:bU),pv (a++[y])=pv a+1000000000 ^ a.length*y.n.toNat
 | [],y=>by
  show y.n.toNat+1000000000*0=0+1000000000 ^ 0*y.n.toNat;rw [V0]; omega
 | x::a,y=>by
  rw [SL,pv,Hs a y,pv,QA,VZ];rw [VO,<- VP,VQ (1000000000 ^ a.length) 1000000000,SN]
theorem L5 {l:List bU}{k:Nat}{y:bU} (h:l[k]? = some y):pv (l.drop k)=pv (l.drop (k+1))*1000000000+y.n.toNat:=by
 rw [rf h,pv]; omega
theorem Jr:(⟨#[48,48,48,48,48,48,48,48,48]⟩:Qm)=ba (List.replicate 9 48):=rfl
theorem th (n:Nat):mw (n:Int)=ba (Lib.decDigits n):=by unfold mw; rw [Lib.itoa_nonneg]; rfl
theorem Im {n:Nat} (h:0<n):mw (-(n:Int))=ba (45::Lib.decDigits n):=by
 unfold mw Lib.itoa;rw [Qx (by omega),show (-(n:Int)).natAbs=n by omega]; rfl
def IW (D:List UInt8):List U8:=D.map λb=>⟨b.toNat⟩
theorem xV (D:List UInt8):kC (ba D)=IW D:=HS D
theorem KX (a b:List UInt8):IW a++IW b=IW (a++b):=by unfold IW; rw [RP]
theorem Dh (D:List UInt8):zd (IW D)=ba D:=EG D
theorem Eh (D:List UInt8):(IW D).length=D.length:=Sq _
theorem NB (N:Nat) {Q:List bU} (I:∀ z ∈ Q,0<=z.n/\z.n<1000000000) (hl:Q.length<=N):pv Q<10 ^ (9*N):=by
 have key:∀ (Q:List bU),(∀ z ∈ Q,0<=z.n/\z.n<1000000000)->pv Q<1000000000 ^ Q.length:=by
  intro Q
  induction Q with
  | nil=>intro _; show 0<1000000000 ^ 0; decide
  | cons z Q ih=>
   intro I;have Y:=ih (λx O=>I x (Qy _ O));have J:=I z (Qu ..);rw [pv,QA,VZ,VQ];generalize 1000000000 ^ Q.length=X at *
   omega
 have J:(1000000000:Nat) ^ Q.length<=1000000000 ^ N:=VV (by decide) hl
 rw [VX];exact Tb (key Q I) J
theorem Mj (n a b:Nat) (J:a<=3*n) (O:10*n<=32*b):10 ^ a<=WB ^ b:=by
 have e1:(10:Nat) ^ a<=10 ^ (3*n):=VV (by decide) J
 have e2:((10:Nat) ^ 3) ^ n<=(2 ^ 10) ^ n:=VU (by decide) n
 have I:(2:Nat) ^ (10*n)<=2 ^ (32*b):=VV (by decide) O
 rw [<- VX,<- VX] at e2;rw [A1 b];exact Rp e1 (Rp e2 I)
theorem He (n a b:Nat) (O:a<=3*n) (Y:10*n<=32*b) {w:List bU} (hw:Wf w) (ht:vI w) (hl:b<w.length):¬ nv w<10 ^ a:=by
 have J:w≠[]:=λe=>by rw [e] at hl; simp at hl
 have I:=Fb hw ht J;have Z:WB ^ b<=WB ^ (w.length-1):=VV (by decide) (by omega)
 exact Nat.not_lt.2 (Rp (Mj n a b O Y) (Rp Z I))
theorem KK (N K:Nat) {w:List bU} (Z:Wf w) (hl:w.length<=N) (Y:32*N<=K):nv w<2 ^ K:=by
 have J:=sU Z;have I:WB ^ w.length<=WB ^ N:=VV (by decide) hl
 rw [A1 N] at I;have O:(2:Nat) ^ (32*N)<=2 ^ K:=VV (by decide) Y
 exact Tb J (Rp I O)
theorem E8 {m:Nat} (h:m<=9):(⟨#[48,48,48,48,48,48,48,48,48]⟩:Qm).extract m ((⟨#[48,48,48,48,48,48,48,48,48]⟩:Qm).size)=ba (List.replicate (9-m) 48):=by
 rw [Jr,iV,r_,QH (QM _),List.drop_replicate]
theorem LA {a:LI}{P:List bU}{V:Nat} (hP:∀ y ∈ P,0<=y.n/\y.n<1000000000) (hV:pv P=V) (hne:P≠[]) (htop:∀ y,P.getLast? = some y->y.n≠0) (hl:P.length<=1000) (ha:a.minus=true->V≠0):
  Gd (iL (λZ n=>pE a P Z.1 Z.2 n) fT (i64.wrap ((P.length:Int)-1),([]:List U8)))
   (λr=>r.2=decide ((Lib.decDigits V).length<=2000)/\r.1=mw (if a.minus=true then -(V:Int) else V)/\r.1.size<=10000):=by
 have hpos:0<P.length:=VC.2 hne;have wl:i64.wrap ((P.length:Int)-1)=(P.length:Int)-1:=bT ⟨by omega,by omega⟩
 rw [wl];refine Gd.iL (λ(z:Int×List U8)=>-1<=z.1/\z.1<P.length/\(z.1=(P.length:Int)-1/\z.2=[]\/z.1<(P.length:Int)-1/\0<pv (P.drop (z.1+1).toNat)/\z.2=IW (Lib.decDigits (pv (P.drop (z.1+1).toNat)))/\z.2.length<=9*1000))
  (λz=>(z.1+1).toNat) ?_ fT _ ⟨by simp only; omega,by simp only; omega,.inl ⟨rfl,rfl⟩⟩ (by simp only [fT]; omega)
 rintro ⟨n,l⟩ nx ⟨h1,h2,I⟩ hnx;simp only at h1 h2 I hnx ⊢;unfold pE;refine Gd.ite (λhn=>?_) (λhn=>?_)
 ·have hn:0<=n:=Qv hn
  obtain ⟨k,rfl⟩:∃ k:Nat,n=k:=⟨n.toNat,by omega⟩
  obtain ⟨y,hy⟩:∃ y,P[k]? = some y:=⟨_,Qp (by omega)⟩
  have hyw:=hP y (QB hy);obtain ⟨u,hu⟩:∃ u:Nat,y.n=u:=⟨y.n.toNat,by omega⟩
  have hu9:u<10 ^ 9:=by
   have:(10:Nat) ^ 9=1000000000:=rfl;omega
  have hkn:((k:Int)+1).toNat=k+1:=by omega
  have O:((k:Int)-1+1).toNat=k:=by omega
  refine Gd.ix (by omega) (by rw [Qr]; exact hy) ?_
  rw [hu,gX (n:=(u:Int)) (by omega),th]
  refine Gd.nd ⟨by omega,by omega⟩ ?_
  rw [wl];have hlen:(Lib.decDigits u).length<=9:=CR (by decide) hu9
  have Y:=L5 hy;have hun:y.n.toNat=u:=by omega
  rw [hun] at Y;have hwk:i64.wrap ((k:Int)-1)=(k:Int)-1:=bT ⟨by omega,by omega⟩
  refine Gd.ite (λJ=>?_) (λJ=>?_)
  ·have J:(k:Int)<(P.length:Int)-1:=Qv J
   rcases I with ⟨I,_⟩ | ⟨_,I,h4,h5⟩
   ·omega
   rw [hkn] at I h4;rw [iV,Qr,E8 hlen,xV];have hsz:(ba (List.replicate (9-(Lib.decDigits u).length) (48:UInt8))).size=9-(Lib.decDigits u).length:=by rw [iV,RI]
   rw [hsz];refine Gd.nd ⟨by omega,by show ((Lib.decDigits u).length:Int)<=((9:Nat):Int); omega⟩ (Gd.nd (by omega) ?_)
   unfold lR;rw [hu,gX (n:=(u:Int)) (by omega),th,hwk,xV,iV]
   rw [QJ,Eh,RI];refine Gd.nd (by omega) ?_
   have hfin:l++IW (List.replicate (9-(Lib.decDigits u).length) (48:UInt8))++IW (Lib.decDigits u)=IW (Lib.decDigits (pv (P.drop k))):=by
    have hdp:=Ls (k:=9) (by decide) I hu9
    rw [show (10:Nat) ^ 9=1000000000 from rfl,<- Y] at hdp;rw [h4,QV,KX,KX,hdp]
    rfl
   rw [hfin];have hdl:=BH (u:=pv (P.drop k)) (k:=(Lib.decDigits (pv (P.drop k))).length) (QM _);refine hnx _ ⟨by simp only; omega,by simp only; omega,.inr ⟨by simp only; omega,by simp only; rw [O,Y]; omega,by simp only; rw [O],?_⟩⟩ (by simp only; omega)
   simp only;rw [Eh];have hb:=NB 1000 (λz hz=>hP z (List.mem_of_mem_drop hz)) (show (P.drop k).length<=1000 by rw [R3]; omega)
   exact CR (k:=9*1000) (by decide) hb
  ·have J:¬ (k:Int)<(P.length:Int)-1:=QE J
   rcases I with ⟨I,h4⟩ | ⟨I,_⟩
   ·unfold lR
    rw [hu,gX (n:=(u:Int)) (by omega),th,hwk,xV,iV,h4]
    refine Gd.nd (by simp only [VB]; omega) ?_
    have hlast:P.drop (k+1)=[]:=Vs (by omega)
    rw [hlast] at Y;have Y:pv (P.drop k)=u:=by rw [Y]; show 0*1000000000+u=u; omega
    have hu0:u≠0:=by
     have:=htop y (by rw [Vx,show P.length-1=k by omega]; exact hy)
     omega
    rw [R7];refine hnx _ ⟨by simp only; omega,by simp only; omega,.inr ⟨by simp only; omega,by simp only; rw [O,Y]; omega,by simp only; rw [O,Y],?_⟩⟩ (by simp only; omega)
    simp only;rw [Eh]; omega
   ·omega
 ·have hn:¬ 0<=n:=QE hn
  rcases I with ⟨I,_⟩ | ⟨_,I,h4,h5⟩
  ·omega
  have hz:(n+1).toNat=0:=by omega
  rw [hz,RN,hV] at I h4;subst h4;rw [Eh] at h5 ⊢;have hne':(Lib.decDigits V)≠[]:=(me V).1.ne;have hp:0<(Lib.decDigits V).length:=VC.2 hne';have hsz:((ba (Lib.decDigits V)).size:Int)=((Lib.decDigits V).length:Int):=by rw [iV]
  have hdd:decide (((ba (Lib.decDigits V)).size:Int)<=2000)=decide ((Lib.decDigits V).length<=2000):=by
   rw [hsz]; exact Wm.2 (by omega)
  refine Gd.nd hp (Gd.ite (λhm=>Gd.nd ?_ ?_) (λhm=>?_))
  ·rw [Dh,iV,show (⟨#[45]⟩:Qm).size=1 from rfl]
   unfold maxLen; omega
  ·unfold lS
   rw [Dh];have hx:(⟨#[45]⟩:Qm)++ba (Lib.decDigits V)=ba (45::Lib.decDigits V):=by
    rw [show (⟨#[45]⟩:Qm)=ba [45] from rfl,FL]; rfl
   refine Gd.ret ⟨hdd,?_,?_⟩
   ·rw [Qx hm,Im (by have:=ha hm; omega)]; exact hx
   ·simp only
    rw [hx,iV,QA]; omega
  ·unfold lS
   rw [Dh];refine Gd.ret ⟨hdd,?_,?_⟩
   ·rw [Qw (by rw [hm]; simp),th]
   ·simp only
    rw [iV]; omega
theorem Gr (K N:Nat) {p n W:Nat} (h:1000000000 ^ p*n<=W) (hn:1<=n) (hW:W<2 ^ K) (hK:K<=29*N):p<N:=by
 rcases Sr p N with I | I
 ·exact I
 ·exfalso
  have J:((2:Nat) ^ 29) ^ N<=(1000000000:Nat) ^ N:=VU (by decide) N
  have Y:(1000000000:Nat) ^ N<=1000000000 ^ p:=VV (by decide) I
  have O:(1000000000:Nat) ^ p*1<=1000000000 ^ p*n:=VR _ hn;have Z:(2:Nat) ^ K<=2 ^ (29*N):=VV (by decide) hK
  rw [<- VX] at J;rw [S4] at O;exact absurd hW (Nat.not_lt.2 (Rp Z (Rp J (Rp Y (Rp O h)))))
theorem Iv {V A B n:Nat} (h:V=A+B*n):V=(A+B*(n%1000000000))+B*1000000000*(n / 1000000000):=by
 rw [VP,SN,<- VO,VN]; exact h
theorem BB {a:LI} (h:s5 a):Gd (lx a) (λr=>r.2=decide ((Lib.decDigits (nv a.words)).length<=2000)/\(r.2=true->r.1=mw (gL a))/\r.1.size<=10000):=by
 unfold lx;refine Gd.ite (λJ=>?_) (λJ=>?_)
 ·have J:a.words=[]:=QZ (by have:=Qv J; omega)
  have hm:a.minus=false:=by
   cases hm:a.minus with
   | false=>rfl
   | true=>exact absurd J (h.sign hm)
  refine Gd.ret ⟨?_,λ_=>?_,by decide⟩
  ·rw [J]
   have hx:(Lib.decDigits (nv [])).length<=2000:=by
    show (Lib.decDigits 0).length<=2000;rw [Vo (by omega)]; simp
   rw [Wq hx]
  ·unfold gL
   rw [Qw (by rw [hm]; simp),J]
   show (⟨#[48]⟩:Qm)=mw ((0:Nat):Int);rw [th,Vo (by omega)]; rfl
 ·have J:a.words.length≠0:=by have:=QE J; omega
  have hne:a.words≠[]:=λe=>J (by rw [e]; rfl)
  refine Gd.ite (λY=>?_) (λY=>?_)
  ·have Y:210<a.words.length:=by have:=Qv Y; omega
   refine Gd.ret ⟨?_,λhh=>absurd hh (by simp),by decide⟩
   symm
   refine Wn λhle=>?_;exact He 667 2000 210 (by decide) (by decide) h.wf h.tp Y (BH (k:=2000) hle)
  ·have Y:a.words.length<=210:=by have:=QE Y; omega
   have hW:=KK 210 6720 h.wf Y (by decide)
   have hnz:nv a.words≠0:=λe=>hne ((wY h.wf h.tp).1 e);refine Gd.iL (λ(z:List bU×List bU)=>(∀ y ∈ z.1,0<=y.n/\y.n<1000000000)/\Wf z.2/\vI z.2/\z.2.length<=210/\nv a.words=pv z.1+1000000000 ^ z.1.length*nv z.2/\z.1.length<=300/\(nv z.2=0->z.1≠[]/\∀ y,z.1.getLast? = some y->y.n≠0))
    (λz=>301-z.1.length) ?_ fT _ ⟨by simp,h.wf,h.tp,Y,?_,by simp,λe=>absurd e hnz⟩ (by simp only [fT,VB]; omega)
   ·rintro ⟨P,w⟩ nx ⟨i1,i2,i3,i4,i5,i6,i7⟩ hnx
    simp only at i1 i2 i3 i4 i5 i6 i7 hnx ⊢;unfold rA;refine Gd.ite (λZ=>?_) (λZ=>?_)
    ·have Z:0<w.length:=by have:=Qv Z; omega
     have hwn:w≠[]:=λe=>by rw [e] at Z; simp at Z
     have hwz:nv w≠0:=λe=>hwn ((wY i2 i3).1 e);have hpl:=Gr 6720 300 (p:=P.length) (n:=nv w) (W:=nv a.words) (by rw [i5]; exact Nat.le_add_left _ _) (by omega) hW (by decide)
     refine Gd.eM (Fq i2 (by omega) (d:=1000000000) (by omega)) (λr O=>?_)
     have hdn:(1000000000:Int).toNat=1000000000:=rfl;rw [hdn] at O;refine Gd.nd (by simp only [Ro]; omega) (Gd.eM (tK false r.1 O.1 (by omega)) (λq hq=>?_))
     have hrn:0<=r.2/\r.2<1000000000/\r.2.toNat=nv w%1000000000:=by
      have:=Tn (nv w) (show 1000000000 > 0 by omega)
      rw [O.2.2.2]; omega
     refine hnx _ ⟨?_,hq.1.wf,hq.1.tp,by simp only; omega,?_,by simp only [QJ,Ro]; omega,λhz=>⟨by simp,λy I=>?_⟩⟩ (by simp only [QJ,Ro]; omega)
     ·intro y I
      rcases QG.1 I with I | I
      ·exact i1 y I
      ·rw [QY] at I; subst I; simp only; omega
     ·simp only
      rw [Hs,QJ,Ro,VZ,hq.2.2.1,O.2.2.1];simp only;rw [hrn.2.2];exact Iv i5
     ·simp only at hz I
      rw [List.getLast?_append,List.getLast?_singleton] at I;simp only [Option.some_or,QL] at I;subst I;simp only;rw [hq.2.2.1,O.2.2.1] at hz;have:nv w / 1000000000=0:=hz;omega
    ·have Z:w=[]:=QZ (by have:=QE Z; omega)
     subst Z;obtain ⟨j1,j2⟩:=i7 rfl;have hVV:pv P=nv a.words:=by
      rw [i5];show pv P=pv P+1000000000 ^ P.length*0;rw [VS]; rfl
     refine (LA (a:=a) i1 hVV j1 j2 (by omega) (λ_=>hnz)).mono (λr O=>⟨O.1,λ_=>?_,O.2.2⟩)
     rw [O.2.1]; rfl
   ·show nv a.words=0+1000000000 ^ 0*nv a.words
    rw [V0]; omega
def Di (q:Rat):List UInt8:=Lib.itoa q.num++(if q.den=1 then [] else 47::Lib.decDigits q.den)
def ctext (q:Rat):Qm:=ba (Di q)
def fits (q:Rat):Prop:=(Lib.decDigits q.num.natAbs).length<=2000/\(Lib.decDigits q.den).length<=2000
instance (q:Rat):Decidable (fits q):=by unfold fits; infer_instance
theorem BR {l:List UInt8} (h:∀ c ∈ l,Cz c):(47:UInt8) ∉ l:=λhm=>absurd (h 47 hm) (by unfold Cz; decide)
theorem uE (n:Int):Lib.itoa n=if n<0 then 45::Lib.decDigits n.natAbs else Lib.decDigits n.natAbs:=by
 unfold Lib.itoa
 split
 ·rfl
 ·rw [show n.toNat=n.natAbs by omega]
theorem J1 (u:Nat):(Lib.decDigits u).head? ≠ some 45:=by
 obtain ⟨h,_⟩:=me u;cases hl:Lib.decDigits u with
 | nil=>simp
 | cons c r=>
  rw [hl] at h;have:=h.Ej c (Qu ..);simp only [Vy,ne_eq,QL];rintro rfl;exact absurd this (by unfold Cz; decide)
theorem G0 (q:Rat):(Di q).head? = some 45↔q.num<0:=by
 unfold Di;rw [uE]
 by_cases h:q.num<0
 ·rw [Qx h]; simp [h]
 ·rw [Qw h,By (me _).1.ne]
  simp only [h,iff_false];exact J1 _
theorem Lo (q:Rat):(if (Di q).head? = some 45 then (Di q).tail else Di q)=Lib.decDigits q.num.natAbs++(if q.den=1 then [] else 47::Lib.decDigits q.den):=by
 by_cases h:q.num<0
 ·rw [Qx ((G0 q).2 h)]
  unfold Di;rw [uE,Qx h]; rfl
 ·rw [Qw (λe=>h ((G0 q).1 e))]
  unfold Di;rw [uE,Qw h]
theorem F_ {c:UInt8}{l:List UInt8} (h:c ∉ l):Lib.indexByte l c = -1:=by
 rcases uc c l with ⟨_,I⟩ | ⟨a,b,rfl,_⟩
 ·exact I
 ·exact absurd (by simp) h
theorem ET {c:UInt8}{b:List UInt8}:∀ {a:List UInt8},c ∉ a->Lib.indexByte (a++c::b) c=a.length
 | [],_=>by simp [Lib.indexByte]
 | x::a,h=>by
  have I:(x == c)=false:=by simp only [Ra,not_or] at h; simpa using λe=>h.1 e.symm
  have ih:=ET (b:=b) (a:=a) (λhm=>h (Qy _ hm));rw [SL];simp only [Lib.indexByte,I,ih];rw [Qw (by simp),Qw (by simp)]
  simp only [QA]; omega
theorem Bl {l:List UInt8} (h:(47:UInt8) ∉ l):nO (ba l) (⟨#[47]⟩)=some (ba l,⟨#[]⟩,false):=by
 unfold nO jT;rw [show (⟨#[47]⟩:Qm)=ba [47] from rfl,EU,GY,F_ h]
 rfl
theorem Bm {a b:List UInt8} (h:(47:UInt8) ∉ a) (hs:a.length+1+b.length<=maxLen):nO (ba (a++47::b)) (⟨#[47]⟩)=some (ba a,ba b,true):=by
 have I:(ba (a++47::b)).size=a.length+1+b.length:=by rw [iV]; simp; omega
 unfold maxLen at hs;unfold nO jT;rw [show (⟨#[47]⟩:Qm)=ba [47] from rfl,EU,GY,ET h];simp only [S9];rw [Qx (by simp),I,show (ba [47]).size=1 from rfl,bT ⟨by omega,by omega⟩]
 unfold cW;rw [Qx ⟨by omega,by omega⟩,Qx ⟨by omega,by omega⟩,Qr,show ((a.length:Int)+((1:Nat):Int)).toNat=a.length+1 by omega,r_,r_]
 simp only [S9,RN];rw [TF,QH (by simp; omega),show a++47::b=(a++[47])++b by simp,List.drop_left' (by simp)]
theorem tD (l:List UInt8) (hs:l.length<=maxLen):Gd (pT (ba l)) (λc=>c=0↔FB l/\l.length<=2000):=by
 unfold pT;refine Gd.nd (by rw [iV]; exact hs) ?_
 rw [xV];refine Gd.seen (λpre _=>∀ y ∈ pre,48<=y.n/\y.n<=57) ?_ ?_ () (λy hy=>by cases hy)
 ·rintro i y _ nx pre ⟨post,hl⟩ hI hnx
  have hy:y ∈ IW l:=by rw [hl]; simp
  obtain ⟨c,hc,rfl⟩:=Rd.1 hy;unfold u9;refine Gd.ite (λhb=>Gd.ret ?_) (λhb=>hnx () (λz hz=>?_))
  ·simp only [R6,Rb] at hb
   constructor
   ·intro h; simp at h
   ·rintro ⟨h,_⟩
    have:=h.Ej c hc;unfold Cz at this; omega
  ·simp only [Vg,Wo] at hb
   rcases QG.1 hz with hz | hz
   ·exact hI z hz
   ·rw [QY] at hz; subst hz; simp only; omega
 ·intro _ hI
  have hd:∀ c ∈ l,Cz c:=λc hc=>by
   have:=hI ⟨c.toNat⟩ (Rd.2 ⟨c,hc,rfl⟩);unfold Cz; simp only at this; omega
  refine Gd.ite (λh=>Gd.ret ?_) (λh=>?_)
  ·have h:l=[]:=xA ((Qv h).trans rfl)
   constructor
   ·intro h; simp at h
   ·rintro ⟨hn,_⟩; exact absurd h hn.ne
  ·have Z:l≠[]:=λe=>absurd (QE h) (by rw [e]; simp [ba])
   have O:(l.head? = some 48->l=[48])->Gd (if decide (2000<((ba l).size:Int))=true then some (2:Int) else some 0) (λc=>c=0↔FB l/\l.length<=2000):=λY=>by
    rw [iV];refine Gd.ite (λI=>Gd.ret ?_) (λI=>Gd.ret ?_)
    ·have:=Qv I
     constructor
     ·intro h; simp at h
     ·rintro ⟨_,h⟩; omega
    ·have:=QE I
     exact ⟨λ_=>⟨⟨hd,Z,Y⟩,by omega⟩,λ_=>rfl⟩
   refine Gd.ite (λJ=>?_) (λJ=>O (λhh=>?_))
   ·rw [iV] at J
    have J:=Qv J;cases l with
    | nil=>exact absurd rfl Z
    | cons c r=>
     refine Gd.ix (y:=⟨c.toNat⟩) (by omega) rfl (Gd.ite (λI=>Gd.ret ?_) (λI=>O (λhh=>?_)))
     ·have I:=Qv I
      simp only at I;constructor
      ·intro h; simp at h
      ·rintro ⟨hn,_⟩
       have hc:c=48:=UInt8.toNat_inj.1 (by show c.toNat=48; omega)
       have:=hn.lead (by rw [hc]; rfl)
       rw [this] at J; simp at J
     ·have I:=QE I
      simp only [Vy,QL] at hh;subst hh;exact absurd rfl I
   ·rw [iV] at J
    have J:=QE J;cases l with
    | nil=>exact absurd rfl Z
    | cons c r=>
     have:r=[]:=QZ (by simp only [QA] at J; omega)
     subst this;simp only [Vy,QL] at hh;rw [hh]
theorem B2 {n:List UInt8} (hn:FB n) (l1:n.length<=2000):Gd (lK (ba n)) (λa=>s5 a/\a.words.length<=10000/\gL a=dv n):=by
 have:=Hv hn.Ej l1 false;simpa using this
theorem LS {n d:List UInt8} (hn:FB n) (O:FB d) (l1:n.length<=2000) (l2:d.length<=2000):
  Gd (wu (ba n) (ba d)) (λr=>r.2.2=0/\(s5 r.1/\r.1.words.length<=10000/\gL r.1=dv n)/\(s5 r.2.1/\r.2.1.words.length<=10000/\gL r.2.1=dv d)):=by
 unfold wu;have M7:∀ {l:List UInt8},FB l->l.length<=2000->Gd (pT (ba l)) (λc=>c=0):=λh hl=>(tD _ (by unfold maxLen; omega)).mono (λc I=>I.2 ⟨h,hl⟩)
 refine Gd.kW (λm i _=>m+i=2) (λm i _ nx hI J=>?_) (λi _ _=>?_) _ 0 () rfl
 ·unfold wT
  have hi:i=0\/i=1:=by omega
  have hy:∃ l:List UInt8,([ba n,ba d]:List Qm)[i]? = some (ba l)/\FB l/\l.length<=2000:=by
   rcases hi with rfl | rfl
   ·exact ⟨n,rfl,hn,l1⟩
   ·exact ⟨d,rfl,O,l2⟩
  obtain ⟨l,hl,Y,Z⟩:=hy;refine Gd.ix (by omega) (by rw [Qr]; exact hl) (Gd.eM (M7 Y Z) (λc I=>?_))
  subst I;exact J () (by omega)
 ·exact Gd.eM (B2 hn l1) (λa ha=>Gd.eM (B2 O l2) (λb hb=>Gd.ret ⟨rfl,ha,hb⟩))
theorem vx:Lib.decDigits 1=[49]:=Vo (by omega)
theorem zg:Lib.decDigits 0=[48]:=Vo (by omega)
theorem zf {a b:Nat} (h:Lib.decDigits a=Lib.decDigits b):a=b:=by
 have I:=(me a).2;rw [h,(me b).2] at I; exact I.symm
theorem Hi {n d:List UInt8} (hn:FB n) (hd:FB d) (l1:n.length<=2000) (l2:d.length<=2000):
  Gd (wm (ba n) (ba d)) (λr=>r.1=(⟨#[49]⟩:Qm)↔Nat.gcd (dv n) (dv d)=1):=by
 unfold wm;refine Gd.eM (LS hn hd l1 l2) (λr hr=>?_);obtain ⟨h0,Y,Z⟩:=hr;rw [h0];refine Gd.eM (JY Y.1 Z.1 (L:=10000) (by omega) Y.2.1 Z.2.1) (λg O=>?_)
 have e1:nv r.1.words=dv n:=by rw [<- lq,Y.2.2]; rfl
 have e2:nv r.2.1.words=dv d:=by rw [<- lq,Z.2.2]; rfl
 rw [e1,e2] at O;unfold wS;have hb:Gd ((lx g).bind λI=>if (!I.2)=true then some ((⟨#[]⟩:Qm),(2:Int)) else some (I.1,0)) (λt=>t.1=(⟨#[49]⟩:Qm)↔Nat.gcd (dv n) (dv d)=1):=by
  refine Gd.eM (BB O.1) (λt ht=>Gd.ite (λJ=>Gd.ret ?_) (λJ=>Gd.ret ?_))
  ·have J:t.2=false:=by simpa using J
   rw [J,O.2.2.2] at ht;constructor
   ·intro h; exact absurd h (by decide)
   ·intro h
    have:=ht.1;rw [h,vx] at this; simp at this
  ·have J:t.2=true:=by simpa using J
   have e3:=ht.2.1 J;simp only;rw [e3,qw O.2.1,th,O.2.2.2,show (⟨#[49]⟩:Qm)=ba [49] from rfl];constructor
   ·intro h
    exact zf ((xA h).trans vx.symm)
   ·intro h; rw [h,vx]
 exact Gd.eM hb (λt ht=>Gd.ret ht)
theorem Gv {q:Rat} (h:fits q):pU (ctext q)=some 0:=by
 refine Gd.eq.1 ?_;have Y:=(me q.num.natAbs).1;have hE:=(me q.den).1;unfold pU ctext;refine Gd.bind_eq (yX _) ?_;rw [Lo];have hz:q.num<0->Lib.decDigits q.num.natAbs≠[48]:=λhn e=>by
  rw [<- zg] at e;have:=zf e; omega
 by_cases hd:q.den=1
 ·rw [Qx hd,Q8]
  refine Gd.bind_eq (Bl (BR Y.Ej)) ?_;refine Gd.eM (tD _ (by have:=h.1; unfold maxLen; omega)) (λc Z=>?_)
  have J:=Z.2 ⟨Y,h.1⟩;subst J;refine Gd.ite (λI=>by simp at I) (λ_=>?_)
  unfold mG;refine Gd.ite (λI=>?_) (λ_=>Gd.ret rfl);exfalso;simp only [show decide ((0:Int)=5)=false from rfl,Bool.or_self,Bool.false_or,Sg,Rb] at I;have h1:Lib.decDigits q.num.natAbs=[48]:=xA (I.1.trans rfl);have O:=I.2;rw [iV,iV] at O;unfold Di at O;rw [Qx hd,Q8,uE] at O
  split at O
  ·rename_i hn; exact hz hn h1
  ·omega
 ·rw [Qw hd]
  refine Gd.bind_eq (Bm (BR Y.Ej) (by have:=h.1; have:=h.2; unfold maxLen; omega)) ?_
  refine Gd.eM (tD _ (by have:=h.1; unfold maxLen; omega)) (λc Z=>?_)
  have J:=Z.2 ⟨Y,h.1⟩;subst J;refine Gd.ite (λ_=>?_) (λI=>by simp at I)
  refine Gd.eM (tD _ (by have:=h.2; unfold maxLen; omega)) (λc Z=>?_)
  have J:=Z.2 ⟨hE,h.2⟩;subst J;unfold mG;refine Gd.ite (λI=>?_) (λ_=>Gd.ite (λI=>by simp at I) (λ_=>Gd.ite (λ_=>?_) (λI=>by simp at I)))
  ·exfalso
   simp only [show decide ((0:Int)=5)=false from rfl,Bool.or_self,Bool.false_or,Sg,Rb] at I;have h1:Lib.decDigits q.num.natAbs=[48]:=xA (I.1.trans rfl);have O:=I.2;rw [iV,iV] at O;unfold Di at O;rw [Qw hd,uE] at O
   split at O
   ·rename_i hn; exact hz hn h1
   ·omega
  ·refine Gd.eM (Hi Y hE h.1 h.2) (λr hr=>?_)
   rw [(me q.num.natAbs).2,(me q.den).2] at hr;have hr1:=hr.2 q.reduced;refine Gd.ite (λI=>?_) (λ_=>Gd.ret rfl);exfalso;simp only [hr1,decide_true,Bool.not_true,Bool.or_false,R6,Rb] at I;rcases I with I | I
   ·have:=zf ((xA (I.trans rfl):Lib.decDigits q.den=[48]).trans zg.symm)
    exact q.den_nz this
   ·have:=zf ((xA (I.trans rfl):Lib.decDigits q.den=[49]).trans vx.symm)
    exact hd this
theorem MI {neg:Bool}{n:List UInt8}{m:Int} (hn:FB n) (I:¬ (n=[48]/\neg=true)) (hm:m=if neg=true then -(dv n:Int) else dv n):
  Lib.itoa m=(if neg=true then 45::n else n)/\m.natAbs=dv n:=by
 have O:dv n=0->n=[48]:=λh=>by
  have e:=wO hn;rw [h,zg] at e; exact e.symm
 rw [uE];cases neg with
 | false=>
  simp only [RC,Sc] at hm ⊢;rw [Qw (by omega),show m.natAbs=dv n by omega]
  exact ⟨wO hn,rfl⟩
 | true=>
  simp only [Um] at hm ⊢;have J:dv n≠0:=λh=>I ⟨O h,rfl⟩;rw [Qx (by omega),show m.natAbs=dv n by omega]
  exact ⟨by rw [wO hn],rfl⟩
theorem Iw (s:Qm) (hs:s.size<=maxLen):Gd (pU s) (λc=>c=0↔∃ q,fits q/\s=ctext q):=by
 have Y:Gd (pU s) (λc=>c=0->∃ q,fits q/\s=ctext q):=by
  obtain ⟨l,rfl⟩:∃ l,s=ba l:=⟨bl s,(Jq s).symm⟩;rw [iV] at hs;unfold pU;refine Gd.bind_eq (yX l) ?_;obtain ⟨neg,I⟩:∃ neg:Bool,neg=decide (l.head? = some 45):=⟨_,rfl⟩;generalize ht:(if l.head? = some 45 then l.tail else l)=t
  have hl:l=if neg=true then 45::t else t:=by
   by_cases h:l.head? = some 45
   ·rw [Qx h] at ht
    rw [I,Wq h,Qx rfl,<- ht];cases l with
    | nil=>cases h
    | cons c r=>simp only [Vy,QL] at h; rw [h]; rfl
   ·rw [Qw h] at ht
    rw [I,Wn h,Qw (by simp)]; exact ht
  have htl:t.length<=l.length:=by
   rw [hl]; split
   ·simp
   ·omega
  have hsz:neg=true->(ba t).size<(ba l).size:=λh=>by
   rw [iV,iV,hl,Qx h]; simp
  by_cases hsl:(47:UInt8) ∈ t
  ·obtain ⟨a,b,e,ha,_⟩:∃ a b,t=a++47::b/\(47:UInt8) ∉ a/\True:=by
    rcases uc 47 t with ⟨h1,_⟩ | ⟨a,b,e,h2,_⟩
    ·exact absurd hsl h1
    ·exact ⟨a,b,e,h2,Qo⟩
   have hab:a.length+1+b.length=t.length:=by rw [e]; simp; omega
   rw [e];refine Gd.bind_eq (Bm ha (by omega)) ?_
   refine Gd.eM (tD a (by omega)) (λc1 J=>Gd.ite (λ_=>?_) (λO=>by simp at O))
   refine Gd.eM (tD b (by omega)) (λc2 hc2=>?_)
   unfold mG;refine Gd.ite (λ_=>Gd.ret (λh=>by simp at h)) (λhA=>Gd.ite (λ_=>Gd.ret (λh=>by simp at h)) (λZ=>Gd.ite (λ_=>?_) (λO=>by simp at O)))
   simp only [Vg,Vf,Rb] at Z;obtain ⟨n1,n2⟩:=J.1 Z.1;obtain ⟨d1,d2⟩:=hc2.1 Z.2;have h0:¬ (a=[48]/\neg=true):=by
    rintro ⟨ea,en⟩;simp only [Vg,Bool.and_eq_false_iff,Wo] at hA;rcases hA.2 with h | h
    ·exact h (by rw [ea]; rfl)
    ·have:=hsz en; rw [e] at this; omega
   refine Gd.eM (Hi n1 d1 n2 d2) (λr hr=>Gd.ite (λ_=>Gd.ret (λh=>by simp at h)) (λhC=>Gd.ret (λ_=>?_)))
   simp only [Vg,Vf,Rb,Wo] at hC;have hg:=hr.1 hC.2;have hnz:dv b≠0:=λh=>hC.1.1 (by
    have:=wO d1;rw [h,zg] at this; rw [<- this]; rfl)
   have hn1:dv b≠1:=λh=>hC.1.2 (by
    have:=wO d1;rw [h,vx] at this; rw [<- this]; rfl)
   obtain ⟨e1,e2⟩:=MI (neg:=neg) n1 h0 rfl;refine ⟨Rat.mk' (if neg=true then -(dv a:Int) else dv a) (dv b) hnz (by rw [e2]; exact hg),⟨?_,?_⟩,?_⟩
   ·simp only; rw [e2,wO n1]; exact n2
   ·simp only; rw [wO d1]; exact d2
   ·unfold ctext Di
    simp only;rw [e1,Qw hn1,wO d1,hl,e]
    split <;> rfl
  ·refine Gd.bind_eq (Bl hsl) ?_
   refine Gd.eM (tD t (by omega)) (λc1 J=>Gd.ite (λO=>by simp at O) (λ_=>?_))
   unfold mG;refine Gd.ite (λ_=>Gd.ret (λh=>by simp at h)) (λhA=>Gd.ite (λ_=>Gd.ret (λh=>by simp at h)) (λZ=>Gd.ite (λO=>by simp at O) (λ_=>Gd.ret (λ_=>?_))))
   simp only [Vg,Vf,Rb] at Z;obtain ⟨n1,n2⟩:=J.1 Z.1;have h0:¬ (t=[48]/\neg=true):=by
    rintro ⟨ea,en⟩;simp only [Vg,Bool.and_eq_false_iff,Wo] at hA;rcases hA.2 with h | h
    ·exact h (by rw [ea]; rfl)
    ·have:=hsz en; omega
   obtain ⟨e1,e2⟩:=MI (neg:=neg) n1 h0 rfl;refine ⟨Rat.mk' (if neg=true then -(dv t:Int) else dv t) 1 (by decide) (by rw [e2]; exact Nat.coprime_one_right _),⟨?_,?_⟩,?_⟩
   ·simp only; rw [e2,wO n1]; exact n2
   ·simp only; rw [vx]; decide
   ·unfold ctext Di
    simp only;rw [e1,Qx Qo,Q8,<- hl]
 obtain ⟨c,e,h⟩:=Y;refine ⟨c,e,h,?_⟩;rintro ⟨q,hq,rfl⟩;rw [Gv hq] at e;exact (Qs e).symm
theorem G2 {u k:Nat}{l:List bU} (J:Wf l) (ht:vI l) (I:(Lib.decDigits (nv l)).length<=2000):l.length<=300:=by
 rcases Sr 300 l.length with h | h
 ·exact absurd (BH (k:=2000) I) (He 667 2000 300 (by decide) (by decide) J ht h)
 ·exact h
theorem py.small {a:LR} (h:py a) (O:fits (rv a)):RL a 300:=by
 obtain ⟨I,J⟩:=O;rw [h.num,lq] at I;rw [h.den] at J;exact ⟨G2 (u:=0) (k:=0) h.n.wf h.n.tp I,G2 (u:=0) (k:=0) h.d.wf h.d.tp J⟩
theorem KI {a:LR} (h:py a):Gd (pI a) (λr=>(r.2=true↔fits (rv a))/\(r.2=true->r.1=ctext (rv a))):=by
 have e1:(rv a).num.natAbs=nv a.N.words:=by rw [h.num,lq]
 have e2:(rv a).den=nv a.D.words:=h.den;unfold pI;refine Gd.eM (BB h.n) (λt ht=>Gd.ite (λO=>Gd.ret ?_) (λO=>?_))
 ·have O:t.2=false:=by simpa using O
  refine ⟨⟨λJ=>by simp at J,λJ=>?_⟩,λJ=>by simp at J⟩
  have I:=ht.1;rw [O] at I;have:=J.1;rw [e1] at this;exact absurd this (QE I.symm)
 ·have O:t.2=true:=by simpa using O
  have hN:=ht.1;rw [O] at hN;have hN:=Qv hN.symm;have hNt:=ht.2.1 O;refine Gd.eM (BB h.d) (λu hu=>?_);have hval:gL a.D=((nv a.D.words:Nat):Int):=qw h.pos;have Y:(u.2=true↔fits (rv a)):=by
   unfold fits;rw [e1,e2,hu.1,Rb];exact ⟨λx=>⟨hN,x⟩,λx=>x.2⟩
  have hut:u.2=true->u.1=ba (Lib.decDigits (rv a).den):=λx=>by rw [hu.2.1 x,hval,th,e2]
  have Z:t.1=ba (Lib.itoa (rv a).num):=by rw [hNt,h.num]; rfl
  refine Gd.ite (λI=>Gd.ret ⟨Y,λJ=>?_⟩) (λI=>Gd.nd ?_ (Gd.nd ?_ (Gd.ret ⟨Y,λJ=>?_⟩)))
  ·have I:u.1=(⟨#[49]⟩:Qm):=Qv I
   have:=hut J;rw [I] at this;have hd:(rv a).den=1:=zf ((xA (show ba [49]=_ from this)).symm.trans vx.symm);unfold ctext Di;rw [Qx hd,Q8]; exact Z
  ·have:=ht.2.2
   show t.1.size+1<=maxLen;unfold maxLen; omega
  ·have:=ht.2.2
   have:=hu.2.2;rw [B8];show t.1.size+1+u.1.size<=maxLen;unfold maxLen; omega
  ·have I:u.1≠(⟨#[49]⟩:Qm):=QE I
   have h2:=hut J;have hd:(rv a).den≠1:=λe=>I (by rw [h2,e,vx]; rfl)
   unfold ctext Di;rw [Qw hd];simp only;rw [Z,h2,show (⟨#[47]⟩:Qm)=ba [47] from rfl,FL,FL,QV]; rfl
theorem L6 {p q:Rat} (I:p.num=q.num) (J:p.den=q.den):p=q:=Rat.ext I J
theorem z_ {n:Int} (h:(Lib.decDigits n.natAbs).length<=2000):Gd (lK (ba (Lib.itoa n))) (λa=>s5 a/\a.words.length<=10000/\gL a=n):=by
 have J:=me n.natAbs;have:=Hv J.1.Ej h (decide (n<0));rw [uE];simp only [Rb] at this;refine this.mono (λa I=>⟨I.1,I.2.1,?_⟩);rw [I.2.2,J.2]
 split <;> omega
theorem BD (n:Int):(47:UInt8) ∉ Lib.itoa n:=by
 rw [uE];have:=BR (me n.natAbs).1.Ej
 split
 ·simp only [Ra,not_or]; exact ⟨by decide,this⟩
 ·exact this
theorem G8 {n:Int} (h:(Lib.decDigits n.natAbs).length<=2000):(Lib.itoa n).length<=2001:=by
 rw [uE]
 split
 ·simp only [QA]; omega
 ·omega
theorem Lv {q:Rat}{k:Nat} (hn:q.num.natAbs<10 ^ k) (O:q.den<10 ^ k) (J:1<=k) (I:k<=2000):fits q:=
 ⟨Rp (CR J hn) I,Rp (CR J O) I⟩
theorem FX {q:Rat} (h:fits q):(ctext q).size<=10000:=by
 unfold ctext Di;rw [iV,QJ];have:=G8 h.1;have:=h.2
 split
 ·simp; omega
 ·simp only [QA]; omega
theorem xB {l:List Qm} (hs:∀ s ∈ l,s.size<=maxLen):Gd (pK l) (λc=>c=0↔∀ s ∈ l,∃ q,fits q/\s=ctext q):=by
 unfold pK;refine Gd.seen (λpre _=>∀ s ∈ pre,∃ q,fits q/\s=ctext q) ?_ (λ_ J=>Gd.ret ⟨λ_=>J,λ_=>rfl⟩) () (λs hs=>by cases hs)
 rintro i y _ nx pre ⟨post,hl⟩ J O;have Z:y ∈ l:=by rw [hl]; simp
 unfold sK;refine Gd.eM (Iw y (hs y Z)) (λc Y=>Gd.ite (λh=>Gd.ret ?_) (λh=>O () (λz I=>?_)))
 ·have h:c≠0:=by simpa using h
  exact ⟨λe=>absurd e h,λe=>absurd (Y.2 (e y Z)) h⟩
 ·have h:c=0:=by simpa using h
  rcases QG.1 I with I | I
  ·exact J z I
  ·rw [QY] at I; subst I; exact Y.1 h
def RB (q:Rat) (L:Nat):Prop:=∃ r:LR,py r/\RL r L/\rv r=q
theorem py.rb {r:LR} (h:py r) {L:Nat} (Y:RB (rv r) L):RL r L:=by
 obtain ⟨s,I,J,O⟩:=Y;rw [h.ext' I O.symm]; exact J
theorem RB.mono {q:Rat}{L M:Nat} (h:RB q L) (Y:L<=M):RB q M:=by
 obtain ⟨s,I,J,O⟩:=h;exact ⟨s,I,J.mono Y,O⟩
theorem RB.add {p q:Rat}{A B:Nat} (h:RB p A) (k:RB q B) (Y:A+B<=800000):RB (p+q) (A+B+1):=by
 obtain ⟨a,I,J,O⟩:=h; obtain ⟨b,Z,k2,k3⟩:=k
 obtain ⟨r,_,r1,r2,r3⟩:=w6 I Z J k2 Y;exact ⟨r,r1,r2,by rw [r3,O,k3]⟩
theorem RB.sub {p q:Rat}{A B:Nat} (h:RB p A) (k:RB q B) (Y:A+B<=800000):RB (p-q) (A+B+1):=by
 obtain ⟨a,I,J,O⟩:=h; obtain ⟨b,Z,k2,k3⟩:=k
 obtain ⟨r,_,r1,r2,r3⟩:=x_ I Z J k2 Y;exact ⟨r,r1,r2,by rw [r3,O,k3]⟩
theorem RB.mul {p q:Rat}{A B:Nat} (h:RB p A) (k:RB q B) (Y:A+B<=800000):RB (p*q) (A+B):=by
 obtain ⟨a,I,J,O⟩:=h; obtain ⟨b,Z,k2,k3⟩:=k
 obtain ⟨r,_,r1,r2,r3⟩:=zz I Z J k2 Y;exact ⟨r,r1,r2,by rw [r3,O,k3]⟩
theorem Ns {w:List bU} (Y:Wf w) (ht:vI w) {k:Nat} (h:nv w<WB ^ k):w.length<=k:=by
 rcases Sr k w.length with hl | hl
 ·exfalso
  have I:w≠[]:=λe=>by rw [e] at hl; simp at hl
  have J:=Fb Y ht I;have O:WB ^ k<=WB ^ (w.length-1):=VV (by decide) (by omega)
  exact absurd h (Nat.not_lt.2 (Rp O J))
 ·exact hl
theorem IQ (k m:Nat) (h:32*k<=3*m):WB ^ k<=10 ^ m:=by
 have J:(2:Nat) ^ (32*k)<=2 ^ (3*m):=VV (by decide) h
 have I:((2:Nat) ^ 3) ^ m<=10 ^ m:=VU (by decide) m
 rw [<- VX] at I;rw [A1 k];exact Rp J I
theorem K0 {k:Nat} (I:k<=187):WB ^ k<=10 ^ 2000:=IQ k 2000 (by omega)
theorem RB.fits {q:Rat}{L:Nat} (h:RB q L) (hL:L<=187):fits q:=by
 obtain ⟨r,I,J,rfl⟩:=h;have e:=K0 hL;have key:∀ {w:List bU},Wf w->w.length<=L->nv w<10 ^ 2000:=λO hl=>
  Tb (sU O) (Rp (VV (by decide) hl) e)
 refine Lv (k:=2000) ?_ ?_ (by decide) (QM _)
 ·rw [I.num,lq]; exact key I.n.wf J.1
 ·rw [I.den]; exact key I.d.wf J.2
theorem MN {m:Int}{k:Nat} (h:m.natAbs<WB ^ k) (O:k<=187):∃ a:LI,s5 a/\a.words.length<=k/\gL a=m:=by
 obtain ⟨a,_,I,Y,J⟩:=z_ (n:=m) (CR (by decide) (Tb h (K0 O)))
 exact ⟨a,I,Ns I.wf I.tp (by rw [<- lq,J]; exact h),J⟩
theorem RB.ratio {m d:Int}{k:Nat} (h:m.natAbs<WB ^ k) (Y:d.natAbs<WB ^ k) (h0:d≠0) (J:k<=187):RB ((m:Rat) / (d:Rat)) k:=by
 obtain ⟨a,a1,a2,O⟩:=MN h J;obtain ⟨b,b1,b2,I⟩:=MN Y J;obtain ⟨r,_,Z,r2,r3,r4⟩:=xN a1 b1 (by rw [<- lq,I]; omega) (by omega) (by omega)
 exact ⟨r,Z,⟨by omega,by omega⟩,by rw [r4,O,I,Rat.divInt_eq_div]⟩
theorem RB.int {m:Int}{k:Nat} (h:m.natAbs<WB ^ k) (I:1<=k) (J:k<=187):RB (m:Rat) k:=by
 have:=RB.ratio (m:=m) (d:=1) h (by
  have:WB ^ 1<=WB ^ k:=VV (by decide) I
  have:WB ^ 1=4294967296:=by decide
  show 1<WB ^ k;omega) (by decide) J
 have e:(m:Rat) / ((1:Int):Rat)=(m:Rat):=by rw [Rat.intCast_one]; grind
 rwa [e] at this
theorem RB.small {m:Int} (h:m.natAbs<4294967296):RB (m:Rat) 1:=RB.int (k:=1) (by show m.natAbs<4294967296 ^ 1; omega) (by decide) (by decide)
theorem RB.Pm {m d:Int} (h:m.natAbs<4294967296) (J:d.natAbs<4294967296) (I:d≠0):RB ((m:Rat) / (d:Rat)) 1:=
 RB.ratio (k:=1) (by show m.natAbs<4294967296 ^ 1; omega) (by show d.natAbs<4294967296 ^ 1; omega) I (by decide)
theorem Ff {q:Rat} (h:fits q):Gd (qD (ctext q)) (λa=>py a/\RL a 300/\rv a=q):=by
 have O:∀ a:LR,s5 a.N->s5 a.D->gL a.N=q.num->gL a.D=(q.den:Int)->py a/\RL a 300/\rv a=q:=λa h1 h2 h3 h4=>by
  have hp:a.D.minus=false:=h2.plus (by omega)
  have J:nv a.D.words=q.den:=by
   have:=qw hp;omega
  have I:py a:=⟨h1,h2,hp,by rw [J]; exact q.den_nz,by rw [J,<- lq,h3]; exact q.reduced⟩
  have hv:rv a=q:=L6 (by rw [I.num,h3]) (by rw [I.den,J])
  exact ⟨I,I.small (by rw [hv]; exact h),hv⟩
 have hl:=G8 h.1;unfold qD ctext Di
 by_cases J:q.den=1
 ·rw [Qx J,Q8]
  refine Gd.bind_eq (Bl (BD _)) (Gd.ite (λ_=>?_) (λhx=>by simp at hx))
  refine Gd.eM (z_ h.1) (λa Y=>Gd.eM (BW (n:=1) (by omega)) (λb Z=>Gd.ret ?_))
  exact O _ Y.1 Z.1 Y.2.2 (by rw [Z.2.2,J]; rfl)
 ·rw [Qw J]
  refine Gd.bind_eq (Bm (BD _) (by have:=h.2; unfold maxLen; omega)) (Gd.ite (λhx=>by simp at hx) (λ_=>?_))
  refine Gd.eM (z_ h.1) (λa Y=>Gd.eM (B2 (me q.den).1 h.2) (λb Z=>Gd.ret ?_));exact O _ Y.1 Z.1 Y.2.2 (by rw [Z.2.2,(me q.den).2])
end Go.Sim
namespace Go.Sim
open _root_.Go.IntKind (i64 u64 u32 u8)
def sm:Nat->(Nat->Rat)->Rat
 | 0,_=>0
 | n+1,f=>sm n f+f n
def pr:Nat->(Nat->Rat)->Rat
 | 0,_=>1
 | n+1,f=>pr n f*f n
theorem pq {f g:Nat->Rat}:∀ {n:Nat},(∀ i,i<n->f i=g i)->sm n f=sm n g
 | 0,_=>rfl
 | n+1,h=>by
  unfold sm;rw [pq (λi hi=>h i (by omega)),h n (by omega)]
theorem wD {f g:Nat->Rat}:∀ {n:Nat},(∀ i,i<n->f i=g i)->pr n f=pr n g
 | 0,_=>rfl
 | n+1,h=>by
  unfold pr;rw [wD (λi hi=>h i (by omega)),h n (by omega)]
theorem vG {f:Nat->Rat}:∀ {n:Nat},(∀ i,i<n->f i=0)->sm n f=0
 | 0,_=>rfl
 | n+1,h=>by
  unfold sm;rw [vG (λi hi=>h i (by omega)),h n (by omega)]; grind
theorem w9 (f g:Nat->Rat):∀ n:Nat,sm n (λi=>f i+g i)=sm n f+sm n g
 | 0=>by unfold sm; grind
 | n+1=>by unfold sm; rw [w9 f g n]; grind
theorem rK (a:Rat) (f:Nat->Rat):∀ n:Nat,sm n (λi=>a*f i)=a*sm n f
 | 0=>by unfold sm; grind
 | n+1=>by unfold sm; rw [rK a f n]; grind
theorem Ca {f:Nat->Rat}{p:Nat}:∀ {n:Nat},p<n->(∀ i,i<n->i≠p->f i=0)->sm n f=f p
 | 0,h,_=>by omega
 | n+1,h,hz=>by
  unfold sm
  by_cases e:p=n
  ·subst e
   rw [vG (λi hi=>hz i (by omega) (by omega))]; grind
  ·rw [Ca (by omega) (λi hi I=>hz i (by omega) I),hz n (by omega) (λh=>e h.symm)]; grind
theorem KO {f:Nat->Rat}{p:Nat}:∀ {n:Nat},p+1<n->(∀ i,i<n->i≠p->i≠p+1->f i=0)->sm n f=f p+f (p+1)
 | 0,h,_=>by omega
 | n+1,h,hz=>by
  unfold sm
  by_cases e:p+1=n
  ·subst e
   rw [Ca (p:=p) (by omega) (λi hi I=>hz i (by omega) I (by omega))]
  ·rw [KO (by omega) (λi hi J O=>hz i (by omega) J O),hz n (by omega) (by omega) (λh=>e h.symm)]; grind
theorem tE {f:Nat->Rat}:∀ {n:Nat},(∀ i,i<n->0<=f i)->0<=sm n f
 | 0,_=>We
 | n+1,h=>by
  unfold sm;have I:=tE (n:=n) (λi hi=>h i (by omega))
  have J:=h n (by omega)
  grind
theorem KN {f g:Nat->Rat}:∀ {n:Nat},(∀ i,i<n->f i<=g i)->sm n f<=sm n g
 | 0,_=>We
 | n+1,h=>by
  unfold sm;have I:=KN (n:=n) (λi hi=>h i (by omega))
  have J:=h n (by omega)
  grind
theorem mW {f:Nat->Rat}:∀ {n:Nat},(∀ i,i<n->0<=f i)->0<=pr n f
 | 0,_=>by unfold pr; decide
 | n+1,h=>by
  unfold pr;exact Wl (mW (n:=n) (λi hi=>h i (by omega))) (h n (by omega))
theorem qI {a b c d:Rat} (J:a<=b) (O:c<=d) (a0:0<=a) (I:0<=c):a*c<=b*d:=by
 have Y:a*c<=b*c:=Rat.mul_le_mul_of_nonneg_right J I;have Z:b*c<=b*d:=Rat.mul_le_mul_of_nonneg_left O (by grind)
 exact Wg Y Z
theorem Ho {f g:Nat->Rat}:∀ {n:Nat},(∀ i,i<n->0<=f i)->(∀ i,i<n->f i<=g i)->pr n f<=pr n g
 | 0,_,_=>We
 | n+1,h0,h=>by
  unfold pr;exact qI (Ho (λi hi=>h0 i (by omega)) (λi hi=>h i (by omega))) (h n (by omega)) (mW (λi hi=>h0 i (by omega))) (h0 n (by omega))
theorem DP (f g:Nat->Rat):∀ n:Nat,pr n (λi=>f i*g i)=pr n f*pr n g
 | 0=>by unfold pr; grind
 | n+1=>by unfold pr; rw [DP f g n]; grind
abbrev Mt:=Nat->Nat->Rat
def skip (p i:Nat):Nat:=if i<p then i else i+1
def minor (M:Mt) (p:Nat):Mt:=λr c=>M (skip p r) (c+1)
def sg (i:Nat):Rat:=if i%2=0 then 1 else -1
def qW:Nat->Mt->Rat
 | 0,_=>1
 | n+1,M=>sm (n+1) (λi=>sg i*M i 0*qW n (minor M i))
def row (M:Mt) (p:Nat) (x:Nat->Rat):Mt:=λr=>if r=p then x else M r
theorem xX:∀ {n:Nat}{M M':Mt},(∀ r c,r<n->c<n->M r c=M' r c)->qW n M=qW n M'
 | 0,_,_,_=>rfl
 | n+1,M,M',h=>by
  unfold qW;refine pq (λi hi=>?_);rw [h i 0 hi (by omega),xX (λr c J I=>?_)]
  unfold minor;exact h _ _ (by unfold skip; split <;> omega) (by omega)
theorem ve (M:Mt) (p:Nat) (x:Nat->Rat):minor (row M p x) p=minor M p:=by
 funext r c
 unfold minor row;rw [Qw (by unfold skip; split <;> omega)]
theorem wX (M:Mt) {p i:Nat} (h:p<i) (x:Nat->Rat):minor (row M p x) i=row (minor M i) p (λc=>x (c+1)):=by
 funext r c
 unfold minor row
 by_cases e:r=p
 ·subst e
  rw [Qx (by unfold skip; rw [Qx h]),Qx rfl]
 ·rw [Qw (by unfold skip; split <;> omega),Qw e]
theorem wW (M:Mt) {p i:Nat} (h:i<p) (x:Nat->Rat):minor (row M p x) i=row (minor M i) (p-1) (λc=>x (c+1)):=by
 funext r c
 unfold minor row
 by_cases e:r=p-1
 ·subst e
  rw [Qx (by unfold skip; split <;> omega),Qx rfl]
 ·rw [Qw (by unfold skip; split <;> omega),Qw e]
theorem zh:∀ {n:Nat} (M:Mt) {p:Nat} (I:p<n) (a b:Rat) (x y:Nat->Rat),qW n (row M p (λc=>a*x c+b*y c))=a*qW n (row M p x)+b*qW n (row M p y)
 | 0,_,_,h,_,_,_,_=>by omega
 | n+1,M,p,I,a,b,x,y=>by
  unfold qW;rw [<- rK,<- rK,<- w9];refine pq (λi hi=>?_);rcases Tw i p with h | h | h
  ·rw [wW M h,wW M h,wW M h,zh (minor M i) (by omega) a b (λc=>x (c+1)) (λc=>y (c+1))]
   unfold row;rw [Qw (by omega),Qw (by omega),Qw (by omega)]
   grind
  ·subst h
   rw [ve,ve,ve];unfold row;rw [Qx rfl,Qx rfl,Qx rfl]
   grind
  ·rw [wX M h,wX M h,wX M h,zh (minor M i) (by omega) a b (λc=>x (c+1)) (λc=>y (c+1))]
   unfold row;rw [Qw (by omega),Qw (by omega),Qw (by omega)]
   grind
theorem Mb (i:Nat):sg (i+1) = - sg i:=by
 unfold sg
 by_cases h:i%2=0
 ·rw [Qx h,Qw (by omega)]
 ·rw [if_neg h,if_pos (by omega)]; grind
theorem AI:∀ {n:Nat}{M:Mt}{p:Nat},p+1<n->(∀ c,c<n->M p c=M (p+1) c)->qW n M=0
 | 0,_,_,h,_=>by omega
 | n+1,M,p,hp,he=>by
  unfold qW;rw [KO (p:=p) hp (λi hi J O=>?_)]
  ·have:qW n (minor M p)=qW n (minor M (p+1)):=xX (λr c Y I=>by
    unfold minor skip
    by_cases e:r=p
    ·subst e
     rw [Qw (by omega),Qx (by omega)]
     exact (he (c+1) (by omega)).symm
    ·by_cases e2:r<p
     ·rw [Qx e2,Qx (by omega)]
     ·rw [Qw e2,Qw (by omega)])
   rw [this,Mb,he 0 (by omega)]
   grind
  ·have:qW n (minor M i)=0:=by
    rcases Tw i p with h | h | h
    ·refine AI (p:=p-1) (by omega) (λc I=>?_)
     unfold minor skip;rw [Qw (by omega),Qw (by omega),show p-1+1=p by omega]
     exact he (c+1) (by omega)
    ·exact absurd h J
    ·refine AI (p:=p) (by omega) (λc I=>?_)
     unfold minor skip;rw [Qx (by omega),Qx (by omega)]
     exact he (c+1) (by omega)
   rw [this]; grind
theorem B5 (M:Mt) (p:Nat):row M p (M p)=M:=by
 funext r
 unfold row
 by_cases e:r=p
 ·subst e; rw [Qx rfl]
 ·rw [Qw e]
theorem wE (M:Mt) {p q:Nat} (h:p≠q) (x y:Nat->Rat):row (row M p x) q y=row (row M q y) p x:=by
 funext r
 unfold row
 by_cases e:r=q
 ·subst e; rw [Qx rfl,Qw (λe=>h e.symm),Qx rfl]
 ·rw [Qw e]
  by_cases e2:r=p
  ·rw [Qx e2,Qx e2]
  ·rw [Qw e2,Qw e2,Qw e]
theorem Bn {n:Nat} (M:Mt) {p:Nat} (I:p<n) (x y:Nat->Rat):qW n (row M p (λc=>x c+y c))=qW n (row M p x)+qW n (row M p y):=by
 have:=zh M I 1 1 x y;simp only [Rat.one_mul] at this;exact this
theorem JG {n:Nat} (M:Mt) {p:Nat} (J:p+1<n) (x y:Nat->Rat):qW n (row (row M p x) (p+1) y) = - qW n (row (row M p y) (p+1) x):=by
 have two:∀ u:Nat->Rat,qW n (row (row M p u) (p+1) u)=0:=λu=>AI J (λc O=>by
  unfold row;rw [Qw (by omega),Qx rfl,Qx rfl])
 have h:=two (λc=>x c+y c);have I:p≠p+1:=by omega
 rw [Bn _ J,wE M I,wE M I,Bn _ (by omega),Bn _ (by omega),<- wE M I,<- wE M I,<- wE M I,<- wE M I,two x,two y] at h
 grind
theorem Dl:∀ (k:Nat) {n:Nat}{M:Mt}{p q:Nat},q=p+1+k->q<n->(∀ c,M p c=M q c)->qW n M=0
 | 0,n,M,p,q,hq,hn,he=>by
  subst hq;exact AI (by omega) (λc _=>he c)
 | k+1,n,M,p,q,hq,hn,he=>by
  have e1:qW n M=qW n (row (row M (q-1) (M (q-1))) (q-1+1) (M (q-1+1))):=by
   rw [B5,B5]
  rw [e1,JG M (by omega)]
  have:qW n (row (row M (q-1) (M (q-1+1))) (q-1+1) (M (q-1)))=0:=by
   refine Dl k (p:=p) (q:=q-1) (by omega) (by omega) (λc=>?_)
   unfold row;rw [Qw (by omega),Qw (by omega),Qw (by omega),Qx rfl,show q-1+1=q by omega]
   exact he c
  rw [this]; grind
theorem JE {n:Nat}{M:Mt}{p q:Nat} (J:p<n) (O:q<n) (I:p≠q) (he:∀ c,M p c=M q c):qW n M=0:=by
 rcases Sr p q with h | h
 ·exact Dl (q-p-1) (p:=p) (q:=q) (by omega) O he
 ·exact Dl (p-q-1) (p:=q) (q:=p) (by omega) J (λc=>(he c).symm)
theorem Dn {n:Nat} (M:Mt) {p:Nat} (I:p<n):qW n (row M p (λ_=>0))=0:=by
 have:=zh M I 0 0 (λ_=>0) (λ_=>0);have e:(λc:Nat=>(0:Rat)*(λ_:Nat=>(0:Rat)) c+0*(λ_:Nat=>(0:Rat)) c)=λ_=>0:=by funext c; grind
 rw [e] at this;rw [this]; grind
theorem Bo {n:Nat} (M:Mt) {p:Nat} (I:p<n) (x:Nat->Rat) (Y:Mt):∀ k:Nat,qW n (row M p (λc=>sm k (λj=>x j*Y j c)))=sm k (λj=>x j*qW n (row M p (Y j)))
 | 0=>Dn M I
 | k+1=>by
  have e:(λc=>sm (k+1) (λj=>x j*Y j c))=λc=>1*sm k (λj=>x j*Y j c)+x k*Y k c:=by
   funext c
   show sm k (λj=>x j*Y j c)+x k*Y k c=_;rw [Rat.one_mul]
  rw [e,zh M I 1 (x k) (λc=>sm k (λj=>x j*Y j c)) (Y k),Bo M I x Y k];show _=sm k _+_
  grind
theorem EJ {n:Nat} (M:Mt) {p:Nat} (J:p<n) (x:Nat->Rat):qW n (row M p (λc=>sm n (λj=>x j*M j c)))=x p*qW n M:=by
 rw [Bo M J,Ca J (λj O I=>?_),B5];have:qW n (row M p (M j))=0:=JE J O (λe=>I e.symm) (λc=>by
  unfold row;rw [Qx rfl,Qw I])
 rw [this]; grind
theorem JB {n:Nat}{M:Mt}{x b:Nat->Rat} (h:∀ c,c<n->sm n (λj=>x j*M j c)=b c) {p:Nat} (J:p<n):qW n (row M p b)=x p*qW n M:=by
 rw [<- EJ M J];refine xX (λr c O I=>?_);unfold row
 by_cases e:r=p
 ·rw [Qx e,Qx e]; exact (h c I).symm
 ·rw [Qw e,Qw e]
theorem EK:∀ {n:Nat}{M:Mt},(∀ c,c<n->M n c=0)->qW (n+1) M=M n n*qW n M
 | 0,M,_=>by
  show (0:Rat)+sg 0*M 0 0*1=M 0 0*1;have:sg 0=1:=rfl;rw [this]; grind
 | n+1,M,h=>by
  have e1:qW (n+1+1) M=sm (n+1) (λi=>sg i*M i 0*qW (n+1) (minor M i))+sg (n+1)*M (n+1) 0*qW (n+1) (minor M (n+1)):=rfl;have e2:qW (n+1) M=sm (n+1) (λi=>sg i*M i 0*qW n (minor M i)):=rfl;rw [e1,e2,h 0 (by omega),<- rK]
  have:sm (n+1) (λi=>sg i*M i 0*qW (n+1) (minor M i))=sm (n+1) (λi=>M (n+1) (n+1)*(sg i*M i 0*qW n (minor M i))):=by
   refine pq (λi hi=>?_);have hs:skip i n=n+1:=by unfold skip; rw [Qw (by omega)]
   have hl:qW (n+1) (minor M i)=minor M i n n*qW n (minor M i):=EK (λc I=>by
    unfold minor;rw [hs];exact h (c+1) (by omega))
   have hm:minor M i n n=M (n+1) (n+1):=by unfold minor; rw [hs]
   rw [hl,hm]; grind
  rw [this]; grind
def uC (q:Rat):Prop:=∃ z:Int,q=(z:Rat)
theorem zl {a b:Rat} (h:uC a) (k:uC b):uC (a+b):=by
 obtain ⟨x,rfl⟩:=h; obtain ⟨y,rfl⟩:=k
 exact ⟨x+y,(Rat.intCast_add x y).symm⟩
theorem sD {a b:Rat} (h:uC a) (k:uC b):uC (a*b):=by
 obtain ⟨x,rfl⟩:=h; obtain ⟨y,rfl⟩:=k
 exact ⟨x*y,(Wc x y).symm⟩
theorem Nl (i:Nat):uC (sg i):=by
 unfold sg
 split
 ·exact ⟨1,rfl⟩
 ·exact ⟨-1,rfl⟩
theorem Gb {f:Nat->Rat}:∀ {n:Nat},(∀ i,i<n->uC (f i))->uC (sm n f)
 | 0,_=>⟨0,rfl⟩
 | n+1,h=>by unfold sm; exact zl (Gb (λi hi=>h i (by omega))) (h n (by omega))
theorem Dm:∀ {n:Nat}{M:Mt},(∀ r c,r<n->c<n->uC (M r c))->uC (qW n M)
 | 0,_,_=>⟨1,rfl⟩
 | n+1,M,h=>by
  unfold qW;exact Gb (λi hi=>sD (sD (Nl i) (h i 0 hi (by omega))) (Dm (λr c J I=>h _ _ (by unfold skip; split <;> omega) (by omega))))
theorem Hr (v w:Nat->Rat) (I:∀ i,0<=v i) (J:∀ i,0<=w i):∀ n:Nat,sm (n+1) (λi=>v i*pr n (λr=>w (skip i r)))+pr (n+1) w<=pr (n+1) (λr=>v r+w r)
 | 0=>by
  show 0+v 0*1+1*w 0<=1*(v 0+w 0)
  grind
 | n+1=>by
  have ih:=Hr v w I J n;have e1:sm (n+1+1) (λi=>v i*pr (n+1) (λr=>w (skip i r)))=sm (n+1) (λi=>v i*pr (n+1) (λr=>w (skip i r)))+v (n+1)*pr (n+1) (λr=>w (skip (n+1) r)):=rfl;have e2:sm (n+1) (λi=>v i*pr (n+1) (λr=>w (skip i r)))=w (n+1)*sm (n+1) (λi=>v i*pr n (λr=>w (skip i r))):=by
   rw [<- rK];refine pq (λi hi=>?_);have:pr (n+1) (λr=>w (skip i r))=pr n (λr=>w (skip i r))*w (n+1):=by
    show pr n _*w (skip i n)=_;rw [show skip i n=n+1 by unfold skip; rw [Qw (by omega)]]
   rw [this]; grind
  have O:pr (n+1) (λr=>w (skip (n+1) r))=pr (n+1) w:=wD (λr hr=>by unfold skip; rw [Qx hr])
  have Y:pr (n+1+1) w=pr (n+1) w*w (n+1):=rfl;have Z:pr (n+1+1) (λr=>v r+w r)=pr (n+1) (λr=>v r+w r)*(v (n+1)+w (n+1)):=rfl;rw [e1,e2,O,Y,Z];have s0:0<=sm (n+1) (λi=>v i*pr n (λr=>w (skip i r))):=tE (λi _=>Rat.mul_nonneg (I i) (mW (λr _=>J _)));have m1:=Rat.mul_le_mul_of_nonneg_right ih (show (0:Rat)<=v (n+1)+w (n+1) by have:=I (n+1); have:=J (n+1); grind)
  have m2:=Wl s0 (I (n+1))
  grind
theorem FZ:∀ {n:Nat}{M A:Mt},(∀ r c,0<=A r c)->(∀ r c,r<n->c<n->-A r c<=M r c/\M r c<=A r c)->-pr n (λr=>sm n (A r))<=qW n M/\qW n M<=pr n (λr=>sm n (A r))
 | 0,_,_,_,_=>by unfold qW pr; exact ⟨by decide,by decide⟩
 | n+1,M,A,h0,h=>by
  have I:∀ r,sm (n+1) (A r)=A r 0+sm n (λc=>A r (c+1)):=λr=>by
   have:∀ k,sm (k+1) (A r)=A r 0+sm k (λc=>A r (c+1)):=λk=>by
    induction k with
    | zero=>show 0+A r 0=A r 0+0; grind
    | succ k ih=>
     have e1:sm (k+1+1) (A r)=sm (k+1) (A r)+A r (k+1):=rfl;have e2:sm (k+1) (λc=>A r (c+1))=sm k (λc=>A r (c+1))+A r (k+1):=rfl;rw [e1,e2,ih]; grind
   exact this n
  have O:∀ r,0<=sm n (λc=>A r (c+1)):=λr=>tE (λc _=>h0 r (c+1));have hp:=Hr (λr=>A r 0) (λr=>sm n (λc=>A r (c+1))) (λr=>h0 r 0) O n;have hP:pr (n+1) (λr=>sm (n+1) (A r))=pr (n+1) (λr=>A r 0+sm n (λc=>A r (c+1))):=wD (λr _=>I r);have Z:=mW (n:=n+1) (f:=λr=>sm n (λc=>A r (c+1))) (λr _=>O r);have J:∀ i,i<n+1->-(A i 0*pr n (λr=>sm n (λc=>A (skip i r) (c+1))))<=sg i*M i 0*qW n (minor M i)/\sg i*M i 0*qW n (minor M i)<=A i 0*pr n (λr=>sm n (λc=>A (skip i r) (c+1))):=λi hi=>by
   obtain ⟨d1,d2⟩:=FZ (n:=n) (M:=minor M i) (A:=λr c=>A (skip i r) (c+1)) (λr c=>h0 _ _) (λr c hr hc=>h _ _ (by unfold skip; split <;> omega) (by omega))
   obtain ⟨m1,m2⟩:=h i 0 hi (by omega)
   have key:∀ a b x y:Rat,-a<=x->x<=a->-b<=y->y<=b->-(a*b)<=x*y/\x*y<=a*b:=λa b x y h1 h2 h3 h4=>by
    have t1:=Rat.mul_nonneg (show (0:Rat)<=a-x by grind) (show (0:Rat)<=b-y by grind)
    have t2:=Rat.mul_nonneg (show (0:Rat)<=a+x by grind) (show (0:Rat)<=b+y by grind)
    have t3:=Rat.mul_nonneg (show (0:Rat)<=a-x by grind) (show (0:Rat)<=b+y by grind)
    have t4:=Rat.mul_nonneg (show (0:Rat)<=a+x by grind) (show (0:Rat)<=b-y by grind)
    constructor <;> grind
   obtain ⟨k1,k2⟩:=key _ _ _ _ m1 m2 d1 d2;unfold sg
   split
   ·constructor <;> grind
   ·constructor <;> grind
  rw [hP];have Y:sm (n+1) (λi=>A i 0*pr n (λr=>sm n (λc=>A (skip i r) (c+1))))<=pr (n+1) (λr=>A r 0+sm n (λc=>A r (c+1))):=by grind
  have up:qW (n+1) M<=sm (n+1) (λi=>A i 0*pr n (λr=>sm n (λc=>A (skip i r) (c+1)))):=KN (λi hi=>(J i hi).2);have lo:sm (n+1) (λi=>(-1)*(A i 0*pr n (λr=>sm n (λc=>A (skip i r) (c+1)))))<=qW (n+1) M:=KN (λi hi=>by have:=(J i hi).1; grind)
  rw [rK] at lo;constructor <;> grind
theorem JF {k:Nat}{M:Mt}{x:Nat->Rat} (hx:x k=1) (O:∀ c,c<k->sm (k+1) (λj=>x j*M j c)=0):qW (k+1) M=sm (k+1) (λj=>x j*M j k)*qW k M:=by
 have I:=EJ M (Si k) x;rw [hx,Rat.one_mul] at I;rw [<- I];have Y:qW (k+1) (row M k (λc=>sm (k+1) (λj=>x j*M j c)))=(row M k (λc=>sm (k+1) (λj=>x j*M j c))) k k*qW k (row M k (λc=>sm (k+1) (λj=>x j*M j c))):=EK (λc J=>by
  unfold row;rw [Qx rfl];exact O c J)
 rw [Y];have Z:qW k (row M k (λc=>sm (k+1) (λj=>x j*M j c)))=qW k M:=xX (λr c hr J=>by
  unfold row;rw [Qw (by omega)])
 rw [Z];unfold row;rw [Qx rfl]
theorem FW {k:Nat}{M:Mt}{x b:Nat->Rat} (J:∀ r c,r<k->c<k->uC (M r c)) (O:∀ c,c<k->uC (b c)) (h:∀ c,c<k->sm k (λj=>x j*M j c)=b c) {p:Nat} (Y:p<k):uC (x p*qW k M):=by
 rw [<- JB h Y];refine Dm (λr c Z I=>?_);unfold row
 by_cases e:r=p
 ·rw [Qx e]; exact O c I
 ·rw [Qw e]; exact J r c Z I
theorem DQ {f:Nat->Rat}:∀ {n:Nat},(∀ i,i<n->1<=f i)->1<=pr n f
 | 0,_=>by unfold pr; decide
 | n+1,h=>by
  unfold pr;have I:=DQ (n:=n) (λi hi=>h i (by omega))
  have J:=h n (by omega)
  have:=qI I J (by decide) (by decide)
  grind
theorem Kw {f:Nat->Rat}{s:Rat} (hs:0<=s) {p:Nat}:∀ {n:Nat},p<n->(∀ i,i<n->1<=f i)->pr n (λr=>if r=p then s else f r)<=pr n f*s
 | 0,h,_=>by omega
 | n+1,h,h1=>by
  have Y:∀ i,i<n+1->0<=f i:=λi hi=>by have:=h1 i hi; grind
  have I:=mW (n:=n) (f:=f) (λi hi=>Y i (by omega))
  by_cases e:p=n
  ·subst e
   show pr p (λr=>if r=p then s else f r)*(if p=p then s else f p)<=pr p f*f p*s
   rw [Qx rfl];have e2:pr p (λr=>if r=p then s else f r)=pr p f:=wD (λi hi=>Qw (by omega))
   rw [e2];have O:=Wl I hs;have:=qI (We (a:=pr p f*s)) (h1 p (by omega)) O (by decide)
   grind
  ·show pr n (λr=>if r=p then s else f r)*(if n=p then s else f n)<=pr n f*f n*s
   rw [Qw (λe2:n=p=>e e2.symm)];have J:p<n:=by omega
   have ih:=Kw (f:=f) hs J (λi hi=>h1 i (Nat.lt_succ_of_lt hi));have:=Rat.mul_le_mul_of_nonneg_right ih (Y n (by omega))
   grind
theorem H7 {k:Nat}{M A:Mt}{x b a:Nat->Rat}{S:Rat} (J:∀ r c,0<=A r c) (I:∀ c,0<=a c) (hM:∀ r c,r<k->c<k->-A r c<=M r c/\M r c<=A r c) (hb:∀ c,c<k->-a c<=b c/\b c<=a c)
  (Z:∀ r,r<k->1<=sm k (A r)) (hS:sm k a<=S) (h:∀ c,c<k->sm k (λj=>x j*M j c)=b c) {p:Nat} (hp:p<k):-(pr k (λr=>sm k (A r))*S)<=x p*qW k M/\x p*qW k M<=pr k (λr=>sm k (A r))*S:=by
 rw [<- JB h hp];obtain ⟨d1,d2⟩:=FZ (n:=k) (M:=row M p b) (A:=row A p a) (λr c=>by
  unfold row
  by_cases e:r=p
  ·rw [Qx e]; exact I c
  ·rw [Qw e]; exact J r c) (λr c O hc=>by
  unfold row
  by_cases e:r=p
  ·rw [Qx e,Qx e]; exact hb c hc
  ·rw [Qw e,Qw e]; exact hM r c O hc)
 have Y:0<=sm k a:=tE (λc _=>I c);have e1:pr k (λr=>sm k (row A p a r))=pr k (λr=>if r=p then sm k a else sm k (A r)):=wD (λr _=>by
  unfold row
  by_cases e:r=p
  ·rw [Qx e,Qx e]
  ·rw [Qw e,Qw e])
 rw [e1] at d1 d2;have h2:=Kw Y (p:=p) (n:=k) (f:=λr=>sm k (A r)) hp Z;have h3:=Rat.mul_le_mul_of_nonneg_left hS (mW (n:=k) (f:=λr=>sm k (A r)) (λr O=>by have:=Z r O; grind))
 have h4:=Rat.le_trans h2 h3;constructor <;> grind
def dl (i j:Nat):Rat:=if i=j then 1 else 0
theorem re (i:Nat):dl i i=1:=Qx rfl
theorem qv {i j:Nat} (h:i≠j):dl i j=0:=Qw h
structure Gj (n:Nat) (A:Mt) (k:Nat) (m:Mt):Prop where
 comb:∀ i c,i<n->c<n->m i c=sm n (λj=>m i (n+j)*A j c)
 right:∀ i j,i<n->j<n->k<=j->m i (n+j)=dl i j
 left:∀ i c,i<n->c<n->c<k->m i c=dl i c
def uU (k:Nat) (m:Mt):Mt:=λi c=>if i=k then m k c / m k k else m i c-m i k*(m k c / m k k)
theorem Gj.step {n:Nat}{A m:Mt}{k:Nat} (h:Gj n A k m) (hk:k<n) (hd:m k k≠0):Gj n A (k+1) (uU k m):=by
 have O:∀ c,c<k->m k c=0:=λc J=>by rw [h.left k c hk (by omega) J,qv (by omega)]
 have hkr:∀ j,j<n->k+1<=j->m k (n+j)=0:=λj Z Y=>by rw [h.right k j hk Z (by omega),qv (by omega)]
 have I:m k k / m k k=1:=by rw [Wa]; exact Wj _ hd
 refine ⟨λi c hi J=>?_,λi j hi Z Y=>?_,λi c hi J hck=>?_⟩
 ·have e1:=h.comb i c hi J
  have e2:=h.comb k c hk J;unfold uU
  by_cases e:i=k
  ·subst e
   simp only [if_true];have:(λj=>m i (n+j) / m i i*A j c)=λj=>(m i i)⁻¹*(m i (n+j)*A j c):=by funext j; rw [Rat.div_def]; grind
   rw [this,rK,<- e2,Rat.div_def]; grind
  ·simp only [Qw e]
   have:(λj=>(m i (n+j)-m i k*(m k (n+j) / m k k))*A j c)=λj=>m i (n+j)*A j c+(-(m i k*(m k k)⁻¹))*(m k (n+j)*A j c):=by funext j; rw [Rat.div_def]; grind
   rw [this,w9,rK,<- e1,<- e2,Rat.div_def]; grind
 ·unfold uU
  have e1:=hkr j Z Y
  by_cases e:i=k
  ·subst e
   rw [if_pos rfl,e1,qv (by omega),Rat.div_def]; grind
  ·rw [if_neg e,e1,h.right i j hi Z (by omega),Rat.div_def]; grind
 ·unfold uU
  by_cases e:i=k
  ·subst e
   rw [Qx rfl]
   by_cases e2:c=i
   ·subst e2; rw [I,re]
   ·rw [O c (by omega),qv (λe3=>e2 e3.symm),Rat.div_def]; grind
  ·rw [Qw e]
   by_cases e2:c=k
   ·subst e2; rw [I,qv e]; grind
   ·rw [O c (by omega),h.left i c hi J (by omega),Rat.div_def]; grind
def Pd (n:Nat) (A:Mt):Prop:=∀ x:Nat->Rat,sm n (λc=>x c*sm n (λj=>x j*A j c))=0->∀ i,i<n->x i=0
theorem Gj.MO {n:Nat}{A m:Mt}{k:Nat} (h:Gj n A k m) (hp:Pd n A) (J:k<n):m k k≠0:=by
 intro Z;have h1:=hp (λj=>m k (n+j)) (vG (λc O=>by
  have e1:=(h.comb k c J O).symm;show m k (n+c)*sm n (λj=>m k (n+j)*A j c)=0;rw [e1];rcases Tw c k with I | I | I
  ·rw [h.left k c J O I,qv (by omega)]; grind
  ·subst I; rw [Z]; grind
  ·rw [h.right k c J O (by omega),qv (by omega)]; grind)) k J
 have h2:=h.right k k J J (QM k);have Y:m k (n+k)=0:=h1;rw [h2,re] at Y;exact absurd Y (by decide)
theorem Gj.M9 {n:Nat}{A m:Mt}{k:Nat} (h:Gj n A k m) (O:k<=n) {i:Nat} (hi:i<n) {c:Nat} (J:c<n):m i c=sm k (λj=>m i (n+j)*A j c)+(if k<=i then A i c else 0):=by
 have key:∀ q,k<=q->q<=n->sm q (λj=>m i (n+j)*A j c)=sm k (λj=>m i (n+j)*A j c)+(if k<=i/\i<q then A i c else 0):=by
  intro q Z
  induction q with
  | zero=>
   intro _;obtain rfl:k=0:=by omega
   rw [if_neg (by omega)]; grind
  | succ q ih=>
   intro Y
   by_cases e:k=q+1
   ·rw [<- e,if_neg (by omega)]; grind
   ·have e1:sm (q+1) (λj=>m i (n+j)*A j c)=sm q (λj=>m i (n+j)*A j c)+m i (n+q)*A q c:=rfl
    rw [e1,ih (by omega) (by omega),h.right i q hi (by omega) (by omega)]
    by_cases e2:i=q
    ·subst e2
     rw [re,if_neg (by omega),if_pos ⟨by omega,by omega⟩]; grind
    ·rw [qv e2]
     by_cases I:k<=i/\i<q
     ·rw [if_pos I,if_pos ⟨I.1,by omega⟩]; grind
     ·rw [if_neg I,if_neg (by omega)]; grind
 rw [h.comb i c hi J,key n O (QM n)]
 by_cases e:k<=i
 ·rw [Qx ⟨e,hi⟩,Qx e]
 ·rw [Qw (λe2=>e e2.1),Qw e]
theorem Gj.qW {n:Nat}{A m:Mt}{k:Nat} (h:Gj n A k m) (I:k<n) {L:Nat->Rat} (hL:∀ i,i<n->L i≠0):Sim.qW (k+1) (λr c=>L r*A r c)=L k*m k k*Sim.qW k (λr c=>L r*A r c):=by
 have J:∀ c,c<n->sm (k+1) (λj=>(L k*m k (n+j) / L j)*(L j*A j c))=L k*m k c:=λc J=>by
  have e1:=h.M9 (Nat.le_of_lt I) I J;rw [Qx (QM k)] at e1;have e2:sm (k+1) (λj=>(L k*m k (n+j) / L j)*(L j*A j c))=sm (k+1) (λj=>L k*(m k (n+j)*A j c)):=pq (λj hj=>by
   have:=Wj (L j) (hL j (by omega))
   rw [Rat.div_def]; grind)
  rw [e2,rK];have Y:sm (k+1) (λj=>m k (n+j)*A j c)=sm k (λj=>m k (n+j)*A j c)+m k (n+k)*A k c:=rfl;rw [Y,h.right k k I I (Nat.le_refl k),re,e1]; grind
 have Z:=JF (k:=k) (M:=λr c=>L r*A r c) (x:=λj=>L k*m k (n+j) / L j) (by
  rw [h.right k k I I (QM k),re,Rat.mul_one,Wa];exact Wj _ (hL k I)) (λc O=>by
  rw [J c (by omega),h.left k c I (by omega) O,qv (by omega)]; grind)
 rw [Z,J k I]
structure I8 (n:Nat) (A:Mt) (L:Nat->Rat) (B:Mt) (R:Nat->Rat):Prop where
 li:∀ i,i<n->uC (L i)
 l1:∀ i,i<n->1<=L i
 ai:∀ i c,i<n->c<n->uC (L i*A i c)
 b0:∀ i c,0<=B i c
 b1:∀ i,i<n->1<=B i i
 ab:∀ i c,i<n->c<n->-B i c<=L i*A i c/\L i*A i c<=B i c
 rs:∀ i,i<n->sm n (B i)<=R i
theorem AN {f:Nat->Rat} (h:∀ i,0<=f i) {k:Nat}:∀ {n:Nat},k<=n->sm k f<=sm n f
 | 0,hk=>by
  obtain rfl:k=0:=by omega
  exact We
 | n+1,hk=>by
  by_cases e:k=n+1
  ·subst e; exact We
  ·have J:=AN h (k:=k) (n:=n) (by omega)
   have O:=h n;have I:sm (n+1) f=sm n f+f n:=rfl;rw [I]
   grind
theorem MT {f:Nat->Rat} (h:∀ i,0<=f i) {k p:Nat} (Y:p<k):f p<=sm k f:=by
 have I:=AN h (k:=p+1) (n:=k) (by omega)
 have J:=tE (n:=p) (f:=f) (λi _=>h i);have O:sm (p+1) f=sm p f+f p:=rfl
 grind
theorem I8.ND {n:Nat}{A B:Mt}{L R:Nat->Rat} (h:I8 n A L B R) {k r:Nat} (I:r<k) (Y:k<=n):1<=sm k (B r):=by
 have J:=MT (h.b0 r) I;have O:=h.b1 r (by omega)
 grind
theorem I8.R1 {n:Nat}{A B:Mt}{L R:Nat->Rat} (h:I8 n A L B R) {r:Nat} (I:r<n):1<=R r:=by
 have J:=h.ND I (QM n);have O:=h.rs r I
 grind
theorem Hq {f:Nat->Rat}{k:Nat}:∀ {n:Nat},k<=n->(∀ i,i<n->1<=f i)->pr k f<=pr n f
 | 0,hk,_=>by
  obtain rfl:k=0:=by omega
  exact We
 | n+1,hk,h=>by
  by_cases e:k=n+1
  ·subst e; exact We
  ·have J:=Hq (k:=k) (n:=n) (by omega) (λi hi=>h i (by omega))
   have O:=qI (Rat.le_refl (a:=pr n f)) (h n (by omega)) (mW (λi hi=>by have:=h i (by omega); grind)) (by decide)
   have I:pr (n+1) f=pr n f*f n:=rfl;rw [I]
   grind
theorem I8.prod {n:Nat}{A B:Mt}{L R:Nat->Rat} (h:I8 n A L B R) {k:Nat} (I:k<=n):pr k (λr=>sm k (B r))<=pr n R:=by
 have O:pr k (λr=>sm k (B r))<=pr k R:=Ho (λr J=>by have:=h.ND J I; grind) (λr J=>Rat.le_trans (AN (h.b0 r) I) (h.rs r (by omega)))
 exact Wg O (Hq I (λi hi=>h.R1 hi))
theorem I8.qW {n:Nat}{A B:Mt}{L R:Nat->Rat} (h:I8 n A L B R) {k:Nat} (J:k<=n):uC (Sim.qW k (λr c=>L r*A r c))/\-pr n R<=Sim.qW k (λr c=>L r*A r c)/\Sim.qW k (λr c=>L r*A r c)<=pr n R:=by
 refine ⟨Dm (λr c O I=>h.ai r c (by omega) (by omega)),?_⟩
 obtain ⟨d1,d2⟩:=FZ (n:=k) (M:=λr c=>L r*A r c) (A:=B) h.b0 (λr c O I=>h.ab r c (by omega) (by omega))
 have:=h.prod J;constructor <;> grind
theorem Gj.num {n:Nat}{A B m:Mt}{L R:Nat->Rat}{k:Nat} (h:Gj n A k m) (s:I8 n A L B R) (J:k<=n) {i p:Nat} (hi:i<n) (hp:p<k):
  ∃ N:Rat,uC N/\-(pr n R*R i)<=N/\N<=pr n R*R i/\(if k<=i then L i else 1)*m i (n+p)*Sim.qW k (λr c=>L r*A r c)=N*L p:=by
 have hL:∀ j,j<n->L j≠0:=λj Z e=>by have:=s.l1 j Z; rw [e] at this; exact absurd this (by decide)
 have hx:∀ c,c<k->sm k (λj=>((if k<=i then L i else 1)*m i (n+j) / L j)*((λr c=>L r*A r c) j c))=if k<=i then -(L i*A i c) else dl i c:=λc I=>by
  have e1:=h.M9 J hi (c:=c) (by omega)
  have e2:sm k (λj=>((if k<=i then L i else 1)*m i (n+j) / L j)*((λr c=>L r*A r c) j c))=sm k (λj=>(if k<=i then L i else 1)*(m i (n+j)*A j c)):=pq (λj Z=>by
   have:=Wj (L j) (hL j (by omega))
   simp only [Wa]
   grind)
  rw [e2,rK];have Y:=h.left i c hi (by omega) I
  by_cases e:k<=i
  ·rw [Qx e,Qx e]
   rw [Qx e,Y,qv (by omega)] at e1
   grind
  ·rw [Qw e,Qw e]
   rw [Qw e,Y] at e1
   grind
 have hb:∀ c,c<k->uC (if k<=i then -(L i*A i c) else dl i c):=λc I=>by
  by_cases e:k<=i
  ·rw [Qx e]
   obtain ⟨z,hz⟩:=s.ai i c hi (by omega)
   exact ⟨-z,by rw [hz,Wd]⟩
  ·rw [Qw e]
   unfold dl
   split
   ·exact ⟨1,rfl⟩
   ·exact ⟨0,rfl⟩
 have hB:∀ c,c<k->-(B i c)<=(if k<=i then -(L i*A i c) else dl i c)/\(if k<=i then -(L i*A i c) else dl i c)<=B i c:=λc I=>by
  have h1:=s.ab i c hi (by omega)
  have h2:=s.b0 i c
  by_cases e:k<=i
  ·rw [Qx e]
   constructor <;> grind
  ·rw [Qw e]
   unfold dl
   split
   ·rename_i e2
    subst e2;have:=s.b1 i hi;constructor <;> grind
   ·constructor <;> grind
 have c1:=FW (k:=k) (M:=λr c=>L r*A r c) (λr c O I=>s.ai r c (by omega) (by omega)) hb hx hp
 obtain ⟨c2,c3⟩:=H7 (k:=k) (M:=λr c=>L r*A r c) (A:=B) (a:=B i) (S:=R i) s.b0 (s.b0 i) (λr c O I=>s.ab r c (by omega) (by omega)) hB (λr O=>s.ND O J) (Wg (AN (s.b0 i) J) (s.rs i hi)) hx hp
 have hP:=Rat.mul_le_mul_of_nonneg_right (s.prod J) (show (0:Rat)<=R i by have:=s.R1 hi; grind)
 refine ⟨_,c1,by grind,by grind,?_⟩
 have:=Wj (L p) (hL p (by omega))
 rw [Wa]
 grind
def qf (n:Nat) (x:Nat->Rat) (A:Mt):Rat:=sm n (λc=>x c*sm n (λj=>x j*A j c))
theorem Kz (n:Nat) (x:Nat->Rat) (A I:Mt):qf n x (λj c=>A j c+I j c)=qf n x A+qf n x I:=by
 unfold qf;rw [<- w9];refine pq (λc _=>?_);have:sm n (λj=>x j*(A j c+I j c))=sm n (λj=>x j*A j c)+sm n (λj=>x j*I j c):=by
  rw [<- w9];exact pq (λj _=>by grind)
 rw [this]; grind
theorem KA (n:Nat) (x e:Nat->Rat) (b:Rat):qf n x (λj c=>b*e j*e c)=b*(sm n (λj=>x j*e j)*sm n (λj=>x j*e j)):=by
 unfold qf;have I:sm n (λc=>x c*sm n (λj=>x j*(b*e j*e c)))=sm n (λc=>(b*sm n (λj=>x j*e j))*(x c*e c)):=pq (λc _=>by
  have:sm n (λj=>x j*(b*e j*e c))=sm n (λj=>(b*e c)*(x j*e j)):=pq (λj _=>by grind)
  rw [this,rK]; grind)
 rw [I,rK]; grind
def iK:List (Rat×(Nat->Rat))->Mt
 | []=>λ_ _=>0
 | be::l=>λj c=>be.1*be.2 j*be.2 c+iK l j c
theorem sq_nonneg (a:Rat):0<=a*a:=by
 rcases (Rat.le_total:(0:Rat)<=a\/a<=0) with h | h
 ·exact Wl h h
 ·have:=Rat.mul_nonneg (show (0:Rat)<=-a by grind) (show (0:Rat)<=-a by grind)
  grind
theorem BE (n:Nat) (x:Nat->Rat):∀ (l:List (Rat×(Nat->Rat))),(∀ be ∈ l,0<be.1)->0<=qf n x (iK l)
 | [],_=>by
  have:qf n x (iK [])=0:=vG (λc _=>by
   rw [vG (λj _=>by show x j*0=0; grind)]; grind)
  rw [this]; exact We
 | be::l,h=>by
  have O:=BE n x l (λb J=>h b (Qy _ J));have I:=h be (Qu ..);have e:qf n x (iK (be::l))=be.1*(sm n (λj=>x j*be.2 j)*sm n (λj=>x j*be.2 j))+qf n x (iK l):=by
   rw [<- KA,<- Kz]; rfl
  rw [e];have Y:=Wl (Rat.le_of_lt I) (sq_nonneg (sm n (λj=>x j*be.2 j)))
  grind
theorem EW (n:Nat) (x:Nat->Rat):∀ (l:List (Rat×(Nat->Rat))),(∀ be ∈ l,0<be.1)->qf n x (iK l)=0->∀ be ∈ l,sm n (λj=>x j*be.2 j)=0
 | [],_,_,be,I=>by simp at I
 | be::l,h,h0,b,I=>by
  have h1:=BE n x l (λb I=>h b (Qy _ I));have J:=h be (Qu ..);have e:qf n x (iK (be::l))=be.1*(sm n (λj=>x j*be.2 j)*sm n (λj=>x j*be.2 j))+qf n x (iK l):=by
   rw [<- KA,<- Kz]; rfl
  rw [e] at h0;have h3:=Rat.mul_nonneg (Rat.le_of_lt J) (sq_nonneg (sm n (λj=>x j*be.2 j)));have Z:qf n x (iK l)=0:=by grind
  have h5:be.1*(sm n (λj=>x j*be.2 j)*sm n (λj=>x j*be.2 j))=0:=by grind
  rcases Ra.1 I with rfl | I
  ·rcases Wh.1 h5 with O | O
   ·rw [O] at J; exact absurd J (Rat.lt_irrefl)
   ·rcases Wh.1 O with Y | Y <;> exact Y
  ·exact EW n x l (λb I=>h b (Qy _ I)) Z b I
inductive Lk (l:List (Rat×Nat×Nat)) (u:Nat):Nat->Prop
 | refl:Lk l u u
 | step {b:Rat}{v w:Nat}:Lk l u v->((b,v,w) ∈ l\/(b,w,v) ∈ l)->Lk l u w
def nF (F:Nat->Nat) (e:Rat×Nat×Nat):Rat×(Nat->Rat):=(e.1,λj=>dl (F j) e.2.1-dl (F j) e.2.2)
theorem Ox {n:Nat}{F:Nat->Nat}{l:List (Rat×Nat×Nat)} (hb:∀ e ∈ l,0<e.1) (hF:∀ i j,i<n->j<n->F i=F j->i=j)
  (hr:∀ i,i<n->∃ r,(∀ j,j<n->F j≠r)/\Lk l (F i) r):Pd n (iK (l.map (nF F))):=by
 intro x h0 i hi;have hz:=EW n x (l.map (nF F)) (λbe J=>by
  obtain ⟨e,he,rfl⟩:=Rd.1 J;exact hb e he) h0
 have hd:∀ p q:Nat,sm n (λj=>x j*(dl (F j) p-dl (F j) q))=sm n (λj=>x j*dl (F j) p)-sm n (λj=>x j*dl (F j) q):=λp q=>by
  have I:sm n (λj=>x j*(dl (F j) p-dl (F j) q))=sm n (λj=>x j*dl (F j) p+(-1)*(x j*dl (F j) q)):=pq (λj _=>by grind)
  rw [I,w9,rK]; grind
 have he:∀ (b:Rat) (p q:Nat),(b,p,q) ∈ l->sm n (λj=>x j*dl (F j) p)=sm n (λj=>x j*dl (F j) q):=λb p q h=>by
  have I:sm n (λj=>x j*(dl (F j) p-dl (F j) q))=0:=hz (nF F (b,p,q)) (Rd.2 ⟨_,h,rfl⟩);have h2:=hd p q
  grind
 have hl:∀ u v,Lk l u v->sm n (λj=>x j*dl (F j) u)=sm n (λj=>x j*dl (F j) v):=λu v h=>by
  induction h with
  | refl=>rfl
  | step _ h ih=>
   rcases h with h | h
   ·rw [ih]; exact he _ _ _ h
   ·rw [ih]; exact (he _ _ _ h).symm
 obtain ⟨r,Z,hr2⟩:=hr i hi;have I:=hl _ _ hr2;have h2:sm n (λj=>x j*dl (F j) r)=0:=vG (λj O=>by rw [qv (Z j O)]; grind)
 have h3:sm n (λj=>x j*dl (F j) (F i))=x i*dl (F i) (F i):=Ca hi (λj O Y=>by rw [qv (λe=>Y (hF j i O hi e))]; grind)
 rw [h2,h3,re] at I
 grind
def uv (u:Nat):List (Rat×Nat×Nat)->Rat
 | []=>1
 | e::l=>(if e.2.1=u\/e.2.2=u then e.1 else 1)*uv u l
def vZ:List (Rat×Nat×Nat)->Rat
 | []=>1
 | e::l=>e.1*vZ l
theorem AL {u:Nat}:∀ {l:List (Rat×Nat×Nat)},(∀ e ∈ l,uC e.1)->uC (uv u l)
 | [],_=>⟨1,rfl⟩
 | e::l,h=>by
  unfold uv;refine sD ?_ (AL (λe he=>h e (Qy _ he)))
  split
  ·exact h e (Qu ..)
  ·exact ⟨1,rfl⟩
theorem zB {u:Nat}:∀ {l:List (Rat×Nat×Nat)},(∀ e ∈ l,1<=e.1)->1<=uv u l
 | [],_=>We
 | e::l,h=>by
  unfold uv;have I:=zB (u:=u) (l:=l) (λe he=>h e (Qy _ he));have J:=h e (Qu ..)
  split
  ·have:=qI J I (by decide) (by decide)
   grind
  ·grind
theorem Bc:∀ {l:List (Rat×Nat×Nat)},(∀ e ∈ l,1<=e.1)->1<=vZ l
 | [],_=>We
 | e::l,h=>by
  unfold vZ;have I:=Bc (l:=l) (λe he=>h e (Qy _ he));have J:=h e (Qu ..);have:=qI J I (by decide) (by decide)
  grind
theorem DU {u:Nat}:∀ {l:List (Rat×Nat×Nat)},(∀ e ∈ l,uC e.1/\1<=e.1)->∀ e ∈ l,(e.2.1=u\/e.2.2=u)->∀ t:Rat,uC t->uC (uv u l*(t / e.1))
 | [],_,e,he,_,_,_=>by simp at he
 | d::l,h,e,he,hu,t,ht=>by
  have hl:∀ e ∈ l,uC e.1/\1<=e.1:=λe he=>h e (Qy _ he);unfold uv;rcases Ra.1 he with rfl | he
  ·rw [Qx hu]
   have J:e.1≠0:=λO=>by have:=(h e (Qu ..)).2; rw [O] at this; exact absurd this (by decide)
   have:=Rat.mul_inv_cancel e.1 J;have I:e.1*uv u l*(t / e.1)=uv u l*t:=by rw [Rat.div_def]; grind
   rw [I];exact sD (AL (λe he=>(hl e he).1)) ht
  ·have I:=DU hl e he hu t ht
   have Y:(if d.2.1=u\/d.2.2=u then d.1 else 1)*uv u l*(t / e.1)=(if d.2.1=u\/d.2.2=u then d.1 else 1)*(uv u l*(t / e.1)):=Rat.mul_assoc ..
   rw [Y];refine sD ?_ I
   split
   ·exact (h d (Qu ..)).1
   ·exact ⟨1,rfl⟩
theorem zZ {F:Nat->Nat}{q:Rat} (I:1<=q) {p:Nat}:∀ {n:Nat},(∀ i j,i<n->j<n->F i=F j->i=j)->pr n (λi=>if F i=p then q else 1)<=q
 | 0,_=>I
 | n+1,h=>by
  have ih:=zZ I (p:=p) (n:=n) (λi j hi O e=>h i j (by omega) (by omega) e)
  show pr n (λi=>if F i=p then q else 1)*(if F n=p then q else 1)<=q
  by_cases e:F n=p
  ·rw [Qx e]
   have:pr n (λi=>if F i=p then q else 1)=pr n (λ_=>1):=wD (λi hi=>Qw (λe2=>by
    have:=h i n (by omega) (by omega) (e2.trans e.symm)
    omega))
   rw [this];have J:∀ k,pr k (λ_=>(1:Rat))=1:=λk=>by
    induction k with
    | zero=>rfl
    | succ k ih=>show pr k (λ_=>(1:Rat))*1=1; rw [ih]; grind
   rw [J]; grind
  ·rw [if_neg e]; grind
theorem Fo {n:Nat}{F:Nat->Nat} (J:∀ i j,i<n->j<n->F i=F j->i=j):∀ {l:List (Rat×Nat×Nat)},(∀ e ∈ l,1<=e.1)->pr n (λi=>uv (F i) l)<=vZ l*vZ l
 | [],_=>by
  have Y:∀ k,pr k (λ_=>(1:Rat))=1:=λk=>by
   induction k with
   | zero=>rfl
   | succ k ih=>show pr k (λ_=>(1:Rat))*1=1; rw [ih]; grind
  show pr n (λ_=>(1:Rat))<=1*1;rw [Y,Rat.one_mul]; exact We
 | e::l,h=>by
  have hl:∀ e ∈ l,1<=e.1:=λe he=>h e (Qy _ he);have I:=h e (Qu ..);have ih:=Fo J hl;have e1:pr n (λi=>uv (F i) (e::l))=pr n (λi=>if e.2.1=F i\/e.2.2=F i then e.1 else 1)*pr n (λi=>uv (F i) l):=by rw [<- DP]; rfl
  have e2:pr n (λi=>if e.2.1=F i\/e.2.2=F i then e.1 else 1)<=pr n (λi=>(if F i=e.2.1 then e.1 else 1)*(if F i=e.2.2 then e.1 else 1)):=Ho (λi _=>by split <;> grind) (λi _=>by
   have:=qI I I (by decide) (by decide)
   by_cases a:F i=e.2.1
   ·by_cases b:F i=e.2.2
    ·rw [Qx (.inl a.symm),Qx a,Qx b]
     have:=Rat.mul_le_mul_of_nonneg_left I (show (0:Rat)<=e.1 by grind)
     grind
    ·rw [if_pos (.inl a.symm),if_pos a,if_neg b]; grind
   ·by_cases b:F i=e.2.2
    ·rw [if_pos (.inr b.symm),if_neg a,if_pos b]; grind
    ·rw [if_neg (λh=>h.elim (λh=>a h.symm) (λh=>b h.symm)),if_neg a,if_neg b]; grind)
  rw [DP] at e2;have s1:=zZ (F:=F) I (p:=e.2.1) J;have s2:=zZ (F:=F) I (p:=e.2.2) J;have n1:0<=pr n (λi=>if F i=e.2.1 then e.1 else 1):=mW (λi _=>by split <;> grind)
  have n2:0<=pr n (λi=>if F i=e.2.2 then e.1 else 1):=mW (λi _=>by split <;> grind)
  have Z:=qI s1 s2 n1 n2;have n3:0<=pr n (λi=>if e.2.1=F i\/e.2.2=F i then e.1 else 1):=mW (λi _=>by split <;> grind)
  have n4:0<=pr n (λi=>uv (F i) l):=mW (λi _=>by have:=zB (u:=F i) hl; grind)
  have m2:=qI (Wg e2 Z) ih n3 n4;rw [e1];have O:vZ (e::l)=e.1*vZ l:=rfl;rw [O]
  grind
def yn (t:Rat) (e:Rat×Nat×Nat):Rat×Nat×Nat:=(t / e.1,e.2)
def pD (F:Nat->Nat) (e:Rat×Nat×Nat):Rat×(Nat->Rat):=(e.1,λj=>dl (F j) e.2.1+dl (F j) e.2.2)
theorem xb (i j:Nat):dl i j=0\/dl i j=1:=by
 unfold dl
 split
 ·exact .inr rfl
 ·exact .inl rfl
theorem G_ (F:Nat->Nat) (i c:Nat):∀ {l:List (Rat×Nat×Nat)},(∀ e ∈ l,0<e.1)->-iK (l.map (pD F)) i c<=iK (l.map (nF F)) i c/\iK (l.map (nF F)) i c<=iK (l.map (pD F)) i c
 | [],_=>by
  show -(0:Rat)<=0/\(0:Rat)<=0;constructor <;> decide
 | e::l,h=>by
  obtain ⟨I,J⟩:=G_ F i c (l:=l) (λe he=>h e (List.mem_cons_of_mem _ he));have O:=h e (List.mem_cons_self ..);have e1:iK ((e::l).map (nF F)) i c=e.1*(dl (F i) e.2.1-dl (F i) e.2.2)*(dl (F c) e.2.1-dl (F c) e.2.2)+iK (l.map (nF F)) i c:=rfl;have e2:iK ((e::l).map (pD F)) i c=e.1*(dl (F i) e.2.1+dl (F i) e.2.2)*(dl (F c) e.2.1+dl (F c) e.2.2)+iK (l.map (pD F)) i c:=rfl;rw [e1,e2];rcases xb (F i) e.2.1 with a | a <;> rcases xb (F i) e.2.2 with b | b <;> rcases xb (F c) e.2.1 with u | u <;> rcases xb (F c) e.2.2 with v | v <;> rw [a,b,u,v] <;> constructor <;> grind
theorem xx (F:Nat->Nat) (i c:Nat):∀ {l:List (Rat×Nat×Nat)},(∀ e ∈ l,0<e.1)->0<=iK (l.map (pD F)) i c
 | [],_=>We
 | e::l,h=>by
  have I:=xx F i c (l:=l) (λe he=>h e (List.mem_cons_of_mem _ he));have J:=h e (List.mem_cons_self ..);have e2:iK ((e::l).map (pD F)) i c=e.1*(dl (F i) e.2.1+dl (F i) e.2.2)*(dl (F c) e.2.1+dl (F c) e.2.2)+iK (l.map (pD F)) i c:=rfl;rw [e2];rcases xb (F i) e.2.1 with a | a <;> rcases xb (F i) e.2.2 with b | b <;> rcases xb (F c) e.2.1 with u | u <;> rcases xb (F c) e.2.2 with v | v <;> rw [a,b,u,v] <;> grind
theorem Ha {F:Nat->Nat}{t:Rat} (ht:uC t) {l:List (Rat×Nat×Nat)} (Z:∀ e ∈ l,uC e.1/\1<=e.1) (i c:Nat):∀ {l':List (Rat×Nat×Nat)},(∀ e ∈ l',e ∈ l)->uC (uv (F i) l*iK ((l'.map (yn t)).map (nF F)) i c)
 | [],_=>by
  have:uv (F i) l*iK ((([]:List (Rat×Nat×Nat)).map (yn t)).map (nF F)) i c=0:=by show uv (F i) l*0=0; grind
  rw [this]; exact ⟨0,rfl⟩
 | e::l',h=>by
  have h1:=Ha (F:=F) ht Z i c (l':=l') (λe he=>h e (Qy _ he));have h2:=h e (Qu ..);have e1:iK (((e::l').map (yn t)).map (nF F)) i c=(t / e.1)*(dl (F i) e.2.1-dl (F i) e.2.2)*(dl (F c) e.2.1-dl (F c) e.2.2)+iK ((l'.map (yn t)).map (nF F)) i c:=rfl;have I:∀ p q:Nat,uC (dl p q):=λp q=>by
   rcases xb p q with a | a <;> rw [a]
   ·exact ⟨0,rfl⟩
   ·exact ⟨1,rfl⟩
  have Y:∀ {a b:Rat},uC a->uC b->uC (a-b):=λ{a b} ⟨x,hx⟩ ⟨y,hy⟩=>⟨x-y,by rw [hx,hy,Rat.intCast_sub]⟩
  have e2:uv (F i) l*((t / e.1)*(dl (F i) e.2.1-dl (F i) e.2.2)*(dl (F c) e.2.1-dl (F c) e.2.2)+iK ((l'.map (yn t)).map (nF F)) i c)=(uv (F i) l*(t / e.1))*(dl (F i) e.2.1-dl (F i) e.2.2)*(dl (F c) e.2.1-dl (F c) e.2.2)+uv (F i) l*iK ((l'.map (yn t)).map (nF F)) i c:=by grind
  rw [e1,e2];refine zl ?_ h1
  by_cases O:e.2.1=F i\/e.2.2=F i
  ·exact sD (sD (DU Z e h2 O t ht) (Y (I _ _) (I _ _))) (Y (I _ _) (I _ _))
  ·have a:dl (F i) e.2.1=0:=qv (λJ=>O (.inl J.symm))
   have b:dl (F i) e.2.2=0:=qv (λJ=>O (.inr J.symm));rw [a,b];have:uv (F i) l*(t / e.1)*(0-0)*(dl (F c) e.2.1-dl (F c) e.2.2)=0:=by grind
   rw [this]; exact ⟨0,rfl⟩
def Cg:List (Rat×Nat×Nat)->Rat
 | []=>0
 | e::l=>e.1+Cg l
theorem uK (i j:Nat):0<=dl i j:=by rcases xb i j with h | h <;> rw [h] <;> decide
theorem JL (i j:Nat):dl i j<=1:=by rcases xb i j with h | h <;> rw [h] <;> decide
theorem HB {F:Nat->Nat}{p:Nat}:∀ {n:Nat},(∀ i j,i<n->j<n->F i=F j->i=j)->sm n (λc=>dl (F c) p)<=1
 | 0,_=>by unfold sm; decide
 | n+1,h=>by
  have ih:=HB (F:=F) (p:=p) (n:=n) (λi j hi I e=>h i j (by omega) (by omega) e)
  show sm n (λc=>dl (F c) p)+dl (F n) p<=1
  by_cases e:F n=p
  ·have:sm n (λc=>dl (F c) p)=0:=vG (λi hi=>qv (λe2=>by
    have:=h i n (by omega) (by omega) (e2.trans e.symm)
    omega))
   rw [this];have:=JL (F n) p
   grind
  ·rw [qv e]; grind
theorem GS {n:Nat}{F:Nat->Nat} (I:∀ i j,i<n->j<n->F i=F j->i=j) (i:Nat):∀ {l:List (Rat×Nat×Nat)},(∀ e ∈ l,0<e.1)->sm n (iK (l.map (pD F)) i)<=4*Cg l
 | [],_=>by
  have:sm n (iK (([]:List (Rat×Nat×Nat)).map (pD F)) i)=0:=vG (λ_ _=>rfl);rw [this];show (0:Rat)<=4*0
  grind
 | e::l,h=>by
  have ih:=GS I i (l:=l) (λe he=>h e (Qy _ he));have J:=h e (Qu ..);have e1:sm n (iK ((e::l).map (pD F)) i)=(e.1*(dl (F i) e.2.1+dl (F i) e.2.2))*(sm n (λc=>dl (F c) e.2.1)+sm n (λc=>dl (F c) e.2.2))+sm n (iK (l.map (pD F)) i):=by
   rw [<- w9,<- rK,<- w9]; rfl
  have e2:Cg (e::l)=e.1+Cg l:=rfl;rw [e1,e2];have s1:=HB (F:=F) (p:=e.2.1) I;have s2:=HB (F:=F) (p:=e.2.2) I;have n1:=tE (n:=n) (f:=λc=>dl (F c) e.2.1) (λc _=>uK _ _);have n2:=tE (n:=n) (f:=λc=>dl (F c) e.2.2) (λc _=>uK _ _);have d1:=JL (F i) e.2.1;have d2:=JL (F i) e.2.2;have d3:=uK (F i) e.2.1;have d4:=uK (F i) e.2.2;have O:e.1*(dl (F i) e.2.1+dl (F i) e.2.2)<=e.1*2:=Rat.mul_le_mul_of_nonneg_left (by grind) (Rat.le_of_lt J)
  have Y:0<=e.1*(dl (F i) e.2.1+dl (F i) e.2.2):=Rat.mul_nonneg (Rat.le_of_lt J) (by grind)
  have Z:=qI O (show sm n (λc=>dl (F c) e.2.1)+sm n (λc=>dl (F c) e.2.2)<=2 by grind) Y (by grind)
  grind
theorem LQ {n:Nat}{F:Nat->Nat}{l:List (Rat×Nat×Nat)}{t:Rat} (hF:∀ i j,i<n->j<n->F i=F j->i=j) (ht:uC t) (t0:0<t) (Z:∀ e ∈ l,uC e.1/\1<=e.1):
  I8 n (iK ((l.map (yn t)).map (nF F))) (λi=>uv (F i) l) (λi c=>uv (F i) l*iK ((l.map (yn t)).map (pD F)) i c+dl i c) (λi=>uv (F i) l*(4*Cg (l.map (yn t)))+1):=by
 have hw:∀ e ∈ l.map (yn t),0<e.1:=λe he=>by
  obtain ⟨d,hd,rfl⟩:=List.mem_map.1 he;have O:=(Z d hd).2;show 0<t / d.1;rw [Rat.div_def];exact Rat.mul_pos t0 (Rat.inv_pos.2 (by grind))
 have I:∀ i,1<=uv (F i) l:=λi=>zB (λe he=>(Z e he).2);have J:∀ i c,0<=uv (F i) l*iK ((l.map (yn t)).map (pD F)) i c:=λi c=>Rat.mul_nonneg (by have:=I i; grind) (xx F i c hw)
 refine ⟨λi _=>AL (λe he=>(Z e he).1),λi _=>I i,λi c _ _=>Ha ht Z i c (λe he=>he),λi c=>?_,λi _=>?_,λi c _ _=>?_,λi hi=>?_⟩
 ·have:=J i c
  have:=uK i c
  grind
 ·have:=J i i
  rw [re]; grind
 ·obtain ⟨O,h2⟩:=G_ F i c hw
  have Y:0<=uv (F i) l:=by have:=I i; grind
  have m1:=Rat.mul_le_mul_of_nonneg_left O Y;have m2:=Rat.mul_le_mul_of_nonneg_left h2 Y;have:=uK i c;constructor <;> grind
 ·rw [w9,rK]
  have O:=GS hF i hw;have Y:0<=uv (F i) l:=by have:=I i; grind
  have m1:=Rat.mul_le_mul_of_nonneg_left O Y;have h2:sm n (λc=>dl i c)<=1:=by
   have e:sm n (λc=>dl i c)=sm n (λc=>dl ((λx:Nat=>x) c) i):=pq (λc _=>by
    unfold dl
    by_cases a:i=c
    ·subst a; rfl
    ·rw [Qw a,Qw (λb=>a b.symm)])
   rw [e];exact HB (λi j _ _ e=>e)
  have e2:sm n (λc=>iK ((l.map (yn t)).map (pD F)) i c)=sm n (iK ((l.map (yn t)).map (pD F)) i):=rfl;rw [e2]
  grind
theorem GV {q:Rat}:∀ {l:List (Rat×Nat×Nat)},(∀ e ∈ l,1<=e.1/\e.1<=q)->vZ l<=pr l.length (λ_=>q)
 | [],_=>We
 | e::l,h=>by
  have I:=GV (q:=q) (l:=l) (λe he=>h e (List.mem_cons_of_mem _ he));have J:=h e (List.mem_cons_self ..);have O:=Bc (l:=l) (λe he=>(h e (List.mem_cons_of_mem _ he)).1);have Y:=qI I J.2 (by grind) (by grind)
  have e1:vZ (e::l)=e.1*vZ l:=rfl;have e2:pr (e::l).length (λ_=>q)=pr l.length (λ_=>q)*q:=rfl;rw [e1,e2]; grind
theorem Ov {n:Nat}{F:Nat->Nat}{l:List (Rat×Nat×Nat)}{s w:Rat} (O:∀ i j,i<n->j<n->F i=F j->i=j) (J:∀ e ∈ l,1<=e.1) (Z:0<=s) (hs:s<=w):
  pr n (λi=>uv (F i) l*s+1)<=vZ l*vZ l*pr n (λ_=>w+1):=by
 have I:∀ i,1<=uv (F i) l:=λi=>zB J;have p1:pr n (λi=>uv (F i) l*s+1)<=pr n (λi=>uv (F i) l*(w+1)):=Ho (λi _=>by
  have:=Rat.mul_nonneg (show (0:Rat)<=uv (F i) l by have:=I i; grind) Z
  grind) (λi _=>by
  have:=Rat.mul_le_mul_of_nonneg_left hs (show (0:Rat)<=uv (F i) l by have:=I i; grind)
  have:=I i
  grind)
 rw [DP] at p1;have p2:=Fo O J;have n1:0<=pr n (λi=>uv (F i) l):=mW (λi _=>by have:=I i; grind)
 have Y:0<=pr n (λ_:Nat=>w+1):=mW (λi _=>by grind)
 exact Wg p1 (qI p2 We n1 Y)
def yx (n:Nat):List Nat:=(List.range n).map (·+1)
theorem w8 (n:Nat):(yx n).length=n:=by simp [yx]
theorem DV {n i:Nat} (hi:i<n):(yx n)[i]? = some (i+1):=by simp [yx,hi]
theorem B6 {α:Type}{l:List α}{i:Nat}{a:α} (h:l[i]? = some a):l.set i a=l:=by
 apply Sa;intro j
 by_cases e:i=j
 ·subst e
  rw [QU (Qt.1 h).1,h]
 ·rw [QQ e]
theorem AM {n i:Nat} (hi:i<n):(yx n).set i (i+1)=yx n:=B6 (DV hi)
theorem Fp {n i:Nat} (hi:i<n):((yx n).set ((i:Int)).toNat (i+1)).set ((i:Int)).toNat (i+1)=yx n:=by
 rw [Qr,AM hi,AM hi]
structure uH (rows:List (List LR)) (n w W:Nat) (m:Mt):Prop where
 len:rows.length=n
 row:∀ i,i<n->∃ l,rows[i]? = some l/\l.length=w/\∀ c,c<w->∃ y,l[c]? = some y/\py y/\RL y W/\rv y=m i c
theorem uH.congr {rows:List (List LR)}{n w W:Nat}{m J:Mt} (h:uH rows n w W m) (e:∀ i c,i<n->c<w->m i c=J i c):uH rows n w W J:=by
 refine ⟨h.len,λi hi=>?_⟩;obtain ⟨l,O,Y,Z⟩:=h.row i hi;refine ⟨l,O,Y,λc I=>?_⟩;obtain ⟨y,y1,y2,y3,y4⟩:=Z c I;exact ⟨y,y1,y2,y3,by rw [y4,e i c hi I]⟩
theorem uH.mono {rows:List (List LR)}{n w W I:Nat}{m:Mt} (h:uH rows n w W m) (e:W<=I):uH rows n w I m:=by
 refine ⟨h.len,λi hi=>?_⟩;obtain ⟨l,J,O,Y⟩:=h.row i hi;refine ⟨l,J,O,λc Z=>?_⟩;obtain ⟨y,y1,y2,y3,y4⟩:=Y c Z;exact ⟨y,y1,y2,y3.mono e,y4⟩
theorem uH.set {rows:List (List LR)}{n w W:Nat}{m:Mt} (h:uH rows n w W m) {i c:Nat} (hi:i<n) (hc:c<w) {e:LR} (he:py e) (hW:RL e W):
  uH (rows.set i (((rows[i]?).getD []).set c e)) n w W (λi' I=>if i'=i/\I=c then rv e else m i' I):=by
 refine ⟨by rw [RM]; exact h.len,λi' Y=>?_⟩
 obtain ⟨l,h1,h2,h3⟩:=h.row i' Y
 by_cases e1:i=i'
 ·subst e1
  refine ⟨l.set c e,by rw [h1,QU (by rw [h.len]; exact hi)]; rfl,by rw [RM]; exact h2,λI J=>?_⟩
  by_cases e2:c=I
  ·subst e2
   exact ⟨e,by rw [QU (by omega)],he,hW,by rw [Qx ⟨rfl,rfl⟩]⟩
  ·obtain ⟨y,Z,y2,y3,y4⟩:=h3 I J
   exact ⟨y,by rw [QQ e2]; exact Z,y2,y3,by rw [Qw (λO=>e2 O.2.symm)]; exact y4⟩
 ·refine ⟨l,by rw [QQ e1]; exact h1,h2,λI J=>?_⟩
  obtain ⟨y,Z,y2,y3,y4⟩:=h3 I J;exact ⟨y,Z,y2,y3,by rw [Qw (λO=>e1 O.1.symm)]; exact y4⟩
theorem Hf (rows:List (List LR)) (i:Nat):((([]::rows:List (List LR))[i+1]?).getD [])=(rows[i]?).getD []:=rfl
theorem Nv (rows:List (List LR)) (i:Nat) (l:List LR):([]::rows:List (List LR)).set (i+1) l=[]::rows.set i l:=rfl
theorem uH.KH {rows:List (List LR)}{n w W:Nat}{m:Mt} (h:uH rows n w W m) {i:Nat} (hi:i<n):((([]::rows:List (List LR))[i+1]?).getD []).length=w:=by
 obtain ⟨l,I,J,_⟩:=h.row i hi;rw [Hf,I]; exact J
theorem pR {R:Type}{Q:R->Prop}{n i:Nat} (hi:i<n) {f:Nat->Option R} (h:Gd (f (i+1)) Q):Gd (idx (yx n) (i:Int) f) Q:=
 Gd.ix (by omega) (by rw [Qr]; exact DV hi) h
theorem s8 {R:Type}{Q:R->Prop}{rows:List (List LR)}{n w W:Nat}{m:Mt} (h:uH rows n w W m) {i c:Nat} (hi:i<n) (O:c<w) {f:LR->Option R}
  (Y:∀ y,py y->RL y W->rv y=m i c->Gd (f y) Q):Gd (idx ((([]::rows:List (List LR))[i+1]?).getD []) (c:Int) f) Q:=by
 obtain ⟨l,I,h2,J⟩:=h.row i hi;obtain ⟨y,Z,y2,y3,y4⟩:=J c O;refine Gd.ix (y:=y) (by omega) ?_ (Y y y2 y3 y4)
 rw [Hf,I,Qr]; exact Z
theorem xR {r:LR} (h:py r):decide (c_ r=0)=decide (rv r=0):=by
 unfold c_;rw [Wm,sign_zero h.n,Hz h]
theorem L9 {a b:LR} (J:py a) (O:py b) (h0:rv b≠0) {A B:Nat} (la:RL a A) (lb:RL b B) (hz:A+B<=800000):
  Gd (qx a b) (λr=>py r/\RL r (A+B)/\rv r=rv a / rv b):=by
 have:=la.1; have:=la.2; have:=lb.1; have:=lb.2
 have Y:nv b.N.words≠0:=λe=>h0 ((Hz O).2 e);unfold qx;refine Gd.eM (vR J.n O.d (by omega)) (λx hx=>Gd.eM (vR J.d O.n (by omega)) (λz I=>?_))
 refine Gd.eM (xN hx.1 I.1 (Gi I.2.2 J.nz Y) (by omega) (by omega)) (λr Z=>Gd.ret ⟨Z.1,⟨by omega,by omega⟩,?_⟩)
 rw [Z.2.2.2,hx.2.2,I.2.2];unfold rv;rw [Wa,Rat.inv_divInt,Rat.divInt_mul_divInt]
end Go.Sim
namespace Go.Sim
open Go
open _root_.Go.IntKind (i64 u64 u32 u8)
theorem Fs {a:LI} (h:s5 a):(0<fH a↔0<gL a)/\(fH a<0↔gL a<0):=by
 have J:=wY h.wf h.tp;unfold fH gL
 by_cases I:a.words=[]
 ·have O:nv a.words=0:=J.2 I
  have hm:a.minus=false:=by
   cases hm:a.minus
   ·rfl
   ·exact absurd I (h.sign hm)
  simp [I,hm,nv]
 ·have O:nv a.words≠0:=λe=>I (J.1 e)
  have hl:a.words.length≠0:=λe=>I (QZ e);rw [Qw (by simp; exact I)]
  cases hm:a.minus
  ·simp; omega
  ·simp; omega
theorem CG {a b c d:Int} (I:0<b) (J:0<d):Rat.divInt a b<Rat.divInt c d↔a*d<c*b:=by
 rw [<- Rat.not_le,<- Int.not_le];refine not_congr ?_;have e:=Rat.divInt_sub_divInt a c (d₁:=b) (d₂:=d) (by omega) (by omega)
 have k:=V_ (a:=a*d-c*b) (b:=b*d) (Int.mul_pos I J);rw [<- e] at k;constructor
 ·intro h
  have:0<=Rat.divInt a b-Rat.divInt c d:=by grind
  have:=k.1 this;omega
 ·intro h
  have:0<=Rat.divInt a b-Rat.divInt c d:=k.2 (by omega)
  grind
theorem py.JM {a:LR} (h:py a):0<gL a.D:=by
 rw [qw h.pos];have:=h.nz;omega
theorem DR {a b:LR} (J:py a) (O:py b) {A B:Nat} (la:RL a A) (lb:RL b B) (hz:A+B<=800000):
  Gd (m_ a b) (λr=>(0<r↔rv b<rv a)/\(r<0↔rv a<rv b)):=by
 have:=la.1; have:=la.2; have:=lb.1; have:=lb.2
 unfold m_ rV;refine Gd.eM (vR J.n O.d (by omega)) (λx Y=>Gd.eM (vR O.n J.d (by omega)) (λy Z=>?_))
 refine Gd.eM (P:=λr=>(0<r↔rv b<rv a)/\(r<0↔rv a<rv b)) (Gd.eM (Lz Y.1 Z.1 (by omega) (by omega)) (λz I=>Gd.ret ?_)) (λr hr=>Gd.ret hr)
 have s:=Fs I.1;rw [I.2.2,Y.2.2,Z.2.2] at s;unfold rv;rw [CG O.JM J.JM,CG J.JM O.JM];exact ⟨s.1.trans ⟨λh=>by omega,λh=>by omega⟩,s.2.trans ⟨λh=>by omega,λh=>by omega⟩⟩
theorem CX {a:LR} (h:py a):c_ a<0↔rv a<0:=by
 have k:=V_ (a:=gL a.N) (b:=gL a.D) h.JM;unfold c_ rv;rw [(Fs h.n).2,<- Rat.not_le,k];omega
def NC (q:Rat):Rat:=if q<0 then -q else q
theorem Hu {a:LR} (I:py a) {A:Nat} (la:RL a A) (O:A<=800000):Gd (oI a) (λr=>py r/\RL r A/\rv r=NC (rv a)):=by
 unfold oI NC;refine Gd.ite (λh=>?_) (λh=>?_)
 ·have h:rv a<0:=(CX I).1 (Qv h)
  refine Gd.eM (Hw I la O) (λr J=>Gd.ret ?_);rw [Qx h]; exact J
 ·have h:¬ rv a<0:=λe=>QE h ((CX I).2 e)
  rw [Qw h];exact Gd.ret ⟨I,la,rfl⟩
abbrev Et:=(List Nat×List (List LR))×List Int
theorem yc {j w:Nat} (I:j<=w) (J:w<=1000):i64.wrap ((j:Int)+1)=((j+1:Nat):Int):=by
 rw [bT ⟨by omega,by omega⟩]; omega
theorem Ps {n w W k i:Nat}{l:List Int}{sg:List Nat}{p:Int}{k1 k2:Nat}{Z:List (List LR)->Option Et}{f:LR}{rows:List (List LR)}{m:Mt}{F:Rat}{Q:Et->Prop}
  (hSG:(sg.set ((l.length:Int):Int).toNat k1).set (p:Int).toNat k2=yx n) (hl:l.length=k) (hk:k<n) (hi:i<n) (hw:w<=1000) (hkw:k<=w) (hW:W<=100000) (hik:i≠k)
  (hf:py f) (hfl:RL f W) (fv:rv f=F) (hM:uH rows n w W m) (hb:∀ c,k<=c->c<w->RB (m i c-F*m k c) W)
  (hnx:∀ I,uH I n w W (λi' c=>if i'=i/\k<=c then m i c-F*m k c else m i' c)->Gd (Z ([]::I)) Q):
  Gd (iL (λs n'=>oX l sg p k1 k2 Z i f s.1 s.2 n') fT ((k:Int),[]::rows)) Q:=by
 refine Gd.iL (λs=>∃ (j:Nat) (I:List (List LR)),s=((j:Int),[]::I)/\k<=j/\j<=w/\uH I n w W (λi' c=>if i'=i/\k<=c/\c<j then m i c-F*m k c else m i' c)) (λs=>((w:Int)-s.1).toNat) ?_ fT _
  ⟨k,rows,rfl,QM _,hkw,hM.congr (λi' c _ _=>by rw [Qw (by omega)])⟩ (by simp only [fT]; omega)
 rintro _ nx ⟨j,I,rfl,hkj,hjw,J⟩ O;show Gd (oX l sg p k1 k2 Z i f (j:Int) ([]::I) nx) Q;unfold oX;simp only [hSG];refine pR hi ?_;rw [J.KH hi]
 by_cases hj:j<w
 ·refine Gd.ite (λ_=>?_) (λh=>absurd (Wo.1 h) (by simp; omega))
  rw [hl];refine pR hk (s8 J hk hj (λy hy hyl hyv=>?_));rw [Qw (by omega)] at hyv
  refine Gd.ite (λhs=>?_) (λhs=>?_)
  ·refine pR hi (pR hi (s8 J hi hj (λyi gi gil giv=>pR hk (s8 J hk hj (λyr gr grl grv=>?_)))))
   rw [Qw (by omega)] at giv grv
   refine Gd.eM (zz hf gr hfl grl (by omega)) (λmm Y=>Gd.eM (x_ gi Y.1 gil Y.2.1 (by omega)) (λr hr=>s8 J hi hj (λ_ _ _ _=>?_)))
   have hv:rv r=m i j-F*m k j:=by rw [hr.2.2,Y.2.2,giv,grv,fv]
   have hrl:RL r W:=hr.1.rb (by rw [hv]; exact hb j hkj hj)
   unfold mT;rw [yc hjw hw];have h2:=J.set hi hj hr.1 hrl;refine O _ ⟨j+1,_,rfl,by omega,by omega,h2.congr (λi' c _ _=>?_)⟩ (by simp only; omega)
   by_cases e:i'=i/\c=j
   ·obtain ⟨rfl,rfl⟩:=e
    rw [Qx ⟨rfl,rfl⟩,Qx (by omega),hv]
   ·rw [Qw e]
    by_cases e2:i'=i/\k<=c/\c<j
    ·rw [Qx e2,Qx (by omega)]
    ·rw [Qw e2,Qw (by omega)]
  ·have h0:m k j=0:=by
    have:=xR hy;rw [hyv] at this;have hs2:decide (c_ y=0)=true:=by simpa using hs
    rw [this] at hs2;exact Qv hs2
   unfold mT;rw [yc hjw hw];refine O _ ⟨j+1,I,rfl,by omega,by omega,J.congr (λi' c _ _=>?_)⟩ (by simp only; omega)
   by_cases e:i'=i/\c=j
   ·obtain ⟨rfl,rfl⟩:=e
    rw [if_neg (by omega),if_pos (by omega),h0]; grind
   ·by_cases e2:i'=i/\k<=c/\c<j
    ·rw [Qx e2,Qx (by omega)]
    ·rw [Qw e2,Qw (by omega)]
 ·refine Gd.ite (λh=>absurd (Qv h) (by omega)) (λ_=>?_)
  unfold kN;refine hnx I (J.congr (λi' c _ hc=>?_))
  by_cases e:i'=i/\k<=c
  ·rw [Qx e,Qx (by omega)]
  ·rw [Qw e,Qw (by omega)]
theorem Pr {n w W k:Nat}{l:List Int}{sg:List Nat}{p:Int}{k1 k2:Nat}{K:List (List LR)->Option Et}{rows:List (List LR)}{m:Mt}{Q:Et->Prop}
  (hSG:(sg.set ((l.length:Int):Int).toNat k1).set (p:Int).toNat k2=yx n) (hl:l.length=k) (hk:k<n) (hw:w<=1000) (hkw:k<w) (hW:W<=100000)
  (hM:uH rows n w W m) (hz:∀ c,c<k->m k c=0) (hb:∀ i c,i<n->i≠k->k<=c->c<w->RB (m i c-m i k*m k c) W)
  (hK:∀ I,uH I n w W (λi c=>if i=k then m k c else m i c-m i k*m k c)->Gd (K ([]::I)) Q):
  Gd (kW (λkk s n'=>qR l (k:Int) sg p k1 k2 kk s n') K n 0 ([]::rows)) Q:=by
 refine Gd.kW (λM i s=>i+M=n/\∃ I:List (List LR),s=[]::I/\uH I n w W (λi' c=>if i'<i/\i'≠k then m i' c-m i' k*m k c else m i' c)) ?_ ?_ n 0 _
  ⟨by omega,rows,rfl,hM.congr (λi' c _ _=>by rw [Qw (by omega)])⟩
 ·rintro M i _ nx ⟨hiM,I,rfl,J⟩ Z
  have hi:i<n:=by omega
  unfold qR;simp only [hSG];rw [hl];refine Gd.ite (λh=>?_) (λh=>?_)
  ·have e:i=k:=by have:=Qv h; omega
   subst e;unfold kN;refine Z _ ⟨by omega,I,rfl,J.congr (λi' c _ _=>?_)⟩
   by_cases e:i'<i/\i'≠i
   ·rw [Qx e,Qx (by omega)]
   ·rw [Qw e,Qw (by omega)]
  ·have O:i≠k:=λe=>by rw [e] at h; simp at h
   refine pR hi (s8 J hi hkw (λy hy hyl hyv=>?_));rw [Qw (by omega)] at hyv
   refine Gd.ite (λhs=>?_) (λhs=>?_)
   ·have h0:m i k=0:=by
     have:=xR hy;rw [hyv] at this;rw [this] at hs;exact Qv hs
    unfold kN;refine Z _ ⟨by omega,I,rfl,J.congr (λi' c _ _=>?_)⟩
    by_cases e:i'=i
    ·subst e
     rw [if_neg (by omega),if_pos ⟨by omega,O⟩,h0]; grind
    ·by_cases e2:i'<i/\i'≠k
     ·rw [Qx e2,Qx (by omega)]
     ·rw [Qw e2,Qw (by omega)]
   ·refine pR hi (s8 J hi hkw (λf hf hfl hfv=>?_))
    rw [Qw (by omega)] at hfv
    refine Ps (m:=λi' c=>if i'<i/\i'≠k then m i' c-m i' k*m k c else m i' c) hSG hl hk hi hw (by omega) hW O hf hfl hfv J (λc h1 h2=>?_) (λY hM''=>?_)
    ·rw [Qw (by omega),Qw (by omega)]
     exact hb i c hi O h1 h2
    ·refine Z _ ⟨by omega,Y,rfl,hM''.congr (λi' c _ _=>?_)⟩
     by_cases e:i'=i
     ·subst e
      rw [Qx (show i'<i'+1/\i'≠k from ⟨by omega,O⟩),Qw (show ¬ (i'<i'/\i'≠k) by omega),Qw (show ¬ (k<i'/\k≠k) by omega)]
      by_cases e3:k<=c
      ·rw [Qx ⟨rfl,e3⟩]
      ·rw [if_neg (by omega),hz c (by omega)]; grind
     ·rw [Qw (show ¬ (i'=i/\k<=c) from λhh=>e hh.1)]
      by_cases e2:i'<i/\i'≠k
      ·rw [Qx e2,Qx (by omega)]
      ·rw [Qw e2,Qw (by omega)]
 ·rintro i _ ⟨hi,I,rfl,J⟩
  refine hK I (J.congr (λi' c hi' _=>?_))
  by_cases e:i'=k
  ·subst e; rw [Qw (by omega),Qx rfl]
  ·rw [Qx ⟨by omega,e⟩,Qw e]
def JQ (k:Nat) (m:Mt):Mt:=λi c=>if i=k/\k<=c then m k c / m k k else m i c
theorem Dq {k i:Nat} (h:i≠k) (m:Mt) (c:Nat):JQ k m i c=m i c:=Qw (λI=>h I.1)
theorem F2 {k c:Nat} (h:k<=c) (m:Mt):JQ k m k c=m k c / m k k:=Qx ⟨rfl,h⟩
theorem F3 {k c:Nat} (h:c<k) (m:Mt):JQ k m k c=m k c:=Qw (λI=>by omega)
theorem Pq {n w W k:Nat}{l:List Int}{sg:List Nat}{p:Int}{k1 k2:Nat}{nx:(List Int×Int×List Nat×List (List LR))->Option Et}{d:LR}{rows:List (List LR)}{m:Mt}{Q:Et->Prop}
  (hSG:(sg.set ((l.length:Int):Int).toNat k1).set (p:Int).toNat k2=yx n) (hl:l.length=k) (O:k<n) (hn:n<=1000) (hw:w<=1000) (hkw:k<w) (hW:W<=100000)
  (hd:py d) (hdl:RL d W) (hdv:rv d=m k k) (hd0:m k k≠0) (hM:uH rows n w W m) (hz:∀ c,c<k->m k c=0) (hb:∀ i c,i<n->c<w->RB (uU k m i c) W)
  (hnx:∀ I,uH I n w W (uU k m)->Gd (nx (l++[(k:Int)],((k+1:Nat):Int),yx n,[]::I)) Q):
  Gd (iL (λs n'=>oW l (k:Int) sg nx p k1 k2 d s.1 s.2 n') fT ((k:Int),[]::rows)) Q:=by
 refine Gd.iL (λs=>∃ (j:Nat) (I:List (List LR)),s=((j:Int),[]::I)/\k<=j/\j<=w/\uH I n w W (λi' c=>if i'=k/\k<=c/\c<j then m k c / m k k else m i' c)) (λs=>((w:Int)-s.1).toNat) ?_ fT _
  ⟨k,rows,rfl,QM _,by omega,hM.congr (λi' c _ _=>by rw [Qw (by omega)])⟩ (by simp only [fT]; omega)
 rintro _ nxL ⟨j,I,rfl,hkj,hjw,J⟩ hnext;show Gd (oW l (k:Int) sg nx p k1 k2 d (j:Int) ([]::I) nxL) Q;have hdiv:m k k / m k k=1:=by rw [Wa]; exact Wj _ hd0
 unfold oW;simp only [hSG];rw [hl];refine pR O ?_;rw [J.KH O]
 by_cases hj:j<w
 ·refine Gd.ite (λ_=>?_) (λh=>absurd (Wo.1 h) (by simp; omega))
  refine pR O (pR O (s8 J O hj (λy hy hyl hyv=>?_)));rw [Qw (by omega)] at hyv
  refine Gd.eM (L9 hy hd (by rw [hdv]; exact hd0) hyl hdl (by omega)) (λr hr=>s8 J O hj (λ_ _ _ _=>?_))
  have hv:rv r=m k j / m k k:=by rw [hr.2.2,hyv,hdv]
  have hrl:RL r W:=hr.1.rb (by
   rw [hv];have:=hb k j O hj;unfold uU at this;rw [Qx rfl] at this;exact this)
  rw [yc hjw hw];refine hnext _ ⟨j+1,_,rfl,by omega,by omega,(J.set O hj hr.1 hrl).congr (λi' c _ _=>?_)⟩ (by simp only; omega)
  by_cases e:i'=k/\c=j
  ·obtain ⟨rfl,rfl⟩:=e
   rw [Qx ⟨rfl,rfl⟩,Qx (by omega),hv]
  ·rw [Qw e]
   by_cases e2:i'=k/\k<=c/\c<j
   ·rw [Qx e2,Qx (by omega)]
   ·rw [Qw e2,Qw (by omega)]
 ·refine Gd.ite (λh=>absurd (Qv h) (by omega)) (λ_=>?_)
  rw [w8,Qr];refine Gd.nd (by omega) ?_
  refine Pr (m:=JQ k m) hSG hl O hw hkw hW (J.congr (λi' c _ hc=>?_)) (λc hc=>(F3 hc m).trans (hz c hc)) (λi c hi Z h1 h2=>?_) (λY hM''=>?_)
  ·unfold JQ
   by_cases e:i'=k/\k<=c
   ·rw [Qx e,Qx (by omega)]
   ·rw [Qw e,Qw (by omega)]
  ·rw [Dq Z,Dq Z,F2 h1]
   have:=hb i c hi h2;unfold uU at this;rw [Qw Z] at this;exact this
  ·refine Gd.nd (by rw [show ([(k:Int)]:List Int).length=1 from rfl]; omega) ?_
   unfold oV;rw [yc (show k<=w by omega) hw]
   refine hnx Y (hM''.congr (λi c _ _=>?_));unfold uU
   by_cases e:i=k
   ·subst e
    rw [Qx rfl,Qx rfl]
    by_cases e2:i<=c
    ·rw [F2 e2]
    ·rw [F3 (by omega),hz c (by omega),Rat.div_def]; grind
   ·rw [Qw e,Qw e,Dq e,Dq e]
    by_cases e2:k<=c
    ·rw [F2 e2]
    ·rw [F3 (by omega),hz c (by omega),Rat.div_def]; grind
theorem Iz {n w W k:Nat}{O:Int}{l:List Int}{nx:(List Int×Int×List Nat×List (List LR))->Option Et}{rows:List (List LR)}{m:Mt}{Q:Et->Prop}
  (hl:l.length=k) (I:k<n) (hc:(k:Int)<O) (hn:n<=1000) (hw:w<=1000) (Y:k<w) (hW:W<=100000)
  (Z:m k k≠0) (hM:uH rows n w W m) (hz:∀ c,c<k->m k c=0) (hb:∀ i c,i<n->c<w->RB (uU k m i c) W)
  (hnx:∀ J,uH J n w W (uU k m)->Gd (nx (l++[(k:Int)],((k+1:Nat):Int),yx n,[]::J)) Q):
  Gd (mS O l (k:Int) (yx n) ([]::rows) nx) Q:=by
 unfold mS;rw [hl,w8];refine Gd.ite (λ_=>?_) (λh=>absurd h (by simp; omega))
 refine Gd.iL (λs=>s=(k:Int)) (λ_=>0) ?_ fT _ rfl (by simp only [fT]; omega)
 rintro _ nx2 rfl _;unfold sJ;rw [w8];refine Gd.ite (λ_=>?_) (λh=>absurd (Wo.1 h) (by simp; omega))
 refine pR I (s8 hM I Y (λy hy hyl hyv=>?_));rw [xR hy,hyv];refine Gd.ite (λh=>absurd (Qv h) Z) (λ_=>?_);unfold oY;rw [w8,hl];refine Gd.ite (λh=>absurd (Qv h) (by omega)) (λ_=>?_)
 refine pR I (pR I (pR I ?_));rw [Fp I,Qr,AM I];refine pR I (pR I (s8 hM I Y (λd hd hdl hdv=>?_)));exact Pq (by rw [hl]; exact Fp I) hl I hn hw Y hW hd hdl hdv Z hM hz hb hnx
end Go.Sim
