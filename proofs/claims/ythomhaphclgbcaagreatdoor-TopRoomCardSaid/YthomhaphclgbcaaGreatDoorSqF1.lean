/-
  The proof, part F1.
-/
import Derived.Lib.ItoaNum
import Derived.Lib.ParseIntB
import Derived.KernelRfl
import Derived.Test.YthomhaphclgbcaaGreatDoorSqA2
set_option linter.unusedVariables false
set_option linter.unusedSimpArgs false
set_option linter.unusedSectionVars false
set_option linter.unnecessarySimpa false
namespace Go.Sim
abbrev Ty := @BitVec.ofInt_natCast
abbrev Tz := @BitVec.toNat_ofNat
abbrev TA := @Bool.eq_false_or_eq_true
abbrev TB := @Bool.not_eq_false'
abbrev TC := @Bool.or_eq_false_iff
abbrev TE := @Int.mul_add
abbrev TF := @Int.mul_assoc
abbrev TG := @Int.mul_sub
abbrev TH := @Int.natCast_add
abbrev TJ := @Go.Lib.decDigits_one
abbrev TM := @List.drop_of_length_le
abbrev TN := @List.eq_nil_or_concat
abbrev TS := @List.getLast?_eq_getElem?
abbrev TT := @List.head?_cons
abbrev TU := @List.length_eq_one_iff
abbrev TW := @List.length_nil
abbrev TX := @List.length_pos_iff
abbrev TY := @List.mem_or_eq_of_mem_set
abbrev TZ := @List.mem_replicate
abbrev T3 := @List.take_add_one
abbrev T4 := @Nat.and_two_pow_sub_one_eq_mod
abbrev T5 := @Nat.div_eq_of_lt
abbrev T6 := @Nat.div_lt_iff_lt_mul
abbrev T7 := @Nat.le_div_iff_mul_le
abbrev T8 := @Nat.lt_of_mul_lt_mul_left
abbrev T9 := @Nat.mod_add_div
abbrev T_ := @Nat.mul_add
abbrev Ua := @Nat.mul_assoc
abbrev Ub := @Nat.mul_comm
abbrev Uc := @Nat.mul_le_mul_left
abbrev Ud := @Nat.mul_zero
abbrev Ue := @Nat.pow_add
abbrev Uf := @Nat.pow_le_pow_left
abbrev Ug := @Nat.pow_le_pow_right
abbrev Uh := @Nat.pow_lt_pow_iff_right
abbrev Ui := @Nat.pow_mul
abbrev Uj := @Nat.pow_pos
abbrev Uk := @Nat.pow_succ
abbrev Ul := @Nat.pow_zero
abbrev Up := @Rat.divInt_nonneg_iff_of_pos_right
abbrev Uq := @Rat.div_def
abbrev Us := @Rat.intCast_mul
abbrev Ut := @Rat.intCast_neg
abbrev Uu := @Rat.le_refl
abbrev Uv := @Rat.le_trans
abbrev Uw := @Rat.mul_eq_zero
abbrev Ux := @Rat.mul_inv_cancel
abbrev Uy := @Rat.mul_nonneg
abbrev Uz := @decide_eq_decide
abbrev UA := @decide_eq_false
abbrev UB := @decide_eq_false_iff_not
abbrev UC := @decide_eq_true
end Go.Sim
namespace Go.Sim
open Go
open _root_.Go.IntKind (i64 u64 u32 u8)
abbrev WB:Nat:=4294967296
def nv:List bO->Nat
 | []=>0
 | y::l=>y.n.toNat+WB*nv l
def Wf (l:List bO):Prop:=∀ y ∈ l,0<=y.n/\y.n<4294967296
theorem Wf.nil:Wf []:=λy h=>by cases h
theorem Wf.app {a b:List bO} (I:Wf a) (J:Wf b):Wf (a++b):=λy h=>by
 rcases Pe.1 h with h | h
 ·exact I y h
 ·exact J y h
theorem Wf.one {v:Int} (h:0<=v/\v<4294967296):Wf [⟨v⟩]:=λy I=>by
 rw [PE] at I; subst I; exact h
theorem Wf.take {l:List bO} (h:Wf l) (k:Nat):Wf (l.take k):=λy I=>h y (RF I)
theorem Ct:∀ (a b:List bO),nv (a++b)=nv a+WB ^ a.length*nv b
 | [],b=>by simp [nv]
 | y::a,b=>by
  rw [Q9,nv,Ct a b,nv,Pa,Uk];rw [T_,<- Ua,Ub (WB ^ a.length) WB,Rb]
theorem AP (y:bO):nv [y]=y.n.toNat:=by simp [nv]
theorem tE (a:List bO) (y:bO):nv (a++[y])=nv a+WB ^ a.length*y.n.toNat:=by rw [Ct,AP]
theorem rV:∀ {l:List bO},Wf l->nv l<WB ^ l.length
 | [],_=>by simp [nv]
 | y::l,h=>by
  have I:=rV (l:=l) (λz J=>h z (O9 _ J));have O:=h y (by simp)
  rw [nv,Pa,Uk];have:WB*nv l+WB<=WB ^ l.length*WB:=by
   rw [Ub (WB ^ l.length) WB,<- Nat.mul_succ];exact Uc _ I
  have:y.n.toNat<WB:=by show y.n.toNat<4294967296; omega
  omega
theorem qz {l:List bO}{k:Nat}{y:bO} (h:l[k]? = some y):nv (l.take (k+1))=nv (l.take k)+WB ^ k*y.n.toNat:=by
 have I:=(O3.1 h).1;rw [T3,h];show nv (l.take k++[y])=_;rw [tE,Pr,P6 (by omega)]
theorem IY (n:Nat):nv (List.replicate n (⟨0⟩:bO))=0:=by
 induction n with
 | zero=>rfl
 | succ n ih=>rw [Rl,nv,ih]; rfl
theorem vo {l:List bO}{k:Nat}{v:bO} (h:k<l.length):(l.set k v).take (k+1)=l.take k++[v]:=by
 rw [T3,Pu h,RM (Pn _)]; rfl
theorem wv (n:Int):u32.wrap n=n%4294967296:=by simp [IntKind.wrap,IntKind.bits,IntKind.signed]
theorem CN (n:Int):u64.wrap n=n%18446744073709551616:=by simp [IntKind.wrap,IntKind.bits,IntKind.signed]
theorem fT {n:Int} (h:0<=n/\n<18446744073709551616):u64.wrap n=n:=by rw [CN]; omega
theorem BJ (n:Int):nr .u64 n 32=n / 4294967296:=by
 unfold nr;rw [show (min (32:Int).toNat u64.bits)=32 by decide,Rv _ (by decide)]
 rfl
theorem Jg (n:Int):nr .i64 n 32=n / 4294967296:=by
 unfold nr;rw [show (min (32:Int).toNat i64.bits)=32 by decide,Rv _ (by decide)]
 rfl
abbrev LI:=aB
structure rZ (a:LI):Prop where
 wf:Wf a.words
 top:∀ y,a.words.getLast? = some y->y.n≠0
 sign:a.minus=true->a.words≠[]
def fM (a:LI):Int:=if a.minus=true then -(nv a.words:Int) else (nv a.words:Int)
theorem sK (minus:Bool):∀ (w:List bO),Wf w->w.length<=1000000->Gd (gW minus w) (λr=>rZ r/\r.words.length<=w.length/\nv r.words=nv w/\(r.minus=true↔minus=true/\nv w≠0)):=by
 intro w hw hl;unfold gW;refine Gd.gG (λ(l:List bO)=>Wf l/\l.length<=w.length/\nv l=nv w) (λl=>l.length) ?_ fA w ⟨hw,Pn _,rfl⟩ (by simp only [fA]; omega)
 rintro l nx ⟨Z,h2,Y⟩ hnx;have O:(∀ y,l.getLast? = some y->y.n≠0)->Gd (nI minus l) (λr=>rZ r/\r.words.length<=w.length/\nv r.words=nv w/\(r.minus=true↔minus=true/\nv w≠0)):=λht=>by
  have hz:nv l=0->l=[]:=λI=>by
   rcases TN l with h | ⟨a,y,h⟩
   ·exact h
   ·exfalso
    have h:l=a++[y]:=by simpa using h
    have J:=ht y (by rw [h]; simp)
    have hyw:=Z y (by rw [h]; simp)
    rw [h,tE] at I;have hp:0<WB ^ a.length:=Uj (by decide)
    have:0<WB ^ a.length*y.n.toNat:=Nat.mul_pos hp (by omega)
    omega
  unfold nI;refine Gd.ite (λhm=>Gd.ret ⟨⟨Z,ht,?_⟩,h2,Y,?_⟩) (λhm=>Gd.ret ⟨⟨Z,ht,λh=>by cases h⟩,h2,Y,?_⟩)
  ·intro h e
   have h:decide (0<(l.length:Int))=true:=h;have e:l=[]:=e;rw [e] at h; simp at h
  ·constructor
   ·intro h
    have h:0<(l.length:Int):=O6 h;refine ⟨hm,λI=>?_⟩;rw [<- Y] at I;have:=hz I;rw [this] at h; simp at h
   ·intro h
    show decide (0<(l.length:Int))=true;rw [PK];cases l with
    | nil=>exact absurd (Y.symm.trans rfl) h.2
    | cons a b=>simp
  ·rw [hm]
   constructor
   ·intro h; cases h
   ·intro h; cases h.1
 unfold tc;refine Gd.ite (λh=>?_) (λh=>O (λy J=>?_))
 ·have hpos:0<l.length:=by have:=O6 h; omega
  have hw1:i64.wrap ((l.length:Int)-1)=((l.length-1:Nat):Int):=by rw [bQ ⟨by omega,by omega⟩]; omega
  rw [hw1];refine Gd.gS (by omega) (Gd.ite (λI=>?_) (λI=>O (λy J=>?_)))
  ·have I:(l[l.length-1]).n=0:=O6 I
   refine Gd.nd ⟨by omega,by omega⟩ ?_
   have hs:se l 0 (((l.length-1:Nat):Int).toNat)=l.take (l.length-1):=by simp [se]
   rw [hs];refine hnx _ ⟨Z.take _,by rw [Pr]; omega,?_⟩ (by rw [Pr]; omega)
   have:=qz (l:=l) (k:=l.length-1) (OZ (by omega))
   rw [show l.length-1+1=l.length by omega,QJ,I] at this
   rw [<- Y,this]; simp
  ·have I:(l[l.length-1]).n≠0:=Pc I
   rw [TS,OZ (by omega)] at J
   rw [<- O4 J]; exact I
 ·have h:¬ 0<(l.length:Int):=Pc h
  have:l=[]:=Py (by omega)
  rw [this] at J; cases J
theorem C_ {a b:List bO} (ha:Wf a) (hb:Wf b) (hl:b.length<=a.length) (I:a.length<=1000000):
  Gd (kR a b) (λr=>Wf r/\r.length=a.length+1/\nv r=nv a+nv b):=by
 have w1:i64.wrap ((a.length:Int)+1)=((a.length+1:Nat):Int):=by rw [bQ ⟨by omega,by omega⟩]; omega
 unfold kR;rw [w1];refine Gd.nd ⟨by omega,by omega⟩ ?_
 refine Gd.jQ (λm k (z:List bO×Int)=>k+m=a.length/\z.1.length=a.length+1/\Wf z.1/\0<=z.2/\z.2<=1/\nv (z.1.take k)+WB ^ k*z.2.toNat=nv (a.take k)+nv (b.take k)) ?_ ?_ _ 0 _ ⟨by simp,by simp,λy Y=>?_,Ro _,by show (0:Int)<=1; omega,by simp [nv]⟩
 ·rintro m k ⟨l,c⟩ nx ⟨h0,h1,h2,h3,h4,h5⟩ hnx
  simp only at h1 h2 h3 h4 h5 hnx ⊢;have hka:k<a.length:=by omega
  have J:((k:Int)).toNat=k:=by omega
  obtain ⟨y,Y⟩:∃ y,a[k]? = some y:=⟨_,OZ hka⟩;have hyw:=ha y (Pb Y);have Z:∀ (n:Int) (x:Nat),n=c+y.n+x->x<WB->nv (b.take (k+1))=nv (b.take k)+WB ^ k*x->Gd (kQ l nx k n) _:=λn x hn O hb1=>by
   unfold kQ;rw [BJ,J,wv];have O:x<4294967296:=O;refine Gd.gS (by omega) (hnx _ ⟨by omega,by simp [h1],?_,by simp only; omega,by simp only; omega,?_⟩)
   ·intro z I
    rcases TY I with I | I
    ·exact h2 z I
    ·rw [I]; simp only; omega
   ·simp only
    rw [vo (by omega),tE,Pr,P6 (by omega),qz Y,hb1]
    simp only;have e1:(n%4294967296).toNat+WB*(n / 4294967296).toNat=c.toNat+y.n.toNat+x:=by
     show (n%4294967296).toNat+4294967296*(n / 4294967296).toNat=_;omega
    have e2:WB ^ k*(n%4294967296).toNat+WB ^ (k+1)*(n / 4294967296).toNat=WB ^ k*c.toNat+WB ^ k*y.n.toNat+WB ^ k*x:=by
     rw [Uk,Ua,<- T_,e1,T_,T_]
    omega
  unfold qE;refine Gd.ix (by omega) (by rw [J]; exact Y) (Gd.ite (λh=>?_) (λh=>?_))
  ·have hkb:k<b.length:=by have:=O6 h; omega
   obtain ⟨x,O⟩:∃ x,b[k]? = some x:=⟨_,OZ hkb⟩;have hxw:=hb x (Pb O);refine Gd.ix (by omega) (by rw [J]; exact O) (Z _ x.n.toNat ?_ (by show x.n.toNat<4294967296; omega) (qz O))
   rw [fT (n:=y.n) (by omega),fT (n:=c+y.n) (by omega),fT (n:=x.n) (by omega),fT (by omega)]
   omega
  ·have hkb:b.length<=k:=by have:=Pc h; omega
   refine Z _ 0 ?_ (by decide) ?_
   ·rw [fT (n:=y.n) (by omega),fT (by omega)]; simp
   ·rw [Pg (by omega),Pg (by omega)]; simp
 ·rintro k ⟨l,c⟩ ⟨h0,h1,h2,h3,h4,h5⟩
  simp only at h1 h2 h3 h4 h5 ⊢;have hk:k=a.length:=by omega
  subst hk;have hln:((a.length:Int)).toNat=a.length:=by omega
  rw [hln,wv];refine Gd.gS (by omega) (Gd.ret ⟨?_,by simp [h1],?_⟩)
  ·intro z I
   rcases TY I with I | I
   ·exact h2 z I
   ·rw [I]; simp only; omega
  ·have e:=vo (l:=l) (k:=a.length) (v:=⟨c%4294967296⟩) (by omega)
   rw [Pg (by simp; omega)] at e
   rw [e,tE,Pr,P6 (by omega)]
   simp only;rw [QJ,Pg hl] at h5;rw [show (c%4294967296).toNat=c.toNat by omega]
   exact h5
 ·rw [TZ] at Y
  rw [Y.2]; simp
theorem LF {a b:List bO} (Y:Wf a) (Z:Wf b) (J:a.length<=1000000) (O:b.length<=1000000):
  Gd (oB a b) (λr=>Wf r/\r.length=max a.length b.length+1/\nv r=nv a+nv b):=by
 unfold oB;refine Gd.ite (λh=>(C_ Z Y (by have:=O6 h; omega) O).mono ?_) (λh=>(C_ Y Z (by have:=Pc h; omega) J).mono ?_)
 ·rintro r ⟨I,h2,h3⟩
  have:=O6 h;exact ⟨I,by omega,by omega⟩
 ·rintro r ⟨I,h2,h3⟩
  have:=Pc h;exact ⟨I,by omega,by omega⟩
def uJ (l:List bO):Prop:=∀ y,l.getLast? = some y->y.n≠0
theorem DJ {l:List bO} (J:Wf l) (ht:uJ l) (I:l≠[]):WB ^ (l.length-1)<=nv l:=by
 rcases TN l with h | ⟨a,y,h⟩
 ·exact absurd h I
 ·have h:l=a++[y]:=by simpa using h
  have Y:=ht y (by rw [h]; simp)
  have O:=J y (by rw [h]; simp)
  rw [h,tE,Pj,P2,Nat.add_sub_cancel];have:WB ^ a.length*1<=WB ^ a.length*y.n.toNat:=Uc _ (by omega)
  omega
theorem ui {a b:List bO} (J:Wf a) (O:Wf b) (I:uJ b) (h:a.length<b.length):nv a<nv b:=by
 have Y:=rV J;have Z:=DJ O I (by intro e; rw [e] at h; simp at h)
 have h3:WB ^ a.length<=WB ^ (b.length-1):=Ug (by decide) (by omega)
 omega
theorem IV {a b:List bO} (J:Wf a) (O:Wf b):a.length=b.length->nv a=nv b->a=b:=by
 induction a generalizing b with
 | nil=>intro h _; exact (Py h.symm).symm
 | cons x a ih=>
  intro h e;cases b with
  | nil=>simp at h
  | cons y b=>
   have Y:=J x (by simp); have Z:=O y (by simp)
   rw [nv,nv] at e;have e1:x.n.toNat=y.n.toNat:=by
    have:=P4 (·%WB) e;simp only [Nat.add_mul_mod_self_left] at this;rw [QL (by show x.n.toNat<4294967296; omega),QL (by show y.n.toNat<4294967296; omega)] at this
    exact this
   have e2:nv a=nv b:=by
    rw [e1] at e;exact Nat.eq_of_mul_eq_mul_left (by decide) (Nat.add_left_cancel e)
   have:=ih (λz I=>J z (O9 _ I)) (λz I=>O z (O9 _ I)) (by simpa using h) e2
   cases x; cases y
   simp only at e1 Y Z;rw [this]
   congr 2; omega
theorem qq {l:List bO}{k:Nat}{x:bO} (h:l[k]? = some x):l.drop k=x::l.drop (k+1):=by
 obtain ⟨I,J⟩:=O3.1 h;rw [Pz I,J]
theorem vh {l:List bO}{k:Nat}{x:bO} (h:l[k]? = some x):nv l=nv (l.take k)+WB ^ k*(x.n.toNat+WB*nv (l.drop (k+1))):=by
 have I:=(O3.1 h).1;have e:nv l=nv (l.take k++l.drop k):=by rw [Qn]
 rw [e,Ct,qq h,Pr,P6 (by omega)]
 rfl
def NH (r:Int) (x y:Nat):Prop:=(r<0↔x<y)/\(r=0↔x=y)
theorem HW {a b : List bO} (ha : Wf a) (hb : Wf b) (hta : uJ a) (htb : uJ b) (hza : a.length ≤ 1000000) (hzb : b.length ≤ 1000000) : Gd (mP a b) (fun r => NH r (nv a) (nv b)) := by
  unfold mP;refine Gd.ite (fun h => Gd.ret ?_) (fun h => ?_)
  · have h : ¬ (a.length : Int) = b.length := by simpa using h
    rw [bQ ⟨by omega, by omega⟩]
    rcases Nat.lt_or_gt_of_ne (show a.length ≠ b.length by omega) with hl | hl
    · have := ui ha hb htb hl
      exact ⟨⟨fun _ => this, fun _ => by omega⟩, ⟨fun h => by omega, fun h => by omega⟩⟩
    · have := ui hb ha hta hl
      exact ⟨⟨fun h => by omega, fun h => by omega⟩, ⟨fun h => by omega, fun h => by omega⟩⟩
  · have hl : a.length = b.length := by have : (a.length : Int) = b.length := by simpa using h
                                        omega
    rw [bQ ⟨by omega, by omega⟩]
    refine Gd.gG (fun (i : Int) => -1 ≤ i ∧ i < a.length ∧ a.drop (i + 1).toNat = b.drop (i + 1).toNat) (fun i => (i + 1).toNat) ?_ fA _ ⟨by omega, by omega, ?_⟩ (by simp only [fA]; omega)
    · rintro i nx ⟨h1, h2, Y⟩ hnx
      unfold qF;refine Gd.ite (fun hi => ?_) (fun hi => Gd.ret ?_)
      · have hi : 0 ≤ i := O6 hi
        obtain ⟨k, rfl⟩ : ∃ k : Nat, i = k := ⟨i.toNat, by omega⟩
        obtain ⟨x, hx⟩ : ∃ x, a[k]? = some x := ⟨_, OZ (by omega)⟩
        obtain ⟨y, hy⟩ : ∃ y, b[k]? = some y := ⟨_, OZ (by omega)⟩
        have hxw := ha x (Pb hx); have hyw := hb y (Pb hy)
        have O : ((k : Int)).toNat = k := by omega
        rw [show ((k : Int) + 1).toNat = k + 1 by omega] at Y
        have sa := vh hx;have sb := vh hy;rw [← Y] at sb;have la := rV (ha.take k); have lb := rV (hb.take k)
        rw [Pr, P6 (by omega)] at la lb
        generalize nv (a.drop (k + 1)) = T at sa sb;generalize nv (a.take k) = ta at sa la;generalize nv (b.take k) = tb at sb lb;generalize WB ^ k = P at sa sb la lb;have I : ∀ (u v tu tv : Nat), u < v → tu < P → tu + P * (u + WB * T) < tv + P * (v + WB * T) := fun u v tu tv huv hu => by
          have : P * (u + 1) ≤ P * v := Uc _ huv;rw [T_] at this;rw [T_, T_];omega
        refine Gd.ix (by omega) (by rw [O]; exact hx) (Gd.ix (by omega) (by rw [O]; exact hy) (Gd.ite (fun Z => ?_) (fun he => ?_)))
        · have Z : ¬ x.n = y.n := by simpa using Z
          refine Gd.ix (by omega) (by rw [O]; exact hx) (Gd.ix (by omega) (by rw [O]; exact hy) (Gd.ite (fun J => Gd.ret ?_) (fun J => Gd.ret ?_)))
          · have J : x.n < y.n := O6 J
            have := I x.n.toNat y.n.toNat ta tb (by omega) la
            rw [← sa, ← sb] at this;exact ⟨⟨fun _ => this, fun _ => by omega⟩, ⟨fun h => by omega, fun h => by omega⟩⟩
          · have J : ¬ x.n < y.n := Pc J
            have := I y.n.toNat x.n.toNat tb ta (by omega) lb
            rw [← sa, ← sb] at this;exact ⟨⟨fun h => by omega, fun h => by omega⟩, ⟨fun h => by omega, fun h => by omega⟩⟩
        · have he : x.n = y.n := by simpa using he
          rw [bQ ⟨by omega, by omega⟩]
          refine hnx _ ⟨by omega, by omega, ?_⟩ (by omega)
          rw [show ((k : Int) - 1 + 1).toNat = k by omega, qq hx, qq hy, Y]
          have : x = y := by cases x; cases y; simp only at he; rw [he]
          rw [this]
      · have hi : ¬ 0 ≤ i := Pc hi
        have : (i + 1).toNat = 0 := by omega
        rw [this, Qi, Qi] at Y;rw [Y];exact ⟨⟨fun h => by omega, fun h => by omega⟩, ⟨fun _ => rfl, fun _ => rfl⟩⟩
    · rw [show ((a.length : Int) - 1 + 1).toNat = a.length by omega, RN, TM (by omega)]
theorem Jo {a b:List bO} (ha:Wf a) (hb:Wf b) (hle:nv b<=nv a) (hl:b.length<=a.length) (hz:a.length<=1000000):
  Gd (mS a b) (λr=>Wf r/\r.length=a.length/\nv r=nv a-nv b):=by
 unfold mS;refine Gd.nd ⟨by omega,by omega⟩ ?_
 refine Gd.jQ (λm k (z:List bO×Int)=>k+m=a.length/\z.1.length=a.length/\Wf z.1/\-1<=z.2/\z.2<=0/\(nv (z.1.take k):Int)+(WB ^ k:Nat)*z.2=nv (a.take k)-nv (b.take k)) ?_ ?_ _ 0 _ ⟨by simp,by simp,λy hy=>?_,by show (-1:Int)<=0; omega,Ro _,by simp [nv]⟩
 ·rintro m k ⟨l,c⟩ nx ⟨h0,J,O,h3,h4,Y⟩ hnx
  simp only at J O h3 h4 Y hnx ⊢;have hka:k<a.length:=by omega
  have I:((k:Int)).toNat=k:=by omega
  obtain ⟨y,hy⟩:∃ y,a[k]? = some y:=⟨_,OZ hka⟩;have hyw:=ha y (Pb hy);have fin:∀ (n:Int) (x:Nat),n=c+y.n-x->x<WB->nv (b.take (k+1))=nv (b.take k)+WB ^ k*x->Gd (kT l nx k n) _:=λn x hn Z hb1=>by
   unfold kT;rw [Jg,I,wv];have Z:x<4294967296:=Z;refine Gd.gS (by omega) (hnx _ ⟨by omega,by simp [J],?_,by simp only; omega,by simp only; omega,?_⟩)
   ·intro z hz
    rcases TY hz with hz | hz
    ·exact O z hz
    ·rw [hz]; simp only; omega
   ·simp only
    rw [vo (by omega),tE,Pr,P6 (by omega),qz hy,hb1]
    simp only;have e1:((n%4294967296).toNat:Int)+4294967296*(n / 4294967296)=c+y.n.toNat-x:=by omega
    have e2:((WB ^ k:Nat):Int)*((n%4294967296).toNat:Int)+((WB ^ (k+1):Nat):Int)*(n / 4294967296)=((WB ^ k:Nat):Int)*c+((WB ^ k:Nat):Int)*(y.n.toNat:Int)-((WB ^ k:Nat):Int)*(x:Int):=by
     rw [Uk,PT,TF,<- TE,show ((WB:Nat):Int)=4294967296 from rfl,e1,TG,TE]
    simp only [TH,PT] at *
    omega
  unfold qH;refine Gd.ix (by omega) (by rw [I]; exact hy) (Gd.ite (λh=>?_) (λh=>?_))
  ·have hkb:k<b.length:=by have:=O6 h; omega
   obtain ⟨x,Z⟩:∃ x,b[k]? = some x:=⟨_,OZ hkb⟩;have hxw:=hb x (Pb Z);refine Gd.ix (by omega) (by rw [I]; exact Z) (fin _ x.n.toNat ?_ (by show x.n.toNat<4294967296; omega) (qz Z))
   rw [bQ (n:=y.n) (by omega),bQ (n:=c+y.n) (by omega),bQ (n:=x.n) (by omega),bQ (by omega)]
   omega
  ·have hkb:b.length<=k:=by have:=Pc h; omega
   refine fin _ 0 ?_ (by decide) ?_
   ·rw [bQ (n:=y.n) (by omega),bQ (by omega)]; simp
   ·rw [Pg (by omega),Pg (by omega)]; simp
 ·rintro k ⟨l,c⟩ ⟨h0,J,O,h3,h4,Y⟩
  simp only at J O h3 h4 Y ⊢;have hk:k=a.length:=by omega
  subst hk;rw [QJ,Pg hl,Pg (by omega)] at Y
  have hlt:=rV O;rw [J] at hlt;have hc:c=0:=by
   rcases (show c = -1\/c=0 by omega) with h | h
   ·exfalso; rw [h] at Y; omega
   ·exact h
  rw [hc] at Y;exact Gd.ret ⟨O,J,by omega⟩
 ·rw [TZ] at hy
  rw [hy.2]; simp
theorem rZ.tp {a:LI} (h:rZ a):uJ a.words:=h.top
theorem xc {r:LI}{m:Bool}{n:Nat} (O:nv r.words=n) (J:r.minus=true↔m=true/\n≠0):fM r=if m=true then -(n:Int) else n:=by
 unfold fM;rw [O]
 by_cases I:r.minus=true
 ·rw [O8 I,O8 (J.1 I).1]
 ·rw [O7 I]
  by_cases hm:m=true
  ·have:n=0:=by
    by_cases hn:n=0
    ·exact hn
    ·exact absurd (J.2 ⟨hm,hn⟩) I
   rw [O8 hm,this]; rfl
  ·rw [O7 hm]
theorem Cr {a:LI} (h:rZ a) (J:a.words.length<=1000000):Gd (kX a) (λr=>rZ r/\r.words.length<=a.words.length/\fM r = -fM a):=by
 unfold kX;refine Gd.eE (sK (!a.minus) a.words h.wf J) (λr I=>Gd.ret ⟨I.1,I.2.1,?_⟩);rw [xc I.2.2.1 I.2.2.2];unfold fM;cases a.minus <;> simp
theorem Ch {a b:LI} (O:rZ a) (Y:rZ b) (hza:a.words.length<=900000) (hzb:b.words.length<=900000):
  Gd (kW a b) (λr=>rZ r/\r.words.length<=max a.words.length b.words.length+1/\fM r=fM a+fM b):=by
 unfold kW;refine Gd.ite (λh=>?_) (λh=>?_)
 ·have h:a.minus=b.minus:=O6 h
  refine Gd.eE (LF O.wf Y.wf (by omega) (by omega)) (λw Z=>Gd.eE (sK a.minus w Z.1 (by omega)) (λr J=>Gd.ret ⟨J.1,by omega,?_⟩))
  rw [xc J.2.2.1 J.2.2.2,Z.2.2];unfold fM;rw [<- h];cases a.minus <;> simp <;> omega
 ·have h:a.minus≠b.minus:=Pc h
  refine Gd.eE (HW O.wf Y.wf O.tp Y.tp (by omega) (by omega)) (λc hc=>Gd.ite (λh0=>?_) (λh0=>?_))
  ·have h0:0<=c:=O6 h0
   have hle:nv b.words<=nv a.words:=by
    have:=hc.1; omega
   have I:b.words.length<=a.words.length:=by
    rcases QS a.words.length b.words.length with hlt | hge
    ·have:=ui O.wf Y.wf Y.tp hlt; omega
    ·exact hge
   refine Gd.eE (Jo O.wf Y.wf hle I (by omega)) (λw Z=>Gd.eE (sK a.minus w Z.1 (by omega)) (λr J=>Gd.ret ⟨J.1,by omega,?_⟩))
   rw [xc J.2.2.1 J.2.2.2,Z.2.2];unfold fM;cases ea:a.minus <;> cases eb:b.minus <;> first | (rw [ea,eb] at h; exact absurd rfl h) | (simp; omega)
  ·have h0:¬ 0<=c:=Pc h0
   have hlt:nv a.words<nv b.words:=hc.1.1 (by omega)
   have I:a.words.length<=b.words.length:=by
    rcases QS b.words.length a.words.length with hl | hge
    ·have:=ui Y.wf O.wf O.tp hl; omega
    ·exact hge
   refine Gd.eE (Jo Y.wf O.wf (by omega) I (by omega)) (λw Z=>Gd.eE (sK b.minus w Z.1 (by omega)) (λr J=>Gd.ret ⟨J.1,by omega,?_⟩))
   rw [xc J.2.2.1 J.2.2.2,Z.2.2];unfold fM;cases ea:a.minus <;> cases eb:b.minus <;> first | (rw [ea,eb] at h; exact absurd rfl h) | (simp; omega)
theorem J6 {a b:LI} (Y:rZ a) (Z:rZ b) (I:a.words.length<=900000) (hzb:b.words.length<=900000):
  Gd (nF a b) (λr=>rZ r/\r.words.length<=max a.words.length b.words.length+1/\fM r=fM a-fM b):=by
 unfold nF;refine Gd.eE (Cr Z (by omega)) (λc J=>Gd.eE (Ch Y J.1 I (by omega)) (λr O=>Gd.ret ⟨O.1,by omega,by rw [O.2.2,J.2.2]; omega⟩))
theorem AQ {l:List bO}{k:Nat}{x v:bO} (h:l[k]? = some x):nv (l.set k v)+WB ^ k*x.n.toNat=nv l+WB ^ k*v.n.toNat:=by
 have O:=(O3.1 h).1;have I:=vh h;have J:nv (l.set k v)=nv (l.take k)+WB ^ k*(v.n.toNat+WB*nv (l.drop (k+1))):=by
  have:=vh (l:=l.set k v) (k:=k) (x:=v) (Pu O);rw [RM (Pn _),Rk (by omega)] at this
  exact this
 rw [T_] at I J;omega
theorem Wf.set {l:List bO} (h:Wf l) {k:Nat}{v:Int} (J:0<=v/\v<4294967296):Wf (l.set k ⟨v⟩):=λz I=>by
 rcases TY I with I | I
 ·exact h z I
 ·rw [I]; exact J
theorem IQ {nz I J P W c uj x y s B T:Nat} (Y:I+P*uj=nz+P*(s%W)) (hs:s=c+uj+x*y) (Z:nz+P*c=J+x*T*B):I+P*W*(s / W)=J+x*T*B+P*x*y:=by
 have O:s%W+W*(s / W)=s:=T9 s W;have e:P*(s%W)+P*(W*(s / W))=P*s:=by rw [<- T_,O]
 have e2:P*s=P*c+P*uj+P*(x*y):=by rw [hs,T_,T_]
 rw [Ua P W,Ua P x];omega
theorem uR {a b:LI} (ha:rZ a) (hb:rZ b) (hz:a.words.length+b.words.length<=900000):
  Gd (eQ a b) (λr=>rZ r/\r.words.length<=a.words.length+b.words.length/\fM r=fM a*fM b):=by
 have wN:i64.wrap ((a.words.length:Int)+(b.words.length:Int))=((a.words.length+b.words.length:Nat):Int):=by rw [bQ ⟨by omega,by omega⟩]; omega
 unfold eQ;rw [wN];refine Gd.nd ⟨by omega,by omega⟩ ?_
 refine Gd.dR (λi ys (z:List bO)=>ys=a.words.drop i/\i<=a.words.length/\z.length=a.words.length+b.words.length/\Wf z/\nv z=nv (a.words.take i)*nv b.words/\∀ q,i+b.words.length<=q->∀ y,z[q]? = some y->y.n=0) ?_ ?_ _ 0 _ ⟨by simp,by omega,by simp; omega,λy J=>?_,by rw [IY]; simp [nv],λq _ y J=>?_⟩
 ·rintro i x ys z0 nx ⟨e0,e1,e2,e3,e4,e5⟩ hnx
  have hi:i<a.words.length:=by
   have:=P4 List.length e0;simp at this; omega
  have hx:a.words[i]? = some x:=by
   have:=P4 (·[0]?) e0;simpa [PJ] using this.symm
  have hys:ys=a.words.drop (i+1):=by
   have:=P4 (List.drop 1) e0;simpa using this
  have hxw:=ha.wf x (Pb hx);unfold ra;refine Gd.dR (λk bs (z:List bO×Int)=>bs=b.words.drop k/\k<=b.words.length/\z.1.length=a.words.length+b.words.length/\Wf z.1/\0<=z.2/\z.2<4294967296/\nv z.1+WB ^ (i+k)*z.2.toNat=nv z0+x.n.toNat*nv (b.words.take k)*WB ^ i/\∀ q,i+k<=q->z.1[q]? = z0[q]?) ?_ ?_ _ 0 _ ⟨by simp,by omega,e2,e3,Ro _,by show (0:Int)<4294967296; omega,by simp [nv],λq _=>rfl⟩
  ·rintro k y bs ⟨l,c⟩ nx2 ⟨f0,f1,f2,f3,f4,f5,f6,f7⟩ O
   simp only at f2 f3 f4 f5 f6 f7 O ⊢;have hk:k<b.words.length:=by
    have:=P4 List.length f0;simp at this; omega
   have J:b.words[k]? = some y:=by
    have:=P4 (·[0]?) f0;simpa [PJ] using this.symm
   have hbs:bs=b.words.drop (k+1):=by
    have:=P4 (List.drop 1) f0;simpa using this
   have Z:=hb.wf y (Pb J);obtain ⟨o,Y⟩:∃ o,l[i+k]? = some o:=⟨_,OZ (by omega)⟩
   have how:=f3 o (Pb Y);have wj:i64.wrap ((i:Int)+(k:Int))=((i+k:Nat):Int):=by rw [bQ ⟨by omega,by omega⟩]; omega
   have I:(((i+k:Nat):Int)).toNat=i+k:=by omega
   have hxy0:0<=x.n*y.n:=Int.mul_nonneg hxw.1 Z.1;have hxy:x.n*y.n<=4294967295*4294967295:=Int.mul_le_mul (by omega) (by omega) Z.1 (by omega)
   have hs:u64.wrap (c+(u64.wrap ((u64.wrap (o.n))+(u64.wrap ((u64.wrap (x.n))*(u64.wrap (y.n)))))))=c+o.n+x.n*y.n:=by
    rw [fT (n:=o.n) (by omega),fT (n:=x.n) (by omega),fT (n:=y.n) (by omega),fT (n:=x.n*y.n) (by omega),fT (n:=o.n+x.n*y.n) (by omega),fT (by omega)]
    omega
   unfold re;rw [wj];refine Gd.ix (by omega) (by rw [I]; exact Y) (Gd.ix (by omega) (by rw [I]; exact Y) ?_)
   rw [hs,I,BJ,wv];have hxyn:x.n*y.n=((x.n.toNat*y.n.toNat:Nat):Int):=by
    rw [PT,R9 hxw.1,R9 Z.1]
   have hsn:c+o.n+x.n*y.n=((c.toNat+o.n.toNat+x.n.toNat*y.n.toNat:Nat):Int):=by rw [hxyn]; omega
   refine O _ ⟨hbs,by omega,by simp [f2],f3.set (by omega),by simp only; omega,by simp only; omega,?_,λq hq=>?_⟩
   ·simp only
    have g:=AQ (l:=l) (k:=i+k) (x:=o) (v:=⟨(c+o.n+x.n*y.n)%4294967296⟩) Y;simp only at g;have g1:((c+o.n+x.n*y.n)%4294967296).toNat=(c.toNat+o.n.toNat+x.n.toNat*y.n.toNat)%WB:=by rw [hsn]; show _=_%4294967296; omega
    have g2:((c+o.n+x.n*y.n) / 4294967296).toNat=(c.toNat+o.n.toNat+x.n.toNat*y.n.toNat) / WB:=by rw [hsn]; show _=_ / 4294967296; omega
    rw [g1] at g;have:=IQ g rfl f6;rw [g2,show i+(k+1)=(i+k)+1 by omega,Uk,this,qz J,Ue]
    rw [T_,Pm,Rb]
    congr 2
    rw [Ub (WB ^ i) (WB ^ k),Ub (WB ^ k*WB ^ i) x.n.toNat,Ua,Ua,Ua,Ua,Ub y.n.toNat,Ub (WB ^ i) y.n.toNat]
   ·simp only
    rw [Pq (by omega)]
    exact f7 q (by omega)
  ·rintro k ⟨l,c⟩ ⟨f0,f1,f2,f3,f4,f5,f6,f7⟩
   simp only at f2 f3 f4 f5 f6 f7 ⊢;have hk:k=b.words.length:=by
    have:=P4 List.length f0;simp at this; omega
   subst hk;have wj:i64.wrap ((i:Int)+(b.words.length:Int))=((i+b.words.length:Nat):Int):=by rw [bQ ⟨by omega,by omega⟩]; omega
   have I:(((i+b.words.length:Nat):Int)).toNat=i+b.words.length:=by omega
   obtain ⟨o,Y⟩:∃ o,l[i+b.words.length]? = some o:=⟨_,OZ (by omega)⟩
   have ho0:o.n=0:=e5 _ (Pn _) o (by rw [<- f7 _ (Pn _)]; exact Y)
   rw [wj];refine Gd.ix (by omega) (by rw [I]; exact Y) ?_
   rw [I,wv,show c%4294967296=c by omega]
   refine hnx _ ⟨hys,by omega,by simp [f2],f3.set (by omega),?_,λq hq y J=>?_⟩
   ·have g:=AQ (l:=l) (k:=i+b.words.length) (x:=o) (v:=⟨c⟩) Y
    simp only [ho0] at g;rw [QJ] at f6;rw [qz hx,Pm,<- e4];have e:WB ^ i*x.n.toNat*nv b.words=x.n.toNat*nv b.words*WB ^ i:=by rw [Ub (WB ^ i),Ua,Ub (WB ^ i),<- Ua]
    rw [e];simp at g;omega
   ·rw [Pq (by omega),f7 _ (by omega)] at J
    exact e5 _ (by omega) y J
 ·rintro i z ⟨e0,e1,e2,e3,e4,e5⟩
  have hi:i=a.words.length:=by
   have:=P4 List.length e0;simp at this; omega
  subst hi;rw [QJ] at e4;refine Gd.eE (sK _ z e3 (by omega)) (λr hr=>Gd.ret ⟨hr.1,by omega,?_⟩)
  rw [xc hr.2.2.1 hr.2.2.2,e4];unfold fM;cases a.minus <;> cases b.minus <;> simp [Int.mul_neg,Int.neg_mul]
 ·rw [TZ] at J
  rw [J.2]; simp
 ·have:=Pb J
  rw [TZ] at this;rw [this.2]
theorem yw {r y:Int} (I:0<=r/\r<4294967296) (J:0<=y/\y<4294967296):
  u64.wrap ((BitVec.ofInt (u64).bits (rB .u64 r 32) ||| BitVec.ofInt (u64).bits (u64.wrap y)).toNat)=r*4294967296+y:=by
 obtain ⟨n,rfl⟩:∃ n:Nat,r=n:=⟨r.toNat,by omega⟩
 obtain ⟨m,rfl⟩:∃ m:Nat,y=m:=⟨y.toNat,by omega⟩
 have e1:rB .u64 (n:Int) 32=((n*4294967296:Nat):Int):=by
  unfold rB;rw [show (min (32:Int).toNat u64.bits)=32 by decide,CN]
  show (n:Int)*4294967296%18446744073709551616=_;omega
 rw [e1,fT (n:=(m:Int)) (by omega)]
 show u64.wrap (((BitVec.ofInt 64 ((n*4294967296:Nat):Int) ||| BitVec.ofInt 64 ((m:Nat):Int)).toNat:Nat):Int)=_;rw [Ty,Ty,BitVec.toNat_or,Tz,Tz,QL (by omega),QL (by omega)]
 have e2:n*4294967296 ||| m=n*4294967296+m:=by
  have:=Nat.shiftLeft_add_eq_or_of_lt (i:=32) (b:=m) (by omega) n
  rw [Nat.shiftLeft_eq] at this;exact this.symm
 rw [e2,fT (by omega)]
 omega
theorem G_ {r y d:Int} (hr:0<=r/\r<d) (hy:0<=y/\y<4294967296) (hd:0<d/\d<4294967296):
  ∃ q m:Nat,Int.tdiv (r*4294967296+y) d=q/\Int.tmod (r*4294967296+y) d=m/\q<4294967296/\(m:Int)<d/\m+d.toNat*q=WB*r.toNat+y.toNat:=by
 obtain ⟨I,rfl⟩:∃ I:Nat,d=I:=⟨d.toNat,by omega⟩
 obtain ⟨J,rfl⟩:∃ J:Nat,r=J:=⟨r.toNat,by omega⟩
 obtain ⟨Y,rfl⟩:∃ Y:Nat,y=Y:=⟨y.toNat,by omega⟩
 have O:0<I:=by omega
 have e:∀ W:Nat,Y<W->∃ q m:Nat,Int.tdiv ((J:Int)*W+Y) I=q/\Int.tmod ((J:Int)*W+Y) I=m/\q<W/\m<I/\m+I*q=W*J+Y:=λW hW=>by
  have hN:J*W+Y<I*W:=by
   have:(J+1)*W<=I*W:=Ph _ (by omega)
   rw [Pm] at this;omega
  have hc:(J:Int)*W+Y=((J*W+Y:Nat):Int):=by rw [TH,PT]
  rw [hc];refine ⟨(J*W+Y) / I,(J*W+Y)%I,rfl,rfl,?_,RQ _ O,?_⟩
  ·rw [T6 O,Ub W I]; exact hN
  ·rw [T9,Ub J W]
 obtain ⟨q,m,Z,h2,h3,h4,h5⟩:=e WB (by show Y<4294967296; omega)
 refine ⟨q,m,Z,h2,h3,by omega,?_⟩
 simp only [O2];exact h5
theorem Ha {q I B m Y J:Nat} (O:m+I*q=WB*J+Y):(q+WB*B)*I+m=Y+WB*(B*I+J):=by
 rw [Pm,T_,Ua WB,Ub q I];generalize I*q=Z at O;generalize WB*J=X at O ⊢;generalize WB*(B*I)=T;omega
theorem DU {a:List bO} (ha:Wf a) (hz:a.length<=1000000) {d:Int} (hd:0<d/\d<4294967296):
  Gd (mR a d) (λr=>Wf r.1/\r.1.length=a.length/\nv r.1=nv a / d.toNat/\r.2=(nv a%d.toNat:Nat)):=by
 unfold mR;refine Gd.nd ⟨by omega,by omega⟩ ?_
 rw [bQ ⟨by omega,by omega⟩]
 refine Gd.gG (λ(z:List bO×Int×Int)=>-1<=z.2.2/\z.2.2<a.length/\z.1.length=a.length/\Wf z.1/\0<=z.2.1/\z.2.1<d/\nv (z.1.drop (z.2.2+1).toNat)*d.toNat+z.2.1.toNat=nv (a.drop (z.2.2+1).toNat)) (λz=>(z.2.2+1).toNat) ?_ fA _ ⟨by simp only; omega,by simp only; omega,by simp,λy J=>?_,Ro _,by simp only; omega,?_⟩ (by simp only [fA]; omega)
 ·rintro ⟨l,r,i⟩ nx ⟨h1,h2,h3,h4,h5,h6,I⟩ Y
  simp only at h1 h2 h3 h4 h5 h6 I Y ⊢;unfold qG;refine Gd.ite (λhi=>?_) (λhi=>Gd.ret ?_)
  ·have hi:0<=i:=O6 hi
   obtain ⟨k,rfl⟩:∃ k:Nat,i=k:=⟨i.toNat,by omega⟩
   obtain ⟨y,J⟩:∃ y,a[k]? = some y:=⟨_,OZ (by omega)⟩
   have Z:=ha y (Pb J);have O:((k:Int)).toNat=k:=by omega
   rw [fT (n:=d) (by omega)]
   refine Gd.ix (by omega) (by rw [O]; exact J) (Gd.nd (by omega) (Gd.gS (show k<l.length by omega) (Gd.nd (by omega) ?_)))
   rw [yw ⟨h5,by omega⟩ Z]
   rw [show ((k:Int)+1).toNat=k+1 by omega] at I
   obtain ⟨q,m,e1,e2,hqlt,hmlt,hdm⟩:=G_ ⟨h5,h6⟩ Z hd;rw [e1,e2,O,fT (n:=(q:Int)) (by omega),wv,bQ ⟨by omega,by omega⟩,show (q:Int)%4294967296=(q:Int) by omega]
   refine Y _ ⟨by simp only; omega,by simp only; omega,by simp [h3],h4.set (by omega),by simp only; omega,by simp only; omega,?_⟩ (by simp only; omega)
   simp only;rw [show ((k:Int)-1+1).toNat=k by omega,qq J,qq (l:=l.set k _) (Pu (by omega)),Rk (by omega),nv,nv,<- I]
   simp only [O2];exact Ha hdm
  ·have hi:¬ 0<=i:=Pc hi
   rw [show (i+1).toNat=0 by omega,Qi,Qi] at I
   have hdn:0<d.toNat:=by omega
   refine ⟨h4,h3,?_,?_⟩
   ·simp only
    rw [<- I,Ub,Nat.mul_add_div hdn,T5 (by omega)]; rfl
   ·simp only
    rw [wv,<- I,Ub,Nat.mul_add_mod,QL (by omega)]
    omega
 ·rw [TZ] at J
  rw [J.2]; simp
 ·simp only
  rw [show ((a.length:Int)-1+1).toNat=a.length by omega,RN,TM (by simp)]
  simp [nv]
theorem AS {n:Int} (h:-9223372036854775808<=n/\n<=9223372036854775807):Gd (mg n) (λr=>rZ r/\r.words.length<=2/\fM r=n):=by
 have I:∀ m:Int,0<=m->m<18446744073709551616->(m=n/\0<=n\/m = -n/\n<0)->Gd (pH n m) (λr=>rZ r/\r.words.length<=2/\fM r=n):=λm J h1 Z=>by
  unfold pH;rw [BJ,wv,wv];have hw:Wf [⟨m%4294967296⟩,⟨m / 4294967296%4294967296⟩]:=λy Y=>by
   rcases PN.1 Y with rfl | Y
   ·simp only; omega
   ·rw [PE] at Y; subst Y; simp only; omega
  have hv:nv [⟨m%4294967296⟩,⟨m / 4294967296%4294967296⟩]=m.toNat:=by
   simp only [nv];show (m%4294967296).toNat+4294967296*((m / 4294967296%4294967296).toNat+4294967296*0)=_;omega
  refine Gd.eE (sK _ _ hw (by simp)) (λr O=>Gd.ret ⟨O.1,O.2.1,?_⟩)
  rw [xc O.2.2.1 O.2.2.2,hv];rcases Z with ⟨rfl,Z⟩ | ⟨rfl,Z⟩
  ·rw [O7 (by simp; omega)]; omega
  ·rw [O8 (by simp; omega)]; omega
 unfold mg;refine Gd.ite (λJ=>I _ ?_ ?_ (.inr ⟨?_,?_⟩)) (λJ=>I _ ?_ ?_ (.inl ⟨?_,?_⟩))
 ·rw [CN]; omega
 ·rw [CN]; omega
 ·have:=O6 J
  rw [CN,CN]; omega
 ·exact O6 J
 ·rw [CN]; omega
 ·rw [CN]; omega
 ·have:=Pc J
  rw [CN]; omega
 ·have:=Pc J; omega
theorem Ma {c x s:Nat} (hs:s<=31) (I:c<2 ^ s) (Y:x<4294967296):
  u64.wrap ((BitVec.ofInt (u64).bits (c:Int) ||| BitVec.ofInt (u64).bits (rB .u64 (u64.wrap (x:Int)) (s:Int))).toNat)=((c+x*2 ^ s:Nat):Int):=by
 have J:(2:Nat) ^ s<=2147483648:=Ug (by decide) hs
 have O:x*2 ^ s<=4294967295*2147483648:=Nat.mul_le_mul (by omega) J
 rw [fT (n:=(x:Int)) (by omega)]
 have e1:rB .u64 (x:Int) (s:Int)=((x*2 ^ s:Nat):Int):=by
  unfold rB;rw [show (min ((s:Int)).toNat u64.bits)=s by show min ((s:Int)).toNat 64=s; omega]
  rw [show (x:Int)*2 ^ s=((x*2 ^ s:Nat):Int) by rw [PT,Int.natCast_pow]; rfl]
  rw [fT (by omega)]
 rw [e1];show u64.wrap (((BitVec.ofInt 64 ((c:Nat):Int) ||| BitVec.ofInt 64 ((x*2 ^ s:Nat):Int)).toNat:Nat):Int)=_;rw [Ty,Ty,BitVec.toNat_or,Tz,Tz,QL (by omega),QL (by omega)]
 have e2:c ||| x*2 ^ s=c+x*2 ^ s:=by
  have:=Nat.shiftLeft_add_eq_or_of_lt (i:=s) (b:=c) I x;rw [Nat.shiftLeft_eq] at this;rw [Nat.or_comm,<- this,Rq]
 rw [e2,fT (by omega)]
theorem E9 {A P c x S W out o I:Nat} (h:out+P*c=A*S) (J:o+W*I=c+x*S):(out+P*o)+P*W*I=(A+P*x)*S:=by
 have e:P*o+P*(W*I)=P*c+P*(x*S):=by rw [<- T_,J,T_]
 rw [Ua P W,Pm,Ua P x];omega
theorem A2 {a:List bO} (ha:Wf a) (hz:a.length<=1000000) {s:Nat} (hs:s<=31):
  Gd (nJ a (s:Int)) (λr=>Wf r/\r.length=a.length+1/\nv r=nv a*2 ^ s/\∃ t,r[a.length]? = some t/\t.n.toNat<2 ^ s):=by
 have w1:i64.wrap ((a.length:Int)+1)=((a.length+1:Nat):Int):=by rw [bQ ⟨by omega,by omega⟩]; omega
 have hp:(2:Nat) ^ s<=2147483648:=Ug (by decide) hs
 have hp0:0<(2:Nat) ^ s:=Uj (by decide)
 unfold nJ;rw [w1];refine Gd.nd ⟨by omega,by omega⟩ ?_
 refine Gd.dR (λk ys (z:List bO×Int)=>ys=a.drop k/\k<=a.length/\z.1.length=a.length+1/\Wf z.1/\0<=z.2/\z.2.toNat<2 ^ s/\nv (z.1.take k)+WB ^ k*z.2.toNat=nv (a.take k)*2 ^ s) ?_ ?_ _ 0 _ ⟨by simp,by omega,by simp,λy hy=>?_,Ro _,by simpa using hp0,by simp [nv]⟩
 ·rintro k x ys ⟨l,c⟩ nx ⟨Z,h1,h2,h3,h4,Y,I⟩ hnx
  simp only at h2 h3 h4 Y I hnx ⊢;have hk:k<a.length:=by
   have:=P4 List.length Z;simp at this; omega
  have hx:a[k]? = some x:=by
   have:=P4 (·[0]?) Z;simpa [PJ] using this.symm
  have hys:ys=a.drop (k+1):=by
   have:=P4 (List.drop 1) Z;simpa using this
  have hxw:=ha x (Pb hx);obtain ⟨cn,rfl⟩:∃ cn:Nat,c=cn:=⟨c.toNat,by omega⟩
  obtain ⟨X,hX⟩:∃ X:Nat,x.n=X:=⟨x.n.toNat,by omega⟩
  have O:((k:Int)).toNat=k:=by omega
  unfold ri;rw [hX];simp only [O2] at Y I;rw [Ma hs Y (by omega)]
  refine Gd.nd (by omega) (Gd.gS (show k<l.length by omega) ?_)
  rw [O,wv,BJ];have hb:cn+X*2 ^ s<4294967296*2 ^ s:=by
   have:(X+1)*2 ^ s<=4294967296*2 ^ s:=Ph _ (by omega)
   rw [Pm] at this;omega
  have J:=T9 (cn+X*2 ^ s) WB;have hq:(cn+X*2 ^ s) / WB<2 ^ s:=by
   rw [T6 (by decide),Ub (2 ^ s)]; exact hb
  have e1:((cn+X*2 ^ s:Nat):Int)%4294967296=(((cn+X*2 ^ s)%WB:Nat):Int):=rfl;have e2:((cn+X*2 ^ s:Nat):Int) / 4294967296=(((cn+X*2 ^ s) / WB:Nat):Int):=rfl;have hm:(cn+X*2 ^ s)%WB<WB:=RQ _ (by decide)
  rw [e1,e2];generalize (cn+X*2 ^ s)%WB=o at J hm;generalize (cn+X*2 ^ s) / WB=c' at J hq;refine hnx _ ⟨hys,by omega,by simp [h2],h3.set ⟨by omega,by have:o<4294967296:=hm; omega⟩,by simp only; omega,by simp only [O2]; exact hq,?_⟩
  simp only;rw [vo (by omega),tE,Pr,P6 (by omega),qz hx,hX,Uk]
  simp only [O2];exact E9 I J
 ·rintro k ⟨l,c⟩ ⟨Z,h1,h2,h3,h4,Y,I⟩
  simp only at h2 h3 h4 Y I ⊢;have hk:k=a.length:=by
   have:=P4 List.length Z;simp at this; omega
  subst hk;have O:((a.length:Int)).toNat=a.length:=by omega
  rw [O,wv,show c%4294967296=c by omega]
  refine Gd.gS (by omega) (Gd.ret ⟨h3.set (by omega),by simp [h2],?_,⟨⟨c⟩,Pu (by omega),Y⟩⟩)
  have e:=vo (l:=l) (k:=a.length) (v:=⟨c⟩) (by omega)
  rw [Pg (by simp; omega)] at e
  rw [e,tE,Pr,P6 (by omega)]
  rw [QJ] at I;exact I
 ·rw [TZ] at hy
  rw [hy.2]; simp
section
variable {W R v1 v2 vl u2 ul top q V U:Nat}
structure Fj (W R v1 v2 vl u2 ul top V U:Nat):Prop where
 V:V=(v1*W+v2)*R+vl
 U:U=(top*W+u2)*R+ul
 vl:vl<R
 ul:ul<R
 u2:u2<W
 v2:v2<W
theorem Fj.Mg (h:Fj W R v1 v2 vl u2 ul top V U) (hq:q*V<=U):q*v1<=top:=by
 rcases QS top (q*v1) with J | I
 ·exfalso
  have O:(top+1)*(W*R)<=q*v1*(W*R):=Ph _ J;have Y:v1*(W*R)<=V:=by
   rw [h.V,Pm,Ua v1]; omega
  have h3:q*(v1*(W*R))<=q*V:=Uc _ Y;have h4:U<(top+1)*(W*R):=by
   have e1:(u2+1)*R<=W*R:=Ph _ h.u2;rw [Pm] at e1;have Z:=h.ul;rw [h.U,Pm,Ua top,Pm top];omega
  rw [Ua q] at O;omega
 ·exact I
theorem Fj.Cj (h:Fj W R v1 v2 vl u2 ul top V U) (hq:q*V<=U):q*(v1*W+v2)<=top*W+u2:=by
 rcases QS (top*W+u2) (q*(v1*W+v2)) with J | I
 ·exfalso
  have O:(top*W+u2+1)*R<=q*(v1*W+v2)*R:=Ph _ J;have Y:(v1*W+v2)*R<=V:=by rw [h.V]; omega
  have h3:q*((v1*W+v2)*R)<=q*V:=Uc _ Y;have Z:=h.ul;have hU:=h.U;rw [Pm _ 1] at O;rw [Ua q] at O;omega
 ·exact I
theorem Fj.NY (h:Fj W R v1 v2 vl u2 ul top V U) {g:Nat} (J:g<=W) (O:1<=v1) (hl:g*(v1*W+v2)<=top*W+u2):g*V<U+V:=by
 have Y:g*(v1*W+v2)*R<=(top*W+u2)*R:=Ph _ hl;have Z:g*vl<=W*vl:=Ph _ J;have I:W*(vl+1)<=W*R:=Uc _ h.vl;have h4:1*(W*R)<=v1*(W*R):=Ph _ O;have e1:g*V=g*(v1*W+v2)*R+g*vl:=by rw [h.V,T_,Ua]
 have e2:V=v1*(W*R)+v2*R+vl:=by rw [h.V,Pm,Ua]
 have hU:=h.U;have hR:0<R:=by have:=h.vl; omega
 have hW:0<W:=by have:=h.u2; omega
 rw [T_,Rs] at I;omega
structure Gs (W R v1 v2 vl u2 ul top V U q g rest:Nat):Prop where
 ge:q<=g
 eq:g*v1+rest=top
 rest:rest<W
 le:g<=W+1
structure ME (W V U q g:Nat):Prop where
 ge:q<=g
 le:g<=q+1
 w:g<=W
theorem Fj.out (h:Fj W R v1 v2 vl u2 ul top V U) {g:Nat} (hq:U<(q+1)*V) (J:q<=g) (Y:g<=W) (hv:1<=v1) (hl:g*(v1*W+v2)<=top*W+u2):ME W V U q g:=by
 refine ⟨J,?_,Y⟩;have h1:=h.NY Y hv hl;rcases QS (q+1) g with O | I
 ·exfalso
  have Z:(q+2)*V<=g*V:=Ph _ O;rw [Pm] at Z hq;omega
 ·exact I
theorem Gs.stop (h:Fj W R v1 v2 vl u2 ul top V U) {g rest:Nat} (hs:Gs W R v1 v2 vl u2 ul top V U q g rest) (I:U<(q+1)*V) (J:1<=v1) (O:g<W) (ht:g*v2<=rest*W+u2):ME W V U q g:=by
 refine h.out I hs.ge (by omega) J ?_
 rw [<- hs.eq,T_,Pm,Ua];omega
theorem Gs.less (h:Fj W R v1 v2 vl u2 ul top V U) {g rest:Nat} (hs:Gs W R v1 v2 vl u2 ul top V U q g rest) (Z:q*V<=U) (hqW:q<W) (ht:W<=g\/rest*W+u2<g*v2):q<g:=by
 rcases ht with ht | ht
 ·omega
 ·have O:=h.Cj Z
  rw [<- hs.eq] at O;rcases QS q g with J | I
  ·exact J
  ·exfalso
   have Y:g*(v1*W+v2)<=q*(v1*W+v2):=Ph _ I;rw [T_ g] at Y;rw [Pm (g*v1),Ua] at O;omega
theorem Gs.next {g rest:Nat} (hs:Gs W R v1 v2 vl u2 ul top V U q g rest) (hl:q<g) (J:rest+v1<W):Gs W R v1 v2 vl u2 ul top V U q (g-1) (rest+v1):=by
 have h:=hs.eq; have I:=hs.le
 obtain ⟨k,rfl⟩:∃ k,g=k+1:=⟨g-1,by omega⟩
 rw [Pm] at h;exact ⟨by omega,by rw [Nat.add_sub_cancel]; omega,J,by omega⟩
theorem Gs.over (h:Fj W R v1 v2 vl u2 ul top V U) {g rest:Nat} (hs:Gs W R v1 v2 vl u2 ul top V U q g rest) (Y:U<(q+1)*V) (hv:1<=v1) (hl:q<g) (Z:W<=rest+v1):ME W V U q (g-1):=by
 have he:=hs.eq; have O:=hs.le; have I:=h.v2
 obtain ⟨k,rfl⟩:∃ k,g=k+1:=⟨g-1,by omega⟩
 rw [Nat.add_sub_cancel];rw [Pm] at he;refine h.out Y (by omega) (by omega) hv ?_
 have h1:k*v2<=W*v2:=Ph _ (by omega)
 have J:W*(v2+1)<=W*W:=Uc _ I;have h3:W*W<=(rest+v1)*W:=Ph _ Z;have e:top=k*v1+(rest+v1):=by omega
 rw [e,T_ k,Pm (k*v1),Ua];rw [T_] at J;omega
end
def FM:List U8:=jL (⟨#[0,1,2,2,3,3,3,3,4,4,4,4,4,4,4,4,5,5,5,5,5,5,5,5,5,5,5,5,5,5,5,5,6,6,6,6,6,6,6,6,6,6,6,6,6,6,6,6,6,6,6,6,6,6,6,6,6,6,6,6,6,6,6,6,7,7,7,7,7,7,7,7,7,7,7,7,7,7,7,7,7,7,7,7,7,7,7,7,7,7,7,7,7,7,7,7,7,7,7,7,7,7,7,7,7,7,7,7,7,7,7,7,7,7,7,7,7,7,7,7,7,7,7,7,7,7,7,7,8,8,8,8,8,8,8,8,8,8,8,8,8,8,8,8,8,8,8,8,8,8,8,8,8,8,8,8,8,8,8,8,8,8,8,8,8,8,8,8,8,8,8,8,8,8,8,8,8,8,8,8,8,8,8,8,8,8,8,8,8,8,8,8,8,8,8,8,8,8,8,8,8,8,8,8,8,8,8,8,8,8,8,8,8,8,8,8,8,8,8,8,8,8,8,8,8,8,8,8,8,8,8,8,8,8,8,8,8,8,8,8,8,8,8,8,8,8,8,8,8,8,8,8,8,8,8,8]⟩)
def IJ (i:Nat) (y:U8):Bool:=decide (1<=y.n) && (decide (y.n<=8) && (decide (2 ^ (y.n.toNat-1)<=i) && decide (i<2 ^ y.n.toNat)))
theorem Ke:∀ i:Nat,1<=i->i<256->∃ y,FM[i]? = some y/\IJ i y=true:=by
 have h:(List.range 256).all (λi=>decide (i=0) || (match FM[i]? with | some y=>IJ i y | none=>false))=true:=by decide +kernel
 intro i O J;have:=Qa.1 h i (by simpa using J)
 rw [UA (by omega),Bool.false_or] at this
 cases I:FM[i]? with
 | none=>rw [I] at this; cases this
 | some y=>rw [I] at this; exact ⟨y,rfl,this⟩
theorem Cl {n m:Int} (h1:1<=n) (h2:n<256) (hm:0<=m/\m<=24):Gd (jZ n m) (λr=>∃ L:Nat,r=m+L/\1<=L/\L<=8/\2 ^ (L-1)<=n.toNat/\n.toNat<2 ^ L):=by
 obtain ⟨y,Z,I⟩:=Ke n.toNat (by omega) (by omega)
 simp only [IJ,QC,PK] at I;obtain ⟨b1,b2,J,O⟩:=I;have Y:u8.wrap n=n:=by
  rw [show u8.wrap n=n%256 by simp [IntKind.wrap,IntKind.bits,IntKind.signed]]; omega
 unfold jZ;rw [Y];refine Gd.ix (l:=FM) (by omega) Z (Gd.ret ⟨y.n.toNat,?_,by omega,by omega,J,O⟩)
 rw [bQ (n:=y.n) (by omega),bQ (by omega)]
 omega
theorem E_ {n:Int}{k:Nat} (I:k<=32):nr .u32 n (k:Int)=n / (2 ^ k:Nat):=by
 unfold nr;rw [show (min ((k:Int)).toNat u32.bits)=k by show min ((k:Int)).toNat 32=k; omega,Rv _ (Int.le_of_lt (Int.pow_pos (by decide)))]
 rw [Int.natCast_pow]; rfl
theorem MZ {x:Int} (h1:1<=x) (h2:x<4294967296):Gd (iM x) (λr=>∃ s:Nat,r=s/\s<=31/\2147483648<=x.toNat*2 ^ s/\x.toNat*2 ^ s<4294967296):=by
 have O:∀ (o:Option Int),Gd o (λr=>∃ l:Nat,r=l/\1<=l/\l<=32/\2 ^ (l-1)<=x.toNat/\x.toNat<2 ^ l)->Gd (o.bind λJ=>some (i64.wrap (32-J))) (λr=>∃ s:Nat,r=s/\s<=31/\2147483648<=x.toNat*2 ^ s/\x.toNat*2 ^ s<4294967296):=λo Z=>by
  refine Gd.eE Z (λr hr=>Gd.ret ?_);obtain ⟨l,rfl,l1,l2,l3,l4⟩:=hr;refine ⟨32-l,by rw [bQ (by omega)]; omega,by omega,?_,?_⟩
  ·have:2 ^ (l-1)*2 ^ (32-l)<=x.toNat*2 ^ (32-l):=Ph _ l3
   rw [<- Ue,show l-1+(32-l)=31 by omega] at this
   exact this
  ·have:x.toNat*2 ^ (32-l)<2 ^ l*2 ^ (32-l):=Nat.mul_lt_mul_of_pos_right l4 (Uj (by decide))
   rw [<- Ue,show l+(32-l)=32 by omega] at this
   exact this
 have part:∀ (n:Int) (base:Nat),n=x / (2 ^ base:Nat)->base<=24->∀ L:Nat,1<=L->2 ^ (L-1)<=n.toNat->n.toNat<2 ^ L->2 ^ (base+L-1)<=x.toNat/\x.toNat<2 ^ (base+L):=λn base hn hb L l1 l2 l3=>by
  have e:n.toNat=x.toNat / 2 ^ base:=by
   rw [hn];obtain ⟨X,rfl⟩:∃ X:Nat,x=X:=⟨x.toNat,by omega⟩
   rfl
  have Y:0<2 ^ base:=Uj (by decide)
  rw [e] at l2 l3;rw [T7 Y,<- Ue] at l2;rw [T6 Y,<- Ue] at l3;rw [show base+L-1=L-1+base by omega,Rq base L]
  exact ⟨l2,l3⟩
 unfold iM;refine O _ ?_;unfold pV;refine Gd.ite (λh=>?_) (λh=>?_)
 ·have h:=O6 h
  rw [show nr .u32 x 16=x / 65536 from E_ (k:=16) (by omega)]
  unfold kz;refine Gd.ite (λI=>?_) (λI=>?_)
  ·have I:=O6 I
   rw [show nr .u32 (x / 65536) 8=x / 65536 / 256 from E_ (k:=8) (by omega),show i64.wrap (16+8)=24 by decide]
   refine (Cl (by omega) (by omega) (by omega)).mono ?_
   rintro r ⟨L,rfl,l1,l2,l3,l4⟩;obtain ⟨p1,p2⟩:=part (x / 65536 / 256) 24 (by show _=x / 16777216; omega) (by omega) L l1 l3 l4
   exact ⟨24+L,by omega,by omega,by omega,p1,p2⟩
  ·have I:=Pc I
   refine (Cl (by omega) (by omega) (by omega)).mono ?_
   rintro r ⟨L,rfl,l1,l2,l3,l4⟩;obtain ⟨p1,p2⟩:=part (x / 65536) 16 (by show _=x / 65536; omega) (by omega) L l1 l3 l4
   exact ⟨16+L,by omega,by omega,by omega,p1,p2⟩
 ·have h:=Pc h
  unfold kz;refine Gd.ite (λI=>?_) (λI=>?_)
  ·have I:=O6 I
   rw [show nr .u32 x 8=x / 256 from E_ (k:=8) (by omega),show i64.wrap (0+8)=8 by decide]
   refine (Cl (by omega) (by omega) (by omega)).mono ?_
   rintro r ⟨L,rfl,l1,l2,l3,l4⟩;obtain ⟨p1,p2⟩:=part (x / 256) 8 (by show _=x / 256; omega) (by omega) L l1 l3 l4
   exact ⟨8+L,by omega,by omega,by omega,p1,p2⟩
  ·have I:=Pc I
   refine (Cl (by omega) (by omega) (by omega)).mono ?_
   rintro r ⟨L,rfl,l1,l2,l3,l4⟩;obtain ⟨p1,p2⟩:=part x 0 (by show _=x / 1; omega) (by omega) L l1 l3 l4
   exact ⟨0+L,by omega,by omega,by omega,p1,p2⟩
theorem JR {t:Nat} (h:t<18446744073709551616):u64.wrap ((BitVec.ofInt (u64).bits (t:Int) &&& BitVec.ofInt (u64).bits 4294967295).toNat)=((t%WB:Nat):Int):=by
 have e:(BitVec.ofInt (u64).bits 4294967295).toNat=4294967295:=by decide
 have e2:(BitVec.ofInt (u64).bits (t:Int)).toNat=t:=by
  show (BitVec.ofInt 64 (t:Int)).toNat=t;rw [Ty,Tz,QL h]
 rw [BitVec.toNat_and,e,e2];have:=T4 t 32;rw [show (2:Nat) ^ 32-1=4294967295 from rfl] at this;rw [this,show (2:Nat) ^ 32=WB from rfl];have hm:t%WB<WB:=RQ _ (by decide)
 rw [fT ⟨by omega,by have:t%WB<4294967296:=hm; omega⟩]
theorem FU {l:List bO}{k:Nat}{x v:bO} (h:l[k]? = some x) (J:0<=x.n) (I:0<=v.n):(nv (l.set k v):Int)+((WB ^ k:Nat):Int)*x.n=nv l+((WB ^ k:Nat):Int)*v.n:=by
 have:=P4 (λn:Nat=>(n:Int)) (AQ (v:=v) h);simp only [TH,PT] at this;rw [R9 J,R9 I] at this;exact this
theorem Ki {nl Y o nw P W bo ca O J I Z gy:Int} (hA:Y+P*o=nl+P*nw) (hB:nw+W*I=bo+o-O) (hC:O+W*J=ca+gy) (hI:nl+P*(bo-ca)=Z):
  Y+P*W*(I-J)=Z-P*gy:=by
 have e:W*(I-J)=bo+o-nw-ca-gy:=by rw [TG]; omega
 rw [TF,e,<- hI,TG,TG,TG,TE,TG];omega
theorem FW {l I:List bO}{m:Nat} (h:∀ p,m<=p->l[p]? = I[p]?) (hm:m<=l.length):nv l=nv (l.take m)+WB ^ m*nv (I.drop m):=by
 have e:l.drop m=I.drop m:=by
  apply QE;intro i;rw [PJ,PJ];exact h _ (by omega)
 have:nv l=nv (l.take m++l.drop m):=by rw [Qn]
 rw [this,Ct,e,Pr,P6 hm]
theorem AR (l:List bO) {m:Nat} (hm:m<=l.length):nv l=nv (l.take m)+WB ^ m*nv (l.drop m):=FW (λ_ _=>rfl) hm
theorem M3 {b r134 vs:List bO}{j g:Nat}{Z:List bO}{fin:List bO×Int×Int->Option (List bO×List bO)}{Q:List bO×List bO->Prop}
  (hvs:se r134 0 (((b.length:Int):Int).toNat)=vs) (hvl:vs.length=b.length) (hvw:Wf vs) (hl:Wf Z) (hjn:j+b.length<Z.length) (hN:Z.length<=1000001) (hg:g<=WB)
  (hk:∀ l O ca,l.length=Z.length->Wf l->-1<=O->O<=0->0<=ca->ca<4294967296->(nv l:Int)+((WB ^ (j+b.length):Nat):Int)*(O-ca)=nv Z-((WB ^ j:Nat):Int)*((g:Int)*(nv vs:Int)) ->
   (∀ p,j+b.length<=p->l[p]? = Z[p]?)->(∀ p,p<j->l[p]? = Z[p]?)->Gd (fin (l,O,ca)) Q):
  Gd (jQ (λk J n=>nQ b r134 (j:Int) (g:Int) k J.1 J.2.1 J.2.2 n) fin b.length 0 (Z,0,0)) Q:=by
 have hg:g<=4294967296:=hg;refine Gd.jQ (λm k (z:List bO×Int×Int)=>k+m=b.length/\z.1.length=Z.length/\Wf z.1/\-1<=z.2.1/\z.2.1<=0/\0<=z.2.2/\z.2.2<4294967296/\(nv z.1:Int)+((WB ^ (j+k):Nat):Int)*(z.2.1-z.2.2)=nv Z-((WB ^ j:Nat):Int)*((g:Int)*(nv (vs.take k):Int))/\(∀ p,j+k<=p->z.1[p]? = Z[p]?)/\(∀ p,p<j->z.1[p]? = Z[p]?)) ?_ ?_ _ 0 _ ⟨by omega,rfl,hl,by show (-1:Int)<=0; omega,Ro _,Ro _,by show (0:Int)<4294967296; omega,by simp [nv],λp _=>rfl,λp _=>rfl⟩
 ·rintro m k ⟨l,O,ca⟩ nx ⟨h0,h1,h2,h3,h4,h5,h6,h7,h8,h9⟩ hnx
  simp only at h1 h2 h3 h4 h5 h6 h7 h8 h9 hnx ⊢;have hkb:k<b.length:=by omega
  obtain ⟨y,hy⟩:∃ y,vs[k]? = some y:=⟨_,OZ (by omega)⟩
  have hyw:=hvw y (Pb hy);obtain ⟨o,ho⟩:∃ o,l[j+k]? = some o:=⟨_,OZ (by omega)⟩
  have how:=h2 o (Pb ho);have wj:i64.wrap ((k:Int)+(j:Int))=((j+k:Nat):Int):=by rw [bQ ⟨by omega,by omega⟩]; omega
  have hjk:(((j+k:Nat):Int)).toNat=j+k:=by omega
  unfold nQ;rw [hvs,wj];refine Gd.ix (by omega) (by rw [O2]; exact hy) (Gd.ix (by omega) (by rw [hjk]; exact ho) (Gd.ix (by omega) (by rw [hjk]; exact ho) ?_))
  obtain ⟨Y,hY⟩:∃ Y:Nat,y.n=Y:=⟨y.n.toNat,by omega⟩
  obtain ⟨cn,rfl⟩:∃ cn:Nat,ca=cn:=⟨ca.toNat,by omega⟩
  have hgy:g*Y<=4294967296*4294967295:=Nat.mul_le_mul hg (by omega)
  have ht:u64.wrap ((cn:Int)+(u64.wrap ((g:Int)*(u64.wrap (y.n)))))=((cn+g*Y:Nat):Int):=by
   rw [hY,fT (n:=(Y:Int)) (by omega),show (g:Int)*(Y:Int)=((g*Y:Nat):Int) by rw [PT],fT (n:=((g*Y:Nat):Int)) (by omega),fT (by omega)]
   omega
  rw [ht,JR (by omega),BJ]
  have hdm:=T9 (cn+g*Y) WB;have hlow:(cn+g*Y)%WB<WB:=RQ _ (by decide)
  have hcl:(cn+g*Y) / WB<4294967296:=by
   rw [T6 (by decide)]
   show cn+g*Y<4294967296*4294967296;omega
  have e2:((cn+g*Y:Nat):Int) / 4294967296=(((cn+g*Y) / WB:Nat):Int):=rfl;rw [e2];have hC:(((cn+g*Y)%WB:Nat):Int)+4294967296*(((cn+g*Y) / WB:Nat):Int)=(cn:Int)+((g*Y:Nat):Int):=by
   have:(cn+g*Y)%WB+4294967296*((cn+g*Y) / WB)=cn+g*Y:=hdm;omega
  generalize (cn+g*Y)%WB=I at hlow hC;generalize (cn+g*Y) / WB=c2 at hcl hC;have hlow:I<4294967296:=hlow;have hnb:i64.wrap (O+(i64.wrap ((i64.wrap (o.n))-(i64.wrap ((I:Nat):Int)))))=O+o.n-I:=by
   rw [bQ (n:=o.n) (by omega),bQ (n:=(I:Int)) (by omega),bQ (n:=o.n-I) (by omega),bQ (by omega)]
   omega
  rw [hnb,hjk,wv,Jg];refine hnx _ ⟨by omega,by simp [h1],h2.set (by omega),by simp only; omega,by simp only; omega,by simp only; omega,by simp only; omega,?_,λp hp=>?_,λp hp=>?_⟩
  ·simp only
   have hA:=FU (l:=l) (k:=j+k) (x:=o) (v:=⟨(O+o.n-I)%4294967296⟩) ho how.1 (by simp only; omega)
   simp only at hA;have hB:(O+o.n-I)%4294967296+4294967296*((O+o.n-I) / 4294967296)=O+o.n-I:=by omega
   have:=Ki hA hB hC h7;rw [show j+(k+1)=(j+k)+1 by omega,Uk,PT,show ((WB:Nat):Int)=4294967296 from rfl,this,qz hy,hY,Ue]
   simp only [O2,TH,PT];rw [TE (g:Int),TE ((WB ^ j:Nat):Int),TF ((WB ^ j:Nat):Int) ((WB ^ k:Nat):Int)];have e:(g:Int)*(((WB ^ k:Nat):Int)*(Y:Int))=((WB ^ k:Nat):Int)*((g:Int)*(Y:Int)):=by
    rw [<- TF,Int.mul_comm (g:Int),TF]
   rw [e];omega
  ·simp only
   rw [Pq (by omega)]
   exact h8 p (by omega)
  ·simp only
   rw [Pq (by omega)]
   exact h9 p hp
 ·rintro k ⟨l,O,ca⟩ ⟨h0,h1,h2,h3,h4,h5,h6,h7,h8,h9⟩
  simp only at h1 h2 h3 h4 h5 h6 h7 h8 h9;have hk':k=b.length:=by omega
  subst hk';rw [<- hvl,QJ] at h7;rw [hvl] at h7;exact hk l O ca h1 h2 h3 h4 h5 h6 h7 h8 h9
theorem JQ {J I o s P W c Y T T' B X:Nat} (h1:I+P*o=J+P*(s%W)) (hs:s=c+o+Y) (h2:J+P*c=X+B*T) (hP:P*Y=B*(T'-T)) (hT:T<=T'):I+P*W*(s / W)=X+B*T':=by
 have O:s%W+W*(s / W)=s:=T9 s W;have e:P*(s%W)+P*(W*(s / W))=P*s:=by rw [<- T_,O]
 have e2:P*s=P*c+P*o+P*Y:=by rw [hs,T_,T_]
 have Z:B*T'=B*T+B*(T'-T):=by rw [<- T_]; congr 1; omega
 rw [Ua P W];omega
theorem MN {b J vs:List bO}{j:Nat}{l1:List bO}{fin:List bO×Int->Option (List bO×List bO)}{Q:List bO×List bO->Prop}
  (hvs:se J 0 (((b.length:Int):Int).toNat)=vs) (hvl:vs.length=b.length) (hvw:Wf vs) (hl:Wf l1) (hjn:j+b.length<l1.length) (hN:l1.length<=1000001)
  (hk:∀ l c,l.length=l1.length->Wf l->0<=c->c<=1->nv l+WB ^ (j+b.length)*c.toNat=nv l1+WB ^ j*nv vs->(∀ p,j+b.length<=p->l[p]? = l1[p]?)->(∀ p,p<j->l[p]? = l1[p]?)->Gd (fin (l,c)) Q):
  Gd (jQ (λk I n=>nR b J (j:Int) k I.1 I.2 n) fin b.length 0 (l1,0)) Q:=by
 refine Gd.jQ (λm k (z:List bO×Int)=>k+m=b.length/\z.1.length=l1.length/\Wf z.1/\0<=z.2/\z.2<=1/\nv z.1+WB ^ (j+k)*z.2.toNat=nv l1+WB ^ j*nv (vs.take k)/\(∀ p,j+k<=p->z.1[p]? = l1[p]?)/\(∀ p,p<j->z.1[p]? = l1[p]?)) ?_ ?_ _ 0 _ ⟨by omega,rfl,hl,Ro _,by show (0:Int)<=1; omega,by simp [nv],λp _=>rfl,λp _=>rfl⟩
 ·rintro m k ⟨l,c⟩ nx ⟨h0,h1,Z,h3,h4,O,h8,h9⟩ hnx
  simp only at h1 Z h3 h4 O h8 h9 hnx ⊢;obtain ⟨y,hy⟩:∃ y,vs[k]? = some y:=⟨_,OZ (by omega)⟩
  have hyw:=hvw y (Pb hy);obtain ⟨o,ho⟩:∃ o,l[j+k]? = some o:=⟨_,OZ (by omega)⟩
  have how:=Z o (Pb ho);have wj:i64.wrap ((k:Int)+(j:Int))=((j+k:Nat):Int):=by rw [bQ ⟨by omega,by omega⟩]; omega
  have Y:(((j+k:Nat):Int)).toNat=j+k:=by omega
  unfold nR;rw [hvs,wj];refine Gd.ix (by omega) (by rw [Y]; exact ho) (Gd.ix (by omega) (by rw [O2]; exact hy) (Gd.ix (by omega) (by rw [Y]; exact ho) ?_))
  have hs:u64.wrap (c+(u64.wrap ((u64.wrap (o.n))+(u64.wrap (y.n)))))=c+o.n+y.n:=by
   rw [fT (n:=o.n) (by omega),fT (n:=y.n) (by omega),fT (n:=o.n+y.n) (by omega),fT (by omega)]
   omega
  rw [hs,Y,BJ,wv];have hsn:c+o.n+y.n=((c.toNat+o.n.toNat+y.n.toNat:Nat):Int):=by omega
  refine hnx _ ⟨by omega,by simp [h1],Z.set (by omega),by simp only; omega,by simp only; omega,?_,λp hp=>?_,λp hp=>?_⟩
  ·simp only
   have g:=AQ (l:=l) (k:=j+k) (x:=o) (v:=⟨(c+o.n+y.n)%4294967296⟩) ho;simp only at g;have g1:((c+o.n+y.n)%4294967296).toNat=(c.toNat+o.n.toNat+y.n.toNat)%WB:=by rw [hsn]; show _=_%4294967296; omega
   have g2:((c+o.n+y.n) / 4294967296).toNat=(c.toNat+o.n.toNat+y.n.toNat) / WB:=by rw [hsn]; show _=_ / 4294967296; omega
   rw [g1] at g;rw [g2,show j+(k+1)=(j+k)+1 by omega,Uk]
   refine JQ g rfl O (T':=nv (vs.take (k+1))) ?_ ?_
   ·rw [qz hy,Q2,Ue,Ua]
   ·rw [qz hy]; omega
  ·simp only
   rw [Pq (by omega)]
   exact h8 p (by omega)
  ·simp only
   rw [Pq (by omega)]
   exact h9 p hp
 ·rintro k ⟨l,c⟩ ⟨h0,h1,Z,h3,h4,O,h8,h9⟩
  simp only at h1 Z h3 h4 O h8 h9;have hk':k=b.length:=by omega
  subst hk';rw [<- hvl,QJ] at O;rw [hvl] at O;exact hk l c h1 Z h3 h4 O h8 h9
theorem HL {qs l':List bO}{j:Nat}{g:Int}{I:List bO×List bO×Int->Option (List bO×List bO)}{Q:List bO×List bO->Prop} (J:j<qs.length) (hN:qs.length<=1000001) (O:0<=g/\g<4294967296)
  (hn:Gd (I (qs.set j ⟨g⟩,l',(j:Int)-1)) Q):Gd (jY qs (j:Int) I l' g) Q:=by
 unfold jY;refine Gd.gS J ?_;rw [O2,wv,bQ (by omega),show g%4294967296=g by omega]
 exact hn
theorem LJ {W P B I U V O:Nat} (h0:O=I+P*U) (J:I<P) (hV:V<=B) (hU:U<W*V):O<P*(W*B):=by
 have Y:U+1<=W*B:=P0 hU (Uc _ hV);have Z:P*(U+1)<=P*(W*B):=Uc _ Y;rw [T_] at Z;omega
theorem zI {J X M T:Nat} (h:J=X+M*T) (O:J<M):T=0:=by
 rcases Nat.eq_zero_or_pos T with I | I
 ·exact I
 ·have:M*1<=M*T:=Uc _ I
  omega
theorem Ic {b r134 vs:List bO}{j g q U:Nat}{I qs:List bO}{nx:List bO×List bO×Int->Option (List bO×List bO)}{Q:List bO×List bO->Prop}
  (hvs:se r134 0 (((b.length:Int):Int).toNat)=vs) (hvl:vs.length=b.length) (hvw:Wf vs) (hl:Wf I) (hjn:j+b.length<I.length) (hN:I.length<=1000001) (hj:j<qs.length) (hqN:qs.length<=1000001)
  (hU:nv (I.drop j)=U) (hV:nv vs<=WB ^ b.length) (hUW:U<WB*nv vs) (hq1:q*nv vs<=U) (hq2:U<(q+1)*nv vs) (hqW:q<WB) (hg:ME WB (nv vs) U q g)
  (hn:∀ l',l'.length=I.length->Wf l'->nv l'+WB ^ j*(q*nv vs)=nv I->(∀ p,p<j->l'[p]? = I[p]?)->Gd (nx (qs.set j ⟨(q:Int)⟩,l',(j:Int)-1)) Q):
  Gd (eZ b r134 qs I (j:Int) nx (g:Int)) Q:=by
 have hqW':q<4294967296:=hqW;have wjn:i64.wrap ((j:Int)+(b.length:Int))=((j+b.length:Nat):Int):=by rw [bQ ⟨by omega,by omega⟩]; omega
 have hjk:(((j+b.length:Nat):Int)).toNat=j+b.length:=by omega
 have h0:=AR I (m:=j) (by omega)
 rw [hU] at h0;have hlow:=rV (hl.take j);rw [Pr,P6 (by omega)] at hlow
 have hpow:WB ^ (j+b.length+1)=WB ^ j*(WB*WB ^ b.length):=by rw [Uk,Ue,Ub WB,Ua]
 have hbig:nv I<WB ^ (j+b.length+1):=by rw [hpow]; exact LJ h0 hlow hV hUW
 have habove:nv (I.drop (j+b.length+1))=0:=zI (AR I (m:=j+b.length+1) (by omega)) hbig
 have small:∀ l:List bO,l.length=I.length->Wf l->(∀ p,j+b.length+1<=p->l[p]? = I[p]?)->nv l<WB ^ (j+b.length+1):=λl h1 h2 h3=>by
  rw [FW h3 (by omega),habove,Ud,Qt]
  have:=rV (h2.take (j+b.length+1));rw [Pr,P6 (by omega)] at this
  exact this
 unfold eZ;rw [show ((b.length:Int):Int).toNat=b.length by omega] at hvs
 rw [show ((b.length:Int):Int).toNat=b.length by omega]
 refine M3 (by rw [show ((b.length:Int):Int).toNat=b.length by omega]; exact hvs) hvl hvw hl hjn hN hg.w (λl O ca e1 e2 e3 e4 e5 e6 e7 e8 e9=>?_)
 obtain ⟨o,ho⟩:∃ o,l[j+b.length]? = some o:=⟨_,OZ (by omega)⟩
 have how:=e2 o (Pb ho);simp only;rw [wjn];refine Gd.ix (by omega) (by rw [hjk]; exact ho) (Gd.ix (by omega) (by rw [hjk]; exact ho) ?_)
 have hnb:i64.wrap (O+(i64.wrap ((i64.wrap (o.n))-(i64.wrap ca))))=O+o.n-ca:=by
  rw [bQ (n:=o.n) (by omega),bQ (n:=ca) (by omega),bQ (n:=o.n-ca) (by omega),bQ (by omega)]
  omega
 rw [hnb,hjk,wv];have hA:=FU (l:=l) (k:=j+b.length) (x:=o) (v:=⟨(O+o.n-ca)%4294967296⟩) ho how.1 (by simp only; omega)
 simp only at hA;have hW1:Wf (l.set (j+b.length) ⟨(O+o.n-ca)%4294967296⟩):=e2.set (by omega)
 have J:(l.set (j+b.length) (⟨(O+o.n-ca)%4294967296⟩:bO)).length=I.length:=by simp [e1]
 have hab1:∀ p,j+b.length+1<=p->(l.set (j+b.length) (⟨(O+o.n-ca)%4294967296⟩:bO))[p]? = I[p]? := λp hp=>by
  rw [Pq (by omega)]; exact e8 p (by omega)
 have hbe1:∀ p,p<j->(l.set (j+b.length) (⟨(O+o.n-ca)%4294967296⟩:bO))[p]? = I[p]? := λp hp=>by
  rw [Pq (by omega)]; exact e9 p hp
 have hsm1:=small _ J hW1 hab1;generalize l.set (j+b.length) (⟨(O+o.n-ca)%4294967296⟩:bO)=l1 at hA hW1 J hab1 hbe1 hsm1;have hPW:((WB ^ (j+b.length+1):Nat):Int)=((WB ^ (j+b.length):Nat):Int)*4294967296:=by rw [Uk,PT,show ((WB:Nat):Int)=4294967296 from rfl]
 have hZ:(nv l1:Int)+((WB ^ (j+b.length):Nat):Int)*(O+o.n-ca-(O+o.n-ca)%4294967296)=nv I-((WB ^ j:Nat):Int)*((g:Int)*(nv vs:Int)):=by
  rw [<- e7,TG,TG,TE,TG];omega
 have hZU:(nv I:Int)-((WB ^ j:Nat):Int)*((g:Int)*(nv vs:Int))=nv (I.take j)+((WB ^ j:Nat):Int)*((U:Int)-(g:Int)*(nv vs:Int)):=by
  rw [h0,TH,PT,TG]; omega
 have hge:=hg.ge; have hle:=hg.le
 refine Gd.ite (λhneg=>?_) (λhpos=>?_)
 ·have hneg:O+o.n-ca<0:=O6 hneg
  have hdiv:O+o.n-ca-(O+o.n-ca)%4294967296 = -4294967296:=by omega
  rw [hdiv] at hZ;have hZ1:(nv l1:Int)-((WB ^ (j+b.length+1):Nat):Int)=nv I-((WB ^ j:Nat):Int)*((g:Int)*(nv vs:Int)):=by
   rw [hPW,<- hZ,Int.mul_neg]; omega
  have hgq:g=q+1:=by
   rcases (show g=q\/g=q+1 by omega) with h | h
   ·exfalso
    rw [h] at hZ1 hZU;have h0':(0:Int)<=(U:Int)-(q:Int)*(nv vs:Int):=by
     have h1':((q*nv vs:Nat):Int)<=U:=by omega
     rw [PT] at h1'; omega
    have:(0:Int)<=((WB ^ j:Nat):Int)*((U:Int)-(q:Int)*(nv vs:Int)):=Int.mul_nonneg (by omega) h0'
    omega
   ·exact h
  refine MN (j:=j) (l1:=l1) (by rw [show ((b.length:Int):Int).toNat=b.length by omega]; exact hvs) hvl hvw hW1 (by omega) (by omega) (λl2 c f1 f2 f3 f4 f5 f6 f7=>?_)
  obtain ⟨Z,ho2⟩:∃ Z,l2[j+b.length]? = some Z:=⟨_,OZ (by omega)⟩
  have how2:=f2 Z (Pb ho2);simp only;refine Gd.ix (by omega) (by rw [hjk]; exact ho2) (Gd.ix (by omega) (by rw [hjk]; exact ho2) ?_)
  rw [wv,wv,show c%4294967296=c by omega]
  have hg1:u64.wrap ((g:Int)-1)=(q:Int):=by rw [hgq,fT (by omega)]; omega
  rw [hg1];have hB:=AQ (l:=l2) (k:=j+b.length) (x:=Z) (v:=⟨(Z.n+c)%4294967296⟩) ho2;simp only at hB;have hW2:Wf (l2.set (j+b.length) ⟨(Z.n+c)%4294967296⟩):=f2.set (by omega)
  have Y:(l2.set (j+b.length) (⟨(Z.n+c)%4294967296⟩:bO)).length=I.length:=by simp [f1,J]
  have hab2:∀ p,j+b.length+1<=p->(l2.set (j+b.length) (⟨(Z.n+c)%4294967296⟩:bO))[p]? = I[p]? := λp hp=>by
   rw [Pq (by omega),f6 p (by omega)]; exact hab1 p hp
  have hbe2:∀ p,p<j->(l2.set (j+b.length) (⟨(Z.n+c)%4294967296⟩:bO))[p]? = I[p]? := λp hp=>by
   rw [Pq (by omega),f7 p hp]; exact hbe1 p hp
  have hsm2:=small _ Y hW2 hab2;generalize l2.set (j+b.length) (⟨(Z.n+c)%4294967296⟩:bO)=l3 at hB hW2 Y hab2 hbe2 hsm2;refine HL hj hqN (by omega) (hn l3 Y hW2 ?_ hbe2)
  obtain ⟨κ,hκ⟩:∃ κ:Nat,Z.n.toNat+c.toNat=((Z.n+c)%4294967296).toNat+WB*κ:=by
   refine ⟨((Z.n+c) / 4294967296).toNat,?_⟩;have eW:WB=4294967296:=rfl;rw [eW]; omega
  have hsum:nv l3+WB ^ (j+b.length+1)*κ=nv l1+WB ^ j*nv vs:=by
   have e:WB ^ (j+b.length)*Z.n.toNat+WB ^ (j+b.length)*c.toNat=WB ^ (j+b.length)*((Z.n+c)%4294967296).toNat+WB ^ (j+b.length)*(WB*κ):=by
    rw [<- T_,hκ,T_]
   rw [Uk,Ua];omega
  have hVlt:WB ^ j*nv vs<WB ^ (j+b.length+1):=by
   have h1:WB ^ j*nv vs<=WB ^ j*WB ^ b.length:=Uc _ hV;have h2:WB ^ j*WB ^ b.length<WB ^ (j+b.length+1):=by
    rw [<- Ue]; exact Nat.pow_lt_pow_right (by decide) (by omega)
   omega
  have hZq:(nv l1:Int)+((WB ^ j*nv vs:Nat):Int)=nv (I.take j)+((WB ^ j:Nat):Int)*((U:Int)-(q:Int)*(nv vs:Int))+((WB ^ (j+b.length+1):Nat):Int):=by
   rw [hgq] at hZ1 hZU;have e:((WB ^ j:Nat):Int)*((U:Int)-((q+1:Nat):Int)*(nv vs:Int))=((WB ^ j:Nat):Int)*((U:Int)-(q:Int)*(nv vs:Int))-((WB ^ j*nv vs:Nat):Int):=by
    rw [PT,<- TG]
    congr 1
    rw [show ((q+1:Nat):Int)=(q:Int)+1 by omega,Int.add_mul]
    omega
   rw [e] at hZU;omega
  have hnn:(0:Int)<=((WB ^ j:Nat):Int)*((U:Int)-(q:Int)*(nv vs:Int)):=Int.mul_nonneg (by omega) (by
   have:((q*nv vs:Nat):Int)<=U:=by omega
   rw [PT] at this; omega)
  have hκ1:κ=1:=by
   rcases QS κ 1 with h | h
   ·exfalso
    have:κ=0:=by omega
    rw [this] at hsum; omega
   ·rcases QS 1 κ with h2 | h2
    ·exfalso
     have:WB ^ (j+b.length+1)*2<=WB ^ (j+b.length+1)*κ:=Uc _ h2;omega
    ·omega
  rw [hκ1,Rs] at hsum;have e:((WB ^ j:Nat):Int)*((U:Int)-(q:Int)*(nv vs:Int))=((WB ^ j*U:Nat):Int)-((WB ^ j*(q*nv vs):Nat):Int):=by
   rw [TG,PT,PT,PT]
  rw [e] at hZq;omega
 ·have hpos:¬ O+o.n-ca<0:=Pc hpos
  have hdiv:O+o.n-ca-(O+o.n-ca)%4294967296=0:=by omega
  rw [hdiv,Int.mul_zero,Int.add_zero] at hZ;have hgq:g=q:=by
   rcases (show g=q\/g=q+1 by omega) with h | h
   ·exact h
   ·exfalso
    rw [h] at hZ hZU;have h1:(U:Int)-((q+1:Nat):Int)*(nv vs:Int)<=-1:=by
     have:(U:Int)<(((q+1)*nv vs:Nat):Int):=by omega
     rw [PT] at this; omega
    have h2:((WB ^ j:Nat):Int)*((U:Int)-((q+1:Nat):Int)*(nv vs:Int))<=((WB ^ j:Nat):Int)*(-1):=Int.mul_le_mul_of_nonneg_left h1 (by omega)
    omega
  rw [hgq] at hZ ⊢;refine HL hj hqN (by omega) (hn l1 J hW1 ?_ hbe1)
  have e:((WB ^ j:Nat):Int)*((q:Int)*(nv vs:Int))=((WB ^ j*(q*nv vs):Nat):Int):=by rw [PT,PT]
  rw [e] at hZ;omega
theorem FV {l:List bO}{m:Nat}{x y:bO} (J:l[m+1]? = some x) (O:l[m]? = some y) (I:nv (l.drop (m+2))=0):nv l=(x.n.toNat*WB+y.n.toNat)*WB ^ m+nv (l.take m):=by
 have e:=vh O;have e1:nv (l.drop (m+1))=x.n.toNat+WB*nv (l.drop (m+2)):=by rw [qq J,nv]
 rw [e,e1,I,Ud,Qt,Ub (WB ^ m),Rq (nv (l.take m)),Rq y.n.toNat,Ub WB x.n.toNat]
theorem IX {l:List bO}{m:Nat}{x y z:bO} (J:l[m+2]? = some x) (O:l[m+1]? = some y) (Y:l[m]? = some z) (I:nv (l.drop (m+3))=0):nv l=((x.n.toNat*WB+y.n.toNat)*WB+z.n.toNat)*WB ^ m+nv (l.take m):=by
 have e:=vh Y;have e1:nv (l.drop (m+1))=y.n.toNat+WB*nv (l.drop (m+2)):=by rw [qq O,nv]
 have e2:nv (l.drop (m+2))=x.n.toNat+WB*nv (l.drop (m+3)):=by rw [qq J,nv]
 rw [e,e1,e2,I,Ud,Qt,Ub (WB ^ m),Rq (nv (l.take m)),Rq z.n.toNat,Ub WB (y.n.toNat+_),Rq y.n.toNat,Ub WB x.n.toNat]
theorem Iu {b J vs:List bO}{j Z q U R v1 v2 vl u2 ul top:Nat}{l0 qs:List bO}{nx:List bO×List bO×Int->Option (List bO×List bO)}{Q:List bO×List bO->Prop}
  (hb:b.length=Z+2) (hvs:se J 0 (((b.length:Int):Int).toNat)=vs) (hvl:vs.length=b.length) (hl0:j+b.length<l0.length) (hN:l0.length<=1000001)
  (y1 y2 z2:bO) (hy1:vs[Z+1]? = some y1) (hy2:vs[Z]? = some y2) (hz2:l0[j+Z]? = some z2) (e1:y1.n=v1) (e2:y2.n=v2) (e3:z2.n=u2) (w1:v1<4294967296) (hv1:1<=v1)
  (hS:Fj WB R v1 v2 vl u2 ul top (nv vs) U) (hq1:q*nv vs<=U) (hq2:U<(q+1)*nv vs) (hqW:q<WB)
  (hk:∀ g,ME WB (nv vs) U q g->Gd (eZ b J qs l0 (j:Int) nx (g:Int)) Q)
  {g0 I:Nat} (h0:Gs WB R v1 v2 vl u2 ul top (nv vs) U q g0 I):
  Gd (gG (λO n=>nS b J qs l0 (j:Int) nx O.1 O.2 n) fA ((g0:Int),(I:Int))) Q:=by
 have hu2:u2<4294967296:=hS.u2;have hv2:v2<4294967296:=hS.v2;have eW:WB=4294967296:=rfl;refine Gd.gG (λ(z:Int×Int)=>∃ g rest:Nat,z=((g:Int),(rest:Int))/\Gs WB R v1 v2 vl u2 ul top (nv vs) U q g rest) (λz=>z.1.toNat) ?_ fA _ ⟨g0,I,rfl,h0⟩ ?_
 ·rintro z nx2 ⟨g,rest,rfl,Y⟩ hnx
  simp only at hnx ⊢;have hrest:rest<4294967296:=Y.rest;have hgW:g<=4294967297:=Y.le;have wn1:i64.wrap ((b.length:Int)-1)=((Z+1:Nat):Int):=by rw [hb,bQ (by omega)]; omega
  have wn2:i64.wrap ((b.length:Int)-2)=((Z:Nat):Int):=by rw [hb,bQ (by omega)]; omega
  have wjn:i64.wrap ((i64.wrap ((j:Int)+(b.length:Int)))-2)=((j+Z:Nat):Int):=by rw [hb,bQ (n:=(j:Int)+_) (by omega),bQ (by omega)]; omega
  have dec:q<g->Gd (if decide (4294967296<=(u64.wrap ((rest:Int)+(u64.wrap (y1.n))))) then (eZ b J qs l0 (j:Int) nx (u64.wrap ((g:Int)-1))) else (nx2 (u64.wrap ((g:Int)-1),u64.wrap ((rest:Int)+(u64.wrap (y1.n)))))) Q:=λhlt=>by
   have er:u64.wrap ((rest:Int)+(u64.wrap (y1.n)))=((rest+v1:Nat):Int):=by
    rw [e1,fT (n:=(v1:Int)) (by omega),fT (by omega)]; omega
   have eg:u64.wrap ((g:Int)-1)=((g-1:Nat):Int):=by rw [fT (by omega)]; omega
   rw [er,eg];refine Gd.ite (λh=>hk _ (Y.over hS hq2 hv1 hlt (by rw [eW]; have:=O6 h; omega))) (λh=>hnx _ ⟨g-1,rest+v1,rfl,Y.next hlt (by rw [eW]; have:=Pc h; omega)⟩ ?_)
   simp only [O2];omega
  unfold nS;rw [hvs,wn1,wn2,wjn];refine Gd.ite (λh=>?_) (λh=>?_)
  ·have h:=O6 h
   refine Gd.ix (by omega) (by rw [O2]; exact hy1) (dec (Y.less hS hq1 hqW (.inl (by rw [eW]; omega))))
  ·have h:=Pc h
   refine Gd.ix (by omega) (by rw [O2]; exact hy2) (Gd.ix (by omega) (by rw [O2]; exact hz2) ?_)
   have eor:u64.wrap ((BitVec.ofInt (u64).bits (rB .u64 (rest:Int) 32) ||| BitVec.ofInt (u64).bits (u64.wrap (z2.n))).toNat)=((rest*WB+u2:Nat):Int):=by
    rw [yw ⟨by omega,by omega⟩ (by rw [e3]; omega),e3,eW]; omega
   have egv:u64.wrap ((g:Int)*(u64.wrap (y2.n)))=((g*v2:Nat):Int):=by
    have hb2:g*v2<=4294967296*4294967295:=Nat.mul_le_mul (by omega) (by omega)
    rw [e2,fT (n:=(v2:Int)) (by omega),show (g:Int)*(v2:Int)=((g*v2:Nat):Int) by rw [PT],fT (by omega)]
   rw [eor,egv];refine Gd.ite (λh2=>Gd.ix (by omega) (by rw [O2]; exact hy1) (dec (Y.less hS hq1 hqW (.inr ?_)))) (λh2=>hk g (Y.stop hS hq2 hv1 (by rw [eW]; omega) ?_))
   ·exact Int.ofNat_lt.1 (O6 h2)
   ·have:=Pc h2
    exact Int.ofNat_le.1 (Int.not_lt.1 this)
 ·simp only [fA,O2]
  have:g0<=4294967297:=h0.le;omega
theorem It {W R v1 v2 vl u2 ul u0 u1 V U q:Nat} (h:Fj W R v1 v2 vl u2 ul (u0*W+u1) V U) (Y:q*V<=U) (J:1<=v1) (hv1:v1<W) (hW:W<=2*v1) (I:u0<=v1) (Z:u1<W):
  Gs W R v1 v2 vl u2 ul (u0*W+u1) V U q ((u0*W+u1) / v1) ((u0*W+u1)%v1):=by
 have hm:(u0*W+u1)%v1<v1:=RQ _ J;refine ⟨(T7 J).2 (h.Mg Y),?_,by omega,?_⟩
 ·rw [Ub,Rq,T9]
 ·have h1:u0*W<=v1*W:=Ph _ I
  have O:u0*W+u1<(W+2)*v1:=by
   rw [Pm,Ub W v1]; omega
  have:=(T6 J).2 O;omega
theorem Cj {W R u0 u1 v1 v2 vl ul V X:Nat} (Y:X=(u0*W+u1)*R+ul) (O:V=(v1*W+v2)*R+vl) (Z:X<V) (hvl:vl<R) (I:v2<W):u0<=v1:=by
 rcases QS v1 u0 with h | h
 ·exfalso
  have h1:(v1+1)*W*R<=u0*W*R:=Ph _ (Ph _ h);have J:(v2+1)*R<=W*R:=Ph _ I;have e1:(v1+1)*W*R=v1*W*R+W*R:=by rw [Pm,Pm,SG]
  have e2:X=u0*W*R+u1*R+ul:=by rw [Y,Pm]
  have e3:V=v1*W*R+v2*R+vl:=by rw [O,Pm]
  rw [Pm] at J;omega
 ·exact h
theorem IB {q W D V P I J U0:Nat} (O:I+P*(q*V)=J) (Y:D*V*(P*W)+J=U0):(q+W*D)*V*P+I=U0:=by
 have e1:(q+W*D)*V*P=P*(q*V)+D*V*(P*W):=by
  rw [Pm,Pm,Ub P (q*V)]
  congr 1
  rw [Ub W D,Ua D W V,Ub W V,<- Ua D V W,Ua (D*V) W P,Ub W P]
 omega
theorem Kj {W x y V:Nat} (J:x<W) (I:y<V):x+W*y<W*V:=by
 have:W*(y+1)<=W*V:=Uc _ I;rw [T_] at this; omega
theorem I_ {P a x q V U:Nat} (hP:0<P) (J:a+P*x+P*(q*V)=a+P*U) (I:U<(q+1)*V):x<V:=by
 have e:P*(x+q*V)=P*U:=by rw [T_]; omega
 have:=Nat.eq_of_mul_eq_mul_left hP e;rw [Pm] at I;omega
theorem GG {b r134 vs:List bO}{r127:Int}{I N U0:Nat}{Q:List bO×List bO->Prop}
  (hb:b.length=I+2) (hvs:se r134 0 (((b.length:Int):Int).toNat)=vs) (hvl:vs.length=b.length) (hvw:Wf vs) (hN:N<=1000001)
  (O y2:bO) (hy1:vs[I+1]? = some O) (hy2:vs[I]? = some y2) (hnorm:2147483648<=O.n)
  (J u0:List bO) (hq0:J.length+b.length=N) (hqw:Wf J) (hu0:u0.length=N) (huw:Wf u0) (hstart:nv (u0.drop J.length)<nv vs) (hval:nv u0=U0)
  (hk:∀ qs u,qs.length=J.length->Wf qs->u.length=N->Wf u->nv qs*nv vs+nv u=U0->nv u<nv vs ->
   Gd (dF (0<=(b.length:Int)/\(b.length:Int)*4<=140737488355328) (jQ (λk Z n=>lR r127 u k Z n) (λZ=>some (qs,Z)) ((b.length:Int):Int).toNat 0 (List.replicate ((b.length:Int):Int).toNat (⟨0⟩:bO)))) Q):
  Gd (gG (λY n=>nP b r127 r134 Y.1 Y.2.1 Y.2.2 n) fA (J,u0,(J.length:Int)-1)) Q:=by
 have hy1w:=hvw O (Pb hy1); have hy2w:=hvw y2 (Pb hy2)
 have hVB:nv vs<=WB ^ b.length:=by have:=rV hvw; rw [hvl] at this; omega
 refine Gd.gG (λ(z:List bO×List bO×Int)=>z.1.length=J.length/\Wf z.1/\z.2.1.length=N/\Wf z.2.1/\-1<=z.2.2/\z.2.2<J.length/\nv (z.1.drop (z.2.2+1).toNat)*nv vs*WB ^ (z.2.2+1).toNat+nv z.2.1=U0/\nv (z.2.1.drop (z.2.2+1).toNat)<nv vs) (λz=>(z.2.2+1).toNat) ?_ fA _ ⟨rfl,hqw,hu0,huw,by simp only; omega,by simp only; omega,?_,?_⟩ (by simp only [fA]; omega)
 ·rintro ⟨qs,u,j⟩ nx ⟨h1,h2,h3,h4,h5,h6,h7,h8⟩ hnx
  simp only at h1 h2 h3 h4 h5 h6 h7 h8 hnx ⊢;unfold nP;refine Gd.ite (λhj=>?_) (λhj=>?_)
  ·have hj:=O6 hj
   obtain ⟨k,rfl⟩:∃ k:Nat,j=k:=⟨j.toNat,by omega⟩
   rw [show ((k:Int)+1).toNat=k+1 by omega] at h7 h8
   obtain ⟨t0,ht0⟩:∃ t,u[k+I+2]? = some t:=⟨_,OZ (by omega)⟩
   obtain ⟨t1,ht1⟩:∃ t,u[k+I+1]? = some t:=⟨_,OZ (by omega)⟩
   obtain ⟨t2,ht2⟩:∃ t,u[k+I]? = some t:=⟨_,OZ (by omega)⟩
   have w0:=h4 t0 (Pb ht0); have w1:=h4 t1 (Pb ht1); have w2:=h4 t2 (Pb ht2)
   have wjn:i64.wrap ((k:Int)+(b.length:Int))=((k+I+2:Nat):Int):=by rw [hb,bQ (by omega)]; omega
   have wjm:i64.wrap (((k+I+2:Nat):Int)-1)=((k+I+1:Nat):Int):=by rw [bQ (by omega)]; omega
   have wn1:i64.wrap ((b.length:Int)-1)=((I+1:Nat):Int):=by rw [hb,bQ (by omega)]; omega
   rw [hvs,wjn,wjm,wn1];have ey1:u64.wrap O.n=O.n:=fT (by omega)
   refine Gd.ix (by omega) (by rw [O2]; exact ht0) (Gd.ix (by omega) (by rw [O2]; exact ht1) (Gd.ix (by omega) (by rw [O2]; exact hy1) (Gd.nd (by rw [ey1]; omega) (Gd.ix (by omega) (by rw [O2]; exact hy1) (Gd.nd (by rw [ey1]; omega) ?_)))))
   rw [fT (n:=t0.n) (by omega),yw w0 w1,ey1]
   obtain ⟨x,hx⟩:∃ x,u[k]? = some x:=⟨_,OZ (by omega)⟩
   have hxw:=h4 x (Pb hx);have hU1:nv (u.drop k)=x.n.toNat+WB*nv (u.drop (k+1)):=by rw [qq hx,nv]
   have hUlt:nv (u.drop k)<WB*nv vs:=by rw [hU1]; exact Kj (by show x.n.toNat<4294967296; omega) h8
   have hVlt:nv vs<WB ^ (I+2):=by have:=rV hvw; rw [hvl,hb] at this; exact this
   have hz:nv (u.drop (k+1+(I+2)))=0:=by
    have e:=AR (u.drop (k+1)) (m:=I+2) (by rw [Qv]; omega)
    rw [QG] at e;exact zI e (by omega)
   have hVe:=FV hy1 hy2 (by rw [TM (by omega)]; rfl)
   have hXe:=FV (l:=u.drop (k+1)) (m:=I) (x:=t0) (y:=t1) (by rw [PJ,show k+1+(I+1)=k+I+2 by omega]; exact ht0) (by rw [PJ,show k+1+I=k+I+1 by omega]; exact ht1) (by rw [QG]; exact hz)
   have hUe:=IX (l:=u.drop k) (m:=I) (x:=t0) (y:=t1) (z:=t2) (by rw [PJ,show k+(I+2)=k+I+2 by omega]; exact ht0) (by rw [PJ,show k+(I+1)=k+I+1 by omega]; exact ht1) (by rw [PJ]; exact ht2) (by rw [QG,show k+(I+3)=k+1+(I+2) by omega]; exact hz)
   have hvl':nv (vs.take I)<WB ^ I:=by have:=rV (hvw.take I); rw [Pr,P6 (by omega)] at this; exact this
   have hul':nv ((u.drop k).take I)<WB ^ I:=by
    have:=rV (l:=(u.drop k).take I) (λz hz=>h4 z (List.mem_of_mem_drop (RF hz)));rw [Pr,Qv,P6 (by omega)] at this; exact this
   have hS:Fj WB (WB ^ I) O.n.toNat y2.n.toNat (nv (vs.take I)) t2.n.toNat (nv ((u.drop k).take I)) (t0.n.toNat*WB+t1.n.toNat) (nv vs) (nv (u.drop k)):=
    ⟨hVe,hUe,hvl',hul',by show t2.n.toNat<4294967296; omega,by show y2.n.toNat<4294967296; omega⟩
   have hle:t0.n.toNat<=O.n.toNat:=Cj hXe hVe h8 hvl' (by show y2.n.toNat<4294967296; omega)
   have hVpos:0<nv vs:=by omega
   obtain ⟨q,hq1,hq2,hqW⟩:∃ q,q*nv vs<=nv (u.drop k)/\nv (u.drop k)<(q+1)*nv vs/\q<WB:=by
    refine ⟨nv (u.drop k) / nv vs,Nat.div_mul_le_self _ _,?_,(T6 hVpos).2 hUlt⟩;have:=QK (nv (u.drop k) / nv vs);exact (T6 hVpos).1 this
   have hG:=It hS hq1 (show 1<=O.n.toNat by omega) (show O.n.toNat<WB by show O.n.toNat<4294967296; omega) (show WB<=2*O.n.toNat by show 4294967296<=2*O.n.toNat; omega) hle (show t1.n.toNat<WB by show t1.n.toNat<4294967296; omega)
   have hg0:=hG.le;have etop:t0.n*4294967296+t1.n=((t0.n.toNat*WB+t1.n.toNat:Nat):Int):=by
    show _=((t0.n.toNat*4294967296+t1.n.toNat:Nat):Int); omega
   have ey:O.n=((O.n.toNat:Nat):Int):=by omega
   have ed:Int.tdiv (t0.n*4294967296+t1.n) O.n=(((t0.n.toNat*WB+t1.n.toNat) / O.n.toNat:Nat):Int):=by
    rw [etop,ey]; rfl
   have em:Int.tmod (t0.n*4294967296+t1.n) O.n=(((t0.n.toNat*WB+t1.n.toNat)%O.n.toNat:Nat):Int):=by
    rw [etop,ey]; rfl
   rw [ed,em];generalize (t0.n.toNat*WB+t1.n.toNat) / O.n.toNat=g0 at hG hg0 ⊢;generalize (t0.n.toNat*WB+t1.n.toNat)%O.n.toNat=rest0 at hG ⊢;have eW:(WB:Nat)=4294967296:=rfl;rw [eW] at hg0;rw [fT (n:=(g0:Int)) (by omega)]
   refine Iu hb hvs hvl (by omega) (by omega) O y2 t2 hy1 hy2 ht2 (by omega) (by omega) (by omega) (by omega) (by omega) hS hq1 hq2 hqW (λg hg=>?_) hG
   refine Ic hvs hvl hvw h4 (by omega) (by omega) (by omega) (by omega) rfl hVB hUlt hq1 hq2 hqW hg (λl' f1 f2 f3 f4=>?_)
   have ek:((k:Int)-1+1).toNat=k:=by omega
   refine hnx _ ⟨by rw [Qh]; exact h1,h2.set (by rw [eW] at hqW; omega),by simp only; omega,f2,by simp only; omega,by simp only; omega,?_,?_⟩ (by simp only; omega)
   ·simp only
    rw [ek,qq (Pu (by omega)),nv,Rk (by omega)]
    rw [O2];rw [Uk] at h7;exact IB f3 h7
   ·simp only
    rw [ek];have e1:=AR l' (m:=k) (by omega)
    have e2:=AR u (m:=k) (by omega)
    have e3:l'.take k=u.take k:=by
     apply QE;intro i;rw [PR,PR]
     by_cases hi:i<k
     ·rw [O8 hi,O8 hi]; exact f4 i hi
     ·rw [O7 hi,O7 hi]
    rw [e3] at e1;refine I_ (a:=nv (u.take k)) (P:=WB ^ k) (Uj (by decide)) ?_ hq2
    omega
  ·have hj:=Pc hj
   rw [show (j+1).toNat=0 by omega,Qi,Ul,Rs] at h7
   rw [show (j+1).toNat=0 by omega,Qi] at h8
   exact hk qs u h1 h2 h3 h4 h7 h8
 ·simp only
  rw [show ((J.length:Int)-1+1).toNat=J.length by omega,RN]
  simp [nv,hval]
 ·simp only
  rw [show ((J.length:Int)-1+1).toNat=J.length by omega]
  exact hstart
theorem Bi {W S M u0 u1 hi:Nat} (J:W=S*M) (I:0<S):
  (u0+W*(u1+W*hi)) / S%W=(u1*W+u0) / S%W:=by
 have e:u0+W*(u1+W*hi)=(u1*W+u0)+S*(M*(W*hi)):=by
  have e1:W*(W*hi)=S*(M*(W*hi)):=by rw [<- Ua S M,<- J]
  rw [T_,e1,Ub W u1]; omega
 rw [e,Nat.add_mul_div_left _ _ I];have e2:M*(W*hi)=W*(M*hi):=by rw [<- Ua,Ub M W,Ua]
 rw [e2,Nat.add_mul_mod_self_left]
theorem CO {W S u0 T:Nat} (I:u0<W):(u0+W*T) / S / W=T / S:=by
 rw [Nat.div_div_eq_div_mul,Ub S W,<- Nat.div_div_eq_div_mul,Nat.add_mul_div_left _ _ (by omega),T5 I,Po]
theorem Mf {n:Int}{k:Nat} (I:k<=64):nr .u64 n (k:Int)=n / (2 ^ k:Nat):=by
 unfold nr;rw [show (min ((k:Int)).toNat u64.bits)=k by show min ((k:Int)).toNat 64=k; omega,Rv _ (Int.le_of_lt (Int.pow_pos (by decide)))]
 rw [Int.natCast_pow]; rfl
theorem DZ {A P d W D I Z:Nat} (h:A+P*D=Z) (O:D%W=d) (J:D / W=I):(A+P*d)+P*W*I=Z:=by
 have e:d+W*I=D:=by rw [<- O,<- J,T9]
 rw [Ua P W,Rb,<- T_,e,h]
theorem Fc {n s:Nat} (hs:s<=31) {u:List bO} (hu:Wf u) (hl:n<u.length) (hz:u.length<=1000001) {qs:List bO}{Q:List bO×List bO->Prop} (hlt:nv u / 2 ^ s<WB ^ n)
  (hk:∀ r,Wf r->r.length=n->nv r=nv u / 2 ^ s->Q (qs,r)):
  Gd (jQ (λk I n=>lR (s:Int) u k I n) (λI=>some (qs,I)) n 0 (List.replicate n (⟨0⟩:bO))) Q:=by
 have hS:0<(2:Nat) ^ s:=Uj (by decide)
 have hWS:WB=2 ^ s*2 ^ (32-s):=by rw [<- Ue,show s+(32-s)=32 by omega]
 refine Gd.jQ (λm k (z:List bO)=>k+m=n/\z.length=n/\Wf z/\nv (z.take k)+WB ^ k*(nv (u.drop k) / 2 ^ s)=nv u / 2 ^ s) ?_ ?_ _ 0 _ ⟨by omega,by simp,λy hy=>?_,by simp [nv]⟩
 ·rintro m k l nx ⟨h0,h1,h2,h3⟩ hnx
  obtain ⟨J,Y⟩:∃ t,u[k]? = some t:=⟨_,OZ (by omega)⟩
  obtain ⟨O,Z⟩:∃ t,u[k+1]? = some t:=⟨_,OZ (by omega)⟩
  have w0:=hu J (Pb Y); have w1:=hu O (Pb Z)
  have wk:i64.wrap ((k:Int)+1)=((k+1:Nat):Int):=by rw [bQ (by omega)]; omega
  unfold lR;rw [wk];refine Gd.ix (by omega) (by rw [O2]; exact Z) (Gd.ix (by omega) (by rw [O2]; exact Y) (Gd.nd (by omega) (Gd.gS (by omega) ?_)))
  rw [fT (n:=O.n) (by omega),yw w1 w0,Mf (by omega),wv,O2]
  have e1:O.n*4294967296+J.n=((O.n.toNat*WB+J.n.toNat:Nat):Int):=by
   show _=((O.n.toNat*4294967296+J.n.toNat:Nat):Int); omega
  have e2:(O.n*4294967296+J.n) / ((2 ^ s:Nat):Int)%4294967296=(((O.n.toNat*WB+J.n.toNat) / 2 ^ s%WB:Nat):Int):=by
   rw [e1]; rfl
  rw [e2];have hd:nv (u.drop k)=J.n.toNat+WB*nv (u.drop (k+1)):=by rw [qq Y,nv]
  have hd1:nv (u.drop (k+1))=O.n.toNat+WB*nv (u.drop (k+2)):=by rw [qq Z,nv]
  have hm:=Bi (u0:=J.n.toNat) (u1:=O.n.toNat) (hi:=nv (u.drop (k+2))) hWS hS;rw [<- hd1,<- hd] at hm;have hn:=CO (W:=WB) (S:=2 ^ s) (u0:=J.n.toNat) (T:=nv (u.drop (k+1))) (by show J.n.toNat<4294967296; omega)
  rw [<- hd] at hn;have hlt':(O.n.toNat*WB+J.n.toNat) / 2 ^ s%WB<WB:=RQ _ (by decide)
  refine hnx _ ⟨by omega,by rw [Qh]; exact h1,h2.set ⟨by omega,by have:(WB:Nat)=4294967296:=rfl; rw [this] at hlt'; omega⟩,?_⟩
  rw [vo (by omega),tE,Pr,P6 (by omega),Uk,O2]
  exact DZ h3 hm hn
 ·rintro k l ⟨h0,h1,h2,h3⟩
  have hk':k=n:=by omega
  subst hk';rw [Pg (by omega)] at h3
  have h0':=zI h3.symm hlt;rw [h0',Ud,Qt] at h3;exact Gd.ret (hk l h2 h1 h3)
 ·rw [TZ] at hy
  rw [hy.2]; simp
theorem LP {q V a b S u:Nat} (J:0<S) (O:V=b*S) (h:q*V+u=a*S) (Y:u<V):u / S=a-q*b/\a-q*b<b/\q*b<=a:=by
 have e:q*V=q*b*S:=by rw [O,Ua]
 have I:q*b<=a:=by
  have Z:q*b*S<=a*S:=by omega
  exact Nat.le_of_mul_le_mul_right Z J
 have e2:u=(a-q*b)*S:=by rw [Nat.mul_sub_right_distrib]; omega
 refine ⟨by rw [e2,Nat.mul_div_cancel _ J],?_,I⟩
 rw [e2,O] at Y;exact Nat.lt_of_mul_lt_mul_right Y
theorem MP {q a b:Nat} (I:a-q*b<b) (J:q*b<=a):q=a / b/\a-q*b=a%b:=by
 have:=(Nat.div_mod_unique (a:=a) (b:=b) (c:=a-q*b) (d:=q) (by omega)).2 ⟨by rw [Ub b q]; omega,I⟩
 exact ⟨this.1.symm,this.2.symm⟩
theorem Jr {W S M x B P:Nat} (I:W=S*M) (J:x*S<W) (Z:B<(x+1)*P):B*S<W*P:=by
 have O:x<M:=by rw [I,Ub] at J; exact T8 J
 have Y:(x+1)*S<=W:=by rw [I,Ub S M]; exact Ph _ O
 have hS:0<S:=by
  rcases Nat.eq_zero_or_pos S with h | h
  ·rw [h] at I; simp at I; rw [I] at J; omega
  ·exact h
 have h3:B*S<(x+1)*P*S:=(Nat.mul_lt_mul_right hS).2 Z;have h4:(x+1)*P*S=(x+1)*S*P:=by rw [Ua,Ub P S,<- Ua]
 have h5:(x+1)*S*P<=W*P:=Ph _ Y;omega
theorem Ie {a b:List bO} (ha:Wf a) (hb:Wf b) (hta:uJ a) (O:uJ b) (hne:b≠[]) (hza:a.length<=900000) (hzb:b.length<=900000):
  Gd (mQ a b) (λr=>Wf r.1/\Wf r.2/\r.1.length<=a.length/\r.2.length<=a.length/\nv r.1=nv a / nv b/\nv r.2=nv a%nv b):=by
 unfold mQ;refine Gd.eE (HW ha hb hta O (by omega) (by omega)) (λc hc=>Gd.ite (λh=>?_) (λh=>?_))
 ·have hlt:=hc.1.1 (O6 h)
  exact Gd.ret ⟨Wf.nil,ha,by simp,Pn _,by rw [T5 hlt]; rfl,by rw [QL hlt]⟩
 ·have hge:nv b<=nv a:=by
   have h:=Pc h;have:=mt hc.1.2 h;omega
  have hbl:0<b.length:=TX.2 hne;have hle:b.length<=a.length:=by
   rcases QS a.length b.length with h | h
   ·have:=ui ha hb O h; omega
   ·exact h
  refine Gd.ite (λY=>?_) (λY=>?_)
  ·have Y:=O6 Y
   have Y:b.length=1:=by omega
   obtain ⟨x,rfl⟩:=TU.1 Y;have hx:=hb x (by simp)
   have hx0:x.n≠0:=O x (by simp)
   refine Gd.ix (y:=x) (by omega) (by simp) (Gd.eE (DU ha (by omega) (d:=x.n) (by omega)) (λr hr=>Gd.ret ?_))
   obtain ⟨r1,r2,r3,r4⟩:=hr;have hm:nv a%x.n.toNat<x.n.toNat:=RQ _ (by omega)
   refine ⟨r1,?_,by simp only; omega,by simp at hle ⊢; omega,by rw [r3,AP],?_⟩
   ·refine Wf.one ?_
    rw [r4]; omega
   ·simp only
    rw [AP,AP,r4,O2]
  ·have Y:=Pc Y
   obtain ⟨I,J⟩:∃ I,b.length=I+2:=⟨b.length-2,by omega⟩
   have wn1:i64.wrap ((b.length:Int)-1)=((I+1:Nat):Int):=by rw [J,bQ (by omega)]; omega
   have wab:i64.wrap ((a.length:Int)-(b.length:Int))=((a.length-b.length:Nat):Int):=by rw [bQ (by omega)]; omega
   have wab1:i64.wrap (((a.length-b.length:Nat):Int)+1)=((a.length-b.length+1:Nat):Int):=by rw [bQ (by omega)]; omega
   rw [wn1,wab,wab1];obtain ⟨x,hx⟩:∃ t,b[I+1]? = some t:=⟨_,OZ (by omega)⟩
   have hxw:=hb x (Pb hx);have hx0:x.n≠0:=O x (by rw [TS,J]; exact hx)
   refine Gd.ix (by omega) (by rw [O2]; exact hx) (Gd.eE (MZ (x:=x.n) (by omega) hxw.2) ?_)
   rintro sv ⟨s,rfl,hs1,hs2,hs3⟩;refine Gd.eE (A2 ha (by omega) hs1) (λu0 hu0=>Gd.eE (A2 hb (by omega) hs1) (λv0 hv0=>?_))
   obtain ⟨p1,p2,p3,p4⟩:=hu0;obtain ⟨q1,q2,q3,t,q4,q5⟩:=hv0;refine Gd.nd (by omega) (Gd.nd (by omega) ?_)
   have hS:0<(2:Nat) ^ s:=Uj (by decide)
   have hWS:WB=2 ^ s*2 ^ (32-s):=by rw [<- Ue,show s+(32-s)=32 by omega]
   have hbs:nv b=nv (b.take (I+1))+WB ^ (I+1)*x.n.toNat:=by
    have:=qz hx;rw [Pg (by omega)] at this; exact this
   have hbt:nv (b.take (I+1))<WB ^ (I+1):=by
    have:=rV (hb.take (I+1)); rw [Pr,P6 (by omega)] at this; exact this
   have hb2:nv b<(x.n.toNat+1)*WB ^ (I+1):=by rw [Pm,Ub x.n.toNat]; omega
   have hvlt:nv v0<WB ^ (I+2):=by
    rw [q3,Uk,Ub _ WB];exact Jr hWS hs3 hb2
   have hvs:nv (v0.take b.length)=nv v0/\Wf (v0.take b.length)/\(v0.take b.length).length=b.length:=by
    refine ⟨?_,q1.take _,by rw [Pr]; omega⟩
    have e:=AR v0 (m:=b.length) (by omega)
    have hz:nv (v0.drop b.length)=0:=zI e (by rw [J]; exact hvlt)
    rw [hz,Ud,Qt] at e;exact e.symm
   have hsl:se v0 0 (((b.length:Int):Int).toNat)=v0.take b.length:=by
    rw [O2]; rfl
   generalize v0.take b.length=vs at hvs hsl;obtain ⟨v1,v2,v3⟩:=hvs;obtain ⟨y1,hy1⟩:∃ t,vs[I+1]? = some t:=⟨_,OZ (by omega)⟩
   obtain ⟨y2,hy2⟩:∃ t,vs[I]? = some t:=⟨_,OZ (by omega)⟩
   have hy1w:=v2 y1 (Pb hy1);have hVS:nv vs=nv b*2 ^ s:=by rw [v1,q3]
   have hnorm:2147483648<=y1.n:=by
    have e1:nv vs=nv (vs.take (I+1))+WB ^ (I+1)*y1.n.toNat:=by
     have:=qz hy1;rw [Pg (by omega)] at this; exact this
    have e2:nv (vs.take (I+1))<WB ^ (I+1):=by
     have:=rV (v2.take (I+1)); rw [Pr,P6 (by omega)] at this; exact this
    have e3:WB ^ (I+1)*x.n.toNat*2 ^ s<=nv b*2 ^ s:=Ph _ (by omega)
    rw [Ua] at e3;have e4:WB ^ (I+1)*(x.n.toNat*2 ^ s)<WB ^ (I+1)*(y1.n.toNat+1):=by rw [T_ (WB ^ (I+1)) y1.n.toNat 1]; omega
    have e5:=T8 e4;omega
   have hst:nv (u0.drop (a.length-b.length+1))<nv vs:=by
    have e:=AR u0 (m:=a.length-b.length+1) (by omega)
    have Y:WB ^ (I+1)<=nv b:=by have:=DJ hb O hne; rw [J] at this; exact this
    have h2:nv a<WB ^ a.length:=rV ha;have h3:nv u0<WB ^ a.length*2 ^ s:=by rw [p3]; exact (Nat.mul_lt_mul_right hS).2 h2
    have h4:WB ^ a.length*2 ^ s=WB ^ (a.length-b.length+1)*(WB ^ (I+1)*2 ^ s):=by
     rw [<- Ua,<- Ue]; congr 2; omega
    have h5:nv (u0.drop (a.length-b.length+1))<WB ^ (I+1)*2 ^ s:=by
     rw [h4] at h3;exact T8 (a:=WB ^ (a.length-b.length+1)) (by omega)
    have h6:WB ^ (I+1)*2 ^ s<=nv b*2 ^ s:=Ph _ Y;omega
   have Z:((a.length-b.length:Nat):Int)=((List.replicate (a.length-b.length+1) (⟨0⟩:bO)).length:Int)-1:=by
    rw [Qe]; omega
   rw [O2,Z];refine GG (N:=a.length+1) (U0:=nv a*2 ^ s) J hsl v3 v2 (by omega) y1 y2 hy1 hy2 hnorm _ u0 (by rw [Qe]; omega) (λy hy=>by rw [TZ] at hy; rw [hy.2]; simp) p2 p1 (by rw [Qe]; exact hst) p3 ?_
   intro qs u f1 f2 f3 f4 f5 f6;obtain ⟨g1,g2,g3⟩:=LP hS hVS f5 f6;obtain ⟨g4,g5⟩:=MP g2 g3;refine Gd.nd (by omega) ?_
   rw [O2];refine Fc hs1 f4 (by omega) (by omega) ?_ (λr r1 r2 r3=>⟨f2,r1,?_,?_,g4,?_⟩)
   ·rw [g1]; have:=rV hb; omega
   ·simp only; rw [f1,Qe]; omega
   ·simp only; omega
   ·simp only; rw [r3,g1,g5]
theorem vI {w:List bO} (J:Wf w) (ht:uJ w):nv w=0↔w=[]:=by
 constructor
 ·intro h
  rcases TN w with I | ⟨a,y,I⟩
  ·exact I
  ·have:=DJ J ht (by rw [I]; simp)
   have O:0<WB ^ (w.length-1):=Uj (by decide)
   omega
 ·intro h; rw [h]; rfl
theorem IW {a b:List bO} (J:Wf a) (O:Wf b) (Y:uJ a) (Z:uJ b) (h:nv a=nv b):a=b:=by
 rcases RX a.length b.length with I | I | I
 ·have:=ui J O Z I; omega
 ·exact IV J O I h
 ·have:=ui O J Y I; omega
theorem rZ.ext' {a b:LI} (I:rZ a) (J:rZ b) (h:fM a=fM b):a=b:=by
 obtain ⟨O,Y⟩:=a; obtain ⟨Z,bw⟩:=b
 have za:=vI I.wf I.tp; have zb:=vI J.wf J.tp
 have sa:=I.sign; have sb:=J.sign
 simp only [fM] at h za zb sa sb;have key:O=Z->Y=bw->(aB.mk O Y)=aB.mk Z bw:=by rintro rfl rfl; rfl
 cases O <;> cases Z <;> simp at h sa sb
 ·exact key rfl (IW I.wf J.wf I.tp J.tp (by omega))
 ·have:nv bw=0:=by omega
  exact absurd (zb.1 this) sb
 ·have:nv Y=0:=by omega
  exact absurd (za.1 this) sa
 ·exact key rfl (IW I.wf J.wf I.tp J.tp (by omega))
def Mz (A B:Nat):Nat:=if B=0 then 0 else 2*Nat.log2 (A*B)+2+(if A<B then 1 else 0)
theorem LS {A B:Nat} (hB:B≠0):Mz B (A%B)<Mz A B:=by
 unfold Mz;rw [O7 hB]
 by_cases hR:A%B=0
 ·rw [O8 hR]; omega
 ·rw [O7 hR]
  have hlt:A%B<B:=RQ _ (by omega)
  rw [O7 (by omega:¬ B<A%B)]
  by_cases I:A<B
  ·rw [O8 I,QL I,Ub B A]; omega
  ·rw [O7 I]
   have hle:2*(B*(A%B))<=A*B:=by
    have h1:A%B+B*(A / B)=A:=T9 A B;have O:1<=A / B:=(T7 (by omega)).2 (by omega)
    have h3:B*1<=B*(A / B):=Uc _ O;have Y:B*(2*(A%B))<=B*A:=Uc _ (by omega)
    rw [Ub A B,<- Ua,Ub 2 B,Ua]; exact Y
   have J:0<B*(A%B):=Nat.mul_pos (by omega) (by omega)
   have h5:Nat.log2 (B*(A%B))<Nat.log2 (A*B):=by
    have h6:2 ^ Nat.log2 (B*(A%B))<=B*(A%B):=Nat.log2_self_le (by omega)
    have Z:2 ^ (Nat.log2 (B*(A%B))+1)<=A*B:=by rw [Uk]; omega
    exact (Nat.le_log2 (by omega)).2 Z
   omega
theorem zS (n:Nat):WB ^ n=2 ^ (32*n):=by rw [Ui]
theorem LQ {a b:List bO} (O:Wf a) (Y:Wf b) (Z:a.length<=900000) (hzb:b.length<=900000):Mz (nv a) (nv b)<=200000000:=by
 unfold Mz
 split
 ·omega
 ·rename_i h
  have h1:Nat.log2 (nv a*nv b)<=64000000:=by
   by_cases I:nv a*nv b=0
   ·rw [I]; decide
   ·have J:nv a*nv b<2 ^ (32*(a.length+b.length)):=by
     rw [<- zS,Ue];exact Nat.mul_lt_mul_of_lt_of_le (rV O) (Nat.le_of_lt (rV Y)) (Uj (by decide))
    have:=(Nat.log2_lt I).2 J;omega
  split <;> omega
theorem sign_zero {a:LI} (h:rZ a):eP a=0↔nv a.words=0:=by
 unfold eP;rw [vI h.wf h.tp]
 by_cases I:a.words=[]
 ·simp [I]
 ·have:a.words.length≠0:=λh=>I (Py h)
  rw [O7 (by simp; exact I)]
  constructor
  ·intro h; split at h <;> omega
  ·intro h; exact absurd h I
theorem rZ.pos {w:List bO} (I:Wf w) (ht:uJ w):rZ (aB.mk false w):=⟨I,ht,λh=>by simp at h⟩
theorem Is {a b:LI} (ha:rZ a) (hb:rZ b) {L:Nat} (hL:L<=900000) (hza:a.words.length<=L) (hzb:b.words.length<=L):
  Gd (oJ a b) (λr=>rZ r/\r.minus=false/\r.words.length<=L/\nv r.words=Nat.gcd (nv a.words) (nv b.words)):=by
 unfold oJ;refine Gd.gG (λ(z:Bool×List bO×Bool×List bO)=>z.1=false/\z.2.2.1=false/\Wf z.2.1/\uJ z.2.1/\Wf z.2.2.2/\uJ z.2.2.2/\z.2.1.length<=L/\z.2.2.2.length<=L/\Nat.gcd (nv z.2.2.2) (nv z.2.1)=Nat.gcd (nv a.words) (nv b.words)) (λz=>Mz (nv z.2.2.2) (nv z.2.1)) ?_ fA _ ⟨rfl,rfl,hb.wf,hb.tp,ha.wf,ha.tp,hzb,hza,rfl⟩ ?_
 ·rintro ⟨c1,l1,c2,l2⟩ nx ⟨h1,h2,J,O,h5,h6,h7,h8,Y⟩ I
  simp only at h1 h2 J O h5 h6 h7 h8 Y I ⊢;subst h1 h2;unfold tW rL;have hs:=sign_zero (rZ.pos J O);simp only at hs;refine Gd.ite (λh=>?_) (λh=>?_)
  ·have Z:nv l1≠0:=by
    intro e;rw [hs.2 e] at h; simp at h
   refine Gd.eE (Ie h5 J h6 O (λe=>Z (by rw [e]; rfl)) (by omega) (by omega)) (λr hr=>?_)
   obtain ⟨r1,r2,r3,r4,r5,r6⟩:=hr;refine Gd.nd (by omega) (Gd.eE (sK false r.2 r2 (by omega)) (λs hs'=>?_))
   obtain ⟨s1,s2,s3,s4⟩:=hs';have hm:s.minus=false:=by
    rcases TA s.minus with h | h
    ·have:=s4.1 h; simp at this
    ·exact h
   refine I _ ⟨hm,rfl,s1.wf,s1.tp,J,O,by simp only; omega,h7,?_⟩ ?_
   ·simp only
    rw [s3,r6,<- Y,<- Nat.gcd_comm (nv l1) (nv l2),Nat.gcd_rec (nv l1) (nv l2),Nat.gcd_comm]
   ·simp only
    rw [s3,r6];exact LS Z
  ·have Z:nv l1=0:=by
    apply hs.1;simpa using h
   rw [Z,Nat.gcd_zero_right] at Y;exact Gd.ret ⟨rZ.pos h5 h6,rfl,h8,Y⟩
 ·simp only [fA]
  have:=LQ ha.wf hb.wf (by omega) (by omega)
  omega
theorem Lp {a b:LI} (Y:rZ a) (Z:rZ b) (hm:a.minus=false) (h0:nv b.words≠0) (J:a.words.length<=900000) (O:b.words.length<=900000):
  Gd (cM a b) (λr=>rZ r.1/\r.1.minus=false/\r.1.words.length<=a.words.length/\nv r.1.words=nv a.words / nv b.words):=by
 unfold cM lA;refine Gd.eE (Ie Y.wf Z.wf Y.tp Z.tp (λe=>h0 (by rw [e]; rfl)) J O) (λr hr=>?_)
 obtain ⟨r1,r2,r3,r4,r5,r6⟩:=hr;refine Gd.nd (by omega) (Gd.eE (sK _ _ r1 (by omega)) (λs hs=>Gd.nd (by omega) (Gd.eE (sK _ _ r2 (by omega)) (λt ht=>?_))))
 obtain ⟨s1,s2,s3,s4⟩:=hs;obtain ⟨t1,t2,t3,t4⟩:=ht;rw [hm] at s4 t4;have I:s.minus=false:=by
  rcases TA s.minus with h | h
  ·have:=s4.1 h; simp at this
  ·exact h
 refine Gd.ite (λh=>?_) (λh=>Gd.ret ⟨s1,I,by simp only; omega,by simp only; rw [s3,r5]⟩)
 have:=t4.1 h; simp at this
abbrev LR:=aA
structure oc (r:LR):Prop where
 n:rZ r.N
 d:rZ r.D
 pos:r.D.minus=false
 nz:nv r.D.words≠0
 NQ:Nat.Coprime (nv r.N.words) (nv r.D.words)
def rv (r:LR):Rat:=Rat.divInt (fM r.N) (fM r.D)
theorem pB {a:LI} (h:a.minus=false):fM a=(nv a.words:Nat):=by unfold fM; rw [h]; rfl
theorem jU (a:LI):(fM a).natAbs=nv a.words:=by
 unfold fM
 split <;> omega
theorem oc.eq {r:LR} (h:oc r):rv r=Rat.mk' (fM r.N) (nv r.D.words) h.nz (by rw [jU]; exact h.NQ):=by
 unfold rv;rw [pB h.pos];exact (Rat.num_divInt_den (Rat.mk' (fM r.N) (nv r.D.words) h.nz (by rw [jU]; exact h.NQ)))
theorem oc.num {r:LR} (h:oc r):(rv r).num=fM r.N:=by rw [h.eq]
theorem oc.den {r:LR} (h:oc r):(rv r).den=nv r.D.words:=by rw [h.eq]
theorem oc.ext' {r s:LR} (h:oc r) (k:oc s) (e:rv r=rv s):r=s:=by
 have e1:fM r.N=fM s.N:=by rw [<- h.num,<- k.num,e]
 have e2:nv r.D.words=nv s.D.words:=by rw [<- h.den,<- k.den,e]
 have I:=h.n.ext' k.n e1;have J:=h.d.ext' k.d (by rw [pB h.pos,pB k.pos,e2])
 obtain ⟨a,b⟩:=r; obtain ⟨c,d⟩:=s
 simp only at I J; rw [I,J]
def RL (r:LR) (L:Nat):Prop:=r.N.words.length<=L/\r.D.words.length<=L
theorem RL.mono {r:LR}{L M:Nat} (h:RL r L) (I:L<=M):RL r M:=⟨P0 h.1 I,P0 h.2 I⟩
theorem xu {g a b:Int} (J:g≠0) (I:b≠0):Rat.divInt (g*a) (g*b)=Rat.divInt a b:=by
 rw [Rat.divInt_eq_divInt_iff (Int.mul_ne_zero J I) I];rw [Int.mul_comm g a,TF]
theorem M7 {n d g:LI} (hn:rZ n) (hd:rZ d) (hg:rZ g) (hdm:d.minus=false) (hd0:nv d.words≠0) (Y:nv g.words=Nat.gcd (nv n.words) (nv d.words))
  (hzn:n.words.length<=900000) (hzd:d.words.length<=900000) (hzg:g.words.length<=900000):
  Gd ((cM (aB.mk false n.words) g).bind λJ=>(cM (aB.mk d.minus d.words) g).bind λZ=>if n.minus then (some (aA.mk (aB.mk (decide (0<(J.1.words.length:Int))) J.1.words) Z.1)) else (some (aA.mk (aB.mk false J.1.words) Z.1)))
   (λr=>oc r/\r.N.words.length<=n.words.length/\r.D.words.length<=d.words.length/\rv r=Rat.divInt (fM n) (fM d)):=by
 have hg0:nv g.words≠0:=by
  rw [Y];exact Nat.ne_of_gt (Nat.gcd_pos_of_pos_right _ (by omega))
 have gN:nv g.words ∣ nv n.words:=by rw [Y]; exact Nat.gcd_dvd_left _ _
 have gD:nv g.words ∣ nv d.words:=by rw [Y]; exact Nat.gcd_dvd_right _ _
 have O:Nat.Coprime (nv n.words / nv g.words) (nv d.words / nv g.words):=by
  rw [Y]; exact Nat.coprime_div_gcd_div_gcd (Nat.gcd_pos_of_pos_right _ (by omega))
 obtain ⟨n',hn'⟩:=gN;obtain ⟨d',I⟩:=gD;have en:nv n.words / nv g.words=n':=by rw [hn',Nat.mul_div_cancel_left _ (by omega)]
 have ed:nv d.words / nv g.words=d':=by rw [I,Nat.mul_div_cancel_left _ (by omega)]
 have hd0':d'≠0:=by intro h; rw [h] at I; simp at I; exact hd0 I
 refine Gd.eE (Lp (a:=aB.mk false n.words) (rZ.pos hn.wf hn.tp) hg rfl hg0 hzn hzg) (λr hr=>Gd.eE (Lp (a:=aB.mk d.minus d.words) hd hg hdm hg0 hzd hzg) (λt ht=>?_));obtain ⟨r1,r2,r3,r4⟩:=hr;obtain ⟨t1,t2,t3,t4⟩:=ht;simp only at r3 r4 t3 t4;rw [en] at r4 O;rw [ed] at t4 O;have hd2:fM d=(nv g.words:Int)*(d':Int):=by rw [pB hdm,I,PT]
 have ht2:fM t.1=(d':Int):=by rw [pB t2,t4]
 refine Gd.ite (λh=>Gd.ret ?_) (λh=>Gd.ret ?_)
 ·have hN:rZ (aB.mk (decide (0<(r.1.words.length:Int))) r.1.words):=⟨r1.wf,r1.tp,λh e=>by simp only at h e; rw [e] at h; simp at h⟩
  refine ⟨⟨hN,t1,t2,by simp only; omega,by simp only; rw [r4,t4]; exact O⟩,r3,t3,?_⟩
  have hi:fM (aB.mk (decide (0<(r.1.words.length:Int))) r.1.words) = -(n':Int):=by
   unfold fM;simp only;rw [r4]
   by_cases hl:r.1.words=[]
   ·rw [hl] at r4 ⊢
    have:n'=0:=r4.symm;rw [this]; simp
   ·have:=TX.2 hl
    rw [O8 (by simp; omega)]
  have tK:fM n=(nv g.words:Int)*(-(n':Int)):=by
   unfold fM; rw [O8 h,hn',PT,Int.mul_neg]
  unfold rv;simp only;rw [hi,ht2,tK,hd2,xu (by omega) (by omega)]
 ·refine ⟨⟨rZ.pos r1.wf r1.tp,t1,t2,by simp only; omega,by simp only; rw [r4,t4]; exact O⟩,r3,t3,?_⟩
  have hi:fM (aB.mk false r.1.words)=(n':Int):=by
   rw [pB rfl]; simp only; rw [r4]
  have tK:fM n=(nv g.words:Int)*(n':Int):=by
   rw [pB h,hn',PT]
  unfold rv;simp only;rw [hi,ht2,tK,hd2,xu (by omega) (by omega)]
theorem DK {w:List bO} (h:decide ((w.length:Int)=1)=true):∃ x,w=[x]:=by
 have:=O6 h;exact TU.1 (by omega)
theorem FX {x:bO} (I:0<=x.n):nv [x]=1↔x.n=1:=by rw [AP]; omega
theorem I9 {n d:LI} (hn:rZ n) (hd:rZ d) (hdm:d.minus=false) (hd0:nv d.words≠0) (hzn:n.words.length<=900000) (hzd:d.words.length<=900000):
  Gd (mO d.minus d.words n.minus n.words) (λr=>oc r/\r.N.words.length<=n.words.length/\r.D.words.length<=d.words.length/\rv r=Rat.divInt (fM n) (fM d)):=by
 have self:Nat.gcd (nv n.words) (nv d.words)=1->Gd (some (aA.mk (aB.mk n.minus n.words) (aB.mk d.minus d.words))) (λr=>oc r/\r.N.words.length<=n.words.length/\r.D.words.length<=d.words.length/\rv r=Rat.divInt (fM n) (fM d)):=λhg=>
  Gd.ret ⟨⟨hn,hd,hdm,hd0,hg⟩,Pn _,Pn _,rfl⟩
 have part:Gd ((oJ (aB.mk n.minus n.words) (aB.mk d.minus d.words)).bind λI=>if decide ((I.words.length:Int)=1) then (idx I.words 0 λy160=>if decide (y160.n=1) then (some (aA.mk (aB.mk n.minus n.words) (aB.mk d.minus d.words))) else ((cM (aB.mk false n.words) I).bind λO=>(cM (aB.mk d.minus d.words) I).bind λZ=>if n.minus then (some (aA.mk (aB.mk (decide (0<(O.1.words.length:Int))) O.1.words) Z.1)) else (some (aA.mk (aB.mk false O.1.words) Z.1)))) else ((cM (aB.mk false n.words) I).bind λJ=>(cM (aB.mk d.minus d.words) I).bind λY=>if n.minus then (some (aA.mk (aB.mk (decide (0<(J.1.words.length:Int))) J.1.words) Y.1)) else (some (aA.mk (aB.mk false J.1.words) Y.1))))
   (λr=>oc r/\r.N.words.length<=n.words.length/\r.D.words.length<=d.words.length/\rv r=Rat.divInt (fM n) (fM d)):=by
  refine Gd.eE (Is (L:=900000) hn hd (by omega) hzn hzd) (λg hg=>?_)
  obtain ⟨g1,g2,g3,g4⟩:=hg;refine Gd.ite (λh=>?_) (λh=>M7 hn hd g1 hdm hd0 g4 hzn hzd g3);obtain ⟨x,hx⟩:=DK h;have hxw:=g1.wf x (by rw [hx]; simp)
  refine Gd.ix (y:=x) (by omega) (by rw [hx]; rfl) (Gd.ite (λh2=>self ?_) (λh2=>M7 hn hd g1 hdm hd0 g4 hzn hzd g3))
  rw [<- g4,hx,FX hxw.1]; exact O6 h2
 unfold mO;refine Gd.ite (λh=>?_) (λh=>part);obtain ⟨x,hx⟩:=DK h;have hxw:=hd.wf x (by rw [hx]; simp)
 refine Gd.ix (y:=x) (by omega) (by rw [hx]; rfl) (Gd.ite (λh2=>self ?_) (λh2=>part))
 have:=(FX hxw.1).2 (O6 h2);rw [hx,this,Nat.gcd_one_right]
theorem wW {n d:LI} (hn:rZ n) (hd:rZ d) (J:nv d.words≠0) (hzn:n.words.length<=900000) (hzd:d.words.length<=900000):
  Gd (mJ n d) (λr=>oc r/\r.N.words.length<=n.words.length/\r.D.words.length<=d.words.length/\rv r=Rat.divInt (fM n) (fM d)):=by
 unfold mJ;refine Gd.ite (λh=>?_) (λh=>I9 hn hd h J hzn hzd);refine Gd.eE (Cr hn (by omega)) (λn' O=>Gd.eE (Cr hd (by omega)) (λY I=>?_))
 have e:nv Y.words=nv d.words:=by rw [<- jU,I.2.2,Int.natAbs_neg,jU]
 have hm:Y.minus=false:=by
  have Z:=I.2.2;unfold fM at Z;rw [O8 h] at Z;rcases TA Y.minus with h2 | h2
  ·rw [O8 h2] at Z; omega
  ·exact h2
 refine (I9 O.1 I.1 hm (by rw [e]; exact J) (by omega) (by omega)).mono (λr hr=>⟨hr.1,by omega,by omega,?_⟩)
 rw [hr.2.2.2,O.2.2,I.2.2];rw [Rat.neg_divInt_neg]
theorem Lx {r:LR} (h:oc r):fM r.D≠0:=by rw [pB h.pos]; have:=h.nz; omega
theorem ES {a b c:LI} (h:fM c=fM a*fM b) (I:nv a.words≠0) (J:nv b.words≠0):nv c.words≠0:=by
 rw [<- jU,h,Int.natAbs_mul,jU,jU];exact Nat.mul_ne_zero I J
theorem vM {a b:LR} (J:oc a) (O:oc b) {A B:Nat} (la:RL a A) (lb:RL b B) (hz:A+B<=800000):
  Gd (gJ a b) (λr=>oc r/\RL r (A+B+1)/\rv r=rv a+rv b):=by
 have:=la.1; have:=la.2; have:=lb.1; have:=lb.2
 unfold gJ;refine Gd.eE (uR J.n O.d (by omega)) (λx Z=>Gd.eE (uR O.n J.d (by omega)) (λy hy=>Gd.eE (Ch Z.1 hy.1 (by omega) (by omega)) (λs hs=>Gd.eE (uR J.d O.d (by omega)) (λz I=>?_))))
 refine Gd.eE (wW hs.1 I.1 (ES I.2.2 J.nz O.nz) (by omega) (by omega)) (λr Y=>Gd.ret ⟨Y.1,⟨by omega,by omega⟩,?_⟩)
 rw [Y.2.2.2,hs.2.2,Z.2.2,hy.2.2,I.2.2];unfold rv;rw [Rat.divInt_add_divInt _ _ (Lx J) (Lx O)]
theorem F5 {a:LR} (I:oc a) {A:Nat} (la:RL a A) (O:A<=800000):
  Gd (nH a) (λr=>oc r/\RL r A/\rv r = -rv a):=by
 have:=la.1; have:=la.2
 unfold nH;refine Gd.eE (Cr I.n (by omega)) (λx J=>Gd.ret ⟨⟨J.1,I.d,I.pos,I.nz,?_⟩,⟨by simp only; omega,la.2⟩,?_⟩)
 ·have e:nv x.words=nv a.N.words:=by rw [<- jU,J.2.2,Int.natAbs_neg,jU]
  simp only; rw [e]; exact I.NQ
 ·unfold rv
  simp only;rw [J.2.2,Rat.neg_divInt]
theorem xf {a b:LR} (O:oc a) (Y:oc b) {A B:Nat} (la:RL a A) (lb:RL b B) (Z:A+B<=800000):
  Gd (iU a b) (λr=>oc r/\RL r (A+B+1)/\rv r=rv a-rv b):=by
 unfold iU;refine Gd.eE (F5 Y lb (by omega)) (λc I=>Gd.eE (vM O I.1 la I.2.1 Z) (λr J=>Gd.ret ⟨J.1,J.2.1,?_⟩))
 rw [J.2.2,I.2.2,Rat.sub_eq_add_neg]
theorem yC {a b:LR} (J:oc a) (O:oc b) {A B:Nat} (la:RL a A) (lb:RL b B) (hz:A+B<=800000):
  Gd (kY a b) (λr=>oc r/\RL r (A+B)/\rv r=rv a*rv b):=by
 have:=la.1; have:=la.2; have:=lb.1; have:=lb.2
 unfold kY;refine Gd.eE (uR J.n O.n (by omega)) (λx Z=>Gd.eE (uR J.d O.d (by omega)) (λz I=>?_))
 refine Gd.eE (wW Z.1 I.1 (ES I.2.2 J.nz O.nz) (by omega) (by omega)) (λr Y=>Gd.ret ⟨Y.1,⟨by omega,by omega⟩,?_⟩)
 rw [Y.2.2.2,Z.2.2,I.2.2];unfold rv;rw [Rat.divInt_mul_divInt]
theorem F7 {r:LR} (h:oc r):rv r=0↔nv r.N.words=0:=by
 have hn:=h.num;rw [<- jU,Int.natAbs_eq_zero,<- hn,Rat.num_eq_zero]
theorem um {n:Int} (h:-9223372036854775808<=n/\n<=9223372036854775807):Gd (jN n) (λr=>oc r/\RL r 2/\rv r=(n:Rat)):=by
 unfold jN;refine Gd.eE (AS h) (λx O=>Gd.eE (AS (n:=1) (by omega)) (λy I=>Gd.ret ?_))
 have hm:y.minus=false:=by
  have Y:=I.2.2;unfold fM at Y;rcases TA y.minus with J | J
  ·rw [O8 J] at Y; omega
  ·exact J
 have Z:nv y.words=1:=by rw [<- jU,I.2.2]; rfl
 refine ⟨⟨O.1,I.1,hm,by simp only; omega,by simp only; rw [Z]; exact Nat.coprime_one_right _⟩,⟨O.2.1,I.2.1⟩,?_⟩
 unfold rv;simp only;rw [O.2.2,I.2.2,Rat.divInt_eq_div,Rat.intCast_one]; grind
theorem FE {n d:Int} (h:-9223372036854775808<=n/\n<=9223372036854775807) (k:-9223372036854775808<=d/\d<=9223372036854775807) (Z:d≠0):
  Gd (qw n d) (λr=>oc r/\RL r 2/\rv r=(n:Rat) / (d:Rat)):=by
 unfold qw;refine Gd.eE (AS h) (λx O=>Gd.eE (AS k) (λy I=>?_));have Y:nv y.words≠0:=by rw [<- jU,I.2.2]; omega
 refine Gd.eE (wW O.1 I.1 Y (by omega) (by omega)) (λr J=>Gd.ret ⟨J.1,⟨by omega,by omega⟩,?_⟩)
 rw [J.2.2.2,O.2.2,I.2.2,Rat.divInt_eq_div]
abbrev bl (s:OX):List UInt8:=s.data.toList
def ba (l:List UInt8):OX:=⟨l.toArray⟩
@[simp] theorem Fy (l:List UInt8):bl (ba l)=l:=rfl
@[simp] theorem HO (s:OX):ba (bl s)=s:=by
 show (⟨s.data.toList.toArray⟩:OX)=s;rw [Array.toArray_toList]
theorem Eh {a b:OX} (h:bl a=bl b):a=b:=by rw [<- HO a,h,HO]
theorem B2 (s:OX):(bl s).length=s.size:=by show s.data.toList.length=s.data.size; exact Array.length_toList
theorem gM (l:List UInt8):(ba l).size=l.length:=(B2 (ba l)).symm
theorem HR (a b:OX):bl (a++b)=bl a++bl b:=by show (a++b).data.toList=_; simp
theorem Ef (a b:List UInt8):ba a++ba b=ba (a++b):=Eh (HR _ _)
theorem wJ {a b:List UInt8} (h:ba a=ba b):a=b:=by have:=P4 bl h; simpa using this
theorem Eg (s:OX) (i j:Nat):bl (s.extract i j)=((bl s).take j).drop i:=by
 show (s.extract i j).data.toList=(s.data.toList.take j).drop i;simp [ByteArray.data_extract,Array.toList_extract,Re]
theorem q7 (l:List UInt8) (i j:Nat):(ba l).extract i j=ba ((l.take j).drop i):=Eh (by rw [Eg,Fy,Fy])
theorem Jh (a b:OX):(a++b).size=a.size+b.size:=by rw [<- B2,HR,Pj,B2,B2]
theorem s6 (c:UInt8):∀ (l:List UInt8),(c ∉ l/\Lib.indexByte l c = -1)\/∃ a b,l=a++c::b/\c ∉ a/\Lib.indexByte l c=a.length
 | []=>.inl ⟨by simp,rfl⟩
 | x::l=>by
  by_cases e:x=c
  ·subst e
   exact .inr ⟨[],l,rfl,by simp,by simp [Lib.indexByte]⟩
  ·have J:(x == c)=false:=by simpa using e
   rcases s6 c l with ⟨O,I⟩ | ⟨a,b,rfl,I,Y⟩
   ·refine .inl ⟨by simp [O]; exact λh=>e h.symm,?_⟩
    simp [Lib.indexByte,J,I]
   ·refine .inr ⟨x::a,b,rfl,by simp [I]; exact λh=>e h.symm,?_⟩
    simp only [Lib.indexByte,J,Y];rw [O7 (by simp),O7 (by simp)]
    simp only [Pa]; omega
theorem Em (c:UInt8):jL (ba [c])=[⟨c.toNat⟩]:=by simp [jL,ba]
theorem Ds (s:OX) (c:UInt8):gH s (ba [c])=some (Lib.indexByte (bl s) c):=by
 unfold gH eY
 by_cases e:ba [c]=s
 ·subst e
  rw [O8 (by simp)]
  simp [Lib.indexByte]
 ·rw [O7 (by simp [gM,e]),O8 (by simp [gM]),Em]
  simp [idx,LV]
theorem Gt (l:List UInt8):jL (ba l)=l.map λb=>(⟨b.toNat⟩:U8):=rfl
theorem Dc (l:List UInt8):ye (l.map λb=>(⟨b.toNat⟩:U8))=ba l:=by
 refine Eh ?_;show (List.map _ (List.map _ l)).toArray.toList=l;rw [List.map_map,Rn]
 conv=>rhs; rw [<- List.map_id l]
 refine List.map_congr_left λb _=>?_;simp
def Bl (c:UInt8):Prop:=48<=c.toNat/\c.toNat<=57
instance (c:UInt8):Decidable (Bl c):=by unfold Bl; infer_instance
def Ii (acc:Nat):List UInt8->Nat
 | []=>acc
 | c::r=>Ii (acc*10+(c.toNat-48)) r
def dv (l:List UInt8):Nat:=Ii 0 l
theorem B9:∀ (l:List UInt8) (acc:Nat),Ii acc l=acc*10 ^ l.length+dv l
 | [],acc=>by
  rw [TW,Ul,Rs]; rfl
 | c::r,acc=>by
  have I:=B9 r (0*10+(c.toNat-48));unfold dv Ii;rw [B9 r,I,Pa,Uk];have:(acc*10+(c.toNat-48))*10 ^ r.length=acc*(10 ^ r.length*10)+(0*10+(c.toNat-48))*10 ^ r.length:=by
   rw [Pm,Qu,Po,Ua,Ub 10]
  rw [this,Rb]
theorem Am (a b:List UInt8):dv (a++b)=dv a*10 ^ b.length+dv b:=by
 have key:∀ (a:List UInt8) (acc:Nat),Ii acc (a++b)=Ii (Ii acc a) b:=by
  intro a
  induction a with
  | nil=>intro acc; rfl
  | cons c r ih=>intro acc; exact ih _
 unfold dv;rw [key,B9]; rfl
theorem EA (c:UInt8):dv [c]=c.toNat-48:=by
 show 0*10+(c.toNat-48)=_;omega
theorem yj (c:UInt8) (r:List UInt8):dv (c::r)=(c.toNat-48)*10 ^ r.length+dv r:=by
 have:=Am [c] r;rw [EA] at this; simpa using this
theorem Ik (n:Nat):dv (List.replicate n (48:UInt8))=0:=by
 induction n with
 | zero=>rfl
 | succ n ih=>rw [Rl,yj,ih]; simp
theorem zc:∀ {l:List UInt8},(∀ c ∈ l,Bl c)->dv l<10 ^ l.length
 | [],_=>by
  show 0<10 ^ 0
  decide
 | c::r,h=>by
  have J:=zc (l:=r) (λz I=>h z (O9 _ I));have O:=(h c (O5 ..)).2;rw [yj,Pa,Uk,Ub (10 ^ r.length) 10];have:(c.toNat-48)*10 ^ r.length<=9*10 ^ r.length:=Ph _ (by omega)
  generalize 10 ^ r.length=P at *
  omega
theorem Ij {c:UInt8}{r:List UInt8} (J:Bl c) (I:c≠48):10 ^ r.length<=dv (c::r):=by
 have:1<=c.toNat-48:=by
  have:=J.1;have O:c.toNat≠48:=λe=>I (UInt8.toNat_inj.1 (by rw [e]; rfl))
  omega
 rw [yj];have:1*10 ^ r.length<=(c.toNat-48)*10 ^ r.length:=Ph _ this;generalize 10 ^ r.length=P at *
 omega
structure D4 (l:List UInt8):Prop where
 CR:∀ c ∈ l,Bl c
 ne:l≠[]
 lead:l.head? = some 48->l=[48]
theorem Av {a b:List UInt8} (h:a≠[]):(a++b).head? = a.head? := by
 cases a with
 | nil=>exact absurd rfl h
 | cons x r=>rfl
theorem Ib {u:Nat} (h:u<10):(UInt8.ofNat (48+u)).toNat=48+u:=by rw [UInt8.toNat_ofNat']; omega
theorem lx (u:Nat):D4 (Lib.decDigits u)/\dv (Lib.decDigits u)=u:=by
 induction u using Nat.strongRecOn with
 | _ u ih=>
  by_cases h:u<10
  ·rw [TJ h]
   have Y:=Ib h;refine ⟨⟨λc I=>?_,by simp,λJ=>?_⟩,by rw [EA,Y]; omega⟩
   ·rw [PE] at I; subst I; unfold Bl; omega
   ·simp only [TT,Pk] at J
    rw [J]
  ·obtain ⟨O,Z⟩:=ih (u / 10) (by omega)
   have e:Lib.decDigits u=Lib.decDigits (u / 10)++[UInt8.ofNat (48+u%10)]:=by rw [Lib.decDigits,dif_neg h]
   have Y:=Ib (u:=u%10) (by omega)
   rw [e];refine ⟨⟨λc I=>?_,by simp,λJ=>?_⟩,?_⟩
   ·rcases Pe.1 I with I | I
    ·exact O.CR c I
    ·rw [PE] at I; subst I; unfold Bl; omega
   ·rw [Av O.ne] at J
    have:=O.lead J;rw [this] at Z;have:dv [48]=0:=rfl;omega
   ·rw [Am,Z,EA,Y]
    simp only [P2,Nat.pow_one]; omega
theorem FT:∀ {a b:List UInt8},D4 a->D4 b->dv a=dv b->a=b:=by
 have zero:∀ {a:List UInt8},D4 a->dv a=0->a=[48]:=by
  intro a I h0;cases a with
  | nil=>exact absurd rfl I.ne
  | cons c r=>
   by_cases hc:c=48
   ·exact I.lead (by rw [hc]; rfl)
   ·have:=Ij (r:=r) (I.CR c (O5 ..)) hc
    have:0<10 ^ r.length:=Uj (by decide)
    omega
 have Y:∀ (a b:List UInt8),a.length=b.length->(∀ c ∈ a,Bl c)->(∀ c ∈ b,Bl c)->dv a=dv b->a=b:=by
  intro a
  induction a with
  | nil=>intro b hl _ _ _; cases b with | nil=>rfl | cons _ _=>simp at hl
  | cons c r ih=>
   intro b hl I O h;cases b with
   | nil=>simp at hl
   | cons d s=>
    have Z:r.length=s.length:=by simpa using hl
    have h1:=zc (l:=r) (λz J=>I z (O9 _ J));have h2:=zc (l:=s) (λz J=>O z (O9 _ J));have hc:=I c (O5 ..);have hd:=O d (O5 ..);rw [yj,yj,<- Z] at h;rw [<- Z] at h2;have hP:0<10 ^ r.length:=Uj (by decide)
    have e1:c.toNat-48=d.toNat-48:=by
     have q1:((c.toNat-48)*10 ^ r.length+dv r) / 10 ^ r.length=c.toNat-48:=by
      rw [Rq,Nat.add_mul_div_right _ _ hP,T5 h1,Po]
     have q2:((d.toNat-48)*10 ^ r.length+dv s) / 10 ^ r.length=d.toNat-48:=by
      rw [Rq,Nat.add_mul_div_right _ _ hP,T5 h2,Po]
     rw [<- q1,h,q2]
    have e2:c=d:=UInt8.toNat_inj.1 (by have:=hc.1; have:=hd.1; omega)
    rw [e1] at h;rw [e2,ih s Z (λz J=>I z (O9 _ J)) (λz J=>O z (O9 _ J)) (by omega)]
 intro a b I O h
 by_cases h0:dv a=0
 ·rw [zero I h0,zero O (by omega)]
 ·have big:∀ {l:List UInt8},D4 l->dv l≠0->∃ c r,l=c::r/\10 ^ r.length<=dv l:=by
   intro l hl J;cases l with
   | nil=>exact absurd rfl hl.ne
   | cons c r=>
    refine ⟨c,r,rfl,Ij (hl.CR c (O5 ..)) (λhc=>J ?_)⟩;rw [hl.lead (by rw [hc]; rfl)]; rfl
  obtain ⟨c,r,rfl,h1⟩:=big I h0;obtain ⟨d,s,rfl,h2⟩:=big O (by omega)
  have h3:=zc I.CR;have h4:=zc O.CR;refine Y _ _ ?_ I.CR O.CR h;rw [h] at h1 h3;have l1:r.length<(d::s).length:=(Uh (by decide)).1 (RS h1 h4)
  have l2:s.length<(c::r).length:=(Uh (by decide)).1 (RS h2 h3)
  simp only [Pa] at l1 l2 ⊢; omega
theorem vy {l:List UInt8} (h:D4 l):Lib.decDigits (dv l)=l:=FT (lx _).1 h (lx _).2
theorem BB {u k:Nat} (Y:1<=k) (h:u<10 ^ k):(Lib.decDigits u).length<=k:=by
 obtain ⟨I,J⟩:=lx u;cases hl:Lib.decDigits u with
 | nil=>simp
 | cons c r=>
  rw [hl] at I J
  by_cases O:c=48
  ·rw [I.lead (by rw [O]; rfl)]; simpa using Y
  ·have:=Ij (r:=r) (I.CR c (O5 ..)) O
   rw [J] at this;have:r.length<k:=(Uh (by decide)).1 (RS this h)
   rw [Pa]; exact this
theorem AD {u k:Nat} (h:(Lib.decDigits u).length<=k):u<10 ^ k:=by
 obtain ⟨I,J⟩:=lx u;have:=zc I.CR;rw [J] at this;exact RC this (Ug (by decide) h)
def pad (k:Nat) (r:Nat):List UInt8:=List.replicate (k-(Lib.decDigits r).length) 48++Lib.decDigits r
theorem Ko {k r:Nat} (I:1<=k) (h:r<10 ^ k):(pad k r).length=k:=by
 have:=BB I h;unfold pad;rw [Pj,Qe]; omega
theorem Kn (k r:Nat):∀ c ∈ pad k r,Bl c:=by
 intro c I;rcases Pe.1 I with I | I
 ·rw [(TZ.1 I).2]; exact ⟨by decide,by decide⟩
 ·exact (lx r).1.CR c I
theorem LO (k r:Nat):dv (pad k r)=r:=by
 unfold pad;rw [Am,Ik,(lx r).2]; omega
theorem JZ {k q r:Nat} (Z:1<=k) (hq:0<q) (hr:r<10 ^ k):Lib.decDigits (q*10 ^ k+r)=Lib.decDigits q++pad k r:=by
 obtain ⟨J,O⟩:=lx q;refine FT (lx _).1 ⟨λc I=>?_,by simp [J.ne],λY=>?_⟩ ?_
 ·rcases Pe.1 I with I | I
  ·exact J.CR c I
  ·exact Kn _ _ c I
 ·rw [Av J.ne] at Y
  rw [J.lead Y] at O;have:dv [48]=0:=rfl;omega
 ·rw [(lx _).2,Am,O,Ko Z hr,LO]
theorem I1 {M:Nat} (J:M<1844674407370955162):∀ (l:List UInt8) (acc:Nat),(∀ c ∈ l,Bl c)->Ii acc l<=M->acc<=M->Lib.parseUintM M acc l=.ok (Ii acc l)
 | [],acc,_,_,_=>rfl
 | c::r,acc,h,hl,ha=>by
  have O:=h c (O5 ..);have I:acc*10+(c.toNat-48)<=M:=by
   have:=B9 r (acc*10+(c.toNat-48));have Z:Ii acc (c::r)=Ii (acc*10+(c.toNat-48)) r:=rfl;have hP:1<=10 ^ r.length:=Uj (by decide)
   have:(acc*10+(c.toNat-48))*1<=(acc*10+(c.toNat-48))*10 ^ r.length:=Uc _ hP;generalize 10 ^ r.length=P at *
   omega
  rw [Lib.parseUintM,O8 (show 48<=c.toNat/\c.toNat<=57 from O),O7 (by omega),O7 (by omega)]
  exact I1 J r _ (λz Y=>h z (O9 _ Y)) hl I
theorem Kt {l:List UInt8} (h:∀ c ∈ l,Bl c) (hl:l.length<=9):Ks (ba l)=((dv l:Int),false):=by
 unfold Ks;have I:=zc h;have J:10 ^ l.length<=10 ^ 9:=Ug (by decide) hl
 have e:=I1 (M:=4294967295) (by decide) l 0 h (by show dv l<=_; omega) (by omega)
 show (match Lib.parseUintM 4294967295 0 l with | .ok v=>((v:Int),false) | .range=>(4294967295,true) | _=>(0,true))=_
 rw [e]; rfl
theorem BG (l:List UInt8):eC (ba l) (⟨#[45]⟩)=some (decide (l.head? = some 45)):=by
 have I:(⟨#[45]⟩:OX).size=1:=rfl;unfold eC;rw [I,gM];cases l with
 | nil=>rfl
 | cons c r=>
  rw [O8 (by simp; omega)]
  unfold dF;rw [O8 (by simp only [Pa]; omega),show ((1:Nat):Int).toNat=1 from rfl,q7]
  congr 1
  have e:(ba (((c::r).take 1).drop 0)=(⟨#[45]⟩:OX))↔((c::r).head? = some 45):=by
   rw [show (⟨#[45]⟩:OX)=ba [45] from rfl];constructor
   ·intro h
    have:=wJ h;simp at this;simp [this]
   ·intro h
    simp only [TT,Pk] at h;rw [h]; rfl
  exact Uz.2 e
theorem GN (l:List UInt8):mF (ba l) (⟨#[45]⟩)=some (decide (l.head? = some 45)):=by
 unfold mF;rw [BG l]; rfl
theorem xW (l:List UInt8):kC (ba l) (⟨#[45]⟩)=some (ba (if l.head? = some 45 then l.tail else l)):=by
 have I:(⟨#[45]⟩:OX).size=1:=rfl;unfold kC gO;rw [BG l];simp only [Ry]
 by_cases h:l.head? = some 45
 ·rw [O8 (by simp [h]),O8 h,I,gM]
  cases l with
  | nil=>cases h
  | cons c r=>
   unfold dF;rw [O8 (by simp only [Pa]; omega),show ((1:Nat):Int).toNat=1 from rfl,q7]
   simp
 ·rw [O7 (by simp [h]),O7 h]; rfl
theorem rZ.plus {a:LI} (h:rZ a) (J:0<=fM a):a.minus=false:=by
 cases hm:a.minus with
 | false=>rfl
 | true=>
  have I:=h.sign hm;have:nv a.words≠0:=λe=>I ((vI h.wf h.tp).1 e);unfold fM at J;rw [O8 hm] at J; omega
theorem JU {n:Nat} (h:0<n) (I:n<=100000):i64.wrap ((Int.tmod (i64.wrap ((n:Int)-1)) 9)+1)=(((n-1)%9+1:Nat):Int):=by
 rw [bQ (n:=(n:Int)-1) ⟨by omega,by omega⟩]
 have:Int.tmod ((n:Int)-1) 9=(((n-1)%9:Nat):Int):=by
  rw [show (n:Int)-1=((n-1:Nat):Int) by omega]
  rw [Int.tmod_eq_emod_of_nonneg (by omega)]; rfl
 rw [this,bQ ⟨by omega,by omega⟩]; omega
theorem G0 {D n c v P:Nat} (h:D=0\/n=9) (hP:P=10 ^ n):D*10 ^ 9+c=D*P+c:=by
 rcases h with h | h
 ·rw [h,Qu,Qu]
 ·rw [hP,h]
theorem F4 {J:List UInt8} (h:∀ c ∈ J,Bl c) (hl:J.length<=2000) (neg:Bool):
  Gd (kH (ba (if neg=true then 45::J else J))) (λa=>rZ a/\a.words.length<=10000/\fM a=if neg=true then -(dv J:Int) else dv J):=by
 unfold kH;have hll:(if neg=true then 45::J else J).length<=1000000:=by
  split
  ·simp only [Pa]; omega
  ·omega
 have hhd:(if neg=true then 45::J else J).head? = some 45↔neg=true:=by
  cases neg with
  | true=>simp
  | false=>
   simp only [Qw,Q6,iff_false];intro hh;cases J with
   | nil=>cases hh
   | cons c r=>
    simp only [TT,Pk] at hh;have:=(h c (O5 ..)).1;rw [hh] at this; exact absurd this (by decide)
 have htr:(if (if neg=true then 45::J else J).head? = some 45 then (if neg=true then 45::J else J).tail else (if neg=true then 45::J else J))=J:=by
  cases neg with
  | true=>simp
  | false=>rw [O7 (by rw [hhd]; simp)]; simp
 refine Gd.bind_eq (GN _) (Gd.bind_eq (xW _) ?_);rw [htr];have hdec:decide ((if neg=true then 45::J else J).head? = some 45)=neg:=by
  cases neg with
  | true=>simp
  | false=>rw [UA (by rw [hhd]; simp)]
 rw [hdec];refine Gd.gG (λ(z:OX×Bool×List bO)=>∃ pre I:List UInt8,J=pre++I/\z.1=ba I/\z.2.1=false/\rZ ⟨false,z.2.2⟩/\(nv z.2.2=dv pre)/\z.2.2.length<=5*pre.length/\(pre=[]\/I.length%9=0))
  (λz=>z.1.size) ?_ fA _ ⟨[],J,rfl,rfl,rfl,⟨Wf.nil,λy hy=>by simp at hy,λhh=>by simp at hh⟩,rfl,by simp,.inl rfl⟩ (by rw [gM]; simp only [fA]; omega)
 rintro ⟨s,c,w⟩ nx ⟨pre,I,e1,e2,e3,e4,e5,e6,e7⟩ hnx;simp only at e2 e3 e4 e5 e6 e7 hnx ⊢;subst e2 e3;have hlen:pre.length+I.length<=2000:=by rw [<- Pj,<- e1]; exact hl
 unfold s9;rw [gM];refine Gd.ite (λh0=>?_) (λh0=>?_)
 ·have h0:0<I.length:=by have:=O6 h0; omega
  rw [JU h0 (by omega)]
  generalize hn:(I.length-1)%9+1=n;have hn9:n<=9:=by omega
  have hns:n<=I.length:=by have:=Nat.mod_le (I.length-1) 9; omega
  rw [O2,q7,q7,Qi,Pg (Pn _),gM];have Y:(I.take n).length=n:=by rw [Pr]; omega
  have hdg:∀ x ∈ I.take n,Bl x:=λx hx=>h x (by rw [e1]; exact P5 _ (RF hx))
  have hpu:=Kt hdg (by rw [Y]; exact hn9)
  have hdl:dv (I.take n)<10 ^ 9:=RC (zc hdg) (Ug (by decide) (by omega))
  rw [hpu,Y];refine Gd.nd ⟨by omega,by omega⟩ (Gd.nd ⟨by omega,by omega,rfl⟩ ?_)
  rw [bQ (n:=(dv (I.take n):Int)) ⟨by omega,by omega⟩]
  refine Gd.eE (AS (n:=1000000000) (by omega)) (λt ht=>Gd.eE (uR e4 ht.1 (by simp only; omega)) (λm hm=>Gd.eE (AS (n:=(dv (I.take n):Int)) (by omega)) (λu hu=>Gd.eE (Ch hm.1 hu.1 (by simp only at hm; omega) (by omega)) (λr hr=>Gd.nd ⟨by omega,by omega⟩ ?_))))
  have hiv:fM (⟨false,w⟩:LI)=(dv pre:Int):=by unfold fM; simp only [Qw,Q6]; rw [e5]
  have Z:fM r=((dv (pre++I.take n):Nat):Int):=by
   rw [hr.2.2,hm.2.2,ht.2.2,hu.2.2,hiv,Am,Y];have:=G0 (D:=dv pre) (n:=n) (c:=dv (I.take n)) (v:=0) (P:=10 ^ n) (by
    rcases e7 with e7 | e7
    ·left; rw [e7]; rfl
    ·right; omega) rfl
   rw [<- this];have e9:(10 ^ 9:Nat)=1000000000:=rfl;rw [e9];generalize dv pre=A;generalize dv (I.take n)=C;omega
  have hrm:r.minus=false:=hr.1.plus (by rw [Z]; omega)
  refine hnx _ ⟨pre++I.take n,I.drop n,by rw [Pv,Qn]; exact e1,rfl,hrm,?_,?_,?_,?_⟩ ?_
  ·rw [<- hrm]; exact hr.1
  ·have:=Z
   unfold fM at this;rw [O7 (by rw [hrm]; simp)] at this
   simp only; omega
  ·simp only at hm ⊢
   rw [Pj,Y]; omega
  ·right; rw [Qv]; omega
  ·simp only [gM,Qv]; omega
 ·have h0:¬ 0<I.length:=by have:=Pc h0; omega
  have hs0:I=[]:=Py (by omega)
  subst hs0;rw [PH] at e1;subst e1;unfold qW;have e4w:Wf w:=e4.wf;have e4t:uJ w:=e4.top;refine Gd.ite (λO=>Gd.ret ⟨⟨e4.wf,e4.top,λhm hw=>?_⟩,by simp only; omega,?_⟩) (λO=>Gd.ret ⟨e4,by simp only; omega,?_⟩)
  ·have hw:w=[]:=hw
   subst hw;simp at hm
  ·rw [O8 O]
   unfold fM;simp only [PK]
   split
   ·rw [e5]
   ·rename_i hh
    have:w=[]:=Py (by omega)
    rw [this] at e5 ⊢;rw [<- e5]; rfl
  ·rw [O7 (by rw [O]; simp)]
   unfold fM;simp only [Qw,Q6];rw [e5]
def pv:List bO->Nat
 | []=>0
 | y::l=>y.n.toNat+1000000000*pv l
theorem F1:∀ (a:List bO) (y:bO),pv (a++[y])=pv a+1000000000 ^ a.length*y.n.toNat
 | [],y=>by
  show y.n.toNat+1000000000*0=0+1000000000 ^ 0*y.n.toNat;rw [Ul]; omega
 | x::a,y=>by
  rw [Q9,pv,F1 a y,pv,Pa,Uk];rw [T_,<- Ua,Ub (1000000000 ^ a.length) 1000000000,Rb]
theorem Kv {l:List bO}{k:Nat}{y:bO} (h:l[k]? = some y):pv (l.drop k)=pv (l.drop (k+1))*1000000000+y.n.toNat:=by
 rw [qq h,pv]; omega
theorem HP:(⟨#[48,48,48,48,48,48,48,48,48]⟩:OX)=ba (List.replicate 9 48):=rfl
theorem sj (n:Nat):r9 (n:Int)=ba (Lib.decDigits n):=by unfold r9; rw [Lib.itoa_nonneg]; rfl
theorem GS {n:Nat} (h:0<n):r9 (-(n:Int))=ba (45::Lib.decDigits n):=by
 unfold r9 Lib.itoa;rw [O8 (by omega),show (-(n:Int)).natAbs=n by omega]; rfl
def Hk (D:List UInt8):List U8:=D.map λb=>⟨b.toNat⟩
theorem w_ (D:List UInt8):jL (ba D)=Hk D:=Gt D
theorem Jy (a b:List UInt8):Hk a++Hk b=Hk (a++b):=by unfold Hk; rw [Qk]
theorem B3 (D:List UInt8):ye (Hk D)=ba D:=Dc D
theorem CP (D:List UInt8):(Hk D).length=D.length:=QR _
theorem Mb (N:Nat) {Q:List bO} (I:∀ z ∈ Q,0<=z.n/\z.n<1000000000) (hl:Q.length<=N):pv Q<10 ^ (9*N):=by
 have key:∀ (Q:List bO),(∀ z ∈ Q,0<=z.n/\z.n<1000000000)->pv Q<1000000000 ^ Q.length:=by
  intro Q
  induction Q with
  | nil=>intro _; show 0<1000000000 ^ 0; decide
  | cons z Q ih=>
   intro I;have Y:=ih (λx O=>I x (O9 _ O));have J:=I z (O5 ..);rw [pv,Pa,Uk,Ub];generalize 1000000000 ^ Q.length=X at *
   omega
 have J:(1000000000:Nat) ^ Q.length<=1000000000 ^ N:=Ug (by decide) hl
 rw [Ui];exact RC (key Q I) J
theorem KY (n a b:Nat) (J:a<=3*n) (O:10*n<=32*b):10 ^ a<=WB ^ b:=by
 have e1:(10:Nat) ^ a<=10 ^ (3*n):=Ug (by decide) J
 have e2:((10:Nat) ^ 3) ^ n<=(2 ^ 10) ^ n:=Uf (by decide) n
 have I:(2:Nat) ^ (10*n)<=2 ^ (32*b):=Ug (by decide) O
 rw [<- Ui,<- Ui] at e2;rw [zS b];exact P0 e1 (P0 e2 I)
theorem FO (n a b:Nat) (O:a<=3*n) (Y:10*n<=32*b) {w:List bO} (hw:Wf w) (ht:uJ w) (hl:b<w.length):¬ nv w<10 ^ a:=by
 have J:w≠[]:=λe=>by rw [e] at hl; simp at hl
 have I:=DJ hw ht J;have Z:WB ^ b<=WB ^ (w.length-1):=Ug (by decide) (by omega)
 exact Nat.not_lt.2 (P0 (KY n a b O Y) (P0 Z I))
theorem Jf (N K:Nat) {w:List bO} (Z:Wf w) (hl:w.length<=N) (Y:32*N<=K):nv w<2 ^ K:=by
 have J:=rV Z;have I:WB ^ w.length<=WB ^ N:=Ug (by decide) hl
 rw [zS N] at I;have O:(2:Nat) ^ (32*N)<=2 ^ K:=Ug (by decide) Y
 exact RC J (P0 I O)
theorem DF {m:Nat} (h:m<=9):(⟨#[48,48,48,48,48,48,48,48,48]⟩:OX).extract m ((⟨#[48,48,48,48,48,48,48,48,48]⟩:OX).size)=ba (List.replicate (9-m) 48):=by
 rw [HP,gM,q7,Pg (Pn _),List.drop_replicate]
theorem J7 {a:LI}{P:List bO}{V:Nat} (hP:∀ y ∈ P,0<=y.n/\y.n<1000000000) (hV:pv P=V) (hne:P≠[]) (htop:∀ y,P.getLast? = some y->y.n≠0) (hl:P.length<=1000) (ha:a.minus=true->V≠0):
  Gd (gG (λZ n=>oy a P Z.1 Z.2 n) fA (i64.wrap ((P.length:Int)-1),([]:List U8)))
   (λr=>r.2=decide ((Lib.decDigits V).length<=2000)/\r.1=r9 (if a.minus=true then -(V:Int) else V)/\r.1.size<=10000):=by
 have hpos:0<P.length:=TX.2 hne;have wl:i64.wrap ((P.length:Int)-1)=(P.length:Int)-1:=bQ ⟨by omega,by omega⟩
 rw [wl];refine Gd.gG (λ(z:Int×List U8)=>-1<=z.1/\z.1<P.length/\(z.1=(P.length:Int)-1/\z.2=[]\/z.1<(P.length:Int)-1/\0<pv (P.drop (z.1+1).toNat)/\z.2=Hk (Lib.decDigits (pv (P.drop (z.1+1).toNat)))/\z.2.length<=9*1000))
  (λz=>(z.1+1).toNat) ?_ fA _ ⟨by simp only; omega,by simp only; omega,.inl ⟨rfl,rfl⟩⟩ (by simp only [fA]; omega)
 rintro ⟨n,l⟩ nx ⟨h1,h2,I⟩ hnx;simp only at h1 h2 I hnx ⊢;unfold oy;refine Gd.ite (λhn=>?_) (λhn=>?_)
 ·have hn:0<=n:=O6 hn
  obtain ⟨k,rfl⟩:∃ k:Nat,n=k:=⟨n.toNat,by omega⟩
  obtain ⟨y,hy⟩:∃ y,P[k]? = some y:=⟨_,OZ (by omega)⟩
  have hyw:=hP y (Pb hy);obtain ⟨u,hu⟩:∃ u:Nat,y.n=u:=⟨y.n.toNat,by omega⟩
  have hu9:u<10 ^ 9:=by
   have:(10:Nat) ^ 9=1000000000:=rfl;omega
  have hkn:((k:Int)+1).toNat=k+1:=by omega
  have O:((k:Int)-1+1).toNat=k:=by omega
  refine Gd.ix (by omega) (by rw [O2]; exact hy) ?_
  rw [hu,fT (n:=(u:Int)) (by omega),sj]
  refine Gd.nd ⟨by omega,by omega⟩ ?_
  rw [wl];have hlen:(Lib.decDigits u).length<=9:=BB (by decide) hu9
  have Y:=Kv hy;have hun:y.n.toNat=u:=by omega
  rw [hun] at Y;have hwk:i64.wrap ((k:Int)-1)=(k:Int)-1:=bQ ⟨by omega,by omega⟩
  refine Gd.ite (λJ=>?_) (λJ=>?_)
  ·have J:(k:Int)<(P.length:Int)-1:=O6 J
   rcases I with ⟨I,_⟩ | ⟨_,I,h4,h5⟩
   ·omega
   rw [hkn] at I h4;rw [gM,O2,DF hlen,w_];have hsz:(ba (List.replicate (9-(Lib.decDigits u).length) (48:UInt8))).size=9-(Lib.decDigits u).length:=by rw [gM,Qe]
   rw [hsz];refine Gd.nd ⟨by omega,by show ((Lib.decDigits u).length:Int)<=((9:Nat):Int); omega⟩ (Gd.nd (by omega) ?_)
   unfold kO;rw [hu,fT (n:=(u:Int)) (by omega),sj,hwk,w_,gM]
   rw [Pj,CP,Qe];refine Gd.nd (by omega) ?_
   have hfin:l++Hk (List.replicate (9-(Lib.decDigits u).length) (48:UInt8))++Hk (Lib.decDigits u)=Hk (Lib.decDigits (pv (P.drop k))):=by
    have hdp:=JZ (k:=9) (by decide) I hu9
    rw [show (10:Nat) ^ 9=1000000000 from rfl,<- Y] at hdp;rw [h4,Pv,Jy,Jy,hdp]
    rfl
   rw [hfin];have hdl:=AD (u:=pv (P.drop k)) (k:=(Lib.decDigits (pv (P.drop k))).length) (Pn _);refine hnx _ ⟨by simp only; omega,by simp only; omega,.inr ⟨by simp only; omega,by simp only; rw [O,Y]; omega,by simp only; rw [O],?_⟩⟩ (by simp only; omega)
   simp only;rw [CP];have hb:=Mb 1000 (λz hz=>hP z (List.mem_of_mem_drop hz)) (show (P.drop k).length<=1000 by rw [Qv]; omega)
   exact BB (k:=9*1000) (by decide) hb
  ·have J:¬ (k:Int)<(P.length:Int)-1:=Pc J
   rcases I with ⟨I,h4⟩ | ⟨I,_⟩
   ·unfold kO
    rw [hu,fT (n:=(u:Int)) (by omega),sj,hwk,w_,gM,h4]
    refine Gd.nd (by simp only [TW]; omega) ?_
    have hlast:P.drop (k+1)=[]:=TM (by omega)
    rw [hlast] at Y;have Y:pv (P.drop k)=u:=by rw [Y]; show 0*1000000000+u=u; omega
    have hu0:u≠0:=by
     have:=htop y (by rw [TS,show P.length-1=k by omega]; exact hy)
     omega
    rw [Qz];refine hnx _ ⟨by simp only; omega,by simp only; omega,.inr ⟨by simp only; omega,by simp only; rw [O,Y]; omega,by simp only; rw [O,Y],?_⟩⟩ (by simp only; omega)
    simp only;rw [CP]; omega
   ·omega
 ·have hn:¬ 0<=n:=Pc hn
  rcases I with ⟨I,_⟩ | ⟨_,I,h4,h5⟩
  ·omega
  have hz:(n+1).toNat=0:=by omega
  rw [hz,Qi,hV] at I h4;subst h4;rw [CP] at h5 ⊢;have hne':(Lib.decDigits V)≠[]:=(lx V).1.ne;have hp:0<(Lib.decDigits V).length:=TX.2 hne';have hsz:((ba (Lib.decDigits V)).size:Int)=((Lib.decDigits V).length:Int):=by rw [gM]
  have hdd:decide (((ba (Lib.decDigits V)).size:Int)<=2000)=decide ((Lib.decDigits V).length<=2000):=by
   rw [hsz]; exact Uz.2 (by omega)
  refine Gd.nd hp (Gd.ite (λhm=>Gd.nd ?_ ?_) (λhm=>?_))
  ·rw [B3,gM,show (⟨#[45]⟩:OX).size=1 from rfl]
   unfold maxLen; omega
  ·unfold kP
   rw [B3];have hx:(⟨#[45]⟩:OX)++ba (Lib.decDigits V)=ba (45::Lib.decDigits V):=by
    rw [show (⟨#[45]⟩:OX)=ba [45] from rfl,Ef]; rfl
   refine Gd.ret ⟨hdd,?_,?_⟩
   ·rw [O8 hm,GS (by have:=ha hm; omega)]; exact hx
   ·simp only
    rw [hx,gM,Pa]; omega
  ·unfold kP
   rw [B3];refine Gd.ret ⟨hdd,?_,?_⟩
   ·rw [O7 (by rw [hm]; simp),sj]
   ·simp only
    rw [gM]; omega
theorem E0 (K N:Nat) {p n W:Nat} (h:1000000000 ^ p*n<=W) (hn:1<=n) (hW:W<2 ^ K) (hK:K<=29*N):p<N:=by
 rcases QS p N with I | I
 ·exact I
 ·exfalso
  have J:((2:Nat) ^ 29) ^ N<=(1000000000:Nat) ^ N:=Uf (by decide) N
  have Y:(1000000000:Nat) ^ N<=1000000000 ^ p:=Ug (by decide) I
  have O:(1000000000:Nat) ^ p*1<=1000000000 ^ p*n:=Uc _ hn;have Z:(2:Nat) ^ K<=2 ^ (29*N):=Ug (by decide) hK
  rw [<- Ui] at J;rw [Rs] at O;exact absurd hW (Nat.not_lt.2 (P0 Z (P0 J (P0 Y (P0 O h)))))
theorem GY {V A B n:Nat} (h:V=A+B*n):V=(A+B*(n%1000000000))+B*1000000000*(n / 1000000000):=by
 rw [Ua,Rb,<- T_,T9]; exact h
theorem Ax {a:LI} (h:rZ a):Gd (jX a) (λr=>r.2=decide ((Lib.decDigits (nv a.words)).length<=2000)/\(r.2=true->r.1=r9 (fM a))/\r.1.size<=10000):=by
 unfold jX;refine Gd.ite (λJ=>?_) (λJ=>?_)
 ·have J:a.words=[]:=Py (by have:=O6 J; omega)
  have hm:a.minus=false:=by
   cases hm:a.minus with
   | false=>rfl
   | true=>exact absurd J (h.sign hm)
  refine Gd.ret ⟨?_,λ_=>?_,by decide⟩
  ·rw [J]
   have hx:(Lib.decDigits (nv [])).length<=2000:=by
    show (Lib.decDigits 0).length<=2000;rw [TJ (by omega)]; simp
   rw [UC hx]
  ·unfold fM
   rw [O7 (by rw [hm]; simp),J]
   show (⟨#[48]⟩:OX)=r9 ((0:Nat):Int);rw [sj,TJ (by omega)]; rfl
 ·have J:a.words.length≠0:=by have:=Pc J; omega
  have hne:a.words≠[]:=λe=>J (by rw [e]; rfl)
  refine Gd.ite (λY=>?_) (λY=>?_)
  ·have Y:210<a.words.length:=by have:=O6 Y; omega
   refine Gd.ret ⟨?_,λhh=>absurd hh (by simp),by decide⟩
   symm
   refine UA λhle=>?_;exact FO 667 2000 210 (by decide) (by decide) h.wf h.tp Y (AD (k:=2000) hle)
  ·have Y:a.words.length<=210:=by have:=Pc Y; omega
   have hW:=Jf 210 6720 h.wf Y (by decide)
   have hnz:nv a.words≠0:=λe=>hne ((vI h.wf h.tp).1 e);refine Gd.gG (λ(z:List bO×List bO)=>(∀ y ∈ z.1,0<=y.n/\y.n<1000000000)/\Wf z.2/\uJ z.2/\z.2.length<=210/\nv a.words=pv z.1+1000000000 ^ z.1.length*nv z.2/\z.1.length<=300/\(nv z.2=0->z.1≠[]/\∀ y,z.1.getLast? = some y->y.n≠0))
    (λz=>301-z.1.length) ?_ fA _ ⟨by simp,h.wf,h.tp,Y,?_,by simp,λe=>absurd e hnz⟩ (by simp only [fA,TW]; omega)
   ·rintro ⟨P,w⟩ nx ⟨i1,i2,i3,i4,i5,i6,i7⟩ hnx
    simp only at i1 i2 i3 i4 i5 i6 i7 hnx ⊢;unfold qD;refine Gd.ite (λZ=>?_) (λZ=>?_)
    ·have Z:0<w.length:=by have:=O6 Z; omega
     have hwn:w≠[]:=λe=>by rw [e] at Z; simp at Z
     have hwz:nv w≠0:=λe=>hwn ((vI i2 i3).1 e);have hpl:=E0 6720 300 (p:=P.length) (n:=nv w) (W:=nv a.words) (by rw [i5]; exact Nat.le_add_left _ _) (by omega) hW (by decide)
     refine Gd.eE (DU i2 (by omega) (d:=1000000000) (by omega)) (λr O=>?_)
     have hdn:(1000000000:Int).toNat=1000000000:=rfl;rw [hdn] at O;refine Gd.nd (by simp only [P2]; omega) (Gd.eE (sK false r.1 O.1 (by omega)) (λq hq=>?_))
     have hrn:0<=r.2/\r.2<1000000000/\r.2.toNat=nv w%1000000000:=by
      have:=RQ (nv w) (show 1000000000 > 0 by omega)
      rw [O.2.2.2]; omega
     refine hnx _ ⟨?_,hq.1.wf,hq.1.tp,by simp only; omega,?_,by simp only [Pj,P2]; omega,λhz=>⟨by simp,λy I=>?_⟩⟩ (by simp only [Pj,P2]; omega)
     ·intro y I
      rcases Pe.1 I with I | I
      ·exact i1 y I
      ·rw [PE] at I; subst I; simp only; omega
     ·simp only
      rw [F1,Pj,P2,Uk,hq.2.2.1,O.2.2.1];simp only;rw [hrn.2.2];exact GY i5
     ·simp only at hz I
      rw [List.getLast?_append,List.getLast?_singleton] at I;simp only [Option.some_or,Pk] at I;subst I;simp only;rw [hq.2.2.1,O.2.2.1] at hz;have:nv w / 1000000000=0:=hz;omega
    ·have Z:w=[]:=Py (by have:=Pc Z; omega)
     subst Z;obtain ⟨j1,j2⟩:=i7 rfl;have hVV:pv P=nv a.words:=by
      rw [i5];show pv P=pv P+1000000000 ^ P.length*0;rw [Ud]; rfl
     refine (J7 (a:=a) i1 hVV j1 j2 (by omega) (λ_=>hnz)).mono (λr O=>⟨O.1,λ_=>?_,O.2.2⟩)
     rw [O.2.1]; rfl
   ·show nv a.words=0+1000000000 ^ 0*nv a.words
    rw [Ul]; omega
def B4 (q:Rat):List UInt8:=Lib.itoa q.num++(if q.den=1 then [] else 47::Lib.decDigits q.den)
def ctext (q:Rat):OX:=ba (B4 q)
def fits (q:Rat):Prop:=(Lib.decDigits q.num.natAbs).length<=2000/\(Lib.decDigits q.den).length<=2000
instance (q:Rat):Decidable (fits q):=by unfold fits; infer_instance
theorem AO {l:List UInt8} (h:∀ c ∈ l,Bl c):(47:UInt8) ∉ l:=λhm=>absurd (h 47 hm) (by unfold Bl; decide)
theorem tC (n:Int):Lib.itoa n=if n<0 then 45::Lib.decDigits n.natAbs else Lib.decDigits n.natAbs:=by
 unfold Lib.itoa
 split
 ·rfl
 ·rw [show n.toNat=n.natAbs by omega]
theorem Iv (u:Nat):(Lib.decDigits u).head? ≠ some 45:=by
 obtain ⟨h,_⟩:=lx u;cases hl:Lib.decDigits u with
 | nil=>simp
 | cons c r=>
  rw [hl] at h;have:=h.CR c (O5 ..);simp only [TT,ne_eq,Pk];rintro rfl;exact absurd this (by unfold Bl; decide)
theorem FA (q:Rat):(B4 q).head? = some 45↔q.num<0:=by
 unfold B4;rw [tC]
 by_cases h:q.num<0
 ·rw [O8 h]; simp [h]
 ·rw [O7 h,Av (lx _).1.ne]
  simp only [h,iff_false];exact Iv _
theorem JV (q:Rat):(if (B4 q).head? = some 45 then (B4 q).tail else B4 q)=Lib.decDigits q.num.natAbs++(if q.den=1 then [] else 47::Lib.decDigits q.den):=by
 by_cases h:q.num<0
 ·rw [O8 ((FA q).2 h)]
  unfold B4;rw [tC,O8 h]; rfl
 ·rw [O7 (λe=>h ((FA q).1 e))]
  unfold B4;rw [tC,O7 h]
theorem EJ {c:UInt8}{l:List UInt8} (h:c ∉ l):Lib.indexByte l c = -1:=by
 rcases s6 c l with ⟨_,I⟩ | ⟨a,b,rfl,_⟩
 ·exact I
 ·exact absurd (by simp) h
theorem Dr {c:UInt8}{b:List UInt8}:∀ {a:List UInt8},c ∉ a->Lib.indexByte (a++c::b) c=a.length
 | [],_=>by simp [Lib.indexByte]
 | x::a,h=>by
  have I:(x == c)=false:=by simp only [PN,not_or] at h; simpa using λe=>h.1 e.symm
  have ih:=Dr (b:=b) (a:=a) (λhm=>h (O9 _ hm));rw [Q9];simp only [Lib.indexByte,I,ih];rw [O7 (by simp),O7 (by simp)]
  simp only [Pa]; omega
theorem Ah {l:List UInt8} (h:(47:UInt8) ∉ l):mL (ba l) (⟨#[47]⟩)=some (ba l,⟨#[]⟩,false):=by
 unfold mL iL;rw [show (⟨#[47]⟩:OX)=ba [47] from rfl,Ds,Fy,EJ h]
 rfl
theorem Ai {a b:List UInt8} (h:(47:UInt8) ∉ a) (hs:a.length+1+b.length<=maxLen):mL (ba (a++47::b)) (⟨#[47]⟩)=some (ba a,ba b,true):=by
 have I:(ba (a++47::b)).size=a.length+1+b.length:=by rw [gM]; simp; omega
 unfold maxLen at hs;unfold mL iL;rw [show (⟨#[47]⟩:OX)=ba [47] from rfl,Ds,Fy,Dr h];simp only [Ry];rw [O8 (by simp),I,show (ba [47]).size=1 from rfl,bQ ⟨by omega,by omega⟩]
 unfold dF;rw [O8 ⟨by omega,by omega⟩,O8 ⟨by omega,by omega⟩,O2,show ((a.length:Int)+((1:Nat):Int)).toNat=a.length+1 by omega,q7,q7]
 simp only [Ry,Qi];rw [R4,Pg (by simp; omega),show a++47::b=(a++[47])++b by simp,List.drop_left' (by simp)]
theorem sE (l:List UInt8) (hs:l.length<=maxLen):Gd (oK (ba l)) (λc=>c=0↔D4 l/\l.length<=2000):=by
 unfold oK;refine Gd.nd (by rw [gM]; exact hs) ?_
 rw [w_];refine Gd.seen (λpre _=>∀ y ∈ pre,48<=y.n/\y.n<=57) ?_ ?_ () (λy hy=>by cases hy)
 ·rintro i y _ nx pre ⟨post,hl⟩ hI hnx
  have hy:y ∈ Hk l:=by rw [hl]; simp
  obtain ⟨c,hc,rfl⟩:=PO.1 hy;unfold uc;refine Gd.ite (λhb=>Gd.ret ?_) (λhb=>hnx () (λz hz=>?_))
  ·simp only [Qy,PK] at hb
   constructor
   ·intro h; simp at h
   ·rintro ⟨h,_⟩
    have:=h.CR c hc;unfold Bl at this; omega
  ·simp only [TC,UB] at hb
   rcases Pe.1 hz with hz | hz
   ·exact hI z hz
   ·rw [PE] at hz; subst hz; simp only; omega
 ·intro _ hI
  have hd:∀ c ∈ l,Bl c:=λc hc=>by
   have:=hI ⟨c.toNat⟩ (PO.2 ⟨c,hc,rfl⟩);unfold Bl; simp only at this; omega
  refine Gd.ite (λh=>Gd.ret ?_) (λh=>?_)
  ·have h:l=[]:=wJ ((O6 h).trans rfl)
   constructor
   ·intro h; simp at h
   ·rintro ⟨hn,_⟩; exact absurd h hn.ne
  ·have Z:l≠[]:=λe=>absurd (Pc h) (by rw [e]; simp [ba])
   have O:(l.head? = some 48->l=[48])->Gd (if decide (2000<((ba l).size:Int))=true then some (2:Int) else some 0) (λc=>c=0↔D4 l/\l.length<=2000):=λY=>by
    rw [gM];refine Gd.ite (λI=>Gd.ret ?_) (λI=>Gd.ret ?_)
    ·have:=O6 I
     constructor
     ·intro h; simp at h
     ·rintro ⟨_,h⟩; omega
    ·have:=Pc I
     exact ⟨λ_=>⟨⟨hd,Z,Y⟩,by omega⟩,λ_=>rfl⟩
   refine Gd.ite (λJ=>?_) (λJ=>O (λhh=>?_))
   ·rw [gM] at J
    have J:=O6 J;cases l with
    | nil=>exact absurd rfl Z
    | cons c r=>
     refine Gd.ix (y:=⟨c.toNat⟩) (by omega) rfl (Gd.ite (λI=>Gd.ret ?_) (λI=>O (λhh=>?_)))
     ·have I:=O6 I
      simp only at I;constructor
      ·intro h; simp at h
      ·rintro ⟨hn,_⟩
       have hc:c=48:=UInt8.toNat_inj.1 (by show c.toNat=48; omega)
       have:=hn.lead (by rw [hc]; rfl)
       rw [this] at J; simp at J
     ·have I:=Pc I
      simp only [TT,Pk] at hh;subst hh;exact absurd rfl I
   ·rw [gM] at J
    have J:=Pc J;cases l with
    | nil=>exact absurd rfl Z
    | cons c r=>
     have:r=[]:=Py (by simp only [Pa] at J; omega)
     subst this;simp only [TT,Pk] at hh;rw [hh]
theorem AX {n:List UInt8} (hn:D4 n) (l1:n.length<=2000):Gd (kH (ba n)) (λa=>rZ a/\a.words.length<=10000/\fM a=dv n):=by
 have:=F4 hn.CR l1 false;simpa using this
theorem Kl {n d:List UInt8} (hn:D4 n) (O:D4 d) (l1:n.length<=2000) (l2:d.length<=2000):
  Gd (va (ba n) (ba d)) (λr=>r.2.2=0/\(rZ r.1/\r.1.words.length<=10000/\fM r.1=dv n)/\(rZ r.2.1/\r.2.1.words.length<=10000/\fM r.2.1=dv d)):=by
 unfold va;have JH:∀ {l:List UInt8},D4 l->l.length<=2000->Gd (oK (ba l)) (λc=>c=0):=λh hl=>(sE _ (by unfold maxLen; omega)).mono (λc I=>I.2 ⟨h,hl⟩)
 refine Gd.jQ (λm i _=>m+i=2) (λm i _ nx hI J=>?_) (λi _ _=>?_) _ 0 () rfl
 ·unfold vD
  have hi:i=0\/i=1:=by omega
  have hy:∃ l:List UInt8,([ba n,ba d]:List OX)[i]? = some (ba l)/\D4 l/\l.length<=2000:=by
   rcases hi with rfl | rfl
   ·exact ⟨n,rfl,hn,l1⟩
   ·exact ⟨d,rfl,O,l2⟩
  obtain ⟨l,hl,Y,Z⟩:=hy;refine Gd.ix (by omega) (by rw [O2]; exact hl) (Gd.eE (JH Y Z) (λc I=>?_))
  subst I;exact J () (by omega)
 ·exact Gd.eE (AX hn l1) (λa ha=>Gd.eE (AX O l2) (λb hb=>Gd.ret ⟨rfl,ha,hb⟩))
theorem uw:Lib.decDigits 1=[49]:=TJ (by omega)
theorem yg:Lib.decDigits 0=[48]:=TJ (by omega)
theorem yf {a b:Nat} (h:Lib.decDigits a=Lib.decDigits b):a=b:=by
 have I:=(lx a).2;rw [h,(lx b).2] at I; exact I.symm
theorem FR {n d:List UInt8} (hn:D4 n) (hd:D4 d) (l1:n.length<=2000) (l2:d.length<=2000):
  Gd (u_ (ba n) (ba d)) (λr=>r.1=(⟨#[49]⟩:OX)↔Nat.gcd (dv n) (dv d)=1):=by
 unfold u_;refine Gd.eE (Kl hn hd l1 l2) (λr hr=>?_);obtain ⟨h0,Y,Z⟩:=hr;rw [h0];refine Gd.eE (Is Y.1 Z.1 (L:=10000) (by omega) Y.2.1 Z.2.1) (λg O=>?_)
 have e1:nv r.1.words=dv n:=by rw [<- jU,Y.2.2]; rfl
 have e2:nv r.2.1.words=dv d:=by rw [<- jU,Z.2.2]; rfl
 rw [e1,e2] at O;unfold vC;have hb:Gd ((jX g).bind λI=>if (!I.2)=true then some ((⟨#[]⟩:OX),(2:Int)) else some (I.1,0)) (λt=>t.1=(⟨#[49]⟩:OX)↔Nat.gcd (dv n) (dv d)=1):=by
  refine Gd.eE (Ax O.1) (λt ht=>Gd.ite (λJ=>Gd.ret ?_) (λJ=>Gd.ret ?_))
  ·have J:t.2=false:=by simpa using J
   rw [J,O.2.2.2] at ht;constructor
   ·intro h; exact absurd h (by decide)
   ·intro h
    have:=ht.1;rw [h,uw] at this; simp at this
  ·have J:t.2=true:=by simpa using J
   have e3:=ht.2.1 J;simp only;rw [e3,pB O.2.1,sj,O.2.2.2,show (⟨#[49]⟩:OX)=ba [49] from rfl];constructor
   ·intro h
    exact yf ((wJ h).trans uw.symm)
   ·intro h; rw [h,uw]
 exact Gd.eE hb (λt ht=>Gd.ret ht)
theorem E3 {q:Rat} (h:fits q):oL (ctext q)=some 0:=by
 refine Gd.eq.1 ?_;have Y:=(lx q.num.natAbs).1;have hE:=(lx q.den).1;unfold oL ctext;refine Gd.bind_eq (xW _) ?_;rw [JV];have hz:q.num<0->Lib.decDigits q.num.natAbs≠[48]:=λhn e=>by
  rw [<- yg] at e;have:=yf e; omega
 by_cases hd:q.den=1
 ·rw [O8 hd,PH]
  refine Gd.bind_eq (Ah (AO Y.CR)) ?_;refine Gd.eE (sE _ (by have:=h.1; unfold maxLen; omega)) (λc Z=>?_)
  have J:=Z.2 ⟨Y,h.1⟩;subst J;refine Gd.ite (λI=>by simp at I) (λ_=>?_)
  unfold lS;refine Gd.ite (λI=>?_) (λ_=>Gd.ret rfl);exfalso;simp only [show decide ((0:Int)=5)=false from rfl,Bool.or_self,Bool.false_or,QC,PK] at I;have h1:Lib.decDigits q.num.natAbs=[48]:=wJ (I.1.trans rfl);have O:=I.2;rw [gM,gM] at O;unfold B4 at O;rw [O8 hd,PH,tC] at O
  split at O
  ·rename_i hn; exact hz hn h1
  ·omega
 ·rw [O7 hd]
  refine Gd.bind_eq (Ai (AO Y.CR) (by have:=h.1; have:=h.2; unfold maxLen; omega)) ?_
  refine Gd.eE (sE _ (by have:=h.1; unfold maxLen; omega)) (λc Z=>?_)
  have J:=Z.2 ⟨Y,h.1⟩;subst J;refine Gd.ite (λ_=>?_) (λI=>by simp at I)
  refine Gd.eE (sE _ (by have:=h.2; unfold maxLen; omega)) (λc Z=>?_)
  have J:=Z.2 ⟨hE,h.2⟩;subst J;unfold lS;refine Gd.ite (λI=>?_) (λ_=>Gd.ite (λI=>by simp at I) (λ_=>Gd.ite (λ_=>?_) (λI=>by simp at I)))
  ·exfalso
   simp only [show decide ((0:Int)=5)=false from rfl,Bool.or_self,Bool.false_or,QC,PK] at I;have h1:Lib.decDigits q.num.natAbs=[48]:=wJ (I.1.trans rfl);have O:=I.2;rw [gM,gM] at O;unfold B4 at O;rw [O7 hd,tC] at O
   split at O
   ·rename_i hn; exact hz hn h1
   ·omega
  ·refine Gd.eE (FR Y hE h.1 h.2) (λr hr=>?_)
   rw [(lx q.num.natAbs).2,(lx q.den).2] at hr;have hr1:=hr.2 q.reduced;refine Gd.ite (λI=>?_) (λ_=>Gd.ret rfl);exfalso;simp only [hr1,decide_true,Bool.not_true,Bool.or_false,Qy,PK] at I;rcases I with I | I
   ·have:=yf ((wJ (I.trans rfl):Lib.decDigits q.den=[48]).trans yg.symm)
    exact q.den_nz this
   ·have:=yf ((wJ (I.trans rfl):Lib.decDigits q.den=[49]).trans uw.symm)
    exact hd this
theorem Lo {neg:Bool}{n:List UInt8}{m:Int} (hn:D4 n) (I:¬ (n=[48]/\neg=true)) (hm:m=if neg=true then -(dv n:Int) else dv n):
  Lib.itoa m=(if neg=true then 45::n else n)/\m.natAbs=dv n:=by
 have O:dv n=0->n=[48]:=λh=>by
  have e:=vy hn;rw [h,yg] at e; exact e.symm
 rw [tC];cases neg with
 | false=>
  simp only [Qw,Q6] at hm ⊢;rw [O7 (by omega),show m.natAbs=dv n by omega]
  exact ⟨vy hn,rfl⟩
 | true=>
  simp only [SH] at hm ⊢;have J:dv n≠0:=λh=>I ⟨O h,rfl⟩;rw [O8 (by omega),show m.natAbs=dv n by omega]
  exact ⟨by rw [vy hn],rfl⟩
theorem GZ (s:OX) (hs:s.size<=maxLen):Gd (oL s) (λc=>c=0↔∃ q,fits q/\s=ctext q):=by
 have Y:Gd (oL s) (λc=>c=0->∃ q,fits q/\s=ctext q):=by
  obtain ⟨l,rfl⟩:∃ l,s=ba l:=⟨bl s,(HO s).symm⟩;rw [gM] at hs;unfold oL;refine Gd.bind_eq (xW l) ?_;obtain ⟨neg,I⟩:∃ neg:Bool,neg=decide (l.head? = some 45):=⟨_,rfl⟩;generalize ht:(if l.head? = some 45 then l.tail else l)=t
  have hl:l=if neg=true then 45::t else t:=by
   by_cases h:l.head? = some 45
   ·rw [O8 h] at ht
    rw [I,UC h,O8 rfl,<- ht];cases l with
    | nil=>cases h
    | cons c r=>simp only [TT,Pk] at h; rw [h]; rfl
   ·rw [O7 h] at ht
    rw [I,UA h,O7 (by simp)]; exact ht
  have htl:t.length<=l.length:=by
   rw [hl]; split
   ·simp
   ·omega
  have hsz:neg=true->(ba t).size<(ba l).size:=λh=>by
   rw [gM,gM,hl,O8 h]; simp
  by_cases hsl:(47:UInt8) ∈ t
  ·obtain ⟨a,b,e,ha,_⟩:∃ a b,t=a++47::b/\(47:UInt8) ∉ a/\True:=by
    rcases s6 47 t with ⟨h1,_⟩ | ⟨a,b,e,h2,_⟩
    ·exact absurd hsl h1
    ·exact ⟨a,b,e,h2,O0⟩
   have hab:a.length+1+b.length=t.length:=by rw [e]; simp; omega
   rw [e];refine Gd.bind_eq (Ai ha (by omega)) ?_
   refine Gd.eE (sE a (by omega)) (λc1 J=>Gd.ite (λ_=>?_) (λO=>by simp at O))
   refine Gd.eE (sE b (by omega)) (λc2 hc2=>?_)
   unfold lS;refine Gd.ite (λ_=>Gd.ret (λh=>by simp at h)) (λhA=>Gd.ite (λ_=>Gd.ret (λh=>by simp at h)) (λZ=>Gd.ite (λ_=>?_) (λO=>by simp at O)))
   simp only [TC,TB,PK] at Z;obtain ⟨n1,n2⟩:=J.1 Z.1;obtain ⟨d1,d2⟩:=hc2.1 Z.2;have h0:¬ (a=[48]/\neg=true):=by
    rintro ⟨ea,en⟩;simp only [TC,Bool.and_eq_false_iff,UB] at hA;rcases hA.2 with h | h
    ·exact h (by rw [ea]; rfl)
    ·have:=hsz en; rw [e] at this; omega
   refine Gd.eE (FR n1 d1 n2 d2) (λr hr=>Gd.ite (λ_=>Gd.ret (λh=>by simp at h)) (λhC=>Gd.ret (λ_=>?_)))
   simp only [TC,TB,PK,UB] at hC;have hg:=hr.1 hC.2;have hnz:dv b≠0:=λh=>hC.1.1 (by
    have:=vy d1;rw [h,yg] at this; rw [<- this]; rfl)
   have hn1:dv b≠1:=λh=>hC.1.2 (by
    have:=vy d1;rw [h,uw] at this; rw [<- this]; rfl)
   obtain ⟨e1,e2⟩:=Lo (neg:=neg) n1 h0 rfl;refine ⟨Rat.mk' (if neg=true then -(dv a:Int) else dv a) (dv b) hnz (by rw [e2]; exact hg),⟨?_,?_⟩,?_⟩
   ·simp only; rw [e2,vy n1]; exact n2
   ·simp only; rw [vy d1]; exact d2
   ·unfold ctext B4
    simp only;rw [e1,O7 hn1,vy d1,hl,e]
    split <;> rfl
  ·refine Gd.bind_eq (Ah hsl) ?_
   refine Gd.eE (sE t (by omega)) (λc1 J=>Gd.ite (λO=>by simp at O) (λ_=>?_))
   unfold lS;refine Gd.ite (λ_=>Gd.ret (λh=>by simp at h)) (λhA=>Gd.ite (λ_=>Gd.ret (λh=>by simp at h)) (λZ=>Gd.ite (λO=>by simp at O) (λ_=>Gd.ret (λ_=>?_))))
   simp only [TC,TB,PK] at Z;obtain ⟨n1,n2⟩:=J.1 Z.1;have h0:¬ (t=[48]/\neg=true):=by
    rintro ⟨ea,en⟩;simp only [TC,Bool.and_eq_false_iff,UB] at hA;rcases hA.2 with h | h
    ·exact h (by rw [ea]; rfl)
    ·have:=hsz en; omega
   obtain ⟨e1,e2⟩:=Lo (neg:=neg) n1 h0 rfl;refine ⟨Rat.mk' (if neg=true then -(dv t:Int) else dv t) 1 (by decide) (by rw [e2]; exact Nat.coprime_one_right _),⟨?_,?_⟩,?_⟩
   ·simp only; rw [e2,vy n1]; exact n2
   ·simp only; rw [uw]; decide
   ·unfold ctext B4
    simp only;rw [e1,O8 O0,PH,<- hl]
 obtain ⟨c,e,h⟩:=Y;refine ⟨c,e,h,?_⟩;rintro ⟨q,hq,rfl⟩;rw [E3 hq] at e;exact (O4 e).symm
theorem FC {u k:Nat}{l:List bO} (J:Wf l) (ht:uJ l) (I:(Lib.decDigits (nv l)).length<=2000):l.length<=300:=by
 rcases QS 300 l.length with h | h
 ·exact absurd (AD (k:=2000) I) (FO 667 2000 300 (by decide) (by decide) J ht h)
 ·exact h
theorem oc.small {a:LR} (h:oc a) (O:fits (rv a)):RL a 300:=by
 obtain ⟨I,J⟩:=O;rw [h.num,jU] at I;rw [h.den] at J;exact ⟨FC (u:=0) (k:=0) h.n.wf h.n.tp I,FC (u:=0) (k:=0) h.d.wf h.d.tp J⟩
theorem Jd {a:LR} (h:oc a):Gd (oA a) (λr=>(r.2=true↔fits (rv a))/\(r.2=true->r.1=ctext (rv a))):=by
 have e1:(rv a).num.natAbs=nv a.N.words:=by rw [h.num,jU]
 have e2:(rv a).den=nv a.D.words:=h.den;unfold oA;refine Gd.eE (Ax h.n) (λt ht=>Gd.ite (λO=>Gd.ret ?_) (λO=>?_))
 ·have O:t.2=false:=by simpa using O
  refine ⟨⟨λJ=>by simp at J,λJ=>?_⟩,λJ=>by simp at J⟩
  have I:=ht.1;rw [O] at I;have:=J.1;rw [e1] at this;exact absurd this (Pc I.symm)
 ·have O:t.2=true:=by simpa using O
  have hN:=ht.1;rw [O] at hN;have hN:=O6 hN.symm;have hNt:=ht.2.1 O;refine Gd.eE (Ax h.d) (λu hu=>?_);have hval:fM a.D=((nv a.D.words:Nat):Int):=pB h.pos;have Y:(u.2=true↔fits (rv a)):=by
   unfold fits;rw [e1,e2,hu.1,PK];exact ⟨λx=>⟨hN,x⟩,λx=>x.2⟩
  have hut:u.2=true->u.1=ba (Lib.decDigits (rv a).den):=λx=>by rw [hu.2.1 x,hval,sj,e2]
  have Z:t.1=ba (Lib.itoa (rv a).num):=by rw [hNt,h.num]; rfl
  refine Gd.ite (λI=>Gd.ret ⟨Y,λJ=>?_⟩) (λI=>Gd.nd ?_ (Gd.nd ?_ (Gd.ret ⟨Y,λJ=>?_⟩)))
  ·have I:u.1=(⟨#[49]⟩:OX):=O6 I
   have:=hut J;rw [I] at this;have hd:(rv a).den=1:=yf ((wJ (show ba [49]=_ from this)).symm.trans uw.symm);unfold ctext B4;rw [O8 hd,PH]; exact Z
  ·have:=ht.2.2
   show t.1.size+1<=maxLen;unfold maxLen; omega
  ·have:=ht.2.2
   have:=hu.2.2;rw [Jh];show t.1.size+1+u.1.size<=maxLen;unfold maxLen; omega
  ·have I:u.1≠(⟨#[49]⟩:OX):=Pc I
   have h2:=hut J;have hd:(rv a).den≠1:=λe=>I (by rw [h2,e,uw]; rfl)
   unfold ctext B4;rw [O7 hd];simp only;rw [Z,h2,show (⟨#[47]⟩:OX)=ba [47] from rfl,Ef,Ef,Pv]; rfl
theorem Kw {p q:Rat} (I:p.num=q.num) (J:p.den=q.den):p=q:=Rat.ext I J
theorem yW {n:Int} (h:(Lib.decDigits n.natAbs).length<=2000):Gd (kH (ba (Lib.itoa n))) (λa=>rZ a/\a.words.length<=10000/\fM a=n):=by
 have J:=lx n.natAbs;have:=F4 J.1.CR h (decide (n<0));rw [tC];simp only [PK] at this;refine this.mono (λa I=>⟨I.1,I.2.1,?_⟩);rw [I.2.2,J.2]
 split <;> omega
theorem Ay (n:Int):(47:UInt8) ∉ Lib.itoa n:=by
 rw [tC];have:=AO (lx n.natAbs).1.CR
 split
 ·simp only [PN,not_or]; exact ⟨by decide,this⟩
 ·exact this
theorem FI {n:Int} (h:(Lib.decDigits n.natAbs).length<=2000):(Lib.itoa n).length<=2001:=by
 rw [tC]
 split
 ·simp only [Pa]; omega
 ·omega
theorem J2 {q:Rat}{k:Nat} (hn:q.num.natAbs<10 ^ k) (O:q.den<10 ^ k) (J:1<=k) (I:k<=2000):fits q:=
 ⟨P0 (BB J hn) I,P0 (BB J O) I⟩
theorem Eu {q:Rat} (h:fits q):(ctext q).size<=10000:=by
 unfold ctext B4;rw [gM,Pj];have:=FI h.1;have:=h.2
 split
 ·simp; omega
 ·simp only [Pa]; omega
theorem De {l:List OX} (hs:∀ s ∈ l,s.size<=maxLen):Gd (qk l) (λc=>c=0↔∀ s ∈ l,∃ q,fits q/\s=ctext q):=by
 unfold qk;refine Gd.seen (λpre _=>∀ s ∈ pre,∃ q,fits q/\s=ctext q) ?_ (λ_ J=>Gd.ret ⟨λ_=>J,λ_=>rfl⟩) () (λs hs=>by cases hs)
 rintro i y _ nx pre ⟨post,hl⟩ J O;have Z:y ∈ l:=by rw [hl]; simp
 unfold rO;refine Gd.eE (GZ y (hs y Z)) (λc Y=>Gd.ite (λh=>Gd.ret ?_) (λh=>O () (λz I=>?_)))
 ·have h:c≠0:=by simpa using h
  exact ⟨λe=>absurd e h,λe=>absurd (Y.2 (e y Z)) h⟩
 ·have h:c=0:=by simpa using h
  rcases Pe.1 I with I | I
  ·exact J z I
  ·rw [PE] at I; subst I; exact Y.1 h
def RB (q:Rat) (L:Nat):Prop:=∃ r:LR,oc r/\RL r L/\rv r=q
theorem oc.rb {r:LR} (h:oc r) {L:Nat} (Y:RB (rv r) L):RL r L:=by
 obtain ⟨s,I,J,O⟩:=Y;rw [h.ext' I O.symm]; exact J
theorem RB.mono {q:Rat}{L M:Nat} (h:RB q L) (Y:L<=M):RB q M:=by
 obtain ⟨s,I,J,O⟩:=h;exact ⟨s,I,J.mono Y,O⟩
theorem RB.add {p q:Rat}{A B:Nat} (h:RB p A) (k:RB q B) (Y:A+B<=800000):RB (p+q) (A+B+1):=by
 obtain ⟨a,I,J,O⟩:=h; obtain ⟨b,Z,k2,k3⟩:=k
 obtain ⟨r,_,r1,r2,r3⟩:=vM I Z J k2 Y;exact ⟨r,r1,r2,by rw [r3,O,k3]⟩
theorem RB.sub {p q:Rat}{A B:Nat} (h:RB p A) (k:RB q B) (Y:A+B<=800000):RB (p-q) (A+B+1):=by
 obtain ⟨a,I,J,O⟩:=h; obtain ⟨b,Z,k2,k3⟩:=k
 obtain ⟨r,_,r1,r2,r3⟩:=xf I Z J k2 Y;exact ⟨r,r1,r2,by rw [r3,O,k3]⟩
theorem RB.mul {p q:Rat}{A B:Nat} (h:RB p A) (k:RB q B) (Y:A+B<=800000):RB (p*q) (A+B):=by
 obtain ⟨a,I,J,O⟩:=h; obtain ⟨b,Z,k2,k3⟩:=k
 obtain ⟨r,_,r1,r2,r3⟩:=yC I Z J k2 Y;exact ⟨r,r1,r2,by rw [r3,O,k3]⟩
theorem L4 {w:List bO} (Y:Wf w) (ht:uJ w) {k:Nat} (h:nv w<WB ^ k):w.length<=k:=by
 rcases QS k w.length with hl | hl
 ·exfalso
  have I:w≠[]:=λe=>by rw [e] at hl; simp at hl
  have J:=DJ Y ht I;have O:WB ^ k<=WB ^ (w.length-1):=Ug (by decide) (by omega)
  exact absurd h (Nat.not_lt.2 (P0 O J))
 ·exact hl
theorem Hh (k m:Nat) (h:32*k<=3*m):WB ^ k<=10 ^ m:=by
 have J:(2:Nat) ^ (32*k)<=2 ^ (3*m):=Ug (by decide) h
 have I:((2:Nat) ^ 3) ^ m<=10 ^ m:=Uf (by decide) m
 rw [<- Ui] at I;rw [zS k];exact P0 J I
theorem Jz {k:Nat} (I:k<=187):WB ^ k<=10 ^ 2000:=Hh k 2000 (by omega)
theorem RB.fits {q:Rat}{L:Nat} (h:RB q L) (hL:L<=187):fits q:=by
 obtain ⟨r,I,J,rfl⟩:=h;have e:=Jz hL;have key:∀ {w:List bO},Wf w->w.length<=L->nv w<10 ^ 2000:=λO hl=>
  RC (rV O) (P0 (Ug (by decide) hl) e)
 refine J2 (k:=2000) ?_ ?_ (by decide) (Pn _)
 ·rw [I.num,jU]; exact key I.n.wf J.1
 ·rw [I.den]; exact key I.d.wf J.2
theorem Lt {m:Int}{k:Nat} (h:m.natAbs<WB ^ k) (O:k<=187):∃ a:LI,rZ a/\a.words.length<=k/\fM a=m:=by
 obtain ⟨a,_,I,Y,J⟩:=yW (n:=m) (BB (by decide) (RC h (Jz O)))
 exact ⟨a,I,L4 I.wf I.tp (by rw [<- jU,J]; exact h),J⟩
theorem RB.ratio {m d:Int}{k:Nat} (h:m.natAbs<WB ^ k) (Y:d.natAbs<WB ^ k) (h0:d≠0) (J:k<=187):RB ((m:Rat) / (d:Rat)) k:=by
 obtain ⟨a,a1,a2,O⟩:=Lt h J;obtain ⟨b,b1,b2,I⟩:=Lt Y J;obtain ⟨r,_,Z,r2,r3,r4⟩:=wW a1 b1 (by rw [<- jU,I]; omega) (by omega) (by omega)
 exact ⟨r,Z,⟨by omega,by omega⟩,by rw [r4,O,I,Rat.divInt_eq_div]⟩
theorem RB.int {m:Int}{k:Nat} (h:m.natAbs<WB ^ k) (I:1<=k) (J:k<=187):RB (m:Rat) k:=by
 have:=RB.ratio (m:=m) (d:=1) h (by
  have:WB ^ 1<=WB ^ k:=Ug (by decide) I
  have:WB ^ 1=4294967296:=by decide
  show 1<WB ^ k;omega) (by decide) J
 have e:(m:Rat) / ((1:Int):Rat)=(m:Rat):=by rw [Rat.intCast_one]; grind
 rwa [e] at this
theorem RB.small {m:Int} (h:m.natAbs<4294967296):RB (m:Rat) 1:=RB.int (k:=1) (by show m.natAbs<4294967296 ^ 1; omega) (by decide) (by decide)
theorem RB.NT {m d:Int} (h:m.natAbs<4294967296) (J:d.natAbs<4294967296) (I:d≠0):RB ((m:Rat) / (d:Rat)) 1:=
 RB.ratio (k:=1) (by show m.natAbs<4294967296 ^ 1; omega) (by show d.natAbs<4294967296 ^ 1; omega) I (by decide)
theorem DM {q:Rat} (h:fits q):Gd (pI (ctext q)) (λa=>oc a/\RL a 300/\rv a=q):=by
 have O:∀ a:LR,rZ a.N->rZ a.D->fM a.N=q.num->fM a.D=(q.den:Int)->oc a/\RL a 300/\rv a=q:=λa h1 h2 h3 h4=>by
  have hp:a.D.minus=false:=h2.plus (by omega)
  have J:nv a.D.words=q.den:=by
   have:=pB hp;omega
  have I:oc a:=⟨h1,h2,hp,by rw [J]; exact q.den_nz,by rw [J,<- jU,h3]; exact q.reduced⟩
  have hv:rv a=q:=Kw (by rw [I.num,h3]) (by rw [I.den,J])
  exact ⟨I,I.small (by rw [hv]; exact h),hv⟩
 have hl:=FI h.1;unfold pI ctext B4
 by_cases J:q.den=1
 ·rw [O8 J,PH]
  refine Gd.bind_eq (Ah (Ay _)) (Gd.ite (λ_=>?_) (λhx=>by simp at hx))
  refine Gd.eE (yW h.1) (λa Y=>Gd.eE (AS (n:=1) (by omega)) (λb Z=>Gd.ret ?_))
  exact O _ Y.1 Z.1 Y.2.2 (by rw [Z.2.2,J]; rfl)
 ·rw [O7 J]
  refine Gd.bind_eq (Ai (Ay _) (by have:=h.2; unfold maxLen; omega)) (Gd.ite (λhx=>by simp at hx) (λ_=>?_))
  refine Gd.eE (yW h.1) (λa Y=>Gd.eE (AX (lx q.den).1 h.2) (λb Z=>Gd.ret ?_));exact O _ Y.1 Z.1 Y.2.2 (by rw [Z.2.2,(lx q.den).2])
end Go.Sim
namespace Go.Sim
open _root_.Go.IntKind (i64 u64 u32 u8)
def sm:Nat->(Nat->Rat)->Rat
 | 0,_=>0
 | n+1,f=>sm n f+f n
def pr:Nat->(Nat->Rat)->Rat
 | 0,_=>1
 | n+1,f=>pr n f*f n
theorem n_ {f g:Nat->Rat}:∀ {n:Nat},(∀ i,i<n->f i=g i)->sm n f=sm n g
 | 0,_=>rfl
 | n+1,h=>by
  unfold sm;rw [n_ (λi hi=>h i (by omega)),h n (by omega)]
theorem vj {f g:Nat->Rat}:∀ {n:Nat},(∀ i,i<n->f i=g i)->pr n f=pr n g
 | 0,_=>rfl
 | n+1,h=>by
  unfold pr;rw [vj (λi hi=>h i (by omega)),h n (by omega)]
theorem uH {f:Nat->Rat}:∀ {n:Nat},(∀ i,i<n->f i=0)->sm n f=0
 | 0,_=>rfl
 | n+1,h=>by
  unfold sm;rw [uH (λi hi=>h i (by omega)),h n (by omega)]; grind
theorem vQ (f g:Nat->Rat):∀ n:Nat,sm n (λi=>f i+g i)=sm n f+sm n g
 | 0=>by unfold sm; grind
 | n+1=>by unfold sm; rw [vQ f g n]; grind
theorem qM (a:Rat) (f:Nat->Rat):∀ n:Nat,sm n (λi=>a*f i)=a*sm n f
 | 0=>by unfold sm; grind
 | n+1=>by unfold sm; rw [qM a f n]; grind
theorem A3 {f:Nat->Rat}{p:Nat}:∀ {n:Nat},p<n->(∀ i,i<n->i≠p->f i=0)->sm n f=f p
 | 0,h,_=>by omega
 | n+1,h,hz=>by
  unfold sm
  by_cases e:p=n
  ·subst e
   rw [uH (λi hi=>hz i (by omega) (by omega))]; grind
  ·rw [A3 (by omega) (λi hi I=>hz i (by omega) I),hz n (by omega) (λh=>e h.symm)]; grind
theorem Jk {f:Nat->Rat}{p:Nat}:∀ {n:Nat},p+1<n->(∀ i,i<n->i≠p->i≠p+1->f i=0)->sm n f=f p+f (p+1)
 | 0,h,_=>by omega
 | n+1,h,hz=>by
  unfold sm
  by_cases e:p+1=n
  ·subst e
   rw [A3 (p:=p) (by omega) (λi hi I=>hz i (by omega) I (by omega))]
  ·rw [Jk (by omega) (λi hi J O=>hz i (by omega) J O),hz n (by omega) (by omega) (λh=>e h.symm)]; grind
theorem sF {f:Nat->Rat}:∀ {n:Nat},(∀ i,i<n->0<=f i)->0<=sm n f
 | 0,_=>Uu
 | n+1,h=>by
  unfold sm;have I:=sF (n:=n) (λi hi=>h i (by omega))
  have J:=h n (by omega)
  grind
theorem Jj {f g:Nat->Rat}:∀ {n:Nat},(∀ i,i<n->f i<=g i)->sm n f<=sm n g
 | 0,_=>Uu
 | n+1,h=>by
  unfold sm;have I:=Jj (n:=n) (λi hi=>h i (by omega))
  have J:=h n (by omega)
  grind
theorem me {f:Nat->Rat}:∀ {n:Nat},(∀ i,i<n->0<=f i)->0<=pr n f
 | 0,_=>by unfold pr; decide
 | n+1,h=>by
  unfold pr;exact Uy (me (n:=n) (λi hi=>h i (by omega))) (h n (by omega))
theorem pN {a b c d:Rat} (J:a<=b) (O:c<=d) (a0:0<=a) (I:0<=c):a*c<=b*d:=by
 have Y:a*c<=b*c:=Rat.mul_le_mul_of_nonneg_right J I;have Z:b*c<=b*d:=Rat.mul_le_mul_of_nonneg_left O (by grind)
 exact Uv Y Z
theorem FY {f g:Nat->Rat}:∀ {n:Nat},(∀ i,i<n->0<=f i)->(∀ i,i<n->f i<=g i)->pr n f<=pr n g
 | 0,_,_=>Uu
 | n+1,h0,h=>by
  unfold pr;exact pN (FY (λi hi=>h0 i (by omega)) (λi hi=>h i (by omega))) (h n (by omega)) (me (λi hi=>h0 i (by omega))) (h0 n (by omega))
theorem CD (f g:Nat->Rat):∀ n:Nat,pr n (λi=>f i*g i)=pr n f*pr n g
 | 0=>by unfold pr; grind
 | n+1=>by unfold pr; rw [CD f g n]; grind
abbrev Mt:=Nat->Nat->Rat
def skip (p i:Nat):Nat:=if i<p then i else i+1
def minor (M:Mt) (p:Nat):Mt:=λr c=>M (skip p r) (c+1)
def sg (i:Nat):Rat:=if i%2=0 then 1 else -1
def p_:Nat->Mt->Rat
 | 0,_=>1
 | n+1,M=>sm (n+1) (λi=>sg i*M i 0*p_ n (minor M i))
def row (M:Mt) (p:Nat) (x:Nat->Rat):Mt:=λr=>if r=p then x else M r
theorem xb:∀ {n:Nat}{M M':Mt},(∀ r c,r<n->c<n->M r c=M' r c)->p_ n M=p_ n M'
 | 0,_,_,_=>rfl
 | n+1,M,M',h=>by
  unfold p_;refine n_ (λi hi=>?_);rw [h i 0 hi (by omega),xb (λr c J I=>?_)]
  unfold minor;exact h _ _ (by unfold skip; split <;> omega) (by omega)
theorem uh (M:Mt) (p:Nat) (x:Nat->Rat):minor (row M p x) p=minor M p:=by
 funext r c
 unfold minor row;rw [O7 (by unfold skip; split <;> omega)]
theorem vH (M:Mt) {p i:Nat} (h:p<i) (x:Nat->Rat):minor (row M p x) i=row (minor M i) p (λc=>x (c+1)):=by
 funext r c
 unfold minor row
 by_cases e:r=p
 ·subst e
  rw [O8 (by unfold skip; rw [O8 h]),O8 rfl]
 ·rw [O7 (by unfold skip; split <;> omega),O7 e]
theorem vG (M:Mt) {p i:Nat} (h:i<p) (x:Nat->Rat):minor (row M p x) i=row (minor M i) (p-1) (λc=>x (c+1)):=by
 funext r c
 unfold minor row
 by_cases e:r=p-1
 ·subst e
  rw [O8 (by unfold skip; split <;> omega),O8 rfl]
 ·rw [O7 (by unfold skip; split <;> omega),O7 e]
theorem yh:∀ {n:Nat} (M:Mt) {p:Nat} (I:p<n) (a b:Rat) (x y:Nat->Rat),p_ n (row M p (λc=>a*x c+b*y c))=a*p_ n (row M p x)+b*p_ n (row M p y)
 | 0,_,_,h,_,_,_,_=>by omega
 | n+1,M,p,I,a,b,x,y=>by
  unfold p_;rw [<- qM,<- qM,<- vQ];refine n_ (λi hi=>?_);rcases RX i p with h | h | h
  ·rw [vG M h,vG M h,vG M h,yh (minor M i) (by omega) a b (λc=>x (c+1)) (λc=>y (c+1))]
   unfold row;rw [O7 (by omega),O7 (by omega),O7 (by omega)]
   grind
  ·subst h
   rw [uh,uh,uh];unfold row;rw [O8 rfl,O8 rfl,O8 rfl]
   grind
  ·rw [vH M h,vH M h,vH M h,yh (minor M i) (by omega) a b (λc=>x (c+1)) (λc=>y (c+1))]
   unfold row;rw [O7 (by omega),O7 (by omega),O7 (by omega)]
   grind
theorem KD (i:Nat):sg (i+1) = - sg i:=by
 unfold sg
 by_cases h:i%2=0
 ·rw [O8 h,O7 (by omega)]
 ·rw [if_neg h,if_pos (by omega)]; grind
theorem zB:∀ {n:Nat}{M:Mt}{p:Nat},p+1<n->(∀ c,c<n->M p c=M (p+1) c)->p_ n M=0
 | 0,_,_,h,_=>by omega
 | n+1,M,p,hp,he=>by
  unfold p_;rw [Jk (p:=p) hp (λi hi J O=>?_)]
  ·have:p_ n (minor M p)=p_ n (minor M (p+1)):=xb (λr c Y I=>by
    unfold minor skip
    by_cases e:r=p
    ·subst e
     rw [O7 (by omega),O8 (by omega)]
     exact (he (c+1) (by omega)).symm
    ·by_cases e2:r<p
     ·rw [O8 e2,O8 (by omega)]
     ·rw [O7 e2,O7 (by omega)])
   rw [this,KD,he 0 (by omega)]
   grind
  ·have:p_ n (minor M i)=0:=by
    rcases RX i p with h | h | h
    ·refine zB (p:=p-1) (by omega) (λc I=>?_)
     unfold minor skip;rw [O7 (by omega),O7 (by omega),show p-1+1=p by omega]
     exact he (c+1) (by omega)
    ·exact absurd h J
    ·refine zB (p:=p) (by omega) (λc I=>?_)
     unfold minor skip;rw [O8 (by omega),O8 (by omega)]
     exact he (c+1) (by omega)
   rw [this]; grind
theorem A0 (M:Mt) (p:Nat):row M p (M p)=M:=by
 funext r
 unfold row
 by_cases e:r=p
 ·subst e; rw [O8 rfl]
 ·rw [O7 e]
theorem vm (M:Mt) {p q:Nat} (h:p≠q) (x y:Nat->Rat):row (row M p x) q y=row (row M q y) p x:=by
 funext r
 unfold row
 by_cases e:r=q
 ·subst e; rw [O8 rfl,O7 (λe=>h e.symm),O8 rfl]
 ·rw [O7 e]
  by_cases e2:r=p
  ·rw [O8 e2,O8 e2]
  ·rw [O7 e2,O7 e2,O7 e]
theorem Ak {n:Nat} (M:Mt) {p:Nat} (I:p<n) (x y:Nat->Rat):p_ n (row M p (λc=>x c+y c))=p_ n (row M p x)+p_ n (row M p y):=by
 have:=yh M I 1 1 x y;simp only [Rat.one_mul] at this;exact this
theorem Ia {n:Nat} (M:Mt) {p:Nat} (J:p+1<n) (x y:Nat->Rat):p_ n (row (row M p x) (p+1) y) = - p_ n (row (row M p y) (p+1) x):=by
 have two:∀ u:Nat->Rat,p_ n (row (row M p u) (p+1) u)=0:=λu=>zB J (λc O=>by
  unfold row;rw [O7 (by omega),O8 rfl,O8 rfl])
 have h:=two (λc=>x c+y c);have I:p≠p+1:=by omega
 rw [Ak _ J,vm M I,vm M I,Ak _ (by omega),Ak _ (by omega),<- vm M I,<- vm M I,<- vm M I,<- vm M I,two x,two y] at h
 grind
theorem B6:∀ (k:Nat) {n:Nat}{M:Mt}{p q:Nat},q=p+1+k->q<n->(∀ c,M p c=M q c)->p_ n M=0
 | 0,n,M,p,q,hq,hn,he=>by
  subst hq;exact zB (by omega) (λc _=>he c)
 | k+1,n,M,p,q,hq,hn,he=>by
  have e1:p_ n M=p_ n (row (row M (q-1) (M (q-1))) (q-1+1) (M (q-1+1))):=by
   rw [A0,A0]
  rw [e1,Ia M (by omega)]
  have:p_ n (row (row M (q-1) (M (q-1+1))) (q-1+1) (M (q-1)))=0:=by
   refine B6 k (p:=p) (q:=q-1) (by omega) (by omega) (λc=>?_)
   unfold row;rw [O7 (by omega),O7 (by omega),O7 (by omega),O8 rfl,show q-1+1=q by omega]
   exact he c
  rw [this]; grind
theorem H9 {n:Nat}{M:Mt}{p q:Nat} (J:p<n) (O:q<n) (I:p≠q) (he:∀ c,M p c=M q c):p_ n M=0:=by
 rcases QS p q with h | h
 ·exact B6 (q-p-1) (p:=p) (q:=q) (by omega) O he
 ·exact B6 (p-q-1) (p:=q) (q:=p) (by omega) J (λc=>(he c).symm)
theorem B8 {n:Nat} (M:Mt) {p:Nat} (I:p<n):p_ n (row M p (λ_=>0))=0:=by
 have:=yh M I 0 0 (λ_=>0) (λ_=>0);have e:(λc:Nat=>(0:Rat)*(λ_:Nat=>(0:Rat)) c+0*(λ_:Nat=>(0:Rat)) c)=λ_=>0:=by funext c; grind
 rw [e] at this;rw [this]; grind
theorem Al {n:Nat} (M:Mt) {p:Nat} (I:p<n) (x:Nat->Rat) (Y:Mt):∀ k:Nat,p_ n (row M p (λc=>sm k (λj=>x j*Y j c)))=sm k (λj=>x j*p_ n (row M p (Y j)))
 | 0=>B8 M I
 | k+1=>by
  have e:(λc=>sm (k+1) (λj=>x j*Y j c))=λc=>1*sm k (λj=>x j*Y j c)+x k*Y k c:=by
   funext c
   show sm k (λj=>x j*Y j c)+x k*Y k c=_;rw [Rat.one_mul]
  rw [e,yh M I 1 (x k) (λc=>sm k (λj=>x j*Y j c)) (Y k),Al M I x Y k];show _=sm k _+_
  grind
theorem Dg {n:Nat} (M:Mt) {p:Nat} (J:p<n) (x:Nat->Rat):p_ n (row M p (λc=>sm n (λj=>x j*M j c)))=x p*p_ n M:=by
 rw [Al M J,A3 J (λj O I=>?_),A0];have:p_ n (row M p (M j))=0:=H9 J O (λe=>I e.symm) (λc=>by
  unfold row;rw [O8 rfl,O7 I])
 rw [this]; grind
theorem H4 {n:Nat}{M:Mt}{x b:Nat->Rat} (h:∀ c,c<n->sm n (λj=>x j*M j c)=b c) {p:Nat} (J:p<n):p_ n (row M p b)=x p*p_ n M:=by
 rw [<- Dg M J];refine xb (λr c O I=>?_);unfold row
 by_cases e:r=p
 ·rw [O8 e,O8 e]; exact (h c I).symm
 ·rw [O7 e,O7 e]
theorem Dh:∀ {n:Nat}{M:Mt},(∀ c,c<n->M n c=0)->p_ (n+1) M=M n n*p_ n M
 | 0,M,_=>by
  show (0:Rat)+sg 0*M 0 0*1=M 0 0*1;have:sg 0=1:=rfl;rw [this]; grind
 | n+1,M,h=>by
  have e1:p_ (n+1+1) M=sm (n+1) (λi=>sg i*M i 0*p_ (n+1) (minor M i))+sg (n+1)*M (n+1) 0*p_ (n+1) (minor M (n+1)):=rfl;have e2:p_ (n+1) M=sm (n+1) (λi=>sg i*M i 0*p_ n (minor M i)):=rfl;rw [e1,e2,h 0 (by omega),<- qM]
  have:sm (n+1) (λi=>sg i*M i 0*p_ (n+1) (minor M i))=sm (n+1) (λi=>M (n+1) (n+1)*(sg i*M i 0*p_ n (minor M i))):=by
   refine n_ (λi hi=>?_);have hs:skip i n=n+1:=by unfold skip; rw [O7 (by omega)]
   have hl:p_ (n+1) (minor M i)=minor M i n n*p_ n (minor M i):=Dh (λc I=>by
    unfold minor;rw [hs];exact h (c+1) (by omega))
   have hm:minor M i n n=M (n+1) (n+1):=by unfold minor; rw [hs]
   rw [hl,hm]; grind
  rw [this]; grind
def tB (q:Rat):Prop:=∃ z:Int,q=(z:Rat)
theorem ym {a b:Rat} (h:tB a) (k:tB b):tB (a+b):=by
 obtain ⟨x,rfl⟩:=h; obtain ⟨y,rfl⟩:=k
 exact ⟨x+y,(Rat.intCast_add x y).symm⟩
theorem rG {a b:Rat} (h:tB a) (k:tB b):tB (a*b):=by
 obtain ⟨x,rfl⟩:=h; obtain ⟨y,rfl⟩:=k
 exact ⟨x*y,(Us x y).symm⟩
theorem LW (i:Nat):tB (sg i):=by
 unfold sg
 split
 ·exact ⟨1,rfl⟩
 ·exact ⟨-1,rfl⟩
theorem EL {f:Nat->Rat}:∀ {n:Nat},(∀ i,i<n->tB (f i))->tB (sm n f)
 | 0,_=>⟨0,rfl⟩
 | n+1,h=>by unfold sm; exact ym (EL (λi hi=>h i (by omega))) (h n (by omega))
theorem B7:∀ {n:Nat}{M:Mt},(∀ r c,r<n->c<n->tB (M r c))->tB (p_ n M)
 | 0,_,_=>⟨1,rfl⟩
 | n+1,M,h=>by
  unfold p_;exact EL (λi hi=>rG (rG (LW i) (h i 0 hi (by omega))) (B7 (λr c J I=>h _ _ (by unfold skip; split <;> omega) (by omega))))
theorem F0 (v w:Nat->Rat) (I:∀ i,0<=v i) (J:∀ i,0<=w i):∀ n:Nat,sm (n+1) (λi=>v i*pr n (λr=>w (skip i r)))+pr (n+1) w<=pr (n+1) (λr=>v r+w r)
 | 0=>by
  show 0+v 0*1+1*w 0<=1*(v 0+w 0)
  grind
 | n+1=>by
  have ih:=F0 v w I J n;have e1:sm (n+1+1) (λi=>v i*pr (n+1) (λr=>w (skip i r)))=sm (n+1) (λi=>v i*pr (n+1) (λr=>w (skip i r)))+v (n+1)*pr (n+1) (λr=>w (skip (n+1) r)):=rfl;have e2:sm (n+1) (λi=>v i*pr (n+1) (λr=>w (skip i r)))=w (n+1)*sm (n+1) (λi=>v i*pr n (λr=>w (skip i r))):=by
   rw [<- qM];refine n_ (λi hi=>?_);have:pr (n+1) (λr=>w (skip i r))=pr n (λr=>w (skip i r))*w (n+1):=by
    show pr n _*w (skip i n)=_;rw [show skip i n=n+1 by unfold skip; rw [O7 (by omega)]]
   rw [this]; grind
  have O:pr (n+1) (λr=>w (skip (n+1) r))=pr (n+1) w:=vj (λr hr=>by unfold skip; rw [O8 hr])
  have Y:pr (n+1+1) w=pr (n+1) w*w (n+1):=rfl;have Z:pr (n+1+1) (λr=>v r+w r)=pr (n+1) (λr=>v r+w r)*(v (n+1)+w (n+1)):=rfl;rw [e1,e2,O,Y,Z];have s0:0<=sm (n+1) (λi=>v i*pr n (λr=>w (skip i r))):=sF (λi _=>Rat.mul_nonneg (I i) (me (λr _=>J _)));have m1:=Rat.mul_le_mul_of_nonneg_right ih (show (0:Rat)<=v (n+1)+w (n+1) by have:=I (n+1); have:=J (n+1); grind)
  have m2:=Uy s0 (I (n+1))
  grind
theorem Ez:∀ {n:Nat}{M A:Mt},(∀ r c,0<=A r c)->(∀ r c,r<n->c<n->-A r c<=M r c/\M r c<=A r c)->-pr n (λr=>sm n (A r))<=p_ n M/\p_ n M<=pr n (λr=>sm n (A r))
 | 0,_,_,_,_=>by unfold p_ pr; exact ⟨by decide,by decide⟩
 | n+1,M,A,h0,h=>by
  have I:∀ r,sm (n+1) (A r)=A r 0+sm n (λc=>A r (c+1)):=λr=>by
   have:∀ k,sm (k+1) (A r)=A r 0+sm k (λc=>A r (c+1)):=λk=>by
    induction k with
    | zero=>show 0+A r 0=A r 0+0; grind
    | succ k ih=>
     have e1:sm (k+1+1) (A r)=sm (k+1) (A r)+A r (k+1):=rfl;have e2:sm (k+1) (λc=>A r (c+1))=sm k (λc=>A r (c+1))+A r (k+1):=rfl;rw [e1,e2,ih]; grind
   exact this n
  have O:∀ r,0<=sm n (λc=>A r (c+1)):=λr=>sF (λc _=>h0 r (c+1));have hp:=F0 (λr=>A r 0) (λr=>sm n (λc=>A r (c+1))) (λr=>h0 r 0) O n;have hP:pr (n+1) (λr=>sm (n+1) (A r))=pr (n+1) (λr=>A r 0+sm n (λc=>A r (c+1))):=vj (λr _=>I r);have Z:=me (n:=n+1) (f:=λr=>sm n (λc=>A r (c+1))) (λr _=>O r);have J:∀ i,i<n+1->-(A i 0*pr n (λr=>sm n (λc=>A (skip i r) (c+1))))<=sg i*M i 0*p_ n (minor M i)/\sg i*M i 0*p_ n (minor M i)<=A i 0*pr n (λr=>sm n (λc=>A (skip i r) (c+1))):=λi hi=>by
   obtain ⟨d1,d2⟩:=Ez (n:=n) (M:=minor M i) (A:=λr c=>A (skip i r) (c+1)) (λr c=>h0 _ _) (λr c hr hc=>h _ _ (by unfold skip; split <;> omega) (by omega))
   obtain ⟨m1,m2⟩:=h i 0 hi (by omega)
   have key:∀ a b x y:Rat,-a<=x->x<=a->-b<=y->y<=b->-(a*b)<=x*y/\x*y<=a*b:=λa b x y h1 h2 h3 h4=>by
    have t1:=Rat.mul_nonneg (show (0:Rat)<=a-x by grind) (show (0:Rat)<=b-y by grind)
    have t2:=Rat.mul_nonneg (show (0:Rat)<=a+x by grind) (show (0:Rat)<=b+y by grind)
    have t3:=Rat.mul_nonneg (show (0:Rat)<=a-x by grind) (show (0:Rat)<=b+y by grind)
    have t4:=Rat.mul_nonneg (show (0:Rat)<=a+x by grind) (show (0:Rat)<=b-y by grind)
    constructor <;> grind
   obtain ⟨k1,k2⟩:=key _ _ _ _ m1 m2 d1 d2;unfold sg
   split
   ·constructor <;> grind
   ·constructor <;> grind
  rw [hP];have Y:sm (n+1) (λi=>A i 0*pr n (λr=>sm n (λc=>A (skip i r) (c+1))))<=pr (n+1) (λr=>A r 0+sm n (λc=>A r (c+1))):=by grind
  have up:p_ (n+1) M<=sm (n+1) (λi=>A i 0*pr n (λr=>sm n (λc=>A (skip i r) (c+1)))):=Jj (λi hi=>(J i hi).2);have lo:sm (n+1) (λi=>(-1)*(A i 0*pr n (λr=>sm n (λc=>A (skip i r) (c+1)))))<=p_ (n+1) M:=Jj (λi hi=>by have:=(J i hi).1; grind)
  rw [qM] at lo;constructor <;> grind
theorem H_ {k:Nat}{M:Mt}{x:Nat->Rat} (hx:x k=1) (O:∀ c,c<k->sm (k+1) (λj=>x j*M j c)=0):p_ (k+1) M=sm (k+1) (λj=>x j*M j k)*p_ k M:=by
 have I:=Dg M (QK k) x;rw [hx,Rat.one_mul] at I;rw [<- I];have Y:p_ (k+1) (row M k (λc=>sm (k+1) (λj=>x j*M j c)))=(row M k (λc=>sm (k+1) (λj=>x j*M j c))) k k*p_ k (row M k (λc=>sm (k+1) (λj=>x j*M j c))):=Dh (λc J=>by
  unfold row;rw [O8 rfl];exact O c J)
 rw [Y];have Z:p_ k (row M k (λc=>sm (k+1) (λj=>x j*M j c)))=p_ k M:=xb (λr c hr J=>by
  unfold row;rw [O7 (by omega)])
 rw [Z];unfold row;rw [O8 rfl]
theorem Et {k:Nat}{M:Mt}{x b:Nat->Rat} (J:∀ r c,r<k->c<k->tB (M r c)) (O:∀ c,c<k->tB (b c)) (h:∀ c,c<k->sm k (λj=>x j*M j c)=b c) {p:Nat} (Y:p<k):tB (x p*p_ k M):=by
 rw [<- H4 h Y];refine B7 (λr c Z I=>?_);unfold row
 by_cases e:r=p
 ·rw [O8 e]; exact O c I
 ·rw [O7 e]; exact J r c Z I
theorem CE {f:Nat->Rat}:∀ {n:Nat},(∀ i,i<n->1<=f i)->1<=pr n f
 | 0,_=>by unfold pr; decide
 | n+1,h=>by
  unfold pr;have I:=CE (n:=n) (λi hi=>h i (by omega))
  have J:=h n (by omega)
  have:=pN I J (by decide) (by decide)
  grind
theorem I4 {f:Nat->Rat}{s:Rat} (hs:0<=s) {p:Nat}:∀ {n:Nat},p<n->(∀ i,i<n->1<=f i)->pr n (λr=>if r=p then s else f r)<=pr n f*s
 | 0,h,_=>by omega
 | n+1,h,h1=>by
  have Y:∀ i,i<n+1->0<=f i:=λi hi=>by have:=h1 i hi; grind
  have I:=me (n:=n) (f:=f) (λi hi=>Y i (by omega))
  by_cases e:p=n
  ·subst e
   show pr p (λr=>if r=p then s else f r)*(if p=p then s else f p)<=pr p f*f p*s
   rw [O8 rfl];have e2:pr p (λr=>if r=p then s else f r)=pr p f:=vj (λi hi=>O7 (by omega))
   rw [e2];have O:=Uy I hs;have:=pN (Uu (a:=pr p f*s)) (h1 p (by omega)) O (by decide)
   grind
  ·show pr n (λr=>if r=p then s else f r)*(if n=p then s else f n)<=pr n f*f n*s
   rw [O7 (λe2:n=p=>e e2.symm)];have J:p<n:=by omega
   have ih:=I4 (f:=f) hs J (λi hi=>h1 i (Nat.lt_succ_of_lt hi));have:=Rat.mul_le_mul_of_nonneg_right ih (Y n (by omega))
   grind
theorem GD {k:Nat}{M A:Mt}{x b a:Nat->Rat}{S:Rat} (J:∀ r c,0<=A r c) (I:∀ c,0<=a c) (hM:∀ r c,r<k->c<k->-A r c<=M r c/\M r c<=A r c) (hb:∀ c,c<k->-a c<=b c/\b c<=a c)
  (Z:∀ r,r<k->1<=sm k (A r)) (hS:sm k a<=S) (h:∀ c,c<k->sm k (λj=>x j*M j c)=b c) {p:Nat} (hp:p<k):-(pr k (λr=>sm k (A r))*S)<=x p*p_ k M/\x p*p_ k M<=pr k (λr=>sm k (A r))*S:=by
 rw [<- H4 h hp];obtain ⟨d1,d2⟩:=Ez (n:=k) (M:=row M p b) (A:=row A p a) (λr c=>by
  unfold row
  by_cases e:r=p
  ·rw [O8 e]; exact I c
  ·rw [O7 e]; exact J r c) (λr c O hc=>by
  unfold row
  by_cases e:r=p
  ·rw [O8 e,O8 e]; exact hb c hc
  ·rw [O7 e,O7 e]; exact hM r c O hc)
 have Y:0<=sm k a:=sF (λc _=>I c);have e1:pr k (λr=>sm k (row A p a r))=pr k (λr=>if r=p then sm k a else sm k (A r)):=vj (λr _=>by
  unfold row
  by_cases e:r=p
  ·rw [O8 e,O8 e]
  ·rw [O7 e,O7 e])
 rw [e1] at d1 d2;have h2:=I4 Y (p:=p) (n:=k) (f:=λr=>sm k (A r)) hp Z;have h3:=Rat.mul_le_mul_of_nonneg_left hS (me (n:=k) (f:=λr=>sm k (A r)) (λr O=>by have:=Z r O; grind))
 have h4:=Rat.le_trans h2 h3;constructor <;> grind
def dl (i j:Nat):Rat:=if i=j then 1 else 0
theorem qp (i:Nat):dl i i=1:=O8 rfl
theorem pA {i j:Nat} (h:i≠j):dl i j=0:=O7 h
structure Gj (n:Nat) (A:Mt) (k:Nat) (m:Mt):Prop where
 comb:∀ i c,i<n->c<n->m i c=sm n (λj=>m i (n+j)*A j c)
 right:∀ i j,i<n->j<n->k<=j->m i (n+j)=dl i j
 left:∀ i c,i<n->c<n->c<k->m i c=dl i c
def tU (k:Nat) (m:Mt):Mt:=λi c=>if i=k then m k c / m k k else m i c-m i k*(m k c / m k k)
theorem Gj.step {n:Nat}{A m:Mt}{k:Nat} (h:Gj n A k m) (hk:k<n) (hd:m k k≠0):Gj n A (k+1) (tU k m):=by
 have O:∀ c,c<k->m k c=0:=λc J=>by rw [h.left k c hk (by omega) J,pA (by omega)]
 have hkr:∀ j,j<n->k+1<=j->m k (n+j)=0:=λj Z Y=>by rw [h.right k j hk Z (by omega),pA (by omega)]
 have I:m k k / m k k=1:=by rw [Uq]; exact Ux _ hd
 refine ⟨λi c hi J=>?_,λi j hi Z Y=>?_,λi c hi J hck=>?_⟩
 ·have e1:=h.comb i c hi J
  have e2:=h.comb k c hk J;unfold tU
  by_cases e:i=k
  ·subst e
   simp only [if_true];have:(λj=>m i (n+j) / m i i*A j c)=λj=>(m i i)⁻¹*(m i (n+j)*A j c):=by funext j; rw [Rat.div_def]; grind
   rw [this,qM,<- e2,Rat.div_def]; grind
  ·simp only [O7 e]
   have:(λj=>(m i (n+j)-m i k*(m k (n+j) / m k k))*A j c)=λj=>m i (n+j)*A j c+(-(m i k*(m k k)⁻¹))*(m k (n+j)*A j c):=by funext j; rw [Rat.div_def]; grind
   rw [this,vQ,qM,<- e1,<- e2,Rat.div_def]; grind
 ·unfold tU
  have e1:=hkr j Z Y
  by_cases e:i=k
  ·subst e
   rw [if_pos rfl,e1,pA (by omega),Rat.div_def]; grind
  ·rw [if_neg e,e1,h.right i j hi Z (by omega),Rat.div_def]; grind
 ·unfold tU
  by_cases e:i=k
  ·subst e
   rw [O8 rfl]
   by_cases e2:c=i
   ·subst e2; rw [I,qp]
   ·rw [O c (by omega),pA (λe3=>e2 e3.symm),Rat.div_def]; grind
  ·rw [O7 e]
   by_cases e2:c=k
   ·subst e2; rw [I,pA e]; grind
   ·rw [O c (by omega),h.left i c hi J (by omega),Rat.div_def]; grind
def Pd (n:Nat) (A:Mt):Prop:=∀ x:Nat->Rat,sm n (λc=>x c*sm n (λj=>x j*A j c))=0->∀ i,i<n->x i=0
theorem Gj.Lu {n:Nat}{A m:Mt}{k:Nat} (h:Gj n A k m) (hp:Pd n A) (J:k<n):m k k≠0:=by
 intro Z;have h1:=hp (λj=>m k (n+j)) (uH (λc O=>by
  have e1:=(h.comb k c J O).symm;show m k (n+c)*sm n (λj=>m k (n+j)*A j c)=0;rw [e1];rcases RX c k with I | I | I
  ·rw [h.left k c J O I,pA (by omega)]; grind
  ·subst I; rw [Z]; grind
  ·rw [h.right k c J O (by omega),pA (by omega)]; grind)) k J
 have h2:=h.right k k J J (Pn k);have Y:m k (n+k)=0:=h1;rw [h2,qp] at Y;exact absurd Y (by decide)
theorem Gj.LL {n:Nat}{A m:Mt}{k:Nat} (h:Gj n A k m) (O:k<=n) {i:Nat} (hi:i<n) {c:Nat} (J:c<n):m i c=sm k (λj=>m i (n+j)*A j c)+(if k<=i then A i c else 0):=by
 have key:∀ q,k<=q->q<=n->sm q (λj=>m i (n+j)*A j c)=sm k (λj=>m i (n+j)*A j c)+(if k<=i/\i<q then A i c else 0):=by
  intro q Z
  induction q with
  | zero=>
   intro _;obtain rfl:k=0:=by omega
   rw [if_neg (by omega)]; grind
  | succ q ih=>
   intro Y
   by_cases e:k=q+1
   ·rw [<- e,if_neg (by omega)]; grind
   ·have e1:sm (q+1) (λj=>m i (n+j)*A j c)=sm q (λj=>m i (n+j)*A j c)+m i (n+q)*A q c:=rfl
    rw [e1,ih (by omega) (by omega),h.right i q hi (by omega) (by omega)]
    by_cases e2:i=q
    ·subst e2
     rw [qp,if_neg (by omega),if_pos ⟨by omega,by omega⟩]; grind
    ·rw [pA e2]
     by_cases I:k<=i/\i<q
     ·rw [if_pos I,if_pos ⟨I.1,by omega⟩]; grind
     ·rw [if_neg I,if_neg (by omega)]; grind
 rw [h.comb i c hi J,key n O (Pn n)]
 by_cases e:k<=i
 ·rw [O8 ⟨e,hi⟩,O8 e]
 ·rw [O7 (λe2=>e e2.1),O7 e]
theorem Gj.p_ {n:Nat}{A m:Mt}{k:Nat} (h:Gj n A k m) (I:k<n) {L:Nat->Rat} (hL:∀ i,i<n->L i≠0):Sim.p_ (k+1) (λr c=>L r*A r c)=L k*m k k*Sim.p_ k (λr c=>L r*A r c):=by
 have J:∀ c,c<n->sm (k+1) (λj=>(L k*m k (n+j) / L j)*(L j*A j c))=L k*m k c:=λc J=>by
  have e1:=h.LL (Nat.le_of_lt I) I J;rw [O8 (Pn k)] at e1;have e2:sm (k+1) (λj=>(L k*m k (n+j) / L j)*(L j*A j c))=sm (k+1) (λj=>L k*(m k (n+j)*A j c)):=n_ (λj hj=>by
   have:=Ux (L j) (hL j (by omega))
   rw [Rat.div_def]; grind)
  rw [e2,qM];have Y:sm (k+1) (λj=>m k (n+j)*A j c)=sm k (λj=>m k (n+j)*A j c)+m k (n+k)*A k c:=rfl;rw [Y,h.right k k I I (Nat.le_refl k),qp,e1]; grind
 have Z:=H_ (k:=k) (M:=λr c=>L r*A r c) (x:=λj=>L k*m k (n+j) / L j) (by
  rw [h.right k k I I (Pn k),qp,Rat.mul_one,Uq];exact Ux _ (hL k I)) (λc O=>by
  rw [J c (by omega),h.left k c I (by omega) O,pA (by omega)]; grind)
 rw [Z,J k I]
structure Hw (n:Nat) (A:Mt) (L:Nat->Rat) (B:Mt) (R:Nat->Rat):Prop where
 li:∀ i,i<n->tB (L i)
 l1:∀ i,i<n->1<=L i
 ai:∀ i c,i<n->c<n->tB (L i*A i c)
 b0:∀ i c,0<=B i c
 b1:∀ i,i<n->1<=B i i
 ab:∀ i c,i<n->c<n->-B i c<=L i*A i c/\L i*A i c<=B i c
 rs:∀ i,i<n->sm n (B i)<=R i
theorem zG {f:Nat->Rat} (h:∀ i,0<=f i) {k:Nat}:∀ {n:Nat},k<=n->sm k f<=sm n f
 | 0,hk=>by
  obtain rfl:k=0:=by omega
  exact Uu
 | n+1,hk=>by
  by_cases e:k=n+1
  ·subst e; exact Uu
  ·have J:=zG h (k:=k) (n:=n) (by omega)
   have O:=h n;have I:sm (n+1) f=sm n f+f n:=rfl;rw [I]
   grind
theorem Lz {f:Nat->Rat} (h:∀ i,0<=f i) {k p:Nat} (Y:p<k):f p<=sm k f:=by
 have I:=zG h (k:=p+1) (n:=k) (by omega)
 have J:=sF (n:=p) (f:=f) (λi _=>h i);have O:sm (p+1) f=sm p f+f p:=rfl
 grind
theorem Hw.Me {n:Nat}{A B:Mt}{L R:Nat->Rat} (h:Hw n A L B R) {k r:Nat} (I:r<k) (Y:k<=n):1<=sm k (B r):=by
 have J:=Lz (h.b0 r) I;have O:=h.b1 r (by omega)
 grind
theorem Hw.R1 {n:Nat}{A B:Mt}{L R:Nat->Rat} (h:Hw n A L B R) {r:Nat} (I:r<n):1<=R r:=by
 have J:=h.Me I (Pn n);have O:=h.rs r I
 grind
theorem FZ {f:Nat->Rat}{k:Nat}:∀ {n:Nat},k<=n->(∀ i,i<n->1<=f i)->pr k f<=pr n f
 | 0,hk,_=>by
  obtain rfl:k=0:=by omega
  exact Uu
 | n+1,hk,h=>by
  by_cases e:k=n+1
  ·subst e; exact Uu
  ·have J:=FZ (k:=k) (n:=n) (by omega) (λi hi=>h i (by omega))
   have O:=pN (Rat.le_refl (a:=pr n f)) (h n (by omega)) (me (λi hi=>by have:=h i (by omega); grind)) (by decide)
   have I:pr (n+1) f=pr n f*f n:=rfl;rw [I]
   grind
theorem Hw.prod {n:Nat}{A B:Mt}{L R:Nat->Rat} (h:Hw n A L B R) {k:Nat} (I:k<=n):pr k (λr=>sm k (B r))<=pr n R:=by
 have O:pr k (λr=>sm k (B r))<=pr k R:=FY (λr J=>by have:=h.Me J I; grind) (λr J=>Rat.le_trans (zG (h.b0 r) I) (h.rs r (by omega)))
 exact Uv O (FZ I (λi hi=>h.R1 hi))
theorem Hw.p_ {n:Nat}{A B:Mt}{L R:Nat->Rat} (h:Hw n A L B R) {k:Nat} (J:k<=n):tB (Sim.p_ k (λr c=>L r*A r c))/\-pr n R<=Sim.p_ k (λr c=>L r*A r c)/\Sim.p_ k (λr c=>L r*A r c)<=pr n R:=by
 refine ⟨B7 (λr c O I=>h.ai r c (by omega) (by omega)),?_⟩
 obtain ⟨d1,d2⟩:=Ez (n:=k) (M:=λr c=>L r*A r c) (A:=B) h.b0 (λr c O I=>h.ab r c (by omega) (by omega))
 have:=h.prod J;constructor <;> grind
theorem Gj.num {n:Nat}{A B m:Mt}{L R:Nat->Rat}{k:Nat} (h:Gj n A k m) (s:Hw n A L B R) (J:k<=n) {i p:Nat} (hi:i<n) (hp:p<k):
  ∃ N:Rat,tB N/\-(pr n R*R i)<=N/\N<=pr n R*R i/\(if k<=i then L i else 1)*m i (n+p)*Sim.p_ k (λr c=>L r*A r c)=N*L p:=by
 have hL:∀ j,j<n->L j≠0:=λj Z e=>by have:=s.l1 j Z; rw [e] at this; exact absurd this (by decide)
 have hx:∀ c,c<k->sm k (λj=>((if k<=i then L i else 1)*m i (n+j) / L j)*((λr c=>L r*A r c) j c))=if k<=i then -(L i*A i c) else dl i c:=λc I=>by
  have e1:=h.LL J hi (c:=c) (by omega)
  have e2:sm k (λj=>((if k<=i then L i else 1)*m i (n+j) / L j)*((λr c=>L r*A r c) j c))=sm k (λj=>(if k<=i then L i else 1)*(m i (n+j)*A j c)):=n_ (λj Z=>by
   have:=Ux (L j) (hL j (by omega))
   simp only [Uq]
   grind)
  rw [e2,qM];have Y:=h.left i c hi (by omega) I
  by_cases e:k<=i
  ·rw [O8 e,O8 e]
   rw [O8 e,Y,pA (by omega)] at e1
   grind
  ·rw [O7 e,O7 e]
   rw [O7 e,Y] at e1
   grind
 have hb:∀ c,c<k->tB (if k<=i then -(L i*A i c) else dl i c):=λc I=>by
  by_cases e:k<=i
  ·rw [O8 e]
   obtain ⟨z,hz⟩:=s.ai i c hi (by omega)
   exact ⟨-z,by rw [hz,Ut]⟩
  ·rw [O7 e]
   unfold dl
   split
   ·exact ⟨1,rfl⟩
   ·exact ⟨0,rfl⟩
 have hB:∀ c,c<k->-(B i c)<=(if k<=i then -(L i*A i c) else dl i c)/\(if k<=i then -(L i*A i c) else dl i c)<=B i c:=λc I=>by
  have h1:=s.ab i c hi (by omega)
  have h2:=s.b0 i c
  by_cases e:k<=i
  ·rw [O8 e]
   constructor <;> grind
  ·rw [O7 e]
   unfold dl
   split
   ·rename_i e2
    subst e2;have:=s.b1 i hi;constructor <;> grind
   ·constructor <;> grind
 have c1:=Et (k:=k) (M:=λr c=>L r*A r c) (λr c O I=>s.ai r c (by omega) (by omega)) hb hx hp
 obtain ⟨c2,c3⟩:=GD (k:=k) (M:=λr c=>L r*A r c) (A:=B) (a:=B i) (S:=R i) s.b0 (s.b0 i) (λr c O I=>s.ab r c (by omega) (by omega)) hB (λr O=>s.Me O J) (Uv (zG (s.b0 i) J) (s.rs i hi)) hx hp
 have hP:=Rat.mul_le_mul_of_nonneg_right (s.prod J) (show (0:Rat)<=R i by have:=s.R1 hi; grind)
 refine ⟨_,c1,by grind,by grind,?_⟩
 have:=Ux (L p) (hL p (by omega))
 rw [Uq]
 grind
def qf (n:Nat) (x:Nat->Rat) (A:Mt):Rat:=sm n (λc=>x c*sm n (λj=>x j*A j c))
theorem I7 (n:Nat) (x:Nat->Rat) (A I:Mt):qf n x (λj c=>A j c+I j c)=qf n x A+qf n x I:=by
 unfold qf;rw [<- vQ];refine n_ (λc _=>?_);have:sm n (λj=>x j*(A j c+I j c))=sm n (λj=>x j*A j c)+sm n (λj=>x j*I j c):=by
  rw [<- vQ];exact n_ (λj _=>by grind)
 rw [this]; grind
theorem I8 (n:Nat) (x e:Nat->Rat) (b:Rat):qf n x (λj c=>b*e j*e c)=b*(sm n (λj=>x j*e j)*sm n (λj=>x j*e j)):=by
 unfold qf;have I:sm n (λc=>x c*sm n (λj=>x j*(b*e j*e c)))=sm n (λc=>(b*sm n (λj=>x j*e j))*(x c*e c)):=n_ (λc _=>by
  have:sm n (λj=>x j*(b*e j*e c))=sm n (λj=>(b*e c)*(x j*e j)):=n_ (λj _=>by grind)
  rw [this,qM]; grind)
 rw [I,qM]; grind
def gC:List (Rat×(Nat->Rat))->Mt
 | []=>λ_ _=>0
 | be::l=>λj c=>be.1*be.2 j*be.2 c+gC l j c
theorem sq_nonneg (a:Rat):0<=a*a:=by
 rcases (Rat.le_total:(0:Rat)<=a\/a<=0) with h | h
 ·exact Uy h h
 ·have:=Rat.mul_nonneg (show (0:Rat)<=-a by grind) (show (0:Rat)<=-a by grind)
  grind
theorem AA (n:Nat) (x:Nat->Rat):∀ (l:List (Rat×(Nat->Rat))),(∀ be ∈ l,0<be.1)->0<=qf n x (gC l)
 | [],_=>by
  have:qf n x (gC [])=0:=uH (λc _=>by
   rw [uH (λj _=>by show x j*0=0; grind)]; grind)
  rw [this]; exact Uu
 | be::l,h=>by
  have O:=AA n x l (λb J=>h b (O9 _ J));have I:=h be (O5 ..);have e:qf n x (gC (be::l))=be.1*(sm n (λj=>x j*be.2 j)*sm n (λj=>x j*be.2 j))+qf n x (gC l):=by
   rw [<- I8,<- I7]; rfl
  rw [e];have Y:=Uy (Rat.le_of_lt I) (sq_nonneg (sm n (λj=>x j*be.2 j)))
  grind
theorem Du (n:Nat) (x:Nat->Rat):∀ (l:List (Rat×(Nat->Rat))),(∀ be ∈ l,0<be.1)->qf n x (gC l)=0->∀ be ∈ l,sm n (λj=>x j*be.2 j)=0
 | [],_,_,be,I=>by simp at I
 | be::l,h,h0,b,I=>by
  have h1:=AA n x l (λb I=>h b (O9 _ I));have J:=h be (O5 ..);have e:qf n x (gC (be::l))=be.1*(sm n (λj=>x j*be.2 j)*sm n (λj=>x j*be.2 j))+qf n x (gC l):=by
   rw [<- I8,<- I7]; rfl
  rw [e] at h0;have h3:=Rat.mul_nonneg (Rat.le_of_lt J) (sq_nonneg (sm n (λj=>x j*be.2 j)));have Z:qf n x (gC l)=0:=by grind
  have h5:be.1*(sm n (λj=>x j*be.2 j)*sm n (λj=>x j*be.2 j))=0:=by grind
  rcases PN.1 I with rfl | I
  ·rcases Uw.1 h5 with O | O
   ·rw [O] at J; exact absurd J (Rat.lt_irrefl)
   ·rcases Uw.1 O with Y | Y <;> exact Y
  ·exact Du n x l (λb I=>h b (O9 _ I)) Z b I
inductive Lk (l:List (Rat×Nat×Nat)) (u:Nat):Nat->Prop
 | refl:Lk l u u
 | step {b:Rat}{v w:Nat}:Lk l u v->((b,v,w) ∈ l\/(b,w,v) ∈ l)->Lk l u w
def mG (F:Nat->Nat) (e:Rat×Nat×Nat):Rat×(Nat->Rat):=(e.1,λj=>dl (F j) e.2.1-dl (F j) e.2.2)
theorem M6 {n:Nat}{F:Nat->Nat}{l:List (Rat×Nat×Nat)} (hb:∀ e ∈ l,0<e.1) (hF:∀ i j,i<n->j<n->F i=F j->i=j)
  (hr:∀ i,i<n->∃ r,(∀ j,j<n->F j≠r)/\Lk l (F i) r):Pd n (gC (l.map (mG F))):=by
 intro x h0 i hi;have hz:=Du n x (l.map (mG F)) (λbe J=>by
  obtain ⟨e,he,rfl⟩:=PO.1 J;exact hb e he) h0
 have hd:∀ p q:Nat,sm n (λj=>x j*(dl (F j) p-dl (F j) q))=sm n (λj=>x j*dl (F j) p)-sm n (λj=>x j*dl (F j) q):=λp q=>by
  have I:sm n (λj=>x j*(dl (F j) p-dl (F j) q))=sm n (λj=>x j*dl (F j) p+(-1)*(x j*dl (F j) q)):=n_ (λj _=>by grind)
  rw [I,vQ,qM]; grind
 have he:∀ (b:Rat) (p q:Nat),(b,p,q) ∈ l->sm n (λj=>x j*dl (F j) p)=sm n (λj=>x j*dl (F j) q):=λb p q h=>by
  have I:sm n (λj=>x j*(dl (F j) p-dl (F j) q))=0:=hz (mG F (b,p,q)) (PO.2 ⟨_,h,rfl⟩);have h2:=hd p q
  grind
 have hl:∀ u v,Lk l u v->sm n (λj=>x j*dl (F j) u)=sm n (λj=>x j*dl (F j) v):=λu v h=>by
  induction h with
  | refl=>rfl
  | step _ h ih=>
   rcases h with h | h
   ·rw [ih]; exact he _ _ _ h
   ·rw [ih]; exact (he _ _ _ h).symm
 obtain ⟨r,Z,hr2⟩:=hr i hi;have I:=hl _ _ hr2;have h2:sm n (λj=>x j*dl (F j) r)=0:=uH (λj O=>by rw [pA (Z j O)]; grind)
 have h3:sm n (λj=>x j*dl (F j) (F i))=x i*dl (F i) (F i):=A3 hi (λj O Y=>by rw [pA (λe=>Y (hF j i O hi e))]; grind)
 rw [h2,h3,qp] at I
 grind
def tn (u:Nat):List (Rat×Nat×Nat)->Rat
 | []=>1
 | e::l=>(if e.2.1=u\/e.2.2=u then e.1 else 1)*tn u l
def uW:List (Rat×Nat×Nat)->Rat
 | []=>1
 | e::l=>e.1*uW l
theorem zE {u:Nat}:∀ {l:List (Rat×Nat×Nat)},(∀ e ∈ l,tB e.1)->tB (tn u l)
 | [],_=>⟨1,rfl⟩
 | e::l,h=>by
  unfold tn;refine rG ?_ (zE (λe he=>h e (O9 _ he)))
  split
  ·exact h e (O5 ..)
  ·exact ⟨1,rfl⟩
theorem yE {u:Nat}:∀ {l:List (Rat×Nat×Nat)},(∀ e ∈ l,1<=e.1)->1<=tn u l
 | [],_=>Uu
 | e::l,h=>by
  unfold tn;have I:=yE (u:=u) (l:=l) (λe he=>h e (O9 _ he));have J:=h e (O5 ..)
  split
  ·have:=pN J I (by decide) (by decide)
   grind
  ·grind
theorem Ab:∀ {l:List (Rat×Nat×Nat)},(∀ e ∈ l,1<=e.1)->1<=uW l
 | [],_=>Uu
 | e::l,h=>by
  unfold uW;have I:=Ab (l:=l) (λe he=>h e (O9 _ he));have J:=h e (O5 ..);have:=pN J I (by decide) (by decide)
  grind
theorem CJ {u:Nat}:∀ {l:List (Rat×Nat×Nat)},(∀ e ∈ l,tB e.1/\1<=e.1)->∀ e ∈ l,(e.2.1=u\/e.2.2=u)->∀ t:Rat,tB t->tB (tn u l*(t / e.1))
 | [],_,e,he,_,_,_=>by simp at he
 | d::l,h,e,he,hu,t,ht=>by
  have hl:∀ e ∈ l,tB e.1/\1<=e.1:=λe he=>h e (O9 _ he);unfold tn;rcases PN.1 he with rfl | he
  ·rw [O8 hu]
   have J:e.1≠0:=λO=>by have:=(h e (O5 ..)).2; rw [O] at this; exact absurd this (by decide)
   have:=Rat.mul_inv_cancel e.1 J;have I:e.1*tn u l*(t / e.1)=tn u l*t:=by rw [Rat.div_def]; grind
   rw [I];exact rG (zE (λe he=>(hl e he).1)) ht
  ·have I:=CJ hl e he hu t ht
   have Y:(if d.2.1=u\/d.2.2=u then d.1 else 1)*tn u l*(t / e.1)=(if d.2.1=u\/d.2.2=u then d.1 else 1)*(tn u l*(t / e.1)):=Rat.mul_assoc ..
   rw [Y];refine rG ?_ I
   split
   ·exact (h d (O5 ..)).1
   ·exact ⟨1,rfl⟩
theorem yV {F:Nat->Nat}{q:Rat} (I:1<=q) {p:Nat}:∀ {n:Nat},(∀ i j,i<n->j<n->F i=F j->i=j)->pr n (λi=>if F i=p then q else 1)<=q
 | 0,_=>I
 | n+1,h=>by
  have ih:=yV I (p:=p) (n:=n) (λi j hi O e=>h i j (by omega) (by omega) e)
  show pr n (λi=>if F i=p then q else 1)*(if F n=p then q else 1)<=q
  by_cases e:F n=p
  ·rw [O8 e]
   have:pr n (λi=>if F i=p then q else 1)=pr n (λ_=>1):=vj (λi hi=>O7 (λe2=>by
    have:=h i n (by omega) (by omega) (e2.trans e.symm)
    omega))
   rw [this];have J:∀ k,pr k (λ_=>(1:Rat))=1:=λk=>by
    induction k with
    | zero=>rfl
    | succ k ih=>show pr k (λ_=>(1:Rat))*1=1; rw [ih]; grind
   rw [J]; grind
  ·rw [if_neg e]; grind
theorem DS {n:Nat}{F:Nat->Nat} (J:∀ i j,i<n->j<n->F i=F j->i=j):∀ {l:List (Rat×Nat×Nat)},(∀ e ∈ l,1<=e.1)->pr n (λi=>tn (F i) l)<=uW l*uW l
 | [],_=>by
  have Y:∀ k,pr k (λ_=>(1:Rat))=1:=λk=>by
   induction k with
   | zero=>rfl
   | succ k ih=>show pr k (λ_=>(1:Rat))*1=1; rw [ih]; grind
  show pr n (λ_=>(1:Rat))<=1*1;rw [Y,Rat.one_mul]; exact Uu
 | e::l,h=>by
  have hl:∀ e ∈ l,1<=e.1:=λe he=>h e (O9 _ he);have I:=h e (O5 ..);have ih:=DS J hl;have e1:pr n (λi=>tn (F i) (e::l))=pr n (λi=>if e.2.1=F i\/e.2.2=F i then e.1 else 1)*pr n (λi=>tn (F i) l):=by rw [<- CD]; rfl
  have e2:pr n (λi=>if e.2.1=F i\/e.2.2=F i then e.1 else 1)<=pr n (λi=>(if F i=e.2.1 then e.1 else 1)*(if F i=e.2.2 then e.1 else 1)):=FY (λi _=>by split <;> grind) (λi _=>by
   have:=pN I I (by decide) (by decide)
   by_cases a:F i=e.2.1
   ·by_cases b:F i=e.2.2
    ·rw [O8 (.inl a.symm),O8 a,O8 b]
     have:=Rat.mul_le_mul_of_nonneg_left I (show (0:Rat)<=e.1 by grind)
     grind
    ·rw [if_pos (.inl a.symm),if_pos a,if_neg b]; grind
   ·by_cases b:F i=e.2.2
    ·rw [if_pos (.inr b.symm),if_neg a,if_pos b]; grind
    ·rw [if_neg (λh=>h.elim (λh=>a h.symm) (λh=>b h.symm)),if_neg a,if_neg b]; grind)
  rw [CD] at e2;have s1:=yV (F:=F) I (p:=e.2.1) J;have s2:=yV (F:=F) I (p:=e.2.2) J;have n1:0<=pr n (λi=>if F i=e.2.1 then e.1 else 1):=me (λi _=>by split <;> grind)
  have n2:0<=pr n (λi=>if F i=e.2.2 then e.1 else 1):=me (λi _=>by split <;> grind)
  have Z:=pN s1 s2 n1 n2;have n3:0<=pr n (λi=>if e.2.1=F i\/e.2.2=F i then e.1 else 1):=me (λi _=>by split <;> grind)
  have n4:0<=pr n (λi=>tn (F i) l):=me (λi _=>by have:=yE (u:=F i) hl; grind)
  have m2:=pN (Uv e2 Z) ih n3 n4;rw [e1];have O:uW (e::l)=e.1*uW l:=rfl;rw [O]
  grind
def xr (t:Rat) (e:Rat×Nat×Nat):Rat×Nat×Nat:=(t / e.1,e.2)
def ou (F:Nat->Nat) (e:Rat×Nat×Nat):Rat×(Nat->Rat):=(e.1,λj=>dl (F j) e.2.1+dl (F j) e.2.2)
theorem vT (i j:Nat):dl i j=0\/dl i j=1:=by
 unfold dl
 split
 ·exact .inr rfl
 ·exact .inl rfl
theorem FK (F:Nat->Nat) (i c:Nat):∀ {l:List (Rat×Nat×Nat)},(∀ e ∈ l,0<e.1)->-gC (l.map (ou F)) i c<=gC (l.map (mG F)) i c/\gC (l.map (mG F)) i c<=gC (l.map (ou F)) i c
 | [],_=>by
  show -(0:Rat)<=0/\(0:Rat)<=0;constructor <;> decide
 | e::l,h=>by
  obtain ⟨I,J⟩:=FK F i c (l:=l) (λe he=>h e (List.mem_cons_of_mem _ he));have O:=h e (List.mem_cons_self ..);have e1:gC ((e::l).map (mG F)) i c=e.1*(dl (F i) e.2.1-dl (F i) e.2.2)*(dl (F c) e.2.1-dl (F c) e.2.2)+gC (l.map (mG F)) i c:=rfl;have e2:gC ((e::l).map (ou F)) i c=e.1*(dl (F i) e.2.1+dl (F i) e.2.2)*(dl (F c) e.2.1+dl (F c) e.2.2)+gC (l.map (ou F)) i c:=rfl;rw [e1,e2];rcases vT (F i) e.2.1 with a | a <;> rcases vT (F i) e.2.2 with b | b <;> rcases vT (F c) e.2.1 with u | u <;> rcases vT (F c) e.2.2 with v | v <;> rw [a,b,u,v] <;> constructor <;> grind
theorem wE (F:Nat->Nat) (i c:Nat):∀ {l:List (Rat×Nat×Nat)},(∀ e ∈ l,0<e.1)->0<=gC (l.map (ou F)) i c
 | [],_=>Uu
 | e::l,h=>by
  have I:=wE F i c (l:=l) (λe he=>h e (List.mem_cons_of_mem _ he));have J:=h e (List.mem_cons_self ..);have e2:gC ((e::l).map (ou F)) i c=e.1*(dl (F i) e.2.1+dl (F i) e.2.2)*(dl (F c) e.2.1+dl (F c) e.2.2)+gC (l.map (ou F)) i c:=rfl;rw [e2];rcases vT (F i) e.2.1 with a | a <;> rcases vT (F i) e.2.2 with b | b <;> rcases vT (F c) e.2.1 with u | u <;> rcases vT (F c) e.2.2 with v | v <;> rw [a,b,u,v] <;> grind
theorem FL {F:Nat->Nat}{t:Rat} (ht:tB t) {l:List (Rat×Nat×Nat)} (Z:∀ e ∈ l,tB e.1/\1<=e.1) (i c:Nat):∀ {l':List (Rat×Nat×Nat)},(∀ e ∈ l',e ∈ l)->tB (tn (F i) l*gC ((l'.map (xr t)).map (mG F)) i c)
 | [],_=>by
  have:tn (F i) l*gC ((([]:List (Rat×Nat×Nat)).map (xr t)).map (mG F)) i c=0:=by show tn (F i) l*0=0; grind
  rw [this]; exact ⟨0,rfl⟩
 | e::l',h=>by
  have h1:=FL (F:=F) ht Z i c (l':=l') (λe he=>h e (O9 _ he));have h2:=h e (O5 ..);have e1:gC (((e::l').map (xr t)).map (mG F)) i c=(t / e.1)*(dl (F i) e.2.1-dl (F i) e.2.2)*(dl (F c) e.2.1-dl (F c) e.2.2)+gC ((l'.map (xr t)).map (mG F)) i c:=rfl;have I:∀ p q:Nat,tB (dl p q):=λp q=>by
   rcases vT p q with a | a <;> rw [a]
   ·exact ⟨0,rfl⟩
   ·exact ⟨1,rfl⟩
  have Y:∀ {a b:Rat},tB a->tB b->tB (a-b):=λ{a b} ⟨x,hx⟩ ⟨y,hy⟩=>⟨x-y,by rw [hx,hy,Rat.intCast_sub]⟩
  have e2:tn (F i) l*((t / e.1)*(dl (F i) e.2.1-dl (F i) e.2.2)*(dl (F c) e.2.1-dl (F c) e.2.2)+gC ((l'.map (xr t)).map (mG F)) i c)=(tn (F i) l*(t / e.1))*(dl (F i) e.2.1-dl (F i) e.2.2)*(dl (F c) e.2.1-dl (F c) e.2.2)+tn (F i) l*gC ((l'.map (xr t)).map (mG F)) i c:=by grind
  rw [e1,e2];refine ym ?_ h1
  by_cases O:e.2.1=F i\/e.2.2=F i
  ·exact rG (rG (CJ Z e h2 O t ht) (Y (I _ _) (I _ _))) (Y (I _ _) (I _ _))
  ·have a:dl (F i) e.2.1=0:=pA (λJ=>O (.inl J.symm))
   have b:dl (F i) e.2.2=0:=pA (λJ=>O (.inr J.symm));rw [a,b];have:tn (F i) l*(t / e.1)*(0-0)*(dl (F c) e.2.1-dl (F c) e.2.2)=0:=by grind
   rw [this]; exact ⟨0,rfl⟩
def A7:List (Rat×Nat×Nat)->Rat
 | []=>0
 | e::l=>e.1+A7 l
theorem tJ (i j:Nat):0<=dl i j:=by rcases vT i j with h | h <;> rw [h] <;> decide
theorem Ig (i j:Nat):dl i j<=1:=by rcases vT i j with h | h <;> rw [h] <;> decide
theorem F9 {F:Nat->Nat}{p:Nat}:∀ {n:Nat},(∀ i j,i<n->j<n->F i=F j->i=j)->sm n (λc=>dl (F c) p)<=1
 | 0,_=>by unfold sm; decide
 | n+1,h=>by
  have ih:=F9 (F:=F) (p:=p) (n:=n) (λi j hi I e=>h i j (by omega) (by omega) e)
  show sm n (λc=>dl (F c) p)+dl (F n) p<=1
  by_cases e:F n=p
  ·have:sm n (λc=>dl (F c) p)=0:=uH (λi hi=>pA (λe2=>by
    have:=h i n (by omega) (by omega) (e2.trans e.symm)
    omega))
   rw [this];have:=Ig (F n) p
   grind
  ·rw [pA e]; grind
theorem Fs {n:Nat}{F:Nat->Nat} (I:∀ i j,i<n->j<n->F i=F j->i=j) (i:Nat):∀ {l:List (Rat×Nat×Nat)},(∀ e ∈ l,0<e.1)->sm n (gC (l.map (ou F)) i)<=4*A7 l
 | [],_=>by
  have:sm n (gC (([]:List (Rat×Nat×Nat)).map (ou F)) i)=0:=uH (λ_ _=>rfl);rw [this];show (0:Rat)<=4*0
  grind
 | e::l,h=>by
  have ih:=Fs I i (l:=l) (λe he=>h e (O9 _ he));have J:=h e (O5 ..);have e1:sm n (gC ((e::l).map (ou F)) i)=(e.1*(dl (F i) e.2.1+dl (F i) e.2.2))*(sm n (λc=>dl (F c) e.2.1)+sm n (λc=>dl (F c) e.2.2))+sm n (gC (l.map (ou F)) i):=by
   rw [<- vQ,<- qM,<- vQ]; rfl
  have e2:A7 (e::l)=e.1+A7 l:=rfl;rw [e1,e2];have s1:=F9 (F:=F) (p:=e.2.1) I;have s2:=F9 (F:=F) (p:=e.2.2) I;have n1:=sF (n:=n) (f:=λc=>dl (F c) e.2.1) (λc _=>tJ _ _);have n2:=sF (n:=n) (f:=λc=>dl (F c) e.2.2) (λc _=>tJ _ _);have d1:=Ig (F i) e.2.1;have d2:=Ig (F i) e.2.2;have d3:=tJ (F i) e.2.1;have d4:=tJ (F i) e.2.2;have O:e.1*(dl (F i) e.2.1+dl (F i) e.2.2)<=e.1*2:=Rat.mul_le_mul_of_nonneg_left (by grind) (Rat.le_of_lt J)
  have Y:0<=e.1*(dl (F i) e.2.1+dl (F i) e.2.2):=Rat.mul_nonneg (Rat.le_of_lt J) (by grind)
  have Z:=pN O (show sm n (λc=>dl (F c) e.2.1)+sm n (λc=>dl (F c) e.2.2)<=2 by grind) Y (by grind)
  grind
theorem Kk {n:Nat}{F:Nat->Nat}{l:List (Rat×Nat×Nat)}{t:Rat} (hF:∀ i j,i<n->j<n->F i=F j->i=j) (ht:tB t) (t0:0<t) (Z:∀ e ∈ l,tB e.1/\1<=e.1):
  Hw n (gC ((l.map (xr t)).map (mG F))) (λi=>tn (F i) l) (λi c=>tn (F i) l*gC ((l.map (xr t)).map (ou F)) i c+dl i c) (λi=>tn (F i) l*(4*A7 (l.map (xr t)))+1):=by
 have hw:∀ e ∈ l.map (xr t),0<e.1:=λe he=>by
  obtain ⟨d,hd,rfl⟩:=List.mem_map.1 he;have O:=(Z d hd).2;show 0<t / d.1;rw [Rat.div_def];exact Rat.mul_pos t0 (Rat.inv_pos.2 (by grind))
 have I:∀ i,1<=tn (F i) l:=λi=>yE (λe he=>(Z e he).2);have J:∀ i c,0<=tn (F i) l*gC ((l.map (xr t)).map (ou F)) i c:=λi c=>Rat.mul_nonneg (by have:=I i; grind) (wE F i c hw)
 refine ⟨λi _=>zE (λe he=>(Z e he).1),λi _=>I i,λi c _ _=>FL ht Z i c (λe he=>he),λi c=>?_,λi _=>?_,λi c _ _=>?_,λi hi=>?_⟩
 ·have:=J i c
  have:=tJ i c
  grind
 ·have:=J i i
  rw [qp]; grind
 ·obtain ⟨O,h2⟩:=FK F i c hw
  have Y:0<=tn (F i) l:=by have:=I i; grind
  have m1:=Rat.mul_le_mul_of_nonneg_left O Y;have m2:=Rat.mul_le_mul_of_nonneg_left h2 Y;have:=tJ i c;constructor <;> grind
 ·rw [vQ,qM]
  have O:=Fs hF i hw;have Y:0<=tn (F i) l:=by have:=I i; grind
  have m1:=Rat.mul_le_mul_of_nonneg_left O Y;have h2:sm n (λc=>dl i c)<=1:=by
   have e:sm n (λc=>dl i c)=sm n (λc=>dl ((λx:Nat=>x) c) i):=n_ (λc _=>by
    unfold dl
    by_cases a:i=c
    ·subst a; rfl
    ·rw [O7 a,O7 (λb=>a b.symm)])
   rw [e];exact F9 (λi j _ _ e=>e)
  have e2:sm n (λc=>gC ((l.map (xr t)).map (ou F)) i c)=sm n (gC ((l.map (xr t)).map (ou F)) i):=rfl;rw [e2]
  grind
theorem Fu {q:Rat}:∀ {l:List (Rat×Nat×Nat)},(∀ e ∈ l,1<=e.1/\e.1<=q)->uW l<=pr l.length (λ_=>q)
 | [],_=>Uu
 | e::l,h=>by
  have I:=Fu (q:=q) (l:=l) (λe he=>h e (List.mem_cons_of_mem _ he));have J:=h e (List.mem_cons_self ..);have O:=Ab (l:=l) (λe he=>(h e (List.mem_cons_of_mem _ he)).1);have Y:=pN I J.2 (by grind) (by grind)
  have e1:uW (e::l)=e.1*uW l:=rfl;have e2:pr (e::l).length (λ_=>q)=pr l.length (λ_=>q)*q:=rfl;rw [e1,e2]; grind
theorem M4 {n:Nat}{F:Nat->Nat}{l:List (Rat×Nat×Nat)}{s w:Rat} (O:∀ i j,i<n->j<n->F i=F j->i=j) (J:∀ e ∈ l,1<=e.1) (s0:0<=s) (hs:s<=w):
  pr n (λi=>tn (F i) l*s+1)<=uW l*uW l*pr n (λ_=>w+1):=by
 have I:∀ i,1<=tn (F i) l:=λi=>yE J;have p1:pr n (λi=>tn (F i) l*s+1)<=pr n (λi=>tn (F i) l*(w+1)):=FY (λi _=>by
  have:=Rat.mul_nonneg (show (0:Rat)<=tn (F i) l by have:=I i; grind) s0
  grind) (λi _=>by
  have:=Rat.mul_le_mul_of_nonneg_left hs (show (0:Rat)<=tn (F i) l by have:=I i; grind)
  have:=I i
  grind)
 rw [CD] at p1;have p2:=DS O J;have Y:0<=pr n (λi=>tn (F i) l):=me (λi _=>by have:=I i; grind)
 have Z:0<=pr n (λ_:Nat=>w+1):=me (λi _=>by grind)
 exact Uv p1 (pN p2 Uu Y Z)
def xy (n:Nat):List Nat:=(List.range n).map (·+1)
theorem vP (n:Nat):(xy n).length=n:=by simp [xy]
theorem CK {n i:Nat} (hi:i<n):(xy n)[i]? = some (i+1):=by simp [xy,hi]
theorem A1 {α:Type}{l:List α}{i:Nat}{a:α} (h:l[i]? = some a):l.set i a=l:=by
 apply QE;intro j
 by_cases e:i=j
 ·subst e
  rw [Pu (O3.1 h).1,h]
 ·rw [Pq e]
theorem zF {n i:Nat} (hi:i<n):(xy n).set i (i+1)=xy n:=A1 (CK hi)
theorem DT {n i:Nat} (hi:i<n):((xy n).set ((i:Int)).toNat (i+1)).set ((i:Int)).toNat (i+1)=xy n:=by
 rw [O2,zF hi,zF hi]
structure tF (rows:List (List LR)) (n w W:Nat) (m:Mt):Prop where
 len:rows.length=n
 row:∀ i,i<n->∃ l,rows[i]? = some l/\l.length=w/\∀ c,c<w->∃ y,l[c]? = some y/\oc y/\RL y W/\rv y=m i c
theorem tF.congr {rows:List (List LR)}{n w W:Nat}{m J:Mt} (h:tF rows n w W m) (e:∀ i c,i<n->c<w->m i c=J i c):tF rows n w W J:=by
 refine ⟨h.len,λi hi=>?_⟩;obtain ⟨l,O,Y,Z⟩:=h.row i hi;refine ⟨l,O,Y,λc I=>?_⟩;obtain ⟨y,y1,y2,y3,y4⟩:=Z c I;exact ⟨y,y1,y2,y3,by rw [y4,e i c hi I]⟩
theorem tF.mono {rows:List (List LR)}{n w W I:Nat}{m:Mt} (h:tF rows n w W m) (e:W<=I):tF rows n w I m:=by
 refine ⟨h.len,λi hi=>?_⟩;obtain ⟨l,J,O,Y⟩:=h.row i hi;refine ⟨l,J,O,λc Z=>?_⟩;obtain ⟨y,y1,y2,y3,y4⟩:=Y c Z;exact ⟨y,y1,y2,y3.mono e,y4⟩
theorem tF.set {rows:List (List LR)}{n w W:Nat}{m:Mt} (h:tF rows n w W m) {i c:Nat} (hi:i<n) (hc:c<w) {e:LR} (he:oc e) (hW:RL e W):
  tF (rows.set i (((rows[i]?).getD []).set c e)) n w W (λi' I=>if i'=i/\I=c then rv e else m i' I):=by
 refine ⟨by rw [Qh]; exact h.len,λi' Y=>?_⟩
 obtain ⟨l,h1,h2,h3⟩:=h.row i' Y
 by_cases e1:i=i'
 ·subst e1
  refine ⟨l.set c e,by rw [h1,Pu (by rw [h.len]; exact hi)]; rfl,by rw [Qh]; exact h2,λI J=>?_⟩
  by_cases e2:c=I
  ·subst e2
   exact ⟨e,by rw [Pu (by omega)],he,hW,by rw [O8 ⟨rfl,rfl⟩]⟩
  ·obtain ⟨y,Z,y2,y3,y4⟩:=h3 I J
   exact ⟨y,by rw [Pq e2]; exact Z,y2,y3,by rw [O7 (λO=>e2 O.2.symm)]; exact y4⟩
 ·refine ⟨l,by rw [Pq e1]; exact h1,h2,λI J=>?_⟩
  obtain ⟨y,Z,y2,y3,y4⟩:=h3 I J;exact ⟨y,Z,y2,y3,by rw [O7 (λO=>e1 O.1.symm)]; exact y4⟩
theorem FP (rows:List (List LR)) (i:Nat):((([]::rows:List (List LR))[i+1]?).getD [])=(rows[i]?).getD []:=rfl
theorem L6 (rows:List (List LR)) (i:Nat) (l:List LR):([]::rows:List (List LR)).set (i+1) l=[]::rows.set i l:=rfl
theorem tF.Jc {rows:List (List LR)}{n w W:Nat}{m:Mt} (h:tF rows n w W m) {i:Nat} (hi:i<n):((([]::rows:List (List LR))[i+1]?).getD []).length=w:=by
 obtain ⟨l,I,J,_⟩:=h.row i hi;rw [FP,I]; exact J
theorem oI {R:Type}{Q:R->Prop}{n i:Nat} (hi:i<n) {f:Nat->Option R} (h:Gd (f (i+1)) Q):Gd (idx (xy n) (i:Int) f) Q:=
 Gd.ix (by omega) (by rw [O2]; exact CK hi) h
theorem r8 {R:Type}{Q:R->Prop}{rows:List (List LR)}{n w W:Nat}{m:Mt} (h:tF rows n w W m) {i c:Nat} (hi:i<n) (O:c<w) {f:LR->Option R}
  (Y:∀ y,oc y->RL y W->rv y=m i c->Gd (f y) Q):Gd (idx ((([]::rows:List (List LR))[i+1]?).getD []) (c:Int) f) Q:=by
 obtain ⟨l,I,h2,J⟩:=h.row i hi;obtain ⟨y,Z,y2,y3,y4⟩:=J c O;refine Gd.ix (y:=y) (by omega) ?_ (Y y y2 y3 y4)
 rw [FP,I,O2]; exact Z
theorem w4 {r:LR} (h:oc r):decide (cR r=0)=decide (rv r=0):=by
 unfold cR;rw [Uz,sign_zero h.n,F7 h]
theorem Kz {a b:LR} (J:oc a) (O:oc b) (h0:rv b≠0) {A B:Nat} (la:RL a A) (lb:RL b B) (hz:A+B<=800000):
  Gd (pC a b) (λr=>oc r/\RL r (A+B)/\rv r=rv a / rv b):=by
 have:=la.1; have:=la.2; have:=lb.1; have:=lb.2
 have Y:nv b.N.words≠0:=λe=>h0 ((F7 O).2 e);unfold pC;refine Gd.eE (uR J.n O.d (by omega)) (λx hx=>Gd.eE (uR J.d O.n (by omega)) (λz I=>?_))
 refine Gd.eE (wW hx.1 I.1 (ES I.2.2 J.nz Y) (by omega) (by omega)) (λr Z=>Gd.ret ⟨Z.1,⟨by omega,by omega⟩,?_⟩)
 rw [Z.2.2.2,hx.2.2,I.2.2];unfold rv;rw [Uq,Rat.inv_divInt,Rat.divInt_mul_divInt]
end Go.Sim
namespace Go.Sim
open Go
open _root_.Go.IntKind (i64 u64 u32 u8)
theorem DV {a:LI} (h:rZ a):(0<eP a↔0<fM a)/\(eP a<0↔fM a<0):=by
 have J:=vI h.wf h.tp;unfold eP fM
 by_cases I:a.words=[]
 ·have O:nv a.words=0:=J.2 I
  have hm:a.minus=false:=by
   cases hm:a.minus
   ·rfl
   ·exact absurd I (h.sign hm)
  simp [I,hm,nv]
 ·have O:nv a.words≠0:=λe=>I (J.1 e)
  have hl:a.words.length≠0:=λe=>I (Py e);rw [O7 (by simp; exact I)]
  cases hm:a.minus
  ·simp; omega
  ·simp; omega
theorem Br {a b c d:Int} (I:0<b) (J:0<d):Rat.divInt a b<Rat.divInt c d↔a*d<c*b:=by
 rw [<- Rat.not_le,<- Int.not_le];refine not_congr ?_;have e:=Rat.divInt_sub_divInt a c (d₁:=b) (d₂:=d) (by omega) (by omega)
 have k:=Up (a:=a*d-c*b) (b:=b*d) (Int.mul_pos I J);rw [<- e] at k;constructor
 ·intro h
  have:0<=Rat.divInt a b-Rat.divInt c d:=by grind
  have:=k.1 this;omega
 ·intro h
  have:0<=Rat.divInt a b-Rat.divInt c d:=k.2 (by omega)
  grind
theorem oc.Ih {a:LR} (h:oc a):0<fM a.D:=by
 rw [pB h.pos];have:=h.nz;omega
theorem CF {a b:LR} (J:oc a) (O:oc b) {A B:Nat} (la:RL a A) (lb:RL b B) (hz:A+B<=800000):
  Gd (mh a b) (λr=>(0<r↔rv b<rv a)/\(r<0↔rv a<rv b)):=by
 have:=la.1; have:=la.2; have:=lb.1; have:=lb.2
 unfold mh qU;refine Gd.eE (uR J.n O.d (by omega)) (λx Y=>Gd.eE (uR O.n J.d (by omega)) (λy Z=>?_))
 refine Gd.eE (P:=λr=>(0<r↔rv b<rv a)/\(r<0↔rv a<rv b)) (Gd.eE (J6 Y.1 Z.1 (by omega) (by omega)) (λz I=>Gd.ret ?_)) (λr hr=>Gd.ret hr)
 have s:=DV I.1;rw [I.2.2,Y.2.2,Z.2.2] at s;unfold rv;rw [Br O.Ih J.Ih,Br J.Ih O.Ih];exact ⟨s.1.trans ⟨λh=>by omega,λh=>by omega⟩,s.2.trans ⟨λh=>by omega,λh=>by omega⟩⟩
theorem BI {a:LR} (h:oc a):cR a<0↔rv a<0:=by
 have k:=Up (a:=fM a.N) (b:=fM a.D) h.Ih;unfold cR rv;rw [(DV h.n).2,<- Rat.not_le,k];omega
def Mc (q:Rat):Rat:=if q<0 then -q else q
theorem F3 {a:LR} (I:oc a) {A:Nat} (la:RL a A) (O:A<=800000):Gd (nG a) (λr=>oc r/\RL r A/\rv r=Mc (rv a)):=by
 unfold nG Mc;refine Gd.ite (λh=>?_) (λh=>?_)
 ·have h:rv a<0:=(BI I).1 (O6 h)
  refine Gd.eE (F5 I la O) (λr J=>Gd.ret ?_);rw [O8 h]; exact J
 ·have h:¬ rv a<0:=λe=>Pc h ((BI I).2 e)
  rw [O7 h];exact Gd.ret ⟨I,la,rfl⟩
abbrev CY:=(List Nat×List (List LR))×List Int
theorem xh {j w:Nat} (I:j<=w) (J:w<=1000):i64.wrap ((j:Int)+1)=((j+1:Nat):Int):=by
 rw [bQ ⟨by omega,by omega⟩]; omega
theorem N1 {n w W k i:Nat}{l:List Int}{sg:List Nat}{p:Int}{k1 k2:Nat}{Z:List (List LR)->Option CY}{f:LR}{rows:List (List LR)}{m:Mt}{F:Rat}{Q:CY->Prop}
  (hSG:(sg.set ((l.length:Int):Int).toNat k1).set (p:Int).toNat k2=xy n) (hl:l.length=k) (hk:k<n) (hi:i<n) (hw:w<=1000) (hkw:k<=w) (hW:W<=100000) (hik:i≠k)
  (hf:oc f) (hfl:RL f W) (fv:rv f=F) (hM:tF rows n w W m) (hb:∀ c,k<=c->c<w->RB (m i c-F*m k c) W)
  (hnx:∀ I,tF I n w W (λi' c=>if i'=i/\k<=c then m i c-F*m k c else m i' c)->Gd (Z ([]::I)) Q):
  Gd (gG (λs n'=>nV l sg p k1 k2 Z i f s.1 s.2 n') fA ((k:Int),[]::rows)) Q:=by
 refine Gd.gG (λs=>∃ (j:Nat) (I:List (List LR)),s=((j:Int),[]::I)/\k<=j/\j<=w/\tF I n w W (λi' c=>if i'=i/\k<=c/\c<j then m i c-F*m k c else m i' c)) (λs=>((w:Int)-s.1).toNat) ?_ fA _
  ⟨k,rows,rfl,Pn _,hkw,hM.congr (λi' c _ _=>by rw [O7 (by omega)])⟩ (by simp only [fA]; omega)
 rintro _ nx ⟨j,I,rfl,hkj,hjw,J⟩ O;show Gd (nV l sg p k1 k2 Z i f (j:Int) ([]::I) nx) Q;unfold nV;simp only [hSG];refine oI hi ?_;rw [J.Jc hi]
 by_cases hj:j<w
 ·refine Gd.ite (λ_=>?_) (λh=>absurd (UB.1 h) (by simp; omega))
  rw [hl];refine oI hk (r8 J hk hj (λy hy hyl hyv=>?_));rw [O7 (by omega)] at hyv
  refine Gd.ite (λhs=>?_) (λhs=>?_)
  ·refine oI hi (oI hi (r8 J hi hj (λyi gi gil giv=>oI hk (r8 J hk hj (λyr gr grl grv=>?_)))))
   rw [O7 (by omega)] at giv grv
   refine Gd.eE (yC hf gr hfl grl (by omega)) (λmm Y=>Gd.eE (xf gi Y.1 gil Y.2.1 (by omega)) (λr hr=>r8 J hi hj (λ_ _ _ _=>?_)))
   have hv:rv r=m i j-F*m k j:=by rw [hr.2.2,Y.2.2,giv,grv,fv]
   have hrl:RL r W:=hr.1.rb (by rw [hv]; exact hb j hkj hj)
   unfold l_;rw [xh hjw hw];have h2:=J.set hi hj hr.1 hrl;refine O _ ⟨j+1,_,rfl,by omega,by omega,h2.congr (λi' c _ _=>?_)⟩ (by simp only; omega)
   by_cases e:i'=i/\c=j
   ·obtain ⟨rfl,rfl⟩:=e
    rw [O8 ⟨rfl,rfl⟩,O8 (by omega),hv]
   ·rw [O7 e]
    by_cases e2:i'=i/\k<=c/\c<j
    ·rw [O8 e2,O8 (by omega)]
    ·rw [O7 e2,O7 (by omega)]
  ·have h0:m k j=0:=by
    have:=w4 hy;rw [hyv] at this;have hs2:decide (cR y=0)=true:=by simpa using hs
    rw [this] at hs2;exact O6 hs2
   unfold l_;rw [xh hjw hw];refine O _ ⟨j+1,I,rfl,by omega,by omega,J.congr (λi' c _ _=>?_)⟩ (by simp only; omega)
   by_cases e:i'=i/\c=j
   ·obtain ⟨rfl,rfl⟩:=e
    rw [if_neg (by omega),if_pos (by omega),h0]; grind
   ·by_cases e2:i'=i/\k<=c/\c<j
    ·rw [O8 e2,O8 (by omega)]
    ·rw [O7 e2,O7 (by omega)]
 ·refine Gd.ite (λh=>absurd (O6 h) (by omega)) (λ_=>?_)
  unfold jE;refine hnx I (J.congr (λi' c _ hc=>?_))
  by_cases e:i'=i/\k<=c
  ·rw [O8 e,O8 (by omega)]
  ·rw [O7 e,O7 (by omega)]
theorem N0 {n w W k:Nat}{l:List Int}{sg:List Nat}{p:Int}{k1 k2:Nat}{K:List (List LR)->Option CY}{rows:List (List LR)}{m:Mt}{Q:CY->Prop}
  (hSG:(sg.set ((l.length:Int):Int).toNat k1).set (p:Int).toNat k2=xy n) (hl:l.length=k) (hk:k<n) (hw:w<=1000) (hkw:k<w) (hW:W<=100000)
  (hM:tF rows n w W m) (hz:∀ c,c<k->m k c=0) (hb:∀ i c,i<n->i≠k->k<=c->c<w->RB (m i c-m i k*m k c) W)
  (hK:∀ I,tF I n w W (λi c=>if i=k then m k c else m i c-m i k*m k c)->Gd (K ([]::I)) Q):
  Gd (jQ (λkk s n'=>pU l (k:Int) sg p k1 k2 kk s n') K n 0 ([]::rows)) Q:=by
 refine Gd.jQ (λM i s=>i+M=n/\∃ I:List (List LR),s=[]::I/\tF I n w W (λi' c=>if i'<i/\i'≠k then m i' c-m i' k*m k c else m i' c)) ?_ ?_ n 0 _
  ⟨by omega,rows,rfl,hM.congr (λi' c _ _=>by rw [O7 (by omega)])⟩
 ·rintro M i _ nx ⟨hiM,I,rfl,J⟩ Z
  have hi:i<n:=by omega
  unfold pU;simp only [hSG];rw [hl];refine Gd.ite (λh=>?_) (λh=>?_)
  ·have e:i=k:=by have:=O6 h; omega
   subst e;unfold jE;refine Z _ ⟨by omega,I,rfl,J.congr (λi' c _ _=>?_)⟩
   by_cases e:i'<i/\i'≠i
   ·rw [O8 e,O8 (by omega)]
   ·rw [O7 e,O7 (by omega)]
  ·have O:i≠k:=λe=>by rw [e] at h; simp at h
   refine oI hi (r8 J hi hkw (λy hy hyl hyv=>?_));rw [O7 (by omega)] at hyv
   refine Gd.ite (λhs=>?_) (λhs=>?_)
   ·have h0:m i k=0:=by
     have:=w4 hy;rw [hyv] at this;rw [this] at hs;exact O6 hs
    unfold jE;refine Z _ ⟨by omega,I,rfl,J.congr (λi' c _ _=>?_)⟩
    by_cases e:i'=i
    ·subst e
     rw [if_neg (by omega),if_pos ⟨by omega,O⟩,h0]; grind
    ·by_cases e2:i'<i/\i'≠k
     ·rw [O8 e2,O8 (by omega)]
     ·rw [O7 e2,O7 (by omega)]
   ·refine oI hi (r8 J hi hkw (λf hf hfl hfv=>?_))
    rw [O7 (by omega)] at hfv
    refine N1 (m:=λi' c=>if i'<i/\i'≠k then m i' c-m i' k*m k c else m i' c) hSG hl hk hi hw (by omega) hW O hf hfl hfv J (λc h1 h2=>?_) (λY hM''=>?_)
    ·rw [O7 (by omega),O7 (by omega)]
     exact hb i c hi O h1 h2
    ·refine Z _ ⟨by omega,Y,rfl,hM''.congr (λi' c _ _=>?_)⟩
     by_cases e:i'=i
     ·subst e
      rw [O8 (show i'<i'+1/\i'≠k from ⟨by omega,O⟩),O7 (show ¬ (i'<i'/\i'≠k) by omega),O7 (show ¬ (k<i'/\k≠k) by omega)]
      by_cases e3:k<=c
      ·rw [O8 ⟨rfl,e3⟩]
      ·rw [if_neg (by omega),hz c (by omega)]; grind
     ·rw [O7 (show ¬ (i'=i/\k<=c) from λhh=>e hh.1)]
      by_cases e2:i'<i/\i'≠k
      ·rw [O8 e2,O8 (by omega)]
      ·rw [O7 e2,O7 (by omega)]
 ·rintro i _ ⟨hi,I,rfl,J⟩
  refine hK I (J.congr (λi' c hi' _=>?_))
  by_cases e:i'=k
  ·subst e; rw [O7 (by omega),O8 rfl]
  ·rw [O8 ⟨by omega,e⟩,O7 e]
def Il (k:Nat) (m:Mt):Mt:=λi c=>if i=k/\k<=c then m k c / m k k else m i c
theorem Ca {k i:Nat} (h:i≠k) (m:Mt) (c:Nat):Il k m i c=m i c:=O7 (λI=>h I.1)
theorem EB {k c:Nat} (h:k<=c) (m:Mt):Il k m k c=m k c / m k k:=O8 ⟨rfl,h⟩
theorem EC {k c:Nat} (h:c<k) (m:Mt):Il k m k c=m k c:=O7 (λI=>by omega)
theorem NZ {n w W k:Nat}{l:List Int}{sg:List Nat}{p:Int}{k1 k2:Nat}{nx:(List Int×Int×List Nat×List (List LR))->Option CY}{d:LR}{rows:List (List LR)}{m:Mt}{Q:CY->Prop}
  (hSG:(sg.set ((l.length:Int):Int).toNat k1).set (p:Int).toNat k2=xy n) (hl:l.length=k) (O:k<n) (hn:n<=1000) (hw:w<=1000) (hkw:k<w) (hW:W<=100000)
  (hd:oc d) (hdl:RL d W) (hdv:rv d=m k k) (hd0:m k k≠0) (hM:tF rows n w W m) (hz:∀ c,c<k->m k c=0) (hb:∀ i c,i<n->c<w->RB (tU k m i c) W)
  (hnx:∀ I,tF I n w W (tU k m)->Gd (nx (l++[(k:Int)],((k+1:Nat):Int),xy n,[]::I)) Q):
  Gd (gG (λs n'=>nU l (k:Int) sg nx p k1 k2 d s.1 s.2 n') fA ((k:Int),[]::rows)) Q:=by
 refine Gd.gG (λs=>∃ (j:Nat) (I:List (List LR)),s=((j:Int),[]::I)/\k<=j/\j<=w/\tF I n w W (λi' c=>if i'=k/\k<=c/\c<j then m k c / m k k else m i' c)) (λs=>((w:Int)-s.1).toNat) ?_ fA _
  ⟨k,rows,rfl,Pn _,by omega,hM.congr (λi' c _ _=>by rw [O7 (by omega)])⟩ (by simp only [fA]; omega)
 rintro _ nxL ⟨j,I,rfl,hkj,hjw,J⟩ hnext;show Gd (nU l (k:Int) sg nx p k1 k2 d (j:Int) ([]::I) nxL) Q;have hdiv:m k k / m k k=1:=by rw [Uq]; exact Ux _ hd0
 unfold nU;simp only [hSG];rw [hl];refine oI O ?_;rw [J.Jc O]
 by_cases hj:j<w
 ·refine Gd.ite (λ_=>?_) (λh=>absurd (UB.1 h) (by simp; omega))
  refine oI O (oI O (r8 J O hj (λy hy hyl hyv=>?_)));rw [O7 (by omega)] at hyv
  refine Gd.eE (Kz hy hd (by rw [hdv]; exact hd0) hyl hdl (by omega)) (λr hr=>r8 J O hj (λ_ _ _ _=>?_))
  have hv:rv r=m k j / m k k:=by rw [hr.2.2,hyv,hdv]
  have hrl:RL r W:=hr.1.rb (by
   rw [hv];have:=hb k j O hj;unfold tU at this;rw [O8 rfl] at this;exact this)
  rw [xh hjw hw];refine hnext _ ⟨j+1,_,rfl,by omega,by omega,(J.set O hj hr.1 hrl).congr (λi' c _ _=>?_)⟩ (by simp only; omega)
  by_cases e:i'=k/\c=j
  ·obtain ⟨rfl,rfl⟩:=e
   rw [O8 ⟨rfl,rfl⟩,O8 (by omega),hv]
  ·rw [O7 e]
   by_cases e2:i'=k/\k<=c/\c<j
   ·rw [O8 e2,O8 (by omega)]
   ·rw [O7 e2,O7 (by omega)]
 ·refine Gd.ite (λh=>absurd (O6 h) (by omega)) (λ_=>?_)
  rw [vP,O2];refine Gd.nd (by omega) ?_
  refine N0 (m:=Il k m) hSG hl O hw hkw hW (J.congr (λi' c _ hc=>?_)) (λc hc=>(EC hc m).trans (hz c hc)) (λi c hi Z h1 h2=>?_) (λY hM''=>?_)
  ·unfold Il
   by_cases e:i'=k/\k<=c
   ·rw [O8 e,O8 (by omega)]
   ·rw [O7 e,O7 (by omega)]
  ·rw [Ca Z,Ca Z,EB h1]
   have:=hb i c hi h2;unfold tU at this;rw [O7 Z] at this;exact this
  ·refine Gd.nd (by rw [show ([(k:Int)]:List Int).length=1 from rfl]; omega) ?_
   unfold nT;rw [xh (show k<=w by omega) hw]
   refine hnx Y (hM''.congr (λi c _ _=>?_));unfold tU
   by_cases e:i=k
   ·subst e
    rw [O8 rfl,O8 rfl]
    by_cases e2:i<=c
    ·rw [EB e2]
    ·rw [EC (by omega),hz c (by omega),Rat.div_def]; grind
   ·rw [O7 e,O7 e,Ca e,Ca e]
    by_cases e2:k<=c
    ·rw [EB e2]
    ·rw [EC (by omega),hz c (by omega),Rat.div_def]; grind
theorem G1 {n w W k:Nat}{O:Int}{l:List Int}{nx:(List Int×Int×List Nat×List (List LR))->Option CY}{rows:List (List LR)}{m:Mt}{Q:CY->Prop}
  (hl:l.length=k) (I:k<n) (hc:(k:Int)<O) (hn:n<=1000) (hw:w<=1000) (Y:k<w) (hW:W<=100000)
  (Z:m k k≠0) (hM:tF rows n w W m) (hz:∀ c,c<k->m k c=0) (hb:∀ i c,i<n->c<w->RB (tU k m i c) W)
  (hnx:∀ J,tF J n w W (tU k m)->Gd (nx (l++[(k:Int)],((k+1:Nat):Int),xy n,[]::J)) Q):
  Gd (l9 O l (k:Int) (xy n) ([]::rows) nx) Q:=by
 unfold l9;rw [hl,vP];refine Gd.ite (λ_=>?_) (λh=>absurd h (by simp; omega))
 refine Gd.gG (λs=>s=(k:Int)) (λ_=>0) ?_ fA _ rfl (by simp only [fA]; omega)
 rintro _ nx2 rfl _;unfold rN;rw [vP];refine Gd.ite (λ_=>?_) (λh=>absurd (UB.1 h) (by simp; omega))
 refine oI I (r8 hM I Y (λy hy hyl hyv=>?_));rw [w4 hy,hyv];refine Gd.ite (λh=>absurd (O6 h) Z) (λ_=>?_);unfold nW;rw [vP,hl];refine Gd.ite (λh=>absurd (O6 h) (by omega)) (λ_=>?_)
 refine oI I (oI I (oI I ?_));rw [DT I,O2,zF I];refine oI I (oI I (r8 hM I Y (λd hd hdl hdv=>?_)));exact NZ (by rw [hl]; exact DT I) hl I hn hw Y hW hd hdl hdv Z hM hz hb hnx
end Go.Sim
