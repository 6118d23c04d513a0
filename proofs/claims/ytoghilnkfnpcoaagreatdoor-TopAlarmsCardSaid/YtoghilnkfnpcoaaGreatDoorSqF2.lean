/-
  The proof, part F2.
-/
import Derived.Test.YtoghilnkfnpcoaaGreatDoorSqF1
set_option linter.unusedVariables false
set_option linter.unusedSimpArgs false
set_option linter.unusedSectionVars false
set_option linter.unnecessarySimpa false
namespace Go.Sim
abbrev Sq := @Bool.or_eq_false_iff
abbrev Sx := @Int.natCast_nonneg
abbrev SD := @List.eq_of_mem_replicate
abbrev SE := @List.filter_cons
abbrev SF := @List.getElem_set
abbrev SM := @List.set_append_right
abbrev S_ := @Rat.divInt_nonneg_iff_of_pos_right
abbrev Tb := @Rat.intCast_le_intCast
abbrev Tn := @decide_eq_false_iff_not
end Go.Sim
namespace Go.Sim
open _root_.Go.IntKind (i64 u64 u32 u8)
def ud (u:Nat):List (Rat×Nat×Nat)->Rat
 | []=>1
 | e::l=>(if e.2.1=u\/e.2.2=u then e.1 else 1)*ud u l
def vw:List (Rat×Nat×Nat)->Rat
 | []=>1
 | e::l=>e.1*vw l
theorem zy {u:Nat}:∀ {l:List (Rat×Nat×Nat)},(∀ e ∈ l,uj e.1)->uj (ud u l)
 | [],_=>⟨1,rfl⟩
 | e::l,h=>by
  unfold ud;refine sC ?_ (zy (λe I=>h e (Od _ I)))
  split
  ·exact h e (Oa ..)
  ·exact ⟨1,rfl⟩
theorem yx {u:Nat}:∀ {l:List (Rat×Nat×Nat)},(∀ e ∈ l,1<=e.1)->1<=ud u l
 | [],_=>Te
 | e::l,h=>by
  unfold ud;have I:=yx (u:=u) (l:=l) (λe O=>h e (Od _ O));have J:=h e (Oa ..)
  split
  ·have:=qw J I (by decide) (by decide)
   grind
  ·grind
theorem zU:∀ {l:List (Rat×Nat×Nat)},(∀ e ∈ l,1<=e.1)->1<=vw l
 | [],_=>Te
 | e::l,h=>by
  unfold vw;have I:=zU (l:=l) (λe O=>h e (Od _ O));have J:=h e (Oa ..);have:=qw J I (by decide) (by decide)
  grind
theorem B8 {u:Nat}:∀ {l:List (Rat×Nat×Nat)},(∀ e ∈ l,uj e.1/\1<=e.1)->∀ e ∈ l,(e.2.1=u\/e.2.2=u)->∀ t:Rat,uj t->uj (ud u l*(t / e.1))
 | [],_,e,I,_,_,_=>by simp at I
 | d::l,h,e,I,hu,t,ht=>by
  have hl:∀ e ∈ l,uj e.1/\1<=e.1:=λe I=>h e (Od _ I);unfold ud;rcases OM.1 I with rfl | I
  ·rw [Oc hu]
   have O:e.1≠0:=λY=>by have:=(h e (Oa ..)).2; rw [Y] at this; exact absurd this (by decide)
   have:=Rat.mul_inv_cancel e.1 O;have J:e.1*ud u l*(t / e.1)=ud u l*t:=by rw [Rat.div_def]; grind
   rw [J];exact sC (zy (λe I=>(hl e I).1)) ht
  ·have J:=B8 hl e I hu t ht
   have Z:(if d.2.1=u\/d.2.2=u then d.1 else 1)*ud u l*(t / e.1)=(if d.2.1=u\/d.2.2=u then d.1 else 1)*(ud u l*(t / e.1)):=Rat.mul_assoc ..
   rw [Z];refine sC ?_ J
   split
   ·exact (h d (Oa ..)).1
   ·exact ⟨1,rfl⟩
theorem yR {F:Nat->Nat}{q:Rat} (I:1<=q) {p:Nat}:∀ {n:Nat},(∀ i j,i<n->j<n->F i=F j->i=j)->pr n (λi=>if F i=p then q else 1)<=q
 | 0,_=>I
 | n+1,h=>by
  have ih:=yR I (p:=p) (n:=n) (λi j hi O e=>h i j (by omega) (by omega) e)
  show pr n (λi=>if F i=p then q else 1)*(if F n=p then q else 1)<=q
  by_cases e:F n=p
  ·rw [Oc e]
   have:pr n (λi=>if F i=p then q else 1)=pr n (λ_=>1):=vE (λi hi=>Ob (λe2=>by
    have:=h i n (by omega) (by omega) (e2.trans e.symm)
    omega))
   rw [this];have J:∀ k,pr k (λ_=>(1:Rat))=1:=λk=>by
    induction k with
    | zero=>rfl
    | succ k ih=>show pr k (λ_=>(1:Rat))*1=1; rw [ih]; grind
   rw [J]; grind
  ·rw [if_neg e]; grind
theorem Dm {n:Nat}{F:Nat->Nat} (J:∀ i j,i<n->j<n->F i=F j->i=j):∀ {l:List (Rat×Nat×Nat)},(∀ e ∈ l,1<=e.1)->pr n (λi=>ud (F i) l)<=vw l*vw l
 | [],_=>by
  have Y:∀ k,pr k (λ_=>(1:Rat))=1:=λk=>by
   induction k with
   | zero=>rfl
   | succ k ih=>show pr k (λ_=>(1:Rat))*1=1; rw [ih]; grind
  show pr n (λ_=>(1:Rat))<=1*1;rw [Y,Rat.one_mul]; exact Te
 | e::l,h=>by
  have hl:∀ e ∈ l,1<=e.1:=λe Z=>h e (Od _ Z);have I:=h e (Oa ..);have ih:=Dm J hl;have e1:pr n (λi=>ud (F i) (e::l))=pr n (λi=>if e.2.1=F i\/e.2.2=F i then e.1 else 1)*pr n (λi=>ud (F i) l):=by rw [<- B4]; rfl
  have e2:pr n (λi=>if e.2.1=F i\/e.2.2=F i then e.1 else 1)<=pr n (λi=>(if F i=e.2.1 then e.1 else 1)*(if F i=e.2.2 then e.1 else 1)):=Fc (λi _=>by split <;> grind) (λi _=>by
   have:=qw I I (by decide) (by decide)
   by_cases a:F i=e.2.1
   ·by_cases b:F i=e.2.2
    ·rw [Oc (.inl a.symm),Oc a,Oc b]
     have:=Rat.mul_le_mul_of_nonneg_left I (show (0:Rat)<=e.1 by grind)
     grind
    ·rw [if_pos (.inl a.symm),if_pos a,if_neg b]; grind
   ·by_cases b:F i=e.2.2
    ·rw [if_pos (.inr b.symm),if_neg a,if_pos b]; grind
    ·rw [if_neg (λh=>h.elim (λh=>a h.symm) (λh=>b h.symm)),if_neg a,if_neg b]; grind)
  rw [B4] at e2;have s1:=yR (F:=F) I (p:=e.2.1) J;have s2:=yR (F:=F) I (p:=e.2.2) J;have n1:0<=pr n (λi=>if F i=e.2.1 then e.1 else 1):=nc (λi _=>by split <;> grind)
  have n2:0<=pr n (λi=>if F i=e.2.2 then e.1 else 1):=nc (λi _=>by split <;> grind)
  have m1:=qw s1 s2 n1 n2;have n3:0<=pr n (λi=>if e.2.1=F i\/e.2.2=F i then e.1 else 1):=nc (λi _=>by split <;> grind)
  have n4:0<=pr n (λi=>ud (F i) l):=nc (λi _=>by have:=yx (u:=F i) hl; grind)
  have m2:=qw (Tf e2 m1) ih n3 n4;rw [e1];have O:vw (e::l)=e.1*vw l:=rfl;rw [O]
  grind
def xq (t:Rat) (e:Rat×Nat×Nat):Rat×Nat×Nat:=(t / e.1,e.2)
def pA (F:Nat->Nat) (e:Rat×Nat×Nat):Rat×(Nat->Rat):=(e.1,λj=>dl (F j) e.2.1+dl (F j) e.2.2)
theorem wa (i j:Nat):dl i j=0\/dl i j=1:=by
 unfold dl
 split
 ·exact .inr rfl
 ·exact .inl rfl
theorem E0 (F:Nat->Nat) (i c:Nat):∀ {l:List (Rat×Nat×Nat)},(∀ e ∈ l,0<e.1)->-jZ (l.map (pA F)) i c<=jZ (l.map (nI F)) i c/\jZ (l.map (nI F)) i c<=jZ (l.map (pA F)) i c
 | [],_=>by
  show -(0:Rat)<=0/\(0:Rat)<=0;constructor <;> decide
 | e::l,h=>by
  obtain ⟨J,O⟩:=E0 F i c (l:=l) (λe I=>h e (List.mem_cons_of_mem _ I));have Y:=h e (List.mem_cons_self ..);have e1:jZ ((e::l).map (nI F)) i c=e.1*(dl (F i) e.2.1-dl (F i) e.2.2)*(dl (F c) e.2.1-dl (F c) e.2.2)+jZ (l.map (nI F)) i c:=rfl;have e2:jZ ((e::l).map (pA F)) i c=e.1*(dl (F i) e.2.1+dl (F i) e.2.2)*(dl (F c) e.2.1+dl (F c) e.2.2)+jZ (l.map (pA F)) i c:=rfl;rw [e1,e2];rcases wa (F i) e.2.1 with a | a <;> rcases wa (F i) e.2.2 with b | b <;> rcases wa (F c) e.2.1 with u | u <;> rcases wa (F c) e.2.2 with v | v <;> rw [a,b,u,v] <;> constructor <;> grind
theorem wM (F:Nat->Nat) (i c:Nat):∀ {l:List (Rat×Nat×Nat)},(∀ e ∈ l,0<e.1)->0<=jZ (l.map (pA F)) i c
 | [],_=>Te
 | e::l,h=>by
  have J:=wM F i c (l:=l) (λe I=>h e (List.mem_cons_of_mem _ I));have O:=h e (List.mem_cons_self ..);have e2:jZ ((e::l).map (pA F)) i c=e.1*(dl (F i) e.2.1+dl (F i) e.2.2)*(dl (F c) e.2.1+dl (F c) e.2.2)+jZ (l.map (pA F)) i c:=rfl;rw [e2];rcases wa (F i) e.2.1 with a | a <;> rcases wa (F i) e.2.2 with b | b <;> rcases wa (F c) e.2.1 with u | u <;> rcases wa (F c) e.2.2 with v | v <;> rw [a,b,u,v] <;> grind
theorem E1 {F:Nat->Nat}{t:Rat} (ht:uj t) {l:List (Rat×Nat×Nat)} (Z:∀ e ∈ l,uj e.1/\1<=e.1) (i c:Nat):∀ {l':List (Rat×Nat×Nat)},(∀ e ∈ l',e ∈ l)->uj (ud (F i) l*jZ ((l'.map (xq t)).map (nI F)) i c)
 | [],_=>by
  have:ud (F i) l*jZ ((([]:List (Rat×Nat×Nat)).map (xq t)).map (nI F)) i c=0:=by show ud (F i) l*0=0; grind
  rw [this]; exact ⟨0,rfl⟩
 | e::l',h=>by
  have h1:=E1 (F:=F) ht Z i c (l':=l') (λe he=>h e (Od _ he));have h2:=h e (Oa ..);have e1:jZ (((e::l').map (xq t)).map (nI F)) i c=(t / e.1)*(dl (F i) e.2.1-dl (F i) e.2.2)*(dl (F c) e.2.1-dl (F c) e.2.2)+jZ ((l'.map (xq t)).map (nI F)) i c:=rfl;have I:∀ p q:Nat,uj (dl p q):=λp q=>by
   rcases wa p q with a | a <;> rw [a]
   ·exact ⟨0,rfl⟩
   ·exact ⟨1,rfl⟩
  have Y:∀ {a b:Rat},uj a->uj b->uj (a-b):=λ{a b} ⟨x,hx⟩ ⟨y,hy⟩=>⟨x-y,by rw [hx,hy,Rat.intCast_sub]⟩
  have e2:ud (F i) l*((t / e.1)*(dl (F i) e.2.1-dl (F i) e.2.2)*(dl (F c) e.2.1-dl (F c) e.2.2)+jZ ((l'.map (xq t)).map (nI F)) i c)=(ud (F i) l*(t / e.1))*(dl (F i) e.2.1-dl (F i) e.2.2)*(dl (F c) e.2.1-dl (F c) e.2.2)+ud (F i) l*jZ ((l'.map (xq t)).map (nI F)) i c:=by grind
  rw [e1,e2];refine xZ ?_ h1
  by_cases O:e.2.1=F i\/e.2.2=F i
  ·exact sC (sC (B8 Z e h2 O t ht) (Y (I _ _) (I _ _))) (Y (I _ _) (I _ _))
  ·have a:dl (F i) e.2.1=0:=pY (λJ=>O (.inl J.symm))
   have b:dl (F i) e.2.2=0:=pY (λJ=>O (.inr J.symm));rw [a,b];have:ud (F i) l*(t / e.1)*(0-0)*(dl (F c) e.2.1-dl (F c) e.2.2)=0:=by grind
   rw [this]; exact ⟨0,rfl⟩
def AK:List (Rat×Nat×Nat)->Rat
 | []=>0
 | e::l=>e.1+AK l
theorem ux (i j:Nat):0<=dl i j:=by rcases wa i j with h | h <;> rw [h] <;> decide
theorem Hh (i j:Nat):dl i j<=1:=by rcases wa i j with h | h <;> rw [h] <;> decide
theorem Fm {F:Nat->Nat}{p:Nat}:∀ {n:Nat},(∀ i j,i<n->j<n->F i=F j->i=j)->sm n (λc=>dl (F c) p)<=1
 | 0,_=>by unfold sm; decide
 | n+1,h=>by
  have ih:=Fm (F:=F) (p:=p) (n:=n) (λi j hi I e=>h i j (by omega) (by omega) e)
  show sm n (λc=>dl (F c) p)+dl (F n) p<=1
  by_cases e:F n=p
  ·have:sm n (λc=>dl (F c) p)=0:=vd (λi hi=>pY (λe2=>by
    have:=h i n (by omega) (by omega) (e2.trans e.symm)
    omega))
   rw [this];have:=Hh (F n) p
   grind
  ·rw [pY e]; grind
theorem EI {n:Nat}{F:Nat->Nat} (I:∀ i j,i<n->j<n->F i=F j->i=j) (i:Nat):∀ {l:List (Rat×Nat×Nat)},(∀ e ∈ l,0<e.1)->sm n (jZ (l.map (pA F)) i)<=4*AK l
 | [],_=>by
  have:sm n (jZ (([]:List (Rat×Nat×Nat)).map (pA F)) i)=0:=vd (λ_ _=>rfl);rw [this];show (0:Rat)<=4*0
  grind
 | e::l,h=>by
  have ih:=EI I i (l:=l) (λe O=>h e (Od _ O));have J:=h e (Oa ..);have e1:sm n (jZ ((e::l).map (pA F)) i)=(e.1*(dl (F i) e.2.1+dl (F i) e.2.2))*(sm n (λc=>dl (F c) e.2.1)+sm n (λc=>dl (F c) e.2.2))+sm n (jZ (l.map (pA F)) i):=by
   rw [<- v_,<- rK,<- v_]; rfl
  have e2:AK (e::l)=e.1+AK l:=rfl;rw [e1,e2];have s1:=Fm (F:=F) (p:=e.2.1) I;have s2:=Fm (F:=F) (p:=e.2.2) I;have n1:=tn (n:=n) (f:=λc=>dl (F c) e.2.1) (λc _=>ux _ _);have n2:=tn (n:=n) (f:=λc=>dl (F c) e.2.2) (λc _=>ux _ _);have d1:=Hh (F i) e.2.1;have d2:=Hh (F i) e.2.2;have d3:=ux (F i) e.2.1;have d4:=ux (F i) e.2.2;have Y:e.1*(dl (F i) e.2.1+dl (F i) e.2.2)<=e.1*2:=Rat.mul_le_mul_of_nonneg_left (by grind) (Rat.le_of_lt J)
  have Z:0<=e.1*(dl (F i) e.2.1+dl (F i) e.2.2):=Rat.mul_nonneg (Rat.le_of_lt J) (by grind)
  have m2:=qw Y (show sm n (λc=>dl (F c) e.2.1)+sm n (λc=>dl (F c) e.2.2)<=2 by grind) Z (by grind)
  grind
theorem JH {n:Nat}{F:Nat->Nat}{l:List (Rat×Nat×Nat)}{t:Rat} (hF:∀ i j,i<n->j<n->F i=F j->i=j) (ht:uj t) (t0:0<t) (hq:∀ e ∈ l,uj e.1/\1<=e.1):
  Gy n (jZ ((l.map (xq t)).map (nI F))) (λi=>ud (F i) l) (λi c=>ud (F i) l*jZ ((l.map (xq t)).map (pA F)) i c+dl i c) (λi=>ud (F i) l*(4*AK (l.map (xq t)))+1):=by
 have hw:∀ e ∈ l.map (xq t),0<e.1:=λe J=>by
  obtain ⟨d,hd,rfl⟩:=List.mem_map.1 J;have Y:=(hq d hd).2;show 0<t / d.1;rw [Rat.div_def];exact Rat.mul_pos t0 (Rat.inv_pos.2 (by grind))
 have I:∀ i,1<=ud (F i) l:=λi=>yx (λe J=>(hq e J).2);have O:∀ i c,0<=ud (F i) l*jZ ((l.map (xq t)).map (pA F)) i c:=λi c=>Rat.mul_nonneg (by have:=I i; grind) (wM F i c hw)
 refine ⟨λi _=>zy (λe J=>(hq e J).1),λi _=>I i,λi c _ _=>E1 ht hq i c (λe J=>J),λi c=>?_,λi _=>?_,λi c _ _=>?_,λi hi=>?_⟩
 ·have:=O i c
  have:=ux i c
  grind
 ·have:=O i i
  rw [q9]; grind
 ·obtain ⟨Y,h2⟩:=E0 F i c hw
  have Z:0<=ud (F i) l:=by have:=I i; grind
  have m1:=Rat.mul_le_mul_of_nonneg_left Y Z;have m2:=Rat.mul_le_mul_of_nonneg_left h2 Z;have:=ux i c;constructor <;> grind
 ·rw [v_,rK]
  have Y:=EI hF i hw;have Z:0<=ud (F i) l:=by have:=I i; grind
  have m1:=Rat.mul_le_mul_of_nonneg_left Y Z;have h2:sm n (λc=>dl i c)<=1:=by
   have e:sm n (λc=>dl i c)=sm n (λc=>dl ((λx:Nat=>x) c) i):=o_ (λc _=>by
    unfold dl
    by_cases a:i=c
    ·subst a; rfl
    ·rw [Ob a,Ob (λb=>a b.symm)])
   rw [e];exact Fm (λi j _ _ e=>e)
  have e2:sm n (λc=>jZ ((l.map (xq t)).map (pA F)) i c)=sm n (jZ ((l.map (xq t)).map (pA F)) i):=rfl;rw [e2]
  grind
theorem EK {q:Rat}:∀ {l:List (Rat×Nat×Nat)},(∀ e ∈ l,1<=e.1/\e.1<=q)->vw l<=pr l.length (λ_=>q)
 | [],_=>Te
 | e::l,h=>by
  have J:=EK (q:=q) (l:=l) (λe I=>h e (List.mem_cons_of_mem _ I));have O:=h e (List.mem_cons_self ..);have Y:=zU (l:=l) (λe I=>(h e (List.mem_cons_of_mem _ I)).1);have Z:=qw J O.2 (by grind) (by grind)
  have e1:vw (e::l)=e.1*vw l:=rfl;have e2:pr (e::l).length (λ_=>q)=pr l.length (λ_=>q)*q:=rfl;rw [e1,e2]; grind
theorem LV {n:Nat}{F:Nat->Nat}{l:List (Rat×Nat×Nat)}{s w:Rat} (O:∀ i j,i<n->j<n->F i=F j->i=j) (J:∀ e ∈ l,1<=e.1) (s0:0<=s) (hs:s<=w):
  pr n (λi=>ud (F i) l*s+1)<=vw l*vw l*pr n (λ_=>w+1):=by
 have I:∀ i,1<=ud (F i) l:=λi=>yx J;have p1:pr n (λi=>ud (F i) l*s+1)<=pr n (λi=>ud (F i) l*(w+1)):=Fc (λi _=>by
  have:=Rat.mul_nonneg (show (0:Rat)<=ud (F i) l by have:=I i; grind) s0
  grind) (λi _=>by
  have:=Rat.mul_le_mul_of_nonneg_left hs (show (0:Rat)<=ud (F i) l by have:=I i; grind)
  have:=I i
  grind)
 rw [B4] at p1;have p2:=Dm O J;have Y:0<=pr n (λi=>ud (F i) l):=nc (λi _=>by have:=I i; grind)
 have Z:0<=pr n (λ_:Nat=>w+1):=nc (λi _=>by grind)
 exact Tf p1 (qw p2 Te Y Z)
def xy (n:Nat):List Nat:=(List.range n).map (·+1)
theorem vZ (n:Nat):(xy n).length=n:=by simp [xy]
theorem B9 {n i:Nat} (hi:i<n):(xy n)[i]? = some (i+1):=by simp [xy,hi]
theorem AE {α:Type}{l:List α}{i:Nat}{a:α} (h:l[i]? = some a):l.set i a=l:=by
 apply PO;intro j
 by_cases e:i=j
 ·subst e
  rw [Oz (N_.1 h).1,h]
 ·rw [Ow e]
theorem zz {n i:Nat} (hi:i<n):(xy n).set i (i+1)=xy n:=AE (B9 hi)
theorem Dn {n i:Nat} (hi:i<n):((xy n).set ((i:Int)).toNat (i+1)).set ((i:Int)).toNat (i+1)=xy n:=by
 rw [N7,zz hi,zz hi]
structure uu (rows:List (List LR)) (n w W:Nat) (m:Mt):Prop where
 len:rows.length=n
 row:∀ i,i<n->∃ l,rows[i]? = some l/\l.length=w/\∀ c,c<w->∃ y,l[c]? = some y/\pd y/\RL y W/\rv y=m i c
theorem uu.congr {rows:List (List LR)}{n w W:Nat}{m J:Mt} (h:uu rows n w W m) (e:∀ i c,i<n->c<w->m i c=J i c):uu rows n w W J:=by
 refine ⟨h.len,λi hi=>?_⟩;obtain ⟨l,O,Y,Z⟩:=h.row i hi;refine ⟨l,O,Y,λc I=>?_⟩;obtain ⟨y,y1,y2,y3,y4⟩:=Z c I;exact ⟨y,y1,y2,y3,by rw [y4,e i c hi I]⟩
theorem uu.mono {rows:List (List LR)}{n w W I:Nat}{m:Mt} (h:uu rows n w W m) (e:W<=I):uu rows n w I m:=by
 refine ⟨h.len,λi hi=>?_⟩;obtain ⟨l,J,O,Y⟩:=h.row i hi;refine ⟨l,J,O,λc Z=>?_⟩;obtain ⟨y,y1,y2,y3,y4⟩:=Y c Z;exact ⟨y,y1,y2,y3.mono e,y4⟩
theorem uu.set {rows:List (List LR)}{n w W:Nat}{m:Mt} (h:uu rows n w W m) {i c:Nat} (hi:i<n) (hc:c<w) {e:LR} (he:pd e) (hW:RL e W):
  uu (rows.set i (((rows[i]?).getD []).set c e)) n w W (λi' I=>if i'=i/\I=c then rv e else m i' I):=by
 refine ⟨by rw [Pp]; exact h.len,λi' Y=>?_⟩
 obtain ⟨l,h1,h2,h3⟩:=h.row i' Y
 by_cases e1:i=i'
 ·subst e1
  refine ⟨l.set c e,by rw [h1,Oz (by rw [h.len]; exact hi)]; rfl,by rw [Pp]; exact h2,λI J=>?_⟩
  by_cases e2:c=I
  ·subst e2
   exact ⟨e,by rw [Oz (by omega)],he,hW,by rw [Oc ⟨rfl,rfl⟩]⟩
  ·obtain ⟨y,Z,y2,y3,y4⟩:=h3 I J
   exact ⟨y,by rw [Ow e2]; exact Z,y2,y3,by rw [Ob (λO=>e2 O.2.symm)]; exact y4⟩
 ·refine ⟨l,by rw [Ow e1]; exact h1,h2,λI J=>?_⟩
  obtain ⟨y,Z,y2,y3,y4⟩:=h3 I J;exact ⟨y,Z,y2,y3,by rw [Ob (λO=>e1 O.1.symm)]; exact y4⟩
theorem E5 (rows:List (List LR)) (i:Nat):((([]::rows:List (List LR))[i+1]?).getD [])=(rows[i]?).getD []:=rfl
theorem K5 (rows:List (List LR)) (i:Nat) (l:List LR):([]::rows:List (List LR)).set (i+1) l=[]::rows.set i l:=rfl
theorem uu.Io {rows:List (List LR)}{n w W:Nat}{m:Mt} (h:uu rows n w W m) {i:Nat} (hi:i<n):((([]::rows:List (List LR))[i+1]?).getD []).length=w:=by
 obtain ⟨l,I,J,_⟩:=h.row i hi;rw [E5,I]; exact J
theorem pH {R:Type}{Q:R->Prop}{n i:Nat} (hi:i<n) {f:Nat->Option R} (h:Gd (f (i+1)) Q):Gd (idx (xy n) (i:Int) f) Q:=
 Gd.ix (by omega) (by rw [N7]; exact B9 hi) h
theorem sU {R:Type}{Q:R->Prop}{rows:List (List LR)}{n w W:Nat}{m:Mt} (h:uu rows n w W m) {i c:Nat} (hi:i<n) (O:c<w) {f:LR->Option R}
  (Y:∀ y,pd y->RL y W->rv y=m i c->Gd (f y) Q):Gd (idx ((([]::rows:List (List LR))[i+1]?).getD []) (c:Int) f) Q:=by
 obtain ⟨l,I,h2,J⟩:=h.row i hi;obtain ⟨y,Z,y2,y3,y4⟩:=J c O;refine Gd.ix (y:=y) (by omega) ?_ (Y y y2 y3 y4)
 rw [E5,I,N7]; exact Z
theorem w5 {r:LR} (h:pd r):decide (dO r=0)=decide (rv r=0):=by
 unfold dO;rw [decide_eq_decide,sign_zero h.n,Fk h]
theorem JU {a b:LR} (J:pd a) (O:pd b) (h0:rv b≠0) {A B:Nat} (la:RL a A) (lb:RL b B) (hz:A+B<=800000):
  Gd (qb a b) (λr=>pd r/\RL r (A+B)/\rv r=rv a / rv b):=by
 have:=la.1; have:=la.2; have:=lb.1; have:=lb.2
 have Y:nv b.N.words≠0:=λe=>h0 ((Fk O).2 e);unfold qb;refine Gd.hO (vi J.n O.d (by omega)) (λx hx=>Gd.hO (vi J.d O.n (by omega)) (λz I=>?_))
 refine Gd.hO (wX hx.1 I.1 (Eb I.2.2 J.nz Y) (by omega) (by omega)) (λr Z=>Gd.ret ⟨Z.1,⟨by omega,by omega⟩,?_⟩)
 rw [Z.2.2.2,hx.2.2,I.2.2];unfold rv;rw [Ta,Rat.inv_divInt,Rat.divInt_mul_divInt]
end Go.Sim
namespace Go.Sim
open Go
open _root_.Go.IntKind (i64 u64 u32 u8)
theorem Dq {a:LI} (h:tr a):(0<iI a↔0<jR a)/\(iI a<0↔jR a<0):=by
 have J:=vU h.wf h.tp;unfold iI jR
 by_cases I:a.words=[]
 ·have O:nv a.words=0:=J.2 I
  have hm:a.minus=false:=by
   cases hm:a.minus
   ·rfl
   ·exact absurd I (h.sign hm)
  simp [I,hm,nv]
 ·have O:nv a.words≠0:=λe=>I (J.1 e)
  have hl:a.words.length≠0:=λe=>I (OK e);rw [Ob (by simp; exact I)]
  cases hm:a.minus
  ·simp; omega
  ·simp; omega
theorem A2 {a b c d:Int} (I:0<b) (J:0<d):Rat.divInt a b<Rat.divInt c d↔a*d<c*b:=by
 rw [<- Rat.not_le,<- Int.not_le];refine not_congr ?_;have e:=Rat.divInt_sub_divInt a c (d₁:=b) (d₂:=d) (by omega) (by omega)
 have k:=S_ (a:=a*d-c*b) (b:=b*d) (Int.mul_pos I J);rw [<- e] at k;constructor
 ·intro h
  have:0<=Rat.divInt a b-Rat.divInt c d:=by grind
  have:=k.1 this;omega
 ·intro h
  have:0<=Rat.divInt a b-Rat.divInt c d:=k.2 (by omega)
  grind
theorem pd.Hi {a:LR} (h:pd a):0<jR a.D:=by
 rw [qR h.pos];have:=h.nz;omega
theorem JT {a b:LR} (J:pd a) (O:pd b) {A B:Nat} (la:RL a A) (lb:RL b B) (hz:A+B<=800000):
  Gd (qa a b) (λr=>(0<r↔rv b<rv a)/\(r<0↔rv a<rv b)):=by
 have:=la.1; have:=la.2; have:=lb.1; have:=lb.2
 unfold qa rT;refine Gd.hO (vi J.n O.d (by omega)) (λx Y=>Gd.hO (vi O.n J.d (by omega)) (λy Z=>?_))
 refine Gd.hO (P:=λr=>(0<r↔rv b<rv a)/\(r<0↔rv a<rv b)) (Gd.hO (Jr Y.1 Z.1 (by omega) (by omega)) (λz I=>Gd.ret ?_)) (λr hr=>Gd.ret hr)
 have s:=Dq I.1;rw [I.2.2,Y.2.2,Z.2.2] at s;unfold rv;rw [A2 O.Hi J.Hi,A2 J.Hi O.Hi];exact ⟨s.1.trans ⟨λh=>by omega,λh=>by omega⟩,s.2.trans ⟨λh=>by omega,λh=>by omega⟩⟩
theorem Bf {a:LR} (h:pd a):dO a<0↔rv a<0:=by
 have k:=S_ (a:=jR a.N) (b:=jR a.D) h.Hi;unfold dO rv;rw [(Dq h.n).2,<- Rat.not_le,k];omega
def K9 (q:Rat):Rat:=if q<0 then -q else q
theorem JR {a:LR} (I:pd a) {A:Nat} (la:RL a A) (O:A<=800000):Gd (p_ a) (λr=>pd r/\RL r A/\rv r=K9 (rv a)):=by
 unfold p_ K9;refine Gd.ite (λh=>?_) (λh=>?_)
 ·have h:rv a<0:=(Bf I).1 (N9 h)
  refine Gd.hO (Fi I la O) (λr J=>Gd.ret ?_);rw [Oc h]; exact J
 ·have h:¬ rv a<0:=λe=>Og h ((Bf I).2 e)
  rw [Ob h];exact Gd.ret ⟨I,la,rfl⟩
abbrev Cm:=(List Nat×List (List LR))×List Int
theorem xf {j w:Nat} (I:j<=w) (J:w<=1000):i64.wrap ((j:Int)+1)=((j+1:Nat):Int):=by
 rw [cK ⟨by omega,by omega⟩]; omega
theorem M3 {n w W k i:Nat}{l:List Int}{sg:List Nat}{p:Int}{k1 k2:Nat}{Z:List (List LR)->Option Cm}{f:LR}{rows:List (List LR)}{m:Mt}{F:Rat}{Q:Cm->Prop}
  (hSG:(sg.set ((l.length:Int):Int).toNat k1).set (p:Int).toNat k2=xy n) (hl:l.length=k) (hk:k<n) (hi:i<n) (hw:w<=1000) (hkw:k<=w) (hW:W<=100000) (hik:i≠k)
  (hf:pd f) (hfl:RL f W) (fv:rv f=F) (hM:uu rows n w W m) (hb:∀ c,k<=c->c<w->RB (m i c-F*m k c) W)
  (hnx:∀ I,uu I n w W (λi' c=>if i'=i/\k<=c then m i c-F*m k c else m i' c)->Gd (Z ([]::I)) Q):
  Gd (cE (λs n'=>oU l sg p k1 k2 Z i f s.1 s.2 n') a_ ((k:Int),[]::rows)) Q:=by
 refine Gd.cE (λs=>∃ (j:Nat) (I:List (List LR)),s=((j:Int),[]::I)/\k<=j/\j<=w/\uu I n w W (λi' c=>if i'=i/\k<=c/\c<j then m i c-F*m k c else m i' c)) (λs=>((w:Int)-s.1).toNat) ?_ a_ _
  ⟨k,rows,rfl,Ov _,hkw,hM.congr (λi' c _ _=>by rw [Ob (by omega)])⟩ (by simp only [a_]; omega)
 rintro _ nx ⟨j,I,rfl,hkj,hjw,J⟩ O;show Gd (oU l sg p k1 k2 Z i f (j:Int) ([]::I) nx) Q;unfold oU;simp only [hSG];refine pH hi ?_;rw [J.Io hi]
 by_cases hj:j<w
 ·refine Gd.ite (λ_=>?_) (λh=>absurd (Tn.1 h) (by simp; omega))
  rw [hl];refine pH hk (sU J hk hj (λy hy hyl hyv=>?_));rw [Ob (by omega)] at hyv
  refine Gd.ite (λhs=>?_) (λhs=>?_)
  ·refine pH hi (pH hi (sU J hi hj (λyi gi gil giv=>pH hk (sU J hk hj (λyr gr grl grv=>?_)))))
   rw [Ob (by omega)] at giv grv
   refine Gd.hO (yv hf gr hfl grl (by omega)) (λmm Y=>Gd.hO (xd gi Y.1 gil Y.2.1 (by omega)) (λr hr=>sU J hi hj (λ_ _ _ _=>?_)))
   have hv:rv r=m i j-F*m k j:=by rw [hr.2.2,Y.2.2,giv,grv,fv]
   have hrl:RL r W:=hr.1.rb (by rw [hv]; exact hb j hkj hj)
   unfold m_;rw [xf hjw hw];have h2:=J.set hi hj hr.1 hrl;refine O _ ⟨j+1,_,rfl,by omega,by omega,h2.congr (λi' c _ _=>?_)⟩ (by simp only; omega)
   by_cases e:i'=i/\c=j
   ·obtain ⟨rfl,rfl⟩:=e
    rw [Oc ⟨rfl,rfl⟩,Oc (by omega),hv]
   ·rw [Ob e]
    by_cases e2:i'=i/\k<=c/\c<j
    ·rw [Oc e2,Oc (by omega)]
    ·rw [Ob e2,Ob (by omega)]
  ·have h0:m k j=0:=by
    have:=w5 hy;rw [hyv] at this;have hs2:decide (dO y=0)=true:=by simpa using hs
    rw [this] at hs2;exact N9 hs2
   unfold m_;rw [xf hjw hw];refine O _ ⟨j+1,I,rfl,by omega,by omega,J.congr (λi' c _ _=>?_)⟩ (by simp only; omega)
   by_cases e:i'=i/\c=j
   ·obtain ⟨rfl,rfl⟩:=e
    rw [if_neg (by omega),if_pos (by omega),h0]; grind
   ·by_cases e2:i'=i/\k<=c/\c<j
    ·rw [Oc e2,Oc (by omega)]
    ·rw [Ob e2,Ob (by omega)]
 ·refine Gd.ite (λh=>absurd (N9 h) (by omega)) (λ_=>?_)
  unfold ly;refine hnx I (J.congr (λi' c _ hc=>?_))
  by_cases e:i'=i/\k<=c
  ·rw [Oc e,Oc (by omega)]
  ·rw [Ob e,Ob (by omega)]
theorem MZ {n w W k:Nat}{l:List Int}{sg:List Nat}{p:Int}{k1 k2:Nat}{K:List (List LR)->Option Cm}{rows:List (List LR)}{m:Mt}{Q:Cm->Prop}
  (hSG:(sg.set ((l.length:Int):Int).toNat k1).set (p:Int).toNat k2=xy n) (hl:l.length=k) (hk:k<n) (hw:w<=1000) (hkw:k<w) (hW:W<=100000)
  (hM:uu rows n w W m) (hz:∀ c,c<k->m k c=0) (hb:∀ i c,i<n->i≠k->k<=c->c<w->RB (m i c-m i k*m k c) W)
  (hK:∀ I,uu I n w W (λi c=>if i=k then m k c else m i c-m i k*m k c)->Gd (K ([]::I)) Q):
  Gd (mn (λkk s n'=>qG l (k:Int) sg p k1 k2 kk s n') K n 0 ([]::rows)) Q:=by
 refine Gd.mn (λM i s=>i+M=n/\∃ I:List (List LR),s=[]::I/\uu I n w W (λi' c=>if i'<i/\i'≠k then m i' c-m i' k*m k c else m i' c)) ?_ ?_ n 0 _
  ⟨by omega,rows,rfl,hM.congr (λi' c _ _=>by rw [Ob (by omega)])⟩
 ·rintro M i _ nx ⟨hiM,I,rfl,J⟩ Z
  have hi:i<n:=by omega
  unfold qG;simp only [hSG];rw [hl];refine Gd.ite (λh=>?_) (λh=>?_)
  ·have e:i=k:=by have:=N9 h; omega
   subst e;unfold ly;refine Z _ ⟨by omega,I,rfl,J.congr (λi' c _ _=>?_)⟩
   by_cases e:i'<i/\i'≠i
   ·rw [Oc e,Oc (by omega)]
   ·rw [Ob e,Ob (by omega)]
  ·have O:i≠k:=λe=>by rw [e] at h; simp at h
   refine pH hi (sU J hi hkw (λy hy hyl hyv=>?_));rw [Ob (by omega)] at hyv
   refine Gd.ite (λhs=>?_) (λhs=>?_)
   ·have h0:m i k=0:=by
     have:=w5 hy;rw [hyv] at this;rw [this] at hs;exact N9 hs
    unfold ly;refine Z _ ⟨by omega,I,rfl,J.congr (λi' c _ _=>?_)⟩
    by_cases e:i'=i
    ·subst e
     rw [if_neg (by omega),if_pos ⟨by omega,O⟩,h0]; grind
    ·by_cases e2:i'<i/\i'≠k
     ·rw [Oc e2,Oc (by omega)]
     ·rw [Ob e2,Ob (by omega)]
   ·refine pH hi (sU J hi hkw (λf hf hfl hfv=>?_))
    rw [Ob (by omega)] at hfv
    refine M3 (m:=λi' c=>if i'<i/\i'≠k then m i' c-m i' k*m k c else m i' c) hSG hl hk hi hw (by omega) hW O hf hfl hfv J (λc h1 h2=>?_) (λY hM''=>?_)
    ·rw [Ob (by omega),Ob (by omega)]
     exact hb i c hi O h1 h2
    ·refine Z _ ⟨by omega,Y,rfl,hM''.congr (λi' c _ _=>?_)⟩
     by_cases e:i'=i
     ·subst e
      rw [Oc (show i'<i'+1/\i'≠k from ⟨by omega,O⟩),Ob (show ¬ (i'<i'/\i'≠k) by omega),Ob (show ¬ (k<i'/\k≠k) by omega)]
      by_cases e3:k<=c
      ·rw [Oc ⟨rfl,e3⟩]
      ·rw [if_neg (by omega),hz c (by omega)]; grind
     ·rw [Ob (show ¬ (i'=i/\k<=c) from λhh=>e hh.1)]
      by_cases e2:i'<i/\i'≠k
      ·rw [Oc e2,Oc (by omega)]
      ·rw [Ob e2,Ob (by omega)]
 ·rintro i _ ⟨hi,I,rfl,J⟩
  refine hK I (J.congr (λi' c hi' _=>?_))
  by_cases e:i'=k
  ·subst e; rw [Ob (by omega),Oc rfl]
  ·rw [Oc ⟨by omega,e⟩,Ob e]
def Hm (k:Nat) (m:Mt):Mt:=λi c=>if i=k/\k<=c then m k c / m k k else m i c
theorem BI {k i:Nat} (h:i≠k) (m:Mt) (c:Nat):Hm k m i c=m i c:=Ob (λI=>h I.1)
theorem DV {k c:Nat} (h:k<=c) (m:Mt):Hm k m k c=m k c / m k k:=Oc ⟨rfl,h⟩
theorem DW {k c:Nat} (h:c<k) (m:Mt):Hm k m k c=m k c:=Ob (λI=>by omega)
theorem MY {n w W k:Nat}{l:List Int}{sg:List Nat}{p:Int}{k1 k2:Nat}{nx:(List Int×Int×List Nat×List (List LR))->Option Cm}{d:LR}{rows:List (List LR)}{m:Mt}{Q:Cm->Prop}
  (hSG:(sg.set ((l.length:Int):Int).toNat k1).set (p:Int).toNat k2=xy n) (hl:l.length=k) (O:k<n) (hn:n<=1000) (hw:w<=1000) (hkw:k<w) (hW:W<=100000)
  (hd:pd d) (hdl:RL d W) (hdv:rv d=m k k) (hd0:m k k≠0) (hM:uu rows n w W m) (hz:∀ c,c<k->m k c=0) (hb:∀ i c,i<n->c<w->RB (uG k m i c) W)
  (hnx:∀ I,uu I n w W (uG k m)->Gd (nx (l++[(k:Int)],((k+1:Nat):Int),xy n,[]::I)) Q):
  Gd (cE (λs n'=>oT l (k:Int) sg nx p k1 k2 d s.1 s.2 n') a_ ((k:Int),[]::rows)) Q:=by
 refine Gd.cE (λs=>∃ (j:Nat) (I:List (List LR)),s=((j:Int),[]::I)/\k<=j/\j<=w/\uu I n w W (λi' c=>if i'=k/\k<=c/\c<j then m k c / m k k else m i' c)) (λs=>((w:Int)-s.1).toNat) ?_ a_ _
  ⟨k,rows,rfl,Ov _,by omega,hM.congr (λi' c _ _=>by rw [Ob (by omega)])⟩ (by simp only [a_]; omega)
 rintro _ nxL ⟨j,I,rfl,hkj,hjw,J⟩ hnext;show Gd (oT l (k:Int) sg nx p k1 k2 d (j:Int) ([]::I) nxL) Q;have hdiv:m k k / m k k=1:=by rw [Ta]; exact Th _ hd0
 unfold oT;simp only [hSG];rw [hl];refine pH O ?_;rw [J.Io O]
 by_cases hj:j<w
 ·refine Gd.ite (λ_=>?_) (λh=>absurd (Tn.1 h) (by simp; omega))
  refine pH O (pH O (sU J O hj (λy hy hyl hyv=>?_)));rw [Ob (by omega)] at hyv
  refine Gd.hO (JU hy hd (by rw [hdv]; exact hd0) hyl hdl (by omega)) (λr hr=>sU J O hj (λ_ _ _ _=>?_))
  have hv:rv r=m k j / m k k:=by rw [hr.2.2,hyv,hdv]
  have hrl:RL r W:=hr.1.rb (by
   rw [hv];have:=hb k j O hj;unfold uG at this;rw [Oc rfl] at this;exact this)
  rw [xf hjw hw];refine hnext _ ⟨j+1,_,rfl,by omega,by omega,(J.set O hj hr.1 hrl).congr (λi' c _ _=>?_)⟩ (by simp only; omega)
  by_cases e:i'=k/\c=j
  ·obtain ⟨rfl,rfl⟩:=e
   rw [Oc ⟨rfl,rfl⟩,Oc (by omega),hv]
  ·rw [Ob e]
   by_cases e2:i'=k/\k<=c/\c<j
   ·rw [Oc e2,Oc (by omega)]
   ·rw [Ob e2,Ob (by omega)]
 ·refine Gd.ite (λh=>absurd (N9 h) (by omega)) (λ_=>?_)
  rw [vZ,N7];refine Gd.nd (by omega) ?_
  refine MZ (m:=Hm k m) hSG hl O hw hkw hW (J.congr (λi' c _ hc=>?_)) (λc hc=>(DW hc m).trans (hz c hc)) (λi c hi Z h1 h2=>?_) (λY hM''=>?_)
  ·unfold Hm
   by_cases e:i'=k/\k<=c
   ·rw [Oc e,Oc (by omega)]
   ·rw [Ob e,Ob (by omega)]
  ·rw [BI Z,BI Z,DV h1]
   have:=hb i c hi h2;unfold uG at this;rw [Ob Z] at this;exact this
  ·refine Gd.nd (by rw [show ([(k:Int)]:List Int).length=1 from rfl]; omega) ?_
   unfold oS;rw [xf (show k<=w by omega) hw]
   refine hnx Y (hM''.congr (λi c _ _=>?_));unfold uG
   by_cases e:i=k
   ·subst e
    rw [Oc rfl,Oc rfl]
    by_cases e2:i<=c
    ·rw [DV e2]
    ·rw [DW (by omega),hz c (by omega),Rat.div_def]; grind
   ·rw [Ob e,Ob e,BI e,BI e]
    by_cases e2:k<=c
    ·rw [DV e2]
    ·rw [DW (by omega),hz c (by omega),Rat.div_def]; grind
theorem F9 {n w W k:Nat}{O:Int}{l:List Int}{nx:(List Int×Int×List Nat×List (List LR))->Option Cm}{rows:List (List LR)}{m:Mt}{Q:Cm->Prop}
  (hl:l.length=k) (I:k<n) (hc:(k:Int)<O) (hn:n<=1000) (hw:w<=1000) (Y:k<w) (hW:W<=100000)
  (Z:m k k≠0) (hM:uu rows n w W m) (hz:∀ c,c<k->m k c=0) (hb:∀ i c,i<n->c<w->RB (uG k m i c) W)
  (hnx:∀ J,uu J n w W (uG k m)->Gd (nx (l++[(k:Int)],((k+1:Nat):Int),xy n,[]::J)) Q):
  Gd (mZ O l (k:Int) (xy n) ([]::rows) nx) Q:=by
 unfold mZ;rw [hl,vZ];refine Gd.ite (λ_=>?_) (λh=>absurd h (by simp; omega))
 refine Gd.cE (λs=>s=(k:Int)) (λ_=>0) ?_ a_ _ rfl (by simp only [a_]; omega)
 rintro _ nx2 rfl _;unfold sI;rw [vZ];refine Gd.ite (λ_=>?_) (λh=>absurd (Tn.1 h) (by simp; omega))
 refine pH I (sU hM I Y (λy hy hyl hyv=>?_));rw [w5 hy,hyv];refine Gd.ite (λh=>absurd (N9 h) Z) (λ_=>?_);unfold oV;rw [vZ,hl];refine Gd.ite (λh=>absurd (N9 h) (by omega)) (λ_=>?_)
 refine pH I (pH I (pH I ?_));rw [Dn I,N7,zz I];refine pH I (pH I (sU hM I Y (λd hd hdl hdv=>?_)));exact MY (by rw [hl]; exact Dn I) hl I hn hw Y hW hd hdl hdv Z hM hz hb hnx
def Dy (n i:Nat):List Nat:=(List.range i).map (·+1)++List.replicate (n-i) 0
theorem zY (n:Nat):Dy n 0=List.replicate n 0:=by simp [Dy]
theorem zX (n:Nat):Dy n n=xy n:=by simp [Dy,xy]
theorem DK {n i:Nat} (hi:i<n):(Dy n i)[i]? = some 0:=by
 unfold Dy;rw [OD (by simp),Qn,Oc (by simp; omega)]
theorem zt {n i:Nat} (hi:i<n):(Dy n i).set i (i+1)=Dy n (i+1):=by
 unfold Dy;rw [SM _ _ (by simp)]
 have e:n-i=(n-(i+1))+1:=by omega
 rw [e,Qt,Ra];simp
theorem Jc {n i:Nat} (hi:i<n):(Dy n (i+1))[i]? = some (i+1):=by
 rw [<- zt hi,Oz (by simp [Dy]; omega)]
theorem AJ {n:Nat}{rows:List (List LR)} (h:rows.length=n):rJ (xy n) ([]::rows)=rows:=by
 apply PO;intro i;unfold rJ;rw [OE]
 by_cases hi:i<n
 ·rw [B9 hi,Py,E5,N5 (by omega)]; rfl
 ·rw [O4 (by rw [vZ]; omega),O4 (by omega)]; rfl
theorem Ji {rows:List (List LR)}{n:Nat} (hl:rows.length=n) (hn:n<=1000) (Y:∀ y ∈ rows,y.length<=1000):Gd (uQ rows) (λr=>r=(xy n,[]::rows)):=by
 unfold uQ;rw [hl];refine Gd.nd (by omega) ?_
 rw [N7];refine Gd.gM (λi l s=>∃ pre,rows=pre++l/\pre.length=i/\s=(Dy n i,[]::pre)) ?_ ?_ rows 0 _ ⟨[],rfl,rfl,by rw [zY]⟩
 ·rintro i y ys _ nx ⟨pre,J,I,rfl⟩ O
  have hi:i<n:=by rw [<- hl,J,OG,Oj]; omega
  have Z:=Y y (by rw [J]; simp)
  unfold vf;refine Gd.nd (by simp; omega) (Gd.ix (by omega) (by rw [N7]; exact DK hi) (O _ ⟨pre++[y],by rw [J]; simp,by simp [I],?_⟩))
  rw [N7,Oj,I,zt hi];simp
 ·rintro i _ ⟨pre,J,I,rfl⟩
  rw [OX] at J;subst J;refine Gd.ret ?_;rw [<- I,hl,zX]
theorem uu.short {rows:List (List LR)}{n w W:Nat}{m:Mt} (h:uu rows n w W m) (Z:w<=1000):∀ y ∈ rows,y.length<=1000:=by
 intro y O;obtain ⟨i,hi,J⟩:=Pq.1 O;obtain ⟨l,I,Y,_⟩:=h.row i (by rw [<- h.len]; exact hi)
 rw [N5 hi] at I;have:=N8 I;rw [<- J,this]; omega
theorem F_ {rows:List (List LR)}{n W:Nat}{A m0:Mt} (hn:n<=400) (hW:W<=100000) (hp:Pd n A) (h0:Gj n A 0 m0) (hM:uu rows n (2*n) W m0)
  (hB:∀ k m,k<=n->Gj n A k m->∀ i c,i<n->c<2*n->RB (m i c) W):
  Gd (rj rows (n:Int)) (λr=>∃ I m,r.1=(xy n,[]::I)/\r.2.length=n/\Gj n A n m/\uu I n (2*n) W m):=by
 unfold rj;refine Gd.hO (Ji hM.len (by omega) (hM.short (by omega))) (λr hr=>?_)
 subst hr;refine Gd.cE (λs=>∃ (k:Nat) (l:List Int) (I:List (List LR)) (m:Mt),s=(l,(k:Int),xy n,[]::I)/\l.length=k/\k<=n/\Gj n A k m/\uu I n (2*n) W m) (λs=>((n:Int)-s.2.1).toNat) ?_ a_ _
  ⟨0,[],rows,m0,rfl,rfl,by omega,h0,hM⟩ (by simp only [a_]; omega)
 rintro _ nx ⟨k,l,I,m,rfl,hl,hk,Y,Z⟩ O;show Gd (mZ (n:Int) l (k:Int) (xy n) ([]::I) nx) _
 by_cases h:k<n
 ·have hd:=Y.dP hp h
  refine F9 hl h (by omega) (by omega) (by omega) (by omega) hW hd Z (λc hc=>?_) (λi c hi hc=>hB (k+1) _ (by omega) (Y.step h hd) i c hi hc) (λJ hM''=>?_)
  ·rw [Y.left k c h (by omega) hc,pY (by omega)]
  ·exact O _ ⟨k+1,_,J,_,rfl,by simp [hl],by omega,Y.step h hd,hM''⟩ (by simp only; omega)
 ·obtain rfl:k=n:=by omega
  unfold mZ;refine Gd.ite (λh=>absurd h (by simp)) (λ_=>Gd.ret ⟨I,m,rfl,hl,Y,Z⟩)
theorem AM {n:Nat} (hn:n<=1000):Gd (pn (n:Int)) (λr=>∃ z,r=List.replicate n z/\pd z/\RL z 2/\rv z=0):=by
 unfold pn;refine Gd.hO (w7 (n:=0) (by omega)) (λz I=>Gd.nd (by simp; omega) (Gd.ret ⟨z,wY _ _,I.1,I.2.1,by rw [I.2.2]; rfl⟩))
theorem uu.snoc {rows:List (List LR)}{n w W:Nat}{m:Mt} (h:uu rows n w W m) {l:List LR} (I:l.length=w) (J:∀ c,c<w->∃ y,l[c]? = some y/\pd y/\RL y W/\rv y=m n c):uu (rows++[l]) (n+1) w W m:=by
 refine ⟨by simp [h.len],λi hi=>?_⟩
 by_cases e:i<n
 ·obtain ⟨l',a,b,c⟩:=h.row i e
  exact ⟨l',by rw [Ph (by rw [h.len]; exact e)]; exact a,b,c⟩
 ·obtain rfl:i=n:=by omega
  exact ⟨l,by rw [OD (by rw [h.len]; omega),h.len,Po]; rfl,I,J⟩
def BK (n:Nat) (A:Mt):Mt:=λi c=>if c<n then A i c else dl i (c-n)
theorem Ho (n:Nat) (A:Mt):Gj n A 0 (BK n A):=by
 have e:∀ i j,BK n A i (n+j)=dl i j:=λi j=>by unfold BK; rw [Ob (by omega)]; congr 1; omega
 refine ⟨λi c hi O=>?_,λi j _ _ _=>e i j,λi c _ _ h=>by omega⟩
 have J:sm n (λj=>BK n A i (n+j)*A j c)=BK n A i (n+i)*A i c:=AG (p:=i) hi (λj Y I=>by rw [e,pY (λx=>I x.symm)]; grind)
 rw [J,e,q9];unfold BK;rw [if_pos O]; grind
theorem Jp {n k W:Nat}{y:List LR}{z one:LR}{A:Mt} (hk:k<n) (hy:y.length=n) (O:∀ c,c<n->∃ v,y[c]? = some v/\pd v/\RL v W/\rv v=A k c) (Y:pd z/\RL z 2/\rv z=0) (J:pd one/\RL one 2/\rv one=1) (Z:2<=W):
  ((([]++y)++List.replicate n z).set (n+k) one).length=2*n/\∀ c,c<2*n->∃ v,((([]++y)++List.replicate n z).set (n+k) one)[c]? = some v/\pd v/\RL v W/\rv v=BK n A k c:=by
 refine ⟨by simp [hy]; omega,λc hc=>?_⟩
 rw [PR];unfold BK
 by_cases I:c<n
 ·obtain ⟨v,a,b,d,e⟩:=O c I
  refine ⟨v,?_,b,d,by rw [Oc I]; exact e⟩
  rw [Ow (by omega),Ph (by omega)]; exact a
 ·by_cases h2:c=n+k
  ·subst h2
   refine ⟨one,by rw [Oz (by simp [hy]; omega)],J.1,J.2.1.mono Z,?_⟩
   rw [Ob I,J.2.2,P5,q9]
  ·refine ⟨z,?_,Y.1,Y.2.1.mono Z,?_⟩
   ·rw [Ow (by omega),OD (by omega),Qn,Oc (by omega)]
   ·rw [Ob I,Y.2.2,pY (by omega)]
theorem D4 {rows:List (List LR)}{n W:Nat}{A:Mt} (hn:n<=400) (hW:W<=100000) (hW2:2<=W) (hp:Pd n A) (hM:uu rows n n W A)
  (hB:∀ k m,k<=n->Gj n A k m->∀ i c,i<n->c<2*n->RB (m i c) W):
  Gd (qk rows) (λr=>r.2=true/\∃ m,Gj n A n m/\uu r.1 n n W (λi c=>m i (n+c))):=by
 unfold qk;rw [hM.len];refine Gd.nd (by omega) ?_
 rw [N7];refine Gd.mn (λM i s=>i+M=n/\∃ pre:List (List LR),s=(Dy n i,[]::pre)/\uu pre i (2*n) W (BK n A)) ?_ ?_ n 0 _ ⟨by omega,[],by rw [zY],⟨rfl,λi hi=>by omega⟩⟩
 ·rintro M i _ nx ⟨hiM,pre,rfl,I⟩ hnx
  have hi:i<n:=by omega
  obtain ⟨y,y1,y2,y3⟩:=hM.row i hi;unfold ti;rw [hM.len];refine Gd.ix (y:=y) (by omega) (by rw [N7]; exact y1) (Gd.nd (by simp; omega) (Gd.hO (AM (by omega)) ?_))
  rintro _ ⟨z,rfl,hz⟩;refine Gd.nd (by simp; omega) (Gd.ix (by omega) (by rw [N7]; exact DK hi) ?_)
  have hlen:([]::pre:List (List LR)).length=i+1:=by simp [I.len]
  rw [hlen,N7,zt hi];refine Gd.ix (by omega) (by rw [N7]; exact Jc hi) (Gd.hO (w7 (n:=1) (by omega)) (λone ho=>?_))
  have ho2:pd one/\RL one 2/\rv one=1:=⟨ho.1,ho.2.1,by rw [ho.2.2]; rfl⟩
  have Z:=Jp hi y2 y3 hz ho2 hW2;have hat:((([]::pre++[([]++y)++List.replicate n z]:List (List LR))[i+1]?).getD [])=([]++y)++List.replicate n z:=by
   rw [Qg,List.getElem?_cons_succ,OD (by rw [I.len]; omega),I.len,Po]; rfl
  rw [hat];have hwr:i64.wrap ((n:Int)+(i:Int))=((n+i:Nat):Int):=by rw [cK ⟨by omega,by omega⟩]; omega
  rw [hwr];refine Gd.ix (y:=z) (by omega) ?_ (hnx _ ⟨by omega,pre++[(([]++y)++List.replicate n z).set (n+i) one],?_,I.snoc Z.1 Z.2⟩)
  ·rw [N7,PR,OD (by omega),Qn,Oc (by omega)]
  ·rw [N7,Qg,List.set_cons_succ,SM _ _ (by rw [I.len]; omega),I.len,Po]
   rfl
 ·rintro i _ ⟨hi,pre,rfl,I⟩
  obtain rfl:i=n:=by omega
  show Gd ((rj (rJ (Dy i i) ([]::pre)) (i:Int)).bind _) _;rw [zX,AJ I.len];refine Gd.hO (F_ hn hW hp (Ho i A) I hB) ?_;rintro ⟨⟨sg,ls⟩,pv⟩ ⟨J,m,he,hpl,hG,hM'⟩;obtain ⟨rfl,rfl⟩:=Prod.mk.inj he;simp only at hpl ⊢;rw [hpl];refine Gd.ite (λh=>absurd (N9 h) (by omega)) (λ_=>?_)
  rw [vZ];refine Gd.nd (by omega) ?_
  rw [N7];refine Gd.mn (λM k s=>k+M=i/\∃ rs:List (List LR),s=(xy i,[]::rs)/\rs.length=i/\∀ q,q<i->rs[q]? = if q<k then (J[q]?).map (·.drop i) else J[q]?) ?_ ?_ i 0 _
   ⟨by omega,J,rfl,hM'.len,λq _=>by rw [Ob (by omega)]⟩
  ·rintro M k _ nx ⟨hkM,rs,rfl,O,Y⟩ hnx
   have hk:k<i:=by omega
   obtain ⟨l,l1,l2,l3⟩:=hM'.row k hk;have hat:rs[k]? = some l:=by rw [Y k hk,Ob (by omega),l1]
   unfold tj;rw [hM.len];refine pH hk ?_;rw [E5,hat,P0];refine Gd.nd (by omega) (pH hk (Gd.nd ?_ ?_))
   ·rw [N7]
    refine JB (λj hj=>?_);have hjn:j<i:=by
     have:=(N_.1 hj).1
     rwa [vZ] at this
    rw [B9 hjn] at hj;have:=N8 hj;omega
   ·rw [N7,N7,zz hk,K5]
    refine hnx _ ⟨by omega,_,rfl,by rw [Pp]; exact O,λq hq=>?_⟩
    by_cases e:k=q
    ·subst e
     rw [Oz (by omega),Oc (by omega),l1]; rfl
    ·rw [Ow e,Y q hq]
     by_cases e2:q<k
     ·rw [Oc e2,Oc (by omega)]
     ·rw [Ob e2,Ob (by omega)]
  ·rintro k _ ⟨hk,rs,rfl,O,Y⟩
   refine Gd.ret ⟨rfl,m,hG,?_⟩;show uu (rJ (xy i) ([]::rs)) i i W _;rw [AJ O];refine ⟨O,λq hq=>?_⟩;obtain ⟨l,l1,l2,l3⟩:=hM'.row q hq;refine ⟨l.drop i,by rw [Y q hq,Oc (by omega),l1]; rfl,by rw [PI]; omega,λc hc=>?_⟩
   obtain ⟨v,a,b,d,e⟩:=l3 (i+c) (by omega)
   exact ⟨v,by rw [ON]; exact a,b,d,e⟩
def wq (k:Nat):Rat:=(((WB ^ k:Nat):Int):Rat)
theorem vo (a b:Nat):wq a*wq b=wq (a+b):=by unfold wq; rw [SZ,OW,Tc]
theorem vp (a:Nat):1<=wq a:=by
 unfold wq;have h:(1:Nat)<=WB ^ a:=Nat.one_le_pow _ _ (by decide)
 have I:(1:Int)<=((WB ^ a:Nat):Int):=by omega
 have:=Tb.2 I
 rwa [Rat.intCast_one] at this
theorem xe {a b:Nat} (h:a<=b):wq a<=wq b:=by
 unfold wq;have h:WB ^ a<=WB ^ b:=S1 (by decide) h
 exact Tb.2 (by omega)
theorem zT {x y a b:Rat} (O:-a<=x) (Y:x<=a) (Z:-b<=y) (h4:y<=b):-(a*b)<=x*y/\x*y<=a*b:=by
 have e1:=Rat.mul_nonneg (show 0<=a-x by grind) (show 0<=b+y by grind)
 have e2:=Rat.mul_nonneg (show 0<=a+x by grind) (show 0<=b-y by grind)
 have I:=Rat.mul_nonneg (show 0<=a-x by grind) (show 0<=b-y by grind)
 have J:=Rat.mul_nonneg (show 0<=a+x by grind) (show 0<=b+y by grind)
 constructor <;> grind
theorem HR {z:Int}{k:Nat} (I:-wq k<=(z:Rat)) (J:(z:Rat)<=wq k):z.natAbs<WB ^ (k+1):=by
 unfold wq at I J;rw [<- Td] at I;have a1:=Tb.1 I;have O:=Tb.1 J;have Y:WB ^ k<WB ^ (k+1):=Nat.pow_lt_pow_right (by decide) (by omega)
 omega
theorem yu {p q:Rat}{k:Nat} (I:uj p) (J:uj q) (p1:-wq k<=p) (p2:p<=wq k) (Y:-wq k<=q) (q2:q<=wq k) (O:q≠0) (Z:k<=186):RB (p / q) (k+1):=by
 obtain ⟨a,rfl⟩:=I;obtain ⟨b,rfl⟩:=J;exact RB.ratio (HR p1 p2) (HR Y q2) (λe=>O (by rw [e]; rfl)) (by omega)
theorem RB.zero:RB 0 1:=by
 have:=RB.small (m:=0) (by decide)
 simpa using this
theorem RB.one:RB 1 1:=by
 have:=RB.small (m:=1) (by decide)
 simpa using this
theorem RB.dl (i j:Nat):RB (dl i j) 1:=by
 rcases wa i j with h | h <;> rw [h]
 ·exact RB.zero
 ·exact RB.one
theorem RB.sm {f:Nat->Rat}{a:Nat}:∀ {n:Nat},n*(a+1)+1<=700000->(∀ j,j<n->RB (f j) a)->RB (sm n f) (n*(a+1)+1)
 | 0,_,_=>RB.zero.mono (by omega)
 | n+1,hn,h=>by
  have e:(n+1)*(a+1)=n*(a+1)+(a+1):=Nat.succ_mul _ _;have I:=RB.sm (n:=n) (by omega) (λj J=>h j (by omega))
  exact (I.add (h n (by omega)) (by omega)).mono (by omega)
structure Nb (n:Nat) (A:Mt) (L:Nat->Rat) (B:Mt) (R:Nat->Rat):Prop where
 s:Gy n A L B R
 hP:pr n R<=wq 60
 hL:∀ i,i<n->L i<=wq 18
theorem Nb.R {n:Nat}{A B:Mt}{L R:Nat->Rat} (h:Nb n A L B R) {i:Nat} (hi:i<n):R i<=wq 60:=by
 have key:∀ {m:Nat},(∀ j,j<m->1<=R j)->i<m->R i<=pr m R:=by
  intro m
  induction m with
  | zero=>intro _ h; omega
  | succ m ih=>
   intro I hi;have p1:1<=pr m R:=B5 (λj J=>I j (by omega))
   show R i<=pr m R*R m
   by_cases e:i=m
   ·subst e
    have:=Rat.mul_le_mul_of_nonneg_right p1 (show 0<=R i by have:=I i hi; grind)
    grind
   ·have a:=ih (λj J=>I j (by omega)) (by omega)
    have:=Rat.mul_le_mul_of_nonneg_left (I m (by omega)) (show 0<=pr m R by grind)
    grind
 exact Tf (key (λj J=>h.s.R1 J) hi) h.hP
theorem Nb.L0 {n:Nat}{A B:Mt}{L R:Nat->Rat} (h:Nb n A L B R) {i:Nat} (hi:i<n):L i≠0:=λe=>by
 have:=h.s.l1 i hi; rw [e] at this; exact absurd this (by decide)
theorem Nb.ab {n:Nat}{A B:Mt}{L R:Nat->Rat} (h:Nb n A L B R) {i c:Nat} (hi:i<n) (I:c<n):-wq 60<=L i*A i c/\L i*A i c<=wq 60:=by
 have J:=h.s.ab i c hi I;have O:=KF (f:=B i) (h.s.b0 i) I;have Y:=h.s.rs i hi;have Z:=h.R hi;constructor <;> grind
theorem Nb.A {n:Nat}{A B:Mt}{L R:Nat->Rat} (h:Nb n A L B R) {i c:Nat} (hi:i<n) (I:c<n):RB (A i c) 61:=by
 have e:A i c=(L i*A i c) / L i:=by
  rw [Ta];have:=Th (L i) (h.L0 hi)
  grind
 rw [e];have l1:=h.s.l1 i hi;have l2:=h.hL i hi;have l3:=xe (show 18<=60 by omega)
 have w:=vp 60;exact yu (h.s.ai i c hi I) (h.s.li i hi) (h.ab hi I).1 (h.ab hi I).2 (by grind) (by grind) (h.L0 hi) (by omega)
def Dk (A:Mt) (L:Nat->Rat) (k:Nat):Rat:=qM k (λr c=>L r*A r c)
theorem Nb.D0 {n:Nat}{A B:Mt}{L R:Nat->Rat} (h:Nb n A L B R) (Z:Pd n A):∀ {k:Nat},k<=n->Dk A L k≠0/\∃ m,Gj n A k m
 | 0,_=>⟨by show (1:Rat)≠0; decide,_,Ho n A⟩
 | k+1,hk=>by
  obtain ⟨d,m,O⟩:=h.D0 Z (k:=k) (by omega)
  have Y:=O.dP Z (by omega)
  refine ⟨?_,_,O.step (by omega) Y⟩
  have e:=O.qM (k:=k) (by omega) (L:=L) (λi hi=>h.L0 hi)
  show Sim.qM (k+1) (λr c=>L r*A r c)≠0;rw [e];intro h0;rcases Tg.1 h0 with I | I
  ·rcases Tg.1 I with J | J
   ·exact h.L0 (by omega) J
   ·exact Y J
  ·exact d I
theorem Nb.Db {n:Nat}{A B:Mt}{L R:Nat->Rat} (h:Nb n A L B R) {k:Nat} (I:k<=n):uj (Dk A L k)/\-wq 60<=Dk A L k/\Dk A L k<=wq 60:=by
 obtain ⟨a,b,c⟩:=h.s.qM I;have:=h.hP;refine ⟨a,?_,?_⟩ <;> unfold Dk <;> grind
theorem Nb.num {n:Nat}{A B m:Mt}{L R:Nat->Rat} (h:Nb n A L B R) (hp:Pd n A) {k:Nat} (hG:Gj n A k m) (O:k<=n) {i p:Nat} (hi:i<n) (Y:p<k):RB (m i (n+p)) 140:=by
 obtain ⟨N,n1,n2,n3,e⟩:=hG.num h.s O hi Y;obtain ⟨d1,d2,d3⟩:=h.Db O;have d0:=(h.D0 hp O).1;have hP:=h.hP;have p1:1<=pr n R:=B5 (λj hj=>h.s.R1 hj);have r1:=h.s.R1 hi;have r2:=h.R hi;have hNb:pr n R*R i<=wq 120:=by
  rw [<- vo 60 60];exact qw hP r2 (by grind) (by grind)
 have lp:=h.s.l1 p (by omega)
 have Z:=h.hL p (by omega)
 have t:=zT (x:=N) (y:=L p) (a:=wq 120) (b:=wq 18) (by grind) (by grind) (by have:=vp 18; grind) Z
 rw [vo] at t;have s0:(if k<=i then L i else 1)≠0:=by
  split
  ·exact h.L0 hi
  ·decide
 have s1:uj (if k<=i then L i else 1):=by
  split
  ·exact h.s.li i hi
  ·exact ⟨1,rfl⟩
 have s2:1<=(if k<=i then L i else 1)/\(if k<=i then L i else 1)<=wq 18:=by
  split
  ·exact ⟨h.s.l1 i hi,h.hL i hi⟩
  ·exact ⟨Te,vp 18⟩
 generalize (if k<=i then L i else 1)=s at e s0 s1 s2
 have u:=zT (x:=s) (y:=Dk A L k) (a:=wq 18) (b:=wq 60) (by have:=vp 18; grind) s2.2 d2 d3
 rw [vo] at u;have e2:m i (n+p)=(N*L p) / (s*Dk A L k):=by
  have e3:s*m i (n+p)*Dk A L k=N*L p:=e;rw [<- e3,Ta];have h3:s*Dk A L k≠0:=λJ=>by
   rcases Tg.1 J with I | I
   ·exact s0 I
   ·exact d0 I
  have:=Th _ h3
  grind
 rw [e2];have w1:=xe (show 18+60<=139 by omega)
 have w2:=xe (show 120+18<=139 by omega)
 refine yu (sC n1 (h.s.li p (by omega))) (sC s1 d1) (by grind) (by grind) (by grind) (by grind) ?_ (by omega)
 intro J;rcases Tg.1 J with I | I
 ·exact s0 I
 ·exact d0 I
theorem Nb.rb {n:Nat}{A B:Mt}{L R:Nat->Rat} (h:Nb n A L B R) (hp:Pd n A) (hn:n<=24) (k:Nat) (m:Mt) (Y:k<=n) (J:Gj n A k m) (i c:Nat) (hi:i<n) (hc:c<2*n):RB (m i c) 6000:=by
 have right:∀ p,p<n->RB (m i (n+p)) 140:=λp O=>by
  by_cases e:p<k
  ·exact h.num hp J Y hi e
  ·rw [J.right i p hi O (by omega)]
   exact (RB.dl i p).mono (by omega)
 by_cases I:c<n
 ·rw [J.KS Y hi I]
  have Z:RB (sm k (λj=>m i (n+j)*A j c)) (k*202+1):=RB.sm (a:=201) (by omega) (λj hj=>(right j (by omega)).mul (h.A (by omega) I) (by omega))
  have h2:RB (if k<=i then A i c else 0) 61:=by
   split
   ·exact h.A hi I
   ·exact RB.zero.mono (by omega)
  exact (Z.add h2 (by omega)).mono (by omega)
 ·have e:c=n+(c-n):=by omega
  rw [e];exact (right (c-n) (by omega)).mono (by omega)
theorem FV (l:List Int) (p:Int):Gd (l8 l p) (λr=>(r = -1/\p ∉ l)\/∃ (k:Nat) (h:k<l.length),r=k/\l[k]=p):=by
 unfold l8;refine Gd.mn (λm i _=>i+m=l.length/\p ∉ l.take i) ?_ ?_ (l.length:Int).toNat 0 () ⟨by omega,by simp⟩
 ·intro m i _ J ⟨hi,hno⟩ hnx
  unfold oA;refine Gd.mR (by omega) (Gd.ite (λh=>Gd.ret (.inr ⟨i,by omega,rfl,?_⟩)) (λh=>hnx () ⟨by omega,?_⟩))
  ·have:p=l[i]:=by simpa using h
   exact this.symm
  ·rw [OL (by omega),Om,OU]
   rintro (I | I)
   ·exact hno I
   ·simp [I] at h
 ·intro i _ ⟨hi,hno⟩
  rw [Oo (by omega)] at hno
  exact Gd.ret (.inl ⟨rfl,hno⟩)
structure Gx (M:aP) (n N:Nat) (F:Nat->Nat) (l:List (Rat×Nat×Nat)) (t:Rat):Prop where
 hn:n<=23
 free:M.qK=(List.range n).map (λi=>(F i:Int))
 inj:∀ i j,i<n->j<n->F i=F j->i=j
 lt:∀ i,i<n->F i<N
 hN:N<=24
 ll:l.length<=24
 el:∀ e ∈ l,e.2.1<N/\e.2.2<N
 fr:M.pK=l.map (λe=>(e.2.1:Int))
 to:M.To=l.map (λe=>(e.2.2:Int))
 bl:M.B_.length=l.length
 b:∀ (k:Nat) (y:LR),M.B_[k]? = some y->∃ e,l[k]? = some e/\pd y/\RL y 2/\rv y=t / e.1
def JL:Option Nat->Int
 | none=>-1
 | some i=>(i:Int)
def eo (o:Option Nat) (r:Nat):Rat:=if o=some r then 1 else 0
theorem uh (i r:Nat):eo (some i) r=dl i r:=by
 unfold eo dl
 by_cases e:i=r
 ·subst e; rw [Oc rfl,Oc rfl]
 ·rw [Ob (λh=>e (N8 h)),Ob e]
theorem ug (r:Nat):eo none r=0:=Ob (by simp)
theorem Df {M:aP}{n N:Nat}{F:Nat->Nat}{l:List (Rat×Nat×Nat)}{t:Rat} (h:Gx M n N F l t) (u:Nat):
  Gd (mF M (u:Int)) (λr=>∃ o:Option Nat,r=JL o/\(∀ i,o=some i->i<n/\F i=u)/\∀ r,r<n->eo o r=dl (F r) u):=by
 unfold mF;refine Gd.hO (FV _ _) (λr I=>Gd.ret ?_);rw [h.free] at I;rcases I with ⟨rfl,Y⟩ | ⟨k,Z,rfl,e⟩
 ·refine ⟨none,rfl,λi hi=>by simp at hi,λr I=>?_⟩
  rw [ug,pY];intro e;exact Y (Pg.2 ⟨r,OS.2 I,by rw [e]⟩)
 ·have J:k<n:=by simpa using Z
  have e2:F k=u:=by simp at e; omega
  refine ⟨some k,rfl,λi hi=>by obtain rfl:=N8 hi; exact ⟨J,e2⟩,λr I=>?_⟩
  rw [uh]
  by_cases O:k=r
  ·subst O; rw [q9,e2,q9]
  ·rw [pY O,pY]
   intro e4;exact O (h.inj k r J I (by omega))
theorem uu.Ch {rows:List (List LR)}{n w W:Nat}{m:Mt} (h:uu rows n w W m) {p q:Nat} (O:p<n) (Y:q<w) {e:LR}{d:Rat} (J:pd e) (I:RL e W) (Z:rv e=m p q+d):
  uu (rows.set p (((rows[p]?).getD []).set q e)) n w W (λr c=>m r c+d*(dl p r*dl q c)):=by
 refine (h.set O Y J I).congr (λr c _ _=>?_)
 by_cases e1:r=p/\c=q
 ·obtain ⟨rfl,rfl⟩:=e1
  rw [if_pos ⟨rfl,rfl⟩,q9,q9,Z]; grind
 ·rw [Ob e1]
  by_cases e2:p=r
  ·rw [pY (i:=q) (λe=>e1 ⟨e2.symm,e.symm⟩)]; grind
  ·rw [pY e2]; grind
abbrev Gv:=List (List LR)->Option aP
theorem Kv {n W:Nat}{nx:Gv}{b:LR}{oi oj:Option Nat}{rows:List (List LR)}{m:Mt}{Q:aP->Prop} (Y:uu rows n n W m) (hW:W<=1000) (hb:pd b) (Z:RL b 2)
  (hi:∀ i,oi=some i->i<n) (J:∀ j,oj=some j->j<n) (hne:∀ i,oi=some i->oj≠some i)
  (O:∀ I,uu I n n (W+3) (λr c=>m r c-rv b*(eo oi r*eo oj c)-rv b*(eo oj r*eo oi c))->Gd (nx ([]::I)) Q):
  Gd (kL (xy n) nx b (JL oi) (JL oj) ([]::rows)) Q:=by
 unfold kL jI;cases oi with
 | none=>
  refine Gd.ite (λh=>absurd h (by simp [JL])) (λ_=>O rows ((Y.mono (by omega)).congr (λr c _ _=>?_)))
  rw [ug,ug]; grind
 | some i=>
  cases oj with
  | none=>
   refine Gd.ite (λh=>absurd h (by simp [JL])) (λ_=>O rows ((Y.mono (by omega)).congr (λr c _ _=>?_)))
   rw [ug,ug]; grind
  | some j=>
   have hi:=hi i rfl;have J:=J j rfl;have hij:i≠j:=λe=>hne i rfl (by rw [e])
   show Gd (if ((decide (0<=(i:Int)) && decide (0<=(j:Int)))=true) then _ else _) Q
   refine Gd.ite (λ_=>?_) (λh=>absurd h (by simp))
   show Gd (idx (xy n) (i:Int) _) Q;refine pH hi (pH J (pH hi (sU Y hi J (λy1 a1 a2 a3=>Gd.hO (xd a1 hb a2 Z (by omega)) (λr1 b1=>?_)))))
   show Gd (idx (xy n) (j:Int) _) Q;refine pH J (sU Y J hi (λy2 c1 c2 c3=>Gd.hO (xd c1 hb c2 Z (by omega)) (λr2 d1=>?_)))
   show Gd (idx ((([]::rows:List (List LR))[i+1]?).getD []) (j:Int) _) Q;refine sU Y hi J (λ_ _ _ _=>?_);have h2:=(Y.mono (show W<=W+3 by omega)).Ch hi J (d:=-rv b) b1.1 (b1.2.1.mono (by omega)) (by rw [b1.2.2,a3]; grind)
   show Gd (idx ((([]::(rows.set i (((rows[i]?).getD []).set j r1)):List (List LR))[j+1]?).getD []) (i:Int) _) Q;refine sU h2 J hi (λ_ _ _ _=>?_);have h3:=h2.Ch J hi (d:=-rv b) d1.1 (d1.2.1.mono (by omega)) (by
    rw [d1.2.2,c3,pY hij]; grind)
   refine O _ (h3.congr (λr c _ _=>?_));rw [uh,uh,uh,uh]; grind
theorem Kw {n W:Nat}{nx:Gv}{b:LR}{oi oj:Option Nat}{rows:List (List LR)}{m:Mt}{Q:aP->Prop} (hM:uu rows n n W m) (hW:W<=900) (hb:pd b) (O:RL b 2)
  (hi:∀ i,oi=some i->i<n) (hj:∀ j,oj=some j->j<n) (Y:∀ i,oi=some i->oj≠some i)
  (Z:∀ I,uu I n n (W+6) (λr c=>m r c+rv b*(eo oj r*eo oj c)-rv b*(eo oi r*eo oj c)-rv b*(eo oj r*eo oi c))->Gd (nx ([]::I)) Q):
  Gd (kM (xy n) nx b (JL oi) (JL oj) ([]::rows)) Q:=by
 unfold kM;cases oj with
 | none=>
  refine Gd.ite (λh=>absurd h (by simp [JL])) (λ_=>Kv (oj:=none) (hM.mono (show W<=W+3 by omega)) (by omega) hb O hi hj Y (λI h'=>Z I (h'.congr (λr c _ _=>?_))))
  rw [ug,ug]; grind
 | some j=>
  have J:=hj j rfl;show Gd (if (decide (0<=(j:Int))=true) then _ else _) Q
  refine Gd.ite (λ_=>?_) (λh=>absurd h (by simp))
  show Gd (idx (xy n) (j:Int) _) Q;refine pH J (pH J (sU hM J J (λy1 a1 a2 a3=>Gd.hO (vX a1 hb a2 O (by omega)) (λr1 b1=>sU hM J J (λ_ _ _ _=>?_)))))
  have h2:=(hM.mono (show W<=W+3 by omega)).Ch J J (d:=rv b) b1.1 (b1.2.1.mono (by omega)) (by rw [b1.2.2,a3])
  refine Kv (oj:=some j) h2 (by omega) hb O hi hj Y (λI h'=>Z I (h'.congr (λr c _ _=>?_)))
  rw [uh,uh]
theorem D7 (l:List (Rat×(Nat->Rat))) (e:Rat×(Nat->Rat)) (r c:Nat):jZ (l++[e]) r c=jZ l r c+e.1*e.2 r*e.2 c:=by
 induction l with
 | nil=>show e.1*e.2 r*e.2 c+0=0+_; grind
 | cons a l ih=>show a.1*a.2 r*a.2 c+jZ (l++[e]) r c=a.1*a.2 r*a.2 c+jZ l r c+_; rw [ih]; grind
theorem Bw {α:Type}{l:List α}{k:Nat}{e:α} (f:α->Int) (h:l[k]? = some e):(l.map f)[k]? = some (f e):=by rw [OE,h]; rfl
theorem LL {M:aP}{n N:Nat}{F:Nat->Nat}{l:List (Rat×Nat×Nat)}{t:Rat} (h:Gx M n N F l t) {k W:Nat}{e:Rat×Nat×Nat} (he:l[k]? = some e) {b:LR} (hb:pd b) (J:RL b 2) (hbv:rv b=t / e.1)
  {nx:Gv}{rows:List (List LR)}{pre:List (Rat×Nat×Nat)}{Q:aP->Prop} (hW:W<=800) (hM:uu rows n n W (jZ ((pre.map (xq t)).map (nI F))))
  (hnx:∀ I,uu I n n (W+9) (jZ (((pre++[e]).map (xq t)).map (nI F)))->Gd (nx ([]::I)) Q):
  Gd (lP M (xy n) k b ([]::rows) nx) Q:=by
 obtain ⟨q,u,v⟩:=e;unfold lP;rw [h.fr,h.to];have f1:=Bw (λe:Rat×Nat×Nat=>(e.2.1:Int)) he;have f2:=Bw (λe:Rat×Nat×Nat=>(e.2.2:Int)) he;have new:∀ r c,jZ (((pre++[(q,u,v)]).map (xq t)).map (nI F)) r c=jZ ((pre.map (xq t)).map (nI F)) r c+rv b*(dl (F r) u-dl (F r) v)*(dl (F c) u-dl (F c) v):=λr c=>by
  rw [Pu,Pu];show jZ (_++[_]) r c=_;rw [D7,hbv]; rfl
 refine Gd.ix (by omega) (by rw [N7]; exact f1) ?_
 refine Gd.hO (Df h u) ?_;rintro _ ⟨oi,rfl,i1,i2⟩;refine Gd.ix (by omega) (by rw [N7]; exact f2) ?_
 refine Gd.hO (Df h v) ?_;rintro _ ⟨oj,rfl,j1,j2⟩;refine Gd.ix (by omega) (by rw [N7]; exact f1) (Gd.ix (by omega) (by rw [N7]; exact f2) ?_)
 refine Gd.ite (λO=>?_) (λO=>?_)
 ·have e1:u=v:=by have:=N9 O; simp only at this; omega
  subst e1;unfold jI;refine hnx rows ((hM.mono (by omega)).congr (λr c _ _=>?_))
  rw [new]; grind
 ·have e1:u≠v:=λe=>by subst e; simp at O
  have hne:∀ i,oi=some i->oj≠some i:=λi hi hj=>by
   have:=(i1 i hi).2;have:=(j1 i hj).2;omega
  have Y:∀ I,uu I n n (W+9) (λr c=>jZ ((pre.map (xq t)).map (nI F)) r c+rv b*(eo oi r*eo oi c)+rv b*(eo oj r*eo oj c)-rv b*(eo oi r*eo oj c)-rv b*(eo oj r*eo oi c))->Gd (nx ([]::I)) Q:=λI Z=>
   hnx I (Z.congr (λr c hr hc=>by rw [new,i2 r hr,i2 c hc,j2 r hr,j2 c hc]; grind))
  cases oi with
  | none=>
   refine Gd.ite (λh=>absurd h (by simp [JL])) (λ_=>Kw (oi:=none) (hM.mono (show W<=W+3 by omega)) (by omega) hb J (λi hi=>(i1 i hi).1) (λj hj=>(j1 j hj).1) hne (λI Z=>Y I ((Z.mono (by omega)).congr (λr c _ _=>?_))))
   rw [ug,ug]; grind
  | some i=>
   have hi:=(i1 i rfl).1;show Gd (if (decide (0<=(i:Int))=true) then _ else _) Q
   refine Gd.ite (λ_=>?_) (λh=>absurd h (by simp))
   show Gd (idx (xy n) (i:Int) _) Q;refine pH hi (pH hi (sU hM hi hi (λy1 a1 a2 a3=>Gd.hO (vX a1 hb a2 J (by omega)) (λr1 b1=>sU hM hi hi (λ_ _ _ _=>?_)))))
   have h2:=(hM.mono (show W<=W+3 by omega)).Ch hi hi (d:=rv b) b1.1 (b1.2.1.mono (by omega)) (by rw [b1.2.2,a3])
   refine Kw (oi:=some i) h2 (by omega) hb J (λi hi=>(i1 i hi).1) (λj hj=>(j1 j hj).1) hne (λI Z=>Y I ((Z.mono (by omega)).congr (λr c _ _=>?_)))
   rw [uh,uh]
structure Kl (rows:List (List LR)) (n:Nat) (A:Mt):Prop where
 ex:∃ m,Gj n A n m/\uu rows n n 6000 (λi c=>m i (n+c))
theorem FX {M:aP}{n N:Nat}{F:Nat->Nat}{l:List (Rat×Nat×Nat)}{t:Rat} (h:Gx M n N F l t) {B:Mt}{L R:Nat->Rat} (hp:Pd n (jZ ((l.map (xq t)).map (nI F)))) (hB:Nb n (jZ ((l.map (xq t)).map (nI F))) L B R):
  Gd (nD M) (λM'=>∃ rows,M'={ M with ra:=rows }/\Kl rows n (jZ ((l.map (xq t)).map (nI F)))):=by
 have hn:=h.hn;have hfl:M.qK.length=n:=by rw [h.free]; simp
 unfold nD;rw [hfl,N7,Pl];refine Gd.nd (by omega) (Gd.nd (by omega) ?_)
 rw [N7];refine Gd.mn (λm i s=>i+m=n/\∃ pre:List (List LR),s=(Dy n i,[]::pre)/\uu pre i n 2 (λ_ _=>0)) ?_ ?_ n 0 _ ⟨by omega,[],by rw [zY],⟨rfl,λi hi=>by omega⟩⟩
 ·rintro m i _ nx ⟨him,pre,rfl,I⟩ Z
  have hi:i<n:=by omega
  unfold pR;rw [hfl];refine Gd.hO (AM (by omega)) ?_
  rintro _ ⟨z,rfl,hz⟩;refine Gd.ix (by omega) (by rw [N7]; exact DK hi) (Z _ ⟨by omega,pre++[List.replicate n z],?_,I.snoc (by simp) (λc hc=>⟨z,by rw [Qn,Oc hc],hz.1,hz.2.1,hz.2.2⟩)⟩)
  rw [N7,Oj,I.len,zt hi]; rfl
 ·rintro i _ ⟨hi,pre,rfl,I⟩
  obtain rfl:i=n:=by omega
  show Gd (gM (λk y s1523 n=>lP M (Dy i i) k y s1523 n) _ 0 M.B_ ([]::pre)) _;rw [zX];refine Gd.gM (λk ys s=>∃ (bs:List LR) (rows:List (List LR)),M.B_=bs++ys/\bs.length=k/\s=[]::rows/\uu rows i i (2+9*k) (jZ (((l.take k).map (xq t)).map (nI F)))) ?_ ?_ M.B_ 0 _ ⟨[],pre,rfl,rfl,rfl,by rw [RP]; exact I⟩
  ·rintro k y ys _ nx ⟨bs,rows,J,O,rfl,hM⟩ Z
   have hy:M.B_[k]? = some y:=by rw [J,OD (by omega),O,Po]; rfl
   obtain ⟨e,he,y1,y2,y3⟩:=h.b k y hy;have Y:=(N_.1 he).1;have hll:=h.ll;have e2:l.take (k+1)=l.take k++[e]:=by
    rw [OL Y,(N_.1 he).2]
   refine LL h he y1 y2 y3 (by omega) hM (λrows' h'=>Z _ ⟨bs++[y],rows',by rw [J]; simp,by simp [O],rfl,?_⟩)
   rw [e2];exact h'.mono (by omega)
  ·rintro k _ ⟨bs,rows,J,O,rfl,hM⟩
   have hll:=h.ll;have hbl:=h.bl;rw [OX] at J;have Y:k=l.length:=by rw [<- hbl,J,O]
   rw [Y,PS] at hM;show Gd ((qk (rJ (xy i) ([]::rows))).bind _) _;rw [AJ hM.len];refine Gd.hO (D4 (by omega) (by omega) (by omega) hp (hM.mono (by omega)) (hB.rb hp (by omega))) (λr hr=>Gd.ret ⟨r.1,rfl,⟨hr.2⟩⟩)
abbrev Net:=aG
theorem Gd.forAll {R α Y:Type}{Q:R->Prop}{I:Nat->α->Y->(Y->Option R)->Option R}{k:Y->Option R}{l:List α} (P:α->Prop) (J:Y->Prop)
  (hb:∀ i y s n,y ∈ l->J s->(P y->∀ Z,J Z->Gd (n Z) Q)->Gd (I i y s n) Q) (hk:(∀ x ∈ l,P x)->∀ s,J s->Gd (k s) Q) (s:Y) (hs:J s):Gd (Sim.gM I k 0 l s) Q:=by
 have key:∀ (ys pre:List α) (i:Nat) (s:Y),l=pre++ys->(∀ x ∈ pre,P x)->J s->Gd (Sim.gM I k i ys s) Q:=by
  intro ys
  induction ys with
  | nil=>intro pre i s hl hp hs; exact hk (by rw [hl,OX]; exact hp) s hs
  | cons y ys ih=>
   intro pre i s hl hp hs;refine hb i y s _ (by rw [hl]; exact OR _ (Oa ..)) hs (λhP Z hs'=>?_)
   exact ih (pre++[y]) (i+1) Z (by rw [hl]; simp) (λx O=>by
    rcases Om.1 O with O | O
    ·exact hp x O
    ·simp at O; subst O; exact hP) hs'
 exact key l [] 0 s rfl (by simp) hs
theorem Dc (s:N2) (h:s.size<=maxLen):Gd (bV s) (λ_=>True):=by
 unfold bV;refine Gd.nd h (Gd.gM (λ_ _ _=>True) (λi y ys s n _ hn=>?_) (λi s _=>Gd.ret N4) _ _ _ N4);unfold pU;exact Gd.ite (λ_=>Gd.ret N4) (λ_=>hn _ N4)
theorem A_ (l:List N2) (p:N2):Gd (aX l p) (λr=>(r = -1/\p ∉ l)\/∃ (k:Nat) (h:k<l.length),r=k/\l[k]=p):=by
 unfold aX;refine Gd.mn (λm i _=>i+m=l.length/\p ∉ l.take i) ?_ ?_ (l.length:Int).toNat 0 () ⟨by omega,by simp⟩
 ·intro m i _ J ⟨hi,hno⟩ hnx
  unfold mq;refine Gd.mR (by omega) (Gd.ite (λh=>Gd.ret (.inr ⟨i,by omega,rfl,?_⟩)) (λh=>hnx () ⟨by omega,?_⟩))
  ·have:p=l[i]:=by simpa using h
   exact this.symm
  ·rw [OL (by omega),Om,OU]
   rintro (I | I)
   ·exact hno I
   ·simp [I] at h
 ·intro i _ ⟨hi,hno⟩
  rw [Oo (by omega)] at hno
  exact Gd.ret (.inl ⟨rfl,hno⟩)
theorem xM {l:List N2}{p:N2} (h:p ∈ l):∃ k:Nat,aX l p=some (k:Int)/\∃ J:k<l.length,l[k]=p:=by
 obtain ⟨r,Y,O⟩:=A_ l p;rcases O with ⟨_,I⟩ | ⟨k,J,rfl,e⟩
 ·exact absurd h I
 ·exact ⟨k,Y,J,e⟩
theorem uq (l:List N2) (p:N2):Gd (aW l p) (λb=>b=true↔p ∈ l):=by
 unfold aW;refine Gd.hO (A_ l p) (λr J=>Gd.ret ?_);rcases J with ⟨rfl,I⟩ | ⟨k,O,rfl,e⟩
 ·simp [I]
 ·have:p ∈ l:=e▸OY _
  simp [this]
theorem uw (c:aK) (name:N2) (nodes:List N2) (h:name.size<=maxLen):
  Gd (cW c name nodes) (λr=>r.1=0->∀ x ∈ nodes,x ∈ c.nodes):=by
 unfold cW;refine Gd.hO (Dc name h) (λa _=>Gd.ite (λ_=>Gd.ret (λh=>by simp at h)) (λ_=>Gd.ite (λ_=>Gd.ret (λh=>by simp at h)) (λ_=>?_)))
 refine Gd.forAll (λx=>x ∈ c.nodes) (λ_=>True) ?_ ?_ () N4
 ·intro i y s n Y _ hn
  unfold kf;refine Gd.hO (uq c.nodes y) (λb J=>Gd.ite (λ_=>Gd.ret (λh=>by simp at h)) (λh=>hn (J.1 (by simpa using h)) _ N4))
 ·intro I s _
  refine Gd.ite (λh=>?_) (λ_=>Gd.ret (λ_=>I));have O:nodes.length=2:=by
   have:((nodes.length:Nat):Int)=2:=by simpa using h
   omega
  have e1:(0:Int)=((0:Nat):Int):=rfl;have e2:(1:Int)=((1:Nat):Int):=rfl;rw [e1,e2];exact Gd.mR (by omega) (Gd.mR (by omega) (Gd.ite (λ_=>Gd.ret (λh=>by simp at h)) (λ_=>Gd.ret (λ_=>I))))
structure ua (n:Net):Prop where
 nd:∀ x ∈ n.cA,x.size<=maxLen
 sw:∀ x ∈ n.dE,x.Name.size<=maxLen
 br:∀ x ∈ n.aU,x.Name.size<=maxLen
 gn:∀ x ∈ n.kF,x.Name.size<=maxLen
 ld:∀ x ∈ n.eS,x.Name.size<=maxLen
 st:∀ x ∈ n.eK,x.Name.size<=maxLen
structure pG (n:Net):Prop where
 l1:n.cA.length<=24
 l2:n.dE.length<=32
 l3:n.aU.length<=24
 l4:n.kF.length<=10
 l5:n.eS.length<=12
 sw:∀ x ∈ n.dE,x.A ∈ n.cA/\x.B_ ∈ n.cA
 br:∀ x ∈ n.aU,x.pK ∈ n.cA/\x.To ∈ n.cA
 gn:∀ x ∈ n.kF,x.Node ∈ n.cA/\0<=x.lO/\x.lO<=x.q8/\x.q8<=100000
 ld:∀ x ∈ n.eS,x.Node ∈ n.cA/\0<=x.fX/\x.fX<=100000
theorem Jm (c:aK) (n:Net) (Z:ua n):
  Gd (jL c n) (λr=>r.1=0->(∀ x ∈ n.kF,x.Node ∈ c.nodes/\0<=x.lO/\x.lO<=x.q8/\x.q8<=100000)/\(∀ x ∈ n.eS,x.Node ∈ c.nodes/\0<=x.fX/\x.fX<=100000)):=by
 unfold jL;refine Gd.forAll (λx=>x.Node ∈ c.nodes/\0<=x.lO/\x.lO<=x.q8/\x.q8<=100000) (λ_=>True) ?_ ?_ _ N4
 ·intro i y s nx J _ hn
  unfold kU;refine Gd.hO (uw _ _ _ (Z.gn y J)) (λr O=>Gd.ite (λh=>Gd.ret (λI=>absurd I (by simpa using h))) (λh=>Gd.ite (λ_=>Gd.ret (λI=>by simp at I)) (λI=>hn ?_ _ N4)))
  have Y:r.1=0:=by simpa using h
  have:=O Y y.Node (by simp)
  simp [aR,bI] at I;exact ⟨this,by omega,by omega,by omega⟩
 ·intro hg s _
  refine Gd.forAll (λx=>x.Node ∈ c.nodes/\0<=x.fX/\x.fX<=100000) (λ_=>True) ?_ ?_ _ N4
  ·intro i y s nx J _ hn
   unfold kV;refine Gd.hO (uw _ _ _ (Z.ld y J)) (λr O=>Gd.ite (λh=>Gd.ret (λI=>absurd I (by simpa using h))) (λh=>Gd.ite (λ_=>Gd.ret (λI=>by simp at I)) (λI=>hn ?_ _ N4)))
   have Y:r.1=0:=by simpa using h
   have:=O Y y.Node (by simp)
   simp [aR,bI] at I;exact ⟨this,by omega,by omega⟩
  ·intro hl s _
   refine Gd.forAll (λ_=>True) (λ_=>True) ?_ ?_ _ N4
   ·intro i y s nx J _ hn
    unfold kW;refine Gd.hO (uw _ _ _ (Z.st y J)) (λr O=>Gd.ite (λh=>Gd.ret (λI=>absurd I (by simpa using h))) (λh=>Gd.ite (λ_=>Gd.ret (λI=>by simp at I)) (λ_=>hn N4 _ N4)))
   ·intro _ s _
    exact Gd.ret λ_=>⟨hg,hl⟩
theorem G2 (n:Net) (Z:ua n):Gd (dV n) (λe=>e=0->pG n):=by
 unfold dV;refine Gd.ite (λ_=>Gd.ret (λh=>by simp at h)) (λhl=>?_)
 simp only [Sq,Tn,Int.not_lt] at hl;refine Gd.forAll (λ_=>True) (λ_=>True) ?_ ?_ _ N4
 ·intro i y s nx Y _ hn
  unfold nE;exact Gd.hO (uw _ _ _ (Z.nd y Y)) (λr I=>Gd.ite (λh=>Gd.ret (λJ=>absurd J (by simpa using h))) (λh=>hn N4 _ N4))
 intro _ s _;refine Gd.forAll (λx=>x.A ∈ n.cA/\x.B_ ∈ n.cA) (λ_=>True) ?_ ?_ _ N4
 ·intro i y s nx Y _ hn
  unfold nF;refine Gd.hO (uw _ _ _ (Z.sw y Y)) (λr I=>Gd.ite (λh=>Gd.ret (λJ=>absurd J (by simpa using h))) (λh=>hn ?_ _ N4))
  have O:r.1=0:=by simpa using h
  exact ⟨I O y.A (by simp),I O y.B_ (by simp)⟩
 intro hsw s _;refine Gd.forAll (λx=>x.pK ∈ n.cA/\x.To ∈ n.cA) (λ_=>True) ?_ ?_ _ N4
 ·intro i y s nx Y _ hn
  unfold nG;refine Gd.hO (uw _ _ _ (Z.br y Y)) (λr I=>Gd.ite (λh=>Gd.ret (λJ=>absurd J (by simpa using h))) (λh=>Gd.ite (λh=>Gd.ret (λJ=>absurd J (by simpa using h))) (λ_=>hn ?_ _ N4)))
  have O:r.1=0:=by simpa using h
  exact ⟨I O y.pK (by simp),I O y.To (by simp)⟩
 intro hbr s _;refine Gd.hO (Jm _ n Z) (λr I=>Gd.ret (λh=>?_));obtain ⟨hg,hl2⟩:=I h;exact ⟨by omega,by omega,by omega,by omega,by omega,hsw,hbr,hg,hl2⟩
def Cj (N:Nat) (l:List cG):Prop:=∀ e ∈ l,0<=e.a0/\e.a0<N/\0<=e.a1/\e.a1<N
structure xR (N:Nat) (many:Int) (out:List Int):Prop where
 len:out.length=N
 IY:∀ v ∈ out,-1<=v/\v<many
def zr (N:Nat) (l:List Int):Prop:=∀ a ∈ l,0<=a/\a<(N:Int)
def so (out:List Int):Nat:=out.countP (λv=>decide (v<0))
theorem xR.set {N:Nat}{many:Int}{out:List Int} (h:xR N many out) {v:Int} (J:0<=v/\v<many) (i:Nat):xR N many (out.set i v):=
 ⟨by simp [h.len],λx I=>by
  rcases SK I with I | rfl
  ·exact h.IY x I
  ·omega⟩
theorem C_ {out:List Int}{i:Nat} (hi:i<out.length) (hn:out[i]<0) {v:Int} (Y:0<=v):so (out.set i v)+1=so out:=by
 unfold so;rw [List.countP_set hi];have I:decide (out[i]<0)=true:=decide_eq_true hn;have O:decide (v<0)=false:=Tm (by omega)
 rw [I,O];have J:0<out.countP (λv=>decide (v<0)):=List.countP_pos_iff.2 ⟨_,OY hi,I⟩;simp;omega
def xt (a b:List Int):Prop:=∀ (i:Nat) (v:Int),a[i]? = some v->0<=v->∃ w,b[i]? = some w/\0<=w
theorem xt.refl (a:List Int):xt a a:=λi v h I=>⟨v,h,I⟩
theorem xt.set {a b:List Int} (h:xt a b) (i:Nat) {v:Int} (Y:0<=v):xt a (b.set i v):=by
 intro j w O Z;obtain ⟨u,J,I⟩:=h j w O Z
 by_cases e:i=j
 ·subst e
  exact ⟨v,by simp [(N_.1 J).1],Y⟩
 ·exact ⟨u,by rw [Ow e]; exact J,I⟩
theorem Ia (N:Nat) (hN:N<=24) (l:List cG) (hl:Cj N l) (hll:l.length<=64) (wo:Int):Gd (pj N l wo) (λr=>r.length=N/\∀ v ∈ r,0<=v/\v<N):=by
 unfold pj;refine Gd.nd ⟨rfl,by omega,by omega⟩ (Gd.nd (by omega) ?_)
 rw [wY];refine Gd.mn (λm i s=>i+m=N/\0<=s.2/\s.2<=(i:Int)/\xR N s.2 s.1/\∀ (j:Nat) (v:Int),j<i->s.1[j]? = some v->0<=v) ?_ ?_ (N:Int).toNat 0 (List.replicate N (-1),0) ⟨by omega,by simp,by simp,⟨by simp,by simp⟩,by simp⟩
 ·rintro m i ⟨out,many⟩ nx ⟨hi,h0,hmi,hp,hk⟩ hn
  simp only at h0 hmi hp hk;have hilt:i<out.length:=by rw [hp.len]; omega
  unfold qA;refine Gd.mR hilt (Gd.ite (λh=>?_) (λh=>?_))
  ·have hge:0<=out[i]:=by simpa using h
   unfold lx;refine hn _ ⟨by omega,h0,by show many<=((i+1:Nat):Int); omega,hp,λj v hj hv=>?_⟩
   by_cases e:j=i
   ·subst e
    rw [N5 hilt] at hv;cases hv; exact hge
   ·exact hk j v (by omega) hv
  ·have hneg:out[i]<0:=by simpa using h
   refine Gd.mR hilt ?_;rw [N7];have hw:i64.wrap (many+1)=many+1:=cK ⟨by omega,by omega⟩
   have hp1:xR N (many+1) out:=⟨hp.len,λv hv=>by have:=hp.IY v hv; omega⟩
   have Z:2*so (out.set i many)+[(i:Int)].length<=2*N+1:=by
    have hc:so (out.set i many)<=N:=by unfold so; rw [<- hp.len,<- Pp (as:=out) (i:=i) (a:=many)]; exact QB
    simp only [OQ]; omega
   refine Gd.cE (λ(s:List Int×List Int)=>xR N (many+1) s.1/\xt (out.set i many) s.1/\zr N s.2/\2*so s.1+s.2.length<=2*N+1) (λs=>2*so s.1+s.2.length) ?_ a_ _ ⟨hp1.set ⟨h0,by omega⟩ i,xt.refl _,by intro a ha; simp at ha; omega,Z⟩ ?_
   ·rintro ⟨o,todo⟩ nx2 ⟨hq,hkp,htd,htot⟩ hn2
    simp only at hq hkp htd htot;unfold qB;refine Gd.ite (λhne=>?_) (λ_=>?_)
    ·have hne:0<todo.length:=by
      have:(0:Int)<((todo.length:Nat):Int):=by simpa using hne
      omega
     obtain ⟨at_,ts,rfl⟩:∃ a ts,todo=a::ts:=by
      cases todo with
      | nil=>simp at hne
      | cons a ts=>exact ⟨a,ts,rfl⟩
     refine Gd.ix (y:=at_) (by decide) rfl (Gd.nd ⟨by omega,by simp only [Oj]; omega⟩ ?_)
     have hat:=htd at_ (Oa ..);have hsl:uW (at_::ts) (1:Int).toNat (at_::ts).length=ts:=by
      unfold uW;rw [show (1:Int).toNat=1 from rfl,Rz,PB,Oo (by simp)]
     rw [hsl];simp only [Oj] at htot;have push:∀ (b:List Int) (td:List Int) (q:Int) (nn:(List Int×List Int)->Option (List Int)),0<=q->q<N->xR N (many+1) b->xt (out.set i many) b->zr N td->2*so b+td.length<=2*so o+ts.length ->
       (∀ s',(xR N (many+1) s'.1/\xt (out.set i many) s'.1/\zr N s'.2/\2*so s'.1+s'.2.length<=2*so o+ts.length)->Gd (nn s') (λr=>r.length=N/\∀ v ∈ r,0<=v/\v<N)) ->
       Gd (Sim.idx b q λy7689=>if decide (y7689<0) then (Sim.idx b q λy7694=>fU ((td.length+([q]).length)*8<=140737488355328) (f_ nn (b.set (q:Int).toNat many) (td++([q])))) else (f_ nn b td)) (λr=>r.length=N/\∀ v ∈ r,0<=v/\v<N):=by
      intro b td q nn q0 qN hb J I O Y;have hql:q.toNat<b.length:=by rw [hb.len]; omega
      have hget:b[q.toNat]? = some b[q.toNat]:=N5 hql;unfold f_;refine Gd.ix q0 hget (Gd.ite (λh=>Gd.ix q0 hget (Gd.nd ?_ (Y _ ⟨hb.set ⟨h0,by omega⟩ _,J.set _ h0,?_,?_⟩))) (λh=>Y _ ⟨hb,J,I,O⟩))
      ·have h1:b[q.toNat]<0:=by simpa using h
       have hc:so o<=N:=by unfold so; rw [<- hq.len]; exact QB
       simp;omega
      ·intro a ha
       rcases Om.1 ha with ha | ha
       ·exact I a ha
       ·simp at ha; omega
      ·have h1:b[q.toNat]<0:=by simpa using h
       have:=C_ hql h1 h0;simp;omega
     have hc:so o<=N:=by unfold so; rw [<- hq.len]; exact QB
     ·refine Gd.forAll (λ_=>True) (λ(s:List Int×List Int)=>xR N (many+1) s.1/\xt (out.set i many) s.1/\zr N s.2/\2*so s.1+s.2.length<=2*so o+ts.length) ?_ ?_ _ ⟨hq,hkp,(λa ha=>htd a (Od _ ha):zr N ts),Ov (2*so o+ts.length)⟩
      ·rintro k e ⟨b,td⟩ nn he ⟨hb,J,I,O⟩ Y
       simp only at hb J I O;obtain ⟨e1,e2,e3,e4⟩:=hl e he;have hw1:i64.wrap (e.a0+e.a1)=e.a0+e.a1:=cK ⟨by omega,by omega⟩
       have hw2:i64.wrap (e.a0+e.a1-at_)=e.a0+e.a1-at_:=cK ⟨by omega,by omega⟩
       unfold qC;rw [hw1,hw2];refine Gd.ite (λ_=>Y N4 _ ⟨hb,J,I,O⟩) (λ_=>Gd.ite (λh=>?_) (λ_=>Gd.ite (λ_=>Y N4 _ ⟨hb,J,I,O⟩) (λh=>?_)))
       ·have h:e.a0=at_:=by simpa using h
        exact push b td _ nn (by omega) (by omega) hb J I O (λs' hs'=>Y N4 s' hs')
       ·have h:e.a1=at_:=by simpa using h
        exact push b td _ nn (by omega) (by omega) hb J I O (λs' hs'=>Y N4 s' hs')
      ·rintro _ ⟨b,td⟩ ⟨hb,J,I,O⟩
       simp only at hb J I O;exact hn2 _ ⟨hb,J,I,by show 2*so b+td.length<=2*N+1; omega⟩ (by simp only [Oj]; omega)
    ·unfold lx
     rw [hw];refine hn _ ⟨by omega,by show (0:Int)<=many+1; omega,by show many+1<=((i+1:Nat):Int); omega,hq,λj v hj hv=>?_⟩
     have hjl:j<out.length:=by omega
     have hbase:∃ w,(out.set i many)[j]? = some w/\0<=w:=by
      by_cases e:i=j
      ·subst e; exact ⟨many,by simp [hilt],h0⟩
      ·exact ⟨out[j],by rw [Ow e]; exact N5 hjl,hk j _ (by omega) (N5 hjl)⟩
     obtain ⟨w,hw1,hw0⟩:=hbase;obtain ⟨u,hu,hu0⟩:=hkp j w hw1 hw0;simp only at hv;rw [hu] at hv; cases hv; exact hu0
   ·refine QT Z ?_
    unfold a_; omega
 ·rintro i ⟨out,many⟩ ⟨hi,h0,hmi,hp,hk⟩
  simp only at h0 hmi hp hk;refine Gd.ret ⟨hp.len,λv hv=>?_⟩;obtain ⟨j,hj,hje⟩:=Pq.1 hv;have hj:j<out.length:=hj;have h1:=hp.IY v hv;have h2:=hk j v (by have:=hp.len; omega) (by rw [N5 hj]; exact Pc some hje)
  omega
theorem A7 (N:Nat) (hN:N<=24) (l:List cG) (hl:Cj N l) (J:l.length<=64):rP N l=some 0:=by
 rw [<- Gd.eq];unfold rP;refine Gd.ite (λh=>?_) (λ_=>Gd.forAll (Q:=λx=>x=0) (λ_=>True) (λ_=>True) ?_ (λ_ _ _=>Gd.ret rfl) _ N4)
 ·simp at h; omega
 ·intro i e s n I _ hn
  obtain ⟨e1,e2,O,Y⟩:=hl e I;unfold te;exact Gd.ite (λh=>by simp at h; omega) (λ_=>Gd.ite (λh=>by simp at h; omega) (λ_=>Gd.ite (λh=>by simp at h; omega) (λ_=>Gd.ite (λh=>by simp at h; omega) (λ_=>hn N4 _ N4))))
theorem G4 (N:Nat) (hN:N<=24) (l:List cG) (hl:Cj N l) (I:l.length<=64):Gd (kP N l) (λr=>r.1.length=N/\zr N r.1):=by
 unfold kP;refine Gd.bind_eq (A7 N hN l hl I) (Gd.ite (λh=>by simp at h) (λ_=>Gd.hO (Ia N hN l hl I (-1)) (λr J=>Gd.ret J)))
theorem Hn (n:Net) (hn:pG n) (o:Bool):Gd (qe n o) (λr=>r.1.length<=32/\Cj n.cA.length r.1):=by
 unfold qe;refine Gd.gM (λi ys s=>i+ys.length=n.dE.length/\(∀ y ∈ ys,y ∈ n.dE)/\s.1.length<=i/\s.2.length<=i/\Cj n.cA.length s.1) ?_ ?_ _ _ _ ⟨by simp,λ_ h=>h,by simp,by simp,by intro e J; simp at J⟩
 ·rintro i y ys ⟨a,b⟩ nx ⟨hi,hm,ha,hb,J⟩ O
  simp only [Oj] at hi ha hb J;have h2:=hn.l2;have Y:∀ z ∈ ys,z ∈ n.dE:=λz hz=>hm z (Od _ hz);unfold sn od;refine Gd.ite (λ_=>?_) (λ_=>O _ ⟨by omega,Y,by simp only; omega,by simp only; omega,J⟩)
  obtain ⟨h1,Z⟩:=hn.sw y (hm y (Oa ..));obtain ⟨p,hp,hpl,_⟩:=xM h1;obtain ⟨q,hq,hql,_⟩:=xM Z;refine Gd.bind_eq hp (Gd.bind_eq hq (Gd.nd (by simp; omega) (Gd.nd (by simp; omega) (O _ ⟨by omega,Y,by simp; omega,by simp; omega,?_⟩))))
  intro e I;rcases Om.1 I with I | I
  ·exact J e I
  ·simp at I; subst I
   exact ⟨by simp only; omega,by simp only; omega,by simp only; omega,by simp only; omega⟩
 ·rintro i ⟨a,b⟩ ⟨hi,hm,ha,hb,J⟩
  have h2:=hn.l2;simp only [SI] at hi ha;exact Gd.ret ⟨by simp only; omega,J⟩
theorem G1 (n:Net) (hn:pG n):Gd (oH n) (λr=>r.length=n.cA.length/\zr n.cA.length r):=by
 unfold oH;refine Gd.hO (Hn n hn false) (λr I=>?_);have J:=hn.l1;exact Gd.hO (G4 n.cA.length hn.l1 r.1 I.2 (by omega)) (λr I=>Gd.ret I)
structure Nd (n:Net) (t:aQ):Prop where
 bl:t.pV.length=n.cA.length
 bi:zr t.bH.length t.pV
 ii:zr t.bH.length t.bH
 il:t.bH.length<=24
theorem JE {R:Type}{Q:R->Prop} (N:Nat) (hN:N<=24) (I:Nat->Int->Int->(Int->Option R)->Option R) (hb:∀ k y n Z,I k y n Z=Z (max n (i64.wrap (y+1)))) (K:Int->Option R) (l:List Int) (hl:zr N l)
  (hk:∀ m:Nat,m<=N->zr m l->Gd (K (m:Int)) Q):Gd (gM I K 0 l 0) Q:=by
 have key:∀ (ys pre:List Int) (i m:Nat),l=pre++ys->m<=N->zr m pre->Gd (gM I K i ys (m:Int)) Q:=by
  intro ys
  induction ys with
  | nil=>intro pre i m e hm Y; rw [OX] at e; subst e; exact hk m hm Y
  | cons y ys ih=>
   intro pre i m e hm Y;have hy:=hl y (by rw [e]; exact OR _ (Oa ..))
   show Gd (I i y (m:Int) (λs=>gM I K (i+1) ys s)) Q;rw [hb,cK ⟨by omega,by omega⟩]
   have O:max (m:Int) (y+1)=((max m (y+1).toNat:Nat):Int):=by omega
   rw [O];refine ih (pre++[y]) (i+1) _ (by rw [e]; simp) (by omega) (λa J=>?_)
   rcases Om.1 J with J | J
   ·have:=Y a J; omega
   ·simp at J; subst J; omega
 have:=key l [] 0 0 rfl (by omega) (by intro a J; simp at J)
 exact this
abbrev BA:=N2
abbrev Seen:=List (N2×Bool)
theorem HN (l:List (N2×Bool)) (k I:N2):(rI (u4 l k true) I).getD false=((rI l I).getD false || decide (k=I)):=by
 have key:∀ (l:List (N2×Bool)) (i:Nat),(∀ p,vI l I i=some p->vI (l++[(k,true)]) I i=some p)/\(vI l I i=none->vI (l++[(k,true)]) I i=if k=I then some (i+l.length,true) else none):=by
  intro l
  induction l with
  | nil=>intro i; refine ⟨λp h=>by simp [vI] at h,λ_=>?_⟩; simp [vI]
  | cons q l ih=>
   obtain ⟨a,b⟩:=q;intro i;simp only [Qg,vI]
   by_cases h:a=I
   ·simp [h]
   ·simp only [h,P1]
    refine ⟨(ih (i+1)).1,λhn=>?_⟩;rw [(ih (i+1)).2 hn];simp; split
    ·simp; omega
    ·rfl
 have J:∀ (l:List (N2×Bool)) (i j:Nat) (v:Bool),vI l k i=some (j,v)->rI (l.set (j-i) (k,true)) I=if k=I then some true else rI l I:=by
  intro l;unfold rI;have:∀ (l:List (N2×Bool)) (i j:Nat) (v:Bool) (q:Nat),vI l k i=some (j,v)->((vI (l.set (j-i) (k,true)) I q).map (·.2))=if k=I then some true else (vI l I q).map (·.2):=by
   intro l
   induction l with
   | nil=>intro i j v q h; simp [vI] at h
   | cons p l ih=>
    obtain ⟨a,b⟩:=p;intro i j v q h;simp only [vI] at h
    split at h
    ·rename_i e
     simp only [Ox,Qj] at h;obtain ⟨rfl,rfl⟩:=h;subst e;rw [Po,List.set_cons_zero];simp only [vI]
     by_cases e:a=I <;> simp [e]
    ·rename_i e
     obtain ⟨Z,O,_⟩:=D_ h;rw [show j-i=(j-(i+1))+1 by omega,List.set_cons_succ]
     simp only [vI];have:=ih (i+1) j v (q+1) h
     by_cases e2:a=I
     ·subst e2
      have Y:k≠a:=λx=>e x.symm;simp [Y]
     ·simp only [e2,P1]; exact this
  intro i j v h;exact this l i j v 0 h
 unfold u4;cases h:vI l k 0 with
 | none=>
  simp only;unfold rI;cases O:vI l I 0 with
  | none=>
   rw [(key l 0).2 O]
   by_cases e:k=I <;> simp [e]
  | some p=>
   rw [(key l 0).1 p O]
   by_cases e:k=I
   ·subst e; rw [h] at O; cases O
   ·simp [e]
 | some p=>
  obtain ⟨j,v⟩:=p;simp only;have:=J l 0 j v h;rw [Q4] at this;rw [this]
  by_cases e:k=I <;> simp [e]
def pL (P:List BA) (s:Seen):Prop:=∀ k:BA,(rI s k).getD false=true↔k ∈ P
theorem pL.nil:pL [] ([]:Seen):=λk=>by simp [rI,vI]
theorem pL.put {P:List BA}{s:Seen} (h:pL P s) (k:BA):pL (P++[k]) (u4 s k true):=λI=>by
 rw [HN,PQ,h I,Om,OU,PC];exact or_congr Iff.rfl ⟨λe=>e.symm,λe=>e.symm⟩
structure Lr (ns P:List BA) (name:BA) (nodes:List BA):Prop where
 nm:bV name=some true
 nw:name ∉ P
 at_:∀ x ∈ nodes,x ∈ ns
 two:∀ a b,nodes=[a,b]->a≠b
theorem uv {c:aK}{P:List BA} (hs:pL P c.seen) {name:BA} (nodes:List BA) (h:name.size<=maxLen):
  Gd (cW c name nodes) (λr=>r.1=0->Lr c.nodes P name nodes/\pL (P++[name]) r.2.seen):=by
 unfold cW;obtain ⟨b,Y,_⟩:=Dc name h;refine Gd.bind_eq Y (Gd.ite (λ_=>Gd.ret (λh=>by simp at h)) (λJ=>Gd.ite (λ_=>Gd.ret (λh=>by simp at h)) (λhsn=>?_)))
 have J:b=true:=by simpa using J
 subst J;have Z:name ∉ P:=λhm=>by rw [(hs name).2 hm] at hsn; cases hsn
 refine Gd.forAll (λx=>x ∈ c.nodes) (λ_=>True) ?_ ?_ () N4
 ·intro i y s n hy _ hn
  unfold kf;refine Gd.hO (uq c.nodes y) (λb Y=>Gd.ite (λ_=>Gd.ret (λh=>by simp at h)) (λh=>hn (Y.1 (by simpa using h)) _ N4))
 ·intro I s _
  refine Gd.ite (λh=>?_) (λh2=>Gd.ret (λ_=>⟨⟨Y,Z,I,λa b e=>?_⟩,hs.put name⟩))
  ·have h2:nodes.length=2:=by
    have:((nodes.length:Nat):Int)=2:=by simpa using h
    omega
   obtain ⟨a,b,rfl⟩:∃ a b,nodes=[a,b]:=by
    match nodes,h2 with
    | [a,b],_=>exact ⟨a,b,rfl⟩
   refine Gd.ix (y:=a) (by decide) rfl (Gd.ix (y:=b) (by decide) rfl (Gd.ite (λ_=>Gd.ret (λh=>by simp at h)) (λO=>Gd.ret (λ_=>⟨⟨Y,Z,I,λp q e=>?_⟩,hs.put name⟩))))
   have O:a≠b:=by simpa using O
   simp at e;rw [<- e.1,<- e.2]; exact O
  ·subst e
   simp at h2
theorem vx {c:aK}{P:List BA} (hs:pL P c.seen) {name:BA}{nodes:List BA} (h:Lr c.nodes P name nodes):
  cW c name nodes=some (0,⟨u4 c.seen name true,c.nodes⟩):=by
 rw [<- Gd.eq];unfold cW;refine Gd.bind_eq h.nm (Gd.ite (λh=>by simp at h) (λ_=>Gd.ite (λY=>absurd ((hs name).1 Y) h.nw) (λ_=>?_)))
 refine Gd.forAll (λ_=>True) (λ_=>True) ?_ ?_ () N4
 ·intro i y s n hy _ hn
  unfold kf;refine Gd.hO (uq c.nodes y) (λb Z=>Gd.ite (λJ=>?_) (λ_=>hn N4 _ N4));have:=Z.2 (h.at_ y hy);simp [this] at J
 ·intro _ s _
  refine Gd.ite (λI=>?_) (λ_=>Gd.ret rfl);have I:nodes.length=2:=by
   have:((nodes.length:Nat):Int)=2:=by simpa using I
   omega
  obtain ⟨a,b,rfl⟩:∃ a b,nodes=[a,b]:=by
   match nodes,I with
   | [a,b],_=>exact ⟨a,b,rfl⟩
  have O:=h.two a b rfl;exact Gd.ix (y:=a) (by decide) rfl (Gd.ix (y:=b) (by decide) rfl (Gd.ite (λe=>absurd (by simpa using e) O) (λ_=>Gd.ret rfl)))
def names (n:Net):List BA:=n.cA++n.dE.map (·.Name)++n.aU.map (·.Name)++n.kF.map (·.Name)++n.eS.map (·.Name)++n.eK.map (·.Name)
theorem uz {R α:Type}{Q:R->Prop}{I:Nat->α->Seen->(Seen->Option R)->Option R}{k:Seen->Option R}{l:List α} (nm:α->BA) (P:List BA)
  (Y:∀ (i:Nat) (y:α) (s:Seen) (n:Seen->Option R) (pre:List α),(∃ O,l=pre++y::O)->pL (P++pre.map nm) s->Gd (n (u4 s (nm y) true)) Q->Gd (I i y s n) Q) (Z:∀ s,pL (P++l.map nm) s->Gd (k s) Q) (s:Seen) (hs:pL P s):Gd (gM I k 0 l s) Q:=by
 refine Gd.seen (λpre s=>pL (P++pre.map nm) s) ?_ Z s (by simpa using hs)
 intro i y s n pre J hs hn;refine Y i y s n pre J hs (hn _ ?_);have:=hs.put (nm y);rw [Pu,<- OJ]; exact this
theorem sZ {R α:Type}{Q:R->Prop}{I:Nat->α->Seen->(Seen->Option R)->Option R}{k:Seen->Option R}{l:List α} (nm:α->BA) (P:List BA) (C:α->Prop)
  (Z:∀ (i:Nat) (y:α) (s:Seen) (n:Seen->Option R) (pre:List α),y ∈ l->pL (P++pre.map nm) s->(nm y ∉ P++pre.map nm->C y->∀ s',pL (P++pre.map nm++[nm y]) s'->Gd (n s') Q)->Gd (I i y s n) Q)
  (hk:∀ s,pL (P++l.map nm) s->(∀ x ∈ l,C x)->(P.Nodup->(P++l.map nm).Nodup)->Gd (k s) Q) (s:Seen) (hs:pL P s):Gd (gM I k 0 l s) Q:=by
 refine Gd.seen (λpre s=>pL (P++pre.map nm) s/\(∀ x ∈ pre,C x)/\(P.Nodup->(P++pre.map nm).Nodup)) ?_ (λs h=>hk s h.1 h.2.1 h.2.2) s ⟨by simpa using hs,by simp,λh=>by simpa using h⟩
 rintro i y s n pre Y ⟨h1,h2,h3⟩ hn;refine Z i y s n pre (sR Y).2.1 h1 (λO hC s' hs'=>hn s' ⟨by rw [Pu,<- OJ]; exact hs',λx J=>?_,λhP=>?_⟩)
 ·rcases Om.1 J with J | J
  ·exact h2 x J
  ·simp at J; subst J; exact hC
 ·rw [Pu,<- OJ,OO]
  refine ⟨h3 hP,by simp,λa ha b Z=>?_⟩
  simp at Z; subst Z
  intro e; subst e; exact O ha
def CU (g:fH):Bool:=!(((!(aR g.lO)) || (bI g.q8 g.lO 100000)) || (!(aR g.DC)))
def Bh (s:fZ):Bool:=!(((!(aR s.sy)) || (!(aR s.Discharge))) || (!(aR s.uC)))
structure sB (n:Net):Prop where
 l1:n.cA.length<=24
 l2:n.dE.length<=32
 l3:n.aU.length<=24
 l4:n.kF.length<=10
 l5:n.eS.length<=12
 l6:n.eK.length<=4
 nd:(names n).Nodup
 vn:∀ x ∈ n.cA,bV x=some true
 vs:∀ x ∈ n.dE,bV x.Name=some true/\x.A ∈ n.cA/\x.B_ ∈ n.cA/\x.A≠x.B_
 vb:∀ x ∈ n.aU,bV x.Name=some true/\x.pK ∈ n.cA/\x.To ∈ n.cA/\x.pK≠x.To/\lz x=0
 vg:∀ x ∈ n.kF,bV x.Name=some true/\x.Node ∈ n.cA/\CU x=true
 vl:∀ x ∈ n.eS,bV x.Name=some true/\x.Node ∈ n.cA/\aR x.fX=true
 vt:∀ x ∈ n.eK,bV x.Name=some true/\x.Node ∈ n.cA/\Bh x=true
theorem check_sound (n:Net) (hz:ua n):Gd (dV n) (λe=>e=0->sB n):=by
 unfold dV;refine Gd.ite (λ_=>Gd.ret (λh=>by simp at h)) (λhl=>?_)
 simp only [Sq,Tn,Int.not_lt] at hl;refine sZ (id:BA->BA) [] (λx=>bV x=some true) ?_ ?_ _ pL.nil
 ·intro i y s nx pre Y hs hn
  unfold nE;exact Gd.hO (uv (c:=⟨s,n.cA⟩) hs [] (hz.nd y Y)) (λr O=>Gd.ite (λh=>Gd.ret (λI=>absurd I (by simpa using h))) (λh=>by
   obtain ⟨J,I⟩:=O (by simpa using h)
   exact hn J.nw J.nm _ I))
 intro s hs hvn hnd1;simp only [List.map_id,PR] at hs hnd1;refine sZ (λx:eJ=>x.Name) _ (λx=>bV x.Name=some true/\x.A ∈ n.cA/\x.B_ ∈ n.cA/\x.A≠x.B_) ?_ ?_ _ hs
 ·intro i y s nx pre Y hs hn
  unfold nF;exact Gd.hO (uv (c:=⟨s,n.cA⟩) hs [y.A,y.B_] (hz.sw y Y)) (λr O=>Gd.ite (λh=>Gd.ret (λI=>absurd I (by simpa using h))) (λh=>by
   obtain ⟨J,I⟩:=O (by simpa using h)
   exact hn J.nw ⟨J.nm,J.at_ _ (by simp),J.at_ _ (by simp),J.two _ _ rfl⟩ _ I))
 intro s hs hvs hnd2;refine sZ (λx:aZ=>x.Name) _ (λx=>bV x.Name=some true/\x.pK ∈ n.cA/\x.To ∈ n.cA/\x.pK≠x.To/\lz x=0) ?_ ?_ _ hs
 ·intro i y s nx pre Y hs hn
  unfold nG;exact Gd.hO (uv (c:=⟨s,n.cA⟩) hs [y.pK,y.To] (hz.br y Y)) (λr O=>Gd.ite (λh=>Gd.ret (λI=>absurd I (by simpa using h))) (λh=>Gd.ite (λZ=>Gd.ret (λI=>absurd I (by simpa using Z))) (λZ=>by
   obtain ⟨J,I⟩:=O (by simpa using h)
   exact hn J.nw ⟨J.nm,J.at_ _ (by simp),J.at_ _ (by simp),J.two _ _ rfl,by simpa using Z⟩ _ I)))
 intro s hs hvb hnd3;refine Gd.hO (P:=λr=>r.1=0->(∀ x ∈ n.kF,bV x.Name=some true/\x.Node ∈ n.cA/\CU x=true)/\(∀ x ∈ n.eS,bV x.Name=some true/\x.Node ∈ n.cA/\aR x.fX=true) /\
  (∀ x ∈ n.eK,bV x.Name=some true/\x.Node ∈ n.cA/\Bh x=true)/\(names n).Nodup) ?_ (λr O=>Gd.ret (λh=>by
   obtain ⟨a,b,c,d⟩:=O h;exact ⟨by omega,by omega,by omega,by omega,by omega,by omega,d,hvn,hvs,hvb,a,b,c⟩))
 unfold jL;refine sZ (λx:fH=>x.Name) _ (λx=>bV x.Name=some true/\x.Node ∈ n.cA/\CU x=true) ?_ ?_ _ hs
 ·intro i y s nx pre Y hs hn
  unfold kU;exact Gd.hO (uv (c:=⟨s,n.cA⟩) hs [y.Node] (hz.gn y Y)) (λr O=>Gd.ite (λh=>Gd.ret (λI=>absurd I (by simpa using h))) (λh=>Gd.ite (λ_=>Gd.ret (λI=>by simp at I)) (λZ=>by
   obtain ⟨J,I⟩:=O (by simpa using h)
   exact hn J.nw ⟨J.nm,J.at_ _ (by simp),by unfold CU; rw [Z]; rfl⟩ _ I)))
 intro s hs hvg hnd4;refine sZ (λx:aJ=>x.Name) _ (λx=>bV x.Name=some true/\x.Node ∈ n.cA/\aR x.fX=true) ?_ ?_ _ hs
 ·intro i y s nx pre Y hs hn
  unfold kV;exact Gd.hO (uv (c:=⟨s,n.cA⟩) hs [y.Node] (hz.ld y Y)) (λr O=>Gd.ite (λh=>Gd.ret (λI=>absurd I (by simpa using h))) (λh=>Gd.ite (λ_=>Gd.ret (λI=>by simp at I)) (λZ=>by
   obtain ⟨J,I⟩:=O (by simpa using h)
   exact hn J.nw ⟨J.nm,J.at_ _ (by simp),by simpa using Z⟩ _ I)))
 intro s hs hvl hnd5;refine sZ (λx:fZ=>x.Name) _ (λx=>bV x.Name=some true/\x.Node ∈ n.cA/\Bh x=true) ?_ ?_ _ hs
 ·intro i y s nx pre Y hs hn
  unfold kW;exact Gd.hO (uv (c:=⟨s,n.cA⟩) hs [y.Node] (hz.st y Y)) (λr O=>Gd.ite (λh=>Gd.ret (λI=>absurd I (by simpa using h))) (λh=>Gd.ite (λ_=>Gd.ret (λI=>by simp at I)) (λZ=>by
   obtain ⟨J,I⟩:=O (by simpa using h)
   exact hn J.nw ⟨J.nm,J.at_ _ (by simp),by unfold Bh; rw [Z]; rfl⟩ _ I)))
 intro s hs hvt hnd6;exact Gd.ret λ_=>⟨hvg,hvl,hvt,hnd6 (hnd5 (hnd4 (hnd3 (hnd2 (hnd1 List.nodup_nil)))))⟩
theorem F3 {A B C:List BA}{x:BA} (h:(A++(B++x::C)).Nodup):x ∉ A++B:=by
 rw [<- OJ,OO] at h;exact λhm=>h.2.2 x hm x (Oa ..) rfl
theorem fresh {P:List BA}{α:Type}{nm:α->BA}{l pre:List α}{y:α} (h:(P++l.map nm).Nodup) (J:∃ I,l=pre++y::I):nm y ∉ P++pre.map nm:=by
 obtain ⟨I,rfl⟩:=J;rw [Pu,QK] at h;exact F3 h
theorem DO (n:Net) (h:sB n):dV n=some 0:=by
 have J:=h.nd;unfold names at J;have n5:=(OO.1 J).1;have n4:=(OO.1 n5).1;have Z:=(OO.1 n4).1;have Y:=(OO.1 Z).1;have n1:=(OO.1 Y).1;have g1:=h.l1; have g2:=h.l2; have g3:=h.l3; have g4:=h.l4; have g5:=h.l5; have g6:=h.l6
 rw [<- Gd.eq];unfold dV;refine Gd.ite (λhl=>?_) (λ_=>?_)
 ·simp only [PQ,PC] at hl
  omega
 refine uz (id:BA->BA) [] ?_ ?_ _ pL.nil
 ·intro i y s O pre I hs hn
  have hy:=(sR I).2.1;have hf:=fresh (P:=[]) (nm:=id) (by simpa using n1) I
  unfold nE;exact Gd.bind_eq (vx (c:=⟨s,n.cA⟩) hs ⟨h.vn y hy,hf,by simp,by simp⟩) (Gd.ite (λh=>by simp at h) (λ_=>hn))
 intro s hs;simp only [List.map_id,PR] at hs;refine uz (λx:eJ=>x.Name) _ ?_ ?_ _ hs
 ·intro i y s O pre I hs hn
  obtain ⟨a,b,c,d⟩:=h.vs y (sR I).2.1;unfold nF;exact Gd.bind_eq (vx (c:=⟨s,n.cA⟩) hs ⟨a,fresh Y I,by simp [b,c],λp q e=>by simp at e; rw [<- e.1,<- e.2]; exact d⟩) (Gd.ite (λh=>by simp at h) (λ_=>hn))
 intro s hs;refine uz (λx:aZ=>x.Name) _ ?_ ?_ _ hs
 ·intro i y s O pre I hs hn
  obtain ⟨a,b,c,d,e⟩:=h.vb y (sR I).2.1;unfold nG;exact Gd.bind_eq (vx (c:=⟨s,n.cA⟩) hs ⟨a,fresh Z I,by simp [b,c],λp q e=>by simp at e; rw [<- e.1,<- e.2]; exact d⟩) (Gd.ite (λh=>by simp at h) (λ_=>Gd.ite (λh=>by simp [e] at h) (λ_=>hn)))
 intro s hs;refine Gd.hO (P:=λr=>r.1=0) ?_ (λr hr=>Gd.ret hr);unfold jL;refine uz (λx:fH=>x.Name) _ ?_ ?_ _ hs
 ·intro i y s O pre I hs hn
  obtain ⟨a,b,c⟩:=h.vg y (sR I).2.1;unfold CU at c;unfold kU;exact Gd.bind_eq (vx (c:=⟨s,n.cA⟩) hs ⟨a,fresh n4 I,by simp [b],by simp⟩) (Gd.ite (λh=>by simp at h) (λ_=>Gd.ite (λh=>by rw [h] at c; cases c) (λ_=>hn)))
 intro s hs;refine uz (λx:aJ=>x.Name) _ ?_ ?_ _ hs
 ·intro i y s O pre I hs hn
  obtain ⟨a,b,c⟩:=h.vl y (sR I).2.1;unfold kV;exact Gd.bind_eq (vx (c:=⟨s,n.cA⟩) hs ⟨a,fresh n5 I,by simp [b],by simp⟩) (Gd.ite (λh=>by simp at h) (λ_=>Gd.ite (λh=>by simp [c] at h) (λ_=>hn)))
 intro s hs;refine uz (λx:fZ=>x.Name) _ ?_ ?_ _ hs
 ·intro i y s O pre I hs hn
  obtain ⟨a,b,c⟩:=h.vt y (sR I).2.1;unfold Bh at c;unfold kW;exact Gd.bind_eq (vx (c:=⟨s,n.cA⟩) hs ⟨a,fresh J I,by simp [b],by simp⟩) (Gd.ite (λh=>by simp at h) (λ_=>Gd.ite (λh=>by rw [h] at c; cases c) (λ_=>hn)))
 intro s hs;exact Gd.ret rfl
def Jj (n:Net) (q:Nat):Net:={ n with aU:=n.aU.take q++n.aU.drop (q+1) }
theorem EP {α:Type} (l:List α) (q:Nat):(l.take q++l.drop (q+1)).Sublist l:=by
 have I:(l.drop (q+1)).Sublist (l.drop q):=by rw [<- Qa]; exact List.drop_sublist _ _
 have:=(Qc (l.take q)).append I
 rwa [PE] at this
theorem sB.cut {n:Net} (h:sB n) (q:Nat):sB (Jj n q):=by
 have hs:=EP n.aU q;have I:(names (Jj n q)).Sublist (names n):=by
  unfold names Jj;exact ((((Qc _).append (hs.map _)).append (Qc _)).append (Qc _)).append (Qc _)
 exact ⟨h.l1,h.l2,Pn hs.length_le h.l3,h.l4,h.l5,h.l6,I.nodup h.nd,h.vn,h.vs,λx J=>h.vb x (hs.subset J),h.vg,h.vl,h.vt⟩
theorem sB.ok {n:Net} (h:sB n) (O:ua n):pG n:=by
 obtain ⟨e,J,I⟩:=G2 n O;rw [DO n h] at J;exact I (N8 J).symm
theorem ua.cut {n:Net} (h:ua n) (q:Nat):ua (Jj n q):=
 ⟨h.nd,h.sw,λx I=>h.br x ((EP n.aU q).subset I),h.gn,h.ld,h.st⟩
abbrev Ed:=cG
def lb (o:List Int) (u:Int):Int:=if 0<=u then (o[u.toNat]?).getD (-1) else -1
theorem HE {o:List Int}{u:Int} (h:0<=lb o u):0<=u/\u<o.length:=by
 unfold lb at h
 split at h
 ·rename_i h0
  refine ⟨h0,?_⟩
  by_cases e:u.toNat<o.length
  ·omega
  ·rw [O4 (by omega)] at h; simp at h
 ·omega
theorem Af {o:List Int}{k:Nat} (h:k<o.length):lb o (k:Int)=o[k]:=by
 unfold lb; rw [Oc (by omega),N7,N5 h]; rfl
theorem HD {o:List Int}{u:Int} (I:0<=u) (h:u.toNat<o.length):lb o u=o[u.toNat]:=by
 unfold lb; rw [Oc I,N5 h]; rfl
theorem wR {o:List Int}{q:Int} (J:0<=q) (h:q.toNat<o.length) (m u:Int):lb (o.set q.toNat m) u=if u=q then m else lb o u:=by
 unfold lb
 by_cases e:u=q
 ·subst e
  rw [Oc J,Oc rfl,Oz h]; rfl
 ·rw [Ob e]
  by_cases I:0<=u
  ·rw [Oc I,Oc I,Ow (by omega)]
  ·rw [Ob I,Ob I]
def IV (l:List Ed) (u v:Int):Prop:=∃ e ∈ l,(e.a0=u/\e.a1=v)\/(e.a1=u/\e.a0=v)
theorem IV.symm {l:List Ed}{u v:Int} (h:IV l u v):IV l v u:=by
 obtain ⟨e,I,h | h⟩:=h
 ·exact ⟨e,I,.inr ⟨h.2,h.1⟩⟩
 ·exact ⟨e,I,.inl ⟨h.2,h.1⟩⟩
inductive wD (l:List Ed) (u:Int):Int->Prop
 | refl:wD l u u
 | snoc {v w:Int}:wD l u v->IV l v w->wD l u w
theorem wD.trans {l:List Ed}{u v w:Int} (I:wD l u v) (J:wD l v w):wD l u w:=by
 induction J with
 | refl=>exact I
 | snoc _ h ih=>exact .snoc ih h
theorem wD.symm {l:List Ed}{u v:Int} (h:wD l u v):wD l v u:=by
 induction h with
 | refl=>exact .refl
 | snoc _ h ih=>exact (wD.snoc .refl h.symm).trans ih
structure Ml (N:Nat) (l:List Ed) (many:Int) (out:List Int):Prop where
 pt:xR N many out
 cls:∀ u v,IV l u v->0<=lb out u->lb out v=lb out u
 Nf:∀ u v,0<=lb out u->lb out u=lb out v->wD l u v
 MH:∀ c,0<=c->c<many->∃ u,lb out u=c
theorem xR.lt {N:Nat}{many:Int}{out:List Int} (h:xR N many out) (hm:0<=many) (u:Int):-1<=lb out u/\lb out u<many:=by
 by_cases I:0<=lb out u
 ·obtain ⟨a,b⟩:=HE I
  have:u.toNat<out.length:=by omega
  rw [HD a this];exact h.IY _ (OY _)
 ·refine ⟨?_,by omega⟩
  unfold lb
  split
  ·by_cases e:u.toNat<out.length
   ·rw [N5 e]
    exact (h.IY _ (OY e)).1
   ·rw [O4 (by omega)]; simp
  ·omega
structure AQ (N:Nat) (l:List Ed) (m:Int) (i:Int) (out o:List Int):Prop where
 pt:xR N (m+1) o
 xN:∀ u,0<=lb out u->lb o u=lb out u
 new:∀ u,lb out u<0->0<=lb o u->lb o u=m/\wD l i u
 st:lb o i=m
theorem AQ.put {N:Nat}{l:List Ed}{m i:Int}{out o:List Int} (h:AQ N l m i out o) (hc:Ml N l m out) (Z:0<=m) {a q:Int} (ha:lb o a=m) (J:IV l a q) (Y:0<=q) (qN:q<N) (hq:lb o q<0):AQ N l m i out (o.set q.toNat m):=by
 have I:q.toNat<o.length:=by rw [h.pt.len]; omega
 have ca:wD l i a:=by
  by_cases e:0<=lb out a
  ·have h1:=h.xN a e
   have h2:=(hc.pt.lt Z a).2;omega
  ·exact (h.new a (by omega) (by omega)).2
 refine ⟨h.pt.set ⟨Z,by omega⟩ _,λu O=>?_,λu O hn=>?_,?_⟩
 ·rw [wR Y I]
  have h1:=h.xN u O;rw [Ob (λe=>by subst e; omega)]
  exact h1
 ·rw [wR Y I] at hn ⊢
  by_cases e:u=q
  ·subst e
   rw [Oc rfl];exact ⟨rfl,ca.snoc J⟩
  ·rw [Ob e] at hn ⊢
   exact h.new u O hn
 ·rw [wR Y I]
  split
  ·rfl
  ·exact h.st
theorem AQ.mono {N:Nat}{m:Int}{o:List Int} (hl:o.length=N) (I:0<=m) {q:Int} (O:0<=q) (Y:q<N) {u:Int} (J:0<=lb o u):0<=lb (o.set q.toNat m) u:=by
 rw [wR O (by omega)]
 split
 ·exact I
 ·exact J
theorem AQ.done {N:Nat}{l:List Ed}{m i:Int}{out o:List Int} (h:AQ N l m i out o) (J:Ml N l m out) (h0:0<=m) (hp:∀ u,lb o u=m->∀ v,IV l u v->0<=lb o v):Ml N l (m+1) o:=by
 refine ⟨h.pt,λu v I Y=>?_,λu v Y I=>?_,λc c0 c1=>?_⟩
 ·by_cases e:0<=lb out u
  ·have Z:=h.xN u e
   have O:=J.cls u v I e;have h3:=h.xN v (by omega)
   omega
  ·obtain ⟨Z,_⟩:=h.new u (by omega) Y
   have O:=hp u Z v I
   by_cases e2:0<=lb out v
   ·have:=J.cls v u I.symm e2
    omega
   ·have:=(h.new v (by omega) O).1
    omega
 ·by_cases e:0<=lb out u
  ·have Z:=h.xN u e
   have O:=(J.pt.lt h0 u).2
   by_cases e2:0<=lb out v
   ·exact J.Nf u v e (by have:=h.xN v e2; omega)
   ·have:=(h.new v (by omega) (by omega)).1
    omega
  ·obtain ⟨Z,O⟩:=h.new u (by omega) Y
   by_cases e2:0<=lb out v
   ·have h3:=h.xN v e2
    have h4:=(J.pt.lt h0 v).2;omega
   ·exact O.symm.trans (h.new v (by omega) (by omega)).2
 ·by_cases e:c<m
  ·obtain ⟨u,Y⟩:=J.MH c c0 e
   exact ⟨u,by rw [h.xN u (by omega)]; exact Y⟩
  ·exact ⟨i,by rw [h.st]; omega⟩
structure Fs (N:Nat) (l:List Ed) (r:List Int) (many:Nat):Prop where
 len:r.length=N
 all:∀ u:Int,0<=u->u<N->0<=lb r u/\lb r u<many
 mN:many<=N
 iff:∀ u v:Int,0<=u->u<N->0<=v->v<N->(lb r u=lb r v↔wD l u v)
 MH:∀ c:Int,0<=c->c<many->∃ u:Int,0<=u/\u<N/\lb r u=c
theorem Ef (N:Nat) (hN:N<=24) (l:List Ed) (hl:Cj N l) (hll:l.length<=64):Gd (pj N l (-1)) (λr=>∃ many:Nat,Fs N l r many):=by
 unfold pj;refine Gd.nd ⟨rfl,by omega,by omega⟩ (Gd.nd (by omega) ?_)
 rw [wY];have hrep:∀ u,lb (List.replicate N (-1)) u = -1:=λu=>by
  unfold lb
  split
  ·by_cases e:u.toNat<N
   ·rw [N5 (by simpa using e)]; simp
   ·rw [O4 (by simpa using e)]; rfl
  ·rfl
 refine Gd.mn (λm i (s:List Int×Int)=>i+m=N/\0<=s.2/\s.2<=(i:Int)/\Ml N l s.2 s.1/\∀ j:Nat,j<i->0<=lb s.1 (j:Int)) ?_ ?_ (N:Int).toNat 0 (List.replicate N (-1),0)
  ⟨by omega,by simp,by simp,⟨⟨by simp,by simp⟩,λu v _ h=>by rw [hrep] at h; omega,λu v h _=>by rw [hrep] at h; omega,λc h1 h2=>by omega⟩,by simp⟩
 ·rintro m i ⟨out,many⟩ nx ⟨hi,h0,hmi,Z,hk⟩ hn
  simp only at h0 hmi Z hk;have hilt:i<out.length:=by rw [Z.pt.len]; omega
  have hwm:i64.wrap (many+1)=many+1:=cK ⟨by omega,by omega⟩
  unfold qA;refine Gd.mR hilt (Gd.ite (λh=>?_) (λh=>?_))
  ·have hge:0<=out[i]:=by simpa using h
   unfold lx;refine hn _ ⟨by omega,h0,by show many<=((i+1:Nat):Int); omega,Z,λj hj=>?_⟩
   by_cases e:j=i
   ·subst e; simp only; rw [Af hilt]; exact hge
   ·exact hk j (by omega)
  ·have hneg:out[i]<0:=by simpa using h
   refine Gd.mR hilt ?_;rw [N7];have hnegl:lb out (i:Int)<0:=by rw [Af hilt]; exact hneg
   have hset:∀ u,lb (out.set i many) u=if u=(i:Int) then many else lb out u:=λu=>by
    have:=wR (o:=out) (q:=(i:Int)) (by omega) (by simpa using hilt) many u
    rwa [N7] at this
   have hp1:xR N (many+1) out:=⟨Z.pt.len,λv hv=>by have:=Z.pt.IY v hv; omega⟩
   have hbase:2*so (out.set i many)+[(i:Int)].length<=2*N+1:=by
    have hcn:so (out.set i many)<=N:=by unfold so; rw [<- Z.pt.len,<- Pp (as:=out) (i:=i) (a:=many)]; exact QB
    simp only [OQ]; omega
   have hf0:AQ N l many (i:Int) out (out.set i many):=by
    refine ⟨hp1.set ⟨h0,by omega⟩ i,λu O=>?_,λu O hn2=>?_,by rw [hset,Oc rfl]⟩
    ·rw [hset,Ob (λe=>by subst e; omega)]
    ·rw [hset] at hn2 ⊢
     by_cases e:u=(i:Int)
     ·subst e; rw [Oc rfl]; exact ⟨rfl,.refl⟩
     ·rw [Ob e] at hn2; omega
   refine Gd.cE (λ(s:List Int×List Int)=>AQ N l many (i:Int) out s.1/\(∀ a ∈ s.2,lb s.1 a=many)/\(∀ u,lb s.1 u=many->u ∉ s.2->∀ v,IV l u v->0<=lb s.1 v)/\2*so s.1+s.2.length<=2*N+1)
    (λs=>2*so s.1+s.2.length) ?_ a_ _ ⟨hf0,λa ha=>?_,λu O Y=>?_,hbase⟩ ?_
   ·rintro ⟨o,todo⟩ nx2 ⟨hf,htd,hpr,htot⟩ hn2
    simp only at hf htd hpr htot;have hol:=hf.pt.len;unfold qB;refine Gd.ite (λhne=>?_) (λhze=>?_)
    ·obtain ⟨at_,ts,rfl⟩:∃ a ts,todo=a::ts:=by
      cases todo with
      | nil=>simp at hne
      | cons a ts=>exact ⟨a,ts,rfl⟩
     simp only [Oj] at htot;refine Gd.ix (y:=at_) (by decide) rfl (Gd.nd ⟨by omega,by simp only [Oj]; omega⟩ ?_)
     have hat:=htd at_ (Oa ..);obtain ⟨at0,atN⟩:=HE (by omega:0<=lb o at_)
     have hsl:uW (at_::ts) (1:Int).toNat (at_::ts).length=ts:=by
      unfold uW;rw [show (1:Int).toNat=1 from rfl,Rz,PB,Oo (by simp)]
     rw [hsl]
     let J:List Ed->List Int×List Int->Prop:=λpre s=>AQ N l many (i:Int) out s.1/\(∀ a ∈ s.2,lb s.1 a=many)/\lb s.1 at_=many/\(∀ u,lb s.1 u=many->u ∉ s.2->u≠at_->∀ v,IV l u v->0<=lb s.1 v) /\
      (∀ e ∈ pre,(e.a0=at_->0<=lb s.1 e.a1)/\(e.a1=at_->0<=lb s.1 e.a0))/\2*so s.1+s.2.length<=2*so o+ts.length
     have push:∀ (pre:List Ed) (e:Ed) (b td:List Int) (q:Int) (nn:List Int×List Int->Option (List Int)),e ∈ l->J pre (b,td)->IV l at_ q->0<=q->q<N->((e.a0=at_/\e.a1=q)\/(e.a1=at_/\e.a0=q)) ->
       (∀ s',J (pre++[e]) s'->Gd (nn s') (λr=>∃ many:Nat,Fs N l r many)) ->
       Gd (Sim.idx b q λy7689=>if decide (y7689<0) then (Sim.idx b q λy7694=>fU ((td.length+([q]).length)*8<=140737488355328) (f_ nn (b.set (q:Int).toNat many) (td++([q])))) else (f_ nn b td)) (λr=>∃ many:Nat,Fs N l r many):=by
      intro pre e b td q nn hel ⟨j1,j2,j3,j4,j5,j6⟩ hadj q0 qN hends hnn;simp only at j1 j2 j3 j4 j5 j6;have hbl:=j1.pt.len;have hql:q.toNat<b.length:=by omega
      have hget:b[q.toNat]? = some b[q.toNat]:=N5 hql;have hlq:lb b q=b[q.toNat]:=HD q0 hql;have hno:so o<=N:=by unfold so; rw [<- hol]; exact QB
      unfold f_;refine Gd.ix q0 hget (Gd.ite (λh=>Gd.ix q0 hget (Gd.nd ?_ (hnn _ ?_))) (λh=>hnn _ ⟨j1,j2,j3,j4,λd I=>?_,j6⟩))
      ·simp; omega
      ·have h1:b[q.toNat]<0:=by simpa using h
       have hlt:lb b q<0:=by omega
       have up:∀ {u:Int},0<=lb b u->0<=lb (b.set q.toNat many) u:=λ{u} O=>AQ.mono hbl h0 q0 qN O;have hqs:lb (b.set q.toNat many) q=many:=by rw [wR q0 hql,Oc rfl]
       have same:∀ {u:Int},lb b u=many->lb (b.set q.toNat many) u=many:=λ{u} O=>by
        rw [wR q0 hql]; split
        ·rfl
        ·exact O
       refine ⟨j1.put Z h0 j3 hadj q0 qN hlt,λa ha=>?_,same j3,λu O Y hua v hv=>?_,λd I=>?_,?_⟩
       ·rcases Om.1 ha with ha | ha
        ·exact same (j2 a ha)
        ·simp at ha; subst ha; exact hqs
       ·simp only at O Y
        by_cases e2:u=q
        ·subst e2
         exact absurd (OR _ (Q8 _)) Y
        ·rw [wR q0 hql,Ob e2] at O
         exact up (j4 u O (λhm=>Y (N6 _ hm)) hua v hv)
       ·rcases Om.1 I with I | I
        ·obtain ⟨x1,x2⟩:=j5 d I
         exact ⟨λhh=>up (x1 hh),λhh=>up (x2 hh)⟩
        ·simp at I; subst I
         have hat2:0<=lb (b.set q.toNat many) at_:=up (by omega)
         have hq2:0<=lb (b.set q.toNat many) q:=by omega
         rcases hends with ⟨x1,x2⟩ | ⟨x1,x2⟩
         ·exact ⟨λ_=>by rw [x2]; exact hq2,λ_=>by rw [x1]; exact hat2⟩
         ·exact ⟨λ_=>by rw [x1]; exact hat2,λ_=>by rw [x2]; exact hq2⟩
       ·have:=C_ hql h1 h0
        simp only [OG,OQ];omega
      ·have h1:0<=b[q.toNat]:=by simpa using h
       rcases Om.1 I with I | I
       ·exact j5 d I
       ·simp at I; subst I
        rcases hends with ⟨x1,x2⟩ | ⟨x1,x2⟩
        ·exact ⟨λ_=>by rw [x2]; simp only; omega,λ_=>by rw [x1]; simp only; omega⟩
        ·exact ⟨λ_=>by rw [x1]; simp only; omega,λ_=>by rw [x2]; simp only; omega⟩
     refine Gd.seen J ?_ ?_ _ ⟨hf,λa ha=>htd a (Od _ ha),hat,λu O Y hua v hv=>hpr u O (λhm=>(OM.1 hm).elim hua Y) v hv,by simp,Ov (2*so o+ts.length)⟩
     ·rintro k e ⟨b,td⟩ nn pre hpre hJ hnn
      obtain ⟨_,hel,_⟩:=sR hpre;obtain ⟨e1,e2,e3,e4⟩:=hl e hel;have hw1:i64.wrap (e.a0+e.a1)=e.a0+e.a1:=cK ⟨by omega,by omega⟩
      have hw2:i64.wrap (e.a0+e.a1-at_)=e.a0+e.a1-at_:=cK ⟨by omega,by omega⟩
      unfold qC;rw [hw1,hw2];refine Gd.ite (λh=>by simp at h) (λ_=>Gd.ite (λh=>?_) (λh=>Gd.ite (λh2=>?_) (λh2=>?_)))
      ·have h:e.a0=at_:=by simpa using h
       have hq:e.a0+e.a1-at_=e.a1:=by omega
       rw [hq];exact push pre e b td _ nn hel hJ ⟨e,hel,.inl ⟨h,rfl⟩⟩ e3 e4 (.inl ⟨h,rfl⟩) hnn
      ·have h1:e.a0≠at_:=by simpa using h
       have h2:e.a1≠at_:=by simpa using h2
       obtain ⟨j1,j2,j3,j4,j5,j6⟩:=hJ;refine hnn _ ⟨j1,j2,j3,j4,λd I=>?_,j6⟩;rcases Om.1 I with I | I
       ·exact j5 d I
       ·simp at I; subst I
        exact ⟨λhh=>absurd hh h1,λhh=>absurd hh h2⟩
      ·have h2:e.a1=at_:=by simpa using h2
       have hq:e.a0+e.a1-at_=e.a0:=by omega
       rw [hq];exact push pre e b td _ nn hel hJ ⟨e,hel,.inr ⟨h2,rfl⟩⟩ e1 e2 (.inr ⟨h2,rfl⟩) hnn
     ·rintro ⟨b,td⟩ ⟨j1,j2,j3,j4,j5,j6⟩
      simp only at j1 j2 j3 j4 j5 j6;refine hn2 _ ⟨j1,j2,λu O Y v hv=>?_,by show 2*so b+td.length<=2*N+1; omega⟩ (by simp only [Oj]; omega)
      by_cases e:u=at_
      ·subst e
       obtain ⟨d,I,hh | hh⟩:=hv
       ·have:=(j5 d I).1 hh.1
        rw [hh.2] at this; exact this
       ·have:=(j5 d I).2 hh.1
        rw [hh.2] at this; exact this
      ·exact j4 u O Y e v hv
    ·have htn:todo=[]:=by
      cases todo with
      | nil=>rfl
      | cons a ts=>simp at hze
     subst htn;unfold lx;rw [hwm];refine hn _ ⟨by omega,by show (0:Int)<=many+1; omega,by show many+1<=((i+1:Nat):Int); omega,hf.done Z h0 (λu O v hv=>hpr u O (by simp) v hv),λj hj=>?_⟩
     by_cases e:j=i
     ·subst e; show 0<=lb o (j:Int); rw [hf.st]; exact h0
     ·have h1:=hk j (by omega)
      show 0<=lb o (j:Int);rw [hf.xN _ h1]; exact h1
   ·simp only [OU] at ha
    subst ha;exact hf0.st
   ·exfalso
    rw [hset] at O
    by_cases e:u=(i:Int)
    ·subst e; simp at Y
    ·rw [Ob e] at O
     have:=(Z.pt.lt h0 u).2;omega
   ·refine QT hbase ?_
    unfold a_; omega
 ·rintro i ⟨out,many⟩ ⟨hi,h0,hmi,Z,hk⟩
  simp only at h0 hmi Z hk;have hge:∀ u:Int,0<=u->u<N->0<=lb out u:=λu u0 uN=>by
   have:=hk u.toNat (by omega)
   rwa [show ((u.toNat:Nat):Int)=u by omega] at this
  refine Gd.ret ⟨many.toNat,Z.pt.len,λu u0 uN=>⟨hge u u0 uN,by have h1:=hge u u0 uN; have h2:=(Z.pt.lt h0 u).2; show lb out u<((many.toNat:Nat):Int); omega⟩,by omega,λu v u0 uN v0 vN=>⟨λe=>Z.Nf u v (hge u u0 uN) e,λe=>?_⟩,λc c0 c1=>?_⟩
  ·clear vN v0
   induction e with
   | refl=>rfl
   | snoc _ h ih=>
    rename_i p q _
    have ih:lb out u=lb out p:=ih;have hp:0<=lb out p:=by have:=hge u u0 uN; omega
    show lb out u=lb out q;rw [ih];exact (Z.cls p q h hp).symm
  ·obtain ⟨u,O⟩:=Z.MH c c0 (by omega)
   obtain ⟨a,b⟩:=HE (by omega:0<=lb out u)
   exact ⟨u,a,by have:=Z.pt.len; omega,O⟩
theorem DQ (N:Nat) (hN:N<=24) (l:List Ed) (hl:Cj N l) (I:l.length<=64):Gd (kP N l) (λr=>r.2=0/\∃ many:Nat,Fs N l r.1 many):=by
 unfold kP;refine Gd.bind_eq (A7 N hN l hl I) (Gd.ite (λh=>by simp at h) (λ_=>Gd.hO (Ef N hN l hl I) (λr J=>Gd.ret ⟨rfl,J⟩)))
theorem JD (N:Nat) (hN:N<=24) (l:List Int) (hl:zr N l):∃ m:Nat,m<=N/\zr m l/\(∀ c:Nat,zr c l->m<=c) /\
  ∀ {R:Type} (I:Nat->Int->Int->(Int->Option R)->Option R) (Z:∀ k y n nx,I k y n nx=nx (max n (i64.wrap (y+1)))) (K:Int->Option R),gM I K 0 l 0=K (m:Int):=by
 have key:∀ (ys pre:List Int) (m:Nat),l=pre++ys->m<=N->zr m pre->(∀ c:Nat,zr c pre->m<=c)->∃ Y:Nat,Y<=N/\zr Y l/\(∀ c:Nat,zr c l->Y<=c) /\
   ∀ {R:Type} (I:Nat->Int->Int->(Int->Option R)->Option R) (Z:∀ k y n nx,I k y n nx=nx (max n (i64.wrap (y+1)))) (K:Int->Option R) (i:Nat),gM I K i ys (m:Int)=K (Y:Int):=by
  intro ys
  induction ys with
  | nil=>
   intro pre m e hm hp J;rw [OX] at e; subst e
   exact ⟨m,hm,hp,J,λ_ _ _ _=>rfl⟩
  | cons y ys ih=>
   intro pre m e hm hp J;have hy:=hl y (by rw [e]; exact OR _ (Oa ..))
   have hw:i64.wrap (y+1)=y+1:=cK ⟨by omega,by omega⟩
   have hmx:max (m:Int) (y+1)=((max m (y+1).toNat:Nat):Int):=by omega
   obtain ⟨Y,h1,h2,h3,h4⟩:=ih (pre++[y]) (max m (y+1).toNat) (by rw [e]; simp) (by omega) (λa O=>by
    rcases Om.1 O with O | O
    ·have:=hp a O; omega
    ·simp at O; subst O; omega) (λc hc=>by
     have c1:=J c (λa O=>hc a (N6 _ O));have c2:=hc y (OR _ (Q8 _));omega)
   refine ⟨Y,h1,h2,h3,λ{R} I Z K i=>?_⟩;show I i y (m:Int) (λs=>gM I K (i+1) ys s)=_;rw [Z,hw,hmx];exact h4 I Z K (i+1)
 obtain ⟨Y,h1,h2,h3,h4⟩:=key l [] 0 rfl (by omega) (by intro a O; simp at O) (λc _=>by omega)
 exact ⟨Y,h1,h2,h3,λ{R} I Z K=>h4 I Z K 0⟩
def pos (n:Net) (s:BA):Nat:=((aX n.cA s).getD 0).toNat
theorem RN {n:Net}{s:BA} (h:s ∈ n.cA):aX n.cA s=some (pos n s:Int)/\pos n s<n.cA.length:=by
 obtain ⟨k,I,hl,_⟩:=xM h;unfold pos;rw [I];exact ⟨rfl,hl⟩
def GQ (n:Net) (I:List Int) (b:aZ):Ed:=⟨I.getD (pos n b.pK) 0,I.getD (pos n b.To) 0⟩
theorem GR {n:Net} (hn:pG n) {I:List Int}{m:Nat} (hbl:I.length=n.cA.length) (hm:zr m I):Cj m (n.aU.map (GQ n I)):=λe he=>by
 obtain ⟨b,Z,rfl⟩:=Pg.1 he;obtain ⟨O,Y⟩:=hn.br b Z;have p1:=(RN O).2;have p2:=(RN Y).2;have q:∀ k,k<I.length->0<=I.getD k 0/\I.getD k 0<m:=λk J=>by
  rw [OC,N5 J];exact hm _ (OY J)
 exact ⟨(q _ (by omega)).1,(q _ (by omega)).2,(q _ (by omega)).1,(q _ (by omega)).2⟩
theorem Jo {n:Net} (hn:pG n) {I:List Int} (Y:oH n=some I) (hbl:I.length=n.cA.length) {m:Nat} (Z:m<=24) (hm:zr m I)
  (O:∀ {R:Type} (J:Nat->Int->Int->(Int->Option R)->Option R) (hb:∀ k y n nx,J k y n nx=nx (max n (i64.wrap (y+1)))) (K:Int->Option R),gM J K 0 I 0=K (m:Int)):
  Gd (fG n) (λt=>t.pV=I/\∃ c:Nat,Fs m (n.aU.map (GQ n I)) t.bH c):=by
 have l3:=hn.l3;unfold fG;refine Gd.bind_eq Y ?_;rw [O _ (λk y n nx=>by unfold sN; rfl)]
 refine Gd.seen (λpre out=>out=pre.map (GQ n I)) ?_ ?_ _ rfl
 ·rintro i y out nn pre hpre rfl hnx
  obtain ⟨hpl,hyl,_⟩:=sR hpre;obtain ⟨h1,h2⟩:=hn.br y hyl;obtain ⟨p1,p2⟩:=RN h1;obtain ⟨q1,q2⟩:=RN h2;have g:∀ k (hk:k<I.length),I[k]=I.getD k 0:=λk hk=>by
   rw [OC,N5 hk]; rfl
  unfold sO;refine Gd.bind_eq p1 (Gd.mR (by omega) (Gd.bind_eq q1 (Gd.mR (by omega) (Gd.nd ?_ (hnx _ ?_)))))
  ·simp only [PJ,OQ]; omega
  ·rw [Pu,g _ (by omega),g _ (by omega)]; rfl
 ·rintro out rfl
  exact Gd.hO (DQ m Z _ (GR hn hbl hm) (by simp; omega)) (λr ⟨_,hr⟩=>Gd.ret ⟨rfl,hr⟩)
section
variable {ν:Type}
def Hz (l:List (Int×ν)) (k:Int):Option ν:=(l.find? (λp=>p.1=k)).map (·.2)
theorem Ea (l:List (Int×ν)) (k:Int):rI l k=Hz l k:=by
 unfold rI Hz;have:∀ (l:List (Int×ν)) (i:Nat),(vI l k i).map (·.2)=(l.find? (λp=>p.1=k)).map (·.2):=by
  intro l
  induction l with
  | nil=>intro i; rfl
  | cons p l ih=>
   obtain ⟨a,v⟩:=p;intro i;simp only [vI,List.find?_cons]
   by_cases e:a=k
   ·simp [e]
   ·simp only [e,P1,Sd]; exact ih (i+1)
 exact this l 0
theorem HM {l:List (Int×ν)}{k:Int}:∀ {i j:Nat}{v:ν},vI l k i=some (j,v)->∃ q,j=i+q/\l[q]? = some (k,v):=by
 induction l with
 | nil=>intro i j v h; simp [vI] at h
 | cons p l ih=>
  obtain ⟨a,u⟩:=p;intro i j v h;simp only [vI] at h
  split at h
  ·rename_i e
   simp only [Ox,Qj] at h;obtain ⟨rfl,rfl⟩:=h;exact ⟨0,rfl,by rw [e]; rfl⟩
  ·obtain ⟨q,rfl,I⟩:=ih h
   exact ⟨q+1,by omega,I⟩
theorem HL {l:List (Int×ν)}{k:Int}:∀ {i:Nat},vI l k i=none->∀ p ∈ l,p.1≠k:=by
 induction l with
 | nil=>intro i _ p J; cases J
 | cons p l ih=>
  obtain ⟨a,u⟩:=p;intro i h;simp only [vI] at h
  split at h
  ·cases h
  ·rename_i e
   intro q I;rcases OM.1 I with rfl | I
   ·exact e
   ·exact ih h q I
def Ce (l:List (Int×ν)):Prop:=(l.map (·.1)).Nodup
theorem Ce.find {l:List (Int×ν)} (h:Ce l) {k:Int}{v:ν}:rI l k=some v↔(k,v) ∈ l:=by
 rw [Ea];unfold Hz Ce at *
 induction l with
 | nil=>simp
 | cons p l ih=>
  obtain ⟨a,u⟩:=p;simp only [QK,QV] at h;rw [List.find?_cons]
  by_cases e:a=k
  ·subst e
   simp only [decide_true,Py,Ox,OM,Qj,true_and];constructor
   ·intro I; exact .inl I.symm
   ·rintro (I | I)
    ·exact I.symm
    ·exact absurd (Pg.2 ⟨_,I,rfl⟩) h.1
  ·simp only [e,Sd,OM,Qj]
   rw [ih h.2];constructor
   ·exact λI=>.inr I
   ·rintro (⟨I,_⟩ | I)
    ·exact absurd I.symm e
    ·exact I
theorem Ce.put {l:List (Int×ν)} (h:Ce l) (k:Int) (v:ν):Ce (u4 l k v)/\∀ p,p ∈ u4 l k v↔p=(k,v)\/(p ∈ l/\p.1≠k):=by
 unfold u4;cases hm:vI l k 0 with
 | none=>
  have hno:=HL hm;refine ⟨?_,λp=>?_⟩
  ·show ((l++[(k,v)]).map (·.1)).Nodup
   rw [Pu,OO];refine ⟨h,by simp,?_⟩
   intro a Y b hb;obtain ⟨p,hp,rfl⟩:=Pg.1 Y;simp at hb;subst hb;exact hno p hp
  ·simp only [Om,OU]
   constructor
   ·rintro (O | O)
    ·exact .inr ⟨O,hno p O⟩
    ·exact .inl O
   ·rintro (O | ⟨O,_⟩)
    ·exact .inr O
    ·exact .inl O
 | some q=>
  obtain ⟨j,u⟩:=q;obtain ⟨i,rfl,hi⟩:=HM hm;obtain ⟨hil,Z⟩:=N_.1 hi;simp only [OB];have hmap:(l.set i (k,v)).map (·.1)=l.map (·.1):=by
   rw [List.map_set];apply AE;rw [OE,hi]; rfl
  refine ⟨by unfold Ce; rw [hmap]; exact h,λp=>?_⟩
  have huniq:∀ (a:Nat) (x:Int×ν),l[a]? = some x->x.1=k->a=i:=λa x Y hx=>by
   obtain ⟨J,I⟩:=N_.1 Y;unfold Ce at h;rw [List.nodup_iff_pairwise_ne,QZ] at h;rcases QJ a i with hlt | heq | hgt
   ·exact (h a i (by simpa using J) (by simpa using hil) hlt (by rw [P8,P8,I,Z,hx])).elim
   ·exact heq
   ·exact (h i a (by simpa using hil) (by simpa using J) hgt (by rw [P8,P8,I,Z,hx])).elim
  constructor
  ·intro hp
   obtain ⟨a,Y,I⟩:=Pq.1 hp;rw [SF] at I
   split at I
   ·exact .inl I.symm
   ·rename_i hne
    have J:a<l.length:=by simpa using Y
    refine .inr ⟨by rw [<- I]; exact OY J,λhk=>?_⟩
    exact hne (huniq a p (by rw [N5 J,I]) hk).symm
  ·rintro (rfl | ⟨hp,hk⟩)
   ·exact Pq.2 ⟨i,by simpa using hil,by simp⟩
   ·obtain ⟨a,Y,I⟩:=Pq.1 hp
    have hne:i≠a:=λe=>by
     subst e;rw [Z] at I;exact hk (by rw [<- I])
    exact Pq.2 ⟨a,by simpa using Y,by rw [List.getElem_set_ne hne]; exact I⟩
theorem Ce.EW {l:List (Int×ν)} (h:Ce l) (k I:Int) (v:ν):rI (u4 l k v) I=if I=k then some v else rI l I:=by
 obtain ⟨J,O⟩:=h.put k v
 split
 ·rename_i e
  rw [J.find,O]; exact .inl (by rw [e])
 ·rename_i e
  cases Z:rI l I with
  | some u=>
   rw [J.find,O];exact .inr ⟨h.find.1 Z,e⟩
  | none=>
   cases hg2:rI (u4 l k v) I with
   | none=>rfl
   | some u=>
    rcases (O _).1 (J.find.1 hg2) with Y | ⟨Y,_⟩
    ·exact absurd (Prod.mk.inj Y).1 e
    ·rw [h.find.2 Y] at Z; cases Z
theorem Ce.nil:Ce ([]:List (Int×ν)):=by unfold Ce; simp
end
structure uX (n:Net) (t:aQ):Prop where
 bl:t.pV.length=n.cA.length
 IX:t.bH.length<=24
 bi:zr t.bH.length t.pV
 comp:∃ c:Nat,Fs t.bH.length (n.aU.map (GQ n t.pV)) t.bH c
theorem JZ {n:Net} (hn:pG n):∃ t,fG n=some t/\uX n t:=by
 have g1:=hn.l1;obtain ⟨bus,hbus,Z,Y⟩:=G1 n hn;obtain ⟨m,hm1,I,_,J⟩:=JD n.cA.length hn.l1 bus Y;obtain ⟨t,ht,O,c,hc⟩:=Jo hn hbus Z (by omega) I J
 have hl:=hc.len;refine ⟨t,ht,⟨by rw [O]; exact Z,by omega,by rw [O,hl]; exact I,c,?_⟩⟩
 rw [O,hl];exact hc
def fr (I:List Int):List Nat:=(List.range I.length).filter (λi=>(List.range i).any (λj=>decide (I[j]? = I[i]?)))
theorem DZ {I:List Int}{i:Nat}:i ∈ fr I↔i<I.length/\∃ j:Nat,j<i/\I[j]? = I[i]? := by
 unfold fr;simp
theorem Hr (I:List Int):(fr I).Nodup:=List.Pairwise.filter _ List.nodup_range
theorem BO {I:List Int} (h:I.length<=24):(fr I).length<=23:=by
 have O:(fr I).length<=((List.range I.length).filter (λi=>decide (0<i))).length:=by
  unfold fr;rw [<- List.countP_eq_length_filter,<- List.countP_eq_length_filter];refine List.countP_mono_left (λi _ hi=>?_);simp at hi;obtain ⟨j,Y,_⟩:=hi;simp; omega
 have J:∀ m,((List.range m).filter (λi=>decide (0<i))).length<=m-1:=by
  intro m
  induction m with
  | zero=>simp
  | succ m ih=>
   rw [Ra,QS,OG];cases m with
   | zero=>simp
   | succ m=>simp at ih ⊢; omega
 have:=J I.length;omega
def AO (I:List Int) (i:Nat):Nat:=(fr I).getD i 0
theorem BM {I:List Int}{i:Nat} (h:i<(fr I).length):(fr I)[i]? = some (AO I i):=by
 unfold AO;rw [OC,N5 h]; rfl
theorem BN {I:List Int}{i:Nat} (h:i<(fr I).length):AO I i ∈ fr I:=Ol (BM h)
theorem xY {I:List Int}{i j:Nat} (hi:i<(fr I).length) (Y:j<(fr I).length) (e:AO I i=AO I j):i=j:=by
 have a:=BM hi;have b:=BM Y;rw [e] at a;have nd:=Hr I;obtain ⟨_,J⟩:=N_.1 a;obtain ⟨_,O⟩:=N_.1 b;exact (List.getElem_inj nd).1 (J.trans O.symm)
theorem LH (I:List Int):(fr I).map (λx:Nat=>(x:Int))=(List.range (fr I).length).map (λi=>(AO I i:Int)):=by
 apply PO;intro i;rw [OE,OE]
 by_cases h:i<(fr I).length
 ·rw [BM h,P2 h]; rfl
 ·rw [O4 (by omega),O4 (by simp; omega)]; rfl
def EO (n:Net) (I:List Int) (b:aZ):Rat×Nat×Nat:=(((b.X*b.AN:Int):Rat),(GQ n I b).a0.toNat,(GQ n I b).a1.toNat)
def zc (n:Net) (I:List Int):List (Rat×Nat×Nat):=n.aU.map (EO n I)
structure Mv (b:aZ):Prop where
 x:1<=b.X/\b.X<=10000
 t:500<=b.AN/\b.AN<=1500
 s:-1000<=b.Shift/\b.Shift<=1000
 l:0<=b.t_/\b.t_<=100000
theorem GZ {n:Net} (h:sB n) {b:aZ} (J:b ∈ n.aU):Mv b:=by
 obtain ⟨_,_,_,_,I⟩:=h.vb b J;unfold lz at I
 split at I
 ·omega
 ·rename_i h6
  simp [bI] at h6;exact ⟨by omega,by omega,by omega,by omega⟩
theorem Mv.q {b:aZ} (h:Mv b):500<=b.X*b.AN/\b.X*b.AN<=15000000:=by
 have I:=h.x; have J:=h.t
 have a:1*500<=b.X*b.AN:=Int.mul_le_mul I.1 J.1 (by omega) (by omega)
 have c:b.X*b.AN<=10000*1500:=Int.mul_le_mul I.2 J.2 (by omega) (by omega)
 omega
structure Mm (N:Nat) (l:List (Rat×Nat×Nat)):Prop where
 ll:l.length<=24
 el:∀ e ∈ l,e.2.1<N/\e.2.2<N
 q:∀ e ∈ l,∃ z:Int,e.1=(z:Rat)/\500<=z/\z<=15000000
theorem z8 {n:Net} (h:sB n) (hn:pG n) {t:aQ} (ht:uX n t):Mm t.bH.length (zc n t.pV):=by
 refine ⟨by unfold zc; rw [PJ]; exact h.l3,λe J=>?_,λe J=>?_⟩
 ·obtain ⟨b,I,rfl⟩:=Pg.1 J
  have:=GR hn ht.bl ht.bi (GQ n t.pV b) (Pg.2 ⟨b,I,rfl⟩);show (GQ n t.pV b).a0.toNat<_/\(GQ n t.pV b).a1.toNat<_;omega
 ·obtain ⟨b,I,rfl⟩:=Pg.1 J
  exact ⟨_,rfl,(GZ h I).q.1,(GZ h I).q.2⟩
theorem yt {N:Nat}{l:List (Rat×Nat×Nat)} (h:Mm N l) {e:Rat×Nat×Nat} (Y:e ∈ l):uj e.1/\500<=e.1/\e.1<=15000000:=by
 obtain ⟨z,I,J,O⟩:=h.q e Y;have a:=Tb.2 J;have b:=Tb.2 O;rw [<- I] at a b;exact ⟨⟨z,I⟩,a,b⟩
abbrev tq:Rat:=((1000000:Int):Rat)
abbrev Ju (F:Nat->Nat) (l:List (Rat×Nat×Nat)):Mt:=jZ ((l.map (xq tq)).map (nI F))
theorem IG:0<tq:=by
 have:((0:Int):Rat)<((1000000:Int):Rat):=Rat.intCast_lt_intCast.2 (by decide)
 simpa using this
theorem Ic {a:Nat}{c:Rat} (I:0<=c) (h:c<=(((2 ^ a:Nat):Int):Rat)):∀ k:Nat,0<=pr k (λ_=>c)/\pr k (λ_=>c)<=(((2 ^ (a*k):Nat):Int):Rat)
 | 0=>by
  refine ⟨by show (0:Rat)<=1; decide,?_⟩
  show (1:Rat)<=_;rw [SY,S6];exact Te
 | k+1=>by
  obtain ⟨J,O⟩:=Ic I h k;refine ⟨Ti J I,?_⟩;show pr k (λ_=>c)*c<=_;have e:a*(k+1)=a*k+a:=Nat.mul_succ a k;rw [e,SZ,OW,Tc];exact qw O h J I
theorem Lc {a b:Nat} (h:a<=32*b):(((2 ^ a:Nat):Int):Rat)<=wq b:=by
 unfold wq;rw [zK];have:2 ^ a<=2 ^ (32*b):=S1 (by decide) h
 exact Tb.2 (by omega)
theorem Kz {a c:Nat}{x:Rat} (I:0<=x) (h:x<=(((2 ^ a:Nat):Int):Rat)) (k:Nat) (J:a*k<=32*c):pr k (λ_=>x)<=wq c:=
 Tf (Ic I h k).2 (Lc J)
theorem EL {N:Nat}{l:List (Rat×Nat×Nat)} (h:Mm N l):1<=vw l/\vw l<=wq 18:=by
 have J:=h.ll;refine ⟨zU (λe I=>by have:=yt h I; grind),?_⟩
 refine Rat.le_trans (EK (q:=15000000) (λe I=>by have:=yt h I; constructor <;> grind)) (Kz (a:=24) (by decide) ?_ l.length (by omega))
 have:((15000000:Int):Rat)<=(((2 ^ 24:Nat):Int):Rat):=Tb.2 (by decide)
 exact this
theorem Dl {u:Nat}:∀ {l:List (Rat×Nat×Nat)},(∀ e ∈ l,1<=e.1)->ud u l<=vw l
 | [],_=>Te
 | e::l,h=>by
  have ih:=Dl (u:=u) (l:=l) (λe I=>h e (List.mem_cons_of_mem _ I));have J:=h e (List.mem_cons_self ..);have O:=yx (u:=u) (l:=l) (λe I=>h e (List.mem_cons_of_mem _ I));unfold ud vw;refine qw ?_ ih ?_ (by grind)
  ·split <;> grind
  ·split <;> grind
theorem Fp {N:Nat}:∀ {l:List (Rat×Nat×Nat)},(∀ e ∈ l,500<=e.1)->0<=AK (l.map (xq tq))/\AK (l.map (xq tq))<=2000*(((l.length:Nat):Int):Rat)
 | [],_=>⟨Te,by
  show (0:Rat)<=2000*((((0:Nat):Int)):Rat);simp⟩
 | e::l,h=>by
  obtain ⟨a,b⟩:=Fp (N:=N) (l:=l) (λe J=>h e (List.mem_cons_of_mem _ J));have I:=h e (List.mem_cons_self ..);have e1:AK ((e::l).map (xq tq))=tq / e.1+AK (l.map (xq tq)):=rfl;have p:0<e.1⁻¹:=Rat.inv_pos.2 (by grind)
  have O:=Rat.mul_inv_cancel e.1 (by grind)
  have Y:=Rat.mul_le_mul_of_nonneg_right I (Rat.le_of_lt p);have t1:tq=1000000:=rfl;have e2:(((e::l).length:Nat):Int)=(((l.length:Nat):Int))+1:=by simp
  rw [e1,Rat.div_def,t1,e2,Rat.intCast_add,Rat.intCast_one];constructor <;> grind
theorem Ec {N n:Nat}{F:Nat->Nat}{l:List (Rat×Nat×Nat)} (h:Mm N l) (hn:n<=23) (O:∀ i j,i<n->j<n->F i=F j->i=j):
  Nb n (Ju F l) (λi=>ud (F i) l) (λi c=>ud (F i) l*jZ ((l.map (xq tq)).map (pA F)) i c+dl i c) (λi=>ud (F i) l*(4*AK (l.map (xq tq)))+1):=by
 have h1:=h.ll;have I:∀ e ∈ l,1<=e.1:=λe J=>by have:=yt h J; grind
 have ws:=Fp (N:=N) (λe J=>(yt h J).2.1);have Z:(((l.length:Nat):Int):Rat)<=24:=Tb.2 (show ((l.length:Nat):Int)<=24 by omega)
 refine ⟨JH O ⟨_,rfl⟩ IG (λe J=>⟨(yt h J).1,I e J⟩),?_,λi _=>Rat.le_trans (Dl I) (EL h).2⟩;have a:=LV (n:=n) (F:=F) (l:=l) (s:=4*AK (l.map (xq tq))) (w:=192000) O I (by grind) (by grind)
 have b:=EL h;have c:pr n (λ_=>(192000:Rat)+1)<=wq 13:=Kz (a:=18) (by grind) (by
  have:((192001:Int):Rat)<=(((2 ^ 18:Nat):Int):Rat):=Tb.2 (by decide)
  have e:(192000:Rat)+1=((192001:Int):Rat):=by grind
  rw [e]; exact this) n (by omega)
 have d:vw l*vw l<=wq 36:=by
  rw [<- vo 18 18];exact qw b.2 b.2 (by grind) (by grind)
 have Y:0<=pr n (λ_=>(192000:Rat)+1):=nc (λ_ _=>by grind)
 have f:vw l*vw l*pr n (λ_=>(192000:Rat)+1)<=wq 49:=by
  rw [<- vo 36 13];exact qw d c (Rat.mul_nonneg (by grind) (by grind)) Y
 exact Tf a (Tf f (xe (by omega)))
theorem Hq (I:List Int):∀ i:Nat,∃ r,r<=i/\I[r]? = I[i]? /\ ∀ j,j<r->I[j]? ≠ I[i]? := by
 intro i
 induction i using Nat.strongRecOn with
 | ind i ih=>
  by_cases h:∃ j,j<i/\I[j]? = I[i]?
  ·obtain ⟨j,J,e⟩:=h
   obtain ⟨r,h1,O,Y⟩:=ih j J;exact ⟨r,by omega,O.trans e,λq hq Z=>Y q hq (Z.trans e.symm)⟩
  ·exact ⟨i,Ov _,rfl,λj J e=>h ⟨j,J,e⟩⟩
theorem Jh {n:Net}{t:aQ}{u v:Int} (h:wD (n.aU.map (GQ n t.pV)) u v):Lk ((zc n t.pV).map (xq tq)) u.toNat v.toNat:=by
 induction h with
 | refl=>exact .refl
 | snoc _ I ih=>
  obtain ⟨e,O,Y⟩:=I;obtain ⟨b,J,rfl⟩:=Pg.1 O;have hm:xq tq (EO n t.pV b) ∈ (zc n t.pV).map (xq tq):=Pg.2 ⟨_,Pg.2 ⟨b,J,rfl⟩,rfl⟩;rcases Y with ⟨rfl,rfl⟩ | ⟨rfl,rfl⟩
  ·exact .step ih (.inl hm)
  ·exact .step ih (.inr hm)
theorem Ee {n:Net} (h:sB n) (hn:pG n) {t:aQ} (ht:uX n t):Pd (fr t.bH).length (Ju (AO t.bH) (zc n t.pV)):=by
 have hE:=z8 h hn ht;obtain ⟨c,hc⟩:=ht.comp;refine LZ (λe he=>?_) (λi j hi Y e=>xY hi Y e) (λi hi=>?_)
 ·obtain ⟨d,hd,rfl⟩:=Pg.1 he
  have:=yt hE hd;show 0<tq / d.1;rw [Rat.div_def];exact Rat.mul_pos IG (Rat.inv_pos.2 (by grind))
 ·have hm:=DZ.1 (BN hi)
  obtain ⟨r,h1,O,h3⟩:=Hq t.bH (AO t.bH i);refine ⟨r,λj Y e=>?_,?_⟩
  ·have J:=DZ.1 (BN Y)
   rw [e] at J;obtain ⟨_,q,hq,Z⟩:=J;exact h3 q hq (Z.trans O)
  ·have hl:∀ (a:Nat),a<t.bH.length->lb t.bH (a:Int)=t.bH[a]! := λa ha=>by
    rw [Af ha]; simp [ha]
   have I:wD (n.aU.map (GQ n t.pV)) ((AO t.bH i:Nat):Int) ((r:Nat):Int):=by
    refine (hc.iff _ _ (by omega) (by omega) (by omega) (by omega)).1 ?_
    have hr:r<t.bH.length:=by omega
    rw [Af hm.1,Af hr];rw [N5 hr,N5 hm.1] at O;exact (N8 O).symm
   have:=Jh I;simpa using this
structure Md (n:Net) (t:aQ) (M:aP):Prop where
 top:M.ve=t
 md:Gx M (fr t.bH).length t.bH.length (AO t.bH) (zc n t.pV) tq
 KR:M.C.length=n.aU.length
 c:∀ (k:Nat) (y:LR),M.C[k]? = some y->∃ b,n.aU[k]? = some b/\pd y/\RL y 4/\rv y=(tq / ((b.X*b.AN:Int):Rat))*(((0-b.Shift:Int):Rat) / ((1000:Int):Rat))
 inv:Kl M.ra (fr t.bH).length (Ju (AO t.bH) (zc n t.pV))
theorem Fo {α Y:Type}{P:α->Y->Prop}{l:List α}{m:List Y} (hl:l.length=m.length) (h:∀ (k:Nat) (y:α),l[k]? = some y->∃ b,m[k]? = some b/\P y b) {x:α}{b:Y} (hx:P x b):∀ (k:Nat) (y:α),(l++[x])[k]? = some y->∃ J,(m++[b])[k]? = some J/\P y J:=by
 intro k y I
 by_cases e:k<l.length
 ·rw [Ph e] at I
  obtain ⟨J,Z,h2⟩:=h k y I;exact ⟨J,by rw [Ph (by omega)]; exact Z,h2⟩
 ·have O:=(N_.1 I).1
  rw [OG,OQ] at O;obtain rfl:k=l.length:=by omega
  rw [OD (Ov _),Po] at I;obtain rfl:=N8 I;exact ⟨b,by rw [hl,OD (Ov _),Po]; rfl,hx⟩
theorem DL {n:Net} (hn:pG n) {t:aQ} (ht:uX n t) {k:Nat} (J:k<n.cA.length):∃ v:Nat,t.pV[k]? = some (v:Int)/\v=(t.pV.getD k 0).toNat:=by
 have I:k<t.pV.length:=by rw [ht.bl]; exact J
 have O:=ht.bi _ (OY I);refine ⟨(t.pV[k]).toNat,?_,?_⟩
 ·rw [N5 I]; congr 1; omega
 ·rw [OC,N5 I]; rfl
theorem HO {n:Net} (h:sB n) (hn:pG n) {t:aQ} (hg:fG n=some t) (ht:uX n t):Gd (vC n) (λo=>∃ M,o=some M/\Md n t M):=by
 have hE:=z8 h hn ht;have hll:=h.l3;have hN:=ht.IX;unfold vC;refine Gd.bind_eq hg ?_;refine Gd.gM (λk ys s=>∃ pre,n.aU=pre++ys/\pre.length=k/\s.1=pre.map (λb=>((EO n t.pV b).2.1:Int))/\s.2.1=pre.map (λb=>((EO n t.pV b).2.2:Int))/\s.2.2.1.length=pre.length/\s.2.2.2.length=pre.length /\
  (∀ (k:Nat) (y:LR),s.2.2.1[k]? = some y->∃ b,pre[k]? = some b/\(pd y/\RL y 2/\rv y=tq / ((b.X*b.AN:Int):Rat))) /\
  (∀ (k:Nat) (y:LR),s.2.2.2[k]? = some y->∃ b,pre[k]? = some b/\(pd y/\RL y 4/\rv y=(tq / ((b.X*b.AN:Int):Rat))*(((0-b.Shift:Int):Rat) / ((1000:Int):Rat))))) ?_ ?_ n.aU 0 _
  ⟨[],rfl,rfl,rfl,rfl,rfl,rfl,λk y hy=>by simp at hy,λk y hy=>by simp at hy⟩
 ·rintro k b ys ⟨l1,l2,l3,l4⟩ nx ⟨pre,J,hpk,e1,e2,e3,e4,hB,hC⟩ hnx
  simp only at e1 e2 e3 e4 hB hC;subst e1 e2;have hb:b ∈ n.aU:=by rw [J]; simp
  have hkl:pre.length<24:=by
   have:n.aU.length=pre.length+(ys.length+1):=by rw [J]; simp
   omega
  obtain ⟨_,m1,m2,_⟩:=h.vb b hb;obtain ⟨p1,p2⟩:=RN m1;obtain ⟨q1,q2⟩:=RN m2;obtain ⟨u,u1,u2⟩:=DL hn ht p2;obtain ⟨v,v1,v2⟩:=DL hn ht q2;have V:=GZ h hb;have hq:=V.q;have hx:=V.x; have htp:=V.t; have hs:=V.s
  unfold vP;have w1:i64.wrap (b.X*b.AN)=b.X*b.AN:=cK ⟨by omega,by omega⟩
  have w2:i64.wrap (0-b.Shift)=0-b.Shift:=cK ⟨by omega,by omega⟩
  rw [w1,w2];refine Gd.bind_eq p1 (Gd.ix (by omega) (by rw [N7]; exact u1) (Gd.nd (by simp; omega) (Gd.bind_eq q1 (Gd.ix (by omega) (by rw [N7]; exact v1) (Gd.nd (by simp; omega) ?_)))))
  refine Gd.hO (EV (by omega) (by omega) (by omega)) (λs Y=>Gd.nd (by simp; omega) (Gd.hO (EV (by omega) (by omega) (by omega)) (λf hf=>Gd.hO (yv Y.1 hf.1 Y.2.1 hf.2.1 (by omega)) (λc hc=>Gd.nd (by simp; omega) ?_))))
  refine hnx _ ⟨pre++[b],by rw [J]; simp,by simp [hpk],?_,?_,by simp [e3],by simp [e4],?_,?_⟩
  ·simp only [Pu,QK,List.map_nil]
   rw [u2]; rfl
  ·simp only [Pu,QK,List.map_nil]
   rw [v2]; rfl
  ·exact Fo e3 hB ⟨Y.1,Y.2.1,Y.2.2⟩
  ·exact Fo e4 hC ⟨hc.1,hc.2.1,by rw [hc.2.2,Y.2.2,hf.2.2]⟩
 ·rintro k ⟨l1,l2,l3,l4⟩ ⟨pre,J,hpk,e1,e2,e3,e4,hB,hC⟩
  simp only at e1 e2 e3 e4 hB hC;rw [OX] at J;subst J;subst e1 e2;refine Gd.gM (λi ys s=>∃ pre,t.bH=pre++ys/\pre.length=i/\Ce s.1/\(∀ k:Int,(rI s.1 k).getD false=true↔k ∈ pre) /\
   s.2=((List.range i).filter (λi=>(List.range i).any (λj=>decide (t.bH[j]? = t.bH[i]?)))).map (λx:Nat=>(x:Int))) ?_ ?_ t.bH 0 _
   ⟨[],rfl,rfl,Ce.nil,λk=>by simp [rI,vI],rfl⟩
  ·rintro i y ys ⟨seen,free⟩ nx ⟨pre,J,Z,hk,hs,e⟩ hnx
   simp only at hk hs e;subst e;have hi:t.bH[i]? = some y:=by rw [J,OD (by omega),Z,Po]; rfl
   have hil:=(N_.1 hi).1;have hmem:y ∈ pre↔(List.range i).any (λj=>decide (t.bH[j]? = t.bH[i]?))=true:=by
    rw [List.any_eq_true];constructor
    ·intro hy
     obtain ⟨j,hj,he⟩:=Pq.1 hy;refine ⟨j,OS.2 (by omega),?_⟩
     rw [hi,J,Ph hj,N5 hj,he]; simp
    ·rintro ⟨j,hj,he⟩
     have hj:=OS.1 hj;have he:=N9 he;rw [hi,J,Ph (by omega)] at he
     exact Ol he
   have hfl:((List.range i).filter (λi=>(List.range i).any (λj=>decide (t.bH[j]? = t.bH[i]?)))).length<=i:=by
    have:=List.length_filter_le (λi=>(List.range i).any (λj=>decide (t.bH[j]? = t.bH[i]?))) (List.range i);simpa using this
   have O:Ce (u4 seen y true)/\∀ k:Int,(rI (u4 seen y true) k).getD false=true↔k ∈ pre++[y]:=by
    refine ⟨(hk.put y true).1,λk=>?_⟩;rw [hk.EW,Om,OU]
    split
    ·rename_i e; simp [e]
    ·rename_i e; rw [hs k]; simp [e]
   unfold vQ;refine Gd.ite (λhc=>?_) (λhc=>?_)
   ·have hc2:=hmem.1 ((hs y).1 hc)
    unfold rh;refine Gd.nd (by simp only [PJ,OQ]; omega) (hnx _ ⟨pre++[y],by rw [J]; simp,by simp [Z],O.1,O.2,?_⟩)
    simp only;rw [Ra,QS,Pu,SE,Oc hc2]
    rfl
   ·have hc2:¬ (List.range i).any (λj=>decide (t.bH[j]? = t.bH[i]?))=true:=λhh=>by
     have:=(hs y).2 (hmem.2 hh);rw [this] at hc; cases hc
    unfold rh;refine hnx _ ⟨pre++[y],by rw [J]; simp,by simp [Z],O.1,O.2,?_⟩
    simp only;rw [Ra,QS,Pu,SE,Ob hc2];simp
  ·rintro i ⟨seen,free⟩ ⟨pre,J,Z,hk,hs,e⟩
   simp only at e;rw [OX] at J;subst e;have hi:i=t.bH.length:=by rw [<- Z,<- J]
   subst hi;have I:Gx (aP.mk t (n.aU.map (λb=>((EO n t.pV b).2.1:Int))) (n.aU.map (λb=>((EO n t.pV b).2.2:Int))) l3 l4 ((fr t.bH).map (λx:Nat=>(x:Int))) []) (fr t.bH).length t.bH.length (AO t.bH) (zc n t.pV) tq:=by
    refine ⟨BO hN,LH _,λi j hi hj e=>xY hi hj e,λi hi=>(DZ.1 (BN hi)).1,hN,hE.ll,hE.el,?_,?_,by show l3.length=_; rw [e3]; simp [zc],λk y hy=>?_⟩
    ·simp [zc]
    ·simp [zc]
    ·obtain ⟨b,hb,y1,y2,y3⟩:=hB k y hy
     exact ⟨EO n t.pV b,by unfold zc; rw [OE,hb]; rfl,y1,y2,y3⟩
   have hinv:=FX I (Ee h hn ht) (Ec hE (BO hN) (λi j hi hj e=>xY hi hj e));refine Gd.hO hinv ?_;rintro _ ⟨rows,rfl,hI⟩;refine Gd.ret ⟨_,rfl,⟨rfl,?_,e4,hC,hI⟩⟩;exact ⟨I.hn,I.free,I.inj,I.lt,I.hN,I.ll,I.el,I.fr,I.to,I.bl,I.b⟩
def NL (l:List LR) (N:Nat) (P:Nat->LR->Prop):Prop:=l.length=N/\∀ (b:Nat) (y:LR),l[b]? = some y->P b y
theorem NL.mono {l:List LR}{N:Nat}{P P':Nat->LR->Prop} (h:NL l N P) (k:∀ b y,b<N->P b y->P' b y):NL l N P':=
 ⟨h.1,λb y I=>k b y (by rw [<- h.1]; exact (N_.1 I).1) (h.2 b y I)⟩
theorem NL.set {l:List LR}{N:Nat}{P:Nat->LR->Prop} (h:NL l N P) {b:Nat}{y:LR} (O:P b y):NL (l.set b y) N P:=by
 refine ⟨by rw [Pp]; exact h.1,λJ Y I=>?_⟩
 by_cases e:b=J
 ·subst e
  have hl:b<l.length:=by
   have:=(N_.1 I).1
   rwa [Pp] at this
  rw [Oz hl] at I;obtain rfl:=N8 I;exact O
 ·rw [Ow e] at I
  exact h.2 J Y I
theorem NL.snoc {l:List LR}{N:Nat}{P:Nat->LR->Prop} (h:NL l N P) {y:LR} (O:P N y):NL (l++[y]) (N+1) P:=by
 refine ⟨by simp [h.1],λb Y I=>?_⟩
 by_cases e:b<l.length
 ·rw [Ph e] at I
  exact h.2 b Y I
 ·have J:=(N_.1 I).1
  rw [OG,OQ] at J;obtain rfl:b=l.length:=by omega
  rw [OD (Ov _),Po] at I;obtain rfl:=N8 I;rw [h.1]; exact O
theorem NL.get {R:Type}{Q:R->Prop}{l:List LR}{N:Nat}{P:Nat->LR->Prop} (h:NL l N P) {b:Nat} (I:b<N) {f:LR->Option R} (J:∀ y,P b y->Gd (f y) Q):Gd (idx l (b:Int) f) Q:=by
 have hl:b<l.length:=by rw [h.1]; exact I
 exact Gd.mR hl (J _ (h.2 b _ (N5 hl)))
theorem JX {n:Net}{t:aQ}{M:aP} (hM:Md n t M) (ht:uX n t) (hn:pG n) {p:List Int} (hp:p.length=n.cA.length) (hb:∀ z ∈ p,-100000<=z/\z<=100000):
  Gd (oK M p) (λr=>NL r t.bH.length (λ_ y=>pd y/\RL y 2/\∃ z:Int,rv y=(z:Rat)/\-2400000<=z/\z<=2400000)):=by
 have h24:=hn.l1;have hN:=ht.IX;unfold oK i_;rw [hM.top];refine Gd.nd (by omega) ?_
 rw [N7];refine Gd.gM (λi ys s=>∃ pre,p=pre++ys/\pre.length=i/\s.length=t.bH.length/\∀ z ∈ s,-100000*(i:Int)<=z/\z<=100000*(i:Int)) ?_ ?_ p 0 _ ⟨[],rfl,rfl,by simp,λz hz=>by
  have:=SD hz;omega⟩
 ·rintro i y ys s nx ⟨pre,I,Y,hsl,hs⟩ O
  have hi:i<n.cA.length:=by rw [<- hp,I]; simp; omega
  have hy:=hb y (by rw [I]; simp)
  obtain ⟨v,v1,v2⟩:=DL hn ht hi;have hv:v<t.bH.length:=by
   have:=ht.bi _ (Ol v1);omega
  have hvs:v<s.length:=by omega
  unfold qU;rw [hM.top];refine Gd.ix (by omega) (by rw [N7]; exact v1) (Gd.mR hvs (Gd.mR hvs ?_))
  have hz:=hs _ (OY hvs);have hw:i64.wrap (s[v]+y)=s[v]+y:=cK ⟨by omega,by omega⟩
  rw [hw,N7];refine O _ ⟨pre++[y],by rw [I]; simp,by simp [Y],by rw [Pp]; exact hsl,λz hz'=>?_⟩
  rcases SK hz' with h1 | h1
  ·have:=hs z h1; omega
  ·subst h1; omega
 ·rintro i s ⟨pre,I,Y,hsl,hs⟩
  rw [OX] at I;have hil:i<=24:=by rw [<- Y,<- I,hp]; exact h24
  refine Gd.gM (λk ys r=>∃ pre,s=pre++ys/\pre.length=k/\NL r k (λ_ y=>pd y/\RL y 2/\∃ z:Int,rv y=(z:Rat)/\-2400000<=z/\z<=2400000)) ?_ ?_ s 0 _ ⟨[],rfl,rfl,rfl,λb y hb=>by simp at hb⟩
  ·rintro k y ys r nx ⟨pre,J,Z,hr⟩ O
   have hy:=hs y (by rw [J]; simp)
   have hkl:s.length=pre.length+(ys.length+1):=by rw [J]; simp
   have hrl:=hr.1;unfold qV;refine Gd.hO (w7 (by omega)) (λw hw=>Gd.nd (by simp; omega) (O _ ⟨pre++[y],by rw [J]; simp,by simp [Z],hr.snoc ⟨hw.1,hw.2.1,y,hw.2.2,by omega,by omega⟩⟩))
  ·rintro k r ⟨pre,J,Z,hr⟩
   rw [OX] at J;have hkn:k=t.bH.length:=by rw [<- Z,<- J,hsl]
   subst hkn;exact Gd.ret hr
theorem KU {a b:List LR}{n W:Nat}{A B:Nat->Rat} (hn:n<=24) (hW:W<=6000) (ha:NL a n (λj y=>pd y/\RL y W/\rv y=A j)) (hb:NL b n (λj y=>pd y/\RL y W/\rv y=B j)):
  Gd (tL a b) (λr=>pd r/\rv r=sm n (λj=>A j*B j)):=by
 unfold tL;refine Gd.hO (w7 (n:=0) (by omega)) (λz hz=>?_)
 rw [ha.1,N7];refine Gd.mn (λm k s=>k+m=n/\∃ r:LR,s=(r.N.minus,r.N.words,r.D.minus,r.D.words)/\pd r/\RL r (2+(2*W+1)*k)/\rv r=sm k (λj=>A j*B j)) ?_ ?_ n 0 _ ⟨by omega,z,rfl,hz.1,hz.2.1,by rw [hz.2.2]; rfl⟩
 ·rintro m k _ nx ⟨hk,r,rfl,hr,J,hv⟩ Z
  have I:k<n:=by omega
  have hbig:(2*W+1)*k<=(2*W+1)*23:=SX _ (by omega)
  have hsucc:(2*W+1)*(k+1)=(2*W+1)*k+(2*W+1):=Nat.mul_succ _ _;unfold uH;refine ha.get I (λy hy=>?_);have skip:A k*B k=0->Gd (mS nx r.N.minus r.N.words r.D.minus r.D.words) (λr=>pd r/\rv r=sm n (λj=>A j*B j)):=λh0=>by
   unfold mS;refine Z _ ⟨by omega,r,rfl,hr,J.mono (by omega),?_⟩
   rw [hv];show _=sm k (λj=>A j*B j)+A k*B k;rw [h0]; grind
  rw [w5 hy.1,hy.2.2];refine Gd.ite (λh=>skip (by rw [of_decide_eq_true h]; grind)) (λ_=>hb.get I (λu hu=>?_))
  rw [w5 hu.1,hu.2.2];refine Gd.ite (λ_=>ha.get I (λy2 Y=>hb.get I (λu2 O=>?_))) (λh=>skip (by
   have h1:decide (B k=0)=true:=by simpa using h
   rw [of_decide_eq_true h1]; grind))
  refine Gd.hO (yv Y.1 O.1 Y.2.1 O.2.1 (by omega)) (λc hc=>Gd.hO (vX (a:=⟨⟨r.N.minus,r.N.words⟩,⟨r.D.minus,r.D.words⟩⟩) hr hc.1 J hc.2.1 (by omega)) (λd hd=>?_))
  unfold mS;refine Z _ ⟨by omega,d,rfl,hd.1,hd.2.1.mono (by omega),?_⟩
  rw [hd.2.2,hc.2.2,Y.2.2,O.2.2];show rv r+_=sm k (λj=>A j*B j)+A k*B k;rw [hv]
 ·rintro k _ ⟨hk,r,rfl,hr,J,hv⟩
  obtain rfl:k=n:=by omega
  exact Gd.ret ⟨hr,hv⟩
theorem Jd {q s:Int} (hq:500<=q) (hs:-1000<=s/\s<=1000):-2000<=(tq / (q:Rat))*((s:Rat) / ((1000:Int):Rat))/\(tq / (q:Rat))*((s:Rat) / ((1000:Int):Rat))<=2000/\(tq / (q:Rat))*((s:Rat) / ((1000:Int):Rat))=(((1000*s:Int):Rat)) / (q:Rat):=by
 have O:((500:Int):Rat)<=(q:Rat):=Tb.2 hq;have Z:((-1000:Int):Rat)<=(s:Rat):=Tb.2 hs.1;have h3:(s:Rat)<=((1000:Int):Rat):=Tb.2 hs.2;have e1:((500:Int):Rat)=500:=rfl;have e2:((-1000:Int):Rat) = -1000:=by rw [Td]; rfl
 have J:((1000:Int):Rat)=1000:=rfl;have Y:tq=1000000:=rfl;rw [e1] at O; rw [e2] at Z; rw [J] at h3 ⊢
 have p:0<((q:Rat))⁻¹:=Rat.inv_pos.2 (by grind)
 have i1:=Rat.mul_inv_cancel (q:Rat) (by grind)
 have i2:=Rat.mul_le_mul_of_nonneg_right O (Rat.le_of_lt p);have i3:(q:Rat)⁻¹<=1 / 500:=by grind
 have I:(tq / (q:Rat))*((s:Rat) / 1000)=(1000*(s:Rat))*(q:Rat)⁻¹:=by rw [Y,Rat.div_def,Rat.div_def]; grind
 have m:=zT (x:=1000*(s:Rat)) (y:=(q:Rat)⁻¹) (a:=1000000) (b:=1 / 500) (by grind) (by grind) (by grind) i3
 refine ⟨by rw [I]; grind,by rw [I]; grind,?_⟩
 rw [I,Tc,J,Ta]
def Lg (l:List (Rat×Nat×Nat)) (W:Nat) (C:Rat) (b:Nat) (y:LR):Prop:=pd y/\RL y W/\uj (ud b l*rv y)/\-C<=rv y/\rv y<=C
theorem Lg.mono {l:List (Rat×Nat×Nat)}{W J:Nat}{C I:Rat}{b:Nat}{y:LR} (h:Lg l W C b y) (O:W<=J) (Y:C<=I):Lg l J I b y:=
 ⟨h.1,h.2.1.mono O,h.2.2.1,by have:=h.2.2.2.1; grind,by have:=h.2.2.2.2; grind⟩
theorem EY {a:Rat} (h:uj a):uj (-a):=by
 obtain ⟨z,rfl⟩:=h;exact ⟨-z,by rw [Td]⟩
theorem Lg.sub {l:List (Rat×Nat×Nat)}{W:Nat}{C:Rat}{b:Nat}{y c:LR} (h:Lg l W C b y) (hc:Lg l 4 2000 b c) (hW:W<=1000):Gd (kY y c) (Lg l (W+5) (C+2000) b):=by
 obtain ⟨a1,J,O,a4,a5⟩:=h;obtain ⟨Y,Z,c3,c4,c5⟩:=hc;refine (xd a1 Y J Z (by omega)).mono (λr I=>⟨I.1,I.2.1.mono (by omega),?_,?_,?_⟩)
 ·rw [I.2.2]
  have e:ud b l*(rv y-rv c)=ud b l*rv y+-(ud b l*rv c):=by grind
  rw [e]; exact xZ O (EY c3)
 ·rw [I.2.2]; grind
 ·rw [I.2.2]; grind
theorem Lg.add {l:List (Rat×Nat×Nat)}{W:Nat}{C:Rat}{b:Nat}{y c:LR} (h:Lg l W C b y) (hc:Lg l 4 2000 b c) (hW:W<=1000):Gd (ke y c) (Lg l (W+5) (C+2000) b):=by
 obtain ⟨a1,J,O,a4,a5⟩:=h;obtain ⟨Y,Z,c3,c4,c5⟩:=hc;refine (vX a1 Y J Z (by omega)).mono (λr I=>⟨I.1,I.2.1.mono (by omega),?_,?_,?_⟩)
 ·rw [I.2.2]
  have e:ud b l*(rv y+rv c)=ud b l*rv y+ud b l*rv c:=by grind
  rw [e]; exact xZ O c3
 ·rw [I.2.2]; grind
 ·rw [I.2.2]; grind
theorem HK {n:Net}{t:aQ}{M:aP} (I:Md n t M) {k:Nat}{b:aZ} (J:n.aU[k]? = some b):
  M.pK[k]? = some ((EO n t.pV b).2.1:Int)/\M.To[k]? = some ((EO n t.pV b).2.2:Int)/\(zc n t.pV)[k]? = some (EO n t.pV b):=by
 have e:(zc n t.pV)[k]? = some (EO n t.pV b):=by unfold zc; rw [OE,J]; rfl
 refine ⟨?_,?_,e⟩
 ·rw [I.md.fr]; exact Bw (λe:Rat×Nat×Nat=>(e.2.1:Int)) e
 ·rw [I.md.to]; exact Bw (λe:Rat×Nat×Nat=>(e.2.2:Int)) e
theorem ME {n:Net}{t:aQ}{M:aP} (h:sB n) (hn:pG n) (hM:Md n t M) (ht:uX n t) {k:Nat}{c:LR} (hc:M.C[k]? = some c):
  ∃ b,n.aU[k]? = some b/\Lg (zc n t.pV) 4 2000 (EO n t.pV b).2.1 c/\Lg (zc n t.pV) 4 2000 (EO n t.pV b).2.2 c:=by
 obtain ⟨b,J,O,Y,c3⟩:=hM.c k c hc;have V:=GZ h (Ol J);have Z:=z8 h hn ht;obtain ⟨_,_,e⟩:=HK hM J;have hm:=Ol e;have hs:=V.s;obtain ⟨d1,d2,d3⟩:=Jd (q:=b.X*b.AN) (s:=0-b.Shift) V.q.1 (by omega)
 rw [<- c3] at d1 d2 d3;have I:=λ(u:Nat) hu=>B8 (u:=u) (l:=zc n t.pV) (λe he=>⟨(yt Z he).1,by have:=(yt Z he).2.1; grind⟩) _ hm hu (((1000*(0-b.Shift):Int)):Rat) ⟨_,rfl⟩
 refine ⟨b,J,⟨O,Y,?_,d1,d2⟩,⟨O,Y,?_,d1,d2⟩⟩
 ·rw [d3]; exact I _ (.inl rfl)
 ·rw [d3]; exact I _ (.inr rfl)
theorem yF (k:Nat):(((k+1:Nat):Int):Rat)=((k:Int):Rat)+1:=by rw [Sw,Rat.intCast_add]; rfl
theorem Jz {n:Net}{t:aQ}{M:aP} (h:sB n) (hn:pG n) (hM:Md n t M) (ht:uX n t) {p:List LR}
  (hp:NL p t.bH.length (λ_ y=>pd y/\RL y 2/\∃ z:Int,rv y=(z:Rat)/\-2400000<=z/\z<=2400000)) {Q:List LR->Prop}{K:List LR->Option (List LR)} (hK:∀ s,NL s t.bH.length (Lg (zc n t.pV) 300 2500000)->Gd (K s) Q):
  Gd (gM (λk y s n=>nJ M k y s n) K 0 M.C p) Q:=by
 have hE:=z8 h hn ht;have hcl:=hM.KR;have h24:=h.l3;refine Gd.gM (λk ys s=>∃ pre,M.C=pre++ys/\pre.length=k/\NL s t.bH.length (Lg (zc n t.pV) (2+10*k) (2400000+4000*((k:Int):Rat)))) ?_ ?_ M.C 0 p ⟨[],rfl,rfl,hp.mono (λb y hb Y=>?_)⟩
 ·rintro k c ys s nx ⟨pre,J,O,hs⟩ hnx
  have hck:M.C[k]? = some c:=by rw [J,OD (by omega),O,Po]; rfl
  obtain ⟨b,hb,g1,g2⟩:=ME h hn hM ht hck;obtain ⟨f1,f2,f3⟩:=HK hM hb;have I:=hE.el _ (Ol f3);have hk24:k<24:=by have:=(N_.1 hck).1; omega
  generalize EO n t.pV b=e at g1 g2 f1 f2 f3 I;unfold nJ;refine Gd.ix (by omega) (by rw [N7]; exact f1) (Gd.ix (by omega) (by rw [N7]; exact f1) (hs.get I.1 (λy Y=>Gd.hO (Y.sub g1 (by omega)) (λr hr=>hs.get I.1 (λ_ _=>?_)))))
  have c0:(2400000+4000*((k:Int):Rat))<=(2400000+4000*((k:Int):Rat))+2000:=by grind
  have Z:=(hs.mono (P':=Lg (zc n t.pV) (2+10*k+5) (2400000+4000*((k:Int):Rat)+2000)) (λb y _ Y=>Y.mono (by omega) c0)).set (b:=e.2.1) hr
  refine Gd.ix (by omega) (by rw [N7]; exact f2) (Gd.ix (by omega) (by rw [N7]; exact f2) ?_)
  rw [N7,N7];refine Z.get I.2 (λy2 hy2=>Gd.hO (hy2.add g2 (by omega)) (λr2 hr2=>Z.get I.2 (λ_ _=>?_)))
  have c1:(2400000+4000*((k:Int):Rat))+2000<=2400000+4000*(((k+1:Nat):Int):Rat):=by rw [yF]; grind
  have c2:(2400000+4000*((k:Int):Rat))+2000+2000<=2400000+4000*(((k+1:Nat):Int):Rat):=by rw [yF]; grind
  exact hnx _ ⟨pre++[c],by rw [J]; simp,by simp [O],(Z.mono (λb y _ Y=>Y.mono (by omega) c1)).set (hr2.mono (by omega) c2)⟩
 ·rintro k s ⟨pre,J,O,hs⟩
  rw [OX] at J;have hk24:k<=24:=by rw [<- O,<- J]; omega
  have hc:((k:Int):Rat)<=((24:Int):Rat):=Tb.2 (by omega)
  have e24:((24:Int):Rat)=24:=rfl;rw [e24] at hc;exact hK s (hs.mono (λb y _ Y=>Y.mono (by omega) (by grind)))
 ·obtain ⟨y1,y2,z,y3,y4,y5⟩:=Y
  have e0:(((0:Nat):Int):Rat)=0:=rfl;have a:=Tb.2 y4;have b:=Tb.2 y5;have e1:((2400000:Int):Rat)=2400000:=rfl;rw [Td,e1] at a;rw [e1] at b;refine ⟨y1,y2,?_,?_,?_⟩
  ·rw [y3]
   exact sC (zy (λe he=>(yt hE he).1)) ⟨z,rfl⟩
  ·rw [y3,e0]; grind
  ·rw [y3,e0]; grind
def An (D:Rat) (y:LR):Prop:=pd y/\∃ T,uj T/\-wq 140<=T/\T<=wq 140/\rv y=T / D
structure Dv (D:Rat):Prop where
 i:uj D
 z:D≠0
 a:-wq 60<=D
 b:D<=wq 60
theorem Hv:uj 0:=⟨0,rfl⟩
theorem An.rb {D:Rat} (I:Dv D) {y:LR} (h:An D y):RB (rv y) 141:=by
 obtain ⟨_,T,t1,t2,t3,e⟩:=h;rw [e];have:=xe (show 60<=140 by omega)
 have J:=I.a;have O:=I.b;exact yu t1 I.i t2 t3 (by grind) (by grind) I.z (by omega)
theorem An.zero {D:Rat}{y:LR} (J:pd y) (I:rv y=0):An D y:=⟨J,0,Hv,by have:=vp 140; grind,by have:=vp 140; grind,by rw [I,Rat.div_def]; grind⟩
theorem KE {f:Nat->Rat}{b:Rat} (I:0<=b):∀ {n:Nat},(∀ i,i<n->-b<=f i/\f i<=b)->-(((n:Int):Rat)*b)<=sm n f/\sm n f<=((n:Int):Rat)*b
 | 0,_=>by
  show -((((0:Nat):Int):Rat)*b)<=0/\0<=((((0:Nat):Int):Rat)*b);have e:((((0:Nat):Int)):Rat)=0:=rfl;rw [e]; grind
 | n+1,h=>by
  have J:=KE I (n:=n) (λi hi=>h i (by omega))
  have O:=h n (by omega)
  rw [yF];show _<=sm n f+f n/\sm n f+f n<=_
  grind
theorem GO {n:Nat}{A B m:Mt}{L R:Nat->Rat} (h:Nb n A L B R) (J:Pd n A) (hn:n<=23) (hG:Gj n A n m) {i:Nat} (hi:i<n) {x:Nat->Rat} (hx:∀ p,p<n->uj (L p*x p)/\-2500000<=x p/\x p<=2500000) {y:LR} (hy:pd y)
  (e:rv y=sm n (λp=>m i (n+p)*x p)):An (Dk A L n) y:=by
 have d0:=(h.D0 J (Ov n)).1;have key:∀ p,p<n->∃ T,uj T/\-wq 139<=T/\T<=wq 139/\m i (n+p)*x p=T*(Dk A L n)⁻¹:=λp I=>by
  obtain ⟨N,n1,n2,n3,e1⟩:=hG.num h.s (Ov n) hi I;rw [Ob (by omega)] at e1
  have Y:m i (n+p)*Dk A L n=N*L p:=by
   have e2:1*m i (n+p)*Dk A L n=N*L p:=e1
   grind
  obtain ⟨x1,x2,x3⟩:=hx p I;have hP:=h.hP;have p1:1<=pr n R:=B5 (λj hj=>h.s.R1 hj);have r1:=h.s.R1 hi;have r2:=h.R hi;have hNb:pr n R*R i<=wq 120:=by
   rw [<- vo 60 60];exact qw hP r2 (by grind) (by grind)
  have l1:=h.s.l1 p I;have l2:=h.hL p I;have w1:(2500000:Rat)<=wq 1:=by
   have:((2500000:Int):Rat)<=(((WB ^ 1:Nat):Int):Rat):=Tb.2 (by decide)
   exact this
  have Z:=zT (x:=L p) (y:=x p) (a:=wq 18) (b:=wq 1) (by have:=vp 18; grind) l2 (by grind) (by grind)
  rw [vo] at Z;have q2:=zT (x:=N) (y:=L p*x p) (a:=wq 120) (b:=wq (18+1)) (by grind) (by grind) Z.1 Z.2
  rw [vo] at q2;refine ⟨N*(L p*x p),sC n1 x1,q2.1,q2.2,?_⟩;have i1:=Rat.mul_inv_cancel _ d0;have e3:m i (n+p)=N*L p*(Dk A L n)⁻¹:=by rw [<- Y]; grind
  rw [e3]; grind
 have:∃ T:Nat->Rat,∀ p,p<n->uj (T p)/\-wq 139<=T p/\T p<=wq 139/\m i (n+p)*x p=(Dk A L n)⁻¹*T p:=by
  refine ⟨λp=>m i (n+p)*x p*Dk A L n,λp I=>?_⟩;obtain ⟨T,t1,t2,t3,t4⟩:=key p I;have i1:=Rat.mul_inv_cancel _ d0;have e2:m i (n+p)*x p*Dk A L n=T:=by rw [t4]; grind
  simp only;rw [e2];exact ⟨t1,t2,t3,by rw [t4]; grind⟩
 obtain ⟨T,O⟩:=this;have hs:sm n (λp=>m i (n+p)*x p)=(Dk A L n)⁻¹*sm n T:=by
  rw [<- rK];exact o_ (λp J=>(O p J).2.2.2)
 have hb:=KE (f:=T) (b:=wq 139) (by have:=vp 139; grind) (n:=n) (λp J=>⟨(O p J).2.1,(O p J).2.2.1⟩)
 have hn2:((n:Int):Rat)*wq 139<=wq 140:=by
  have e1:wq 1*wq 139=wq 140:=vo 1 139;rw [<- e1];have h1:((n:Int):Rat)<=wq 1:=Tb.2 (show (n:Int)<=((WB ^ 1:Nat):Int) by
   have:((WB ^ 1:Nat):Int)=4294967296:=by decide
   rw [this]; omega)
  exact Rat.mul_le_mul_of_nonneg_right h1 (by have:=vp 139; grind)
 refine ⟨hy,sm n T,D6 (λp J=>(O p J).1),by grind,by grind,?_⟩
 rw [e,hs,Rat.div_def]; grind
theorem An.mk' {D:Rat} (I:Dv D) {y z:LR} (h:An D y) (k:An D z):RB (rv y-rv z) 142:=by
 obtain ⟨_,T,t1,t2,t3,e⟩:=h;obtain ⟨_,U,u1,u2,Y,f⟩:=k;have e1:rv y-rv z=(T+-U) / D:=by rw [e,f,Rat.div_def,Rat.div_def,Rat.div_def]; grind
 have w:wq 140+wq 140<=wq 141:=by
  have e2:wq 1*wq 140=wq 141:=vo 1 140;rw [<- e2];have J:((2:Int):Rat)<=wq 1:=Tb.2 (by decide)
  have O:((2:Int):Rat)=2:=rfl;rw [O] at J;have:=Rat.mul_le_mul_of_nonneg_right J (show 0<=wq 140 by have:=vp 140; grind)
  grind
 rw [e1];have Z:=xe (show 60<=141 by omega)
 have d1:=I.a;have d2:=I.b;exact yu (xZ t1 (EY u1)) I.i (by grind) (by grind) (by grind) (by grind) I.z (by omega)
def LD (n:Net) (t:aQ):Rat:=Dk (Ju (AO t.bH) (zc n t.pV)) (λi=>ud (AO t.bH i) (zc n t.pV)) (fr t.bH).length
theorem G8 {n:Net} (h:sB n) (hn:pG n) {t:aQ} (ht:uX n t):Dv (LD n t):=by
 have J:=z8 h hn ht;have I:=Ec J (BO ht.IX) (λi j hi O e=>xY hi O e);have Y:=Ee h hn ht;obtain ⟨a,b,c⟩:=I.Db (Ov _);exact ⟨a,(I.D0 Y (Ov _)).1,b,c⟩
theorem Fz {n:Net}{t:aQ}{M:aP} (h:sB n) (hn:pG n) (hM:Md n t M) (ht:uX n t) {s:List LR} (hs:NL s t.bH.length (Lg (zc n t.pV) 300 2500000)):
  Gd (nC M s) (λr=>NL r t.bH.length (λ_ y=>An (LD n t) y)):=by
 have hE:=z8 h hn ht;have hnf:=BO ht.IX;have hNb:=Ec hE hnf (λi j hi O e=>xY hi O e);have hp:=Ee h hn ht;have hfl:M.qK.length=(fr t.bH).length:=by rw [hM.md.free]; simp
 have hfr:∀ k (y:Int),M.qK[k]? = some y->k<(fr t.bH).length/\y=(AO t.bH k:Int):=λk y Y=>by
  have hk1:=(N_.1 Y).1;rw [hM.md.free,OE,P2 (by omega)] at Y
  exact ⟨by omega,(N8 Y).symm⟩
 obtain ⟨m,hG,hR⟩:=hM.inv.ex;unfold nC;rw [hfl,N7];refine Gd.nd (by omega) ?_
 refine Gd.gM (λk ys r=>∃ pre,M.qK=pre++ys/\pre.length=k/\r.length=(fr t.bH).length/\∀ j,j<k->r[j]? = s[AO t.bH j]?) ?_ ?_ M.qK 0 _ ⟨[],rfl,rfl,by simp,λj O=>by omega⟩
 ·rintro k y ys r nx ⟨pre,I,J,hrl,hr⟩ hnx
  obtain ⟨Y,rfl⟩:=hfr k y (by rw [I,OD (by omega),J,Po]; rfl)
  have Z:=hM.md.lt k Y;unfold pP;refine Gd.mR (by rw [hs.1]; exact Z) (Gd.mR (by omega) ?_)
  rw [N7];refine hnx _ ⟨pre++[(AO t.bH k:Int)],by rw [I]; simp,by simp [J],by rw [Pp]; exact hrl,λj O=>?_⟩
  by_cases e:k=j
  ·subst e
   rw [Oz (by omega),N5]
  ·rw [Ow e]; exact hr j (by omega)
 ·rintro k r ⟨pre,I,J,hrl,hr⟩
  rw [OX] at I;have Y:k=(fr t.bH).length:=by rw [<- J,<- I,hfl]
  subst Y;unfold i_;rw [hM.top];refine Gd.hO (AM (by have:=ht.IX; omega)) ?_
  rintro _ ⟨z,rfl,z1,z2,z3⟩;have hx:∀ j,j<(fr t.bH).length->∃ y,r[j]? = some y/\Lg (zc n t.pV) 300 2500000 (AO t.bH j) y:=λj O=>by
   have Z:=hM.md.lt j O;have hl:AO t.bH j<s.length:=by rw [hs.1]; exact Z
   have hsj:=N5 hl;exact ⟨s[AO t.bH j],by rw [hr j O,hsj],hs.2 _ _ hsj⟩
  have hb:NL r (fr t.bH).length (λj y=>pd y/\RL y 6000/\rv y=((r[j]?).map rv).getD 0):=⟨hrl,λj y O=>by
   have hj1:=(N_.1 O).1;obtain ⟨y2,e,g⟩:=hx j (by omega)
   rw [O] at e;obtain rfl:=N8 e;exact ⟨g.1,g.2.1.mono (by omega),by rw [O]; rfl⟩⟩
  have hxx:∀ p,p<(fr t.bH).length->uj (ud (AO t.bH p) (zc n t.pV)*((r[p]?).map rv).getD 0)/\-2500000<=((r[p]?).map rv).getD 0/\((r[p]?).map rv).getD 0<=2500000:=λp hp=>by
   obtain ⟨y2,e,g⟩:=hx p hp;rw [e];exact ⟨g.2.2.1,g.2.2.2.1,g.2.2.2.2⟩
  refine Gd.gM (λk ys o=>∃ pre,M.qK=pre++ys/\pre.length=k/\NL o t.bH.length (λ_ y=>An (LD n t) y)) ?_ ?_ M.qK 0 _ ⟨[],rfl,rfl,⟨by simp,λb y hb=>by
   have:=SD (Ol hb);subst this;exact An.zero z1 z3⟩⟩
  ·rintro k y ys o nx ⟨pre,I,J,ho⟩ hnx
   obtain ⟨Y,rfl⟩:=hfr k y (by rw [I,OD (by omega),J,Po]; rfl)
   have Z:=hM.md.lt k Y;obtain ⟨row,w1,w2,w3⟩:=hR.row k Y;have ha:NL row (fr t.bH).length (λj y=>pd y/\RL y 6000/\rv y=m k ((fr t.bH).length+j)):=⟨w2,λj y O=>by
    have hj1:=(N_.1 O).1;obtain ⟨y2,e,g⟩:=w3 j (by omega)
    rw [O] at e;obtain rfl:=N8 e;exact g⟩
   unfold pQ;refine Gd.ix (by omega) (by rw [N7]; exact w1) (Gd.hO (KU (by omega) (by omega) ha hb) (λd hd=>ho.get Z (λ_ _=>?_)))
   rw [N7];exact hnx _ ⟨pre++[(AO t.bH k:Int)],by rw [I]; simp,by simp [J],ho.set (GO hNb hp hnf hG Y hxx hd.1 hd.2)⟩
  ·rintro k o ⟨_,_,_,ho⟩
   exact Gd.ret ho
theorem Fq {n:Net}{t:aQ}{M:aP} (h:sB n) (hn:pG n) (I:Md n t M) (ht:uX n t) {p:List LR}
  (J:NL p t.bH.length (λ_ y=>pd y/\RL y 2/\∃ z:Int,rv y=(z:Rat)/\-2400000<=z/\z<=2400000)):Gd (nB M p) (λr=>NL r t.bH.length (λ_ y=>An (LD n t) y)):=by
 have Y:=ht.IX;have Z:=J.1;unfold nB;exact Gd.nd (by omega) (Jz h hn I ht J (λs hs=>Gd.hO (Fz h hn I ht hs) (λr O=>Gd.ret O)))
theorem Gt {n:Net}{t:aQ}{M:aP} (h:sB n) (hn:pG n) (O:Md n t M) (ht:uX n t) {a:List LR} (ha:NL a t.bH.length (λ_ y=>An (LD n t) y)):
  Gd (nZ M a) (λr=>NL r n.aU.length (λ_ y=>pd y/\fits (rv y))):=by
 have hE:=z8 h hn ht;have hD:=G8 h hn ht;have hcl:=O.KR;have h24:=h.l3;unfold nZ;refine Gd.gM (λk ys r=>∃ pre,M.C=pre++ys/\pre.length=k/\NL r k (λ_ y=>pd y/\fits (rv y))) ?_ ?_ M.C 0 _ ⟨[],rfl,rfl,rfl,λb y hb=>by simp at hb⟩
 ·rintro k c ys r nx ⟨pre,I,J,hr⟩ hnx
  have Z:M.C[k]? = some c:=by rw [I,OD (by omega),J,Po]; rfl
  have hk24:k<24:=by have:=(N_.1 Z).1; omega
  obtain ⟨b,hb,c1,c2,c3⟩:=O.c k c Z;obtain ⟨f1,f2,f3⟩:=HK O hb;have hlt:=hE.el _ (Ol f3);have Y:k<M.B_.length:=by rw [O.md.bl]; exact (N_.1 f3).1
  obtain ⟨e,e1,b1,b2,b3⟩:=O.md.b k M.B_[k] (N5 Y);rw [f3] at e1;obtain rfl:=N8 e1;obtain ⟨q,q1,q2,q3⟩:=hE.q _ (Ol f3);have hBR:RB (rv M.B_[k]) 1:=by
   rw [b3,q1];exact RB.MJ (by decide) (by omega) (by omega)
  have hrl:=hr.1;unfold qv;refine Gd.ix (by omega) (by rw [N7]; exact N5 Y) (Gd.ix (by omega) (by rw [N7]; exact f1) (ha.get hlt.1 (λy hy=>Gd.ix (by omega) (by rw [N7]; exact f2) (ha.get hlt.2 (λz hz=>?_)))))
  refine Gd.hO (xd hy.1 hz.1 (hy.1.rb (hy.rb hD)) (hz.1.rb (hz.rb hD)) (by omega)) (λd hd=>?_)
  have hdR:RB (rv d) 142:=by rw [hd.2.2]; exact hy.mk' hD hz
  refine Gd.hO (yv b1 hd.1 (b1.rb hBR) (hd.1.rb hdR) (by omega)) (λf hf=>?_)
  refine Gd.hO (vX hf.1 c1 hf.2.1 c2 (by omega)) (λg hg=>Gd.nd (by simp; omega) (hnx _ ⟨pre++[c],by rw [I]; simp,by simp [J],hr.snoc ⟨hg.1,?_⟩⟩))
  exact RB.fits ⟨g,hg.1,hg.2.1,rfl⟩ (by omega)
 ·rintro k r ⟨pre,I,J,hr⟩
  rw [OX] at I;have hk:k=n.aU.length:=by rw [<- J,<- I,hcl]
  subst hk;exact Gd.ret hr
theorem Ds {l:List LR} (hl:l.length<=1000) (h:∀ y ∈ l,pd y/\fits (rv y)):Gd (nV l) (λr=>r=(l.map (λy=>ctext (rv y)),0)):=by
 unfold nV;refine Gd.hO (P:=λr=>r=(l.map (λy=>ctext (rv y)),true)) ?_ (λr O=>by subst O; exact Gd.ite (λh=>by simp at h) (λ_=>Gd.ret rfl))
 unfold tA;refine Gd.nd (by omega) ?_
 rw [N7];refine Gd.gM (λk ys s=>∃ pre,l=pre++ys/\pre.length=k/\s=pre.map (λy=>ctext (rv y))++List.replicate ys.length (⟨#[]⟩:N2)) ?_ ?_ l 0 _ ⟨[],rfl,rfl,by simp⟩
 ·rintro k y ys _ nx ⟨pre,J,I,rfl⟩ Y
  obtain ⟨y1,y2⟩:=h y (by rw [J]; simp)
  unfold th;refine Gd.hO (Ip y1) (λr O=>?_);have Z:=O.1.2 y2;refine Gd.ite (λhh=>by rw [Z] at hh; simp at hh) (λ_=>?_)
  refine Gd.ix (y:=⟨#[]⟩) (by omega) ?_ (Y _ ⟨pre++[y],by rw [J]; simp,by simp [I],?_⟩)
  ·rw [N7,OD (by simp [I]),PJ,I,Po,Oj,Qt]; rfl
  ·rw [N7,SM _ _ (by simp [I]),PJ,I,Po,Oj,Qt,List.set_cons_zero,O.2 Z]
   simp
 ·rintro k _ ⟨pre,J,I,rfl⟩
  rw [OX] at J;subst J;exact Gd.ret (by simp)
structure Lv (n:Net) (t:aQ) (s:gW):Prop where
 al:s.vJ.length=t.bH.length
 fl:s.u5.length=n.aU.length
 a:∀ x ∈ s.vJ,∃ q,fits q/\x=ctext q
 f:∀ x ∈ s.u5,∃ q,fits q/\x=ctext q
theorem NL.all {l:List LR}{N:Nat}{P:LR->Prop} (h:NL l N (λ_ y=>P y)):∀ y ∈ l,P y:=λy I=>by
 obtain ⟨i,hi,rfl⟩:=Pq.1 I;exact h.2 i _ (N5 hi)
theorem Iz {n:Net}{p:List Int} (h:sB n) (hn:pG n) {t:aQ} (hg:fG n=some t) (ht:uX n t) (hp:p.length=n.cA.length) (hb:∀ z ∈ p,-100000<=z/\z<=100000) (hc:pO n p=some 0):
  Gd (pS n p) (λr=>r.2=0/\Lv n t r.1):=by
 have hN:=ht.IX;have h24:=h.l3;unfold pS;refine Gd.bind_eq hc (Gd.ite (λh=>by simp at h) (λ_=>?_))
 refine Gd.hO (HO h hn hg ht) ?_;rintro _ ⟨M,rfl,O⟩;simp only [F5];refine Gd.hO (JX O ht hn hp hb) (λsm hsm=>Gd.hO (Fq h hn O ht hsm) (λa J=>?_));have hD:=G8 h hn ht;have Z:=J.1;refine Gd.hO (Ds (by omega) (λy I=>⟨(J.all y I).1,(An.rb hD (J.all y I)).fits (by omega)⟩)) ?_
 rintro _ rfl;refine Gd.hO (Gt h hn O ht J) (λf Y=>?_);have hl2:=Y.1;refine Gd.hO (Ds (by omega) (λy I=>Y.all y I)) ?_
 rintro _ rfl;refine Gd.ite (λh=>by simp at h) (λ_=>Gd.ret ⟨rfl,by simp [Z],by simp [hl2],λx hx=>?_,λx hx=>?_⟩)
 ·obtain ⟨y,I,rfl⟩:=Pg.1 hx
  exact ⟨_,(An.rb hD (J.all y I)).fits (by omega),rfl⟩
 ·obtain ⟨y,I,rfl⟩:=Pg.1 hx
  exact ⟨_,(Y.all y I).2,rfl⟩
def acc {α:Type} (f:α->Int) (p:α->Nat) (k:Nat):List α->Int
 | []=>0
 | x::xs=>(if p x=k then f x else 0)+acc f p k xs
theorem Bv {α:Type}{f:α->Int}{p:α->Nat}{k:Nat}:∀ {l:List α},(∀ x ∈ l,0<=f x)->0<=acc f p k l
 | [],_=>Pw _
 | x::xs,h=>by
  have J:=h x (Oa ..);have O:=Bv (f:=f) (p:=p) (k:=k) (l:=xs) λy I=>h y (Od _ I);unfold acc
  split <;> omega
theorem DF {α:Type}{f:α->Int}{p:α->Nat}{k:Nat}{B:Int} (I:0<=B):∀ {l:List α},(∀ x ∈ l,f x<=B)->acc f p k l<=B*l.length
 | [],_=>by simp [acc]
 | x::xs,h=>by
  have O:=h x (Oa ..);have Y:=DF (f:=f) (p:=p) (k:=k) (B:=B) I (l:=xs) λy J=>h y (Od _ J);unfold acc;rw [Oj,Sw,Ss]
  split <;> omega
theorem EJ {α:Type}{f:α->Int}{p:α->Nat}{k:Nat}:∀ (a b:List α),acc f p k (a++b)=acc f p k a+acc f p k b
 | [],b=>by show acc f p k b=0+acc f p k b; omega
 | x::xs,b=>by
  have:=EJ (f:=f) (p:=p) (k:=k) xs b;show (if p x=k then f x else 0)+acc f p k (xs++b)=(if p x=k then f x else 0)+acc f p k xs+acc f p k b
  omega
theorem xU {α:Type}{f:α->Int}{p:α->Nat}{k:Nat} (a:List α) (x:α):acc f p k (a++[x])=acc f p k a+(if p x=k then f x else 0):=by
 rw [EJ];show _+((if p x=k then f x else 0)+0)=_
 omega
def tl (I:Nat->Nat) (k:Nat):Nat->List Int->Int
 | _,[]=>0
 | i,x::xs=>(if I i=k then x else 0)+tl I k (i+1) xs
theorem C8 (I:Nat->Nat) (k:Nat):∀ (a b:List Int) (i:Nat),tl I k i (a++b)=tl I k i a+tl I k (i+a.length) b
 | [],b,i=>by show tl I k i b=0+tl I k (i+0) b; rw [PF]; omega
 | x::xs,b,i=>by
  have:=C8 I k xs b (i+1);have e:i+(x::xs).length=i+1+xs.length:=by simp; omega
  rw [e];show (if I i=k then x else 0)+tl I k (i+1) (xs++b)=(if I i=k then x else 0)+tl I k (i+1) xs+_
  omega
theorem Ap (I:Nat->Nat) (k:Nat) (y:Int):∀ (l:List Int) (i j:Nat) (h:j<l.length),tl I k i (l.set j y)=tl I k i l+(if I (i+j)=k then y-l[j] else 0)
 | [],_,_,h=>by simp at h
 | x::xs,i,0,_=>by
  rw [List.set_cons_zero,PF,List.getElem_cons_zero];show (if I i=k then y else 0)+tl I k (i+1) xs=(if I i=k then x else 0)+tl I k (i+1) xs+_
  split <;> omega
 | x::xs,i,j+1,h=>by
  have J:j<xs.length:=by simpa using h
  have:=Ap I k y xs (i+1) j J;have e:i+1+j=i+(j+1):=by omega
  rw [e] at this;rw [List.set_cons_succ,List.getElem_cons_succ];show (if I i=k then x else 0)+tl I k (i+1) (xs.set j y)=(if I i=k then x else 0)+tl I k (i+1) xs+_
  rw [this]; omega
theorem C9 (I:Nat->Nat) (k:Nat):∀ (m i:Nat),tl I k i (List.replicate m 0)=0
 | 0,_=>rfl
 | m+1,i=>by
  show (if I i=k then (0:Int) else 0)+tl I k (i+1) (List.replicate m 0)=0
  rw [C9 I k m (i+1)]; split <;> rfl
theorem E7 (I:Nat->Nat) (k:Nat) {B:Int} (J:0<=B):∀ (l:List Int) (i:Nat),(∀ z ∈ l,-B<=z/\z<=B)->-(B*l.length)<=tl I k i l/\tl I k i l<=B*l.length
 | [],_,_=>by simp [tl]
 | x::xs,i,h=>by
  have Y:=h x (Oa ..);have Z:=E7 I k J xs (i+1) (λz O=>h z (Od _ O));show -(B*(x::xs).length)<=(if I i=k then x else 0)+tl I k (i+1) xs/\(if I i=k then x else 0)+tl I k (i+1) xs<=B*(x::xs).length
  rw [Oj,Sw,Ss]
  split <;> omega
def B3 (t:aQ) (i:Nat):Nat:=((t.bH[((t.pV[i]?).getD 0).toNat]?).getD 0).toNat
theorem Eg {n:Net}{t:aQ} (ht:uX n t) {i:Nat} (hi:i<n.cA.length):∃ v:Nat,t.pV[i]? = some (v:Int)/\v<t.bH.length/\t.bH[v]? = some (B3 t i:Int)/\B3 t i<t.bH.length:=by
 have I:i<t.pV.length:=by rw [ht.bl]; exact hi
 have Z:=ht.bi _ (OY I);obtain ⟨c,O⟩:=ht.comp;have J:(t.pV[i]).toNat<t.bH.length:=by omega
 have e1:t.pV[i]? = some (((t.pV[i]).toNat:Nat):Int):=by rw [N5 I]; congr 1; omega
 have Y:=O.all ((t.pV[i]).toNat:Int) (by omega) (by omega)
 rw [Af J] at Y;have hm:=O.mN;refine ⟨(t.pV[i]).toNat,e1,J,?_,?_⟩
 ·unfold B3
  rw [e1,P0,N7,N5 J,P0]
  congr 1; omega
 ·unfold B3
  rw [e1,P0,N7,N5 J,P0];omega
def xp (n:Net) (t:aQ) (s:BA):Nat:=B3 t (pos n s)
theorem Ay {n:Net}{t:aQ} (ht:uX n t) {s:BA} (hs:s ∈ n.cA):nj n t s=some (xp n t s:Int)/\xp n t s<t.bH.length:=by
 obtain ⟨p1,p2⟩:=RN hs;obtain ⟨v,v1,v2,I,J⟩:=Eg ht p2;refine ⟨?_,J⟩;rw [<- Gd.eq];unfold nj;exact Gd.bind_eq p1 (Gd.ix (by omega) (by rw [N7]; exact v1) (Gd.ix (by omega) (by rw [N7]; exact I) (Gd.ret rfl)))
theorem F4 {n:Net}{t:aQ} (hg:fG n=some t) (ht:uX n t):∃ N:Nat,mG n=some (N:Int)/\N<=24/\∀ s ∈ n.cA,xp n t s<N:=by
 obtain ⟨c,O⟩:=ht.comp;have hm:=O.mN;have I:zr t.bH.length t.bH:=λa ha=>by
  obtain ⟨k,hk,rfl⟩:=Pq.1 ha;have:=O.all (k:Int) (by omega) (by omega)
  rw [Af hk] at this;omega
 have h:Gd (mG n) (λr=>∃ N:Nat,r=N/\N<=24/\zr N t.bH):=by
  unfold mG;refine Gd.bind_eq hg (JE t.bH.length ht.IX _ (λk y n nx=>by unfold rB; rfl) _ t.bH I (λm hm J=>Gd.ret ⟨m,rfl,by have:=ht.IX; omega,J⟩))
 obtain ⟨r,hr,N,rfl,Y,Z⟩:=h;refine ⟨N,hr,Y,λs hs=>?_⟩;obtain ⟨v,_,_,v3,_⟩:=Eg ht (RN hs).2;have:=Z _ (Ol v3);show B3 t (pos n s)<N;omega
abbrev FN (n:Net) (t:aQ) (k:Nat):Int:=acc aJ.fX (λl:aJ=>xp n t l.Node) k n.eS
theorem G_ {n:Net} (hn:pG n) (t:aQ) (k:Nat):0<=FN n t k/\FN n t k<=1200000:=by
 have I:=Bv (f:=aJ.fX) (p:=λl:aJ=>xp n t l.Node) (k:=k) (l:=n.eS) (λl hl=>(hn.ld l hl).2.1);have J:=DF (f:=aJ.fX) (p:=λl:aJ=>xp n t l.Node) (k:=k) (B:=100000) (by omega) (l:=n.eS) (λl hl=>(hn.ld l hl).2.2)
 have:=hn.l5;have O:FN n t k<=100000*(n.eS.length:Int):=J;exact ⟨I,by omega⟩
theorem Hw {n:Net}{t:aQ} (hn:pG n) (hg:fG n=some t) (ht:uX n t) {N:Nat} (hN:mG n=some (N:Int)) (h24:N<=24) (hpl:∀ s ∈ n.cA,xp n t s<N):
  Gd (qW n) (λr=>r.length=N/\∀ k (I:k<r.length),r[k].fX=FN n t k):=by
 have h4:=hn.l4;have h5:=hn.l5;unfold qW;refine Gd.bind_eq hg (Gd.bind_eq hN (Gd.nd ⟨by omega,by omega⟩ ?_))
 rw [N7];refine Gd.gM (λi ys s=>(∀ y ∈ ys,y ∈ n.kF)/\s.length=N/\∀ k (I:k<s.length),s[k].fX=0) ?_ ?_ _ _ _ ⟨λ_ h=>h,by simp,?_⟩
 ·rintro i y ys s nx ⟨hm,hl,I⟩ Z
  have hy:=hm y (Oa ..);obtain ⟨Y,_⟩:=Ay ht (hn.gn y hy).1;have J:xp n t y.Node<s.length:=by have:=hpl _ (hn.gn y hy).1; omega
  unfold sF;refine Gd.bind_eq Y (Gd.mR J ?_);rw [N7,List.set_set];refine Z _ ⟨λz hz=>hm z (Od _ hz),by simp [hl],λk O=>?_⟩
  rw [Pp] at O;rw [SF]
  split
  ·exact I _ J
  ·exact I k O
 ·rintro i s ⟨_,hl,I⟩
  refine Gd.gM (λi ys s=>∃ pre,n.eS=pre++ys/\s.length=N/\∀ k (I:k<s.length),s[k].fX=acc aJ.fX (λl:aJ=>xp n t l.Node) k pre) ?_ ?_ _ _ _ ⟨[],rfl,hl,I⟩
  ·rintro i y ys s nx ⟨pre,Y,hl,I⟩ Z
   have hy:y ∈ n.eS:=by rw [Y]; simp
   obtain ⟨hpp,_⟩:=Ay ht (hn.ld y hy).1;have J:xp n t y.Node<s.length:=by have:=hpl _ (hn.ld y hy).1; omega
   have hyd:=hn.ld y hy;have hb1:=Bv (f:=aJ.fX) (p:=λl:aJ=>xp n t l.Node) (k:=xp n t y.Node) (l:=pre) (λl hl=>(hn.ld l (by rw [Y]; simp [hl])).2.1)
   have hb2:=DF (f:=aJ.fX) (p:=λl:aJ=>xp n t l.Node) (k:=xp n t y.Node) (B:=100000) (by omega) (l:=pre) (λl hl=>(hn.ld l (by rw [Y]; simp [hl])).2.2)
   have hpre:pre.length<=12:=by
    have:n.eS.length=pre.length+(ys.length+1):=by rw [Y]; simp
    omega
   have hkk:=I _ J;have hw1:i64.wrap (s[xp n t y.Node].fX+y.fX)=s[xp n t y.Node].fX+y.fX:=cK ⟨by omega,by omega⟩
   unfold sG;refine Gd.bind_eq hpp (Gd.mR J (Gd.mR J ?_));rw [hw1,N7];refine Z _ ⟨pre++[y],by rw [Y]; simp,by simp [hl],λk O=>?_⟩
   rw [Pp] at O;rw [SF,xU]
   by_cases e:xp n t y.Node=k
   ·subst e
    rw [Oc rfl,Oc rfl,hkk]
   ·rw [Ob e,Ob e,I k O]; omega
  ·rintro i s ⟨pre,Y,hl,I⟩
   rw [OX] at Y;subst Y;exact Gd.ret ⟨hl,I⟩
 ·intro k I
  have e:(List.replicate N ({ lO:=0,q8:=0,fX:=0 }:bC))[k]={ lO:=0,q8:=0,fX:=0 }:=List.getElem_replicate _;rw [e]
theorem Jq (l:List Int):Gd (eF l) (λb=>b=true↔∃ v ∈ l,0<v):=by
 unfold eF gX;refine Gd.hO (P:=λr=>0<=r↔∃ v ∈ l,0<v) ?_ (λr J=>Gd.ret (by simpa using J))
 refine Gd.mn (λm i _=>i+m=l.length/\∀ v ∈ l.take i,v<=0) ?_ ?_ (l.length:Int).toNat 0 () ⟨by omega,by simp⟩
 ·intro m i _ O ⟨hi,hno⟩ hnx
  unfold jA oL;refine Gd.mR (by omega) (Gd.ite (λh=>Gd.ret ⟨λ_=>⟨l[i],OY _,by simpa using h⟩,λ_=>by omega⟩) (λh=>hnx () ⟨by omega,?_⟩))
  rw [OL (by omega)]
  intro v I;rcases Om.1 I with I | I
  ·exact hno v I
  ·simp at I; subst I; simpa using h
 ·intro i _ ⟨hi,hno⟩
  rw [Oo (by omega)] at hno
  exact Gd.ret ⟨λh=>by omega,λ⟨v,I,h⟩=>by have:=hno v I; omega⟩
abbrev CT (n:Net) (t:aQ) (k:Nat) (l:List (fH×Int)):Int:=acc (λz:fH×Int=>z.2) (λz:fH×Int=>xp n t z.1.Node) k l
structure MA (n:Net) (t:aQ) (p:List Int):Prop where
 len:p.length=n.kF.length
 each:∀ z ∈ n.kF.zip p,0<=z.2/\z.2<=100000/\(z.2=0\/z.1.lO<=z.2/\z.2<=z.1.q8)
 MB:∀ k,CT n t k (n.kF.zip p)=FN n t k
theorem FY {n:Net}{t:aQ} (hn:pG n) (hg:fG n=some t) (ht:uX n t) (hc:dV n=some 0):
  Gd (ni n) (λx=>(x.2=14/\x.1=[])\/(x.2=0/\MA n t x.1)):=by
 obtain ⟨N,hN,h24,Y⟩:=F4 hg ht;have h4:=hn.l4;have h5:=hn.l5;obtain ⟨r,hr,hlen,hk⟩:=Hw hn hg ht hN h24 Y;unfold ni;refine Gd.bind_eq hc (Gd.ite (λh=>by simp at h) (λ_=>Gd.bind_eq hg (Gd.bind_eq hr ?_)))
 refine Gd.gM (λi ys s=>i+ys.length=r.length/\ys=r.drop i/\s=(r.take i).map bC.fX) ?_ ?_ _ _ _ ⟨by simp,by simp,by simp⟩
 ·rintro i y ys s nx ⟨hi,hys,rfl⟩ hnx
  simp only [Oj] at hi;have hlt:i<r.length:=by omega
  rw [O6 hlt] at hys;obtain ⟨rfl,rfl⟩:=List.cons.inj hys;unfold sd;refine Gd.nd (by simp; omega) (hnx _ ⟨by omega,rfl,?_⟩)
  rw [OL hlt,Pu]; rfl
 rintro i s ⟨hi,_,rfl⟩;rw [Oo (by simp at hi; omega)]
 refine Gd.gM (λi ys (s:List Int×List Int)=>∃ pre,n.kF=pre++ys/\pre.length=i/\s.1.length=N/\s.2.length=pre.length/\(∀ v ∈ s.1,0<=v)/\(∀ z ∈ pre.zip s.2,0<=z.2/\z.2<=100000/\(z.2=0\/z.1.lO<=z.2/\z.2<=z.1.q8)) /\
   (∀ k (hk:k<s.1.length),s.1[k]+CT n t k (pre.zip s.2)=FN n t k)) ?_ ?_ _ _ _
  ⟨[],rfl,rfl,by simp [hlen],rfl,?_,by simp,?_⟩
 ·rintro i y ys ⟨rest,out⟩ nx ⟨pre,hp,hpi,O,I,h0,he,hb⟩ hnx
  simp only at O I h0 he hb;have hy:y ∈ n.kF:=by rw [hp]; simp
  obtain ⟨hpp,_⟩:=Ay ht (hn.gn y hy).1;have hlp:xp n t y.Node<rest.length:=by have:=Y _ (hn.gn y hy).1; omega
  have hgy:=hn.gn y hy;have hr0:=h0 rest[xp n t y.Node] (OY _);have hb0:=hb _ hlp;have hd:=G_ hn t (xp n t y.Node);have hge:0<=CT n t (xp n t y.Node) (pre.zip out):=Bv (λz hz=>(he z hz).1);have hpl10:pre.length<10:=by
   have:n.kF.length=pre.length+(ys.length+1):=by rw [hp]; simp
   omega
  have step:∀ p:Int,0<=p->p<=rest[xp n t y.Node]->p<=y.q8->(p=0\/y.lO<=p/\p<=y.q8) ->
    Gd (mH rest out nx (xp n t y.Node:Int) rest[xp n t y.Node] p) (λx=>(x.2=14/\x.1=[])\/(x.2=0/\MA n t x.1)):=by
   intro p p0 pr pm pe;have hw:i64.wrap (rest[xp n t y.Node]-p)=rest[xp n t y.Node]-p:=cK ⟨by omega,by omega⟩
   have hz:(pre++[y]).zip (out++[p])=pre.zip out++[(y,p)]:=by rw [List.zip_append I.symm]; rfl
   unfold mH;rw [hw,N7];refine Gd.nd (by simp; omega) (hnx _ ⟨pre++[y],by rw [hp]; simp,by simp [hpi],by simp [O],by simp [I],?_,?_,?_⟩)
   ·intro v Z
    rcases SK Z with Z | rfl
    ·exact h0 v Z
    ·omega
   ·simp only
    rw [hz];intro z hzz;rcases Om.1 hzz with h1 | h1
    ·exact he z h1
    ·rw [OU] at h1
     subst h1;exact ⟨p0,by simp only; omega,pe⟩
   ·intro k J
    simp only [Pp] at J;simp only;rw [hz];unfold CT;rw [xU,SF];have hbk:=hb k J;unfold CT at hbk
    by_cases e:xp n t y.Node=k
    ·subst e
     rw [Oc rfl,Oc rfl];simp only; omega
    ·rw [Ob e,Ob e]; omega
  unfold se;refine Gd.bind_eq hpp (Gd.mR hlp (Gd.ite (λhle=>?_) (λ_=>step 0 (by omega) (by omega) (by omega) (.inl rfl))))
  have hle:y.lO<=rest[xp n t y.Node]:=by simpa using hle
  exact step (min y.q8 rest[xp n t y.Node]) (by omega) (by omega) (by omega) (.inr ⟨by omega,by omega⟩)
 ·rintro i ⟨rest,out⟩ ⟨pre,hp,hpi,O,I,h0,he,hb⟩
  simp only at O I h0 he hb;rw [OX] at hp;subst hp;refine Gd.hO (Jq rest) (λb hb2=>Gd.ite (λ_=>Gd.ret (.inl ⟨rfl,rfl⟩)) (λh=>Gd.ret (.inr ⟨rfl,I,he,λk=>?_⟩)));have hno:∀ v ∈ rest,v=0:=λv Z=>by
   have h1:=h0 v Z
   by_cases e:0<v
   ·have:=hb2.2 ⟨v,Z,e⟩
    rw [this] at h; cases h
   ·omega
  by_cases hkN:k<rest.length
  ·have:=hb k hkN
   rw [hno _ (OY _)] at this;show CT n t k (n.kF.zip out)=_;omega
  ·have none:∀ {α:Type} (f:α->Int) (p:α->Nat) (l:List α),(∀ x ∈ l,p x<N)->acc f p k l=0:=by
    intro α f p l
    induction l with
    | nil=>intro _; rfl
    | cons x l ih=>
     intro hx;have h1:=hx x (Oa ..);have h2:=ih (λx h=>hx x (Od _ h));show (if p x=k then f x else 0)+acc f p k l=0
     rw [Ob (by omega),h2]; rfl
   rw [show FN n t k=0 from none _ _ _ (λl hl=>Y _ (hn.ld l hl).1)];exact none _ _ _ (λz hz=>Y _ (hn.gn _ (List.of_mem_zip hz).1).1)
 ·intro v Z
  obtain ⟨s,hs,rfl⟩:=Pg.1 Z;obtain ⟨k,hk2,rfl⟩:=Pq.1 hs;rw [hk k hk2]; exact (G_ hn t k).1
 ·intro k J
  simp only [PJ] at J;simp only [P8];rw [hk k J];show FN n t k+0=_;omega
theorem Dw {α I:Type}{y:α}{v:I}:∀ {pre:List α}{p:List I},p[pre.length]? = some v->(pre++[y]).zip p=pre.zip p++[(y,v)]
 | [],[],h=>by simp at h
 | [],b::p,h=>by
  have:b=v:=by simpa using h
  subst this;simp
 | a::pre,[],h=>by simp at h
 | a::pre,b::p,h=>by
  have J:p[pre.length]? = some v:=by simpa using h
  have:=Dw (y:=y) J;simp [this]
structure Gu (n:Net) (t:aQ) (p:List Int):Prop where
 len:p.length=n.cA.length
 IY:∀ z ∈ p,-100000<=z/\z<=100000
 MB:∀ k,tl (B3 t) k 0 p=0
theorem DY {n:Net}{t:aQ} (h:sB n) (hn:pG n) (hg:fG n=some t) (ht:uX n t) (hc:dV n=some 0) {p:List Int} (hp:MA n t p):
  Gd (rO n p (List.replicate n.eK.length 0)) (λx=>(x.2=4/\x.1=[])\/(x.2=0/\Gu n t x.1)):=by
 have l1:=hn.l1;have l4:=hn.l4;have l5:=hn.l5;have l6:=h.l6;unfold rO;refine Gd.bind_eq hc (Gd.ite (λh=>by simp at h) (λ_=>?_))
 refine Gd.ite (λh=>absurd h (by simp [hp.len])) (λ_=>Gd.nd (by omega) ?_)
 rw [N7];refine Gd.gM (λi ys s=>∃ pre,n.kF=pre++ys/\pre.length=i/\s.length=n.cA.length/\(∀ k,tl (B3 t) k 0 s=CT n t k (pre.zip p))/\∀ z ∈ s,-(100000*(i:Int))<=z/\z<=100000*(i:Int)) ?_ ?_ n.kF 0 _
  ⟨[],rfl,rfl,by simp,λk=>C9 _ _ _ _,λz hz=>by have:=SD hz; omega⟩
 ·rintro i y ys s nx ⟨pre,I,O,hsl,hb,hs⟩ Z
  have hy:y ∈ n.kF:=by rw [I]; simp
  obtain ⟨q1,q2⟩:=RN (hn.gn y hy).1;have hil:i<n.kF.length:=by rw [I]; simp; omega
  have hip:i<p.length:=by rw [hp.len]; exact hil
  have hpi2:=N5 hip;have hzip:=Dw (y:=y) (pre:=pre) (p:=p) (v:=p[i]) (by rw [O]; exact hpi2)
  have hmem:(y,p[i]) ∈ n.kF.zip p:=by
   refine Pq.2 ⟨i,by simp [hp.len]; omega,?_⟩
   rw [List.getElem_zip]
   congr 1
   have:n.kF[i]? = some y:=by rw [I,OD (by omega),O,Po]; rfl
   rw [N5 hil] at this;exact N8 this
  have he:=hp.each _ hmem;simp only at he;have J:pos n y.Node<s.length:=by omega
  have hz:=hs _ (OY J);have fin:Gd (nx (s.set ((pos n y.Node:Int)).toNat (i64.wrap (s[pos n y.Node]+p[i])))) (λx=>(x.2=4/\x.1=[])\/(x.2=0/\Gu n t x.1)):=by
   have hw:i64.wrap (s[pos n y.Node]+p[i])=s[pos n y.Node]+p[i]:=cK ⟨by omega,by omega⟩
   rw [hw,N7];refine Z _ ⟨pre++[y],by rw [I]; simp,by simp [O],by simp [hsl],λk=>?_,λz hz2=>?_⟩
   ·rw [Ap _ _ _ _ _ _ J,hb k,hzip]
    unfold CT;rw [xU,OB];show _+(if xp n t y.Node=k then _ else _)=_
    split <;> omega
   ·rcases SK hz2 with Y | Y
    ·have:=hs z Y; omega
    ·subst Y; omega
  unfold s7;refine Gd.mR hip (Gd.ite (λh0=>?_) (λh0=>?_))
  ·exact Gd.bind_eq q1 (Gd.mR J (Gd.mR hip (Gd.mR J fin)))
  ·have h0:p[i]≠0:=Og h0
   refine Gd.mR hip (Gd.ite (λY=>?_) (λ_=>Gd.mR hip (Gd.ite (λY=>?_) (λ_=>Gd.bind_eq q1 (Gd.mR J (Gd.mR hip (Gd.mR J fin)))))))
   ·have:=N9 Y; omega
   ·have:=N9 Y; omega
 ·rintro i s ⟨pre,I,O,hsl,hb,hs⟩
  rw [OX] at I;subst I;have hb2:∀ k,tl (B3 t) k 0 s=FN n t k:=λk=>(hb k).trans (hp.MB k);have hs2:∀ z ∈ s,-1000000<=z/\z<=1000000:=λz hz=>by have:=hs z hz; omega
  clear hb hs;refine Gd.gM (λi ys s'=>∃ pre,n.eK=pre++ys/\pre.length=i/\s'=s) ?_ ?_ n.eK 0 _ ⟨[],rfl,rfl,rfl⟩
  ·rintro i y ys s nx ⟨pre,I,O,rfl⟩ Z
   have hy:y ∈ n.eK:=by rw [I]; simp
   obtain ⟨_,v2,v3⟩:=h.vt y hy;obtain ⟨q1,q2⟩:=RN v2;have hil:i<n.eK.length:=by rw [I]; simp; omega
   have hst:(List.replicate n.eK.length (0:Int))[i]? = some 0:=by rw [Qn,Oc hil]
   have J:pos n y.Node<s.length:=by omega
   have hz:=hs2 _ (OY J);have hch:0<=y.sy/\y.sy<=100000/\0<=y.Discharge/\y.Discharge<=100000:=by
    simp [Bh,aR,bI] at v3;omega
   have hw:i64.wrap (0-y.sy)=0-y.sy:=cK ⟨by omega,by omega⟩
   have hw2:i64.wrap (s[pos n y.Node]+0)=s[pos n y.Node]:=by rw [cK ⟨by omega,by omega⟩]; omega
   unfold s8;rw [hw];refine Gd.ix (by omega) (by rw [N7]; exact hst) (Gd.ite (λY=>?_) (λ_=>Gd.ix (by omega) (by rw [N7]; exact hst) (Gd.ite (λY=>?_) (λ_=>Gd.bind_eq q1 (Gd.mR J (Gd.ix (by omega) (by rw [N7]; exact hst) (Gd.mR J ?_)))))))
   ·have:=N9 Y; omega
   ·have:=N9 Y; omega
   ·rw [hw2,N7]
    exact Z _ ⟨pre++[y],by rw [I]; simp,by simp [O],AE (N5 J)⟩
  ·rintro i _ ⟨_,_,_,rfl⟩
   refine Gd.gM (λi ys s'=>∃ pre,n.eS=pre++ys/\pre.length=i/\s'.length=n.cA.length/\(∀ k,tl (B3 t) k 0 s'=FN n t k-acc aJ.fX (λl:aJ=>xp n t l.Node) k pre)/\∀ z ∈ s',-(1000000+100000*(i:Int))<=z/\z<=1000000) ?_ ?_ n.eS 0 _
    ⟨[],rfl,rfl,hsl,λk=>by rw [hb2 k]; show _=FN n t k-0; omega,λz hz=>by have:=hs2 z hz; omega⟩
   ·rintro i y ys s' nx ⟨pre,I,O,hsl',hb',hs'⟩ Z
    have hy:y ∈ n.eS:=by rw [I]; simp
    obtain ⟨q1,q2⟩:=RN (hn.ld y hy).1;have hd:=(hn.ld y hy).2;have hil:i<n.eS.length:=by rw [I]; simp; omega
    have J:pos n y.Node<s'.length:=by omega
    have hz:=hs' _ (OY J);have hw:i64.wrap (s'[pos n y.Node]-y.fX)=s'[pos n y.Node]-y.fX:=cK ⟨by omega,by omega⟩
    unfold s9;refine Gd.bind_eq q1 (Gd.mR J (Gd.mR J ?_));rw [hw,N7];refine Z _ ⟨pre++[y],by rw [I]; simp,by simp [O],by simp [hsl'],λk=>?_,λz hz2=>?_⟩
    ·rw [Ap _ _ _ _ _ _ J,hb' k,xU,OB]
     show _+(if xp n t y.Node=k then _ else _)=_
     split <;> omega
    ·rcases SK hz2 with Y | Y
     ·have:=hs' z Y; omega
     ·subst Y; omega
   ·rintro i s' ⟨pre,I,O,hsl',hb',hs'⟩
    rw [OX] at I;subst I;refine Gd.gM (λi ys _=>∃ pre,s'=pre++ys/\∀ z ∈ pre,-100000<=z/\z<=100000) ?_ ?_ s' 0 _ ⟨[],rfl,λz hz=>by simp at hz⟩
    ·rintro i y ys _ nx ⟨pre,I,hr⟩ Z
     unfold tc;refine Gd.ite (λ_=>Gd.ret (.inl ⟨rfl,rfl⟩)) (λY=>Z () ⟨pre++[y],by rw [I]; simp,λz hz=>?_⟩)
     simp only [Sq,Tn] at Y;rcases Om.1 hz with h2 | h2
     ·exact hr z h2
     ·rw [OU] at h2
      subst h2; omega
    ·rintro i _ ⟨pre,I,hr⟩
     rw [OX] at I;subst I;exact Gd.ret (.inr ⟨rfl,hsl',hr,λk=>by rw [hb' k]; show FN n t k-FN n t k=0; omega⟩)
theorem FW {n:Net}{t:aQ} (h:sB n) (hn:pG n) (O:fG n=some t) (ht:uX n t) (J:dV n=some 0):
  Gd (jK n) (λx=>(x.2≠0/\x.1=[])\/(x.2=0/\Gu n t x.1)):=by
 have l6:=h.l6;unfold jK;refine Gd.hO (FY hn O ht J) (λx Z=>?_);rcases Z with ⟨e,_⟩ | ⟨e,Y⟩
 ·rw [e]
  exact Gd.ite (λ_=>Gd.ret (.inl ⟨by simp,rfl⟩)) (λh=>by simp at h)
 ·rw [e]
  refine Gd.ite (λh=>by simp at h) (λ_=>Gd.nd (by omega) ?_)
  rw [N7];refine Gd.hO (DY h hn O ht J Y) (λy I=>Gd.ret ?_);rcases I with ⟨e1,e2⟩ | I
  ·exact .inl ⟨by simp only; omega,e2⟩
  ·exact .inr I
theorem FQ {n:Net}{t:aQ} (hg:fG n=some t) (ht:uX n t) (hn:pG n) (hc:dV n=some 0) {p:List Int} (hp:Gu n t p):pO n p=some 0:=by
 have l1:=hn.l1;rw [<- Gd.eq];unfold pO;refine Gd.bind_eq hc (Gd.ite (λh=>by simp at h) (λ_=>Gd.ite (λh=>absurd h (by simp [hp.len])) (λ_=>Gd.bind_eq hg ?_)))
 refine Gd.gM (λi ys (l:List (Int×Int))=>∃ pre,p=pre++ys/\pre.length=i/\Ce l/\(∀ z ∈ l,∃ k:Nat,z.1=(k:Int))/\∀ k:Nat,(rI l (k:Int)).getD 0=tl (B3 t) k 0 pre) ?_ ?_ p 0 _ ⟨[],rfl,rfl,Ce.nil,λz O=>by simp at O,λk=>by simp [rI,vI,tl]⟩
 ·rintro i y ys l nx ⟨pre,I,Y,hk,J,hs⟩ hnx
  have hy:=hp.IY y (by rw [I]; simp)
  have hpl:p.length=pre.length+(ys.length+1):=by rw [I]; simp
  have hpn:=hp.len;obtain ⟨v,v1,v2,v3,v4⟩:=Eg ht (show i<n.cA.length by omega)
  have hbd:=E7 (B3 t) (B3 t i) (B:=100000) (by omega) pre 0 (λz O=>hp.IY z (by rw [I]; simp [O]))
  have hw:i64.wrap ((rI l (B3 t i:Int)).getD 0+y)=(rI l (B3 t i:Int)).getD 0+y:=by
   rw [hs (B3 t i)];exact cK ⟨by omega,by omega⟩
  unfold tT;refine Gd.ite (λh=>?_) (λ_=>Gd.ix (by omega) (by rw [N7]; exact v1) (Gd.ix (by omega) (by rw [N7]; exact v3) ?_))
  ·exfalso
   simp only [PQ,PC] at h;omega
  ·rw [hw]
   refine hnx _ ⟨pre++[y],by rw [I]; simp,by simp [Y],(hk.put _ _).1,λz O=>?_,λk=>?_⟩
   ·rcases ((hk.put _ _).2 z).1 O with Z | Z
    ·exact ⟨B3 t i,by rw [Z]⟩
    ·exact J z Z.1
   ·rw [hk.EW,C8]
    show _=_+((if B3 t (0+pre.length)=k then y else 0)+0)
    rw [OB,Y]
    by_cases e:B3 t i=k
    ·subst e
     rw [Oc rfl,Oc rfl,P0,hs]; omega
    ·rw [Ob (by omega),Ob e,hs]; omega
 ·rintro i l ⟨pre,I,Y,hk,J,hs⟩
  rw [OX] at I;subst I;have:(l.any λp=>!decide (p.2=0))=false:=by
   rw [List.any_eq_false];intro z O;obtain ⟨k,hk2⟩:=J z O;have Z:rI l (k:Int)=some z.2:=hk.find.2 (by rw [<- hk2]; exact O)
   have h2:=hs k;rw [Z,P0,hp.MB k] at h2;simp [h2]
  rw [this];exact Gd.ret rfl
theorem BR (n:Net) (hz:ua n):(∃ e,e≠0/\jK n=some ([],e)) \/
  (∃ t p s,sB n/\pG n/\fG n=some t/\uX n t/\Gu n t p/\jK n=some (p,0)/\pO n p=some 0/\pS n p=some (s,0)/\Lv n t s/\True):=by
 obtain ⟨e,he,hok⟩:=check_sound n hz
 by_cases Y:e=0
 ·subst Y
  have Z:=hok rfl;have hn:=Z.ok hz;obtain ⟨t,hg,ht⟩:=JZ hn;obtain ⟨⟨p,x⟩,hi,hx⟩:=FW Z hn hg ht he;rcases hx with ⟨J,hp⟩ | ⟨hx,I⟩
  ·left
   simp only at J hp;subst hp;exact ⟨x,J,hi⟩
  ·right
   simp only at hx I;subst hx;have hc:=FQ hg ht hn he I;obtain ⟨⟨s,y⟩,hs,hy,O⟩:=Iz Z hn hg ht I.len I.IY hc;simp only at hy O;subst hy;exact ⟨t,p,s,Z,hn,hg,ht,I,hi,hc,hs,O,N4⟩
 ·left
  refine ⟨e,Y,?_⟩;have hsh:ni n=some ([],e):=by
   rw [<- Gd.eq];unfold ni;exact Gd.bind_eq he (Gd.ite (λ_=>Gd.ret rfl) (λh=>absurd (by simpa using h) Y))
  rw [<- Gd.eq];unfold jK;exact Gd.bind_eq hsh (Gd.ite (λ_=>Gd.ret rfl) (λh=>absurd (by simpa using h) Y))
instance MR (p:N2) (l:List N2):Decidable (p ∈ l):=@List.instDecidableMemOfLawfulBEq _ instBEqOfDecidableEq inferInstance p l
theorem Az (l:List N2) (p:N2):aW l p=some (decide (p ∈ l)):=by
 obtain ⟨b,e,h⟩:=uq l p;rw [e]
 congr 1
 cases b <;> simp_all
theorem G9 {α:Type} (p:α->Option Bool) (kp:α->Bool) (hp:∀ x,p x=some (!kp x)) (z:α) (A:List α) (hA:A.length<=100000):
  Gd ((mn (λk (_:Unit) n=>idx A (k:Int) λy=>(p y).bind λr=>if r then (some (k:Int)) else (n ())) (λ_=>some (-1)) ((A.length:Int)).toNat 0 ()).bind λr=>
   if decide (r=(-1)) then (some A) else (cE (λ(s:List α×Int×Int) n=>if decide (s.2.2<(s.1.length:Int)) then (idx s.1 s.2.2 λy=>(p y).bind λr=>if !r then (idx s.1 s.2.1 λ_=>n (s.1.set (s.2.1).toNat y,i64.wrap (s.2.1+1),i64.wrap (s.2.2+1))) else (n (s.1,s.2.1,i64.wrap (s.2.2+1))))
    else (fU (0<=s.2.1/\s.2.1<=(s.1.length:Int)) (fU (0<=s.2.1/\s.2.1<=((s.1.take (s.2.1).toNat++List.replicate (s.1.length-(s.2.1).toNat) z).length:Int)) (some (uW (s.1.take (s.2.1).toNat++List.replicate (s.1.length-(s.2.1).toNat) z) 0 (s.2.1).toNat))))) a_ (A,r,i64.wrap (r+1)))) (λr=>r=A.filter kp):=by
 refine Gd.hO (P:=λr=>(r = -1/\∀ x ∈ A,kp x=true)\/∃ (i:Nat) (h:i<A.length),r=i/\kp A[i]=false/\∀ x ∈ A.take i,kp x=true) ?_ (λr hr=>?_)
 ·refine Gd.mn (λm i _=>i+m=A.length/\∀ x ∈ A.take i,kp x=true) ?_ ?_ (A.length:Int).toNat 0 () ⟨by omega,by simp⟩
  ·intro m i _ nx ⟨hi,hno⟩ hnx
   have hlt:i<A.length:=by omega
   refine Gd.mR hlt ?_;rw [hp];refine Gd.ite (λh=>Gd.ret (.inr ⟨i,hlt,rfl,by simpa using h,hno⟩)) (λh=>hnx () ⟨by omega,?_⟩)
   rw [OL hlt];intro x hx;rcases Om.1 hx with hx | hx
   ·exact hno x hx
   ·simp at hx; subst hx; simpa using h
  ·intro i _ ⟨hi,hno⟩
   rw [Oo (by omega)] at hno
   exact Gd.ret (.inl ⟨rfl,hno⟩)
 ·rcases hr with ⟨rfl,hall⟩ | ⟨i,hi,rfl,hki,hpre⟩
  ·exact Gd.ite (λ_=>Gd.ret (Sh.2 hall).symm) (λh=>by simp at h)
  ·refine Gd.ite (λh=>by simp at h) (λ_=>?_)
   have hw0:i64.wrap ((i:Int)+1)=((i+1:Nat):Int):=by rw [cK ⟨by omega,by omega⟩]; omega
   rw [hw0];have Y:A.take i=(A.take (i+1)).filter kp:=by
    rw [OL hi,QS,Sh.2 hpre];simp [SE,hki]
   refine Gd.cE (λ(s:List α×Int×Int)=>∃ p q:Nat,s.2.1=p/\s.2.2=q/\p<q/\q<=A.length/\s.1.length=A.length/\s.1.take p=(A.take q).filter kp/\s.1.drop q=A.drop q) (λs=>A.length-s.2.2.toNat) ?_ a_ _ ⟨i,i+1,rfl,rfl,by omega,by omega,rfl,Y,rfl⟩ (by unfold a_; omega)
   rintro ⟨l,n1,n2⟩ nx ⟨p,q,h1,h2,hpq,hqA,hl,I,O⟩ hn;simp only at h1 h2 hl I O;subst h1; subst h2
   have hwq:i64.wrap ((q:Int)+1)=((q+1:Nat):Int):=by rw [cK ⟨by omega,by omega⟩]; omega
   have hwp:i64.wrap ((p:Int)+1)=((p+1:Nat):Int):=by rw [cK ⟨by omega,by omega⟩]; omega
   rw [hwq];refine Gd.ite (λh=>?_) (λh=>?_)
   ·have hq:q<l.length:=by
     have:(q:Int)<((l.length:Nat):Int):=by simpa using h
     omega
    have hqa:q<A.length:=by omega
    have hv:l[q]=A[q]:=by
     have e1:=O6 hq;have e2:=O6 hqa;rw [O,e2] at e1;exact (List.cons.inj e1).1.symm
    have hd2:l.drop (q+1)=A.drop (q+1):=by
     have:=Pc (List.drop 1) O;simpa [Qa] using this
    have J:(A.take (q+1)).filter kp=(A.take q).filter kp++(if kp A[q] then [A[q]] else []):=by
     rw [OL hqa,QS]
     congr 1
     simp only [SE,List.filter_nil]
    refine Gd.mR hq ?_;rw [hp,hv];refine Gd.ite (λZ=>Gd.mR (show p<l.length by omega) ?_) (λZ=>?_)
    ·have Z:kp A[q]=true:=by simpa using Z
     rw [hwp,N7];refine hn _ ⟨p+1,q+1,rfl,rfl,by omega,by omega,by simpa using hl,?_,?_⟩ (by simp only [N7]; omega)
     ·simp only
      have hp:p<(l.set p A[q]).length:=by simp; omega
      rw [OL hp,List.getElem_set_self,J,Oc Z,QN (Ov p),I]
     ·simp only
      rw [Qs (by omega),hd2]
    ·have Z:kp A[q]=false:=by simpa using Z
     refine hn _ ⟨p,q+1,rfl,rfl,by omega,by omega,hl,?_,hd2⟩ (by simp only [N7]; omega)
     simp only;rw [J,Ob (by simp [Z]),OX,I]
   ·have hq:l.length<=q:=by
     have:((l.length:Nat):Int)<=(q:Int):=by simpa using h
     omega
    have hqe:q=A.length:=by omega
    refine Gd.nd ⟨Sx p,show (p:Int)<=((l.length:Nat):Int) by omega⟩ (Gd.nd ⟨Sx p,?_⟩ (Gd.ret ?_))
    ·simp only [N7,OG,OF,Pl]; omega
    ·unfold uW
     rw [PB,Q4,N7,List.take_append_of_le_length (by simp; omega),RO,Nat.min_self,I,hqe,PS]
def EZ (W:List BA) (x:aJ):Bool:=decide (x.Name ∈ W)
theorem del_eq (W:List BA) (x:aJ):mJ x W=some (!EZ W x):=by
 unfold mJ;rw [Az]; rfl
theorem DS (W:List BA) (A:List aJ) (hA:A.length<=1000):Gd (eV A W) (λr=>r=A.filter (EZ W)):=
 G9 (λy=>mJ y W) (EZ W) (del_eq W) (aJ.mk ⟨#[]⟩ ⟨#[]⟩ 0) A (by omega)
theorem Gk {n:Net} (Y:ua n) (on:List N2):Gd (kg n on) (λe=>e=0->dV n=some 0):=by
 obtain ⟨e,O,_⟩:=check_sound n Y;unfold kg;refine Gd.bind_eq O (Gd.ite (λh=>Gd.ret (λJ=>by subst J; simp at h)) (λh=>?_))
 have J:e=0:=by simpa using h
 subst J;refine Gd.gM (Q:=λe=>e=0->dV n=some 0) (λi (ys:List N2) (_:Unit)=>i+ys.length=on.length) ?_ (λ_ _ _=>Gd.ret (λ_=>O)) on 0 () (by simp)
 intro i y ys _ Z hi I;simp only [Oj] at hi;unfold sk;refine Gd.hO (P:=λ_=>True) ?_ (λb _=>Gd.ite (λ_=>Gd.ret (λh=>by simp at h)) (λ_=>?_))
 ·unfold d_ eX
  refine Gd.hO (P:=λ_=>True) ?_ (λ_ _=>Gd.ret N4);refine Gd.mn (Q:=λ_=>True) (λm i (_:Unit)=>i+m=n.eS.length) ?_ (λ_ _ _=>Gd.ret N4) ((n.eS.length:Int)).toNat 0 () (by omega)
  intro m i _ Z hi I;unfold gH;exact Gd.mR (by omega) (Gd.ite (λ_=>Gd.ret N4) (λ_=>I () (by omega)))
 ·refine Gd.nd (by omega) ?_
  rw [Az];exact Gd.ite (λ_=>Gd.ret (λh=>by simp at h)) (λ_=>I () (by omega))
def we (n:Net) (on:List N2):Net:=aG.mk n.cA n.dE n.aU n.kF (n.eS.filter (EZ on)) n.eK
theorem Kb {n:Net} (h:sB n) (on:List N2):qY n on=some (we n on):=by
 have:=h.l1; have:=h.l2; have:=h.l3; have:=h.l4; have:=h.l5; have:=h.l6
 rw [<- Gd.eq];unfold qY rX;refine Gd.hO (P:=λr=>r=n) (Gd.nd (by omega) (Gd.nd (by omega) (Gd.nd (by omega) (Gd.nd (by omega) (Gd.nd (by omega) (Gd.nd (by omega) (Gd.ret rfl))))))) (λr I=>?_)
 subst I;refine Gd.hO (DS on r.eS (by omega)) (λl hl=>Gd.ret ?_)
 rw [hl]; rfl
theorem ua.we {n:Net} (h:ua n) (on:List N2):ua (we n on):=
 ⟨h.nd,h.sw,h.br,h.gn,λx I=>h.ld x (Pj.1 I).1,h.st⟩
theorem I8 {n:Net}{on:List N2}{e:Int} (h:kg n on=some e) (I:e≠0):oa n on=some (aG.mk [] [] [] [] [] [],e):=by
 rw [<- Gd.eq];unfold oa;exact Gd.bind_eq h (Gd.ite (λ_=>Gd.ret rfl) (λk=>absurd (by simpa using k) I))
theorem EH {n:Net} (I:sB n) {on:List N2} (h:kg n on=some 0):oa n on=some (we n on,0):=by
 rw [<- Gd.eq];unfold oa;exact Gd.bind_eq h (Gd.ite (λk=>by simp at k) (λ_=>Gd.bind_eq (Kb I on) (Gd.ret rfl)))
def xH (z:aZ×Rat):Prop:=(z.1.t_:Rat)<K9 z.2
open Classical in
noncomputable def wW (z:aZ×Rat):List N2:=if xH z then [z.1.Name] else []
theorem xb {z:aZ×Rat} (h:xH z):wW z=[z.1.Name]:=Oc h
theorem yn {z:aZ×Rat} (h:¬ xH z):wW z=[]:=Ob h
theorem Ii:∀ {l:List N2},(∀ x ∈ l,∃ q,fits q/\x=ctext q)->∃ qs:List Rat,l=qs.map ctext/\∀ q ∈ qs,fits q
 | [],_=>⟨[],rfl,λq h=>by cases h⟩
 | x::l,h=>by
  obtain ⟨q,O,rfl⟩:=h x (Oa ..);obtain ⟨qs,rfl,J⟩:=Ii (l:=l) (λy Y=>h y (Od _ Y));refine ⟨q::qs,rfl,λp I=>?_⟩;rcases OM.1 I with rfl | I
  ·exact O
  ·exact J p I
theorem IU {bs:List aZ}{qs:List Rat}{i:Nat} (h:i<bs.length) (J:i<qs.length):
  ((bs.zip qs).take (i+1)).flatMap wW=((bs.zip qs).take i).flatMap wW++wW (bs[i],qs[i]):=by
 have I:i<(bs.zip qs).length:=by simp; omega
 rw [OL I,RA,List.getElem_zip];simp
theorem Fb {n:Net} (hV:sB n) {qs:List Rat} (hl:qs.length=n.aU.length) (hf:∀ q ∈ qs,fits q):
  ob n (qs.map ctext)=some ((n.aU.zip qs).flatMap wW):=by
 have h3:=hV.l3;rw [<- Gd.eq];unfold ob;refine Gd.gM (λi (ys:List aZ) (w:List N2)=>i+ys.length=n.aU.length/\n.aU.drop i=ys/\w.length<=i/\w=((n.aU.zip qs).take i).flatMap wW) ?_ ?_ n.aU 0 [] ⟨by simp,rfl,by simp,by simp⟩
 ·rintro i y ys w nx ⟨hi,hd,hw,hv⟩ hnx
  simp only [Oj] at hi;have J:i<n.aU.length:=by omega
  have O:i<qs.length:=by omega
  have hy:n.aU[i]=y:=by
   have e:=O6 J;rw [hd] at e; exact (List.cons.inj e).1.symm
  have Z:n.aU.drop (i+1)=ys:=by
   have:=Pc (List.drop 1) hd;simpa [Qa] using this
  have hL:=(GZ hV (OY J)).l;have Y:=IU J O;rw [<- hv] at Y;unfold sL o9;refine Gd.mR (by simpa using O) ?_
  rw [P8];refine Gd.hO (H_ (hf _ (OY O))) (λa ha=>Gd.hO (JR ha.1 ha.2.1 (by omega)) (λb hb=>?_))
  rw [<- hy];refine Gd.hO (w7 ⟨by omega,by omega⟩) (λc hc=>Gd.hO (JT hb.1 hc.1 hb.2.1 hc.2.1 (by omega)) (λd I=>?_))
  rw [hb.2.2,hc.2.2,ha.2.2] at I;have hov:0<d↔xH (n.aU[i],qs[i]):=I.1;clear I;refine Gd.ite (λh=>Gd.nd ?_ (hnx _ ⟨by omega,Z,?_,?_⟩)) (λh=>hnx _ ⟨by omega,Z,by omega,?_⟩)
  ·simp only [Oj,SI]; omega
  ·simp; omega
  ·rw [Y,xb (hov.1 (N9 h))]
  ·rw [Y,yn (λk=>Og h (hov.2 k)),OX]
 ·rintro i w ⟨hi,_,_,hv⟩
  rw [Oo (by simp at hi ⊢; omega)] at hv
  exact Gd.ret hv
theorem GA {n:Net}{on:List N2}{e:Int} (h:kg n on=some e) (I:e≠0):kZ n on=some (gW.mk [] [],[],e):=by
 rw [<- Gd.eq];unfold kZ;exact Gd.bind_eq (I8 h I) (Gd.ite (λ_=>Gd.ret rfl) (λk=>absurd (by simpa using k) I))
theorem Fu {n:Net} (J:sB n) {on:List N2} (h:kg n on=some 0) {e:Int} (I:e≠0) (hi:jK (we n on)=some ([],e)):
  kZ n on=some (gW.mk [] [],[],e):=by
 rw [<- Gd.eq];unfold kZ qd;exact Gd.bind_eq (EH J h) (Gd.ite (λk=>by simp at k) (λ_=>Gd.hO (P:=λr=>r=(gW.mk [] [],[],e)) (Gd.bind_eq hi (Gd.ite (λ_=>Gd.ret rfl) (λk=>absurd (by simpa using k) I))) (λr O=>by subst O; exact Gd.ret rfl)))
theorem GB {n:Net} (I:sB n) {on:List N2} (h:kg n on=some 0) {p:List Int}{s:gW}{ov:List N2}
  (hi:jK (we n on)=some (p,0)) (hs:pS (we n on) p=some (s,0)) (J:ob (we n on) s.u5=some ov):
  kZ n on=some (s,ov,0):=by
 rw [<- Gd.eq];unfold kZ qd;exact Gd.bind_eq (EH I h) (Gd.ite (λk=>by simp at k) (λ_=>Gd.hO (P:=λr=>r=(s,ov,0)) (Gd.bind_eq hi (Gd.ite (λk=>by simp at k) (λ_=>Gd.bind_eq hs (Gd.ite (λk=>by simp at k) (λ_=>Gd.bind_eq J (Gd.ret rfl)))))) (λr O=>by subst O; exact Gd.ret rfl)))
theorem seq_eq (l:List N2):kn l l=some true:=by
 rw [<- Gd.eq];unfold kn;refine Gd.ite (λh=>by simp at h) (λ_=>?_)
 refine Gd.mn (Q:=λx=>x=true) (λm i (_:Unit)=>i+m=l.length) ?_ (λ_ _ _=>Gd.ret rfl) ((l.length:Int)).toNat 0 () (by omega)
 intro m i _ J hi I;unfold mo;exact Gd.mR (by omega) (Gd.mR (by omega) (Gd.ite (λh=>by simp at h) (λ_=>I () (by omega))))
structure Nc (n:Net) (on:List BA) (s:gW) (ov:List BA):Prop where
 NJ:kg n on=some 0
 cn:dV n=some 0
 v:sB n
 al:s.vJ.length<=100000
 fl:s.u5.length=n.aU.length
 ff:∀ x ∈ s.u5,∃ q,fits q/\x=ctext q
 oe:ob n s.u5=some ov
 ol:ov.length<=24
 om:∀ x ∈ ov,∃ b ∈ n.aU,b.Name=x
 NK:∃ p,jK (we n on)=some (p,0)/\True
theorem F6 {l:List (aZ×Rat)}:∀ {x:BA},x ∈ l.flatMap wW->∃ z ∈ l,z.1.Name=x:=by
 intro x I;obtain ⟨z,J,I⟩:=P9.1 I;refine ⟨z,J,?_⟩
 by_cases h:xH z
 ·rw [xb h] at I
  simp at I;exact I.symm
 ·rw [yn h] at I
  simp at I
theorem Ba:∀ (l:List (aZ×Rat)),(l.flatMap wW).length<=l.length
 | []=>by simp
 | z::l=>by
  have:=Ba l;have:(wW z).length<=1:=by
   by_cases h:xH z
   ·rw [xb h]; simp
   ·rw [yn h]; simp
  simp only [Pm,OG,Oj];omega
theorem Gz {n:Net} (Y:ua n) (on:List BA):Gd (kZ n on) (λr=>(r.2.2≠0->r=(gW.mk [] [],[],r.2.2))/\(r.2.2=0->Nc n on r.1 r.2.1)):=by
 obtain ⟨e,J,hok⟩:=Gk Y on
 by_cases h0:e=0
 ·subst h0
  have O:=hok rfl;have Z:sB n:=by
   obtain ⟨f,hf,hs⟩:=check_sound n Y;rw [O] at hf;exact hs (N8 hf).symm
  rcases BR (we n on) (Y.we on) with ⟨x,hx,hi⟩ | ⟨t,p,s,hV',hn,hg,ht,hb,hi,hfc,hs,I,hv⟩
  ·rw [Fu Z J hx hi]
   exact Gd.ret ⟨λ_=>rfl,λh=>absurd h hx⟩
  ·obtain ⟨qs,hq,hqf⟩:=Ii I.f
   have hql:qs.length=(we n on).aU.length:=by
    have:=I.fl;rw [hq,PJ] at this;exact this
   have ho:=Fb hV' (qs:=qs) hql hqf;rw [<- hq] at ho;rw [GB Z J hi hs ho];refine Gd.ret ⟨λh=>absurd rfl h,λ_=>⟨J,O,Z,?_,I.fl,I.f,ho,?_,?_,p,hi,hv⟩⟩
   ·have:=I.al
    have:=ht.IX;show s.vJ.length<=100000;omega
   ·refine Pn (Ba _) ?_
    rw [List.length_zip];exact Pn (Nat.min_le_left _ _) Z.l3
   ·intro x hx
    obtain ⟨z,Y,J⟩:=F6 hx;exact ⟨z.1,(List.of_mem_zip Y).1,J⟩
 ·rw [GA J h0]
  exact Gd.ret ⟨λ_=>rfl,λh=>absurd h h0⟩
def Na {α:Type} (p:α->Bool) (l:List α) (r:Int):Prop:=(r = -1/\∀ x ∈ l,p x=false)\/∃ i,∃ h:i<l.length,r=(i:Int)/\p l[i]=true/\∀ x ∈ l.take i,p x=false
theorem LP {α:Type} (p:α->Bool) (l:List α):
  Gd (mn (λk (_:Unit) n=>idx l (k:Int) λy=>if p y then (some (k:Int)) else (n ())) (λ_=>some (-1)) ((l.length:Int):Int).toNat 0 ()) (Na p l):=by
 refine Gd.mn (λm i _=>i+m=l.length/\∀ x ∈ l.take i,p x=false) ?_ ?_ (l.length:Int).toNat 0 () ⟨by omega,by simp⟩
 ·intro m i _ O ⟨hi,hno⟩ hnx
  have I:i<l.length:=by omega
  refine Gd.mR I (Gd.ite (λh=>Gd.ret (.inr ⟨i,I,rfl,h,hno⟩)) (λh=>hnx () ⟨by omega,?_⟩))
  rw [OL I];intro x J;rcases Om.1 J with J | J
  ·exact hno x J
  ·rw [OU.1 J]; exact h
 ·intro i _ ⟨hi,hno⟩
  refine Gd.ret (.inl ⟨rfl,?_⟩);have:l.take i=l:=Oo (by omega)
  rw [this] at hno;exact hno
abbrev IW:=aA
theorem uD (l:List BA) (p:BA):aW l p=some (decide (p ∈ l)):=Az l p
theorem GN (l:List BA) (p:BA):Gd (aW l p) (λb=>b=true↔p ∈ l):=by
 rw [uD];exact Gd.ret (by simp)
abbrev Cz:=aF
theorem CC (s:BA) (h:s.size<=maxLen):Gd (bV s) (λ_=>True):=by
 unfold bV;refine Gd.nd h (Gd.gM (λ_ _ _=>True) (λi y ys s n _ hn=>?_) (λi s _=>Gd.ret N4) _ _ _ N4);unfold pU;exact Gd.ite (λ_=>Gd.ret N4) (λ_=>hn _ N4)
theorem KK (l:List Cz) (c:Cz):Gd (eA l c) (λ_=>True):=by
 unfold eA gR;refine Gd.hO (P:=λ_=>True) ?_ (λr J=>Gd.ret N4);refine Gd.mn (λm i _=>i+m=l.length) ?_ (λ_ _ _=>Gd.ret N4) (l.length:Int).toNat 0 () (by omega)
 intro m i _ O hi I;unfold iV;exact Gd.mR (by omega) (Gd.ite (λh=>Gd.ret N4) (λh=>I () (by omega)))
def IZ (cs:List Cz):Prop:=∀ c ∈ cs,c.Of.size<=maxLen/\c.By.size<=maxLen
theorem Fx (cs:List Cz) (h:IZ cs):Gd (mP cs) (λe=>e=0->cs.length<=40):=by
 unfold mP;refine Gd.ite (λ_=>Gd.ret (λh=>by simp at h)) (λhl=>?_)
 have hl:cs.length<=40:=by
  have:((cs.length:Nat):Int)<=40:=by simpa using hl
  omega
 refine Gd.gM (λi ys _=>i+ys.length=cs.length/\IZ ys) ?_ (λi s _=>Gd.ret λ_=>hl) _ _ _ ⟨by simp,h⟩
 intro i y ys s n ⟨hi,hys⟩ hn;simp only [Oj] at hi;obtain ⟨I,J⟩:=hys y (Oa ..);unfold s5;refine Gd.hO (CC _ I) (λb _=>Gd.ite (λ_=>?_) (λ_=>Gd.ret (λh=>by simp at h)))
 refine Gd.hO (CC _ J) (λb _=>Gd.ite (λ_=>Gd.ret (λh=>by simp at h)) (λ_=>Gd.ite (λ_=>Gd.ret (λh=>by simp at h)) (λ_=>?_)))
 exact Gd.nd (by omega) (Gd.hO (KK _ _) (λc _=>Gd.ite (λ_=>Gd.ret (λh=>by simp at h)) (λ_=>hn _ ⟨by omega,λx O=>hys x (Od _ O)⟩)))
def Lq (cs:List Cz) (l:List BA) (x y:BA):Prop:=(∃ c ∈ cs,c.Of=x/\c.By=y)/\y ∈ l
inductive wH (cs:List Cz) (l:List BA) (x:BA):BA->Prop
 | one {y:BA}:Lq cs l x y->wH cs l x y
 | snoc {y z:BA}:wH cs l x y->Lq cs l y z->wH cs l x z
theorem wH.trans {cs:List Cz}{l:List BA}{x y z:BA} (I:wH cs l x y) (J:wH cs l y z):wH cs l x z:=by
 induction J with
 | one h=>exact .snoc I h
 | snoc _ h ih=>exact .snoc ih h
theorem wH.mem {cs:List Cz}{l:List BA}{x y:BA} (h:wH cs l x y):y ∈ l:=by cases h with
 | one h=>exact h.2
 | snoc _ h=>exact h.2
theorem BJ (cs:List Cz) (l:List BA) (name:BA) (hl:l.length<=24) (hc:cs.length<=40):Gd (l7 cs l name) (λout=>out.Nodup/\∀ y,y ∈ out↔wH cs l name y):=by
 unfold l7;refine Gd.cE (λ(s:List BA×List BA)=>s.1.Nodup/\(∀ y ∈ s.1,wH cs l name y)/\(∀ y ∈ s.2,y=name\/y ∈ s.1)/\(∀ x,x=name\/x ∈ s.1->x ∉ s.2->∀ y,Lq cs l x y->y ∈ s.1)/\2*(24-s.1.length)+s.2.length<=49)
  (λs=>2*(24-s.1.length)+s.2.length) ?_ a_ _ ⟨by simp,by simp,by simp,?_,by simp⟩ (by simp; unfold a_; omega)
 ·rintro ⟨out,todo⟩ nx ⟨hnd,hr,ht,hp,htot⟩ hn
  simp only at hnd hr ht hp htot;have ho:out.length<=24:=by
   have:=wV out l hnd (λy I=>(hr y I).mem); omega
  unfold qT;refine Gd.ite (λhne=>?_) (λhe=>?_)
  ·obtain ⟨s,ts,rfl⟩:∃ a ts,todo=a::ts:=by
    cases todo with
    | nil=>simp at hne
    | cons a ts=>exact ⟨a,ts,rfl⟩
   simp only [Oj] at htot;refine Gd.ix (y:=s) (by decide) rfl (Gd.nd ⟨by omega,by simp only [Oj]; omega⟩ ?_)
   have hsl:uW (s::ts) (1:Int).toNat (s::ts).length=ts:=by
    unfold uW;rw [show (1:Int).toNat=1 from rfl,Rz,PB,Oo (by simp)]
   rw [hsl];have hsn:s=name\/wH cs l name s:=(ht s (Oa ..)).imp id (hr s);refine Gd.seen (λpre (q:List BA×List BA)=>q.1.Nodup/\(∀ y ∈ q.1,wH cs l name y)/\(∀ y ∈ q.2,y=name\/y ∈ q.1)/\(∀ x,x=name\/x ∈ q.1->x ∉ q.2->x≠s->∀ y,Lq cs l x y->y ∈ q.1) /\
    (∀ c ∈ pre,c.Of=s->c.By ∈ l->c.By ∈ q.1)/\2*(24-q.1.length)+q.2.length<=2*(24-out.length)+ts.length) ?_ ?_ _ ⟨hnd,hr,λy I=>ht y (Od _ I),?_,by simp,Ov (2*(24-out.length)+ts.length)⟩
   ·rintro i c ⟨o,td⟩ nn pre hpre ⟨g1,g2,g3,g4,g5,g6⟩ hnn
    simp only at g1 g2 g3 g4 g5 g6;obtain ⟨_,hcm,_⟩:=sR hpre;have ho2:o.length<=24:=by
     have:=wV o l g1 (λy I=>(g2 y I).mem); omega
    unfold qu kA;rw [uD,uD];refine Gd.ite (λh1=>Gd.ite (λh2=>Gd.ite (λh3=>?_) (λh3=>?_)) (λh2=>?_)) (λh1=>?_)
    ·have h1:c.Of=s:=by simpa using h1
     have h2:c.By ∈ l:=by simpa using h2
     have h3:c.By ∉ o:=by simpa using h3
     have harc:Lq cs l s c.By:=⟨⟨c,hcm,h1,rfl⟩,h2⟩;have hnew:(o++[c.By]).Nodup:=by
      rw [OO];exact ⟨g1,by simp,λa ha b hb=>by simp at hb; subst hb; intro e; exact h3 (e▸ha)⟩
     have hrn:∀ y ∈ o++[c.By],wH cs l name y:=λy I=>by
      rcases Om.1 I with I | I
      ·exact g2 y I
      ·simp at I; subst I
       rcases hsn with rfl | h
       ·exact .one harc
       ·exact .snoc h harc
     have hlen:(o++[c.By]).length<=24:=by
      have:=wV _ l hnew (λy I=>(hrn y I).mem); omega
     simp only [OG,OQ] at hlen;refine Gd.nd (by simp; omega) (Gd.nd (by simp; omega) (hnn _ ⟨hnew,hrn,?_,?_,?_,by simp; omega⟩))
     ·intro y I
      rcases Om.1 I with I | I
      ·rcases g3 y I with h | h
       ·exact .inl h
       ·exact .inr (N6 _ h)
      ·exact .inr (OR _ I)
     ·intro x hx Z hxs y I
      have hxt1:x ∉ td:=λh=>Z (N6 _ h);rcases hx with rfl | hx
      ·exact N6 _ (g4 _ (.inl rfl) hxt1 hxs y I)
      ·rcases Om.1 hx with hx | hx
       ·exact N6 _ (g4 x (.inr hx) hxt1 hxs y I)
       ·exact absurd (OR _ hx) Z
     ·intro d J O Y
      rcases Om.1 J with J | J
      ·exact N6 _ (g5 d J O Y)
      ·simp at J; subst J; simp
    ·have h3:c.By ∈ o:=by simpa using h3
     refine hnn _ ⟨g1,g2,g3,g4,λd J O Y=>?_,g6⟩;rcases Om.1 J with J | J
     ·exact g5 d J O Y
     ·simp at J; subst J; exact h3
    ·have h2:c.By ∉ l:=by simpa using h2
     refine hnn _ ⟨g1,g2,g3,g4,λd J O Y=>?_,g6⟩;rcases Om.1 J with J | J
     ·exact g5 d J O Y
     ·simp at J; subst J; exact absurd Y h2
    ·have h1:c.Of≠s:=by simpa using h1
     refine hnn _ ⟨g1,g2,g3,g4,λd J O Y=>?_,g6⟩;rcases Om.1 J with J | J
     ·exact g5 d J O Y
     ·simp at J; subst J; exact absurd O h1
   ·rintro ⟨o,td⟩ ⟨g1,g2,g3,g4,g5,g6⟩
    simp only at g1 g2 g3 g4 g5 g6;refine hn _ ⟨g1,g2,g3,λx hx Z y I=>?_,by simp only; omega⟩ (by simp only [Oj]; omega)
    by_cases e:x=s
    ·subst e
     obtain ⟨⟨c,hc1,hc2,hc3⟩,hyl⟩:=I;subst hc3;exact g5 c hc1 hc2 hyl
    ·exact g4 x hx Z e y I
   ·intro x hx Z hxs y I
    exact hp x hx (λh=>(OM.1 h).elim hxs Z) y I
  ·have htn:todo=[]:=by
    cases todo with
    | nil=>rfl
    | cons a ts=>simp at he
   subst htn;refine Gd.ret ⟨hnd,λy=>⟨hr y,λh=>?_⟩⟩
   induction h with
   | one h=>exact hp name (.inl rfl) (by simp) _ h
   | snoc _ h ih=>exact hp _ (.inr ih) (by simp) _ h
 ·intro x hx Z
  simp at hx;subst hx;simp at Z
def Gw (cs:List Cz) (l:List BA) (x:BA):Prop:=∀ y,wH cs l x y->Cg x y/\wH cs l y x
theorem D5 (cs:List Cz) (l:List BA) (name:BA) (hl:l.length<=24) (O:cs.length<=40):Gd (pZ cs l name) (λb=>b=true↔Gw cs l name):=by
 unfold pZ;refine Gd.hO (BJ cs l name hl O) (λout ⟨_,hout⟩=>?_);refine Gd.hO (P:=λb=>b=true↔∃ y ∈ out,¬ (Cg name y/\wH cs l y name)) ?_ (λb J=>Gd.ret ?_)
 ·unfold eZ fT
  refine Gd.hO (P:=λr=>0<=r↔∃ y ∈ out,¬ (Cg name y/\wH cs l y name)) ?_ (λr hr=>Gd.ret (by simpa using hr))
  refine Gd.mn (λm i _=>i+m=out.length/\∀ y ∈ out.take i,Cg name y/\wH cs l y name) ?_ ?_ (out.length:Int).toNat 0 () ⟨by omega,by simp⟩
  ·intro m i _ nx ⟨hi,hno⟩ hnx
   have Y:i<out.length:=by omega
   unfold iE;refine Gd.mR Y (Gd.hO (P:=λb=>b=true↔¬ (Cg name out[i]/\wH cs l out[i] name)) ?_ (λb J=>Gd.ite (λh=>Gd.ret ⟨λ_=>⟨out[i],OY _,J.1 h⟩,λ_=>by omega⟩) (λh=>hnx () ⟨by omega,?_⟩)))
   ·unfold qz
    refine Gd.ite (λh=>Gd.ret ⟨λ_ hh=>?_,λ_=>rfl⟩) (λh=>Gd.hO (BJ cs l out[i] hl O) (λo2 ⟨_,ho2⟩=>?_))
    ·have:=hh.1
     unfold Cg at this;rw [this] at h; cases h
    ·refine Gd.hO (GN _ _) (λc O=>Gd.ret ?_)
     rw [ho2] at O;rw [<- O];unfold Cg;cases c <;> simp [h]
   ·rw [OL Y]
    intro y I;rcases Om.1 I with I | I
    ·exact hno y I
    ·simp at I; subst I
     by_cases e:Cg name out[i]/\wH cs l out[i] name
     ·exact e
     ·have:=J.2 e
      rw [this] at h; cases h
  ·intro i _ ⟨hi,hno⟩
   rw [Oo (by omega)] at hno
   exact Gd.ret ⟨λh=>by omega,λ⟨y,I,h⟩=>absurd (hno y I) h⟩
 ·unfold Gw
  constructor
  ·intro h y I
   have Z:¬ b=true:=by
    intro e; rw [e] at h; cases h
   by_cases e:Cg name y/\wH cs l y name
   ·exact e
   ·exact absurd (J.2 ⟨y,(hout y).2 I,e⟩) Z
  ·intro h
   cases b
   ·rfl
   ·obtain ⟨y,I,hn⟩:=J.1 rfl
    exact absurd (h y ((hout y).1 I)) hn
theorem y8 (cs:List Cz) (l:List BA) (hl:l.length<=24) (hc:cs.length<=40) (Y:l.Nodup):Gd (mE cs l) (λr=>r.length<=24/\∀ y,y ∈ r↔y ∈ l/\Gw cs l y):=by
 unfold mE;refine Gd.seen (λpre out=>out.Nodup/\out.length<=pre.length/\∀ y,y ∈ out↔y ∈ pre/\Gw cs l y) ?_ ?_ _ ⟨by simp,by simp,by simp⟩
 ·rintro i y s nn pre I ⟨Z,h2,J⟩ hn
  obtain ⟨hpl,hyl,hpm⟩:=sR I;have hyp:y ∉ pre:=by
   obtain ⟨post,rfl⟩:=I;rw [OO] at Y;intro h;exact Y.2.2 y h y (Oa ..) rfl
  unfold ry ny;refine Gd.hO (D5 cs l y (by omega) hc) (λb O=>Gd.ite (λh=>Gd.nd (by simp; omega) (hn _ ⟨?_,by simp; omega,?_⟩)) (λh=>hn _ ⟨Z,by simp; omega,?_⟩))
  ·rw [OO]
   exact ⟨Z,by simp,λa ha b O=>by simp at O; subst O; intro e; exact hyp (e▸((J a).1 ha).1)⟩
  ·intro z
   rw [Om,Om,J z,OU];constructor
   ·rintro (⟨p,q⟩ | rfl)
    ·exact ⟨.inl p,q⟩
    ·exact ⟨.inr rfl,O.1 h⟩
   ·rintro ⟨p | rfl,q⟩
    ·exact .inl ⟨p,q⟩
    ·exact .inr rfl
  ·intro z
   rw [Om,J z,OU];constructor
   ·rintro ⟨p,q⟩; exact ⟨.inl p,q⟩
   ·rintro ⟨p | rfl,q⟩
    ·exact ⟨p,q⟩
    ·rw [O.2 q] at h; cases h
 ·rintro s ⟨Z,h2,J⟩
  refine Gd.hO (IB s (by omega)) (λr hp=>Gd.ret ⟨by rw [hp.length_eq]; omega,λy=>?_⟩)
  rw [hp.mem_iff,J]
theorem CH (cs:List Cz) (l:List BA):∀ (n:Nat) (x:BA),x ∈ l->(∀ L:List BA,L.Nodup->(∀ y ∈ L,y ∈ l/\(y=x\/wH cs l x y))->L.length<=n)->∃ y ∈ l,Gw cs l y/\(y=x\/wH cs l x y)
 | 0,x,Z,h=>by
  have:=h [x] (by simp) (λy O=>by simp at O; subst O; exact ⟨Z,.inl rfl⟩)
  simp at this
 | n+1,x,Z,h=>by
  by_cases hA:∃ y,wH cs l x y/\¬ wH cs l y x
  ·obtain ⟨y,I,hyx⟩:=hA
   have hne:y≠x:=λe=>by subst e; exact hyx I
   obtain ⟨z,hz,hc,Y⟩:=CH cs l n y I.mem (λL hL hm=>by
    have hxL:x ∉ L:=λZ=>(hm x Z).2.elim (λe=>hne e.symm) hyx;have:=h (x::L) (QV.2 ⟨hxL,hL⟩) (λz hz=>by
     rcases OM.1 hz with rfl | hz
     ·exact ⟨Z,.inl rfl⟩
     ·obtain ⟨h1,h2⟩:=hm z hz
      refine ⟨h1,.inr ?_⟩;rcases h2 with rfl | h2
      ·exact I
      ·exact I.trans h2)
    simp only [Oj] at this; omega)
   refine ⟨z,hz,hc,.inr ?_⟩;rcases Y with rfl | Y
   ·exact I
   ·exact I.trans Y
  ·have hA:∀ y,wH cs l x y->wH cs l y x:=λy O=>by
    by_cases e:wH cs l y x
    ·exact e
    ·exact absurd ⟨y,O,e⟩ hA
   have hex:∃ L:List BA,∀ y,y ∈ L↔y ∈ l/\(y=x\/wH cs l x y):=by
    classical
    exact ⟨l.filter (λy=>decide (y=x\/wH cs l x y)),λy=>by rw [Pj,PC]⟩
   obtain ⟨L,hL⟩:=hex;obtain ⟨m,hm,hmin⟩:=HF L (List.ne_nil_of_mem ((hL x).2 ⟨Z,.inl rfl⟩));obtain ⟨hml,J⟩:=(hL m).1 hm;refine ⟨m,hml,λy O=>?_,J⟩;have I:wH cs l x y:=by
    rcases J with rfl | J
    ·exact O
    ·exact J.trans O
   refine ⟨hmin y ((hL y).2 ⟨O.mem,.inr I⟩),?_⟩;rcases J with rfl | J
   ·exact hA y I
   ·exact (hA y I).trans J
theorem CI (cs:List Cz) (l:List BA) (x:BA) (I:x ∈ l):∃ y ∈ l,Gw cs l y/\(y=x\/wH cs l x y):=
 CH cs l l.length x I (λL hL hm=>wV L l hL (λy J=>(hm y J).1))
def C1 (W:List BA) (x:IW):Bool:=decide (x.Name ∈ W)
theorem Fy {cs:List Cz}{l:List BA} (hc:mP cs=some 0) (hl:l.length<=24) (O:l.Nodup) (hv:∀ x ∈ l,bV x=some true):pf cs l=some 0:=by
 rw [<- Gd.eq];unfold pf;refine Gd.bind_eq hc (Gd.ite (λh=>by simp at h) (λ_=>Gd.ite (λh=>by simp at h; omega) (λ_=>?_)))
 refine Gd.gM (Q:=λz=>z=0) (λi ys (_:Unit)=>i+ys.length=l.length/\ys=l.drop i) ?_ (λ_ _ _=>Gd.ret rfl) _ _ _ ⟨OB _,rfl⟩;rintro i y ys _ nx ⟨hi,J⟩ hn;simp only [Oj] at hi;have I:i<l.length:=by omega
 rw [O6 I] at J;obtain ⟨rfl,rfl⟩:=List.cons.inj J;unfold s6;have hs:uW l 0 ((i:Int).toNat)=l.take i:=by unfold uW; rw [PB,N7,Q4]
 have Y:l[i] ∉ l.take i:=by
  have h1:l.take (i+1)=l.take i++[l[i]]:=OL I;have Z:(l.take (i+1)).Nodup:=(List.take_sublist _ _).nodup O;rw [h1,OO] at Z;exact λhm=>Z.2.2 _ hm _ (Q8 _) rfl
 refine Gd.bind_eq (hv _ (OY I)) (Gd.ite (λh=>by simp at h) (λ_=>Gd.nd (by omega) ?_))
 rw [hs,uD];exact Gd.ite (λh=>absurd (by simpa using h) Y) (λ_=>hn _ ⟨by omega,rfl⟩)
theorem DX (cs:List Cz) (l:List BA) (name:BA) (hl:l.length<=24) (hc:cs.length<=40) (hnd:l.Nodup) (hk:pf cs l=some 0) (hm:name ∈ l):
  Gd (ng cs l name) (λr=>r.2=0/\∃ y ys,r.1=y::ys/\y ∈ l/\Gw cs l y):=by
 unfold ng;refine Gd.bind_eq hk (Gd.ite (λh=>by simp at h) (λ_=>?_))
 rw [uD];refine Gd.ite (λh=>absurd hm (by simpa using h)) (λ_=>?_)
 refine Gd.hO (BJ cs l name (by omega) hc) (λby_ ⟨_,hby⟩=>Gd.hO (y8 cs l hl hc hnd) (λall ⟨hal,hall⟩=>?_))
 refine Gd.seen (λpre (out:List BA)=>out.length<=pre.length/\(∀ y ∈ out,y ∈ all)/\∀ y,y ∈ pre->(y=name\/wH cs l name y)->y ∈ out) ?_ ?_ _ ⟨by simp,by simp,by simp⟩
 ·rintro i y s nn pre J ⟨h0,O,Y⟩ hn
  obtain ⟨hpl,hyl,hpm⟩:=sR J;have add:Gd (fU ((s.length+([y]).length)*16<=140737488355328) (nn (s++[y]))) (λr=>r.2=0/\∃ y ys,r.1=y::ys/\y ∈ l/\Gw cs l y):=by
   refine Gd.nd (by simp; omega) (hn _ ⟨by simp; omega,λz I=>?_,λz I Z=>?_⟩)
   ·rcases Om.1 I with I | I
    ·exact O z I
    ·rw [OU] at I; subst I; exact hyl
   ·rcases Om.1 I with I | I
    ·exact N6 _ (Y z I Z)
    ·exact OR _ I
  unfold r8 mD;rw [uD];refine Gd.ite (λ_=>add) (λh=>Gd.ite (λ_=>add) (λh3=>?_));have e1:y≠name:=by simpa using h
  have e2:¬ wH cs l name y:=λe=>(show y ∉ by_ by simpa using h3) ((hby y).2 e)
  refine hn _ ⟨by simp; omega,O,λz I Z=>?_⟩
  rcases Om.1 I with I | I
  ·exact Y z I Z
  ·rw [OU] at I; subst I
   exact absurd Z (λq=>q.elim e1 e2)
 ·rintro out ⟨h0,O,Y⟩
  obtain ⟨y,hy,hyc,hyr⟩:=CI cs l name hm;have hyo:=Y y ((hall y).2 ⟨hy,hyc⟩) hyr;cases out with
  | nil=>cases hyo
  | cons z zs=>
   have I:=(hall z).1 (O z (Oa ..));exact Gd.ret ⟨rfl,z,zs,rfl,I.1,I.2⟩
theorem EM (cs:List Cz) (E:List IW) (la:Int) (J:E.length<=24):Gd (mX ⟨cs,E,la⟩) (λA=>A.Perm E):=by
 unfold mX;exact Gd.nd (by simp only; omega) (Gd.hO (IA E (by omega)) (λr I=>Gd.ret I))
theorem Is (W:List BA) (x:IW):kz x W=some (!C1 W x):=by
 unfold kz;rw [uD]; rfl
theorem Iq (W:List BA) (A:List IW) (hA:A.length<=1000):Gd (c_ A W) (λr=>r=A.filter (C1 W)):=
 G9 (λx=>kz x W) (C1 W) (Is W) (aA.mk (⟨#[]⟩) 0 false) A (by omega)
theorem It (cs:List Cz) (E:List IW) (la:Int) (hE:E.length<=24) (hc:cs.length<=40) (Y:(E.map (·.Name)).Nodup):
  Gd (lj ⟨cs,E,la⟩) (λF=>F.length<=24/\∀ x,x ∈ F↔x ∈ E/\x.Name ∈ E.map (·.Name)/\Gw cs (E.map (·.Name)) x.Name):=by
 unfold lj;refine Gd.seen (λpre out=>out=pre.map (·.Name)) ?_ ?_ _ rfl
 ·rintro i y out nn pre J rfl hn
  obtain ⟨I,_,_⟩:=sR J;have I:pre.length<E.length:=I;unfold pN;exact Gd.nd (by simp only [PJ,OQ]; omega) (hn _ (by simp))
 ·rintro out rfl
  refine Gd.hO (y8 cs _ (by simpa using hE) hc Y) (λW ⟨_,O⟩=>Gd.hO (EM cs E la hE) (λA Z=>Gd.hO (Iq W A (by rw [Z.length_eq]; omega)) (λF hF=>Gd.ret ?_)))
  subst hF;have O:∀ y,y ∈ W↔y ∈ E.map (·.Name)/\Gw cs (E.map (·.Name)) y:=O;refine ⟨by have:=List.length_filter_le (C1 W) A; rw [Z.length_eq] at this; omega,λx=>?_⟩
  rw [Pj,Z.mem_iff];unfold C1;rw [PC,O]
theorem Jb (E:List IW) (x:BA) (h:x ∉ E.map (·.Name)) (cs:List Cz) (la:Int):nt ⟨cs,E,la⟩ x=some (-1):=by
 rw [<- Gd.eq];unfold nt;refine Gd.hO (show Gd (dC E x) (Na (λy:IW=>decide (y.Name=x)) E) from LP _ E) (λr J=>?_);rcases J with ⟨rfl,_⟩ | ⟨i,hi,rfl,I,_⟩
 ·exact Gd.ret rfl
 ·refine absurd ?_ h
  rw [<- N9 I];exact Pg.2 ⟨_,OY hi,rfl⟩
theorem yP:∀ l:List (aZ×Rat),(l.flatMap wW).Sublist (l.map (λz=>z.1.Name))
 | []=>by simp
 | z::l=>by
  rw [Pm,QK]
  by_cases h:xH z
  ·rw [xb h]
   exact (yP l).cons_cons _
  ·rw [yn h]
   exact (yP l).cons _
theorem GY {n:Net} (h:sB n):(n.aU.map (·.Name)).Nodup:=by
 have:=h.nd;unfold names at this;exact (OO.1 (OO.1 (OO.1 (OO.1 this).1).1).1).2.1
theorem H8 {n:Net}{on:List BA}{s:gW}{ov:List BA} (hs:Nc n on s ov):ov.Nodup:=by
 obtain ⟨qs,O,I⟩:=Ii hs.ff;have hl:qs.length=n.aU.length:=by
  have:=hs.fl;rw [O,PJ] at this;exact this
 have J:=hs.oe;rw [O,Fb hs.v hl I] at J;rw [<- N8 J];refine (yP _).nodup ?_;have e:(n.aU.zip qs).map (λz=>z.1.Name)=n.aU.map (·.Name):=by
  rw [show (λz:aZ×Rat=>z.1.Name)=(λb:aZ=>b.Name) ∘ Prod.fst from rfl,<- R_,List.map_fst_zip (by omega)]
 rw [e];exact GY hs.v
def jEz (s:BA):IW:=⟨s,7,false⟩
theorem yH (l:List BA):(l.map jEz).map (·.Name)=l:=by
 rw [R_];exact List.map_id l
theorem LC (F:List IW) (w:BA) (ws:List BA) (h:∃ x ∈ F,x.Name=w):Gd (aS F (w::ws)) (λb=>b=true):=by
 unfold aS cS;refine Gd.hO (P:=λr=>0<=r) ?_ (λr Y=>Gd.ret (by simpa using Y))
 refine Gd.mn (λm i _=>i+m=F.length/\∀ x ∈ F.take i,x.Name≠w) ?_ ?_ (F.length:Int).toNat 0 () ⟨by omega,by simp⟩
 ·intro m i _ nx ⟨hi,hno⟩ hnx
  have J:i<F.length:=by omega
  unfold dN my;refine Gd.mR J (Gd.hO (P:=λb=>b=decide (F[i].Name=w)) (Gd.ix (y:=w) (by omega) rfl (Gd.ret rfl)) (λb O=>Gd.ite (λ_=>Gd.ret (by omega)) (λh=>hnx () ⟨by omega,?_⟩)))
  rw [OL J];intro x I;rcases Om.1 I with I | I
  ·exact hno x I
  ·rw [OU] at I; subst I
   rw [O] at h;exact Og h
 ·intro i _ ⟨hi,hno⟩
  rw [Oo (by omega)] at hno
  obtain ⟨x,I,Z⟩:=h;exact absurd Z (hno x I)
theorem xu (cs:List Cz) (L:List BA) (hc:mP cs=some 0) (h40:cs.length<=40) (hl:L.length<=24) (I:L.Nodup) (hv:∀ x ∈ L,bV x=some true):
  Gd (jJ cs ⟨cs,[],0⟩ L) (λb=>b=true):=by
 have hck:=Fy hc hl I hv;unfold jJ;refine Gd.seen (λpre (s:List Cz×List IW×Int)=>s.1=cs/\s.2.1=pre.map jEz/\s.2.2<=7) ?_ ?_ _ ⟨rfl,rfl,by simp only; omega⟩
 ·rintro i y ⟨c,E,la⟩ nn pre Y ⟨rfl,rfl,hla⟩ hn
  obtain ⟨hpl,hyl,hpm⟩:=sR Y;simp only at hla;have hyp:y ∉ pre:=by
   obtain ⟨post,rfl⟩:=Y;rw [OO] at I;intro h;exact I.2.2 y h y (Oa ..) rfl
  unfold n7;refine Gd.hO (P:=λr=>r.1=0/\r.2=⟨c,(pre++[y]).map jEz,7⟩) ?_ (λr hr=>Gd.ite (λh=>by simp [hr.1] at h) (λ_=>?_))
  ·unfold pB
   refine Gd.bind_eq (hv y hyl) (Gd.ite (λh=>by simp at h) (λ_=>Gd.ite (λh=>?_) (λ_=>Gd.bind_eq (Jb _ _ (by rw [yH]; exact hyp) _ _) (Gd.ite (λh=>by simp at h) (λ_=>Gd.ite (λh=>?_) (λ_=>Gd.nd ?_ (Gd.ret ⟨rfl,?_⟩)))))))
   ·simp at h; omega
   ·simp at h; omega
   ·simp only [PJ,Oj,SI]; omega
   ·rw [Pu]; rfl
  ·rw [hr.2]
   exact hn _ ⟨rfl,rfl,Pw _⟩
 ·rintro ⟨c,E,la⟩ ⟨rfl,rfl,hla⟩
  simp only;have hE:(L.map jEz).length<=24:=by simpa using hl
  have hndE:((L.map jEz).map (·.Name)).Nodup:=by rw [yH]; exact I
  obtain ⟨F,hF,hFl,hFm⟩:=It c (L.map jEz) la hE h40 hndE;rw [yH] at hFm;have inF:∀ y,y ∈ L->Gw c L y->jEz y ∈ F:=λy hy hyc=>(hFm _).2 ⟨Pg.2 ⟨y,hy,rfl⟩,hy,hyc⟩;have O:∀ y,y ∈ L->∃ q,ng c L y=some q/\q.2=0/\¬ ((q.1.length:Int)=0)/\∃ b,aS F q.1=some b/\b=true:=λy hy=>by
   obtain ⟨q,hq,h0,z,zs,hz,hzl,hzc⟩:=DX c L y hl h40 I hck hy;refine ⟨q,hq,h0,by rw [hz]; simp; omega,?_⟩
   rw [hz];exact LC F z zs ⟨jEz z,inF z hzl hzc,rfl⟩
  refine Gd.hO (EM c (L.map jEz) la hE) (λA hA=>Gd.ite (λ_=>Gd.ite (λJ=>?_) (λ_=>?_)) (λh=>?_))
  ·refine Gd.bind_eq hF (Gd.ite (λh=>?_) (λ_=>?_))
   ·have J:0<L.length:=by
     have:=N9 J;omega
    obtain ⟨y,hy,hyc,_⟩:=CI c L (L[0]) (OY J);have:=List.length_pos_of_mem (inF y hy hyc);have h:=N9 h;omega
   ·refine Gd.gM (Q:=λb=>b=true) (λ_ ys _=>∀ y ∈ ys,y ∈ L) (λi y ys s nx hI hn=>?_) (λ_ _ _=>Gd.ret rfl) _ _ _ (λ_ h=>h)
    obtain ⟨q,hq,h0,h1,b,hb,Z⟩:=O y (hI y (Oa ..));unfold n9;exact Gd.bind_eq hq (Gd.ite (λ_=>Gd.ite (λh=>absurd (N9 h) h1) (λ_=>Gd.bind_eq hF (Gd.bind_eq hb (Gd.ite (λh=>by simp [Z] at h) (λ_=>hn _ (λz hz=>hI z (Od _ hz))))))) (λh=>by simp [h0] at h))
  ·refine Gd.gM (Q:=λb=>b=true) (λ_ ys _=>∀ y ∈ ys,y ∈ L) (λi y ys s nx hI hn=>?_) (λ_ _ _=>Gd.ret rfl) _ _ _ (λ_ h=>h)
   obtain ⟨q,hq,h0,h1,b,hb,Z⟩:=O y (hI y (Oa ..));unfold n8;exact Gd.bind_eq hq (Gd.ite (λ_=>Gd.ite (λh=>absurd (N9 h) h1) (λ_=>Gd.bind_eq hF (Gd.bind_eq hb (Gd.ite (λh=>by simp [Z] at h) (λ_=>hn _ (λz hz=>hI z (Od _ hz))))))) (λh=>by simp [h0] at h))
  ·have:=hA.length_eq
   rw [PJ] at this;rw [this] at h;simp at h
theorem CR:sD ([(aF.mk (⟨#[66]⟩) (⟨#[65]⟩))]) ([(⟨#[66]⟩),(⟨#[65]⟩)])=some ([(⟨#[65]⟩)],0):=by kernel_rfl
theorem Bz:bV (⟨#[66,65,76,65,78,67,69]⟩)=some true:=by kernel_rfl
theorem JW {α:Type}{l:List α}{k:Nat}{x:α} (h:x ∈ uW l 0 k):x ∈ l:=by
 unfold uW at h;exact QG (by simpa using h)
theorem zJ (cs:List Cz) (hc:IZ cs) (n:Net) (Y:ua n) (set:Int):kN cs n set=some true:=by
 rw [<- Gd.eq];unfold kN;refine Gd.bind_eq CR (Gd.ite (λ_=>Gd.bind_eq (seq_eq _) (Gd.ite (λh=>by simp at h) (λ_=>Gd.nd (by omega) ?_))) (λh=>by simp at h))
 obtain ⟨e,Z,J⟩:=Fx cs hc;have hz':ua (aG.mk n.cA n.dE n.aU n.kF (uW n.eS 0 ((min (n.eS.length:Int) 3:Int).toNat)) n.eK):=
  ⟨Y.nd,Y.sw,Y.br,Y.gn,λx O=>Y.ld x (JW O),Y.st⟩
 by_cases h0:e=0
 ·subst h0
  have J:=J rfl;have I:qS cs=some (some ⟨cs,[],0⟩,0):=by
   rw [<- Gd.eq];unfold qS;exact Gd.bind_eq Z (Gd.ite (λh=>by simp at h) (λ_=>Gd.nd (by omega) (Gd.ret rfl)))
  refine Gd.bind_eq I (Gd.opt (λh=>by simp at h) (λsp hsp=>?_))
  obtain rfl:=N8 hsp;refine Gd.ite (λh=>by simp at h) (λ_=>?_)
  have hsl:(uW n.eS 0 ((min (n.eS.length:Int) 3:Int).toNat)).length<=3:=by simp [uW]; omega
  generalize uW n.eS 0 ((min (n.eS.length:Int) 3:Int).toNat)=L at hz' hsl;refine Gd.gM (Q:=λb=>b=true) (λi ys (s:List BA)=>s.length<=i/\i+ys.length<=3) (λi y ys s nx hI hn=>?_) (λi s hI=>?_) _ _ _ ⟨by simp,by omega⟩
  ·obtain ⟨h1,h2⟩:=hI
   simp only [Oj] at h2;unfold n6 kQ;refine Gd.nd (by omega) (Gd.ite (λ_=>Gd.nd (by simp only [Oj,SI]; omega) (hn _ ⟨by simp; omega,by omega⟩)) (λ_=>hn _ ⟨by omega,by omega⟩))
  ·obtain ⟨⟨st,ov,k⟩,hst,hno,hok⟩:=Gz hz' s
   simp only at hno hok;refine Gd.bind_eq hst ?_;have key:ov.length<=24/\ov.Nodup/\(∀ x ∈ ov,bV x=some true)/\(k≠0->ov=[]):=by
    by_cases hk:k=0
    ·have hs:=hok hk
     refine ⟨hs.ol,H8 hs,λx O=>?_,λh=>absurd hk h⟩;obtain ⟨b,hb,rfl⟩:=hs.om x O;exact (hs.v.vb b hb).1
    ·have:=hno hk
     have:ov=[]:=by
      have:=Pc (λr=>r.2.1) this;exact this
     subst this;exact ⟨by simp,by simp,by simp,λ_=>rfl⟩
   obtain ⟨k1,k2,k3,k4⟩:=key;simp only;refine Gd.nd (by omega) (Gd.ite (λh14=>?_) (λ_=>xu cs ov Z J k1 k2 k3))
   have:ov=[]:=k4 (by rw [N9 h14]; decide)
   subst this;refine Gd.nd (by simp) (xu cs _ Z J (by simp) (by simp) (λx O=>?_))
   rw [PR,OU] at O;rw [O]; exact Bz
 ·have I:qS cs=some (none,e):=by
   rw [<- Gd.eq];unfold qS;exact Gd.bind_eq Z (Gd.ite (λ_=>Gd.ret rfl) (λh=>absurd (by simpa using h) h0))
  exact Gd.bind_eq I (Gd.opt (λ_=>Gd.bind_eq Z (Gd.ret (by simp))) (λ_ h=>by simp at h))
end Go.Sim
