/-
  The proof, part A1.
-/
import Derived.WalkKit
import Derived.WalkSpells
import Derived.WalkLawsBesides
import Derived.Lib.AppendZeros
set_option linter.unusedVariables false
set_option linter.unusedSimpArgs false
set_option linter.unusedSectionVars false
set_option linter.unnecessarySimpa false
namespace Go.Sim
abbrev Rz := @Go.Addr.add_lit
abbrev Rc := @Array.getD_eq_getD_getElem?
abbrev Tc := @Array.getElem?_eq_getElem
abbrev RR := @Array.getElem?_eq_some_iff
abbrev UL := @Array.getElem?_modify
abbrev T9 := @Array.getElem?_setIfInBounds
abbrev U4 := @Array.toList_append
abbrev Sg := @Bool.and_eq_true
abbrev RC := @Bool.false_eq_true
abbrev R6 := @Bool.or_eq_true
abbrev Qm := @ByteArray
abbrev Rg := @Int.natCast_mul
abbrev Qr := @Int.toNat_natCast
abbrev SI := @List.Sublist.refl
abbrev RE := @List.all_eq_true
abbrev QV := @List.append_assoc
abbrev Q8 := @List.append_nil
abbrev SL := @List.cons_append
abbrev T_ := @List.contains_iff_mem
abbrev Ta := @List.countP_le_length
abbrev Tg := @List.drop_append_of_le_length
abbrev Sd := @List.drop_drop
abbrev Q0 := @List.drop_eq_getElem_cons
abbrev Tj := @List.drop_length
abbrev SY := @List.drop_set_of_lt
abbrev SP := @List.drop_take
abbrev RN := @List.drop_zero
abbrev QZ := @List.eq_nil_of_length_eq_zero
abbrev Sa := @List.ext_getElem?
abbrev R4 := @List.filter_append
abbrev U6 := @List.filter_eq_self
abbrev TP := @List.flatMap_append
abbrev RJ := @List.flatMap_cons
abbrev Q1 := @List.getD_eq_getElem?_getD
abbrev SE := @List.getElem?_append
abbrev RF := @List.getElem?_append_left
abbrev Q2 := @List.getElem?_append_right
abbrev Q_ := @List.getElem?_drop
abbrev Qp := @List.getElem?_eq_getElem
abbrev Rn := @List.getElem?_eq_none
abbrev Qt := @List.getElem?_eq_some_iff
abbrev QW := @List.getElem?_map
abbrev Sv := @List.getElem?_range
abbrev T8 := @List.getElem?_set
abbrev Rf := @List.getElem?_take
abbrev Q3 := @List.getElem_mem
abbrev QJ := @List.length_append
abbrev QA := @List.length_cons
abbrev Sq := @List.length_map
abbrev RI := @List.length_replicate
abbrev Ro := @List.length_singleton
abbrev QR := @List.length_take
abbrev RP := @List.map_append
abbrev Te := @List.map_cons
abbrev UU := @List.map_nil
abbrev QG := @List.mem_append
abbrev Qq := @List.mem_append_left
abbrev Rs := @List.mem_append_right
abbrev Ra := @List.mem_cons
abbrev Qy := @List.mem_cons_of_mem
abbrev Qu := @List.mem_cons_self
abbrev Ru := @List.mem_filter
abbrev Uv := @List.mem_filterMap
abbrev Ss := @List.mem_flatMap
abbrev RG := @List.mem_iff_getElem
abbrev Rd := @List.mem_map
abbrev QB := @List.mem_of_getElem?
abbrev Ri := @List.mem_range
abbrev QY := @List.mem_singleton
abbrev R7 := @List.nil_append
abbrev Rj := @List.nodup_append
abbrev TU := @List.nodup_cons
abbrev Ty := @List.pairwise_iff_getElem
abbrev TV := @List.range_succ
abbrev TD := @List.set_eq_take_append_cons_drop
abbrev UP := @List.singleton_append
abbrev SU := @List.size_toArray
abbrev TF := @List.take_left
abbrev Sh := @List.take_length
abbrev Ti := @List.take_set_of_le
abbrev QS := @List.take_succ_eq_append_getElem
abbrev TG := @List.take_take
abbrev S0 := @List.toList_toArray
abbrev SN := @Nat.add_assoc
abbrev QO := @Nat.add_mul
abbrev SD := @Nat.add_sub_cancel_left
abbrev RZ := @Nat.add_zero
abbrev S8 := @Nat.ble_eq
abbrev RA := @Nat.blt_eq
abbrev SK := @Nat.eq_of_beq_eq_true
abbrev R_ := @Nat.eq_of_mul_eq_mul_right
abbrev Th := @Nat.le_mul_of_pos_right
abbrev QM := @Nat.le_refl
abbrev Rp := @Nat.le_trans
abbrev Tq := @Nat.lt_of_le_of_lt
abbrev Tb := @Nat.lt_of_lt_of_le
abbrev Si := @Nat.lt_succ_self
abbrev Tw := @Nat.lt_trichotomy
abbrev Rv := @Nat.min_eq_left
abbrev Sj := @Nat.mod_eq_of_lt
abbrev QI := @Nat.mul_le_mul_right
abbrev S4 := @Nat.mul_one
abbrev Ul := @Nat.one_mul
abbrev RK := @Nat.sub_self
abbrev Tr := @Nat.sub_zero
abbrev QP := @Nat.zero_add
abbrev R2 := @Nat.zero_mul
abbrev UE := @Option.bind_eq_some_iff
abbrev S9 := @Option.bind_some
abbrev Su := @Option.getD_some
abbrev T5 := @Option.map_eq_some_iff
abbrev TX := @Option.map_none
abbrev RV := @Option.map_some
abbrev Qs := @Option.some.inj
abbrev QL := @Option.some.injEq
abbrev SG := @Prod.mk.injEq
abbrev Qz := @Go.Result.andThen_ok
abbrev QD := @Go.Sem.run_bind
abbrev QK := @Go.Sem.run_pure
abbrev Qn := @Go.Value
abbrev Q9 := @congrArg
abbrev Rb := @decide_eq_true_eq
abbrev UY := @decide_false
abbrev Va := @Go.grownCap_ge
abbrev Ux := @Go.grownCap_le_maxLen
abbrev U_ := @Go.growslice_fits
abbrev UC := @Go.heap_alloc_new
abbrev Sc := @if_false
abbrev Qw := @if_neg
abbrev Qx := @if_pos
abbrev Um := @if_true
abbrev QE := @of_decide_eq_false
abbrev Qv := @of_decide_eq_true
abbrev U9 := @Go.run_firstCells_some
abbrev RY := @Go.run_underlying
abbrev Qo := @trivial
abbrev Un := @Go.wpList_step
end Go.Sim
namespace Go.Sim
open Go Go.RowKit
open _root_.Go.IntKind (i64 u64 u32 u8)
abbrev Hp:=Nat->Option Obj
def Hp.le (H H':Hp):Prop:=∀ b o,H b=some o->H' b=some o
theorem Rk (H:Hp):H.le H:=λ_ _ h=>h
theorem Uk {A B C:Hp} (h:A.le B) (k:B.le C):A.le C:=λb o x=>k b o (h b o x)
def Hp.add (H:Hp) (b:Nat) (o:Obj):Hp:=λc=>if c=b then some o else H c
theorem Hp.Nr {H:Hp}{b:Nat}{o:Obj} (h:H b=none):H.le (H.add b o):=by
 intro c x I;unfold Hp.add
 split
 ·rename_i e; subst e; rw [h] at I; cases I
 ·exact I
theorem Hp.xy (H:Hp) (b:Nat) (o:Obj):H.add b o b=some o:=by simp [Hp.add]
def snap (w:World):Hp:=λb=>w.heap[b]?
def jK (w:World) (T:TypeId) (sz:Nat) (v:Qn) (n:Nat) (xs:List Qn):Prop:=
  xs.length=n*sz /\
  ((v=.slice none 0 0/\n=0) \/
   ∃ g off cap I,v=.slice (some ⟨g,off,none⟩) n cap/\w.heap[g]? = some (.cells I T (0,0))/\n<=cap/\cap<=maxLen/\off+cap*sz<=I.size/\(I.toList.drop off).take (n*sz)=xs)
theorem jK.lt {w:World}{T:TypeId}{sz:Nat}{v:Qn}{n:Nat}{xs:List Qn} (h:jK w T sz v n xs) {k:Nat} (I:v.ownBlock=some k):k<w.heap.size:=by
 rcases h.2 with ⟨rfl,_⟩ | ⟨g,off,cap,J,rfl,O,_⟩
 ·simp [Value.ownBlock] at I
 ·simp only [Value.ownBlock,QL] at I
  subst I;exact (RR.1 O).1
theorem jK.kept {w w':World}{T:TypeId}{sz:Nat}{v:Qn}{n:Nat}{xs:List Qn}{row:Option Nat} (h:jK w T sz v n xs) (Y:w.grownBy w' row)
  (O:∀ b,v.ownBlock=some b->row≠some b):jK w' T sz v n xs:=by
 refine ⟨h.1,?_⟩;rcases h.2 with hn | ⟨g,off,cap,J,rfl,I,rest⟩
 ·exact .inl hn
 ·refine .inr ⟨g,off,cap,J,rfl,?_,rest⟩
  rw [Y.block g (RR.1 I).1 (λe=>O g rfl e.symm)];exact I
theorem jK.nil (w:World) (T:TypeId) (sz:Nat):jK w T sz (.slice none 0 0) 0 []:=⟨by simp,.inl ⟨rfl,rfl⟩⟩
def N7 (fs:List Nat) (P:World->Prop):Prop:=∀ w w' row,P w->w.grownBy w' row->(∀ b ∈ fs,row≠some b)->P w'
inductive bQ where
 | obj (b:Nat) (o:Obj)
 | row (v:Qn) (T:TypeId) (sz n:Nat) (xs:List Qn)
 | pack (fs:List Nat) (P:World->Prop)
def bQ.zj:bQ->Option Nat
 | .obj b _=>some b
 | .row v _ _ _ _=>v.ownBlock
 | .pack _ _=>none
def bQ.uS:bQ->List Nat
 | .obj b _=>[b]
 | .row v _ _ _ _=>v.ownBlock.toList
 | .pack fs _=>fs
def bQ.ok (w:World):bQ->Prop
 | .obj b o=>w.heap[b]? = some o
 | .row v T sz n xs=>jK w T sz v n xs
 | .pack fs P=>P w/\(∀ b ∈ fs,b<w.heap.size)/\N7 fs P
theorem bQ.G3 {w:World}{r:bQ} (h:r.ok w) {b:Nat} (I:b ∈ r.uS):b<w.heap.size:=by
 cases r with
 | obj c o=>
  simp only [bQ.uS,QY] at I;subst I;simp only [bQ.ok] at h;exact (RR.1 h).1
 | row v T sz n xs=>exact jK.lt h (Option.mem_toList.1 I)
 | pack fs P=>exact h.2.1 b I
theorem bQ.kept {w w':World}{r:bQ}{row:Option Nat} (h:r.ok w) (J:w.grownBy w' row) (I:∀ b ∈ r.uS,row≠some b):r.ok w':=by
 cases r with
 | obj c o=>
  simp only [bQ.ok] at h ⊢;rw [J.block c (RR.1 h).1 (λe=>I c (by simp [bQ.uS]) e.symm)]
  exact h
 | row v T sz n xs=>
  exact jK.kept h J (λb O=>I b (Option.mem_toList.2 O))
 | pack fs P=>exact ⟨h.2.2 _ _ _ h.1 J I,λb O=>Tb (h.2.1 b O) J.size,h.2.2⟩
theorem KR {l l':List bQ} (h:l.Sublist l'):(l.flatMap bQ.uS).Sublist (l'.flatMap bQ.uS):=by
 induction h with
 | slnil=>exact SI _
 | cons a _ ih=>rw [RJ]; exact ih.trans (List.sublist_append_right _ _)
 | cons_cons a _ ih=>rw [RJ,RJ]; exact (SI _).append ih
structure St (B:Nat) (w0:World) (H:Hp) (M:List bQ) (w:World):Prop where
 below:Below B w0 w
 le:B<=w.heap.size
 um:∀ b o,H b=some o->w.heap[b]? = some o
 ok:∀ r ∈ M,r.ok w
 lo:∀ r ∈ M,∀ b ∈ r.uS,B<=b/\H b=none
 nd:(M.flatMap bQ.uS).Nodup
section
variable {B:Nat}{w0 w w':World}{H H':Hp}{M M':List bQ}
theorem St.lt (h:St B w0 H M w) {b:Nat}{o:Obj} (I:H b=some o):b<w.heap.size:=(RR.1 (h.um b o I)).1
theorem St.perm (h:St B w0 H M w) (p:M.Perm M'):St B w0 H M' w:=
 ⟨h.below,h.le,h.um,λr I=>h.ok r (p.mem_iff.2 I),λr I=>h.lo r (p.mem_iff.2 I),(p.flatMap_right _).nodup_iff.1 h.nd⟩
theorem St.sub (h:St B w0 H M w) (p:M'.Sublist M):St B w0 H M' w:=
 ⟨h.below,h.le,h.um,λr I=>h.ok r (p.subset I),λr I=>h.lo r (p.subset I),h.nd.sublist (KR p)⟩
theorem St.tail {r:bQ} (h:St B w0 H (r::M) w):St B w0 H M w:=h.sub (List.sublist_cons_self _ _)
theorem St.drewN (h:St B w0 H M w) (n:Nat):St B w0 H M { w with drawn:=n }:=
 ⟨⟨h.below.os,h.below.tape,h.below.output,h.below.size,h.below.block⟩,h.le,h.um,λr I=>by
  have:=h.ok r I;cases r with
  | pack fs P=>exact ⟨this.2.2 w _ none this.1 ⟨rfl,rfl,rfl,QM _,λ_ _ _=>rfl⟩ (by simp),this.2⟩
  | _=>exact this,h.lo,h.nd⟩
theorem St.grow (h:St B w0 H M w) (I:w.grownBy w' none):St B w0 H M w':=
  ⟨h.below.grown I h.le (λ_ e=>by cases e),Rp h.le I.size,
   λb o J=>by rw [I.block b (h.lt J) (by simp)]; exact h.um b o J,
   λr O=>bQ.kept (h.ok r O) I (by simp),h.lo,h.nd⟩
theorem St.Em {r r':bQ} (h:St B w0 H (r::M) w) (Z:w.grownBy w' r.zj) (hok:r'.ok w')
  (hf:∀ b,r'.zj=some b->r.zj=some b\/w.heap.size<=b) (hr:r.uS=r.zj.toList:=by rfl) (Y:r'.uS=r'.zj.toList:=by rfl):St B w0 H (r'::M) w':=by
 have J:=h.nd;have um:∀ {b:Nat},r.zj=some b->b ∈ r.uS:=λe=>by rw [hr,e]; simp
 refine ⟨h.below.grown Z h.le (λk e=>(h.lo r (Qu ..) k (um e)).1),Rp h.le Z.size,?_,?_,?_,?_⟩
 ·intro b o I
  rw [Z.block b (h.lt I) (λe=>by have:=(h.lo r (Qu ..) b (um e.symm)).2; rw [this] at I; cases I)]
  exact h.um b o I
 ·intro s hs
  rcases Ra.1 hs with rfl | hs
  ·exact hok
  ·refine bQ.kept (h.ok s (Qy _ hs)) Z ?_
   intro b I e;simp only [RJ] at J;exact (Rj.1 J).2.2 b (um e) b (Ss.2 ⟨s,hs,I⟩) rfl
 ·intro s hs b I
  rcases Ra.1 hs with rfl | hs
  ·rw [Y] at I
   rcases hf b (Option.mem_toList.1 I) with e | e
   ·exact h.lo r (Qu ..) b (um e)
   ·refine ⟨Rp h.le e,?_⟩
    cases hh:H b with
    | none=>rfl
    | some o=>exact absurd (h.lt hh) (by omega)
  ·exact h.lo s (Qy _ hs) b I
 ·have hm:(M.flatMap bQ.uS).Nodup:=(h.tail).nd
  rw [RJ,Y];cases hf':r'.zj with
  | none=>simpa using hm
  | some b=>
   simp only [Option.toList,UP,TU];refine ⟨λO=>?_,hm⟩;obtain ⟨s,hs,I⟩:=Ss.1 O;rcases hf b hf' with e | e
   ·simp only [RJ] at J
    exact (Rj.1 J).2.2 b (um e) b O rfl
   ·have:=bQ.G3 (h.ok s (Qy _ hs)) I
    omega
theorem St.add {r':bQ} (h:St B w0 H M w) (hg:w.grownBy w' none) (O:r'.ok w') (hf:∀ b,r'.zj=some b->w.heap.size<=b) (Y:r'.uS=r'.zj.toList:=by rfl):
  St B w0 H (r'::M) w':=by
 have Z:St B w0 H (.row (.slice none 0 0) 0 1 0 []::M) w:=by
  refine ⟨h.below,h.le,h.um,?_,?_,?_⟩
  ·intro r I
   rcases Ra.1 I with rfl | I
   ·exact jK.nil _ _ _
   ·exact h.ok r I
  ·intro r I
   rcases Ra.1 I with rfl | I
   ·intro b J; simp [bQ.uS,Value.ownBlock] at J
   ·exact h.lo r I
  ·simpa [RJ,bQ.uS,Value.ownBlock] using h.nd
 exact Z.Em hg O (λb J=>.inr (hf b J)) rfl Y
theorem St.BQ (h:St B w0 H M w) (T:TypeId) (sz:Nat):St B w0 H (.row (.slice none 0 0) T sz 0 []::M) w:=
 h.add ⟨rfl,rfl,rfl,QM _,λ_ _ _=>rfl⟩ (jK.nil _ _ _) (by intro b I; simp [bQ.zj,Value.ownBlock] at I)
theorem St.alloc (h:St B w0 H M w) (o:Obj):St B w0 H (.obj w.heap.size o::M) (w.alloc o):=
 h.add (World.grownBy_alloc w o none) (UC w o) (by intro b I; simp only [bQ.zj,QL] at I; omega)
theorem St.vS {b:Nat}{o:Obj} (h:St B w0 H M w) (hm:bQ.obj b o ∈ M):w.heap[b]? = some o:=h.ok _ hm
theorem St.freeze {b:Nat}{o:Obj} (h:St B w0 H (.obj b o::M) w):H.le (H.add b o)/\St B w0 (H.add b o) M w:=by
 have Z:=h.lo _ (Qu ..) b (by simp [bQ.uS])
 refine ⟨Hp.Nr Z.2,h.below,h.le,?_,h.tail.ok,?_,h.tail.nd⟩
 ·intro c x J
  unfold Hp.add at J
  split at J
  ·rename_i e; subst e; cases J; exact h.ok _ (Qu ..)
  ·exact h.um c x J
 ·intro r Y c O
  refine ⟨(h.tail.lo r Y c O).1,?_⟩;unfold Hp.add
  split
  ·rename_i e; subst e
   have I:=h.nd;simp only [RJ,bQ.uS,UP,TU] at I;exact absurd (Ss.2 ⟨r,Y,O⟩) I.1
  ·exact (h.tail.lo r Y c O).2
theorem St.Pu {b:Nat}{o:Obj} (h:St B w0 H' M w) (Z:B<=b) (O:H.le H') (hb:H b=none) (Y:H' b=some o):St B w0 H (.obj b o::M) w:=by
 refine ⟨h.below,h.le,λc x hx=>h.um c x (O c x hx),?_,?_,?_⟩
 ·intro r I
  rcases Ra.1 I with rfl | I
  ·exact h.um b o Y
  ·exact h.ok r I
 ·intro r I c J
  rcases Ra.1 I with rfl | I
  ·simp only [bQ.uS,QY] at J; subst J; exact ⟨Z,hb⟩
  ·refine ⟨(h.lo r I c J).1,?_⟩
   cases hh:H c with
   | none=>rfl
   | some x=>have:=O c x hh; rw [(h.lo r I c J).2] at this; cases this
 ·simp only [RJ,bQ.uS,UP,TU]
  refine ⟨λhm=>?_,h.nd⟩;obtain ⟨r,I,J⟩:=Ss.1 hm;have:=(h.lo r I b J).2;rw [this] at Y; cases Y
theorem St.Mk (h:St B w0 H' M w) (I:H.le H'):St B w0 H M w:=
 ⟨h.below,h.le,λb o J=>h.um b o (I b o J),h.ok,λr O b J=>⟨(h.lo r O b J).1,by
  cases Y:H b with
  | none=>rfl
  | some x=>have:=I b x Y; rw [(h.lo r O b J).2] at this; cases this⟩,h.nd⟩
def eJ (rs:List bQ):bQ:=.pack (rs.flatMap bQ.uS) (λw=>∀ r ∈ rs,r.ok w)
theorem IJ (rs:List bQ):N7 (rs.flatMap bQ.uS) (λw=>∀ r ∈ rs,r.ok w):=λ_ _ _ h Y I r J=>
 bQ.kept (h r J) Y (λb O=>I b (Ss.2 ⟨r,J,O⟩))
theorem St.unpack {rs:List bQ} (h:St B w0 H (eJ rs::M) w):St B w0 H (rs++M) w:=
 ⟨h.below,h.le,h.um,λr I=>by
  rcases QG.1 I with I | I
  ·exact (h.ok _ (Qu ..)).1 r I
  ·exact h.ok r (Qy _ I),λr I b J=>by
  rcases QG.1 I with I | I
  ·exact h.lo _ (Qu ..) b (Ss.2 ⟨r,I,J⟩)
  ·exact h.lo r (Qy _ I) b J,by
  have:=h.nd;rw [RJ] at this;rw [TP]; exact this⟩
theorem St.pack {rs:List bQ} (h:St B w0 H (rs++M) w):St B w0 H (eJ rs::M) w:=
 ⟨h.below,h.le,h.um,λr I=>by
  rcases Ra.1 I with rfl | I
  ·refine ⟨λr I=>h.ok r (Qq _ I),λb J=>?_,IJ rs⟩
   obtain ⟨r,I,J⟩:=Ss.1 J;exact bQ.G3 (h.ok r (Qq _ I)) J
  ·exact h.ok r (Rs _ I),λr I b J=>by
  rcases Ra.1 I with rfl | I
  ·obtain ⟨r,I,J⟩:=Ss.1 J
   exact h.lo r (Qq _ I) b J
  ·exact h.lo r (Rs _ I) b J,by
  have:=h.nd;rw [TP] at this;rw [RJ]; exact this⟩
theorem St.begin (w:World):St w.heap.size w (snap w) [] w:=
 ⟨Below.refl _ _,QM _,λ_ _ h=>h,by simp,by simp,by simp⟩
end
abbrev Env:=List (Nat×Qn)
def lk:Env->Nat->Option Qn
 | [],_=>none
 | (t,v)::r,u=>bif Nat.beq t u then some v else lk r u
structure Sl (N:Nat) (L:Env) (a:Act):Prop where
 size:a.tmps.size=N
 EL:a.defers=[]
 get:∀ t v,lk L t=some v->a.tmps[t]? = some v
theorem tH (t:Nat) (v:Qn) (r:Env) (u:Nat):lk ((t,v)::r) u=if t=u then some v else lk r u:=by
 show (bif Nat.beq t u then some v else lk r u)=_
 by_cases h:t=u
 ·subst h; simp
 ·have:Nat.beq t u=false:=by
   cases I:Nat.beq t u with
   | false=>rfl
   | true=>exact absurd (SK I) h
  simp [this,h]
theorem Sl.put {N:Nat}{L:Env}{a:Act}{d:Nat}{v:Qn} (h:Sl N L a) (J:Nat.blt d N=true):Sl N ((d,v)::L) (a.put (some d) v):=by
 have I:d<N:=by simpa [RA] using J
 refine ⟨by simp [Act.put,h.size],h.EL,λt u ht=>?_⟩
 rw [tH] at ht;simp only [Act.put,T9]
 by_cases e:d=t
 ·subst e
  simp only [Um,QL] at ht;subst ht;simp [h.size,I]
 ·simp only [Qw e] at ht ⊢
  exact h.get t u ht
def Kept (L:Env):Env->Prop
 | []=>True
 | (t,v)::r=>lk L t=some v/\Kept L r
theorem Kept.lk {L:Env}:∀ {L':Env},Kept L L'->∀ t v,lk L' t=some v->lk L t=some v
 | [],_,t,v,h=>by simp [Sim.lk] at h
 | (u,x)::r,hk,t,v,h=>by
  rw [tH] at h
  split at h
  ·rename_i e; subst e; cases h; exact hk.1
  ·exact Kept.lk hk.2 t v h
theorem Sl.Oo {N:Nat}{L L':Env}{a:Act} (h:Sl N L a) (I:Kept L L'):Sl N L' a:=
 ⟨h.size,h.EL,λt v ht=>h.get t v (I.lk t v ht)⟩
def ev (L:Env):Operand->Option Qn
 | .tmp t=>lk L t
 | .const v=>some v
 | .func f=>some (.func (.func f) #[] #[])
 | .global g=>some (.pointer (some ⟨g,0,none⟩))
theorem Sl.ev {N:Nat}{L:Env}{a:Act} (h:Sl N L a) {x:Operand}{v:Qn} (I:Sim.ev L x=some v):a.eval x=v:=by
 cases x with
 | tmp t=>simp [Act.eval,Rc,h.get t v I]
 | const u=>simpa [Sim.ev,Act.eval] using I
 | func f=>simpa [Sim.ev,Act.eval] using I
 | global g=>simpa [Sim.ev,Act.eval] using I
def gd (ops:Array Oper) (L:Env) (o:Oper):Option Bool:=
 match o.guard with
 | none=>some true
 | some (j,want)=>
  match (ops[j]?).bind (·.dst) with
  | none=>none
  | some t=>match lk L t with
   | some (.bool b)=>some (b == want)
   | some (.tuple _)=>some false
   | _=>none
theorem Sl.gd {N:Nat}{L:Env}{a:Act} (h:Sl N L a) {ops:Array Oper}{o:Oper}{c:Bool} (I:Sim.gd ops L o=some c):Region.wanted o (yielded ops a.tmps)=c:=by
 unfold Sim.gd at I;unfold Region.wanted;cases O:o.guard with
 | none=>simp only [O,QL] at I; simp [<- I]
 | some p=>
  obtain ⟨j,Y⟩:=p;simp only [O] at I;cases J:(ops[j]?).bind (·.dst) with
  | none=>simp [J] at I
  | some t=>
   simp only [J] at I;cases hl:lk L t with
   | none=>simp [hl] at I
   | some v=>
    cases v with
    | bool b=>
     simp only [hl,QL] at I;have:=h.get t _ hl;simp [yielded,J,this,<- I]
    | tuple vs=>
     simp only [hl,QL] at I;have:=h.get t _ hl;simp [yielded,J,this,<- I]
    | _=>simp [hl] at I
structure Cx where
 P:Program
 N:Nat
 B:Nat
 w0:World
abbrev l8:=Exit->Act->World->Prop
def W (x:Cx) (ops:Array Oper) (Q:l8) (rest:List Oper) (H:Hp) (M:List bQ) (L:Env):Prop:=
 ∀ a w,Sl x.N L a->St x.B x.w0 H M w->wpList x.P ops Q rest a w
def C (x:Cx) (c:Code) (Q:l8) (H:Hp) (M:List bQ) (L:Env):Prop:=
 ∀ a w,Sl x.N L a->St x.B x.w0 H M w->c.wp x.P Q a w
def E (x:Cx) (e:Exit) (Q:l8) (H:Hp) (M:List bQ) (L:Env):Prop:=
 ∀ a w,Sl x.N L a->St x.B x.w0 H M w->Q e a w
section
variable {x:Cx}{ops:Array Oper}{Q:l8}{rest:List Oper}{H:Hp}{M M':List bQ}{L L':Env}
theorem bN {c d:Code} (k:C x c (Exit.then (d.wp x.P Q) Q) H M L):C x (.seq c d) Q H M L:=
 λa w hs ht=>wp_seq (k a w hs ht)
theorem mC (k:E x .normal Q H M L):C x .skip Q H M L:=λa w hs ht=>wp_skip (k a w hs ht)
theorem uQ {id:Nat} (k:E x (.exit id) Q H M L):C x (.exit id) Q H M L:=λa w hs ht=>wp_exit (k a w hs ht)
theorem mB (k:E x .ret Q H M L):C x .ret Q H M L:=λa w hs ht=>wp_ret (k a w hs ht)
theorem uw {id:Nat}{c:Code} (k:C x c (Exit.inBlock id Q) H M L):C x (.block id c) Q H M L:=
 λa w hs ht=>wp_block (k a w hs ht)
theorem bI {c:Operand}{p q:Code}{b:Bool} (I:ev L c=some (.bool b)) (J:b=true->C x p Q H M L) (O:b=false->C x q Q H M L):
  C x (.cond c p q) Q H M L:=
 λa w hs ht=>wp_cond_split (hs.ev I) (λe=>J e a w hs ht) (λe=>O e a w hs ht)
theorem aP {id:Nat}{l:List Oper} (k:W x l.toArray Q l H M L):C x (.region id l.toArray false) Q H M L:=
 λa w hs ht=>wp_region_lit (k a w hs ht)
theorem bC (k:E x .normal Q H M L):W x ops Q [] H M L:=λa w hs ht=>wpList_nil (k a w hs ht)
theorem aT {d:Code}{I:l8} (k:C x d I H M L):E x .normal (Exit.then (d.wp x.P I) Q) H M L:=λa w hs ht=>k a w hs ht
theorem AQ {c:Code} (hL:Kept L L') (I:M.Perm M') (k:C x c Q H M' L'):C x c Q H M L:=
 λa w hs ht=>k a w (hs.Oo hL) (ht.perm I)
theorem C1 {e:Exit} (hL:Kept L L') (I:M.Perm M') (k:E x e Q H M' L'):E x e Q H M L:=
 λa w hs ht=>k a w (hs.Oo hL) (ht.perm I)
theorem MW {c:Code} (I:M'.Sublist M) (k:C x c Q H M' L):C x c Q H M L:=λa w hs ht=>k a w hs (ht.sub I)
theorem IZ {e:Exit} (I:M'.Sublist M) (k:E x e Q H M' L):E x e Q H M L:=λa w hs ht=>k a w hs (ht.sub I)
theorem oB (I:M.Perm M') (k:W x ops Q rest H M' L):W x ops Q rest H M L:=λa w hs ht=>k a w hs (ht.perm I)
theorem s7 {o:Oper}{d:Nat} (Z:o.dst=some d) (hg:gd ops L o=some true) (hN:Nat.blt d x.N=true)
  (I:∀ a w,Sl x.N L a->St x.B x.w0 H M w->∃ v O,(execOp a.eval o).run x.P w=.ok (.value v) O/\∃ H' M',St x.B x.w0 H' M' O/\W x ops Q rest H' M' ((d,v)::L)):
  W x ops Q (o::rest) H M L:=by
 intro a w hs ht;obtain ⟨v,O,hr,H',M',J,k⟩:=I a w hs ht;refine Un λK Y=>?_;rw [Qx (hs.gd hg)];unfold Oper.wp;rw [hr];simp only [Oper.upon,Z];exact Y _ _ (k _ _ (hs.put hN) J)
theorem fK {o:Oper}{d:Nat}{v:Qn} (J:o.dst=some d) (O:gd ops L o=some true) (hN:Nat.blt d x.N=true)
  (I:∀ a w,Sl x.N L a->St x.B x.w0 H M w->(execOp a.eval o).run x.P w=.ok (.value v) w) (k:W x ops Q rest H M ((d,v)::L)):
  W x ops Q (o::rest) H M L:=
 s7 J O hN λa w hs ht=>⟨v,w,I a w hs ht,H,M,ht,k⟩
theorem N9 {o:Oper}{d:Nat} (J:o.dst=some d) (O:gd ops L o=some false) (hN:Nat.blt d x.N=true) (k:W x ops Q rest H M ((d,undef)::L)):
  W x ops Q (o::rest) H M L:=by
 intro a w hs ht;refine Un λK I=>?_;rw [Qw (by rw [hs.gd O]; simp),J]
 exact I _ _ (k _ _ (hs.put hN) ht)
theorem MG {o:Oper} (J:o.dst=none) (O:gd ops L o=some false) (k:W x ops Q rest H M L):W x ops Q (o::rest) H M L:=by
 intro a w hs ht;refine Un λK I=>?_;rw [Qw (by rw [hs.gd O]; simp),J]
 exact I _ _ (k _ _ hs ht)
theorem C_ {o:Oper} (Z:o.dst=none) (hg:gd ops L o=some true)
  (I:∀ a w,Sl x.N L a->St x.B x.w0 H M w->∃ O,(execOp a.eval o).run x.P w=.ok .skip O/\∃ H' M',St x.B x.w0 H' M' O/\W x ops Q rest H' M' L):
  W x ops Q (o::rest) H M L:=by
 intro a w hs ht;obtain ⟨O,hr,H',M',J,k⟩:=I a w hs ht;refine Un λK Y=>?_;rw [Qx (hs.gd hg)];unfold Oper.wp;rw [hr];simp only [Oper.upon,Z];exact Y _ _ (k _ _ hs J)
def ux (B:Nat) (w0:World) (I:Hp->List bQ->Qn->Prop):Ending->World->Prop
 | .returned v,w'=>∃ H' M',St B w0 H' M' w'/\I H' M' v
 | _,_=>False
def yL (L:Env):List Operand->Option (List Qn)
 | []=>some []
 | y::r=>match ev L y,yL L r with
  | some v,some vs=>some (v::vs)
  | _,_=>none
theorem Sl.yL {L:Env}{a:Act}{N:Nat} (hs:Sl N L a):∀ {l:List Operand}{vs:List Qn},Sim.yL L l=some vs->l.map a.eval=vs
 | [],vs,h=>by simp [Sim.yL] at h; simp [h]
 | y::r,vs,h=>by
  simp only [Sim.yL] at h;cases I:Sim.ev L y with
  | none=>simp [I] at h
  | some v=>
   cases J:Sim.yL L r with
   | none=>simp [I,J] at h
   | some O=>
    simp only [I,J,QL] at h;subst h;simp [hs.ev I,Sl.yL hs J]
theorem fJ {d:Nat}{f:FuncId}{args:List Operand}{Y:Array TypeId}{ty:TypeId}{pos:String}{I:Array Edge}{g:Option (Nat×Bool)}{vs:List Qn}
  {Z:Hp->List bQ->Qn->Prop}
  (O:∀ as w,(callFunc f as).run x.P w=.ok (.enter f as) w)
  (hg:gd ops L ⟨some d,.call ⟨.value (.func f),args.toArray,Y⟩,ty,pos,I,g⟩=some true) (hN:Nat.blt d x.N=true)
  (hv:yL L args=some vs)
  (hc:∀ w,St x.B x.w0 H M w->Calls x.P f vs.toArray w (ux x.B x.w0 Z))
  (k:∀ v H' M',Z H' M' v->W x ops Q rest H' M' ((d,v)::L)):
  W x ops Q (⟨some d,.call ⟨.value (.func f),args.toArray,Y⟩,ty,pos,I,g⟩::rest) H M L:=by
 intro a w hs ht;refine Un λK hK=>?_;rw [Qx (hs.gd hg)];have J:args.toArray.map a.eval=vs.toArray:=by simp [hs.yL hv]
 have hr:(execOp a.eval ⟨some d,.call ⟨.value (.func f),args.toArray,Y⟩,ty,pos,I,g⟩).run x.P w=.ok (.enter f vs.toArray) w:=by
  simp only [execOp,resolve,J,Act.eval,Deferred.ofValue,QD,QK,Qz,invoke];simp [O]
 unfold Oper.wp;rw [hr];simp only [Oper.upon];refine (hc w ht).mono λe w' he=>?_;cases e with
 | returned v=>
  obtain ⟨H',M',h1,h2⟩:=he;exact hK _ _ (k v H' M' h2 _ _ (hs.put hN) h1)
 | panicked c=>exact he.elim
 | outgrown=>exact he.elim
end
def yz (x:Cx) (H:Hp) (M:List bQ) (ad:Addr) (v:Qn):Prop:=∀ w,St x.B x.w0 H M w->w.cell? ad=some v
def AU (H:Hp) (ad:Addr) (v:Qn):Prop:=∃ arr T fz,H ad.block=some (.cells arr T fz)/\ad.spot=none/\arr[ad.off]? = some v
theorem UR {w:World}{ad:Addr}{arr:Array Qn}{T:TypeId}{fz:Nat×Nat}{v:Qn} (h:w.heap[ad.block]? = some (.cells arr T fz)) (hs:ad.spot=none) (I:arr[ad.off]? = some v):
  w.cell? ad=some v:=by
 simp [World.cell?,h,hs,I]
theorem AU.at {x:Cx}{H:Hp}{M:List bQ}{ad:Addr}{v:Qn} (h:AU H ad v):yz x H M ad v:=by
 obtain ⟨arr,T,fz,I,hs,J⟩:=h;exact λw ht=>UR (ht.um _ _ I) hs J
theorem AU.mono {H H':Hp}{ad:Addr}{v:Qn} (I:H.le H') (h:AU H ad v):AU H' ad v:=by
 obtain ⟨arr,T,fz,J,hs,O⟩:=h;exact ⟨arr,T,fz,I _ _ J,hs,O⟩
theorem vT {x:Cx}{H:Hp}{M:List bQ}{b off:Nat}{l:List Qn}{T:TypeId}{fz:Nat×Nat}{v:Qn}
  (hm:bQ.obj b (.cells l.toArray T fz) ∈ M) (I:l[off]? = some v):yz x H M ⟨b,off,none⟩ v:=by
 intro w ht;exact UR (ht.vS hm) rfl (by simpa using I)
def y0 (x:Cx) (H:Hp) (M:List bQ) (ad:Addr) (cs:List Qn):Prop:=∀ j c,cs[j]? = some c->yz x H M (ad.add j) c
def i_ (H:Hp) (ad:Addr) (cs:List Qn):Prop:=∀ j c,cs[j]? = some c->AU H (ad.add j) c
theorem i_.at {x:Cx}{H:Hp}{M:List bQ}{ad:Addr}{cs:List Qn} (h:i_ H ad cs):y0 x H M ad cs:=λj c I=>(h j c I).at
theorem i_.mono {H H':Hp}{ad:Addr}{cs:List Qn} (I:H.le H') (h:i_ H ad cs):i_ H' ad cs:=λj c J=>(h j c J).mono I
theorem DM {x:Cx}{H:Hp}{M:List bQ}{b:Nat}{l:List Qn}{T:TypeId}{fz:Nat×Nat}
  (hm:bQ.obj b (.cells l.toArray T fz) ∈ M):y0 x H M ⟨b,0,none⟩ l:=by
 intro j c I;rw [Rz,QP];exact vT hm I
theorem run_loadCellsFrom {P:Program}{w:World}{ad:Addr}:∀ (cs:List Qn) (i:Nat) (acc:Array Qn),(∀ j c,cs[j]? = some c->w.cell? (ad.add (i+j))=some c) ->
  (loadCellsFrom ad i cs.length acc).run P w=.ok (acc++cs.toArray) w
 | [],i,acc,_=>by simp [loadCellsFrom]
 | c::cs,i,acc,h=>by
  have I:=h 0 c rfl;simp only [RZ] at I;have ih:=run_loadCellsFrom (P:=P) (w:=w) (ad:=ad) cs (i+1) (acc.push c) (λj d J=>by have:=h (j+1) d (by simpa using J); rwa [show i+(j+1)=i+1+j from by omega] at this)
  simp only [QA,loadCellsFrom,load,QD,Sem.run,I,Qz];rw [ih];simp
section
variable {x:Cx}{ops:Array Oper}{Q:l8}{rest:List Oper}{H:Hp}{M M':List bQ}{L L':Env}
variable {d:Nat}{ty:TypeId}{pos:String}{aft:Array Edge}{g:Option (Nat×Bool)}
theorem bW {y:Operand}{v:Qn} (I:gd ops L ⟨some d,.move y,ty,pos,aft,g⟩=some true) (hN:Nat.blt d x.N=true)
  (J:ev L y=some v) (k:W x ops Q rest H M ((d,v)::L)):W x ops Q (⟨some d,.move y,ty,pos,aft,g⟩::rest) H M L:=
 fK rfl I hN (λa w hs _=>by simp [execOp,hs.ev J]) k
theorem aJ {y:Operand}{v:Qn} (I:gd ops L ⟨some d,.assign y,ty,pos,aft,g⟩=some true) (hN:Nat.blt d x.N=true)
  (J:ev L y=some v) (k:W x ops Q rest H M ((d,v)::L)):W x ops Q (⟨some d,.assign y,ty,pos,aft,g⟩::rest) H M L:=
 fK rfl I hN (λa w hs _=>by simp [execOp,hs.ev J]) k
theorem C9 {c y z:Operand}{b:Bool}{v:Qn} (O:gd ops L ⟨some d,.pick c y z,ty,pos,aft,g⟩=some true) (hN:Nat.blt d x.N=true)
  (J:ev L c=some (.bool b)) (I:(if b then ev L y else ev L z)=some v) (k:W x ops Q rest H M ((d,v)::L)):
  W x ops Q (⟨some d,.pick c y z,ty,pos,aft,g⟩::rest) H M L:=
 fK rfl O hN (λa w hs _=>by
  cases b
  ·simp only [RC,Sc] at I; simp [execOp,hs.ev J,hs.ev I,asBool]
  ·simp only [Um] at I; simp [execOp,hs.ev J,hs.ev I,asBool]) k
def Bg:BinOp->Qn->Qn->Option Qn
 | .add,.int k a,.int k' b=>if k=k' then some (.int k (k.wrap (a+b))) else none
 | .sub,.int k a,.int k' b=>if k=k' then some (.int k (k.wrap (a-b))) else none
 | .mul,.int k a,.int k' b=>if k=k' then some (.int k (k.wrap (a*b))) else none
 | .lss,.int k a,.int k' b=>if k=k' then some (.bool (decide (a<b))) else none
 | .leq,.int k a,.int k' b=>if k=k' then some (.bool (decide (a<=b))) else none
 | .gtr,.int k a,.int k' b=>if k=k' then some (.bool (decide (b<a))) else none
 | .geq,.int k a,.int k' b=>if k=k' then some (.bool (decide (b<=a))) else none
 | .eql,.int k a,.int k' b=>if k=k' then some (.bool (decide (a=b))) else none
 | .neq,.int k a,.int k' b=>if k=k' then some (.bool (!decide (a=b))) else none
 | .and,.int k a,.int k' b=>if k=k' then some (.int k (k.wrap (BitVec.ofInt k.bits a &&& BitVec.ofInt k.bits b).toNat)) else none
 | .or,.int k a,.int k' b=>if k=k' then some (.int k (k.wrap (BitVec.ofInt k.bits a ||| BitVec.ofInt k.bits b).toNat)) else none
 | .xor,.int k a,.int k' b=>if k=k' then some (.int k (k.wrap (BitVec.ofInt k.bits a ^^^ BitVec.ofInt k.bits b).toNat)) else none
 | .eql,.string s,.string t=>some (.bool (decide (s=t)))
 | .neq,.string s,.string t=>some (.bool (!decide (s=t)))
 | .lss,.string s,.string t=>some (.bool (Op.bytesLess s.toList t.toList))
 | _,_,_=>none
theorem M5 (s t:Qm):(s.toList == t.toList)=decide (s=t):=by
 rw [Bool.eq_iff_iff];simp only [beq_iff_eq,Rb];constructor
 ·intro h
  have hs:∀ u:Qm,u.toList=u.data.toList:=ByteArray.toList_eq;rw [hs,hs] at h;exact ByteArray.ext (Array.ext' h)
 ·intro h; rw [h]
theorem Dz (a b:Int):(a == b)=decide (a=b):=by rw [Bool.eq_iff_iff]; simp
theorem J5 {p:Prop}[Decidable p] {v w:Qn} (h:(if p then some v else none)=some w):p/\v=w:=by
 split at h
 ·exact ⟨‹_›,by simpa using h⟩
 ·cases h
theorem HQ {I:BinOp}{a b v:Qn} (t:TypeId) (P:Program) (w:World) (h:Bg I a b=some v):(binOp I t a b).run P w=.ok v w:=by
 unfold Bg at h
 split at h
 case h_1 | h_2 | h_3 | h_4 | h_5 | h_6 | h_7 | h_8 | h_9 | h_10 | h_11 | h_12=>
  obtain ⟨rfl,rfl⟩:=J5 h
  first
   | (simp [binOp,Op.intArith]; done)
   | (simp [binOp,Op.intBits]; done)
   | (simp [binOp,Op.intCmp]; done)
   | (simp [binOp,Op.intCmp,bne,Dz]; done)
 case h_13 | h_14 | h_15=>cases h; simp [binOp,Op.stringOp,<- M5]
 case h_16=>cases h
theorem EN {I:BinOp}{a b v:Qn} (t:TypeId) (y z:Operand) (P:Program) (w:World) (h:Bg I a b=some v):(eqGuard I t y z a b).run P w=.ok () w:=by
 unfold Bg at h
 split at h <;> first
  | (simp [eqGuard]; done)
  | (cases h; done)
theorem vr {I:BinOp}{t u:TypeId}{y z:Operand}{a b v:Qn} (O:gd ops L ⟨some d,.binOp I t y z u,ty,pos,aft,g⟩=some true) (hN:Nat.blt d x.N=true)
  (Y:ev L y=some a) (Z:ev L z=some b) (J:Bg I a b=some v) (k:W x ops Q rest H M ((d,v)::L)):
  W x ops Q (⟨some d,.binOp I t y z u,ty,pos,aft,g⟩::rest) H M L:=
 fK rfl O hN (λc w hs _=>by
  simp only [execOp,hs.ev Y,hs.ev Z,QD,EN t y z x.P w J,Qz,HQ t x.P w J,QK]) k
theorem MH {t u:TypeId}{y z:Operand}{I:IntKind}{m n:Int} (J:gd ops L ⟨some d,.binOp .quo t y z u,ty,pos,aft,g⟩=some true) (hN:Nat.blt d x.N=true)
  (O:ev L y=some (.int I m)) (Y:ev L z=some (.int I n)) (hn:n≠0) (k:W x ops Q rest H M ((d,.int I (I.wrap (m.tdiv n)))::L)):
  W x ops Q (⟨some d,.binOp .quo t y z u,ty,pos,aft,g⟩::rest) H M L:=
 fK rfl J hN (λc w hs _=>by
  simp [execOp,hs.ev O,hs.ev Y,eqGuard,binOp,Op.intDiv,hn]) k
theorem Jk {t u:TypeId}{y z:Operand}{I:IntKind}{m n:Int} (J:gd ops L ⟨some d,.binOp .rem t y z u,ty,pos,aft,g⟩=some true) (hN:Nat.blt d x.N=true)
  (O:ev L y=some (.int I m)) (Y:ev L z=some (.int I n)) (hn:n≠0) (k:W x ops Q rest H M ((d,.int I (m.tmod n))::L)):
  W x ops Q (⟨some d,.binOp .rem t y z u,ty,pos,aft,g⟩::rest) H M L:=
 fK rfl J hN (λc w hs _=>by
  simp [execOp,hs.ev O,hs.ev Y,eqGuard,binOp,Op.intDiv,hn]) k
def MU:UnOp->Qn->Option Qn
 | .neg,.int k n=>some (.int k (k.wrap (0-n)))
 | .not,.bool b=>some (.bool !b)
 | .xor,.int k n=>some (.int k (k.wrap (BitVec.ofInt k.bits (if k.signed then -1 else k.max) ^^^ BitVec.ofInt k.bits n).toNat))
 | _,_=>none
theorem N_ {J:UnOp}{t:TypeId}{y:Operand}{a v:Qn} (O:gd ops L ⟨some d,.unOp J t y,ty,pos,aft,g⟩=some true) (hN:Nat.blt d x.N=true)
  (Y:ev L y=some a) (I:MU J a=some v) (k:W x ops Q rest H M ((d,v)::L)):
  W x ops Q (⟨some d,.unOp J t y,ty,pos,aft,g⟩::rest) H M L:=
 fK rfl O hN (λc w hs _=>by
  simp only [execOp,hs.ev Y];unfold MU at I
  split at I <;> first
   | (cases I; simp [Op.unary,Op.intArith,Op.intBits]; done)
   | cases I) k
theorem N8 {T:TypeId}{y:Operand}{v:Qn}{cs:List Qn} (J:gd ops L ⟨some d,.box T y,ty,pos,aft,g⟩=some true) (hN:Nat.blt d x.N=true)
  (O:ev L y=some v) (I:v.cells=cs.toArray)
  (k:∀ b,W x ops Q rest H (.obj b (.cells cs.toArray T (0,0))::M) ((d,.pointer (some ⟨b,0,none⟩))::L)):
  W x ops Q (⟨some d,.box T y,ty,pos,aft,g⟩::rest) H M L:=
 s7 rfl J hN (λc w hs ht=>⟨_,w.alloc (.cells cs.toArray T),by
  simp only [execOp,hs.ev O,Instr.box,newVar,newRow,newObj,QD,QK,Sem.run,Qz,I,World.alloc],_,_,ht.alloc _,k _⟩)
theorem Lb {T:TypeId}{z:Qn}{cs:List Qn} (J:gd ops L ⟨some d,.alloc T,ty,pos,aft,g⟩=some true) (hN:Nat.blt d x.N=true)
  (O:∀ w,(zeroValue T).run x.P w=.ok z w) (I:z.cells=cs.toArray)
  (k:∀ b,W x ops Q rest H (.obj b (.cells cs.toArray T (0,0))::M) ((d,.pointer (some ⟨b,0,none⟩))::L)):
  W x ops Q (⟨some d,.alloc T,ty,pos,aft,g⟩::rest) H M L:=
 s7 rfl J hN (λc w hs ht=>⟨_,w.alloc (.cells cs.toArray T),by
  simp only [execOp,Instr.alloc,O,newVar,newRow,newObj,QD,QK,Sem.run,Qz,I,World.alloc],_,_,ht.alloc _,k _⟩)
theorem qF {T:TypeId}{y:Operand}{ad:Addr}{v:Qn} (O:gd ops L ⟨some d,.load T y,ty,pos,aft,g⟩=some true) (hN:Nat.blt d x.N=true)
  (I:∀ w,(isAgg T).run x.P w=.ok false w) (Y:ev L y=some (.pointer (some ad))) (J:yz x H M ad v)
  (k:W x ops Q rest H M ((d,v)::L)):W x ops Q (⟨some d,.load T y,ty,pos,aft,g⟩::rest) H M L:=
 fK rfl O hN (λc w hs ht=>by
  simp [execOp,hs.ev Y,Instr.loadAt,Instr.sureAddr,loadVar,I,load,Sem.run,J w ht]) k
theorem iG {T:TypeId}{n:Nat}{y:Operand}{ad:Addr}{cs:List Qn} (O:gd ops L ⟨some d,.load T y,ty,pos,aft,g⟩=some true) (hN:Nat.blt d x.N=true)
  (I:∀ w,(isAgg T).run x.P w=.ok true w) (hn:∀ w,(sizeOf T).run x.P w=.ok n w) (Z:ev L y=some (.pointer (some ad))) (J:y0 x H M ad cs) (hl:cs.length=n)
  (k:W x ops Q rest H M ((d,.agg cs.toArray)::L)):W x ops Q (⟨some d,.load T y,ty,pos,aft,g⟩::rest) H M L:=
 fK rfl O hN (λc w hs ht=>by
  have h:=run_loadCellsFrom (P:=x.P) (w:=w) (ad:=ad) cs 0 #[] (λj v Y=>by rw [QP]; exact J j v Y w ht)
  rw [hl] at h;simp [execOp,hs.ev Z,Instr.loadAt,Instr.sureAddr,loadVar,I,hn,loadCells,h]) k
theorem uy {T:TypeId}{y:Operand}{ad:Addr}{f n o:Nat}{fs:Array Field}{I:Field} (hg:gd ops L ⟨some d,.fieldAddr T y f,ty,pos,aft,g⟩=some true) (hN:Nat.blt d x.N=true)
  (Y:∀ w,(underlying T).run x.P w=.ok (.struct fs) w) (Z:fs[f]? = some I) (hn:∀ w,(sizeOf I.type).run x.P w=.ok n w) (J:Nat.beq n 0=false) (ho:I.offset=o)
  (hy:ev L y=some (.pointer (some ad))) (k:W x ops Q rest H M ((d,.pointer (some (ad.add o)))::L)):
  W x ops Q (⟨some d,.fieldAddr T y f,ty,pos,aft,g⟩::rest) H M L:=
 fK rfl hg hN (λc w hs ht=>by
  have O:¬ n=0:=λe=>by subst e; simp at J
  simp [execOp,hs.ev hy,Instr.fieldAt,Y,Z,Instr.sureAddr,fieldPlace,hn,O,ho]) k
theorem pX {y:Operand}{ad:Addr} (I:gd ops L ⟨some d,.nilCheck y,ty,pos,aft,g⟩=some true) (hN:Nat.blt d x.N=true)
  (J:ev L y=some (.pointer (some ad))) (k:W x ops Q rest H M ((d,.pointer (some ad))::L)):
  W x ops Q (⟨some d,.nilCheck y,ty,pos,aft,g⟩::rest) H M L:=
 fK rfl I hN (λc w hs ht=>by simp [execOp,hs.ev J]) k
theorem ss {y:Operand}{vs:Array Qn}{i:Nat}{v:Qn} (I:gd ops L ⟨some d,.extract y i,ty,pos,aft,g⟩=some true) (hN:Nat.blt d x.N=true)
  (O:ev L y=some (.tuple vs)) (J:vs[i]? = some v) (k:W x ops Q rest H M ((d,v)::L)):
  W x ops Q (⟨some d,.extract y i,ty,pos,aft,g⟩::rest) H M L:=
 fK rfl I hN (λc w hs ht=>by simp [execOp,hs.ev O,Instr.extract,J]) k
theorem A8 {y z:Operand}{I:Array TypeId}{J:IntKind}{m n:Int} (O:gd ops L ⟨some d,.call ⟨.builtin .min,#[y,z],I⟩,ty,pos,aft,g⟩=some true) (hN:Nat.blt d x.N=true)
  (Y:ev L y=some (.int J m)) (Z:ev L z=some (.int J n)) (k:W x ops Q rest H M ((d,.int J (min m n))::L)):
  W x ops Q (⟨some d,.call ⟨.builtin .min,#[y,z],I⟩,ty,pos,aft,g⟩::rest) H M L:=
 fK rfl O hN (λc w hs ht=>by
  have:(if n<m then n else m)=min m n:=by rw [Int.min_def]; split <;> split <;> omega
  simp [execOp,resolve,invoke,builtin,hs.ev Y,hs.ev Z,Builtin.min_,Builtin.min2,this]) k
theorem MF {y z:Operand}{I:Array TypeId}{J:IntKind}{m n:Int} (O:gd ops L ⟨some d,.call ⟨.builtin .max,#[y,z],I⟩,ty,pos,aft,g⟩=some true) (hN:Nat.blt d x.N=true)
  (Y:ev L y=some (.int J m)) (Z:ev L z=some (.int J n)) (k:W x ops Q rest H M ((d,.int J (max m n))::L)):
  W x ops Q (⟨some d,.call ⟨.builtin .max,#[y,z],I⟩,ty,pos,aft,g⟩::rest) H M L:=
 fK rfl O hN (λc w hs ht=>by
  have:(if n > m then n else m)=max m n:=by rw [Int.max_def]; split <;> split <;> omega
  simp [execOp,resolve,invoke,builtin,hs.ev Y,hs.ev Z,Builtin.max_,Builtin.max2,this]) k
theorem C8 {t e:TypeId}{y:Operand}{a:Option Addr}{m n:Nat} (J:gd ops L ⟨some d,.call ⟨.builtin .len,#[y],#[t]⟩,ty,pos,aft,g⟩=some true) (hN:Nat.blt d x.N=true)
  (I:∀ w,(underlying t).run x.P w=.ok (.slice e) w) (O:ev L y=some (.slice a n m)) (k:W x ops Q rest H M ((d,.int .i64 n)::L)):
  W x ops Q (⟨some d,.call ⟨.builtin .len,#[y],#[t]⟩,ty,pos,aft,g⟩::rest) H M L:=
 fK rfl J hN (λc w hs ht=>by
  simp [execOp,resolve,invoke,builtin,hs.ev O,Builtin.len_,I,goInt]) k
theorem kU {t:TypeId}{y:Operand}{s:Qm} (J:gd ops L ⟨some d,.call ⟨.builtin .len,#[y],#[t]⟩,ty,pos,aft,g⟩=some true) (hN:Nat.blt d x.N=true)
  (I:∀ w,(underlying t).run x.P w=.ok .string w) (O:ev L y=some (.string s)) (k:W x ops Q rest H M ((d,.int .i64 s.size)::L)):
  W x ops Q (⟨some d,.call ⟨.builtin .len,#[y],#[t]⟩,ty,pos,aft,g⟩::rest) H M L:=
 fK rfl J hN (λc w hs ht=>by
  simp [execOp,resolve,invoke,builtin,hs.ev O,Builtin.len_,I,goInt]) k
theorem Je {t e:TypeId}{sz:Nat}{y z:Operand}{ad:Addr}{n m:Nat}{kk:IntKind}{i:Int} (Z:gd ops L ⟨some d,.indexAddr t y z,ty,pos,aft,g⟩=some true) (hN:Nat.blt d x.N=true)
  (Y:∀ w,(underlying t).run x.P w=.ok (.slice e) w) (hs:∀ w,(sizeOf e).run x.P w=.ok sz w)
  (hy:ev L y=some (.slice (some ad) n m)) (hz:ev L z=some (.int kk i)) (O:0<=i) (h1:i.toNat<n)
  (k:W x ops Q rest H M ((d,.pointer (some (ad.add (i.toNat*sz))))::L)):
  W x ops Q (⟨some d,.indexAddr t y z,ty,pos,aft,g⟩::rest) H M L:=
 fK rfl Z hN (λc w I ht=>by
  have J:i<(n:Int):=by omega
  simp [execOp,I.ev hy,I.ev hz,Instr.indexAt,asIntOf,Y,hs,O,J]) k
end
class aG (α:Type) where
 sz:Nat
 E:Hp->List Qn->α->Prop
 len:∀ {H cs x},E H cs x->cs.length=sz
 mono:∀ {H H' cs x},H.le H'->E H cs x->E H' cs x
 one:∀ {H cs x},E H cs x->∀ c ∈ cs,c.oneCell'=true
instance:aG Int where
 sz:=1
 E _ cs n:=cs=[.int .i64 n]
 len h:=by rw [h]; rfl
 mono _ h:=h
 one h c hc:=by rw [h] at hc; simp at hc; subst hc; rfl
instance:aG Bool where
 sz:=1
 E _ cs b:=cs=[.bool b]
 len h:=by rw [h]; rfl
 mono _ h:=h
 one h c hc:=by rw [h] at hc; simp at hc; subst hc; rfl
instance:aG Qm where
 sz:=1
 E _ cs s:=cs=[.string s]
 len h:=by rw [h]; rfl
 mono _ h:=h
 one h c hc:=by rw [h] at hc; simp at hc; subst hc; rfl
instance:aG UInt8 where
 sz:=1
 E _ cs n:=cs=[.int .u8 n.toNat]
 len h:=by rw [h]; rfl
 mono _ h:=h
 one h c hc:=by rw [h] at hc; simp at hc; subst hc; rfl
instance:aG UInt32 where
 sz:=1
 E _ cs n:=cs=[.int .u32 n.toNat]
 len h:=by rw [h]; rfl
 mono _ h:=h
 one h c hc:=by rw [h] at hc; simp at hc; subst hc; rfl
instance:aG UInt64 where
 sz:=1
 E _ cs n:=cs=[.int .u64 n.toNat]
 len h:=by rw [h]; rfl
 mono _ h:=h
 one h c hc:=by rw [h] at hc; simp at hc; subst hc; rfl
def aQ {α:Type}[aG α] (H:Hp) (v:Qn) (xs:List α):Prop:=
 ((∃ a,v=.slice a 0 0)/\xs=[]) \/
 ∃ b off cap arr T fz,v=.slice (some ⟨b,off,none⟩) xs.length cap/\xs.length<=cap/\cap<=maxLen/\H b=some (.cells arr T fz)/\off+cap*aG.sz α<=arr.size /\
  ∀ k e,xs[k]? = some e->∃ cs,aG.E H cs e/\∀ j c,cs[j]? = some c->arr[off+k*aG.sz α+j]? = some c
theorem aQ.mono {α:Type}[aG α] {H H':Hp}{v:Qn}{xs:List α} (I:H.le H') (h:aQ H v xs):aQ H' v xs:=by
 rcases h with h | ⟨b,off,cap,arr,T,fz,J,O,Y,Z,h5,h6⟩
 ·exact .inl h
 ·exact .inr ⟨b,off,cap,arr,T,fz,J,O,Y,I _ _ Z,h5,λk e he=>let ⟨cs,a,b⟩:=h6 k e he; ⟨cs,aG.mono I a,b⟩⟩
instance {α:Type}[aG α]:aG (List α) where
 sz:=1
 E H cs xs:=∃ v,cs=[v]/\aQ H v xs
 len h:=by obtain ⟨v,rfl,_⟩:=h; rfl
 mono hle h:=by obtain ⟨v,e,I⟩:=h; exact ⟨v,e,I.mono hle⟩
 one h c hc:=by
  obtain ⟨v,rfl,I⟩:=h;simp at hc; subst hc
  rcases I with ⟨⟨a,rfl⟩,_⟩ | ⟨b,off,cap,arr,T,fz,rfl,_⟩ <;> rfl
def Value.base:Qn->Addr
 | .slice (some a) _ _=>a
 | _=>⟨0,0,none⟩
def Value.oC:Qn->Nat
 | .slice _ _ c=>c
 | _=>0
theorem aQ.len {α:Type}[aG α] {H:Hp}{v:Qn}{xs:List α} (h:aQ H v xs):∃ a c,v=.slice a xs.length c/\xs.length<=c/\c<=maxLen:=by
 rcases h with ⟨⟨a,rfl⟩,rfl⟩ | ⟨b,off,cap,arr,T,fz,rfl,I,J,_⟩
 ·exact ⟨a,0,rfl,QM _,by unfold maxLen; omega⟩
 ·exact ⟨_,cap,rfl,I,J⟩
theorem aQ.val {α:Type}[aG α] {H:Hp}{v:Qn}{xs:List α} (h:aQ H v xs) {k:Nat}{e:α} (he:xs[k]? = some e):v=.slice (some (Value.base v)) xs.length (Value.oC v):=by
 rcases h with ⟨⟨a,rfl⟩,rfl⟩ | ⟨b,off,cap,arr,T,fz,rfl,_⟩
 ·simp at he
 ·rfl
theorem aQ.elem {α:Type}[aG α] {H:Hp}{v:Qn}{xs:List α} (h:aQ H v xs) {k:Nat}{e:α} (he:xs[k]? = some e):
  ∃ cs,aG.E H cs e/\i_ H ((Value.base v).add (k*aG.sz α)) cs:=by
 rcases h with ⟨⟨a,rfl⟩,rfl⟩ | ⟨b,off,cap,arr,T,fz,rfl,h2,h3,I,h5,J⟩
 ·simp at he
 ·obtain ⟨cs,O,Y⟩:=J k e he
  refine ⟨cs,O,λj c Z=>⟨arr,T,fz,?_,?_,?_⟩⟩
  ·simp only [Value.base,Rz]; exact I
  ·simp only [Value.base,Rz]
  ·simp only [Value.base,Rz]; exact Y j c Z
section
variable {x:Cx}{ops:Array Oper}{Q:l8}{rest:List Oper}{H:Hp}{M M':List bQ}{L L':Env}
variable {d:Nat}{ty:TypeId}{pos:String}{aft:Array Edge}{g:Option (Nat×Bool)}
theorem Ez {α:Type}[aG α] {t e:TypeId}{y z:Operand}{v:Qn}{xs:List α}{el:α}{kk:IntKind}{i:Int} (O:gd ops L ⟨some d,.indexAddr t y z,ty,pos,aft,g⟩=some true) (hN:Nat.blt d x.N=true)
  (J:∀ w,(underlying t).run x.P w=.ok (.slice e) w) (hs:∀ w,(sizeOf e).run x.P w=.ok (aG.sz α) w)
  (Y:ev L y=some v) (hR:aQ H v xs) (Z:ev L z=some (.int kk i)) (I:0<=i) (he:xs[i.toNat]? = some el)
  (k:W x ops Q rest H M ((d,.pointer (some ((Value.base v).add (i.toNat*aG.sz α))))::L)):
  W x ops Q (⟨some d,.indexAddr t y z,ty,pos,aft,g⟩::rest) H M L:=
 Je O hN J hs (by rw [Y,<- hR.val he]) Z I (by rcases Qt.1 he with ⟨h,_⟩; exact h) k
theorem Jg {α:Type}[aG α] {t e:TypeId}{y:Operand}{v:Qn}{xs:List α} (J:gd ops L ⟨some d,.call ⟨.builtin .len,#[y],#[t]⟩,ty,pos,aft,g⟩=some true) (hN:Nat.blt d x.N=true)
  (I:∀ w,(underlying t).run x.P w=.ok (.slice e) w) (O:ev L y=some v) (hR:aQ H v xs) (k:W x ops Q rest H M ((d,.int .i64 xs.length)::L)):
  W x ops Q (⟨some d,.call ⟨.builtin .len,#[y],#[t]⟩,ty,pos,aft,g⟩::rest) H M L:=by
 obtain ⟨a,c,rfl,_⟩:=hR.len;exact C8 J hN I O k
end
def over (l:List Qn) (k:Nat):List Qn->List Qn
 | []=>l
 | v::vs=>over (l.set k v) (k+1) vs
theorem pV (vs:List Qn):∀ (l:List Qn) (k:Nat),(over l k vs).length=l.length:=by
 induction vs with
 | nil=>intro l k; rfl
 | cons v vs ih=>intro l k; simp [over,ih]
theorem lj {P:Program} (b o:Nat) (T:TypeId):∀ (vs:List Qn) (i:Nat) (l:List Qn) (w:World),w.heap[b]? = some (.cells l.toArray T (0,0)) ->
  o+i+vs.length<=l.length->(∀ v ∈ vs,v.oneCell'=true) ->
  ∃ O,(storeCells ⟨b,o,none⟩ vs i).run P w=.ok () O/\O.heap[b]? = some (.cells (over l (o+i) vs).toArray T (0,0))/\w.grownBy O (some b)
 | [],i,l,w,h,_,_=>⟨w,rfl,h,⟨rfl,rfl,rfl,QM _,λ_ _ _=>rfl⟩⟩
 | v::vs,i,l,w,h,hb,h1=>by
  have Y:o+i<l.length:=by simp at hb; omega
  have hc:w.cell? ⟨b,o+i,none⟩=some l[o+i]:=UR (w:=w) (ad:=⟨b,o+i,none⟩) h rfl (by simp [Y])
  have hf:w.frozen? ⟨b,o+i,none⟩=false:=by simp [World.frozen?,h]
  have Z:(w.setCell ⟨b,o+i,none⟩ v).heap[b]? = some (.cells (l.set (o+i) v).toArray T (0,0)):=by
   simp [World.setCell,UL,h]
  obtain ⟨O,hr,hh,I⟩:=lj (P:=P) b o T vs (i+1) (l.set (o+i) v) (w.setCell ⟨b,o+i,none⟩ v) Z (by simp at hb ⊢; omega) (λu hu=>h1 u (Qy _ hu))
  refine ⟨O,?_,?_,?_⟩
  ·have hv:=h1 v (Qu ..)
   simp only [storeCells,QD,store,Rz];have:(Sem.store Mode.plain ⟨b,o+i,none⟩ v (Sem.pure ())).run P w=.ok () (w.setCell ⟨b,o+i,none⟩ v):=by
    cases v <;> first
     | (simp [Sem.run,hc,hf]; done)
     | simp [Value.oneCell'] at hv
   rw [this];simpa using hr
  ·simpa [over,SN] using hh
  ·exact ⟨I.os,I.tape,I.output,by have:=I.size; simpa [World.setCell] using this,λk hk J=>by
    rw [I.block k (by simpa [World.setCell] using hk) J]
    exact Below.heap_setCell _ _ _ _ (by intro e; subst e; exact J rfl)⟩
section
variable {x:Cx}{ops:Array Oper}{Q:l8}{rest:List Oper}{H:Hp}{M M':List bQ}{L L':Env}
variable {ty:TypeId}{pos:String}{aft:Array Edge}{g:Option (Nat×Bool)}
theorem Da {T E:TypeId}{n:Nat}{y z:Operand}{b o:Nat}{l cs out:List Qn}{v:Qn} (hg:gd ops L ⟨none,.store T y z,ty,pos,aft,g⟩=some true)
  (hn:∀ w,(sizeOf T).run x.P w=.ok n w) (hy:ev L y=some (.pointer (some ⟨b,o,none⟩))) (hz:ev L z=some v) (hv:v.cells=cs.toArray) (hl:cs.length=n)
  (Y:Nat.ble (o+cs.length) l.length=true) (O:∀ c ∈ cs,c.oneCell'=true) (ho:over l o cs=out)
  (k:W x ops Q rest H (.obj b (.cells out.toArray E (0,0))::M) L):
  W x ops Q (⟨none,.store T y z,ty,pos,aft,g⟩::rest) H (.obj b (.cells l.toArray E (0,0))::M) L:=
 C_ rfl hg (λa w hs ht=>by
  subst ho;have J:=ht.vS (Qu ..);obtain ⟨w',hr,hh,I⟩:=lj (P:=x.P) b o E cs 0 l w J (by simpa [S8] using Y) O
  refine ⟨w',?_,H,_,ht.Em (r':=.obj b (.cells (over l o cs).toArray E (0,0))) I hh (λc Z=>.inl Z),k⟩;simp [execOp,hs.ev hy,hs.ev hz,Instr.storeAt,Instr.sureAddr,storeVar,hn,hl,hv,hr])
end
theorem least {p:Nat->Prop}:∀ n,p n->∃ m,p m/\∀ k,p k->m<=k:=by
 intro n
 induction n using Nat.strongRecOn with
 | _ n ih=>
  intro h
  by_cases I:∃ m,m<n/\p m
  ·obtain ⟨m,hm,O⟩:=I; exact ih m hm O
  ·exact ⟨n,h,λk J=>by
    by_cases e:k<n
    ·exact absurd ⟨k,e,J⟩ I
    ·omega⟩
theorem K1 {P:Program}{Q:l8}{c:Code} (J:Nat->Act->World->Prop) {n:Nat}{a:Act}{w:World} (h0:J n a w)
  (I:∀ n a w,J n a w->c.wp P (Exit.then (λY w'=>∃ m,m<n/\J m Y w') Q) a w):(Code.loop c).wp P Q a w:=by
 have hex:∀ a w,(∃ n,J n a w)->∃ m,J m a w/\∀ k,J k a w->m<=k:=λa w ⟨n,h⟩=>least n h
 let μ:Act->World->Nat:=λa w=>Classical.epsilon (λm=>J m a w/\∀ k,J k a w->m<=k)
 have O:∀ a w,(∃ n,J n a w)->J (μ a w) a w/\∀ k,J k a w->μ a w<=k:=λa w h=>Classical.epsilon_spec (p:=λm=>J m a w/\∀ k,J k a w->m<=k) (hex a w h);refine wp_loop (λa w=>∃ n,J n a w) μ ⟨n,h0⟩ λa w h=>?_;refine wp_mono (I (μ a w) a w (O a w h).1) ?_;intro e Y w' hq;cases e with
 | normal=>
  obtain ⟨m,hm,Z⟩:=hq;exact ⟨⟨m,Z⟩,Tq ((O Y w' ⟨m,Z⟩).2 m Z) hm⟩
 | _=>exact hq
abbrev CA:=Nat->Hp->List bQ->Env->Prop
def IX (x:Cx) (S:CA) (n:Nat) (a:Act) (w:World):Prop:=
 ∃ m,m<n/\∃ H M L,S m H M L/\Sl x.N L a/\St x.B x.w0 H M w
theorem AR {x:Cx}{c:Code}{Q:l8}{H:Hp}{M:List bQ}{L:Env} (S:CA) (n:Nat) (I:S n H M L)
  (step:∀ n H M L,S n H M L->C x c (Exit.then (IX x S n) Q) H M L):C x (.loop c) Q H M L:=by
 intro a w hs ht;refine K1 (λn a w=>∃ H M L,S n H M L/\Sl x.N L a/\St x.B x.w0 H M w) ⟨H,M,L,I,hs,ht⟩ ?_;intro n a w ⟨H,M,L,h,hs,ht⟩;exact step n H M L h a w hs ht
theorem vH {x:Cx}{S:CA}{Q:l8}{H:Hp}{M:List bQ}{L:Env}{n m:Nat} (hm:m<n) (h:S m H M L):E x .normal (Exit.then (IX x S n) Q) H M L:=
 λ_ _ hs ht=>⟨m,hm,H,M,L,h,hs,ht⟩
section
variable {x:Cx}{Q:l8}{H:Hp}{M:List bQ}{L:Env}{K:Act->World->Prop}
theorem jQ (h:E x .ret Q H M L):E x .ret (Exit.then K Q) H M L:=h
theorem tO {id:Nat} (h:E x .ret Q H M L):E x .ret (Exit.inBlock id Q) H M L:=h
theorem gY {id:Nat} (h:E x (.exit id) Q H M L):E x (.exit id) (Exit.then K Q) H M L:=h
theorem nX {id:Nat} (h:E x .normal Q H M L):E x (.exit id) (Exit.inBlock id Q) H M L:=λa w hs ht=>by
 simp only [Exit.inBlock,Um]; exact h a w hs ht
theorem tN {id I:Nat} (J:Nat.beq id I=false) (h:E x (.exit id) Q H M L):E x (.exit id) (Exit.inBlock I Q) H M L:=λa w hs ht=>by
 have:¬ id=I:=λe=>by subst e; simp at J
 simp only [Exit.inBlock,Qw this]; exact h a w hs ht
theorem mD {id:Nat} (h:E x .normal Q H M L):E x .normal (Exit.inBlock id Q) H M L:=h
end
abbrev N4:=Hp->List bQ->Env->Prop
theorem r7 {x:Cx}{c d:Code}{Q:l8}{H:Hp}{M:List bQ}{L:Env} (S:N4) (rest:∀ H M L,S H M L->C x d Q H M L)
  (k:(∀ H M L,S H M L->E x .normal (Exit.then (d.wp x.P Q) Q) H M L)->C x c (Exit.then (d.wp x.P Q) Q) H M L):C x (.seq c d) Q H M L:=
 bN (k λH M L h=>aT (rest H M L h))
theorem fS {α:Type}{xs ys:List α}{k:Nat} (h:xs.drop k=ys) (J:decide ((k:Int)<(xs.length:Int))=true):
  ∃ y zs,ys=y::zs/\xs[k]? = some y/\xs.drop (k+1)=zs:=by
 have I:k<xs.length:=by have:=Qv J; omega
 refine ⟨xs[k],xs.drop (k+1),?_,Qp I,rfl⟩;rw [<- h,Q0 I]
theorem fR {α:Type}{xs ys:List α}{k:Nat} (h:xs.drop k=ys) (I:decide ((k:Int)<(xs.length:Int))=false):ys=[]:=by
 have J:xs.length<=k:=by have:=QE I; omega
 rw [<- h,List.drop_eq_nil_of_le J]
theorem xD {n:Int} (I:-9223372036854775808<=n) (J:n<=9223372036854775807):i64.wrap n=n:=by
 simp only [IntKind.wrap,IntKind.bits,IntKind.signed,Bool.true_and]
 split <;> rename_i h <;> simp at h <;> omega
theorem cA {α:Type}{xs:List α}{k:Nat}{y:α} (h:xs[k]? = some y) (hl:xs.length<=maxLen):i64.wrap ((k:Int)+1)=((k+1:Nat):Int):=by
 have I:=(Qt.1 h).1;unfold maxLen at hl;rw [xD (by omega) (by omega)]; rfl
theorem eZ {k n:Nat} (h:k<n) (hl:n<=maxLen):i64.wrap ((k:Int)+1)=((k+1:Nat):Int):=by
 unfold maxLen at hl;rw [xD (by omega) (by omega)]; rfl
theorem aQ.cV {α:Type}[aG α] {H:Hp}{v:Qn}{xs:List α} (h:aQ H v xs):xs.length<=maxLen:=by
 obtain ⟨a,c,_,I,J⟩:=h.len; omega
def CK:Nat->List Qn->Env
 | _,[]=>[]
 | i,v::vs=>(i,v)::CK (i+1) vs
theorem Ib (N:Nat):∀ (vs:List Qn) (i:Nat) (t:Nat) (v:Qn) (pre:List Qn),pre.length=i->lk (CK i vs) t=some v ->
  ((pre++vs).toArray++Array.replicate (N-(pre++vs).length) undef)[t]? = some v:=by
 intro vs
 induction vs with
 | nil=>intro i t v pre _ h; simp [CK,lk] at h
 | cons u vs ih=>
  intro i t v pre I h;simp only [CK,tH] at h
  split at h
  ·rename_i e; subst e; cases h
   simp [Array.getElem?_append,<- I]
  ·have:=ih (i+1) t v (pre++[u]) (by simp [I]) h
   simpa using this
theorem enter {P:Program}{f:FuncId}{fn:Func}{c:Code}{vs:List Qn}{N B:Nat}{w0 w:World}{H:Hp}{M:List bQ}{Φ:Hp->List bQ->Qn->Prop}
  (O:P.funcs[f]? = some fn) (J:fn.body=some c) (hN:fn.ntmps=N) (I:Nat.ble vs.length N=true) (ht:St B w0 H M w)
  (k:C ⟨P,N,B,w0⟩ c (bodyPost P fn (ux B w0 Φ)) H M (CK 0 vs)):Calls P f vs.toArray w (ux B w0 Φ):=by
 refine calls_of_wp O J (k _ w ⟨?_,rfl,?_⟩ ht)
 ·have:vs.length<=N:=by simpa [S8] using I
  simp [hN]; omega
 ·intro t v h
  have:=Ib N vs 0 t v [] rfl h;simpa [hN] using this
section
variable {P:Program}{N B:Nat}{w0:World}{fn:Func}{Φ:Hp->List bQ->Qn->Prop}{H:Hp}{M:List bQ}{L:Env}
theorem l9 {t:Nat}{v:Qn} (I:fn.results=#[.tmp t]) (hl:lk L t=some v) (h:Φ H M v):E ⟨P,N,B,w0⟩ .ret (bodyPost P fn (ux B w0 Φ)) H M L:=
 λa w hs ht=>⟨hs.EL,v,by rw [results_tmp I]; simp [Rc,hs.get t v hl],H,M,ht,h⟩
theorem Co {t u:Nat}{v1 v2:Qn} (J:fn.results=#[.tmp t,.tmp u]) (hl:lk L t=some v1) (I:lk L u=some v2) (h:Φ H M (.tuple #[v1,v2])):E ⟨P,N,B,w0⟩ .ret (bodyPost P fn (ux B w0 Φ)) H M L:=
 λa w hs ht=>⟨hs.EL,.tuple #[v1,v2],by rw [results_tmp2 J]; simp [Rc,hs.get t v1 hl,hs.get u v2 I],H,M,ht,h⟩
end
section
variable {α σ R:Type}
def idx (l:List α) (i:Int) (k:α->Option R):Option R:=
 if 0<=i then match l[i.toNat]? with
  | some y=>k y
  | none=>none
 else none
theorem aC {l:List α}{i:Int}{k:α->Option R}{r:R} (h:idx l i k=some r):∃ y,0<=i/\l[i.toNat]? = some y/\k y=some r:=by
 unfold idx at h
 split at h
 ·cases hl:l[i.toNat]? with
  | none=>rw [hl] at h; cases h
  | some y=>rw [hl] at h; exact ⟨y,‹_›,rfl,h⟩
 ·cases h
def cW (p:Prop) [Decidable p] (k:Option R):Option R:=if p then k else none
theorem aI {p:Prop}[Decidable p] {k:Option R}{r:R} (h:cW p k=some r):p/\k=some r:=by
 unfold cW at h
 split at h
 ·exact ⟨‹_›,h⟩
 ·cases h
theorem aU {o:Option α}{k:α->Option R}{r:R} (h:o.bind k=some r):∃ y,o=some y/\k y=some r:=by
 cases o with
 | none=>cases h
 | some y=>exact ⟨y,rfl,h⟩
def dO (I:Nat->α->σ->(σ->Option R)->Option R) (k:σ->Option R):Nat->List α->σ->Option R
 | _,[],s=>k s
 | i,y::ys,s=>I i y s (dO I k (i+1) ys)
def kW (I:Nat->σ->(σ->Option R)->Option R) (k:σ->Option R):Nat->Nat->σ->Option R
 | 0,_,s=>k s
 | n+1,i,s=>I i s (kW I k n (i+1))
def iL (I:σ->(σ->Option R)->Option R):Nat->σ->Option R
 | 0,_=>none
 | n+1,s=>I s (iL I n)
def fT:Nat:=1152921504606846976
end
theorem zR (X Y:Env) (t:Nat):lk (X++Y) t=(lk X t).or (lk Y t):=by
 induction X with
 | nil=>simp [lk]
 | cons p X ih=>
  obtain ⟨u,v⟩:=p;simp only [SL,tH]
  split <;> simp [ih]
theorem Ge {X:Env}{t:Nat}{v:Qn} (h:lk X t=some v):(t,v) ∈ X:=by
 induction X with
 | nil=>simp [lk] at h
 | cons p X ih=>
  obtain ⟨u,w⟩:=p;rw [tH] at h
  split at h
  ·rename_i e; subst e; cases h; exact Qu ..
  ·exact Qy _ (ih h)
theorem Sl.more {N:Nat}{L X:Env}{a:Act} (h:Sl N L a) (I:∀ t v,(t,v) ∈ X->a.tmps[t]? = some v):Sl N (L++X) a:=
 ⟨h.size,h.EL,λt v ht=>by
  rw [zR] at ht;cases hl:lk L t with
  | some u=>rw [hl] at ht; simp at ht; subst ht; exact h.get t _ hl
  | none=>rw [hl] at ht; simp at ht; exact I t v (Ge ht)⟩
theorem Sl.cons {N:Nat}{L:Env}{a:Act}{t:Nat}{v:Qn} (h:Sl N L a) (J:a.tmps[t]? = some v):Sl N ((t,v)::L) a:=
 ⟨h.size,h.EL,λu w I=>by
  rw [tH] at I
  split at I
  ·rename_i e; subst e; cases I; exact J
  ·exact h.get u w I⟩
theorem Sl.left {N:Nat}{L X:Env}{a:Act} (h:Sl N (L++X) a):Sl N L a:=
 ⟨h.size,h.EL,λt v ht=>h.get t v (by rw [zR,ht]; rfl)⟩
def jI (o:Oper):List Nat:=(o.after.toList.filter λe=>Region.binds .any e).map (·.on)
def K8 (l:List Oper) (Φ:Nat->Hp->Qn->Prop) (H:Hp):List Nat->Env->(Env->Prop)->Prop
 | [],L,k=>k L
 | j::I,L,k=>match (l[j]?).bind (·.dst) with
  | some t=>∀ v,Φ j H v->K8 l Φ H I ((t,v)::L) k
  | none=>K8 l Φ H I L k
def One (x:Cx) (H:Hp) (M:List bQ) (L:Env) (t:Nat) (I:Hp->Qn->Prop):l8:=λe a w=>
 e=.normal/\∃ v H',Sl x.N ((t,v)::L) a/\H.le H'/\St x.B x.w0 H' M w/\I H' v
def K9 (x:Cx) (l:List Oper) (Φ:Nat->Hp->Qn->Prop) (H:Hp) (M:List bQ) (L:Env):Nat->List Oper->Prop
 | _,[]=>True
 | i,o::r=>(∀ H',H.le H'->∀ X,K8 l Φ H' (jI o) (L++X) (λL'=>W x l.toArray (One x H' M L' (o.dst.getD 0) (Φ i)) [o] H' M L'))/\K9 x l Φ H M L (i+1) r
theorem K9.at {x:Cx}{l:List Oper}{Φ:Nat->Hp->Qn->Prop}{H:Hp}{M:List bQ}{L:Env}:∀ {r:List Oper}{i:Nat},K9 x l Φ H M L i r->∀ j o,r[j]? = some o ->
  ∀ H',H.le H'->∀ X,K8 l Φ H' (jI o) (L++X) (λL'=>W x l.toArray (One x H' M L' (o.dst.getD 0) (Φ (i+j))) [o] H' M L')
 | [],_,_,j,o,h=>by simp at h
 | p::r,i,hh,0,o,h=>by simp at h; subst h; exact hh.1
 | p::r,i,hh,j+1,o,h=>by
  have:=K9.at hh.2 j o (by simpa using h)
  rwa [show i+1+j=i+(j+1) from by omega] at this
theorem K8.use {l:List Oper}{Φ:Nat->Hp->Qn->Prop}{H:Hp}{a:Act}{N:Nat}:∀ {J:List Nat}{L:Env}{k:Env->Prop},K8 l Φ H J L k->Sl N L a ->
  (∀ j ∈ J,∀ t,(l[j]?).bind (·.dst)=some t->∃ v,a.tmps[t]? = some v/\Φ j H v)->∃ Y,k (Y++L)/\Sl N (Y++L) a/\∀ t v,(t,v) ∈ Y->a.tmps[t]? = some v
 | [],L,k,h,hs,_=>⟨[],h,hs,by simp⟩
 | j::J,L,k,h,hs,hv=>by
  unfold K8 at h;cases I:(l[j]?).bind (·.dst) with
  | none=>
   rw [I] at h;exact K8.use h hs (λi hi=>hv i (Qy _ hi))
  | some t=>
   rw [I] at h;obtain ⟨v,O,Z⟩:=hv j (Qu ..) t I;obtain ⟨Y,h3,h4,h5⟩:=K8.use (h v Z) (hs.cons O) (λi hi=>hv i (Qy _ hi));refine ⟨Y++[(t,v)],by simpa using h3,by simpa using h4,?_⟩
   intro u w hm;rcases QG.1 hm with hm | hm
   ·exact h5 u w hm
   ·simp at hm; obtain ⟨rfl,rfl⟩:=hm; exact O
theorem mem_ready {I:Array Oper}{listed:Array Bool}{i:Nat}:i ∈ Region.ready .any I listed↔i<I.size/\listed.getD i true=false/\∃ o,I[i]? = some o/\∀ j ∈ jI o,listed.getD j false=true:=by
 unfold Region.ready jI;simp only [Ru,Ri,Sg,Bool.not_eq_true'];refine and_congr_right λhi=>and_congr_right λ_=>?_;have:I[i]? = some I[i]:=Tc hi;simp only [this,RV,Su,Array.all_eq_true',QL,Rd,Ru,Array.mem_toList_iff,R6,Bool.not_eq_true'];constructor
 ·intro h
  refine ⟨_,rfl,?_⟩;rintro j ⟨e,⟨he,J⟩,rfl⟩;rcases h e he with h | h
  ·rw [h] at J; cases J
  ·exact h
 ·rintro ⟨o,rfl,h⟩ e he
  cases J:Region.binds .any e with
  | false=>exact .inl rfl
  | true=>exact .inr (h _ ⟨e,⟨he,J⟩,rfl⟩)
section
variable {x:Cx}{l:List Oper}{m:Nat}{Φ:Nat->Hp->Qn->Prop}{H:Hp}{M:List bQ}{L:Env}{Q:l8}
theorem uT (b:Array Bool) (i j:Nat) (d:Bool) (hi:i<b.size):(b.setIfInBounds i true).getD j d=if j=i then true else b.getD j d:=by
 simp only [Rc,T9]
 by_cases e:i=j
 ·subst e; simp [hi]
 ·simp [e,Ne.symm e]
def left (l:List Oper) (listed:Array Bool):Nat:=(List.range l.length).countP λi=>!listed.getD i true
theorem Kb {listed:Array Bool}{i:Nat} (Y:listed.size=l.length) (hi:i<l.length) (hl:listed.getD i true=false):left l (listed.setIfInBounds i true)+1=left l listed:=by
 unfold left;have key:∀ n,i<n->n<=l.length->(List.range n).countP (λj=>!(listed.setIfInBounds i true).getD j true)+1=(List.range n).countP (λj=>!listed.getD j true):=by
  intro n
  induction n with
  | zero=>omega
  | succ n ih=>
   intro Z h2;rw [TV,List.countP_append,List.countP_append]
   by_cases e:i=n
   ·subst e
    have:∀ n,n<=i->(List.range n).countP (λj=>!(listed.setIfInBounds i true).getD j true)=(List.range n).countP (λj=>!listed.getD j true):=by
     intro n hn;refine List.countP_congr λj J=>?_;have O:=Ri.1 J;rw [uT _ _ _ _ (by omega),Qw (by omega)]
    rw [this i (QM _)];simp only [List.countP_cons,List.countP_nil,uT _ _ _ _ (by omega:i<listed.size),hl,Um]
    simp
   ·have:=ih (by omega) (by omega)
    have I:(listed.setIfInBounds i true).getD n true=listed.getD n true:=by rw [uT _ _ _ _ (by omega),Qw (by omega)]
    simp only [List.countP_cons,List.countP_nil,I];omega
 exact key l.length hi (QM _)
end
structure U8 where
 n:Int
 deriving DecidableEq
structure O3 where
 n:Int
 deriving DecidableEq
structure bU where
 n:Int
 deriving DecidableEq
structure CB where
 n:Int
 deriving DecidableEq
structure O1 where
 n:Int
 deriving DecidableEq
instance:aG U8 where
 sz:=1
 E _ cs x:=cs=[.int .u8 x.n]
 len h:=by rw [h]; rfl
 mono _ h:=h
 one h c hc:=by rw [h] at hc; simp at hc; subst hc; rfl
instance:aG O3 where
 sz:=1
 E _ cs x:=cs=[.int .u16 x.n]
 len h:=by rw [h]; rfl
 mono _ h:=h
 one h c hc:=by rw [h] at hc; simp at hc; subst hc; rfl
instance:aG bU where
 sz:=1
 E _ cs x:=cs=[.int .u32 x.n]
 len h:=by rw [h]; rfl
 mono _ h:=h
 one h c hc:=by rw [h] at hc; simp at hc; subst hc; rfl
instance:aG CB where
 sz:=1
 E _ cs x:=cs=[.int .u64 x.n]
 len h:=by rw [h]; rfl
 mono _ h:=h
 one h c hc:=by rw [h] at hc; simp at hc; subst hc; rfl
instance:aG O1 where
 sz:=1
 E _ cs x:=cs=[.int .i32 x.n]
 len h:=by rw [h]; rfl
 mono _ h:=h
 one h c hc:=by rw [h] at hc; simp at hc; subst hc; rfl
theorem aQ.nil {α:Type}[aG α] {H:Hp}:aQ H (.slice none 0 0) ([]:List α):=.inl ⟨⟨_,rfl⟩,rfl⟩
theorem aQ.cells {α:Type}[aG α] {H:Hp}{v:Qn}{xs:List α} (h:aQ H v xs):v.cells=[v].toArray:=by
 obtain ⟨a,c,rfl,_⟩:=h.len; rfl
theorem aQ.po {α:Type}[aG α] {H:Hp}{v:Qn}{xs:List α} (h:aQ H v xs):v.oneCell'=true:=by
 obtain ⟨a,c,rfl,_⟩:=h.len; rfl
theorem Se:∀ c ∈ ([]:List Qn),c.oneCell'=true:=by intro c I; cases I
theorem cO {v:Qn}{l:List Qn} (h:v.oneCell'=true) (k:∀ c ∈ l,c.oneCell'=true):∀ c ∈ v::l,c.oneCell'=true:=by
 intro c I;rcases Ra.1 I with rfl | I
 ·exact h
 ·exact k c I
theorem i_.one {H:Hp}{ad:Addr}{cs:List Qn} (h:i_ H ad cs) (j:Nat) {c:Qn} (I:cs[j]? = some c):AU H (ad.add j) c:=h j c I
theorem i_.part {H:Hp}{ad:Addr}{cs I:List Qn}{k:Nat} (h:i_ H ad cs) (Z:(cs.drop k).take I.length=I):i_ H (ad.add k) I:=by
 intro j c J;have hj:j<I.length:=(Qt.1 J).1;have:cs[k+j]? = some c:=by
  rw [<- Z,Rf,Qx hj,Q_] at J; exact J
 have:=h (k+j) c this;have e:(ad.add k).add j=ad.add (k+j):=by
  unfold Addr.add
  by_cases O:k=0
  ·subst O; simp
  ·by_cases Y:j=0
   ·subst Y; simp
   ·simp [O,Y,SN]
 rw [e]; exact this
theorem pP {x:Cx}{H:Hp}{M:List bQ}{b k:Nat}{l I:List Qn}{T:TypeId}{fz:Nat×Nat}
  (hm:bQ.obj b (.cells l.toArray T fz) ∈ M) (O:(l.drop k).take I.length=I):y0 x H M ⟨b,k,none⟩ I:=by
 intro j c J;have Y:j<I.length:=(Qt.1 J).1;rw [Rz];refine vT hm ?_;rw [<- O,Rf,Qx Y,Q_] at J; exact J
theorem C2 {x:Cx}{e:Exit}{Q:l8}{H:Hp}{M M':List bQ}{L L':Env} (k:E x e Q H M' L') (I:M.Perm M') (hL:Kept L L'):E x e Q H M L:=C1 hL I k
theorem eQ {α:Type}{b:Bool}{p q r:α} (I:b=true) (h:(if b=true then p else q)=r):p=r:=by rw [Qx I] at h; exact h
theorem eP {α:Type}{b:Bool}{p q r:α} (I:b=false) (h:(if b=true then p else q)=r):q=r:=by rw [Qw (by simp [I])] at h; exact h
section
variable {P:Program}{N B:Nat}{w0:World}{fn:Func}{H H0:Hp}{M:List bQ}{L:Env}
end
def qA {α:Type}[aG α] (H:Hp):List Qn->List α->Prop
 | cs,[]=>cs=[]
 | cs,y::ys=>∃ c r,cs=c++r/\aG.E H c y/\qA H r ys
section
variable {α:Type}[aG α] {H H':Hp}
theorem qA.nil:qA H [] ([]:List α):=rfl
theorem qA.cons {c r:List Qn}{y:α}{ys:List α} (h:aG.E H c y) (k:qA H r ys):qA H (c++r) (y::ys):=⟨c,r,rfl,h,k⟩
theorem qA.mono (I:H.le H'):∀ {cs:List Qn}{ys:List α},qA H cs ys->qA H' cs ys
 | _,[],h=>h
 | _,_::_,⟨c,r,e,h,k⟩=>⟨c,r,e,aG.mono I h,qA.mono I k⟩
theorem qA.len:∀ {cs:List Qn}{ys:List α},qA H cs ys->cs.length=ys.length*aG.sz α
 | _,[],h=>by rw [show _=[] from h]; simp
 | _,_::ys,⟨c,r,e,h,k⟩=>by rw [e,QJ,aG.len h,qA.len k,QA,QO]; omega
theorem qA.app:∀ {cs I:List Qn}{ys zs:List α},qA H cs ys->qA H I zs->qA H (cs++I) (ys++zs)
 | _,I,[],zs,h,k=>by rw [show _=[] from h]; simpa using k
 | _,I,y::ys,zs,⟨c,r,e,h,k⟩,k2=>⟨c,r++I,by rw [e,QV],h,qA.app k k2⟩
theorem qA.one:∀ {cs:List Qn}{ys:List α},qA H cs ys->∀ c ∈ cs,c.oneCell'=true
 | _,[],h=>by rw [show _=[] from h]; simp
 | _,_::_,⟨c,r,e,h,k⟩=>by
  intro d I;rw [e] at I;rcases QG.1 I with I | I
  ·exact aG.one h d I
  ·exact qA.one k d I
theorem qA.get:∀ {cs:List Qn}{ys:List α},qA H cs ys->∀ k e,ys[k]? = some e->∃ c,aG.E H c e/\∀ j v,c[j]? = some v->cs[k*aG.sz α+j]? = some v
 | _,[],h,k,e,he=>by simp at he
 | _,y::ys,⟨c,r,e,h,k⟩,0,x,hx=>by
  simp at hx; subst hx
  exact ⟨c,h,λj v I=>by rw [e,R2,QP,RF (Qt.1 I).1]; exact I⟩
 | _,y::ys,⟨c,r,e,h,k⟩,n+1,x,hx=>by
  obtain ⟨d,J,O⟩:=qA.get k n x (by simpa using hx)
  refine ⟨d,J,λj v I=>?_⟩;rw [e,Q2 (by rw [aG.len h,QO]; omega),aG.len h]
  rw [show (n+1)*aG.sz α+j-aG.sz α=n*aG.sz α+j from by rw [QO]; omega]
  exact O j v I
theorem qA.split:∀ {cs:List Qn}{ys:List α} (k:Nat),qA H cs ys->qA H (cs.take (k*aG.sz α)) (ys.take k)/\qA H (cs.drop (k*aG.sz α)) (ys.drop k)
 | cs,ys,0,h=>by rw [R2]; exact ⟨rfl,h⟩
 | _,[],k+1,h=>by rw [show _=[] from h,List.take_nil,List.drop_nil,List.take_nil,List.drop_nil]; exact ⟨rfl,rfl⟩
 | _,y::ys,k+1,⟨c,r,e,h,k2⟩=>by
  obtain ⟨I,J⟩:=qA.split k k2;have hl:=aG.len h;subst e;have e1:(k+1)*aG.sz α=c.length+k*aG.sz α:=by rw [QO,hl]; omega
  rw [e1,List.take_length_add_append,List.drop_length_add_append];exact ⟨⟨c,_,rfl,h,I⟩,J⟩
theorem qA.put {cs c:List Qn}{ys:List α}{y:α}{k:Nat} (h:qA H cs ys) (O:k<ys.length) (Y:aG.E H c y):
  qA H (cs.take (k*aG.sz α)++c++cs.drop ((k+1)*aG.sz α)) (ys.set k y):=by
 obtain ⟨I,_⟩:=h.split k;obtain ⟨_,J⟩:=h.split (k+1);have:ys.set k y=ys.take k++y::ys.drop (k+1):=by rw [TD,Qx O]
 rw [this,QV];exact I.app (qA.cons Y J)
theorem aQ.flat {v : Qn} {ys : List α} (h : aQ H v ys) : ∃ cs, qA H cs ys ∧ ((∃ a, v = .slice a 0 0) ∧ ys = [] ∨ i_ H (Value.base v) cs ∧ ∃ b off c, v = .slice (some ⟨b, off, none⟩) ys.length c) := by
  rcases h with ⟨⟨a, rfl⟩, rfl⟩ | ⟨b, off, cap, arr, T, fz, rfl, h2, h3, h4, h5, h6⟩
  · exact ⟨[], qA.nil, .inl ⟨⟨a, rfl⟩, rfl⟩⟩
  · have key : ∀ (zs : List α) (k : Nat), (∀ j e, zs[j]? = some e → ∃ cs, aG.E H cs e ∧ ∀ i c, cs[i]? = some c → arr[off + (k + j) * aG.sz α + i]? = some c) →
        ∃ cs, qA H cs zs ∧ ∀ i c, cs[i]? = some c → arr[off + k * aG.sz α + i]? = some c := by
      intro zs
      induction zs with
      | nil => intro k _; exact ⟨[], qA.nil, by simp⟩
      | cons z zs ih =>
        intro k hz;obtain ⟨c, I, O⟩ := hz 0 z rfl;obtain ⟨r, hr, Z⟩ := ih (k + 1) (fun j e he => by
          obtain ⟨cs, q1, q2⟩ := hz (j + 1) e (by simpa using he)
          exact ⟨cs, q1, fun i c I => by rw [show k + 1 + j = k + (j + 1) from by omega]; exact q2 i c I⟩)
        refine ⟨c ++ r, qA.cons I hr, fun i d J => ?_⟩;rw [SE] at J
        split at J
        · simpa using O i d J
        · rename_i hn
          have := Z _ d J;rw [aG.len I] at this hn;rw [show off + k * aG.sz α + i = off + (k + 1) * aG.sz α + (i - aG.sz α) from by rw [QO]; omega]
          exact this
    obtain ⟨cs, Y, hh⟩ := key ys 0 (fun j e he => by simpa using h6 j e he)
    refine ⟨cs, Y, .inr ⟨fun i c I => ⟨arr, T, fz, ?_, ?_, ?_⟩, b, off, cap, rfl⟩⟩
    · simp only [Value.base, Rz]; exact h4
    · simp only [Value.base, Rz]
    · simp only [Value.base, Rz]; simpa using hh i c I
end
structure NX (P:Program) (T:TypeId) (sz bytes:Nat) (z:Qn):Prop where
 ex:∃ i,P.info? T=some i/\i.size=sz/\i.bytes=bytes/\i.zero=some z
theorem St.wc {α:Type}[aG α] {B:Nat}{w0 w:World}{H:Hp}{M:List bQ}{v:Qn}{T:TypeId}{n:Nat}{xs:List Qn}{ys:List α}
  (h:St B w0 H (.row v T (aG.sz α) n xs::M) w) (hx:qA H xs ys) (hs:0<aG.sz α):∃ H',H.le H'/\St B w0 H' M w/\aQ H' v ys:=by
 have hok:=h.ok _ (Qu ..);obtain ⟨hl,hh⟩:=hok;have hn:n=ys.length:=by
  have:=hx.len;rw [hl] at this;exact R_ hs this
 subst hn;rcases hh with ⟨rfl,h0⟩ | ⟨g,off,cap,O,rfl,hg,hnc,Z,hcs,J⟩
 ·refine ⟨H,Rk _,h.tail,.inl ⟨⟨_,rfl⟩,QZ h0⟩⟩
 ·have h':St B w0 H (.obj g (.cells O T (0,0))::M) w:=by
   refine ⟨h.below,h.le,h.um,?_,?_,h.nd⟩
   ·intro r I
    rcases Ra.1 I with rfl | I
    ·exact hg
    ·exact h.tail.ok r I
   ·intro r I
    rcases Ra.1 I with rfl | I
    ·exact h.lo (.row _ T (aG.sz α) ys.length xs) (Qu ..)
    ·exact h.tail.lo r I
  obtain ⟨Y,hst⟩:=h'.freeze;refine ⟨_,Y,hst,.inr ⟨g,off,cap,O,T,(0,0),rfl,hnc,Z,Hp.xy _ _ _,hcs,?_⟩⟩;intro k e he;obtain ⟨c,h1,h2⟩:=(hx.mono Y).get k e he;refine ⟨c,h1,λj d hd=>?_⟩;have:=h2 j d hd;rw [<- J,Rf] at this
  split at this
  ·rw [Q_] at this; simpa [SN] using this
  ·cases this
theorem w4:∀ (vs l:List Qn) (k:Nat),k+vs.length<=l.length->over l k vs=l.take k++vs++l.drop (k+vs.length)
 | [],l,k,_=>by simp [over]
 | v::vs,l,k,h=>by
  simp only [QA] at h;rw [over,w4 vs _ _ (by simp; omega)]
  have I:k<l.length:=by omega
  rw [QS (by simpa using I)]
  simp only [List.getElem_set_self,QA];rw [Ti (by omega),SY (by omega)]
  simp only [QV,SL,R7];rw [show k+1+vs.length=k+(vs.length+1) from by omega]
theorem DS {P:Program}{w:World}{t ty e:TypeId}{i:TypeInfo}{z:Qn}{size bytes:Nat} (ht:P.underlying t=some (.slice e)) (hi:P.info? e=some i) (hz:i.zero=some z)
  (hsize:i.size=size) (hby:i.bytes=bytes) (hzs:z.cells.size=size) (hsz:0<size)
  {v:Qn}{n:Nat}{xs:List Qn} (J:jK w e size v n xs)
  {a:Addr}{m c:Nat}{news:List Qn} (hl:news.length=m*size) (O:∀ j u,news[j]? = some u->w.cell? (a.add j)=some u) (h1:∀ u ∈ news,u.oneCell'=true)
  (h63:n+m<=maxLen) (Z:(n+m)*bytes<=140737488355328):
  ∃ v' w',(Builtin.append_ #[t,t] ty #[v,.slice (some a) m c]).run P w=.ok v' w'/\jK w' e size v' (n+m) (xs++news)/\w.grownBy w' v.ownBlock /\
   (∀ b,v'.ownBlock=some b->v.ownBlock=some b\/w.heap.size<=b):=by
 subst hsize;subst hby;have hsmall:n+m<=9223372036854775807:=by simp only [maxLen] at h63; omega
 have hlen:(xs++news).length=(n+m)*i.size:=by rw [QJ,J.1,hl,QO]
 have grown:∀ (vh:Nat) (row:Option Nat),
   jK (w.drew.alloc (.cells (xs.toArray++news.toArray++Builtin.zeroCells z.cells (grownCap w (n+m) vh e-(n+m))) e)) e i.size
    (.slice (some ⟨w.heap.size,0,none⟩) (n+m) (grownCap w (n+m) vh e)) (n+m) (xs++news) /\
   w.grownBy (w.drew.alloc (.cells (xs.toArray++news.toArray++Builtin.zeroCells z.cells (grownCap w (n+m) vh e-(n+m))) e)) row:=by
  intro vh row;have hge:=Va w (n+m) vh e;have hcm:grownCap w (n+m) vh e<=maxLen:=Ux w (n+m) vh e h63;refine ⟨⟨hlen,.inr ⟨w.heap.size,0,_,_,rfl,UC w.drew _,hge,hcm,?_,?_⟩⟩,⟨rfl,rfl,rfl,by simp,λk hk _=>heap_alloc_old w.drew _ (h:=hk)⟩⟩
  ·simp only [Array.size_append,SU,size_zeroCells,hzs,J.1,hl,<- QO,QP]
   rw [show n+m+(grownCap w (n+m) vh e-(n+m))=grownCap w (n+m) vh e from by omega]
   exact QM _
  ·simp only [RN,U4,QV]
   rw [<- QV,<- hlen];exact TF
 rcases J.2 with ⟨rfl,rfl⟩ | ⟨g,off,cap,cur,rfl,hg,hnc,hcm,hcs,htake⟩
 ·have hx:xs=[]:=QZ (by simpa using J.1)
  subst hx
  by_cases hm:m=0
  ·subst hm
   have hn:news=[]:=QZ (by simpa using hl)
   subst hn;refine ⟨.slice none 0 0,w,?_,jK.nil w e i.size,⟨rfl,rfl,rfl,QM _,λ_ _ _=>rfl⟩,by simp [Value.ownBlock]⟩
   simp [Builtin.append_,RY ht,sizeOf,typeInfo,hi,Builtin.lenOf,Builtin.firstCells,loadCells,loadCellsFrom]
  ·have hr:=run_append_nil (P:=P) w t ty e i z ht hi hz a m c news hl O (by omega) (by omega) (by have hb:=Z; simp only [QP] at hb; omega)
   have I:=grown 0 (Value.ownBlock (.slice none 0 0));simp only [QP,R7,Array.empty_append] at I ⊢;exact ⟨_,_,hr,I.1,I.2,λb hb=>.inr (by simp only [Value.ownBlock,QL] at hb; omega)⟩
 ·by_cases Y:n+m<=cap
  ·have hfit:off+n*i.size+news.length<=cur.size:=by
    have:(n+m)*i.size<=cap*i.size:=QI _ Y;rw [QO] at this;omega
   have hf:=U9 (P:=P) w i.size m a m c news hl O;obtain ⟨w',hst,hh,I⟩:=lj (P:=P) g (off+n*i.size) e news 0 cur.toList w (by simpa using hg) (by simpa using hfit) h1
   refine ⟨.slice (some ⟨g,off,none⟩) (n+m) cap,w',?_,⟨hlen,.inr ⟨g,off,cap,_,rfl,hh,Y,hcm,?_,?_⟩⟩,I,λb hb=>.inl hb⟩
   ·simp [Builtin.append_,RY ht,sizeOf,typeInfo,hi,Builtin.lenOf,Y,hf,Rz,hst]
   ·simpa [pV] using hcs
   ·rw [S0,RZ,w4 _ _ _ (by simpa using hfit)]
    have hd:(cur.toList.take (off+n*i.size)).drop off=xs:=by rw [SP,SD]; exact htake
    rw [QV,Tg (by simp; omega),hd,<- QV,<- hlen]
    exact TF
  ·have holds:∀ j u,xs[j]? = some u->w.cell? ((⟨g,off,none⟩:Addr).add j)=some u:=by
    intro j u hu;rw [Rz];refine UR hg rfl ?_;rw [<- htake,Rf] at hu
    split at hu
    ·rw [Q_] at hu; simpa using hu
    ·cases hu
   have hr:=run_append_grow (P:=P) w t ty e i z ht hi hz ⟨g,off,none⟩ n cap xs J.1 holds a m c news hl O (by omega) (by omega) (U_ (by omega) Z)
   have I:=grown cap (Value.ownBlock (.slice (some ⟨g,off,none⟩) n cap));exact ⟨_,_,hr,I.1,I.2,λb hb=>.inr (by simp only [Value.ownBlock,QL] at hb; omega)⟩
section
variable {x:Cx}{ops:Array Oper}{Q:l8}{rest:List Oper}{H:Hp}{M M':List bQ}{L L':Env}
variable {d:Nat}{ty:TypeId}{pos:String}{aft:Array Edge}{g:Option (Nat×Bool)}
theorem bZ {α:Type}[aG α] {v:Qn}{T:TypeId}{n:Nat}{xs:List Qn}{ys:List α} (Z:qA H xs ys) (hs:Nat.blt 0 (aG.sz α)=true)
  (k:∀ H',H.le H'->aQ H' v ys->W x ops Q rest H' M L):W x ops Q rest H (.row v T (aG.sz α) n xs::M) L:=by
 intro a w I ht;obtain ⟨H',J,O,Y⟩:=ht.wc Z (by simpa [RA] using hs)
 exact k H' J Y a w I O
theorem rN {α:Type}[aG α] {e:Exit}{v:Qn}{T:TypeId}{n:Nat}{xs:List Qn}{ys:List α} (Z:qA H xs ys) (hs:Nat.blt 0 (aG.sz α)=true)
  (k:∀ H',H.le H'->aQ H' v ys->E x e Q H' M L):E x e Q H (.row v T (aG.sz α) n xs::M) L:=by
 intro a w I ht;obtain ⟨H',J,O,Y⟩:=ht.wc Z (by simpa [RA] using hs)
 exact k H' J Y a w I O
theorem En {α:Type}[aG α] {c:Code}{v:Qn}{T:TypeId}{n:Nat}{xs:List Qn}{ys:List α} (Z:qA H xs ys) (hs:Nat.blt 0 (aG.sz α)=true)
  (k:∀ H',H.le H'->aQ H' v ys->C x c Q H' M L):C x c Q H (.row v T (aG.sz α) n xs::M) L:=by
 intro a w I ht;obtain ⟨H',J,O,Y⟩:=ht.wc Z (by simpa [RA] using hs)
 exact k H' J Y a w I O
theorem y_ (T:TypeId) (sz:Nat) (k:W x ops Q rest H (.row (.slice none 0 0) T sz 0 []::M) L):W x ops Q rest H M L:=
 λa w I ht=>k a w I (ht.BQ T sz)
theorem cD {e:Exit} (T:TypeId) (sz:Nat) (k:E x e Q H (.row (.slice none 0 0) T sz 0 []::M) L):E x e Q H M L:=
 λa w I ht=>k a w I (ht.BQ T sz)
theorem kT {c:Code} (T:TypeId) (sz:Nat) (k:C x c Q H (.row (.slice none 0 0) T sz 0 []::M) L):C x c Q H M L:=
 λa w I ht=>k a w I (ht.BQ T sz)
theorem Jb {α:Type}[aG α] {t e:TypeId}{bytes n:Nat}{z:Qn}{y u:Operand}{v vu:Qn}{xs:List Qn}{l ys:List α}
  (hg:gd ops L ⟨some d,.call ⟨.builtin .append,#[y,u],#[t,t]⟩,ty,pos,aft,g⟩=some true) (hN:Nat.blt d x.N=true)
  (hT:x.P.underlying t=some (.slice e)) (hi:NX x.P e (aG.sz α) bytes z) (hz:z.cells.size=aG.sz α) (hs:Nat.blt 0 (aG.sz α)=true) (hb0:Nat.blt 0 bytes=true)
  (hy:ev L y=some v) (Z:ev L u=some vu) (hx:qA H xs l) (hR:aQ H vu ys) (hb:(l.length+ys.length)*bytes<=140737488355328)
  (k:∀ v' n' xs',qA H xs' (l++ys)->W x ops Q rest H (.row v' e (aG.sz α) n' xs'::M) ((d,v')::L)):
  W x ops Q (⟨some d,.call ⟨.builtin .append,#[y,u],#[t,t]⟩,ty,pos,aft,g⟩::rest) H (.row v e (aG.sz α) n xs::M) L:=by
 obtain ⟨i,h1,h2,h3,h4⟩:=hi.ex;have hs':0<aG.sz α:=by simpa [RA] using hs
 have hb0':0<bytes:=by simpa [RA] using hb0
 have hmax:l.length+ys.length<=maxLen:=by
  have:l.length+ys.length<=(l.length+ys.length)*bytes:=Th _ hb0';unfold maxLen; omega
 refine s7 rfl hg hN λa w I ht=>?_;have J:jK w e (aG.sz α) v n xs:=ht.ok _ (Qu ..);have hn:n=l.length:=by
  have:=hx.len;rw [J.1] at this;exact R_ hs' this
 subst hn;obtain ⟨cs,O,Y⟩:=hR.flat;rcases Y with ⟨⟨ea,rfl⟩,rfl⟩ | ⟨hc,b,off,c,rfl⟩
 ·have hcs':cs=[]:=O
  subst hcs';refine ⟨v,w,?_,H,_,ht,k v _ xs (by simpa using hx)⟩
  rcases J.2 with ⟨rfl,h0⟩ | ⟨g,off,cap,cur,rfl,hg2,hnc,_⟩ <;> cases ea
  ·simp [execOp,resolve,invoke,builtin,I.ev hy,I.ev Z,Builtin.append_,RY hT,sizeOf,typeInfo,h1,Builtin.lenOf,Builtin.firstCells]
  ·simp [execOp,resolve,invoke,builtin,I.ev hy,I.ev Z,Builtin.append_,RY hT,sizeOf,typeInfo,h1,Builtin.lenOf,Builtin.firstCells,loadCells,loadCellsFrom]
  ·simp [execOp,resolve,invoke,builtin,I.ev hy,I.ev Z,Builtin.append_,RY hT,sizeOf,typeInfo,h1,Builtin.lenOf,Builtin.firstCells,storeCells,hnc]
  ·simp [execOp,resolve,invoke,builtin,I.ev hy,I.ev Z,Builtin.append_,RY hT,sizeOf,typeInfo,h1,Builtin.lenOf,Builtin.firstCells,storeCells,hnc,loadCells,loadCellsFrom]
 ·obtain ⟨v',w',hr,ho,hgr,hfr⟩:=DS (P:=x.P) (ty:=ty) hT h1 h4 h2 h3 hz hs' J (a:=⟨b,off,none⟩) (m:=ys.length) (c:=c) (news:=cs) O.len
   (λj u Z=>((hc j u Z).at (x:=x) (M:=.row v e (aG.sz α) l.length xs::M)) w ht) O.one hmax hb
  refine ⟨v',w',?_,H,_,ht.Em (r':=.row v' e (aG.sz α) (l.length+ys.length) (xs++cs)) hgr ho hfr,k v' _ _ (hx.app O)⟩;simp [execOp,resolve,invoke,builtin,I.ev hy,I.ev Z,hr]
end
def zF:List Qn->List (List Qn)->Prop
 | [],[]=>True
 | v::vs,c::cs=>v.cells=c.toArray/\zF vs cs
 | _,_=>False
def laid (places:List (Nat×Nat)):List Qn->List (Nat×List Qn)->Option (List Qn)
 | z,[]=>some z
 | z,(i,c)::r=>match places[i]? with
  | none=>none
  | some (off,size)=>if Nat.beq c.length size && Nat.ble (off+c.length) z.length then laid places (over z off c) r else none
theorem Bw:∀ (c:List Qn) (z:List Qn) (off k:Nat),(c.zipIdx k).foldl (λcs (p:Qn×Nat)=>cs.setIfInBounds (off+p.2) p.1) z.toArray=(over z (off+k) c).toArray
 | [],z,off,k=>rfl
 | v::c,z,off,k=>by
  rw [List.zipIdx_cons,List.foldl_cons];simp only [List.setIfInBounds_toArray];rw [Bw c _ off (k+1),over]
  rfl
theorem wb {place:Nat->Option (Nat×Nat)}{places:List (Nat×Nat)} (Y:∀ i o,places[i]? = some o->place i=some o):
  ∀ (J:List Nat) (vs:List Qn) (css:List (List Qn)) (z out:List Qn),zF vs css->J.length=vs.length->laid places z (J.zip css)=some out ->
   Instr.fill place z.toArray (J.zip vs)=some out.toArray
 | [],[],_,z,out,_,_,h=>by simp [laid] at h; simp [Instr.fill,h]
 | [],_::_,_,_,_,_,hl,_=>by simp at hl
 | _::_,[],_,_,_,_,hl,_=>by simp at hl
 | i::J,v::vs,[],_,_,hc,_,_=>hc.elim
 | i::J,v::vs,c::css,z,out,⟨hv,hc⟩,hl,h=>by
  simp only [List.zip_cons_cons,laid] at h;cases I:places[i]? with
  | none=>simp [I] at h
  | some o=>
   obtain ⟨off,size⟩:=o;simp only [I] at h
   split at h
   ·rename_i hb
    simp only [Sg,S8] at hb;have O:c.length=size:=SK hb.1;simp only [List.zip_cons_cons,Instr.fill,Y i _ I,hv];have Z:((c.toArray.size≠size || off+c.toArray.size > z.toArray.size:Bool))=false:=by
     simp [O]; rw [<- O]; exact hb.2
    rw [Qw (by simp only [Z]; simp)]
    have h2:=Bw c z off 0;have h3:c.toArray.zipIdx.foldl (λcs (p:Qn×Nat)=>cs.setIfInBounds (off+p.2) p.1) z.toArray=(over z off c).toArray:=by
     rw [<- Array.foldl_toList];simpa using h2
    have ih:=wb Y J vs css (over z off c) out hc (by simpa using hl) h
    rw [<- ih];exact Q9 (λq=>Instr.fill place q (J.zip vs)) h3
   ·cases h
theorem mc {k m:Nat}{e:Int} (O:k+m=e.toNat) (J:decide ((k:Int)<e)=true):∃ I,m=I+1/\k+1+I=e.toNat/\k<e.toNat:=by
 have:=Qv J;exact ⟨m-1,by omega,by omega,by omega⟩
theorem mb {k m:Nat}{e:Int} (J:k+m=e.toNat) (I:decide ((k:Int)<e)=false):m=0:=by
 have:=QE I;omega
theorem e_ {e:Int} (h:e<=9223372036854775807):e.toNat<=maxLen:=by unfold maxLen; omega
theorem lH {α:Type}{xs:List α} (h:xs.length<=maxLen):(xs.length:Int)<=9223372036854775807:=by unfold maxLen at h; omega
section
variable {x:Cx}{ops:Array Oper}{Q:l8}{rest:List Oper}{H:Hp}{M M':List bQ}{L L':Env}
variable {d:Nat}{ty:TypeId}{pos:String}{aft:Array Edge}{g:Option (Nat×Bool)}
theorem AJ {N:Nat}{a:Act} (hs:Sl N L a) {I:List (Nat×Operand)}{vs:List Qn} (J:yL L (I.map (·.2))=some vs):
  (I.toArray.map λ(p:Nat×Operand)=>(p.1,a.eval p.2))=((I.map (·.1)).zip vs).toArray:=by
 have h:=hs.yL J;subst h;clear J;simp only [List.map_map,List.map_toArray]
 congr 1
 induction I with
 | nil=>rfl
 | cons p I ih=>simp only [Te,List.zip_cons_cons,Function.comp,ih]
theorem eB {T:TypeId}{I:List (Nat×Operand)}{vs:List Qn}{css:List (List Qn)}{z:Qn}{zs out:List Qn}{fs:Array Field}{places:List (Nat×Nat)}
  (hg:gd ops L ⟨some d,.build T I.toArray,ty,pos,aft,g⟩=some true) (hN:Nat.blt d x.N=true)
  (Y:yL L (I.map (·.2))=some vs) (hc:zF vs css)
  (hz:∀ w,(zeroValue T).run x.P w=.ok z w) (O:z.cells=zs.toArray) (Z:∀ w,(underlying T).run x.P w=.ok (.struct fs) w)
  (hp:∀ w,(fs.mapM λf=>do pure (f.offset,<- sizeOf f.type):Sem (Array (Nat×Nat))).run x.P w=.ok places.toArray w)
  (ho:laid places zs ((I.map (·.1)).zip css)=some out)
  (k:W x ops Q rest H M ((d,.agg out.toArray)::L)):
  W x ops Q (⟨some d,.build T I.toArray,ty,pos,aft,g⟩::rest) H M L:=
 fK rfl hg hN (λa w hs ht=>by
  have hl:(I.map (·.1)).length=vs.length:=by rw [<- hs.yL Y]; simp
  have hf:=wb (place:=λi:Nat=>places[i]?) (places:=places) (λ_ _ h=>h) (I.map (·.1)) vs css zs out hc hl ho;have J:=AJ hs Y;simp only [execOp,Instr.build,QD,hz,Qz,Z,O];rw [hp];simp only [Qz];have e:(λi:Nat=>places.toArray[i]?)=λi:Nat=>places[i]? := by funext i; simp
  simp only [J,e,hf,QK,Qz]) k
theorem dH {α:Type}[aG α] {T e:TypeId}{n:Nat}{J:List (Nat×Operand)}{vs:List Qn}{css:List (List Qn)}{z:Qn}{zs out:List Qn}{places:List (Nat×Nat)}{ys:List α}
  (hg:gd ops L ⟨some d,.buildSlice T n J.toArray,ty,pos,aft,g⟩=some true) (hN:Nat.blt d x.N=true)
  (hv:yL L (J.map (·.2))=some vs) (hc:zF vs css)
  (hT:∀ w,(underlying T).run x.P w=.ok (.slice e) w) (hs:∀ w,(sizeOf e).run x.P w=.ok (aG.sz α) w) (hs0:Nat.blt 0 (aG.sz α)=true)
  (hz:∀ w,(zeroValue e).run x.P w=.ok z w) (hzs:(Array.range (n*aG.sz α)).map (z.cells[·%z.cells.size]!)=zs.toArray)
  (hpl:places=(List.range n).map λi=>(i*aG.sz α,aG.sz α)) (hn:Nat.ble (n*aG.sz α) 16777216=true) (hnn:Nat.blt 0 n=true)
  (ho:laid places zs ((J.map (·.1)).zip css)=some out) (hr:qA H out ys) (Z:ys.length=n)
  (k:∀ b v H',v=.slice (some ⟨b,0,none⟩) n n->H.le H'->aQ H' v ys->W x ops Q rest H' M ((d,v)::L)):
  W x ops Q (⟨some d,.buildSlice T n J.toArray,ty,pos,aft,g⟩::rest) H M L:=by
 refine s7 rfl hg hN λa w Y ht=>?_;have hl:(J.map (·.1)).length=vs.length:=by rw [<- Y.yL hv]; simp
 have I:0<aG.sz α:=by simpa [RA] using hs0
 have hn':n*aG.sz α<=16777216:=by simpa [S8] using hn
 have O:0<n:=by simpa [RA] using hnn
 have hpos:0<n*aG.sz α:=Nat.mul_pos O I;have hf:=wb (place:=λi=>some (i*aG.sz α,aG.sz α)) (places:=places) (λi o h=>by
  rw [hpl,QW] at h;cases hh:(List.range n)[i]? with
  | none=>rw [hh] at h; cases h
  | some j=>
   rw [hh] at h;have:j=i:=by
    have:=Qt.1 hh;simpa using this.2.symm
   subst this;simpa using h) (J.map (·.1)) vs css zs out hc hl ho
 have hps:=AJ Y hv;have hsz:out.length=n*aG.sz α:=by rw [hr.len,Z]
 refine ⟨.slice (some ⟨w.heap.size,0,none⟩) n n,w.alloc (.cells out.toArray e),?_,H.add w.heap.size (.cells out.toArray e),M,(ht.alloc _).freeze.2,?_⟩
 ·have h1:¬ (2 ^ 24<n*aG.sz α):=by omega
  have h2:¬ (n*aG.sz α=0):=by omega
  simp only [execOp,Instr.buildSlice,QD,hT,Qz,hs,gt_iff_lt,h1,h2,Sc,hz,QK];simp only [hps];have hf':Instr.fill (λi=>some (i*aG.sz α,aG.sz α)) ((Array.range (n*aG.sz α)).map (z.cells[·%z.cells.size]!)) ((List.map (λx=>x.fst) J).zip vs)=some out.toArray:=by
   rw [hzs]; exact hf
  simp only [hf',newRow,newObj,QD,QK,Sem.run,Qz,World.alloc]
 ·refine k w.heap.size _ _ rfl (ht.alloc _).freeze.1 (.inr ⟨w.heap.size,0,n,out.toArray,e,(0,0),by rw [Z],by omega,?_,Hp.xy _ _ _,by simp [hsz],?_⟩)
  ·unfold maxLen
   have:n<=n*aG.sz α:=Th _ I;omega
  ·intro j el hel
   obtain ⟨c,q1,q2⟩:=(hr.mono (ht.alloc (.cells out.toArray e)).freeze.1).get j el hel;exact ⟨c,q1,λi u hu=>by simpa using q2 i u hu⟩
end
structure Rw {α:Type}[aG α] (H:Hp) (v:Qn) (xs:List Qn) (l:List α):Prop where
 rd:qA H xs l
 sl:∃ a n c,v=.slice a n c
section
variable {α:Type}[aG α] {H H':Hp}{v:Qn}{xs:List Qn}{l:List α}
theorem Rw.mono (I:H.le H') (h:Rw H v xs l):Rw H' v xs l:=⟨h.rd.mono I,h.sl⟩
theorem Rw.one (h:Rw H v xs l):v.oneCell'=true:=by obtain ⟨a,n,c,rfl⟩:=h.sl; rfl
theorem Rw.cells (h:Rw H v xs l):v.cells=[v].toArray:=by obtain ⟨a,n,c,rfl⟩:=h.sl; rfl
theorem Rw.nil:Rw H (.slice none 0 0) [] ([]:List α):=⟨rfl,_,_,_,rfl⟩
theorem Rw.elem (h:Rw H v xs l) {k:Nat}{e:α} (he:l[k]? = some e):∃ c,aG.E H c e/\∀ j u,c[j]? = some u->xs[k*aG.sz α+j]? = some u:=h.rd.get k e he
theorem zu (vs:List Qn):∀ (l:List Qn) (k j:Nat),k+vs.length<=l.length->(over l k vs)[j]? = if k<=j/\j<k+vs.length then vs[j-k]? else l[j]? := by
 intro l k j h;rw [w4 vs l k h,QV,SE];simp only [QR,Rv (show k<=l.length by omega)]
 by_cases I:j<k
 ·rw [Qx I,Qw (by omega),Rf,Qx I]
 ·rw [Qw I,SE]
  by_cases J:j-k<vs.length
  ·rw [Qx J,Qx (by omega)]
  ·rw [Qw J,Qw (by omega),Q_]
   congr 1; omega
theorem Rw.put {c cs out:List Qn}{k o:Nat}{e e2:α} (h:Rw H v xs l) (he:l[k]? = some e) (hc:aG.E H c e) (hg:∀ j u,c[j]? = some u->xs[k*aG.sz α+j]? = some u)
  (hb:Nat.ble (o+cs.length) c.length=true) (ho:over c o cs=out) (hE:aG.E H out e2):
  Rw H v (over xs (k*aG.sz α+o) cs) (l.set k e2)/\(l.set k e2)[k]? = some e2/\∀ j u,out[j]? = some u->(over xs (k*aG.sz α+o) cs)[k*aG.sz α+j]? = some u:=by
 have hk:k<l.length:=(Qt.1 he).1;have hlen:=h.rd.len;have I:=aG.len hc;have Y:o+cs.length<=c.length:=by simpa [S8] using hb
 have hkk:(k+1)*aG.sz α<=l.length*aG.sz α:=QI _ hk;rw [QO,Ul] at hkk;have um:k*aG.sz α+o+cs.length<=xs.length:=by omega
 have key:over xs (k*aG.sz α+o) cs=xs.take (k*aG.sz α)++out++xs.drop ((k+1)*aG.sz α):=by
  apply Sa;intro j;rw [zu _ _ _ _ um,QV,SE];simp only [QR,Rv (show k*aG.sz α<=xs.length by omega)]
  have J:out.length=aG.sz α:=by rw [<- ho,pV,I]
  by_cases O:j<k*aG.sz α
  ·rw [Qx O,Qw (by omega),Rf,Qx O]
  ·rw [Qw O,SE,J]
   by_cases h2:j-k*aG.sz α<aG.sz α
   ·rw [Qx h2,<- ho,zu _ _ _ _ Y]
    by_cases h3:k*aG.sz α+o<=j/\j<k*aG.sz α+o+cs.length
    ·rw [Qx h3,Qx (by omega)]; congr 1; omega
    ·rw [Qw h3,Qw (by omega)]
     have Z:j-k*aG.sz α<c.length:=by omega
     have:=hg (j-k*aG.sz α) _ (Qp Z);rw [Qp Z,<- this]; congr 1; omega
   ·rw [Qw h2,Qw (by omega),Q_]
    congr 1; rw [QO]; omega
 refine ⟨⟨?_,h.sl⟩,by simp [hk],λj u hu=>?_⟩
 ·rw [key]; exact h.rd.put hk hE
 ·have Z:j<out.length:=(Qt.1 hu).1
  have J:out.length=aG.sz α:=by rw [<- ho,pV,I]
  rw [key,QV,Q2 (by simp; omega),RF (by simp; omega)]
  simp only [QR,Rv (show k*aG.sz α<=xs.length by omega)]
  rw [show k*aG.sz α+j-k*aG.sz α=j by omega]; exact hu
end
section
variable {x:Cx}{ops:Array Oper}{Q:l8}{rest:List Oper}{H:Hp}{M M':List bQ}{L L':Env}
variable {d:Nat}{ty:TypeId}{pos:String}{aft:Array Edge}{g:Option (Nat×Bool)}
theorem B3 {v:Qn}{T:TypeId}{sz n i:Nat}{xs:List Qn}{c:Qn} (hm:bQ.row v T sz n xs ∈ M) (I:xs[i]? = some c):yz x H M ((Value.base v).add i) c:=by
 intro w ht;have O:jK w T sz v n xs:=ht.ok _ hm;have hi:=(Qt.1 I).1;rcases O.2 with ⟨rfl,h0⟩ | ⟨Y,off,cap,Z,rfl,hg,hnc,hcm,hcs,J⟩
 ·exfalso
  have:=O.1;subst h0;simp at this; subst this
  simp at I
 ·rw [show Value.base (Value.slice (some ⟨Y,off,none⟩) n cap)=⟨Y,off,none⟩ from rfl,Rz]
  refine UR hg rfl ?_;rw [<- J,Rf] at I
  split at I
  ·rw [Q_] at I; simpa using I
  ·cases I
theorem add_add (a:Addr) (i j:Nat):(a.add i).add j=a.add (i+j):=by
 unfold Addr.add
 by_cases I:i=0 <;> by_cases J:j=0 <;> simp [I,J,SN]
theorem x9 {v:Qn}{T:TypeId}{sz n i:Nat}{xs cs:List Qn} (hm:bQ.row v T sz n xs ∈ M) (I:∀ j u,cs[j]? = some u->xs[i+j]? = some u):y0 x H M ((Value.base v).add i) cs:=by
 intro j c J;rw [add_add];exact B3 hm (I j c J)
theorem row_one {v:Qn}{T:TypeId}{sz n i o:Nat}{xs cs:List Qn}{c:Qn} (hm:bQ.row v T sz n xs ∈ M) (I:∀ j u,cs[j]? = some u->xs[i+j]? = some u) (J:cs[o]? = some c):
  yz x H M (((Value.base v).add i).add o) c:=by
 rw [add_add]; exact B3 hm (I o c J)
theorem B4 {v:Qn}{T:TypeId}{sz n i:Nat}{xs cs:List Qn}{c:Qn} (hm:bQ.row v T sz n xs ∈ M) (I:∀ j u,cs[j]? = some u->xs[i+j]? = some u) (J:cs[0]? = some c):
  yz x H M ((Value.base v).add i) c:=B3 hm (I 0 c J)
theorem A4 {v:Qn}{T:TypeId}{sz n:Nat}{xs:List Qn}{t e:TypeId}{y:Operand} (hm:bQ.row v T sz n xs ∈ M) (Y:gd ops L ⟨some d,.call ⟨.builtin .len,#[y],#[t]⟩,ty,pos,aft,g⟩=some true) (hN:Nat.blt d x.N=true)
  (O:∀ w,(underlying t).run x.P w=.ok (.slice e) w) (Z:ev L y=some v) (k:W x ops Q rest H M ((d,.int .i64 n)::L)):
  W x ops Q (⟨some d,.call ⟨.builtin .len,#[y],#[t]⟩,ty,pos,aft,g⟩::rest) H M L:=
 fK rfl Y hN (λc w hs ht=>by
  have I:jK w T sz v n xs:=ht.ok _ hm;rcases I.2 with ⟨rfl,rfl⟩ | ⟨gb,off,cap,J,rfl,_⟩ <;>
   simp [execOp,resolve,invoke,builtin,hs.ev Z,Builtin.len_,O,goInt]) k
theorem y9 {v:Qn}{T:TypeId}{sz n:Nat}{xs:List Qn}{t e:TypeId}{y z:Operand}{kk:IntKind}{i:Int} (hm:bQ.row v T sz n xs ∈ M)
  (hg:gd ops L ⟨some d,.indexAddr t y z,ty,pos,aft,g⟩=some true) (hN:Nat.blt d x.N=true)
  (hT:∀ w,(underlying t).run x.P w=.ok (.slice e) w) (hs:∀ w,(sizeOf e).run x.P w=.ok sz w)
  (hy:ev L y=some v) (hz:ev L z=some (.int kk i)) (Z:0<=i) (h1:i.toNat<n)
  (k:W x ops Q rest H M ((d,.pointer (some ((Value.base v).add (i.toNat*sz))))::L)):
  W x ops Q (⟨some d,.indexAddr t y z,ty,pos,aft,g⟩::rest) H M L:=
 fK rfl hg hN (λc w I ht=>by
  have J:i<(n:Int):=by omega
  have O:jK w T sz v n xs:=ht.ok _ hm;rcases O.2 with ⟨rfl,rfl⟩ | ⟨gb,off,cap,Y,rfl,_⟩
  ·omega
  ·simp [execOp,I.ev hy,I.ev hz,Instr.indexAt,asIntOf,hT,hs,Z,J,Value.base]) k
theorem xw {T E:TypeId}{m sz n i:Nat}{y z:Operand}{v u:Qn}{ad:Addr}{xs cs:List Qn} (hg:gd ops L ⟨none,.store T y z,ty,pos,aft,g⟩=some true)
  (hn:∀ w,(sizeOf T).run x.P w=.ok m w) (hy:ev L y=some (.pointer (some ad))) (had:ad=(Value.base v).add i) (hz:ev L z=some u) (hv:u.cells=cs.toArray) (hl:cs.length=m)
  (hb:i+cs.length<=xs.length) (Y:Nat.blt 0 cs.length=true) (h1:∀ c ∈ cs,c.oneCell'=true)
  (k:W x ops Q rest H (.row v E sz n (over xs i cs)::M) L):
  W x ops Q (⟨none,.store T y z,ty,pos,aft,g⟩::rest) H (.row v E sz n xs::M) L:=
 C_ rfl hg (λa w hs ht=>by
  subst had;have I:jK w E sz v n xs:=ht.ok _ (Qu ..);have hpos':0<cs.length:=by simpa [RA] using Y
  rcases I.2 with ⟨rfl,rfl⟩ | ⟨gb,off,cap,Z,rfl,hgb,O,hcm,hcs,J⟩
  ·have h0:=I.1; rw [R2] at h0; omega
  ·have hmul:n*sz<=cap*sz:=QI _ O
   have hxl:=I.1;obtain ⟨w',hr,hh,hgr⟩:=lj (P:=x.P) gb (off+i) E cs 0 Z.toList w (by simpa using hgb) (by simp; omega) h1
   refine ⟨w',?_,H,_,ht.Em (r':=.row (.slice (some ⟨gb,off,none⟩) n cap) E sz n (over xs i cs)) hgr ?_ (λc hc=>.inl hc),k⟩
   ·simp [execOp,hs.ev hy,hs.ev hz,Instr.storeAt,Instr.sureAddr,storeVar,hn,hl,hv,Value.base,Rz,hr]
   ·refine ⟨by rw [pV]; exact hxl,.inr ⟨gb,off,cap,_,rfl,hh,O,hcm,by simpa [pV] using hcs,?_⟩⟩
    rw [S0,RZ];apply Sa;intro j;rw [Rf,Q_,zu _ _ _ _ (by simp; omega),zu _ _ _ _ hb,<- J,Rf,Q_]
    by_cases hj:j<n*sz
    ·simp only [Qx hj]
     by_cases h3:i<=j/\j<i+cs.length
     ·rw [Qx h3,Qx (by omega)]; congr 1; omega
     ·rw [Qw h3,Qw (by omega)]
    ·simp only [Qw hj]
     rw [Qw (by omega)])
end
section
variable {x:Cx}{ops:Array Oper}{Q:l8}{rest:List Oper}{H:Hp}{M M':List bQ}{L L':Env}
variable {d:Nat}{ty:TypeId}{pos:String}{aft:Array Edge}{g:Option (Nat×Bool)}
theorem jK.shape {w:World}{T:TypeId}{sz n:Nat}{v:Qn}{xs:List Qn} (h:jK w T sz v n xs):∃ a n c,v=.slice a n c:=by
 rcases h.2 with ⟨rfl,_⟩ | ⟨J,off,cap,I,rfl,_⟩ <;> exact ⟨_,_,_,rfl⟩
theorem dA {α:Type}[aG α] {t e:TypeId}{bytes n:Nat}{z:Qn}{y u:Operand}{v vu:Qn}{xs:List Qn}{l ys:List α}
  (hg:gd ops L ⟨some d,.call ⟨.builtin .append,#[y,u],#[t,t]⟩,ty,pos,aft,g⟩=some true) (hN:Nat.blt d x.N=true)
  (hT:x.P.underlying t=some (.slice e)) (hi:NX x.P e (aG.sz α) bytes z) (hz:z.cells.size=aG.sz α) (hs:Nat.blt 0 (aG.sz α)=true) (Y:Nat.blt 0 bytes=true)
  (hy:ev L y=some v) (hu:ev L u=some vu) (hx:Rw H v xs l) (hR:aQ H vu ys) (hb:((l.length+ys.length)*bytes:Nat)<=140737488355328)
  (k:∀ v' I,Rw H v' I (l++ys)->W x ops Q rest H (.row v' e (aG.sz α) (l++ys).length I::M) ((d,v')::L)):
  W x ops Q (⟨some d,.call ⟨.builtin .append,#[y,u],#[t,t]⟩,ty,pos,aft,g⟩::rest) H (.row v e (aG.sz α) n xs::M) L:=by
 refine Jb hg hN hT hi hz hs Y hy hu hx.rd hR hb λv' n' I O=>?_;intro a w Z ht;have J:jK w e (aG.sz α) v' n' I:=ht.ok _ (Qu ..);have hn:n'=(l++ys).length:=by
  have h1:=O.len;rw [J.1] at h1;exact R_ (by simpa [RA] using hs) h1
 subst hn;exact k v' I ⟨O,J.shape⟩ a w Z ht
theorem St.newRow {α:Type}[aG α] {B:Nat}{w0 w:World}{cells:List Qn}{e:TypeId}{l:List α} (ht:St B w0 H M w) (J:qA H cells l) (hm:l.length<=maxLen):
  St B w0 H (.row (.slice (some ⟨w.heap.size,0,none⟩) l.length l.length) e (aG.sz α) l.length cells::M) (w.alloc (.cells cells.toArray e)):=by
 have h:=ht.alloc (.cells cells.toArray e);have hl:=J.len;refine ⟨h.below,h.le,h.um,?_,?_,h.nd⟩
 ·intro r I
  rcases Ra.1 I with rfl | I
  ·refine ⟨hl,.inr ⟨w.heap.size,0,l.length,cells.toArray,rfl,h.ok _ (Qu ..),QM _,hm,by simp only [SU]; omega,?_⟩⟩
   rw [<- hl,S0,RN,Sh]
  ·exact h.ok r (Qy _ I)
 ·intro r I
  rcases Ra.1 I with rfl | I
  ·exact h.lo (.obj w.heap.size (.cells cells.toArray e)) (Qu ..)
  ·exact h.lo r (Qy _ I)
theorem fM {α:Type}[aG α] {t e:TypeId}{bytes:Nat}{z:Qn}{zs:List Qn}{ze:α}{y y2:Operand}{n:Int}
  (hg:gd ops L ⟨some d,.makeSlice t y y2,ty,pos,aft,g⟩=some true) (hN:Nat.blt d x.N=true)
  (hT:x.P.underlying t=some (.slice e)) (hi:NX x.P e (aG.sz α) bytes z) (hz:z.cells=zs.toArray) (hs:Nat.blt 0 (aG.sz α)=true) (hb0:Nat.blt 0 bytes=true)
  (hE:aG.E H zs ze) (hy:ev L y=some (.int .i64 n)) (hy2:ev L y2=some (.int .i64 n)) (h0:0<=n) (hb:n*bytes<=140737488355328)
  (k:∀ v' xs',Rw H v' xs' (List.replicate n.toNat ze)->W x ops Q rest H (.row v' e (aG.sz α) (List.replicate n.toNat ze).length xs'::M) ((d,v')::L)):
  W x ops Q (⟨some d,.makeSlice t y y2,ty,pos,aft,g⟩::rest) H M L:=by
 obtain ⟨i,h1,h2,h3,h4⟩:=hi.ex;obtain ⟨m,rfl⟩:∃ m:Nat,n=m:=⟨n.toNat,by omega⟩
 have hs':0<aG.sz α:=by simpa [RA] using hs
 have hb0':0<bytes:=by simpa [RA] using hb0
 have hcast:((m*bytes:Nat):Int)=(m:Int)*(bytes:Int):=Rg m bytes;have hbn:m*bytes<=140737488355328:=by omega
 have hm:m<=m*bytes:=Th _ hb0';have hzl:zs.length=aG.sz α:=aG.len hE;have hmax:m<=maxLen:=by unfold maxLen; omega
 have hw:i64.wrap (m:Int)=m:=xD (by omega) (by omega)
 simp only [Qr] at k;have hrd:∀ q,qA H ((List.range (q*aG.sz α)).map (zs.toArray[·%zs.length]!)) (List.replicate q ze):=by
  intro q
  induction q with
  | zero=>rw [R2]; exact rfl
  | succ q ih=>
   have J:(List.range ((q+1)*aG.sz α)).map (zs.toArray[·%zs.length]!)=zs++(List.range (q*aG.sz α)).map (zs.toArray[·%zs.length]!):=by
    apply Sa;intro j;rw [SE,QW]
    by_cases hj:j<zs.length
    ·rw [Qx hj,Sv (by rw [QO]; omega)]
     simp [Sj hj,hj]
    ·rw [Qw hj,QW]
     by_cases Y:j<(q+1)*aG.sz α
     ·rw [Sv Y,Sv (by rw [QO] at Y; omega)]
      simp only [RV];rw [<- Nat.mod_eq_sub_mod (by omega)]
     ·rw [Rn (by simp; omega),Rn (by rw [QO] at Y; simp; omega)]
   rw [J];exact ⟨zs,_,rfl,hE,ih⟩
 have hlr:(List.replicate m ze).length=m:=RI;refine s7 rfl hg hN λa w I ht=>?_;refine ⟨.slice (some ⟨w.heap.size,0,none⟩) (List.replicate m ze).length (List.replicate m ze).length,_,?_,H,_,St.newRow (e:=e) ht (hrd m) (by rw [hlr]; exact hmax),k _ _ ⟨hrd m,_,_,_,rfl⟩⟩
 have e1:¬ ((i.bytes:Int)*(m:Int) > 2 ^ 48):=by
  rw [h3,Int.mul_comm];omega
 have e3:¬ (m*i.bytes > roomBytes):=by rw [h3]; unfold roomBytes; omega
 have e4:¬ ((m:Int)<0):=by omega
 have O:∀ w,(typeInfo e).run x.P w=.ok i w:=λw=>by simp [typeInfo,h1]
 have hsz:∀ w,(sizeOf e).run x.P w=.ok (aG.sz α) w:=λw=>by simp [sizeOf,O,h2]
 have hzv:∀ w,(zeroValue e).run x.P w=.ok z w:=λw=>by simp [zeroValue,O,h4]
 have hun:∀ w,(underlying t).run x.P w=.ok (.slice e) w:=λw=>RY hT w;have hnr:∀ c w,(newRow e c).run x.P w=.ok ⟨w.heap.size,0,none⟩ (w.alloc (.cells c e)):=λc w=>by
  simp only [newRow,newObj,QD,QK,Sem.run,Qz,World.alloc]
 rw [hlr]
 by_cases Z:m*aG.sz α=0
 ·have:m=0:=by
   rcases Nat.mul_eq_zero.1 Z with h | h <;> omega
  subst this;simp only [execOp,I.ev hy,I.ev hy2,Instr.makeSlice,QD,hun,Qz,asInt,asIntOf,QK,O,hw,e1,e4,UY,Bool.or_self,RC,Sc,Qr,askRoom,hsz,Z,Um,hnr,gt_iff_lt,Int.lt_irrefl,R2,Nat.not_lt_zero];simp [Array.range]
 ·have e6:(Array.range (m*aG.sz α)).map (λj=>zs.toArray[j%zs.toArray.size]!)=((List.range (m*aG.sz α)).map (zs.toArray[·%zs.length]!)).toArray:=by
   apply Array.ext';simp
  simp only [execOp,I.ev hy,I.ev hy2,Instr.makeSlice,QD,hun,Qz,asInt,asIntOf,QK,O,hw,e1,e4,UY,Bool.or_self,RC,Sc,Qr,askRoom,e3,hsz,Z,hzv,hz,e6,hnr,gt_iff_lt,Int.lt_irrefl]
theorem run_sliceBound {P:Program}{w:World}{O:IntKind}{i:Int}{y:Nat}{c:BoundsCode} (I:0<=i) (J:i<=y):(Instr.sliceBound (.int O i) y c).run P w=.ok i.toNat w:=by
 simp [Instr.sliceBound,asIntOf,I,J]
def Bd (o:Option Qn) (I top r:Nat):Prop:=(o=none/\r=I)\/∃ J i,o=some (.int J i)/\0<=i/\i<=top/\i.toNat=r
theorem AB {P:Program}{w:World}{len cap:Nat}{lo hi mx:Option Qn}{l h m:Nat}
  (I:mx=none\/∃ v,hi=some v) (hm:Bd mx cap cap m) (J:Bd hi len m h) (hl:Bd lo 0 h l):
  (Instr.sliceBounds true len cap lo hi mx).run P w=.ok (l,h,m) w:=by
 rcases hm with ⟨rfl,rfl⟩ | ⟨km,im,rfl,m0,m1,rfl⟩
 ·rcases J with ⟨rfl,rfl⟩ | ⟨kh,ih,rfl,O,Y,rfl⟩
  ·rcases hl with ⟨rfl,rfl⟩ | ⟨kl,il,rfl,Z,l1,rfl⟩
   ·simp only [Instr.sliceBounds,QD,QK,Qz]
   ·simp only [Instr.sliceBounds,QD,QK,Qz,run_sliceBound Z l1]
  ·rcases hl with ⟨rfl,rfl⟩ | ⟨kl,il,rfl,Z,l1,rfl⟩
   ·simp only [Instr.sliceBounds,QD,QK,Qz,run_sliceBound O Y]
   ·simp only [Instr.sliceBounds,QD,QK,Qz,run_sliceBound O Y,run_sliceBound Z l1]
 ·rcases I with I | ⟨v,rfl⟩
  ·cases I
  ·rcases J with ⟨J,_⟩ | ⟨kh,ih,J,O,Y,rfl⟩
   ·cases J
   ·obtain rfl:=Qs J
    rcases hl with ⟨rfl,rfl⟩ | ⟨kl,il,rfl,Z,l1,rfl⟩
    ·simp only [Instr.sliceBounds,QD,QK,Qz,run_sliceBound m0 m1,run_sliceBound O Y]
    ·simp only [Instr.sliceBounds,QD,QK,Qz,run_sliceBound m0 m1,run_sliceBound O Y,run_sliceBound Z l1]
def GJ (L:Env) (o:Option Operand) (I top r:Nat):Prop:=(o=none/\r=I)\/∃ J O i,o=some J/\ev L J=some (.int O i)/\0<=i/\i<=top/\i.toNat=r
theorem GJ.bd {N:Nat}{a:Act}{o:Option Operand}{I top r:Nat} (hs:Sl N L a) (h:GJ L o I top r):Bd (o.map a.eval) I top r:=by
 rcases h with ⟨rfl,rfl⟩ | ⟨Z,Y,i,rfl,he,J,O,rfl⟩
 ·exact .inl ⟨rfl,rfl⟩
 ·exact .inr ⟨Y,i,by simp [hs.ev he],J,O,rfl⟩
theorem tZ {P:Program}{w:World}{t e:TypeId}{sz len cap:Nat}{a:Option Addr}{lo hi mx:Option Qn}{l h m:Nat} (J:∀ w,(underlying t).run P w=.ok (.slice e) w) (hs:∀ w,(sizeOf e).run P w=.ok sz w)
  (I:mx=none\/∃ v,hi=some v) (hm:Bd mx cap cap m) (O:Bd hi len m h) (hl:Bd lo 0 h l):
  (Instr.sliceAt t (.slice a len cap) lo hi mx).run P w=.ok (.slice (if m=l then a else a.map (·.add (l*sz))) (h-l) (m-l)) w:=by
 simp only [Instr.sliceAt,QD,J,Qz,Instr.slice,AB I hm O hl,hs,QK]
theorem Ki {a:Act}{mx hi:Option Operand} (h:mx=none\/∃ o,hi=some o):mx.map a.eval=none\/∃ v,hi.map a.eval=some v:=by
 rcases h with rfl | ⟨o,rfl⟩
 ·exact .inl rfl
 ·exact .inr ⟨_,rfl⟩
theorem rP {α:Type}[aG α] {t e:TypeId}{y:Operand}{lo hi mx:Option Operand}{v:Qn}{xs:List α}{l h:Nat} (hg:gd ops L ⟨some d,.slice t y lo hi mx,ty,pos,aft,g⟩=some true) (hN:Nat.blt d x.N=true)
  (hT:∀ w,(underlying t).run x.P w=.ok (.slice e) w) (hs:∀ w,(sizeOf e).run x.P w=.ok (aG.sz α) w)
  (hy:ev L y=some v) (hR:aQ H v xs) (hlh:l<=h) (Z:h<=xs.length) (hmh:mx=none\/∃ o,hi=some o)
  (hm:∀ cap,h<=cap->GJ L mx cap cap (if mx=none then cap else h)) (hh:∀ m,h<=m->GJ L hi xs.length m h) (hl:GJ L lo 0 h l)
  (k:∀ v',aQ H v' ((xs.drop l).take (h-l))->(mx≠none->Value.oC v'=h-l)->W x ops Q rest H M ((d,v')::L)):
  W x ops Q (⟨some d,.slice t y lo hi mx,ty,pos,aft,g⟩::rest) H M L:=by
 have hlen:((xs.drop l).take (h-l)).length=h-l:=by simp; omega
 rcases hR with ⟨⟨a0,rfl⟩,rfl⟩ | ⟨b,off,cap,arr,T,fz,rfl,h2,h3,h4,h5,h6⟩
 ·have hl0:l=0:=by simp at Z; omega
  have hh0:h=0:=by simp at Z; omega
  subst hl0; subst hh0
  have hif:(if mx=none then 0 else 0)=0:=by split <;> rfl
  refine fK (v:=.slice a0 0 0) rfl hg hN (λc w I ht=>?_) (k _ (.inl ⟨⟨_,rfl⟩,by simp⟩) (λ_=>rfl))
  have O:=(hm 0 (QM _)).bd I;rw [hif] at O;have hr:=tZ (P:=x.P) (w:=w) (len:=0) (cap:=0) (a:=a0) hT hs (Ki hmh) O ((hh 0 (QM _)).bd I) (hl.bd I);simp only [RK,Um] at hr;simp only [execOp,I.ev hy,QD,hr,Qz,QK]
 ·have hmc:h<=(if mx=none then cap else h)/\(if mx=none then cap else h)<=cap:=by split <;> omega
  generalize Y:(if mx=none then cap else h)=m at hmc
  refine fK (v:=.slice (if m=l then some ⟨b,off,none⟩ else some ((⟨b,off,none⟩:Addr).add (l*aG.sz α))) (h-l) (m-l)) rfl hg hN (λc w I ht=>?_) (k _ ?_ ?_)
  ·have O:=(hm cap (by omega)).bd I
   rw [Y] at O;simp only [execOp,I.ev hy,QD,tZ hT hs (Ki hmh) O ((hh m hmc.1).bd I) (hl.bd I),Qz,QK]
   split <;> rfl
  ·by_cases hml:m=l
   ·have:h-l=0:=by omega
    have e0:m-l=0:=by omega
    rw [Qx hml,this,e0];exact .inl ⟨⟨_,rfl⟩,by simp⟩
   ·rw [Qw hml,Rz]
    have hmul:l*aG.sz α+(m-l)*aG.sz α<=cap*aG.sz α:=by
     rw [<- QO]; exact QI _ (by omega)
    refine .inr ⟨b,off+l*aG.sz α,m-l,arr,T,fz,by rw [hlen],by omega,by omega,h4,by omega,λj el J=>?_⟩
    rw [Rf] at J
    split at J
    ·rw [Q_] at J
     obtain ⟨cs,q1,q2⟩:=h6 (l+j) el J;refine ⟨cs,q1,λi c hc=>?_⟩;rw [show off+l*aG.sz α+j*aG.sz α+i=off+(l+j)*aG.sz α+i by rw [QO]; omega]
     exact q2 i c hc
    ·cases J
  ·intro hne
   rw [Qw hne] at Y;subst Y; rfl
theorem HL {α:Type}[aG α] {t e T:TypeId}{n:Nat}{y:Operand}{lo hi:Option Operand}{v:Qn}{cs:List Qn}{xs:List α}{l h:Nat} (hg:gd ops L ⟨some d,.slice t y lo hi none,ty,pos,aft,g⟩=some true) (hN:Nat.blt d x.N=true)
  (hT:∀ w,(underlying t).run x.P w=.ok (.slice e) w) (hs:∀ w,(sizeOf e).run x.P w=.ok (aG.sz α) w) (hs0:Nat.blt 0 (aG.sz α)=true)
  (hy:ev L y=some v) (hR:Rw H v cs xs) (hlh:l<=h) (hhx:h<=xs.length)
  (hh:∀ m,h<=m->GJ L hi xs.length m h) (hl:GJ L lo 0 h l)
  (k:∀ v' cs',Rw H v' cs' ((xs.drop l).take (h-l))->Value.oC v'=Value.oC v-l->W x ops Q rest H (.row v' T (aG.sz α) ((xs.drop l).take (h-l)).length cs'::M) ((d,v')::L)):
  W x ops Q (⟨some d,.slice t y lo hi none,ty,pos,aft,g⟩::rest) H (.row v T (aG.sz α) n cs::M) L:=by
 have J:((xs.drop l).take (h-l)).length=h-l:=by simp; omega
 refine s7 rfl hg hN λa w I ht=>?_;have hok:jK w T (aG.sz α) v n cs:=ht.ok _ (Qu ..);have hn:n=xs.length:=by
  have h1:=hR.rd.len;rw [hok.1] at h1;exact R_ (by simpa [RA] using hs0) h1
 subst hn;have hrd:=(hR.rd.split h).1.split l;have Y:qA H ((cs.take (h*aG.sz α)).drop (l*aG.sz α)) ((xs.drop l).take (h-l)):=by
  have:=hrd.2
  rwa [SP (l:=xs)] at this
 have hcl:=Y.len;rcases hok.2 with ⟨rfl,h0⟩ | ⟨Z,off,cap,cur,rfl,hgb,hnc,hcm,hcs,htake⟩
 ·have hl0:l=0:=by omega
  have hh0:h=0:=by omega
  subst hl0; subst hh0
  refine ⟨.slice none 0 0,w,?_,H,_,?_,k _ [] (by simpa using (Rw.nil:Rw H (.slice none 0 0) [] ([]:List α))) rfl⟩
  ·have hh':=(hh 0 (QM _)).bd I
   rw [h0] at hh';have hr:=tZ (P:=x.P) (w:=w) (len:=0) (cap:=0) (a:=none) (mx:=none) hT hs (.inl rfl) (.inl ⟨rfl,rfl⟩) hh' (hl.bd I);simp only [RK,Um] at hr;simp only [execOp,I.ev hy,QD,TX,hr,Qz,QK]
  ·have:=ht.tail.BQ T (aG.sz α)
   simpa using this
 ·refine ⟨.slice (if cap=l then some ⟨Z,off,none⟩ else some ((⟨Z,off,none⟩:Addr).add (l*aG.sz α))) (h-l) (cap-l),w,?_,H,_,?_,k _ _ ⟨Y,_,_,_,rfl⟩ rfl⟩
  ·simp only [execOp,I.ev hy,QD,tZ (mx:=none) (m:=cap) hT hs (.inl rfl) (.inl ⟨rfl,rfl⟩) ((hh cap (by omega)).bd I) (hl.bd I),TX,Qz,QK]
   split <;> rfl
  ·have hgr:w.grownBy w (bQ.zj (.row (.slice (some ⟨Z,off,none⟩) xs.length cap) T (aG.sz α) xs.length cs)):=⟨rfl,rfl,rfl,QM _,λ_ _ _=>rfl⟩
   rw [J];have hmul:l*aG.sz α+(cap-l)*aG.sz α=cap*aG.sz α:=by rw [<- QO]; congr 1; omega
   have hmul2:h*aG.sz α=l*aG.sz α+(h-l)*aG.sz α:=by rw [<- QO]; congr 1; omega
   have hmul3:h*aG.sz α<=xs.length*aG.sz α:=QI _ hhx;have hxl:cs.length=xs.length*aG.sz α:=hok.1
   by_cases O:cap=l
   ·have e1:h-l=0:=by omega
    have e2:cap-l=0:=by omega
    rw [Qx O,e1,e2];have e3:(cs.take (h*aG.sz α)).drop (l*aG.sz α)=[]:=by
     apply QZ; rw [hcl,J,e1,R2]
    rw [e3];exact ht.Em (r':=.row (.slice (some ⟨Z,off,none⟩) 0 0) T (aG.sz α) 0 []) hgr ⟨by simp,.inr ⟨Z,off,0,cur,rfl,hgb,QM _,by unfold maxLen; omega,by omega,by simp⟩⟩ (λc hc=>.inl hc)
   ·rw [Qw O,Rz]
    refine ht.Em (r':=.row (.slice (some ⟨Z,off+l*aG.sz α,none⟩) (h-l) (cap-l)) T (aG.sz α) (h-l) _) hgr ⟨?_,.inr ⟨Z,off+l*aG.sz α,cap-l,cur,rfl,hgb,by omega,by omega,by omega,?_⟩⟩ (λc hc=>.inl hc)
    ·rw [hcl,J]
    ·rw [<- htake,TG,Rv hmul3,SP,Sd]
     congr 1; omega
theorem tP {α:Type}[aG α] {t e T:TypeId}{n:Nat}{y:Operand}{lo hi:Option Operand}{v:Qn}{cs:List Qn}{xs:List α}{l h:Nat} (hg:gd ops L ⟨some d,.slice t y lo hi none,ty,pos,aft,g⟩=some true) (hN:Nat.blt d x.N=true)
  (Z:∀ w,(underlying t).run x.P w=.ok (.slice e) w) (hs:∀ w,(sizeOf e).run x.P w=.ok (aG.sz α) w) (Y:Nat.blt 0 (aG.sz α)=true)
  (hy:ev L y=some v) (hR:Rw H v cs xs) (O:l<=h) (J:h<=xs.length)
  (hh:∀ m,h<=m->GJ L hi xs.length m h) (hl:GJ L lo 0 h l)
  (k:∀ v' I,Rw H v' I ((xs.drop l).take (h-l))->W x ops Q rest H (.row v' T (aG.sz α) ((xs.drop l).take (h-l)).length I::M) ((d,v')::L)):
  W x ops Q (⟨some d,.slice t y lo hi none,ty,pos,aft,g⟩::rest) H (.row v T (aG.sz α) n cs::M) L:=
 HL hg hN Z hs Y hy hR O J hh hl (λv' I h _=>k v' I h)
end
def rJ {α:Type} (xs:List α) (l h:Nat):List α:=(xs.drop l).take (h-l)
theorem Mc {α:Type} (xs:List α) (l h:Nat):(rJ xs l h).length=min (h-l) (xs.length-l):=by simp [rJ]
theorem Rw.room {α:Type}[aG α] {H:Hp}{v:Qn}{xs:List Qn}{l:List α} (h:Rw H v xs l) {k:Nat}{e:α} (he:l[k]? = some e) {o m:Nat} (J:Nat.ble (o+m) (aG.sz α)=true):k*aG.sz α+o+m<=xs.length:=by
 have Y:k<l.length:=(Qt.1 he).1;have I:(k+1)*aG.sz α<=l.length*aG.sz α:=QI _ Y;have O:o+m<=aG.sz α:=by simpa [S8] using J
 rw [h.rd.len];rw [QO,Ul] at I;omega
theorem Hy (a:Addr) (i:Nat):a.add i=a.add (i+0):=rfl
theorem KG (a:Addr) (i o:Nat):(a.add i).add o=a.add (i+o):=add_add a i o
section
variable {x:Cx}{ops:Array Oper}{Q:l8}{rest:List Oper}{H:Hp}{M M':List bQ}{L L':Env}
variable {d:Nat}{ty:TypeId}{pos:String}{aft:Array Edge}{g:Option (Nat×Bool)}
theorem HK {α : Type} [aG α] {t e : TypeId} {bytes : Nat} {z : Qn} {y u : Operand} {v vu : Qn} {l ys : List α}
    (hg : gd ops L ⟨some d, .call ⟨.builtin .append, #[y, u], #[t, t]⟩, ty, pos, aft, g⟩ = some true) (hN : Nat.blt d x.N = true)
    (hT : x.P.underlying t = some (.slice e)) (hi : NX x.P e (aG.sz α) bytes z) (hz : z.cells.size = aG.sz α) (hs : Nat.blt 0 (aG.sz α) = true) (hb0 : Nat.blt 0 bytes = true)
    (hy : ev L y = some v) (hu : ev L u = some vu) (hx : aQ H v l) (hc : Value.oC v = l.length) (hR : aQ H vu ys) (hpos : Nat.blt 0 ys.length = true) (hb : ((l.length + ys.length) * bytes : Nat) ≤ 140737488355328)
    (k : ∀ v' xs', Rw H v' xs' (l ++ ys) → W x ops Q rest H (.row v' e (aG.sz α) (l ++ ys).length xs' :: M) ((d, v') :: L)) :
    W x ops Q (⟨some d, .call ⟨.builtin .append, #[y, u], #[t, t]⟩, ty, pos, aft, g⟩ :: rest) H M L := by
  obtain ⟨i, h1, h2, h3, h4⟩ := hi.ex;have hs' : 0 < aG.sz α := by simpa [RA] using hs
  have hb0' : 0 < bytes := by simpa [RA] using hb0
  have hpos' : 0 < ys.length := by simpa [RA] using hpos
  have hmax : l.length + ys.length ≤ maxLen := by
    have : l.length + ys.length ≤ (l.length + ys.length) * bytes := Th _ hb0';unfold maxLen; omega
  have Y : l.length + ys.length ≤ 9223372036854775807 := by unfold maxLen at hmax; omega
  refine s7 rfl hg hN fun a w hsl ht => ?_;obtain ⟨cs, Z, hcase⟩ := hx.flat;obtain ⟨J, hds, hcase2⟩ := hR.flat;rcases hcase2 with ⟨⟨ea, rfl⟩, rfl⟩ | ⟨hd2, b2, I, c2, rfl⟩
  · simp at hpos'
  have O : ∀ j u, J[j]? = some u → w.cell? ((⟨b2, I, none⟩ : Addr).add j) = some u := fun j u hu => ((hd2 j u hu).at (x := x) (M := M)) w ht;have hdl := hds.len;have hge := Va w (l.length + ys.length);have mk : ∀ (vh : Nat), qA H (cs ++ J) (l ++ ys) → jK (w.drew.alloc (.cells (cs.toArray ++ J.toArray ++ Builtin.zeroCells z.cells (grownCap w (l.length + ys.length) vh e - (l.length + ys.length))) e)) e (aG.sz α)
        (.slice (some ⟨w.heap.size, 0, none⟩) (l.length + ys.length) (grownCap w (l.length + ys.length) vh e)) (l.length + ys.length) (cs ++ J) := by
    intro vh hrd;have hge := Va w (l.length + ys.length) vh e;have hcm : grownCap w (l.length + ys.length) vh e ≤ maxLen := Ux w (l.length + ys.length) vh e hmax;have hlen : (cs ++ J).length = (l.length + ys.length) * aG.sz α := by rw [hrd.len, QJ]
    refine ⟨hlen, .inr ⟨w.heap.size, 0, _, _, rfl, UC w.drew _, hge, hcm, ?_, ?_⟩⟩
    · have hlen' : cs.length + J.length = (l.length + ys.length) * aG.sz α := by rw [← QJ]; exact hlen
      simp only [Array.size_append, SU, size_zeroCells, hz, QP];rw [hlen', ← QO];rw [show l.length + ys.length + (grownCap w (l.length + ys.length) vh e - (l.length + ys.length)) = grownCap w (l.length + ys.length) vh e from by omega]
      exact QM _
    · simp only [RN, U4, QV]
      rw [← QV, ← hlen];exact TF
  have fin : ∀ (vh : Nat), qA H (cs ++ J) (l ++ ys) → (Builtin.append_ #[t, t] ty #[v, .slice (some ⟨b2, I, none⟩) ys.length c2]).run x.P w = .ok (.slice (some ⟨w.heap.size, 0, none⟩) (l.length + ys.length) (grownCap w (l.length + ys.length) vh e))
        (w.drew.alloc (.cells (cs.toArray ++ J.toArray ++ Builtin.zeroCells z.cells (grownCap w (l.length + ys.length) vh e - (l.length + ys.length))) e)) →
      ∃ v' w', (execOp a.eval ⟨some d, .call ⟨.builtin .append, #[y, u], #[t, t]⟩, ty, pos, aft, g⟩).run x.P w = .ok (.value v') w' ∧ ∃ H' M', St x.B x.w0 H' M' w' ∧ W x ops Q rest H' M' ((d, v') :: L) := by
    intro vh hrd hr;have hown := mk vh hrd;refine ⟨_, (w.drew.alloc (.cells (cs.toArray ++ J.toArray ++ Builtin.zeroCells z.cells (grownCap w (l.length + ys.length) vh e - (l.length + ys.length))) e)), ?_, H, .row _ e (aG.sz α) (l ++ ys).length (cs ++ J) :: M, ht.add (r' := .row (.slice (some ⟨w.heap.size, 0, none⟩) (l.length + ys.length) (grownCap w (l.length + ys.length) vh e)) e (aG.sz α) (l ++ ys).length (cs ++ J)) ?_ ?_ ?_, k _ _ ⟨hrd, _, _, _, rfl⟩⟩
    · simp [execOp, resolve, invoke, builtin, hsl.ev hy, hsl.ev hu, hr]
    · exact ⟨rfl, rfl, rfl, by simp, fun k hk _ => heap_alloc_old w.drew _ (h := hk)⟩
    · show jK _ e (aG.sz α) _ (l ++ ys).length (cs ++ J)
      rw [QJ]; exact hown
    · intro b hb
      simp only [bQ.zj, Value.ownBlock, QL] at hb;omega
  rcases hcase with ⟨⟨ea, rfl⟩, rfl⟩ | ⟨hc1, b1, off1, c1, rfl⟩
  · have hcs' : cs = [] := Z
    subst hcs';have hl0 : ([] : List α).length + ys.length = ys.length := by simp
    cases ea with
    | none =>
      have hr := run_append_nil (P := x.P) w t ty e i z hT h1 h4 ⟨b2, I, none⟩ ys.length c2 J (by rw [h2]; exact hdl) O (by omega) (by rw [hl0] at Y; omega) (by have hb' := hb; rw [hl0] at hb'; rw [h3]; omega)
      refine fin 0 (Z.app hds) ?_;simp only [hl0];simpa using hr
    | some ea =>
      have hr := run_append_grow (P := x.P) w t ty e i z hT h1 h4 ea 0 0 [] (by simp) (by simp) ⟨b2, I, none⟩ ys.length c2 J (by rw [h2]; exact hdl) O (by omega) (by rw [hl0] at Y; omega) (U_ (by omega) (by rw [h3]; simpa using hb))
      refine fin 0 (Z.app hds) ?_;simpa using hr
  · have hc' : c1 = l.length := hc
    subst hc';have hr := run_append_grow (P := x.P) w t ty e i z hT h1 h4 ⟨b1, off1, none⟩ l.length l.length cs (by rw [h2]; exact Z.len) (fun j u hu => ((hc1 j u hu).at (x := x) (M := M)) w ht) ⟨b2, I, none⟩ ys.length c2 J (by rw [h2]; exact hdl) O (by omega) (by omega) (U_ (by omega) (by rw [h3]; exact hb))
    exact fin l.length (Z.app hds) hr
theorem qq (α:Type) [aG α] {T e:TypeId}
  (Y:gd ops L ⟨some d,.buildSlice T 0 #[],ty,pos,aft,g⟩=some true) (hN:Nat.blt d x.N=true)
  (O:∀ w,(underlying T).run x.P w=.ok (.slice e) w) (hs:∀ w,(sizeOf e).run x.P w=.ok (aG.sz α) w)
  (k:∀ v' I,Rw H v' I ([]:List α)->W x ops Q rest H (.row v' e (aG.sz α) ([]:List α).length I::M) ((d,v')::L)):
  W x ops Q (⟨some d,.buildSlice T 0 #[],ty,pos,aft,g⟩::rest) H M L:=by
 refine s7 rfl Y hN λa w Z ht=>?_;have J:∀ c w,(newRow e c).run x.P w=.ok ⟨w.heap.size,0,none⟩ (w.alloc (.cells c e)):=λc w=>by
  simp only [newRow,newObj,QD,QK,Sem.run,Qz,World.alloc]
 refine ⟨.slice (some ⟨w.heap.size,0,none⟩) 0 0,_,?_,H,_,St.newRow (α:=α) (cells:=[]) (l:=[]) (e:=e) ht rfl (by unfold maxLen; simp),k _ _ ⟨rfl,_,_,_,rfl⟩⟩
 simp only [execOp,Instr.buildSlice,QD,O,hs,Qz,R2,Nat.not_lt_zero,gt_iff_lt,Sc,Um,QK];simp [Instr.fill,J,Array.range]
end
def kC (s:Qm):List U8:=s.data.toList.map λb=>⟨b.toNat⟩
section
variable {x:Cx}{ops:Array Oper}{Q:l8}{rest:List Oper}{H:Hp}{M M':List bQ}{L L':Env}
variable {d:Nat}{ty:TypeId}{pos:String}{aft:Array Edge}{g:Option (Nat×Bool)}
def tf (s:Qm) (cap:Nat):Array Qn:=s.data.map (λb:UInt8=>Value.int .u8 b.toNat)++Array.replicate (cap-s.size) (Value.int .u8 0)
theorem Dx (w:World) (c:Array Qn) (e:TypeId):(w.alloc (.cells c e)).freeze ⟨w.heap.size,c.size,none⟩ 1=w.alloc (.cells c e (c.size,c.size+1)):=by
 have key:∀ (f:Obj->Obj),f (.cells c e)=.cells c e (c.size,c.size+1)->(w.heap.push (.cells c e)).modify w.heap.size f=w.heap.push (.cells c e (c.size,c.size+1)):=by
  intro f I;apply Array.ext_getElem?;intro i;rw [UL,Array.getElem?_push,Array.getElem?_push]
  by_cases h:w.heap.size=i
  ·subst h; simp [I]
  ·rw [Qw h,Qw (λq=>h q.symm),Qw (λq=>h q.symm)]
 unfold World.freeze;rw [Qw (by omega)]
 show ({ w with heap:=(w.heap.push (.cells c e)).modify w.heap.size _ }:World)={ w with heap:=w.heap.push (.cells c e (c.size,c.size+1)) }
 rw [key _ (by simp)]
theorem yH (s:Qm):(kC s).length=s.size:=by unfold kC; rw [Sq,Array.length_toList]; rfl
theorem zA {P:Program}{w:World}{e:TypeId}{s:Qm}:
  (Conv.stringToBytes e s).run P w=.ok (.slice (some ⟨w.heap.size,0,none⟩) s.size (grownCap w s.size 0 e))
   (w.drew.alloc (.cells (tf s (grownCap w s.size 0 e)) e ((tf s (grownCap w s.size 0 e)).size,(tf s (grownCap w s.size 0 e)).size+1))):=by
 have I:(choose (.appendCap s.size 0 e)).run P w=.ok (grownCap w s.size 0 e) w.drew:=by
  simp only [choose,Sem.run,Question.forced,RC,Sc]; rfl
 have O:∀ (c:Array Qn) (w:World),(newRow e c).run P w=.ok ⟨w.heap.size,0,none⟩ (w.alloc (.cells c e)):=λc w=>by
  simp only [newRow,newObj,QD,QK,Sem.run,Qz,World.alloc]
 have J:∀ (c:Array Qn) (w:World),(markStringish ⟨w.heap.size,0,none⟩).run P (w.alloc (.cells c e))=.ok () (w.alloc (.cells c e (c.size,c.size+1))):=λc w=>by
  have Y:(w.alloc (.cells c e)).shape? w.heap.size=some (e,c.size):=by
   have:(w.alloc (.cells c e)).heap[w.heap.size]? = some (.cells c e):=UC w _;simp only [World.shape?,this]
  simp only [markStringish,shape,QD,Sem.run,Y,Qz,Go.freeze,Dx]
 simp only [Conv.stringToBytes,QD,I,Qz,O];have:=J (tf s (grownCap w s.size 0 e)) w.drew;simp only [tf] at this ⊢;rw [show (w.drew.heap.size)=w.heap.size from rfl] at this ⊢;rw [this]
 rfl
theorem vw {t u e:TypeId}{y:Operand}{s:Qm} (hg:gd ops L ⟨some d,.convert t u y,ty,pos,aft,g⟩=some true) (hN:Nat.blt d x.N=true)
  (ht:∀ w,(underlying t).run x.P w=.ok .string w) (hu:∀ w,(underlying u).run x.P w=.ok (.slice e) w) (he:∀ w,(underlying e).run x.P w=.ok (.int .u8) w)
  (hy:ev L y=some (.string s)) (hs:s.size<=maxLen)
  (k:∀ v H',H.le H'->aQ H' v (kC s)->W x ops Q rest H' M ((d,v)::L)):
  W x ops Q (⟨some d,.convert t u y,ty,pos,aft,g⟩::rest) H M L:=by
 refine s7 rfl hg hN λa w hsl h=>?_;have Y:=Va w s.size 0 e;have O:grownCap w s.size 0 e<=maxLen:=Ux w s.size 0 e hs;have h':St x.B x.w0 H M w.drew:=h.drewN (w.drawn+1);generalize J:grownCap w s.size 0 e=cap at Y O;have ha:=(h'.alloc (.cells (tf s cap) e ((tf s cap).size,(tf s cap).size+1))).freeze;refine ⟨.slice (some ⟨w.heap.size,0,none⟩) s.size cap,w.drew.alloc (.cells (tf s cap) e ((tf s cap).size,(tf s cap).size+1)),?_,_,M,ha.2,k _ _ ha.1 (.inr ⟨w.heap.size,0,cap,_,e,_,?_,?_,O,Hp.xy _ _ _,?_,?_⟩)⟩
 ·have hr:=zA (P:=x.P) (w:=w) (e:=e) (s:=s)
  rw [J] at hr;simp only [execOp,hsl.ev hy,convert,QD,ht,hu,he,Qz,hr,QK]
 ·rw [yH]
 ·rw [yH]; exact Y
 ·have e0:s.size=s.data.size:=rfl
  simp [aG.sz,tf];omega
 ·intro j el I
  refine ⟨[.int .u8 el.n],rfl,λi c Z=>?_⟩;have hi:i=0:=by
   have:=(Qt.1 Z).1;simp at this; omega
  subst hi;simp at Z; subst Z
  have hj:=(Qt.1 I).1;simp [kC] at I hj;obtain ⟨b,hb,rfl⟩:=I;simp only [aG.sz,QP,S4,RZ,tf];rw [Array.getElem?_append_left (by simpa using hj),Array.getElem?_map,hb]
  rfl
theorem DT {P:Program}{w:World}{t e:TypeId}{o:Option Addr}{n c:Nat} (I:∀ w,(underlying t).run P w=.ok (.slice e) w):(Op.equal t (.slice o n c) (.slice none 0 0)).run P w=.ok o.isNone w:=by
 have key:∀ k,(Op.equalIn (k+1) t (.slice o n c) (.slice none 0 0)).run P w=.ok o.isNone w:=λk=>by
  unfold Op.equalIn;cases o <;> simp [I]
 exact key 9999
theorem rU {t e u:TypeId}{y z:Operand}{o:Option Addr}{n c:Nat} (J:gd ops L ⟨some d,.binOp .eql t y z u,ty,pos,aft,g⟩=some true) (hN:Nat.blt d x.N=true)
  (I:∀ w,(underlying t).run x.P w=.ok (.slice e) w) (O:ev L y=some (.slice o n c)) (Y:ev L z=some (.slice none 0 0))
  (k:W x ops Q rest H M ((d,.bool o.isNone)::L)):
  W x ops Q (⟨some d,.binOp .eql t y z u,ty,pos,aft,g⟩::rest) H M L:=
 fK rfl J hN (λa w hs _=>by
  simp only [execOp,hs.ev O,hs.ev Y,QD,eqGuard,binOp,DT I,Qz,QK]
  rfl) k
end
section
variable {B:Nat}{w0 w:World}{H:Hp}{M:List bQ}
theorem St.fP {α:Type}[aG α] {v:Qn}{T:TypeId}{n:Nat}{xs:List Qn}{ys:List α}
  (h:St B w0 H (.row v T (aG.sz α) n xs::M) w) (hx:Rw H v xs ys) (hs:Nat.blt 0 (aG.sz α)=true):
  ∃ H',H.le H'/\St B w0 H' M w/\aQ H' v ys/\∀ M' w',St B w0 H' M' w'->St B w0 H (.row v T (aG.sz α) n xs::M') w':=by
 have hs':0<aG.sz α:=by simpa [RA] using hs
 have hok:=h.ok _ (Qu ..);have Z:=h.lo _ (Qu ..);obtain ⟨hl,hh⟩:=hok;have hn:n=ys.length:=by
  have:=hx.rd.len;rw [hl] at this;exact R_ hs' this
 subst hn;rcases hh with ⟨rfl,h0⟩ | ⟨g,off,cap,O,rfl,hg,hnc,hcm,hcs,J⟩
 ·refine ⟨H,Rk _,h.tail,.inl ⟨⟨_,rfl⟩,QZ h0⟩,λM' w' h'=>?_⟩
  have hx0:xs=[]:=QZ (by rw [hl,h0,R2])
  rw [h0,hx0];exact h'.BQ T _
 ·have h':St B w0 H (.obj g (.cells O T (0,0))::M) w:=by
   refine ⟨h.below,h.le,h.um,?_,?_,h.nd⟩
   ·intro r I
    rcases Ra.1 I with rfl | I
    ·exact hg
    ·exact h.tail.ok r I
   ·intro r I
    rcases Ra.1 I with rfl | I
    ·exact Z
    ·exact h.tail.lo r I
  obtain ⟨Y,hst⟩:=h'.freeze;refine ⟨_,Y,hst,.inr ⟨g,off,cap,O,T,(0,0),rfl,hnc,hcm,Hp.xy _ _ _,hcs,?_⟩,λM' w' hb=>?_⟩
  ·intro k e he
   obtain ⟨c,h1,h2⟩:=(hx.rd.mono Y).get k e he;refine ⟨c,h1,λj d hd=>?_⟩;have:=h2 j d hd;rw [<- J,Rf] at this
   split at this
   ·rw [Q_] at this; simpa [SN] using this
   ·cases this
  ·have ht:=St.Pu (H:=H) hb (Z g (List.Mem.head _)).1 Y (Z g (List.Mem.head _)).2 (Hp.xy _ _ _)
   refine ⟨ht.below,ht.le,ht.um,?_,?_,ht.nd⟩
   ·intro r I
    rcases Ra.1 I with rfl | I
    ·exact ⟨hl,.inr ⟨g,off,cap,O,rfl,ht.ok _ (Qu ..),hnc,hcm,hcs,J⟩⟩
    ·exact ht.tail.ok r I
   ·intro r I
    rcases Ra.1 I with rfl | I
    ·exact ht.lo (.obj g _) (Qu ..)
    ·exact ht.tail.lo r I
theorem dU {P:Program}{f:FuncId}{args:Array Qn}{O:Hp}{r:bQ}{Z:List bQ->Qn->Prop}
  (I:∀ M' J,St B w0 O M' J->St B w0 H (r::M') J) (h:Calls P f args w (ux B w0 λH' M' v=>O=H'/\Z M' v)):
  Calls P f args w (ux B w0 λH' M' v=>H=H'/\∃ Y,r::Y=M'/\Z Y v):=
 h.mono λe J he=>by
  cases e with
  | returned v=>
   obtain ⟨H2,M',h1,h2,h3⟩:=he;subst h2;exact ⟨H,r::M',I M' J h1,rfl,M',rfl,h3⟩
  | panicked c=>exact he
  | outgrown=>exact he
end
section
variable {x:Cx}{ops:Array Oper}{Q:l8}{rest:List Oper}{H:Hp}{M M':List bQ}{L L':Env}
variable {d:Nat}{ty:TypeId}{pos:String}{aft:Array Edge}{g:Option (Nat×Bool)}
theorem A6 {J:Fn}{first I:List Operand}{vs cs:List Qn} (Y:gd ops L ⟨some d,.makeFunc J first.toArray I.toArray,ty,pos,aft,g⟩=some true) (hN:Nat.blt d x.N=true)
  (Z:yL L first=some vs) (O:yL L I=some cs) (k:W x ops Q rest H M ((d,.func J vs.toArray cs.toArray)::L)):
  W x ops Q (⟨some d,.makeFunc J first.toArray I.toArray,ty,pos,aft,g⟩::rest) H M L:=
 fK rfl Y hN (λa w hs _=>by simp [execOp,Instr.makeFunc,hs.yL Z,hs.yL O]) k
theorem lG {d:Nat}{y:Operand}{f:FuncId}{args:List Operand}{O:Array TypeId}{vs fs cs:List Qn}
  {Y:Hp->List bQ->Qn->Prop}
  (J:∀ as w,(callFunc f as).run x.P w=.ok (.enter f as) w)
  (hg:gd ops L ⟨some d,.call ⟨.value y,args.toArray,O⟩,ty,pos,aft,g⟩=some true) (hN:Nat.blt d x.N=true)
  (hy:ev L y=some (.func (.func f) fs.toArray cs.toArray)) (hv:yL L args=some vs)
  (hc:∀ w,St x.B x.w0 H M w->Calls x.P f (fs++vs++cs).toArray w (ux x.B x.w0 Y))
  (k:∀ v H' M',Y H' M' v->W x ops Q rest H' M' ((d,v)::L)):
  W x ops Q (⟨some d,.call ⟨.value y,args.toArray,O⟩,ty,pos,aft,g⟩::rest) H M L:=by
 intro a w hs ht;refine Un λK hK=>?_;rw [Qx (hs.gd hg)];have I:args.toArray.map a.eval=vs.toArray:=by simp [hs.yL hv]
 have hr:(execOp a.eval ⟨some d,.call ⟨.value y,args.toArray,O⟩,ty,pos,aft,g⟩).run x.P w=.ok (.enter f (fs++vs++cs).toArray) w:=by
  simp only [execOp,resolve,I,hs.ev hy,Deferred.ofValue,QD,QK,Qz,invoke];simp [J]
 unfold Oper.wp;rw [hr];simp only [Oper.upon];refine (hc w ht).mono λe w' he=>?_;cases e with
 | returned v=>
  obtain ⟨H',M',Z,h2⟩:=he;exact hK _ _ (k v H' M' h2 _ _ (hs.put hN) Z)
 | panicked c=>exact he.elim
 | outgrown=>exact he.elim
def t_ (k:IntKind) (a b:Int):Int:=k.wrap (a*2 ^ (min b.toNat k.bits))
def oG (k:IntKind) (a b:Int):Int:=a.fdiv (2 ^ (min b.toNat k.bits))
theorem EB {t u:TypeId}{y z:Operand}{k Y:IntKind}{a b:Int} (I:gd ops L ⟨some d,.binOp .shl t y z u,ty,pos,aft,g⟩=some true) (hN:Nat.blt d x.N=true)
  (J:ev L y=some (.int k a)) (O:ev L z=some (.int Y b)) (hb:0<=b) (Z:W x ops Q rest H M ((d,.int k (t_ k a b))::L)):
  W x ops Q (⟨some d,.binOp .shl t y z u,ty,pos,aft,g⟩::rest) H M L:=
 fK rfl I hN (λc w hs _=>by
  have:¬ b<0:=by omega
  simp [execOp,hs.ev J,hs.ev O,eqGuard,binOp,Op.shift,this,t_]) Z
theorem uk {t u:TypeId}{y z:Operand}{k Y:IntKind}{a b:Int} (I:gd ops L ⟨some d,.binOp .shr t y z u,ty,pos,aft,g⟩=some true) (hN:Nat.blt d x.N=true)
  (J:ev L y=some (.int k a)) (O:ev L z=some (.int Y b)) (hb:0<=b) (Z:W x ops Q rest H M ((d,.int k (oG k a b))::L)):
  W x ops Q (⟨some d,.binOp .shr t y z u,ty,pos,aft,g⟩::rest) H M L:=
 fK rfl I hN (λc w hs _=>by
  have:¬ b<0:=by omega
  simp [execOp,hs.ev J,hs.ev O,eqGuard,binOp,Op.shift,this,oG]) Z
theorem ra {t u:TypeId}{y:Operand}{k I:IntKind}{n:Int} (J:gd ops L ⟨some d,.convert t u y,ty,pos,aft,g⟩=some true) (hN:Nat.blt d x.N=true)
  (ht:∀ w,(underlying t).run x.P w=.ok (.int I) w) (O:∀ w,(underlying u).run x.P w=.ok (.int k) w) (Y:ev L y=some (.int I n))
  (Z:W x ops Q rest H M ((d,.int k (k.wrap n))::L)):
  W x ops Q (⟨some d,.convert t u y,ty,pos,aft,g⟩::rest) H M L:=
 fK rfl J hN (λc w hs _=>by simp [execOp,hs.ev Y,convert,ht,O,Conv.intToInt]) Z
theorem rO {t u:TypeId}{y z:Operand}{a b:Qm} (J:gd ops L ⟨some d,.binOp .add t y z u,ty,pos,aft,g⟩=some true) (hN:Nat.blt d x.N=true)
  (O:ev L y=some (.string a)) (Y:ev L z=some (.string b)) (I:a.size+b.size<=maxLen) (Z:W x ops Q rest H M ((d,.string (a++b))::L)):
  W x ops Q (⟨some d,.binOp .add t y z u,ty,pos,aft,g⟩::rest) H M L:=
 fK rfl J hN (λc w hs _=>by
  have:¬ (((a.size+b.size:Nat):Int) > i64.max):=by
   simp only [IntKind.max,IntKind.signed,IntKind.bits]; unfold maxLen at I; simp; omega
  simp only [execOp,hs.ev O,hs.ev Y,eqGuard,binOp,Op.stringOp,QD];simp only [Qw this];simp) Z
theorem FQ {s:Qm}{k:Nat}{c:U8} (h:(kC s)[k]? = some c):∃ b:UInt8,s[k]? = some b/\c=⟨b.toNat⟩:=by
 simp only [kC,QW,T5] at h;obtain ⟨b,J,rfl⟩:=h;refine ⟨b,?_,rfl⟩;obtain ⟨O,e⟩:=Qt.1 J;have I:k<s.size:=by simpa using O
 rw [getElem?_pos s k I];rw [<- e]; rfl
theorem yF {t:TypeId}{y z:Operand}{s:Qm}{kk:IntKind}{i:Int}{c:U8} (Y:gd ops L ⟨some d,.index t y z,ty,pos,aft,g⟩=some true) (hN:Nat.blt d x.N=true)
  (J:∀ w,(underlying t).run x.P w=.ok .string w) (Z:ev L y=some (.string s)) (hz:ev L z=some (.int kk i)) (I:0<=i) (he:(kC s)[i.toNat]? = some c)
  (k:W x ops Q rest H M ((d,.int .u8 c.n)::L)):
  W x ops Q (⟨some d,.index t y z,ty,pos,aft,g⟩::rest) H M L:=
 fK rfl Y hN (λa w hs _=>by
  obtain ⟨b,O,rfl⟩:=FQ he;simp [execOp,hs.ev Z,hs.ev hz,Instr.index,asIntOf,J,I,O]) k
theorem r9 {t:TypeId}{y:Operand}{lo hi:Option Operand}{s:Qm}{l h:Nat} (hg:gd ops L ⟨some d,.slice t y lo hi none,ty,pos,aft,g⟩=some true) (hN:Nat.blt d x.N=true)
  (Y:∀ w,(underlying t).run x.P w=.ok .string w)
  (hy:ev L y=some (.string s)) (hh:GJ L hi s.size s.size h) (hl:GJ L lo 0 h l)
  (k:W x ops Q rest H M ((d,.string (s.extract l h))::L)):
  W x ops Q (⟨some d,.slice t y lo hi none,ty,pos,aft,g⟩::rest) H M L:=
 fK rfl hg hN (λa w hs _=>by
  have Z:(Instr.sliceBounds false s.size s.size (lo.map a.eval) (hi.map a.eval) none).run x.P w=.ok (l,h,s.size) w:=by
   rcases hh.bd hs with ⟨e1,rfl⟩ | ⟨kh,ih,e1,J,O,rfl⟩
   ·rcases hl.bd hs with ⟨e2,rfl⟩ | ⟨kl,il,e2,I,l1,rfl⟩
    ·simp only [e1,e2,Instr.sliceBounds,QD,QK,Qz]
    ·simp only [e1,e2,Instr.sliceBounds,QD,QK,Qz,run_sliceBound I l1]
   ·rcases hl.bd hs with ⟨e2,rfl⟩ | ⟨kl,il,e2,I,l1,rfl⟩
    ·simp only [e1,e2,Instr.sliceBounds,QD,QK,Qz,run_sliceBound J O]
    ·simp only [e1,e2,Instr.sliceBounds,QD,QK,Qz,run_sliceBound J O,run_sliceBound I l1]
  simp only [execOp,hs.ev hy,Instr.sliceAt,QD,Y,Qz,Instr.slice,TX,Option.isSome_none,RC,Sc,Z,QK]) k
end
class MV (α:Type) where
 mv:α->Qn
instance:MV Int:=⟨λn=>.int .i64 n⟩
instance:MV Bool:=⟨λb=>.bool b⟩
instance:MV Qm:=⟨λs=>.string s⟩
class xf (α:Type) [DecidableEq α] extends MV α where
 kind:TypeDesc
 same:∀ a b:α,Instr.sameNow kind (mv a) (mv b)=some (decide (a=b))
 bits:∀ a:α,Instr.sameBits 10000 (mv a) (mv a)=true
 check:∀ (P:Program) (t:TypeId) (e:Bool) (a:α) (w:World),(∀ w,(underlying t).run P w=.ok kind w)->(Instr.checkKey e 10000 t (mv a)).run P w=.ok () w
theorem Df (s t:Qm):(s == t)=decide (s=t):=by
 have h:(s == t)=(s.data == t.data):=rfl;rw [h,Bool.eq_iff_iff];simp only [beq_iff_eq,Rb];exact ⟨λe=>ByteArray.ext e,λe=>by rw [e]⟩
instance:xf Int where
 kind:=.int .i64
 same a b:=by simp [Instr.sameNow,Dz,MV.mv]
 bits a:=by simp [Instr.sameBits,MV.mv]
 check P t e a w h:=by
  have key:∀ k,(Instr.checkKey e (k+1) t (.int .i64 a)).run P w=.ok () w:=λk=>by unfold Instr.checkKey; simp [h]
  exact key 9999
instance:xf Qm where
 kind:=.string
 same a b:=by simp [Instr.sameNow,Df,MV.mv]
 bits a:=by simp [Instr.sameBits,MV.mv,Df]
 check P t e a w h:=by
  have key:∀ k,(Instr.checkKey e (k+1) t (.string a)).run P w=.ok () w:=λk=>by unfold Instr.checkKey; simp [h]
  exact key 9999
section
variable {κ ν:Type}[DecidableEq κ] [xf κ] [MV ν]
structure sB (es:Array MapEntry) (c:Nat) (l:List (κ×ν)):Prop where
 eq:es.toList.map (λe=>(e.key,e.val))=l.map λp=>(MV.mv p.1,MV.mv p.2)
 nd:(es.toList.map (·.born)).Nodup
 lt:∀ e ∈ es.toList,e.born<c
def wI:List (κ×ν)->κ->Nat->Option (Nat×ν)
 | [],_,_=>none
 | (a,v)::r,k,i=>if a=k then some (i,v) else wI r k (i+1)
def rH (l:List (κ×ν)) (k:κ):Option ν:=(wI l k 0).map (·.2)
def vp (l:List (κ×ν)) (k:κ) (v:ν):List (κ×ν):=match wI l k 0 with
 | some (i,_)=>l.set i (k,v)
 | none=>l++[(k,v)]
theorem sB.nil:sB #[] 0 ([]:List (κ×ν)):=⟨rfl,by simp,by simp⟩
theorem Bu (k:κ):∀ (es:List MapEntry) (l:List (κ×ν)) (i:Nat),es.map (λe=>(e.key,e.val))=l.map (λp=>(MV.mv p.1,MV.mv p.2)) ->
  Instr.findNow (xf.kind κ) (MV.mv k) es i=some ((wI l k i).map λp=>(p.1,MV.mv p.2))
 | [],[],i,_=>rfl
 | [],_::_,i,h=>by simp at h
 | _::_,[],i,h=>by simp at h
 | e::es,(a,v)::l,i,h=>by
  simp only [Te,List.cons.injEq,SG] at h;obtain ⟨⟨J,O⟩,Y⟩:=h;unfold Instr.findNow;rw [J,xf.same]
  by_cases I:k=a
  ·subst I; simp [wI,O]
  ·simp only [I,UY,wI,Qw (λe:a=k=>I e.symm)]
   exact Bu k es l (i+1) Y
theorem run_findKey {P:Program}{w:World}{t:TypeId}{k:κ}{es:Array MapEntry}{c:Nat}{l:List (κ×ν)} (h:sB es c l) (I:∀ w,(underlying t).run P w=.ok (xf.kind κ) w):
  (Instr.findKey t (MV.mv k) es.toList).run P w=.ok ((wI l k 0).map λp=>(p.1,MV.mv p.2)) w:=by
 simp only [Instr.findKey,QD,I,Qz,Bu k es.toList l 0 h.eq,QK]
theorem Gg:∀ {l:List (κ×ν)}{k:κ}{i j:Nat}{v:ν},wI l k i=some (j,v)->i<=j/\j<i+l.length/\l[j-i]? = some (k,v)
 | [],k,i,j,v,h=>by simp [wI] at h
 | (a,u)::l,k,i,j,v,h=>by
  unfold wI at h
  split at h
  ·rename_i e; subst e
   simp only [QL,SG] at h;obtain ⟨rfl,rfl⟩:=h;simp
  ·obtain ⟨J,O,I⟩:=Gg h
   refine ⟨by omega,by simp; omega,?_⟩
   rw [show j-i=(j-(i+1))+1 by omega,List.getElem?_cons_succ]; exact I
end
section
variable {x:Cx}{ops:Array Oper}{Q:l8}{rest:List Oper}{H:Hp}{M M':List bQ}{L L':Env}
variable {d:Nat}{ty:TypeId}{pos:String}{aft:Array Edge}{g:Option (Nat×Bool)}
variable {κ ν:Type}[DecidableEq κ] [xf κ] [MV ν]
theorem zM {t:TypeId} (I:gd ops L ⟨some d,.makeMap t none,ty,pos,aft,g⟩=some true) (hN:Nat.blt d x.N=true)
  (k:∀ b,W x ops Q rest H (.obj b (.map #[] 0)::M) ((d,.map (some b))::L)):
  W x ops Q (⟨some d,.makeMap t none,ty,pos,aft,g⟩::rest) H M L:=
 s7 rfl I hN (λc w hs ht=>⟨_,w.alloc (.map #[] 0),by
  simp only [execOp,Instr.makeMap,TX,newObj,QD,QK,Sem.run,Qz,World.alloc],_,_,ht.alloc _,k _⟩)
theorem w7 {P:Program}{w:World}{b:Nat}{es:Array MapEntry}{c:Nat} (h:w.heap[b]? = some (.map es c)):(getObj b).run P w=.ok (.map es c) w:=by
 simp [getObj,Sem.run,h]
theorem GA {P:Program}{w:World}{t key e:TypeId}{b c:Nat}{es:Array MapEntry}{l:List (κ×ν)}{k:κ}{z:ν}{ok:Bool} (O:w.heap[b]? = some (.map es c)) (h:sB es c l)
  (J:∀ w,(underlying t).run P w=.ok (.map key e) w) (I:∀ w,(underlying key).run P w=.ok (xf.kind κ) w) (Y:∀ w,(zeroValue e).run P w=.ok (MV.mv z) w):
  (Instr.lookup t (.map (some b)) (MV.mv k) ok).run P w=.ok (if ok then .tuple #[MV.mv ((rH l k).getD z),.bool (rH l k).isSome] else MV.mv ((rH l k).getD z)) w:=by
 simp only [Instr.lookup,QD,J,Qz,w7 O,QK,xf.check P key _ k w I,run_findKey h I];unfold rH;cases hm:wI l k 0 with
 | none=>simp only [TX,QD,Y,Qz,QK]; rfl
 | some p=>simp only [RV,QK,Qz]; rfl
theorem A5 {t key e:TypeId}{b c:Nat}{y u:Operand}{es:Array MapEntry}{l:List (κ×ν)}{k:κ}{z:ν}{J v:Qn} (hm:bQ.obj b (.map es c) ∈ M) (h:sB es c l)
  (Z:gd ops L ⟨some d,.lookup t y u false,ty,pos,aft,g⟩=some true) (hN:Nat.blt d x.N=true)
  (Y:∀ w,(underlying t).run x.P w=.ok (.map key e) w) (O:∀ w,(underlying key).run x.P w=.ok (xf.kind κ) w) (hz:∀ w,(zeroValue e).run x.P w=.ok (MV.mv z) w)
  (hy:ev L y=some (.map (some b))) (hu:ev L u=some J) (I:J=MV.mv k) (hv:MV.mv ((rH l k).getD z)=v)
  (kk:W x ops Q rest H M ((d,v)::L)):
  W x ops Q (⟨some d,.lookup t y u false,ty,pos,aft,g⟩::rest) H M L:=
 fK rfl Z hN (λa w hs ht=>by
  subst I; subst hv
  simp only [execOp,hs.ev hy,hs.ev hu,QD,GA (ok:=false) (ht.vS hm) h Y O hz,Qz,QK]; rfl) kk
theorem xC (w:World) (b:Nat) (o:Obj):w.grownBy { w with heap:=w.heap.setIfInBounds b o } (some b):=
 ⟨rfl,rfl,rfl,by simp,λk _ I=>by
  simp only [T9];rw [Qw (λe=>I (by rw [e]))]⟩
theorem xv {t key e:TypeId}{b c:Nat}{y u q:Operand}{es:Array MapEntry}{l:List (κ×ν)}{k:κ}{v:ν}{vk vv:Qn} (h:sB es c l)
  (hg:gd ops L ⟨none,.mapUpdate t y u q,ty,pos,aft,g⟩=some true)
  (hT:∀ w,(underlying t).run x.P w=.ok (.map key e) w) (hK:∀ w,(underlying key).run x.P w=.ok (xf.kind κ) w)
  (hy:ev L y=some (.map (some b))) (hu:ev L u=some vk) (hvk:vk=MV.mv k) (hq:ev L q=some vv) (hvv:vv=MV.mv v)
  (kk:∀ I J,sB I J (vp l k v)->W x ops Q rest H (.obj b (.map I J)::M) L):
  W x ops Q (⟨none,.mapUpdate t y u q,ty,pos,aft,g⟩::rest) H (.obj b (.map es c)::M) L:=
 C_ rfl hg (λa w hs ht=>by
  subst hvk; subst hvv
  have Z:=ht.vS (Qu ..);have hlt:b<w.heap.size:=(RR.1 Z).1;have Y:∀ o,(setObj b o).run x.P w=.ok () { w with heap:=w.heap.setIfInBounds b o }:=λo=>by simp [setObj,Sem.run,Z]
  have fin:∀ I J,sB I J (vp l k v)->∃ H' M',St x.B x.w0 H' M' { w with heap:=w.heap.setIfInBounds b (.map I J) }/\W x ops Q rest H' M' L:=λI J hr=>
   ⟨H,_,ht.Em (r':=.obj b (.map I J)) (xC w b _) (by simp [bQ.ok,hlt]) (λ_ hc=>.inl hc),kk I J hr⟩
  have hlen:es.size=l.length:=by have:=Q9 List.length h.eq; simpa using this
  cases hm:wI l k 0 with
  | none=>
   refine ⟨_,?_,fin (es.push { key:=MV.mv k,val:=MV.mv v,born:=c }) (c+1) ?_⟩
   ·simp only [execOp,hs.ev hy,hs.ev hu,hs.ev hq,Instr.mapUpdate,QD,hT,Qz,w7 Z,xf.check x.P key _ k w hK,run_findKey h hK,hm,TX,Y,QK]
   ·refine ⟨?_,?_,λe he=>?_⟩
    ·unfold vp
     rw [hm];simp only [Array.toList_push,RP,Te,UU];rw [show es.toList.map _=_ from h.eq]
    ·simp only [Array.toList_push,RP,Te,UU]
     rw [Rj];refine ⟨h.nd,by simp,λa ha b Z e=>?_⟩
     simp at Z; subst Z; subst e
     obtain ⟨y,hy,rfl⟩:=Rd.1 ha;exact Nat.lt_irrefl _ (h.lt y hy)
    ·simp only [Array.toList_push,QG,QY] at he
     rcases he with he | rfl
     ·exact Nat.lt_succ_of_lt (h.lt e he)
     ·exact Si _
  | some p=>
   obtain ⟨i,u0⟩:=p;obtain ⟨_,hi,O⟩:=Gg hm;simp only [QP,Tr] at hi O;have hi':i<es.size:=by omega
   have hkey:es[i].key=MV.mv k:=by
    have h1:(es.toList.map λe=>(e.key,e.val))[i]? = some (MV.mv k,MV.mv u0):=by rw [show es.toList.map _=_ from h.eq,QW,O]; rfl
    rw [QW] at h1;simp [hi'] at h1;exact h1.1
   refine ⟨_,?_,fin (es.modify i λe=>{ e with key:=MV.mv k,val:=MV.mv v }) c ?_⟩
   ·have hg2:((es[i]?).map (·.key)).getD (MV.mv k)=MV.mv k:=by simp [hi',hkey]
    simp only [execOp,hs.ev hy,hs.ev hu,hs.ev hq,Instr.mapUpdate,QD,hT,Qz,w7 Z,xf.check x.P key _ k w hK,run_findKey h hK,hm,RV,hg2,Instr.keyThatStays,xf.bits,Um,Y,QK]
   ·have hbn:(es.modify i λe=>{ e with key:=MV.mv k,val:=MV.mv v }).toList.map (·.born)=es.toList.map (·.born):=by
     simp only [Array.toList_modify];apply Sa;intro j;rw [QW,QW,List.getElem?_modify]
     by_cases e:i=j
     ·subst e; cases es.toList[i]? <;> simp
     ·simp [Qw e]
    refine ⟨?_,by rw [hbn]; exact h.nd,λe he=>?_⟩
    rotate_left
    ·have h1:e.born ∈ es.toList.map (·.born):=by rw [<- hbn]; exact Rd.2 ⟨e,he,rfl⟩
     obtain ⟨y,hy,hyb⟩:=Rd.1 h1;rw [<- hyb]; exact h.lt y hy
    unfold vp;rw [hm];simp only [Array.toList_modify];apply Sa;intro j;rw [QW,QW,List.getElem?_modify,T8];have hj:(es.toList.map λe=>(e.key,e.val))[j]? = (l.map λp=>(MV.mv p.1,MV.mv p.2))[j]? := by rw [show es.toList.map _=_ from h.eq]
    rw [QW,QW] at hj
    by_cases e:i=j
    ·subst e
     simp [hi',hi]
    ·simp only [Qw e]
     simpa using hj)
end
section
variable {x:Cx}{ops:Array Oper}{Q:l8}{rest:List Oper}{H:Hp}{M M':List bQ}{L L':Env}
variable {d:Nat}{ty:TypeId}{pos:String}{aft:Array Edge}{g:Option (Nat×Bool)}
theorem xu {t:TypeId}{y:Operand}{f:Nat}{cs:List Qn}{v:Qn}{fs:Array Field}{I:Field} (Y:gd ops L ⟨some d,.field t y f,ty,pos,aft,g⟩=some true) (hN:Nat.blt d x.N=true)
  (J:∀ w,(underlying t).run x.P w=.ok (.struct fs) w) (O:fs[f]? = some I) (hA:∀ w,(isAgg I.type).run x.P w=.ok false w)
  (hy:ev L y=some (.agg cs.toArray)) (Z:cs[I.offset]? = some v) (k:W x ops Q rest H M ((d,v)::L)):
  W x ops Q (⟨some d,.field t y f,ty,pos,aft,g⟩::rest) H M L:=
 fK rfl Y hN (λa w hs ht=>by simp [execOp,hs.ev hy,Instr.field,J,O,asAgg,part,hA,Z]) k
theorem Jf {t e:TypeId}{y z:Operand}{n sz:Nat}{cs:List Qn}{v:Qn}{kk:IntKind}{i:Int} (Y:gd ops L ⟨some d,.index t y z,ty,pos,aft,g⟩=some true) (hN:Nat.blt d x.N=true)
  (O:∀ w,(underlying t).run x.P w=.ok (.array n e) w) (hA:∀ w,(isAgg e).run x.P w=.ok false w) (hn:∀ w,(sizeOf e).run x.P w=.ok sz w)
  (hy:ev L y=some (.agg cs.toArray)) (hz:ev L z=some (.int kk i)) (J:0<=i) (h1:i.toNat<n) (Z:cs[i.toNat*sz]? = some v) (k:W x ops Q rest H M ((d,v)::L)):
  W x ops Q (⟨some d,.index t y z,ty,pos,aft,g⟩::rest) H M L:=
 fK rfl Y hN (λa w hs ht=>by
  have I:i<(n:Int):=by omega
  simp [execOp,hs.ev hy,hs.ev hz,Instr.index,asIntOf,O,J,I,hn,part,hA,Z]) k
def I0 (P:Program) (d:Nat) (xs ys:Array Qn) (T:TypeId) (o:Nat) (b:Bool):Prop:=
 ∀ w,∃ u v,(part T xs o).run P w=.ok u w/\(part T ys o).run P w=.ok v w/\(Op.equalIn d T u v).run P w=.ok b w
def PA (P:Program) (d:Nat) (xs ys:Array Qn):List Field->List Bool->Prop
 | [],[]=>True
 | f::fs,b::bs=>f.name ≠ "_" /\ I0 P d xs ys f.type f.offset b/\PA P d xs ys fs bs
 | _,_=>False
theorem Ac {P:Program}{t:TypeId}{fs:Array Field}{xs ys:Array Qn}{w:World}{d:Nat}{bs:List Bool} (Y:∀ w,(underlying t).run P w=.ok (.struct fs) w) (hs:P.stoodInHeld t=false)
  (h:PA P d xs ys fs.toList bs):(Op.equalIn (d+1) t (.agg xs) (.agg ys)).run P w=.ok (bs.all id) w:=by
 unfold Op.equalIn;simp only [QD,Y,Qz,program,Sem.run,hs,RC,Sc];rw [<- Array.forIn_toList]
 revert h
 generalize fs.toList=l;intro h
 induction l generalizing bs with
 | nil=>
  cases bs with
  | nil=>simp
  | cons b bs=>exact h.elim
 | cons f l ih=>
  cases bs with
  | nil=>exact h.elim
  | cons b bs=>
   obtain ⟨I,J,O⟩:=h;obtain ⟨u,v,Z,q2,q3⟩:=J w;rw [List.forIn_cons];simp only [Qx I,QD,Z,q2,q3,Qz];cases b with
   | false=>simp
   | true=>
    simp only [Bool.not_true,RC,Sc,QK,Qz];have:=ih O;simpa using this
theorem CL {P:Program}{d T o:Nat}{xs ys:Array Qn}{k:IntKind}{m n:Int} (hA:∀ w,(isAgg T).run P w=.ok false w) (I:∀ w,(underlying T).run P w=.ok (.int k) w) (J:xs[o]? = some (.int k m)) (O:ys[o]? = some (.int k n)):
  I0 P (d+1) xs ys T o (decide (m=n)):=λw=>by
 refine ⟨_,_,by simp only [part,QD,hA,Qz,RC,Sc,J,QK]; rfl,by simp only [part,QD,hA,Qz,RC,Sc,O,QK]; rfl,?_⟩
 unfold Op.equalIn;simp [I,Dz]
theorem CM {P:Program}{d T o:Nat}{xs ys:Array Qn}{m n:Qm} (hA:∀ w,(isAgg T).run P w=.ok false w) (I:∀ w,(underlying T).run P w=.ok .string w) (J:xs[o]? = some (.string m)) (O:ys[o]? = some (.string n)):
  I0 P (d+1) xs ys T o (decide (m=n)):=λw=>by
 refine ⟨_,_,by simp only [part,QD,hA,Qz,RC,Sc,J,QK]; rfl,by simp only [part,QD,hA,Qz,RC,Sc,O,QK]; rfl,?_⟩
 unfold Op.equalIn;simp [I,Df]
theorem Lc {t u:TypeId}{y z:Operand}{xs ys:List Qn}{b:Bool} (O:gd ops L ⟨some d,.binOp .eql t y z u,ty,pos,aft,g⟩=some true) (hN:Nat.blt d x.N=true)
  (J:x.P.eqGuardType x.P.depth t=false) (Z:ev L y=some (.agg xs.toArray)) (hz:ev L z=some (.agg ys.toArray)) (h:∀ w,(Op.equalIn 10000 t (.agg xs.toArray) (.agg ys.toArray)).run x.P w=.ok b w)
  (k:W x ops Q rest H M ((d,.bool b)::L)):W x ops Q (⟨some d,.binOp .eql t y z u,ty,pos,aft,g⟩::rest) H M L:=
 fK rfl O hN (λc w hs _=>by
  have I:(Op.equal t (.agg xs.toArray) (.agg ys.toArray)).run x.P w=.ok b w:=h w;have Y:∀ w,(program:Sem Program).run x.P w=.ok x.P w:=λ_=>rfl;simp only [execOp,hs.ev Z,hs.ev hz,QD,eqGuard,binOp];simp [I,Y,J]) k
theorem jD {t e u:TypeId}{y z:Operand}{a:Option Addr} (O:gd ops L ⟨some d,.binOp .eql t y z u,ty,pos,aft,g⟩=some true) (hN:Nat.blt d x.N=true)
  (J:∀ w,(underlying t).run x.P w=.ok (.pointer e) w) (Y:ev L y=some (.pointer a)) (Z:ev L z=some (.pointer none))
  (k:W x ops Q rest H M ((d,.bool a.isNone)::L)):W x ops Q (⟨some d,.binOp .eql t y z u,ty,pos,aft,g⟩::rest) H M L:=
 fK rfl O hN (λc w hs _=>by
  have key:∀ k,(Op.equalIn (k+1) t (.pointer a) (.pointer none)).run x.P w=.ok a.isNone w:=λk=>by
   unfold Op.equalIn;cases a <;> simp [J]
  have I:(Op.equal t (.pointer a) (.pointer none)).run x.P w=.ok a.isNone w:=key 9999;simp only [execOp,hs.ev Y,hs.ev Z,QD,eqGuard,binOp];simp [I]) k
theorem A3 {t u:TypeId}{y z:Operand}{a b:Bool} (O:gd ops L ⟨some d,.binOp .eql t y z u,ty,pos,aft,g⟩=some true) (hN:Nat.blt d x.N=true)
  (J:∀ w,(underlying t).run x.P w=.ok .bool w) (Y:ev L y=some (.bool a)) (Z:ev L z=some (.bool b))
  (k:W x ops Q rest H M ((d,.bool (decide (a=b)))::L)):W x ops Q (⟨some d,.binOp .eql t y z u,ty,pos,aft,g⟩::rest) H M L:=
 fK rfl O hN (λc w hs _=>by
  have e:(a == b)=decide (a=b):=by cases a <;> cases b <;> rfl
  have key:∀ k,(Op.equalIn (k+1) t (.bool a) (.bool b)).run x.P w=.ok (decide (a=b)) w:=λk=>by
   unfold Op.equalIn;simp [J,e]
  have I:(Op.equal t (.bool a) (.bool b)).run x.P w=.ok (decide (a=b)) w:=key 9999;simp only [execOp,hs.ev Y,hs.ev Z,QD,eqGuard,binOp];simp [I]) k
theorem A9 {t u:TypeId}{y z:Operand}{a b:Bool} (O:gd ops L ⟨some d,.binOp .neq t y z u,ty,pos,aft,g⟩=some true) (hN:Nat.blt d x.N=true)
  (J:∀ w,(underlying t).run x.P w=.ok .bool w) (Y:ev L y=some (.bool a)) (Z:ev L z=some (.bool b))
  (k:W x ops Q rest H M ((d,.bool (!decide (a=b)))::L)):W x ops Q (⟨some d,.binOp .neq t y z u,ty,pos,aft,g⟩::rest) H M L:=
 fK rfl O hN (λc w hs _=>by
  have e:(a == b)=decide (a=b):=by cases a <;> cases b <;> rfl
  have key:∀ k,(Op.equalIn (k+1) t (.bool a) (.bool b)).run x.P w=.ok (decide (a=b)) w:=λk=>by
   unfold Op.equalIn;simp [J,e]
  have I:(Op.equal t (.bool a) (.bool b)).run x.P w=.ok (decide (a=b)) w:=key 9999;simp only [execOp,hs.ev Y,hs.ev Z,QD,eqGuard,binOp];simp [I]) k
end
def Gf (acc:List Nat) (o:Oper):Nat:=(jI o).foldl (λm j=>m ||| ((1 <<< j) ||| acc.getD j 0)) 0
def BM:List Nat->List Oper->List Nat
 | acc,[]=>acc
 | acc,o::r=>BM (acc++[Gf acc o]) r
theorem BL {acc:List Nat}{j:Nat}:∀ (ws:List Nat) (z:Nat),(ws.foldl (λm j=>m ||| ((1 <<< j) ||| acc.getD j 0)) z).testBit j=true ->
  z.testBit j=true\/∃ q ∈ ws,j=q\/(acc.getD q 0).testBit j=true
 | [],z,h=>.inl h
 | q::ws,z,h=>by
  rcases BL ws _ h with h | ⟨r,J,h⟩
  ·rw [Nat.testBit_or,Nat.testBit_or,R6,R6] at h
   rcases h with h | h | h
   ·exact .inl h
   ·refine .inr ⟨q,Qu ..,.inl ?_⟩
    rw [Nat.shiftLeft_eq,Ul,Nat.testBit_two_pow] at h;simpa using (Qv h).symm
   ·exact .inr ⟨q,Qu ..,.inr h⟩
  ·exact .inr ⟨r,Qy _ J,h⟩
theorem xK {l:List Oper}{listed:Nat->Prop} (dc:∀ i o,l[i]? = some o->listed i->∀ j ∈ jI o,listed j):
  ∀ (r:List Oper) (acc:List Nat),(∀ i o,r[i]? = some o->l[acc.length+i]? = some o) ->
   (∀ i,i<acc.length->∀ o,l[i]? = some o->(∀ q ∈ jI o,listed q)->∀ j,(acc.getD i 0).testBit j=true->listed j) ->
   ∀ i,i<acc.length+r.length->∀ o,l[i]? = some o->(∀ q ∈ jI o,listed q)->∀ j,((BM acc r).getD i 0).testBit j=true->listed j
 | [],acc,_,h,i,hi,o,ho,hw,j,hj=>h i (by simpa using hi) o ho hw j hj
 | p::r,acc,hr,h,i,hi,o,ho,hw,j,hj=>by
  refine xK dc r (acc++[Gf acc p]) (λk q hk=>?_) ?_ i (by simp at hi ⊢; omega) o ho hw j hj
  ·have:=hr (k+1) q (by simpa using hk)
   rw [QJ,Ro]
   rwa [show acc.length+1+k=acc.length+(k+1) by omega]
  ·intro k hk q hq Y b Z
   by_cases hkl:k<acc.length
   ·refine h k hkl q hq Y b ?_
    rw [Q1,RF hkl] at Z;rw [Q1]; exact Z
   ·have hke:k=acc.length:=by simp at hk; omega
    subst hke;have hp:p=q:=by
     have:=hr 0 p rfl;rw [RZ,hq] at this;exact (Qs this).symm
    subst hp;rw [Q1,Q2 (QM _),RK] at Z;simp only [List.getElem?_cons_zero,Su] at Z;unfold Gf at Z;rcases BL _ _ Z with h0 | ⟨q,hqm,rfl | O⟩
    ·simp at h0
    ·exact Y b hqm
    ·by_cases hql:q<acc.length
     ·have hlq:=Y q hqm
      cases J:l[q]? with
      | none=>
       have:acc.length<l.length:=(Qt.1 hq).1;have:=List.getElem?_eq_none_iff.1 J;omega
      | some oq=>exact h q hql oq J (dc q oq J hlq) b O
     ·rw [Q1,Rn (by omega)] at O
      simp at O
def vi (l:List Oper) (m:Nat):Bool:=
 l.zipIdx.all (λp=>(jI p.1).all λj=>Nat.blt j p.2) &&
 l.zipIdx.all λp=>Nat.blt p.2 m || (List.range p.2).all λj=>((BM [] l).getD p.2 0).testBit j
theorem rq {l:List Oper}{m:Nat} (J:vi l m=true) {i:Nat}{o:Oper} (O:l[i]? = some o):∀ j ∈ jI o,j<i:=by
 unfold vi at J;rw [Sg,RE] at J;have:=J.1 (o,i) (by rw [List.mem_zipIdx_iff_getElem?]; simpa using O)
 simpa only [RE,RA] using this
theorem BY {l:List Oper}{m:Nat} (O:vi l m=true) {listed:Nat->Prop} (dc:∀ i o,l[i]? = some o->listed i->∀ j ∈ jI o,listed j)
  {i:Nat}{o:Oper} (Z:l[i]? = some o) (hm:m<=i) (hw:∀ q ∈ jI o,listed q):∀ j,j<i->listed j:=by
 unfold vi at O;rw [Sg,RE,RE] at O;have J:=O.2 (o,i) (by rw [List.mem_zipIdx_iff_getElem?]; simpa using Z)
 simp only [R6,RA,RE,Ri] at J;have hi:i<l.length:=(Qt.1 Z).1;intro j hj;rcases J with J | J
 ·omega
 ·exact xK dc l [] (λk q Y=>by simpa using Y) (λk Y=>by simp at Y) i (by simpa using hi) o Z hw j (J j hj)
def ua:List Nat->(Nat->List bQ)->List bQ->List bQ
 | [],_,M=>M
 | c::cs,R,M=>R c++ua cs R M
theorem zC (cs:List Nat) (R:Nat->List bQ) (M:List bQ):ua cs R M=cs.flatMap R++M:=by
 induction cs with
 | nil=>rfl
 | cons c cs ih=>rw [ua,ih,RJ,QV]
def Ce (R:Nat->List bQ) (i:Nat) (rs:List bQ):Nat->List bQ:=λk=>bif Nat.beq k i then rs else R k
theorem Ad (R:Nat->List bQ) (i:Nat) (rs:List bQ):Ce R i rs i=rs:=by simp [Ce]
theorem AO (R:Nat->List bQ) (i k:Nat) (rs:List bQ) (h:k≠i):Ce R i rs k=R k:=by
 unfold Ce;cases J:Nat.beq k i with
 | false=>rfl
 | true=>exact absurd (SK J) h
abbrev MY:=Nat->Hp->List bQ->Qn->Prop
def L4:Option Nat->Qn->Env->Env
 | some t,v,L=>(t,v)::L
 | none,_,L=>L
def Hc (l:List Oper) (j:Nat):Option Nat:=match l[j]? with
 | none=>none
 | some o=>match o.dst with
  | some _=>none
  | none=>match o.op with
   | .store _ (.tmp s) _=>bif (jI o).any (λw=>match (l[w]?).bind (·.dst) with
    | some u=>Nat.beq u s
    | none=>false) then some s else none
   | _=>none
theorem Nt {l:List Oper}{j s:Nat} (h:Hc l j=some s):∃ o,l[j]? = some o/\o.dst=none/\∃ w ∈ jI o,(l[w]?).bind (·.dst)=some s:=by
 unfold Hc at h
 split at h
 ·cases h
 ·rename_i o ho
  split at h
  ·cases h
  ·rename_i hd
   split at h
   ·rename_i T s' z hop
    cases J:(jI o).any (λw=>match (l[w]?).bind (·.dst) with
     | some u=>Nat.beq u s'
     | none=>false) with
    | false=>rw [J] at h; cases h
    | true=>
     rw [J] at h;cases h;rw [List.any_eq_true] at J;obtain ⟨w,O,J⟩:=J;refine ⟨o,ho,hd,w,O,?_⟩
     split at J
     ·rename_i u hu
      rw [hu,SK J]
     ·cases J
   ·cases h
def wL (l:List Oper) (Φ:MY) (H:Hp):List Nat->Env->(Nat->List bQ)->(Env->(Nat->List bQ)->Prop)->Prop
 | [],L,R,k=>k L R
 | j::J,L,R,k=>match (l[j]?).bind (·.dst) with
  | some t=>∀ v rs,Φ j H rs v->wL l Φ H J ((t,v)::L) (Ce R j rs) k
  | none=>match Hc l j with
   | none=>∀ rs,Φ j H rs undef->wL l Φ H J L (Ce R j rs) k
   | some s=>∀ v rs,(∀ u,lk L s=some u->v=u)->Φ j H rs v->wL l Φ H J L (Ce R j rs) k
def Pn (L:Env) (v:Qn):Option Nat->Option Nat->Prop
 | some _,_=>True
 | none,none=>v=undef
 | none,some s=>lk L s=some v
def C3 (x:Cx) (H:Hp) (M:List bQ) (L:Env) (t J:Option Nat) (O:Hp->List bQ->Qn->Prop):l8:=λe a w=>
 e=.normal/\∃ v H' rs,Sl x.N (L4 t v L) a/\Pn L v t J/\H.le H'/\St x.B x.w0 H' (rs++M) w/\O H' rs v
theorem fU {x:Cx}{H H':Hp}{M:List bQ}{L:Env}{t:Nat}{Y:Option Nat}{v:Qn}{O:Hp->List bQ->Qn->Prop} (rs:List bQ) (J:H.le H') (h:O H' rs v):E x .normal (C3 x H M L (some t) Y O) H' (rs++M) ((t,v)::L):=
 λ_ _ hs ht=>⟨rfl,v,H',rs,hs,Qo,J,ht,h⟩
theorem zG {x:Cx}{H H':Hp}{M:List bQ}{L:Env}{O:Hp->List bQ->Qn->Prop} (rs:List bQ) (J:H.le H') (h:O H' rs undef):E x .normal (C3 x H M L none none O) H' (rs++M) L:=
 λ_ _ hs ht=>⟨rfl,undef,H',rs,hs,rfl,J,ht,h⟩
theorem nP {x:Cx}{H H':Hp}{M:List bQ}{L:Env}{s:Nat}{v:Qn}{O:Hp->List bQ->Qn->Prop} (hl:lk L s=some v) (rs:List bQ) (J:H.le H') (h:O H' rs v):E x .normal (C3 x H M L none (some s) O) H' (rs++M) L:=
 λ_ _ hs ht=>⟨rfl,v,H',rs,hs,hl,J,ht,h⟩
def El (m:Nat) (I:List (List bQ)):Nat->List bQ:=λk=>if k<m then [] else I.getD (k-m) []
def xt (x:Cx) (l:List Oper) (Φ:MY) (C U:List (List Nat)) (Es:List Env) (J:Nat->List bQ) (H:Hp) (M:List bQ) (L:Env):Nat->List Oper->Prop
 | _,[]=>True
 | i,o::r=>(∀ H',H.le H'->∀ X Rest,(∀ s ∈ M,s ∈ Rest)->wL l Φ H' (jI o) (Es.getD i []++(L++X)) J (λL' R=>(∀ s ∈ ua (U.getD i []) R [],s ∈ Rest)->(∃ O,(ua (U.getD i []) R O).Perm Rest)->W x l.toArray (C3 x H' Rest L' o.dst (Hc l i) (Φ i)) [o] H' (ua (C.getD i []) R Rest) L')) /\
   xt x l Φ C U Es J H M L (i+1) r
theorem xt.at {x:Cx}{l:List Oper}{Φ:MY}{C U:List (List Nat)}{Es:List Env}{J:Nat->List bQ}{H:Hp}{M:List bQ}{L:Env}:∀ {r:List Oper}{i:Nat},xt x l Φ C U Es J H M L i r->∀ j o,r[j]? = some o ->
  ∀ H',H.le H'->∀ X Rest,(∀ s ∈ M,s ∈ Rest)->wL l Φ H' (jI o) (Es.getD (i+j) []++(L++X)) J (λL' R=>(∀ s ∈ ua (U.getD (i+j) []) R [],s ∈ Rest)->(∃ O,(ua (U.getD (i+j) []) R O).Perm Rest)->W x l.toArray (C3 x H' Rest L' o.dst (Hc l (i+j)) (Φ (i+j))) [o] H' (ua (C.getD (i+j) []) R Rest) L')
 | [],_,_,j,o,h=>by simp at h
 | p::r,i,hh,0,o,h=>by simp at h; subst h; exact hh.1
 | p::r,i,hh,j+1,o,h=>by
  have:=xt.at hh.2 j o (by simpa using h)
  rwa [show i+1+j=i+(j+1) from by omega] at this
def tG (a:Act) (v:Qn):Option Nat->Option Nat->Prop
 | some t,_=>a.tmps[t]? = some v
 | none,none=>v=undef
 | none,some s=>a.tmps[s]? = some v
theorem wL.use {l:List Oper}{Φ:MY}{H:Hp}{a:Act}{N:Nat}{Rt:Nat->List bQ}:∀ {js:List Nat}{L:Env}{R:Nat->List bQ}{k:Env->(Nat->List bQ)->Prop},wL l Φ H js L R k->Sl N L a ->
  (∀ j ∈ js,∃ v,tG a v ((l[j]?).bind (·.dst)) (Hc l j)/\Φ j H (Rt j) v) ->
  ∃ Y R',k (Y++L) R'/\Sl N (Y++L) a/\(∀ t v,(t,v) ∈ Y->a.tmps[t]? = some v)/\(∀ q,q ∈ js->R' q=Rt q)/\∀ q,q ∉ js->R' q=R q
 | [],L,R,k,h,hs,_=>⟨[],R,h,hs,by simp,by simp,λq _=>rfl⟩
 | j::js,L,R,k,h,hs,hv=>by
  obtain ⟨v,O,h2⟩:=hv j (Qu ..);have J:∀ {R':Nat->List bQ},(∀ q,q ∈ js->R' q=Rt q)->(∀ q,q ∉ js->R' q=Ce R j (Rt j) q)->(∀ q,q ∈ j::js->R' q=Rt q)/\∀ q,q ∉ j::js->R' q=R q:=by
   intro R' h6 Z;constructor
   ·intro q hq
    by_cases hqj:q ∈ js
    ·exact h6 q hqj
    ·rcases Ra.1 hq with rfl | hq
     ·rw [Z _ hqj,Ad]
     ·exact absurd hq hqj
   ·intro q hq
    rw [Z q (λh=>hq (Qy _ h)),AO _ _ _ _ (λe=>hq (by rw [e]; exact Qu ..))]
  unfold wL at h;cases ht:(l[j]?).bind (·.dst) with
  | none=>
   rw [ht] at h O;cases hk:Hc l j with
   | none=>
    rw [hk] at h O;simp only [tG] at O;subst O;obtain ⟨Y,R',h3,h4,h5,h6,Z⟩:=wL.use (h (Rt j) h2) hs (λi hi=>hv i (Qy _ hi));exact ⟨Y,R',h3,h4,h5,(J h6 Z).1,(J h6 Z).2⟩
   | some s=>
    rw [hk] at h O;simp only [tG] at O;obtain ⟨Y,R',h3,h4,h5,h6,Z⟩:=wL.use (h v (Rt j) (λu hu=>by have:=hs.get s u hu; rw [O] at this; exact Qs this) h2) hs (λi hi=>hv i (Qy _ hi))
    exact ⟨Y,R',h3,h4,h5,(J h6 Z).1,(J h6 Z).2⟩
  | some t=>
   rw [ht] at h O;simp only [tG] at O;obtain ⟨Y,R',h3,h4,h5,h6,Z⟩:=wL.use (h v (Rt j) h2) (hs.cons O) (λi hi=>hv i (Qy _ hi));refine ⟨Y++[(t,v)],R',by simpa using h3,by simpa using h4,?_,(J h6 Z).1,(J h6 Z).2⟩
   intro u w hm;rcases QG.1 hm with hm | hm
   ·exact h5 u w hm
   ·simp at hm; obtain ⟨rfl,rfl⟩:=hm; exact O
def Ds (l:List Oper) (m:Nat) (Es:List Env):Bool:=
 (List.range m).all λi=>((Es.getD i []).map (·.1)).all λt=>(List.range m).all λw=>match (l[w]?).bind (·.dst) with
  | some u=>!Nat.beq u t || ((BM [] l).getD w 0).testBit i
  | none=>true
def yJ (l:List Oper) (m:Nat) (L:Env):Bool:=
 (l.take m).all (λo=>match o.dst with
  | some t=>(lk L t).isNone
  | none=>true)
def yK (l:List Oper) (m:Nat):Bool:=decide (((l.take m).filterMap (·.dst)).Nodup)
def GG (l:List Oper) (m K:Nat) (C U:List (List Nat)) (live:List Nat):Bool:=
 ((List.range m).all λi=>(U.getD i []).all λu=>(Nat.ble m u || match l[i]? with
  | some o=>(jI o).contains u
  | none=>false) && Nat.blt u K && (List.range m).all λi'=>!(C.getD i' []).contains u || ((BM [] l).getD i' 0).testBit i) &&
 Nat.beq C.length m && (List.range m).all (λi=>(C.getD i []).all λc=>Nat.ble m c || match l[i]? with
  | some o=>(jI o).contains c
  | none=>false) &&
 (C.flatten++live).all (λc=>Nat.blt c K) && ((List.range K).all λk=>Nat.beq ((C.flatten++live).count k) 1) && (List.range m).all λi=>decide ((U.getD i []).Nodup)
section
variable {x:Cx}{l:List Oper}{m K:Nat}{Φ:MY}{C U:List (List Nat)}{live:List Nat}{I:List (List bQ)}{Es:List Env}{H:Hp}{M:List bQ}{L L0:Env}{Q:l8}
structure Ah (l:List Oper) (m K:Nat) (C U:List (List Nat)) (live:List Nat):Prop where
 len:C.length=m
 wait:∀ i o,i<m->l[i]? = some o->∀ c ∈ C.getD i [],m<=c\/c ∈ jI o
 lt:∀ c ∈ C.flatten++live,c<K
 nd:(C.flatten++live).Nodup
 all:∀ k,k<K->k ∈ C.flatten++live
 OA:∀ i o,i<m->l[i]? = some o->∀ u ∈ U.getD i [],(m<=u\/u ∈ jI o)/\u<K
 Oz:∀ i,i<m->∀ u ∈ U.getD i [],∀ i',i'<m->u ∈ C.getD i' []->((BM [] l).getD i' 0).testBit i=true
 Pv:∀ i,i<m->(U.getD i []).Nodup
theorem Mh (h:GG l m K C U live=true):Ah l m K C U live:=by
 unfold GG at h;simp only [Sg] at h;obtain ⟨⟨⟨⟨⟨h0,h1⟩,h2⟩,h3⟩,h4⟩,J⟩:=h;rw [RE] at h0 h2 h3 h4 J;have hU:∀ i,i<m->∀ u ∈ U.getD i [],((Nat.ble m u || match l[i]? with
  | some o=>(jI o).contains u
  | none=>false)=true/\u<K)/\∀ i',i'<m->u ∈ C.getD i' []->((BM [] l).getD i' 0).testBit i=true:=by
  intro i hi u Z;have:=h0 i (Ri.2 hi);rw [RE] at this;have:=this u Z;rw [Sg,Sg,RE] at this;refine ⟨⟨this.1.1,by simpa [RA] using this.1.2⟩,λi' hi' O=>?_⟩
  have J:=this.2 i' (Ri.2 hi');rw [R6] at J;rcases J with J | J
  ·have h6:(C.getD i' []).contains u=true:=by rw [T_]; exact O
   rw [h6] at J; cases J
  ·exact J
 have O:∀ k,k<K->(C.flatten++live).count k=1:=λk hk=>SK (h4 k (Ri.2 hk));have Y:∀ c ∈ C.flatten++live,c<K:=λc O=>by simpa [RA] using h3 c O
 refine ⟨SK h1,?_,Y,?_,?_,?_,λi hi u Z=>(hU i hi u Z).2,λi hi=>Qv (J i (Ri.2 hi))⟩
 ·intro i o hi ho c O
  have:=h2 i (Ri.2 hi);rw [RE] at this;have:=this c O;rw [ho] at this;simpa [R6,S8,T_] using this
 ·rw [List.nodup_iff_count]
  intro a
  by_cases ha:a<K
  ·rw [O a ha]; exact QM _
  ·rw [List.count_eq_zero.2 (λhm=>ha (Y a hm))]; omega
 ·intro k hk
  rw [<- List.count_pos_iff,O k hk]; omega
 ·intro i o hi ho u Z
  have:=(hU i hi u Z).1;rw [ho] at this;refine ⟨?_,this.2⟩;have J:=this.1;rw [R6] at J;rcases J with J | J
  ·exact .inl (by simpa [S8] using J)
  ·exact .inr (by simpa [T_] using J)
theorem Ah.uniq (h:Ah l m K C U live) {i i' k:Nat} (hi:k ∈ C.getD i []) (J:k ∈ C.getD i' []):i=i':=by
 have O:=(Rj.1 h.nd).1;unfold List.Nodup at O;rw [List.pairwise_flatten] at O;have Y:=Ty.1 O.2;have Z:i<C.length:=by
  by_cases e:i<C.length
  ·exact e
  ·rw [Q1,Rn (by omega)] at hi; simp at hi
 have g2:i'<C.length:=by
  by_cases e:i'<C.length
  ·exact e
  ·rw [Q1,Rn (by omega)] at J; simp at J
 rw [Q1,Qp Z] at hi;rw [Q1,Qp g2] at J;simp only [Su] at hi J;rcases Tw i i' with q | q | q
 ·exact absurd rfl (Y i i' Z g2 q _ hi _ J)
 ·exact q
 ·exact absurd rfl (Y i' i g2 Z q _ J _ hi)
theorem Ah.mem (h:Ah l m K C U live) {i k:Nat} (hi:k ∈ C.getD i []):k ∈ C.flatten:=by
 have J:i<C.length:=by
  by_cases e:i<C.length
  ·exact e
  ·rw [Q1,Rn (by omega)] at hi; simp at hi
 rw [Q1,Qp J] at hi;exact List.mem_flatten.2 ⟨_,Q3 J,hi⟩
theorem Ah.P3 (h:Ah l m K C U live) (i:Nat):(C.getD i []).Nodup:=by
 have J:=(Rj.1 h.nd).1;unfold List.Nodup at J;rw [List.pairwise_flatten] at J
 by_cases e:i<C.length
 ·rw [Q1,Qp e]; exact J.1 _ (Q3 e)
 ·rw [Q1,Rn (by omega)]; simp
def alive (m:Nat) (C:List (List Nat)) (listed:Array Bool) (k:Nat):Bool:=(Nat.ble m k || listed.getD k false) && !(List.range m).any λi=>listed.getD i false && (C.getD i []).contains k
theorem su {listed:Array Bool}{k:Nat}:alive m C listed k=true↔(m<=k\/listed.getD k false=true)/\∀ i,i<m->listed.getD i false=true->k ∉ C.getD i []:=by
 unfold alive;simp only [Sg,R6,S8,Bool.not_eq_true',List.any_eq_false,Ri,T_];constructor
 ·rintro ⟨J,O⟩; exact ⟨J,λi hi hl hm=>O i hi ⟨hl,hm⟩⟩
 ·rintro ⟨J,O⟩; exact ⟨J,λi hi ⟨hl,hm⟩=>O i hi hl hm⟩
theorem Fu (hB:vi l m=true):∀ (f i:Nat) (listed:Array Bool) (a:Act) (w:World),m<=i->listed.size=l.length->i<=l.length->l.length<=i+f ->
  (∀ j,j<l.length->listed.getD j true=decide (j<i))->wpList x.P l.toArray Q (l.drop i) a w->wpAny x.P .any l.toArray Q f listed a w
 | 0,i,listed,a,w,hm,hsz,hf0,hf,hl,h=>by
  have hi:i=l.length:=by omega
  refine ⟨?_,by rw [hi,Tj] at h; exact h⟩
  rw [List.eq_nil_iff_forall_not_mem];intro j J;obtain ⟨h1,h2,_⟩:=mem_ready.1 J;rw [hl j (by simpa using h1)] at h2
  simp at h1 h2; omega
 | f+1,i,listed,a,w,hm,hsz,hf0,hf,hl,h=>by
  by_cases e2:i=l.length
  ·have O:Region.ready .any l.toArray listed=[]:=by
    rw [List.eq_nil_iff_forall_not_mem];intro j J;obtain ⟨q1,q2,_⟩:=mem_ready.1 J;rw [hl j (by simpa using q1)] at q2
    simp at q1 q2; omega
   exact ⟨λ_=>by rw [e2,Tj] at h; exact h,λj J=>by rw [O] at J; cases J⟩
  ·have hi:i<l.length:=by omega
   have ho:l[i]? = some l[i]:=Qp hi;have Y:∀ j,j<l.length->listed.getD j false=decide (j<i):=λj J=>by
    have:=hl j J;simp only [Rc] at this ⊢;rw [Tc (by omega)] at this ⊢
    simpa using this
   have Z:i ∈ Region.ready .any l.toArray listed:=by
    refine mem_ready.2 ⟨by simpa using hi,by rw [hl i hi]; simp,l[i],by simp,λj J=>?_⟩
    have hj':=rq hB ho j J;rw [Y j (by omega)]; simpa using hj'
   have huniq:∀ j ∈ Region.ready .any l.toArray listed,j=i:=by
    intro j J;obtain ⟨q1,q2,o,ho',hw⟩:=mem_ready.1 J;have q1':j<l.length:=by simpa using q1
    rw [hl j q1'] at q2;have hji:i<=j:=by simpa using q2
    by_cases e:j=i
    ·exact e
    ·exfalso
     have:=BY hB (listed:=λq=>q<i) (λk o hk hki q hq=>by have:=rq hB hk q hq; omega) (i:=j) (o:=o) (by simpa using ho') (by omega)
      (λq hq=>by
       have h1:=hw q hq;have h2:=rq hB (i:=j) (o:=o) (by simpa using ho') q hq
       rw [Y q (by omega)] at h1
       simpa using h1) i (by omega)
     omega
   refine ⟨λhe=>(by rw [he] at Z; cases Z),λj J=>?_⟩
   obtain rfl:=huniq j J;unfold wpOp;rw [show l.toArray[j]? = some l[j] from by simp]
   rw [Q0 hi] at h;have step:∀ a w,wpList x.P l.toArray Q (l.drop (j+1)) a w->wpAny x.P .any l.toArray Q f (listed.setIfInBounds j true) a w:=λa w hh=>
    Fu hB f (j+1) _ a w (by omega) (by simpa using hsz) (by omega) (by omega) (λk hk=>by
     rw [uT _ _ _ _ (by omega),hl k hk]
     by_cases e:k=j
     ·subst e; simp
     ·simp [e]; omega) hh
   unfold wpList at h
   dsimp only
   split
   ·rename_i hw; rw [Qx hw] at h; exact h.imp (Oper.wp_mono step) id
   ·rename_i hw; rw [Qw hw] at h; exact step _ _ h
theorem zv {A B:List Nat} (J:A.Nodup) (O:B.Nodup) (h:∀ a,a ∈ A↔a ∈ B) (R:Nat->List bQ) (M:List bQ):(A.flatMap R++M).Perm (B.flatMap R++M):=
 (((List.perm_ext_iff_of_nodup J O).2 h).flatMap_right R).append_right M
theorem uB {A:List Nat}{R R':Nat->List bQ} (h:∀ a ∈ A,R a=R' a):A.flatMap R=A.flatMap R':=by
 induction A with
 | nil=>rfl
 | cons a A ih=>rw [RJ,RJ,h a (Qu ..),ih λb J=>h b (Qy _ J)]
theorem LZ (hB:vi l m=true) (hml:m<=l.length) (hD:yJ l m L0=true) (hX0:Ds l m Es=true) (hL0:∀ t v,lk L0 t=some v->lk L t=some v) (hE:∀ i t v,lk (Es.getD i []) t=some v->lk L t=some v) (hNd:yK l m=true) (hT:Ah l m K C U live) (hmK:m<=K)
  (hmono:∀ i H1 H2 rs v,H1.le H2->Φ i H1 rs v->Φ i H2 rs v)
  (hop:xt x l Φ C U Es (El m I) H M L0 0 (l.take m))
  (k:∀ H',H.le H'->wL l Φ H' (List.range m) L0 (El m I) (λL' R=>W x l.toArray Q (l.drop m) H' (ua live R M) L')):
  ∀ (J:Nat) (listed:Array Bool) (a:Act) (w:World) (H':Hp) (R:Nat->List bQ),listed.size=l.length->left l listed<=J->(∀ j,m<=j->j<l.length->listed.getD j true=false) ->
   (∀ i o,l[i]? = some o->listed.getD i false=true->∀ j ∈ jI o,listed.getD j false=true) ->
   H.le H'->St x.B x.w0 H' (((List.range K).filter (alive m C listed)).flatMap R++M) w->Sl x.N [] a->(∀ t v,lk L t=some v->(∀ w o,w<m->l[w]? = some o->o.dst=some t->listed.getD w false=false)->a.tmps[t]? = some v)->(∀ q,m<=q->R q=El m I q) ->
   (∀ i o,i<m->l[i]? = some o->listed.getD i true=true->∃ v,tG a v o.dst (Hc l i)/\Φ i H' (R i) v) ->
   wpAny x.P .any l.toArray Q J listed a w:=by
 have hdst:∀ i o t,i<m->l[i]? = some o->o.dst=some t->lk L0 t=none:=by
  intro i o t him ho hd;have htake:(l.take m)[i]? = some o:=by rw [Rf,Qx him]; exact ho
  unfold yJ at hD;rw [RE] at hD;have:=hD o (QB htake);rw [hd] at this; simpa using this
 have fin:∀ (J:Nat) (listed:Array Bool) (a:Act) (w:World) (H':Hp) (R:Nat->List bQ),listed.size=l.length->left l listed<=J->(∀ j,m<=j->j<l.length->listed.getD j true=false) ->
   H.le H'->St x.B x.w0 H' (((List.range K).filter (alive m C listed)).flatMap R++M) w->Sl x.N [] a->(∀ t v,lk L t=some v->(∀ w o,w<m->l[w]? = some o->o.dst=some t->listed.getD w false=false)->a.tmps[t]? = some v)->(∀ q,m<=q->R q=El m I q) ->
   (∀ i o,i<m->l[i]? = some o->listed.getD i true=true->∃ v,tG a v o.dst (Hc l i)/\Φ i H' (R i) v) ->
   (∀ j,j<m->listed.getD j true=true)->wpAny x.P .any l.toArray Q J listed a w:=by
  intro J listed a w H' R hsz hf htl hle ht hs0 hsl um hv hall;have hs:Sl x.N L0 a:=⟨hs0.size,hs0.EL,λt v h=>hsl t v (hL0 t v h) (λw o hw ho hd=>by rw [hdst w o t hw ho hd] at h; cases h)⟩
  have hget:∀ j,j<l.length->listed.getD j false=listed.getD j true:=λj hj=>by
   simp only [Rc];rw [Tc (by omega)]; rfl
  obtain ⟨Y,R',h1,h2,_,h3,h4⟩:=wL.use (Rt:=R) (k H' hle) hs (λj hj=>by
   have hj':=Ri.1 hj;have ho:l[j]? = some l[j]:=Qp (by omega)
   rw [ho];exact hv j _ hj' ho (hall j hj'))
  have hR:∀ q,R' q=R q:=λq=>by
   by_cases Z:q<m
   ·exact h3 q (Ri.2 Z)
   ·rw [h4 q (λh=>Z (Ri.1 h)),um q (by omega)]
  have hwl:wpList x.P l.toArray Q (l.drop m) a w:=by
   refine h1 a w h2 (ht.perm ?_);rw [zC,uB (R:=R') (R':=R) (λq _=>hR q)];refine zv (List.nodup_range.filter _) (Rj.1 hT.nd).2.1 ?_ R M;intro q;rw [Ru,Ri,su];constructor
   ·rintro ⟨h5,h6,h7⟩
    rcases QG.1 (hT.all q h5) with h8 | h8
    ·exfalso
     obtain ⟨c,hc,hqc⟩:=List.mem_flatten.1 h8;obtain ⟨i,hi,rfl⟩:=RG.1 hc;have him:i<m:=by rw [<- hT.len]; exact hi
     refine h7 i him (by rw [hget i (by omega)]; exact hall i him) ?_
     rw [Q1,Qp hi]; exact hqc
    ·exact h8
   ·intro Z
    refine ⟨hT.lt q (Rs _ Z),?_,?_⟩
    ·by_cases e:m<=q
     ·exact .inl e
     ·exact .inr (by rw [hget q (by omega)]; exact hall q (by omega))
    ·intro i him _ hc
     exact (Rj.1 hT.nd).2.2 q (hT.mem hc) q Z rfl
  have hl:∀ j,j<l.length->listed.getD j true=decide (j<m):=by
   intro j hj
   by_cases e:j<m
   ·rw [hall j e]; simp [e]
   ·rw [htl j (by omega) hj]; simp [e]
  have hcount:l.length<=m+J:=by
   have:l.length-m<=left l listed:=by
    unfold left;have h1:(List.range l.length).countP (λi=>!listed.getD i true)=(List.range l.length).countP (λi=>decide (m<=i)):=by
     refine List.countP_congr λj hj=>?_;rw [hl j (Ri.1 hj)];simp
    rw [h1];have h2:∀ n,(List.range n).countP (λi=>decide (m<=i))=n-m:=by
     intro n
     induction n with
     | zero=>simp
     | succ n ihn=>
      rw [TV,List.countP_append,ihn];simp only [List.countP_cons,List.countP_nil]
      by_cases e:m<=n
      ·simp [e]; omega
      ·simp [e]; omega
    rw [h2]; exact QM _
   omega
  exact Fu hB J m listed a w (QM _) hsz hml hcount hl hwl
 intro J
 induction J with
 | zero=>
  intro listed a w H' R hsz hf htl hdc hle ht hs0 hsl um hv;refine fin 0 listed a w H' R hsz hf htl hle ht hs0 hsl um hv (λj hj=>?_);have:left l listed=0:=by omega
  unfold left at this;rw [List.countP_eq_zero] at this;have:=this j (Ri.2 (by omega))
  simpa using this
 | succ J ih=>
  intro listed a w H' R hsz hf htl hdc hle ht hs0 hsl um hv
  by_cases hall:∀ j,j<m->listed.getD j true=true
  ·exact fin (J+1) listed a w H' R hsz hf htl hle ht hs0 hsl um hv hall
  ·have hs:Sl x.N L0 a:=⟨hs0.size,hs0.EL,λt v h=>hsl t v (hL0 t v h) (λw o hw ho hd=>by rw [hdst w o t hw ho hd] at h; cases h)⟩
   have hget:∀ j,j<l.length->listed.getD j false=listed.getD j true:=λj hj=>by
    simp only [Rc];rw [Tc (by omega)]; rfl
   have hex:∃ j,j<m/\listed.getD j true=false:=by
    refine Classical.byContradiction λhno=>hall λj hj=>?_;cases hb:listed.getD j true with
    | true=>rfl
    | false=>exact absurd ⟨j,hj,hb⟩ hno
   obtain ⟨j0,⟨hj0,hf0⟩,hleast⟩:=least (p:=λj=>j<m/\listed.getD j true=false) hex.choose hex.choose_spec;have hne:Region.ready .any l.toArray listed≠[]:=by
    intro he;have hlt:j0<l.length:=by omega
    have ho:l[j0]? = some l[j0]:=Qp hlt;have:j0 ∈ Region.ready .any l.toArray listed:=by
     refine mem_ready.2 ⟨by simpa using hlt,hf0,l[j0],by simp,λj hj=>?_⟩
     have hj':=rq hB ho j hj;rw [hget j (by omega)]
     cases hb:listed.getD j true with
     | true=>rfl
     | false=>have:=hleast j ⟨by omega,hb⟩; omega
    rw [he] at this; cases this
   refine ⟨λhe=>absurd he hne,λi hi=>?_⟩;obtain ⟨h1,h2,o,ho',hw⟩:=mem_ready.1 hi;have h1':i<l.length:=by simpa using h1
   have ho:l[i]? = some o:=by simpa using ho'
   have him:i<m:=by
    by_cases e:i<m
    ·exact e
    ·exfalso
     have:=BY hB (listed:=λq=>listed.getD q false=true) (λk o hk hki q Z=>hdc k o hk hki q Z) ho (by omega) hw j0 (by omega)
     rw [hget j0 (by omega),hf0] at this; cases this
   have htake:(l.take m)[i]? = some o:=by rw [Rf,Qx him]; exact ho
   have hnl:listed.getD i false=false:=by rw [hget i h1']; exact h2
   have hCal:∀ c ∈ C.getD i [],c ∈ (List.range K).filter (alive m C listed):=by
    intro c hc;rw [Ru,Ri,su];refine ⟨hT.lt c (Qq _ (hT.mem hc)),?_,?_⟩
    ·rcases hT.wait i o him ho c hc with h | h
     ·exact .inl h
     ·exact .inr (hw c h)
    ·intro i' hi' hl' hc'
     have:=hT.uniq hc hc';subst this;rw [hnl] at hl'; cases hl'
   let A:=(List.range K).filter (alive m C listed)
   let Bs:=A.filter (λc=>!(C.getD i []).contains c)
   have hAnd:A.Nodup:=List.nodup_range.filter _;have hBnd:Bs.Nodup:=hAnd.filter _;have hperm:(A.flatMap R++M).Perm ((C.getD i []++Bs).flatMap R++M):=by
    refine zv hAnd ?_ ?_ R M
    ·refine Rj.2 ⟨hT.P3 i,hBnd,?_⟩
     rintro a ha b hb rfl;have:=(Ru.1 hb).2;simp at this;exact this (by simpa [Q1] using ha)
    ·intro q
     rw [QG];constructor
     ·intro Z
      by_cases hqc:q ∈ C.getD i []
      ·exact .inl hqc
      ·exact .inr (Ru.2 ⟨Z,by simpa using hqc⟩)
     ·rintro (Z | Z)
      ·exact hCal q Z
      ·exact (Ru.1 Z).1
   have ht1:=ht.perm hperm;rw [TP,QV] at ht1
   let Rest:=Bs.flatMap R++M
   let X1:Env:=(List.range m).filterMap λj=>if listed.getD j true then (l[j]?).bind λo=>o.dst.map λu=>(u,a.tmps.getD u undef) else none
   let X2:Env:=(L.map (·.1)).filterMap λt=>if (List.range m).all (λw=>match (l[w]?).bind (·.dst) with
    | some u=>!Nat.beq u t || !listed.getD w false
    | none=>true) then (lk L t).map λv=>(t,v) else none
   let X:Env:=X1++X2
   have hX2:∀ u v,(u,v) ∈ X2->a.tmps[u]? = some v:=by
    intro u v hm;obtain ⟨t,ht',hh⟩:=Uv.1 hm
    split at hh
    ·rename_i hall2
     rw [T5] at hh;obtain ⟨v',hv',hh⟩:=hh;cases hh;refine hsl _ _ hv' (λw' o' hw' ho' hd'=>?_);rw [RE] at hall2;have h9:=hall2 w' (Ri.2 hw');rw [ho'] at h9;simp only [S9,hd'] at h9;have h10:Nat.beq u u=true:=Nat.beq_refl u;rw [h10] at h9;simpa using h9
    ·cases hh
   have hX1:∀ u v,(u,v) ∈ X1->a.tmps[u]? = some v:=by
    intro u v hm;obtain ⟨j,hj,hh⟩:=Uv.1 hm
    split at hh
    ·rename_i hlj
     rw [UE] at hh;obtain ⟨oj,O,hh⟩:=hh;rw [T5] at hh;obtain ⟨u',hu',hh⟩:=hh;cases hh;obtain ⟨v',hv',_⟩:=hv j oj (Ri.1 hj) O hlj;rw [hu'] at hv';simp only [tG] at hv';simp [Rc,hv']
    ·cases hh
   have hX:∀ u v,(u,v) ∈ X->a.tmps[u]? = some v:=λu v hm=>(QG.1 hm).elim (hX1 u v) (hX2 u v);have hdep:=(xt.at hop i o htake) H' hle X Rest (λs hs=>Rs _ hs);simp only [QP] at hdep;have hwl:∀ j ∈ jI o,j<m/\listed.getD j true=true:=λj hj=>by
    have h3:=rq hB ho j hj;refine ⟨by omega,?_⟩
    rw [<- hget j (by omega)]; exact hw j hj
   have hEi:∀ t v,lk (Es.getD i []) t=some v->a.tmps[t]? = some v:=by
    intro t v h;refine hsl t v (hE i t v h) (λw' o' hw' ho' hd'=>?_);cases hlw:listed.getD w' false with
    | false=>rfl
    | true=>
     exfalso;unfold Ds at hX0;rw [RE] at hX0;have h1:=hX0 i (Ri.2 him);rw [RE] at h1;have h2:=h1 t (Rd.2 ⟨_,Ge h,rfl⟩);rw [RE] at h2;have h3:=h2 w' (Ri.2 hw');rw [ho'] at h3;simp only [S9,hd'] at h3;have h10:Nat.beq t t=true:=Nat.beq_refl t;rw [h10] at h3;simp only [Bool.not_true,Bool.false_or] at h3;have:=xK (listed:=λq=>listed.getD q false=true) (λk o hk hki q Z=>hdc k o hk hki q Z) l [] (λk q hk=>by simpa using hk) (λk hk=>by simp at hk) w' (by simp; omega) o' ho' (λq Z=>hdc w' o' ho' hlw q Z) i h3
     rw [hnl] at this; cases this
   have hsE:Sl x.N (Es.getD i []++(L0++X)) a:=by
    refine ⟨hs.size,hs.EL,λt v h=>?_⟩;rw [zR] at h;cases hl:lk (Es.getD i []) t with
    | some u=>rw [hl] at h; simp at h; subst h; exact hEi t _ hl
    | none=>rw [hl] at h; simp at h; exact (hs.more hX).get t v h
   obtain ⟨Y,R',hk,hsY,hY,hR1,hR2⟩:=wL.use (Rt:=R) hdep hsE (λj hj=>by
    have hj':=hwl j hj;have O:l[j]? = some l[j]:=Qp (by omega)
    rw [O];exact hv j _ hj'.1 O hj'.2)
   have hRC:∀ c ∈ C.getD i [],R' c=R c:=by
    intro c hc;rcases hT.wait i o him ho c hc with h | h
    ·rw [hR2 c (λhcm=>by have:=hwl c hcm; omega),um c h]
    ·exact hR1 c h
   have hRU:∀ u ∈ U.getD i [],R' u=R u:=by
    intro u hu;have h5:=hT.OA i o him ho u hu;rcases h5.1 with h | h
    ·rw [hR2 u (λhcm=>by have:=hwl u hcm; omega),um u h]
    ·exact hR1 u h
   have hUB:∀ u ∈ U.getD i [],u ∈ Bs:=by
    intro u hu;have h5:=hT.OA i o him ho u hu;refine Ru.2 ⟨Ru.2 ⟨Ri.2 h5.2,su.2 ⟨?_,?_⟩⟩,?_⟩
    ·rcases h5.1 with h | h
     ·exact .inl h
     ·exact .inr (hw u h)
    ·intro i' hi' hl' hc'
     have h6:=hT.Oz i him u hu i' hi' hc';have hoi:l[i']? = some l[i']:=Qp (by omega)
     have:=xK (listed:=λq=>listed.getD q false=true) (λk o hk hki q Z=>hdc k o hk hki q Z) l [] (λk q hk=>by simpa using hk) (λk hk=>by simp at hk) i' (by simp; omega) _ hoi (λq Z=>hdc i' _ hoi hl' q Z) i h6
     rw [hnl] at this; cases this
    ·have h7:u ∉ C.getD i []:=by
      intro hc;have h6:=hT.Oz i him u hu i him hc;have hoi:l[i]? = some o:=ho;have:=xK (listed:=λq=>q<i) (λk o hk hki q Z=>by have:=rq hB hk q Z; omega) l [] (λk q hk=>by simpa using hk) (λk hk=>by simp at hk) i (by simpa using h1') o hoi (λq Z=>rq hB ho q Z) i h6
      omega
     simpa using h7
   have hUR:∀ s ∈ ua (U.getD i []) R' [],s ∈ Rest:=by
    rw [zC,Q8];intro s hs;obtain ⟨u,hu,hsu⟩:=Ss.1 hs;rw [hRU u hu] at hsu;exact Qq _ (Ss.2 ⟨u,hUB u hu,hsu⟩)
   have hUP:∃ Rr,(ua (U.getD i []) R' Rr).Perm Rest:=by
    refine ⟨(Bs.filter λc=>!(U.getD i []).contains c).flatMap R++M,?_⟩;rw [zC,uB (R:=R') (R':=R) hRU,<- QV,<- TP];refine zv ?_ hBnd ?_ R M
    ·refine Rj.2 ⟨hT.Pv i him,hBnd.filter _,?_⟩
     rintro a ha b hb rfl;have:=(Ru.1 hb).2;simp at this;exact this (by simpa [Q1] using ha)
    ·intro q
     rw [QG];constructor
     ·rintro (Z | Z)
      ·exact hUB q Z
      ·exact (Ru.1 Z).1
     ·intro Z
      by_cases hqu:q ∈ U.getD i []
      ·exact .inl hqu
      ·exact .inr (Ru.2 ⟨Z,by simpa using hqu⟩)
   have hone:=hk hUR hUP a w hsY (by
    rw [zC,uB (R:=R') (R':=R) hRC];exact ht1)
   have fin2:∀ a' w',C3 x H' Rest (Y++(Es.getD i []++(L0++X))) o.dst (Hc l i) (Φ i) .normal a' w'->wpAny x.P .any l.toArray Q J (listed.setIfInBounds i true) a' w':=by
    rintro a' w' ⟨_,v,H2,rs,hs2,hnv,hle2,ht2,hφ⟩;have hcv:tG a' v o.dst (Hc l i):=by
     cases hd:o.dst with
     | none=>
      cases hk:Hc l i with
      | none=>rw [hd,hk] at hnv; exact hnv
      | some s=>rw [hd,hk] at hnv; rw [hd] at hs2; exact hs2.get s v hnv
     | some t=>rw [hd] at hs2; exact hs2.get t v (by simp only [L4]; rw [tH]; simp)
    have hput:∀ u,o.dst≠some u->lk (L4 o.dst v (Y++(Es.getD i []++(L0++X)))) u=lk (Y++(Es.getD i []++(L0++X))) u:=by
     intro u hne;cases hd:o.dst with
     | none=>rfl
     | some t=>
      simp only [L4];rw [tH,Qw (λe=>hne (by rw [hd,e]))]
    have hYt:∀ u z,(u,z) ∈ Y++X->o.dst≠some u->a'.tmps[u]? = some z:=by
     intro u z hm hne;have hz:a.tmps[u]? = some z:=by
      rcases QG.1 hm with hm | hm
      ·exact hY u z hm
      ·exact hX u z hm
     have hlk:∃ z',lk (Y++(Es.getD i []++(L0++X))) u=some z':=by
      have hsome:∀ {E:Env}{u:Nat}{z:Qn},(u,z) ∈ E->∃ z',lk E u=some z':=by
       intro E u z
       induction E with
       | nil=>simp
       | cons p E ihE=>
        obtain ⟨q,r⟩:=p;intro hm;rw [tH]
        split
        ·exact ⟨_,rfl⟩
        ·rename_i hne
         rcases Ra.1 hm with e | hm
         ·cases e; exact absurd rfl hne
         ·exact ihE hm
      rcases QG.1 hm with hm | hm
      ·exact hsome (Qq _ hm)
      ·exact hsome (Rs _ (Rs _ (Rs _ hm)))
     obtain ⟨z',hz'⟩:=hlk;have e1:=hsY.get u z' hz';rw [hz] at e1;cases e1;exact hs2.get u z (by rw [hput u hne]; exact hz')
    have hset:∀ j,(listed.setIfInBounds i true).getD j false=if j=i then true else listed.getD j false:=λj=>uT _ _ _ _ (by omega)
    refine ih (listed.setIfInBounds i true) a' w' H2 (Ce R i rs) (by simpa using hsz) (by have:=Kb (l:=l) hsz h1' h2; omega) (λj hj hjl=>by rw [uT _ _ _ _ (by omega),Qw (by omega)]; exact htl j hj hjl) ?_ (Uk hle hle2) ?_ ?_ ?_ ?_ ?_
    ·intro j oj O hlj q Z
     rw [hset] at hlj ⊢
     split at hlj
     ·rename_i e; subst e
      rw [ho] at O; cases O
      split
      ·rfl
      ·exact hw q Z
     ·split
      ·rfl
      ·exact hdc j oj O hlj q Z
    ·
     have hiB:i ∉ Bs:=by
      intro hmB;have:=(Ru.1 hmB).1;rw [Ru,su] at this;rcases this.2.1 with h | h
      ·omega
      ·rw [hnl] at h; cases h
     have e1:rs++Rest=((i::Bs).flatMap (Ce R i rs))++M:=by
      rw [RJ,Ad,uB (A:=Bs) (R:=Ce R i rs) (R':=R) (λq Z=>AO _ _ _ _ (λe=>hiB (by rw [<- e]; exact Z))),QV]
     rw [e1] at ht2;refine ht2.perm (zv (TU.2 ⟨hiB,hBnd⟩) (List.nodup_range.filter _) ?_ _ M);intro q;rw [Ra,Ru,Ru,Ru,Ri,su,su];constructor
     ·rintro (rfl | ⟨⟨hqK,hq1,hq2⟩,hq3⟩)
      ·refine ⟨by omega,.inr (by rw [hset,Qx rfl]),?_⟩
       intro i' hi' hl' hc';rw [hset] at hl'
       split at hl'
       ·rename_i e; subst e
        rcases hT.wait i' o hi' ho _ hc' with h | h
        ·omega
        ·have:=rq hB ho _ h; omega
       ·have hoi:l[i']? = some l[i']:=Qp (by omega)
        rcases hT.wait i' _ hi' hoi _ hc' with h | h
        ·omega
        ·have:=hdc i' _ hoi hl' _ h
         rw [hnl] at this; cases this
      ·refine ⟨hqK,?_,?_⟩
       ·rcases hq1 with h | h
        ·exact .inl h
        ·exact .inr (by rw [hset]; split <;> simp [h])
       ·intro i' hi' hl' hc'
        rw [hset] at hl'
        split at hl'
        ·rename_i e; subst e
         simp at hq3;exact hq3 (by simpa [Q1] using hc')
        ·exact hq2 i' hi' hl' hc'
     ·rintro ⟨hqK,hq1,hq2⟩
      by_cases hqi:q=i
      ·exact .inl hqi
      ·refine .inr ⟨⟨hqK,?_,?_⟩,?_⟩
       ·rcases hq1 with h | h
        ·exact .inl h
        ·rw [hset,Qw hqi] at h; exact .inr h
       ·intro i' hi' hl' hc'
        exact hq2 i' hi' (by rw [hset]; split <;> simp [hl']) hc'
       ·have:=hq2 i him (by rw [hset,Qx rfl])
        simpa using this
    ·exact ⟨hs2.size,hs2.EL,λu z hu=>by simp [lk] at hu⟩
    ·intro u z hu hun
     have hne:o.dst≠some u:=λe=>by
      have:=hun i o him ho e;rw [hset,Qx rfl] at this; cases this
     refine hYt u z (Rs _ (Rs _ (Uv.2 ⟨u,Rd.2 ⟨_,Ge hu,rfl⟩,?_⟩))) hne;rw [Qx,hu]
     ·rfl
     ·rw [RE]
      intro w' hw';have hw'':=Ri.1 hw';have hoi:l[w']? = some l[w']:=Qp (by omega)
      rw [hoi];simp only [S9];cases hd':l[w'].dst with
      | none=>rfl
      | some q=>
       by_cases e:q=u
       ·subst e
        have h9:=hun w' _ hw'' hoi hd';rw [hset] at h9
        split at h9
        ·cases h9
        ·simp [h9]
       ·have:Nat.beq q u=false:=by
         cases hb:Nat.beq q u with
         | false=>rfl
         | true=>exact absurd (SK hb) e
        simp [this]
    ·intro q Z
     rw [AO _ _ _ _ (by omega)]; exact um q Z
    ·intro j oj hjm O hlj
     rw [uT _ _ _ _ (by omega)] at hlj
     by_cases e:j=i
     ·subst e
      rw [ho] at O; cases O
      rw [Ad];exact ⟨v,hcv,hφ⟩
     ·rw [Qw e] at hlj
      rw [AO _ _ _ _ e];obtain ⟨z,hz,hφj⟩:=hv j oj hjm O hlj;refine ⟨z,?_,hmono _ _ _ _ _ hle2 hφj⟩;have hNd2:∀ (j:Nat) (oj:Oper) (u:Nat),j<m->l[j]? = some oj->j≠i->oj.dst=some u->o.dst≠some u:=by
       intro j oj u hjm O e hdj e2;unfold yK at hNd;have hnd:=Qv hNd;have hnd2:(l.take m).Pairwise (λo1 o2=>∀ u,o1.dst=some u->∀ u',o2.dst=some u'->u≠u'):=by
        unfold List.Nodup at hnd;rw [List.pairwise_filterMap] at hnd;exact hnd.imp λh u hu u' hu'=>h u hu u' hu'
       have htj:(l.take m)[j]? = some oj:=by rw [Rf,Qx hjm]; exact O
       obtain ⟨hi',p1⟩:=Qt.1 htake;obtain ⟨hj',p2⟩:=Qt.1 htj;have hpw:=Ty.1 hnd2;rcases Nat.lt_or_gt_of_ne e with q | q
       ·exact hpw j i hj' hi' q u (by rw [p2]; exact hdj) u (by rw [p1]; exact e2) rfl
       ·exact hpw i j hi' hj' q u (by rw [p1]; exact e2) u (by rw [p2]; exact hdj) rfl
      have hkeep:∀ (j:Nat) (oj:Oper) (u:Nat),j<m->l[j]? = some oj->listed.getD j true=true->j≠i->oj.dst=some u->a.tmps[u]? = some z->a'.tmps[u]? = some z:=by
       intro j oj u hjm O hlj e hdj hz;refine hYt u z (Rs _ (Qq _ (Uv.2 ⟨j,Ri.2 hjm,?_⟩))) (hNd2 j oj u hjm O e hdj);simp [hlj,O,hdj,Rc,hz]
      cases hdj:oj.dst with
      | none=>
       rw [hdj] at hz;cases hk:Hc l j with
       | none=>rw [hk] at hz; exact hz
       | some s=>
        rw [hk] at hz;simp only [tG] at hz ⊢;obtain ⟨o2,ho2,_,w2,hw2,hd2⟩:=Nt hk;rw [O] at ho2; cases ho2
        have hlt2:=rq hB O w2 hw2;have hl2:=hdc j oj O (by rw [hget j (by omega)]; exact hlj) w2 hw2
        have hne2:w2≠i:=by rintro rfl; rw [hnl] at hl2; cases hl2
        rw [UE] at hd2;obtain ⟨ow,how,hdw⟩:=hd2;exact hkeep w2 ow s (by omega) how (by rw [<- hget w2 (by omega)]; exact hl2) hne2 hdw hz
      | some u=>
       rw [hdj] at hz;simp only [tG] at hz ⊢;exact hkeep j oj u hjm O hlj e hdj hz
   unfold wpOp;rw [show l.toArray[i]? = some o from by simpa using ho]
   unfold wpList at hone
   dsimp only
   by_cases hwn:Region.wanted o (yielded l.toArray a.tmps)=true
   ·rw [Qx hwn] at hone ⊢
    left
    rcases hone with h | ⟨_,a1,w1,h,_⟩
    ·unfold Oper.wp at h ⊢
     generalize (execOp a.eval o).run x.P w=r at h;have fin':∀ a' w',wpList x.P l.toArray (C3 x H' Rest (Y++(Es.getD i []++(L0++X))) o.dst (Hc l i) (Φ i)) [] a' w'->wpAny x.P .any l.toArray Q J (listed.setIfInBounds i true) a' w':=λa' w' h=>fin2 a' w' h;cases r with
     | ok n w2=>
      cases n <;> simp only [Oper.upon] at h ⊢ <;> first
       | exact fin' _ _ h
       | exact Calls.mono h (λe w3 he=>match e,he with
         | .returned v,he=>fin' _ _ he
         | .panicked c,he=>absurd he.1 (by simp)
         | .outgrown,he=>absurd he.choose_spec.choose_spec.1 (by simp))
       | exact Rows.mono h (λv w3 he=>fin' _ _ he)
     | halt y w2=>
      cases y <;> simp only [Oper.upon] at h ⊢
      exact absurd h.1 (by simp)
    ·cases h
   ·rw [Qw hwn] at hone ⊢
    exact fin2 _ _ hone
def Er (L:Env):List Env->Prop
 | []=>True
 | E::r=>Kept L E/\Er L r
theorem Er.get {L:Env}:∀ {Es:List Env},Er L Es->∀ i t v,lk (Es.getD i []) t=some v->lk L t=some v
 | [],_,i,t,v,h=>by simp [lk] at h
 | E::r,hk,0,t,v,h=>hk.1.lk t v (by simpa using h)
 | E::r,hk,i+1,t,v,h=>Er.get hk.2 i t v (by simpa using h)
theorem yZ {id:Nat} (m:Nat) (Φ:MY) (C U:List (List Nat)) (I:List (List bQ)) (live:List Nat) (L0:Env) (Es:List Env) (hmix:x.P.follows .mixedOrders=true) (hB:vi l m=true) (hml:Nat.ble m l.length=true) (hD:yJ l m L0=true) (hX:Ds l m Es=true) (hL0:∀ t v,lk L0 t=some v->lk L t=some v) (hE:Er L Es) (hNd:yK l m=true)
  (hT:GG l m (m+I.length) C U live=true)
  (Z:∀ i H1 H2 rs v,H1.le H2->Φ i H1 rs v->Φ i H2 rs v)
  (hop:xt x l Φ C U Es (El m I) H M L0 0 (l.take m))
  (k:∀ H',H.le H'->wL l Φ H' (List.range m) L0 (El m I) (λL' R=>W x l.toArray Q (l.drop m) H' (ua live R M) L')):Go.Sim.C x (.region id l.toArray true) Q H (I.flatten++M) L:=by
 intro a w hs ht;refine wp_region_any hmix ?_;have hml':m<=l.length:=by simpa [S8] using hml
 have O:∀ j,(Array.replicate l.toArray.size false).getD j true=if j<l.length then false else true:=by
  intro j;simp only [Rc,Array.getElem?_replicate,SU]
  split <;> simp
 have J:∀ j,(Array.replicate l.toArray.size false).getD j false=false:=by
  intro j;simp only [Rc,Array.getElem?_replicate,SU]
  split <;> simp
 have Y:((List.range (m+I.length)).filter (alive m C (Array.replicate l.toArray.size false))).flatMap (El m I)=I.flatten:=by
  rw [List.range_add,R4];have e1:(List.range m).filter (alive m C (Array.replicate l.toArray.size false))=[]:=by
   rw [List.filter_eq_nil_iff];intro q hq;rw [su];rintro ⟨h | h,_⟩
   ·have:=Ri.1 hq; omega
   ·rw [J] at h; cases h
  have e2:((List.range I.length).map (m+·)).filter (alive m C (Array.replicate l.toArray.size false))=(List.range I.length).map (m+·):=by
   rw [U6];intro q hq;obtain ⟨r,hr,rfl⟩:=Rd.1 hq;rw [su];exact ⟨.inl (by omega),λi _ h=>by rw [J] at h; cases h⟩
  rw [e1,e2,R7,List.flatMap_map];have e3:(List.range I.length).flatMap (λq=>El m I (m+q))=((List.range I.length).map λq=>I.getD q []).flatten:=by
   rw [List.flatMap_def]
   congr 1
   refine List.map_congr_left λq _=>?_;unfold El;rw [Qw (by omega),SD]
  rw [e3]
  congr 1
  apply Sa;intro q;rw [QW]
  by_cases hq:q<I.length
  ·rw [Sv hq,Qp hq]; simp [Q1,hq]
  ·rw [Rn (by simp; omega),Rn (by omega)]; rfl
 refine LZ (Q:=Q) (K:=m+I.length) hB hml' hD hX hL0 (λi t v h=>hE.get i t v h) hNd (Mh hT) (by omega) Z hop k l.toArray.size _ a _ H (El m I) (by simp) ?_ (λj hj hjl=>by rw [O,Qx hjl]) (λi o _ h=>by rw [J] at h; cases h) (Rk _) ?_ ⟨hs.size,hs.EL,λt v h=>by simp [lk] at h⟩ (λt v h _=>hs.get t v h) (λ_ _=>rfl) ?_
 ·unfold left
  exact Rp (Ta ..) (by simp)
 ·rw [Y]; exact ht.drewN _
 ·intro i o hi ho hl
  rw [O,Qx (by omega)] at hl
  cases hl
theorem rL {id:Nat} (m:Nat) (Φ:MY) (C U:List (List Nat)) (I:List (List bQ)) (live:List Nat) (O:x.P.follows .mixedOrders=true) (hB:vi l m=true) (Z:Nat.ble m l.length=true) (hD:yJ l m L=true) (Y:yK l m=true)
  (hT:GG l m (m+I.length) C U live=true)
  (J:∀ i H1 H2 rs v,H1.le H2->Φ i H1 rs v->Φ i H2 rs v)
  (hop:xt x l Φ C U [] (El m I) H M L 0 (l.take m))
  (k:∀ H',H.le H'->wL l Φ H' (List.range m) L (El m I) (λL' R=>W x l.toArray Q (l.drop m) H' (ua live R M) L')):Go.Sim.C x (.region id l.toArray true) Q H (I.flatten++M) L:=
 yZ m Φ C U I live L [] O hB Z hD (by unfold Ds; simp) (λ_ _ h=>h) Qo Y hT J hop k
end
section
variable {x:Cx}{ops:Array Oper}{Q:l8}{rest:List Oper}{H:Hp}{M M':List bQ}{L L':Env}
theorem qV {M'} (h:M=M') (k:W x ops Q rest H M' L):W x ops Q rest H M L:=h▸k
theorem IY {c:Code}{M'} (h:M=M') (k:C x c Q H M' L):C x c Q H M L:=h▸k
theorem O_ {e:Exit}{M'} (h:M=M') (k:E x e Q H M' L):E x e Q H M L:=h▸k
theorem FE {e:Exit} (I:M.Perm M') (k:E x e Q H M' L):E x e Q H M L:=λa w hs ht=>k a w hs (ht.perm I)
theorem AS {c:Code} (I:M.Perm M') (k:C x c Q H M' L):C x c Q H M L:=λa w hs ht=>k a w hs (ht.perm I)
theorem rM {c:Code}{v:Qn}{T:TypeId}{sz n:Nat}{xs:List Qn} (hm:bQ.row v T sz n xs ∈ M) (k:n<=maxLen->C x c Q H M L):C x c Q H M L:=λa w hs ht=>by
 have I:jK w T sz v n xs:=ht.ok _ hm;refine k ?_ a w hs ht;rcases I.2 with ⟨_,rfl⟩ | ⟨g,off,cap,J,rfl,Z,Y,O,_⟩
 ·unfold maxLen; omega
 ·omega
theorem FF {e:Exit}{J:Hp} (I:J.le H) (k:E x e Q J M L):E x e Q H M L:=λa w hs ht=>k a w hs (ht.Mk I)
end
section
variable {P:Program}{N B:Nat}{w0:World}{fn:Func}{Φ:Hp->List bQ->Qn->Prop}{H:Hp}{M:List bQ}{L:Env}
theorem GK (k:E ⟨P,N,B,w0⟩ .ret (bodyPost P fn (ux B w0 Φ)) H M L):E ⟨P,N,B,w0⟩ .normal (bodyPost P fn (ux B w0 Φ)) H M L:=λa w hs ht=>k a w hs ht
theorem Ia (I:fn.results=#[]) (h:Φ H M (.tuple #[])):E ⟨P,N,B,w0⟩ .ret (bodyPost P fn (ux B w0 Φ)) H M L:=
 λa w hs ht=>⟨hs.EL,.tuple #[],by simp [results,I],H,M,ht,h⟩
theorem Of {t u s:Nat}{v1 v2 v3:Qn} (O:fn.results=#[.tmp t,.tmp u,.tmp s]) (hl:lk L t=some v1) (I:lk L u=some v2) (J:lk L s=some v3) (h:Φ H M (.tuple #[v1,v2,v3])):E ⟨P,N,B,w0⟩ .ret (bodyPost P fn (ux B w0 Φ)) H M L:=
 λa w hs ht=>⟨hs.EL,.tuple #[v1,v2,v3],by simp [results,O,Rc,hs.get t v1 hl,hs.get u v2 I,hs.get s v3 J],H,M,ht,h⟩
end
class Flat (α:Type) [aG α]:Prop where
 ind:∀ {H H':Hp}{cs:List Qn}{x:α},aG.E H cs x->aG.E H' cs x
instance:Flat Int:=⟨λh=>h⟩
instance:Flat Bool:=⟨λh=>h⟩
instance:Flat Qm:=⟨λh=>h⟩
instance:Flat U8:=⟨λh=>h⟩
instance:Flat O3:=⟨λh=>h⟩
instance:Flat bU:=⟨λh=>h⟩
instance:Flat CB:=⟨λh=>h⟩
instance:Flat O1:=⟨λh=>h⟩
theorem qA.flat {α:Type}[aG α] [Flat α] {H H':Hp}:∀ {cs:List Qn}{ys:List α},qA H cs ys->qA H' cs ys
 | _,[],h=>h
 | _,_::_,⟨c,r,e,h,k⟩=>⟨c,r,e,Flat.ind h,qA.flat k⟩
def sC {α:Type}[aG α] (v:Qn) (xs:List Qn) (l:List α):Prop:=∀ H,Rw H v xs l
def Pb {α:Type}[aG α] (xs:List Qn) (l:List α):Prop:=∀ H,qA H xs l
theorem Rw.pw {α:Type}[aG α] [Flat α] {H:Hp}{v:Qn}{xs:List Qn}{l:List α} (h:Rw H v xs l):sC v xs l:=λH'=>⟨h.rd.flat,h.sl⟩
theorem qA.pw {α:Type}[aG α] [Flat α] {H:Hp}{xs:List Qn}{l:List α} (h:qA H xs l):Pb xs l:=λH'=>h.flat
def yU {α R:Type} (o:Option α) (a:R) (f:α->R):R:=match o with
 | none=>a
 | some s=>f s
theorem xL {α R:Type}{o:Option α}{a:R}{f:α->R}{r:R} (h:o=none) (k:yU o a f=r):a=r:=by subst h; exact k
theorem xM {α R:Type}{o:Option α}{a:R}{f:α->R}{s:α}{r:R} (h:o=some s) (k:yU o a f=r):f s=r:=by subst h; exact k
def zw (l:List (Hp->List bQ->Qn->Prop)) (i:Nat):Hp->List bQ->Qn->Prop:=l.getD i (λ_ _ _=>True)
def MD (p:Hp->List bQ->Qn->Prop):Prop:=∀ I J rs v,I.le J->p I rs v->p J rs v
def AV:List (Hp->List bQ->Qn->Prop)->Prop
 | []=>True
 | p::l=>MD p/\AV l
theorem uP {l:List (Hp->List bQ->Qn->Prop)} (h:AV l):∀ i I J rs v,I.le J->zw l i I rs v->zw l i J rs v:=by
 induction l with
 | nil=>intro i I J rs v _ _; exact Qo
 | cons p l ih=>
  intro i I J rs v O Y;cases i with
  | zero=>exact h.1 I J rs v O Y
  | succ i=>exact ih h.2 i I J rs v O Y
theorem gZ (I:List bQ) (c:Qn):MD (λ_ rs v=>I=rs/\c=v):=λ_ _ _ _ _ h=>h
theorem HT {α:Type}{f:α->Qn}{l:List α}{k:Nat}{y:α} (he:l[k]? = some y):(l.map f)[k*1]? = some (f y):=by
 rw [S4,QW,he]; rfl
section
variable {x:Cx}{ops:Array Oper}{Q:l8}{rest:List Oper}{H:Hp}{M M':List bQ}{L L':Env}
variable {d:Nat}{ty:TypeId}{pos:String}{aft:Array Edge}{g:Option (Nat×Bool)}
theorem qB {t e m sz:Nat}{y z:Operand}{ad:Addr}{kk:IntKind}{i:Int}
  (Z:gd ops L ⟨some d,.indexAddr t y z,ty,pos,aft,g⟩=some true) (hN:Nat.blt d x.N=true)
  (Y:∀ w,(underlying t).run x.P w=.ok (.array m e) w) (hs:∀ w,(sizeOf e).run x.P w=.ok sz w)
  (hy:ev L y=some (.pointer (some ad))) (hz:ev L z=some (.int kk i)) (O:0<=i) (h1:i.toNat<m)
  (k:W x ops Q rest H M ((d,.pointer (some (ad.add (i.toNat*sz))))::L)):
  W x ops Q (⟨some d,.indexAddr t y z,ty,pos,aft,g⟩::rest) H M L:=
 fK rfl Z hN (λc w I ht=>by
  have J:i<(m:Int):=by omega
  simp [execOp,I.ev hy,I.ev hz,Instr.indexAt,asIntOf,Y,hs,O,J,Instr.sureAddr]) k
theorem HM {T E:TypeId}{m sz n n' i:Nat}{y z:Operand}{v u:Qn}{ad:Addr}{xs cs:List Qn} (hg:gd ops L ⟨none,.store T y z,ty,pos,aft,g⟩=some true)
  (hn:∀ w,(sizeOf T).run x.P w=.ok m w) (hy:ev L y=some (.pointer (some ad))) (J:ad=(Value.base v).add i) (hz:ev L z=some u) (hv:u.cells=cs.toArray) (hl:cs.length=m)
  (Z:i+cs.length<=xs.length) (I:Nat.blt 0 cs.length=true) (Y:∀ c ∈ cs,c.oneCell'=true) (O:n'=n)
  (k:W x ops Q rest H (.row v E sz n' (over xs i cs)::M) L):
  W x ops Q (⟨none,.store T y z,ty,pos,aft,g⟩::rest) H (.row v E sz n xs::M) L:=by
 subst O;exact xw hg hn hy J hz hv hl Z I Y k
theorem yE {T e m sz:Nat}{I:List (Nat×Operand)}{vs:List Qn}{css:List (List Qn)}{z:Qn}{zs out:List Qn}{places:List (Nat×Nat)}
  (hg:gd ops L ⟨some d,.build T I.toArray,ty,pos,aft,g⟩=some true) (hN:Nat.blt d x.N=true)
  (hv:yL L (I.map (·.2))=some vs) (hc:zF vs css)
  (hz:∀ w,(zeroValue T).run x.P w=.ok z w) (hzs:z.cells=zs.toArray) (hT:∀ w,(underlying T).run x.P w=.ok (.array m e) w) (hs:∀ w,(sizeOf e).run x.P w=.ok sz w)
  (Y:places=(List.range m).map λi=>(i*sz,sz))
  (ho:laid places zs ((I.map (·.1)).zip css)=some out)
  (k:W x ops Q rest H M ((d,.agg out.toArray)::L)):
  W x ops Q (⟨some d,.build T I.toArray,ty,pos,aft,g⟩::rest) H M L:=
 fK rfl hg hN (λa w J ht=>by
  have hl:(I.map (·.1)).length=vs.length:=by rw [<- J.yL hv]; simp
  have hf:=wb (place:=λi=>some (i*sz,sz)) (places:=places) (λi o h=>by
   rw [Y,QW] at h;cases O:(List.range m)[i]? with
   | none=>rw [O] at h; cases h
   | some j=>
    rw [O] at h;have:j=i:=by
     have:=Qt.1 O;simpa using this.2.symm
    subst this;simpa using h) (I.map (·.1)) vs css zs out hc hl ho
  have Z:=AJ J hv;simp only [execOp,Instr.build,QD,hz,Qz,hT,hzs,hs];simp only [Z,hf,QK,Qz]) k
theorem f_ {α:Type}[aG α] {T e:TypeId}{n:Nat}{J:List (Nat×Operand)}{vs:List Qn}{css:List (List Qn)}{z:Qn}{zs out:List Qn}{places:List (Nat×Nat)}{ys:List α}
  (hg:gd ops L ⟨some d,.buildSlice T n J.toArray,ty,pos,aft,g⟩=some true) (hN:Nat.blt d x.N=true)
  (hv:yL L (J.map (·.2))=some vs) (hc:zF vs css)
  (hT:∀ w,(underlying T).run x.P w=.ok (.slice e) w) (hs:∀ w,(sizeOf e).run x.P w=.ok (aG.sz α) w) (hs0:Nat.blt 0 (aG.sz α)=true)
  (hz:∀ w,(zeroValue e).run x.P w=.ok z w) (hzs:(Array.range (n*aG.sz α)).map (z.cells[·%z.cells.size]!)=zs.toArray)
  (hpl:places=(List.range n).map λi=>(i*aG.sz α,aG.sz α)) (hn:Nat.ble (n*aG.sz α) 16777216=true) (hnn:Nat.blt 0 n=true)
  (ho:laid places zs ((J.map (·.1)).zip css)=some out) (hr:qA H out ys) (hyn:ys.length=n)
  (k:∀ v' xs',Rw H v' xs' ys->W x ops Q rest H (.row v' e (aG.sz α) ys.length xs'::M) ((d,v')::L)):
  W x ops Q (⟨some d,.buildSlice T n J.toArray,ty,pos,aft,g⟩::rest) H M L:=by
 refine s7 rfl hg hN λa w Z ht=>?_;have hl:(J.map (·.1)).length=vs.length:=by rw [<- Z.yL hv]; simp
 have I:0<aG.sz α:=by simpa [RA] using hs0
 have hn':n*aG.sz α<=16777216:=by simpa [S8] using hn
 have Y:0<n:=by simpa [RA] using hnn
 have hpos:0<n*aG.sz α:=Nat.mul_pos Y I;have hf:=wb (place:=λi=>some (i*aG.sz α,aG.sz α)) (places:=places) (λi o h=>by
  rw [hpl,QW] at h;cases hh:(List.range n)[i]? with
  | none=>rw [hh] at h; cases h
  | some j=>
   rw [hh] at h;have:j=i:=by
    have:=Qt.1 hh;simpa using this.2.symm
   subst this;simpa using h) (J.map (·.1)) vs css zs out hc hl ho
 have hps:=AJ Z hv;have hsz:out.length=n*aG.sz α:=by rw [hr.len,hyn]
 have O:ys.length<=maxLen:=by
  unfold maxLen;have:n<=n*aG.sz α:=Th _ I;omega
 refine ⟨.slice (some ⟨w.heap.size,0,none⟩) ys.length ys.length,w.alloc (.cells out.toArray e),?_,H,_,St.newRow (e:=e) ht hr O,k _ _ ⟨hr,_,_,_,rfl⟩⟩;have h1:¬ (2 ^ 24<n*aG.sz α):=by omega
 have h2:¬ (n*aG.sz α=0):=by omega
 simp only [execOp,Instr.buildSlice,QD,hT,Qz,hs,gt_iff_lt,h1,h2,Sc,hz,QK];simp only [hps];have hf':Instr.fill (λi=>some (i*aG.sz α,aG.sz α)) ((Array.range (n*aG.sz α)).map (z.cells[·%z.cells.size]!)) ((List.map (λx=>x.fst) J).zip vs)=some out.toArray:=by
  rw [hzs]; exact hf
 simp only [hf',newRow,newObj,QD,QK,Sem.run,Qz,World.alloc,hyn]
end
inductive fY (P:Program) (M:List bQ) (L:Env):ResultVar->Qn->Prop
 | tmp {t}{v:Qn} (h:lk L t=some v):fY P M L (.tmp t) v
 | one {t ty b T}{l:List Qn}{fz}{v:Qn} (h:lk L t=some (.pointer (some ⟨b,0,none⟩))) (hA:∀ w,(isAgg ty).run P w=.ok false w) (hm:bQ.obj b (.cells (v::l).toArray T fz) ∈ M):fY P M L (.cell t ty) v
 | agg {t ty b T}{l:List Qn}{fz n} (h:lk L t=some (.pointer (some ⟨b,0,none⟩))) (hA:∀ w,(isAgg ty).run P w=.ok true w) (hn:∀ w,(sizeOf ty).run P w=.ok n w) (hm:bQ.obj b (.cells l.toArray T fz) ∈ M) (hl:l.length=n):fY P M L (.cell t ty) (.agg l.toArray)
 | arr {t ty v T sz k}{xs:List Qn}{n} (h:lk L t=some (.pointer (some (Value.base v)))) (hA:∀ w,(isAgg ty).run P w=.ok true w) (hn:∀ w,(sizeOf ty).run P w=.ok n w) (hm:bQ.row v T sz k xs ∈ M) (hl:xs.length=n):fY P M L (.cell t ty) (.agg xs.toArray)
def Ig (I:Array Qn):ResultVar->Sem Qn
 | .tmp t=>pure (I.getD t undef)
 | .cell a t=>do loadVar t (<- asAddr (I.getD a undef))
theorem xP (fn:Func) (I:Array Qn):results fn I=(do
  let vs <- fn.results.mapM (Ig I)
  pure (if h:vs.size=1 then vs[0] else .tuple vs)):=rfl
theorem fY.run {P:Program}{M:List bQ}{L:Env}{N B:Nat}{w0 w:World}{H:Hp}{a:Act}{rv:ResultVar}{v:Qn} (h:fY P M L rv v) (hs:Sl N L a) (ht:St B w0 H M w):
  (Ig a.tmps rv).run P w=.ok v w:=by
 cases h with
 | tmp h=>simp [Ig,Rc,hs.get _ _ h]
 | one h hA hm=>
  have J:=(vT (x:=⟨P,N,B,w0⟩) (H:=H) hm (off:=0) (v:=v) rfl) w ht;simp [Ig,Rc,hs.get _ _ h,asAddr,loadVar,hA,load,Sem.run,J]
 | agg h hA hn hm hl=>
  rename_i t ty b T l fz n
  have J:=(DM (x:=⟨P,N,B,w0⟩) (H:=H) hm);have I:=run_loadCellsFrom (P:=P) (w:=w) (ad:=⟨b,0,none⟩) l 0 #[] (λj v Y=>by rw [QP]; exact J j v Y w ht)
  rw [hl] at I;simp [Ig,Rc,hs.get _ _ h,asAddr,loadVar,hA,hn,loadCells,I]
 | arr h hA hn hm hl=>
  rename_i t ty v T sz k xs n
  have I:=run_loadCellsFrom (P:=P) (w:=w) (ad:=Value.base v) xs 0 #[] (λj u O=>by rw [QP]; exact (B3 (x:=⟨P,N,B,w0⟩) (H:=H) hm O) w ht)
  rw [hl] at I;simp [Ig,Rc,hs.get _ _ h,asAddr,loadVar,hA,hn,loadCells,I]
section
variable {P:Program}{N B:Nat}{w0:World}{fn:Func}{Φ:Hp->List bQ->Qn->Prop}{H H0:Hp}{M M1 M2:List bQ}{L:Env}
theorem kV {J:ResultVar}{v1:Qn} (I:H0.le H) (hr:fn.results=#[J]) (O:fY P M L J v1) (Y:M1.Sublist M) (Z:M1.Perm M2) (h:Φ H0 M2 v1):
  E ⟨P,N,B,w0⟩ .ret (bodyPost P fn (ux B w0 Φ)) H M L:=λa w hs ht=>by
 have q1:=O.run hs ht;refine ⟨hs.EL,v1,?_,H0,M2,((ht.sub Y).perm Z).Mk I,h⟩;rw [xP,hr];simp [q1]
theorem CJ {J O:ResultVar}{v1 v2:Qn} (I:H0.le H) (hr:fn.results=#[J,O]) (Y:fY P M L J v1) (Z:fY P M L O v2) (hd:M1.Sublist M) (hp:M1.Perm M2) (h:Φ H0 M2 (.tuple #[v1,v2])):
  E ⟨P,N,B,w0⟩ .ret (bodyPost P fn (ux B w0 Φ)) H M L:=λa w hs ht=>by
 have q1:=Y.run hs ht;have q2:=Z.run hs ht;refine ⟨hs.EL,_,?_,H0,M2,((ht.sub hd).perm hp).Mk I,h⟩;rw [xP,hr];simp [q1,q2]
theorem Bt {J O Y:ResultVar}{v1 v2 v3:Qn} (I:H0.le H) (hr:fn.results=#[J,O,Y]) (Z:fY P M L J v1) (h2:fY P M L O v2) (h3:fY P M L Y v3) (hd:M1.Sublist M) (hp:M1.Perm M2) (h:Φ H0 M2 (.tuple #[v1,v2,v3])):
  E ⟨P,N,B,w0⟩ .ret (bodyPost P fn (ux B w0 Φ)) H M L:=λa w hs ht=>by
 have q1:=Z.run hs ht;have q2:=h2.run hs ht;have q3:=h3.run hs ht;refine ⟨hs.EL,_,?_,H0,M2,((ht.sub hd).perm hp).Mk I,h⟩;rw [xP,hr];simp [q1,q2,q3]
end
theorem aQ.shape {α:Type}[aG α] {H:Hp}{v:Qn}{xs:List α} (h:aQ H v xs):∃ o n c,v=.slice o n c:=by
 obtain ⟨a,c,rfl,_⟩:=h.len; exact ⟨_,_,_,rfl⟩
theorem aQ.isNil {α:Type}[aG α] {H:Hp}{n c:Nat}{xs:List α} (h:aQ H (.slice none n c) xs):xs=[]:=by
 rcases h with ⟨_,h⟩ | ⟨b,off,cap,arr,T,fz,h,_⟩
 ·exact h
 ·cases h
def N6 {α:Type} (v:Qn) (l:List α):Prop:=(∃ n c,v=.slice none n c/\l=[])\/(∃ a n c,v=.slice (some a) n c/\l≠[])
theorem N6.nil {α:Type}:N6 (.slice none 0 0) ([]:List α):=.inl ⟨_,_,rfl,rfl⟩
section
variable {x:Cx}{ops:Array Oper}{Q:l8}{rest:List Oper}{H:Hp}{M M':List bQ}{L L':Env}
variable {d:Nat}{ty:TypeId}{pos:String}{aft:Array Edge}{g:Option (Nat×Bool)}
theorem MA {α:Type}[aG α] {H:Hp}{zs:List Qn}{ze:α} (Y:aG.E H zs ze) (Z:zs.length=aG.sz α):∀ q,qA H ((List.range (q*aG.sz α)).map (zs.toArray[·%zs.length]!)) (List.replicate q ze):=by
 intro q
 induction q with
 | zero=>rw [R2]; exact rfl
 | succ q ih=>
  have I:(List.range ((q+1)*aG.sz α)).map (zs.toArray[·%zs.length]!)=zs++(List.range (q*aG.sz α)).map (zs.toArray[·%zs.length]!):=by
   apply Sa;intro j;rw [SE,QW]
   by_cases O:j<zs.length
   ·rw [Qx O,Sv (by rw [QO]; omega)]
    simp [Sj O,O]
   ·rw [Qw O,QW]
    by_cases J:j<(q+1)*aG.sz α
    ·rw [Sv J,Sv (by rw [QO] at J; omega)]
     simp only [RV];rw [<- Nat.mod_eq_sub_mod (by omega)]
    ·rw [Rn (by simp; omega),Rn (by rw [QO] at J; simp; omega)]
  rw [I];exact ⟨zs,_,rfl,Y,ih⟩
end
end Go.Sim
