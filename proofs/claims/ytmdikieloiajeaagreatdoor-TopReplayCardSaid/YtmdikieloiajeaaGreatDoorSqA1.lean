/-
  The proof, part A1.
-/
import Derived.WalkKit
import Derived.WalkSpells
import Derived.WalkLawsBesides
import Derived.Lib.AppendZeros
set_option linter.unusedVariables false
set_option linter.unusedSimpArgs false
set_option linter.unusedSectionVars false
set_option linter.unnecessarySimpa false
namespace Go.Sim
abbrev SU := @Go.Addr.add_lit
abbrev SE := @Array.getD_eq_getD_getElem?
abbrev Us := @Array.getElem?_eq_getElem
abbrev Tc := @Array.getElem?_eq_some_iff
abbrev V8 := @Array.getElem?_modify
abbrev Vl := @Array.getElem?_setIfInBounds
abbrev Wo := @Array.toList_append
abbrev Tp := @Bool.and_eq_true
abbrev Tr := @Bool.false_eq_true
abbrev V5 := @Bool.false_or
abbrev Tt := @Bool.or_eq_true
abbrev RI := @ByteArray
abbrev SI := @Int.natCast_mul
abbrev RN := @Int.toNat_natCast
abbrev T4 := @List.Sublist.refl
abbrev S2 := @List.all_eq_true
abbrev Sc := @List.append_assoc
abbrev Ss := @List.append_nil
abbrev VD := @List.cons.injEq
abbrev TD := @List.cons_append
abbrev Vm := @List.contains_iff_mem
abbrev Uq := @List.countP_le_length
abbrev U_ := @List.count_eq_zero
abbrev T8 := @List.drop_append_of_le_length
abbrev TA := @List.drop_drop
abbrev Si := @List.drop_eq_getElem_cons
abbrev UB := @List.drop_length
abbrev TP := @List.drop_set_of_lt
abbrev Ug := @List.drop_take
abbrev S8 := @List.drop_zero
abbrev Sg := @List.eq_nil_of_length_eq_zero
abbrev Tz := @List.ext_getElem?
abbrev Ts := @List.filter_append
abbrev Wr := @List.filter_eq_self
abbrev U2 := @List.flatMap_append
abbrev S6 := @List.flatMap_cons
abbrev Su := @List.getD_eq_getElem?_getD
abbrev TY := @List.getElem?_append
abbrev S4 := @List.getElem?_append_left
abbrev Sv := @List.getElem?_append_right
abbrev SB := @List.getElem?_drop
abbrev RK := @List.getElem?_eq_getElem
abbrev SQ := @List.getElem?_eq_none
abbrev RP := @List.getElem?_eq_some_iff
abbrev Sq := @List.getElem?_map
abbrev TQ := @List.getElem?_range
abbrev Vk := @List.getElem?_set
abbrev SG := @List.getElem?_take
abbrev Sk := @List.getElem_mem
abbrev Vn := @List.getElem_set_self
abbrev R5 := @List.length_append
abbrev RW := @List.length_cons
abbrev TL := @List.length_map
abbrev SZ := @List.length_replicate
abbrev SR := @List.length_singleton
abbrev Sm := @List.length_take
abbrev Tb := @List.map_append
abbrev TT := @List.map_cons
abbrev VK := @List.map_nil
abbrev RZ := @List.mem_append
abbrev RO := @List.mem_append_left
abbrev SV := @List.mem_append_right
abbrev SA := @List.mem_cons
abbrev RV := @List.mem_cons_of_mem
abbrev RR := @List.mem_cons_self
abbrev S0 := @List.mem_filter
abbrev VL := @List.mem_filterMap
abbrev TN := @List.mem_flatMap
abbrev S3 := @List.mem_iff_getElem
abbrev SC := @List.mem_map
abbrev RY := @List.mem_of_getElem?
abbrev SL := @List.mem_range
abbrev R_ := @List.mem_singleton
abbrev Tn := @List.nil_append
abbrev SM := @List.nodup_append
abbrev Va := @List.nodup_cons
abbrev Ut := @List.pairwise_iff_getElem
abbrev Vb := @List.range_succ
abbrev UR := @List.set_eq_take_append_cons_drop
abbrev Wa := @List.singleton_append
abbrev Ux := @List.size_toArray
abbrev UT := @List.take_left
abbrev TE := @List.take_length
abbrev UA := @List.take_set_of_le
abbrev Sn := @List.take_succ_eq_append_getElem
abbrev VT := @List.take_take
abbrev Um := @List.toList_toArray
abbrev Uc := @Nat.add_assoc
abbrev Sd := @Nat.add_mul
abbrev TX := @Nat.add_sub_cancel_left
abbrev Tl := @Nat.add_zero
abbrev Uh := @Nat.ble_eq
abbrev SY := @Nat.blt_eq
abbrev T7 := @Nat.eq_of_beq_eq_true
abbrev Ty := @Nat.eq_of_mul_eq_mul_right
abbrev Uz := @Nat.le_mul_of_pos_right
abbrev R9 := @Nat.le_refl
abbrev SK := @Nat.le_trans
abbrev UH := @Nat.lt_of_le_of_lt
abbrev Ur := @Nat.lt_of_lt_of_le
abbrev Tq := @Nat.lt_succ_self
abbrev UO := @Nat.lt_trichotomy
abbrev SW := @Nat.min_eq_left
abbrev TG := @Nat.mod_eq_of_lt
abbrev R8 := @Nat.mul_le_mul_right
abbrev Ud := @Nat.mul_one
abbrev Vy := @Nat.one_mul
abbrev S7 := @Nat.sub_self
abbrev UI := @Nat.sub_zero
abbrev Se := @Nat.zero_add
abbrev Tm := @Nat.zero_mul
abbrev VZ := @Option.bind_eq_some_iff
abbrev T9 := @Option.bind_some
abbrev TO := @Option.getD_some
abbrev Vi := @Option.map_eq_some_iff
abbrev UM := @Option.map_none
abbrev Td := @Option.map_some
abbrev RQ := @Option.some.inj
abbrev Sa := @Option.some.injEq
abbrev Ue := @Prod.mk.injEq
abbrev RX := @Go.Result.andThen_ok
abbrev R4 := @Go.Sem.run_bind
abbrev Sb := @Go.Sem.run_pure
abbrev RJ := @Go.Value
abbrev R7 := @congrArg
abbrev Sy := @decide_eq_true_eq
abbrev Wh := @decide_false
abbrev Wy := @Go.grownCap_ge
abbrev VP := @Go.grownCap_le_maxLen
abbrev Ww := @Go.growslice_fits
abbrev VW := @Go.heap_alloc_new
abbrev T5 := @if_false
abbrev RS := @if_neg
abbrev RU := @if_pos
abbrev Vz := @if_true
abbrev R2 := @of_decide_eq_false
abbrev RT := @of_decide_eq_true
abbrev Wv := @Go.run_firstCells_some
abbrev Tj := @Go.run_underlying
abbrev RM := @trivial
abbrev VB := @Go.wpList_step
end Go.Sim
namespace Go.Sim
open Go Go.RowKit
open _root_.Go.IntKind (i64 u64 u32 u8)
abbrev Hp:=Nat->Option Obj
def Hp.le (H H':Hp):Prop:=∀ b o,H b=some o->H' b=some o
theorem SN (H:Hp):H.le H:=λ_ _ h=>h
theorem Vx {A B C:Hp} (h:A.le B) (k:B.le C):A.le C:=λb o x=>k b o (h b o x)
def Hp.add (H:Hp) (b:Nat) (o:Obj):Hp:=λc=>if c=b then some o else H c
theorem Hp.OJ {H:Hp}{b:Nat}{o:Obj} (h:H b=none):H.le (H.add b o):=by
 intro c x I;unfold Hp.add
 split
 ·rename_i e; subst e; rw [h] at I; cases I
 ·exact I
theorem Hp.ym (H:Hp) (b:Nat) (o:Obj):H.add b o b=some o:=by simp [Hp.add]
def snap (w:World):Hp:=λb=>w.heap[b]?
def iW (w:World) (T:TypeId) (sz:Nat) (v:RJ) (n:Nat) (xs:List RJ):Prop:=
  xs.length=n*sz /\
  ((v=.slice none 0 0/\n=0) \/
   ∃ g off cap I,v=.slice (some ⟨g,off,none⟩) n cap/\w.heap[g]? = some (.cells I T (0,0))/\n<=cap/\cap<=maxLen/\off+cap*sz<=I.size/\(I.toList.drop off).take (n*sz)=xs)
theorem iW.lt {w:World}{T:TypeId}{sz:Nat}{v:RJ}{n:Nat}{xs:List RJ} (h:iW w T sz v n xs) {k:Nat} (I:v.ownBlock=some k):k<w.heap.size:=by
 rcases h.2 with ⟨rfl,_⟩ | ⟨g,off,cap,J,rfl,Y,_⟩
 ·simp [Value.ownBlock] at I
 ·simp only [Value.ownBlock,Sa] at I
  subst I;exact (Tc.1 Y).1
theorem iW.kept {w w':World}{T:TypeId}{sz:Nat}{v:RJ}{n:Nat}{xs:List RJ}{row:Option Nat} (h:iW w T sz v n xs) (Z:w.grownBy w' row)
  (Y:∀ b,v.ownBlock=some b->row≠some b):iW w' T sz v n xs:=by
 refine ⟨h.1,?_⟩;rcases h.2 with hn | ⟨g,off,cap,J,rfl,I,rest⟩
 ·exact .inl hn
 ·refine .inr ⟨g,off,cap,J,rfl,?_,rest⟩
  rw [Z.block g (Tc.1 I).1 (λe=>Y g rfl e.symm)];exact I
theorem iW.nil (w:World) (T:TypeId) (sz:Nat):iW w T sz (.slice none 0 0) 0 []:=⟨by simp,.inl ⟨rfl,rfl⟩⟩
def Pr (fs:List Nat) (P:World->Prop):Prop:=∀ w w' row,P w->w.grownBy w' row->(∀ b ∈ fs,row≠some b)->P w'
inductive bN where
 | obj (b:Nat) (o:Obj)
 | row (v:RJ) (T:TypeId) (sz n:Nat) (xs:List RJ)
 | pack (fs:List Nat) (P:World->Prop)
def bN.zV:bN->Option Nat
 | .obj b _=>some b
 | .row v _ _ _ _=>v.ownBlock
 | .pack _ _=>none
def bN.vD:bN->List Nat
 | .obj b _=>[b]
 | .row v _ _ _ _=>v.ownBlock.toList
 | .pack fs _=>fs
def bN.ok (w:World):bN->Prop
 | .obj b o=>w.heap[b]? = some o
 | .row v T sz n xs=>iW w T sz v n xs
 | .pack fs P=>P w/\(∀ b ∈ fs,b<w.heap.size)/\Pr fs P
theorem bN.HS {w:World}{r:bN} (h:r.ok w) {b:Nat} (I:b ∈ r.vD):b<w.heap.size:=by
 cases r with
 | obj c o=>
  simp only [bN.vD,R_] at I;subst I;simp only [bN.ok] at h;exact (Tc.1 h).1
 | row v T sz n xs=>exact iW.lt h (Option.mem_toList.1 I)
 | pack fs P=>exact h.2.1 b I
theorem bN.kept {w w':World}{r:bN}{row:Option Nat} (h:r.ok w) (J:w.grownBy w' row) (I:∀ b ∈ r.vD,row≠some b):r.ok w':=by
 cases r with
 | obj c o=>
  simp only [bN.ok] at h ⊢;rw [J.block c (Tc.1 h).1 (λe=>I c (by simp [bN.vD]) e.symm)]
  exact h
 | row v T sz n xs=>
  exact iW.kept h J (λb Y=>I b (Option.mem_toList.2 Y))
 | pack fs P=>exact ⟨h.2.2 _ _ _ h.1 J I,λb Y=>Ur (h.2.1 b Y) J.size,h.2.2⟩
theorem LD {l l':List bN} (h:l.Sublist l'):(l.flatMap bN.vD).Sublist (l'.flatMap bN.vD):=by
 induction h with
 | slnil=>exact T4 _
 | cons a _ ih=>rw [S6]; exact ih.trans (List.sublist_append_right _ _)
 | cons_cons a _ ih=>rw [S6,S6]; exact (T4 _).append ih
structure St (B:Nat) (w0:World) (H:Hp) (M:List bN) (w:World):Prop where
 below:Below B w0 w
 le:B<=w.heap.size
 vp:∀ b o,H b=some o->w.heap[b]? = some o
 ok:∀ r ∈ M,r.ok w
 lo:∀ r ∈ M,∀ b ∈ r.vD,B<=b/\H b=none
 nd:(M.flatMap bN.vD).Nodup
section
variable {B:Nat}{w0 w w':World}{H H':Hp}{M M':List bN}
theorem St.lt (h:St B w0 H M w) {b:Nat}{o:Obj} (I:H b=some o):b<w.heap.size:=(Tc.1 (h.vp b o I)).1
theorem St.perm (h:St B w0 H M w) (p:M.Perm M'):St B w0 H M' w:=
 ⟨h.below,h.le,h.vp,λr I=>h.ok r (p.mem_iff.2 I),λr I=>h.lo r (p.mem_iff.2 I),(p.flatMap_right _).nodup_iff.1 h.nd⟩
theorem St.sub (h:St B w0 H M w) (p:M'.Sublist M):St B w0 H M' w:=
 ⟨h.below,h.le,h.vp,λr I=>h.ok r (p.subset I),λr I=>h.lo r (p.subset I),h.nd.sublist (LD p)⟩
theorem St.tail {r:bN} (h:St B w0 H (r::M) w):St B w0 H M w:=h.sub (List.sublist_cons_self _ _)
theorem St.drewN (h:St B w0 H M w) (n:Nat):St B w0 H M { w with drawn:=n }:=
 ⟨⟨h.below.os,h.below.tape,h.below.output,h.below.size,h.below.block⟩,h.le,h.vp,λr I=>by
  have:=h.ok r I;cases r with
  | pack fs P=>exact ⟨this.2.2 w _ none this.1 ⟨rfl,rfl,rfl,R9 _,λ_ _ _=>rfl⟩ (by simp),this.2⟩
  | _=>exact this,h.lo,h.nd⟩
theorem St.grow (h:St B w0 H M w) (I:w.grownBy w' none):St B w0 H M w':=
  ⟨h.below.grown I h.le (λ_ e=>by cases e),SK h.le I.size,
   λb o J=>by rw [I.block b (h.lt J) (by simp)]; exact h.vp b o J,
   λr Y=>bN.kept (h.ok r Y) I (by simp),h.lo,h.nd⟩
theorem St.E1 {r r':bN} (h:St B w0 H (r::M) w) (hg:w.grownBy w' r.zV) (hok:r'.ok w')
  (hf:∀ b,r'.zV=some b->r.zV=some b\/w.heap.size<=b) (hr:r.vD=r.zV.toList:=by rfl) (Z:r'.vD=r'.zV.toList:=by rfl):St B w0 H (r'::M) w':=by
 have J:=h.nd;have vp:∀ {b:Nat},r.zV=some b->b ∈ r.vD:=λe=>by rw [hr,e]; simp
 refine ⟨h.below.grown hg h.le (λk e=>(h.lo r (RR ..) k (vp e)).1),SK h.le hg.size,?_,?_,?_,?_⟩
 ·intro b o I
  rw [hg.block b (h.lt I) (λe=>by have:=(h.lo r (RR ..) b (vp e.symm)).2; rw [this] at I; cases I)]
  exact h.vp b o I
 ·intro s hs
  rcases SA.1 hs with rfl | hs
  ·exact hok
  ·refine bN.kept (h.ok s (RV _ hs)) hg ?_
   intro b I e;simp only [S6] at J;exact (SM.1 J).2.2 b (vp e) b (TN.2 ⟨s,hs,I⟩) rfl
 ·intro s hs b I
  rcases SA.1 hs with rfl | hs
  ·rw [Z] at I
   rcases hf b (Option.mem_toList.1 I) with e | e
   ·exact h.lo r (RR ..) b (vp e)
   ·refine ⟨SK h.le e,?_⟩
    cases hh:H b with
    | none=>rfl
    | some o=>exact absurd (h.lt hh) (by omega)
  ·exact h.lo s (RV _ hs) b I
 ·have O:(M.flatMap bN.vD).Nodup:=(h.tail).nd
  rw [S6,Z];cases hf':r'.zV with
  | none=>simpa using O
  | some b=>
   simp only [Option.toList,Wa,Va];refine ⟨λY=>?_,O⟩;obtain ⟨s,hs,I⟩:=TN.1 Y;rcases hf b hf' with e | e
   ·simp only [S6] at J
    exact (SM.1 J).2.2 b (vp e) b Y rfl
   ·have:=bN.HS (h.ok s (RV _ hs)) I
    omega
theorem St.add {r':bN} (h:St B w0 H M w) (hg:w.grownBy w' none) (Y:r'.ok w') (hf:∀ b,r'.zV=some b->w.heap.size<=b) (Z:r'.vD=r'.zV.toList:=by rfl):
  St B w0 H (r'::M) w':=by
 have h1:St B w0 H (.row (.slice none 0 0) 0 1 0 []::M) w:=by
  refine ⟨h.below,h.le,h.vp,?_,?_,?_⟩
  ·intro r I
   rcases SA.1 I with rfl | I
   ·exact iW.nil _ _ _
   ·exact h.ok r I
  ·intro r I
   rcases SA.1 I with rfl | I
   ·intro b J; simp [bN.vD,Value.ownBlock] at J
   ·exact h.lo r I
  ·simpa [S6,bN.vD,Value.ownBlock] using h.nd
 exact h1.E1 hg Y (λb J=>.inr (hf b J)) rfl Z
theorem St.CC (h:St B w0 H M w) (T:TypeId) (sz:Nat):St B w0 H (.row (.slice none 0 0) T sz 0 []::M) w:=
 h.add ⟨rfl,rfl,rfl,R9 _,λ_ _ _=>rfl⟩ (iW.nil _ _ _) (by intro b I; simp [bN.zV,Value.ownBlock] at I)
theorem St.alloc (h:St B w0 H M w) (o:Obj):St B w0 H (.obj w.heap.size o::M) (w.alloc o):=
 h.add (World.grownBy_alloc w o none) (VW w o) (by intro b I; simp only [bN.zV,Sa] at I; omega)
theorem St.wR {b:Nat}{o:Obj} (h:St B w0 H M w) (O:bN.obj b o ∈ M):w.heap[b]? = some o:=h.ok _ O
theorem St.freeze {b:Nat}{o:Obj} (h:St B w0 H (.obj b o::M) w):H.le (H.add b o)/\St B w0 (H.add b o) M w:=by
 have hb:=h.lo _ (RR ..) b (by simp [bN.vD])
 refine ⟨Hp.OJ hb.2,h.below,h.le,?_,h.tail.ok,?_,h.tail.nd⟩
 ·intro c x J
  unfold Hp.add at J
  split at J
  ·rename_i e; subst e; cases J; exact h.ok _ (RR ..)
  ·exact h.vp c x J
 ·intro r Z c Y
  refine ⟨(h.tail.lo r Z c Y).1,?_⟩;unfold Hp.add
  split
  ·rename_i e; subst e
   have I:=h.nd;simp only [S6,bN.vD,Wa,Va] at I;exact absurd (TN.2 ⟨r,Z,Y⟩) I.1
  ·exact (h.tail.lo r Z c Y).2
theorem St.QH {b:Nat}{o:Obj} (h:St B w0 H' M w) (hB:B<=b) (Y:H.le H') (hb:H b=none) (Z:H' b=some o):St B w0 H (.obj b o::M) w:=by
 refine ⟨h.below,h.le,λc x hx=>h.vp c x (Y c x hx),?_,?_,?_⟩
 ·intro r I
  rcases SA.1 I with rfl | I
  ·exact h.vp b o Z
  ·exact h.ok r I
 ·intro r I c J
  rcases SA.1 I with rfl | I
  ·simp only [bN.vD,R_] at J; subst J; exact ⟨hB,hb⟩
  ·refine ⟨(h.lo r I c J).1,?_⟩
   cases hh:H c with
   | none=>rfl
   | some x=>have:=Y c x hh; rw [(h.lo r I c J).2] at this; cases this
 ·simp only [S6,bN.vD,Wa,Va]
  refine ⟨λO=>?_,h.nd⟩;obtain ⟨r,I,J⟩:=TN.1 O;have:=(h.lo r I b J).2;rw [this] at Z; cases Z
theorem St.NG (h:St B w0 H' M w) (I:H.le H'):St B w0 H M w:=
 ⟨h.below,h.le,λb o J=>h.vp b o (I b o J),h.ok,λr Y b J=>⟨(h.lo r Y b J).1,by
  cases Z:H b with
  | none=>rfl
  | some x=>have:=I b x Z; rw [(h.lo r Y b J).2] at this; cases this⟩,h.nd⟩
def kH (rs:List bN):bN:=.pack (rs.flatMap bN.vD) (λw=>∀ r ∈ rs,r.ok w)
theorem JC (rs:List bN):Pr (rs.flatMap bN.vD) (λw=>∀ r ∈ rs,r.ok w):=λ_ _ _ h Z I r J=>
 bN.kept (h r J) Z (λb Y=>I b (TN.2 ⟨r,J,Y⟩))
theorem St.unpack {rs:List bN} (h:St B w0 H (kH rs::M) w):St B w0 H (rs++M) w:=
 ⟨h.below,h.le,h.vp,λr I=>by
  rcases RZ.1 I with I | I
  ·exact (h.ok _ (RR ..)).1 r I
  ·exact h.ok r (RV _ I),λr I b J=>by
  rcases RZ.1 I with I | I
  ·exact h.lo _ (RR ..) b (TN.2 ⟨r,I,J⟩)
  ·exact h.lo r (RV _ I) b J,by
  have:=h.nd;rw [S6] at this;rw [U2]; exact this⟩
theorem St.pack {rs:List bN} (h:St B w0 H (rs++M) w):St B w0 H (kH rs::M) w:=
 ⟨h.below,h.le,h.vp,λr I=>by
  rcases SA.1 I with rfl | I
  ·refine ⟨λr I=>h.ok r (RO _ I),λb J=>?_,JC rs⟩
   obtain ⟨r,I,J⟩:=TN.1 J;exact bN.HS (h.ok r (RO _ I)) J
  ·exact h.ok r (SV _ I),λr I b J=>by
  rcases SA.1 I with rfl | I
  ·obtain ⟨r,I,J⟩:=TN.1 J
   exact h.lo r (RO _ I) b J
  ·exact h.lo r (SV _ I) b J,by
  have:=h.nd;rw [U2] at this;rw [S6]; exact this⟩
theorem St.begin (w:World):St w.heap.size w (snap w) [] w:=
 ⟨Below.refl _ _,R9 _,λ_ _ h=>h,by simp,by simp,by simp⟩
end
abbrev Env:=List (Nat×RJ)
def lk:Env->Nat->Option RJ
 | [],_=>none
 | (t,v)::r,u=>bif Nat.beq t u then some v else lk r u
structure Sl (N:Nat) (L:Env) (a:Act):Prop where
 size:a.tmps.size=N
 Ft:a.defers=[]
 get:∀ t v,lk L t=some v->a.tmps[t]? = some v
theorem uj (t:Nat) (v:RJ) (r:Env) (u:Nat):lk ((t,v)::r) u=if t=u then some v else lk r u:=by
 show (bif Nat.beq t u then some v else lk r u)=_
 by_cases h:t=u
 ·subst h; simp
 ·have:Nat.beq t u=false:=by
   cases I:Nat.beq t u with
   | false=>rfl
   | true=>exact absurd (T7 I) h
  simp [this,h]
theorem Sl.put {N:Nat}{L:Env}{a:Act}{d:Nat}{v:RJ} (h:Sl N L a) (J:Nat.blt d N=true):Sl N ((d,v)::L) (a.put (some d) v):=by
 have I:d<N:=by simpa [SY] using J
 refine ⟨by simp [Act.put,h.size],h.Ft,λt u ht=>?_⟩
 rw [uj] at ht;simp only [Act.put,Vl]
 by_cases e:d=t
 ·subst e
  simp only [Vz,Sa] at ht;subst ht;simp [h.size,I]
 ·simp only [RS e] at ht ⊢
  exact h.get t u ht
def Kept (L:Env):Env->Prop
 | []=>True
 | (t,v)::r=>lk L t=some v/\Kept L r
theorem Kept.lk {L:Env}:∀ {L':Env},Kept L L'->∀ t v,lk L' t=some v->lk L t=some v
 | [],_,t,v,h=>by simp [Sim.lk] at h
 | (u,x)::r,hk,t,v,h=>by
  rw [uj] at h
  split at h
  ·rename_i e; subst e; cases h; exact hk.1
  ·exact Kept.lk hk.2 t v h
theorem Sl.PG {N:Nat}{L L':Env}{a:Act} (h:Sl N L a) (I:Kept L L'):Sl N L' a:=
 ⟨h.size,h.Ft,λt v ht=>h.get t v (I.lk t v ht)⟩
def ev (L:Env):Operand->Option RJ
 | .tmp t=>lk L t
 | .const v=>some v
 | .func f=>some (.func (.func f) #[] #[])
 | .global g=>some (.pointer (some ⟨g,0,none⟩))
theorem Sl.ev {N:Nat}{L:Env}{a:Act} (h:Sl N L a) {x:Operand}{v:RJ} (I:Sim.ev L x=some v):a.eval x=v:=by
 cases x with
 | tmp t=>simp [Act.eval,SE,h.get t v I]
 | const u=>simpa [Sim.ev,Act.eval] using I
 | func f=>simpa [Sim.ev,Act.eval] using I
 | global g=>simpa [Sim.ev,Act.eval] using I
def gd (ops:Array Oper) (L:Env) (o:Oper):Option Bool:=
 match o.guard with
 | none=>some true
 | some (j,want)=>
  match (ops[j]?).bind (·.dst) with
  | none=>none
  | some t=>match lk L t with
   | some (.bool b)=>some (b == want)
   | some (.tuple _)=>some false
   | _=>none
theorem Sl.gd {N:Nat}{L:Env}{a:Act} (h:Sl N L a) {ops:Array Oper}{o:Oper}{c:Bool} (I:Sim.gd ops L o=some c):Region.wanted o (yielded ops a.tmps)=c:=by
 unfold Sim.gd at I;unfold Region.wanted;cases Y:o.guard with
 | none=>simp only [Y,Sa] at I; simp [<- I]
 | some p=>
  obtain ⟨j,Z⟩:=p;simp only [Y] at I;cases J:(ops[j]?).bind (·.dst) with
  | none=>simp [J] at I
  | some t=>
   simp only [J] at I;cases hl:lk L t with
   | none=>simp [hl] at I
   | some v=>
    cases v with
    | bool b=>
     simp only [hl,Sa] at I;have:=h.get t _ hl;simp [yielded,J,this,<- I]
    | tuple vs=>
     simp only [hl,Sa] at I;have:=h.get t _ hl;simp [yielded,J,this,<- I]
    | _=>simp [hl] at I
structure Cx where
 P:Program
 N:Nat
 B:Nat
 w0:World
abbrev lU:=Exit->Act->World->Prop
def W (x:Cx) (ops:Array Oper) (Q:lU) (rest:List Oper) (H:Hp) (M:List bN) (L:Env):Prop:=
 ∀ a w,Sl x.N L a->St x.B x.w0 H M w->wpList x.P ops Q rest a w
def C (x:Cx) (c:Code) (Q:lU) (H:Hp) (M:List bN) (L:Env):Prop:=
 ∀ a w,Sl x.N L a->St x.B x.w0 H M w->c.wp x.P Q a w
def E (x:Cx) (e:Exit) (Q:lU) (H:Hp) (M:List bN) (L:Env):Prop:=
 ∀ a w,Sl x.N L a->St x.B x.w0 H M w->Q e a w
section
variable {x:Cx}{ops:Array Oper}{Q:lU}{rest:List Oper}{H:Hp}{M M':List bN}{L L':Env}
theorem bK {c d:Code} (k:C x c (Exit.then (d.wp x.P Q) Q) H M L):C x (.seq c d) Q H M L:=
 λa w hs ht=>wp_seq (k a w hs ht)
theorem mw (k:E x .normal Q H M L):C x .skip Q H M L:=λa w hs ht=>wp_skip (k a w hs ht)
theorem vy {id:Nat} (k:E x (.exit id) Q H M L):C x (.exit id) Q H M L:=λa w hs ht=>wp_exit (k a w hs ht)
theorem mu (k:E x .ret Q H M L):C x .ret Q H M L:=λa w hs ht=>wp_ret (k a w hs ht)
theorem u5 {id:Nat}{c:Code} (k:C x c (Exit.inBlock id Q) H M L):C x (.block id c) Q H M L:=
 λa w hs ht=>wp_block (k a w hs ht)
theorem bC {c:Operand}{p q:Code}{b:Bool} (I:ev L c=some (.bool b)) (J:b=true->C x p Q H M L) (Y:b=false->C x q Q H M L):
  C x (.cond c p q) Q H M L:=
 λa w hs ht=>wp_cond_split (hs.ev I) (λe=>J e a w hs ht) (λe=>Y e a w hs ht)
theorem aM {id:Nat}{l:List Oper} (k:W x l.toArray Q l H M L):C x (.region id l.toArray false) Q H M L:=
 λa w hs ht=>wp_region_lit (k a w hs ht)
theorem a_ (k:E x .normal Q H M L):W x ops Q [] H M L:=λa w hs ht=>wpList_nil (k a w hs ht)
theorem aS {d:Code}{I:lU} (k:C x d I H M L):E x .normal (Exit.then (d.wp x.P I) Q) H M L:=λa w hs ht=>k a w hs ht
theorem By {c:Code} (hL:Kept L L') (I:M.Perm M') (k:C x c Q H M' L'):C x c Q H M L:=
 λa w hs ht=>k a w (hs.PG hL) (ht.perm I)
theorem DN {e:Exit} (hL:Kept L L') (I:M.Perm M') (k:E x e Q H M' L'):E x e Q H M L:=
 λa w hs ht=>k a w (hs.PG hL) (ht.perm I)
theorem Oh {c:Code} (I:M'.Sublist M) (k:C x c Q H M' L):C x c Q H M L:=λa w hs ht=>k a w hs (ht.sub I)
theorem JN {e:Exit} (I:M'.Sublist M) (k:E x e Q H M' L):E x e Q H M L:=λa w hs ht=>k a w hs (ht.sub I)
theorem oB (I:M.Perm M') (k:W x ops Q rest H M' L):W x ops Q rest H M L:=λa w hs ht=>k a w hs (ht.perm I)
theorem s8 {o:Oper}{d:Nat} (hd:o.dst=some d) (hg:gd ops L o=some true) (hN:Nat.blt d x.N=true)
  (I:∀ a w,Sl x.N L a->St x.B x.w0 H M w->∃ v Y,(execOp a.eval o).run x.P w=.ok (.value v) Y/\∃ H' M',St x.B x.w0 H' M' Y/\W x ops Q rest H' M' ((d,v)::L)):
  W x ops Q (o::rest) H M L:=by
 intro a w hs ht;obtain ⟨v,Y,hr,H',M',J,k⟩:=I a w hs ht;refine VB λK Z=>?_;rw [RU (hs.gd hg)];unfold Oper.wp;rw [hr];simp only [Oper.upon,hd];exact Z _ _ (k _ _ (hs.put hN) J)
theorem eQ {o:Oper}{d:Nat}{v:RJ} (J:o.dst=some d) (Y:gd ops L o=some true) (hN:Nat.blt d x.N=true)
  (I:∀ a w,Sl x.N L a->St x.B x.w0 H M w->(execOp a.eval o).run x.P w=.ok (.value v) w) (k:W x ops Q rest H M ((d,v)::L)):
  W x ops Q (o::rest) H M L:=
 s8 J Y hN λa w hs ht=>⟨v,w,I a w hs ht,H,M,ht,k⟩
theorem Pt {o:Oper}{d:Nat} (J:o.dst=some d) (Y:gd ops L o=some false) (hN:Nat.blt d x.N=true) (k:W x ops Q rest H M ((d,undef)::L)):
  W x ops Q (o::rest) H M L:=by
 intro a w hs ht;refine VB λK I=>?_;rw [RS (by rw [hs.gd Y]; simp),J]
 exact I _ _ (k _ _ (hs.put hN) ht)
theorem N0 {o:Oper} (J:o.dst=none) (Y:gd ops L o=some false) (k:W x ops Q rest H M L):W x ops Q (o::rest) H M L:=by
 intro a w hs ht;refine VB λK I=>?_;rw [RS (by rw [hs.gd Y]; simp),J]
 exact I _ _ (k _ _ hs ht)
theorem D1 {o:Oper} (hd:o.dst=none) (hg:gd ops L o=some true)
  (I:∀ a w,Sl x.N L a->St x.B x.w0 H M w->∃ Y,(execOp a.eval o).run x.P w=.ok .skip Y/\∃ H' M',St x.B x.w0 H' M' Y/\W x ops Q rest H' M' L):
  W x ops Q (o::rest) H M L:=by
 intro a w hs ht;obtain ⟨Y,hr,H',M',J,k⟩:=I a w hs ht;refine VB λK Z=>?_;rw [RU (hs.gd hg)];unfold Oper.wp;rw [hr];simp only [Oper.upon,hd];exact Z _ _ (k _ _ hs J)
def uX (B:Nat) (w0:World) (I:Hp->List bN->RJ->Prop):Ending->World->Prop
 | .returned v,w'=>∃ H' M',St B w0 H' M' w'/\I H' M' v
 | _,_=>False
def zw (L:Env):List Operand->Option (List RJ)
 | []=>some []
 | y::r=>match ev L y,zw L r with
  | some v,some vs=>some (v::vs)
  | _,_=>none
theorem Sl.zw {L:Env}{a:Act}{N:Nat} (hs:Sl N L a):∀ {l:List Operand}{vs:List RJ},Sim.zw L l=some vs->l.map a.eval=vs
 | [],vs,h=>by simp [Sim.zw] at h; simp [h]
 | y::r,vs,h=>by
  simp only [Sim.zw] at h;cases I:Sim.ev L y with
  | none=>simp [I] at h
  | some v=>
   cases J:Sim.zw L r with
   | none=>simp [I,J] at h
   | some Y=>
    simp only [I,J,Sa] at h;subst h;simp [hs.ev I,Sl.zw hs J]
theorem f_ {d:Nat}{f:FuncId}{args:List Operand}{Z:Array TypeId}{ty:TypeId}{pos:String}{I:Array Edge}{g:Option (Nat×Bool)}{vs:List RJ}
  {Φ:Hp->List bN->RJ->Prop}
  (Y:∀ as w,(callFunc f as).run x.P w=.ok (.enter f as) w)
  (hg:gd ops L ⟨some d,.call ⟨.value (.func f),args.toArray,Z⟩,ty,pos,I,g⟩=some true) (hN:Nat.blt d x.N=true)
  (hv:zw L args=some vs)
  (hc:∀ w,St x.B x.w0 H M w->Calls x.P f vs.toArray w (uX x.B x.w0 Φ))
  (k:∀ v H' M',Φ H' M' v->W x ops Q rest H' M' ((d,v)::L)):
  W x ops Q (⟨some d,.call ⟨.value (.func f),args.toArray,Z⟩,ty,pos,I,g⟩::rest) H M L:=by
 intro a w hs ht;refine VB λK hK=>?_;rw [RU (hs.gd hg)];have J:args.toArray.map a.eval=vs.toArray:=by simp [hs.zw hv]
 have hr:(execOp a.eval ⟨some d,.call ⟨.value (.func f),args.toArray,Z⟩,ty,pos,I,g⟩).run x.P w=.ok (.enter f vs.toArray) w:=by
  simp only [execOp,resolve,J,Act.eval,Deferred.ofValue,R4,Sb,RX,invoke];simp [Y]
 unfold Oper.wp;rw [hr];simp only [Oper.upon];refine (hc w ht).mono λe w' he=>?_;cases e with
 | returned v=>
  obtain ⟨H',M',h1,h2⟩:=he;exact hK _ _ (k v H' M' h2 _ _ (hs.put hN) h1)
 | panicked c=>exact he.elim
 | outgrown=>exact he.elim
end
def ye (x:Cx) (H:Hp) (M:List bN) (ad:Addr) (v:RJ):Prop:=∀ w,St x.B x.w0 H M w->w.cell? ad=some v
def BE (H:Hp) (ad:Addr) (v:RJ):Prop:=∃ arr T fz,H ad.block=some (.cells arr T fz)/\ad.spot=none/\arr[ad.off]? = some v
theorem Wc {w:World}{ad:Addr}{arr:Array RJ}{T:TypeId}{fz:Nat×Nat}{v:RJ} (h:w.heap[ad.block]? = some (.cells arr T fz)) (hs:ad.spot=none) (I:arr[ad.off]? = some v):
  w.cell? ad=some v:=by
 simp [World.cell?,h,hs,I]
theorem BE.at {x:Cx}{H:Hp}{M:List bN}{ad:Addr}{v:RJ} (h:BE H ad v):ye x H M ad v:=by
 obtain ⟨arr,T,fz,I,hs,J⟩:=h;exact λw ht=>Wc (ht.vp _ _ I) hs J
theorem BE.mono {H H':Hp}{ad:Addr}{v:RJ} (I:H.le H') (h:BE H ad v):BE H' ad v:=by
 obtain ⟨arr,T,fz,J,hs,Y⟩:=h;exact ⟨arr,T,fz,I _ _ J,hs,Y⟩
theorem wS {x:Cx}{H:Hp}{M:List bN}{b off:Nat}{l:List RJ}{T:TypeId}{fz:Nat×Nat}{v:RJ}
  (O:bN.obj b (.cells l.toArray T fz) ∈ M) (I:l[off]? = some v):ye x H M ⟨b,off,none⟩ v:=by
 intro w ht;exact Wc (ht.wR O) rfl (by simpa using I)
def zK (x:Cx) (H:Hp) (M:List bN) (ad:Addr) (cs:List RJ):Prop:=∀ j c,cs[j]? = some c->ye x H M (ad.add j) c
def iK (H:Hp) (ad:Addr) (cs:List RJ):Prop:=∀ j c,cs[j]? = some c->BE H (ad.add j) c
theorem iK.at {x:Cx}{H:Hp}{M:List bN}{ad:Addr}{cs:List RJ} (h:iK H ad cs):zK x H M ad cs:=λj c I=>(h j c I).at
theorem iK.mono {H H':Hp}{ad:Addr}{cs:List RJ} (I:H.le H') (h:iK H ad cs):iK H' ad cs:=λj c J=>(h j c J).mono I
theorem EI {x:Cx}{H:Hp}{M:List bN}{b:Nat}{l:List RJ}{T:TypeId}{fz:Nat×Nat}
  (O:bN.obj b (.cells l.toArray T fz) ∈ M):zK x H M ⟨b,0,none⟩ l:=by
 intro j c I;rw [SU,Se];exact wS O I
theorem run_loadCellsFrom {P:Program}{w:World}{ad:Addr}:∀ (cs:List RJ) (i:Nat) (acc:Array RJ),(∀ j c,cs[j]? = some c->w.cell? (ad.add (i+j))=some c) ->
  (loadCellsFrom ad i cs.length acc).run P w=.ok (acc++cs.toArray) w
 | [],i,acc,_=>by simp [loadCellsFrom]
 | c::cs,i,acc,h=>by
  have I:=h 0 c rfl;simp only [Tl] at I;have ih:=run_loadCellsFrom (P:=P) (w:=w) (ad:=ad) cs (i+1) (acc.push c) (λj d J=>by have:=h (j+1) d (by simpa using J); rwa [show i+(j+1)=i+1+j from by omega] at this)
  simp only [RW,loadCellsFrom,load,R4,Sem.run,I,RX];rw [ih];simp
section
variable {x:Cx}{ops:Array Oper}{Q:lU}{rest:List Oper}{H:Hp}{M M':List bN}{L L':Env}
variable {d:Nat}{ty:TypeId}{pos:String}{aft:Array Edge}{g:Option (Nat×Bool)}
theorem bT {y:Operand}{v:RJ} (I:gd ops L ⟨some d,.move y,ty,pos,aft,g⟩=some true) (hN:Nat.blt d x.N=true)
  (J:ev L y=some v) (k:W x ops Q rest H M ((d,v)::L)):W x ops Q (⟨some d,.move y,ty,pos,aft,g⟩::rest) H M L:=
 eQ rfl I hN (λa w hs _=>by simp [execOp,hs.ev J]) k
theorem aK {y:Operand}{v:RJ} (I:gd ops L ⟨some d,.assign y,ty,pos,aft,g⟩=some true) (hN:Nat.blt d x.N=true)
  (J:ev L y=some v) (k:W x ops Q rest H M ((d,v)::L)):W x ops Q (⟨some d,.assign y,ty,pos,aft,g⟩::rest) H M L:=
 eQ rfl I hN (λa w hs _=>by simp [execOp,hs.ev J]) k
theorem DZ {c y z:Operand}{b:Bool}{v:RJ} (Y:gd ops L ⟨some d,.pick c y z,ty,pos,aft,g⟩=some true) (hN:Nat.blt d x.N=true)
  (J:ev L c=some (.bool b)) (I:(if b then ev L y else ev L z)=some v) (k:W x ops Q rest H M ((d,v)::L)):
  W x ops Q (⟨some d,.pick c y z,ty,pos,aft,g⟩::rest) H M L:=
 eQ rfl Y hN (λa w hs _=>by
  cases b
  ·simp only [Tr,T5] at I; simp [execOp,hs.ev J,hs.ev I,asBool]
  ·simp only [Vz] at I; simp [execOp,hs.ev J,hs.ev I,asBool]) k
def BY:BinOp->RJ->RJ->Option RJ
 | .add,.int k a,.int k' b=>if k=k' then some (.int k (k.wrap (a+b))) else none
 | .sub,.int k a,.int k' b=>if k=k' then some (.int k (k.wrap (a-b))) else none
 | .mul,.int k a,.int k' b=>if k=k' then some (.int k (k.wrap (a*b))) else none
 | .lss,.int k a,.int k' b=>if k=k' then some (.bool (decide (a<b))) else none
 | .leq,.int k a,.int k' b=>if k=k' then some (.bool (decide (a<=b))) else none
 | .gtr,.int k a,.int k' b=>if k=k' then some (.bool (decide (b<a))) else none
 | .geq,.int k a,.int k' b=>if k=k' then some (.bool (decide (b<=a))) else none
 | .eql,.int k a,.int k' b=>if k=k' then some (.bool (decide (a=b))) else none
 | .neq,.int k a,.int k' b=>if k=k' then some (.bool (!decide (a=b))) else none
 | .and,.int k a,.int k' b=>if k=k' then some (.int k (k.wrap (BitVec.ofInt k.bits a &&& BitVec.ofInt k.bits b).toNat)) else none
 | .or,.int k a,.int k' b=>if k=k' then some (.int k (k.wrap (BitVec.ofInt k.bits a ||| BitVec.ofInt k.bits b).toNat)) else none
 | .xor,.int k a,.int k' b=>if k=k' then some (.int k (k.wrap (BitVec.ofInt k.bits a ^^^ BitVec.ofInt k.bits b).toNat)) else none
 | .eql,.string s,.string t=>some (.bool (decide (s=t)))
 | .neq,.string s,.string t=>some (.bool (!decide (s=t)))
 | .lss,.string s,.string t=>some (.bool (Op.bytesLess s.toList t.toList))
 | _,_,_=>none
theorem On (s t:RI):(s.toList == t.toList)=decide (s=t):=by
 rw [Bool.eq_iff_iff];simp only [beq_iff_eq,Sy];constructor
 ·intro h
  have hs:∀ u:RI,u.toList=u.data.toList:=ByteArray.toList_eq;rw [hs,hs] at h;exact ByteArray.ext (Array.ext' h)
 ·intro h; rw [h]
theorem HV (a b:Int):(a == b)=decide (a=b):=by rw [Bool.eq_iff_iff]; simp
theorem KR {p:Prop}[Decidable p] {v w:RJ} (h:(if p then some v else none)=some w):p/\v=w:=by
 split at h
 ·exact ⟨‹_›,by simpa using h⟩
 ·cases h
theorem IN {I:BinOp}{a b v:RJ} (t:TypeId) (P:Program) (w:World) (h:BY I a b=some v):(binOp I t a b).run P w=.ok v w:=by
 unfold BY at h
 split at h
 case h_1 | h_2 | h_3 | h_4 | h_5 | h_6 | h_7 | h_8 | h_9 | h_10 | h_11 | h_12=>
  obtain ⟨rfl,rfl⟩:=KR h
  first
   | (simp [binOp,Op.intArith]; done)
   | (simp [binOp,Op.intBits]; done)
   | (simp [binOp,Op.intCmp]; done)
   | (simp [binOp,Op.intCmp,bne,HV]; done)
 case h_13 | h_14 | h_15=>cases h; simp [binOp,Op.stringOp,<- On]
 case h_16=>cases h
theorem Fy {I:BinOp}{a b v:RJ} (t:TypeId) (y z:Operand) (P:Program) (w:World) (h:BY I a b=some v):(eqGuard I t y z a b).run P w=.ok () w:=by
 unfold BY at h
 split at h <;> first
  | (simp [eqGuard]; done)
  | (cases h; done)
theorem wi {I:BinOp}{t u:TypeId}{y z:Operand}{a b v:RJ} (Y:gd ops L ⟨some d,.binOp I t y z u,ty,pos,aft,g⟩=some true) (hN:Nat.blt d x.N=true)
  (Z:ev L y=some a) (hz:ev L z=some b) (J:BY I a b=some v) (k:W x ops Q rest H M ((d,v)::L)):
  W x ops Q (⟨some d,.binOp I t y z u,ty,pos,aft,g⟩::rest) H M L:=
 eQ rfl Y hN (λc w hs _=>by
  simp only [execOp,hs.ev Z,hs.ev hz,R4,Fy t y z x.P w J,RX,IN t x.P w J,Sb]) k
theorem J6 {t u:TypeId}{y z:Operand}{I:IntKind}{m n:Int} (J:gd ops L ⟨some d,.binOp .quo t y z u,ty,pos,aft,g⟩=some true) (hN:Nat.blt d x.N=true)
  (Y:ev L y=some (.int I m)) (Z:ev L z=some (.int I n)) (hn:n≠0) (k:W x ops Q rest H M ((d,.int I (I.wrap (m.tdiv n)))::L)):
  W x ops Q (⟨some d,.binOp .quo t y z u,ty,pos,aft,g⟩::rest) H M L:=
 eQ rfl J hN (λc w hs _=>by
  simp [execOp,hs.ev Y,hs.ev Z,eqGuard,binOp,Op.intDiv,hn]) k
theorem J8 {t u:TypeId}{y z:Operand}{I:IntKind}{m n:Int} (J:gd ops L ⟨some d,.binOp .rem t y z u,ty,pos,aft,g⟩=some true) (hN:Nat.blt d x.N=true)
  (Y:ev L y=some (.int I m)) (Z:ev L z=some (.int I n)) (hn:n≠0) (k:W x ops Q rest H M ((d,.int I (m.tmod n))::L)):
  W x ops Q (⟨some d,.binOp .rem t y z u,ty,pos,aft,g⟩::rest) H M L:=
 eQ rfl J hN (λc w hs _=>by
  simp [execOp,hs.ev Y,hs.ev Z,eqGuard,binOp,Op.intDiv,hn]) k
def Oe:UnOp->RJ->Option RJ
 | .neg,.int k n=>some (.int k (k.wrap (0-n)))
 | .not,.bool b=>some (.bool !b)
 | .xor,.int k n=>some (.int k (k.wrap (BitVec.ofInt k.bits (if k.signed then -1 else k.max) ^^^ BitVec.ofInt k.bits n).toNat))
 | _,_=>none
theorem Pu {J:UnOp}{t:TypeId}{y:Operand}{a v:RJ} (Y:gd ops L ⟨some d,.unOp J t y,ty,pos,aft,g⟩=some true) (hN:Nat.blt d x.N=true)
  (Z:ev L y=some a) (I:Oe J a=some v) (k:W x ops Q rest H M ((d,v)::L)):
  W x ops Q (⟨some d,.unOp J t y,ty,pos,aft,g⟩::rest) H M L:=
 eQ rfl Y hN (λc w hs _=>by
  simp only [execOp,hs.ev Z];unfold Oe at I
  split at I <;> first
   | (cases I; simp [Op.unary,Op.intArith,Op.intBits]; done)
   | cases I) k
theorem Ps {T:TypeId}{y:Operand}{v:RJ}{cs:List RJ} (J:gd ops L ⟨some d,.box T y,ty,pos,aft,g⟩=some true) (hN:Nat.blt d x.N=true)
  (Y:ev L y=some v) (I:v.cells=cs.toArray)
  (k:∀ b,W x ops Q rest H (.obj b (.cells cs.toArray T (0,0))::M) ((d,.pointer (some ⟨b,0,none⟩))::L)):
  W x ops Q (⟨some d,.box T y,ty,pos,aft,g⟩::rest) H M L:=
 s8 rfl J hN (λc w hs ht=>⟨_,w.alloc (.cells cs.toArray T),by
  simp only [execOp,hs.ev Y,Instr.box,newVar,newRow,newObj,R4,Sb,Sem.run,RX,I,World.alloc],_,_,ht.alloc _,k _⟩)
theorem L9 {T:TypeId}{z:RJ}{cs:List RJ} (J:gd ops L ⟨some d,.alloc T,ty,pos,aft,g⟩=some true) (hN:Nat.blt d x.N=true)
  (Y:∀ w,(zeroValue T).run x.P w=.ok z w) (I:z.cells=cs.toArray)
  (k:∀ b,W x ops Q rest H (.obj b (.cells cs.toArray T (0,0))::M) ((d,.pointer (some ⟨b,0,none⟩))::L)):
  W x ops Q (⟨some d,.alloc T,ty,pos,aft,g⟩::rest) H M L:=
 s8 rfl J hN (λc w hs ht=>⟨_,w.alloc (.cells cs.toArray T),by
  simp only [execOp,Instr.alloc,Y,newVar,newRow,newObj,R4,Sb,Sem.run,RX,I,World.alloc],_,_,ht.alloc _,k _⟩)
theorem pM {T:TypeId}{y:Operand}{ad:Addr}{v:RJ} (Y:gd ops L ⟨some d,.load T y,ty,pos,aft,g⟩=some true) (hN:Nat.blt d x.N=true)
  (I:∀ w,(isAgg T).run x.P w=.ok false w) (Z:ev L y=some (.pointer (some ad))) (J:ye x H M ad v)
  (k:W x ops Q rest H M ((d,v)::L)):W x ops Q (⟨some d,.load T y,ty,pos,aft,g⟩::rest) H M L:=
 eQ rfl Y hN (λc w hs ht=>by
  simp [execOp,hs.ev Z,Instr.loadAt,Instr.sureAddr,loadVar,I,load,Sem.run,J w ht]) k
theorem jN {T:TypeId}{n:Nat}{y:Operand}{ad:Addr}{cs:List RJ} (Y:gd ops L ⟨some d,.load T y,ty,pos,aft,g⟩=some true) (hN:Nat.blt d x.N=true)
  (I:∀ w,(isAgg T).run x.P w=.ok true w) (hn:∀ w,(sizeOf T).run x.P w=.ok n w) (hy:ev L y=some (.pointer (some ad))) (J:zK x H M ad cs) (hl:cs.length=n)
  (k:W x ops Q rest H M ((d,.agg cs.toArray)::L)):W x ops Q (⟨some d,.load T y,ty,pos,aft,g⟩::rest) H M L:=
 eQ rfl Y hN (λc w hs ht=>by
  have h:=run_loadCellsFrom (P:=x.P) (w:=w) (ad:=ad) cs 0 #[] (λj v Z=>by rw [Se]; exact J j v Z w ht)
  rw [hl] at h;simp [execOp,hs.ev hy,Instr.loadAt,Instr.sureAddr,loadVar,I,hn,loadCells,h]) k
theorem u7 {T:TypeId}{y:Operand}{ad:Addr}{f n o:Nat}{fs:Array Field}{I:Field} (hg:gd ops L ⟨some d,.fieldAddr T y f,ty,pos,aft,g⟩=some true) (hN:Nat.blt d x.N=true)
  (Z:∀ w,(underlying T).run x.P w=.ok (.struct fs) w) (hf:fs[f]? = some I) (hn:∀ w,(sizeOf I.type).run x.P w=.ok n w) (J:Nat.beq n 0=false) (ho:I.offset=o)
  (hy:ev L y=some (.pointer (some ad))) (k:W x ops Q rest H M ((d,.pointer (some (ad.add o)))::L)):
  W x ops Q (⟨some d,.fieldAddr T y f,ty,pos,aft,g⟩::rest) H M L:=
 eQ rfl hg hN (λc w hs ht=>by
  have Y:¬ n=0:=λe=>by subst e; simp at J
  simp [execOp,hs.ev hy,Instr.fieldAt,Z,hf,Instr.sureAddr,fieldPlace,hn,Y,ho]) k
theorem qk {y:Operand}{ad:Addr} (I:gd ops L ⟨some d,.nilCheck y,ty,pos,aft,g⟩=some true) (hN:Nat.blt d x.N=true)
  (J:ev L y=some (.pointer (some ad))) (k:W x ops Q rest H M ((d,.pointer (some ad))::L)):
  W x ops Q (⟨some d,.nilCheck y,ty,pos,aft,g⟩::rest) H M L:=
 eQ rfl I hN (λc w hs ht=>by simp [execOp,hs.ev J]) k
theorem sT {y:Operand}{vs:Array RJ}{i:Nat}{v:RJ} (I:gd ops L ⟨some d,.extract y i,ty,pos,aft,g⟩=some true) (hN:Nat.blt d x.N=true)
  (Y:ev L y=some (.tuple vs)) (J:vs[i]? = some v) (k:W x ops Q rest H M ((d,v)::L)):
  W x ops Q (⟨some d,.extract y i,ty,pos,aft,g⟩::rest) H M L:=
 eQ rfl I hN (λc w hs ht=>by simp [execOp,hs.ev Y,Instr.extract,J]) k
theorem Fa {y z:Operand}{I:Array TypeId}{J:IntKind}{m n:Int} (Y:gd ops L ⟨some d,.call ⟨.builtin .min,#[y,z],I⟩,ty,pos,aft,g⟩=some true) (hN:Nat.blt d x.N=true)
  (Z:ev L y=some (.int J m)) (hz:ev L z=some (.int J n)) (k:W x ops Q rest H M ((d,.int J (min m n))::L)):
  W x ops Q (⟨some d,.call ⟨.builtin .min,#[y,z],I⟩,ty,pos,aft,g⟩::rest) H M L:=
 eQ rfl Y hN (λc w hs ht=>by
  have:(if n<m then n else m)=min m n:=by rw [Int.min_def]; split <;> split <;> omega
  simp [execOp,resolve,invoke,builtin,hs.ev Z,hs.ev hz,Builtin.min_,Builtin.min2,this]) k
theorem NZ {y z:Operand}{I:Array TypeId}{J:IntKind}{m n:Int} (Y:gd ops L ⟨some d,.call ⟨.builtin .max,#[y,z],I⟩,ty,pos,aft,g⟩=some true) (hN:Nat.blt d x.N=true)
  (Z:ev L y=some (.int J m)) (hz:ev L z=some (.int J n)) (k:W x ops Q rest H M ((d,.int J (max m n))::L)):
  W x ops Q (⟨some d,.call ⟨.builtin .max,#[y,z],I⟩,ty,pos,aft,g⟩::rest) H M L:=
 eQ rfl Y hN (λc w hs ht=>by
  have:(if n > m then n else m)=max m n:=by rw [Int.max_def]; split <;> split <;> omega
  simp [execOp,resolve,invoke,builtin,hs.ev Z,hs.ev hz,Builtin.max_,Builtin.max2,this]) k
theorem DY {t e:TypeId}{y:Operand}{a:Option Addr}{m n:Nat} (J:gd ops L ⟨some d,.call ⟨.builtin .len,#[y],#[t]⟩,ty,pos,aft,g⟩=some true) (hN:Nat.blt d x.N=true)
  (I:∀ w,(underlying t).run x.P w=.ok (.slice e) w) (Y:ev L y=some (.slice a n m)) (k:W x ops Q rest H M ((d,.int .i64 n)::L)):
  W x ops Q (⟨some d,.call ⟨.builtin .len,#[y],#[t]⟩,ty,pos,aft,g⟩::rest) H M L:=
 eQ rfl J hN (λc w hs ht=>by
  simp [execOp,resolve,invoke,builtin,hs.ev Y,Builtin.len_,I,goInt]) k
theorem fK {t:TypeId}{y:Operand}{s:RI} (J:gd ops L ⟨some d,.call ⟨.builtin .len,#[y],#[t]⟩,ty,pos,aft,g⟩=some true) (hN:Nat.blt d x.N=true)
  (I:∀ w,(underlying t).run x.P w=.ok .string w) (Y:ev L y=some (.string s)) (k:W x ops Q rest H M ((d,.int .i64 s.size)::L)):
  W x ops Q (⟨some d,.call ⟨.builtin .len,#[y],#[t]⟩,ty,pos,aft,g⟩::rest) H M L:=
 eQ rfl J hN (λc w hs ht=>by
  simp [execOp,resolve,invoke,builtin,hs.ev Y,Builtin.len_,I,goInt]) k
theorem J1 {t e:TypeId}{sz:Nat}{y z:Operand}{ad:Addr}{n m:Nat}{kk:IntKind}{i:Int} (hg:gd ops L ⟨some d,.indexAddr t y z,ty,pos,aft,g⟩=some true) (hN:Nat.blt d x.N=true)
  (Z:∀ w,(underlying t).run x.P w=.ok (.slice e) w) (hs:∀ w,(sizeOf e).run x.P w=.ok sz w)
  (hy:ev L y=some (.slice (some ad) n m)) (hz:ev L z=some (.int kk i)) (Y:0<=i) (h1:i.toNat<n)
  (k:W x ops Q rest H M ((d,.pointer (some (ad.add (i.toNat*sz))))::L)):
  W x ops Q (⟨some d,.indexAddr t y z,ty,pos,aft,g⟩::rest) H M L:=
 eQ rfl hg hN (λc w I ht=>by
  have J:i<(n:Int):=by omega
  simp [execOp,I.ev hy,I.ev hz,Instr.indexAt,asIntOf,Z,hs,Y,J]) k
end
class aF (α:Type) where
 sz:Nat
 E:Hp->List RJ->α->Prop
 len:∀ {H cs x},E H cs x->cs.length=sz
 mono:∀ {H H' cs x},H.le H'->E H cs x->E H' cs x
 one:∀ {H cs x},E H cs x->∀ c ∈ cs,c.oneCell'=true
instance:aF Int where
 sz:=1
 E _ cs n:=cs=[.int .i64 n]
 len h:=by rw [h]; rfl
 mono _ h:=h
 one h c hc:=by rw [h] at hc; simp at hc; subst hc; rfl
instance:aF Bool where
 sz:=1
 E _ cs b:=cs=[.bool b]
 len h:=by rw [h]; rfl
 mono _ h:=h
 one h c hc:=by rw [h] at hc; simp at hc; subst hc; rfl
instance:aF RI where
 sz:=1
 E _ cs s:=cs=[.string s]
 len h:=by rw [h]; rfl
 mono _ h:=h
 one h c hc:=by rw [h] at hc; simp at hc; subst hc; rfl
instance:aF UInt8 where
 sz:=1
 E _ cs n:=cs=[.int .u8 n.toNat]
 len h:=by rw [h]; rfl
 mono _ h:=h
 one h c hc:=by rw [h] at hc; simp at hc; subst hc; rfl
instance:aF UInt32 where
 sz:=1
 E _ cs n:=cs=[.int .u32 n.toNat]
 len h:=by rw [h]; rfl
 mono _ h:=h
 one h c hc:=by rw [h] at hc; simp at hc; subst hc; rfl
instance:aF UInt64 where
 sz:=1
 E _ cs n:=cs=[.int .u64 n.toNat]
 len h:=by rw [h]; rfl
 mono _ h:=h
 one h c hc:=by rw [h] at hc; simp at hc; subst hc; rfl
def aP {α:Type}[aF α] (H:Hp) (v:RJ) (xs:List α):Prop:=
 ((∃ a,v=.slice a 0 0)/\xs=[]) \/
 ∃ b off cap arr T fz,v=.slice (some ⟨b,off,none⟩) xs.length cap/\xs.length<=cap/\cap<=maxLen/\H b=some (.cells arr T fz)/\off+cap*aF.sz α<=arr.size /\
  ∀ k e,xs[k]? = some e->∃ cs,aF.E H cs e/\∀ j c,cs[j]? = some c->arr[off+k*aF.sz α+j]? = some c
theorem aP.mono {α:Type}[aF α] {H H':Hp}{v:RJ}{xs:List α} (I:H.le H') (h:aP H v xs):aP H' v xs:=by
 rcases h with h | ⟨b,off,cap,arr,T,fz,J,Y,Z,h4,h5,h6⟩
 ·exact .inl h
 ·exact .inr ⟨b,off,cap,arr,T,fz,J,Y,Z,I _ _ h4,h5,λk e he=>let ⟨cs,a,b⟩:=h6 k e he; ⟨cs,aF.mono I a,b⟩⟩
instance {α:Type}[aF α]:aF (List α) where
 sz:=1
 E H cs xs:=∃ v,cs=[v]/\aP H v xs
 len h:=by obtain ⟨v,rfl,_⟩:=h; rfl
 mono hle h:=by obtain ⟨v,e,I⟩:=h; exact ⟨v,e,I.mono hle⟩
 one h c hc:=by
  obtain ⟨v,rfl,I⟩:=h;simp at hc; subst hc
  rcases I with ⟨⟨a,rfl⟩,_⟩ | ⟨b,off,cap,arr,T,fz,rfl,_⟩ <;> rfl
def Value.base:RJ->Addr
 | .slice (some a) _ _=>a
 | _=>⟨0,0,none⟩
def Value.oC:RJ->Nat
 | .slice _ _ c=>c
 | _=>0
theorem aP.len {α:Type}[aF α] {H:Hp}{v:RJ}{xs:List α} (h:aP H v xs):∃ a c,v=.slice a xs.length c/\xs.length<=c/\c<=maxLen:=by
 rcases h with ⟨⟨a,rfl⟩,rfl⟩ | ⟨b,off,cap,arr,T,fz,rfl,I,J,_⟩
 ·exact ⟨a,0,rfl,R9 _,by unfold maxLen; omega⟩
 ·exact ⟨_,cap,rfl,I,J⟩
theorem aP.val {α:Type}[aF α] {H:Hp}{v:RJ}{xs:List α} (h:aP H v xs) {k:Nat}{e:α} (he:xs[k]? = some e):v=.slice (some (Value.base v)) xs.length (Value.oC v):=by
 rcases h with ⟨⟨a,rfl⟩,rfl⟩ | ⟨b,off,cap,arr,T,fz,rfl,_⟩
 ·simp at he
 ·rfl
theorem aP.elem {α:Type}[aF α] {H:Hp}{v:RJ}{xs:List α} (h:aP H v xs) {k:Nat}{e:α} (he:xs[k]? = some e):
  ∃ cs,aF.E H cs e/\iK H ((Value.base v).add (k*aF.sz α)) cs:=by
 rcases h with ⟨⟨a,rfl⟩,rfl⟩ | ⟨b,off,cap,arr,T,fz,rfl,h2,h3,I,h5,J⟩
 ·simp at he
 ·obtain ⟨cs,Y,Z⟩:=J k e he
  refine ⟨cs,Y,λj c hc=>⟨arr,T,fz,?_,?_,?_⟩⟩
  ·simp only [Value.base,SU]; exact I
  ·simp only [Value.base,SU]
  ·simp only [Value.base,SU]; exact Z j c hc
section
variable {x:Cx}{ops:Array Oper}{Q:lU}{rest:List Oper}{H:Hp}{M M':List bN}{L L':Env}
variable {d:Nat}{ty:TypeId}{pos:String}{aft:Array Edge}{g:Option (Nat×Bool)}
theorem E_ {α:Type}[aF α] {t e:TypeId}{y z:Operand}{v:RJ}{xs:List α}{el:α}{kk:IntKind}{i:Int} (Y:gd ops L ⟨some d,.indexAddr t y z,ty,pos,aft,g⟩=some true) (hN:Nat.blt d x.N=true)
  (J:∀ w,(underlying t).run x.P w=.ok (.slice e) w) (hs:∀ w,(sizeOf e).run x.P w=.ok (aF.sz α) w)
  (Z:ev L y=some v) (hR:aP H v xs) (hz:ev L z=some (.int kk i)) (I:0<=i) (he:xs[i.toNat]? = some el)
  (k:W x ops Q rest H M ((d,.pointer (some ((Value.base v).add (i.toNat*aF.sz α))))::L)):
  W x ops Q (⟨some d,.indexAddr t y z,ty,pos,aft,g⟩::rest) H M L:=
 J1 Y hN J hs (by rw [Z,<- hR.val he]) hz I (by rcases RP.1 he with ⟨h,_⟩; exact h) k
theorem J3 {α:Type}[aF α] {t e:TypeId}{y:Operand}{v:RJ}{xs:List α} (J:gd ops L ⟨some d,.call ⟨.builtin .len,#[y],#[t]⟩,ty,pos,aft,g⟩=some true) (hN:Nat.blt d x.N=true)
  (I:∀ w,(underlying t).run x.P w=.ok (.slice e) w) (Y:ev L y=some v) (hR:aP H v xs) (k:W x ops Q rest H M ((d,.int .i64 xs.length)::L)):
  W x ops Q (⟨some d,.call ⟨.builtin .len,#[y],#[t]⟩,ty,pos,aft,g⟩::rest) H M L:=by
 obtain ⟨a,c,rfl,_⟩:=hR.len;exact DY J hN I Y k
end
def over (l:List RJ) (k:Nat):List RJ->List RJ
 | []=>l
 | v::vs=>over (l.set k v) (k+1) vs
theorem qd (vs:List RJ):∀ (l:List RJ) (k:Nat),(over l k vs).length=l.length:=by
 induction vs with
 | nil=>intro l k; rfl
 | cons v vs ih=>intro l k; simp [over,ih]
theorem kO {P:Program} (b o:Nat) (T:TypeId):∀ (vs:List RJ) (i:Nat) (l:List RJ) (w:World),w.heap[b]? = some (.cells l.toArray T (0,0)) ->
  o+i+vs.length<=l.length->(∀ v ∈ vs,v.oneCell'=true) ->
  ∃ Y,(storeCells ⟨b,o,none⟩ vs i).run P w=.ok () Y/\Y.heap[b]? = some (.cells (over l (o+i) vs).toArray T (0,0))/\w.grownBy Y (some b)
 | [],i,l,w,h,_,_=>⟨w,rfl,h,⟨rfl,rfl,rfl,R9 _,λ_ _ _=>rfl⟩⟩
 | v::vs,i,l,w,h,hb,h1=>by
  have Z:o+i<l.length:=by simp at hb; omega
  have hc:w.cell? ⟨b,o+i,none⟩=some l[o+i]:=Wc (w:=w) (ad:=⟨b,o+i,none⟩) h rfl (by simp [Z])
  have hf:w.frozen? ⟨b,o+i,none⟩=false:=by simp [World.frozen?,h]
  have h':(w.setCell ⟨b,o+i,none⟩ v).heap[b]? = some (.cells (l.set (o+i) v).toArray T (0,0)):=by
   simp [World.setCell,V8,h]
  obtain ⟨Y,hr,hh,I⟩:=kO (P:=P) b o T vs (i+1) (l.set (o+i) v) (w.setCell ⟨b,o+i,none⟩ v) h' (by simp at hb ⊢; omega) (λu hu=>h1 u (RV _ hu))
  refine ⟨Y,?_,?_,?_⟩
  ·have hv:=h1 v (RR ..)
   simp only [storeCells,R4,store,SU];have:(Sem.store Mode.plain ⟨b,o+i,none⟩ v (Sem.pure ())).run P w=.ok () (w.setCell ⟨b,o+i,none⟩ v):=by
    cases v <;> first
     | (simp [Sem.run,hc,hf]; done)
     | simp [Value.oneCell'] at hv
   rw [this];simpa using hr
  ·simpa [over,Uc] using hh
  ·exact ⟨I.os,I.tape,I.output,by have:=I.size; simpa [World.setCell] using this,λk hk J=>by
    rw [I.block k (by simpa [World.setCell] using hk) J]
    exact Below.heap_setCell _ _ _ _ (by intro e; subst e; exact J rfl)⟩
section
variable {x:Cx}{ops:Array Oper}{Q:lU}{rest:List Oper}{H:Hp}{M M':List bN}{L L':Env}
variable {ty:TypeId}{pos:String}{aft:Array Edge}{g:Option (Nat×Bool)}
theorem D2 {T E:TypeId}{n:Nat}{y z:Operand}{b o:Nat}{l cs out:List RJ}{v:RJ} (hg:gd ops L ⟨none,.store T y z,ty,pos,aft,g⟩=some true)
  (hn:∀ w,(sizeOf T).run x.P w=.ok n w) (hy:ev L y=some (.pointer (some ⟨b,o,none⟩))) (hz:ev L z=some v) (hv:v.cells=cs.toArray) (hl:cs.length=n)
  (Z:Nat.ble (o+cs.length) l.length=true) (Y:∀ c ∈ cs,c.oneCell'=true) (ho:over l o cs=out)
  (k:W x ops Q rest H (.obj b (.cells out.toArray E (0,0))::M) L):
  W x ops Q (⟨none,.store T y z,ty,pos,aft,g⟩::rest) H (.obj b (.cells l.toArray E (0,0))::M) L:=
 D1 rfl hg (λa w hs ht=>by
  subst ho;have J:=ht.wR (RR ..);obtain ⟨w',hr,hh,I⟩:=kO (P:=x.P) b o E cs 0 l w J (by simpa [Uh] using Z) Y
  refine ⟨w',?_,H,_,ht.E1 (r':=.obj b (.cells (over l o cs).toArray E (0,0))) I hh (λc hc=>.inl hc),k⟩;simp [execOp,hs.ev hy,hs.ev hz,Instr.storeAt,Instr.sureAddr,storeVar,hn,hl,hv,hr])
end
theorem least {p:Nat->Prop}:∀ n,p n->∃ m,p m/\∀ k,p k->m<=k:=by
 intro n
 induction n using Nat.strongRecOn with
 | _ n ih=>
  intro h
  by_cases I:∃ m,m<n/\p m
  ·obtain ⟨m,O,Y⟩:=I; exact ih m O Y
  ·exact ⟨n,h,λk J=>by
    by_cases e:k<n
    ·exact absurd ⟨k,e,J⟩ I
    ·omega⟩
theorem LW {P:Program}{Q:lU}{c:Code} (J:Nat->Act->World->Prop) {n:Nat}{a:Act}{w:World} (h0:J n a w)
  (I:∀ n a w,J n a w->c.wp P (Exit.then (λZ w'=>∃ m,m<n/\J m Z w') Q) a w):(Code.loop c).wp P Q a w:=by
 have hex:∀ a w,(∃ n,J n a w)->∃ m,J m a w/\∀ k,J k a w->m<=k:=λa w ⟨n,h⟩=>least n h
 let μ:Act->World->Nat:=λa w=>Classical.epsilon (λm=>J m a w/\∀ k,J k a w->m<=k)
 have Y:∀ a w,(∃ n,J n a w)->J (μ a w) a w/\∀ k,J k a w->μ a w<=k:=λa w h=>Classical.epsilon_spec (p:=λm=>J m a w/\∀ k,J k a w->m<=k) (hex a w h);refine wp_loop (λa w=>∃ n,J n a w) μ ⟨n,h0⟩ λa w h=>?_;refine wp_mono (I (μ a w) a w (Y a w h).1) ?_;intro e Z w' hq;cases e with
 | normal=>
  obtain ⟨m,O,hJ⟩:=hq;exact ⟨⟨m,hJ⟩,UH ((Y Z w' ⟨m,hJ⟩).2 m hJ) O⟩
 | _=>exact hq
abbrev Di:=Nat->Hp->List bN->Env->Prop
def JL (x:Cx) (S:Di) (n:Nat) (a:Act) (w:World):Prop:=
 ∃ m,m<n/\∃ H M L,S m H M L/\Sl x.N L a/\St x.B x.w0 H M w
theorem Bz {x:Cx}{c:Code}{Q:lU}{H:Hp}{M:List bN}{L:Env} (S:Di) (n:Nat) (I:S n H M L)
  (step:∀ n H M L,S n H M L->C x c (Exit.then (JL x S n) Q) H M L):C x (.loop c) Q H M L:=by
 intro a w hs ht;refine LW (λn a w=>∃ H M L,S n H M L/\Sl x.N L a/\St x.B x.w0 H M w) ⟨H,M,L,I,hs,ht⟩ ?_;intro n a w ⟨H,M,L,h,hs,ht⟩;exact step n H M L h a w hs ht
theorem uK {x:Cx}{S:Di}{Q:lU}{H:Hp}{M:List bN}{L:Env}{n m:Nat} (O:m<n) (h:S m H M L):E x .normal (Exit.then (JL x S n) Q) H M L:=
 λ_ _ hs ht=>⟨m,O,H,M,L,h,hs,ht⟩
section
variable {x:Cx}{Q:lU}{H:Hp}{M:List bN}{L:Env}{K:Act->World->Prop}
theorem jB (h:E x .ret Q H M L):E x .ret (Exit.then K Q) H M L:=h
theorem ur {id:Nat} (h:E x .ret Q H M L):E x .ret (Exit.inBlock id Q) H M L:=h
theorem gO {id:Nat} (h:E x (.exit id) Q H M L):E x (.exit id) (Exit.then K Q) H M L:=h
theorem nT {id:Nat} (h:E x .normal Q H M L):E x (.exit id) (Exit.inBlock id Q) H M L:=λa w hs ht=>by
 simp only [Exit.inBlock,Vz]; exact h a w hs ht
theorem uq {id I:Nat} (J:Nat.beq id I=false) (h:E x (.exit id) Q H M L):E x (.exit id) (Exit.inBlock I Q) H M L:=λa w hs ht=>by
 have:¬ id=I:=λe=>by subst e; simp at J
 simp only [Exit.inBlock,RS this]; exact h a w hs ht
theorem my {id:Nat} (h:E x .normal Q H M L):E x .normal (Exit.inBlock id Q) H M L:=h
end
abbrev Po:=Hp->List bN->Env->Prop
theorem sD {x:Cx}{c d:Code}{Q:lU}{H:Hp}{M:List bN}{L:Env} (S:Po) (rest:∀ H M L,S H M L->C x d Q H M L)
  (k:(∀ H M L,S H M L->E x .normal (Exit.then (d.wp x.P Q) Q) H M L)->C x c (Exit.then (d.wp x.P Q) Q) H M L):C x (.seq c d) Q H M L:=
 bK (k λH M L h=>aS (rest H M L h))
theorem fI {α:Type}{xs ys:List α}{k:Nat} (h:xs.drop k=ys) (J:decide ((k:Int)<(xs.length:Int))=true):
  ∃ y zs,ys=y::zs/\xs[k]? = some y/\xs.drop (k+1)=zs:=by
 have I:k<xs.length:=by have:=RT J; omega
 refine ⟨xs[k],xs.drop (k+1),?_,RK I,rfl⟩;rw [<- h,Si I]
theorem fH {α:Type}{xs ys:List α}{k:Nat} (h:xs.drop k=ys) (I:decide ((k:Int)<(xs.length:Int))=false):ys=[]:=by
 have J:xs.length<=k:=by have:=R2 I; omega
 rw [<- h,List.drop_eq_nil_of_le J]
theorem yq {n:Int} (I:-9223372036854775808<=n) (J:n<=9223372036854775807):i64.wrap n=n:=by
 simp only [IntKind.wrap,IntKind.bits,IntKind.signed,Bool.true_and]
 split <;> rename_i h <;> simp at h <;> omega
theorem bV {α:Type}{xs:List α}{k:Nat}{y:α} (h:xs[k]? = some y) (hl:xs.length<=maxLen):i64.wrap ((k:Int)+1)=((k+1:Nat):Int):=by
 have I:=(RP.1 h).1;unfold maxLen at hl;rw [yq (by omega) (by omega)]; rfl
theorem eJ {k n:Nat} (h:k<n) (hl:n<=maxLen):i64.wrap ((k:Int)+1)=((k+1:Nat):Int):=by
 unfold maxLen at hl;rw [yq (by omega) (by omega)]; rfl
theorem aP.cU {α:Type}[aF α] {H:Hp}{v:RJ}{xs:List α} (h:aP H v xs):xs.length<=maxLen:=by
 obtain ⟨a,c,_,I,J⟩:=h.len; omega
def Dt:Nat->List RJ->Env
 | _,[]=>[]
 | i,v::vs=>(i,v)::Dt (i+1) vs
theorem I9 (N:Nat):∀ (vs:List RJ) (i:Nat) (t:Nat) (v:RJ) (pre:List RJ),pre.length=i->lk (Dt i vs) t=some v ->
  ((pre++vs).toArray++Array.replicate (N-(pre++vs).length) undef)[t]? = some v:=by
 intro vs
 induction vs with
 | nil=>intro i t v pre _ h; simp [Dt,lk] at h
 | cons u vs ih=>
  intro i t v pre I h;simp only [Dt,uj] at h
  split at h
  ·rename_i e; subst e; cases h
   simp [Array.getElem?_append,<- I]
  ·have:=ih (i+1) t v (pre++[u]) (by simp [I]) h
   simpa using this
theorem enter {P:Program}{f:FuncId}{fn:Func}{c:Code}{vs:List RJ}{N B:Nat}{w0 w:World}{H:Hp}{M:List bN}{Φ:Hp->List bN->RJ->Prop}
  (Y:P.funcs[f]? = some fn) (J:fn.body=some c) (hN:fn.ntmps=N) (I:Nat.ble vs.length N=true) (ht:St B w0 H M w)
  (k:C ⟨P,N,B,w0⟩ c (bodyPost P fn (uX B w0 Φ)) H M (Dt 0 vs)):Calls P f vs.toArray w (uX B w0 Φ):=by
 refine calls_of_wp Y J (k _ w ⟨?_,rfl,?_⟩ ht)
 ·have:vs.length<=N:=by simpa [Uh] using I
  simp [hN]; omega
 ·intro t v h
  have:=I9 N vs 0 t v [] rfl h;simpa [hN] using this
section
variable {P:Program}{N B:Nat}{w0:World}{fn:Func}{Φ:Hp->List bN->RJ->Prop}{H:Hp}{M:List bN}{L:Env}
theorem lf {t:Nat}{v:RJ} (I:fn.results=#[.tmp t]) (hl:lk L t=some v) (h:Φ H M v):E ⟨P,N,B,w0⟩ .ret (bodyPost P fn (uX B w0 Φ)) H M L:=
 λa w hs ht=>⟨hs.Ft,v,by rw [results_tmp I]; simp [SE,hs.get t v hl],H,M,ht,h⟩
theorem C8 {t u:Nat}{v1 v2:RJ} (J:fn.results=#[.tmp t,.tmp u]) (hl:lk L t=some v1) (I:lk L u=some v2) (h:Φ H M (.tuple #[v1,v2])):E ⟨P,N,B,w0⟩ .ret (bodyPost P fn (uX B w0 Φ)) H M L:=
 λa w hs ht=>⟨hs.Ft,.tuple #[v1,v2],by rw [results_tmp2 J]; simp [SE,hs.get t v1 hl,hs.get u v2 I],H,M,ht,h⟩
end
section
variable {α σ R:Type}
def idx (l:List α) (i:Int) (k:α->Option R):Option R:=
 if 0<=i then match l[i.toNat]? with
  | some y=>k y
  | none=>none
 else none
theorem aB {l:List α}{i:Int}{k:α->Option R}{r:R} (h:idx l i k=some r):∃ y,0<=i/\l[i.toNat]? = some y/\k y=some r:=by
 unfold idx at h
 split at h
 ·cases hl:l[i.toNat]? with
  | none=>rw [hl] at h; cases h
  | some y=>rw [hl] at h; exact ⟨y,‹_›,rfl,h⟩
 ·cases h
def cE (p:Prop) [Decidable p] (k:Option R):Option R:=if p then k else none
theorem aI {p:Prop}[Decidable p] {k:Option R}{r:R} (h:cE p k=some r):p/\k=some r:=by
 unfold cE at h
 split at h
 ·exact ⟨‹_›,h⟩
 ·cases h
theorem aR {o:Option α}{k:α->Option R}{r:R} (h:o.bind k=some r):∃ y,o=some y/\k y=some r:=by
 cases o with
 | none=>cases h
 | some y=>exact ⟨y,rfl,h⟩
def dE (I:Nat->α->σ->(σ->Option R)->Option R) (k:σ->Option R):Nat->List α->σ->Option R
 | _,[],s=>k s
 | i,y::ys,s=>I i y s (dE I k (i+1) ys)
def kz (I:Nat->σ->(σ->Option R)->Option R) (k:σ->Option R):Nat->Nat->σ->Option R
 | 0,_,s=>k s
 | n+1,i,s=>I i s (kz I k n (i+1))
def fG (I:σ->(σ->Option R)->Option R):Nat->σ->Option R
 | 0,_=>none
 | n+1,s=>I s (fG I n)
def eI:Nat:=1152921504606846976
end
theorem AG (X Y:Env) (t:Nat):lk (X++Y) t=(lk X t).or (lk Y t):=by
 induction X with
 | nil=>simp [lk]
 | cons p X ih=>
  obtain ⟨u,v⟩:=p;simp only [TD,uj]
  split <;> simp [ih]
theorem G1 {X:Env}{t:Nat}{v:RJ} (h:lk X t=some v):(t,v) ∈ X:=by
 induction X with
 | nil=>simp [lk] at h
 | cons p X ih=>
  obtain ⟨u,w⟩:=p;rw [uj] at h
  split at h
  ·rename_i e; subst e; cases h; exact RR ..
  ·exact RV _ (ih h)
theorem Sl.more {N:Nat}{L X:Env}{a:Act} (h:Sl N L a) (I:∀ t v,(t,v) ∈ X->a.tmps[t]? = some v):Sl N (L++X) a:=
 ⟨h.size,h.Ft,λt v ht=>by
  rw [AG] at ht;cases hl:lk L t with
  | some u=>rw [hl] at ht; simp at ht; subst ht; exact h.get t _ hl
  | none=>rw [hl] at ht; simp at ht; exact I t v (G1 ht)⟩
theorem Sl.cons {N:Nat}{L:Env}{a:Act}{t:Nat}{v:RJ} (h:Sl N L a) (J:a.tmps[t]? = some v):Sl N ((t,v)::L) a:=
 ⟨h.size,h.Ft,λu w I=>by
  rw [uj] at I
  split at I
  ·rename_i e; subst e; cases I; exact J
  ·exact h.get u w I⟩
theorem Sl.left {N:Nat}{L X:Env}{a:Act} (h:Sl N (L++X) a):Sl N L a:=
 ⟨h.size,h.Ft,λt v ht=>h.get t v (by rw [AG,ht]; rfl)⟩
def iV (o:Oper):List Nat:=(o.after.toList.filter λe=>Region.binds .any e).map (·.on)
def L6 (l:List Oper) (Φ:Nat->Hp->RJ->Prop) (H:Hp):List Nat->Env->(Env->Prop)->Prop
 | [],L,k=>k L
 | j::I,L,k=>match (l[j]?).bind (·.dst) with
  | some t=>∀ v,Φ j H v->L6 l Φ H I ((t,v)::L) k
  | none=>L6 l Φ H I L k
def One (x:Cx) (H:Hp) (M:List bN) (L:Env) (t:Nat) (I:Hp->RJ->Prop):lU:=λe a w=>
 e=.normal/\∃ v H',Sl x.N ((t,v)::L) a/\H.le H'/\St x.B x.w0 H' M w/\I H' v
def L8 (x:Cx) (l:List Oper) (Φ:Nat->Hp->RJ->Prop) (H:Hp) (M:List bN) (L:Env):Nat->List Oper->Prop
 | _,[]=>True
 | i,o::r=>(∀ H',H.le H'->∀ X,L6 l Φ H' (iV o) (L++X) (λL'=>W x l.toArray (One x H' M L' (o.dst.getD 0) (Φ i)) [o] H' M L'))/\L8 x l Φ H M L (i+1) r
theorem L8.at {x:Cx}{l:List Oper}{Φ:Nat->Hp->RJ->Prop}{H:Hp}{M:List bN}{L:Env}:∀ {r:List Oper}{i:Nat},L8 x l Φ H M L i r->∀ j o,r[j]? = some o ->
  ∀ H',H.le H'->∀ X,L6 l Φ H' (iV o) (L++X) (λL'=>W x l.toArray (One x H' M L' (o.dst.getD 0) (Φ (i+j))) [o] H' M L')
 | [],_,_,j,o,h=>by simp at h
 | p::r,i,hh,0,o,h=>by simp at h; subst h; exact hh.1
 | p::r,i,hh,j+1,o,h=>by
  have:=L8.at hh.2 j o (by simpa using h)
  rwa [show i+1+j=i+(j+1) from by omega] at this
theorem L6.use {l:List Oper}{Φ:Nat->Hp->RJ->Prop}{H:Hp}{a:Act}{N:Nat}:∀ {J:List Nat}{L:Env}{k:Env->Prop},L6 l Φ H J L k->Sl N L a ->
  (∀ j ∈ J,∀ t,(l[j]?).bind (·.dst)=some t->∃ v,a.tmps[t]? = some v/\Φ j H v)->∃ Y,k (Y++L)/\Sl N (Y++L) a/\∀ t v,(t,v) ∈ Y->a.tmps[t]? = some v
 | [],L,k,h,hs,_=>⟨[],h,hs,by simp⟩
 | j::J,L,k,h,hs,hv=>by
  unfold L6 at h;cases I:(l[j]?).bind (·.dst) with
  | none=>
   rw [I] at h;exact L6.use h hs (λi hi=>hv i (RV _ hi))
  | some t=>
   rw [I] at h;obtain ⟨v,Z,h2⟩:=hv j (RR ..) t I;obtain ⟨Y,h3,h4,h5⟩:=L6.use (h v h2) (hs.cons Z) (λi hi=>hv i (RV _ hi));refine ⟨Y++[(t,v)],by simpa using h3,by simpa using h4,?_⟩
   intro u w O;rcases RZ.1 O with O | O
   ·exact h5 u w O
   ·simp at O; obtain ⟨rfl,rfl⟩:=O; exact Z
theorem mem_ready {I:Array Oper}{listed:Array Bool}{i:Nat}:i ∈ Region.ready .any I listed↔i<I.size/\listed.getD i true=false/\∃ o,I[i]? = some o/\∀ j ∈ iV o,listed.getD j false=true:=by
 unfold Region.ready iV;simp only [S0,SL,Tp,Bool.not_eq_true'];refine and_congr_right λhi=>and_congr_right λ_=>?_;have:I[i]? = some I[i]:=Us hi;simp only [this,Td,TO,Array.all_eq_true',Sa,SC,S0,Array.mem_toList_iff,Tt,Bool.not_eq_true'];constructor
 ·intro h
  refine ⟨_,rfl,?_⟩;rintro j ⟨e,⟨he,J⟩,rfl⟩;rcases h e he with h | h
  ·rw [h] at J; cases J
  ·exact h
 ·rintro ⟨o,rfl,h⟩ e he
  cases J:Region.binds .any e with
  | false=>exact .inl rfl
  | true=>exact .inr (h _ ⟨e,⟨he,J⟩,rfl⟩)
section
variable {x:Cx}{l:List Oper}{m:Nat}{Φ:Nat->Hp->RJ->Prop}{H:Hp}{M:List bN}{L:Env}{Q:lU}
theorem vE (b:Array Bool) (i j:Nat) (d:Bool) (hi:i<b.size):(b.setIfInBounds i true).getD j d=if j=i then true else b.getD j d:=by
 simp only [SE,Vl]
 by_cases e:i=j
 ·subst e; simp [hi]
 ·simp [e,Ne.symm e]
def left (l:List Oper) (listed:Array Bool):Nat:=(List.range l.length).countP λi=>!listed.getD i true
theorem K1 {listed:Array Bool}{i:Nat} (Z:listed.size=l.length) (hi:i<l.length) (hl:listed.getD i true=false):left l (listed.setIfInBounds i true)+1=left l listed:=by
 unfold left;have key:∀ n,i<n->n<=l.length->(List.range n).countP (λj=>!(listed.setIfInBounds i true).getD j true)+1=(List.range n).countP (λj=>!listed.getD j true):=by
  intro n
  induction n with
  | zero=>omega
  | succ n ih=>
   intro h1 h2;rw [Vb,List.countP_append,List.countP_append]
   by_cases e:i=n
   ·subst e
    have:∀ n,n<=i->(List.range n).countP (λj=>!(listed.setIfInBounds i true).getD j true)=(List.range n).countP (λj=>!listed.getD j true):=by
     intro n hn;refine List.countP_congr λj J=>?_;have Y:=SL.1 J;rw [vE _ _ _ _ (by omega),RS (by omega)]
    rw [this i (R9 _)];simp only [List.countP_cons,List.countP_nil,vE _ _ _ _ (by omega:i<listed.size),hl,Vz]
    simp
   ·have:=ih (by omega) (by omega)
    have I:(listed.setIfInBounds i true).getD n true=listed.getD n true:=by rw [vE _ _ _ _ (by omega),RS (by omega)]
    simp only [List.countP_cons,List.countP_nil,I];omega
 exact key l.length hi (R9 _)
end
structure U8 where
 n:Int
 deriving DecidableEq
structure Qd where
 n:Int
 deriving DecidableEq
structure bR where
 n:Int
 deriving DecidableEq
structure Qe where
 n:Int
 deriving DecidableEq
structure Qb where
 n:Int
 deriving DecidableEq
instance:aF U8 where
 sz:=1
 E _ cs x:=cs=[.int .u8 x.n]
 len h:=by rw [h]; rfl
 mono _ h:=h
 one h c hc:=by rw [h] at hc; simp at hc; subst hc; rfl
instance:aF Qd where
 sz:=1
 E _ cs x:=cs=[.int .u16 x.n]
 len h:=by rw [h]; rfl
 mono _ h:=h
 one h c hc:=by rw [h] at hc; simp at hc; subst hc; rfl
instance:aF bR where
 sz:=1
 E _ cs x:=cs=[.int .u32 x.n]
 len h:=by rw [h]; rfl
 mono _ h:=h
 one h c hc:=by rw [h] at hc; simp at hc; subst hc; rfl
instance:aF Qe where
 sz:=1
 E _ cs x:=cs=[.int .u64 x.n]
 len h:=by rw [h]; rfl
 mono _ h:=h
 one h c hc:=by rw [h] at hc; simp at hc; subst hc; rfl
instance:aF Qb where
 sz:=1
 E _ cs x:=cs=[.int .i32 x.n]
 len h:=by rw [h]; rfl
 mono _ h:=h
 one h c hc:=by rw [h] at hc; simp at hc; subst hc; rfl
theorem aP.nil {α:Type}[aF α] {H:Hp}:aP H (.slice none 0 0) ([]:List α):=.inl ⟨⟨_,rfl⟩,rfl⟩
theorem aP.cells {α:Type}[aF α] {H:Hp}{v:RJ}{xs:List α} (h:aP H v xs):v.cells=[v].toArray:=by
 obtain ⟨a,c,rfl,_⟩:=h.len; rfl
theorem aP.pA {α:Type}[aF α] {H:Hp}{v:RJ}{xs:List α} (h:aP H v xs):v.oneCell'=true:=by
 obtain ⟨a,c,rfl,_⟩:=h.len; rfl
theorem TB:∀ c ∈ ([]:List RJ),c.oneCell'=true:=by intro c I; cases I
theorem cM {v:RJ}{l:List RJ} (h:v.oneCell'=true) (k:∀ c ∈ l,c.oneCell'=true):∀ c ∈ v::l,c.oneCell'=true:=by
 intro c I;rcases SA.1 I with rfl | I
 ·exact h
 ·exact k c I
theorem iK.one {H:Hp}{ad:Addr}{cs:List RJ} (h:iK H ad cs) (j:Nat) {c:RJ} (I:cs[j]? = some c):BE H (ad.add j) c:=h j c I
theorem iK.part {H:Hp}{ad:Addr}{cs I:List RJ}{k:Nat} (h:iK H ad cs) (hd:(cs.drop k).take I.length=I):iK H (ad.add k) I:=by
 intro j c J;have hj:j<I.length:=(RP.1 J).1;have:cs[k+j]? = some c:=by
  rw [<- hd,SG,RU hj,SB] at J; exact J
 have:=h (k+j) c this;have e:(ad.add k).add j=ad.add (k+j):=by
  unfold Addr.add
  by_cases Y:k=0
  ·subst Y; simp
  ·by_cases Z:j=0
   ·subst Z; simp
   ·simp [Y,Z,Uc]
 rw [e]; exact this
theorem sr {x:Cx}{H:Hp}{M:List bN}{b k:Nat}{l I:List RJ}{T:TypeId}{fz:Nat×Nat}
  (O:bN.obj b (.cells l.toArray T fz) ∈ M) (Y:(l.drop k).take I.length=I):zK x H M ⟨b,k,none⟩ I:=by
 intro j c J;have Z:j<I.length:=(RP.1 J).1;rw [SU];refine wS O ?_;rw [<- Y,SG,RU Z,SB] at J; exact J
theorem DO {x:Cx}{e:Exit}{Q:lU}{H:Hp}{M M':List bN}{L L':Env} (k:E x e Q H M' L') (I:M.Perm M') (hL:Kept L L'):E x e Q H M L:=DN hL I k
theorem dZ {α:Type}{b:Bool}{p q r:α} (I:b=true) (h:(if b=true then p else q)=r):p=r:=by rw [RU I] at h; exact h
theorem dY {α:Type}{b:Bool}{p q r:α} (I:b=false) (h:(if b=true then p else q)=r):q=r:=by rw [RS (by simp [I])] at h; exact h
section
variable {P:Program}{N B:Nat}{w0:World}{fn:Func}{H H0:Hp}{M:List bN}{L:Env}
end
def pX {α:Type}[aF α] (H:Hp):List RJ->List α->Prop
 | cs,[]=>cs=[]
 | cs,y::ys=>∃ c r,cs=c++r/\aF.E H c y/\pX H r ys
section
variable {α:Type}[aF α] {H H':Hp}
theorem pX.nil:pX H [] ([]:List α):=rfl
theorem pX.cons {c r:List RJ}{y:α}{ys:List α} (h:aF.E H c y) (k:pX H r ys):pX H (c++r) (y::ys):=⟨c,r,rfl,h,k⟩
theorem pX.mono (I:H.le H'):∀ {cs:List RJ}{ys:List α},pX H cs ys->pX H' cs ys
 | _,[],h=>h
 | _,_::_,⟨c,r,e,h,k⟩=>⟨c,r,e,aF.mono I h,pX.mono I k⟩
theorem pX.len:∀ {cs:List RJ}{ys:List α},pX H cs ys->cs.length=ys.length*aF.sz α
 | _,[],h=>by rw [show _=[] from h]; simp
 | _,_::ys,⟨c,r,e,h,k⟩=>by rw [e,R5,aF.len h,pX.len k,RW,Sd]; omega
theorem pX.app:∀ {cs I:List RJ}{ys zs:List α},pX H cs ys->pX H I zs->pX H (cs++I) (ys++zs)
 | _,I,[],zs,h,k=>by rw [show _=[] from h]; simpa using k
 | _,I,y::ys,zs,⟨c,r,e,h,k⟩,k2=>⟨c,r++I,by rw [e,Sc],h,pX.app k k2⟩
theorem pX.one:∀ {cs:List RJ}{ys:List α},pX H cs ys->∀ c ∈ cs,c.oneCell'=true
 | _,[],h=>by rw [show _=[] from h]; simp
 | _,_::_,⟨c,r,e,h,k⟩=>by
  intro d I;rw [e] at I;rcases RZ.1 I with I | I
  ·exact aF.one h d I
  ·exact pX.one k d I
theorem pX.get:∀ {cs:List RJ}{ys:List α},pX H cs ys->∀ k e,ys[k]? = some e->∃ c,aF.E H c e/\∀ j v,c[j]? = some v->cs[k*aF.sz α+j]? = some v
 | _,[],h,k,e,he=>by simp at he
 | _,y::ys,⟨c,r,e,h,k⟩,0,x,hx=>by
  simp at hx; subst hx
  exact ⟨c,h,λj v I=>by rw [e,Tm,Se,S4 (RP.1 I).1]; exact I⟩
 | _,y::ys,⟨c,r,e,h,k⟩,n+1,x,hx=>by
  obtain ⟨d,J,Y⟩:=pX.get k n x (by simpa using hx)
  refine ⟨d,J,λj v I=>?_⟩;rw [e,Sv (by rw [aF.len h,Sd]; omega),aF.len h]
  rw [show (n+1)*aF.sz α+j-aF.sz α=n*aF.sz α+j from by rw [Sd]; omega]
  exact Y j v I
theorem pX.split:∀ {cs:List RJ}{ys:List α} (k:Nat),pX H cs ys->pX H (cs.take (k*aF.sz α)) (ys.take k)/\pX H (cs.drop (k*aF.sz α)) (ys.drop k)
 | cs,ys,0,h=>by rw [Tm]; exact ⟨rfl,h⟩
 | _,[],k+1,h=>by rw [show _=[] from h,List.take_nil,List.drop_nil,List.take_nil,List.drop_nil]; exact ⟨rfl,rfl⟩
 | _,y::ys,k+1,⟨c,r,e,h,k2⟩=>by
  obtain ⟨I,J⟩:=pX.split k k2;have hl:=aF.len h;subst e;have e1:(k+1)*aF.sz α=c.length+k*aF.sz α:=by rw [Sd,hl]; omega
  rw [e1,List.take_length_add_append,List.drop_length_add_append];exact ⟨⟨c,_,rfl,h,I⟩,J⟩
theorem pX.put {cs c:List RJ}{ys:List α}{y:α}{k:Nat} (h:pX H cs ys) (Y:k<ys.length) (Z:aF.E H c y):
  pX H (cs.take (k*aF.sz α)++c++cs.drop ((k+1)*aF.sz α)) (ys.set k y):=by
 obtain ⟨I,_⟩:=h.split k;obtain ⟨_,J⟩:=h.split (k+1);have:ys.set k y=ys.take k++y::ys.drop (k+1):=by rw [UR,RU Y]
 rw [this,Sc];exact I.app (pX.cons Z J)
theorem aP.flat {v : RJ} {ys : List α} (h : aP H v ys) : ∃ cs, pX H cs ys ∧ ((∃ a, v = .slice a 0 0) ∧ ys = [] ∨ iK H (Value.base v) cs ∧ ∃ b off c, v = .slice (some ⟨b, off, none⟩) ys.length c) := by
  rcases h with ⟨⟨a, rfl⟩, rfl⟩ | ⟨b, off, cap, arr, T, fz, rfl, h2, h3, h4, h5, h6⟩
  · exact ⟨[], pX.nil, .inl ⟨⟨a, rfl⟩, rfl⟩⟩
  · have key : ∀ (zs : List α) (k : Nat), (∀ j e, zs[j]? = some e → ∃ cs, aF.E H cs e ∧ ∀ i c, cs[i]? = some c → arr[off + (k + j) * aF.sz α + i]? = some c) →
        ∃ cs, pX H cs zs ∧ ∀ i c, cs[i]? = some c → arr[off + k * aF.sz α + i]? = some c := by
      intro zs
      induction zs with
      | nil => intro k _; exact ⟨[], pX.nil, by simp⟩
      | cons z zs ih =>
        intro k hz;obtain ⟨c, I, Y⟩ := hz 0 z rfl;obtain ⟨r, hr, hrr⟩ := ih (k + 1) (fun j e he => by
          obtain ⟨cs, q1, q2⟩ := hz (j + 1) e (by simpa using he)
          exact ⟨cs, q1, fun i c I => by rw [show k + 1 + j = k + (j + 1) from by omega]; exact q2 i c I⟩)
        refine ⟨c ++ r, pX.cons I hr, fun i d J => ?_⟩;rw [TY] at J
        split at J
        · simpa using Y i d J
        · rename_i hn
          have := hrr _ d J;rw [aF.len I] at this hn;rw [show off + k * aF.sz α + i = off + (k + 1) * aF.sz α + (i - aF.sz α) from by rw [Sd]; omega]
          exact this
    obtain ⟨cs, Z, hh⟩ := key ys 0 (fun j e he => by simpa using h6 j e he)
    refine ⟨cs, Z, .inr ⟨fun i c I => ⟨arr, T, fz, ?_, ?_, ?_⟩, b, off, cap, rfl⟩⟩
    · simp only [Value.base, SU]; exact h4
    · simp only [Value.base, SU]
    · simp only [Value.base, SU]; simpa using hh i c I
end
structure Pf (P:Program) (T:TypeId) (sz bytes:Nat) (z:RJ):Prop where
 ex:∃ i,P.info? T=some i/\i.size=sz/\i.bytes=bytes/\i.zero=some z
theorem St.w7 {α:Type}[aF α] {B:Nat}{w0 w:World}{H:Hp}{M:List bN}{v:RJ}{T:TypeId}{n:Nat}{xs:List RJ}{ys:List α}
  (h:St B w0 H (.row v T (aF.sz α) n xs::M) w) (hx:pX H xs ys) (hs:0<aF.sz α):∃ H',H.le H'/\St B w0 H' M w/\aP H' v ys:=by
 have hok:=h.ok _ (RR ..);obtain ⟨hl,hh⟩:=hok;have hn:n=ys.length:=by
  have:=hx.len;rw [hl] at this;exact Ty hs this
 subst hn;rcases hh with ⟨rfl,h0⟩ | ⟨g,off,cap,Y,rfl,hg,hnc,hcm,hcs,J⟩
 ·refine ⟨H,SN _,h.tail,.inl ⟨⟨_,rfl⟩,Sg h0⟩⟩
 ·have h':St B w0 H (.obj g (.cells Y T (0,0))::M) w:=by
   refine ⟨h.below,h.le,h.vp,?_,?_,h.nd⟩
   ·intro r I
    rcases SA.1 I with rfl | I
    ·exact hg
    ·exact h.tail.ok r I
   ·intro r I
    rcases SA.1 I with rfl | I
    ·exact h.lo (.row _ T (aF.sz α) ys.length xs) (RR ..)
    ·exact h.tail.lo r I
  obtain ⟨Z,hst⟩:=h'.freeze;refine ⟨_,Z,hst,.inr ⟨g,off,cap,Y,T,(0,0),rfl,hnc,hcm,Hp.ym _ _ _,hcs,?_⟩⟩;intro k e he;obtain ⟨c,h1,h2⟩:=(hx.mono Z).get k e he;refine ⟨c,h1,λj d hd=>?_⟩;have:=h2 j d hd;rw [<- J,SG] at this
  split at this
  ·rw [SB] at this; simpa [Uc] using this
  ·cases this
theorem xH:∀ (vs l:List RJ) (k:Nat),k+vs.length<=l.length->over l k vs=l.take k++vs++l.drop (k+vs.length)
 | [],l,k,_=>by simp [over]
 | v::vs,l,k,h=>by
  simp only [RW] at h;rw [over,xH vs _ _ (by simp; omega)]
  have I:k<l.length:=by omega
  rw [Sn (by simpa using I)]
  simp only [Vn,RW];rw [UA (by omega),TP (by omega)]
  simp only [Sc,TD,Tn];rw [show k+1+vs.length=k+(vs.length+1) from by omega]
theorem EO {P:Program}{w:World}{t ty e:TypeId}{i:TypeInfo}{z:RJ}{size bytes:Nat} (ht:P.underlying t=some (.slice e)) (hi:P.info? e=some i) (hz:i.zero=some z)
  (hsize:i.size=size) (hby:i.bytes=bytes) (hzs:z.cells.size=size) (hsz:0<size)
  {v:RJ}{n:Nat}{xs:List RJ} (J:iW w e size v n xs)
  {a:Addr}{m c:Nat}{news:List RJ} (hl:news.length=m*size) (Y:∀ j u,news[j]? = some u->w.cell? (a.add j)=some u) (h1:∀ u ∈ news,u.oneCell'=true)
  (h63:n+m<=maxLen) (hbytes:(n+m)*bytes<=140737488355328):
  ∃ v' w',(Builtin.append_ #[t,t] ty #[v,.slice (some a) m c]).run P w=.ok v' w'/\iW w' e size v' (n+m) (xs++news)/\w.grownBy w' v.ownBlock /\
   (∀ b,v'.ownBlock=some b->v.ownBlock=some b\/w.heap.size<=b):=by
 subst hsize;subst hby;have hsmall:n+m<=9223372036854775807:=by simp only [maxLen] at h63; omega
 have hlen:(xs++news).length=(n+m)*i.size:=by rw [R5,J.1,hl,Sd]
 have grown:∀ (vX:Nat) (row:Option Nat),
   iW (w.drew.alloc (.cells (xs.toArray++news.toArray++Builtin.zeroCells z.cells (grownCap w (n+m) vX e-(n+m))) e)) e i.size
    (.slice (some ⟨w.heap.size,0,none⟩) (n+m) (grownCap w (n+m) vX e)) (n+m) (xs++news) /\
   w.grownBy (w.drew.alloc (.cells (xs.toArray++news.toArray++Builtin.zeroCells z.cells (grownCap w (n+m) vX e-(n+m))) e)) row:=by
  intro vX row;have hge:=Wy w (n+m) vX e;have hcm:grownCap w (n+m) vX e<=maxLen:=VP w (n+m) vX e h63;refine ⟨⟨hlen,.inr ⟨w.heap.size,0,_,_,rfl,VW w.drew _,hge,hcm,?_,?_⟩⟩,⟨rfl,rfl,rfl,by simp,λk hk _=>heap_alloc_old w.drew _ (h:=hk)⟩⟩
  ·simp only [Array.size_append,Ux,size_zeroCells,hzs,J.1,hl,<- Sd,Se]
   rw [show n+m+(grownCap w (n+m) vX e-(n+m))=grownCap w (n+m) vX e from by omega]
   exact R9 _
  ·simp only [S8,Wo,Sc]
   rw [<- Sc,<- hlen];exact UT
 rcases J.2 with ⟨rfl,rfl⟩ | ⟨g,off,cap,cur,rfl,hg,hnc,hcm,hcs,htake⟩
 ·have hx:xs=[]:=Sg (by simpa using J.1)
  subst hx
  by_cases O:m=0
  ·subst O
   have hn:news=[]:=Sg (by simpa using hl)
   subst hn;refine ⟨.slice none 0 0,w,?_,iW.nil w e i.size,⟨rfl,rfl,rfl,R9 _,λ_ _ _=>rfl⟩,by simp [Value.ownBlock]⟩
   simp [Builtin.append_,Tj ht,sizeOf,typeInfo,hi,Builtin.lenOf,Builtin.firstCells,loadCells,loadCellsFrom]
  ·have hr:=run_append_nil (P:=P) w t ty e i z ht hi hz a m c news hl Y (by omega) (by omega) (by have hb:=hbytes; simp only [Se] at hb; omega)
   have I:=grown 0 (Value.ownBlock (.slice none 0 0));simp only [Se,Tn,Array.empty_append] at I ⊢;exact ⟨_,_,hr,I.1,I.2,λb hb=>.inr (by simp only [Value.ownBlock,Sa] at hb; omega)⟩
 ·by_cases Z:n+m<=cap
  ·have hfit:off+n*i.size+news.length<=cur.size:=by
    have:(n+m)*i.size<=cap*i.size:=R8 _ Z;rw [Sd] at this;omega
   have hf:=Wv (P:=P) w i.size m a m c news hl Y;obtain ⟨w',hst,hh,I⟩:=kO (P:=P) g (off+n*i.size) e news 0 cur.toList w (by simpa using hg) (by simpa using hfit) h1
   refine ⟨.slice (some ⟨g,off,none⟩) (n+m) cap,w',?_,⟨hlen,.inr ⟨g,off,cap,_,rfl,hh,Z,hcm,?_,?_⟩⟩,I,λb hb=>.inl hb⟩
   ·simp [Builtin.append_,Tj ht,sizeOf,typeInfo,hi,Builtin.lenOf,Z,hf,SU,hst]
   ·simpa [qd] using hcs
   ·rw [Um,Tl,xH _ _ _ (by simpa using hfit)]
    have hd:(cur.toList.take (off+n*i.size)).drop off=xs:=by rw [Ug,TX]; exact htake
    rw [Sc,T8 (by simp; omega),hd,<- Sc,<- hlen]
    exact UT
  ·have holds:∀ j u,xs[j]? = some u->w.cell? ((⟨g,off,none⟩:Addr).add j)=some u:=by
    intro j u hu;rw [SU];refine Wc hg rfl ?_;rw [<- htake,SG] at hu
    split at hu
    ·rw [SB] at hu; simpa using hu
    ·cases hu
   have hr:=run_append_grow (P:=P) w t ty e i z ht hi hz ⟨g,off,none⟩ n cap xs J.1 holds a m c news hl Y (by omega) (by omega) (Ww (by omega) hbytes)
   have I:=grown cap (Value.ownBlock (.slice (some ⟨g,off,none⟩) n cap));exact ⟨_,_,hr,I.1,I.2,λb hb=>.inr (by simp only [Value.ownBlock,Sa] at hb; omega)⟩
section
variable {x:Cx}{ops:Array Oper}{Q:lU}{rest:List Oper}{H:Hp}{M M':List bN}{L L':Env}
variable {d:Nat}{ty:TypeId}{pos:String}{aft:Array Edge}{g:Option (Nat×Bool)}
theorem bZ {α:Type}[aF α] {v:RJ}{T:TypeId}{n:Nat}{xs:List RJ}{ys:List α} (hx:pX H xs ys) (hs:Nat.blt 0 (aF.sz α)=true)
  (k:∀ H',H.le H'->aP H' v ys->W x ops Q rest H' M L):W x ops Q rest H (.row v T (aF.sz α) n xs::M) L:=by
 intro a w I ht;obtain ⟨H',J,Y,Z⟩:=ht.w7 hx (by simpa [SY] using hs)
 exact k H' J Z a w I Y
theorem s5 {α:Type}[aF α] {e:Exit}{v:RJ}{T:TypeId}{n:Nat}{xs:List RJ}{ys:List α} (hx:pX H xs ys) (hs:Nat.blt 0 (aF.sz α)=true)
  (k:∀ H',H.le H'->aP H' v ys->E x e Q H' M L):E x e Q H (.row v T (aF.sz α) n xs::M) L:=by
 intro a w I ht;obtain ⟨H',J,Y,Z⟩:=ht.w7 hx (by simpa [SY] using hs)
 exact k H' J Z a w I Y
theorem E2 {α:Type}[aF α] {c:Code}{v:RJ}{T:TypeId}{n:Nat}{xs:List RJ}{ys:List α} (hx:pX H xs ys) (hs:Nat.blt 0 (aF.sz α)=true)
  (k:∀ H',H.le H'->aP H' v ys->C x c Q H' M L):C x c Q H (.row v T (aF.sz α) n xs::M) L:=by
 intro a w I ht;obtain ⟨H',J,Y,Z⟩:=ht.w7 hx (by simpa [SY] using hs)
 exact k H' J Z a w I Y
theorem zP (T:TypeId) (sz:Nat) (k:W x ops Q rest H (.row (.slice none 0 0) T sz 0 []::M) L):W x ops Q rest H M L:=
 λa w I ht=>k a w I (ht.CC T sz)
theorem cB {e:Exit} (T:TypeId) (sz:Nat) (k:E x e Q H (.row (.slice none 0 0) T sz 0 []::M) L):E x e Q H M L:=
 λa w I ht=>k a w I (ht.CC T sz)
theorem kD {c:Code} (T:TypeId) (sz:Nat) (k:C x c Q H (.row (.slice none 0 0) T sz 0 []::M) L):C x c Q H M L:=
 λa w I ht=>k a w I (ht.CC T sz)
theorem JY {α:Type}[aF α] {t e:TypeId}{bytes n:Nat}{z:RJ}{y u:Operand}{v vu:RJ}{xs:List RJ}{l ys:List α}
  (hg:gd ops L ⟨some d,.call ⟨.builtin .append,#[y,u],#[t,t]⟩,ty,pos,aft,g⟩=some true) (hN:Nat.blt d x.N=true)
  (hT:x.P.underlying t=some (.slice e)) (hi:Pf x.P e (aF.sz α) bytes z) (hz:z.cells.size=aF.sz α) (hs:Nat.blt 0 (aF.sz α)=true) (hb0:Nat.blt 0 bytes=true)
  (hy:ev L y=some v) (hu:ev L u=some vu) (hx:pX H xs l) (hR:aP H vu ys) (hb:(l.length+ys.length)*bytes<=140737488355328)
  (k:∀ v' n' xs',pX H xs' (l++ys)->W x ops Q rest H (.row v' e (aF.sz α) n' xs'::M) ((d,v')::L)):
  W x ops Q (⟨some d,.call ⟨.builtin .append,#[y,u],#[t,t]⟩,ty,pos,aft,g⟩::rest) H (.row v e (aF.sz α) n xs::M) L:=by
 obtain ⟨i,h1,h2,h3,h4⟩:=hi.ex;have hs':0<aF.sz α:=by simpa [SY] using hs
 have hb0':0<bytes:=by simpa [SY] using hb0
 have hmax:l.length+ys.length<=maxLen:=by
  have:l.length+ys.length<=(l.length+ys.length)*bytes:=Uz _ hb0';unfold maxLen; omega
 refine s8 rfl hg hN λa w I ht=>?_;have J:iW w e (aF.sz α) v n xs:=ht.ok _ (RR ..);have hn:n=l.length:=by
  have:=hx.len;rw [J.1] at this;exact Ty hs' this
 subst hn;obtain ⟨cs,Y,Z⟩:=hR.flat;rcases Z with ⟨⟨ea,rfl⟩,rfl⟩ | ⟨hc,b,off,c,rfl⟩
 ·have hcs':cs=[]:=Y
  subst hcs';refine ⟨v,w,?_,H,_,ht,k v _ xs (by simpa using hx)⟩
  rcases J.2 with ⟨rfl,h0⟩ | ⟨g,off,cap,cur,rfl,hg2,hnc,_⟩ <;> cases ea
  ·simp [execOp,resolve,invoke,builtin,I.ev hy,I.ev hu,Builtin.append_,Tj hT,sizeOf,typeInfo,h1,Builtin.lenOf,Builtin.firstCells]
  ·simp [execOp,resolve,invoke,builtin,I.ev hy,I.ev hu,Builtin.append_,Tj hT,sizeOf,typeInfo,h1,Builtin.lenOf,Builtin.firstCells,loadCells,loadCellsFrom]
  ·simp [execOp,resolve,invoke,builtin,I.ev hy,I.ev hu,Builtin.append_,Tj hT,sizeOf,typeInfo,h1,Builtin.lenOf,Builtin.firstCells,storeCells,hnc]
  ·simp [execOp,resolve,invoke,builtin,I.ev hy,I.ev hu,Builtin.append_,Tj hT,sizeOf,typeInfo,h1,Builtin.lenOf,Builtin.firstCells,storeCells,hnc,loadCells,loadCellsFrom]
 ·obtain ⟨v',w',hr,ho,hgr,hfr⟩:=EO (P:=x.P) (ty:=ty) hT h1 h4 h2 h3 hz hs' J (a:=⟨b,off,none⟩) (m:=ys.length) (c:=c) (news:=cs) Y.len
   (λj u hu=>((hc j u hu).at (x:=x) (M:=.row v e (aF.sz α) l.length xs::M)) w ht) Y.one hmax hb
  refine ⟨v',w',?_,H,_,ht.E1 (r':=.row v' e (aF.sz α) (l.length+ys.length) (xs++cs)) hgr ho hfr,k v' _ _ (hx.app Y)⟩;simp [execOp,resolve,invoke,builtin,I.ev hy,I.ev hu,hr]
end
def Ax:List RJ->List (List RJ)->Prop
 | [],[]=>True
 | v::vs,c::cs=>v.cells=c.toArray/\Ax vs cs
 | _,_=>False
def laid (places:List (Nat×Nat)):List RJ->List (Nat×List RJ)->Option (List RJ)
 | z,[]=>some z
 | z,(i,c)::r=>match places[i]? with
  | none=>none
  | some (off,size)=>if Nat.beq c.length size && Nat.ble (off+c.length) z.length then laid places (over z off c) r else none
theorem Ce:∀ (c:List RJ) (z:List RJ) (off k:Nat),(c.zipIdx k).foldl (λcs (p:RJ×Nat)=>cs.setIfInBounds (off+p.2) p.1) z.toArray=(over z (off+k) c).toArray
 | [],z,off,k=>rfl
 | v::c,z,off,k=>by
  rw [List.zipIdx_cons,List.foldl_cons];simp only [List.setIfInBounds_toArray];rw [Ce c _ off (k+1),over]
  rfl
theorem wZ {place:Nat->Option (Nat×Nat)}{places:List (Nat×Nat)} (Z:∀ i o,places[i]? = some o->place i=some o):
  ∀ (J:List Nat) (vs:List RJ) (css:List (List RJ)) (z out:List RJ),Ax vs css->J.length=vs.length->laid places z (J.zip css)=some out ->
   Instr.fill place z.toArray (J.zip vs)=some out.toArray
 | [],[],_,z,out,_,_,h=>by simp [laid] at h; simp [Instr.fill,h]
 | [],_::_,_,_,_,_,hl,_=>by simp at hl
 | _::_,[],_,_,_,_,hl,_=>by simp at hl
 | i::J,v::vs,[],_,_,hc,_,_=>hc.elim
 | i::J,v::vs,c::css,z,out,⟨hv,hc⟩,hl,h=>by
  simp only [List.zip_cons_cons,laid] at h;cases I:places[i]? with
  | none=>simp [I] at h
  | some o=>
   obtain ⟨off,size⟩:=o;simp only [I] at h
   split at h
   ·rename_i hb
    simp only [Tp,Uh] at hb;have Y:c.length=size:=T7 hb.1;simp only [List.zip_cons_cons,Instr.fill,Z i _ I,hv];have h1:((c.toArray.size≠size || off+c.toArray.size > z.toArray.size:Bool))=false:=by
     simp [Y]; rw [<- Y]; exact hb.2
    rw [RS (by simp only [h1]; simp)]
    have h2:=Ce c z off 0;have h3:c.toArray.zipIdx.foldl (λcs (p:RJ×Nat)=>cs.setIfInBounds (off+p.2) p.1) z.toArray=(over z off c).toArray:=by
     rw [<- Array.foldl_toList];simpa using h2
    have ih:=wZ Z J vs css (over z off c) out hc (by simpa using hl) h
    rw [<- ih];exact R7 (λq=>Instr.fill place q (J.zip vs)) h3
   ·cases h
theorem lF {k m:Nat}{e:Int} (Y:k+m=e.toNat) (J:decide ((k:Int)<e)=true):∃ I,m=I+1/\k+1+I=e.toNat/\k<e.toNat:=by
 have:=RT J;exact ⟨m-1,by omega,by omega,by omega⟩
theorem lD {k m:Nat}{e:Int} (J:k+m=e.toNat) (I:decide ((k:Int)<e)=false):m=0:=by
 have:=R2 I;omega
theorem eM {e:Int} (h:e<=9223372036854775807):e.toNat<=maxLen:=by unfold maxLen; omega
theorem k_ {α:Type}{xs:List α} (h:xs.length<=maxLen):(xs.length:Int)<=9223372036854775807:=by unfold maxLen at h; omega
section
variable {x:Cx}{ops:Array Oper}{Q:lU}{rest:List Oper}{H:Hp}{M M':List bN}{L L':Env}
variable {d:Nat}{ty:TypeId}{pos:String}{aft:Array Edge}{g:Option (Nat×Bool)}
theorem Bp {N:Nat}{a:Act} (hs:Sl N L a) {I:List (Nat×Operand)}{vs:List RJ} (J:zw L (I.map (·.2))=some vs):
  (I.toArray.map λ(p:Nat×Operand)=>(p.1,a.eval p.2))=((I.map (·.1)).zip vs).toArray:=by
 have h:=hs.zw J;subst h;clear J;simp only [List.map_map,List.map_toArray]
 congr 1
 induction I with
 | nil=>rfl
 | cons p I ih=>simp only [TT,List.zip_cons_cons,Function.comp,ih]
theorem eB {T:TypeId}{I:List (Nat×Operand)}{vs:List RJ}{css:List (List RJ)}{z:RJ}{zs out:List RJ}{fs:Array Field}{places:List (Nat×Nat)}
  (hg:gd ops L ⟨some d,.build T I.toArray,ty,pos,aft,g⟩=some true) (hN:Nat.blt d x.N=true)
  (Z:zw L (I.map (·.2))=some vs) (hc:Ax vs css)
  (hz:∀ w,(zeroValue T).run x.P w=.ok z w) (Y:z.cells=zs.toArray) (hT:∀ w,(underlying T).run x.P w=.ok (.struct fs) w)
  (hp:∀ w,(fs.mapM λf=>do pure (f.offset,<- sizeOf f.type):Sem (Array (Nat×Nat))).run x.P w=.ok places.toArray w)
  (ho:laid places zs ((I.map (·.1)).zip css)=some out)
  (k:W x ops Q rest H M ((d,.agg out.toArray)::L)):
  W x ops Q (⟨some d,.build T I.toArray,ty,pos,aft,g⟩::rest) H M L:=
 eQ rfl hg hN (λa w hs ht=>by
  have hl:(I.map (·.1)).length=vs.length:=by rw [<- hs.zw Z]; simp
  have hf:=wZ (place:=λi:Nat=>places[i]?) (places:=places) (λ_ _ h=>h) (I.map (·.1)) vs css zs out hc hl ho;have J:=Bp hs Z;simp only [execOp,Instr.build,R4,hz,RX,hT,Y];rw [hp];simp only [RX];have e:(λi:Nat=>places.toArray[i]?)=λi:Nat=>places[i]? := by funext i; simp
  simp only [J,e,hf,Sb,RX]) k
theorem dD {α:Type}[aF α] {T e:TypeId}{n:Nat}{J:List (Nat×Operand)}{vs:List RJ}{css:List (List RJ)}{z:RJ}{zs out:List RJ}{places:List (Nat×Nat)}{ys:List α}
  (hg:gd ops L ⟨some d,.buildSlice T n J.toArray,ty,pos,aft,g⟩=some true) (hN:Nat.blt d x.N=true)
  (hv:zw L (J.map (·.2))=some vs) (hc:Ax vs css)
  (hT:∀ w,(underlying T).run x.P w=.ok (.slice e) w) (hs:∀ w,(sizeOf e).run x.P w=.ok (aF.sz α) w) (hs0:Nat.blt 0 (aF.sz α)=true)
  (hz:∀ w,(zeroValue e).run x.P w=.ok z w) (hzs:(Array.range (n*aF.sz α)).map (z.cells[·%z.cells.size]!)=zs.toArray)
  (hpl:places=(List.range n).map λi=>(i*aF.sz α,aF.sz α)) (hn:Nat.ble (n*aF.sz α) 16777216=true) (hnn:Nat.blt 0 n=true)
  (ho:laid places zs ((J.map (·.1)).zip css)=some out) (hr:pX H out ys) (hyn:ys.length=n)
  (k:∀ b v H',v=.slice (some ⟨b,0,none⟩) n n->H.le H'->aP H' v ys->W x ops Q rest H' M ((d,v)::L)):
  W x ops Q (⟨some d,.buildSlice T n J.toArray,ty,pos,aft,g⟩::rest) H M L:=by
 refine s8 rfl hg hN λa w Z ht=>?_;have hl:(J.map (·.1)).length=vs.length:=by rw [<- Z.zw hv]; simp
 have I:0<aF.sz α:=by simpa [SY] using hs0
 have hn':n*aF.sz α<=16777216:=by simpa [Uh] using hn
 have Y:0<n:=by simpa [SY] using hnn
 have hpos:0<n*aF.sz α:=Nat.mul_pos Y I;have hf:=wZ (place:=λi=>some (i*aF.sz α,aF.sz α)) (places:=places) (λi o h=>by
  rw [hpl,Sq] at h;cases hh:(List.range n)[i]? with
  | none=>rw [hh] at h; cases h
  | some j=>
   rw [hh] at h;have:j=i:=by
    have:=RP.1 hh;simpa using this.2.symm
   subst this;simpa using h) (J.map (·.1)) vs css zs out hc hl ho
 have hps:=Bp Z hv;have hsz:out.length=n*aF.sz α:=by rw [hr.len,hyn]
 refine ⟨.slice (some ⟨w.heap.size,0,none⟩) n n,w.alloc (.cells out.toArray e),?_,H.add w.heap.size (.cells out.toArray e),M,(ht.alloc _).freeze.2,?_⟩
 ·have h1:¬ (2 ^ 24<n*aF.sz α):=by omega
  have h2:¬ (n*aF.sz α=0):=by omega
  simp only [execOp,Instr.buildSlice,R4,hT,RX,hs,gt_iff_lt,h1,h2,T5,hz,Sb];simp only [hps];have hf':Instr.fill (λi=>some (i*aF.sz α,aF.sz α)) ((Array.range (n*aF.sz α)).map (z.cells[·%z.cells.size]!)) ((List.map (λx=>x.fst) J).zip vs)=some out.toArray:=by
   rw [hzs]; exact hf
  simp only [hf',newRow,newObj,R4,Sb,Sem.run,RX,World.alloc]
 ·refine k w.heap.size _ _ rfl (ht.alloc _).freeze.1 (.inr ⟨w.heap.size,0,n,out.toArray,e,(0,0),by rw [hyn],by omega,?_,Hp.ym _ _ _,by simp [hsz],?_⟩)
  ·unfold maxLen
   have:n<=n*aF.sz α:=Uz _ I;omega
  ·intro j el hel
   obtain ⟨c,q1,q2⟩:=(hr.mono (ht.alloc (.cells out.toArray e)).freeze.1).get j el hel;exact ⟨c,q1,λi u hu=>by simpa using q2 i u hu⟩
end
structure Rw {α:Type}[aF α] (H:Hp) (v:RJ) (xs:List RJ) (l:List α):Prop where
 rd:pX H xs l
 sl:∃ a n c,v=.slice a n c
section
variable {α:Type}[aF α] {H H':Hp}{v:RJ}{xs:List RJ}{l:List α}
theorem Rw.mono (I:H.le H') (h:Rw H v xs l):Rw H' v xs l:=⟨h.rd.mono I,h.sl⟩
theorem Rw.one (h:Rw H v xs l):v.oneCell'=true:=by obtain ⟨a,n,c,rfl⟩:=h.sl; rfl
theorem Rw.cells (h:Rw H v xs l):v.cells=[v].toArray:=by obtain ⟨a,n,c,rfl⟩:=h.sl; rfl
theorem Rw.nil:Rw H (.slice none 0 0) [] ([]:List α):=⟨rfl,_,_,_,rfl⟩
theorem Rw.elem (h:Rw H v xs l) {k:Nat}{e:α} (he:l[k]? = some e):∃ c,aF.E H c e/\∀ j u,c[j]? = some u->xs[k*aF.sz α+j]? = some u:=h.rd.get k e he
theorem Ah (vs:List RJ):∀ (l:List RJ) (k j:Nat),k+vs.length<=l.length->(over l k vs)[j]? = if k<=j/\j<k+vs.length then vs[j-k]? else l[j]? := by
 intro l k j h;rw [xH vs l k h,Sc,TY];simp only [Sm,SW (show k<=l.length by omega)]
 by_cases I:j<k
 ·rw [RU I,RS (by omega),SG,RU I]
 ·rw [RS I,TY]
  by_cases J:j-k<vs.length
  ·rw [RU J,RU (by omega)]
  ·rw [RS J,RS (by omega),SB]
   congr 1; omega
theorem Rw.put {c cs out:List RJ}{k o:Nat}{e e2:α} (h:Rw H v xs l) (he:l[k]? = some e) (hc:aF.E H c e) (hg:∀ j u,c[j]? = some u->xs[k*aF.sz α+j]? = some u)
  (hb:Nat.ble (o+cs.length) c.length=true) (ho:over c o cs=out) (hE:aF.E H out e2):
  Rw H v (over xs (k*aF.sz α+o) cs) (l.set k e2)/\(l.set k e2)[k]? = some e2/\∀ j u,out[j]? = some u->(over xs (k*aF.sz α+o) cs)[k*aF.sz α+j]? = some u:=by
 have hk:k<l.length:=(RP.1 he).1;have hlen:=h.rd.len;have I:=aF.len hc;have Z:o+cs.length<=c.length:=by simpa [Uh] using hb
 have hkk:(k+1)*aF.sz α<=l.length*aF.sz α:=R8 _ hk;rw [Sd,Vy] at hkk;have vp:k*aF.sz α+o+cs.length<=xs.length:=by omega
 have key:over xs (k*aF.sz α+o) cs=xs.take (k*aF.sz α)++out++xs.drop ((k+1)*aF.sz α):=by
  apply Tz;intro j;rw [Ah _ _ _ _ vp,Sc,TY];simp only [Sm,SW (show k*aF.sz α<=xs.length by omega)]
  have J:out.length=aF.sz α:=by rw [<- ho,qd,I]
  by_cases Y:j<k*aF.sz α
  ·rw [RU Y,RS (by omega),SG,RU Y]
  ·rw [RS Y,TY,J]
   by_cases h2:j-k*aF.sz α<aF.sz α
   ·rw [RU h2,<- ho,Ah _ _ _ _ Z]
    by_cases h3:k*aF.sz α+o<=j/\j<k*aF.sz α+o+cs.length
    ·rw [RU h3,RU (by omega)]; congr 1; omega
    ·rw [RS h3,RS (by omega)]
     have hj:j-k*aF.sz α<c.length:=by omega
     have:=hg (j-k*aF.sz α) _ (RK hj);rw [RK hj,<- this]; congr 1; omega
   ·rw [RS h2,RS (by omega),SB]
    congr 1; rw [Sd]; omega
 refine ⟨⟨?_,h.sl⟩,by simp [hk],λj u hu=>?_⟩
 ·rw [key]; exact h.rd.put hk hE
 ·have hj:j<out.length:=(RP.1 hu).1
  have J:out.length=aF.sz α:=by rw [<- ho,qd,I]
  rw [key,Sc,Sv (by simp; omega),S4 (by simp; omega)]
  simp only [Sm,SW (show k*aF.sz α<=xs.length by omega)]
  rw [show k*aF.sz α+j-k*aF.sz α=j by omega]; exact hu
end
section
variable {x:Cx}{ops:Array Oper}{Q:lU}{rest:List Oper}{H:Hp}{M M':List bN}{L L':Env}
variable {d:Nat}{ty:TypeId}{pos:String}{aft:Array Edge}{g:Option (Nat×Bool)}
theorem CQ {v:RJ}{T:TypeId}{sz n i:Nat}{xs:List RJ}{c:RJ} (O:bN.row v T sz n xs ∈ M) (I:xs[i]? = some c):ye x H M ((Value.base v).add i) c:=by
 intro w ht;have Y:iW w T sz v n xs:=ht.ok _ O;have hi:=(RP.1 I).1;rcases Y.2 with ⟨rfl,h0⟩ | ⟨Z,off,cap,cur,rfl,hg,hnc,hcm,hcs,J⟩
 ·exfalso
  have:=Y.1;subst h0;simp at this; subst this
  simp at I
 ·rw [show Value.base (Value.slice (some ⟨Z,off,none⟩) n cap)=⟨Z,off,none⟩ from rfl,SU]
  refine Wc hg rfl ?_;rw [<- J,SG] at I
  split at I
  ·rw [SB] at I; simpa using I
  ·cases I
theorem add_add (a:Addr) (i j:Nat):(a.add i).add j=a.add (i+j):=by
 unfold Addr.add
 by_cases I:i=0 <;> by_cases J:j=0 <;> simp [I,J,Uc]
theorem yP {v:RJ}{T:TypeId}{sz n i:Nat}{xs cs:List RJ} (O:bN.row v T sz n xs ∈ M) (I:∀ j u,cs[j]? = some u->xs[i+j]? = some u):zK x H M ((Value.base v).add i) cs:=by
 intro j c J;rw [add_add];exact CQ O (I j c J)
theorem row_one {v:RJ}{T:TypeId}{sz n i o:Nat}{xs cs:List RJ}{c:RJ} (O:bN.row v T sz n xs ∈ M) (I:∀ j u,cs[j]? = some u->xs[i+j]? = some u) (J:cs[o]? = some c):
  ye x H M (((Value.base v).add i).add o) c:=by
 rw [add_add]; exact CQ O (I o c J)
theorem CR {v:RJ}{T:TypeId}{sz n i:Nat}{xs cs:List RJ}{c:RJ} (O:bN.row v T sz n xs ∈ M) (I:∀ j u,cs[j]? = some u->xs[i+j]? = some u) (J:cs[0]? = some c):
  ye x H M ((Value.base v).add i) c:=CQ O (I 0 c J)
theorem BP {v:RJ}{T:TypeId}{sz n:Nat}{xs:List RJ}{t e:TypeId}{y:Operand} (O:bN.row v T sz n xs ∈ M) (Z:gd ops L ⟨some d,.call ⟨.builtin .len,#[y],#[t]⟩,ty,pos,aft,g⟩=some true) (hN:Nat.blt d x.N=true)
  (Y:∀ w,(underlying t).run x.P w=.ok (.slice e) w) (hy:ev L y=some v) (k:W x ops Q rest H M ((d,.int .i64 n)::L)):
  W x ops Q (⟨some d,.call ⟨.builtin .len,#[y],#[t]⟩,ty,pos,aft,g⟩::rest) H M L:=
 eQ rfl Z hN (λc w hs ht=>by
  have I:iW w T sz v n xs:=ht.ok _ O;rcases I.2 with ⟨rfl,rfl⟩ | ⟨gb,off,cap,J,rfl,_⟩ <;>
   simp [execOp,resolve,invoke,builtin,hs.ev hy,Builtin.len_,Y,goInt]) k
theorem zO {v:RJ}{T:TypeId}{sz n:Nat}{xs:List RJ}{t e:TypeId}{y z:Operand}{kk:IntKind}{i:Int} (O:bN.row v T sz n xs ∈ M)
  (hg:gd ops L ⟨some d,.indexAddr t y z,ty,pos,aft,g⟩=some true) (hN:Nat.blt d x.N=true)
  (hT:∀ w,(underlying t).run x.P w=.ok (.slice e) w) (hs:∀ w,(sizeOf e).run x.P w=.ok sz w)
  (hy:ev L y=some v) (hz:ev L z=some (.int kk i)) (h0:0<=i) (h1:i.toNat<n)
  (k:W x ops Q rest H M ((d,.pointer (some ((Value.base v).add (i.toNat*sz))))::L)):
  W x ops Q (⟨some d,.indexAddr t y z,ty,pos,aft,g⟩::rest) H M L:=
 eQ rfl hg hN (λc w I ht=>by
  have J:i<(n:Int):=by omega
  have Y:iW w T sz v n xs:=ht.ok _ O;rcases Y.2 with ⟨rfl,rfl⟩ | ⟨gb,off,cap,Z,rfl,_⟩
  ·omega
  ·simp [execOp,I.ev hy,I.ev hz,Instr.indexAt,asIntOf,hT,hs,h0,J,Value.base]) k
theorem yk {T E:TypeId}{m sz n i:Nat}{y z:Operand}{v u:RJ}{ad:Addr}{xs cs:List RJ} (hg:gd ops L ⟨none,.store T y z,ty,pos,aft,g⟩=some true)
  (hn:∀ w,(sizeOf T).run x.P w=.ok m w) (hy:ev L y=some (.pointer (some ad))) (had:ad=(Value.base v).add i) (hz:ev L z=some u) (hv:u.cells=cs.toArray) (hl:cs.length=m)
  (hb:i+cs.length<=xs.length) (Z:Nat.blt 0 cs.length=true) (h1:∀ c ∈ cs,c.oneCell'=true)
  (k:W x ops Q rest H (.row v E sz n (over xs i cs)::M) L):
  W x ops Q (⟨none,.store T y z,ty,pos,aft,g⟩::rest) H (.row v E sz n xs::M) L:=
 D1 rfl hg (λa w hs ht=>by
  subst had;have I:iW w E sz v n xs:=ht.ok _ (RR ..);have hpos':0<cs.length:=by simpa [SY] using Z
  rcases I.2 with ⟨rfl,rfl⟩ | ⟨gb,off,cap,cur,rfl,hgb,Y,hcm,hcs,J⟩
  ·have h0:=I.1; rw [Tm] at h0; omega
  ·have hmul:n*sz<=cap*sz:=R8 _ Y
   have hxl:=I.1;obtain ⟨w',hr,hh,hgr⟩:=kO (P:=x.P) gb (off+i) E cs 0 cur.toList w (by simpa using hgb) (by simp; omega) h1
   refine ⟨w',?_,H,_,ht.E1 (r':=.row (.slice (some ⟨gb,off,none⟩) n cap) E sz n (over xs i cs)) hgr ?_ (λc hc=>.inl hc),k⟩
   ·simp [execOp,hs.ev hy,hs.ev hz,Instr.storeAt,Instr.sureAddr,storeVar,hn,hl,hv,Value.base,SU,hr]
   ·refine ⟨by rw [qd]; exact hxl,.inr ⟨gb,off,cap,_,rfl,hh,Y,hcm,by simpa [qd] using hcs,?_⟩⟩
    rw [Um,Tl];apply Tz;intro j;rw [SG,SB,Ah _ _ _ _ (by simp; omega),Ah _ _ _ _ hb,<- J,SG,SB]
    by_cases hj:j<n*sz
    ·simp only [RU hj]
     by_cases h3:i<=j/\j<i+cs.length
     ·rw [RU h3,RU (by omega)]; congr 1; omega
     ·rw [RS h3,RS (by omega)]
    ·simp only [RS hj]
     rw [RS (by omega)])
end
section
variable {x:Cx}{ops:Array Oper}{Q:lU}{rest:List Oper}{H:Hp}{M M':List bN}{L L':Env}
variable {d:Nat}{ty:TypeId}{pos:String}{aft:Array Edge}{g:Option (Nat×Bool)}
theorem iW.shape {w:World}{T:TypeId}{sz n:Nat}{v:RJ}{xs:List RJ} (h:iW w T sz v n xs):∃ a n c,v=.slice a n c:=by
 rcases h.2 with ⟨rfl,_⟩ | ⟨J,off,cap,I,rfl,_⟩ <;> exact ⟨_,_,_,rfl⟩
theorem cX {α:Type}[aF α] {t e:TypeId}{bytes n:Nat}{z:RJ}{y u:Operand}{v vu:RJ}{xs:List RJ}{l ys:List α}
  (hg:gd ops L ⟨some d,.call ⟨.builtin .append,#[y,u],#[t,t]⟩,ty,pos,aft,g⟩=some true) (hN:Nat.blt d x.N=true)
  (hT:x.P.underlying t=some (.slice e)) (hi:Pf x.P e (aF.sz α) bytes z) (hz:z.cells.size=aF.sz α) (hs:Nat.blt 0 (aF.sz α)=true) (Z:Nat.blt 0 bytes=true)
  (hy:ev L y=some v) (hu:ev L u=some vu) (hx:Rw H v xs l) (hR:aP H vu ys) (hb:((l.length+ys.length)*bytes:Nat)<=140737488355328)
  (k:∀ v' I,Rw H v' I (l++ys)->W x ops Q rest H (.row v' e (aF.sz α) (l++ys).length I::M) ((d,v')::L)):
  W x ops Q (⟨some d,.call ⟨.builtin .append,#[y,u],#[t,t]⟩,ty,pos,aft,g⟩::rest) H (.row v e (aF.sz α) n xs::M) L:=by
 refine JY hg hN hT hi hz hs Z hy hu hx.rd hR hb λv' n' I Y=>?_;intro a w hsl ht;have J:iW w e (aF.sz α) v' n' I:=ht.ok _ (RR ..);have hn:n'=(l++ys).length:=by
  have h1:=Y.len;rw [J.1] at h1;exact Ty (by simpa [SY] using hs) h1
 subst hn;exact k v' I ⟨Y,J.shape⟩ a w hsl ht
theorem St.newRow {α:Type}[aF α] {B:Nat}{w0 w:World}{cells:List RJ}{e:TypeId}{l:List α} (ht:St B w0 H M w) (J:pX H cells l) (O:l.length<=maxLen):
  St B w0 H (.row (.slice (some ⟨w.heap.size,0,none⟩) l.length l.length) e (aF.sz α) l.length cells::M) (w.alloc (.cells cells.toArray e)):=by
 have h:=ht.alloc (.cells cells.toArray e);have hl:=J.len;refine ⟨h.below,h.le,h.vp,?_,?_,h.nd⟩
 ·intro r I
  rcases SA.1 I with rfl | I
  ·refine ⟨hl,.inr ⟨w.heap.size,0,l.length,cells.toArray,rfl,h.ok _ (RR ..),R9 _,O,by simp only [Ux]; omega,?_⟩⟩
   rw [<- hl,Um,S8,TE]
  ·exact h.ok r (RV _ I)
 ·intro r I
  rcases SA.1 I with rfl | I
  ·exact h.lo (.obj w.heap.size (.cells cells.toArray e)) (RR ..)
  ·exact h.lo r (RV _ I)
theorem eT {α:Type}[aF α] {t e:TypeId}{bytes:Nat}{z:RJ}{zs:List RJ}{ze:α}{y y2:Operand}{n:Int}
  (hg:gd ops L ⟨some d,.makeSlice t y y2,ty,pos,aft,g⟩=some true) (hN:Nat.blt d x.N=true)
  (hT:x.P.underlying t=some (.slice e)) (hi:Pf x.P e (aF.sz α) bytes z) (hz:z.cells=zs.toArray) (hs:Nat.blt 0 (aF.sz α)=true) (hb0:Nat.blt 0 bytes=true)
  (hE:aF.E H zs ze) (hy:ev L y=some (.int .i64 n)) (hy2:ev L y2=some (.int .i64 n)) (h0:0<=n) (hb:n*bytes<=140737488355328)
  (k:∀ v' xs',Rw H v' xs' (List.replicate n.toNat ze)->W x ops Q rest H (.row v' e (aF.sz α) (List.replicate n.toNat ze).length xs'::M) ((d,v')::L)):
  W x ops Q (⟨some d,.makeSlice t y y2,ty,pos,aft,g⟩::rest) H M L:=by
 obtain ⟨i,h1,h2,h3,h4⟩:=hi.ex;obtain ⟨m,rfl⟩:∃ m:Nat,n=m:=⟨n.toNat,by omega⟩
 have hs':0<aF.sz α:=by simpa [SY] using hs
 have hb0':0<bytes:=by simpa [SY] using hb0
 have hcast:((m*bytes:Nat):Int)=(m:Int)*(bytes:Int):=SI m bytes;have hbn:m*bytes<=140737488355328:=by omega
 have O:m<=m*bytes:=Uz _ hb0';have hzl:zs.length=aF.sz α:=aF.len hE;have hmax:m<=maxLen:=by unfold maxLen; omega
 have hw:i64.wrap (m:Int)=m:=yq (by omega) (by omega)
 simp only [RN] at k;have hrd:∀ q,pX H ((List.range (q*aF.sz α)).map (zs.toArray[·%zs.length]!)) (List.replicate q ze):=by
  intro q
  induction q with
  | zero=>rw [Tm]; exact rfl
  | succ q ih=>
   have J:(List.range ((q+1)*aF.sz α)).map (zs.toArray[·%zs.length]!)=zs++(List.range (q*aF.sz α)).map (zs.toArray[·%zs.length]!):=by
    apply Tz;intro j;rw [TY,Sq]
    by_cases hj:j<zs.length
    ·rw [RU hj,TQ (by rw [Sd]; omega)]
     simp [TG hj,hj]
    ·rw [RS hj,Sq]
     by_cases Z:j<(q+1)*aF.sz α
     ·rw [TQ Z,TQ (by rw [Sd] at Z; omega)]
      simp only [Td];rw [<- Nat.mod_eq_sub_mod (by omega)]
     ·rw [SQ (by simp; omega),SQ (by rw [Sd] at Z; simp; omega)]
   rw [J];exact ⟨zs,_,rfl,hE,ih⟩
 have hlr:(List.replicate m ze).length=m:=SZ;refine s8 rfl hg hN λa w I ht=>?_;refine ⟨.slice (some ⟨w.heap.size,0,none⟩) (List.replicate m ze).length (List.replicate m ze).length,_,?_,H,_,St.newRow (e:=e) ht (hrd m) (by rw [hlr]; exact hmax),k _ _ ⟨hrd m,_,_,_,rfl⟩⟩
 have e1:¬ ((i.bytes:Int)*(m:Int) > 2 ^ 48):=by
  rw [h3,Int.mul_comm];omega
 have e3:¬ (m*i.bytes > roomBytes):=by rw [h3]; unfold roomBytes; omega
 have e4:¬ ((m:Int)<0):=by omega
 have Y:∀ w,(typeInfo e).run x.P w=.ok i w:=λw=>by simp [typeInfo,h1]
 have hsz:∀ w,(sizeOf e).run x.P w=.ok (aF.sz α) w:=λw=>by simp [sizeOf,Y,h2]
 have hzv:∀ w,(zeroValue e).run x.P w=.ok z w:=λw=>by simp [zeroValue,Y,h4]
 have hun:∀ w,(underlying t).run x.P w=.ok (.slice e) w:=λw=>Tj hT w;have hnr:∀ c w,(newRow e c).run x.P w=.ok ⟨w.heap.size,0,none⟩ (w.alloc (.cells c e)):=λc w=>by
  simp only [newRow,newObj,R4,Sb,Sem.run,RX,World.alloc]
 rw [hlr]
 by_cases hm0:m*aF.sz α=0
 ·have:m=0:=by
   rcases Nat.mul_eq_zero.1 hm0 with h | h <;> omega
  subst this;simp only [execOp,I.ev hy,I.ev hy2,Instr.makeSlice,R4,hun,RX,asInt,asIntOf,Sb,Y,hw,e1,e4,Wh,Bool.or_self,Tr,T5,RN,askRoom,hsz,hm0,Vz,hnr,gt_iff_lt,Int.lt_irrefl,Tm,Nat.not_lt_zero];simp [Array.range]
 ·have e6:(Array.range (m*aF.sz α)).map (λj=>zs.toArray[j%zs.toArray.size]!)=((List.range (m*aF.sz α)).map (zs.toArray[·%zs.length]!)).toArray:=by
   apply Array.ext';simp
  simp only [execOp,I.ev hy,I.ev hy2,Instr.makeSlice,R4,hun,RX,asInt,asIntOf,Sb,Y,hw,e1,e4,Wh,Bool.or_self,Tr,T5,RN,askRoom,e3,hsz,hm0,hzv,hz,e6,hnr,gt_iff_lt,Int.lt_irrefl]
theorem run_sliceBound {P:Program}{w:World}{Y:IntKind}{i:Int}{y:Nat}{c:BoundsCode} (I:0<=i) (J:i<=y):(Instr.sliceBound (.int Y i) y c).run P w=.ok i.toNat w:=by
 simp [Instr.sliceBound,asIntOf,I,J]
def Bd (o:Option RJ) (I top r:Nat):Prop:=(o=none/\r=I)\/∃ J i,o=some (.int J i)/\0<=i/\i<=top/\i.toNat=r
theorem Bg {P:Program}{w:World}{len cap:Nat}{lo hi mx:Option RJ}{l h m:Nat}
  (I:mx=none\/∃ v,hi=some v) (O:Bd mx cap cap m) (J:Bd hi len m h) (hl:Bd lo 0 h l):
  (Instr.sliceBounds true len cap lo hi mx).run P w=.ok (l,h,m) w:=by
 rcases O with ⟨rfl,rfl⟩ | ⟨km,im,rfl,m0,m1,rfl⟩
 ·rcases J with ⟨rfl,rfl⟩ | ⟨kh,ih,rfl,Y,Z,rfl⟩
  ·rcases hl with ⟨rfl,rfl⟩ | ⟨kl,il,rfl,l0,l1,rfl⟩
   ·simp only [Instr.sliceBounds,R4,Sb,RX]
   ·simp only [Instr.sliceBounds,R4,Sb,RX,run_sliceBound l0 l1]
  ·rcases hl with ⟨rfl,rfl⟩ | ⟨kl,il,rfl,l0,l1,rfl⟩
   ·simp only [Instr.sliceBounds,R4,Sb,RX,run_sliceBound Y Z]
   ·simp only [Instr.sliceBounds,R4,Sb,RX,run_sliceBound Y Z,run_sliceBound l0 l1]
 ·rcases I with I | ⟨v,rfl⟩
  ·cases I
  ·rcases J with ⟨J,_⟩ | ⟨kh,ih,J,Y,Z,rfl⟩
   ·cases J
   ·obtain rfl:=RQ J
    rcases hl with ⟨rfl,rfl⟩ | ⟨kl,il,rfl,l0,l1,rfl⟩
    ·simp only [Instr.sliceBounds,R4,Sb,RX,run_sliceBound m0 m1,run_sliceBound Y Z]
    ·simp only [Instr.sliceBounds,R4,Sb,RX,run_sliceBound m0 m1,run_sliceBound Y Z,run_sliceBound l0 l1]
def Hv (L:Env) (o:Option Operand) (I top r:Nat):Prop:=(o=none/\r=I)\/∃ J Y i,o=some J/\ev L J=some (.int Y i)/\0<=i/\i<=top/\i.toNat=r
theorem Hv.bd {N:Nat}{a:Act}{o:Option Operand}{I top r:Nat} (hs:Sl N L a) (h:Hv L o I top r):Bd (o.map a.eval) I top r:=by
 rcases h with ⟨rfl,rfl⟩ | ⟨o',Z,i,rfl,he,J,Y,rfl⟩
 ·exact .inl ⟨rfl,rfl⟩
 ·exact .inr ⟨Z,i,by simp [hs.ev he],J,Y,rfl⟩
theorem uE {P:Program}{w:World}{t e:TypeId}{sz len cap:Nat}{a:Option Addr}{lo hi mx:Option RJ}{l h m:Nat} (J:∀ w,(underlying t).run P w=.ok (.slice e) w) (hs:∀ w,(sizeOf e).run P w=.ok sz w)
  (I:mx=none\/∃ v,hi=some v) (O:Bd mx cap cap m) (Y:Bd hi len m h) (hl:Bd lo 0 h l):
  (Instr.sliceAt t (.slice a len cap) lo hi mx).run P w=.ok (.slice (if m=l then a else a.map (·.add (l*sz))) (h-l) (m-l)) w:=by
 simp only [Instr.sliceAt,R4,J,RX,Instr.slice,Bg I O Y hl,hs,Sb]
theorem K9 {a:Act}{mx hi:Option Operand} (h:mx=none\/∃ o,hi=some o):mx.map a.eval=none\/∃ v,hi.map a.eval=some v:=by
 rcases h with rfl | ⟨o,rfl⟩
 ·exact .inl rfl
 ·exact .inr ⟨_,rfl⟩
theorem vB {α:Type}[aF α] {t e:TypeId}{y:Operand}{lo hi mx:Option Operand}{v:RJ}{xs:List α}{l h:Nat} (hg:gd ops L ⟨some d,.slice t y lo hi mx,ty,pos,aft,g⟩=some true) (hN:Nat.blt d x.N=true)
  (hT:∀ w,(underlying t).run x.P w=.ok (.slice e) w) (hs:∀ w,(sizeOf e).run x.P w=.ok (aF.sz α) w)
  (hy:ev L y=some v) (hR:aP H v xs) (hlh:l<=h) (hhx:h<=xs.length) (hmh:mx=none\/∃ o,hi=some o)
  (O:∀ cap,h<=cap->Hv L mx cap cap (if mx=none then cap else h)) (hh:∀ m,h<=m->Hv L hi xs.length m h) (hl:Hv L lo 0 h l)
  (k:∀ v',aP H v' ((xs.drop l).take (h-l))->(mx≠none->Value.oC v'=h-l)->W x ops Q rest H M ((d,v')::L)):
  W x ops Q (⟨some d,.slice t y lo hi mx,ty,pos,aft,g⟩::rest) H M L:=by
 have hlen:((xs.drop l).take (h-l)).length=h-l:=by simp; omega
 rcases hR with ⟨⟨a0,rfl⟩,rfl⟩ | ⟨b,off,cap,arr,T,fz,rfl,h2,h3,h4,h5,h6⟩
 ·have hl0:l=0:=by simp at hhx; omega
  have hh0:h=0:=by simp at hhx; omega
  subst hl0; subst hh0
  have hif:(if mx=none then 0 else 0)=0:=by split <;> rfl
  refine eQ (v:=.slice a0 0 0) rfl hg hN (λc w I ht=>?_) (k _ (.inl ⟨⟨_,rfl⟩,by simp⟩) (λ_=>rfl))
  have Y:=(O 0 (R9 _)).bd I;rw [hif] at Y;have hr:=uE (P:=x.P) (w:=w) (len:=0) (cap:=0) (a:=a0) hT hs (K9 hmh) Y ((hh 0 (R9 _)).bd I) (hl.bd I);simp only [S7,Vz] at hr;simp only [execOp,I.ev hy,R4,hr,RX,Sb]
 ·have hmc:h<=(if mx=none then cap else h)/\(if mx=none then cap else h)<=cap:=by split <;> omega
  generalize Z:(if mx=none then cap else h)=m at hmc
  refine eQ (v:=.slice (if m=l then some ⟨b,off,none⟩ else some ((⟨b,off,none⟩:Addr).add (l*aF.sz α))) (h-l) (m-l)) rfl hg hN (λc w I ht=>?_) (k _ ?_ ?_)
  ·have Y:=(O cap (by omega)).bd I
   rw [Z] at Y;simp only [execOp,I.ev hy,R4,uE hT hs (K9 hmh) Y ((hh m hmc.1).bd I) (hl.bd I),RX,Sb]
   split <;> rfl
  ·by_cases hml:m=l
   ·have:h-l=0:=by omega
    have e0:m-l=0:=by omega
    rw [RU hml,this,e0];exact .inl ⟨⟨_,rfl⟩,by simp⟩
   ·rw [RS hml,SU]
    have hmul:l*aF.sz α+(m-l)*aF.sz α<=cap*aF.sz α:=by
     rw [<- Sd]; exact R8 _ (by omega)
    refine .inr ⟨b,off+l*aF.sz α,m-l,arr,T,fz,by rw [hlen],by omega,by omega,h4,by omega,λj el J=>?_⟩
    rw [SG] at J
    split at J
    ·rw [SB] at J
     obtain ⟨cs,q1,q2⟩:=h6 (l+j) el J;refine ⟨cs,q1,λi c hc=>?_⟩;rw [show off+l*aF.sz α+j*aF.sz α+i=off+(l+j)*aF.sz α+i by rw [Sd]; omega]
     exact q2 i c hc
    ·cases J
  ·intro hne
   rw [RS hne] at Z;subst Z; rfl
theorem IG {α:Type}[aF α] {t e T:TypeId}{n:Nat}{y:Operand}{lo hi:Option Operand}{v:RJ}{cs:List RJ}{xs:List α}{l h:Nat} (hg:gd ops L ⟨some d,.slice t y lo hi none,ty,pos,aft,g⟩=some true) (hN:Nat.blt d x.N=true)
  (hT:∀ w,(underlying t).run x.P w=.ok (.slice e) w) (hs:∀ w,(sizeOf e).run x.P w=.ok (aF.sz α) w) (hs0:Nat.blt 0 (aF.sz α)=true)
  (hy:ev L y=some v) (hR:Rw H v cs xs) (hlh:l<=h) (hhx:h<=xs.length)
  (hh:∀ m,h<=m->Hv L hi xs.length m h) (hl:Hv L lo 0 h l)
  (k:∀ v' cs',Rw H v' cs' ((xs.drop l).take (h-l))->Value.oC v'=Value.oC v-l->W x ops Q rest H (.row v' T (aF.sz α) ((xs.drop l).take (h-l)).length cs'::M) ((d,v')::L)):
  W x ops Q (⟨some d,.slice t y lo hi none,ty,pos,aft,g⟩::rest) H (.row v T (aF.sz α) n cs::M) L:=by
 have J:((xs.drop l).take (h-l)).length=h-l:=by simp; omega
 refine s8 rfl hg hN λa w I ht=>?_;have hok:iW w T (aF.sz α) v n cs:=ht.ok _ (RR ..);have hn:n=xs.length:=by
  have h1:=hR.rd.len;rw [hok.1] at h1;exact Ty (by simpa [SY] using hs0) h1
 subst hn;have hrd:=(hR.rd.split h).1.split l;have Z:pX H ((cs.take (h*aF.sz α)).drop (l*aF.sz α)) ((xs.drop l).take (h-l)):=by
  have:=hrd.2
  rwa [Ug (l:=xs)] at this
 have hcl:=Z.len;rcases hok.2 with ⟨rfl,h0⟩ | ⟨gb,off,cap,cur,rfl,hgb,hnc,hcm,hcs,htake⟩
 ·have hl0:l=0:=by omega
  have hh0:h=0:=by omega
  subst hl0; subst hh0
  refine ⟨.slice none 0 0,w,?_,H,_,?_,k _ [] (by simpa using (Rw.nil:Rw H (.slice none 0 0) [] ([]:List α))) rfl⟩
  ·have hh':=(hh 0 (R9 _)).bd I
   rw [h0] at hh';have hr:=uE (P:=x.P) (w:=w) (len:=0) (cap:=0) (a:=none) (mx:=none) hT hs (.inl rfl) (.inl ⟨rfl,rfl⟩) hh' (hl.bd I);simp only [S7,Vz] at hr;simp only [execOp,I.ev hy,R4,UM,hr,RX,Sb]
  ·have:=ht.tail.CC T (aF.sz α)
   simpa using this
 ·refine ⟨.slice (if cap=l then some ⟨gb,off,none⟩ else some ((⟨gb,off,none⟩:Addr).add (l*aF.sz α))) (h-l) (cap-l),w,?_,H,_,?_,k _ _ ⟨Z,_,_,_,rfl⟩ rfl⟩
  ·simp only [execOp,I.ev hy,R4,uE (mx:=none) (m:=cap) hT hs (.inl rfl) (.inl ⟨rfl,rfl⟩) ((hh cap (by omega)).bd I) (hl.bd I),UM,RX,Sb]
   split <;> rfl
  ·have hgr:w.grownBy w (bN.zV (.row (.slice (some ⟨gb,off,none⟩) xs.length cap) T (aF.sz α) xs.length cs)):=⟨rfl,rfl,rfl,R9 _,λ_ _ _=>rfl⟩
   rw [J];have hmul:l*aF.sz α+(cap-l)*aF.sz α=cap*aF.sz α:=by rw [<- Sd]; congr 1; omega
   have hmul2:h*aF.sz α=l*aF.sz α+(h-l)*aF.sz α:=by rw [<- Sd]; congr 1; omega
   have hmul3:h*aF.sz α<=xs.length*aF.sz α:=R8 _ hhx;have hxl:cs.length=xs.length*aF.sz α:=hok.1
   by_cases Y:cap=l
   ·have e1:h-l=0:=by omega
    have e2:cap-l=0:=by omega
    rw [RU Y,e1,e2];have e3:(cs.take (h*aF.sz α)).drop (l*aF.sz α)=[]:=by
     apply Sg; rw [hcl,J,e1,Tm]
    rw [e3];exact ht.E1 (r':=.row (.slice (some ⟨gb,off,none⟩) 0 0) T (aF.sz α) 0 []) hgr ⟨by simp,.inr ⟨gb,off,0,cur,rfl,hgb,R9 _,by unfold maxLen; omega,by omega,by simp⟩⟩ (λc hc=>.inl hc)
   ·rw [RS Y,SU]
    refine ht.E1 (r':=.row (.slice (some ⟨gb,off+l*aF.sz α,none⟩) (h-l) (cap-l)) T (aF.sz α) (h-l) _) hgr ⟨?_,.inr ⟨gb,off+l*aF.sz α,cap-l,cur,rfl,hgb,by omega,by omega,by omega,?_⟩⟩ (λc hc=>.inl hc)
    ·rw [hcl,J]
    ·rw [<- htake,VT,SW hmul3,Ug,TA]
     congr 1; omega
theorem uw {α:Type}[aF α] {t e T:TypeId}{n:Nat}{y:Operand}{lo hi:Option Operand}{v:RJ}{cs:List RJ}{xs:List α}{l h:Nat} (hg:gd ops L ⟨some d,.slice t y lo hi none,ty,pos,aft,g⟩=some true) (hN:Nat.blt d x.N=true)
  (hT:∀ w,(underlying t).run x.P w=.ok (.slice e) w) (hs:∀ w,(sizeOf e).run x.P w=.ok (aF.sz α) w) (Z:Nat.blt 0 (aF.sz α)=true)
  (hy:ev L y=some v) (hR:Rw H v cs xs) (Y:l<=h) (J:h<=xs.length)
  (hh:∀ m,h<=m->Hv L hi xs.length m h) (hl:Hv L lo 0 h l)
  (k:∀ v' I,Rw H v' I ((xs.drop l).take (h-l))->W x ops Q rest H (.row v' T (aF.sz α) ((xs.drop l).take (h-l)).length I::M) ((d,v')::L)):
  W x ops Q (⟨some d,.slice t y lo hi none,ty,pos,aft,g⟩::rest) H (.row v T (aF.sz α) n cs::M) L:=
 IG hg hN hT hs Z hy hR Y J hh hl (λv' I h _=>k v' I h)
end
def tG {α:Type} (xs:List α) (l h:Nat):List α:=(xs.drop l).take (h-l)
theorem Ng {α:Type} (xs:List α) (l h:Nat):(tG xs l h).length=min (h-l) (xs.length-l):=by simp [tG]
theorem Rw.room {α:Type}[aF α] {H:Hp}{v:RJ}{xs:List RJ}{l:List α} (h:Rw H v xs l) {k:Nat}{e:α} (he:l[k]? = some e) {o m:Nat} (J:Nat.ble (o+m) (aF.sz α)=true):k*aF.sz α+o+m<=xs.length:=by
 have Z:k<l.length:=(RP.1 he).1;have I:(k+1)*aF.sz α<=l.length*aF.sz α:=R8 _ Z;have Y:o+m<=aF.sz α:=by simpa [Uh] using J
 rw [h.rd.len];rw [Sd,Vy] at I;omega
theorem Is (a:Addr) (i:Nat):a.add i=a.add (i+0):=rfl
theorem Ls (a:Addr) (i o:Nat):(a.add i).add o=a.add (i+o):=add_add a i o
section
variable {x:Cx}{ops:Array Oper}{Q:lU}{rest:List Oper}{H:Hp}{M M':List bN}{L L':Env}
variable {d:Nat}{ty:TypeId}{pos:String}{aft:Array Edge}{g:Option (Nat×Bool)}
theorem IF {α : Type} [aF α] {t e : TypeId} {bytes : Nat} {z : RJ} {y u : Operand} {v vu : RJ} {l ys : List α}
    (hg : gd ops L ⟨some d, .call ⟨.builtin .append, #[y, u], #[t, t]⟩, ty, pos, aft, g⟩ = some true) (hN : Nat.blt d x.N = true)
    (hT : x.P.underlying t = some (.slice e)) (hi : Pf x.P e (aF.sz α) bytes z) (hz : z.cells.size = aF.sz α) (hs : Nat.blt 0 (aF.sz α) = true) (hb0 : Nat.blt 0 bytes = true)
    (hy : ev L y = some v) (hu : ev L u = some vu) (hx : aP H v l) (hc : Value.oC v = l.length) (hR : aP H vu ys) (hpos : Nat.blt 0 ys.length = true) (hb : ((l.length + ys.length) * bytes : Nat) ≤ 140737488355328)
    (k : ∀ v' xs', Rw H v' xs' (l ++ ys) → W x ops Q rest H (.row v' e (aF.sz α) (l ++ ys).length xs' :: M) ((d, v') :: L)) :
    W x ops Q (⟨some d, .call ⟨.builtin .append, #[y, u], #[t, t]⟩, ty, pos, aft, g⟩ :: rest) H M L := by
  obtain ⟨i, h1, h2, h3, h4⟩ := hi.ex;have hs' : 0 < aF.sz α := by simpa [SY] using hs
  have hb0' : 0 < bytes := by simpa [SY] using hb0
  have hpos' : 0 < ys.length := by simpa [SY] using hpos
  have hmax : l.length + ys.length ≤ maxLen := by
    have : l.length + ys.length ≤ (l.length + ys.length) * bytes := Uz _ hb0';unfold maxLen; omega
  have Z : l.length + ys.length ≤ 9223372036854775807 := by unfold maxLen at hmax; omega
  refine s8 rfl hg hN fun a w hsl ht => ?_;obtain ⟨cs, hcs, hcase⟩ := hx.flat;obtain ⟨J, hds, hcase2⟩ := hR.flat;rcases hcase2 with ⟨⟨ea, rfl⟩, rfl⟩ | ⟨hd2, b2, I, c2, rfl⟩
  · simp at hpos'
  have Y : ∀ j u, J[j]? = some u → w.cell? ((⟨b2, I, none⟩ : Addr).add j) = some u := fun j u hu => ((hd2 j u hu).at (x := x) (M := M)) w ht;have hdl := hds.len;have hge := Wy w (l.length + ys.length);have mk : ∀ (vX : Nat), pX H (cs ++ J) (l ++ ys) → iW (w.drew.alloc (.cells (cs.toArray ++ J.toArray ++ Builtin.zeroCells z.cells (grownCap w (l.length + ys.length) vX e - (l.length + ys.length))) e)) e (aF.sz α)
        (.slice (some ⟨w.heap.size, 0, none⟩) (l.length + ys.length) (grownCap w (l.length + ys.length) vX e)) (l.length + ys.length) (cs ++ J) := by
    intro vX hrd;have hge := Wy w (l.length + ys.length) vX e;have hcm : grownCap w (l.length + ys.length) vX e ≤ maxLen := VP w (l.length + ys.length) vX e hmax;have hlen : (cs ++ J).length = (l.length + ys.length) * aF.sz α := by rw [hrd.len, R5]
    refine ⟨hlen, .inr ⟨w.heap.size, 0, _, _, rfl, VW w.drew _, hge, hcm, ?_, ?_⟩⟩
    · have hlen' : cs.length + J.length = (l.length + ys.length) * aF.sz α := by rw [← R5]; exact hlen
      simp only [Array.size_append, Ux, size_zeroCells, hz, Se];rw [hlen', ← Sd];rw [show l.length + ys.length + (grownCap w (l.length + ys.length) vX e - (l.length + ys.length)) = grownCap w (l.length + ys.length) vX e from by omega]
      exact R9 _
    · simp only [S8, Wo, Sc]
      rw [← Sc, ← hlen];exact UT
  have fin : ∀ (vX : Nat), pX H (cs ++ J) (l ++ ys) → (Builtin.append_ #[t, t] ty #[v, .slice (some ⟨b2, I, none⟩) ys.length c2]).run x.P w = .ok (.slice (some ⟨w.heap.size, 0, none⟩) (l.length + ys.length) (grownCap w (l.length + ys.length) vX e))
        (w.drew.alloc (.cells (cs.toArray ++ J.toArray ++ Builtin.zeroCells z.cells (grownCap w (l.length + ys.length) vX e - (l.length + ys.length))) e)) →
      ∃ v' w', (execOp a.eval ⟨some d, .call ⟨.builtin .append, #[y, u], #[t, t]⟩, ty, pos, aft, g⟩).run x.P w = .ok (.value v') w' ∧ ∃ H' M', St x.B x.w0 H' M' w' ∧ W x ops Q rest H' M' ((d, v') :: L) := by
    intro vX hrd hr;have hown := mk vX hrd;refine ⟨_, (w.drew.alloc (.cells (cs.toArray ++ J.toArray ++ Builtin.zeroCells z.cells (grownCap w (l.length + ys.length) vX e - (l.length + ys.length))) e)), ?_, H, .row _ e (aF.sz α) (l ++ ys).length (cs ++ J) :: M, ht.add (r' := .row (.slice (some ⟨w.heap.size, 0, none⟩) (l.length + ys.length) (grownCap w (l.length + ys.length) vX e)) e (aF.sz α) (l ++ ys).length (cs ++ J)) ?_ ?_ ?_, k _ _ ⟨hrd, _, _, _, rfl⟩⟩
    · simp [execOp, resolve, invoke, builtin, hsl.ev hy, hsl.ev hu, hr]
    · exact ⟨rfl, rfl, rfl, by simp, fun k hk _ => heap_alloc_old w.drew _ (h := hk)⟩
    · show iW _ e (aF.sz α) _ (l ++ ys).length (cs ++ J)
      rw [R5]; exact hown
    · intro b hb
      simp only [bN.zV, Value.ownBlock, Sa] at hb;omega
  rcases hcase with ⟨⟨ea, rfl⟩, rfl⟩ | ⟨hc1, b1, off1, c1, rfl⟩
  · have hcs' : cs = [] := hcs
    subst hcs';have hl0 : ([] : List α).length + ys.length = ys.length := by simp
    cases ea with
    | none =>
      have hr := run_append_nil (P := x.P) w t ty e i z hT h1 h4 ⟨b2, I, none⟩ ys.length c2 J (by rw [h2]; exact hdl) Y (by omega) (by rw [hl0] at Z; omega) (by have hb' := hb; rw [hl0] at hb'; rw [h3]; omega)
      refine fin 0 (hcs.app hds) ?_;simp only [hl0];simpa using hr
    | some ea =>
      have hr := run_append_grow (P := x.P) w t ty e i z hT h1 h4 ea 0 0 [] (by simp) (by simp) ⟨b2, I, none⟩ ys.length c2 J (by rw [h2]; exact hdl) Y (by omega) (by rw [hl0] at Z; omega) (Ww (by omega) (by rw [h3]; simpa using hb))
      refine fin 0 (hcs.app hds) ?_;simpa using hr
  · have hc' : c1 = l.length := hc
    subst hc';have hr := run_append_grow (P := x.P) w t ty e i z hT h1 h4 ⟨b1, off1, none⟩ l.length l.length cs (by rw [h2]; exact hcs.len) (fun j u hu => ((hc1 j u hu).at (x := x) (M := M)) w ht) ⟨b2, I, none⟩ ys.length c2 J (by rw [h2]; exact hdl) Y (by omega) (by omega) (Ww (by omega) (by rw [h3]; exact hb))
    exact fin l.length (hcs.app hds) hr
theorem qM (α:Type) [aF α] {T e:TypeId}
  (Z:gd ops L ⟨some d,.buildSlice T 0 #[],ty,pos,aft,g⟩=some true) (hN:Nat.blt d x.N=true)
  (Y:∀ w,(underlying T).run x.P w=.ok (.slice e) w) (hs:∀ w,(sizeOf e).run x.P w=.ok (aF.sz α) w)
  (k:∀ v' I,Rw H v' I ([]:List α)->W x ops Q rest H (.row v' e (aF.sz α) ([]:List α).length I::M) ((d,v')::L)):
  W x ops Q (⟨some d,.buildSlice T 0 #[],ty,pos,aft,g⟩::rest) H M L:=by
 refine s8 rfl Z hN λa w hsl ht=>?_;have J:∀ c w,(newRow e c).run x.P w=.ok ⟨w.heap.size,0,none⟩ (w.alloc (.cells c e)):=λc w=>by
  simp only [newRow,newObj,R4,Sb,Sem.run,RX,World.alloc]
 refine ⟨.slice (some ⟨w.heap.size,0,none⟩) 0 0,_,?_,H,_,St.newRow (α:=α) (cells:=[]) (l:=[]) (e:=e) ht rfl (by unfold maxLen; simp),k _ _ ⟨rfl,_,_,_,rfl⟩⟩
 simp only [execOp,Instr.buildSlice,R4,Y,hs,RX,Tm,Nat.not_lt_zero,gt_iff_lt,T5,Vz,Sb];simp [Instr.fill,J,Array.range]
end
def fQ (s:RI):List U8:=s.data.toList.map λb=>⟨b.toNat⟩
section
variable {x:Cx}{ops:Array Oper}{Q:lU}{rest:List Oper}{H:Hp}{M M':List bN}{L L':Env}
variable {d:Nat}{ty:TypeId}{pos:String}{aft:Array Edge}{g:Option (Nat×Bool)}
def tP (s:RI) (cap:Nat):Array RJ:=s.data.map (λb:UInt8=>Value.int .u8 b.toNat)++Array.replicate (cap-s.size) (Value.int .u8 0)
theorem En (w:World) (c:Array RJ) (e:TypeId):(w.alloc (.cells c e)).freeze ⟨w.heap.size,c.size,none⟩ 1=w.alloc (.cells c e (c.size,c.size+1)):=by
 have key:∀ (f:Obj->Obj),f (.cells c e)=.cells c e (c.size,c.size+1)->(w.heap.push (.cells c e)).modify w.heap.size f=w.heap.push (.cells c e (c.size,c.size+1)):=by
  intro f I;apply Array.ext_getElem?;intro i;rw [V8,Array.getElem?_push,Array.getElem?_push]
  by_cases h:w.heap.size=i
  ·subst h; simp [I]
  ·rw [RS h,RS (λq=>h q.symm),RS (λq=>h q.symm)]
 unfold World.freeze;rw [RS (by omega)]
 show ({ w with heap:=(w.heap.push (.cells c e)).modify w.heap.size _ }:World)={ w with heap:=w.heap.push (.cells c e (c.size,c.size+1)) }
 rw [key _ (by simp)]
theorem zp (s:RI):(fQ s).length=s.size:=by unfold fQ; rw [TL,Array.length_toList]; rfl
theorem Ao {P:Program}{w:World}{e:TypeId}{s:RI}:
  (Conv.stringToBytes e s).run P w=.ok (.slice (some ⟨w.heap.size,0,none⟩) s.size (grownCap w s.size 0 e))
   (w.drew.alloc (.cells (tP s (grownCap w s.size 0 e)) e ((tP s (grownCap w s.size 0 e)).size,(tP s (grownCap w s.size 0 e)).size+1))):=by
 have I:(choose (.appendCap s.size 0 e)).run P w=.ok (grownCap w s.size 0 e) w.drew:=by
  simp only [choose,Sem.run,Question.forced,Tr,T5]; rfl
 have Y:∀ (c:Array RJ) (w:World),(newRow e c).run P w=.ok ⟨w.heap.size,0,none⟩ (w.alloc (.cells c e)):=λc w=>by
  simp only [newRow,newObj,R4,Sb,Sem.run,RX,World.alloc]
 have J:∀ (c:Array RJ) (w:World),(markStringish ⟨w.heap.size,0,none⟩).run P (w.alloc (.cells c e))=.ok () (w.alloc (.cells c e (c.size,c.size+1))):=λc w=>by
  have Z:(w.alloc (.cells c e)).shape? w.heap.size=some (e,c.size):=by
   have:(w.alloc (.cells c e)).heap[w.heap.size]? = some (.cells c e):=VW w _;simp only [World.shape?,this]
  simp only [markStringish,shape,R4,Sem.run,Z,RX,Go.freeze,En]
 simp only [Conv.stringToBytes,R4,I,RX,Y];have:=J (tP s (grownCap w s.size 0 e)) w.drew;simp only [tP] at this ⊢;rw [show (w.drew.heap.size)=w.heap.size from rfl] at this ⊢;rw [this]
 rfl
theorem wm {t u e:TypeId}{y:Operand}{s:RI} (hg:gd ops L ⟨some d,.convert t u y,ty,pos,aft,g⟩=some true) (hN:Nat.blt d x.N=true)
  (ht:∀ w,(underlying t).run x.P w=.ok .string w) (hu:∀ w,(underlying u).run x.P w=.ok (.slice e) w) (he:∀ w,(underlying e).run x.P w=.ok (.int .u8) w)
  (hy:ev L y=some (.string s)) (hs:s.size<=maxLen)
  (k:∀ v H',H.le H'->aP H' v (fQ s)->W x ops Q rest H' M ((d,v)::L)):
  W x ops Q (⟨some d,.convert t u y,ty,pos,aft,g⟩::rest) H M L:=by
 refine s8 rfl hg hN λa w hsl h=>?_;have Z:=Wy w s.size 0 e;have Y:grownCap w s.size 0 e<=maxLen:=VP w s.size 0 e hs;have h':St x.B x.w0 H M w.drew:=h.drewN (w.drawn+1);generalize J:grownCap w s.size 0 e=cap at Z Y;have ha:=(h'.alloc (.cells (tP s cap) e ((tP s cap).size,(tP s cap).size+1))).freeze;refine ⟨.slice (some ⟨w.heap.size,0,none⟩) s.size cap,w.drew.alloc (.cells (tP s cap) e ((tP s cap).size,(tP s cap).size+1)),?_,_,M,ha.2,k _ _ ha.1 (.inr ⟨w.heap.size,0,cap,_,e,_,?_,?_,Y,Hp.ym _ _ _,?_,?_⟩)⟩
 ·have hr:=Ao (P:=x.P) (w:=w) (e:=e) (s:=s)
  rw [J] at hr;simp only [execOp,hsl.ev hy,convert,R4,ht,hu,he,RX,hr,Sb]
 ·rw [zp]
 ·rw [zp]; exact Z
 ·have e0:s.size=s.data.size:=rfl
  simp [aF.sz,tP];omega
 ·intro j el I
  refine ⟨[.int .u8 el.n],rfl,λi c hc=>?_⟩;have hi:i=0:=by
   have:=(RP.1 hc).1;simp at this; omega
  subst hi;simp at hc; subst hc
  have hj:=(RP.1 I).1;simp [fQ] at I hj;obtain ⟨b,hb,rfl⟩:=I;simp only [aF.sz,Se,Ud,Tl,tP];rw [Array.getElem?_append_left (by simpa using hj),Array.getElem?_map,hb]
  rfl
theorem EP {P:Program}{w:World}{t e:TypeId}{o:Option Addr}{n c:Nat} (I:∀ w,(underlying t).run P w=.ok (.slice e) w):(Op.equal t (.slice o n c) (.slice none 0 0)).run P w=.ok o.isNone w:=by
 have key:∀ k,(Op.equalIn (k+1) t (.slice o n c) (.slice none 0 0)).run P w=.ok o.isNone w:=λk=>by
  unfold Op.equalIn;cases o <;> simp [I]
 exact key 9999
theorem su {t e u:TypeId}{y z:Operand}{o:Option Addr}{n c:Nat} (J:gd ops L ⟨some d,.binOp .eql t y z u,ty,pos,aft,g⟩=some true) (hN:Nat.blt d x.N=true)
  (I:∀ w,(underlying t).run x.P w=.ok (.slice e) w) (Y:ev L y=some (.slice o n c)) (Z:ev L z=some (.slice none 0 0))
  (k:W x ops Q rest H M ((d,.bool o.isNone)::L)):
  W x ops Q (⟨some d,.binOp .eql t y z u,ty,pos,aft,g⟩::rest) H M L:=
 eQ rfl J hN (λa w hs _=>by
  simp only [execOp,hs.ev Y,hs.ev Z,R4,eqGuard,binOp,EP I,RX,Sb]
  rfl) k
end
section
variable {B:Nat}{w0 w:World}{H:Hp}{M:List bN}
theorem St.lx {α:Type}[aF α] {v:RJ}{T:TypeId}{n:Nat}{xs:List RJ}{ys:List α}
  (h:St B w0 H (.row v T (aF.sz α) n xs::M) w) (hx:Rw H v xs ys) (hs:Nat.blt 0 (aF.sz α)=true):
  ∃ H',H.le H'/\St B w0 H' M w/\aP H' v ys/\∀ M' w',St B w0 H' M' w'->St B w0 H (.row v T (aF.sz α) n xs::M') w':=by
 have hs':0<aF.sz α:=by simpa [SY] using hs
 have hok:=h.ok _ (RR ..);have hlo:=h.lo _ (RR ..);obtain ⟨hl,hh⟩:=hok;have hn:n=ys.length:=by
  have:=hx.rd.len;rw [hl] at this;exact Ty hs' this
 subst hn;rcases hh with ⟨rfl,h0⟩ | ⟨g,off,cap,Y,rfl,hg,hnc,hcm,hcs,J⟩
 ·refine ⟨H,SN _,h.tail,.inl ⟨⟨_,rfl⟩,Sg h0⟩,λM' w' h'=>?_⟩
  have hx0:xs=[]:=Sg (by rw [hl,h0,Tm])
  rw [h0,hx0];exact h'.CC T _
 ·have h':St B w0 H (.obj g (.cells Y T (0,0))::M) w:=by
   refine ⟨h.below,h.le,h.vp,?_,?_,h.nd⟩
   ·intro r I
    rcases SA.1 I with rfl | I
    ·exact hg
    ·exact h.tail.ok r I
   ·intro r I
    rcases SA.1 I with rfl | I
    ·exact hlo
    ·exact h.tail.lo r I
  obtain ⟨Z,hst⟩:=h'.freeze;refine ⟨_,Z,hst,.inr ⟨g,off,cap,Y,T,(0,0),rfl,hnc,hcm,Hp.ym _ _ _,hcs,?_⟩,λM' w' hb=>?_⟩
  ·intro k e he
   obtain ⟨c,h1,h2⟩:=(hx.rd.mono Z).get k e he;refine ⟨c,h1,λj d hd=>?_⟩;have:=h2 j d hd;rw [<- J,SG] at this
   split at this
   ·rw [SB] at this; simpa [Uc] using this
   ·cases this
  ·have ht:=St.QH (H:=H) hb (hlo g (List.Mem.head _)).1 Z (hlo g (List.Mem.head _)).2 (Hp.ym _ _ _)
   refine ⟨ht.below,ht.le,ht.vp,?_,?_,ht.nd⟩
   ·intro r I
    rcases SA.1 I with rfl | I
    ·exact ⟨hl,.inr ⟨g,off,cap,Y,rfl,ht.ok _ (RR ..),hnc,hcm,hcs,J⟩⟩
    ·exact ht.tail.ok r I
   ·intro r I
    rcases SA.1 I with rfl | I
    ·exact ht.lo (.obj g _) (RR ..)
    ·exact ht.tail.lo r I
theorem gC {P:Program}{f:FuncId}{args:Array RJ}{Y:Hp}{r:bN}{φ:List bN->RJ->Prop}
  (I:∀ M' J,St B w0 Y M' J->St B w0 H (r::M') J) (h:Calls P f args w (uX B w0 λH' M' v=>Y=H'/\φ M' v)):
  Calls P f args w (uX B w0 λH' M' v=>H=H'/\∃ Z,r::Z=M'/\φ Z v):=
 h.mono λe J he=>by
  cases e with
  | returned v=>
   obtain ⟨H2,M',h1,h2,h3⟩:=he;subst h2;exact ⟨H,r::M',I M' J h1,rfl,M',rfl,h3⟩
  | panicked c=>exact he
  | outgrown=>exact he
end
section
variable {x:Cx}{ops:Array Oper}{Q:lU}{rest:List Oper}{H:Hp}{M M':List bN}{L L':Env}
variable {d:Nat}{ty:TypeId}{pos:String}{aft:Array Edge}{g:Option (Nat×Bool)}
theorem BR {J:Fn}{first I:List Operand}{vs cs:List RJ} (Z:gd ops L ⟨some d,.makeFunc J first.toArray I.toArray,ty,pos,aft,g⟩=some true) (hN:Nat.blt d x.N=true)
  (hv:zw L first=some vs) (Y:zw L I=some cs) (k:W x ops Q rest H M ((d,.func J vs.toArray cs.toArray)::L)):
  W x ops Q (⟨some d,.makeFunc J first.toArray I.toArray,ty,pos,aft,g⟩::rest) H M L:=
 eQ rfl Z hN (λa w hs _=>by simp [execOp,Instr.makeFunc,hs.zw hv,hs.zw Y]) k
theorem oh {d:Nat}{y:Operand}{f:FuncId}{args:List Operand}{Y:Array TypeId}{vs fs cs:List RJ}
  {Z:Hp->List bN->RJ->Prop}
  (J:∀ as w,(callFunc f as).run x.P w=.ok (.enter f as) w)
  (hg:gd ops L ⟨some d,.call ⟨.value y,args.toArray,Y⟩,ty,pos,aft,g⟩=some true) (hN:Nat.blt d x.N=true)
  (hy:ev L y=some (.func (.func f) fs.toArray cs.toArray)) (hv:zw L args=some vs)
  (hc:∀ w,St x.B x.w0 H M w->Calls x.P f (fs++vs++cs).toArray w (uX x.B x.w0 Z))
  (k:∀ v H' M',Z H' M' v->W x ops Q rest H' M' ((d,v)::L)):
  W x ops Q (⟨some d,.call ⟨.value y,args.toArray,Y⟩,ty,pos,aft,g⟩::rest) H M L:=by
 intro a w hs ht;refine VB λK hK=>?_;rw [RU (hs.gd hg)];have I:args.toArray.map a.eval=vs.toArray:=by simp [hs.zw hv]
 have hr:(execOp a.eval ⟨some d,.call ⟨.value y,args.toArray,Y⟩,ty,pos,aft,g⟩).run x.P w=.ok (.enter f (fs++vs++cs).toArray) w:=by
  simp only [execOp,resolve,I,hs.ev hy,Deferred.ofValue,R4,Sb,RX,invoke];simp [J]
 unfold Oper.wp;rw [hr];simp only [Oper.upon];refine (hc w ht).mono λe w' he=>?_;cases e with
 | returned v=>
  obtain ⟨H',M',h1,h2⟩:=he;exact hK _ _ (k v H' M' h2 _ _ (hs.put hN) h1)
 | panicked c=>exact he.elim
 | outgrown=>exact he.elim
def uF (k:IntKind) (a b:Int):Int:=k.wrap (a*2 ^ (min b.toNat k.bits))
def mG (k:IntKind) (a b:Int):Int:=a.fdiv (2 ^ (min b.toNat k.bits))
theorem Fe {t u:TypeId}{y z:Operand}{k Z:IntKind}{a b:Int} (I:gd ops L ⟨some d,.binOp .shl t y z u,ty,pos,aft,g⟩=some true) (hN:Nat.blt d x.N=true)
  (J:ev L y=some (.int k a)) (Y:ev L z=some (.int Z b)) (hb:0<=b) (kk:W x ops Q rest H M ((d,.int k (uF k a b))::L)):
  W x ops Q (⟨some d,.binOp .shl t y z u,ty,pos,aft,g⟩::rest) H M L:=
 eQ rfl I hN (λc w hs _=>by
  have:¬ b<0:=by omega
  simp [execOp,hs.ev J,hs.ev Y,eqGuard,binOp,Op.shift,this,uF]) kk
theorem rV {t u:TypeId}{y z:Operand}{k Z:IntKind}{a b:Int} (I:gd ops L ⟨some d,.binOp .shr t y z u,ty,pos,aft,g⟩=some true) (hN:Nat.blt d x.N=true)
  (J:ev L y=some (.int k a)) (Y:ev L z=some (.int Z b)) (hb:0<=b) (kk:W x ops Q rest H M ((d,.int k (mG k a b))::L)):
  W x ops Q (⟨some d,.binOp .shr t y z u,ty,pos,aft,g⟩::rest) H M L:=
 eQ rfl I hN (λc w hs _=>by
  have:¬ b<0:=by omega
  simp [execOp,hs.ev J,hs.ev Y,eqGuard,binOp,Op.shift,this,mG]) kk
theorem rK {t u:TypeId}{y:Operand}{k I:IntKind}{n:Int} (J:gd ops L ⟨some d,.convert t u y,ty,pos,aft,g⟩=some true) (hN:Nat.blt d x.N=true)
  (ht:∀ w,(underlying t).run x.P w=.ok (.int I) w) (Y:∀ w,(underlying u).run x.P w=.ok (.int k) w) (Z:ev L y=some (.int I n))
  (kk:W x ops Q rest H M ((d,.int k (k.wrap n))::L)):
  W x ops Q (⟨some d,.convert t u y,ty,pos,aft,g⟩::rest) H M L:=
 eQ rfl J hN (λc w hs _=>by simp [execOp,hs.ev Z,convert,ht,Y,Conv.intToInt]) kk
theorem nf {t u:TypeId}{y z:Operand}{a b:RI} (J:gd ops L ⟨some d,.binOp .add t y z u,ty,pos,aft,g⟩=some true) (hN:Nat.blt d x.N=true)
  (Y:ev L y=some (.string a)) (Z:ev L z=some (.string b)) (I:a.size+b.size<=maxLen) (kk:W x ops Q rest H M ((d,.string (a++b))::L)):
  W x ops Q (⟨some d,.binOp .add t y z u,ty,pos,aft,g⟩::rest) H M L:=
 eQ rfl J hN (λc w hs _=>by
  have:¬ (((a.size+b.size:Nat):Int) > i64.max):=by
   simp only [IntKind.max,IntKind.signed,IntKind.bits]; unfold maxLen at I; simp; omega
  simp only [execOp,hs.ev Y,hs.ev Z,eqGuard,binOp,Op.stringOp,R4];simp only [RS this];simp) kk
theorem GC {s:RI}{k:Nat}{c:U8} (h:(fQ s)[k]? = some c):∃ b:UInt8,s[k]? = some b/\c=⟨b.toNat⟩:=by
 simp only [fQ,Sq,Vi] at h;obtain ⟨b,J,rfl⟩:=h;refine ⟨b,?_,rfl⟩;obtain ⟨Y,e⟩:=RP.1 J;have I:k<s.size:=by simpa using Y
 rw [getElem?_pos s k I];rw [<- e]; rfl
theorem qi {t:TypeId}{y z:Operand}{s:RI}{kk:IntKind}{i:Int}{c:U8} (Z:gd ops L ⟨some d,.index t y z,ty,pos,aft,g⟩=some true) (hN:Nat.blt d x.N=true)
  (J:∀ w,(underlying t).run x.P w=.ok .string w) (hy:ev L y=some (.string s)) (hz:ev L z=some (.int kk i)) (I:0<=i) (he:(fQ s)[i.toNat]? = some c)
  (k:W x ops Q rest H M ((d,.int .u8 c.n)::L)):
  W x ops Q (⟨some d,.index t y z,ty,pos,aft,g⟩::rest) H M L:=
 eQ rfl Z hN (λa w hs _=>by
  obtain ⟨b,Y,rfl⟩:=GC he;simp [execOp,hs.ev hy,hs.ev hz,Instr.index,asIntOf,J,I,Y]) k
theorem nU {t:TypeId}{y:Operand}{lo hi:Option Operand}{s:RI}{l h:Nat} (hg:gd ops L ⟨some d,.slice t y lo hi none,ty,pos,aft,g⟩=some true) (hN:Nat.blt d x.N=true)
  (Z:∀ w,(underlying t).run x.P w=.ok .string w)
  (hy:ev L y=some (.string s)) (hh:Hv L hi s.size s.size h) (hl:Hv L lo 0 h l)
  (k:W x ops Q rest H M ((d,.string (s.extract l h))::L)):
  W x ops Q (⟨some d,.slice t y lo hi none,ty,pos,aft,g⟩::rest) H M L:=
 eQ rfl hg hN (λa w hs _=>by
  have hb:(Instr.sliceBounds false s.size s.size (lo.map a.eval) (hi.map a.eval) none).run x.P w=.ok (l,h,s.size) w:=by
   rcases hh.bd hs with ⟨e1,rfl⟩ | ⟨kh,ih,e1,J,Y,rfl⟩
   ·rcases hl.bd hs with ⟨e2,rfl⟩ | ⟨kl,il,e2,I,l1,rfl⟩
    ·simp only [e1,e2,Instr.sliceBounds,R4,Sb,RX]
    ·simp only [e1,e2,Instr.sliceBounds,R4,Sb,RX,run_sliceBound I l1]
   ·rcases hl.bd hs with ⟨e2,rfl⟩ | ⟨kl,il,e2,I,l1,rfl⟩
    ·simp only [e1,e2,Instr.sliceBounds,R4,Sb,RX,run_sliceBound J Y]
    ·simp only [e1,e2,Instr.sliceBounds,R4,Sb,RX,run_sliceBound J Y,run_sliceBound I l1]
  simp only [execOp,hs.ev hy,Instr.sliceAt,R4,Z,RX,Instr.slice,UM,Option.isSome_none,Tr,T5,hb,Sb]) k
end
class MV (α:Type) where
 mv:α->RJ
instance:MV Int:=⟨λn=>.int .i64 n⟩
instance:MV Bool:=⟨λb=>.bool b⟩
instance:MV RI:=⟨λs=>.string s⟩
class xU (α:Type) [DecidableEq α] extends MV α where
 kind:TypeDesc
 same:∀ a b:α,Instr.sameNow kind (mv a) (mv b)=some (decide (a=b))
 bits:∀ a:α,Instr.sameBits 10000 (mv a) (mv a)=true
 check:∀ (P:Program) (t:TypeId) (e:Bool) (a:α) (w:World),(∀ w,(underlying t).run P w=.ok kind w)->(Instr.checkKey e 10000 t (mv a)).run P w=.ok () w
theorem HK (s t:RI):(s == t)=decide (s=t):=by
 have h:(s == t)=(s.data == t.data):=rfl;rw [h,Bool.eq_iff_iff];simp only [beq_iff_eq,Sy];exact ⟨λe=>ByteArray.ext e,λe=>by rw [e]⟩
instance:xU Int where
 kind:=.int .i64
 same a b:=by simp [Instr.sameNow,HV,MV.mv]
 bits a:=by simp [Instr.sameBits,MV.mv]
 check P t e a w h:=by
  have key:∀ k,(Instr.checkKey e (k+1) t (.int .i64 a)).run P w=.ok () w:=λk=>by unfold Instr.checkKey; simp [h]
  exact key 9999
instance:xU RI where
 kind:=.string
 same a b:=by simp [Instr.sameNow,HK,MV.mv]
 bits a:=by simp [Instr.sameBits,MV.mv,HK]
 check P t e a w h:=by
  have key:∀ k,(Instr.checkKey e (k+1) t (.string a)).run P w=.ok () w:=λk=>by unfold Instr.checkKey; simp [h]
  exact key 9999
section
variable {κ ν:Type}[DecidableEq κ] [xU κ] [MV ν]
structure s6 (es:Array MapEntry) (c:Nat) (l:List (κ×ν)):Prop where
 eq:es.toList.map (λe=>(e.key,e.val))=l.map λp=>(MV.mv p.1,MV.mv p.2)
 nd:(es.toList.map (·.born)).Nodup
 lt:∀ e ∈ es.toList,e.born<c
def xn:List (κ×ν)->κ->Nat->Option (Nat×ν)
 | [],_,_=>none
 | (a,v)::r,k,i=>if a=k then some (i,v) else xn r k (i+1)
def sf (l:List (κ×ν)) (k:κ):Option ν:=(xn l k 0).map (·.2)
def wh (l:List (κ×ν)) (k:κ) (v:ν):List (κ×ν):=match xn l k 0 with
 | some (i,_)=>l.set i (k,v)
 | none=>l++[(k,v)]
theorem s6.nil:s6 #[] 0 ([]:List (κ×ν)):=⟨rfl,by simp,by simp⟩
theorem Cc (k:κ):∀ (es:List MapEntry) (l:List (κ×ν)) (i:Nat),es.map (λe=>(e.key,e.val))=l.map (λp=>(MV.mv p.1,MV.mv p.2)) ->
  Instr.findNow (xU.kind κ) (MV.mv k) es i=some ((xn l k i).map λp=>(p.1,MV.mv p.2))
 | [],[],i,_=>rfl
 | [],_::_,i,h=>by simp at h
 | _::_,[],i,h=>by simp at h
 | e::es,(a,v)::l,i,h=>by
  simp only [TT,VD,Ue] at h;obtain ⟨⟨J,Y⟩,Z⟩:=h;unfold Instr.findNow;rw [J,xU.same]
  by_cases I:k=a
  ·subst I; simp [xn,Y]
  ·simp only [I,Wh,xn,RS (λe:a=k=>I e.symm)]
   exact Cc k es l (i+1) Z
theorem run_findKey {P:Program}{w:World}{t:TypeId}{k:κ}{es:Array MapEntry}{c:Nat}{l:List (κ×ν)} (h:s6 es c l) (I:∀ w,(underlying t).run P w=.ok (xU.kind κ) w):
  (Instr.findKey t (MV.mv k) es.toList).run P w=.ok ((xn l k 0).map λp=>(p.1,MV.mv p.2)) w:=by
 simp only [Instr.findKey,R4,I,RX,Cc k es.toList l 0 h.eq,Sb]
theorem G3:∀ {l:List (κ×ν)}{k:κ}{i j:Nat}{v:ν},xn l k i=some (j,v)->i<=j/\j<i+l.length/\l[j-i]? = some (k,v)
 | [],k,i,j,v,h=>by simp [xn] at h
 | (a,u)::l,k,i,j,v,h=>by
  unfold xn at h
  split at h
  ·rename_i e; subst e
   simp only [Sa,Ue] at h;obtain ⟨rfl,rfl⟩:=h;simp
  ·obtain ⟨J,Y,I⟩:=G3 h
   refine ⟨by omega,by simp; omega,?_⟩
   rw [show j-i=(j-(i+1))+1 by omega,List.getElem?_cons_succ]; exact I
end
section
variable {x:Cx}{ops:Array Oper}{Q:lU}{rest:List Oper}{H:Hp}{M M':List bN}{L L':Env}
variable {d:Nat}{ty:TypeId}{pos:String}{aft:Array Edge}{g:Option (Nat×Bool)}
variable {κ ν:Type}[DecidableEq κ] [xU κ] [MV ν]
theorem Az {t:TypeId} (I:gd ops L ⟨some d,.makeMap t none,ty,pos,aft,g⟩=some true) (hN:Nat.blt d x.N=true)
  (k:∀ b,W x ops Q rest H (.obj b (.map #[] 0)::M) ((d,.map (some b))::L)):
  W x ops Q (⟨some d,.makeMap t none,ty,pos,aft,g⟩::rest) H M L:=
 s8 rfl I hN (λc w hs ht=>⟨_,w.alloc (.map #[] 0),by
  simp only [execOp,Instr.makeMap,UM,newObj,R4,Sb,Sem.run,RX,World.alloc],_,_,ht.alloc _,k _⟩)
theorem xL {P:Program}{w:World}{b:Nat}{es:Array MapEntry}{c:Nat} (h:w.heap[b]? = some (.map es c)):(getObj b).run P w=.ok (.map es c) w:=by
 simp [getObj,Sem.run,h]
theorem Hl {P:Program}{w:World}{t key e:TypeId}{b c:Nat}{es:Array MapEntry}{l:List (κ×ν)}{k:κ}{z:ν}{ok:Bool} (Y:w.heap[b]? = some (.map es c)) (h:s6 es c l)
  (J:∀ w,(underlying t).run P w=.ok (.map key e) w) (I:∀ w,(underlying key).run P w=.ok (xU.kind κ) w) (Z:∀ w,(zeroValue e).run P w=.ok (MV.mv z) w):
  (Instr.lookup t (.map (some b)) (MV.mv k) ok).run P w=.ok (if ok then .tuple #[MV.mv ((sf l k).getD z),.bool (sf l k).isSome] else MV.mv ((sf l k).getD z)) w:=by
 simp only [Instr.lookup,R4,J,RX,xL Y,Sb,xU.check P key _ k w I,run_findKey h I];unfold sf;cases O:xn l k 0 with
 | none=>simp only [UM,R4,Z,RX,Sb]; rfl
 | some p=>simp only [Td,Sb,RX]; rfl
theorem BQ {t key e:TypeId}{b c:Nat}{y u:Operand}{es:Array MapEntry}{l:List (κ×ν)}{k:κ}{z:ν}{J v:RJ} (O:bN.obj b (.map es c) ∈ M) (h:s6 es c l)
  (hg:gd ops L ⟨some d,.lookup t y u false,ty,pos,aft,g⟩=some true) (hN:Nat.blt d x.N=true)
  (Z:∀ w,(underlying t).run x.P w=.ok (.map key e) w) (Y:∀ w,(underlying key).run x.P w=.ok (xU.kind κ) w) (hz:∀ w,(zeroValue e).run x.P w=.ok (MV.mv z) w)
  (hy:ev L y=some (.map (some b))) (hu:ev L u=some J) (I:J=MV.mv k) (hv:MV.mv ((sf l k).getD z)=v)
  (kk:W x ops Q rest H M ((d,v)::L)):
  W x ops Q (⟨some d,.lookup t y u false,ty,pos,aft,g⟩::rest) H M L:=
 eQ rfl hg hN (λa w hs ht=>by
  subst I; subst hv
  simp only [execOp,hs.ev hy,hs.ev hu,R4,Hl (ok:=false) (ht.wR O) h Z Y hz,RX,Sb]; rfl) kk
theorem yp (w:World) (b:Nat) (o:Obj):w.grownBy { w with heap:=w.heap.setIfInBounds b o } (some b):=
 ⟨rfl,rfl,rfl,by simp,λk _ I=>by
  simp only [Vl];rw [RS (λe=>I (by rw [e]))]⟩
theorem yj {t key e:TypeId}{b c:Nat}{y u q:Operand}{es:Array MapEntry}{l:List (κ×ν)}{k:κ}{v:ν}{vk vv:RJ} (h:s6 es c l)
  (hg:gd ops L ⟨none,.mapUpdate t y u q,ty,pos,aft,g⟩=some true)
  (hT:∀ w,(underlying t).run x.P w=.ok (.map key e) w) (hK:∀ w,(underlying key).run x.P w=.ok (xU.kind κ) w)
  (hy:ev L y=some (.map (some b))) (hu:ev L u=some vk) (hvk:vk=MV.mv k) (hq:ev L q=some vv) (hvv:vv=MV.mv v)
  (kk:∀ I J,s6 I J (wh l k v)->W x ops Q rest H (.obj b (.map I J)::M) L):
  W x ops Q (⟨none,.mapUpdate t y u q,ty,pos,aft,g⟩::rest) H (.obj b (.map es c)::M) L:=
 D1 rfl hg (λa w hs ht=>by
  subst hvk; subst hvv
  have hb:=ht.wR (RR ..);have hlt:b<w.heap.size:=(Tc.1 hb).1;have Z:∀ o,(setObj b o).run x.P w=.ok () { w with heap:=w.heap.setIfInBounds b o }:=λo=>by simp [setObj,Sem.run,hb]
  have fin:∀ I J,s6 I J (wh l k v)->∃ H' M',St x.B x.w0 H' M' { w with heap:=w.heap.setIfInBounds b (.map I J) }/\W x ops Q rest H' M' L:=λI J hr=>
   ⟨H,_,ht.E1 (r':=.obj b (.map I J)) (yp w b _) (by simp [bN.ok,hlt]) (λ_ hc=>.inl hc),kk I J hr⟩
  have hlen:es.size=l.length:=by have:=R7 List.length h.eq; simpa using this
  cases O:xn l k 0 with
  | none=>
   refine ⟨_,?_,fin (es.push { key:=MV.mv k,val:=MV.mv v,born:=c }) (c+1) ?_⟩
   ·simp only [execOp,hs.ev hy,hs.ev hu,hs.ev hq,Instr.mapUpdate,R4,hT,RX,xL hb,xU.check x.P key _ k w hK,run_findKey h hK,O,UM,Z,Sb]
   ·refine ⟨?_,?_,λe he=>?_⟩
    ·unfold wh
     rw [O];simp only [Array.toList_push,Tb,TT,VK];rw [show es.toList.map _=_ from h.eq]
    ·simp only [Array.toList_push,Tb,TT,VK]
     rw [SM];refine ⟨h.nd,by simp,λa ha b hb e=>?_⟩
     simp at hb; subst hb; subst e
     obtain ⟨y,hy,rfl⟩:=SC.1 ha;exact Nat.lt_irrefl _ (h.lt y hy)
    ·simp only [Array.toList_push,RZ,R_] at he
     rcases he with he | rfl
     ·exact Nat.lt_succ_of_lt (h.lt e he)
     ·exact Tq _
  | some p=>
   obtain ⟨i,u0⟩:=p;obtain ⟨_,hi,Y⟩:=G3 O;simp only [Se,UI] at hi Y;have hi':i<es.size:=by omega
   have hkey:es[i].key=MV.mv k:=by
    have h1:(es.toList.map λe=>(e.key,e.val))[i]? = some (MV.mv k,MV.mv u0):=by rw [show es.toList.map _=_ from h.eq,Sq,Y]; rfl
    rw [Sq] at h1;simp [hi'] at h1;exact h1.1
   refine ⟨_,?_,fin (es.modify i λe=>{ e with key:=MV.mv k,val:=MV.mv v }) c ?_⟩
   ·have hg2:((es[i]?).map (·.key)).getD (MV.mv k)=MV.mv k:=by simp [hi',hkey]
    simp only [execOp,hs.ev hy,hs.ev hu,hs.ev hq,Instr.mapUpdate,R4,hT,RX,xL hb,xU.check x.P key _ k w hK,run_findKey h hK,O,Td,hg2,Instr.keyThatStays,xU.bits,Vz,Z,Sb]
   ·have hbn:(es.modify i λe=>{ e with key:=MV.mv k,val:=MV.mv v }).toList.map (·.born)=es.toList.map (·.born):=by
     simp only [Array.toList_modify];apply Tz;intro j;rw [Sq,Sq,List.getElem?_modify]
     by_cases e:i=j
     ·subst e; cases es.toList[i]? <;> simp
     ·simp [RS e]
    refine ⟨?_,by rw [hbn]; exact h.nd,λe he=>?_⟩
    rotate_left
    ·have h1:e.born ∈ es.toList.map (·.born):=by rw [<- hbn]; exact SC.2 ⟨e,he,rfl⟩
     obtain ⟨y,hy,hyb⟩:=SC.1 h1;rw [<- hyb]; exact h.lt y hy
    unfold wh;rw [O];simp only [Array.toList_modify];apply Tz;intro j;rw [Sq,Sq,List.getElem?_modify,Vk];have hj:(es.toList.map λe=>(e.key,e.val))[j]? = (l.map λp=>(MV.mv p.1,MV.mv p.2))[j]? := by rw [show es.toList.map _=_ from h.eq]
    rw [Sq,Sq] at hj
    by_cases e:i=j
    ·subst e
     simp [hi',hi]
    ·simp only [RS e]
     simpa using hj)
end
section
variable {x:Cx}{ops:Array Oper}{Q:lU}{rest:List Oper}{H:Hp}{M M':List bN}{L L':Env}
variable {d:Nat}{ty:TypeId}{pos:String}{aft:Array Edge}{g:Option (Nat×Bool)}
theorem s7 {t:TypeId}{y:Operand}{f:Nat}{cs:List RJ}{v:RJ}{fs:Array Field}{I:Field} (Z:gd ops L ⟨some d,.field t y f,ty,pos,aft,g⟩=some true) (hN:Nat.blt d x.N=true)
  (J:∀ w,(underlying t).run x.P w=.ok (.struct fs) w) (Y:fs[f]? = some I) (hA:∀ w,(isAgg I.type).run x.P w=.ok false w)
  (hy:ev L y=some (.agg cs.toArray)) (hv:cs[I.offset]? = some v) (k:W x ops Q rest H M ((d,v)::L)):
  W x ops Q (⟨some d,.field t y f,ty,pos,aft,g⟩::rest) H M L:=
 eQ rfl Z hN (λa w hs ht=>by simp [execOp,hs.ev hy,Instr.field,J,Y,asAgg,part,hA,hv]) k
theorem J2 {t e:TypeId}{y z:Operand}{n sz:Nat}{cs:List RJ}{v:RJ}{kk:IntKind}{i:Int} (Z:gd ops L ⟨some d,.index t y z,ty,pos,aft,g⟩=some true) (hN:Nat.blt d x.N=true)
  (Y:∀ w,(underlying t).run x.P w=.ok (.array n e) w) (hA:∀ w,(isAgg e).run x.P w=.ok false w) (hn:∀ w,(sizeOf e).run x.P w=.ok sz w)
  (hy:ev L y=some (.agg cs.toArray)) (hz:ev L z=some (.int kk i)) (J:0<=i) (h1:i.toNat<n) (hv:cs[i.toNat*sz]? = some v) (k:W x ops Q rest H M ((d,v)::L)):
  W x ops Q (⟨some d,.index t y z,ty,pos,aft,g⟩::rest) H M L:=
 eQ rfl Z hN (λa w hs ht=>by
  have I:i<(n:Int):=by omega
  simp [execOp,hs.ev hy,hs.ev hz,Instr.index,asIntOf,Y,J,I,hn,part,hA,hv]) k
theorem BL {α:Type}[aF α] {T:TypeId}{z:RJ}{cs:List RJ}{l:List α}{n:Nat} (Y:gd ops L ⟨some d,.alloc T,ty,pos,aft,g⟩=some true) (hN:Nat.blt d x.N=true)
  (Z:∀ w,(zeroValue T).run x.P w=.ok z w) (I:z.cells=cs.toArray) (J:pX H cs l) (hl:l.length=n) (O:Nat.ble n 16777216=true)
  (k:∀ v,Rw H v cs l->W x ops Q rest H (.row v T (aF.sz α) l.length cs::M) ((d,.pointer (some (Value.base v)))::L)):
  W x ops Q (⟨some d,.alloc T,ty,pos,aft,g⟩::rest) H M L:=
 s8 rfl Y hN (λc w hs ht=>⟨.pointer (some ⟨w.heap.size,0,none⟩),w.alloc (.cells cs.toArray T),by
  simp only [execOp,Instr.alloc,Z,newVar,newRow,newObj,R4,Sb,Sem.run,RX,I,World.alloc],_,_,
  St.newRow (e:=T) ht J (by unfold maxLen; have:n<=16777216:=(by simpa [Uh] using O); omega),k (.slice (some ⟨w.heap.size,0,none⟩) l.length l.length) ⟨J,_,_,_,rfl⟩⟩)
theorem vA {v:RJ}{T:TypeId}{sz n m:Nat}{xs:List RJ}{t e:TypeId}{y z:Operand}{kk:IntKind}{i:Int} (O:bN.row v T sz n xs ∈ M)
  (hg:gd ops L ⟨some d,.indexAddr t y z,ty,pos,aft,g⟩=some true) (hN:Nat.blt d x.N=true)
  (hT:∀ w,(underlying t).run x.P w=.ok (.array m e) w) (hs:∀ w,(sizeOf e).run x.P w=.ok sz w) (Y:n=m)
  (hy:ev L y=some (.pointer (some (Value.base v)))) (hz:ev L z=some (.int kk i)) (Z:0<=i) (h1:i.toNat<n)
  (k:W x ops Q rest H M ((d,.pointer (some ((Value.base v).add (i.toNat*sz))))::L)):
  W x ops Q (⟨some d,.indexAddr t y z,ty,pos,aft,g⟩::rest) H M L:=
 eQ rfl hg hN (λc w I ht=>by
  subst Y;have J:i<(n:Int):=by omega
  simp [execOp,I.ev hy,I.ev hz,Instr.indexAt,asIntOf,hT,hs,Z,J,Instr.sureAddr]) k
theorem pN {t e u:TypeId}{y z:Operand}{a:Option Addr} (Y:gd ops L ⟨some d,.binOp .eql t y z u,ty,pos,aft,g⟩=some true) (hN:Nat.blt d x.N=true)
  (J:∀ w,(underlying t).run x.P w=.ok (.pointer e) w) (Z:ev L y=some (.pointer a)) (hz:ev L z=some (.pointer none))
  (k:W x ops Q rest H M ((d,.bool a.isNone)::L)):W x ops Q (⟨some d,.binOp .eql t y z u,ty,pos,aft,g⟩::rest) H M L:=
 eQ rfl Y hN (λc w hs _=>by
  have key:∀ k,(Op.equalIn (k+1) t (.pointer a) (.pointer none)).run x.P w=.ok a.isNone w:=λk=>by
   unfold Op.equalIn;cases a <;> simp [J]
  have I:(Op.equal t (.pointer a) (.pointer none)).run x.P w=.ok a.isNone w:=key 9999;simp only [execOp,hs.ev Z,hs.ev hz,R4,eqGuard,binOp];simp [I]) k
theorem BN {t u:TypeId}{y z:Operand}{a b:Bool} (Y:gd ops L ⟨some d,.binOp .eql t y z u,ty,pos,aft,g⟩=some true) (hN:Nat.blt d x.N=true)
  (J:∀ w,(underlying t).run x.P w=.ok .bool w) (Z:ev L y=some (.bool a)) (hz:ev L z=some (.bool b))
  (k:W x ops Q rest H M ((d,.bool (decide (a=b)))::L)):W x ops Q (⟨some d,.binOp .eql t y z u,ty,pos,aft,g⟩::rest) H M L:=
 eQ rfl Y hN (λc w hs _=>by
  have e:(a == b)=decide (a=b):=by cases a <;> cases b <;> rfl
  have key:∀ k,(Op.equalIn (k+1) t (.bool a) (.bool b)).run x.P w=.ok (decide (a=b)) w:=λk=>by
   unfold Op.equalIn;simp [J,e]
  have I:(Op.equal t (.bool a) (.bool b)).run x.P w=.ok (decide (a=b)) w:=key 9999;simp only [execOp,hs.ev Z,hs.ev hz,R4,eqGuard,binOp];simp [I]) k
theorem Fb {t u:TypeId}{y z:Operand}{a b:Bool} (Y:gd ops L ⟨some d,.binOp .neq t y z u,ty,pos,aft,g⟩=some true) (hN:Nat.blt d x.N=true)
  (J:∀ w,(underlying t).run x.P w=.ok .bool w) (Z:ev L y=some (.bool a)) (hz:ev L z=some (.bool b))
  (k:W x ops Q rest H M ((d,.bool (!decide (a=b)))::L)):W x ops Q (⟨some d,.binOp .neq t y z u,ty,pos,aft,g⟩::rest) H M L:=
 eQ rfl Y hN (λc w hs _=>by
  have e:(a == b)=decide (a=b):=by cases a <;> cases b <;> rfl
  have key:∀ k,(Op.equalIn (k+1) t (.bool a) (.bool b)).run x.P w=.ok (decide (a=b)) w:=λk=>by
   unfold Op.equalIn;simp [J,e]
  have I:(Op.equal t (.bool a) (.bool b)).run x.P w=.ok (decide (a=b)) w:=key 9999;simp only [execOp,hs.ev Z,hs.ev hz,R4,eqGuard,binOp];simp [I]) k
end
def G2 (acc:List Nat) (o:Oper):Nat:=(iV o).foldl (λm j=>m ||| ((1 <<< j) ||| acc.getD j 0)) 0
def Cy:List Nat->List Oper->List Nat
 | acc,[]=>acc
 | acc,o::r=>Cy (acc++[G2 acc o]) r
theorem Cw {acc:List Nat}{j:Nat}:∀ (ws:List Nat) (z:Nat),(ws.foldl (λm j=>m ||| ((1 <<< j) ||| acc.getD j 0)) z).testBit j=true ->
  z.testBit j=true\/∃ q ∈ ws,j=q\/(acc.getD q 0).testBit j=true
 | [],z,h=>.inl h
 | q::ws,z,h=>by
  rcases Cw ws _ h with h | ⟨r,J,h⟩
  ·rw [Nat.testBit_or,Nat.testBit_or,Tt,Tt] at h
   rcases h with h | h | h
   ·exact .inl h
   ·refine .inr ⟨q,RR ..,.inl ?_⟩
    rw [Nat.shiftLeft_eq,Vy,Nat.testBit_two_pow] at h;simpa using (RT h).symm
   ·exact .inr ⟨q,RR ..,.inr h⟩
  ·exact .inr ⟨r,RV _ J,h⟩
theorem yC {l:List Oper}{listed:Nat->Prop} (dc:∀ i o,l[i]? = some o->listed i->∀ j ∈ iV o,listed j):
  ∀ (r:List Oper) (acc:List Nat),(∀ i o,r[i]? = some o->l[acc.length+i]? = some o) ->
   (∀ i,i<acc.length->∀ o,l[i]? = some o->(∀ q ∈ iV o,listed q)->∀ j,(acc.getD i 0).testBit j=true->listed j) ->
   ∀ i,i<acc.length+r.length->∀ o,l[i]? = some o->(∀ q ∈ iV o,listed q)->∀ j,((Cy acc r).getD i 0).testBit j=true->listed j
 | [],acc,_,h,i,hi,o,ho,hw,j,hj=>h i (by simpa using hi) o ho hw j hj
 | p::r,acc,hr,h,i,hi,o,ho,hw,j,hj=>by
  refine yC dc r (acc++[G2 acc p]) (λk q hk=>?_) ?_ i (by simp at hi ⊢; omega) o ho hw j hj
  ·have:=hr (k+1) q (by simpa using hk)
   rw [R5,SR]
   rwa [show acc.length+1+k=acc.length+(k+1) by omega]
  ·intro k hk q hq Z b hb
   by_cases hkl:k<acc.length
   ·refine h k hkl q hq Z b ?_
    rw [Su,S4 hkl] at hb;rw [Su]; exact hb
   ·have hke:k=acc.length:=by simp at hk; omega
    subst hke;have hp:p=q:=by
     have:=hr 0 p rfl;rw [Tl,hq] at this;exact (RQ this).symm
    subst hp;rw [Su,Sv (R9 _),S7] at hb;simp only [List.getElem?_cons_zero,TO] at hb;unfold G2 at hb;rcases Cw _ _ hb with h0 | ⟨q,hqm,rfl | Y⟩
    ·simp at h0
    ·exact Z b hqm
    ·by_cases hql:q<acc.length
     ·have hlq:=Z q hqm
      cases J:l[q]? with
      | none=>
       have:acc.length<l.length:=(RP.1 hq).1;have:=List.getElem?_eq_none_iff.1 J;omega
      | some oq=>exact h q hql oq J (dc q oq J hlq) b Y
     ·rw [Su,SQ (by omega)] at Y
      simp at Y
def vY (l:List Oper) (m:Nat):Bool:=
 l.zipIdx.all (λp=>(iV p.1).all λj=>Nat.blt j p.2) &&
 l.zipIdx.all λp=>Nat.blt p.2 m || (List.range p.2).all λj=>((Cy [] l).getD p.2 0).testBit j
theorem rU {l:List Oper}{m:Nat} (J:vY l m=true) {i:Nat}{o:Oper} (Y:l[i]? = some o):∀ j ∈ iV o,j<i:=by
 unfold vY at J;rw [Tp,S2] at J;have:=J.1 (o,i) (by rw [List.mem_zipIdx_iff_getElem?]; simpa using Y)
 simpa only [S2,SY] using this
theorem CK {l:List Oper}{m:Nat} (Y:vY l m=true) {listed:Nat->Prop} (dc:∀ i o,l[i]? = some o->listed i->∀ j ∈ iV o,listed j)
  {i:Nat}{o:Oper} (ho:l[i]? = some o) (O:m<=i) (hw:∀ q ∈ iV o,listed q):∀ j,j<i->listed j:=by
 unfold vY at Y;rw [Tp,S2,S2] at Y;have J:=Y.2 (o,i) (by rw [List.mem_zipIdx_iff_getElem?]; simpa using ho)
 simp only [Tt,SY,S2,SL] at J;have hi:i<l.length:=(RP.1 ho).1;intro j hj;rcases J with J | J
 ·omega
 ·exact yC dc l [] (λk q Z=>by simpa using Z) (λk Z=>by simp at Z) i (by simpa using hi) o ho hw j (J j hj)
def uH:List Nat->(Nat->List bN)->List bN->List bN
 | [],_,M=>M
 | c::cs,R,M=>R c++uH cs R M
theorem Ar (cs:List Nat) (R:Nat->List bN) (M:List bN):uH cs R M=cs.flatMap R++M:=by
 induction cs with
 | nil=>rfl
 | cons c cs ih=>rw [uH,ih,S6,Sc]
def CX (R:Nat->List bN) (i:Nat) (rs:List bN):Nat->List bN:=λk=>bif Nat.beq k i then rs else R k
theorem AW (R:Nat->List bN) (i:Nat) (rs:List bN):CX R i rs i=rs:=by simp [CX]
theorem Bw (R:Nat->List bN) (i k:Nat) (rs:List bN) (h:k≠i):CX R i rs k=R k:=by
 unfold CX;cases J:Nat.beq k i with
 | false=>rfl
 | true=>exact absurd (T7 J) h
abbrev Oi:=Nat->Hp->List bN->RJ->Prop
def MZ:Option Nat->RJ->Env->Env
 | some t,v,L=>(t,v)::L
 | none,_,L=>L
def H8 (l:List Oper) (j:Nat):Option Nat:=match l[j]? with
 | none=>none
 | some o=>match o.dst with
  | some _=>none
  | none=>match o.op with
   | .store _ (.tmp s) _=>bif (iV o).any (λw=>match (l[w]?).bind (·.dst) with
    | some u=>Nat.beq u s
    | none=>false) then some s else none
   | _=>none
theorem OL {l:List Oper}{j s:Nat} (h:H8 l j=some s):∃ o,l[j]? = some o/\o.dst=none/\∃ w ∈ iV o,(l[w]?).bind (·.dst)=some s:=by
 unfold H8 at h
 split at h
 ·cases h
 ·rename_i o ho
  split at h
  ·cases h
  ·rename_i hd
   split at h
   ·rename_i T s' z hop
    cases J:(iV o).any (λw=>match (l[w]?).bind (·.dst) with
     | some u=>Nat.beq u s'
     | none=>false) with
    | false=>rw [J] at h; cases h
    | true=>
     rw [J] at h;cases h;rw [List.any_eq_true] at J;obtain ⟨w,Y,J⟩:=J;refine ⟨o,ho,hd,w,Y,?_⟩
     split at J
     ·rename_i u hu
      rw [hu,T7 J]
     ·cases J
   ·cases h
def xp (l:List Oper) (Φ:Oi) (H:Hp):List Nat->Env->(Nat->List bN)->(Env->(Nat->List bN)->Prop)->Prop
 | [],L,R,k=>k L R
 | j::J,L,R,k=>match (l[j]?).bind (·.dst) with
  | some t=>∀ v rs,Φ j H rs v->xp l Φ H J ((t,v)::L) (CX R j rs) k
  | none=>match H8 l j with
   | none=>∀ rs,Φ j H rs undef->xp l Φ H J L (CX R j rs) k
   | some s=>∀ v rs,(∀ u,lk L s=some u->v=u)->Φ j H rs v->xp l Φ H J L (CX R j rs) k
def Qz (L:Env) (v:RJ):Option Nat->Option Nat->Prop
 | some _,_=>True
 | none,none=>v=undef
 | none,some s=>lk L s=some v
def DT (x:Cx) (H:Hp) (M:List bN) (L:Env) (t J:Option Nat) (Y:Hp->List bN->RJ->Prop):lU:=λe a w=>
 e=.normal/\∃ v H' rs,Sl x.N (MZ t v L) a/\Qz L v t J/\H.le H'/\St x.B x.w0 H' (rs++M) w/\Y H' rs v
theorem fJ {x:Cx}{H H':Hp}{M:List bN}{L:Env}{t:Nat}{Z:Option Nat}{v:RJ}{Y:Hp->List bN->RJ->Prop} (rs:List bN) (J:H.le H') (h:Y H' rs v):E x .normal (DT x H M L (some t) Z Y) H' (rs++M) ((t,v)::L):=
 λ_ _ hs ht=>⟨rfl,v,H',rs,hs,RM,J,ht,h⟩
theorem Dj {x:Cx}{H H':Hp}{M:List bN}{L:Env}{Y:Hp->List bN->RJ->Prop} (rs:List bN) (J:H.le H') (h:Y H' rs undef):E x .normal (DT x H M L none none Y) H' (rs++M) L:=
 λ_ _ hs ht=>⟨rfl,undef,H',rs,hs,rfl,J,ht,h⟩
theorem nL {x:Cx}{H H':Hp}{M:List bN}{L:Env}{s:Nat}{v:RJ}{Y:Hp->List bN->RJ->Prop} (hl:lk L s=some v) (rs:List bN) (J:H.le H') (h:Y H' rs v):E x .normal (DT x H M L none (some s) Y) H' (rs++M) L:=
 λ_ _ hs ht=>⟨rfl,v,H',rs,hs,hl,J,ht,h⟩
def E0 (m:Nat) (I:List (List bN)):Nat->List bN:=λk=>if k<m then [] else I.getD (k-m) []
def yg (x:Cx) (l:List Oper) (Φ:Oi) (C U:List (List Nat)) (Es:List Env) (J:Nat->List bN) (H:Hp) (M:List bN) (L:Env):Nat->List Oper->Prop
 | _,[]=>True
 | i,o::r=>(∀ H',H.le H'->∀ X Rest,(∀ s ∈ M,s ∈ Rest)->xp l Φ H' (iV o) (Es.getD i []++(L++X)) J (λL' R=>(∀ s ∈ uH (U.getD i []) R [],s ∈ Rest)->(∃ Y,(uH (U.getD i []) R Y).Perm Rest)->W x l.toArray (DT x H' Rest L' o.dst (H8 l i) (Φ i)) [o] H' (uH (C.getD i []) R Rest) L')) /\
   yg x l Φ C U Es J H M L (i+1) r
theorem yg.at {x:Cx}{l:List Oper}{Φ:Oi}{C U:List (List Nat)}{Es:List Env}{J:Nat->List bN}{H:Hp}{M:List bN}{L:Env}:∀ {r:List Oper}{i:Nat},yg x l Φ C U Es J H M L i r->∀ j o,r[j]? = some o ->
  ∀ H',H.le H'->∀ X Rest,(∀ s ∈ M,s ∈ Rest)->xp l Φ H' (iV o) (Es.getD (i+j) []++(L++X)) J (λL' R=>(∀ s ∈ uH (U.getD (i+j) []) R [],s ∈ Rest)->(∃ Y,(uH (U.getD (i+j) []) R Y).Perm Rest)->W x l.toArray (DT x H' Rest L' o.dst (H8 l (i+j)) (Φ (i+j))) [o] H' (uH (C.getD (i+j) []) R Rest) L')
 | [],_,_,j,o,h=>by simp at h
 | p::r,i,hh,0,o,h=>by simp at h; subst h; exact hh.1
 | p::r,i,hh,j+1,o,h=>by
  have:=yg.at hh.2 j o (by simpa using h)
  rwa [show i+1+j=i+(j+1) from by omega] at this
def ui (a:Act) (v:RJ):Option Nat->Option Nat->Prop
 | some t,_=>a.tmps[t]? = some v
 | none,none=>v=undef
 | none,some s=>a.tmps[s]? = some v
theorem xp.use {l:List Oper}{Φ:Oi}{H:Hp}{a:Act}{N:Nat}{Rt:Nat->List bN}:∀ {js:List Nat}{L:Env}{R:Nat->List bN}{k:Env->(Nat->List bN)->Prop},xp l Φ H js L R k->Sl N L a ->
  (∀ j ∈ js,∃ v,ui a v ((l[j]?).bind (·.dst)) (H8 l j)/\Φ j H (Rt j) v) ->
  ∃ Y R',k (Y++L) R'/\Sl N (Y++L) a/\(∀ t v,(t,v) ∈ Y->a.tmps[t]? = some v)/\(∀ q,q ∈ js->R' q=Rt q)/\∀ q,q ∉ js->R' q=R q
 | [],L,R,k,h,hs,_=>⟨[],R,h,hs,by simp,by simp,λq _=>rfl⟩
 | j::js,L,R,k,h,hs,hv=>by
  obtain ⟨v,Z,h2⟩:=hv j (RR ..);have J:∀ {R':Nat->List bN},(∀ q,q ∈ js->R' q=Rt q)->(∀ q,q ∉ js->R' q=CX R j (Rt j) q)->(∀ q,q ∈ j::js->R' q=Rt q)/\∀ q,q ∉ j::js->R' q=R q:=by
   intro R' h6 h7;constructor
   ·intro q hq
    by_cases hqj:q ∈ js
    ·exact h6 q hqj
    ·rcases SA.1 hq with rfl | hq
     ·rw [h7 _ hqj,AW]
     ·exact absurd hq hqj
   ·intro q hq
    rw [h7 q (λh=>hq (RV _ h)),Bw _ _ _ _ (λe=>hq (by rw [e]; exact RR ..))]
  unfold xp at h;cases ht:(l[j]?).bind (·.dst) with
  | none=>
   rw [ht] at h Z;cases hk:H8 l j with
   | none=>
    rw [hk] at h Z;simp only [ui] at Z;subst Z;obtain ⟨Y,R',h3,h4,h5,h6,h7⟩:=xp.use (h (Rt j) h2) hs (λi hi=>hv i (RV _ hi));exact ⟨Y,R',h3,h4,h5,(J h6 h7).1,(J h6 h7).2⟩
   | some s=>
    rw [hk] at h Z;simp only [ui] at Z;obtain ⟨Y,R',h3,h4,h5,h6,h7⟩:=xp.use (h v (Rt j) (λu hu=>by have:=hs.get s u hu; rw [Z] at this; exact RQ this) h2) hs (λi hi=>hv i (RV _ hi))
    exact ⟨Y,R',h3,h4,h5,(J h6 h7).1,(J h6 h7).2⟩
  | some t=>
   rw [ht] at h Z;simp only [ui] at Z;obtain ⟨Y,R',h3,h4,h5,h6,h7⟩:=xp.use (h v (Rt j) h2) (hs.cons Z) (λi hi=>hv i (RV _ hi));refine ⟨Y++[(t,v)],R',by simpa using h3,by simpa using h4,?_,(J h6 h7).1,(J h6 h7).2⟩
   intro u w O;rcases RZ.1 O with O | O
   ·exact h5 u w O
   ·simp at O; obtain ⟨rfl,rfl⟩:=O; exact Z
def Ei (l:List Oper) (m:Nat) (Es:List Env):Bool:=
 (List.range m).all λi=>((Es.getD i []).map (·.1)).all λt=>(List.range m).all λw=>match (l[w]?).bind (·.dst) with
  | some u=>!Nat.beq u t || ((Cy [] l).getD w 0).testBit i
  | none=>true
def zu (l:List Oper) (m:Nat) (L:Env):Bool:=
 (l.take m).all (λo=>match o.dst with
  | some t=>(lk L t).isNone
  | none=>true)
def zv (l:List Oper) (m:Nat):Bool:=decide (((l.take m).filterMap (·.dst)).Nodup)
def Hr (l:List Oper) (m K:Nat) (C U:List (List Nat)) (live:List Nat):Bool:=
 ((List.range m).all λi=>(U.getD i []).all λu=>(Nat.ble m u || match l[i]? with
  | some o=>(iV o).contains u
  | none=>false) && Nat.blt u K && (List.range m).all λi'=>!(C.getD i' []).contains u || ((Cy [] l).getD i' 0).testBit i) &&
 Nat.beq C.length m && (List.range m).all (λi=>(C.getD i []).all λc=>Nat.ble m c || match l[i]? with
  | some o=>(iV o).contains c
  | none=>false) &&
 (C.flatten++live).all (λc=>Nat.blt c K) && ((List.range K).all λk=>Nat.beq ((C.flatten++live).count k) 1) && (List.range m).all λi=>decide ((U.getD i []).Nodup)
section
variable {x:Cx}{l:List Oper}{m K:Nat}{Φ:Oi}{C U:List (List Nat)}{live:List Nat}{I:List (List bN)}{Es:List Env}{H:Hp}{M:List bN}{L L0:Env}{Q:lU}
structure A0 (l:List Oper) (m K:Nat) (C U:List (List Nat)) (live:List Nat):Prop where
 len:C.length=m
 wait:∀ i o,i<m->l[i]? = some o->∀ c ∈ C.getD i [],m<=c\/c ∈ iV o
 lt:∀ c ∈ C.flatten++live,c<K
 nd:(C.flatten++live).Nodup
 all:∀ k,k<K->k ∈ C.flatten++live
 PR:∀ i o,i<m->l[i]? = some o->∀ u ∈ U.getD i [],(m<=u\/u ∈ iV o)/\u<K
 PQ:∀ i,i<m->∀ u ∈ U.getD i [],∀ i',i'<m->u ∈ C.getD i' []->((Cy [] l).getD i' 0).testBit i=true
 QJ:∀ i,i<m->(U.getD i []).Nodup
theorem Nl (h:Hr l m K C U live=true):A0 l m K C U live:=by
 unfold Hr at h;simp only [Tp] at h;obtain ⟨⟨⟨⟨⟨h0,h1⟩,h2⟩,h3⟩,h4⟩,J⟩:=h;rw [S2] at h0 h2 h3 h4 J;have hU:∀ i,i<m->∀ u ∈ U.getD i [],((Nat.ble m u || match l[i]? with
  | some o=>(iV o).contains u
  | none=>false)=true/\u<K)/\∀ i',i'<m->u ∈ C.getD i' []->((Cy [] l).getD i' 0).testBit i=true:=by
  intro i hi u hu;have:=h0 i (SL.2 hi);rw [S2] at this;have:=this u hu;rw [Tp,Tp,S2] at this;refine ⟨⟨this.1.1,by simpa [SY] using this.1.2⟩,λi' hi' Y=>?_⟩
  have J:=this.2 i' (SL.2 hi');rw [Tt] at J;rcases J with J | J
  ·have h6:(C.getD i' []).contains u=true:=by rw [Vm]; exact Y
   rw [h6] at J; cases J
  ·exact J
 have Y:∀ k,k<K->(C.flatten++live).count k=1:=λk hk=>T7 (h4 k (SL.2 hk));have Z:∀ c ∈ C.flatten++live,c<K:=λc Y=>by simpa [SY] using h3 c Y
 refine ⟨T7 h1,?_,Z,?_,?_,?_,λi hi u hu=>(hU i hi u hu).2,λi hi=>RT (J i (SL.2 hi))⟩
 ·intro i o hi ho c Y
  have:=h2 i (SL.2 hi);rw [S2] at this;have:=this c Y;rw [ho] at this;simpa [Tt,Uh,Vm] using this
 ·rw [List.nodup_iff_count]
  intro a
  by_cases ha:a<K
  ·rw [Y a ha]; exact R9 _
  ·rw [U_.2 (λO=>ha (Z a O))]; omega
 ·intro k hk
  rw [<- List.count_pos_iff,Y k hk]; omega
 ·intro i o hi ho u hu
  have:=(hU i hi u hu).1;rw [ho] at this;refine ⟨?_,this.2⟩;have J:=this.1;rw [Tt] at J;rcases J with J | J
  ·exact .inl (by simpa [Uh] using J)
  ·exact .inr (by simpa [Vm] using J)
theorem A0.uniq (h:A0 l m K C U live) {i i' k:Nat} (hi:k ∈ C.getD i []) (J:k ∈ C.getD i' []):i=i':=by
 have Y:=(SM.1 h.nd).1;unfold List.Nodup at Y;rw [List.pairwise_flatten] at Y;have Z:=Ut.1 Y.2;have g1:i<C.length:=by
  by_cases e:i<C.length
  ·exact e
  ·rw [Su,SQ (by omega)] at hi; simp at hi
 have g2:i'<C.length:=by
  by_cases e:i'<C.length
  ·exact e
  ·rw [Su,SQ (by omega)] at J; simp at J
 rw [Su,RK g1] at hi;rw [Su,RK g2] at J;simp only [TO] at hi J;rcases UO i i' with q | q | q
 ·exact absurd rfl (Z i i' g1 g2 q _ hi _ J)
 ·exact q
 ·exact absurd rfl (Z i' i g2 g1 q _ J _ hi)
theorem A0.mem (h:A0 l m K C U live) {i k:Nat} (hi:k ∈ C.getD i []):k ∈ C.flatten:=by
 have J:i<C.length:=by
  by_cases e:i<C.length
  ·exact e
  ·rw [Su,SQ (by omega)] at hi; simp at hi
 rw [Su,RK J] at hi;exact List.mem_flatten.2 ⟨_,Sk J,hi⟩
theorem A0.Rc (h:A0 l m K C U live) (i:Nat):(C.getD i []).Nodup:=by
 have J:=(SM.1 h.nd).1;unfold List.Nodup at J;rw [List.pairwise_flatten] at J
 by_cases e:i<C.length
 ·rw [Su,RK e]; exact J.1 _ (Sk e)
 ·rw [Su,SQ (by omega)]; simp
def alive (m:Nat) (C:List (List Nat)) (listed:Array Bool) (k:Nat):Bool:=(Nat.ble m k || listed.getD k false) && !(List.range m).any λi=>listed.getD i false && (C.getD i []).contains k
theorem sV {listed:Array Bool}{k:Nat}:alive m C listed k=true↔(m<=k\/listed.getD k false=true)/\∀ i,i<m->listed.getD i false=true->k ∉ C.getD i []:=by
 unfold alive;simp only [Tp,Tt,Uh,Bool.not_eq_true',List.any_eq_false,SL,Vm];constructor
 ·rintro ⟨J,Y⟩; exact ⟨J,λi hi hl O=>Y i hi ⟨hl,O⟩⟩
 ·rintro ⟨J,Y⟩; exact ⟨J,λi hi ⟨hl,O⟩=>Y i hi hl O⟩
theorem Ga (hB:vY l m=true):∀ (f i:Nat) (listed:Array Bool) (a:Act) (w:World),m<=i->listed.size=l.length->i<=l.length->l.length<=i+f ->
  (∀ j,j<l.length->listed.getD j true=decide (j<i))->wpList x.P l.toArray Q (l.drop i) a w->wpAny x.P .any l.toArray Q f listed a w
 | 0,i,listed,a,w,O,hsz,hf0,hf,hl,h=>by
  have hi:i=l.length:=by omega
  refine ⟨?_,by rw [hi,UB] at h; exact h⟩
  rw [List.eq_nil_iff_forall_not_mem];intro j J;obtain ⟨h1,h2,_⟩:=mem_ready.1 J;rw [hl j (by simpa using h1)] at h2
  simp at h1 h2; omega
 | f+1,i,listed,a,w,O,hsz,hf0,hf,hl,h=>by
  by_cases e2:i=l.length
  ·have Y:Region.ready .any l.toArray listed=[]:=by
    rw [List.eq_nil_iff_forall_not_mem];intro j J;obtain ⟨q1,q2,_⟩:=mem_ready.1 J;rw [hl j (by simpa using q1)] at q2
    simp at q1 q2; omega
   exact ⟨λ_=>by rw [e2,UB] at h; exact h,λj J=>by rw [Y] at J; cases J⟩
  ·have hi:i<l.length:=by omega
   have ho:l[i]? = some l[i]:=RK hi;have Z:∀ j,j<l.length->listed.getD j false=decide (j<i):=λj J=>by
    have:=hl j J;simp only [SE] at this ⊢;rw [Us (by omega)] at this ⊢
    simpa using this
   have hmem:i ∈ Region.ready .any l.toArray listed:=by
    refine mem_ready.2 ⟨by simpa using hi,by rw [hl i hi]; simp,l[i],by simp,λj J=>?_⟩
    have hj':=rU hB ho j J;rw [Z j (by omega)]; simpa using hj'
   have huniq:∀ j ∈ Region.ready .any l.toArray listed,j=i:=by
    intro j J;obtain ⟨q1,q2,o,ho',hw⟩:=mem_ready.1 J;have q1':j<l.length:=by simpa using q1
    rw [hl j q1'] at q2;have hji:i<=j:=by simpa using q2
    by_cases e:j=i
    ·exact e
    ·exfalso
     have:=CK hB (listed:=λq=>q<i) (λk o hk hki q hq=>by have:=rU hB hk q hq; omega) (i:=j) (o:=o) (by simpa using ho') (by omega)
      (λq hq=>by
       have h1:=hw q hq;have h2:=rU hB (i:=j) (o:=o) (by simpa using ho') q hq
       rw [Z q (by omega)] at h1
       simpa using h1) i (by omega)
     omega
   refine ⟨λhe=>(by rw [he] at hmem; cases hmem),λj J=>?_⟩
   obtain rfl:=huniq j J;unfold wpOp;rw [show l.toArray[j]? = some l[j] from by simp]
   rw [Si hi] at h;have step:∀ a w,wpList x.P l.toArray Q (l.drop (j+1)) a w->wpAny x.P .any l.toArray Q f (listed.setIfInBounds j true) a w:=λa w hh=>
    Ga hB f (j+1) _ a w (by omega) (by simpa using hsz) (by omega) (by omega) (λk hk=>by
     rw [vE _ _ _ _ (by omega),hl k hk]
     by_cases e:k=j
     ·subst e; simp
     ·simp [e]; omega) hh
   unfold wpList at h
   dsimp only
   split
   ·rename_i hw; rw [RU hw] at h; exact h.imp (Oper.wp_mono step) id
   ·rename_i hw; rw [RS hw] at h; exact step _ _ h
theorem Ai {A B:List Nat} (J:A.Nodup) (Y:B.Nodup) (h:∀ a,a ∈ A↔a ∈ B) (R:Nat->List bN) (M:List bN):(A.flatMap R++M).Perm (B.flatMap R++M):=
 (((List.perm_ext_iff_of_nodup J Y).2 h).flatMap_right R).append_right M
theorem va {A:List Nat}{R R':Nat->List bN} (h:∀ a ∈ A,R a=R' a):A.flatMap R=A.flatMap R':=by
 induction A with
 | nil=>rfl
 | cons a A ih=>rw [S6,S6,h a (RR ..),ih λb J=>h b (RV _ J)]
theorem MW (hB:vY l m=true) (hml:m<=l.length) (hD:zu l m L0=true) (hX0:Ei l m Es=true) (hL0:∀ t v,lk L0 t=some v->lk L t=some v) (hE:∀ i t v,lk (Es.getD i []) t=some v->lk L t=some v) (hNd:zv l m=true) (hT:A0 l m K C U live) (hmK:m<=K)
  (hmono:∀ i H1 H2 rs v,H1.le H2->Φ i H1 rs v->Φ i H2 rs v)
  (hop:yg x l Φ C U Es (E0 m I) H M L0 0 (l.take m))
  (k:∀ H',H.le H'->xp l Φ H' (List.range m) L0 (E0 m I) (λL' R=>W x l.toArray Q (l.drop m) H' (uH live R M) L')):
  ∀ (J:Nat) (listed:Array Bool) (a:Act) (w:World) (H':Hp) (R:Nat->List bN),listed.size=l.length->left l listed<=J->(∀ j,m<=j->j<l.length->listed.getD j true=false) ->
   (∀ i o,l[i]? = some o->listed.getD i false=true->∀ j ∈ iV o,listed.getD j false=true) ->
   H.le H'->St x.B x.w0 H' (((List.range K).filter (alive m C listed)).flatMap R++M) w->Sl x.N [] a->(∀ t v,lk L t=some v->(∀ w o,w<m->l[w]? = some o->o.dst=some t->listed.getD w false=false)->a.tmps[t]? = some v)->(∀ q,m<=q->R q=E0 m I q) ->
   (∀ i o,i<m->l[i]? = some o->listed.getD i true=true->∃ v,ui a v o.dst (H8 l i)/\Φ i H' (R i) v) ->
   wpAny x.P .any l.toArray Q J listed a w:=by
 have hdst:∀ i o t,i<m->l[i]? = some o->o.dst=some t->lk L0 t=none:=by
  intro i o t him ho hd;have htake:(l.take m)[i]? = some o:=by rw [SG,RU him]; exact ho
  unfold zu at hD;rw [S2] at hD;have:=hD o (RY htake);rw [hd] at this; simpa using this
 have fin:∀ (J:Nat) (listed:Array Bool) (a:Act) (w:World) (H':Hp) (R:Nat->List bN),listed.size=l.length->left l listed<=J->(∀ j,m<=j->j<l.length->listed.getD j true=false) ->
   H.le H'->St x.B x.w0 H' (((List.range K).filter (alive m C listed)).flatMap R++M) w->Sl x.N [] a->(∀ t v,lk L t=some v->(∀ w o,w<m->l[w]? = some o->o.dst=some t->listed.getD w false=false)->a.tmps[t]? = some v)->(∀ q,m<=q->R q=E0 m I q) ->
   (∀ i o,i<m->l[i]? = some o->listed.getD i true=true->∃ v,ui a v o.dst (H8 l i)/\Φ i H' (R i) v) ->
   (∀ j,j<m->listed.getD j true=true)->wpAny x.P .any l.toArray Q J listed a w:=by
  intro J listed a w H' R hsz hf htl hle ht hs0 hsl vp hv hall;have hs:Sl x.N L0 a:=⟨hs0.size,hs0.Ft,λt v h=>hsl t v (hL0 t v h) (λw o hw ho hd=>by rw [hdst w o t hw ho hd] at h; cases h)⟩
  have hget:∀ j,j<l.length->listed.getD j false=listed.getD j true:=λj hj=>by
   simp only [SE];rw [Us (by omega)]; rfl
  obtain ⟨Y,R',h1,h2,_,h3,h4⟩:=xp.use (Rt:=R) (k H' hle) hs (λj hj=>by
   have hj':=SL.1 hj;have ho:l[j]? = some l[j]:=RK (by omega)
   rw [ho];exact hv j _ hj' ho (hall j hj'))
  have hR:∀ q,R' q=R q:=λq=>by
   by_cases hq:q<m
   ·exact h3 q (SL.2 hq)
   ·rw [h4 q (λh=>hq (SL.1 h)),vp q (by omega)]
  have hwl:wpList x.P l.toArray Q (l.drop m) a w:=by
   refine h1 a w h2 (ht.perm ?_);rw [Ar,va (R:=R') (R':=R) (λq _=>hR q)];refine Ai (List.nodup_range.filter _) (SM.1 hT.nd).2.1 ?_ R M;intro q;rw [S0,SL,sV];constructor
   ·rintro ⟨h5,h6,h7⟩
    rcases RZ.1 (hT.all q h5) with h8 | h8
    ·exfalso
     obtain ⟨c,hc,hqc⟩:=List.mem_flatten.1 h8;obtain ⟨i,hi,rfl⟩:=S3.1 hc;have him:i<m:=by rw [<- hT.len]; exact hi
     refine h7 i him (by rw [hget i (by omega)]; exact hall i him) ?_
     rw [Su,RK hi]; exact hqc
    ·exact h8
   ·intro hq
    refine ⟨hT.lt q (SV _ hq),?_,?_⟩
    ·by_cases e:m<=q
     ·exact .inl e
     ·exact .inr (by rw [hget q (by omega)]; exact hall q (by omega))
    ·intro i him _ hc
     exact (SM.1 hT.nd).2.2 q (hT.mem hc) q hq rfl
  have hl:∀ j,j<l.length->listed.getD j true=decide (j<m):=by
   intro j hj
   by_cases e:j<m
   ·rw [hall j e]; simp [e]
   ·rw [htl j (by omega) hj]; simp [e]
  have hcount:l.length<=m+J:=by
   have:l.length-m<=left l listed:=by
    unfold left;have h1:(List.range l.length).countP (λi=>!listed.getD i true)=(List.range l.length).countP (λi=>decide (m<=i)):=by
     refine List.countP_congr λj hj=>?_;rw [hl j (SL.1 hj)];simp
    rw [h1];have h2:∀ n,(List.range n).countP (λi=>decide (m<=i))=n-m:=by
     intro n
     induction n with
     | zero=>simp
     | succ n ihn=>
      rw [Vb,List.countP_append,ihn];simp only [List.countP_cons,List.countP_nil]
      by_cases e:m<=n
      ·simp [e]; omega
      ·simp [e]; omega
    rw [h2]; exact R9 _
   omega
  exact Ga hB J m listed a w (R9 _) hsz hml hcount hl hwl
 intro J
 induction J with
 | zero=>
  intro listed a w H' R hsz hf htl hdc hle ht hs0 hsl vp hv;refine fin 0 listed a w H' R hsz hf htl hle ht hs0 hsl vp hv (λj hj=>?_);have:left l listed=0:=by omega
  unfold left at this;rw [List.countP_eq_zero] at this;have:=this j (SL.2 (by omega))
  simpa using this
 | succ J ih=>
  intro listed a w H' R hsz hf htl hdc hle ht hs0 hsl vp hv
  by_cases hall:∀ j,j<m->listed.getD j true=true
  ·exact fin (J+1) listed a w H' R hsz hf htl hle ht hs0 hsl vp hv hall
  ·have hs:Sl x.N L0 a:=⟨hs0.size,hs0.Ft,λt v h=>hsl t v (hL0 t v h) (λw o hw ho hd=>by rw [hdst w o t hw ho hd] at h; cases h)⟩
   have hget:∀ j,j<l.length->listed.getD j false=listed.getD j true:=λj hj=>by
    simp only [SE];rw [Us (by omega)]; rfl
   have hex:∃ j,j<m/\listed.getD j true=false:=by
    refine Classical.byContradiction λhno=>hall λj hj=>?_;cases hb:listed.getD j true with
    | true=>rfl
    | false=>exact absurd ⟨j,hj,hb⟩ hno
   obtain ⟨j0,⟨hj0,hf0⟩,hleast⟩:=least (p:=λj=>j<m/\listed.getD j true=false) hex.choose hex.choose_spec;have hne:Region.ready .any l.toArray listed≠[]:=by
    intro he;have hlt:j0<l.length:=by omega
    have ho:l[j0]? = some l[j0]:=RK hlt;have:j0 ∈ Region.ready .any l.toArray listed:=by
     refine mem_ready.2 ⟨by simpa using hlt,hf0,l[j0],by simp,λj hj=>?_⟩
     have hj':=rU hB ho j hj;rw [hget j (by omega)]
     cases hb:listed.getD j true with
     | true=>rfl
     | false=>have:=hleast j ⟨by omega,hb⟩; omega
    rw [he] at this; cases this
   refine ⟨λhe=>absurd he hne,λi hi=>?_⟩;obtain ⟨h1,h2,o,ho',hw⟩:=mem_ready.1 hi;have h1':i<l.length:=by simpa using h1
   have ho:l[i]? = some o:=by simpa using ho'
   have him:i<m:=by
    by_cases e:i<m
    ·exact e
    ·exfalso
     have:=CK hB (listed:=λq=>listed.getD q false=true) (λk o hk hki q hq=>hdc k o hk hki q hq) ho (by omega) hw j0 (by omega)
     rw [hget j0 (by omega),hf0] at this; cases this
   have htake:(l.take m)[i]? = some o:=by rw [SG,RU him]; exact ho
   have hnl:listed.getD i false=false:=by rw [hget i h1']; exact h2
   have hCal:∀ c ∈ C.getD i [],c ∈ (List.range K).filter (alive m C listed):=by
    intro c hc;rw [S0,SL,sV];refine ⟨hT.lt c (RO _ (hT.mem hc)),?_,?_⟩
    ·rcases hT.wait i o him ho c hc with h | h
     ·exact .inl h
     ·exact .inr (hw c h)
    ·intro i' hi' hl' hc'
     have:=hT.uniq hc hc';subst this;rw [hnl] at hl'; cases hl'
   let A:=(List.range K).filter (alive m C listed)
   let Bs:=A.filter (λc=>!(C.getD i []).contains c)
   have hAnd:A.Nodup:=List.nodup_range.filter _;have hBnd:Bs.Nodup:=hAnd.filter _;have hperm:(A.flatMap R++M).Perm ((C.getD i []++Bs).flatMap R++M):=by
    refine Ai hAnd ?_ ?_ R M
    ·refine SM.2 ⟨hT.Rc i,hBnd,?_⟩
     rintro a ha b hb rfl;have:=(S0.1 hb).2;simp at this;exact this (by simpa [Su] using ha)
    ·intro q
     rw [RZ];constructor
     ·intro hq
      by_cases hqc:q ∈ C.getD i []
      ·exact .inl hqc
      ·exact .inr (S0.2 ⟨hq,by simpa using hqc⟩)
     ·rintro (hq | hq)
      ·exact hCal q hq
      ·exact (S0.1 hq).1
   have ht1:=ht.perm hperm;rw [U2,Sc] at ht1
   let Rest:=Bs.flatMap R++M
   let X1:Env:=(List.range m).filterMap λj=>if listed.getD j true then (l[j]?).bind λo=>o.dst.map λu=>(u,a.tmps.getD u undef) else none
   let X2:Env:=(L.map (·.1)).filterMap λt=>if (List.range m).all (λw=>match (l[w]?).bind (·.dst) with
    | some u=>!Nat.beq u t || !listed.getD w false
    | none=>true) then (lk L t).map λv=>(t,v) else none
   let X:Env:=X1++X2
   have hX2:∀ u v,(u,v) ∈ X2->a.tmps[u]? = some v:=by
    intro u v O;obtain ⟨t,ht',hh⟩:=VL.1 O
    split at hh
    ·rename_i hall2
     rw [Vi] at hh;obtain ⟨v',hv',hh⟩:=hh;cases hh;refine hsl _ _ hv' (λw' o' hw' ho' hd'=>?_);rw [S2] at hall2;have h9:=hall2 w' (SL.2 hw');rw [ho'] at h9;simp only [T9,hd'] at h9;have h10:Nat.beq u u=true:=Nat.beq_refl u;rw [h10] at h9;simpa using h9
    ·cases hh
   have hX1:∀ u v,(u,v) ∈ X1->a.tmps[u]? = some v:=by
    intro u v O;obtain ⟨j,hj,hh⟩:=VL.1 O
    split at hh
    ·rename_i hlj
     rw [VZ] at hh;obtain ⟨oj,Z,hh⟩:=hh;rw [Vi] at hh;obtain ⟨u',hu',hh⟩:=hh;cases hh;obtain ⟨v',hv',_⟩:=hv j oj (SL.1 hj) Z hlj;rw [hu'] at hv';simp only [ui] at hv';simp [SE,hv']
    ·cases hh
   have hX:∀ u v,(u,v) ∈ X->a.tmps[u]? = some v:=λu v O=>(RZ.1 O).elim (hX1 u v) (hX2 u v);have hdep:=(yg.at hop i o htake) H' hle X Rest (λs hs=>SV _ hs);simp only [Se] at hdep;have hwl:∀ j ∈ iV o,j<m/\listed.getD j true=true:=λj hj=>by
    have h3:=rU hB ho j hj;refine ⟨by omega,?_⟩
    rw [<- hget j (by omega)]; exact hw j hj
   have hEi:∀ t v,lk (Es.getD i []) t=some v->a.tmps[t]? = some v:=by
    intro t v h;refine hsl t v (hE i t v h) (λw' o' hw' ho' hd'=>?_);cases hlw:listed.getD w' false with
    | false=>rfl
    | true=>
     exfalso;unfold Ei at hX0;rw [S2] at hX0;have h1:=hX0 i (SL.2 him);rw [S2] at h1;have h2:=h1 t (SC.2 ⟨_,G1 h,rfl⟩);rw [S2] at h2;have h3:=h2 w' (SL.2 hw');rw [ho'] at h3;simp only [T9,hd'] at h3;have h10:Nat.beq t t=true:=Nat.beq_refl t;rw [h10] at h3;simp only [Bool.not_true,V5] at h3;have:=yC (listed:=λq=>listed.getD q false=true) (λk o hk hki q hq=>hdc k o hk hki q hq) l [] (λk q hk=>by simpa using hk) (λk hk=>by simp at hk) w' (by simp; omega) o' ho' (λq hq=>hdc w' o' ho' hlw q hq) i h3
     rw [hnl] at this; cases this
   have hsE:Sl x.N (Es.getD i []++(L0++X)) a:=by
    refine ⟨hs.size,hs.Ft,λt v h=>?_⟩;rw [AG] at h;cases hl:lk (Es.getD i []) t with
    | some u=>rw [hl] at h; simp at h; subst h; exact hEi t _ hl
    | none=>rw [hl] at h; simp at h; exact (hs.more hX).get t v h
   obtain ⟨Y,R',hk,hsY,hY,hR1,hR2⟩:=xp.use (Rt:=R) hdep hsE (λj hj=>by
    have hj':=hwl j hj;have Z:l[j]? = some l[j]:=RK (by omega)
    rw [Z];exact hv j _ hj'.1 Z hj'.2)
   have hRC:∀ c ∈ C.getD i [],R' c=R c:=by
    intro c hc;rcases hT.wait i o him ho c hc with h | h
    ·rw [hR2 c (λhcm=>by have:=hwl c hcm; omega),vp c h]
    ·exact hR1 c h
   have hRU:∀ u ∈ U.getD i [],R' u=R u:=by
    intro u hu;have h5:=hT.PR i o him ho u hu;rcases h5.1 with h | h
    ·rw [hR2 u (λhcm=>by have:=hwl u hcm; omega),vp u h]
    ·exact hR1 u h
   have hUB:∀ u ∈ U.getD i [],u ∈ Bs:=by
    intro u hu;have h5:=hT.PR i o him ho u hu;refine S0.2 ⟨S0.2 ⟨SL.2 h5.2,sV.2 ⟨?_,?_⟩⟩,?_⟩
    ·rcases h5.1 with h | h
     ·exact .inl h
     ·exact .inr (hw u h)
    ·intro i' hi' hl' hc'
     have h6:=hT.PQ i him u hu i' hi' hc';have hoi:l[i']? = some l[i']:=RK (by omega)
     have:=yC (listed:=λq=>listed.getD q false=true) (λk o hk hki q hq=>hdc k o hk hki q hq) l [] (λk q hk=>by simpa using hk) (λk hk=>by simp at hk) i' (by simp; omega) _ hoi (λq hq=>hdc i' _ hoi hl' q hq) i h6
     rw [hnl] at this; cases this
    ·have h7:u ∉ C.getD i []:=by
      intro hc;have h6:=hT.PQ i him u hu i him hc;have hoi:l[i]? = some o:=ho;have:=yC (listed:=λq=>q<i) (λk o hk hki q hq=>by have:=rU hB hk q hq; omega) l [] (λk q hk=>by simpa using hk) (λk hk=>by simp at hk) i (by simpa using h1') o hoi (λq hq=>rU hB ho q hq) i h6
      omega
     simpa using h7
   have hUR:∀ s ∈ uH (U.getD i []) R' [],s ∈ Rest:=by
    rw [Ar,Ss];intro s hs;obtain ⟨u,hu,hsu⟩:=TN.1 hs;rw [hRU u hu] at hsu;exact RO _ (TN.2 ⟨u,hUB u hu,hsu⟩)
   have hUP:∃ Rr,(uH (U.getD i []) R' Rr).Perm Rest:=by
    refine ⟨(Bs.filter λc=>!(U.getD i []).contains c).flatMap R++M,?_⟩;rw [Ar,va (R:=R') (R':=R) hRU,<- Sc,<- U2];refine Ai ?_ hBnd ?_ R M
    ·refine SM.2 ⟨hT.QJ i him,hBnd.filter _,?_⟩
     rintro a ha b hb rfl;have:=(S0.1 hb).2;simp at this;exact this (by simpa [Su] using ha)
    ·intro q
     rw [RZ];constructor
     ·rintro (hq | hq)
      ·exact hUB q hq
      ·exact (S0.1 hq).1
     ·intro hq
      by_cases hqu:q ∈ U.getD i []
      ·exact .inl hqu
      ·exact .inr (S0.2 ⟨hq,by simpa using hqu⟩)
   have hone:=hk hUR hUP a w hsY (by
    rw [Ar,va (R:=R') (R':=R) hRC];exact ht1)
   have fin2:∀ a' w',DT x H' Rest (Y++(Es.getD i []++(L0++X))) o.dst (H8 l i) (Φ i) .normal a' w'->wpAny x.P .any l.toArray Q J (listed.setIfInBounds i true) a' w':=by
    rintro a' w' ⟨_,v,H2,rs,hs2,hnv,hle2,ht2,hφ⟩;have hcv:ui a' v o.dst (H8 l i):=by
     cases hd:o.dst with
     | none=>
      cases hk:H8 l i with
      | none=>rw [hd,hk] at hnv; exact hnv
      | some s=>rw [hd,hk] at hnv; rw [hd] at hs2; exact hs2.get s v hnv
     | some t=>rw [hd] at hs2; exact hs2.get t v (by simp only [MZ]; rw [uj]; simp)
    have hput:∀ u,o.dst≠some u->lk (MZ o.dst v (Y++(Es.getD i []++(L0++X)))) u=lk (Y++(Es.getD i []++(L0++X))) u:=by
     intro u hne;cases hd:o.dst with
     | none=>rfl
     | some t=>
      simp only [MZ];rw [uj,RS (λe=>hne (by rw [hd,e]))]
    have hYt:∀ u z,(u,z) ∈ Y++X->o.dst≠some u->a'.tmps[u]? = some z:=by
     intro u z O hne;have hz:a.tmps[u]? = some z:=by
      rcases RZ.1 O with O | O
      ·exact hY u z O
      ·exact hX u z O
     have hlk:∃ z',lk (Y++(Es.getD i []++(L0++X))) u=some z':=by
      have hsome:∀ {E:Env}{u:Nat}{z:RJ},(u,z) ∈ E->∃ z',lk E u=some z':=by
       intro E u z
       induction E with
       | nil=>simp
       | cons p E ihE=>
        obtain ⟨q,r⟩:=p;intro O;rw [uj]
        split
        ·exact ⟨_,rfl⟩
        ·rename_i hne
         rcases SA.1 O with e | O
         ·cases e; exact absurd rfl hne
         ·exact ihE O
      rcases RZ.1 O with O | O
      ·exact hsome (RO _ O)
      ·exact hsome (SV _ (SV _ (SV _ O)))
     obtain ⟨z',hz'⟩:=hlk;have e1:=hsY.get u z' hz';rw [hz] at e1;cases e1;exact hs2.get u z (by rw [hput u hne]; exact hz')
    have hset:∀ j,(listed.setIfInBounds i true).getD j false=if j=i then true else listed.getD j false:=λj=>vE _ _ _ _ (by omega)
    refine ih (listed.setIfInBounds i true) a' w' H2 (CX R i rs) (by simpa using hsz) (by have:=K1 (l:=l) hsz h1' h2; omega) (λj hj hjl=>by rw [vE _ _ _ _ (by omega),RS (by omega)]; exact htl j hj hjl) ?_ (Vx hle hle2) ?_ ?_ ?_ ?_ ?_
    ·intro j oj Z hlj q hq
     rw [hset] at hlj ⊢
     split at hlj
     ·rename_i e; subst e
      rw [ho] at Z; cases Z
      split
      ·rfl
      ·exact hw q hq
     ·split
      ·rfl
      ·exact hdc j oj Z hlj q hq
    ·
     have hiB:i ∉ Bs:=by
      intro hmB;have:=(S0.1 hmB).1;rw [S0,sV] at this;rcases this.2.1 with h | h
      ·omega
      ·rw [hnl] at h; cases h
     have e1:rs++Rest=((i::Bs).flatMap (CX R i rs))++M:=by
      rw [S6,AW,va (A:=Bs) (R:=CX R i rs) (R':=R) (λq hq=>Bw _ _ _ _ (λe=>hiB (by rw [<- e]; exact hq))),Sc]
     rw [e1] at ht2;refine ht2.perm (Ai (Va.2 ⟨hiB,hBnd⟩) (List.nodup_range.filter _) ?_ _ M);intro q;rw [SA,S0,S0,S0,SL,sV,sV];constructor
     ·rintro (rfl | ⟨⟨hqK,hq1,hq2⟩,hq3⟩)
      ·refine ⟨by omega,.inr (by rw [hset,RU rfl]),?_⟩
       intro i' hi' hl' hc';rw [hset] at hl'
       split at hl'
       ·rename_i e; subst e
        rcases hT.wait i' o hi' ho _ hc' with h | h
        ·omega
        ·have:=rU hB ho _ h; omega
       ·have hoi:l[i']? = some l[i']:=RK (by omega)
        rcases hT.wait i' _ hi' hoi _ hc' with h | h
        ·omega
        ·have:=hdc i' _ hoi hl' _ h
         rw [hnl] at this; cases this
      ·refine ⟨hqK,?_,?_⟩
       ·rcases hq1 with h | h
        ·exact .inl h
        ·exact .inr (by rw [hset]; split <;> simp [h])
       ·intro i' hi' hl' hc'
        rw [hset] at hl'
        split at hl'
        ·rename_i e; subst e
         simp at hq3;exact hq3 (by simpa [Su] using hc')
        ·exact hq2 i' hi' hl' hc'
     ·rintro ⟨hqK,hq1,hq2⟩
      by_cases hqi:q=i
      ·exact .inl hqi
      ·refine .inr ⟨⟨hqK,?_,?_⟩,?_⟩
       ·rcases hq1 with h | h
        ·exact .inl h
        ·rw [hset,RS hqi] at h; exact .inr h
       ·intro i' hi' hl' hc'
        exact hq2 i' hi' (by rw [hset]; split <;> simp [hl']) hc'
       ·have:=hq2 i him (by rw [hset,RU rfl])
        simpa using this
    ·exact ⟨hs2.size,hs2.Ft,λu z hu=>by simp [lk] at hu⟩
    ·intro u z hu hun
     have hne:o.dst≠some u:=λe=>by
      have:=hun i o him ho e;rw [hset,RU rfl] at this; cases this
     refine hYt u z (SV _ (SV _ (VL.2 ⟨u,SC.2 ⟨_,G1 hu,rfl⟩,?_⟩))) hne;rw [RU,hu]
     ·rfl
     ·rw [S2]
      intro w' hw';have hw'':=SL.1 hw';have hoi:l[w']? = some l[w']:=RK (by omega)
      rw [hoi];simp only [T9];cases hd':l[w'].dst with
      | none=>rfl
      | some q=>
       by_cases e:q=u
       ·subst e
        have h9:=hun w' _ hw'' hoi hd';rw [hset] at h9
        split at h9
        ·cases h9
        ·simp [h9]
       ·have:Nat.beq q u=false:=by
         cases hb:Nat.beq q u with
         | false=>rfl
         | true=>exact absurd (T7 hb) e
        simp [this]
    ·intro q hq
     rw [Bw _ _ _ _ (by omega)]; exact vp q hq
    ·intro j oj hjm Z hlj
     rw [vE _ _ _ _ (by omega)] at hlj
     by_cases e:j=i
     ·subst e
      rw [ho] at Z; cases Z
      rw [AW];exact ⟨v,hcv,hφ⟩
     ·rw [RS e] at hlj
      rw [Bw _ _ _ _ e];obtain ⟨z,hz,hφj⟩:=hv j oj hjm Z hlj;refine ⟨z,?_,hmono _ _ _ _ _ hle2 hφj⟩;have hNd2:∀ (j:Nat) (oj:Oper) (u:Nat),j<m->l[j]? = some oj->j≠i->oj.dst=some u->o.dst≠some u:=by
       intro j oj u hjm Z e hdj e2;unfold zv at hNd;have hnd:=RT hNd;have hnd2:(l.take m).Pairwise (λo1 o2=>∀ u,o1.dst=some u->∀ u',o2.dst=some u'->u≠u'):=by
        unfold List.Nodup at hnd;rw [List.pairwise_filterMap] at hnd;exact hnd.imp λh u hu u' hu'=>h u hu u' hu'
       have htj:(l.take m)[j]? = some oj:=by rw [SG,RU hjm]; exact Z
       obtain ⟨hi',p1⟩:=RP.1 htake;obtain ⟨hj',p2⟩:=RP.1 htj;have hpw:=Ut.1 hnd2;rcases Nat.lt_or_gt_of_ne e with q | q
       ·exact hpw j i hj' hi' q u (by rw [p2]; exact hdj) u (by rw [p1]; exact e2) rfl
       ·exact hpw i j hi' hj' q u (by rw [p1]; exact e2) u (by rw [p2]; exact hdj) rfl
      have hkeep:∀ (j:Nat) (oj:Oper) (u:Nat),j<m->l[j]? = some oj->listed.getD j true=true->j≠i->oj.dst=some u->a.tmps[u]? = some z->a'.tmps[u]? = some z:=by
       intro j oj u hjm Z hlj e hdj hz;refine hYt u z (SV _ (RO _ (VL.2 ⟨j,SL.2 hjm,?_⟩))) (hNd2 j oj u hjm Z e hdj);simp [hlj,Z,hdj,SE,hz]
      cases hdj:oj.dst with
      | none=>
       rw [hdj] at hz;cases hk:H8 l j with
       | none=>rw [hk] at hz; exact hz
       | some s=>
        rw [hk] at hz;simp only [ui] at hz ⊢;obtain ⟨o2,ho2,_,w2,hw2,hd2⟩:=OL hk;rw [Z] at ho2; cases ho2
        have hlt2:=rU hB Z w2 hw2;have hl2:=hdc j oj Z (by rw [hget j (by omega)]; exact hlj) w2 hw2
        have hne2:w2≠i:=by rintro rfl; rw [hnl] at hl2; cases hl2
        rw [VZ] at hd2;obtain ⟨ow,how,hdw⟩:=hd2;exact hkeep w2 ow s (by omega) how (by rw [<- hget w2 (by omega)]; exact hl2) hne2 hdw hz
      | some u=>
       rw [hdj] at hz;simp only [ui] at hz ⊢;exact hkeep j oj u hjm Z hlj e hdj hz
   unfold wpOp;rw [show l.toArray[i]? = some o from by simpa using ho]
   unfold wpList at hone
   dsimp only
   by_cases hwn:Region.wanted o (yielded l.toArray a.tmps)=true
   ·rw [RU hwn] at hone ⊢
    left
    rcases hone with h | ⟨_,a1,w1,h,_⟩
    ·unfold Oper.wp at h ⊢
     generalize (execOp a.eval o).run x.P w=r at h;have fin':∀ a' w',wpList x.P l.toArray (DT x H' Rest (Y++(Es.getD i []++(L0++X))) o.dst (H8 l i) (Φ i)) [] a' w'->wpAny x.P .any l.toArray Q J (listed.setIfInBounds i true) a' w':=λa' w' h=>fin2 a' w' h;cases r with
     | ok n w2=>
      cases n <;> simp only [Oper.upon] at h ⊢ <;> first
       | exact fin' _ _ h
       | exact Calls.mono h (λe w3 he=>match e,he with
         | .returned v,he=>fin' _ _ he
         | .panicked c,he=>absurd he.1 (by simp)
         | .outgrown,he=>absurd he.choose_spec.choose_spec.1 (by simp))
       | exact Rows.mono h (λv w3 he=>fin' _ _ he)
     | halt y w2=>
      cases y <;> simp only [Oper.upon] at h ⊢
      exact absurd h.1 (by simp)
    ·cases h
   ·rw [RS hwn] at hone ⊢
    exact fin2 _ _ hone
def E4 (L:Env):List Env->Prop
 | []=>True
 | E::r=>Kept L E/\E4 L r
theorem E4.get {L:Env}:∀ {Es:List Env},E4 L Es->∀ i t v,lk (Es.getD i []) t=some v->lk L t=some v
 | [],_,i,t,v,h=>by simp [lk] at h
 | E::r,hk,0,t,v,h=>hk.1.lk t v (by simpa using h)
 | E::r,hk,i+1,t,v,h=>E4.get hk.2 i t v (by simpa using h)
theorem zJ {id:Nat} (m:Nat) (Φ:Oi) (C U:List (List Nat)) (I:List (List bN)) (live:List Nat) (L0:Env) (Es:List Env) (hmix:x.P.follows .mixedOrders=true) (hB:vY l m=true) (hml:Nat.ble m l.length=true) (hD:zu l m L0=true) (hX:Ei l m Es=true) (hL0:∀ t v,lk L0 t=some v->lk L t=some v) (hE:E4 L Es) (hNd:zv l m=true)
  (hT:Hr l m (m+I.length) C U live=true)
  (hmono:∀ i H1 H2 rs v,H1.le H2->Φ i H1 rs v->Φ i H2 rs v)
  (hop:yg x l Φ C U Es (E0 m I) H M L0 0 (l.take m))
  (k:∀ H',H.le H'->xp l Φ H' (List.range m) L0 (E0 m I) (λL' R=>W x l.toArray Q (l.drop m) H' (uH live R M) L')):Go.Sim.C x (.region id l.toArray true) Q H (I.flatten++M) L:=by
 intro a w hs ht;refine wp_region_any hmix ?_;have hml':m<=l.length:=by simpa [Uh] using hml
 have Y:∀ j,(Array.replicate l.toArray.size false).getD j true=if j<l.length then false else true:=by
  intro j;simp only [SE,Array.getElem?_replicate,Ux]
  split <;> simp
 have J:∀ j,(Array.replicate l.toArray.size false).getD j false=false:=by
  intro j;simp only [SE,Array.getElem?_replicate,Ux]
  split <;> simp
 have Z:((List.range (m+I.length)).filter (alive m C (Array.replicate l.toArray.size false))).flatMap (E0 m I)=I.flatten:=by
  rw [List.range_add,Ts];have e1:(List.range m).filter (alive m C (Array.replicate l.toArray.size false))=[]:=by
   rw [List.filter_eq_nil_iff];intro q hq;rw [sV];rintro ⟨h | h,_⟩
   ·have:=SL.1 hq; omega
   ·rw [J] at h; cases h
  have e2:((List.range I.length).map (m+·)).filter (alive m C (Array.replicate l.toArray.size false))=(List.range I.length).map (m+·):=by
   rw [Wr];intro q hq;obtain ⟨r,hr,rfl⟩:=SC.1 hq;rw [sV];exact ⟨.inl (by omega),λi _ h=>by rw [J] at h; cases h⟩
  rw [e1,e2,Tn,List.flatMap_map];have e3:(List.range I.length).flatMap (λq=>E0 m I (m+q))=((List.range I.length).map λq=>I.getD q []).flatten:=by
   rw [List.flatMap_def]
   congr 1
   refine List.map_congr_left λq _=>?_;unfold E0;rw [RS (by omega),TX]
  rw [e3]
  congr 1
  apply Tz;intro q;rw [Sq]
  by_cases hq:q<I.length
  ·rw [TQ hq,RK hq]; simp [Su,hq]
  ·rw [SQ (by simp; omega),SQ (by omega)]; rfl
 refine MW (Q:=Q) (K:=m+I.length) hB hml' hD hX hL0 (λi t v h=>hE.get i t v h) hNd (Nl hT) (by omega) hmono hop k l.toArray.size _ a _ H (E0 m I) (by simp) ?_ (λj hj hjl=>by rw [Y,RU hjl]) (λi o _ h=>by rw [J] at h; cases h) (SN _) ?_ ⟨hs.size,hs.Ft,λt v h=>by simp [lk] at h⟩ (λt v h _=>hs.get t v h) (λ_ _=>rfl) ?_
 ·unfold left
  exact SK (Uq ..) (by simp)
 ·rw [Z]; exact ht.drewN _
 ·intro i o hi ho hl
  rw [Y,RU (by omega)] at hl
  cases hl
theorem sj {id:Nat} (m:Nat) (Φ:Oi) (C U:List (List Nat)) (I:List (List bN)) (live:List Nat) (Y:x.P.follows .mixedOrders=true) (hB:vY l m=true) (hml:Nat.ble m l.length=true) (hD:zu l m L=true) (Z:zv l m=true)
  (hT:Hr l m (m+I.length) C U live=true)
  (J:∀ i H1 H2 rs v,H1.le H2->Φ i H1 rs v->Φ i H2 rs v)
  (hop:yg x l Φ C U [] (E0 m I) H M L 0 (l.take m))
  (k:∀ H',H.le H'->xp l Φ H' (List.range m) L (E0 m I) (λL' R=>W x l.toArray Q (l.drop m) H' (uH live R M) L')):Go.Sim.C x (.region id l.toArray true) Q H (I.flatten++M) L:=
 zJ m Φ C U I live L [] Y hB hml hD (by unfold Ei; simp) (λ_ _ h=>h) RM Z hT J hop k
end
section
variable {x:Cx}{ops:Array Oper}{Q:lU}{rest:List Oper}{H:Hp}{M M':List bN}{L L':Env}
theorem rp {M'} (h:M=M') (k:W x ops Q rest H M' L):W x ops Q rest H M L:=h▸k
theorem JM {c:Code}{M'} (h:M=M') (k:C x c Q H M' L):C x c Q H M L:=h▸k
theorem Ql {e:Exit}{M'} (h:M=M') (k:E x e Q H M' L):E x e Q H M L:=h▸k
theorem Gn {e:Exit} (I:M.Perm M') (k:E x e Q H M' L):E x e Q H M L:=λa w hs ht=>k a w hs (ht.perm I)
theorem BB {c:Code} (I:M.Perm M') (k:C x c Q H M' L):C x c Q H M L:=λa w hs ht=>k a w hs (ht.perm I)
theorem qK {c:Code}{v:RJ}{T:TypeId}{sz n:Nat}{xs:List RJ} (O:bN.row v T sz n xs ∈ M) (k:n<=maxLen->C x c Q H M L):C x c Q H M L:=λa w hs ht=>by
 have I:iW w T sz v n xs:=ht.ok _ O;refine k ?_ a w hs ht;rcases I.2 with ⟨_,rfl⟩ | ⟨g,off,cap,J,rfl,hg,Z,Y,_⟩
 ·unfold maxLen; omega
 ·omega
theorem Gp {e:Exit}{J:Hp} (I:J.le H) (k:E x e Q J M L):E x e Q H M L:=λa w hs ht=>k a w hs (ht.NG I)
end
section
variable {P:Program}{N B:Nat}{w0:World}{fn:Func}{Φ:Hp->List bN->RJ->Prop}{H:Hp}{M:List bN}{L:Env}
theorem Hw (k:E ⟨P,N,B,w0⟩ .ret (bodyPost P fn (uX B w0 Φ)) H M L):E ⟨P,N,B,w0⟩ .normal (bodyPost P fn (uX B w0 Φ)) H M L:=λa w hs ht=>k a w hs ht
theorem I8 (I:fn.results=#[]) (h:Φ H M (.tuple #[])):E ⟨P,N,B,w0⟩ .ret (bodyPost P fn (uX B w0 Φ)) H M L:=
 λa w hs ht=>⟨hs.Ft,.tuple #[],by simp [results,I],H,M,ht,h⟩
theorem Fx {t u s:Nat}{v1 v2 v3:RJ} (Y:fn.results=#[.tmp t,.tmp u,.tmp s]) (hl:lk L t=some v1) (I:lk L u=some v2) (J:lk L s=some v3) (h:Φ H M (.tuple #[v1,v2,v3])):E ⟨P,N,B,w0⟩ .ret (bodyPost P fn (uX B w0 Φ)) H M L:=
 λa w hs ht=>⟨hs.Ft,.tuple #[v1,v2,v3],by simp [results,Y,SE,hs.get t v1 hl,hs.get u v2 I,hs.get s v3 J],H,M,ht,h⟩
end
class Flat (α:Type) [aF α]:Prop where
 ind:∀ {H H':Hp}{cs:List RJ}{x:α},aF.E H cs x->aF.E H' cs x
instance:Flat Int:=⟨λh=>h⟩
instance:Flat Bool:=⟨λh=>h⟩
instance:Flat RI:=⟨λh=>h⟩
instance:Flat U8:=⟨λh=>h⟩
instance:Flat Qd:=⟨λh=>h⟩
instance:Flat bR:=⟨λh=>h⟩
instance:Flat Qe:=⟨λh=>h⟩
instance:Flat Qb:=⟨λh=>h⟩
theorem pX.flat {α:Type}[aF α] [Flat α] {H H':Hp}:∀ {cs:List RJ}{ys:List α},pX H cs ys->pX H' cs ys
 | _,[],h=>h
 | _,_::_,⟨c,r,e,h,k⟩=>⟨c,r,e,Flat.ind h,pX.flat k⟩
def uI {α:Type}[aF α] (v:RJ) (xs:List RJ) (l:List α):Prop:=∀ H,Rw H v xs l
def Qn {α:Type}[aF α] (xs:List RJ) (l:List α):Prop:=∀ H,pX H xs l
theorem Rw.pY {α:Type}[aF α] [Flat α] {H:Hp}{v:RJ}{xs:List RJ}{l:List α} (h:Rw H v xs l):uI v xs l:=λH'=>⟨h.rd.flat,h.sl⟩
theorem pX.pY {α:Type}[aF α] [Flat α] {H:Hp}{xs:List RJ}{l:List α} (h:pX H xs l):Qn xs l:=λH'=>h.flat
def Dc {α R:Type} (o:Option α) (a:R) (f:α->R):R:=match o with
 | none=>a
 | some s=>f s
theorem AM {α R:Type}{o:Option α}{a:R}{f:α->R}{r:R} (h:o=none) (k:Dc o a f=r):a=r:=by subst h; exact k
theorem AN {α R:Type}{o:Option α}{a:R}{f:α->R}{s:α}{r:R} (h:o=some s) (k:Dc o a f=r):f s=r:=by subst h; exact k
def Aj (l:List (Hp->List bN->RJ->Prop)) (i:Nat):Hp->List bN->RJ->Prop:=l.getD i (λ_ _ _=>True)
def NW (p:Hp->List bN->RJ->Prop):Prop:=∀ I J rs v,I.le J->p I rs v->p J rs v
def BF:List (Hp->List bN->RJ->Prop)->Prop
 | []=>True
 | p::l=>NW p/\BF l
theorem vx {l:List (Hp->List bN->RJ->Prop)} (h:BF l):∀ i I J rs v,I.le J->Aj l i I rs v->Aj l i J rs v:=by
 induction l with
 | nil=>intro i I J rs v _ _; exact RM
 | cons p l ih=>
  intro i I J rs v Y Z;cases i with
  | zero=>exact h.1 I J rs v Y Z
  | succ i=>exact ih h.2 i I J rs v Y Z
theorem gP (I:List bN) (c:RJ):NW (λ_ rs v=>I=rs/\c=v):=λ_ _ _ _ _ h=>h
theorem IS {α:Type}{f:α->RJ}{l:List α}{k:Nat}{y:α} (he:l[k]? = some y):(l.map f)[k*1]? = some (f y):=by
 rw [Ud,Sq,he]; rfl
section
variable {x:Cx}{ops:Array Oper}{Q:lU}{rest:List Oper}{H:Hp}{M M':List bN}{L L':Env}
variable {d:Nat}{ty:TypeId}{pos:String}{aft:Array Edge}{g:Option (Nat×Bool)}
theorem oH {t e m sz:Nat}{y z:Operand}{ad:Addr}{kk:IntKind}{i:Int}
  (hg:gd ops L ⟨some d,.indexAddr t y z,ty,pos,aft,g⟩=some true) (hN:Nat.blt d x.N=true)
  (Z:∀ w,(underlying t).run x.P w=.ok (.array m e) w) (hs:∀ w,(sizeOf e).run x.P w=.ok sz w)
  (hy:ev L y=some (.pointer (some ad))) (hz:ev L z=some (.int kk i)) (Y:0<=i) (h1:i.toNat<m)
  (k:W x ops Q rest H M ((d,.pointer (some (ad.add (i.toNat*sz))))::L)):
  W x ops Q (⟨some d,.indexAddr t y z,ty,pos,aft,g⟩::rest) H M L:=
 eQ rfl hg hN (λc w I ht=>by
  have J:i<(m:Int):=by omega
  simp [execOp,I.ev hy,I.ev hz,Instr.indexAt,asIntOf,Z,hs,Y,J,Instr.sureAddr]) k
theorem IH {T E:TypeId}{m sz n n' i:Nat}{y z:Operand}{v u:RJ}{ad:Addr}{xs cs:List RJ} (hg:gd ops L ⟨none,.store T y z,ty,pos,aft,g⟩=some true)
  (hn:∀ w,(sizeOf T).run x.P w=.ok m w) (hy:ev L y=some (.pointer (some ad))) (J:ad=(Value.base v).add i) (hz:ev L z=some u) (hv:u.cells=cs.toArray) (hl:cs.length=m)
  (hb:i+cs.length<=xs.length) (I:Nat.blt 0 cs.length=true) (Z:∀ c ∈ cs,c.oneCell'=true) (Y:n'=n)
  (k:W x ops Q rest H (.row v E sz n' (over xs i cs)::M) L):
  W x ops Q (⟨none,.store T y z,ty,pos,aft,g⟩::rest) H (.row v E sz n xs::M) L:=by
 subst Y;exact yk hg hn hy J hz hv hl hb I Z k
theorem zn {T e m sz:Nat}{I:List (Nat×Operand)}{vs:List RJ}{css:List (List RJ)}{z:RJ}{zs out:List RJ}{places:List (Nat×Nat)}
  (hg:gd ops L ⟨some d,.build T I.toArray,ty,pos,aft,g⟩=some true) (hN:Nat.blt d x.N=true)
  (hv:zw L (I.map (·.2))=some vs) (hc:Ax vs css)
  (hz:∀ w,(zeroValue T).run x.P w=.ok z w) (hzs:z.cells=zs.toArray) (hT:∀ w,(underlying T).run x.P w=.ok (.array m e) w) (hs:∀ w,(sizeOf e).run x.P w=.ok sz w)
  (Z:places=(List.range m).map λi=>(i*sz,sz))
  (ho:laid places zs ((I.map (·.1)).zip css)=some out)
  (k:W x ops Q rest H M ((d,.agg out.toArray)::L)):
  W x ops Q (⟨some d,.build T I.toArray,ty,pos,aft,g⟩::rest) H M L:=
 eQ rfl hg hN (λa w J ht=>by
  have hl:(I.map (·.1)).length=vs.length:=by rw [<- J.zw hv]; simp
  have hf:=wZ (place:=λi=>some (i*sz,sz)) (places:=places) (λi o h=>by
   rw [Z,Sq] at h;cases Y:(List.range m)[i]? with
   | none=>rw [Y] at h; cases h
   | some j=>
    rw [Y] at h;have:j=i:=by
     have:=RP.1 Y;simpa using this.2.symm
    subst this;simpa using h) (I.map (·.1)) vs css zs out hc hl ho
  have hps:=Bp J hv;simp only [execOp,Instr.build,R4,hz,RX,hT,hzs,hs];simp only [hps,hf,Sb,RX]) k
theorem gH {α:Type}[aF α] {T e:TypeId}{n:Nat}{J:List (Nat×Operand)}{vs:List RJ}{css:List (List RJ)}{z:RJ}{zs out:List RJ}{places:List (Nat×Nat)}{ys:List α}
  (hg:gd ops L ⟨some d,.buildSlice T n J.toArray,ty,pos,aft,g⟩=some true) (hN:Nat.blt d x.N=true)
  (hv:zw L (J.map (·.2))=some vs) (hc:Ax vs css)
  (hT:∀ w,(underlying T).run x.P w=.ok (.slice e) w) (hs:∀ w,(sizeOf e).run x.P w=.ok (aF.sz α) w) (hs0:Nat.blt 0 (aF.sz α)=true)
  (hz:∀ w,(zeroValue e).run x.P w=.ok z w) (hzs:(Array.range (n*aF.sz α)).map (z.cells[·%z.cells.size]!)=zs.toArray)
  (hpl:places=(List.range n).map λi=>(i*aF.sz α,aF.sz α)) (hn:Nat.ble (n*aF.sz α) 16777216=true) (hnn:Nat.blt 0 n=true)
  (ho:laid places zs ((J.map (·.1)).zip css)=some out) (hr:pX H out ys) (hyn:ys.length=n)
  (k:∀ v' xs',Rw H v' xs' ys->W x ops Q rest H (.row v' e (aF.sz α) ys.length xs'::M) ((d,v')::L)):
  W x ops Q (⟨some d,.buildSlice T n J.toArray,ty,pos,aft,g⟩::rest) H M L:=by
 refine s8 rfl hg hN λa w hsl ht=>?_;have hl:(J.map (·.1)).length=vs.length:=by rw [<- hsl.zw hv]; simp
 have I:0<aF.sz α:=by simpa [SY] using hs0
 have hn':n*aF.sz α<=16777216:=by simpa [Uh] using hn
 have Z:0<n:=by simpa [SY] using hnn
 have hpos:0<n*aF.sz α:=Nat.mul_pos Z I;have hf:=wZ (place:=λi=>some (i*aF.sz α,aF.sz α)) (places:=places) (λi o h=>by
  rw [hpl,Sq] at h;cases hh:(List.range n)[i]? with
  | none=>rw [hh] at h; cases h
  | some j=>
   rw [hh] at h;have:j=i:=by
    have:=RP.1 hh;simpa using this.2.symm
   subst this;simpa using h) (J.map (·.1)) vs css zs out hc hl ho
 have hps:=Bp hsl hv;have hsz:out.length=n*aF.sz α:=by rw [hr.len,hyn]
 have Y:ys.length<=maxLen:=by
  unfold maxLen;have:n<=n*aF.sz α:=Uz _ I;omega
 refine ⟨.slice (some ⟨w.heap.size,0,none⟩) ys.length ys.length,w.alloc (.cells out.toArray e),?_,H,_,St.newRow (e:=e) ht hr Y,k _ _ ⟨hr,_,_,_,rfl⟩⟩;have h1:¬ (2 ^ 24<n*aF.sz α):=by omega
 have h2:¬ (n*aF.sz α=0):=by omega
 simp only [execOp,Instr.buildSlice,R4,hT,RX,hs,gt_iff_lt,h1,h2,T5,hz,Sb];simp only [hps];have hf':Instr.fill (λi=>some (i*aF.sz α,aF.sz α)) ((Array.range (n*aF.sz α)).map (z.cells[·%z.cells.size]!)) ((List.map (λx=>x.fst) J).zip vs)=some out.toArray:=by
  rw [hzs]; exact hf
 simp only [hf',newRow,newObj,R4,Sb,Sem.run,RX,World.alloc,hyn]
end
inductive fV (P:Program) (M:List bN) (L:Env):ResultVar->RJ->Prop
 | tmp {t}{v:RJ} (h:lk L t=some v):fV P M L (.tmp t) v
 | one {t ty b T}{l:List RJ}{fz}{v:RJ} (h:lk L t=some (.pointer (some ⟨b,0,none⟩))) (hA:∀ w,(isAgg ty).run P w=.ok false w) (O:bN.obj b (.cells (v::l).toArray T fz) ∈ M):fV P M L (.cell t ty) v
 | agg {t ty b T}{l:List RJ}{fz n} (h:lk L t=some (.pointer (some ⟨b,0,none⟩))) (hA:∀ w,(isAgg ty).run P w=.ok true w) (hn:∀ w,(sizeOf ty).run P w=.ok n w) (O:bN.obj b (.cells l.toArray T fz) ∈ M) (hl:l.length=n):fV P M L (.cell t ty) (.agg l.toArray)
 | arr {t ty v T sz k}{xs:List RJ}{n} (h:lk L t=some (.pointer (some (Value.base v)))) (hA:∀ w,(isAgg ty).run P w=.ok true w) (hn:∀ w,(sizeOf ty).run P w=.ok n w) (O:bN.row v T sz k xs ∈ M) (hl:xs.length=n):fV P M L (.cell t ty) (.agg xs.toArray)
def Jb (I:Array RJ):ResultVar->Sem RJ
 | .tmp t=>pure (I.getD t undef)
 | .cell a t=>do loadVar t (<- asAddr (I.getD a undef))
theorem yF (fn:Func) (I:Array RJ):results fn I=(do
  let vs <- fn.results.mapM (Jb I)
  pure (if h:vs.size=1 then vs[0] else .tuple vs)):=rfl
theorem fV.run {P:Program}{M:List bN}{L:Env}{N B:Nat}{w0 w:World}{H:Hp}{a:Act}{rv:ResultVar}{v:RJ} (h:fV P M L rv v) (hs:Sl N L a) (ht:St B w0 H M w):
  (Jb a.tmps rv).run P w=.ok v w:=by
 cases h with
 | tmp h=>simp [Jb,SE,hs.get _ _ h]
 | one h hA O=>
  have J:=(wS (x:=⟨P,N,B,w0⟩) (H:=H) O (off:=0) (v:=v) rfl) w ht;simp [Jb,SE,hs.get _ _ h,asAddr,loadVar,hA,load,Sem.run,J]
 | agg h hA hn O hl=>
  rename_i t ty b T l fz n
  have J:=(EI (x:=⟨P,N,B,w0⟩) (H:=H) O);have I:=run_loadCellsFrom (P:=P) (w:=w) (ad:=⟨b,0,none⟩) l 0 #[] (λj v Z=>by rw [Se]; exact J j v Z w ht)
  rw [hl] at I;simp [Jb,SE,hs.get _ _ h,asAddr,loadVar,hA,hn,loadCells,I]
 | arr h hA hn O hl=>
  rename_i t ty v T sz k xs n
  have I:=run_loadCellsFrom (P:=P) (w:=w) (ad:=Value.base v) xs 0 #[] (λj u Y=>by rw [Se]; exact (CQ (x:=⟨P,N,B,w0⟩) (H:=H) O Y) w ht)
  rw [hl] at I;simp [Jb,SE,hs.get _ _ h,asAddr,loadVar,hA,hn,loadCells,I]
section
variable {P:Program}{N B:Nat}{w0:World}{fn:Func}{Φ:Hp->List bN->RJ->Prop}{H H0:Hp}{M M1 M2:List bN}{L:Env}
theorem kP {J:ResultVar}{v1:RJ} (I:H0.le H) (hr:fn.results=#[J]) (Y:fV P M L J v1) (Z:M1.Sublist M) (hp:M1.Perm M2) (h:Φ H0 M2 v1):
  E ⟨P,N,B,w0⟩ .ret (bodyPost P fn (uX B w0 Φ)) H M L:=λa w hs ht=>by
 have q1:=Y.run hs ht;refine ⟨hs.Ft,v1,?_,H0,M2,((ht.sub Z).perm hp).NG I,h⟩;rw [yF,hr];simp [q1]
theorem Ds {J Y:ResultVar}{v1 v2:RJ} (I:H0.le H) (hr:fn.results=#[J,Y]) (Z:fV P M L J v1) (h2:fV P M L Y v2) (hd:M1.Sublist M) (hp:M1.Perm M2) (h:Φ H0 M2 (.tuple #[v1,v2])):
  E ⟨P,N,B,w0⟩ .ret (bodyPost P fn (uX B w0 Φ)) H M L:=λa w hs ht=>by
 have q1:=Z.run hs ht;have q2:=h2.run hs ht;refine ⟨hs.Ft,_,?_,H0,M2,((ht.sub hd).perm hp).NG I,h⟩;rw [yF,hr];simp [q1,q2]
theorem Ca {J Y Z:ResultVar}{v1 v2 v3:RJ} (I:H0.le H) (hr:fn.results=#[J,Y,Z]) (h1:fV P M L J v1) (h2:fV P M L Y v2) (h3:fV P M L Z v3) (hd:M1.Sublist M) (hp:M1.Perm M2) (h:Φ H0 M2 (.tuple #[v1,v2,v3])):
  E ⟨P,N,B,w0⟩ .ret (bodyPost P fn (uX B w0 Φ)) H M L:=λa w hs ht=>by
 have q1:=h1.run hs ht;have q2:=h2.run hs ht;have q3:=h3.run hs ht;refine ⟨hs.Ft,_,?_,H0,M2,((ht.sub hd).perm hp).NG I,h⟩;rw [yF,hr];simp [q1,q2,q3]
end
theorem aP.shape {α:Type}[aF α] {H:Hp}{v:RJ}{xs:List α} (h:aP H v xs):∃ o n c,v=.slice o n c:=by
 obtain ⟨a,c,rfl,_⟩:=h.len; exact ⟨_,_,_,rfl⟩
theorem aP.isNil {α:Type}[aF α] {H:Hp}{n c:Nat}{xs:List α} (h:aP H (.slice none n c) xs):xs=[]:=by
 rcases h with ⟨_,h⟩ | ⟨b,off,cap,arr,T,fz,h,_⟩
 ·exact h
 ·cases h
def Pp {α:Type} (v:RJ) (l:List α):Prop:=(∃ n c,v=.slice none n c/\l=[])\/(∃ a n c,v=.slice (some a) n c/\l≠[])
theorem Pp.nil {α:Type}:Pp (.slice none 0 0) ([]:List α):=.inl ⟨_,_,rfl,rfl⟩
section
variable {x:Cx}{ops:Array Oper}{Q:lU}{rest:List Oper}{H:Hp}{M M':List bN}{L L':Env}
variable {d:Nat}{ty:TypeId}{pos:String}{aft:Array Edge}{g:Option (Nat×Bool)}
theorem NU {α:Type}[aF α] {H:Hp}{zs:List RJ}{ze:α} (Z:aF.E H zs ze) (hzl:zs.length=aF.sz α):∀ q,pX H ((List.range (q*aF.sz α)).map (zs.toArray[·%zs.length]!)) (List.replicate q ze):=by
 intro q
 induction q with
 | zero=>rw [Tm]; exact rfl
 | succ q ih=>
  have I:(List.range ((q+1)*aF.sz α)).map (zs.toArray[·%zs.length]!)=zs++(List.range (q*aF.sz α)).map (zs.toArray[·%zs.length]!):=by
   apply Tz;intro j;rw [TY,Sq]
   by_cases Y:j<zs.length
   ·rw [RU Y,TQ (by rw [Sd]; omega)]
    simp [TG Y,Y]
   ·rw [RS Y,Sq]
    by_cases J:j<(q+1)*aF.sz α
    ·rw [TQ J,TQ (by rw [Sd] at J; omega)]
     simp only [Td];rw [<- Nat.mod_eq_sub_mod (by omega)]
    ·rw [SQ (by simp; omega),SQ (by rw [Sd] at J; simp; omega)]
  rw [I];exact ⟨zs,_,rfl,Z,ih⟩
end
end Go.Sim
