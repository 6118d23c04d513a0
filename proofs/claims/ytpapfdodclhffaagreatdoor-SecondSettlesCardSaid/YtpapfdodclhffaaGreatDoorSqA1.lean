/-
  The proof, part A1.
-/
import Derived.WalkKit
import Derived.WalkSpells
import Derived.WalkLawsBesides
import Derived.Lib.AppendZeros
set_option linter.unusedVariables false
set_option linter.unusedSimpArgs false
set_option linter.unusedSectionVars false
set_option linter.unnecessarySimpa false
namespace Go.Sim
abbrev SZ := @Go.Addr.add_lit
abbrev SS := @Array.getD_eq_getD_getElem?
abbrev U1 := @Array.getElem?_eq_getElem
abbrev Tw := @Array.getElem?_eq_some_iff
abbrev W8 := @Array.getElem?_modify
abbrev Wd := @Array.getElem?_setIfInBounds
abbrev Xp := @Array.toList_append
abbrev TL := @Bool.and_eq_true
abbrev Te := @Bool.false_eq_true
abbrev TI := @Bool.or_eq_true
abbrev RU := @ByteArray
abbrev SX := @Int.natCast_mul
abbrev RZ := @Int.toNat_natCast
abbrev Ux := @List.Sublist.refl
abbrev Tg := @List.all_eq_true
abbrev Sr := @List.append_assoc
abbrev SN := @List.append_nil
abbrev Ur := @List.cons_append
abbrev We := @List.contains_iff_mem
abbrev UW := @List.countP_le_length
abbrev Ui := @List.drop_append_of_le_length
abbrev TW := @List.drop_drop
abbrev SF := @List.drop_eq_getElem_cons
abbrev Vc := @List.drop_length
abbrev UK := @List.drop_set_of_lt
abbrev Um := @List.drop_take
abbrev Tr := @List.drop_zero
abbrev Sv := @List.eq_nil_of_length_eq_zero
abbrev TP := @List.ext_getElem?
abbrev UX := @List.filter_append
abbrev Xr := @List.filter_eq_self
abbrev VU := @List.flatMap_append
abbrev Tn := @List.flatMap_cons
abbrev SG := @List.getD_eq_getElem?_getD
abbrev Us := @List.getElem?_append
abbrev S9 := @List.getElem?_append_left
abbrev SB := @List.getElem?_append_right
abbrev SK := @List.getElem?_drop
abbrev RY := @List.getElem?_eq_getElem
abbrev S3 := @List.getElem?_eq_none
abbrev R3 := @List.getElem?_eq_some_iff
abbrev SD := @List.getElem?_map
abbrev Uj := @List.getElem?_range
abbrev Wc := @List.getElem?_set
abbrev SU := @List.getElem?_take
abbrev Sz := @List.getElem_mem
abbrev Sg := @List.length_append
abbrev R_ := @List.length_cons
abbrev Uc := @List.length_map
abbrev Tl := @List.length_replicate
abbrev S4 := @List.length_singleton
abbrev Ss := @List.length_take
abbrev Tu := @List.map_append
abbrev U6 := @List.map_cons
abbrev Xe := @List.map_nil
abbrev Sf := @List.mem_append
abbrev R2 := @List.mem_append_left
abbrev S8 := @List.mem_append_right
abbrev SQ := @List.mem_cons
abbrev Sa := @List.mem_cons_of_mem
abbrev R6 := @List.mem_cons_self
abbrev Tc := @List.mem_filter
abbrev WM := @List.mem_filterMap
abbrev Uf := @List.mem_flatMap
abbrev Ti := @List.mem_iff_getElem
abbrev SV := @List.mem_map
abbrev Sd := @List.mem_of_getElem?
abbrev S0 := @List.mem_range
abbrev Sy := @List.mem_singleton
abbrev TG := @List.nil_append
abbrev S1 := @List.nodup_append
abbrev V0 := @List.nodup_cons
abbrev Vp := @List.pairwise_iff_getElem
abbrev V1 := @List.range_succ
abbrev Vy := @List.set_eq_take_append_cons_drop
abbrev Xa := @List.singleton_append
abbrev UF := @List.size_toArray
abbrev UY := @List.take_left
abbrev TY := @List.take_length
abbrev Vb := @List.take_set_of_le
abbrev Su := @List.take_succ_eq_append_getElem
abbrev Wj := @List.take_take
abbrev Uk := @List.toList_toArray
abbrev Uv := @Nat.add_assoc
abbrev So := @Nat.add_mul
abbrev TN := @Nat.add_sub_cancel_left
abbrev Tt := @Nat.add_zero
abbrev US := @Nat.ble_eq
abbrev S_ := @Nat.blt_eq
abbrev Uz := @Nat.eq_of_beq_eq_true
abbrev TM := @Nat.eq_of_mul_eq_mul_right
abbrev Va := @Nat.le_mul_of_pos_right
abbrev Sj := @Nat.le_refl
abbrev S6 := @Nat.le_trans
abbrev Vh := @Nat.lt_of_le_of_lt
abbrev UZ := @Nat.lt_of_lt_of_le
abbrev Th := @Nat.lt_succ_self
abbrev Vm := @Nat.lt_trichotomy
abbrev S7 := @Nat.min_eq_left
abbrev T0 := @Nat.mod_eq_of_lt
abbrev Si := @Nat.mul_le_mul_right
abbrev UO := @Nat.mul_one
abbrev Wx := @Nat.one_mul
abbrev Tk := @Nat.sub_self
abbrev UQ := @Nat.sub_zero
abbrev Sp := @Nat.zero_add
abbrev TC := @Nat.zero_mul
abbrev W1 := @Option.bind_eq_some_iff
abbrev UT := @Option.bind_some
abbrev Ug := @Option.getD_some
abbrev V9 := @Option.map_eq_some_iff
abbrev V3 := @Option.map_none
abbrev Tq := @Option.map_some
abbrev RX := @Option.some.inj
abbrev Sn := @Option.some.injEq
abbrev UB := @Prod.mk.injEq
abbrev Sb := @Go.Result.andThen_ok
abbrev Se := @Go.Sem.run_bind
abbrev Sk := @Go.Sem.run_pure
abbrev RV := @Go.Value
abbrev SJ := @congrArg
abbrev SO := @decide_eq_true_eq
abbrev Xh := @decide_false
abbrev Xv := @Go.grownCap_ge
abbrev WO := @Go.grownCap_le_maxLen
abbrev Xt := @Go.growslice_fits
abbrev WY := @Go.heap_alloc_new
abbrev TV := @if_false
abbrev R8 := @if_neg
abbrev R9 := @if_pos
abbrev Wy := @if_true
abbrev Sc := @of_decide_eq_false
abbrev R7 := @of_decide_eq_true
abbrev WC := @Go.run_firstCells_some
abbrev Tm := @Go.run_underlying
abbrev RW := @trivial
abbrev Wz := @Go.wpList_step
end Go.Sim
namespace Go.Sim
open Go Go.RowKit
open _root_.Go.IntKind (i64 u64 u32 u8)
abbrev Hp:=Nat->Option Obj
def Hp.le (H H':Hp):Prop:=∀ b o,H b=some o->H' b=some o
theorem SP (H:Hp):H.le H:=λ_ _ h=>h
theorem Ww {A B C:Hp} (h:A.le B) (k:B.le C):A.le C:=λb o x=>k b o (h b o x)
def Hp.add (H:Hp) (b:Nat) (o:Obj):Hp:=λc=>if c=b then some o else H c
theorem Hp.O1 {H:Hp}{b:Nat}{o:Obj} (h:H b=none):H.le (H.add b o):=by
 intro c x I;unfold Hp.add
 split
 ·rename_i e; subst e; rw [h] at I; cases I
 ·exact I
theorem Hp.y8 (H:Hp) (b:Nat) (o:Obj):H.add b o b=some o:=by simp [Hp.add]
def snap (w:World):Hp:=λb=>w.heap[b]?
def iU (w:World) (T:TypeId) (sz:Nat) (v:RV) (n:Nat) (xs:List RV):Prop:=
  xs.length=n*sz /\
  ((v=.slice none 0 0/\n=0) \/
   ∃ g off cap I,v=.slice (some ⟨g,off,none⟩) n cap/\w.heap[g]? = some (.cells I T (0,0))/\n<=cap/\cap<=maxLen/\off+cap*sz<=I.size/\(I.toList.drop off).take (n*sz)=xs)
theorem iU.lt {w:World}{T:TypeId}{sz:Nat}{v:RV}{n:Nat}{xs:List RV} (h:iU w T sz v n xs) {k:Nat} (I:v.ownBlock=some k):k<w.heap.size:=by
 rcases h.2 with ⟨rfl,_⟩ | ⟨g,off,cap,J,rfl,Y,_⟩
 ·simp [Value.ownBlock] at I
 ·simp only [Value.ownBlock,Sn] at I
  subst I;exact (Tw.1 Y).1
theorem iU.kept {w w':World}{T:TypeId}{sz:Nat}{v:RV}{n:Nat}{xs:List RV}{row:Option Nat} (h:iU w T sz v n xs) (Z:w.grownBy w' row)
  (Y:∀ b,v.ownBlock=some b->row≠some b):iU w' T sz v n xs:=by
 refine ⟨h.1,?_⟩;rcases h.2 with hn | ⟨g,off,cap,J,rfl,I,rest⟩
 ·exact .inl hn
 ·refine .inr ⟨g,off,cap,J,rfl,?_,rest⟩
  rw [Z.block g (Tw.1 I).1 (λe=>Y g rfl e.symm)];exact I
theorem iU.nil (w:World) (T:TypeId) (sz:Nat):iU w T sz (.slice none 0 0) 0 []:=⟨by simp,.inl ⟨rfl,rfl⟩⟩
def PM (fs:List Nat) (P:World->Prop):Prop:=∀ w w' row,P w->w.grownBy w' row->(∀ b ∈ fs,row≠some b)->P w'
inductive b_ where
 | obj (b:Nat) (o:Obj)
 | row (v:RV) (T:TypeId) (sz n:Nat) (xs:List RV)
 | pack (fs:List Nat) (P:World->Prop)
def b_.AU:b_->Option Nat
 | .obj b _=>some b
 | .row v _ _ _ _=>v.ownBlock
 | .pack _ _=>none
def b_.wg:b_->List Nat
 | .obj b _=>[b]
 | .row v _ _ _ _=>v.ownBlock.toList
 | .pack fs _=>fs
def b_.ok (w:World):b_->Prop
 | .obj b o=>w.heap[b]? = some o
 | .row v T sz n xs=>iU w T sz v n xs
 | .pack fs P=>P w/\(∀ b ∈ fs,b<w.heap.size)/\PM fs P
theorem b_.IM {w:World}{r:b_} (h:r.ok w) {b:Nat} (I:b ∈ r.wg):b<w.heap.size:=by
 cases r with
 | obj c o=>
  simp only [b_.wg,Sy] at I;subst I;simp only [b_.ok] at h;exact (Tw.1 h).1
 | row v T sz n xs=>exact iU.lt h (Option.mem_toList.1 I)
 | pack fs P=>exact h.2.1 b I
theorem b_.kept {w w':World}{r:b_}{row:Option Nat} (h:r.ok w) (J:w.grownBy w' row) (I:∀ b ∈ r.wg,row≠some b):r.ok w':=by
 cases r with
 | obj c o=>
  simp only [b_.ok] at h ⊢;rw [J.block c (Tw.1 h).1 (λe=>I c (by simp [b_.wg]) e.symm)]
  exact h
 | row v T sz n xs=>
  exact iU.kept h J (λb Y=>I b (Option.mem_toList.2 Y))
 | pack fs P=>exact ⟨h.2.2 _ _ _ h.1 J I,λb Y=>UZ (h.2.1 b Y) J.size,h.2.2⟩
theorem Mv {l l':List b_} (h:l.Sublist l'):(l.flatMap b_.wg).Sublist (l'.flatMap b_.wg):=by
 induction h with
 | slnil=>exact Ux _
 | cons a _ ih=>rw [Tn]; exact ih.trans (List.sublist_append_right _ _)
 | cons_cons a _ ih=>rw [Tn,Tn]; exact (Ux _).append ih
structure St (B:Nat) (w0:World) (H:Hp) (M:List b_) (w:World):Prop where
 below:Below B w0 w
 le:B<=w.heap.size
 vZ:∀ b o,H b=some o->w.heap[b]? = some o
 ok:∀ r ∈ M,r.ok w
 lo:∀ r ∈ M,∀ b ∈ r.wg,B<=b/\H b=none
 nd:(M.flatMap b_.wg).Nodup
section
variable {B:Nat}{w0 w w':World}{H H':Hp}{M M':List b_}
theorem St.lt (h:St B w0 H M w) {b:Nat}{o:Obj} (I:H b=some o):b<w.heap.size:=(Tw.1 (h.vZ b o I)).1
theorem St.perm (h:St B w0 H M w) (p:M.Perm M'):St B w0 H M' w:=
 ⟨h.below,h.le,h.vZ,λr I=>h.ok r (p.mem_iff.2 I),λr I=>h.lo r (p.mem_iff.2 I),(p.flatMap_right _).nodup_iff.1 h.nd⟩
theorem St.sub (h:St B w0 H M w) (p:M'.Sublist M):St B w0 H M' w:=
 ⟨h.below,h.le,h.vZ,λr I=>h.ok r (p.subset I),λr I=>h.lo r (p.subset I),h.nd.sublist (Mv p)⟩
theorem St.tail {r:b_} (h:St B w0 H (r::M) w):St B w0 H M w:=h.sub (List.sublist_cons_self _ _)
theorem St.drewN (h:St B w0 H M w) (n:Nat):St B w0 H M { w with drawn:=n }:=
 ⟨⟨h.below.os,h.below.tape,h.below.output,h.below.size,h.below.block⟩,h.le,h.vZ,λr I=>by
  have:=h.ok r I;cases r with
  | pack fs P=>exact ⟨this.2.2 w _ none this.1 ⟨rfl,rfl,rfl,Sj _,λ_ _ _=>rfl⟩ (by simp),this.2⟩
  | _=>exact this,h.lo,h.nd⟩
theorem St.grow (h:St B w0 H M w) (I:w.grownBy w' none):St B w0 H M w':=
  ⟨h.below.grown I h.le (λ_ e=>by cases e),S6 h.le I.size,
   λb o J=>by rw [I.block b (h.lt J) (by simp)]; exact h.vZ b o J,
   λr Y=>b_.kept (h.ok r Y) I (by simp),h.lo,h.nd⟩
theorem St.EN {r r':b_} (h:St B w0 H (r::M) w) (hg:w.grownBy w' r.AU) (hok:r'.ok w')
  (hf:∀ b,r'.AU=some b->r.AU=some b\/w.heap.size<=b) (hr:r.wg=r.AU.toList:=by rfl) (Z:r'.wg=r'.AU.toList:=by rfl):St B w0 H (r'::M) w':=by
 have J:=h.nd;have vZ:∀ {b:Nat},r.AU=some b->b ∈ r.wg:=λe=>by rw [hr,e]; simp
 refine ⟨h.below.grown hg h.le (λk e=>(h.lo r (R6 ..) k (vZ e)).1),S6 h.le hg.size,?_,?_,?_,?_⟩
 ·intro b o I
  rw [hg.block b (h.lt I) (λe=>by have:=(h.lo r (R6 ..) b (vZ e.symm)).2; rw [this] at I; cases I)]
  exact h.vZ b o I
 ·intro s hs
  rcases SQ.1 hs with rfl | hs
  ·exact hok
  ·refine b_.kept (h.ok s (Sa _ hs)) hg ?_
   intro b I e;simp only [Tn] at J;exact (S1.1 J).2.2 b (vZ e) b (Uf.2 ⟨s,hs,I⟩) rfl
 ·intro s hs b I
  rcases SQ.1 hs with rfl | hs
  ·rw [Z] at I
   rcases hf b (Option.mem_toList.1 I) with e | e
   ·exact h.lo r (R6 ..) b (vZ e)
   ·refine ⟨S6 h.le e,?_⟩
    cases hh:H b with
    | none=>rfl
    | some o=>exact absurd (h.lt hh) (by omega)
  ·exact h.lo s (Sa _ hs) b I
 ·have O:(M.flatMap b_.wg).Nodup:=(h.tail).nd
  rw [Tn,Z];cases hf':r'.AU with
  | none=>simpa using O
  | some b=>
   simp only [Option.toList,Xa,V0];refine ⟨λY=>?_,O⟩;obtain ⟨s,hs,I⟩:=Uf.1 Y;rcases hf b hf' with e | e
   ·simp only [Tn] at J
    exact (S1.1 J).2.2 b (vZ e) b Y rfl
   ·have:=b_.IM (h.ok s (Sa _ hs)) I
    omega
theorem St.add {r':b_} (h:St B w0 H M w) (hg:w.grownBy w' none) (Y:r'.ok w') (hf:∀ b,r'.AU=some b->w.heap.size<=b) (Z:r'.wg=r'.AU.toList:=by rfl):
  St B w0 H (r'::M) w':=by
 have h1:St B w0 H (.row (.slice none 0 0) 0 1 0 []::M) w:=by
  refine ⟨h.below,h.le,h.vZ,?_,?_,?_⟩
  ·intro r I
   rcases SQ.1 I with rfl | I
   ·exact iU.nil _ _ _
   ·exact h.ok r I
  ·intro r I
   rcases SQ.1 I with rfl | I
   ·intro b J; simp [b_.wg,Value.ownBlock] at J
   ·exact h.lo r I
  ·simpa [Tn,b_.wg,Value.ownBlock] using h.nd
 exact h1.EN hg Y (λb J=>.inr (hf b J)) rfl Z
theorem St.DC (h:St B w0 H M w) (T:TypeId) (sz:Nat):St B w0 H (.row (.slice none 0 0) T sz 0 []::M) w:=
 h.add ⟨rfl,rfl,rfl,Sj _,λ_ _ _=>rfl⟩ (iU.nil _ _ _) (by intro b I; simp [b_.AU,Value.ownBlock] at I)
theorem St.alloc (h:St B w0 H M w) (o:Obj):St B w0 H (.obj w.heap.size o::M) (w.alloc o):=
 h.add (World.grownBy_alloc w o none) (WY w o) (by intro b I; simp only [b_.AU,Sn] at I; omega)
theorem St.xo {b:Nat}{o:Obj} (h:St B w0 H M w) (O:b_.obj b o ∈ M):w.heap[b]? = some o:=h.ok _ O
theorem St.freeze {b:Nat}{o:Obj} (h:St B w0 H (.obj b o::M) w):H.le (H.add b o)/\St B w0 (H.add b o) M w:=by
 have hb:=h.lo _ (R6 ..) b (by simp [b_.wg])
 refine ⟨Hp.O1 hb.2,h.below,h.le,?_,h.tail.ok,?_,h.tail.nd⟩
 ·intro c x J
  unfold Hp.add at J
  split at J
  ·rename_i e; subst e; cases J; exact h.ok _ (R6 ..)
  ·exact h.vZ c x J
 ·intro r Z c Y
  refine ⟨(h.tail.lo r Z c Y).1,?_⟩;unfold Hp.add
  split
  ·rename_i e; subst e
   have I:=h.nd;simp only [Tn,b_.wg,Xa,V0] at I;exact absurd (Uf.2 ⟨r,Z,Y⟩) I.1
  ·exact (h.tail.lo r Z c Y).2
theorem St.Q3 {b:Nat}{o:Obj} (h:St B w0 H' M w) (hB:B<=b) (Y:H.le H') (hb:H b=none) (Z:H' b=some o):St B w0 H (.obj b o::M) w:=by
 refine ⟨h.below,h.le,λc x hx=>h.vZ c x (Y c x hx),?_,?_,?_⟩
 ·intro r I
  rcases SQ.1 I with rfl | I
  ·exact h.vZ b o Z
  ·exact h.ok r I
 ·intro r I c J
  rcases SQ.1 I with rfl | I
  ·simp only [b_.wg,Sy] at J; subst J; exact ⟨hB,hb⟩
  ·refine ⟨(h.lo r I c J).1,?_⟩
   cases hh:H c with
   | none=>rfl
   | some x=>have:=Y c x hh; rw [(h.lo r I c J).2] at this; cases this
 ·simp only [Tn,b_.wg,Xa,V0]
  refine ⟨λO=>?_,h.nd⟩;obtain ⟨r,I,J⟩:=Uf.1 O;have:=(h.lo r I b J).2;rw [this] at Z; cases Z
theorem St.NZ (h:St B w0 H' M w) (I:H.le H'):St B w0 H M w:=
 ⟨h.below,h.le,λb o J=>h.vZ b o (I b o J),h.ok,λr Y b J=>⟨(h.lo r Y b J).1,by
  cases Z:H b with
  | none=>rfl
  | some x=>have:=I b x Z; rw [(h.lo r Y b J).2] at this; cases this⟩,h.nd⟩
def cJ (rs:List b_):b_:=.pack (rs.flatMap b_.wg) (λw=>∀ r ∈ rs,r.ok w)
theorem Kj (rs:List b_):PM (rs.flatMap b_.wg) (λw=>∀ r ∈ rs,r.ok w):=λ_ _ _ h Z I r J=>
 b_.kept (h r J) Z (λb Y=>I b (Uf.2 ⟨r,J,Y⟩))
theorem St.unpack {rs:List b_} (h:St B w0 H (cJ rs::M) w):St B w0 H (rs++M) w:=
 ⟨h.below,h.le,h.vZ,λr I=>by
  rcases Sf.1 I with I | I
  ·exact (h.ok _ (R6 ..)).1 r I
  ·exact h.ok r (Sa _ I),λr I b J=>by
  rcases Sf.1 I with I | I
  ·exact h.lo _ (R6 ..) b (Uf.2 ⟨r,I,J⟩)
  ·exact h.lo r (Sa _ I) b J,by
  have:=h.nd;rw [Tn] at this;rw [VU]; exact this⟩
theorem St.pack {rs:List b_} (h:St B w0 H (rs++M) w):St B w0 H (cJ rs::M) w:=
 ⟨h.below,h.le,h.vZ,λr I=>by
  rcases SQ.1 I with rfl | I
  ·refine ⟨λr I=>h.ok r (R2 _ I),λb J=>?_,Kj rs⟩
   obtain ⟨r,I,J⟩:=Uf.1 J;exact b_.IM (h.ok r (R2 _ I)) J
  ·exact h.ok r (S8 _ I),λr I b J=>by
  rcases SQ.1 I with rfl | I
  ·obtain ⟨r,I,J⟩:=Uf.1 J
   exact h.lo r (R2 _ I) b J
  ·exact h.lo r (S8 _ I) b J,by
  have:=h.nd;rw [VU] at this;rw [Tn]; exact this⟩
theorem St.begin (w:World):St w.heap.size w (snap w) [] w:=
 ⟨Below.refl _ _,Sj _,λ_ _ h=>h,by simp,by simp,by simp⟩
end
abbrev Env:=List (Nat×RV)
def lk:Env->Nat->Option RV
 | [],_=>none
 | (t,v)::r,u=>bif Nat.beq t u then some v else lk r u
structure Sl (N:Nat) (L:Env) (a:Act):Prop where
 size:a.tmps.size=N
 Gq:a.defers=[]
 get:∀ t v,lk L t=some v->a.tmps[t]? = some v
theorem uU (t:Nat) (v:RV) (r:Env) (u:Nat):lk ((t,v)::r) u=if t=u then some v else lk r u:=by
 show (bif Nat.beq t u then some v else lk r u)=_
 by_cases h:t=u
 ·subst h; simp
 ·have:Nat.beq t u=false:=by
   cases I:Nat.beq t u with
   | false=>rfl
   | true=>exact absurd (Uz I) h
  simp [this,h]
theorem Sl.put {N:Nat}{L:Env}{a:Act}{d:Nat}{v:RV} (h:Sl N L a) (J:Nat.blt d N=true):Sl N ((d,v)::L) (a.put (some d) v):=by
 have I:d<N:=by simpa [S_] using J
 refine ⟨by simp [Act.put,h.size],h.Gq,λt u ht=>?_⟩
 rw [uU] at ht;simp only [Act.put,Wd]
 by_cases e:d=t
 ·subst e
  simp only [Wy,Sn] at ht;subst ht;simp [h.size,I]
 ·simp only [R8 e] at ht ⊢
  exact h.get t u ht
def Kept (L:Env):Env->Prop
 | []=>True
 | (t,v)::r=>lk L t=some v/\Kept L r
theorem Kept.lk {L:Env}:∀ {L':Env},Kept L L'->∀ t v,lk L' t=some v->lk L t=some v
 | [],_,t,v,h=>by simp [Sim.lk] at h
 | (u,x)::r,hk,t,v,h=>by
  rw [uU] at h
  split at h
  ·rename_i e; subst e; cases h; exact hk.1
  ·exact Kept.lk hk.2 t v h
theorem Sl.P4 {N:Nat}{L L':Env}{a:Act} (h:Sl N L a) (I:Kept L L'):Sl N L' a:=
 ⟨h.size,h.Gq,λt v ht=>h.get t v (I.lk t v ht)⟩
def ev (L:Env):Operand->Option RV
 | .tmp t=>lk L t
 | .const v=>some v
 | .func f=>some (.func (.func f) #[] #[])
 | .global g=>some (.pointer (some ⟨g,0,none⟩))
theorem Sl.ev {N:Nat}{L:Env}{a:Act} (h:Sl N L a) {x:Operand}{v:RV} (I:Sim.ev L x=some v):a.eval x=v:=by
 cases x with
 | tmp t=>simp [Act.eval,SS,h.get t v I]
 | const u=>simpa [Sim.ev,Act.eval] using I
 | func f=>simpa [Sim.ev,Act.eval] using I
 | global g=>simpa [Sim.ev,Act.eval] using I
def gd (ops:Array Oper) (L:Env) (o:Oper):Option Bool:=
 match o.guard with
 | none=>some true
 | some (j,want)=>
  match (ops[j]?).bind (·.dst) with
  | none=>none
  | some t=>match lk L t with
   | some (.bool b)=>some (b == want)
   | some (.tuple _)=>some false
   | _=>none
theorem Sl.gd {N:Nat}{L:Env}{a:Act} (h:Sl N L a) {ops:Array Oper}{o:Oper}{c:Bool} (I:Sim.gd ops L o=some c):Region.wanted o (yielded ops a.tmps)=c:=by
 unfold Sim.gd at I;unfold Region.wanted;cases Y:o.guard with
 | none=>simp only [Y,Sn] at I; simp [<- I]
 | some p=>
  obtain ⟨j,Z⟩:=p;simp only [Y] at I;cases J:(ops[j]?).bind (·.dst) with
  | none=>simp [J] at I
  | some t=>
   simp only [J] at I;cases hl:lk L t with
   | none=>simp [hl] at I
   | some v=>
    cases v with
    | bool b=>
     simp only [hl,Sn] at I;have:=h.get t _ hl;simp [yielded,J,this,<- I]
    | tuple vs=>
     simp only [hl,Sn] at I;have:=h.get t _ hl;simp [yielded,J,this,<- I]
    | _=>simp [hl] at I
structure Cx where
 P:Program
 N:Nat
 B:Nat
 w0:World
abbrev mj:=Exit->Act->World->Prop
def W (x:Cx) (ops:Array Oper) (Q:mj) (rest:List Oper) (H:Hp) (M:List b_) (L:Env):Prop:=
 ∀ a w,Sl x.N L a->St x.B x.w0 H M w->wpList x.P ops Q rest a w
def C (x:Cx) (c:Code) (Q:mj) (H:Hp) (M:List b_) (L:Env):Prop:=
 ∀ a w,Sl x.N L a->St x.B x.w0 H M w->c.wp x.P Q a w
def E (x:Cx) (e:Exit) (Q:mj) (H:Hp) (M:List b_) (L:Env):Prop:=
 ∀ a w,Sl x.N L a->St x.B x.w0 H M w->Q e a w
section
variable {x:Cx}{ops:Array Oper}{Q:mj}{rest:List Oper}{H:Hp}{M M':List b_}{L L':Env}
theorem bT {c d:Code} (k:C x c (Exit.then (d.wp x.P Q) Q) H M L):C x (.seq c d) Q H M L:=
 λa w hs ht=>wp_seq (k a w hs ht)
theorem mS (k:E x .normal Q H M L):C x .skip Q H M L:=λa w hs ht=>wp_skip (k a w hs ht)
theorem vh {id:Nat} (k:E x (.exit id) Q H M L):C x (.exit id) Q H M L:=λa w hs ht=>wp_exit (k a w hs ht)
theorem mM (k:E x .ret Q H M L):C x .ret Q H M L:=λa w hs ht=>wp_ret (k a w hs ht)
theorem vG {id:Nat}{c:Code} (k:C x c (Exit.inBlock id Q) H M L):C x (.block id c) Q H M L:=
 λa w hs ht=>wp_block (k a w hs ht)
theorem bS {c:Operand}{p q:Code}{b:Bool} (I:ev L c=some (.bool b)) (J:b=true->C x p Q H M L) (Y:b=false->C x q Q H M L):
  C x (.cond c p q) Q H M L:=
 λa w hs ht=>wp_cond_split (hs.ev I) (λe=>J e a w hs ht) (λe=>Y e a w hs ht)
theorem aQ {id:Nat}{l:List Oper} (k:W x l.toArray Q l H M L):C x (.region id l.toArray false) Q H M L:=
 λa w hs ht=>wp_region_lit (k a w hs ht)
theorem bD (k:E x .normal Q H M L):W x ops Q [] H M L:=λa w hs ht=>wpList_nil (k a w hs ht)
theorem aV {d:Code}{I:mj} (k:C x d I H M L):E x .normal (Exit.then (d.wp x.P I) Q) H M L:=λa w hs ht=>k a w hs ht
theorem CF {c:Code} (hL:Kept L L') (I:M.Perm M') (k:C x c Q H M' L'):C x c Q H M L:=
 λa w hs ht=>k a w (hs.P4 hL) (ht.perm I)
theorem EO {e:Exit} (hL:Kept L L') (I:M.Perm M') (k:E x e Q H M' L'):E x e Q H M L:=
 λa w hs ht=>k a w (hs.P4 hL) (ht.perm I)
theorem OD {c:Code} (I:M'.Sublist M) (k:C x c Q H M' L):C x c Q H M L:=λa w hs ht=>k a w hs (ht.sub I)
theorem Kz {e:Exit} (I:M'.Sublist M) (k:E x e Q H M' L):E x e Q H M L:=λa w hs ht=>k a w hs (ht.sub I)
theorem mg (I:M.Perm M') (k:W x ops Q rest H M' L):W x ops Q rest H M L:=λa w hs ht=>k a w hs (ht.perm I)
theorem tT {o:Oper}{d:Nat} (hd:o.dst=some d) (hg:gd ops L o=some true) (hN:Nat.blt d x.N=true)
  (I:∀ a w,Sl x.N L a->St x.B x.w0 H M w->∃ v Y,(execOp a.eval o).run x.P w=.ok (.value v) Y/\∃ H' M',St x.B x.w0 H' M' Y/\W x ops Q rest H' M' ((d,v)::L)):
  W x ops Q (o::rest) H M L:=by
 intro a w hs ht;obtain ⟨v,Y,hr,H',M',J,k⟩:=I a w hs ht;refine Wz λK Z=>?_;rw [R9 (hs.gd hg)];unfold Oper.wp;rw [hr];simp only [Oper.upon,hd];exact Z _ _ (k _ _ (hs.put hN) J)
theorem gL {o:Oper}{d:Nat}{v:RV} (J:o.dst=some d) (Y:gd ops L o=some true) (hN:Nat.blt d x.N=true)
  (I:∀ a w,Sl x.N L a->St x.B x.w0 H M w->(execOp a.eval o).run x.P w=.ok (.value v) w) (k:W x ops Q rest H M ((d,v)::L)):
  W x ops Q (o::rest) H M L:=
 tT J Y hN λa w hs ht=>⟨v,w,I a w hs ht,H,M,ht,k⟩
theorem PR {o:Oper}{d:Nat} (J:o.dst=some d) (Y:gd ops L o=some false) (hN:Nat.blt d x.N=true) (k:W x ops Q rest H M ((d,undef)::L)):
  W x ops Q (o::rest) H M L:=by
 intro a w hs ht;refine Wz λK I=>?_;rw [R8 (by rw [hs.gd Y]; simp),J]
 exact I _ _ (k _ _ (hs.put hN) ht)
theorem Oh {o:Oper} (J:o.dst=none) (Y:gd ops L o=some false) (k:W x ops Q rest H M L):W x ops Q (o::rest) H M L:=by
 intro a w hs ht;refine Wz λK I=>?_;rw [R8 (by rw [hs.gd Y]; simp),J]
 exact I _ _ (k _ _ hs ht)
theorem EX {o:Oper} (hd:o.dst=none) (hg:gd ops L o=some true)
  (I:∀ a w,Sl x.N L a->St x.B x.w0 H M w->∃ Y,(execOp a.eval o).run x.P w=.ok .skip Y/\∃ H' M',St x.B x.w0 H' M' Y/\W x ops Q rest H' M' L):
  W x ops Q (o::rest) H M L:=by
 intro a w hs ht;obtain ⟨Y,hr,H',M',J,k⟩:=I a w hs ht;refine Wz λK Z=>?_;rw [R9 (hs.gd hg)];unfold Oper.wp;rw [hr];simp only [Oper.upon,hd];exact Z _ _ (k _ _ hs J)
def vi (B:Nat) (w0:World) (I:Hp->List b_->RV->Prop):Ending->World->Prop
 | .returned v,w'=>∃ H' M',St B w0 H' M' w'/\I H' M' v
 | _,_=>False
def Aq (L:Env):List Operand->Option (List RV)
 | []=>some []
 | y::r=>match ev L y,Aq L r with
  | some v,some vs=>some (v::vs)
  | _,_=>none
theorem Sl.Aq {L:Env}{a:Act}{N:Nat} (hs:Sl N L a):∀ {l:List Operand}{vs:List RV},Sim.Aq L l=some vs->l.map a.eval=vs
 | [],vs,h=>by simp [Sim.Aq] at h; simp [h]
 | y::r,vs,h=>by
  simp only [Sim.Aq] at h;cases h1:Sim.ev L y with
  | none=>simp [h1] at h
  | some v=>
   cases h2:Sim.Aq L r with
   | none=>simp [h1,h2] at h
   | some I=>
    simp only [h1,h2,Sn] at h;subst h;simp [hs.ev h1,Sl.Aq hs h2]
theorem bQ {d:Nat}{f:FuncId}{args:List Operand}{Z:Array TypeId}{ty:TypeId}{pos:String}{I:Array Edge}{g:Option (Nat×Bool)}{vs:List RV}
  {Φ:Hp->List b_->RV->Prop}
  (Y:∀ as w,(callFunc f as).run x.P w=.ok (.enter f as) w)
  (hg:gd ops L ⟨some d,.call ⟨.value (.func f),args.toArray,Z⟩,ty,pos,I,g⟩=some true) (hN:Nat.blt d x.N=true)
  (hv:Aq L args=some vs)
  (hc:∀ w,St x.B x.w0 H M w->Calls x.P f vs.toArray w (vi x.B x.w0 Φ))
  (k:∀ v H' M',Φ H' M' v->W x ops Q rest H' M' ((d,v)::L)):
  W x ops Q (⟨some d,.call ⟨.value (.func f),args.toArray,Z⟩,ty,pos,I,g⟩::rest) H M L:=by
 intro a w hs ht;refine Wz λK hK=>?_;rw [R9 (hs.gd hg)];have J:args.toArray.map a.eval=vs.toArray:=by simp [hs.Aq hv]
 have hr:(execOp a.eval ⟨some d,.call ⟨.value (.func f),args.toArray,Z⟩,ty,pos,I,g⟩).run x.P w=.ok (.enter f vs.toArray) w:=by
  simp only [execOp,resolve,J,Act.eval,Deferred.ofValue,Se,Sk,Sb,invoke];simp [Y]
 unfold Oper.wp;rw [hr];simp only [Oper.upon];refine (hc w ht).mono λe w' he=>?_;cases e with
 | returned v=>
  obtain ⟨H',M',h1,h2⟩:=he;exact hK _ _ (k v H' M' h2 _ _ (hs.put hN) h1)
 | panicked c=>exact he.elim
 | outgrown=>exact he.elim
end
def z_ (x:Cx) (H:Hp) (M:List b_) (ad:Addr) (v:RV):Prop:=∀ w,St x.B x.w0 H M w->w.cell? ad=some v
def CK (H:Hp) (ad:Addr) (v:RV):Prop:=∃ arr T fz,H ad.block=some (.cells arr T fz)/\ad.spot=none/\arr[ad.off]? = some v
theorem WW {w:World}{ad:Addr}{arr:Array RV}{T:TypeId}{fz:Nat×Nat}{v:RV} (h:w.heap[ad.block]? = some (.cells arr T fz)) (hs:ad.spot=none) (I:arr[ad.off]? = some v):
  w.cell? ad=some v:=by
 simp [World.cell?,h,hs,I]
theorem CK.at {x:Cx}{H:Hp}{M:List b_}{ad:Addr}{v:RV} (h:CK H ad v):z_ x H M ad v:=by
 obtain ⟨arr,T,fz,I,hs,J⟩:=h;exact λw ht=>WW (ht.vZ _ _ I) hs J
theorem CK.mono {H H':Hp}{ad:Addr}{v:RV} (I:H.le H') (h:CK H ad v):CK H' ad v:=by
 obtain ⟨arr,T,fz,J,hs,Y⟩:=h;exact ⟨arr,T,fz,I _ _ J,hs,Y⟩
theorem xp {x:Cx}{H:Hp}{M:List b_}{b off:Nat}{l:List RV}{T:TypeId}{fz:Nat×Nat}{v:RV}
  (O:b_.obj b (.cells l.toArray T fz) ∈ M) (I:l[off]? = some v):z_ x H M ⟨b,off,none⟩ v:=by
 intro w ht;exact WW (ht.xo O) rfl (by simpa using I)
def AG (x:Cx) (H:Hp) (M:List b_) (ad:Addr) (cs:List RV):Prop:=∀ j c,cs[j]? = some c->z_ x H M (ad.add j) c
def kF (H:Hp) (ad:Addr) (cs:List RV):Prop:=∀ j c,cs[j]? = some c->CK H (ad.add j) c
theorem kF.at {x:Cx}{H:Hp}{M:List b_}{ad:Addr}{cs:List RV} (h:kF H ad cs):AG x H M ad cs:=λj c I=>(h j c I).at
theorem kF.mono {H H':Hp}{ad:Addr}{cs:List RV} (I:H.le H') (h:kF H ad cs):kF H' ad cs:=λj c J=>(h j c J).mono I
theorem FC {x:Cx}{H:Hp}{M:List b_}{b:Nat}{l:List RV}{T:TypeId}{fz:Nat×Nat}
  (O:b_.obj b (.cells l.toArray T fz) ∈ M):AG x H M ⟨b,0,none⟩ l:=by
 intro j c I;rw [SZ,Sp];exact xp O I
theorem run_loadCellsFrom {P:Program}{w:World}{ad:Addr}:∀ (cs:List RV) (i:Nat) (acc:Array RV),(∀ j c,cs[j]? = some c->w.cell? (ad.add (i+j))=some c) ->
  (loadCellsFrom ad i cs.length acc).run P w=.ok (acc++cs.toArray) w
 | [],i,acc,_=>by simp [loadCellsFrom]
 | c::cs,i,acc,h=>by
  have I:=h 0 c rfl;simp only [Tt] at I;have ih:=run_loadCellsFrom (P:=P) (w:=w) (ad:=ad) cs (i+1) (acc.push c) (λj d J=>by have:=h (j+1) d (by simpa using J); rwa [show i+(j+1)=i+1+j from by omega] at this)
  simp only [R_,loadCellsFrom,load,Se,Sem.run,I,Sb];rw [ih];simp
section
variable {x:Cx}{ops:Array Oper}{Q:mj}{rest:List Oper}{H:Hp}{M M':List b_}{L L':Env}
variable {d:Nat}{ty:TypeId}{pos:String}{aft:Array Edge}{g:Option (Nat×Bool)}
theorem bY {y:Operand}{v:RV} (I:gd ops L ⟨some d,.move y,ty,pos,aft,g⟩=some true) (hN:Nat.blt d x.N=true)
  (J:ev L y=some v) (k:W x ops Q rest H M ((d,v)::L)):W x ops Q (⟨some d,.move y,ty,pos,aft,g⟩::rest) H M L:=
 gL rfl I hN (λa w hs _=>by simp [execOp,hs.ev J]) k
theorem aO {y:Operand}{v:RV} (I:gd ops L ⟨some d,.assign y,ty,pos,aft,g⟩=some true) (hN:Nat.blt d x.N=true)
  (J:ev L y=some v) (k:W x ops Q rest H M ((d,v)::L)):W x ops Q (⟨some d,.assign y,ty,pos,aft,g⟩::rest) H M L:=
 gL rfl I hN (λa w hs _=>by simp [execOp,hs.ev J]) k
theorem EW {c y z:Operand}{b:Bool}{v:RV} (Y:gd ops L ⟨some d,.pick c y z,ty,pos,aft,g⟩=some true) (hN:Nat.blt d x.N=true)
  (J:ev L c=some (.bool b)) (I:(if b then ev L y else ev L z)=some v) (k:W x ops Q rest H M ((d,v)::L)):
  W x ops Q (⟨some d,.pick c y z,ty,pos,aft,g⟩::rest) H M L:=
 gL rfl Y hN (λa w hs _=>by
  cases b
  ·simp only [Te,TV] at I; simp [execOp,hs.ev J,hs.ev I,asBool]
  ·simp only [Wy] at I; simp [execOp,hs.ev J,hs.ev I,asBool]) k
def C0:BinOp->RV->RV->Option RV
 | .add,.int k a,.int k' b=>if k=k' then some (.int k (k.wrap (a+b))) else none
 | .sub,.int k a,.int k' b=>if k=k' then some (.int k (k.wrap (a-b))) else none
 | .mul,.int k a,.int k' b=>if k=k' then some (.int k (k.wrap (a*b))) else none
 | .lss,.int k a,.int k' b=>if k=k' then some (.bool (decide (a<b))) else none
 | .leq,.int k a,.int k' b=>if k=k' then some (.bool (decide (a<=b))) else none
 | .gtr,.int k a,.int k' b=>if k=k' then some (.bool (decide (b<a))) else none
 | .geq,.int k a,.int k' b=>if k=k' then some (.bool (decide (b<=a))) else none
 | .eql,.int k a,.int k' b=>if k=k' then some (.bool (decide (a=b))) else none
 | .neq,.int k a,.int k' b=>if k=k' then some (.bool (!decide (a=b))) else none
 | .and,.int k a,.int k' b=>if k=k' then some (.int k (k.wrap (BitVec.ofInt k.bits a &&& BitVec.ofInt k.bits b).toNat)) else none
 | .or,.int k a,.int k' b=>if k=k' then some (.int k (k.wrap (BitVec.ofInt k.bits a ||| BitVec.ofInt k.bits b).toNat)) else none
 | .xor,.int k a,.int k' b=>if k=k' then some (.int k (k.wrap (BitVec.ofInt k.bits a ^^^ BitVec.ofInt k.bits b).toNat)) else none
 | .eql,.string s,.string t=>some (.bool (decide (s=t)))
 | .neq,.string s,.string t=>some (.bool (!decide (s=t)))
 | .lss,.string s,.string t=>some (.bool (Op.bytesLess s.toList t.toList))
 | _,_,_=>none
theorem OJ (s t:RU):(s.toList == t.toList)=decide (s=t):=by
 rw [Bool.eq_iff_iff];simp only [beq_iff_eq,SO];constructor
 ·intro h
  have hs:∀ u:RU,u.toList=u.data.toList:=ByteArray.toList_eq;rw [hs,hs] at h;exact ByteArray.ext (Array.ext' h)
 ·intro h; rw [h]
theorem Fo (a b:Int):(a == b)=decide (a=b):=by rw [Bool.eq_iff_iff]; simp
theorem LH {p:Prop}[Decidable p] {v w:RV} (h:(if p then some v else none)=some w):p/\v=w:=by
 split at h
 ·exact ⟨‹_›,by simpa using h⟩
 ·cases h
theorem JA {I:BinOp}{a b v:RV} (t:TypeId) (P:Program) (w:World) (h:C0 I a b=some v):(binOp I t a b).run P w=.ok v w:=by
 unfold C0 at h
 split at h
 case h_1 | h_2 | h_3 | h_4 | h_5 | h_6 | h_7 | h_8 | h_9 | h_10 | h_11 | h_12=>
  obtain ⟨rfl,rfl⟩:=LH h
  first
   | (simp [binOp,Op.intArith]; done)
   | (simp [binOp,Op.intBits]; done)
   | (simp [binOp,Op.intCmp]; done)
   | (simp [binOp,Op.intCmp,bne,Fo]; done)
 case h_13 | h_14 | h_15=>cases h; simp [binOp,Op.stringOp,<- OJ]
 case h_16=>cases h
theorem Gu {I:BinOp}{a b v:RV} (t:TypeId) (y z:Operand) (P:Program) (w:World) (h:C0 I a b=some v):(eqGuard I t y z a b).run P w=.ok () w:=by
 unfold C0 at h
 split at h <;> first
  | (simp [eqGuard]; done)
  | (cases h; done)
theorem we {I:BinOp}{t u:TypeId}{y z:Operand}{a b v:RV} (Y:gd ops L ⟨some d,.binOp I t y z u,ty,pos,aft,g⟩=some true) (hN:Nat.blt d x.N=true)
  (Z:ev L y=some a) (hz:ev L z=some b) (J:C0 I a b=some v) (k:W x ops Q rest H M ((d,v)::L)):
  W x ops Q (⟨some d,.binOp I t y z u,ty,pos,aft,g⟩::rest) H M L:=
 gL rfl Y hN (λc w hs _=>by
  simp only [execOp,hs.ev Z,hs.ev hz,Se,Gu t y z x.P w J,Sb,JA t x.P w J,Sk]) k
theorem Gb {t u:TypeId}{y z:Operand}{I:IntKind}{m n:Int} (J:gd ops L ⟨some d,.binOp .quo t y z u,ty,pos,aft,g⟩=some true) (hN:Nat.blt d x.N=true)
  (Y:ev L y=some (.int I m)) (Z:ev L z=some (.int I n)) (hn:n≠0) (k:W x ops Q rest H M ((d,.int I (I.wrap (m.tdiv n)))::L)):
  W x ops Q (⟨some d,.binOp .quo t y z u,ty,pos,aft,g⟩::rest) H M L:=
 gL rfl J hN (λc w hs _=>by
  simp [execOp,hs.ev Y,hs.ev Z,eqGuard,binOp,Op.intDiv,hn]) k
theorem w6 {t u:TypeId}{y z:Operand}{I:IntKind}{m n:Int} (J:gd ops L ⟨some d,.binOp .rem t y z u,ty,pos,aft,g⟩=some true) (hN:Nat.blt d x.N=true)
  (Y:ev L y=some (.int I m)) (Z:ev L z=some (.int I n)) (hn:n≠0) (k:W x ops Q rest H M ((d,.int I (m.tmod n))::L)):
  W x ops Q (⟨some d,.binOp .rem t y z u,ty,pos,aft,g⟩::rest) H M L:=
 gL rfl J hN (λc w hs _=>by
  simp [execOp,hs.ev Y,hs.ev Z,eqGuard,binOp,Op.intDiv,hn]) k
def OB:UnOp->RV->Option RV
 | .neg,.int k n=>some (.int k (k.wrap (0-n)))
 | .not,.bool b=>some (.bool !b)
 | .xor,.int k n=>some (.int k (k.wrap (BitVec.ofInt k.bits (if k.signed then -1 else k.max) ^^^ BitVec.ofInt k.bits n).toNat))
 | _,_=>none
theorem PS {J:UnOp}{t:TypeId}{y:Operand}{a v:RV} (Y:gd ops L ⟨some d,.unOp J t y,ty,pos,aft,g⟩=some true) (hN:Nat.blt d x.N=true)
  (Z:ev L y=some a) (I:OB J a=some v) (k:W x ops Q rest H M ((d,v)::L)):
  W x ops Q (⟨some d,.unOp J t y,ty,pos,aft,g⟩::rest) H M L:=
 gL rfl Y hN (λc w hs _=>by
  simp only [execOp,hs.ev Z];unfold OB at I
  split at I <;> first
   | (cases I; simp [Op.unary,Op.intArith,Op.intBits]; done)
   | cases I) k
theorem PQ {T:TypeId}{y:Operand}{v:RV}{cs:List RV} (J:gd ops L ⟨some d,.box T y,ty,pos,aft,g⟩=some true) (hN:Nat.blt d x.N=true)
  (Y:ev L y=some v) (I:v.cells=cs.toArray)
  (k:∀ b,W x ops Q rest H (.obj b (.cells cs.toArray T (0,0))::M) ((d,.pointer (some ⟨b,0,none⟩))::L)):
  W x ops Q (⟨some d,.box T y,ty,pos,aft,g⟩::rest) H M L:=
 tT rfl J hN (λc w hs ht=>⟨_,w.alloc (.cells cs.toArray T),by
  simp only [execOp,hs.ev Y,Instr.box,newVar,newRow,newObj,Se,Sk,Sem.run,Sb,I,World.alloc],_,_,ht.alloc _,k _⟩)
theorem MP {T:TypeId}{z:RV}{cs:List RV} (J:gd ops L ⟨some d,.alloc T,ty,pos,aft,g⟩=some true) (hN:Nat.blt d x.N=true)
  (Y:∀ w,(zeroValue T).run x.P w=.ok z w) (I:z.cells=cs.toArray)
  (k:∀ b,W x ops Q rest H (.obj b (.cells cs.toArray T (0,0))::M) ((d,.pointer (some ⟨b,0,none⟩))::L)):
  W x ops Q (⟨some d,.alloc T,ty,pos,aft,g⟩::rest) H M L:=
 tT rfl J hN (λc w hs ht=>⟨_,w.alloc (.cells cs.toArray T),by
  simp only [execOp,Instr.alloc,Y,newVar,newRow,newObj,Se,Sk,Sem.run,Sb,I,World.alloc],_,_,ht.alloc _,k _⟩)
theorem rP {T:TypeId}{y:Operand}{ad:Addr}{v:RV} (Y:gd ops L ⟨some d,.load T y,ty,pos,aft,g⟩=some true) (hN:Nat.blt d x.N=true)
  (I:∀ w,(isAgg T).run x.P w=.ok false w) (Z:ev L y=some (.pointer (some ad))) (J:z_ x H M ad v)
  (k:W x ops Q rest H M ((d,v)::L)):W x ops Q (⟨some d,.load T y,ty,pos,aft,g⟩::rest) H M L:=
 gL rfl Y hN (λc w hs ht=>by
  simp [execOp,hs.ev Z,Instr.loadAt,Instr.sureAddr,loadVar,I,load,Sem.run,J w ht]) k
theorem jZ {T:TypeId}{n:Nat}{y:Operand}{ad:Addr}{cs:List RV} (Y:gd ops L ⟨some d,.load T y,ty,pos,aft,g⟩=some true) (hN:Nat.blt d x.N=true)
  (I:∀ w,(isAgg T).run x.P w=.ok true w) (hn:∀ w,(sizeOf T).run x.P w=.ok n w) (hy:ev L y=some (.pointer (some ad))) (J:AG x H M ad cs) (hl:cs.length=n)
  (k:W x ops Q rest H M ((d,.agg cs.toArray)::L)):W x ops Q (⟨some d,.load T y,ty,pos,aft,g⟩::rest) H M L:=
 gL rfl Y hN (λc w hs ht=>by
  have h:=run_loadCellsFrom (P:=x.P) (w:=w) (ad:=ad) cs 0 #[] (λj v Z=>by rw [Sp]; exact J j v Z w ht)
  rw [hl] at h;simp [execOp,hs.ev hy,Instr.loadAt,Instr.sureAddr,loadVar,I,hn,loadCells,h]) k
theorem vI {T:TypeId}{y:Operand}{ad:Addr}{f n o:Nat}{fs:Array Field}{I:Field} (hg:gd ops L ⟨some d,.fieldAddr T y f,ty,pos,aft,g⟩=some true) (hN:Nat.blt d x.N=true)
  (Z:∀ w,(underlying T).run x.P w=.ok (.struct fs) w) (hf:fs[f]? = some I) (hn:∀ w,(sizeOf I.type).run x.P w=.ok n w) (J:Nat.beq n 0=false) (ho:I.offset=o)
  (hy:ev L y=some (.pointer (some ad))) (k:W x ops Q rest H M ((d,.pointer (some (ad.add o)))::L)):
  W x ops Q (⟨some d,.fieldAddr T y f,ty,pos,aft,g⟩::rest) H M L:=
 gL rfl hg hN (λc w hs ht=>by
  have Y:¬ n=0:=λe=>by subst e; simp at J
  simp [execOp,hs.ev hy,Instr.fieldAt,Z,hf,Instr.sureAddr,fieldPlace,hn,Y,ho]) k
theorem qZ {y:Operand}{ad:Addr} (I:gd ops L ⟨some d,.nilCheck y,ty,pos,aft,g⟩=some true) (hN:Nat.blt d x.N=true)
  (J:ev L y=some (.pointer (some ad))) (k:W x ops Q rest H M ((d,.pointer (some ad))::L)):
  W x ops Q (⟨some d,.nilCheck y,ty,pos,aft,g⟩::rest) H M L:=
 gL rfl I hN (λc w hs ht=>by simp [execOp,hs.ev J]) k
theorem tJ {y:Operand}{vs:Array RV}{i:Nat}{v:RV} (I:gd ops L ⟨some d,.extract y i,ty,pos,aft,g⟩=some true) (hN:Nat.blt d x.N=true)
  (Y:ev L y=some (.tuple vs)) (J:vs[i]? = some v) (k:W x ops Q rest H M ((d,v)::L)):
  W x ops Q (⟨some d,.extract y i,ty,pos,aft,g⟩::rest) H M L:=
 gL rfl I hN (λc w hs ht=>by simp [execOp,hs.ev Y,Instr.extract,J]) k
theorem yA {y z:Operand}{I:Array TypeId}{J:IntKind}{m n:Int} (Y:gd ops L ⟨some d,.call ⟨.builtin .min,#[y,z],I⟩,ty,pos,aft,g⟩=some true) (hN:Nat.blt d x.N=true)
  (Z:ev L y=some (.int J m)) (hz:ev L z=some (.int J n)) (k:W x ops Q rest H M ((d,.int J (min m n))::L)):
  W x ops Q (⟨some d,.call ⟨.builtin .min,#[y,z],I⟩,ty,pos,aft,g⟩::rest) H M L:=
 gL rfl Y hN (λc w hs ht=>by
  have:(if n<m then n else m)=min m n:=by rw [Int.min_def]; split <;> split <;> omega
  simp [execOp,resolve,invoke,builtin,hs.ev Z,hs.ev hz,Builtin.min_,Builtin.min2,this]) k
theorem IB {y z:Operand}{I:Array TypeId}{J:IntKind}{m n:Int} (Y:gd ops L ⟨some d,.call ⟨.builtin .max,#[y,z],I⟩,ty,pos,aft,g⟩=some true) (hN:Nat.blt d x.N=true)
  (Z:ev L y=some (.int J m)) (hz:ev L z=some (.int J n)) (k:W x ops Q rest H M ((d,.int J (max m n))::L)):
  W x ops Q (⟨some d,.call ⟨.builtin .max,#[y,z],I⟩,ty,pos,aft,g⟩::rest) H M L:=
 gL rfl Y hN (λc w hs ht=>by
  have:(if n > m then n else m)=max m n:=by rw [Int.max_def]; split <;> split <;> omega
  simp [execOp,resolve,invoke,builtin,hs.ev Z,hs.ev hz,Builtin.max_,Builtin.max2,this]) k
theorem Ai {t e:TypeId}{y:Operand}{a:Option Addr}{m n:Nat} (J:gd ops L ⟨some d,.call ⟨.builtin .len,#[y],#[t]⟩,ty,pos,aft,g⟩=some true) (hN:Nat.blt d x.N=true)
  (I:∀ w,(underlying t).run x.P w=.ok (.slice e) w) (Y:ev L y=some (.slice a n m)) (k:W x ops Q rest H M ((d,.int .i64 n)::L)):
  W x ops Q (⟨some d,.call ⟨.builtin .len,#[y],#[t]⟩,ty,pos,aft,g⟩::rest) H M L:=
 gL rfl J hN (λc w hs ht=>by
  simp [execOp,resolve,invoke,builtin,hs.ev Y,Builtin.len_,I,goInt]) k
theorem lP {t:TypeId}{y:Operand}{s:RU} (J:gd ops L ⟨some d,.call ⟨.builtin .len,#[y],#[t]⟩,ty,pos,aft,g⟩=some true) (hN:Nat.blt d x.N=true)
  (I:∀ w,(underlying t).run x.P w=.ok .string w) (Y:ev L y=some (.string s)) (k:W x ops Q rest H M ((d,.int .i64 s.size)::L)):
  W x ops Q (⟨some d,.call ⟨.builtin .len,#[y],#[t]⟩,ty,pos,aft,g⟩::rest) H M L:=
 gL rfl J hN (λc w hs ht=>by
  simp [execOp,resolve,invoke,builtin,hs.ev Y,Builtin.len_,I,goInt]) k
theorem KO {t e:TypeId}{sz:Nat}{y z:Operand}{ad:Addr}{n m:Nat}{kk:IntKind}{i:Int} (hg:gd ops L ⟨some d,.indexAddr t y z,ty,pos,aft,g⟩=some true) (hN:Nat.blt d x.N=true)
  (Z:∀ w,(underlying t).run x.P w=.ok (.slice e) w) (hs:∀ w,(sizeOf e).run x.P w=.ok sz w)
  (hy:ev L y=some (.slice (some ad) n m)) (hz:ev L z=some (.int kk i)) (Y:0<=i) (h1:i.toNat<n)
  (k:W x ops Q rest H M ((d,.pointer (some (ad.add (i.toNat*sz))))::L)):
  W x ops Q (⟨some d,.indexAddr t y z,ty,pos,aft,g⟩::rest) H M L:=
 gL rfl hg hN (λc w I ht=>by
  have J:i<(n:Int):=by omega
  simp [execOp,I.ev hy,I.ev hz,Instr.indexAt,asIntOf,Z,hs,Y,J]) k
end
class aK (α:Type) where
 sz:Nat
 E:Hp->List RV->α->Prop
 len:∀ {H cs x},E H cs x->cs.length=sz
 mono:∀ {H H' cs x},H.le H'->E H cs x->E H' cs x
 one:∀ {H cs x},E H cs x->∀ c ∈ cs,c.oneCell'=true
instance:aK Int where
 sz:=1
 E _ cs n:=cs=[.int .i64 n]
 len h:=by rw [h]; rfl
 mono _ h:=h
 one h c hc:=by rw [h] at hc; simp at hc; subst hc; rfl
instance:aK Bool where
 sz:=1
 E _ cs b:=cs=[.bool b]
 len h:=by rw [h]; rfl
 mono _ h:=h
 one h c hc:=by rw [h] at hc; simp at hc; subst hc; rfl
instance:aK RU where
 sz:=1
 E _ cs s:=cs=[.string s]
 len h:=by rw [h]; rfl
 mono _ h:=h
 one h c hc:=by rw [h] at hc; simp at hc; subst hc; rfl
instance:aK UInt8 where
 sz:=1
 E _ cs n:=cs=[.int .u8 n.toNat]
 len h:=by rw [h]; rfl
 mono _ h:=h
 one h c hc:=by rw [h] at hc; simp at hc; subst hc; rfl
instance:aK UInt32 where
 sz:=1
 E _ cs n:=cs=[.int .u32 n.toNat]
 len h:=by rw [h]; rfl
 mono _ h:=h
 one h c hc:=by rw [h] at hc; simp at hc; subst hc; rfl
instance:aK UInt64 where
 sz:=1
 E _ cs n:=cs=[.int .u64 n.toNat]
 len h:=by rw [h]; rfl
 mono _ h:=h
 one h c hc:=by rw [h] at hc; simp at hc; subst hc; rfl
def aU {α:Type}[aK α] (H:Hp) (v:RV) (xs:List α):Prop:=
 ((∃ a,v=.slice a 0 0)/\xs=[]) \/
 ∃ b off cap arr T fz,v=.slice (some ⟨b,off,none⟩) xs.length cap/\xs.length<=cap/\cap<=maxLen/\H b=some (.cells arr T fz)/\off+cap*aK.sz α<=arr.size /\
  ∀ k e,xs[k]? = some e->∃ cs,aK.E H cs e/\∀ j c,cs[j]? = some c->arr[off+k*aK.sz α+j]? = some c
theorem aU.mono {α:Type}[aK α] {H H':Hp}{v:RV}{xs:List α} (I:H.le H') (h:aU H v xs):aU H' v xs:=by
 rcases h with h | ⟨b,off,cap,arr,T,fz,h1,h2,J,Y,Z,h6⟩
 ·exact .inl h
 ·exact .inr ⟨b,off,cap,arr,T,fz,h1,h2,J,I _ _ Y,Z,λk e he=>let ⟨cs,a,b⟩:=h6 k e he; ⟨cs,aK.mono I a,b⟩⟩
instance {α:Type}[aK α]:aK (List α) where
 sz:=1
 E H cs xs:=∃ v,cs=[v]/\aU H v xs
 len h:=by obtain ⟨v,rfl,_⟩:=h; rfl
 mono hle h:=by obtain ⟨v,e,I⟩:=h; exact ⟨v,e,I.mono hle⟩
 one h c hc:=by
  obtain ⟨v,rfl,I⟩:=h;simp at hc; subst hc
  rcases I with ⟨⟨a,rfl⟩,_⟩ | ⟨b,off,cap,arr,T,fz,rfl,_⟩ <;> rfl
def Value.base:RV->Addr
 | .slice (some a) _ _=>a
 | _=>⟨0,0,none⟩
def Value.lX:RV->Nat
 | .slice _ _ c=>c
 | _=>0
theorem aU.len {α:Type}[aK α] {H:Hp}{v:RV}{xs:List α} (h:aU H v xs):∃ a c,v=.slice a xs.length c/\xs.length<=c/\c<=maxLen:=by
 rcases h with ⟨⟨a,rfl⟩,rfl⟩ | ⟨b,off,cap,arr,T,fz,rfl,h2,I,_⟩
 ·exact ⟨a,0,rfl,Sj _,by unfold maxLen; omega⟩
 ·exact ⟨_,cap,rfl,h2,I⟩
theorem aU.val {α:Type}[aK α] {H:Hp}{v:RV}{xs:List α} (h:aU H v xs) {k:Nat}{e:α} (he:xs[k]? = some e):v=.slice (some (Value.base v)) xs.length (Value.lX v):=by
 rcases h with ⟨⟨a,rfl⟩,rfl⟩ | ⟨b,off,cap,arr,T,fz,rfl,_⟩
 ·simp at he
 ·rfl
theorem aU.elem {α:Type}[aK α] {H:Hp}{v:RV}{xs:List α} (h:aU H v xs) {k:Nat}{e:α} (he:xs[k]? = some e):
  ∃ cs,aK.E H cs e/\kF H ((Value.base v).add (k*aK.sz α)) cs:=by
 rcases h with ⟨⟨a,rfl⟩,rfl⟩ | ⟨b,off,cap,arr,T,fz,rfl,h2,h3,I,h5,J⟩
 ·simp at he
 ·obtain ⟨cs,Y,Z⟩:=J k e he
  refine ⟨cs,Y,λj c hc=>⟨arr,T,fz,?_,?_,?_⟩⟩
  ·simp only [Value.base,SZ]; exact I
  ·simp only [Value.base,SZ]
  ·simp only [Value.base,SZ]; exact Z j c hc
section
variable {x:Cx}{ops:Array Oper}{Q:mj}{rest:List Oper}{H:Hp}{M M':List b_}{L L':Env}
variable {d:Nat}{ty:TypeId}{pos:String}{aft:Array Edge}{g:Option (Nat×Bool)}
theorem F9 {α:Type}[aK α] {t e:TypeId}{y z:Operand}{v:RV}{xs:List α}{el:α}{kk:IntKind}{i:Int} (Y:gd ops L ⟨some d,.indexAddr t y z,ty,pos,aft,g⟩=some true) (hN:Nat.blt d x.N=true)
  (J:∀ w,(underlying t).run x.P w=.ok (.slice e) w) (hs:∀ w,(sizeOf e).run x.P w=.ok (aK.sz α) w)
  (Z:ev L y=some v) (hR:aU H v xs) (hz:ev L z=some (.int kk i)) (I:0<=i) (he:xs[i.toNat]? = some el)
  (k:W x ops Q rest H M ((d,.pointer (some ((Value.base v).add (i.toNat*aK.sz α))))::L)):
  W x ops Q (⟨some d,.indexAddr t y z,ty,pos,aft,g⟩::rest) H M L:=
 KO Y hN J hs (by rw [Z,<- hR.val he]) hz I (by rcases R3.1 he with ⟨h,_⟩; exact h) k
theorem KQ {α:Type}[aK α] {t e:TypeId}{y:Operand}{v:RV}{xs:List α} (J:gd ops L ⟨some d,.call ⟨.builtin .len,#[y],#[t]⟩,ty,pos,aft,g⟩=some true) (hN:Nat.blt d x.N=true)
  (I:∀ w,(underlying t).run x.P w=.ok (.slice e) w) (Y:ev L y=some v) (hR:aU H v xs) (k:W x ops Q rest H M ((d,.int .i64 xs.length)::L)):
  W x ops Q (⟨some d,.call ⟨.builtin .len,#[y],#[t]⟩,ty,pos,aft,g⟩::rest) H M L:=by
 obtain ⟨a,c,rfl,_⟩:=hR.len;exact Ai J hN I Y k
end
def over (l:List RV) (k:Nat):List RV->List RV
 | []=>l
 | v::vs=>over (l.set k v) (k+1) vs
theorem oT (vs:List RV):∀ (l:List RV) (k:Nat),(over l k vs).length=l.length:=by
 induction vs with
 | nil=>intro l k; rfl
 | cons v vs ih=>intro l k; simp [over,ih]
theorem jN {P:Program} (b o:Nat) (T:TypeId):∀ (vs:List RV) (i:Nat) (l:List RV) (w:World),w.heap[b]? = some (.cells l.toArray T (0,0)) ->
  o+i+vs.length<=l.length->(∀ v ∈ vs,v.oneCell'=true) ->
  ∃ Y,(storeCells ⟨b,o,none⟩ vs i).run P w=.ok () Y/\Y.heap[b]? = some (.cells (over l (o+i) vs).toArray T (0,0))/\w.grownBy Y (some b)
 | [],i,l,w,h,_,_=>⟨w,rfl,h,⟨rfl,rfl,rfl,Sj _,λ_ _ _=>rfl⟩⟩
 | v::vs,i,l,w,h,hb,h1=>by
  have Z:o+i<l.length:=by simp at hb; omega
  have hc:w.cell? ⟨b,o+i,none⟩=some l[o+i]:=WW (w:=w) (ad:=⟨b,o+i,none⟩) h rfl (by simp [Z])
  have hf:w.frozen? ⟨b,o+i,none⟩=false:=by simp [World.frozen?,h]
  have h':(w.setCell ⟨b,o+i,none⟩ v).heap[b]? = some (.cells (l.set (o+i) v).toArray T (0,0)):=by
   simp [World.setCell,W8,h]
  obtain ⟨Y,hr,hh,I⟩:=jN (P:=P) b o T vs (i+1) (l.set (o+i) v) (w.setCell ⟨b,o+i,none⟩ v) h' (by simp at hb ⊢; omega) (λu hu=>h1 u (Sa _ hu))
  refine ⟨Y,?_,?_,?_⟩
  ·have hv:=h1 v (R6 ..)
   simp only [storeCells,Se,store,SZ];have:(Sem.store Mode.plain ⟨b,o+i,none⟩ v (Sem.pure ())).run P w=.ok () (w.setCell ⟨b,o+i,none⟩ v):=by
    cases v <;> first
     | (simp [Sem.run,hc,hf]; done)
     | simp [Value.oneCell'] at hv
   rw [this];simpa using hr
  ·simpa [over,Uv] using hh
  ·exact ⟨I.os,I.tape,I.output,by have:=I.size; simpa [World.setCell] using this,λk hk J=>by
    rw [I.block k (by simpa [World.setCell] using hk) J]
    exact Below.heap_setCell _ _ _ _ (by intro e; subst e; exact J rfl)⟩
section
variable {x:Cx}{ops:Array Oper}{Q:mj}{rest:List Oper}{H:Hp}{M M':List b_}{L L':Env}
variable {ty:TypeId}{pos:String}{aft:Array Edge}{g:Option (Nat×Bool)}
theorem EY {T E:TypeId}{n:Nat}{y z:Operand}{b o:Nat}{l cs out:List RV}{v:RV} (hg:gd ops L ⟨none,.store T y z,ty,pos,aft,g⟩=some true)
  (hn:∀ w,(sizeOf T).run x.P w=.ok n w) (hy:ev L y=some (.pointer (some ⟨b,o,none⟩))) (hz:ev L z=some v) (hv:v.cells=cs.toArray) (hl:cs.length=n)
  (Y:Nat.ble (o+cs.length) l.length=true) (h1:∀ c ∈ cs,c.oneCell'=true) (ho:over l o cs=out)
  (k:W x ops Q rest H (.obj b (.cells out.toArray E (0,0))::M) L):
  W x ops Q (⟨none,.store T y z,ty,pos,aft,g⟩::rest) H (.obj b (.cells l.toArray E (0,0))::M) L:=
 EX rfl hg (λa w hs ht=>by
  subst ho;have J:=ht.xo (R6 ..);obtain ⟨w',hr,hh,I⟩:=jN (P:=x.P) b o E cs 0 l w J (by simpa [US] using Y) h1
  refine ⟨w',?_,H,_,ht.EN (r':=.obj b (.cells (over l o cs).toArray E (0,0))) I hh (λc Z=>.inl Z),k⟩;simp [execOp,hs.ev hy,hs.ev hz,Instr.storeAt,Instr.sureAddr,storeVar,hn,hl,hv,hr])
end
theorem least {p:Nat->Prop}:∀ n,p n->∃ m,p m/\∀ k,p k->m<=k:=by
 intro n
 induction n using Nat.strongRecOn with
 | _ n ih=>
  intro h
  by_cases I:∃ m,m<n/\p m
  ·obtain ⟨m,O,Y⟩:=I; exact ih m O Y
  ·exact ⟨n,h,λk J=>by
    by_cases e:k<n
    ·exact absurd ⟨k,e,J⟩ I
    ·omega⟩
theorem ME {P:Program}{Q:mj}{c:Code} (J:Nat->Act->World->Prop) {n:Nat}{a:Act}{w:World} (h0:J n a w)
  (I:∀ n a w,J n a w->c.wp P (Exit.then (λZ w'=>∃ m,m<n/\J m Z w') Q) a w):(Code.loop c).wp P Q a w:=by
 have hex:∀ a w,(∃ n,J n a w)->∃ m,J m a w/\∀ k,J k a w->m<=k:=λa w ⟨n,h⟩=>least n h
 let μ:Act->World->Nat:=λa w=>Classical.epsilon (λm=>J m a w/\∀ k,J k a w->m<=k)
 have Y:∀ a w,(∃ n,J n a w)->J (μ a w) a w/\∀ k,J k a w->μ a w<=k:=λa w h=>Classical.epsilon_spec (p:=λm=>J m a w/\∀ k,J k a w->m<=k) (hex a w h);refine wp_loop (λa w=>∃ n,J n a w) μ ⟨n,h0⟩ λa w h=>?_;refine wp_mono (I (μ a w) a w (Y a w h).1) ?_;intro e Z w' hq;cases e with
 | normal=>
  obtain ⟨m,O,hJ⟩:=hq;exact ⟨⟨m,hJ⟩,Vh ((Y Z w' ⟨m,hJ⟩).2 m hJ) O⟩
 | _=>exact hq
abbrev Ec:=Nat->Hp->List b_->Env->Prop
def Kw (x:Cx) (S:Ec) (n:Nat) (a:Act) (w:World):Prop:=
 ∃ m,m<n/\∃ H M L,S m H M L/\Sl x.N L a/\St x.B x.w0 H M w
theorem CG {x:Cx}{c:Code}{Q:mj}{H:Hp}{M:List b_}{L:Env} (S:Ec) (n:Nat) (I:S n H M L)
  (step:∀ n H M L,S n H M L->C x c (Exit.then (Kw x S n) Q) H M L):C x (.loop c) Q H M L:=by
 intro a w hs ht;refine ME (λn a w=>∃ H M L,S n H M L/\Sl x.N L a/\St x.B x.w0 H M w) ⟨H,M,L,I,hs,ht⟩ ?_;intro n a w ⟨H,M,L,h,hs,ht⟩;exact step n H M L h a w hs ht
theorem sh {x:Cx}{S:Ec}{Q:mj}{H:Hp}{M:List b_}{L:Env}{n m:Nat} (O:m<n) (h:S m H M L):E x .normal (Exit.then (Kw x S n) Q) H M L:=
 λ_ _ hs ht=>⟨m,O,H,M,L,h,hs,ht⟩
section
variable {x:Cx}{Q:mj}{H:Hp}{M:List b_}{L:Env}{K:Act->World->Prop}
theorem kE (h:E x .ret Q H M L):E x .ret (Exit.then K Q) H M L:=h
theorem uY {id:Nat} (h:E x .ret Q H M L):E x .ret (Exit.inBlock id Q) H M L:=h
theorem gW {id:Nat} (h:E x (.exit id) Q H M L):E x (.exit id) (Exit.then K Q) H M L:=h
theorem nZ {id:Nat} (h:E x .normal Q H M L):E x (.exit id) (Exit.inBlock id Q) H M L:=λa w hs ht=>by
 simp only [Exit.inBlock,Wy]; exact h a w hs ht
theorem uX {id I:Nat} (J:Nat.beq id I=false) (h:E x (.exit id) Q H M L):E x (.exit id) (Exit.inBlock I Q) H M L:=λa w hs ht=>by
 have:¬ id=I:=λe=>by subst e; simp at J
 simp only [Exit.inBlock,R8 this]; exact h a w hs ht
theorem nE {id:Nat} (h:E x .normal Q H M L):E x .normal (Exit.inBlock id Q) H M L:=h
end
abbrev PJ:=Hp->List b_->Env->Prop
theorem tl {x:Cx}{c d:Code}{Q:mj}{H:Hp}{M:List b_}{L:Env} (S:PJ) (rest:∀ H M L,S H M L->C x d Q H M L)
  (k:(∀ H M L,S H M L->E x .normal (Exit.then (d.wp x.P Q) Q) H M L)->C x c (Exit.then (d.wp x.P Q) Q) H M L):C x (.seq c d) Q H M L:=
 bT (k λH M L h=>aV (rest H M L h))
theorem gU {α:Type}{xs ys:List α}{k:Nat} (h:xs.drop k=ys) (J:decide ((k:Int)<(xs.length:Int))=true):
  ∃ y zs,ys=y::zs/\xs[k]? = some y/\xs.drop (k+1)=zs:=by
 have I:k<xs.length:=by have:=R7 J; omega
 refine ⟨xs[k],xs.drop (k+1),?_,RY I,rfl⟩;rw [<- h,SF I]
theorem gT {α:Type}{xs ys:List α}{k:Nat} (h:xs.drop k=ys) (I:decide ((k:Int)<(xs.length:Int))=false):ys=[]:=by
 have J:xs.length<=k:=by have:=Sc I; omega
 rw [<- h,List.drop_eq_nil_of_le J]
theorem zd {n:Int} (I:-9223372036854775808<=n) (h1:n<=9223372036854775807):i64.wrap n=n:=by
 simp only [IntKind.wrap,IntKind.bits,IntKind.signed,Bool.true_and]
 split <;> rename_i h <;> simp at h <;> omega
theorem cQ {α:Type}{xs:List α}{k:Nat}{y:α} (h:xs[k]? = some y) (hl:xs.length<=maxLen):i64.wrap ((k:Int)+1)=((k+1:Nat):Int):=by
 have I:=(R3.1 h).1;unfold maxLen at hl;rw [zd (by omega) (by omega)]; rfl
theorem fO {k n:Nat} (h:k<n) (hl:n<=maxLen):i64.wrap ((k:Int)+1)=((k+1:Nat):Int):=by
 unfold maxLen at hl;rw [zd (by omega) (by omega)]; rfl
theorem aU.dN {α:Type}[aK α] {H:Hp}{v:RV}{xs:List α} (h:aU H v xs):xs.length<=maxLen:=by
 obtain ⟨a,c,_,h1,h2⟩:=h.len; omega
def Er:Nat->List RV->Env
 | _,[]=>[]
 | i,v::vs=>(i,v)::Er (i+1) vs
theorem JP (N:Nat):∀ (vs:List RV) (i:Nat) (t:Nat) (v:RV) (pre:List RV),pre.length=i->lk (Er i vs) t=some v ->
  ((pre++vs).toArray++Array.replicate (N-(pre++vs).length) undef)[t]? = some v:=by
 intro vs
 induction vs with
 | nil=>intro i t v pre _ h; simp [Er,lk] at h
 | cons u vs ih=>
  intro i t v pre I h;simp only [Er,uU] at h
  split at h
  ·rename_i e; subst e; cases h
   simp [Array.getElem?_append,<- I]
  ·have:=ih (i+1) t v (pre++[u]) (by simp [I]) h
   simpa using this
theorem enter {P:Program}{f:FuncId}{fn:Func}{c:Code}{vs:List RV}{N B:Nat}{w0 w:World}{H:Hp}{M:List b_}{Φ:Hp->List b_->RV->Prop}
  (Y:P.funcs[f]? = some fn) (J:fn.body=some c) (hN:fn.ntmps=N) (I:Nat.ble vs.length N=true) (ht:St B w0 H M w)
  (k:C ⟨P,N,B,w0⟩ c (bodyPost P fn (vi B w0 Φ)) H M (Er 0 vs)):Calls P f vs.toArray w (vi B w0 Φ):=by
 refine calls_of_wp Y J (k _ w ⟨?_,rfl,?_⟩ ht)
 ·have:vs.length<=N:=by simpa [US] using I
  simp [hN]; omega
 ·intro t v h
  have:=JP N vs 0 t v [] rfl h;simpa [hN] using this
section
variable {P:Program}{N B:Nat}{w0:World}{fn:Func}{Φ:Hp->List b_->RV->Prop}{H:Hp}{M:List b_}{L:Env}
theorem iZ {t:Nat}{v:RV} (I:fn.results=#[.tmp t]) (hl:lk L t=some v) (h:Φ H M v):E ⟨P,N,B,w0⟩ .ret (bodyPost P fn (vi B w0 Φ)) H M L:=
 λa w hs ht=>⟨hs.Gq,v,by rw [results_tmp I]; simp [SS,hs.get t v hl],H,M,ht,h⟩
theorem yH {t u:Nat}{v1 v2:RV} (J:fn.results=#[.tmp t,.tmp u]) (hl:lk L t=some v1) (I:lk L u=some v2) (h:Φ H M (.tuple #[v1,v2])):E ⟨P,N,B,w0⟩ .ret (bodyPost P fn (vi B w0 Φ)) H M L:=
 λa w hs ht=>⟨hs.Gq,.tuple #[v1,v2],by rw [results_tmp2 J]; simp [SS,hs.get t v1 hl,hs.get u v2 I],H,M,ht,h⟩
end
section
variable {α σ R:Type}
def idx (l:List α) (i:Int) (k:α->Option R):Option R:=
 if 0<=i then match l[i.toNat]? with
  | some y=>k y
  | none=>none
 else none
theorem aE {l:List α}{i:Int}{k:α->Option R}{r:R} (h:idx l i k=some r):∃ y,0<=i/\l[i.toNat]? = some y/\k y=some r:=by
 unfold idx at h
 split at h
 ·cases hl:l[i.toNat]? with
  | none=>rw [hl] at h; cases h
  | some y=>rw [hl] at h; exact ⟨y,‹_›,rfl,h⟩
 ·cases h
def cZ (p:Prop) [Decidable p] (k:Option R):Option R:=if p then k else none
theorem aM {p:Prop}[Decidable p] {k:Option R}{r:R} (h:cZ p k=some r):p/\k=some r:=by
 unfold cZ at h
 split at h
 ·exact ⟨‹_›,h⟩
 ·cases h
theorem aY {o:Option α}{k:α->Option R}{r:R} (h:o.bind k=some r):∃ y,o=some y/\k y=some r:=by
 cases o with
 | none=>cases h
 | some y=>exact ⟨y,rfl,h⟩
def eL (I:Nat->α->σ->(σ->Option R)->Option R) (k:σ->Option R):Nat->List α->σ->Option R
 | _,[],s=>k s
 | i,y::ys,s=>I i y s (eL I k (i+1) ys)
def lH (I:Nat->σ->(σ->Option R)->Option R) (k:σ->Option R):Nat->Nat->σ->Option R
 | 0,_,s=>k s
 | n+1,i,s=>I i s (lH I k n (i+1))
def iV (I:σ->(σ->Option R)->Option R):Nat->σ->Option R
 | 0,_=>none
 | n+1,s=>I s (iV I n)
def gO:Nat:=1152921504606846976
end
theorem Bx (X Y:Env) (t:Nat):lk (X++Y) t=(lk X t).or (lk Y t):=by
 induction X with
 | nil=>simp [lk]
 | cons p X ih=>
  obtain ⟨u,v⟩:=p;simp only [Ur,uU]
  split <;> simp [ih]
theorem HR {X:Env}{t:Nat}{v:RV} (h:lk X t=some v):(t,v) ∈ X:=by
 induction X with
 | nil=>simp [lk] at h
 | cons p X ih=>
  obtain ⟨u,w⟩:=p;rw [uU] at h
  split at h
  ·rename_i e; subst e; cases h; exact R6 ..
  ·exact Sa _ (ih h)
theorem Sl.more {N:Nat}{L X:Env}{a:Act} (h:Sl N L a) (I:∀ t v,(t,v) ∈ X->a.tmps[t]? = some v):Sl N (L++X) a:=
 ⟨h.size,h.Gq,λt v ht=>by
  rw [Bx] at ht;cases hl:lk L t with
  | some u=>rw [hl] at ht; simp at ht; subst ht; exact h.get t _ hl
  | none=>rw [hl] at ht; simp at ht; exact I t v (HR ht)⟩
theorem Sl.cons {N:Nat}{L:Env}{a:Act}{t:Nat}{v:RV} (h:Sl N L a) (J:a.tmps[t]? = some v):Sl N ((t,v)::L) a:=
 ⟨h.size,h.Gq,λu w I=>by
  rw [uU] at I
  split at I
  ·rename_i e; subst e; cases I; exact J
  ·exact h.get u w I⟩
theorem Sl.left {N:Nat}{L X:Env}{a:Act} (h:Sl N (L++X) a):Sl N L a:=
 ⟨h.size,h.Gq,λt v ht=>h.get t v (by rw [Bx,ht]; rfl)⟩
def kR (o:Oper):List Nat:=(o.after.toList.filter λe=>Region.binds .any e).map (·.on)
def MN (l:List Oper) (Φ:Nat->Hp->RV->Prop) (H:Hp):List Nat->Env->(Env->Prop)->Prop
 | [],L,k=>k L
 | j::I,L,k=>match (l[j]?).bind (·.dst) with
  | some t=>∀ v,Φ j H v->MN l Φ H I ((t,v)::L) k
  | none=>MN l Φ H I L k
def One (x:Cx) (H:Hp) (M:List b_) (L:Env) (t:Nat) (I:Hp->RV->Prop):mj:=λe a w=>
 e=.normal/\∃ v H',Sl x.N ((t,v)::L) a/\H.le H'/\St x.B x.w0 H' M w/\I H' v
def MO (x:Cx) (l:List Oper) (Φ:Nat->Hp->RV->Prop) (H:Hp) (M:List b_) (L:Env):Nat->List Oper->Prop
 | _,[]=>True
 | i,o::r=>(∀ H',H.le H'->∀ X,MN l Φ H' (kR o) (L++X) (λL'=>W x l.toArray (One x H' M L' (o.dst.getD 0) (Φ i)) [o] H' M L'))/\MO x l Φ H M L (i+1) r
theorem MO.at {x:Cx}{l:List Oper}{Φ:Nat->Hp->RV->Prop}{H:Hp}{M:List b_}{L:Env}:∀ {r:List Oper}{i:Nat},MO x l Φ H M L i r->∀ j o,r[j]? = some o ->
  ∀ H',H.le H'->∀ X,MN l Φ H' (kR o) (L++X) (λL'=>W x l.toArray (One x H' M L' (o.dst.getD 0) (Φ (i+j))) [o] H' M L')
 | [],_,_,j,o,h=>by simp at h
 | p::r,i,hh,0,o,h=>by simp at h; subst h; exact hh.1
 | p::r,i,hh,j+1,o,h=>by
  have:=MO.at hh.2 j o (by simpa using h)
  rwa [show i+1+j=i+(j+1) from by omega] at this
theorem MN.use {l:List Oper}{Φ:Nat->Hp->RV->Prop}{H:Hp}{a:Act}{N:Nat}:∀ {J:List Nat}{L:Env}{k:Env->Prop},MN l Φ H J L k->Sl N L a ->
  (∀ j ∈ J,∀ t,(l[j]?).bind (·.dst)=some t->∃ v,a.tmps[t]? = some v/\Φ j H v)->∃ Y,k (Y++L)/\Sl N (Y++L) a/\∀ t v,(t,v) ∈ Y->a.tmps[t]? = some v
 | [],L,k,h,hs,_=>⟨[],h,hs,by simp⟩
 | j::J,L,k,h,hs,hv=>by
  unfold MN at h;cases I:(l[j]?).bind (·.dst) with
  | none=>
   rw [I] at h;exact MN.use h hs (λi hi=>hv i (Sa _ hi))
  | some t=>
   rw [I] at h;obtain ⟨v,h1,h2⟩:=hv j (R6 ..) t I;obtain ⟨Y,Z,h4,h5⟩:=MN.use (h v h2) (hs.cons h1) (λi hi=>hv i (Sa _ hi));refine ⟨Y++[(t,v)],by simpa using Z,by simpa using h4,?_⟩
   intro u w O;rcases Sf.1 O with O | O
   ·exact h5 u w O
   ·simp at O; obtain ⟨rfl,rfl⟩:=O; exact h1
theorem mem_ready {I:Array Oper}{listed:Array Bool}{i:Nat}:i ∈ Region.ready .any I listed↔i<I.size/\listed.getD i true=false/\∃ o,I[i]? = some o/\∀ j ∈ kR o,listed.getD j false=true:=by
 unfold Region.ready kR;simp only [Tc,S0,TL,Bool.not_eq_true'];refine and_congr_right λhi=>and_congr_right λ_=>?_;have:I[i]? = some I[i]:=U1 hi;simp only [this,Tq,Ug,Array.all_eq_true',Sn,SV,Tc,Array.mem_toList_iff,TI,Bool.not_eq_true'];constructor
 ·intro h
  refine ⟨_,rfl,?_⟩;rintro j ⟨e,⟨he,J⟩,rfl⟩;rcases h e he with h | h
  ·rw [h] at J; cases J
  ·exact h
 ·rintro ⟨o,rfl,h⟩ e he
  cases J:Region.binds .any e with
  | false=>exact .inl rfl
  | true=>exact .inr (h _ ⟨e,⟨he,J⟩,rfl⟩)
section
variable {x:Cx}{l:List Oper}{m:Nat}{Φ:Nat->Hp->RV->Prop}{H:Hp}{M:List b_}{L:Env}{Q:mj}
theorem wh (b:Array Bool) (i j:Nat) (d:Bool) (hi:i<b.size):(b.setIfInBounds i true).getD j d=if j=i then true else b.getD j d:=by
 simp only [SS,Wd]
 by_cases e:i=j
 ·subst e; simp [hi]
 ·simp [e,Ne.symm e]
def left (l:List Oper) (listed:Array Bool):Nat:=(List.range l.length).countP λi=>!listed.getD i true
theorem LQ {listed:Array Bool}{i:Nat} (Z:listed.size=l.length) (hi:i<l.length) (hl:listed.getD i true=false):left l (listed.setIfInBounds i true)+1=left l listed:=by
 unfold left;have key:∀ n,i<n->n<=l.length->(List.range n).countP (λj=>!(listed.setIfInBounds i true).getD j true)+1=(List.range n).countP (λj=>!listed.getD j true):=by
  intro n
  induction n with
  | zero=>omega
  | succ n ih=>
   intro h1 h2;rw [V1,List.countP_append,List.countP_append]
   by_cases e:i=n
   ·subst e
    have:∀ n,n<=i->(List.range n).countP (λj=>!(listed.setIfInBounds i true).getD j true)=(List.range n).countP (λj=>!listed.getD j true):=by
     intro n hn;refine List.countP_congr λj J=>?_;have Y:=S0.1 J;rw [wh _ _ _ _ (by omega),R8 (by omega)]
    rw [this i (Sj _)];simp only [List.countP_cons,List.countP_nil,wh _ _ _ _ (by omega:i<listed.size),hl,Wy]
    simp
   ·have:=ih (by omega) (by omega)
    have I:(listed.setIfInBounds i true).getD n true=listed.getD n true:=by rw [wh _ _ _ _ (by omega),R8 (by omega)]
    simp only [List.countP_cons,List.countP_nil,I];omega
 exact key l.length hi (Sj _)
end
structure U8 where
 n:Int
 deriving DecidableEq
structure QB where
 n:Int
 deriving DecidableEq
structure cL where
 n:Int
 deriving DecidableEq
structure QC where
 n:Int
 deriving DecidableEq
structure Qz where
 n:Int
 deriving DecidableEq
instance:aK U8 where
 sz:=1
 E _ cs x:=cs=[.int .u8 x.n]
 len h:=by rw [h]; rfl
 mono _ h:=h
 one h c hc:=by rw [h] at hc; simp at hc; subst hc; rfl
instance:aK QB where
 sz:=1
 E _ cs x:=cs=[.int .u16 x.n]
 len h:=by rw [h]; rfl
 mono _ h:=h
 one h c hc:=by rw [h] at hc; simp at hc; subst hc; rfl
instance:aK cL where
 sz:=1
 E _ cs x:=cs=[.int .u32 x.n]
 len h:=by rw [h]; rfl
 mono _ h:=h
 one h c hc:=by rw [h] at hc; simp at hc; subst hc; rfl
instance:aK QC where
 sz:=1
 E _ cs x:=cs=[.int .u64 x.n]
 len h:=by rw [h]; rfl
 mono _ h:=h
 one h c hc:=by rw [h] at hc; simp at hc; subst hc; rfl
instance:aK Qz where
 sz:=1
 E _ cs x:=cs=[.int .i32 x.n]
 len h:=by rw [h]; rfl
 mono _ h:=h
 one h c hc:=by rw [h] at hc; simp at hc; subst hc; rfl
theorem aU.nil {α:Type}[aK α] {H:Hp}:aU H (.slice none 0 0) ([]:List α):=.inl ⟨⟨_,rfl⟩,rfl⟩
theorem aU.cells {α:Type}[aK α] {H:Hp}{v:RV}{xs:List α} (h:aU H v xs):v.cells=[v].toArray:=by
 obtain ⟨a,c,rfl,_⟩:=h.len; rfl
theorem aU.pH {α:Type}[aK α] {H:Hp}{v:RV}{xs:List α} (h:aU H v xs):v.oneCell'=true:=by
 obtain ⟨a,c,rfl,_⟩:=h.len; rfl
theorem TJ:∀ c ∈ ([]:List RV),c.oneCell'=true:=by intro c I; cases I
theorem dA {v:RV}{l:List RV} (h:v.oneCell'=true) (k:∀ c ∈ l,c.oneCell'=true):∀ c ∈ v::l,c.oneCell'=true:=by
 intro c I;rcases SQ.1 I with rfl | I
 ·exact h
 ·exact k c I
theorem kF.one {H:Hp}{ad:Addr}{cs:List RV} (h:kF H ad cs) (j:Nat) {c:RV} (I:cs[j]? = some c):CK H (ad.add j) c:=h j c I
theorem kF.part {H:Hp}{ad:Addr}{cs I:List RV}{k:Nat} (h:kF H ad cs) (Y:(cs.drop k).take I.length=I):kF H (ad.add k) I:=by
 intro j c J;have Z:j<I.length:=(R3.1 J).1;have:cs[k+j]? = some c:=by
  rw [<- Y,SU,R9 Z,SK] at J; exact J
 have:=h (k+j) c this;have e:(ad.add k).add j=ad.add (k+j):=by
  unfold Addr.add
  by_cases h1:k=0
  ·subst h1; simp
  ·by_cases h2:j=0
   ·subst h2; simp
   ·simp [h1,h2,Uv]
 rw [e]; exact this
theorem rJ {x:Cx}{H:Hp}{M:List b_}{b k:Nat}{l I:List RV}{T:TypeId}{fz:Nat×Nat}
  (O:b_.obj b (.cells l.toArray T fz) ∈ M) (Y:(l.drop k).take I.length=I):AG x H M ⟨b,k,none⟩ I:=by
 intro j c J;have Z:j<I.length:=(R3.1 J).1;rw [SZ];refine xp O ?_;rw [<- Y,SU,R9 Z,SK] at J; exact J
theorem EP {x:Cx}{e:Exit}{Q:mj}{H:Hp}{M M':List b_}{L L':Env} (k:E x e Q H M' L') (I:M.Perm M') (hL:Kept L L'):E x e Q H M L:=EO hL I k
theorem dM {α:Type}{b:Bool}{p q r:α} (I:b=true) (h:(if b=true then p else q)=r):p=r:=by rw [R9 I] at h; exact h
theorem dL {α:Type}{b:Bool}{p q r:α} (I:b=false) (h:(if b=true then p else q)=r):q=r:=by rw [R8 (by simp [I])] at h; exact h
section
variable {P:Program}{N B:Nat}{w0:World}{fn:Func}{H H0:Hp}{M:List b_}{L:Env}
end
def rL {α:Type}[aK α] (H:Hp):List RV->List α->Prop
 | cs,[]=>cs=[]
 | cs,y::ys=>∃ c r,cs=c++r/\aK.E H c y/\rL H r ys
section
variable {α:Type}[aK α] {H H':Hp}
theorem rL.nil:rL H [] ([]:List α):=rfl
theorem rL.cons {c r:List RV}{y:α}{ys:List α} (h:aK.E H c y) (k:rL H r ys):rL H (c++r) (y::ys):=⟨c,r,rfl,h,k⟩
theorem rL.mono (I:H.le H'):∀ {cs:List RV}{ys:List α},rL H cs ys->rL H' cs ys
 | _,[],h=>h
 | _,_::_,⟨c,r,e,h,k⟩=>⟨c,r,e,aK.mono I h,rL.mono I k⟩
theorem rL.len:∀ {cs:List RV}{ys:List α},rL H cs ys->cs.length=ys.length*aK.sz α
 | _,[],h=>by rw [show _=[] from h]; simp
 | _,_::ys,⟨c,r,e,h,k⟩=>by rw [e,Sg,aK.len h,rL.len k,R_,So]; omega
theorem rL.app:∀ {cs I:List RV}{ys zs:List α},rL H cs ys->rL H I zs->rL H (cs++I) (ys++zs)
 | _,I,[],zs,h,k=>by rw [show _=[] from h]; simpa using k
 | _,I,y::ys,zs,⟨c,r,e,h,k⟩,k2=>⟨c,r++I,by rw [e,Sr],h,rL.app k k2⟩
theorem rL.one:∀ {cs:List RV}{ys:List α},rL H cs ys->∀ c ∈ cs,c.oneCell'=true
 | _,[],h=>by rw [show _=[] from h]; simp
 | _,_::_,⟨c,r,e,h,k⟩=>by
  intro d I;rw [e] at I;rcases Sf.1 I with I | I
  ·exact aK.one h d I
  ·exact rL.one k d I
theorem rL.get:∀ {cs:List RV}{ys:List α},rL H cs ys->∀ k e,ys[k]? = some e->∃ c,aK.E H c e/\∀ j v,c[j]? = some v->cs[k*aK.sz α+j]? = some v
 | _,[],h,k,e,he=>by simp at he
 | _,y::ys,⟨c,r,e,h,k⟩,0,x,hx=>by
  simp at hx; subst hx
  exact ⟨c,h,λj v I=>by rw [e,TC,Sp,S9 (R3.1 I).1]; exact I⟩
 | _,y::ys,⟨c,r,e,h,k⟩,n+1,x,hx=>by
  obtain ⟨d,h1,h2⟩:=rL.get k n x (by simpa using hx)
  refine ⟨d,h1,λj v I=>?_⟩;rw [e,SB (by rw [aK.len h,So]; omega),aK.len h]
  rw [show (n+1)*aK.sz α+j-aK.sz α=n*aK.sz α+j from by rw [So]; omega]
  exact h2 j v I
theorem rL.split:∀ {cs:List RV}{ys:List α} (k:Nat),rL H cs ys->rL H (cs.take (k*aK.sz α)) (ys.take k)/\rL H (cs.drop (k*aK.sz α)) (ys.drop k)
 | cs,ys,0,h=>by rw [TC]; exact ⟨rfl,h⟩
 | _,[],k+1,h=>by rw [show _=[] from h,List.take_nil,List.drop_nil,List.take_nil,List.drop_nil]; exact ⟨rfl,rfl⟩
 | _,y::ys,k+1,⟨c,r,e,h,k2⟩=>by
  obtain ⟨h1,h2⟩:=rL.split k k2;have hl:=aK.len h;subst e;have e1:(k+1)*aK.sz α=c.length+k*aK.sz α:=by rw [So,hl]; omega
  rw [e1,List.take_length_add_append,List.drop_length_add_append];exact ⟨⟨c,_,rfl,h,h1⟩,h2⟩
theorem rL.put {cs c:List RV}{ys:List α}{y:α}{k:Nat} (h:rL H cs ys) (I:k<ys.length) (J:aK.E H c y):
  rL H (cs.take (k*aK.sz α)++c++cs.drop ((k+1)*aK.sz α)) (ys.set k y):=by
 obtain ⟨h1,_⟩:=h.split k;obtain ⟨_,h2⟩:=h.split (k+1);have:ys.set k y=ys.take k++y::ys.drop (k+1):=by rw [Vy,R9 I]
 rw [this,Sr];exact h1.app (rL.cons J h2)
theorem aU.flat {v : RV} {ys : List α} (h : aU H v ys) : ∃ cs, rL H cs ys ∧ ((∃ a, v = .slice a 0 0) ∧ ys = [] ∨ kF H (Value.base v) cs ∧ ∃ b off c, v = .slice (some ⟨b, off, none⟩) ys.length c) := by
  rcases h with ⟨⟨a, rfl⟩, rfl⟩ | ⟨b, off, cap, arr, T, fz, rfl, h2, h3, h4, h5, h6⟩
  · exact ⟨[], rL.nil, .inl ⟨⟨a, rfl⟩, rfl⟩⟩
  · have key : ∀ (zs : List α) (k : Nat), (∀ j e, zs[j]? = some e → ∃ cs, aK.E H cs e ∧ ∀ i c, cs[i]? = some c → arr[off + (k + j) * aK.sz α + i]? = some c) →
        ∃ cs, rL H cs zs ∧ ∀ i c, cs[i]? = some c → arr[off + k * aK.sz α + i]? = some c := by
      intro zs
      induction zs with
      | nil => intro k _; exact ⟨[], rL.nil, by simp⟩
      | cons z zs ih =>
        intro k hz;obtain ⟨c, I, Y⟩ := hz 0 z rfl;obtain ⟨r, hr, hrr⟩ := ih (k + 1) (fun j e he => by
          obtain ⟨cs, q1, q2⟩ := hz (j + 1) e (by simpa using he)
          exact ⟨cs, q1, fun i c I => by rw [show k + 1 + j = k + (j + 1) from by omega]; exact q2 i c I⟩)
        refine ⟨c ++ r, rL.cons I hr, fun i d J => ?_⟩;rw [Us] at J
        split at J
        · simpa using Y i d J
        · rename_i hn
          have := hrr _ d J;rw [aK.len I] at this hn;rw [show off + k * aK.sz α + i = off + (k + 1) * aK.sz α + (i - aK.sz α) from by rw [So]; omega]
          exact this
    obtain ⟨cs, Z, hh⟩ := key ys 0 (fun j e he => by simpa using h6 j e he)
    refine ⟨cs, Z, .inr ⟨fun i c I => ⟨arr, T, fz, ?_, ?_, ?_⟩, b, off, cap, rfl⟩⟩
    · simp only [Value.base, SZ]; exact h4
    · simp only [Value.base, SZ]
    · simp only [Value.base, SZ]; simpa using hh i c I
end
structure OG (P:Program) (T:TypeId) (sz bytes:Nat) (z:RV):Prop where
 ex:∃ i,P.info? T=some i/\i.size=sz/\i.bytes=bytes/\i.zero=some z
theorem St.xA {α:Type}[aK α] {B:Nat}{w0 w:World}{H:Hp}{M:List b_}{v:RV}{T:TypeId}{n:Nat}{xs:List RV}{ys:List α}
  (h:St B w0 H (.row v T (aK.sz α) n xs::M) w) (hx:rL H xs ys) (hs:0<aK.sz α):∃ H',H.le H'/\St B w0 H' M w/\aU H' v ys:=by
 have hok:=h.ok _ (R6 ..);obtain ⟨hl,hh⟩:=hok;have hn:n=ys.length:=by
  have:=hx.len;rw [hl] at this;exact TM hs this
 subst hn;rcases hh with ⟨rfl,h0⟩ | ⟨g,off,cap,Y,rfl,hg,hnc,hcm,hcs,J⟩
 ·refine ⟨H,SP _,h.tail,.inl ⟨⟨_,rfl⟩,Sv h0⟩⟩
 ·have h':St B w0 H (.obj g (.cells Y T (0,0))::M) w:=by
   refine ⟨h.below,h.le,h.vZ,?_,?_,h.nd⟩
   ·intro r I
    rcases SQ.1 I with rfl | I
    ·exact hg
    ·exact h.tail.ok r I
   ·intro r I
    rcases SQ.1 I with rfl | I
    ·exact h.lo (.row _ T (aK.sz α) ys.length xs) (R6 ..)
    ·exact h.tail.lo r I
  obtain ⟨Z,hst⟩:=h'.freeze;refine ⟨_,Z,hst,.inr ⟨g,off,cap,Y,T,(0,0),rfl,hnc,hcm,Hp.y8 _ _ _,hcs,?_⟩⟩;intro k e he;obtain ⟨c,h1,h2⟩:=(hx.mono Z).get k e he;refine ⟨c,h1,λj d hd=>?_⟩;have:=h2 j d hd;rw [<- J,SU] at this
  split at this
  ·rw [SK] at this; simpa [Uv] using this
  ·cases this
theorem vT:∀ (vs l:List RV) (k:Nat),k+vs.length<=l.length->over l k vs=l.take k++vs++l.drop (k+vs.length)
 | [],l,k,_=>by simp [over]
 | v::vs,l,k,h=>by
  simp only [R_] at h;rw [over,vT vs _ _ (by simp; omega)]
  have I:k<l.length:=by omega
  rw [Su (by simpa using I)]
  simp only [List.getElem_set_self,R_];rw [Vb (by omega),UK (by omega)]
  simp only [Sr,Ur,TG];rw [show k+1+vs.length=k+(vs.length+1) from by omega]
theorem FJ {P:Program}{w:World}{t ty e:TypeId}{i:TypeInfo}{z:RV}{size bytes:Nat} (ht:P.underlying t=some (.slice e)) (hi:P.info? e=some i) (hz:i.zero=some z)
  (hsize:i.size=size) (hby:i.bytes=bytes) (hzs:z.cells.size=size) (hsz:0<size)
  {v:RV}{n:Nat}{xs:List RV} (J:iU w e size v n xs)
  {a:Addr}{m c:Nat}{news:List RV} (hl:news.length=m*size) (Y:∀ j u,news[j]? = some u->w.cell? (a.add j)=some u) (h1:∀ u ∈ news,u.oneCell'=true)
  (h63:n+m<=maxLen) (hbytes:(n+m)*bytes<=140737488355328):
  ∃ v' w',(Builtin.append_ #[t,t] ty #[v,.slice (some a) m c]).run P w=.ok v' w'/\iU w' e size v' (n+m) (xs++news)/\w.grownBy w' v.ownBlock /\
   (∀ b,v'.ownBlock=some b->v.ownBlock=some b\/w.heap.size<=b):=by
 subst hsize;subst hby;have hsmall:n+m<=9223372036854775807:=by simp only [maxLen] at h63; omega
 have hlen:(xs++news).length=(n+m)*i.size:=by rw [Sg,J.1,hl,So]
 have grown:∀ (vf:Nat) (row:Option Nat),
   iU (w.drew.alloc (.cells (xs.toArray++news.toArray++Builtin.zeroCells z.cells (grownCap w (n+m) vf e-(n+m))) e)) e i.size
    (.slice (some ⟨w.heap.size,0,none⟩) (n+m) (grownCap w (n+m) vf e)) (n+m) (xs++news) /\
   w.grownBy (w.drew.alloc (.cells (xs.toArray++news.toArray++Builtin.zeroCells z.cells (grownCap w (n+m) vf e-(n+m))) e)) row:=by
  intro vf row;have hge:=Xv w (n+m) vf e;have hcm:grownCap w (n+m) vf e<=maxLen:=WO w (n+m) vf e h63;refine ⟨⟨hlen,.inr ⟨w.heap.size,0,_,_,rfl,WY w.drew _,hge,hcm,?_,?_⟩⟩,⟨rfl,rfl,rfl,by simp,λk hk _=>heap_alloc_old w.drew _ (h:=hk)⟩⟩
  ·simp only [Array.size_append,UF,size_zeroCells,hzs,J.1,hl,<- So,Sp]
   rw [show n+m+(grownCap w (n+m) vf e-(n+m))=grownCap w (n+m) vf e from by omega]
   exact Sj _
  ·simp only [Tr,Xp,Sr]
   rw [<- Sr,<- hlen];exact UY
 rcases J.2 with ⟨rfl,rfl⟩ | ⟨g,off,cap,cur,rfl,hg,hnc,hcm,hcs,htake⟩
 ·have hx:xs=[]:=Sv (by simpa using J.1)
  subst hx
  by_cases O:m=0
  ·subst O
   have hn:news=[]:=Sv (by simpa using hl)
   subst hn;refine ⟨.slice none 0 0,w,?_,iU.nil w e i.size,⟨rfl,rfl,rfl,Sj _,λ_ _ _=>rfl⟩,by simp [Value.ownBlock]⟩
   simp [Builtin.append_,Tm ht,sizeOf,typeInfo,hi,Builtin.lenOf,Builtin.firstCells,loadCells,loadCellsFrom]
  ·have hr:=run_append_nil (P:=P) w t ty e i z ht hi hz a m c news hl Y (by omega) (by omega) (by have hb:=hbytes; simp only [Sp] at hb; omega)
   have I:=grown 0 (Value.ownBlock (.slice none 0 0));simp only [Sp,TG,Array.empty_append] at I ⊢;exact ⟨_,_,hr,I.1,I.2,λb hb=>.inr (by simp only [Value.ownBlock,Sn] at hb; omega)⟩
 ·by_cases Z:n+m<=cap
  ·have hfit:off+n*i.size+news.length<=cur.size:=by
    have:(n+m)*i.size<=cap*i.size:=Si _ Z;rw [So] at this;omega
   have hf:=WC (P:=P) w i.size m a m c news hl Y;obtain ⟨w',hst,hh,I⟩:=jN (P:=P) g (off+n*i.size) e news 0 cur.toList w (by simpa using hg) (by simpa using hfit) h1
   refine ⟨.slice (some ⟨g,off,none⟩) (n+m) cap,w',?_,⟨hlen,.inr ⟨g,off,cap,_,rfl,hh,Z,hcm,?_,?_⟩⟩,I,λb hb=>.inl hb⟩
   ·simp [Builtin.append_,Tm ht,sizeOf,typeInfo,hi,Builtin.lenOf,Z,hf,SZ,hst]
   ·simpa [oT] using hcs
   ·rw [Uk,Tt,vT _ _ _ (by simpa using hfit)]
    have hd:(cur.toList.take (off+n*i.size)).drop off=xs:=by rw [Um,TN]; exact htake
    rw [Sr,Ui (by simp; omega),hd,<- Sr,<- hlen]
    exact UY
  ·have holds:∀ j u,xs[j]? = some u->w.cell? ((⟨g,off,none⟩:Addr).add j)=some u:=by
    intro j u hu;rw [SZ];refine WW hg rfl ?_;rw [<- htake,SU] at hu
    split at hu
    ·rw [SK] at hu; simpa using hu
    ·cases hu
   have hr:=run_append_grow (P:=P) w t ty e i z ht hi hz ⟨g,off,none⟩ n cap xs J.1 holds a m c news hl Y (by omega) (by omega) (Xt (by omega) hbytes)
   have I:=grown cap (Value.ownBlock (.slice (some ⟨g,off,none⟩) n cap));exact ⟨_,_,hr,I.1,I.2,λb hb=>.inr (by simp only [Value.ownBlock,Sn] at hb; omega)⟩
section
variable {x:Cx}{ops:Array Oper}{Q:mj}{rest:List Oper}{H:Hp}{M M':List b_}{L L':Env}
variable {d:Nat}{ty:TypeId}{pos:String}{aft:Array Edge}{g:Option (Nat×Bool)}
theorem cE {α:Type}[aK α] {v:RV}{T:TypeId}{n:Nat}{xs:List RV}{ys:List α} (Y:rL H xs ys) (hs:Nat.blt 0 (aK.sz α)=true)
  (k:∀ H',H.le H'->aU H' v ys->W x ops Q rest H' M L):W x ops Q rest H (.row v T (aK.sz α) n xs::M) L:=by
 intro a w I ht;obtain ⟨H',h1,h2,J⟩:=ht.xA Y (by simpa [S_] using hs)
 exact k H' h1 J a w I h2
theorem nD {α:Type}[aK α] {e:Exit}{v:RV}{T:TypeId}{n:Nat}{xs:List RV}{ys:List α} (Y:rL H xs ys) (hs:Nat.blt 0 (aK.sz α)=true)
  (k:∀ H',H.le H'->aU H' v ys->E x e Q H' M L):E x e Q H (.row v T (aK.sz α) n xs::M) L:=by
 intro a w I ht;obtain ⟨H',h1,h2,J⟩:=ht.xA Y (by simpa [S_] using hs)
 exact k H' h1 J a w I h2
theorem FZ {α:Type}[aK α] {c:Code}{v:RV}{T:TypeId}{n:Nat}{xs:List RV}{ys:List α} (Y:rL H xs ys) (hs:Nat.blt 0 (aK.sz α)=true)
  (k:∀ H',H.le H'->aU H' v ys->C x c Q H' M L):C x c Q H (.row v T (aK.sz α) n xs::M) L:=by
 intro a w I ht;obtain ⟨H',h1,h2,J⟩:=ht.xA Y (by simpa [S_] using hs)
 exact k H' h1 J a w I h2
theorem AN (T:TypeId) (sz:Nat) (k:W x ops Q rest H (.row (.slice none 0 0) T sz 0 []::M) L):W x ops Q rest H M L:=
 λa w I ht=>k a w I (ht.DC T sz)
theorem cO {e:Exit} (T:TypeId) (sz:Nat) (k:E x e Q H (.row (.slice none 0 0) T sz 0 []::M) L):E x e Q H M L:=
 λa w I ht=>k a w I (ht.DC T sz)
theorem lD {c:Code} (T:TypeId) (sz:Nat) (k:C x c Q H (.row (.slice none 0 0) T sz 0 []::M) L):C x c Q H M L:=
 λa w I ht=>k a w I (ht.DC T sz)
theorem KL {α:Type}[aK α] {t e:TypeId}{bytes n:Nat}{z:RV}{y u:Operand}{v vu:RV}{xs:List RV}{l ys:List α}
  (hg:gd ops L ⟨some d,.call ⟨.builtin .append,#[y,u],#[t,t]⟩,ty,pos,aft,g⟩=some true) (hN:Nat.blt d x.N=true)
  (hT:x.P.underlying t=some (.slice e)) (hi:OG x.P e (aK.sz α) bytes z) (hz:z.cells.size=aK.sz α) (hs:Nat.blt 0 (aK.sz α)=true) (hb0:Nat.blt 0 bytes=true)
  (hy:ev L y=some v) (hu:ev L u=some vu) (hx:rL H xs l) (hR:aU H vu ys) (hb:(l.length+ys.length)*bytes<=140737488355328)
  (k:∀ v' n' xs',rL H xs' (l++ys)->W x ops Q rest H (.row v' e (aK.sz α) n' xs'::M) ((d,v')::L)):
  W x ops Q (⟨some d,.call ⟨.builtin .append,#[y,u],#[t,t]⟩,ty,pos,aft,g⟩::rest) H (.row v e (aK.sz α) n xs::M) L:=by
 obtain ⟨i,h1,h2,h3,h4⟩:=hi.ex;have hs':0<aK.sz α:=by simpa [S_] using hs
 have hb0':0<bytes:=by simpa [S_] using hb0
 have hmax:l.length+ys.length<=maxLen:=by
  have:l.length+ys.length<=(l.length+ys.length)*bytes:=Va _ hb0';unfold maxLen; omega
 refine tT rfl hg hN λa w I ht=>?_;have J:iU w e (aK.sz α) v n xs:=ht.ok _ (R6 ..);have hn:n=l.length:=by
  have:=hx.len;rw [J.1] at this;exact TM hs' this
 subst hn;obtain ⟨cs,Y,Z⟩:=hR.flat;rcases Z with ⟨⟨ea,rfl⟩,rfl⟩ | ⟨hc,b,off,c,rfl⟩
 ·have hcs':cs=[]:=Y
  subst hcs';refine ⟨v,w,?_,H,_,ht,k v _ xs (by simpa using hx)⟩
  rcases J.2 with ⟨rfl,h0⟩ | ⟨g,off,cap,cur,rfl,hg2,hnc,_⟩ <;> cases ea
  ·simp [execOp,resolve,invoke,builtin,I.ev hy,I.ev hu,Builtin.append_,Tm hT,sizeOf,typeInfo,h1,Builtin.lenOf,Builtin.firstCells]
  ·simp [execOp,resolve,invoke,builtin,I.ev hy,I.ev hu,Builtin.append_,Tm hT,sizeOf,typeInfo,h1,Builtin.lenOf,Builtin.firstCells,loadCells,loadCellsFrom]
  ·simp [execOp,resolve,invoke,builtin,I.ev hy,I.ev hu,Builtin.append_,Tm hT,sizeOf,typeInfo,h1,Builtin.lenOf,Builtin.firstCells,storeCells,hnc]
  ·simp [execOp,resolve,invoke,builtin,I.ev hy,I.ev hu,Builtin.append_,Tm hT,sizeOf,typeInfo,h1,Builtin.lenOf,Builtin.firstCells,storeCells,hnc,loadCells,loadCellsFrom]
 ·obtain ⟨v',w',hr,ho,hgr,hfr⟩:=FJ (P:=x.P) (ty:=ty) hT h1 h4 h2 h3 hz hs' J (a:=⟨b,off,none⟩) (m:=ys.length) (c:=c) (news:=cs) Y.len
   (λj u hu=>((hc j u hu).at (x:=x) (M:=.row v e (aK.sz α) l.length xs::M)) w ht) Y.one hmax hb
  refine ⟨v',w',?_,H,_,ht.EN (r':=.row v' e (aK.sz α) (l.length+ys.length) (xs++cs)) hgr ho hfr,k v' _ _ (hx.app Y)⟩;simp [execOp,resolve,invoke,builtin,I.ev hy,I.ev hu,hr]
end
def Bh:List RV->List (List RV)->Prop
 | [],[]=>True
 | v::vs,c::cs=>v.cells=c.toArray/\Bh vs cs
 | _,_=>False
def laid (places:List (Nat×Nat)):List RV->List (Nat×List RV)->Option (List RV)
 | z,[]=>some z
 | z,(i,c)::r=>match places[i]? with
  | none=>none
  | some (off,size)=>if Nat.beq c.length size && Nat.ble (off+c.length) z.length then laid places (over z off c) r else none
theorem De:∀ (c:List RV) (z:List RV) (off k:Nat),(c.zipIdx k).foldl (λcs (p:RV×Nat)=>cs.setIfInBounds (off+p.2) p.1) z.toArray=(over z (off+k) c).toArray
 | [],z,off,k=>rfl
 | v::c,z,off,k=>by
  rw [List.zipIdx_cons,List.foldl_cons];simp only [List.setIfInBounds_toArray];rw [De c _ off (k+1),over]
  rfl
theorem xz {place:Nat->Option (Nat×Nat)}{places:List (Nat×Nat)} (Z:∀ i o,places[i]? = some o->place i=some o):
  ∀ (J:List Nat) (vs:List RV) (css:List (List RV)) (z out:List RV),Bh vs css->J.length=vs.length->laid places z (J.zip css)=some out ->
   Instr.fill place z.toArray (J.zip vs)=some out.toArray
 | [],[],_,z,out,_,_,h=>by simp [laid] at h; simp [Instr.fill,h]
 | [],_::_,_,_,_,_,hl,_=>by simp at hl
 | _::_,[],_,_,_,_,hl,_=>by simp at hl
 | i::J,v::vs,[],_,_,hc,_,_=>hc.elim
 | i::J,v::vs,c::css,z,out,⟨hv,hc⟩,hl,h=>by
  simp only [List.zip_cons_cons,laid] at h;cases I:places[i]? with
  | none=>simp [I] at h
  | some o=>
   obtain ⟨off,size⟩:=o;simp only [I] at h
   split at h
   ·rename_i hb
    simp only [TL,US] at hb;have Y:c.length=size:=Uz hb.1;simp only [List.zip_cons_cons,Instr.fill,Z i _ I,hv];have h1:((c.toArray.size≠size || off+c.toArray.size > z.toArray.size:Bool))=false:=by
     simp [Y]; rw [<- Y]; exact hb.2
    rw [R8 (by simp only [h1]; simp)]
    have h2:=De c z off 0;have h3:c.toArray.zipIdx.foldl (λcs (p:RV×Nat)=>cs.setIfInBounds (off+p.2) p.1) z.toArray=(over z off c).toArray:=by
     rw [<- Array.foldl_toList];simpa using h2
    have ih:=xz Z J vs css (over z off c) out hc (by simpa using hl) h
    rw [<- ih];exact SJ (λq=>Instr.fill place q (J.zip vs)) h3
   ·cases h
theorem mE {k m:Nat}{e:Int} (Y:k+m=e.toNat) (J:decide ((k:Int)<e)=true):∃ I,m=I+1/\k+1+I=e.toNat/\k<e.toNat:=by
 have:=R7 J;exact ⟨m-1,by omega,by omega,by omega⟩
theorem mD {k m:Nat}{e:Int} (J:k+m=e.toNat) (I:decide ((k:Int)<e)=false):m=0:=by
 have:=Sc I;omega
theorem fP {e:Int} (h:e<=9223372036854775807):e.toNat<=maxLen:=by unfold maxLen; omega
theorem mn {α:Type}{xs:List α} (h:xs.length<=maxLen):(xs.length:Int)<=9223372036854775807:=by unfold maxLen at h; omega
section
variable {x:Cx}{ops:Array Oper}{Q:mj}{rest:List Oper}{H:Hp}{M M':List b_}{L L':Env}
variable {d:Nat}{ty:TypeId}{pos:String}{aft:Array Edge}{g:Option (Nat×Bool)}
theorem Cs {N:Nat}{a:Act} (hs:Sl N L a) {I:List (Nat×Operand)}{vs:List RV} (J:Aq L (I.map (·.2))=some vs):
  (I.toArray.map λ(p:Nat×Operand)=>(p.1,a.eval p.2))=((I.map (·.1)).zip vs).toArray:=by
 have h:=hs.Aq J;subst h;clear J;simp only [List.map_map,List.map_toArray]
 congr 1
 induction I with
 | nil=>rfl
 | cons p I ih=>simp only [U6,List.zip_cons_cons,Function.comp,ih]
theorem dX {T:TypeId}{I:List (Nat×Operand)}{vs:List RV}{css:List (List RV)}{z:RV}{zs out:List RV}{fs:Array Field}{places:List (Nat×Nat)}
  (hg:gd ops L ⟨some d,.build T I.toArray,ty,pos,aft,g⟩=some true) (hN:Nat.blt d x.N=true)
  (Z:Aq L (I.map (·.2))=some vs) (hc:Bh vs css)
  (hz:∀ w,(zeroValue T).run x.P w=.ok z w) (Y:z.cells=zs.toArray) (hT:∀ w,(underlying T).run x.P w=.ok (.struct fs) w)
  (hp:∀ w,(fs.mapM λf=>do pure (f.offset,<- sizeOf f.type):Sem (Array (Nat×Nat))).run x.P w=.ok places.toArray w)
  (ho:laid places zs ((I.map (·.1)).zip css)=some out)
  (k:W x ops Q rest H M ((d,.agg out.toArray)::L)):
  W x ops Q (⟨some d,.build T I.toArray,ty,pos,aft,g⟩::rest) H M L:=
 gL rfl hg hN (λa w hs ht=>by
  have hl:(I.map (·.1)).length=vs.length:=by rw [<- hs.Aq Z]; simp
  have hf:=xz (place:=λi:Nat=>places[i]?) (places:=places) (λ_ _ h=>h) (I.map (·.1)) vs css zs out hc hl ho;have J:=Cs hs Z;simp only [execOp,Instr.build,Se,hz,Sb,hT,Y];rw [hp];simp only [Sb];have e:(λi:Nat=>places.toArray[i]?)=λi:Nat=>places[i]? := by funext i; simp
  simp only [J,e,hf,Sk,Sb]) k
theorem dQ {α:Type}[aK α] {T e:TypeId}{n:Nat}{J:List (Nat×Operand)}{vs:List RV}{css:List (List RV)}{z:RV}{zs out:List RV}{places:List (Nat×Nat)}{ys:List α}
  (hg:gd ops L ⟨some d,.buildSlice T n J.toArray,ty,pos,aft,g⟩=some true) (hN:Nat.blt d x.N=true)
  (hv:Aq L (J.map (·.2))=some vs) (hc:Bh vs css)
  (hT:∀ w,(underlying T).run x.P w=.ok (.slice e) w) (hs:∀ w,(sizeOf e).run x.P w=.ok (aK.sz α) w) (hs0:Nat.blt 0 (aK.sz α)=true)
  (hz:∀ w,(zeroValue e).run x.P w=.ok z w) (hzs:(Array.range (n*aK.sz α)).map (z.cells[·%z.cells.size]!)=zs.toArray)
  (hpl:places=(List.range n).map λi=>(i*aK.sz α,aK.sz α)) (hn:Nat.ble (n*aK.sz α) 16777216=true) (hnn:Nat.blt 0 n=true)
  (ho:laid places zs ((J.map (·.1)).zip css)=some out) (hr:rL H out ys) (hyn:ys.length=n)
  (k:∀ b v H',v=.slice (some ⟨b,0,none⟩) n n->H.le H'->aU H' v ys->W x ops Q rest H' M ((d,v)::L)):
  W x ops Q (⟨some d,.buildSlice T n J.toArray,ty,pos,aft,g⟩::rest) H M L:=by
 refine tT rfl hg hN λa w Z ht=>?_;have hl:(J.map (·.1)).length=vs.length:=by rw [<- Z.Aq hv]; simp
 have I:0<aK.sz α:=by simpa [S_] using hs0
 have hn':n*aK.sz α<=16777216:=by simpa [US] using hn
 have Y:0<n:=by simpa [S_] using hnn
 have hpos:0<n*aK.sz α:=Nat.mul_pos Y I;have hf:=xz (place:=λi=>some (i*aK.sz α,aK.sz α)) (places:=places) (λi o h=>by
  rw [hpl,SD] at h;cases hh:(List.range n)[i]? with
  | none=>rw [hh] at h; cases h
  | some j=>
   rw [hh] at h;have:j=i:=by
    have:=R3.1 hh;simpa using this.2.symm
   subst this;simpa using h) (J.map (·.1)) vs css zs out hc hl ho
 have hps:=Cs Z hv;have hsz:out.length=n*aK.sz α:=by rw [hr.len,hyn]
 refine ⟨.slice (some ⟨w.heap.size,0,none⟩) n n,w.alloc (.cells out.toArray e),?_,H.add w.heap.size (.cells out.toArray e),M,(ht.alloc _).freeze.2,?_⟩
 ·have h1:¬ (2 ^ 24<n*aK.sz α):=by omega
  have h2:¬ (n*aK.sz α=0):=by omega
  simp only [execOp,Instr.buildSlice,Se,hT,Sb,hs,gt_iff_lt,h1,h2,TV,hz,Sk];simp only [hps];have hf':Instr.fill (λi=>some (i*aK.sz α,aK.sz α)) ((Array.range (n*aK.sz α)).map (z.cells[·%z.cells.size]!)) ((List.map (λx=>x.fst) J).zip vs)=some out.toArray:=by
   rw [hzs]; exact hf
  simp only [hf',newRow,newObj,Se,Sk,Sem.run,Sb,World.alloc]
 ·refine k w.heap.size _ _ rfl (ht.alloc _).freeze.1 (.inr ⟨w.heap.size,0,n,out.toArray,e,(0,0),by rw [hyn],by omega,?_,Hp.y8 _ _ _,by simp [hsz],?_⟩)
  ·unfold maxLen
   have:n<=n*aK.sz α:=Va _ I;omega
  ·intro j el hel
   obtain ⟨c,q1,q2⟩:=(hr.mono (ht.alloc (.cells out.toArray e)).freeze.1).get j el hel;exact ⟨c,q1,λi u hu=>by simpa using q2 i u hu⟩
end
structure Rw {α:Type}[aK α] (H:Hp) (v:RV) (xs:List RV) (l:List α):Prop where
 rd:rL H xs l
 sl:∃ a n c,v=.slice a n c
section
variable {α:Type}[aK α] {H H':Hp}{v:RV}{xs:List RV}{l:List α}
theorem Rw.mono (I:H.le H') (h:Rw H v xs l):Rw H' v xs l:=⟨h.rd.mono I,h.sl⟩
theorem Rw.one (h:Rw H v xs l):v.oneCell'=true:=by obtain ⟨a,n,c,rfl⟩:=h.sl; rfl
theorem Rw.cells (h:Rw H v xs l):v.cells=[v].toArray:=by obtain ⟨a,n,c,rfl⟩:=h.sl; rfl
theorem Rw.nil:Rw H (.slice none 0 0) [] ([]:List α):=⟨rfl,_,_,_,rfl⟩
theorem Rw.elem (h:Rw H v xs l) {k:Nat}{e:α} (he:l[k]? = some e):∃ c,aK.E H c e/\∀ j u,c[j]? = some u->xs[k*aK.sz α+j]? = some u:=h.rd.get k e he
theorem A6 (vs:List RV):∀ (l:List RV) (k j:Nat),k+vs.length<=l.length->(over l k vs)[j]? = if k<=j/\j<k+vs.length then vs[j-k]? else l[j]? := by
 intro l k j h;rw [vT vs l k h,Sr,Us];simp only [Ss,S7 (show k<=l.length by omega)]
 by_cases h1:j<k
 ·rw [R9 h1,R8 (by omega),SU,R9 h1]
 ·rw [R8 h1,Us]
  by_cases h2:j-k<vs.length
  ·rw [R9 h2,R9 (by omega)]
  ·rw [R8 h2,R8 (by omega),SK]
   congr 1; omega
theorem Rw.put {c cs out:List RV}{k o:Nat}{e e2:α} (h:Rw H v xs l) (he:l[k]? = some e) (hc:aK.E H c e) (hg:∀ j u,c[j]? = some u->xs[k*aK.sz α+j]? = some u)
  (hb:Nat.ble (o+cs.length) c.length=true) (ho:over c o cs=out) (hE:aK.E H out e2):
  Rw H v (over xs (k*aK.sz α+o) cs) (l.set k e2)/\(l.set k e2)[k]? = some e2/\∀ j u,out[j]? = some u->(over xs (k*aK.sz α+o) cs)[k*aK.sz α+j]? = some u:=by
 have hk:k<l.length:=(R3.1 he).1;have hlen:=h.rd.len;have I:=aK.len hc;have Y:o+cs.length<=c.length:=by simpa [US] using hb
 have hkk:(k+1)*aK.sz α<=l.length*aK.sz α:=Si _ hk;rw [So,Wx] at hkk;have vZ:k*aK.sz α+o+cs.length<=xs.length:=by omega
 have key:over xs (k*aK.sz α+o) cs=xs.take (k*aK.sz α)++out++xs.drop ((k+1)*aK.sz α):=by
  apply TP;intro j;rw [A6 _ _ _ _ vZ,Sr,Us];simp only [Ss,S7 (show k*aK.sz α<=xs.length by omega)]
  have J:out.length=aK.sz α:=by rw [<- ho,oT,I]
  by_cases h1:j<k*aK.sz α
  ·rw [R9 h1,R8 (by omega),SU,R9 h1]
  ·rw [R8 h1,Us,J]
   by_cases h2:j-k*aK.sz α<aK.sz α
   ·rw [R9 h2,<- ho,A6 _ _ _ _ Y]
    by_cases h3:k*aK.sz α+o<=j/\j<k*aK.sz α+o+cs.length
    ·rw [R9 h3,R9 (by omega)]; congr 1; omega
    ·rw [R8 h3,R8 (by omega)]
     have Z:j-k*aK.sz α<c.length:=by omega
     have:=hg (j-k*aK.sz α) _ (RY Z);rw [RY Z,<- this]; congr 1; omega
   ·rw [R8 h2,R8 (by omega),SK]
    congr 1; rw [So]; omega
 refine ⟨⟨?_,h.sl⟩,by simp [hk],λj u hu=>?_⟩
 ·rw [key]; exact h.rd.put hk hE
 ·have Z:j<out.length:=(R3.1 hu).1
  have J:out.length=aK.sz α:=by rw [<- ho,oT,I]
  rw [key,Sr,SB (by simp; omega),S9 (by simp; omega)]
  simp only [Ss,S7 (show k*aK.sz α<=xs.length by omega)]
  rw [show k*aK.sz α+j-k*aK.sz α=j by omega]; exact hu
end
section
variable {x:Cx}{ops:Array Oper}{Q:mj}{rest:List Oper}{H:Hp}{M M':List b_}{L L':Env}
variable {d:Nat}{ty:TypeId}{pos:String}{aft:Array Edge}{g:Option (Nat×Bool)}
theorem DO {v:RV}{T:TypeId}{sz n i:Nat}{xs:List RV}{c:RV} (O:b_.row v T sz n xs ∈ M) (I:xs[i]? = some c):z_ x H M ((Value.base v).add i) c:=by
 intro w ht;have Y:iU w T sz v n xs:=ht.ok _ O;have hi:=(R3.1 I).1;rcases Y.2 with ⟨rfl,h0⟩ | ⟨Z,off,cap,cur,rfl,hg,hnc,hcm,hcs,J⟩
 ·exfalso
  have:=Y.1;subst h0;simp at this; subst this
  simp at I
 ·rw [show Value.base (Value.slice (some ⟨Z,off,none⟩) n cap)=⟨Z,off,none⟩ from rfl,SZ]
  refine WW hg rfl ?_;rw [<- J,SU] at I
  split at I
  ·rw [SK] at I; simpa using I
  ·cases I
theorem add_add (a:Addr) (i j:Nat):(a.add i).add j=a.add (i+j):=by
 unfold Addr.add
 by_cases h1:i=0 <;> by_cases h2:j=0 <;> simp [h1,h2,Uv]
theorem zC {v:RV}{T:TypeId}{sz n i:Nat}{xs cs:List RV} (O:b_.row v T sz n xs ∈ M) (I:∀ j u,cs[j]? = some u->xs[i+j]? = some u):AG x H M ((Value.base v).add i) cs:=by
 intro j c J;rw [add_add];exact DO O (I j c J)
theorem row_one {v:RV}{T:TypeId}{sz n i o:Nat}{xs cs:List RV}{c:RV} (O:b_.row v T sz n xs ∈ M) (I:∀ j u,cs[j]? = some u->xs[i+j]? = some u) (J:cs[o]? = some c):
  z_ x H M (((Value.base v).add i).add o) c:=by
 rw [add_add]; exact DO O (I o c J)
theorem DP {v:RV}{T:TypeId}{sz n i:Nat}{xs cs:List RV}{c:RV} (O:b_.row v T sz n xs ∈ M) (I:∀ j u,cs[j]? = some u->xs[i+j]? = some u) (J:cs[0]? = some c):
  z_ x H M ((Value.base v).add i) c:=DO O (I 0 c J)
theorem Ah {v:RV}{T:TypeId}{sz n:Nat}{xs:List RV}{t e:TypeId}{y:Operand} (O:b_.row v T sz n xs ∈ M) (Z:gd ops L ⟨some d,.call ⟨.builtin .len,#[y],#[t]⟩,ty,pos,aft,g⟩=some true) (hN:Nat.blt d x.N=true)
  (Y:∀ w,(underlying t).run x.P w=.ok (.slice e) w) (hy:ev L y=some v) (k:W x ops Q rest H M ((d,.int .i64 n)::L)):
  W x ops Q (⟨some d,.call ⟨.builtin .len,#[y],#[t]⟩,ty,pos,aft,g⟩::rest) H M L:=
 gL rfl Z hN (λc w hs ht=>by
  have I:iU w T sz v n xs:=ht.ok _ O;rcases I.2 with ⟨rfl,rfl⟩ | ⟨gb,off,cap,J,rfl,_⟩ <;>
   simp [execOp,resolve,invoke,builtin,hs.ev hy,Builtin.len_,Y,goInt]) k
theorem AM {v:RV}{T:TypeId}{sz n:Nat}{xs:List RV}{t e:TypeId}{y z:Operand}{kk:IntKind}{i:Int} (O:b_.row v T sz n xs ∈ M)
  (hg:gd ops L ⟨some d,.indexAddr t y z,ty,pos,aft,g⟩=some true) (hN:Nat.blt d x.N=true)
  (hT:∀ w,(underlying t).run x.P w=.ok (.slice e) w) (hs:∀ w,(sizeOf e).run x.P w=.ok sz w)
  (hy:ev L y=some v) (hz:ev L z=some (.int kk i)) (h0:0<=i) (h1:i.toNat<n)
  (k:W x ops Q rest H M ((d,.pointer (some ((Value.base v).add (i.toNat*sz))))::L)):
  W x ops Q (⟨some d,.indexAddr t y z,ty,pos,aft,g⟩::rest) H M L:=
 gL rfl hg hN (λc w I ht=>by
  have J:i<(n:Int):=by omega
  have Y:iU w T sz v n xs:=ht.ok _ O;rcases Y.2 with ⟨rfl,rfl⟩ | ⟨gb,off,cap,Z,rfl,_⟩
  ·omega
  ·simp [execOp,I.ev hy,I.ev hz,Instr.indexAt,asIntOf,hT,hs,h0,J,Value.base]) k
theorem y6 {T E:TypeId}{m sz n i:Nat}{y z:Operand}{v u:RV}{ad:Addr}{xs cs:List RV} (hg:gd ops L ⟨none,.store T y z,ty,pos,aft,g⟩=some true)
  (hn:∀ w,(sizeOf T).run x.P w=.ok m w) (hy:ev L y=some (.pointer (some ad))) (had:ad=(Value.base v).add i) (hz:ev L z=some u) (hv:u.cells=cs.toArray) (hl:cs.length=m)
  (hb:i+cs.length<=xs.length) (Z:Nat.blt 0 cs.length=true) (h1:∀ c ∈ cs,c.oneCell'=true)
  (k:W x ops Q rest H (.row v E sz n (over xs i cs)::M) L):
  W x ops Q (⟨none,.store T y z,ty,pos,aft,g⟩::rest) H (.row v E sz n xs::M) L:=
 EX rfl hg (λa w hs ht=>by
  subst had;have I:iU w E sz v n xs:=ht.ok _ (R6 ..);have hpos':0<cs.length:=by simpa [S_] using Z
  rcases I.2 with ⟨rfl,rfl⟩ | ⟨gb,off,cap,cur,rfl,hgb,Y,hcm,hcs,J⟩
  ·have h0:=I.1; rw [TC] at h0; omega
  ·have hmul:n*sz<=cap*sz:=Si _ Y
   have hxl:=I.1;obtain ⟨w',hr,hh,hgr⟩:=jN (P:=x.P) gb (off+i) E cs 0 cur.toList w (by simpa using hgb) (by simp; omega) h1
   refine ⟨w',?_,H,_,ht.EN (r':=.row (.slice (some ⟨gb,off,none⟩) n cap) E sz n (over xs i cs)) hgr ?_ (λc hc=>.inl hc),k⟩
   ·simp [execOp,hs.ev hy,hs.ev hz,Instr.storeAt,Instr.sureAddr,storeVar,hn,hl,hv,Value.base,SZ,hr]
   ·refine ⟨by rw [oT]; exact hxl,.inr ⟨gb,off,cap,_,rfl,hh,Y,hcm,by simpa [oT] using hcs,?_⟩⟩
    rw [Uk,Tt];apply TP;intro j;rw [SU,SK,A6 _ _ _ _ (by simp; omega),A6 _ _ _ _ hb,<- J,SU,SK]
    by_cases hj:j<n*sz
    ·simp only [R9 hj]
     by_cases h3:i<=j/\j<i+cs.length
     ·rw [R9 h3,R9 (by omega)]; congr 1; omega
     ·rw [R8 h3,R8 (by omega)]
    ·simp only [R8 hj]
     rw [R8 (by omega)])
end
section
variable {x:Cx}{ops:Array Oper}{Q:mj}{rest:List Oper}{H:Hp}{M M':List b_}{L L':Env}
variable {d:Nat}{ty:TypeId}{pos:String}{aft:Array Edge}{g:Option (Nat×Bool)}
theorem iU.shape {w:World}{T:TypeId}{sz n:Nat}{v:RV}{xs:List RV} (h:iU w T sz v n xs):∃ a n c,v=.slice a n c:=by
 rcases h.2 with ⟨rfl,_⟩ | ⟨J,off,cap,I,rfl,_⟩ <;> exact ⟨_,_,_,rfl⟩
theorem dD {α:Type}[aK α] {t e:TypeId}{bytes n:Nat}{z:RV}{y u:Operand}{v vu:RV}{xs:List RV}{l ys:List α}
  (hg:gd ops L ⟨some d,.call ⟨.builtin .append,#[y,u],#[t,t]⟩,ty,pos,aft,g⟩=some true) (hN:Nat.blt d x.N=true)
  (hT:x.P.underlying t=some (.slice e)) (hi:OG x.P e (aK.sz α) bytes z) (hz:z.cells.size=aK.sz α) (hs:Nat.blt 0 (aK.sz α)=true) (Z:Nat.blt 0 bytes=true)
  (hy:ev L y=some v) (hu:ev L u=some vu) (hx:Rw H v xs l) (hR:aU H vu ys) (hb:((l.length+ys.length)*bytes:Nat)<=140737488355328)
  (k:∀ v' I,Rw H v' I (l++ys)->W x ops Q rest H (.row v' e (aK.sz α) (l++ys).length I::M) ((d,v')::L)):
  W x ops Q (⟨some d,.call ⟨.builtin .append,#[y,u],#[t,t]⟩,ty,pos,aft,g⟩::rest) H (.row v e (aK.sz α) n xs::M) L:=by
 refine KL hg hN hT hi hz hs Z hy hu hx.rd hR hb λv' n' I Y=>?_;intro a w hsl ht;have J:iU w e (aK.sz α) v' n' I:=ht.ok _ (R6 ..);have hn:n'=(l++ys).length:=by
  have h1:=Y.len;rw [J.1] at h1;exact TM (by simpa [S_] using hs) h1
 subst hn;exact k v' I ⟨Y,J.shape⟩ a w hsl ht
theorem St.newRow {α:Type}[aK α] {B:Nat}{w0 w:World}{cells:List RV}{e:TypeId}{l:List α} (ht:St B w0 H M w) (J:rL H cells l) (O:l.length<=maxLen):
  St B w0 H (.row (.slice (some ⟨w.heap.size,0,none⟩) l.length l.length) e (aK.sz α) l.length cells::M) (w.alloc (.cells cells.toArray e)):=by
 have h:=ht.alloc (.cells cells.toArray e);have hl:=J.len;refine ⟨h.below,h.le,h.vZ,?_,?_,h.nd⟩
 ·intro r I
  rcases SQ.1 I with rfl | I
  ·refine ⟨hl,.inr ⟨w.heap.size,0,l.length,cells.toArray,rfl,h.ok _ (R6 ..),Sj _,O,by simp only [UF]; omega,?_⟩⟩
   rw [<- hl,Uk,Tr,TY]
  ·exact h.ok r (Sa _ I)
 ·intro r I
  rcases SQ.1 I with rfl | I
  ·exact h.lo (.obj w.heap.size (.cells cells.toArray e)) (R6 ..)
  ·exact h.lo r (Sa _ I)
theorem gQ {α:Type}[aK α] {t e:TypeId}{bytes:Nat}{z:RV}{zs:List RV}{ze:α}{y y2:Operand}{n:Int}
  (hg:gd ops L ⟨some d,.makeSlice t y y2,ty,pos,aft,g⟩=some true) (hN:Nat.blt d x.N=true)
  (hT:x.P.underlying t=some (.slice e)) (hi:OG x.P e (aK.sz α) bytes z) (hz:z.cells=zs.toArray) (hs:Nat.blt 0 (aK.sz α)=true) (hb0:Nat.blt 0 bytes=true)
  (hE:aK.E H zs ze) (hy:ev L y=some (.int .i64 n)) (hy2:ev L y2=some (.int .i64 n)) (h0:0<=n) (hb:n*bytes<=140737488355328)
  (k:∀ v' xs',Rw H v' xs' (List.replicate n.toNat ze)->W x ops Q rest H (.row v' e (aK.sz α) (List.replicate n.toNat ze).length xs'::M) ((d,v')::L)):
  W x ops Q (⟨some d,.makeSlice t y y2,ty,pos,aft,g⟩::rest) H M L:=by
 obtain ⟨i,h1,h2,h3,h4⟩:=hi.ex;obtain ⟨m,rfl⟩:∃ m:Nat,n=m:=⟨n.toNat,by omega⟩
 have hs':0<aK.sz α:=by simpa [S_] using hs
 have hb0':0<bytes:=by simpa [S_] using hb0
 have hcast:((m*bytes:Nat):Int)=(m:Int)*(bytes:Int):=SX m bytes;have hbn:m*bytes<=140737488355328:=by omega
 have O:m<=m*bytes:=Va _ hb0';have hzl:zs.length=aK.sz α:=aK.len hE;have hmax:m<=maxLen:=by unfold maxLen; omega
 have hw:i64.wrap (m:Int)=m:=zd (by omega) (by omega)
 simp only [RZ] at k;have hrd:∀ q,rL H ((List.range (q*aK.sz α)).map (zs.toArray[·%zs.length]!)) (List.replicate q ze):=by
  intro q
  induction q with
  | zero=>rw [TC]; exact rfl
  | succ q ih=>
   have J:(List.range ((q+1)*aK.sz α)).map (zs.toArray[·%zs.length]!)=zs++(List.range (q*aK.sz α)).map (zs.toArray[·%zs.length]!):=by
    apply TP;intro j;rw [Us,SD]
    by_cases hj:j<zs.length
    ·rw [R9 hj,Uj (by rw [So]; omega)]
     simp [T0 hj,hj]
    ·rw [R8 hj,SD]
     by_cases Z:j<(q+1)*aK.sz α
     ·rw [Uj Z,Uj (by rw [So] at Z; omega)]
      simp only [Tq];rw [<- Nat.mod_eq_sub_mod (by omega)]
     ·rw [S3 (by simp; omega),S3 (by rw [So] at Z; simp; omega)]
   rw [J];exact ⟨zs,_,rfl,hE,ih⟩
 have hlr:(List.replicate m ze).length=m:=Tl;refine tT rfl hg hN λa w I ht=>?_;refine ⟨.slice (some ⟨w.heap.size,0,none⟩) (List.replicate m ze).length (List.replicate m ze).length,_,?_,H,_,St.newRow (e:=e) ht (hrd m) (by rw [hlr]; exact hmax),k _ _ ⟨hrd m,_,_,_,rfl⟩⟩
 have e1:¬ ((i.bytes:Int)*(m:Int) > 2 ^ 48):=by
  rw [h3,Int.mul_comm];omega
 have e3:¬ (m*i.bytes > roomBytes):=by rw [h3]; unfold roomBytes; omega
 have e4:¬ ((m:Int)<0):=by omega
 have Y:∀ w,(typeInfo e).run x.P w=.ok i w:=λw=>by simp [typeInfo,h1]
 have hsz:∀ w,(sizeOf e).run x.P w=.ok (aK.sz α) w:=λw=>by simp [sizeOf,Y,h2]
 have hzv:∀ w,(zeroValue e).run x.P w=.ok z w:=λw=>by simp [zeroValue,Y,h4]
 have hun:∀ w,(underlying t).run x.P w=.ok (.slice e) w:=λw=>Tm hT w;have hnr:∀ c w,(newRow e c).run x.P w=.ok ⟨w.heap.size,0,none⟩ (w.alloc (.cells c e)):=λc w=>by
  simp only [newRow,newObj,Se,Sk,Sem.run,Sb,World.alloc]
 rw [hlr]
 by_cases hm0:m*aK.sz α=0
 ·have:m=0:=by
   rcases Nat.mul_eq_zero.1 hm0 with h | h <;> omega
  subst this;simp only [execOp,I.ev hy,I.ev hy2,Instr.makeSlice,Se,hun,Sb,asInt,asIntOf,Sk,Y,hw,e1,e4,Xh,Bool.or_self,Te,TV,RZ,askRoom,hsz,hm0,Wy,hnr,gt_iff_lt,Int.lt_irrefl,TC,Nat.not_lt_zero];simp [Array.range]
 ·have e6:(Array.range (m*aK.sz α)).map (λj=>zs.toArray[j%zs.toArray.size]!)=((List.range (m*aK.sz α)).map (zs.toArray[·%zs.length]!)).toArray:=by
   apply Array.ext';simp
  simp only [execOp,I.ev hy,I.ev hy2,Instr.makeSlice,Se,hun,Sb,asInt,asIntOf,Sk,Y,hw,e1,e4,Xh,Bool.or_self,Te,TV,RZ,askRoom,e3,hsz,hm0,hzv,hz,e6,hnr,gt_iff_lt,Int.lt_irrefl]
theorem run_sliceBound {P:Program}{w:World}{J:IntKind}{i:Int}{y:Nat}{c:BoundsCode} (I:0<=i) (h1:i<=y):(Instr.sliceBound (.int J i) y c).run P w=.ok i.toNat w:=by
 simp [Instr.sliceBound,asIntOf,I,h1]
def Bd (o:Option RV) (I top r:Nat):Prop:=(o=none/\r=I)\/∃ J i,o=some (.int J i)/\0<=i/\i<=top/\i.toNat=r
theorem Cf {P:Program}{w:World}{len cap:Nat}{lo hi mx:Option RV}{l h m:Nat}
  (I:mx=none\/∃ v,hi=some v) (O:Bd mx cap cap m) (J:Bd hi len m h) (hl:Bd lo 0 h l):
  (Instr.sliceBounds true len cap lo hi mx).run P w=.ok (l,h,m) w:=by
 rcases O with ⟨rfl,rfl⟩ | ⟨km,im,rfl,m0,m1,rfl⟩
 ·rcases J with ⟨rfl,rfl⟩ | ⟨kh,ih,rfl,Y,h1,rfl⟩
  ·rcases hl with ⟨rfl,rfl⟩ | ⟨Z,il,rfl,l0,l1,rfl⟩
   ·simp only [Instr.sliceBounds,Se,Sk,Sb]
   ·simp only [Instr.sliceBounds,Se,Sk,Sb,run_sliceBound l0 l1]
  ·rcases hl with ⟨rfl,rfl⟩ | ⟨Z,il,rfl,l0,l1,rfl⟩
   ·simp only [Instr.sliceBounds,Se,Sk,Sb,run_sliceBound Y h1]
   ·simp only [Instr.sliceBounds,Se,Sk,Sb,run_sliceBound Y h1,run_sliceBound l0 l1]
 ·rcases I with I | ⟨v,rfl⟩
  ·cases I
  ·rcases J with ⟨J,_⟩ | ⟨kh,ih,J,Y,h1,rfl⟩
   ·cases J
   ·obtain rfl:=RX J
    rcases hl with ⟨rfl,rfl⟩ | ⟨Z,il,rfl,l0,l1,rfl⟩
    ·simp only [Instr.sliceBounds,Se,Sk,Sb,run_sliceBound m0 m1,run_sliceBound Y h1]
    ·simp only [Instr.sliceBounds,Se,Sk,Sb,run_sliceBound m0 m1,run_sliceBound Y h1,run_sliceBound l0 l1]
def Is (L:Env) (o:Option Operand) (I top r:Nat):Prop:=(o=none/\r=I)\/∃ J Y i,o=some J/\ev L J=some (.int Y i)/\0<=i/\i<=top/\i.toNat=r
theorem Is.bd {N:Nat}{a:Act}{o:Option Operand}{I top r:Nat} (hs:Sl N L a) (h:Is L o I top r):Bd (o.map a.eval) I top r:=by
 rcases h with ⟨rfl,rfl⟩ | ⟨Z,Y,i,rfl,he,J,h1,rfl⟩
 ·exact .inl ⟨rfl,rfl⟩
 ·exact .inr ⟨Y,i,by simp [hs.ev he],J,h1,rfl⟩
theorem va {P:Program}{w:World}{t e:TypeId}{sz len cap:Nat}{a:Option Addr}{lo hi mx:Option RV}{l h m:Nat} (J:∀ w,(underlying t).run P w=.ok (.slice e) w) (hs:∀ w,(sizeOf e).run P w=.ok sz w)
  (I:mx=none\/∃ v,hi=some v) (O:Bd mx cap cap m) (Y:Bd hi len m h) (hl:Bd lo 0 h l):
  (Instr.sliceAt t (.slice a len cap) lo hi mx).run P w=.ok (.slice (if m=l then a else a.map (·.add (l*sz))) (h-l) (m-l)) w:=by
 simp only [Instr.sliceAt,Se,J,Sb,Instr.slice,Cf I O Y hl,hs,Sk]
theorem L1 {a:Act}{mx hi:Option Operand} (h:mx=none\/∃ o,hi=some o):mx.map a.eval=none\/∃ v,hi.map a.eval=some v:=by
 rcases h with rfl | ⟨o,rfl⟩
 ·exact .inl rfl
 ·exact .inr ⟨_,rfl⟩
theorem mW {α:Type}[aK α] {t e:TypeId}{y:Operand}{lo hi mx:Option Operand}{v:RV}{xs:List α}{l h:Nat} (hg:gd ops L ⟨some d,.slice t y lo hi mx,ty,pos,aft,g⟩=some true) (hN:Nat.blt d x.N=true)
  (hT:∀ w,(underlying t).run x.P w=.ok (.slice e) w) (hs:∀ w,(sizeOf e).run x.P w=.ok (aK.sz α) w)
  (hy:ev L y=some v) (hR:aU H v xs) (hlh:l<=h) (hhx:h<=xs.length) (hmh:mx=none\/∃ o,hi=some o)
  (O:∀ cap,h<=cap->Is L mx cap cap (if mx=none then cap else h)) (hh:∀ m,h<=m->Is L hi xs.length m h) (hl:Is L lo 0 h l)
  (k:∀ v',aU H v' ((xs.drop l).take (h-l))->(mx≠none->Value.lX v'=h-l)->W x ops Q rest H M ((d,v')::L)):
  W x ops Q (⟨some d,.slice t y lo hi mx,ty,pos,aft,g⟩::rest) H M L:=by
 have hlen:((xs.drop l).take (h-l)).length=h-l:=by simp; omega
 rcases hR with ⟨⟨a0,rfl⟩,rfl⟩ | ⟨b,off,cap,arr,T,fz,rfl,h2,h3,h4,h5,h6⟩
 ·have hl0:l=0:=by simp at hhx; omega
  have hh0:h=0:=by simp at hhx; omega
  subst hl0; subst hh0
  have hif:(if mx=none then 0 else 0)=0:=by split <;> rfl
  refine gL (v:=.slice a0 0 0) rfl hg hN (λc w I ht=>?_) (k _ (.inl ⟨⟨_,rfl⟩,by simp⟩) (λ_=>rfl))
  have Y:=(O 0 (Sj _)).bd I;rw [hif] at Y;have hr:=va (P:=x.P) (w:=w) (len:=0) (cap:=0) (a:=a0) hT hs (L1 hmh) Y ((hh 0 (Sj _)).bd I) (hl.bd I);simp only [Tk,Wy] at hr;simp only [execOp,I.ev hy,Se,hr,Sb,Sk]
 ·have hmc:h<=(if mx=none then cap else h)/\(if mx=none then cap else h)<=cap:=by split <;> omega
  generalize Z:(if mx=none then cap else h)=m at hmc
  refine gL (v:=.slice (if m=l then some ⟨b,off,none⟩ else some ((⟨b,off,none⟩:Addr).add (l*aK.sz α))) (h-l) (m-l)) rfl hg hN (λc w I ht=>?_) (k _ ?_ ?_)
  ·have Y:=(O cap (by omega)).bd I
   rw [Z] at Y;simp only [execOp,I.ev hy,Se,va hT hs (L1 hmh) Y ((hh m hmc.1).bd I) (hl.bd I),Sb,Sk]
   split <;> rfl
  ·by_cases hml:m=l
   ·have:h-l=0:=by omega
    have e0:m-l=0:=by omega
    rw [R9 hml,this,e0];exact .inl ⟨⟨_,rfl⟩,by simp⟩
   ·rw [R8 hml,SZ]
    have hmul:l*aK.sz α+(m-l)*aK.sz α<=cap*aK.sz α:=by
     rw [<- So]; exact Si _ (by omega)
    refine .inr ⟨b,off+l*aK.sz α,m-l,arr,T,fz,by rw [hlen],by omega,by omega,h4,by omega,λj el J=>?_⟩
    rw [SU] at J
    split at J
    ·rw [SK] at J
     obtain ⟨cs,q1,q2⟩:=h6 (l+j) el J;refine ⟨cs,q1,λi c hc=>?_⟩;rw [show off+l*aK.sz α+j*aK.sz α+i=off+(l+j)*aK.sz α+i by rw [So]; omega]
     exact q2 i c hc
    ·cases J
  ·intro hne
   rw [R8 hne] at Z;subst Z; rfl
theorem Jv {α:Type}[aK α] {t e T:TypeId}{n:Nat}{y:Operand}{lo hi:Option Operand}{v:RV}{cs:List RV}{xs:List α}{l h:Nat} (hg:gd ops L ⟨some d,.slice t y lo hi none,ty,pos,aft,g⟩=some true) (hN:Nat.blt d x.N=true)
  (hT:∀ w,(underlying t).run x.P w=.ok (.slice e) w) (hs:∀ w,(sizeOf e).run x.P w=.ok (aK.sz α) w) (hs0:Nat.blt 0 (aK.sz α)=true)
  (hy:ev L y=some v) (hR:Rw H v cs xs) (hlh:l<=h) (hhx:h<=xs.length)
  (hh:∀ m,h<=m->Is L hi xs.length m h) (hl:Is L lo 0 h l)
  (k:∀ v' cs',Rw H v' cs' ((xs.drop l).take (h-l))->Value.lX v'=Value.lX v-l->W x ops Q rest H (.row v' T (aK.sz α) ((xs.drop l).take (h-l)).length cs'::M) ((d,v')::L)):
  W x ops Q (⟨some d,.slice t y lo hi none,ty,pos,aft,g⟩::rest) H (.row v T (aK.sz α) n cs::M) L:=by
 have J:((xs.drop l).take (h-l)).length=h-l:=by simp; omega
 refine tT rfl hg hN λa w I ht=>?_;have hok:iU w T (aK.sz α) v n cs:=ht.ok _ (R6 ..);have hn:n=xs.length:=by
  have h1:=hR.rd.len;rw [hok.1] at h1;exact TM (by simpa [S_] using hs0) h1
 subst hn;have hrd:=(hR.rd.split h).1.split l;have Z:rL H ((cs.take (h*aK.sz α)).drop (l*aK.sz α)) ((xs.drop l).take (h-l)):=by
  have:=hrd.2
  rwa [Um (l:=xs)] at this
 have hcl:=Z.len;rcases hok.2 with ⟨rfl,h0⟩ | ⟨gb,off,cap,cur,rfl,hgb,hnc,hcm,hcs,htake⟩
 ·have hl0:l=0:=by omega
  have hh0:h=0:=by omega
  subst hl0; subst hh0
  refine ⟨.slice none 0 0,w,?_,H,_,?_,k _ [] (by simpa using (Rw.nil:Rw H (.slice none 0 0) [] ([]:List α))) rfl⟩
  ·have hh':=(hh 0 (Sj _)).bd I
   rw [h0] at hh';have hr:=va (P:=x.P) (w:=w) (len:=0) (cap:=0) (a:=none) (mx:=none) hT hs (.inl rfl) (.inl ⟨rfl,rfl⟩) hh' (hl.bd I);simp only [Tk,Wy] at hr;simp only [execOp,I.ev hy,Se,V3,hr,Sb,Sk]
  ·have:=ht.tail.DC T (aK.sz α)
   simpa using this
 ·refine ⟨.slice (if cap=l then some ⟨gb,off,none⟩ else some ((⟨gb,off,none⟩:Addr).add (l*aK.sz α))) (h-l) (cap-l),w,?_,H,_,?_,k _ _ ⟨Z,_,_,_,rfl⟩ rfl⟩
  ·simp only [execOp,I.ev hy,Se,va (mx:=none) (m:=cap) hT hs (.inl rfl) (.inl ⟨rfl,rfl⟩) ((hh cap (by omega)).bd I) (hl.bd I),V3,Sb,Sk]
   split <;> rfl
  ·have hgr:w.grownBy w (b_.AU (.row (.slice (some ⟨gb,off,none⟩) xs.length cap) T (aK.sz α) xs.length cs)):=⟨rfl,rfl,rfl,Sj _,λ_ _ _=>rfl⟩
   rw [J];have hmul:l*aK.sz α+(cap-l)*aK.sz α=cap*aK.sz α:=by rw [<- So]; congr 1; omega
   have hmul2:h*aK.sz α=l*aK.sz α+(h-l)*aK.sz α:=by rw [<- So]; congr 1; omega
   have hmul3:h*aK.sz α<=xs.length*aK.sz α:=Si _ hhx;have hxl:cs.length=xs.length*aK.sz α:=hok.1
   by_cases Y:cap=l
   ·have e1:h-l=0:=by omega
    have e2:cap-l=0:=by omega
    rw [R9 Y,e1,e2];have e3:(cs.take (h*aK.sz α)).drop (l*aK.sz α)=[]:=by
     apply Sv; rw [hcl,J,e1,TC]
    rw [e3];exact ht.EN (r':=.row (.slice (some ⟨gb,off,none⟩) 0 0) T (aK.sz α) 0 []) hgr ⟨by simp,.inr ⟨gb,off,0,cur,rfl,hgb,Sj _,by unfold maxLen; omega,by omega,by simp⟩⟩ (λc hc=>.inl hc)
   ·rw [R8 Y,SZ]
    refine ht.EN (r':=.row (.slice (some ⟨gb,off+l*aK.sz α,none⟩) (h-l) (cap-l)) T (aK.sz α) (h-l) _) hgr ⟨?_,.inr ⟨gb,off+l*aK.sz α,cap-l,cur,rfl,hgb,by omega,by omega,by omega,?_⟩⟩ (λc hc=>.inl hc)
    ·rw [hcl,J]
    ·rw [<- htake,Wj,S7 hmul3,Um,TW]
     congr 1; omega
theorem xw {α:Type}[aK α] {t e T:TypeId}{n:Nat}{y:Operand}{lo hi:Option Operand}{v:RV}{cs:List RV}{xs:List α}{l h:Nat} (hg:gd ops L ⟨some d,.slice t y lo hi none,ty,pos,aft,g⟩=some true) (hN:Nat.blt d x.N=true)
  (hT:∀ w,(underlying t).run x.P w=.ok (.slice e) w) (hs:∀ w,(sizeOf e).run x.P w=.ok (aK.sz α) w) (Z:Nat.blt 0 (aK.sz α)=true)
  (hy:ev L y=some v) (hR:Rw H v cs xs) (Y:l<=h) (J:h<=xs.length)
  (hh:∀ m,h<=m->Is L hi xs.length m h) (hl:Is L lo 0 h l)
  (k:∀ v' I,Rw H v' I ((xs.drop l).take (h-l))->W x ops Q rest H (.row v' T (aK.sz α) ((xs.drop l).take (h-l)).length I::M) ((d,v')::L)):
  W x ops Q (⟨some d,.slice t y lo hi none,ty,pos,aft,g⟩::rest) H (.row v T (aK.sz α) n cs::M) L:=
 Jv hg hN hT hs Z hy hR Y J hh hl (λv' I h _=>k v' I h)
end
def pM {α:Type} (xs:List α) (l h:Nat):List α:=(xs.drop l).take (h-l)
theorem yg {α:Type} (xs:List α) (l h:Nat):(pM xs l h).length=min (h-l) (xs.length-l):=by simp [pM]
theorem Rw.room {α:Type}[aK α] {H:Hp}{v:RV}{xs:List RV}{l:List α} (h:Rw H v xs l) {k:Nat}{e:α} (he:l[k]? = some e) {o m:Nat} (J:Nat.ble (o+m) (aK.sz α)=true):k*aK.sz α+o+m<=xs.length:=by
 have Z:k<l.length:=(R3.1 he).1;have I:(k+1)*aK.sz α<=l.length*aK.sz α:=Si _ Z;have Y:o+m<=aK.sz α:=by simpa [US] using J
 rw [h.rd.len];rw [So,Wx] at I;omega
theorem Jg (a:Addr) (i:Nat):a.add i=a.add (i+0):=rfl
theorem Mj (a:Addr) (i o:Nat):(a.add i).add o=a.add (i+o):=add_add a i o
section
variable {x:Cx}{ops:Array Oper}{Q:mj}{rest:List Oper}{H:Hp}{M M':List b_}{L L':Env}
variable {d:Nat}{ty:TypeId}{pos:String}{aft:Array Edge}{g:Option (Nat×Bool)}
theorem Ju {α : Type} [aK α] {t e : TypeId} {bytes : Nat} {z : RV} {y u : Operand} {v vu : RV} {l ys : List α}
    (hg : gd ops L ⟨some d, .call ⟨.builtin .append, #[y, u], #[t, t]⟩, ty, pos, aft, g⟩ = some true) (hN : Nat.blt d x.N = true)
    (hT : x.P.underlying t = some (.slice e)) (hi : OG x.P e (aK.sz α) bytes z) (hz : z.cells.size = aK.sz α) (hs : Nat.blt 0 (aK.sz α) = true) (hb0 : Nat.blt 0 bytes = true)
    (hy : ev L y = some v) (hu : ev L u = some vu) (hx : aU H v l) (hc : Value.lX v = l.length) (hR : aU H vu ys) (hpos : Nat.blt 0 ys.length = true) (hb : ((l.length + ys.length) * bytes : Nat) ≤ 140737488355328)
    (k : ∀ v' xs', Rw H v' xs' (l ++ ys) → W x ops Q rest H (.row v' e (aK.sz α) (l ++ ys).length xs' :: M) ((d, v') :: L)) :
    W x ops Q (⟨some d, .call ⟨.builtin .append, #[y, u], #[t, t]⟩, ty, pos, aft, g⟩ :: rest) H M L := by
  obtain ⟨i, h1, h2, h3, h4⟩ := hi.ex;have hs' : 0 < aK.sz α := by simpa [S_] using hs
  have hb0' : 0 < bytes := by simpa [S_] using hb0
  have hpos' : 0 < ys.length := by simpa [S_] using hpos
  have hmax : l.length + ys.length ≤ maxLen := by
    have : l.length + ys.length ≤ (l.length + ys.length) * bytes := Va _ hb0';unfold maxLen; omega
  have Z : l.length + ys.length ≤ 9223372036854775807 := by unfold maxLen at hmax; omega
  refine tT rfl hg hN fun a w hsl ht => ?_;obtain ⟨cs, hcs, hcase⟩ := hx.flat;obtain ⟨J, hds, hcase2⟩ := hR.flat;rcases hcase2 with ⟨⟨ea, rfl⟩, rfl⟩ | ⟨hd2, b2, I, c2, rfl⟩
  · simp at hpos'
  have Y : ∀ j u, J[j]? = some u → w.cell? ((⟨b2, I, none⟩ : Addr).add j) = some u := fun j u hu => ((hd2 j u hu).at (x := x) (M := M)) w ht;have hdl := hds.len;have hge := Xv w (l.length + ys.length);have mk : ∀ (vf : Nat), rL H (cs ++ J) (l ++ ys) → iU (w.drew.alloc (.cells (cs.toArray ++ J.toArray ++ Builtin.zeroCells z.cells (grownCap w (l.length + ys.length) vf e - (l.length + ys.length))) e)) e (aK.sz α)
        (.slice (some ⟨w.heap.size, 0, none⟩) (l.length + ys.length) (grownCap w (l.length + ys.length) vf e)) (l.length + ys.length) (cs ++ J) := by
    intro vf hrd;have hge := Xv w (l.length + ys.length) vf e;have hcm : grownCap w (l.length + ys.length) vf e ≤ maxLen := WO w (l.length + ys.length) vf e hmax;have hlen : (cs ++ J).length = (l.length + ys.length) * aK.sz α := by rw [hrd.len, Sg]
    refine ⟨hlen, .inr ⟨w.heap.size, 0, _, _, rfl, WY w.drew _, hge, hcm, ?_, ?_⟩⟩
    · have hlen' : cs.length + J.length = (l.length + ys.length) * aK.sz α := by rw [← Sg]; exact hlen
      simp only [Array.size_append, UF, size_zeroCells, hz, Sp];rw [hlen', ← So];rw [show l.length + ys.length + (grownCap w (l.length + ys.length) vf e - (l.length + ys.length)) = grownCap w (l.length + ys.length) vf e from by omega]
      exact Sj _
    · simp only [Tr, Xp, Sr]
      rw [← Sr, ← hlen];exact UY
  have fin : ∀ (vf : Nat), rL H (cs ++ J) (l ++ ys) → (Builtin.append_ #[t, t] ty #[v, .slice (some ⟨b2, I, none⟩) ys.length c2]).run x.P w = .ok (.slice (some ⟨w.heap.size, 0, none⟩) (l.length + ys.length) (grownCap w (l.length + ys.length) vf e))
        (w.drew.alloc (.cells (cs.toArray ++ J.toArray ++ Builtin.zeroCells z.cells (grownCap w (l.length + ys.length) vf e - (l.length + ys.length))) e)) →
      ∃ v' w', (execOp a.eval ⟨some d, .call ⟨.builtin .append, #[y, u], #[t, t]⟩, ty, pos, aft, g⟩).run x.P w = .ok (.value v') w' ∧ ∃ H' M', St x.B x.w0 H' M' w' ∧ W x ops Q rest H' M' ((d, v') :: L) := by
    intro vf hrd hr;have hown := mk vf hrd;refine ⟨_, (w.drew.alloc (.cells (cs.toArray ++ J.toArray ++ Builtin.zeroCells z.cells (grownCap w (l.length + ys.length) vf e - (l.length + ys.length))) e)), ?_, H, .row _ e (aK.sz α) (l ++ ys).length (cs ++ J) :: M, ht.add (r' := .row (.slice (some ⟨w.heap.size, 0, none⟩) (l.length + ys.length) (grownCap w (l.length + ys.length) vf e)) e (aK.sz α) (l ++ ys).length (cs ++ J)) ?_ ?_ ?_, k _ _ ⟨hrd, _, _, _, rfl⟩⟩
    · simp [execOp, resolve, invoke, builtin, hsl.ev hy, hsl.ev hu, hr]
    · exact ⟨rfl, rfl, rfl, by simp, fun k hk _ => heap_alloc_old w.drew _ (h := hk)⟩
    · show iU _ e (aK.sz α) _ (l ++ ys).length (cs ++ J)
      rw [Sg]; exact hown
    · intro b hb
      simp only [b_.AU, Value.ownBlock, Sn] at hb;omega
  rcases hcase with ⟨⟨ea, rfl⟩, rfl⟩ | ⟨hc1, b1, off1, c1, rfl⟩
  · have hcs' : cs = [] := hcs
    subst hcs';have hl0 : ([] : List α).length + ys.length = ys.length := by simp
    cases ea with
    | none =>
      have hr := run_append_nil (P := x.P) w t ty e i z hT h1 h4 ⟨b2, I, none⟩ ys.length c2 J (by rw [h2]; exact hdl) Y (by omega) (by rw [hl0] at Z; omega) (by have hb' := hb; rw [hl0] at hb'; rw [h3]; omega)
      refine fin 0 (hcs.app hds) ?_;simp only [hl0];simpa using hr
    | some ea =>
      have hr := run_append_grow (P := x.P) w t ty e i z hT h1 h4 ea 0 0 [] (by simp) (by simp) ⟨b2, I, none⟩ ys.length c2 J (by rw [h2]; exact hdl) Y (by omega) (by rw [hl0] at Z; omega) (Xt (by omega) (by rw [h3]; simpa using hb))
      refine fin 0 (hcs.app hds) ?_;simpa using hr
  · have hc' : c1 = l.length := hc
    subst hc';have hr := run_append_grow (P := x.P) w t ty e i z hT h1 h4 ⟨b1, off1, none⟩ l.length l.length cs (by rw [h2]; exact hcs.len) (fun j u hu => ((hc1 j u hu).at (x := x) (M := M)) w ht) ⟨b2, I, none⟩ ys.length c2 J (by rw [h2]; exact hdl) Y (by omega) (by omega) (Xt (by omega) (by rw [h3]; exact hb))
    exact fin l.length (hcs.app hds) hr
theorem qK (α:Type) [aK α] {T e:TypeId}
  (Z:gd ops L ⟨some d,.buildSlice T 0 #[],ty,pos,aft,g⟩=some true) (hN:Nat.blt d x.N=true)
  (Y:∀ w,(underlying T).run x.P w=.ok (.slice e) w) (hs:∀ w,(sizeOf e).run x.P w=.ok (aK.sz α) w)
  (k:∀ v' I,Rw H v' I ([]:List α)->W x ops Q rest H (.row v' e (aK.sz α) ([]:List α).length I::M) ((d,v')::L)):
  W x ops Q (⟨some d,.buildSlice T 0 #[],ty,pos,aft,g⟩::rest) H M L:=by
 refine tT rfl Z hN λa w hsl ht=>?_;have J:∀ c w,(newRow e c).run x.P w=.ok ⟨w.heap.size,0,none⟩ (w.alloc (.cells c e)):=λc w=>by
  simp only [newRow,newObj,Se,Sk,Sem.run,Sb,World.alloc]
 refine ⟨.slice (some ⟨w.heap.size,0,none⟩) 0 0,_,?_,H,_,St.newRow (α:=α) (cells:=[]) (l:=[]) (e:=e) ht rfl (by unfold maxLen; simp),k _ _ ⟨rfl,_,_,_,rfl⟩⟩
 simp only [execOp,Instr.buildSlice,Se,Y,hs,Sb,TC,Nat.not_lt_zero,gt_iff_lt,TV,Wy,Sk];simp [Instr.fill,J,Array.range]
end
def lz (s:RU):List U8:=s.data.toList.map λb=>⟨b.toNat⟩
section
variable {x:Cx}{ops:Array Oper}{Q:mj}{rest:List Oper}{H:Hp}{M M':List b_}{L L':Env}
variable {d:Nat}{ty:TypeId}{pos:String}{aft:Array Edge}{g:Option (Nat×Bool)}
def uA (s:RU) (cap:Nat):Array RV:=s.data.map (λb:UInt8=>Value.int .u8 b.toNat)++Array.replicate (cap-s.size) (Value.int .u8 0)
theorem Fl (w:World) (c:Array RV) (e:TypeId):(w.alloc (.cells c e)).freeze ⟨w.heap.size,c.size,none⟩ 1=w.alloc (.cells c e (c.size,c.size+1)):=by
 have key:∀ (f:Obj->Obj),f (.cells c e)=.cells c e (c.size,c.size+1)->(w.heap.push (.cells c e)).modify w.heap.size f=w.heap.push (.cells c e (c.size,c.size+1)):=by
  intro f I;apply Array.ext_getElem?;intro i;rw [W8,Array.getElem?_push,Array.getElem?_push]
  by_cases h:w.heap.size=i
  ·subst h; simp [I]
  ·rw [R8 h,R8 (λq=>h q.symm),R8 (λq=>h q.symm)]
 unfold World.freeze;rw [R8 (by omega)]
 show ({ w with heap:=(w.heap.push (.cells c e)).modify w.heap.size _ }:World)={ w with heap:=w.heap.push (.cells c e (c.size,c.size+1)) }
 rw [key _ (by simp)]
theorem Aj (s:RU):(lz s).length=s.size:=by unfold lz; rw [Uc,Array.length_toList]; rfl
theorem Ba {P:Program}{w:World}{e:TypeId}{s:RU}:
  (Conv.stringToBytes e s).run P w=.ok (.slice (some ⟨w.heap.size,0,none⟩) s.size (grownCap w s.size 0 e))
   (w.drew.alloc (.cells (uA s (grownCap w s.size 0 e)) e ((uA s (grownCap w s.size 0 e)).size,(uA s (grownCap w s.size 0 e)).size+1))):=by
 have I:(choose (.appendCap s.size 0 e)).run P w=.ok (grownCap w s.size 0 e) w.drew:=by
  simp only [choose,Sem.run,Question.forced,Te,TV]; rfl
 have Y:∀ (c:Array RV) (w:World),(newRow e c).run P w=.ok ⟨w.heap.size,0,none⟩ (w.alloc (.cells c e)):=λc w=>by
  simp only [newRow,newObj,Se,Sk,Sem.run,Sb,World.alloc]
 have J:∀ (c:Array RV) (w:World),(markStringish ⟨w.heap.size,0,none⟩).run P (w.alloc (.cells c e))=.ok () (w.alloc (.cells c e (c.size,c.size+1))):=λc w=>by
  have Z:(w.alloc (.cells c e)).shape? w.heap.size=some (e,c.size):=by
   have:(w.alloc (.cells c e)).heap[w.heap.size]? = some (.cells c e):=WY w _;simp only [World.shape?,this]
  simp only [markStringish,shape,Se,Sem.run,Z,Sb,Go.freeze,Fl]
 simp only [Conv.stringToBytes,Se,I,Sb,Y];have:=J (uA s (grownCap w s.size 0 e)) w.drew;simp only [uA] at this ⊢;rw [show (w.drew.heap.size)=w.heap.size from rfl] at this ⊢;rw [this]
 rfl
theorem w5 {t u e:TypeId}{y:Operand}{s:RU} (hg:gd ops L ⟨some d,.convert t u y,ty,pos,aft,g⟩=some true) (hN:Nat.blt d x.N=true)
  (ht:∀ w,(underlying t).run x.P w=.ok .string w) (hu:∀ w,(underlying u).run x.P w=.ok (.slice e) w) (he:∀ w,(underlying e).run x.P w=.ok (.int .u8) w)
  (hy:ev L y=some (.string s)) (hs:s.size<=maxLen)
  (k:∀ v H',H.le H'->aU H' v (lz s)->W x ops Q rest H' M ((d,v)::L)):
  W x ops Q (⟨some d,.convert t u y,ty,pos,aft,g⟩::rest) H M L:=by
 refine tT rfl hg hN λa w hsl h=>?_;have Z:=Xv w s.size 0 e;have Y:grownCap w s.size 0 e<=maxLen:=WO w s.size 0 e hs;have h':St x.B x.w0 H M w.drew:=h.drewN (w.drawn+1);generalize J:grownCap w s.size 0 e=cap at Z Y;have ha:=(h'.alloc (.cells (uA s cap) e ((uA s cap).size,(uA s cap).size+1))).freeze;refine ⟨.slice (some ⟨w.heap.size,0,none⟩) s.size cap,w.drew.alloc (.cells (uA s cap) e ((uA s cap).size,(uA s cap).size+1)),?_,_,M,ha.2,k _ _ ha.1 (.inr ⟨w.heap.size,0,cap,_,e,_,?_,?_,Y,Hp.y8 _ _ _,?_,?_⟩)⟩
 ·have hr:=Ba (P:=x.P) (w:=w) (e:=e) (s:=s)
  rw [J] at hr;simp only [execOp,hsl.ev hy,convert,Se,ht,hu,he,Sb,hr,Sk]
 ·rw [Aj]
 ·rw [Aj]; exact Z
 ·have e0:s.size=s.data.size:=rfl
  simp [aK.sz,uA];omega
 ·intro j el I
  refine ⟨[.int .u8 el.n],rfl,λi c hc=>?_⟩;have hi:i=0:=by
   have:=(R3.1 hc).1;simp at this; omega
  subst hi;simp at hc; subst hc
  have hj:=(R3.1 I).1;simp [lz] at I hj;obtain ⟨b,hb,rfl⟩:=I;simp only [aK.sz,Sp,UO,Tt,uA];rw [Array.getElem?_append_left (by simpa using hj),Array.getElem?_map,hb]
  rfl
theorem FK {P:Program}{w:World}{t e:TypeId}{o:Option Addr}{n c:Nat} (I:∀ w,(underlying t).run P w=.ok (.slice e) w):(Op.equal t (.slice o n c) (.slice none 0 0)).run P w=.ok o.isNone w:=by
 have key:∀ k,(Op.equalIn (k+1) t (.slice o n c) (.slice none 0 0)).run P w=.ok o.isNone w:=λk=>by
  unfold Op.equalIn;cases o <;> simp [I]
 exact key 9999
theorem sB {t e u:TypeId}{y z:Operand}{o:Option Addr}{n c:Nat} (J:gd ops L ⟨some d,.binOp .eql t y z u,ty,pos,aft,g⟩=some true) (hN:Nat.blt d x.N=true)
  (I:∀ w,(underlying t).run x.P w=.ok (.slice e) w) (Y:ev L y=some (.slice o n c)) (Z:ev L z=some (.slice none 0 0))
  (k:W x ops Q rest H M ((d,.bool o.isNone)::L)):
  W x ops Q (⟨some d,.binOp .eql t y z u,ty,pos,aft,g⟩::rest) H M L:=
 gL rfl J hN (λa w hs _=>by
  simp only [execOp,hs.ev Y,hs.ev Z,Se,eqGuard,binOp,FK I,Sb,Sk]
  rfl) k
end
section
variable {B:Nat}{w0 w:World}{H:Hp}{M:List b_}
theorem St.lU {α:Type}[aK α] {v:RV}{T:TypeId}{n:Nat}{xs:List RV}{ys:List α}
  (h:St B w0 H (.row v T (aK.sz α) n xs::M) w) (hx:Rw H v xs ys) (hs:Nat.blt 0 (aK.sz α)=true):
  ∃ H',H.le H'/\St B w0 H' M w/\aU H' v ys/\∀ M' w',St B w0 H' M' w'->St B w0 H (.row v T (aK.sz α) n xs::M') w':=by
 have hs':0<aK.sz α:=by simpa [S_] using hs
 have hok:=h.ok _ (R6 ..);have hlo:=h.lo _ (R6 ..);obtain ⟨hl,hh⟩:=hok;have hn:n=ys.length:=by
  have:=hx.rd.len;rw [hl] at this;exact TM hs' this
 subst hn;rcases hh with ⟨rfl,h0⟩ | ⟨g,off,cap,Y,rfl,hg,hnc,hcm,hcs,J⟩
 ·refine ⟨H,SP _,h.tail,.inl ⟨⟨_,rfl⟩,Sv h0⟩,λM' w' h'=>?_⟩
  have hx0:xs=[]:=Sv (by rw [hl,h0,TC])
  rw [h0,hx0];exact h'.DC T _
 ·have h':St B w0 H (.obj g (.cells Y T (0,0))::M) w:=by
   refine ⟨h.below,h.le,h.vZ,?_,?_,h.nd⟩
   ·intro r I
    rcases SQ.1 I with rfl | I
    ·exact hg
    ·exact h.tail.ok r I
   ·intro r I
    rcases SQ.1 I with rfl | I
    ·exact hlo
    ·exact h.tail.lo r I
  obtain ⟨Z,hst⟩:=h'.freeze;refine ⟨_,Z,hst,.inr ⟨g,off,cap,Y,T,(0,0),rfl,hnc,hcm,Hp.y8 _ _ _,hcs,?_⟩,λM' w' hb=>?_⟩
  ·intro k e he
   obtain ⟨c,h1,h2⟩:=(hx.rd.mono Z).get k e he;refine ⟨c,h1,λj d hd=>?_⟩;have:=h2 j d hd;rw [<- J,SU] at this
   split at this
   ·rw [SK] at this; simpa [Uv] using this
   ·cases this
  ·have ht:=St.Q3 (H:=H) hb (hlo g (List.Mem.head _)).1 Z (hlo g (List.Mem.head _)).2 (Hp.y8 _ _ _)
   refine ⟨ht.below,ht.le,ht.vZ,?_,?_,ht.nd⟩
   ·intro r I
    rcases SQ.1 I with rfl | I
    ·exact ⟨hl,.inr ⟨g,off,cap,Y,rfl,ht.ok _ (R6 ..),hnc,hcm,hcs,J⟩⟩
    ·exact ht.tail.ok r I
   ·intro r I
    rcases SQ.1 I with rfl | I
    ·exact ht.lo (.obj g _) (R6 ..)
    ·exact ht.tail.lo r I
theorem gV {P:Program}{f:FuncId}{args:Array RV}{Y:Hp}{r:b_}{φ:List b_->RV->Prop}
  (I:∀ M' J,St B w0 Y M' J->St B w0 H (r::M') J) (h:Calls P f args w (vi B w0 λH' M' v=>Y=H'/\φ M' v)):
  Calls P f args w (vi B w0 λH' M' v=>H=H'/\∃ Z,r::Z=M'/\φ Z v):=
 h.mono λe J he=>by
  cases e with
  | returned v=>
   obtain ⟨H2,M',h1,h2,h3⟩:=he;subst h2;exact ⟨H,r::M',I M' J h1,rfl,M',rfl,h3⟩
  | panicked c=>exact he
  | outgrown=>exact he
end
section
variable {x:Cx}{ops:Array Oper}{Q:mj}{rest:List Oper}{H:Hp}{M M':List b_}{L L':Env}
variable {d:Nat}{ty:TypeId}{pos:String}{aft:Array Edge}{g:Option (Nat×Bool)}
theorem CV {J:Fn}{first I:List Operand}{vs cs:List RV} (Z:gd ops L ⟨some d,.makeFunc J first.toArray I.toArray,ty,pos,aft,g⟩=some true) (hN:Nat.blt d x.N=true)
  (hv:Aq L first=some vs) (Y:Aq L I=some cs) (k:W x ops Q rest H M ((d,.func J vs.toArray cs.toArray)::L)):
  W x ops Q (⟨some d,.makeFunc J first.toArray I.toArray,ty,pos,aft,g⟩::rest) H M L:=
 gL rfl Z hN (λa w hs _=>by simp [execOp,Instr.makeFunc,hs.Aq hv,hs.Aq Y]) k
theorem oK {d:Nat}{y:Operand}{f:FuncId}{args:List Operand}{Y:Array TypeId}{vs fs cs:List RV}
  {Z:Hp->List b_->RV->Prop}
  (J:∀ as w,(callFunc f as).run x.P w=.ok (.enter f as) w)
  (hg:gd ops L ⟨some d,.call ⟨.value y,args.toArray,Y⟩,ty,pos,aft,g⟩=some true) (hN:Nat.blt d x.N=true)
  (hy:ev L y=some (.func (.func f) fs.toArray cs.toArray)) (hv:Aq L args=some vs)
  (hc:∀ w,St x.B x.w0 H M w->Calls x.P f (fs++vs++cs).toArray w (vi x.B x.w0 Z))
  (k:∀ v H' M',Z H' M' v->W x ops Q rest H' M' ((d,v)::L)):
  W x ops Q (⟨some d,.call ⟨.value y,args.toArray,Y⟩,ty,pos,aft,g⟩::rest) H M L:=by
 intro a w hs ht;refine Wz λK hK=>?_;rw [R9 (hs.gd hg)];have I:args.toArray.map a.eval=vs.toArray:=by simp [hs.Aq hv]
 have hr:(execOp a.eval ⟨some d,.call ⟨.value y,args.toArray,Y⟩,ty,pos,aft,g⟩).run x.P w=.ok (.enter f (fs++vs++cs).toArray) w:=by
  simp only [execOp,resolve,I,hs.ev hy,Deferred.ofValue,Se,Sk,Sb,invoke];simp [J]
 unfold Oper.wp;rw [hr];simp only [Oper.upon];refine (hc w ht).mono λe w' he=>?_;cases e with
 | returned v=>
  obtain ⟨H',M',h1,h2⟩:=he;exact hK _ _ (k v H' M' h2 _ _ (hs.put hN) h1)
 | panicked c=>exact he.elim
 | outgrown=>exact he.elim
def vc (k:IntKind) (a b:Int):Int:=k.wrap (a*2 ^ (min b.toNat k.bits))
def pL (k:IntKind) (a b:Int):Int:=a.fdiv (2 ^ (min b.toNat k.bits))
theorem Gc {t u:TypeId}{y z:Operand}{k Z:IntKind}{a b:Int} (I:gd ops L ⟨some d,.binOp .shl t y z u,ty,pos,aft,g⟩=some true) (hN:Nat.blt d x.N=true)
  (J:ev L y=some (.int k a)) (Y:ev L z=some (.int Z b)) (hb:0<=b) (kk:W x ops Q rest H M ((d,.int k (vc k a b))::L)):
  W x ops Q (⟨some d,.binOp .shl t y z u,ty,pos,aft,g⟩::rest) H M L:=
 gL rfl I hN (λc w hs _=>by
  have:¬ b<0:=by omega
  simp [execOp,hs.ev J,hs.ev Y,eqGuard,binOp,Op.shift,this,vc]) kk
theorem vB {t u:TypeId}{y z:Operand}{k Z:IntKind}{a b:Int} (I:gd ops L ⟨some d,.binOp .shr t y z u,ty,pos,aft,g⟩=some true) (hN:Nat.blt d x.N=true)
  (J:ev L y=some (.int k a)) (Y:ev L z=some (.int Z b)) (hb:0<=b) (kk:W x ops Q rest H M ((d,.int k (pL k a b))::L)):
  W x ops Q (⟨some d,.binOp .shr t y z u,ty,pos,aft,g⟩::rest) H M L:=
 gL rfl I hN (λc w hs _=>by
  have:¬ b<0:=by omega
  simp [execOp,hs.ev J,hs.ev Y,eqGuard,binOp,Op.shift,this,pL]) kk
theorem sA {t u:TypeId}{y:Operand}{k I:IntKind}{n:Int} (J:gd ops L ⟨some d,.convert t u y,ty,pos,aft,g⟩=some true) (hN:Nat.blt d x.N=true)
  (ht:∀ w,(underlying t).run x.P w=.ok (.int I) w) (Y:∀ w,(underlying u).run x.P w=.ok (.int k) w) (Z:ev L y=some (.int I n))
  (kk:W x ops Q rest H M ((d,.int k (k.wrap n))::L)):
  W x ops Q (⟨some d,.convert t u y,ty,pos,aft,g⟩::rest) H M L:=
 gL rfl J hN (λc w hs _=>by simp [execOp,hs.ev Z,convert,ht,Y,Conv.intToInt]) kk
theorem s7 {t u:TypeId}{y z:Operand}{a b:RU} (J:gd ops L ⟨some d,.binOp .add t y z u,ty,pos,aft,g⟩=some true) (hN:Nat.blt d x.N=true)
  (Y:ev L y=some (.string a)) (Z:ev L z=some (.string b)) (I:a.size+b.size<=maxLen) (kk:W x ops Q rest H M ((d,.string (a++b))::L)):
  W x ops Q (⟨some d,.binOp .add t y z u,ty,pos,aft,g⟩::rest) H M L:=
 gL rfl J hN (λc w hs _=>by
  have:¬ (((a.size+b.size:Nat):Int) > i64.max):=by
   simp only [IntKind.max,IntKind.signed,IntKind.bits]; unfold maxLen at I; simp; omega
  simp only [execOp,hs.ev Y,hs.ev Z,eqGuard,binOp,Op.stringOp,Se];simp only [R8 this];simp) kk
theorem Hr {s:RU}{k:Nat}{c:U8} (h:(lz s)[k]? = some c):∃ b:UInt8,s[k]? = some b/\c=⟨b.toNat⟩:=by
 simp only [lz,SD,V9] at h;obtain ⟨b,J,rfl⟩:=h;refine ⟨b,?_,rfl⟩;obtain ⟨Y,e⟩:=R3.1 J;have I:k<s.size:=by simpa using Y
 rw [getElem?_pos s k I];rw [<- e]; rfl
theorem Ag {t:TypeId}{y z:Operand}{s:RU}{kk:IntKind}{i:Int}{c:U8} (Z:gd ops L ⟨some d,.index t y z,ty,pos,aft,g⟩=some true) (hN:Nat.blt d x.N=true)
  (J:∀ w,(underlying t).run x.P w=.ok .string w) (hy:ev L y=some (.string s)) (hz:ev L z=some (.int kk i)) (I:0<=i) (he:(lz s)[i.toNat]? = some c)
  (k:W x ops Q rest H M ((d,.int .u8 c.n)::L)):
  W x ops Q (⟨some d,.index t y z,ty,pos,aft,g⟩::rest) H M L:=
 gL rfl Z hN (λa w hs _=>by
  obtain ⟨b,Y,rfl⟩:=Hr he;simp [execOp,hs.ev hy,hs.ev hz,Instr.index,asIntOf,J,I,Y]) k
theorem tn {t:TypeId}{y:Operand}{lo hi:Option Operand}{s:RU}{l h:Nat} (Z:gd ops L ⟨some d,.slice t y lo hi none,ty,pos,aft,g⟩=some true) (hN:Nat.blt d x.N=true)
  (J:∀ w,(underlying t).run x.P w=.ok .string w)
  (hy:ev L y=some (.string s)) (hh:Is L hi s.size s.size h) (hl:Is L lo 0 h l)
  (k:W x ops Q rest H M ((d,.string (s.extract l h))::L)):
  W x ops Q (⟨some d,.slice t y lo hi none,ty,pos,aft,g⟩::rest) H M L:=
 gL rfl Z hN (λa w hs _=>by
  have Y:(Instr.sliceBounds false s.size s.size (lo.map a.eval) (hi.map a.eval) none).run x.P w=.ok (l,h,s.size) w:=by
   rcases hh.bd hs with ⟨e1,rfl⟩ | ⟨kh,ih,e1,I,h1,rfl⟩
   ·rcases hl.bd hs with ⟨e2,rfl⟩ | ⟨kl,il,e2,l0,l1,rfl⟩
    ·simp only [e1,e2,Instr.sliceBounds,Se,Sk,Sb]
    ·simp only [e1,e2,Instr.sliceBounds,Se,Sk,Sb,run_sliceBound l0 l1]
   ·rcases hl.bd hs with ⟨e2,rfl⟩ | ⟨kl,il,e2,l0,l1,rfl⟩
    ·simp only [e1,e2,Instr.sliceBounds,Se,Sk,Sb,run_sliceBound I h1]
    ·simp only [e1,e2,Instr.sliceBounds,Se,Sk,Sb,run_sliceBound I h1,run_sliceBound l0 l1]
  simp only [execOp,hs.ev hy,Instr.sliceAt,Se,J,Sb,Instr.slice,V3,Option.isSome_none,Te,TV,Y,Sk]) k
end
class MV (α:Type) where
 mv:α->RV
instance:MV Int:=⟨λn=>.int .i64 n⟩
instance:MV Bool:=⟨λb=>.bool b⟩
instance:MV RU:=⟨λs=>.string s⟩
class yG (α:Type) [DecidableEq α] extends MV α where
 kind:TypeDesc
 same:∀ a b:α,Instr.sameNow kind (mv a) (mv b)=some (decide (a=b))
 bits:∀ a:α,Instr.sameBits 10000 (mv a) (mv a)=true
 check:∀ (P:Program) (t:TypeId) (e:Bool) (a:α) (w:World),(∀ w,(underlying t).run P w=.ok kind w)->(Instr.checkKey e 10000 t (mv a)).run P w=.ok () w
theorem E2 (s t:RU):(s == t)=decide (s=t):=by
 have h:(s == t)=(s.data == t.data):=rfl;rw [h,Bool.eq_iff_iff];simp only [beq_iff_eq,SO];exact ⟨λe=>ByteArray.ext e,λe=>by rw [e]⟩
instance:yG Int where
 kind:=.int .i64
 same a b:=by simp [Instr.sameNow,Fo,MV.mv]
 bits a:=by simp [Instr.sameBits,MV.mv]
 check P t e a w h:=by
  have key:∀ k,(Instr.checkKey e (k+1) t (.int .i64 a)).run P w=.ok () w:=λk=>by unfold Instr.checkKey; simp [h]
  exact key 9999
instance:yG RU where
 kind:=.string
 same a b:=by simp [Instr.sameNow,E2,MV.mv]
 bits a:=by simp [Instr.sameBits,MV.mv,E2]
 check P t e a w h:=by
  have key:∀ k,(Instr.checkKey e (k+1) t (.string a)).run P w=.ok () w:=λk=>by unfold Instr.checkKey; simp [h]
  exact key 9999
section
variable {κ ν:Type}[DecidableEq κ] [yG κ] [MV ν]
structure tR (es:Array MapEntry) (c:Nat) (l:List (κ×ν)):Prop where
 eq:es.toList.map (λe=>(e.key,e.val))=l.map λp=>(MV.mv p.1,MV.mv p.2)
 nd:(es.toList.map (·.born)).Nodup
 lt:∀ e ∈ es.toList,e.born<c
def xO:List (κ×ν)->κ->Nat->Option (Nat×ν)
 | [],_,_=>none
 | (a,v)::r,k,i=>if a=k then some (i,v) else xO r k (i+1)
def sX (l:List (κ×ν)) (k:κ):Option ν:=(xO l k 0).map (·.2)
def wY (l:List (κ×ν)) (k:κ) (v:ν):List (κ×ν):=match xO l k 0 with
 | some (i,_)=>l.set i (k,v)
 | none=>l++[(k,v)]
theorem tR.nil:tR #[] 0 ([]:List (κ×ν)):=⟨rfl,by simp,by simp⟩
theorem Dc (k:κ):∀ (es:List MapEntry) (l:List (κ×ν)) (i:Nat),es.map (λe=>(e.key,e.val))=l.map (λp=>(MV.mv p.1,MV.mv p.2)) ->
  Instr.findNow (yG.kind κ) (MV.mv k) es i=some ((xO l k i).map λp=>(p.1,MV.mv p.2))
 | [],[],i,_=>rfl
 | [],_::_,i,h=>by simp at h
 | _::_,[],i,h=>by simp at h
 | e::es,(a,v)::l,i,h=>by
  simp only [U6,List.cons.injEq,UB] at h;obtain ⟨⟨h1,h2⟩,J⟩:=h;unfold Instr.findNow;rw [h1,yG.same]
  by_cases I:k=a
  ·subst I; simp [xO,h2]
  ·simp only [I,Xh,xO,R8 (λe:a=k=>I e.symm)]
   exact Dc k es l (i+1) J
theorem run_findKey {P:Program}{w:World}{t:TypeId}{k:κ}{es:Array MapEntry}{c:Nat}{l:List (κ×ν)} (h:tR es c l) (I:∀ w,(underlying t).run P w=.ok (yG.kind κ) w):
  (Instr.findKey t (MV.mv k) es.toList).run P w=.ok ((xO l k 0).map λp=>(p.1,MV.mv p.2)) w:=by
 simp only [Instr.findKey,Se,I,Sb,Dc k es.toList l 0 h.eq,Sk]
theorem HT:∀ {l:List (κ×ν)}{k:κ}{i j:Nat}{v:ν},xO l k i=some (j,v)->i<=j/\j<i+l.length/\l[j-i]? = some (k,v)
 | [],k,i,j,v,h=>by simp [xO] at h
 | (a,u)::l,k,i,j,v,h=>by
  unfold xO at h
  split at h
  ·rename_i e; subst e
   simp only [Sn,UB] at h;obtain ⟨rfl,rfl⟩:=h;simp
  ·obtain ⟨h1,h2,I⟩:=HT h
   refine ⟨by omega,by simp; omega,?_⟩
   rw [show j-i=(j-(i+1))+1 by omega,List.getElem?_cons_succ]; exact I
end
section
variable {x:Cx}{ops:Array Oper}{Q:mj}{rest:List Oper}{H:Hp}{M M':List b_}{L L':Env}
variable {d:Nat}{ty:TypeId}{pos:String}{aft:Array Edge}{g:Option (Nat×Bool)}
variable {κ ν:Type}[DecidableEq κ] [yG κ] [MV ν]
theorem Bn {t:TypeId} (I:gd ops L ⟨some d,.makeMap t none,ty,pos,aft,g⟩=some true) (hN:Nat.blt d x.N=true)
  (k:∀ b,W x ops Q rest H (.obj b (.map #[] 0)::M) ((d,.map (some b))::L)):
  W x ops Q (⟨some d,.makeMap t none,ty,pos,aft,g⟩::rest) H M L:=
 tT rfl I hN (λc w hs ht=>⟨_,w.alloc (.map #[] 0),by
  simp only [execOp,Instr.makeMap,V3,newObj,Se,Sk,Sem.run,Sb,World.alloc],_,_,ht.alloc _,k _⟩)
theorem ye {P:Program}{w:World}{b:Nat}{es:Array MapEntry}{c:Nat} (h:w.heap[b]? = some (.map es c)):(getObj b).run P w=.ok (.map es c) w:=by
 simp [getObj,Sem.run,h]
theorem Ih {P:Program}{w:World}{t key e:TypeId}{b c:Nat}{es:Array MapEntry}{l:List (κ×ν)}{k:κ}{z:ν}{ok:Bool} (Y:w.heap[b]? = some (.map es c)) (h:tR es c l)
  (J:∀ w,(underlying t).run P w=.ok (.map key e) w) (I:∀ w,(underlying key).run P w=.ok (yG.kind κ) w) (Z:∀ w,(zeroValue e).run P w=.ok (MV.mv z) w):
  (Instr.lookup t (.map (some b)) (MV.mv k) ok).run P w=.ok (if ok then .tuple #[MV.mv ((sX l k).getD z),.bool (sX l k).isSome] else MV.mv ((sX l k).getD z)) w:=by
 simp only [Instr.lookup,Se,J,Sb,ye Y,Sk,yG.check P key _ k w I,run_findKey h I];unfold sX;cases O:xO l k 0 with
 | none=>simp only [V3,Se,Z,Sb,Sk]; rfl
 | some p=>simp only [Tq,Sk,Sb]; rfl
theorem CU {t key e:TypeId}{b c:Nat}{y u:Operand}{es:Array MapEntry}{l:List (κ×ν)}{k:κ}{z:ν}{J v:RV} (O:b_.obj b (.map es c) ∈ M) (h:tR es c l)
  (hg:gd ops L ⟨some d,.lookup t y u false,ty,pos,aft,g⟩=some true) (hN:Nat.blt d x.N=true)
  (Z:∀ w,(underlying t).run x.P w=.ok (.map key e) w) (Y:∀ w,(underlying key).run x.P w=.ok (yG.kind κ) w) (hz:∀ w,(zeroValue e).run x.P w=.ok (MV.mv z) w)
  (hy:ev L y=some (.map (some b))) (hu:ev L u=some J) (I:J=MV.mv k) (hv:MV.mv ((sX l k).getD z)=v)
  (kk:W x ops Q rest H M ((d,v)::L)):
  W x ops Q (⟨some d,.lookup t y u false,ty,pos,aft,g⟩::rest) H M L:=
 gL rfl hg hN (λa w hs ht=>by
  subst I; subst hv
  simp only [execOp,hs.ev hy,hs.ev hu,Se,Ih (ok:=false) (ht.xo O) h Z Y hz,Sb,Sk]; rfl) kk
theorem zc (w:World) (b:Nat) (o:Obj):w.grownBy { w with heap:=w.heap.setIfInBounds b o } (some b):=
 ⟨rfl,rfl,rfl,by simp,λk _ I=>by
  simp only [Wd];rw [R8 (λe=>I (by rw [e]))]⟩
theorem y0 {t key e:TypeId}{b c:Nat}{y u q:Operand}{es:Array MapEntry}{l:List (κ×ν)}{k:κ}{v:ν}{vk vv:RV} (h:tR es c l)
  (hg:gd ops L ⟨none,.mapUpdate t y u q,ty,pos,aft,g⟩=some true)
  (hT:∀ w,(underlying t).run x.P w=.ok (.map key e) w) (hK:∀ w,(underlying key).run x.P w=.ok (yG.kind κ) w)
  (hy:ev L y=some (.map (some b))) (hu:ev L u=some vk) (hvk:vk=MV.mv k) (hq:ev L q=some vv) (hvv:vv=MV.mv v)
  (kk:∀ I J,tR I J (wY l k v)->W x ops Q rest H (.obj b (.map I J)::M) L):
  W x ops Q (⟨none,.mapUpdate t y u q,ty,pos,aft,g⟩::rest) H (.obj b (.map es c)::M) L:=
 EX rfl hg (λa w hs ht=>by
  subst hvk; subst hvv
  have hb:=ht.xo (R6 ..);have hlt:b<w.heap.size:=(Tw.1 hb).1;have Z:∀ o,(setObj b o).run x.P w=.ok () { w with heap:=w.heap.setIfInBounds b o }:=λo=>by simp [setObj,Sem.run,hb]
  have fin:∀ I J,tR I J (wY l k v)->∃ H' M',St x.B x.w0 H' M' { w with heap:=w.heap.setIfInBounds b (.map I J) }/\W x ops Q rest H' M' L:=λI J hr=>
   ⟨H,_,ht.EN (r':=.obj b (.map I J)) (zc w b _) (by simp [b_.ok,hlt]) (λ_ hc=>.inl hc),kk I J hr⟩
  have hlen:es.size=l.length:=by have:=SJ List.length h.eq; simpa using this
  cases O:xO l k 0 with
  | none=>
   refine ⟨_,?_,fin (es.push { key:=MV.mv k,val:=MV.mv v,born:=c }) (c+1) ?_⟩
   ·simp only [execOp,hs.ev hy,hs.ev hu,hs.ev hq,Instr.mapUpdate,Se,hT,Sb,ye hb,yG.check x.P key _ k w hK,run_findKey h hK,O,V3,Z,Sk]
   ·refine ⟨?_,?_,λe he=>?_⟩
    ·unfold wY
     rw [O];simp only [Array.toList_push,Tu,U6,Xe];rw [show es.toList.map _=_ from h.eq]
    ·simp only [Array.toList_push,Tu,U6,Xe]
     rw [S1];refine ⟨h.nd,by simp,λa ha b hb e=>?_⟩
     simp at hb; subst hb; subst e
     obtain ⟨y,hy,rfl⟩:=SV.1 ha;exact Nat.lt_irrefl _ (h.lt y hy)
    ·simp only [Array.toList_push,Sf,Sy] at he
     rcases he with he | rfl
     ·exact Nat.lt_succ_of_lt (h.lt e he)
     ·exact Th _
  | some p=>
   obtain ⟨i,u0⟩:=p;obtain ⟨_,hi,Y⟩:=HT O;simp only [Sp,UQ] at hi Y;have hi':i<es.size:=by omega
   have hkey:es[i].key=MV.mv k:=by
    have h1:(es.toList.map λe=>(e.key,e.val))[i]? = some (MV.mv k,MV.mv u0):=by rw [show es.toList.map _=_ from h.eq,SD,Y]; rfl
    rw [SD] at h1;simp [hi'] at h1;exact h1.1
   refine ⟨_,?_,fin (es.modify i λe=>{ e with key:=MV.mv k,val:=MV.mv v }) c ?_⟩
   ·have hg2:((es[i]?).map (·.key)).getD (MV.mv k)=MV.mv k:=by simp [hi',hkey]
    simp only [execOp,hs.ev hy,hs.ev hu,hs.ev hq,Instr.mapUpdate,Se,hT,Sb,ye hb,yG.check x.P key _ k w hK,run_findKey h hK,O,Tq,hg2,Instr.keyThatStays,yG.bits,Wy,Z,Sk]
   ·have hbn:(es.modify i λe=>{ e with key:=MV.mv k,val:=MV.mv v }).toList.map (·.born)=es.toList.map (·.born):=by
     simp only [Array.toList_modify];apply TP;intro j;rw [SD,SD,List.getElem?_modify]
     by_cases e:i=j
     ·subst e; cases es.toList[i]? <;> simp
     ·simp [R8 e]
    refine ⟨?_,by rw [hbn]; exact h.nd,λe he=>?_⟩
    rotate_left
    ·have h1:e.born ∈ es.toList.map (·.born):=by rw [<- hbn]; exact SV.2 ⟨e,he,rfl⟩
     obtain ⟨y,hy,hyb⟩:=SV.1 h1;rw [<- hyb]; exact h.lt y hy
    unfold wY;rw [O];simp only [Array.toList_modify];apply TP;intro j;rw [SD,SD,List.getElem?_modify,Wc];have hj:(es.toList.map λe=>(e.key,e.val))[j]? = (l.map λp=>(MV.mv p.1,MV.mv p.2))[j]? := by rw [show es.toList.map _=_ from h.eq]
    rw [SD,SD] at hj
    by_cases e:i=j
    ·subst e
     simp [hi',hi]
    ·simp only [R8 e]
     simpa using hj)
end
section
variable {x:Cx}{ops:Array Oper}{Q:mj}{rest:List Oper}{H:Hp}{M M':List b_}{L L':Env}
variable {d:Nat}{ty:TypeId}{pos:String}{aft:Array Edge}{g:Option (Nat×Bool)}
theorem yZ {t:TypeId}{y:Operand}{f:Nat}{cs:List RV}{v:RV}{fs:Array Field}{I:Field} (Z:gd ops L ⟨some d,.field t y f,ty,pos,aft,g⟩=some true) (hN:Nat.blt d x.N=true)
  (J:∀ w,(underlying t).run x.P w=.ok (.struct fs) w) (Y:fs[f]? = some I) (hA:∀ w,(isAgg I.type).run x.P w=.ok false w)
  (hy:ev L y=some (.agg cs.toArray)) (hv:cs[I.offset]? = some v) (k:W x ops Q rest H M ((d,v)::L)):
  W x ops Q (⟨some d,.field t y f,ty,pos,aft,g⟩::rest) H M L:=
 gL rfl Z hN (λa w hs ht=>by simp [execOp,hs.ev hy,Instr.field,J,Y,asAgg,part,hA,hv]) k
theorem KP {t e:TypeId}{y z:Operand}{n sz:Nat}{cs:List RV}{v:RV}{kk:IntKind}{i:Int} (Z:gd ops L ⟨some d,.index t y z,ty,pos,aft,g⟩=some true) (hN:Nat.blt d x.N=true)
  (Y:∀ w,(underlying t).run x.P w=.ok (.array n e) w) (hA:∀ w,(isAgg e).run x.P w=.ok false w) (hn:∀ w,(sizeOf e).run x.P w=.ok sz w)
  (hy:ev L y=some (.agg cs.toArray)) (hz:ev L z=some (.int kk i)) (J:0<=i) (h1:i.toNat<n) (hv:cs[i.toNat*sz]? = some v) (k:W x ops Q rest H M ((d,v)::L)):
  W x ops Q (⟨some d,.index t y z,ty,pos,aft,g⟩::rest) H M L:=
 gL rfl Z hN (λa w hs ht=>by
  have I:i<(n:Int):=by omega
  simp [execOp,hs.ev hy,hs.ev hz,Instr.index,asIntOf,Y,J,I,hn,part,hA,hv]) k
theorem kJ {t e u:TypeId}{y z:Operand}{a:Option Addr} (Y:gd ops L ⟨some d,.binOp .eql t y z u,ty,pos,aft,g⟩=some true) (hN:Nat.blt d x.N=true)
  (J:∀ w,(underlying t).run x.P w=.ok (.pointer e) w) (Z:ev L y=some (.pointer a)) (hz:ev L z=some (.pointer none))
  (k:W x ops Q rest H M ((d,.bool a.isNone)::L)):W x ops Q (⟨some d,.binOp .eql t y z u,ty,pos,aft,g⟩::rest) H M L:=
 gL rfl Y hN (λc w hs _=>by
  have key:∀ k,(Op.equalIn (k+1) t (.pointer a) (.pointer none)).run x.P w=.ok a.isNone w:=λk=>by
   unfold Op.equalIn;cases a <;> simp [J]
  have I:(Op.equal t (.pointer a) (.pointer none)).run x.P w=.ok a.isNone w:=key 9999;simp only [execOp,hs.ev Z,hs.ev hz,Se,eqGuard,binOp];simp [I]) k
theorem CT {t u:TypeId}{y z:Operand}{a b:Bool} (Y:gd ops L ⟨some d,.binOp .eql t y z u,ty,pos,aft,g⟩=some true) (hN:Nat.blt d x.N=true)
  (J:∀ w,(underlying t).run x.P w=.ok .bool w) (Z:ev L y=some (.bool a)) (hz:ev L z=some (.bool b))
  (k:W x ops Q rest H M ((d,.bool (decide (a=b)))::L)):W x ops Q (⟨some d,.binOp .eql t y z u,ty,pos,aft,g⟩::rest) H M L:=
 gL rfl Y hN (λc w hs _=>by
  have e:(a == b)=decide (a=b):=by cases a <;> cases b <;> rfl
  have key:∀ k,(Op.equalIn (k+1) t (.bool a) (.bool b)).run x.P w=.ok (decide (a=b)) w:=λk=>by
   unfold Op.equalIn;simp [J,e]
  have I:(Op.equal t (.bool a) (.bool b)).run x.P w=.ok (decide (a=b)) w:=key 9999;simp only [execOp,hs.ev Z,hs.ev hz,Se,eqGuard,binOp];simp [I]) k
theorem F_ {t u:TypeId}{y z:Operand}{a b:Bool} (Y:gd ops L ⟨some d,.binOp .neq t y z u,ty,pos,aft,g⟩=some true) (hN:Nat.blt d x.N=true)
  (J:∀ w,(underlying t).run x.P w=.ok .bool w) (Z:ev L y=some (.bool a)) (hz:ev L z=some (.bool b))
  (k:W x ops Q rest H M ((d,.bool (!decide (a=b)))::L)):W x ops Q (⟨some d,.binOp .neq t y z u,ty,pos,aft,g⟩::rest) H M L:=
 gL rfl Y hN (λc w hs _=>by
  have e:(a == b)=decide (a=b):=by cases a <;> cases b <;> rfl
  have key:∀ k,(Op.equalIn (k+1) t (.bool a) (.bool b)).run x.P w=.ok (decide (a=b)) w:=λk=>by
   unfold Op.equalIn;simp [J,e]
  have I:(Op.equal t (.bool a) (.bool b)).run x.P w=.ok (decide (a=b)) w:=key 9999;simp only [execOp,hs.ev Z,hs.ev hz,Se,eqGuard,binOp];simp [I]) k
end
def HS (acc:List Nat) (o:Oper):Nat:=(kR o).foldl (λm j=>m ||| ((1 <<< j) ||| acc.getD j 0)) 0
def Dw:List Nat->List Oper->List Nat
 | acc,[]=>acc
 | acc,o::r=>Dw (acc++[HS acc o]) r
theorem Du {acc:List Nat}{j:Nat}:∀ (ws:List Nat) (z:Nat),(ws.foldl (λm j=>m ||| ((1 <<< j) ||| acc.getD j 0)) z).testBit j=true ->
  z.testBit j=true\/∃ q ∈ ws,j=q\/(acc.getD q 0).testBit j=true
 | [],z,h=>.inl h
 | q::ws,z,h=>by
  rcases Du ws _ h with h | ⟨r,J,h⟩
  ·rw [Nat.testBit_or,Nat.testBit_or,TI,TI] at h
   rcases h with h | h | h
   ·exact .inl h
   ·refine .inr ⟨q,R6 ..,.inl ?_⟩
    rw [Nat.shiftLeft_eq,Wx,Nat.testBit_two_pow] at h;simpa using (R7 h).symm
   ·exact .inr ⟨q,R6 ..,.inr h⟩
  ·exact .inr ⟨r,Sa _ J,h⟩
theorem zo {l:List Oper}{listed:Nat->Prop} (dc:∀ i o,l[i]? = some o->listed i->∀ j ∈ kR o,listed j):
  ∀ (r:List Oper) (acc:List Nat),(∀ i o,r[i]? = some o->l[acc.length+i]? = some o) ->
   (∀ i,i<acc.length->∀ o,l[i]? = some o->(∀ q ∈ kR o,listed q)->∀ j,(acc.getD i 0).testBit j=true->listed j) ->
   ∀ i,i<acc.length+r.length->∀ o,l[i]? = some o->(∀ q ∈ kR o,listed q)->∀ j,((Dw acc r).getD i 0).testBit j=true->listed j
 | [],acc,_,h,i,hi,o,ho,hw,j,hj=>h i (by simpa using hi) o ho hw j hj
 | p::r,acc,hr,h,i,hi,o,ho,hw,j,hj=>by
  refine zo dc r (acc++[HS acc p]) (λk q hk=>?_) ?_ i (by simp at hi ⊢; omega) o ho hw j hj
  ·have:=hr (k+1) q (by simpa using hk)
   rw [Sg,S4]
   rwa [show acc.length+1+k=acc.length+(k+1) by omega]
  ·intro k hk q hq Z b hb
   by_cases hkl:k<acc.length
   ·refine h k hkl q hq Z b ?_
    rw [SG,S9 hkl] at hb;rw [SG]; exact hb
   ·have hke:k=acc.length:=by simp at hk; omega
    subst hke;have hp:p=q:=by
     have:=hr 0 p rfl;rw [Tt,hq] at this;exact (RX this).symm
    subst hp;rw [SG,SB (Sj _),Tk] at hb;simp only [List.getElem?_cons_zero,Ug] at hb;unfold HS at hb;rcases Du _ _ hb with h0 | ⟨q,hqm,rfl | Y⟩
    ·simp at h0
    ·exact Z b hqm
    ·by_cases hql:q<acc.length
     ·have hlq:=Z q hqm
      cases J:l[q]? with
      | none=>
       have:acc.length<l.length:=(R3.1 hq).1;have:=List.getElem?_eq_none_iff.1 J;omega
      | some oq=>exact h q hql oq J (dc q oq J hlq) b Y
     ·rw [SG,S3 (by omega)] at Y
      simp at Y
def wM (l:List Oper) (m:Nat):Bool:=
 l.zipIdx.all (λp=>(kR p.1).all λj=>Nat.blt j p.2) &&
 l.zipIdx.all λp=>Nat.blt p.2 m || (List.range p.2).all λj=>((Dw [] l).getD p.2 0).testBit j
theorem sL {l:List Oper}{m:Nat} (J:wM l m=true) {i:Nat}{o:Oper} (Y:l[i]? = some o):∀ j ∈ kR o,j<i:=by
 unfold wM at J;rw [TL,Tg] at J;have:=J.1 (o,i) (by rw [List.mem_zipIdx_iff_getElem?]; simpa using Y)
 simpa only [Tg,S_] using this
theorem DJ {l:List Oper}{m:Nat} (J:wM l m=true) {listed:Nat->Prop} (dc:∀ i o,l[i]? = some o->listed i->∀ j ∈ kR o,listed j)
  {i:Nat}{o:Oper} (Z:l[i]? = some o) (O:m<=i) (hw:∀ q ∈ kR o,listed q):∀ j,j<i->listed j:=by
 unfold wM at J;rw [TL,Tg,Tg] at J;have h2:=J.2 (o,i) (by rw [List.mem_zipIdx_iff_getElem?]; simpa using Z)
 simp only [TI,S_,Tg,S0] at h2;have hi:i<l.length:=(R3.1 Z).1;intro j hj;rcases h2 with h2 | h2
 ·omega
 ·exact zo dc l [] (λk q Y=>by simpa using Y) (λk Y=>by simp at Y) i (by simpa using hi) o Z hw j (h2 j hj)
def vd:List Nat->(Nat->List b_)->List b_->List b_
 | [],_,M=>M
 | c::cs,R,M=>R c++vd cs R M
theorem Be (cs:List Nat) (R:Nat->List b_) (M:List b_):vd cs R M=cs.flatMap R++M:=by
 induction cs with
 | nil=>rfl
 | cons c cs ih=>rw [vd,ih,Tn,Sr]
def DX (R:Nat->List b_) (i:Nat) (rs:List b_):Nat->List b_:=λk=>bif Nat.beq k i then rs else R k
theorem BN (R:Nat->List b_) (i:Nat) (rs:List b_):DX R i rs i=rs:=by simp [DX]
theorem CC (R:Nat->List b_) (i k:Nat) (rs:List b_) (h:k≠i):DX R i rs k=R k:=by
 unfold DX;cases J:Nat.beq k i with
 | false=>rfl
 | true=>exact absurd (Uz J) h
abbrev OF:=Nat->Hp->List b_->RV->Prop
def NI:Option Nat->RV->Env->Env
 | some t,v,L=>(t,v)::L
 | none,_,L=>L
def IX (l:List Oper) (j:Nat):Option Nat:=match l[j]? with
 | none=>none
 | some o=>match o.dst with
  | some _=>none
  | none=>match o.op with
   | .store _ (.tmp s) _=>bif (kR o).any (λw=>match (l[w]?).bind (·.dst) with
    | some u=>Nat.beq u s
    | none=>false) then some s else none
   | _=>none
theorem O3 {l:List Oper}{j s:Nat} (h:IX l j=some s):∃ o,l[j]? = some o/\o.dst=none/\∃ w ∈ kR o,(l[w]?).bind (·.dst)=some s:=by
 unfold IX at h
 split at h
 ·cases h
 ·rename_i o ho
  split at h
  ·cases h
  ·rename_i hd
   split at h
   ·rename_i T s' z hop
    cases J:(kR o).any (λw=>match (l[w]?).bind (·.dst) with
     | some u=>Nat.beq u s'
     | none=>false) with
    | false=>rw [J] at h; cases h
    | true=>
     rw [J] at h;cases h;rw [List.any_eq_true] at J;obtain ⟨w,Y,J⟩:=J;refine ⟨o,ho,hd,w,Y,?_⟩
     split at J
     ·rename_i u hu
      rw [hu,Uz J]
     ·cases J
   ·cases h
def xP (l:List Oper) (Φ:OF) (H:Hp):List Nat->Env->(Nat->List b_)->(Env->(Nat->List b_)->Prop)->Prop
 | [],L,R,k=>k L R
 | j::J,L,R,k=>match (l[j]?).bind (·.dst) with
  | some t=>∀ v rs,Φ j H rs v->xP l Φ H J ((t,v)::L) (DX R j rs) k
  | none=>match IX l j with
   | none=>∀ rs,Φ j H rs undef->xP l Φ H J L (DX R j rs) k
   | some s=>∀ v rs,(∀ u,lk L s=some u->v=u)->Φ j H rs v->xP l Φ H J L (DX R j rs) k
def QW (L:Env) (v:RV):Option Nat->Option Nat->Prop
 | some _,_=>True
 | none,none=>v=undef
 | none,some s=>lk L s=some v
def ES (x:Cx) (H:Hp) (M:List b_) (L:Env) (t J:Option Nat) (Y:Hp->List b_->RV->Prop):mj:=λe a w=>
 e=.normal/\∃ v H' rs,Sl x.N (NI t v L) a/\QW L v t J/\H.le H'/\St x.B x.w0 H' (rs++M) w/\Y H' rs v
theorem fQ {x:Cx}{H H':Hp}{M:List b_}{L:Env}{t:Nat}{Z:Option Nat}{v:RV}{Y:Hp->List b_->RV->Prop} (rs:List b_) (J:H.le H') (h:Y H' rs v):E x .normal (ES x H M L (some t) Z Y) H' (rs++M) ((t,v)::L):=
 λ_ _ hs ht=>⟨rfl,v,H',rs,hs,RW,J,ht,h⟩
theorem Ef {x:Cx}{H H':Hp}{M:List b_}{L:Env}{Y:Hp->List b_->RV->Prop} (rs:List b_) (J:H.le H') (h:Y H' rs undef):E x .normal (ES x H M L none none Y) H' (rs++M) L:=
 λ_ _ hs ht=>⟨rfl,undef,H',rs,hs,rfl,J,ht,h⟩
theorem nb {x:Cx}{H H':Hp}{M:List b_}{L:Env}{s:Nat}{v:RV}{Y:Hp->List b_->RV->Prop} (hl:lk L s=some v) (rs:List b_) (J:H.le H') (h:Y H' rs v):E x .normal (ES x H M L none (some s) Y) H' (rs++M) L:=
 λ_ _ hs ht=>⟨rfl,v,H',rs,hs,hl,J,ht,h⟩
def FX (m:Nat) (I:List (List b_)):Nat->List b_:=λk=>if k<m then [] else I.getD (k-m) []
def yX (x:Cx) (l:List Oper) (Φ:OF) (C U:List (List Nat)) (Es:List Env) (J:Nat->List b_) (H:Hp) (M:List b_) (L:Env):Nat->List Oper->Prop
 | _,[]=>True
 | i,o::r=>(∀ H',H.le H'->∀ X Rest,(∀ s ∈ M,s ∈ Rest)->xP l Φ H' (kR o) (Es.getD i []++(L++X)) J (λL' R=>(∀ s ∈ vd (U.getD i []) R [],s ∈ Rest)->(∃ Y,(vd (U.getD i []) R Y).Perm Rest)->W x l.toArray (ES x H' Rest L' o.dst (IX l i) (Φ i)) [o] H' (vd (C.getD i []) R Rest) L')) /\
   yX x l Φ C U Es J H M L (i+1) r
theorem yX.at {x:Cx}{l:List Oper}{Φ:OF}{C U:List (List Nat)}{Es:List Env}{J:Nat->List b_}{H:Hp}{M:List b_}{L:Env}:∀ {r:List Oper}{i:Nat},yX x l Φ C U Es J H M L i r->∀ j o,r[j]? = some o ->
  ∀ H',H.le H'->∀ X Rest,(∀ s ∈ M,s ∈ Rest)->xP l Φ H' (kR o) (Es.getD (i+j) []++(L++X)) J (λL' R=>(∀ s ∈ vd (U.getD (i+j) []) R [],s ∈ Rest)->(∃ Y,(vd (U.getD (i+j) []) R Y).Perm Rest)->W x l.toArray (ES x H' Rest L' o.dst (IX l (i+j)) (Φ (i+j))) [o] H' (vd (C.getD (i+j) []) R Rest) L')
 | [],_,_,j,o,h=>by simp at h
 | p::r,i,hh,0,o,h=>by simp at h; subst h; exact hh.1
 | p::r,i,hh,j+1,o,h=>by
  have:=yX.at hh.2 j o (by simpa using h)
  rwa [show i+1+j=i+(j+1) from by omega] at this
def uT (a:Act) (v:RV):Option Nat->Option Nat->Prop
 | some t,_=>a.tmps[t]? = some v
 | none,none=>v=undef
 | none,some s=>a.tmps[s]? = some v
theorem xP.use {l:List Oper}{Φ:OF}{H:Hp}{a:Act}{N:Nat}{Rt:Nat->List b_}:∀ {js:List Nat}{L:Env}{R:Nat->List b_}{k:Env->(Nat->List b_)->Prop},xP l Φ H js L R k->Sl N L a ->
  (∀ j ∈ js,∃ v,uT a v ((l[j]?).bind (·.dst)) (IX l j)/\Φ j H (Rt j) v) ->
  ∃ Y R',k (Y++L) R'/\Sl N (Y++L) a/\(∀ t v,(t,v) ∈ Y->a.tmps[t]? = some v)/\(∀ q,q ∈ js->R' q=Rt q)/\∀ q,q ∉ js->R' q=R q
 | [],L,R,k,h,hs,_=>⟨[],R,h,hs,by simp,by simp,λq _=>rfl⟩
 | j::js,L,R,k,h,hs,hv=>by
  obtain ⟨v,h1,h2⟩:=hv j (R6 ..);have J:∀ {R':Nat->List b_},(∀ q,q ∈ js->R' q=Rt q)->(∀ q,q ∉ js->R' q=DX R j (Rt j) q)->(∀ q,q ∈ j::js->R' q=Rt q)/\∀ q,q ∉ j::js->R' q=R q:=by
   intro R' h6 Z;constructor
   ·intro q hq
    by_cases hqj:q ∈ js
    ·exact h6 q hqj
    ·rcases SQ.1 hq with rfl | hq
     ·rw [Z _ hqj,BN]
     ·exact absurd hq hqj
   ·intro q hq
    rw [Z q (λh=>hq (Sa _ h)),CC _ _ _ _ (λe=>hq (by rw [e]; exact R6 ..))]
  unfold xP at h;cases ht:(l[j]?).bind (·.dst) with
  | none=>
   rw [ht] at h h1;cases hk:IX l j with
   | none=>
    rw [hk] at h h1;simp only [uT] at h1;subst h1;obtain ⟨Y,R',h3,h4,h5,h6,Z⟩:=xP.use (h (Rt j) h2) hs (λi hi=>hv i (Sa _ hi));exact ⟨Y,R',h3,h4,h5,(J h6 Z).1,(J h6 Z).2⟩
   | some s=>
    rw [hk] at h h1;simp only [uT] at h1;obtain ⟨Y,R',h3,h4,h5,h6,Z⟩:=xP.use (h v (Rt j) (λu hu=>by have:=hs.get s u hu; rw [h1] at this; exact RX this) h2) hs (λi hi=>hv i (Sa _ hi))
    exact ⟨Y,R',h3,h4,h5,(J h6 Z).1,(J h6 Z).2⟩
  | some t=>
   rw [ht] at h h1;simp only [uT] at h1;obtain ⟨Y,R',h3,h4,h5,h6,Z⟩:=xP.use (h v (Rt j) h2) (hs.cons h1) (λi hi=>hv i (Sa _ hi));refine ⟨Y++[(t,v)],R',by simpa using h3,by simpa using h4,?_,(J h6 Z).1,(J h6 Z).2⟩
   intro u w O;rcases Sf.1 O with O | O
   ·exact h5 u w O
   ·simp at O; obtain ⟨rfl,rfl⟩:=O; exact h1
def Fh (l:List Oper) (m:Nat) (Es:List Env):Bool:=
 (List.range m).all λi=>((Es.getD i []).map (·.1)).all λt=>(List.range m).all λw=>match (l[w]?).bind (·.dst) with
  | some u=>!Nat.beq u t || ((Dw [] l).getD w 0).testBit i
  | none=>true
def Ao (l:List Oper) (m:Nat) (L:Env):Bool:=
 (l.take m).all (λo=>match o.dst with
  | some t=>(lk L t).isNone
  | none=>true)
def Ap (l:List Oper) (m:Nat):Bool:=decide (((l.take m).filterMap (·.dst)).Nodup)
def Ip (l:List Oper) (m K:Nat) (C U:List (List Nat)) (live:List Nat):Bool:=
 ((List.range m).all λi=>(U.getD i []).all λu=>(Nat.ble m u || match l[i]? with
  | some o=>(kR o).contains u
  | none=>false) && Nat.blt u K && (List.range m).all λi'=>!(C.getD i' []).contains u || ((Dw [] l).getD i' 0).testBit i) &&
 Nat.beq C.length m && (List.range m).all (λi=>(C.getD i []).all λc=>Nat.ble m c || match l[i]? with
  | some o=>(kR o).contains c
  | none=>false) &&
 (C.flatten++live).all (λc=>Nat.blt c K) && ((List.range K).all λk=>Nat.beq ((C.flatten++live).count k) 1) && (List.range m).all λi=>decide ((U.getD i []).Nodup)
section
variable {x:Cx}{l:List Oper}{m K:Nat}{Φ:OF}{C U:List (List Nat)}{live:List Nat}{I:List (List b_)}{Es:List Env}{H:Hp}{M:List b_}{L L0:Env}{Q:mj}
structure BQ (l:List Oper) (m K:Nat) (C U:List (List Nat)) (live:List Nat):Prop where
 len:C.length=m
 wait:∀ i o,i<m->l[i]? = some o->∀ c ∈ C.getD i [],m<=c\/c ∈ kR o
 lt:∀ c ∈ C.flatten++live,c<K
 nd:(C.flatten++live).Nodup
 all:∀ k,k<K->k ∈ C.flatten++live
 Qc:∀ i o,i<m->l[i]? = some o->∀ u ∈ U.getD i [],(m<=u\/u ∈ kR o)/\u<K
 Qb:∀ i,i<m->∀ u ∈ U.getD i [],∀ i',i'<m->u ∈ C.getD i' []->((Dw [] l).getD i' 0).testBit i=true
 Q4:∀ i,i<m->(U.getD i []).Nodup
theorem NW (h:Ip l m K C U live=true):BQ l m K C U live:=by
 unfold Ip at h;simp only [TL] at h;obtain ⟨⟨⟨⟨⟨h0,h1⟩,h2⟩,h3⟩,h4⟩,J⟩:=h;rw [Tg] at h0 h2 h3 h4 J;have hU:∀ i,i<m->∀ u ∈ U.getD i [],((Nat.ble m u || match l[i]? with
  | some o=>(kR o).contains u
  | none=>false)=true/\u<K)/\∀ i',i'<m->u ∈ C.getD i' []->((Dw [] l).getD i' 0).testBit i=true:=by
  intro i hi u hu;have:=h0 i (S0.2 hi);rw [Tg] at this;have:=this u hu;rw [TL,TL,Tg] at this;refine ⟨⟨this.1.1,by simpa [S_] using this.1.2⟩,λi' hi' Y=>?_⟩
  have J:=this.2 i' (S0.2 hi');rw [TI] at J;rcases J with J | J
  ·have h6:(C.getD i' []).contains u=true:=by rw [We]; exact Y
   rw [h6] at J; cases J
  ·exact J
 have Y:∀ k,k<K->(C.flatten++live).count k=1:=λk hk=>Uz (h4 k (S0.2 hk));have Z:∀ c ∈ C.flatten++live,c<K:=λc Y=>by simpa [S_] using h3 c Y
 refine ⟨Uz h1,?_,Z,?_,?_,?_,λi hi u hu=>(hU i hi u hu).2,λi hi=>R7 (J i (S0.2 hi))⟩
 ·intro i o hi ho c Y
  have:=h2 i (S0.2 hi);rw [Tg] at this;have:=this c Y;rw [ho] at this;simpa [TI,US,We] using this
 ·rw [List.nodup_iff_count]
  intro a
  by_cases ha:a<K
  ·rw [Y a ha]; exact Sj _
  ·rw [List.count_eq_zero.2 (λO=>ha (Z a O))]; omega
 ·intro k hk
  rw [<- List.count_pos_iff,Y k hk]; omega
 ·intro i o hi ho u hu
  have:=(hU i hi u hu).1;rw [ho] at this;refine ⟨?_,this.2⟩;have J:=this.1;rw [TI] at J;rcases J with J | J
  ·exact .inl (by simpa [US] using J)
  ·exact .inr (by simpa [We] using J)
theorem BQ.uniq (h:BQ l m K C U live) {i i' k:Nat} (hi:k ∈ C.getD i []) (J:k ∈ C.getD i' []):i=i':=by
 have Y:=(S1.1 h.nd).1;unfold List.Nodup at Y;rw [List.pairwise_flatten] at Y;have Z:=Vp.1 Y.2;have g1:i<C.length:=by
  by_cases e:i<C.length
  ·exact e
  ·rw [SG,S3 (by omega)] at hi; simp at hi
 have g2:i'<C.length:=by
  by_cases e:i'<C.length
  ·exact e
  ·rw [SG,S3 (by omega)] at J; simp at J
 rw [SG,RY g1] at hi;rw [SG,RY g2] at J;simp only [Ug] at hi J;rcases Vm i i' with q | q | q
 ·exact absurd rfl (Z i i' g1 g2 q _ hi _ J)
 ·exact q
 ·exact absurd rfl (Z i' i g2 g1 q _ J _ hi)
theorem BQ.mem (h:BQ l m K C U live) {i k:Nat} (hi:k ∈ C.getD i []):k ∈ C.flatten:=by
 have J:i<C.length:=by
  by_cases e:i<C.length
  ·exact e
  ·rw [SG,S3 (by omega)] at hi; simp at hi
 rw [SG,RY J] at hi;exact List.mem_flatten.2 ⟨_,Sz J,hi⟩
theorem BQ.Rz (h:BQ l m K C U live) (i:Nat):(C.getD i []).Nodup:=by
 have J:=(S1.1 h.nd).1;unfold List.Nodup at J;rw [List.pairwise_flatten] at J
 by_cases e:i<C.length
 ·rw [SG,RY e]; exact J.1 _ (Sz e)
 ·rw [SG,S3 (by omega)]; simp
def alive (m:Nat) (C:List (List Nat)) (listed:Array Bool) (k:Nat):Bool:=(Nat.ble m k || listed.getD k false) && !(List.range m).any λi=>listed.getD i false && (C.getD i []).contains k
theorem tL {listed:Array Bool}{k:Nat}:alive m C listed k=true↔(m<=k\/listed.getD k false=true)/\∀ i,i<m->listed.getD i false=true->k ∉ C.getD i []:=by
 unfold alive;simp only [TL,TI,US,Bool.not_eq_true',List.any_eq_false,S0,We];constructor
 ·rintro ⟨h1,h2⟩; exact ⟨h1,λi hi hl O=>h2 i hi ⟨hl,O⟩⟩
 ·rintro ⟨h1,h2⟩; exact ⟨h1,λi hi ⟨hl,O⟩=>h2 i hi hl O⟩
theorem G6 (hB:wM l m=true):∀ (f i:Nat) (listed:Array Bool) (a:Act) (w:World),m<=i->listed.size=l.length->i<=l.length->l.length<=i+f ->
  (∀ j,j<l.length->listed.getD j true=decide (j<i))->wpList x.P l.toArray Q (l.drop i) a w->wpAny x.P .any l.toArray Q f listed a w
 | 0,i,listed,a,w,O,hsz,hf0,hf,hl,h=>by
  have hi:i=l.length:=by omega
  refine ⟨?_,by rw [hi,Vc] at h; exact h⟩
  rw [List.eq_nil_iff_forall_not_mem];intro j J;obtain ⟨h1,h2,_⟩:=mem_ready.1 J;rw [hl j (by simpa using h1)] at h2
  simp at h1 h2; omega
 | f+1,i,listed,a,w,O,hsz,hf0,hf,hl,h=>by
  by_cases e2:i=l.length
  ·have Y:Region.ready .any l.toArray listed=[]:=by
    rw [List.eq_nil_iff_forall_not_mem];intro j J;obtain ⟨q1,q2,_⟩:=mem_ready.1 J;rw [hl j (by simpa using q1)] at q2
    simp at q1 q2; omega
   exact ⟨λ_=>by rw [e2,Vc] at h; exact h,λj J=>by rw [Y] at J; cases J⟩
  ·have hi:i<l.length:=by omega
   have ho:l[i]? = some l[i]:=RY hi;have Z:∀ j,j<l.length->listed.getD j false=decide (j<i):=λj J=>by
    have:=hl j J;simp only [SS] at this ⊢;rw [U1 (by omega)] at this ⊢
    simpa using this
   have hmem:i ∈ Region.ready .any l.toArray listed:=by
    refine mem_ready.2 ⟨by simpa using hi,by rw [hl i hi]; simp,l[i],by simp,λj J=>?_⟩
    have hj':=sL hB ho j J;rw [Z j (by omega)]; simpa using hj'
   have huniq:∀ j ∈ Region.ready .any l.toArray listed,j=i:=by
    intro j J;obtain ⟨q1,q2,o,ho',hw⟩:=mem_ready.1 J;have q1':j<l.length:=by simpa using q1
    rw [hl j q1'] at q2;have hji:i<=j:=by simpa using q2
    by_cases e:j=i
    ·exact e
    ·exfalso
     have:=DJ hB (listed:=λq=>q<i) (λk o hk hki q hq=>by have:=sL hB hk q hq; omega) (i:=j) (o:=o) (by simpa using ho') (by omega)
      (λq hq=>by
       have h1:=hw q hq;have h2:=sL hB (i:=j) (o:=o) (by simpa using ho') q hq
       rw [Z q (by omega)] at h1
       simpa using h1) i (by omega)
     omega
   refine ⟨λhe=>(by rw [he] at hmem; cases hmem),λj J=>?_⟩
   obtain rfl:=huniq j J;unfold wpOp;rw [show l.toArray[j]? = some l[j] from by simp]
   rw [SF hi] at h;have step:∀ a w,wpList x.P l.toArray Q (l.drop (j+1)) a w->wpAny x.P .any l.toArray Q f (listed.setIfInBounds j true) a w:=λa w hh=>
    G6 hB f (j+1) _ a w (by omega) (by simpa using hsz) (by omega) (by omega) (λk hk=>by
     rw [wh _ _ _ _ (by omega),hl k hk]
     by_cases e:k=j
     ·subst e; simp
     ·simp [e]; omega) hh
   unfold wpList at h
   dsimp only
   split
   ·rename_i hw; rw [R9 hw] at h; exact h.imp (Oper.wp_mono step) id
   ·rename_i hw; rw [R8 hw] at h; exact step _ _ h
theorem A7 {A B:List Nat} (J:A.Nodup) (Y:B.Nodup) (h:∀ a,a ∈ A↔a ∈ B) (R:Nat->List b_) (M:List b_):(A.flatMap R++M).Perm (B.flatMap R++M):=
 (((List.perm_ext_iff_of_nodup J Y).2 h).flatMap_right R).append_right M
theorem vM {A:List Nat}{R R':Nat->List b_} (h:∀ a ∈ A,R a=R' a):A.flatMap R=A.flatMap R':=by
 induction A with
 | nil=>rfl
 | cons a A ih=>rw [Tn,Tn,h a (R6 ..),ih λb J=>h b (Sa _ J)]
theorem NF (hB:wM l m=true) (hml:m<=l.length) (hD:Ao l m L0=true) (hX0:Fh l m Es=true) (hL0:∀ t v,lk L0 t=some v->lk L t=some v) (hE:∀ i t v,lk (Es.getD i []) t=some v->lk L t=some v) (hNd:Ap l m=true) (hT:BQ l m K C U live) (hmK:m<=K)
  (hmono:∀ i H1 H2 rs v,H1.le H2->Φ i H1 rs v->Φ i H2 rs v)
  (hop:yX x l Φ C U Es (FX m I) H M L0 0 (l.take m))
  (k:∀ H',H.le H'->xP l Φ H' (List.range m) L0 (FX m I) (λL' R=>W x l.toArray Q (l.drop m) H' (vd live R M) L')):
  ∀ (J:Nat) (listed:Array Bool) (a:Act) (w:World) (H':Hp) (R:Nat->List b_),listed.size=l.length->left l listed<=J->(∀ j,m<=j->j<l.length->listed.getD j true=false) ->
   (∀ i o,l[i]? = some o->listed.getD i false=true->∀ j ∈ kR o,listed.getD j false=true) ->
   H.le H'->St x.B x.w0 H' (((List.range K).filter (alive m C listed)).flatMap R++M) w->Sl x.N [] a->(∀ t v,lk L t=some v->(∀ w o,w<m->l[w]? = some o->o.dst=some t->listed.getD w false=false)->a.tmps[t]? = some v)->(∀ q,m<=q->R q=FX m I q) ->
   (∀ i o,i<m->l[i]? = some o->listed.getD i true=true->∃ v,uT a v o.dst (IX l i)/\Φ i H' (R i) v) ->
   wpAny x.P .any l.toArray Q J listed a w:=by
 have hdst:∀ i o t,i<m->l[i]? = some o->o.dst=some t->lk L0 t=none:=by
  intro i o t him ho hd;have htake:(l.take m)[i]? = some o:=by rw [SU,R9 him]; exact ho
  unfold Ao at hD;rw [Tg] at hD;have:=hD o (Sd htake);rw [hd] at this; simpa using this
 have fin:∀ (J:Nat) (listed:Array Bool) (a:Act) (w:World) (H':Hp) (R:Nat->List b_),listed.size=l.length->left l listed<=J->(∀ j,m<=j->j<l.length->listed.getD j true=false) ->
   H.le H'->St x.B x.w0 H' (((List.range K).filter (alive m C listed)).flatMap R++M) w->Sl x.N [] a->(∀ t v,lk L t=some v->(∀ w o,w<m->l[w]? = some o->o.dst=some t->listed.getD w false=false)->a.tmps[t]? = some v)->(∀ q,m<=q->R q=FX m I q) ->
   (∀ i o,i<m->l[i]? = some o->listed.getD i true=true->∃ v,uT a v o.dst (IX l i)/\Φ i H' (R i) v) ->
   (∀ j,j<m->listed.getD j true=true)->wpAny x.P .any l.toArray Q J listed a w:=by
  intro J listed a w H' R hsz hf htl hle ht hs0 hsl vZ hv hall;have hs:Sl x.N L0 a:=⟨hs0.size,hs0.Gq,λt v h=>hsl t v (hL0 t v h) (λw o hw ho hd=>by rw [hdst w o t hw ho hd] at h; cases h)⟩
  have hget:∀ j,j<l.length->listed.getD j false=listed.getD j true:=λj hj=>by
   simp only [SS];rw [U1 (by omega)]; rfl
  obtain ⟨Y,R',h1,h2,_,h3,h4⟩:=xP.use (Rt:=R) (k H' hle) hs (λj hj=>by
   have hj':=S0.1 hj;have ho:l[j]? = some l[j]:=RY (by omega)
   rw [ho];exact hv j _ hj' ho (hall j hj'))
  have hR:∀ q,R' q=R q:=λq=>by
   by_cases hq:q<m
   ·exact h3 q (S0.2 hq)
   ·rw [h4 q (λh=>hq (S0.1 h)),vZ q (by omega)]
  have hwl:wpList x.P l.toArray Q (l.drop m) a w:=by
   refine h1 a w h2 (ht.perm ?_);rw [Be,vM (R:=R') (R':=R) (λq _=>hR q)];refine A7 (List.nodup_range.filter _) (S1.1 hT.nd).2.1 ?_ R M;intro q;rw [Tc,S0,tL];constructor
   ·rintro ⟨h5,h6,h7⟩
    rcases Sf.1 (hT.all q h5) with h8 | h8
    ·exfalso
     obtain ⟨c,hc,hqc⟩:=List.mem_flatten.1 h8;obtain ⟨i,hi,rfl⟩:=Ti.1 hc;have him:i<m:=by rw [<- hT.len]; exact hi
     refine h7 i him (by rw [hget i (by omega)]; exact hall i him) ?_
     rw [SG,RY hi]; exact hqc
    ·exact h8
   ·intro hq
    refine ⟨hT.lt q (S8 _ hq),?_,?_⟩
    ·by_cases e:m<=q
     ·exact .inl e
     ·exact .inr (by rw [hget q (by omega)]; exact hall q (by omega))
    ·intro i him _ hc
     exact (S1.1 hT.nd).2.2 q (hT.mem hc) q hq rfl
  have hl:∀ j,j<l.length->listed.getD j true=decide (j<m):=by
   intro j hj
   by_cases e:j<m
   ·rw [hall j e]; simp [e]
   ·rw [htl j (by omega) hj]; simp [e]
  have hcount:l.length<=m+J:=by
   have:l.length-m<=left l listed:=by
    unfold left;have h1:(List.range l.length).countP (λi=>!listed.getD i true)=(List.range l.length).countP (λi=>decide (m<=i)):=by
     refine List.countP_congr λj hj=>?_;rw [hl j (S0.1 hj)];simp
    rw [h1];have h2:∀ n,(List.range n).countP (λi=>decide (m<=i))=n-m:=by
     intro n
     induction n with
     | zero=>simp
     | succ n ihn=>
      rw [V1,List.countP_append,ihn];simp only [List.countP_cons,List.countP_nil]
      by_cases e:m<=n
      ·simp [e]; omega
      ·simp [e]; omega
    rw [h2]; exact Sj _
   omega
  exact G6 hB J m listed a w (Sj _) hsz hml hcount hl hwl
 intro J
 induction J with
 | zero=>
  intro listed a w H' R hsz hf htl hdc hle ht hs0 hsl vZ hv;refine fin 0 listed a w H' R hsz hf htl hle ht hs0 hsl vZ hv (λj hj=>?_);have:left l listed=0:=by omega
  unfold left at this;rw [List.countP_eq_zero] at this;have:=this j (S0.2 (by omega))
  simpa using this
 | succ J ih=>
  intro listed a w H' R hsz hf htl hdc hle ht hs0 hsl vZ hv
  by_cases hall:∀ j,j<m->listed.getD j true=true
  ·exact fin (J+1) listed a w H' R hsz hf htl hle ht hs0 hsl vZ hv hall
  ·have hs:Sl x.N L0 a:=⟨hs0.size,hs0.Gq,λt v h=>hsl t v (hL0 t v h) (λw o hw ho hd=>by rw [hdst w o t hw ho hd] at h; cases h)⟩
   have hget:∀ j,j<l.length->listed.getD j false=listed.getD j true:=λj hj=>by
    simp only [SS];rw [U1 (by omega)]; rfl
   have hex:∃ j,j<m/\listed.getD j true=false:=by
    refine Classical.byContradiction λhno=>hall λj hj=>?_;cases hb:listed.getD j true with
    | true=>rfl
    | false=>exact absurd ⟨j,hj,hb⟩ hno
   obtain ⟨j0,⟨hj0,hf0⟩,hleast⟩:=least (p:=λj=>j<m/\listed.getD j true=false) hex.choose hex.choose_spec;have hne:Region.ready .any l.toArray listed≠[]:=by
    intro he;have hlt:j0<l.length:=by omega
    have ho:l[j0]? = some l[j0]:=RY hlt;have:j0 ∈ Region.ready .any l.toArray listed:=by
     refine mem_ready.2 ⟨by simpa using hlt,hf0,l[j0],by simp,λj hj=>?_⟩
     have hj':=sL hB ho j hj;rw [hget j (by omega)]
     cases hb:listed.getD j true with
     | true=>rfl
     | false=>have:=hleast j ⟨by omega,hb⟩; omega
    rw [he] at this; cases this
   refine ⟨λhe=>absurd he hne,λi hi=>?_⟩;obtain ⟨h1,h2,o,ho',hw⟩:=mem_ready.1 hi;have h1':i<l.length:=by simpa using h1
   have ho:l[i]? = some o:=by simpa using ho'
   have him:i<m:=by
    by_cases e:i<m
    ·exact e
    ·exfalso
     have:=DJ hB (listed:=λq=>listed.getD q false=true) (λk o hk hki q hq=>hdc k o hk hki q hq) ho (by omega) hw j0 (by omega)
     rw [hget j0 (by omega),hf0] at this; cases this
   have htake:(l.take m)[i]? = some o:=by rw [SU,R9 him]; exact ho
   have hnl:listed.getD i false=false:=by rw [hget i h1']; exact h2
   have hCal:∀ c ∈ C.getD i [],c ∈ (List.range K).filter (alive m C listed):=by
    intro c hc;rw [Tc,S0,tL];refine ⟨hT.lt c (R2 _ (hT.mem hc)),?_,?_⟩
    ·rcases hT.wait i o him ho c hc with h | h
     ·exact .inl h
     ·exact .inr (hw c h)
    ·intro i' hi' hl' hc'
     have:=hT.uniq hc hc';subst this;rw [hnl] at hl'; cases hl'
   let A:=(List.range K).filter (alive m C listed)
   let Bs:=A.filter (λc=>!(C.getD i []).contains c)
   have hAnd:A.Nodup:=List.nodup_range.filter _;have hBnd:Bs.Nodup:=hAnd.filter _;have hperm:(A.flatMap R++M).Perm ((C.getD i []++Bs).flatMap R++M):=by
    refine A7 hAnd ?_ ?_ R M
    ·refine S1.2 ⟨hT.Rz i,hBnd,?_⟩
     rintro a ha b hb rfl;have:=(Tc.1 hb).2;simp at this;exact this (by simpa [SG] using ha)
    ·intro q
     rw [Sf];constructor
     ·intro hq
      by_cases hqc:q ∈ C.getD i []
      ·exact .inl hqc
      ·exact .inr (Tc.2 ⟨hq,by simpa using hqc⟩)
     ·rintro (hq | hq)
      ·exact hCal q hq
      ·exact (Tc.1 hq).1
   have ht1:=ht.perm hperm;rw [VU,Sr] at ht1
   let Rest:=Bs.flatMap R++M
   let X1:Env:=(List.range m).filterMap λj=>if listed.getD j true then (l[j]?).bind λo=>o.dst.map λu=>(u,a.tmps.getD u undef) else none
   let X2:Env:=(L.map (·.1)).filterMap λt=>if (List.range m).all (λw=>match (l[w]?).bind (·.dst) with
    | some u=>!Nat.beq u t || !listed.getD w false
    | none=>true) then (lk L t).map λv=>(t,v) else none
   let X:Env:=X1++X2
   have hX2:∀ u v,(u,v) ∈ X2->a.tmps[u]? = some v:=by
    intro u v O;obtain ⟨t,ht',hh⟩:=WM.1 O
    split at hh
    ·rename_i hall2
     rw [V9] at hh;obtain ⟨v',hv',hh⟩:=hh;cases hh;refine hsl _ _ hv' (λw' o' hw' ho' hd'=>?_);rw [Tg] at hall2;have h9:=hall2 w' (S0.2 hw');rw [ho'] at h9;simp only [UT,hd'] at h9;have h10:Nat.beq u u=true:=Nat.beq_refl u;rw [h10] at h9;simpa using h9
    ·cases hh
   have hX1:∀ u v,(u,v) ∈ X1->a.tmps[u]? = some v:=by
    intro u v O;obtain ⟨j,hj,hh⟩:=WM.1 O
    split at hh
    ·rename_i hlj
     rw [W1] at hh;obtain ⟨oj,Z,hh⟩:=hh;rw [V9] at hh;obtain ⟨u',hu',hh⟩:=hh;cases hh;obtain ⟨v',hv',_⟩:=hv j oj (S0.1 hj) Z hlj;rw [hu'] at hv';simp only [uT] at hv';simp [SS,hv']
    ·cases hh
   have hX:∀ u v,(u,v) ∈ X->a.tmps[u]? = some v:=λu v O=>(Sf.1 O).elim (hX1 u v) (hX2 u v);have hdep:=(yX.at hop i o htake) H' hle X Rest (λs hs=>S8 _ hs);simp only [Sp] at hdep;have hwl:∀ j ∈ kR o,j<m/\listed.getD j true=true:=λj hj=>by
    have h3:=sL hB ho j hj;refine ⟨by omega,?_⟩
    rw [<- hget j (by omega)]; exact hw j hj
   have hEi:∀ t v,lk (Es.getD i []) t=some v->a.tmps[t]? = some v:=by
    intro t v h;refine hsl t v (hE i t v h) (λw' o' hw' ho' hd'=>?_);cases hlw:listed.getD w' false with
    | false=>rfl
    | true=>
     exfalso;unfold Fh at hX0;rw [Tg] at hX0;have h1:=hX0 i (S0.2 him);rw [Tg] at h1;have h2:=h1 t (SV.2 ⟨_,HR h,rfl⟩);rw [Tg] at h2;have h3:=h2 w' (S0.2 hw');rw [ho'] at h3;simp only [UT,hd'] at h3;have h10:Nat.beq t t=true:=Nat.beq_refl t;rw [h10] at h3;simp only [Bool.not_true,Bool.false_or] at h3;have:=zo (listed:=λq=>listed.getD q false=true) (λk o hk hki q hq=>hdc k o hk hki q hq) l [] (λk q hk=>by simpa using hk) (λk hk=>by simp at hk) w' (by simp; omega) o' ho' (λq hq=>hdc w' o' ho' hlw q hq) i h3
     rw [hnl] at this; cases this
   have hsE:Sl x.N (Es.getD i []++(L0++X)) a:=by
    refine ⟨hs.size,hs.Gq,λt v h=>?_⟩;rw [Bx] at h;cases hl:lk (Es.getD i []) t with
    | some u=>rw [hl] at h; simp at h; subst h; exact hEi t _ hl
    | none=>rw [hl] at h; simp at h; exact (hs.more hX).get t v h
   obtain ⟨Y,R',hk,hsY,hY,hR1,hR2⟩:=xP.use (Rt:=R) hdep hsE (λj hj=>by
    have hj':=hwl j hj;have Z:l[j]? = some l[j]:=RY (by omega)
    rw [Z];exact hv j _ hj'.1 Z hj'.2)
   have hRC:∀ c ∈ C.getD i [],R' c=R c:=by
    intro c hc;rcases hT.wait i o him ho c hc with h | h
    ·rw [hR2 c (λhcm=>by have:=hwl c hcm; omega),vZ c h]
    ·exact hR1 c h
   have hRU:∀ u ∈ U.getD i [],R' u=R u:=by
    intro u hu;have h5:=hT.Qc i o him ho u hu;rcases h5.1 with h | h
    ·rw [hR2 u (λhcm=>by have:=hwl u hcm; omega),vZ u h]
    ·exact hR1 u h
   have hUB:∀ u ∈ U.getD i [],u ∈ Bs:=by
    intro u hu;have h5:=hT.Qc i o him ho u hu;refine Tc.2 ⟨Tc.2 ⟨S0.2 h5.2,tL.2 ⟨?_,?_⟩⟩,?_⟩
    ·rcases h5.1 with h | h
     ·exact .inl h
     ·exact .inr (hw u h)
    ·intro i' hi' hl' hc'
     have h6:=hT.Qb i him u hu i' hi' hc';have hoi:l[i']? = some l[i']:=RY (by omega)
     have:=zo (listed:=λq=>listed.getD q false=true) (λk o hk hki q hq=>hdc k o hk hki q hq) l [] (λk q hk=>by simpa using hk) (λk hk=>by simp at hk) i' (by simp; omega) _ hoi (λq hq=>hdc i' _ hoi hl' q hq) i h6
     rw [hnl] at this; cases this
    ·have h7:u ∉ C.getD i []:=by
      intro hc;have h6:=hT.Qb i him u hu i him hc;have hoi:l[i]? = some o:=ho;have:=zo (listed:=λq=>q<i) (λk o hk hki q hq=>by have:=sL hB hk q hq; omega) l [] (λk q hk=>by simpa using hk) (λk hk=>by simp at hk) i (by simpa using h1') o hoi (λq hq=>sL hB ho q hq) i h6
      omega
     simpa using h7
   have hUR:∀ s ∈ vd (U.getD i []) R' [],s ∈ Rest:=by
    rw [Be,SN];intro s hs;obtain ⟨u,hu,hsu⟩:=Uf.1 hs;rw [hRU u hu] at hsu;exact R2 _ (Uf.2 ⟨u,hUB u hu,hsu⟩)
   have hUP:∃ Rr,(vd (U.getD i []) R' Rr).Perm Rest:=by
    refine ⟨(Bs.filter λc=>!(U.getD i []).contains c).flatMap R++M,?_⟩;rw [Be,vM (R:=R') (R':=R) hRU,<- Sr,<- VU];refine A7 ?_ hBnd ?_ R M
    ·refine S1.2 ⟨hT.Q4 i him,hBnd.filter _,?_⟩
     rintro a ha b hb rfl;have:=(Tc.1 hb).2;simp at this;exact this (by simpa [SG] using ha)
    ·intro q
     rw [Sf];constructor
     ·rintro (hq | hq)
      ·exact hUB q hq
      ·exact (Tc.1 hq).1
     ·intro hq
      by_cases hqu:q ∈ U.getD i []
      ·exact .inl hqu
      ·exact .inr (Tc.2 ⟨hq,by simpa using hqu⟩)
   have hone:=hk hUR hUP a w hsY (by
    rw [Be,vM (R:=R') (R':=R) hRC];exact ht1)
   have fin2:∀ a' w',ES x H' Rest (Y++(Es.getD i []++(L0++X))) o.dst (IX l i) (Φ i) .normal a' w'->wpAny x.P .any l.toArray Q J (listed.setIfInBounds i true) a' w':=by
    rintro a' w' ⟨_,v,H2,rs,hs2,hnv,hle2,ht2,hφ⟩;have hcv:uT a' v o.dst (IX l i):=by
     cases hd:o.dst with
     | none=>
      cases hk:IX l i with
      | none=>rw [hd,hk] at hnv; exact hnv
      | some s=>rw [hd,hk] at hnv; rw [hd] at hs2; exact hs2.get s v hnv
     | some t=>rw [hd] at hs2; exact hs2.get t v (by simp only [NI]; rw [uU]; simp)
    have hput:∀ u,o.dst≠some u->lk (NI o.dst v (Y++(Es.getD i []++(L0++X)))) u=lk (Y++(Es.getD i []++(L0++X))) u:=by
     intro u hne;cases hd:o.dst with
     | none=>rfl
     | some t=>
      simp only [NI];rw [uU,R8 (λe=>hne (by rw [hd,e]))]
    have hYt:∀ u z,(u,z) ∈ Y++X->o.dst≠some u->a'.tmps[u]? = some z:=by
     intro u z O hne;have hz:a.tmps[u]? = some z:=by
      rcases Sf.1 O with O | O
      ·exact hY u z O
      ·exact hX u z O
     have hlk:∃ z',lk (Y++(Es.getD i []++(L0++X))) u=some z':=by
      have hsome:∀ {E:Env}{u:Nat}{z:RV},(u,z) ∈ E->∃ z',lk E u=some z':=by
       intro E u z
       induction E with
       | nil=>simp
       | cons p E ihE=>
        obtain ⟨q,r⟩:=p;intro O;rw [uU]
        split
        ·exact ⟨_,rfl⟩
        ·rename_i hne
         rcases SQ.1 O with e | O
         ·cases e; exact absurd rfl hne
         ·exact ihE O
      rcases Sf.1 O with O | O
      ·exact hsome (R2 _ O)
      ·exact hsome (S8 _ (S8 _ (S8 _ O)))
     obtain ⟨z',hz'⟩:=hlk;have e1:=hsY.get u z' hz';rw [hz] at e1;cases e1;exact hs2.get u z (by rw [hput u hne]; exact hz')
    have hset:∀ j,(listed.setIfInBounds i true).getD j false=if j=i then true else listed.getD j false:=λj=>wh _ _ _ _ (by omega)
    refine ih (listed.setIfInBounds i true) a' w' H2 (DX R i rs) (by simpa using hsz) (by have:=LQ (l:=l) hsz h1' h2; omega) (λj hj hjl=>by rw [wh _ _ _ _ (by omega),R8 (by omega)]; exact htl j hj hjl) ?_ (Ww hle hle2) ?_ ?_ ?_ ?_ ?_
    ·intro j oj Z hlj q hq
     rw [hset] at hlj ⊢
     split at hlj
     ·rename_i e; subst e
      rw [ho] at Z; cases Z
      split
      ·rfl
      ·exact hw q hq
     ·split
      ·rfl
      ·exact hdc j oj Z hlj q hq
    ·
     have hiB:i ∉ Bs:=by
      intro hmB;have:=(Tc.1 hmB).1;rw [Tc,tL] at this;rcases this.2.1 with h | h
      ·omega
      ·rw [hnl] at h; cases h
     have e1:rs++Rest=((i::Bs).flatMap (DX R i rs))++M:=by
      rw [Tn,BN,vM (A:=Bs) (R:=DX R i rs) (R':=R) (λq hq=>CC _ _ _ _ (λe=>hiB (by rw [<- e]; exact hq))),Sr]
     rw [e1] at ht2;refine ht2.perm (A7 (V0.2 ⟨hiB,hBnd⟩) (List.nodup_range.filter _) ?_ _ M);intro q;rw [SQ,Tc,Tc,Tc,S0,tL,tL];constructor
     ·rintro (rfl | ⟨⟨hqK,hq1,hq2⟩,hq3⟩)
      ·refine ⟨by omega,.inr (by rw [hset,R9 rfl]),?_⟩
       intro i' hi' hl' hc';rw [hset] at hl'
       split at hl'
       ·rename_i e; subst e
        rcases hT.wait i' o hi' ho _ hc' with h | h
        ·omega
        ·have:=sL hB ho _ h; omega
       ·have hoi:l[i']? = some l[i']:=RY (by omega)
        rcases hT.wait i' _ hi' hoi _ hc' with h | h
        ·omega
        ·have:=hdc i' _ hoi hl' _ h
         rw [hnl] at this; cases this
      ·refine ⟨hqK,?_,?_⟩
       ·rcases hq1 with h | h
        ·exact .inl h
        ·exact .inr (by rw [hset]; split <;> simp [h])
       ·intro i' hi' hl' hc'
        rw [hset] at hl'
        split at hl'
        ·rename_i e; subst e
         simp at hq3;exact hq3 (by simpa [SG] using hc')
        ·exact hq2 i' hi' hl' hc'
     ·rintro ⟨hqK,hq1,hq2⟩
      by_cases hqi:q=i
      ·exact .inl hqi
      ·refine .inr ⟨⟨hqK,?_,?_⟩,?_⟩
       ·rcases hq1 with h | h
        ·exact .inl h
        ·rw [hset,R8 hqi] at h; exact .inr h
       ·intro i' hi' hl' hc'
        exact hq2 i' hi' (by rw [hset]; split <;> simp [hl']) hc'
       ·have:=hq2 i him (by rw [hset,R9 rfl])
        simpa using this
    ·exact ⟨hs2.size,hs2.Gq,λu z hu=>by simp [lk] at hu⟩
    ·intro u z hu hun
     have hne:o.dst≠some u:=λe=>by
      have:=hun i o him ho e;rw [hset,R9 rfl] at this; cases this
     refine hYt u z (S8 _ (S8 _ (WM.2 ⟨u,SV.2 ⟨_,HR hu,rfl⟩,?_⟩))) hne;rw [R9,hu]
     ·rfl
     ·rw [Tg]
      intro w' hw';have hw'':=S0.1 hw';have hoi:l[w']? = some l[w']:=RY (by omega)
      rw [hoi];simp only [UT];cases hd':l[w'].dst with
      | none=>rfl
      | some q=>
       by_cases e:q=u
       ·subst e
        have h9:=hun w' _ hw'' hoi hd';rw [hset] at h9
        split at h9
        ·cases h9
        ·simp [h9]
       ·have:Nat.beq q u=false:=by
         cases hb:Nat.beq q u with
         | false=>rfl
         | true=>exact absurd (Uz hb) e
        simp [this]
    ·intro q hq
     rw [CC _ _ _ _ (by omega)]; exact vZ q hq
    ·intro j oj hjm Z hlj
     rw [wh _ _ _ _ (by omega)] at hlj
     by_cases e:j=i
     ·subst e
      rw [ho] at Z; cases Z
      rw [BN];exact ⟨v,hcv,hφ⟩
     ·rw [R8 e] at hlj
      rw [CC _ _ _ _ e];obtain ⟨z,hz,hφj⟩:=hv j oj hjm Z hlj;refine ⟨z,?_,hmono _ _ _ _ _ hle2 hφj⟩;have hNd2:∀ (j:Nat) (oj:Oper) (u:Nat),j<m->l[j]? = some oj->j≠i->oj.dst=some u->o.dst≠some u:=by
       intro j oj u hjm Z e hdj e2;unfold Ap at hNd;have hnd:=R7 hNd;have hnd2:(l.take m).Pairwise (λo1 o2=>∀ u,o1.dst=some u->∀ u',o2.dst=some u'->u≠u'):=by
        unfold List.Nodup at hnd;rw [List.pairwise_filterMap] at hnd;exact hnd.imp λh u hu u' hu'=>h u hu u' hu'
       have htj:(l.take m)[j]? = some oj:=by rw [SU,R9 hjm]; exact Z
       obtain ⟨hi',p1⟩:=R3.1 htake;obtain ⟨hj',p2⟩:=R3.1 htj;have hpw:=Vp.1 hnd2;rcases Nat.lt_or_gt_of_ne e with q | q
       ·exact hpw j i hj' hi' q u (by rw [p2]; exact hdj) u (by rw [p1]; exact e2) rfl
       ·exact hpw i j hi' hj' q u (by rw [p1]; exact e2) u (by rw [p2]; exact hdj) rfl
      have hkeep:∀ (j:Nat) (oj:Oper) (u:Nat),j<m->l[j]? = some oj->listed.getD j true=true->j≠i->oj.dst=some u->a.tmps[u]? = some z->a'.tmps[u]? = some z:=by
       intro j oj u hjm Z hlj e hdj hz;refine hYt u z (S8 _ (R2 _ (WM.2 ⟨j,S0.2 hjm,?_⟩))) (hNd2 j oj u hjm Z e hdj);simp [hlj,Z,hdj,SS,hz]
      cases hdj:oj.dst with
      | none=>
       rw [hdj] at hz;cases hk:IX l j with
       | none=>rw [hk] at hz; exact hz
       | some s=>
        rw [hk] at hz;simp only [uT] at hz ⊢;obtain ⟨o2,ho2,_,w2,hw2,hd2⟩:=O3 hk;rw [Z] at ho2; cases ho2
        have hlt2:=sL hB Z w2 hw2;have hl2:=hdc j oj Z (by rw [hget j (by omega)]; exact hlj) w2 hw2
        have hne2:w2≠i:=by rintro rfl; rw [hnl] at hl2; cases hl2
        rw [W1] at hd2;obtain ⟨ow,how,hdw⟩:=hd2;exact hkeep w2 ow s (by omega) how (by rw [<- hget w2 (by omega)]; exact hl2) hne2 hdw hz
      | some u=>
       rw [hdj] at hz;simp only [uT] at hz ⊢;exact hkeep j oj u hjm Z hlj e hdj hz
   unfold wpOp;rw [show l.toArray[i]? = some o from by simpa using ho]
   unfold wpList at hone
   dsimp only
   by_cases hwn:Region.wanted o (yielded l.toArray a.tmps)=true
   ·rw [R9 hwn] at hone ⊢
    left
    rcases hone with h | ⟨_,a1,w1,h,_⟩
    ·unfold Oper.wp at h ⊢
     generalize (execOp a.eval o).run x.P w=r at h;have fin':∀ a' w',wpList x.P l.toArray (ES x H' Rest (Y++(Es.getD i []++(L0++X))) o.dst (IX l i) (Φ i)) [] a' w'->wpAny x.P .any l.toArray Q J (listed.setIfInBounds i true) a' w':=λa' w' h=>fin2 a' w' h;cases r with
     | ok n w2=>
      cases n <;> simp only [Oper.upon] at h ⊢ <;> first
       | exact fin' _ _ h
       | exact Calls.mono h (λe w3 he=>match e,he with
         | .returned v,he=>fin' _ _ he
         | .panicked c,he=>absurd he.1 (by simp)
         | .outgrown,he=>absurd he.choose_spec.choose_spec.1 (by simp))
       | exact Rows.mono h (λv w3 he=>fin' _ _ he)
     | halt y w2=>
      cases y <;> simp only [Oper.upon] at h ⊢
      exact absurd h.1 (by simp)
    ·cases h
   ·rw [R8 hwn] at hone ⊢
    exact fin2 _ _ hone
def F2 (L:Env):List Env->Prop
 | []=>True
 | E::r=>Kept L E/\F2 L r
theorem F2.get {L:Env}:∀ {Es:List Env},F2 L Es->∀ i t v,lk (Es.getD i []) t=some v->lk L t=some v
 | [],_,i,t,v,h=>by simp [lk] at h
 | E::r,hk,0,t,v,h=>hk.1.lk t v (by simpa using h)
 | E::r,hk,i+1,t,v,h=>F2.get hk.2 i t v (by simpa using h)
theorem AF {id:Nat} (m:Nat) (Φ:OF) (C U:List (List Nat)) (I:List (List b_)) (live:List Nat) (L0:Env) (Es:List Env) (hmix:x.P.follows .mixedOrders=true) (hB:wM l m=true) (hml:Nat.ble m l.length=true) (hD:Ao l m L0=true) (hX:Fh l m Es=true) (hL0:∀ t v,lk L0 t=some v->lk L t=some v) (hE:F2 L Es) (hNd:Ap l m=true)
  (hT:Ip l m (m+I.length) C U live=true)
  (hmono:∀ i H1 H2 rs v,H1.le H2->Φ i H1 rs v->Φ i H2 rs v)
  (hop:yX x l Φ C U Es (FX m I) H M L0 0 (l.take m))
  (k:∀ H',H.le H'->xP l Φ H' (List.range m) L0 (FX m I) (λL' R=>W x l.toArray Q (l.drop m) H' (vd live R M) L')):Go.Sim.C x (.region id l.toArray true) Q H (I.flatten++M) L:=by
 intro a w hs ht;refine wp_region_any hmix ?_;have hml':m<=l.length:=by simpa [US] using hml
 have Y:∀ j,(Array.replicate l.toArray.size false).getD j true=if j<l.length then false else true:=by
  intro j;simp only [SS,Array.getElem?_replicate,UF]
  split <;> simp
 have J:∀ j,(Array.replicate l.toArray.size false).getD j false=false:=by
  intro j;simp only [SS,Array.getElem?_replicate,UF]
  split <;> simp
 have Z:((List.range (m+I.length)).filter (alive m C (Array.replicate l.toArray.size false))).flatMap (FX m I)=I.flatten:=by
  rw [List.range_add,UX];have e1:(List.range m).filter (alive m C (Array.replicate l.toArray.size false))=[]:=by
   rw [List.filter_eq_nil_iff];intro q hq;rw [tL];rintro ⟨h | h,_⟩
   ·have:=S0.1 hq; omega
   ·rw [J] at h; cases h
  have e2:((List.range I.length).map (m+·)).filter (alive m C (Array.replicate l.toArray.size false))=(List.range I.length).map (m+·):=by
   rw [Xr];intro q hq;obtain ⟨r,hr,rfl⟩:=SV.1 hq;rw [tL];exact ⟨.inl (by omega),λi _ h=>by rw [J] at h; cases h⟩
  rw [e1,e2,TG,List.flatMap_map];have e3:(List.range I.length).flatMap (λq=>FX m I (m+q))=((List.range I.length).map λq=>I.getD q []).flatten:=by
   rw [List.flatMap_def]
   congr 1
   refine List.map_congr_left λq _=>?_;unfold FX;rw [R8 (by omega),TN]
  rw [e3]
  congr 1
  apply TP;intro q;rw [SD]
  by_cases hq:q<I.length
  ·rw [Uj hq,RY hq]; simp [SG,hq]
  ·rw [S3 (by simp; omega),S3 (by omega)]; rfl
 refine NF (Q:=Q) (K:=m+I.length) hB hml' hD hX hL0 (λi t v h=>hE.get i t v h) hNd (NW hT) (by omega) hmono hop k l.toArray.size _ a _ H (FX m I) (by simp) ?_ (λj hj hjl=>by rw [Y,R9 hjl]) (λi o _ h=>by rw [J] at h; cases h) (SP _) ?_ ⟨hs.size,hs.Gq,λt v h=>by simp [lk] at h⟩ (λt v h _=>hs.get t v h) (λ_ _=>rfl) ?_
 ·unfold left
  exact S6 (UW ..) (by simp)
 ·rw [Z]; exact ht.drewN _
 ·intro i o hi ho hl
  rw [Y,R9 (by omega)] at hl
  cases hl
theorem rK {id:Nat} (m:Nat) (Φ:OF) (C U:List (List Nat)) (I:List (List b_)) (live:List Nat) (Y:x.P.follows .mixedOrders=true) (hB:wM l m=true) (hml:Nat.ble m l.length=true) (hD:Ao l m L=true) (Z:Ap l m=true)
  (hT:Ip l m (m+I.length) C U live=true)
  (J:∀ i H1 H2 rs v,H1.le H2->Φ i H1 rs v->Φ i H2 rs v)
  (hop:yX x l Φ C U [] (FX m I) H M L 0 (l.take m))
  (k:∀ H',H.le H'->xP l Φ H' (List.range m) L (FX m I) (λL' R=>W x l.toArray Q (l.drop m) H' (vd live R M) L')):Go.Sim.C x (.region id l.toArray true) Q H (I.flatten++M) L:=
 AF m Φ C U I live L [] Y hB hml hD (by unfold Fh; simp) (λ_ _ h=>h) RW Z hT J hop k
end
section
variable {x:Cx}{ops:Array Oper}{Q:mj}{rest:List Oper}{H:Hp}{M M':List b_}{L L':Env}
theorem se {M'} (h:M=M') (k:W x ops Q rest H M' L):W x ops Q rest H M L:=h▸k
theorem Kx {c:Code}{M'} (h:M=M') (k:C x c Q H M' L):C x c Q H M L:=h▸k
theorem QM {e:Exit}{M'} (h:M=M') (k:E x e Q H M' L):E x e Q H M L:=h▸k
theorem Hf {e:Exit} (I:M.Perm M') (k:E x e Q H M' L):E x e Q H M L:=λa w hs ht=>k a w hs (ht.perm I)
theorem CH {c:Code} (I:M.Perm M') (k:C x c Q H M' L):C x c Q H M L:=λa w hs ht=>k a w hs (ht.perm I)
theorem s5 {c:Code}{v:RV}{T:TypeId}{sz n:Nat}{xs:List RV} (O:b_.row v T sz n xs ∈ M) (k:n<=maxLen->C x c Q H M L):C x c Q H M L:=λa w hs ht=>by
 have I:iU w T sz v n xs:=ht.ok _ O;refine k ?_ a w hs ht;rcases I.2 with ⟨_,rfl⟩ | ⟨g,off,cap,J,rfl,hg,Z,Y,_⟩
 ·unfold maxLen; omega
 ·omega
theorem ER {e:Exit}{J:Hp} (I:J.le H) (k:E x e Q J M L):E x e Q H M L:=λa w hs ht=>k a w hs (ht.NZ I)
end
section
variable {P:Program}{N B:Nat}{w0:World}{fn:Func}{Φ:Hp->List b_->RV->Prop}{H:Hp}{M:List b_}{L:Env}
theorem Iu (k:E ⟨P,N,B,w0⟩ .ret (bodyPost P fn (vi B w0 Φ)) H M L):E ⟨P,N,B,w0⟩ .normal (bodyPost P fn (vi B w0 Φ)) H M L:=λa w hs ht=>k a w hs ht
theorem JO (I:fn.results=#[]) (h:Φ H M (.tuple #[])):E ⟨P,N,B,w0⟩ .ret (bodyPost P fn (vi B w0 Φ)) H M L:=
 λa w hs ht=>⟨hs.Gq,.tuple #[],by simp [results,I],H,M,ht,h⟩
theorem PY {t u s:Nat}{v1 v2 v3:RV} (Y:fn.results=#[.tmp t,.tmp u,.tmp s]) (hl:lk L t=some v1) (I:lk L u=some v2) (J:lk L s=some v3) (h:Φ H M (.tuple #[v1,v2,v3])):E ⟨P,N,B,w0⟩ .ret (bodyPost P fn (vi B w0 Φ)) H M L:=
 λa w hs ht=>⟨hs.Gq,.tuple #[v1,v2,v3],by simp [results,Y,SS,hs.get t v1 hl,hs.get u v2 I,hs.get s v3 J],H,M,ht,h⟩
end
class Flat (α:Type) [aK α]:Prop where
 ind:∀ {H H':Hp}{cs:List RV}{x:α},aK.E H cs x->aK.E H' cs x
instance:Flat Int:=⟨λh=>h⟩
instance:Flat Bool:=⟨λh=>h⟩
instance:Flat RU:=⟨λh=>h⟩
instance:Flat U8:=⟨λh=>h⟩
instance:Flat QB:=⟨λh=>h⟩
instance:Flat cL:=⟨λh=>h⟩
instance:Flat QC:=⟨λh=>h⟩
instance:Flat Qz:=⟨λh=>h⟩
theorem rL.flat {α:Type}[aK α] [Flat α] {H H':Hp}:∀ {cs:List RV}{ys:List α},rL H cs ys->rL H' cs ys
 | _,[],h=>h
 | _,_::_,⟨c,r,e,h,k⟩=>⟨c,r,e,Flat.ind h,rL.flat k⟩
def tS {α:Type}[aK α] (v:RV) (xs:List RV) (l:List α):Prop:=∀ H,Rw H v xs l
def QO {α:Type}[aK α] (xs:List RV) (l:List α):Prop:=∀ H,rL H xs l
theorem Rw.pf {α:Type}[aK α] [Flat α] {H:Hp}{v:RV}{xs:List RV}{l:List α} (h:Rw H v xs l):tS v xs l:=λH'=>⟨h.rd.flat,h.sl⟩
theorem rL.pf {α:Type}[aK α] [Flat α] {H:Hp}{xs:List RV}{l:List α} (h:rL H xs l):QO xs l:=λH'=>h.flat
def AA {α R:Type} (o:Option α) (a:R) (f:α->R):R:=match o with
 | none=>a
 | some s=>f s
theorem wK {α R:Type}{o:Option α}{a:R}{f:α->R}{r:R} (h:o=none) (k:AA o a f=r):a=r:=by subst h; exact k
theorem wL {α R:Type}{o:Option α}{a:R}{f:α->R}{s:α}{r:R} (h:o=some s) (k:AA o a f=r):f s=r:=by subst h; exact k
def AB (l:List (Hp->List b_->RV->Prop)) (i:Nat):Hp->List b_->RV->Prop:=l.getD i (λ_ _ _=>True)
def Og (p:Hp->List b_->RV->Prop):Prop:=∀ I J rs v,I.le J->p I rs v->p J rs v
def CL:List (Hp->List b_->RV->Prop)->Prop
 | []=>True
 | p::l=>Og p/\CL l
theorem uQ {l:List (Hp->List b_->RV->Prop)} (h:CL l):∀ i I J rs v,I.le J->AB l i I rs v->AB l i J rs v:=by
 induction l with
 | nil=>intro i I J rs v _ _; exact RW
 | cons p l ih=>
  intro i I J rs v Y Z;cases i with
  | zero=>exact h.1 I J rs v Y Z
  | succ i=>exact ih h.2 i I J rs v Y Z
theorem gB (I:List b_) (c:RV):Og (λ_ rs v=>I=rs/\c=v):=λ_ _ _ _ _ h=>h
theorem JD {α:Type}{f:α->RV}{l:List α}{k:Nat}{y:α} (he:l[k]? = some y):(l.map f)[k*1]? = some (f y):=by
 rw [UO,SD,he]; rfl
section
variable {x:Cx}{ops:Array Oper}{Q:mj}{rest:List Oper}{H:Hp}{M M':List b_}{L L':Env}
variable {d:Nat}{ty:TypeId}{pos:String}{aft:Array Edge}{g:Option (Nat×Bool)}
theorem eA {t e m sz:Nat}{y z:Operand}{ad:Addr}{kk:IntKind}{i:Int}
  (hg:gd ops L ⟨some d,.indexAddr t y z,ty,pos,aft,g⟩=some true) (hN:Nat.blt d x.N=true)
  (Z:∀ w,(underlying t).run x.P w=.ok (.array m e) w) (hs:∀ w,(sizeOf e).run x.P w=.ok sz w)
  (hy:ev L y=some (.pointer (some ad))) (hz:ev L z=some (.int kk i)) (Y:0<=i) (h1:i.toNat<m)
  (k:W x ops Q rest H M ((d,.pointer (some (ad.add (i.toNat*sz))))::L)):
  W x ops Q (⟨some d,.indexAddr t y z,ty,pos,aft,g⟩::rest) H M L:=
 gL rfl hg hN (λc w I ht=>by
  have J:i<(m:Int):=by omega
  simp [execOp,I.ev hy,I.ev hz,Instr.indexAt,asIntOf,Z,hs,Y,J,Instr.sureAddr]) k
theorem Jw {T E:TypeId}{m sz n n' i:Nat}{y z:Operand}{v u:RV}{ad:Addr}{xs cs:List RV} (hg:gd ops L ⟨none,.store T y z,ty,pos,aft,g⟩=some true)
  (hn:∀ w,(sizeOf T).run x.P w=.ok m w) (hy:ev L y=some (.pointer (some ad))) (J:ad=(Value.base v).add i) (hz:ev L z=some u) (hv:u.cells=cs.toArray) (hl:cs.length=m)
  (Z:i+cs.length<=xs.length) (I:Nat.blt 0 cs.length=true) (h1:∀ c ∈ cs,c.oneCell'=true) (Y:n'=n)
  (k:W x ops Q rest H (.row v E sz n' (over xs i cs)::M) L):
  W x ops Q (⟨none,.store T y z,ty,pos,aft,g⟩::rest) H (.row v E sz n xs::M) L:=by
 subst Y;exact y6 hg hn hy J hz hv hl Z I h1 k
theorem Af {T e m sz:Nat}{I:List (Nat×Operand)}{vs:List RV}{css:List (List RV)}{z:RV}{zs out:List RV}{places:List (Nat×Nat)}
  (hg:gd ops L ⟨some d,.build T I.toArray,ty,pos,aft,g⟩=some true) (hN:Nat.blt d x.N=true)
  (hv:Aq L (I.map (·.2))=some vs) (hc:Bh vs css)
  (hz:∀ w,(zeroValue T).run x.P w=.ok z w) (hzs:z.cells=zs.toArray) (hT:∀ w,(underlying T).run x.P w=.ok (.array m e) w) (hs:∀ w,(sizeOf e).run x.P w=.ok sz w)
  (Z:places=(List.range m).map λi=>(i*sz,sz))
  (ho:laid places zs ((I.map (·.1)).zip css)=some out)
  (k:W x ops Q rest H M ((d,.agg out.toArray)::L)):
  W x ops Q (⟨some d,.build T I.toArray,ty,pos,aft,g⟩::rest) H M L:=
 gL rfl hg hN (λa w J ht=>by
  have hl:(I.map (·.1)).length=vs.length:=by rw [<- J.Aq hv]; simp
  have hf:=xz (place:=λi=>some (i*sz,sz)) (places:=places) (λi o h=>by
   rw [Z,SD] at h;cases Y:(List.range m)[i]? with
   | none=>rw [Y] at h; cases h
   | some j=>
    rw [Y] at h;have:j=i:=by
     have:=R3.1 Y;simpa using this.2.symm
    subst this;simpa using h) (I.map (·.1)) vs css zs out hc hl ho
  have hps:=Cs J hv;simp only [execOp,Instr.build,Se,hz,Sb,hT,hzs,hs];simp only [hps,hf,Sk,Sb]) k
theorem eZ {α:Type}[aK α] {T e:TypeId}{n:Nat}{J:List (Nat×Operand)}{vs:List RV}{css:List (List RV)}{z:RV}{zs out:List RV}{places:List (Nat×Nat)}{ys:List α}
  (hg:gd ops L ⟨some d,.buildSlice T n J.toArray,ty,pos,aft,g⟩=some true) (hN:Nat.blt d x.N=true)
  (hv:Aq L (J.map (·.2))=some vs) (hc:Bh vs css)
  (hT:∀ w,(underlying T).run x.P w=.ok (.slice e) w) (hs:∀ w,(sizeOf e).run x.P w=.ok (aK.sz α) w) (hs0:Nat.blt 0 (aK.sz α)=true)
  (hz:∀ w,(zeroValue e).run x.P w=.ok z w) (hzs:(Array.range (n*aK.sz α)).map (z.cells[·%z.cells.size]!)=zs.toArray)
  (hpl:places=(List.range n).map λi=>(i*aK.sz α,aK.sz α)) (hn:Nat.ble (n*aK.sz α) 16777216=true) (hnn:Nat.blt 0 n=true)
  (ho:laid places zs ((J.map (·.1)).zip css)=some out) (hr:rL H out ys) (hyn:ys.length=n)
  (k:∀ v' xs',Rw H v' xs' ys->W x ops Q rest H (.row v' e (aK.sz α) ys.length xs'::M) ((d,v')::L)):
  W x ops Q (⟨some d,.buildSlice T n J.toArray,ty,pos,aft,g⟩::rest) H M L:=by
 refine tT rfl hg hN λa w hsl ht=>?_;have hl:(J.map (·.1)).length=vs.length:=by rw [<- hsl.Aq hv]; simp
 have I:0<aK.sz α:=by simpa [S_] using hs0
 have hn':n*aK.sz α<=16777216:=by simpa [US] using hn
 have Z:0<n:=by simpa [S_] using hnn
 have hpos:0<n*aK.sz α:=Nat.mul_pos Z I;have hf:=xz (place:=λi=>some (i*aK.sz α,aK.sz α)) (places:=places) (λi o h=>by
  rw [hpl,SD] at h;cases hh:(List.range n)[i]? with
  | none=>rw [hh] at h; cases h
  | some j=>
   rw [hh] at h;have:j=i:=by
    have:=R3.1 hh;simpa using this.2.symm
   subst this;simpa using h) (J.map (·.1)) vs css zs out hc hl ho
 have hps:=Cs hsl hv;have hsz:out.length=n*aK.sz α:=by rw [hr.len,hyn]
 have Y:ys.length<=maxLen:=by
  unfold maxLen;have:n<=n*aK.sz α:=Va _ I;omega
 refine ⟨.slice (some ⟨w.heap.size,0,none⟩) ys.length ys.length,w.alloc (.cells out.toArray e),?_,H,_,St.newRow (e:=e) ht hr Y,k _ _ ⟨hr,_,_,_,rfl⟩⟩;have h1:¬ (2 ^ 24<n*aK.sz α):=by omega
 have h2:¬ (n*aK.sz α=0):=by omega
 simp only [execOp,Instr.buildSlice,Se,hT,Sb,hs,gt_iff_lt,h1,h2,TV,hz,Sk];simp only [hps];have hf':Instr.fill (λi=>some (i*aK.sz α,aK.sz α)) ((Array.range (n*aK.sz α)).map (z.cells[·%z.cells.size]!)) ((List.map (λx=>x.fst) J).zip vs)=some out.toArray:=by
  rw [hzs]; exact hf
 simp only [hf',newRow,newObj,Se,Sk,Sem.run,Sb,World.alloc,hyn]
end
inductive gK (P:Program) (M:List b_) (L:Env):ResultVar->RV->Prop
 | tmp {t}{v:RV} (h:lk L t=some v):gK P M L (.tmp t) v
 | one {t ty b T}{l:List RV}{fz}{v:RV} (h:lk L t=some (.pointer (some ⟨b,0,none⟩))) (hA:∀ w,(isAgg ty).run P w=.ok false w) (O:b_.obj b (.cells (v::l).toArray T fz) ∈ M):gK P M L (.cell t ty) v
 | agg {t ty b T}{l:List RV}{fz n} (h:lk L t=some (.pointer (some ⟨b,0,none⟩))) (hA:∀ w,(isAgg ty).run P w=.ok true w) (hn:∀ w,(sizeOf ty).run P w=.ok n w) (O:b_.obj b (.cells l.toArray T fz) ∈ M) (hl:l.length=n):gK P M L (.cell t ty) (.agg l.toArray)
 | arr {t ty v T sz k}{xs:List RV}{n} (h:lk L t=some (.pointer (some (Value.base v)))) (hA:∀ w,(isAgg ty).run P w=.ok true w) (hn:∀ w,(sizeOf ty).run P w=.ok n w) (O:b_.row v T sz k xs ∈ M) (hl:xs.length=n):gK P M L (.cell t ty) (.agg xs.toArray)
def JT (I:Array RV):ResultVar->Sem RV
 | .tmp t=>pure (I.getD t undef)
 | .cell a t=>do loadVar t (<- asAddr (I.getD a undef))
theorem zr (fn:Func) (I:Array RV):results fn I=(do
  let vs <- fn.results.mapM (JT I)
  pure (if h:vs.size=1 then vs[0] else .tuple vs)):=rfl
theorem gK.run {P:Program}{M:List b_}{L:Env}{N B:Nat}{w0 w:World}{H:Hp}{a:Act}{rv:ResultVar}{v:RV} (h:gK P M L rv v) (hs:Sl N L a) (ht:St B w0 H M w):
  (JT a.tmps rv).run P w=.ok v w:=by
 cases h with
 | tmp h=>simp [JT,SS,hs.get _ _ h]
 | one h hA O=>
  have J:=(xp (x:=⟨P,N,B,w0⟩) (H:=H) O (off:=0) (v:=v) rfl) w ht;simp [JT,SS,hs.get _ _ h,asAddr,loadVar,hA,load,Sem.run,J]
 | agg h hA hn O hl=>
  rename_i t ty b T l fz n
  have J:=(FC (x:=⟨P,N,B,w0⟩) (H:=H) O);have I:=run_loadCellsFrom (P:=P) (w:=w) (ad:=⟨b,0,none⟩) l 0 #[] (λj v Z=>by rw [Sp]; exact J j v Z w ht)
  rw [hl] at I;simp [JT,SS,hs.get _ _ h,asAddr,loadVar,hA,hn,loadCells,I]
 | arr h hA hn O hl=>
  rename_i t ty v T sz k xs n
  have I:=run_loadCellsFrom (P:=P) (w:=w) (ad:=Value.base v) xs 0 #[] (λj u Y=>by rw [Sp]; exact (DO (x:=⟨P,N,B,w0⟩) (H:=H) O Y) w ht)
  rw [hl] at I;simp [JT,SS,hs.get _ _ h,asAddr,loadVar,hA,hn,loadCells,I]
section
variable {P:Program}{N B:Nat}{w0:World}{fn:Func}{Φ:Hp->List b_->RV->Prop}{H H0:Hp}{M M1 M2:List b_}{L:Env}
theorem lx {r1:ResultVar}{v1:RV} (I:H0.le H) (Z:fn.results=#[r1]) (h1:gK P M L r1 v1) (J:M1.Sublist M) (Y:M1.Perm M2) (h:Φ H0 M2 v1):
  E ⟨P,N,B,w0⟩ .ret (bodyPost P fn (vi B w0 Φ)) H M L:=λa w hs ht=>by
 have q1:=h1.run hs ht;refine ⟨hs.Gq,v1,?_,H0,M2,((ht.sub J).perm Y).NZ I,h⟩;rw [zr,Z];simp [q1]
theorem BV {r1 J:ResultVar}{v1 v2:RV} (I:H0.le H) (hr:fn.results=#[r1,J]) (h1:gK P M L r1 v1) (h2:gK P M L J v2) (Y:M1.Sublist M) (Z:M1.Perm M2) (h:Φ H0 M2 (.tuple #[v1,v2])):
  E ⟨P,N,B,w0⟩ .ret (bodyPost P fn (vi B w0 Φ)) H M L:=λa w hs ht=>by
 have q1:=h1.run hs ht;have q2:=h2.run hs ht;refine ⟨hs.Gq,_,?_,H0,M2,((ht.sub Y).perm Z).NZ I,h⟩;rw [zr,hr];simp [q1,q2]
theorem Da {r1 J Y:ResultVar}{v1 v2 v3:RV} (I:H0.le H) (hr:fn.results=#[r1,J,Y]) (h1:gK P M L r1 v1) (h2:gK P M L J v2) (Z:gK P M L Y v3) (hd:M1.Sublist M) (hp:M1.Perm M2) (h:Φ H0 M2 (.tuple #[v1,v2,v3])):
  E ⟨P,N,B,w0⟩ .ret (bodyPost P fn (vi B w0 Φ)) H M L:=λa w hs ht=>by
 have q1:=h1.run hs ht;have q2:=h2.run hs ht;have q3:=Z.run hs ht;refine ⟨hs.Gq,_,?_,H0,M2,((ht.sub hd).perm hp).NZ I,h⟩;rw [zr,hr];simp [q1,q2,q3]
end
theorem aU.shape {α:Type}[aK α] {H:Hp}{v:RV}{xs:List α} (h:aU H v xs):∃ o n c,v=.slice o n c:=by
 obtain ⟨a,c,rfl,_⟩:=h.len; exact ⟨_,_,_,rfl⟩
theorem aU.isNil {α:Type}[aK α] {H:Hp}{n c:Nat}{xs:List α} (h:aU H (.slice none n c) xs):xs=[]:=by
 rcases h with ⟨_,h⟩ | ⟨b,off,cap,arr,T,fz,h,_⟩
 ·exact h
 ·cases h
def PK {α:Type} (v:RV) (l:List α):Prop:=(∃ n c,v=.slice none n c/\l=[])\/(∃ a n c,v=.slice (some a) n c/\l≠[])
theorem PK.nil {α:Type}:PK (.slice none 0 0) ([]:List α):=.inl ⟨_,_,rfl,rfl⟩
theorem FI {P:Program}{w:World}{t ty e:TypeId}{i:TypeInfo}{z:RV}{size:Nat} (ht:P.underlying t=some (.slice e)) (hi:P.info? e=some i) (hz:i.zero=some z)
  (hsize:i.size=size) (hzs:z.cells.size=size) (hsz:0<size)
  {v:RV}{n:Nat}{xs:List RV} (J:iU w e size v n xs)
  {a:Addr}{m c:Nat}{news:List RV} (hl:news.length=m*size) (hnews:∀ j u,news[j]? = some u->w.cell? (a.add j)=some u) (h1:∀ u ∈ news,u.oneCell'=true)
  (I:n+m<=Value.lX v):
  ∃ v' w',(Builtin.append_ #[t,t] ty #[v,.slice (some a) m c]).run P w=.ok v' w'/\iU w' e size v' (n+m) (xs++news)/\w.grownBy w' v.ownBlock /\
   (∀ b,v'.ownBlock=some b->v.ownBlock=some b\/w.heap.size<=b)/\Value.lX v'=Value.lX v:=by
 subst hsize;have Z:(xs++news).length=(n+m)*i.size:=by rw [Sg,J.1,hl,So]
 rcases J.2 with ⟨rfl,rfl⟩ | ⟨g,off,cap,cur,rfl,hg,hnc,hcm,hcs,htake⟩
 ·have hx:xs=[]:=Sv (by simpa using J.1)
  subst hx;have O:m=0:=by simp only [Value.lX] at I; omega
  subst O;have hn:news=[]:=Sv (by simpa using hl)
  subst hn;refine ⟨.slice none 0 0,w,?_,iU.nil w e i.size,⟨rfl,rfl,rfl,Sj _,λ_ _ _=>rfl⟩,by simp [Value.ownBlock],rfl⟩
  simp [Builtin.append_,Tm ht,sizeOf,typeInfo,hi,Builtin.lenOf,Builtin.firstCells,loadCells,loadCellsFrom]
 ·simp only [Value.lX] at I
  have Y:off+n*i.size+news.length<=cur.size:=by
   have:(n+m)*i.size<=cap*i.size:=Si _ I;rw [So] at this;omega
  have hf:=WC (P:=P) w i.size m a m c news hl hnews;obtain ⟨w',hst,hh,hgr⟩:=jN (P:=P) g (off+n*i.size) e news 0 cur.toList w (by simpa using hg) (by simpa using Y) h1
  refine ⟨.slice (some ⟨g,off,none⟩) (n+m) cap,w',?_,⟨Z,.inr ⟨g,off,cap,_,rfl,hh,I,hcm,?_,?_⟩⟩,hgr,λb hb=>.inl hb,rfl⟩
  ·simp [Builtin.append_,Tm ht,sizeOf,typeInfo,hi,Builtin.lenOf,I,hf,SZ,hst]
  ·simpa [oT] using hcs
  ·rw [Uk,Tt,vT _ _ _ (by simpa using Y)]
   have hd:(cur.toList.take (off+n*i.size)).drop off=xs:=by rw [Um,TN]; exact htake
   rw [Sr,Ui (by simp; omega),hd,<- Sr,<- Z]
   exact UY
section
variable {x:Cx}{ops:Array Oper}{Q:mj}{rest:List Oper}{H:Hp}{M M':List b_}{L L':Env}
variable {d:Nat}{ty:TypeId}{pos:String}{aft:Array Edge}{g:Option (Nat×Bool)}
theorem Oc {α:Type}[aK α] {H:Hp}{zs:List RV}{ze:α} (Z:aK.E H zs ze) (hzl:zs.length=aK.sz α):∀ q,rL H ((List.range (q*aK.sz α)).map (zs.toArray[·%zs.length]!)) (List.replicate q ze):=by
 intro q
 induction q with
 | zero=>rw [TC]; exact rfl
 | succ q ih=>
  have I:(List.range ((q+1)*aK.sz α)).map (zs.toArray[·%zs.length]!)=zs++(List.range (q*aK.sz α)).map (zs.toArray[·%zs.length]!):=by
   apply TP;intro j;rw [Us,SD]
   by_cases Y:j<zs.length
   ·rw [R9 Y,Uj (by rw [So]; omega)]
    simp [T0 Y,Y]
   ·rw [R8 Y,SD]
    by_cases J:j<(q+1)*aK.sz α
    ·rw [Uj J,Uj (by rw [So] at J; omega)]
     simp only [Tq];rw [<- Nat.mod_eq_sub_mod (by omega)]
    ·rw [S3 (by simp; omega),S3 (by rw [So] at J; simp; omega)]
  rw [I];exact ⟨zs,_,rfl,Z,ih⟩
end
end Go.Sim
