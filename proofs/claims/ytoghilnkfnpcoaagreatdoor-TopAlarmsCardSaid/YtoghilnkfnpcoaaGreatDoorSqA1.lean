/-
  The proof, part A1.
-/
import Derived.WalkKit
import Derived.WalkSpells
import Derived.WalkLawsBesides
import Derived.Lib.AppendZeros
set_option linter.unusedVariables false
set_option linter.unusedSimpArgs false
set_option linter.unusedSectionVars false
set_option linter.unnecessarySimpa false
namespace Go.Sim
abbrev O9 := @Go.Addr.add_lit
abbrev OP := @Array.getD_eq_getD_getElem?
abbrev QD := @Array.getElem?_eq_getElem
abbrev Pt := @Array.getElem?_eq_some_iff
abbrev R3 := @Array.getElem?_modify
abbrev Rk := @Array.getElem?_setIfInBounds
abbrev PZ := @Bool.and_eq_true
abbrev Ps := @Bool.false_eq_true
abbrev PQ := @Bool.or_eq_true
abbrev N2 := @ByteArray
abbrev Sg := @Go.ByteArray.toList_eq
abbrev OW := @Int.natCast_mul
abbrev N7 := @Int.toNat_natCast
abbrev Qc := @List.Sublist.refl
abbrev Pa := @List.all_eq_true
abbrev OJ := @List.append_assoc
abbrev OX := @List.append_nil
abbrev Qg := @List.cons_append
abbrev Rl := @List.contains_iff_mem
abbrev QB := @List.countP_le_length
abbrev QM := @List.drop_append_of_le_length
abbrev Qa := @List.drop_drop
abbrev O6 := @List.drop_eq_getElem_cons
abbrev Q3 := @List.drop_length
abbrev Qs := @List.drop_set_of_lt
abbrev Qk := @List.drop_take
abbrev PB := @List.drop_zero
abbrev OK := @List.eq_nil_of_length_eq_zero
abbrev PO := @List.ext_getElem?
abbrev QS := @List.filter_append
abbrev Sh := @List.filter_eq_self
abbrev RA := @List.flatMap_append
abbrev Pm := @List.flatMap_cons
abbrev OC := @List.getD_eq_getElem?_getD
abbrev P7 := @List.getElem?_append
abbrev Ph := @List.getElem?_append_left
abbrev OD := @List.getElem?_append_right
abbrev ON := @List.getElem?_drop
abbrev N5 := @List.getElem?_eq_getElem
abbrev O4 := @List.getElem?_eq_none
abbrev N_ := @List.getElem?_eq_some_iff
abbrev OE := @List.getElem?_map
abbrev P2 := @List.getElem?_range
abbrev O5 := @List.getElem?_take
abbrev OY := @List.getElem_mem
abbrev OG := @List.length_append
abbrev Oj := @List.length_cons
abbrev PJ := @List.length_map
abbrev Pl := @List.length_replicate
abbrev OQ := @List.length_singleton
abbrev OF := @List.length_take
abbrev Pu := @List.map_append
abbrev QK := @List.map_cons
abbrev R_ := @List.map_map
abbrev Om := @List.mem_append
abbrev N6 := @List.mem_append_left
abbrev OR := @List.mem_append_right
abbrev OM := @List.mem_cons
abbrev Od := @List.mem_cons_of_mem
abbrev Oa := @List.mem_cons_self
abbrev Pj := @List.mem_filter
abbrev RJ := @List.mem_filterMap
abbrev P9 := @List.mem_flatMap
abbrev Pq := @List.mem_iff_getElem
abbrev Pg := @List.mem_map
abbrev Ol := @List.mem_of_getElem?
abbrev OS := @List.mem_range
abbrev OU := @List.mem_singleton
abbrev PR := @List.nil_append
abbrev OO := @List.nodup_append
abbrev QV := @List.nodup_cons
abbrev QZ := @List.pairwise_iff_getElem
abbrev Ra := @List.range_succ
abbrev Q0 := @List.set_eq_take_append_cons_drop
abbrev R6 := @List.singleton_append
abbrev QX := @List.size_toArray
abbrev Rm := @List.take_left
abbrev PS := @List.take_length
abbrev QN := @List.take_set_of_le
abbrev OL := @List.take_succ_eq_append_getElem
abbrev RO := @List.take_take
abbrev Qu := @List.toList_toArray
abbrev Qi := @Nat.add_assoc
abbrev Ou := @Nat.add_mul
abbrev P5 := @Nat.add_sub_cancel_left
abbrev PF := @Nat.add_zero
abbrev Qz := @Nat.ble_eq
abbrev Pk := @Nat.blt_eq
abbrev Qf := @Nat.eq_of_beq_eq_true
abbrev PN := @Nat.eq_of_mul_eq_mul_right
abbrev Q9 := @Nat.le_mul_of_pos_right
abbrev Ov := @Nat.le_refl
abbrev Pn := @Nat.le_trans
abbrev QT := @Nat.lt_of_le_of_lt
abbrev QC := @Nat.lt_of_lt_of_le
abbrev Oh := @Nat.lt_succ_self
abbrev QJ := @Nat.lt_trichotomy
abbrev O7 := @Nat.min_eq_left
abbrev PT := @Nat.mod_eq_of_lt
abbrev On := @Nat.mul_le_mul_right
abbrev QE := @Nat.mul_one
abbrev Rx := @Nat.one_mul
abbrev Po := @Nat.sub_self
abbrev Q4 := @Nat.sub_zero
abbrev OB := @Nat.zero_add
abbrev PG := @Nat.zero_mul
abbrev RR := @Option.bind_eq_some_iff
abbrev QA := @Option.bind_some
abbrev P0 := @Option.getD_some
abbrev Rj := @Option.map_eq_some_iff
abbrev Rc := @Option.map_none
abbrev Py := @Option.map_some
abbrev N8 := @Option.some.inj
abbrev Ox := @Option.some.injEq
abbrev Qj := @Prod.mk.injEq
abbrev Oe := @Go.Result.andThen_ok
abbrev Oi := @Go.Sem.run_bind
abbrev Oq := @Go.Sem.run_pure
abbrev QW := @UInt8.lt_iff_toNat_lt
abbrev N3 := @Go.Value
abbrev Pc := @congrArg
abbrev PC := @decide_eq_true_eq
abbrev Sd := @decide_false
abbrev Sk := @Go.heap_alloc_new
abbrev P1 := @if_false
abbrev Ob := @if_neg
abbrev Oc := @if_pos
abbrev RQ := @if_true
abbrev Og := @of_decide_eq_false
abbrev N9 := @of_decide_eq_true
abbrev Sj := @Go.run_firstCells_some
abbrev PD := @Go.run_underlying
abbrev N4 := @trivial
abbrev Ry := @Go.wpList_step
end Go.Sim
namespace Go.Sim
open Go Go.RowKit
open _root_.Go.IntKind (i64 u64 u32 u8)
abbrev Hp:=Nat->Option Obj
def Hp.le (H H':Hp):Prop:=∀ b o,H b=some o->H' b=some o
theorem O1 (H:Hp):H.le H:=λ_ _ h=>h
theorem Rv {A B C:Hp} (h:A.le B) (k:B.le C):A.le C:=λb o x=>k b o (h b o x)
def Hp.add (H:Hp) (b:Nat) (o:Obj):Hp:=λc=>if c=b then some o else H c
theorem Hp.K2 {H:Hp}{b:Nat}{o:Obj} (h:H b=none):H.le (H.add b o):=by
 intro c x I;unfold Hp.add
 split
 ·rename_i e; subst e; rw [h] at I; cases I
 ·exact I
theorem Hp.wO (H:Hp) (b:Nat) (o:Obj):H.add b o b=some o:=by simp [Hp.add]
def snap (w:World):Hp:=λb=>w.heap[b]?
def k6 (w:World) (T:TypeId) (sz:Nat) (v:N3) (n:Nat) (xs:List N3):Prop:=
  xs.length=n*sz /\
  ((v=.slice none 0 0/\n=0) \/
   ∃ g off cap I,v=.slice (some ⟨g,off,none⟩) n cap/\w.heap[g]? = some (.cells I T (0,0))/\n<=cap/\cap<=maxLen/\off+cap*sz<=I.size/\(I.toList.drop off).take (n*sz)=xs)
theorem k6.lt {w:World}{T:TypeId}{sz:Nat}{v:N3}{n:Nat}{xs:List N3} (h:k6 w T sz v n xs) {k:Nat} (I:v.ownBlock=some k):k<w.heap.size:=by
 rcases h.2 with ⟨rfl,_⟩ | ⟨g,off,cap,J,rfl,O,_⟩
 ·simp [Value.ownBlock] at I
 ·simp only [Value.ownBlock,Ox] at I
  subst I;exact (Pt.1 O).1
theorem k6.kept {w w':World}{T:TypeId}{sz:Nat}{v:N3}{n:Nat}{xs:List N3}{row:Option Nat} (h:k6 w T sz v n xs) (Y:w.grownBy w' row)
  (O:∀ b,v.ownBlock=some b->row≠some b):k6 w' T sz v n xs:=by
 refine ⟨h.1,?_⟩;rcases h.2 with hn | ⟨g,off,cap,J,rfl,I,rest⟩
 ·exact .inl hn
 ·refine .inr ⟨g,off,cap,J,rfl,?_,rest⟩
  rw [Y.block g (Pt.1 I).1 (λe=>O g rfl e.symm)];exact I
theorem k6.nil (w:World) (T:TypeId) (sz:Nat):k6 w T sz (.slice none 0 0) 0 []:=⟨by simp,.inl ⟨rfl,rfl⟩⟩
def Lw (fs:List Nat) (P:World->Prop):Prop:=∀ w w' row,P w->w.grownBy w' row->(∀ b ∈ fs,row≠some b)->P w'
inductive bU where
 | obj (b:Nat) (o:Obj)
 | row (v:N3) (T:TypeId) (sz n:Nat) (xs:List N3)
 | pack (fs:List Nat) (P:World->Prop)
def bU.yI:bU->Option Nat
 | .obj b _=>some b
 | .row v _ _ _ _=>v.ownBlock
 | .pack _ _=>none
def bU.uE:bU->List Nat
 | .obj b _=>[b]
 | .row v _ _ _ _=>v.ownBlock.toList
 | .pack fs _=>fs
def bU.ok (w:World):bU->Prop
 | .obj b o=>w.heap[b]? = some o
 | .row v T sz n xs=>k6 w T sz v n xs
 | .pack fs P=>P w/\(∀ b ∈ fs,b<w.heap.size)/\Lw fs P
theorem bU.EU {w:World}{r:bU} (h:r.ok w) {b:Nat} (I:b ∈ r.uE):b<w.heap.size:=by
 cases r with
 | obj c o=>
  simp only [bU.uE,OU] at I;subst I;simp only [bU.ok] at h;exact (Pt.1 h).1
 | row v T sz n xs=>exact k6.lt h (Option.mem_toList.1 I)
 | pack fs P=>exact h.2.1 b I
theorem bU.kept {w w':World}{r:bU}{row:Option Nat} (h:r.ok w) (J:w.grownBy w' row) (I:∀ b ∈ r.uE,row≠some b):r.ok w':=by
 cases r with
 | obj c o=>
  simp only [bU.ok] at h ⊢;rw [J.block c (Pt.1 h).1 (λe=>I c (by simp [bU.uE]) e.symm)]
  exact h
 | row v T sz n xs=>
  exact k6.kept h J (λb O=>I b (Option.mem_toList.2 O))
 | pack fs P=>exact ⟨h.2.2 _ _ _ h.1 J I,λb O=>QC (h.2.1 b O) J.size,h.2.2⟩
theorem IC {l l':List bU} (h:l.Sublist l'):(l.flatMap bU.uE).Sublist (l'.flatMap bU.uE):=by
 induction h with
 | slnil=>exact Qc _
 | cons a _ ih=>rw [Pm]; exact ih.trans (List.sublist_append_right _ _)
 | cons_cons a _ ih=>rw [Pm,Pm]; exact (Qc _).append ih
structure St (B:Nat) (w0:World) (H:Hp) (M:List bU) (w:World):Prop where
 below:Below B w0 w
 le:B<=w.heap.size
 vH:∀ b o,H b=some o->w.heap[b]? = some o
 ok:∀ r ∈ M,r.ok w
 lo:∀ r ∈ M,∀ b ∈ r.uE,B<=b/\H b=none
 nd:(M.flatMap bU.uE).Nodup
section
variable {B:Nat}{w0 w w':World}{H H':Hp}{M M':List bU}
theorem St.lt (h:St B w0 H M w) {b:Nat}{o:Obj} (I:H b=some o):b<w.heap.size:=(Pt.1 (h.vH b o I)).1
theorem St.perm (h:St B w0 H M w) (p:M.Perm M'):St B w0 H M' w:=
 ⟨h.below,h.le,h.vH,λr I=>h.ok r (p.mem_iff.2 I),λr I=>h.lo r (p.mem_iff.2 I),(p.flatMap_right _).nodup_iff.1 h.nd⟩
theorem St.sub (h:St B w0 H M w) (p:M'.Sublist M):St B w0 H M' w:=
 ⟨h.below,h.le,h.vH,λr I=>h.ok r (p.subset I),λr I=>h.lo r (p.subset I),h.nd.sublist (IC p)⟩
theorem St.tail {r:bU} (h:St B w0 H (r::M) w):St B w0 H M w:=h.sub (List.sublist_cons_self _ _)
theorem St.drewN (h:St B w0 H M w) (n:Nat):St B w0 H M { w with drawn:=n }:=
 ⟨⟨h.below.os,h.below.tape,h.below.output,h.below.size,h.below.block⟩,h.le,h.vH,λr I=>by
  have:=h.ok r I;cases r with
  | pack fs P=>exact ⟨this.2.2 w _ none this.1 ⟨rfl,rfl,rfl,Ov _,λ_ _ _=>rfl⟩ (by simp),this.2⟩
  | _=>exact this,h.lo,h.nd⟩
theorem St.grow (h:St B w0 H M w) (I:w.grownBy w' none):St B w0 H M w':=
  ⟨h.below.grown I h.le (λ_ e=>by cases e),Pn h.le I.size,
   λb o J=>by rw [I.block b (h.lt J) (by simp)]; exact h.vH b o J,
   λr O=>bU.kept (h.ok r O) I (by simp),h.lo,h.nd⟩
theorem St.Ch {r r':bU} (h:St B w0 H (r::M) w) (Z:w.grownBy w' r.yI) (hok:r'.ok w')
  (hf:∀ b,r'.yI=some b->r.yI=some b\/w.heap.size<=b) (hr:r.uE=r.yI.toList:=by rfl) (Y:r'.uE=r'.yI.toList:=by rfl):St B w0 H (r'::M) w':=by
 have J:=h.nd;have vH:∀ {b:Nat},r.yI=some b->b ∈ r.uE:=λe=>by rw [hr,e]; simp
 refine ⟨h.below.grown Z h.le (λk e=>(h.lo r (Oa ..) k (vH e)).1),Pn h.le Z.size,?_,?_,?_,?_⟩
 ·intro b o I
  rw [Z.block b (h.lt I) (λe=>by have:=(h.lo r (Oa ..) b (vH e.symm)).2; rw [this] at I; cases I)]
  exact h.vH b o I
 ·intro s hs
  rcases OM.1 hs with rfl | hs
  ·exact hok
  ·refine bU.kept (h.ok s (Od _ hs)) Z ?_
   intro b I e;simp only [Pm] at J;exact (OO.1 J).2.2 b (vH e) b (P9.2 ⟨s,hs,I⟩) rfl
 ·intro s hs b I
  rcases OM.1 hs with rfl | hs
  ·rw [Y] at I
   rcases hf b (Option.mem_toList.1 I) with e | e
   ·exact h.lo r (Oa ..) b (vH e)
   ·refine ⟨Pn h.le e,?_⟩
    cases hh:H b with
    | none=>rfl
    | some o=>exact absurd (h.lt hh) (by omega)
  ·exact h.lo s (Od _ hs) b I
 ·have hm:(M.flatMap bU.uE).Nodup:=(h.tail).nd
  rw [Pm,Y];cases hf':r'.yI with
  | none=>simpa using hm
  | some b=>
   simp only [Option.toList,R6,QV];refine ⟨λO=>?_,hm⟩;obtain ⟨s,hs,I⟩:=P9.1 O;rcases hf b hf' with e | e
   ·simp only [Pm] at J
    exact (OO.1 J).2.2 b (vH e) b O rfl
   ·have:=bU.EU (h.ok s (Od _ hs)) I
    omega
theorem St.add {r':bU} (h:St B w0 H M w) (hg:w.grownBy w' none) (O:r'.ok w') (hf:∀ b,r'.yI=some b->w.heap.size<=b) (Y:r'.uE=r'.yI.toList:=by rfl):
  St B w0 H (r'::M) w':=by
 have Z:St B w0 H (.row (.slice none 0 0) 0 1 0 []::M) w:=by
  refine ⟨h.below,h.le,h.vH,?_,?_,?_⟩
  ·intro r I
   rcases OM.1 I with rfl | I
   ·exact k6.nil _ _ _
   ·exact h.ok r I
  ·intro r I
   rcases OM.1 I with rfl | I
   ·intro b J; simp [bU.uE,Value.ownBlock] at J
   ·exact h.lo r I
  ·simpa [Pm,bU.uE,Value.ownBlock] using h.nd
 exact Z.Ch hg O (λb J=>.inr (hf b J)) rfl Y
theorem St.Ar (h:St B w0 H M w) (T:TypeId) (sz:Nat):St B w0 H (.row (.slice none 0 0) T sz 0 []::M) w:=
 h.add ⟨rfl,rfl,rfl,Ov _,λ_ _ _=>rfl⟩ (k6.nil _ _ _) (by intro b I; simp [bU.yI,Value.ownBlock] at I)
theorem St.alloc (h:St B w0 H M w) (o:Obj):St B w0 H (.obj w.heap.size o::M) (w.alloc o):=
 h.add (World.grownBy_alloc w o none) (Sk w o) (by intro b I; simp only [bU.yI,Ox] at I; omega)
theorem St.vj {b:Nat}{o:Obj} (h:St B w0 H M w) (hm:bU.obj b o ∈ M):w.heap[b]? = some o:=h.ok _ hm
theorem St.freeze {b:Nat}{o:Obj} (h:St B w0 H (.obj b o::M) w):H.le (H.add b o)/\St B w0 (H.add b o) M w:=by
 have Z:=h.lo _ (Oa ..) b (by simp [bU.uE])
 refine ⟨Hp.K2 Z.2,h.below,h.le,?_,h.tail.ok,?_,h.tail.nd⟩
 ·intro c x J
  unfold Hp.add at J
  split at J
  ·rename_i e; subst e; cases J; exact h.ok _ (Oa ..)
  ·exact h.vH c x J
 ·intro r Y c O
  refine ⟨(h.tail.lo r Y c O).1,?_⟩;unfold Hp.add
  split
  ·rename_i e; subst e
   have I:=h.nd;simp only [Pm,bU.uE,R6,QV] at I;exact absurd (P9.2 ⟨r,Y,O⟩) I.1
  ·exact (h.tail.lo r Y c O).2
theorem St.M7 {b:Nat}{o:Obj} (h:St B w0 H' M w) (Z:B<=b) (O:H.le H') (hb:H b=none) (Y:H' b=some o):St B w0 H (.obj b o::M) w:=by
 refine ⟨h.below,h.le,λc x hx=>h.vH c x (O c x hx),?_,?_,?_⟩
 ·intro r I
  rcases OM.1 I with rfl | I
  ·exact h.vH b o Y
  ·exact h.ok r I
 ·intro r I c J
  rcases OM.1 I with rfl | I
  ·simp only [bU.uE,OU] at J; subst J; exact ⟨Z,hb⟩
  ·refine ⟨(h.lo r I c J).1,?_⟩
   cases hh:H c with
   | none=>rfl
   | some x=>have:=O c x hh; rw [(h.lo r I c J).2] at this; cases this
 ·simp only [Pm,bU.uE,R6,QV]
  refine ⟨λhm=>?_,h.nd⟩;obtain ⟨r,I,J⟩:=P9.1 hm;have:=(h.lo r I b J).2;rw [this] at Y; cases Y
theorem St.Ka (h:St B w0 H' M w) (I:H.le H'):St B w0 H M w:=
 ⟨h.below,h.le,λb o J=>h.vH b o (I b o J),h.ok,λr O b J=>⟨(h.lo r O b J).1,by
  cases Y:H b with
  | none=>rfl
  | some x=>have:=I b x Y; rw [(h.lo r O b J).2] at this; cases this⟩,h.nd⟩
def K7 (rs:List bU):bU:=.pack (rs.flatMap bU.uE) (λw=>∀ r ∈ rs,r.ok w)
theorem Gf (rs:List bU):Lw (rs.flatMap bU.uE) (λw=>∀ r ∈ rs,r.ok w):=λ_ _ _ h Y I r J=>
 bU.kept (h r J) Y (λb O=>I b (P9.2 ⟨r,J,O⟩))
theorem St.pack {rs:List bU} (h:St B w0 H (rs++M) w):St B w0 H (K7 rs::M) w:=
 ⟨h.below,h.le,h.vH,λr I=>by
  rcases OM.1 I with rfl | I
  ·refine ⟨λr I=>h.ok r (N6 _ I),λb J=>?_,Gf rs⟩
   obtain ⟨r,I,J⟩:=P9.1 J;exact bU.EU (h.ok r (N6 _ I)) J
  ·exact h.ok r (OR _ I),λr I b J=>by
  rcases OM.1 I with rfl | I
  ·obtain ⟨r,I,J⟩:=P9.1 J
   exact h.lo r (N6 _ I) b J
  ·exact h.lo r (OR _ I) b J,by
  have:=h.nd;rw [RA] at this;rw [Pm]; exact this⟩
theorem St.begin (w:World):St w.heap.size w (snap w) [] w:=
 ⟨Below.refl _ _,Ov _,λ_ _ h=>h,by simp,by simp,by simp⟩
end
abbrev Env:=List (Nat×N3)
def lk:Env->Nat->Option N3
 | [],_=>none
 | (t,v)::r,u=>bif Nat.beq t u then some v else lk r u
structure Sl (N:Nat) (L:Env) (a:Act):Prop where
 size:a.tmps.size=N
 CN:a.defers=[]
 get:∀ t v,lk L t=some v->a.tmps[t]? = some v
theorem tz (t:Nat) (v:N3) (r:Env) (u:Nat):lk ((t,v)::r) u=if t=u then some v else lk r u:=by
 show (bif Nat.beq t u then some v else lk r u)=_
 by_cases h:t=u
 ·subst h; simp
 ·have:Nat.beq t u=false:=by
   cases I:Nat.beq t u with
   | false=>rfl
   | true=>exact absurd (Qf I) h
  simp [this,h]
theorem Sl.put {N:Nat}{L:Env}{a:Act}{d:Nat}{v:N3} (h:Sl N L a) (J:Nat.blt d N=true):Sl N ((d,v)::L) (a.put (some d) v):=by
 have I:d<N:=by simpa [Pk] using J
 refine ⟨by simp [Act.put,h.size],h.CN,λt u ht=>?_⟩
 rw [tz] at ht;simp only [Act.put,Rk]
 by_cases e:d=t
 ·subst e
  simp only [RQ,Ox] at ht;subst ht;simp [h.size,I]
 ·simp only [Ob e] at ht ⊢
  exact h.get t u ht
def Kept (L:Env):Env->Prop
 | []=>True
 | (t,v)::r=>lk L t=some v/\Kept L r
theorem Kept.lk {L:Env}:∀ {L':Env},Kept L L'->∀ t v,lk L' t=some v->lk L t=some v
 | [],_,t,v,h=>by simp [Sim.lk] at h
 | (u,x)::r,hk,t,v,h=>by
  rw [tz] at h
  split at h
  ·rename_i e; subst e; cases h; exact hk.1
  ·exact Kept.lk hk.2 t v h
theorem Sl.LQ {N:Nat}{L L':Env}{a:Act} (h:Sl N L a) (I:Kept L L'):Sl N L' a:=
 ⟨h.size,h.CN,λt v ht=>h.get t v (I.lk t v ht)⟩
def ev (L:Env):Operand->Option N3
 | .tmp t=>lk L t
 | .const v=>some v
 | .func f=>some (.func (.func f) #[] #[])
 | .global g=>some (.pointer (some ⟨g,0,none⟩))
theorem Sl.ev {N:Nat}{L:Env}{a:Act} (h:Sl N L a) {x:Operand}{v:N3} (I:Sim.ev L x=some v):a.eval x=v:=by
 cases x with
 | tmp t=>simp [Act.eval,OP,h.get t v I]
 | const u=>simpa [Sim.ev,Act.eval] using I
 | func f=>simpa [Sim.ev,Act.eval] using I
 | global g=>simpa [Sim.ev,Act.eval] using I
def gd (ops:Array Oper) (L:Env) (o:Oper):Option Bool:=
 match o.guard with
 | none=>some true
 | some (j,want)=>
  match (ops[j]?).bind (·.dst) with
  | none=>none
  | some t=>match lk L t with
   | some (.bool b)=>some (b == want)
   | some (.tuple _)=>some false
   | _=>none
theorem Sl.gd {N:Nat}{L:Env}{a:Act} (h:Sl N L a) {ops:Array Oper}{o:Oper}{c:Bool} (I:Sim.gd ops L o=some c):Region.wanted o (yielded ops a.tmps)=c:=by
 unfold Sim.gd at I;unfold Region.wanted;cases O:o.guard with
 | none=>simp only [O,Ox] at I; simp [<- I]
 | some p=>
  obtain ⟨j,Y⟩:=p;simp only [O] at I;cases J:(ops[j]?).bind (·.dst) with
  | none=>simp [J] at I
  | some t=>
   simp only [J] at I;cases hl:lk L t with
   | none=>simp [hl] at I
   | some v=>
    cases v with
    | bool b=>
     simp only [hl,Ox] at I;have:=h.get t _ hl;simp [yielded,J,this,<- I]
    | tuple vs=>
     simp only [hl,Ox] at I;have:=h.get t _ hl;simp [yielded,J,this,<- I]
    | _=>simp [hl] at I
structure Cx where
 P:Program
 N:Nat
 B:Nat
 w0:World
abbrev mj:=Exit->Act->World->Prop
def W (x:Cx) (ops:Array Oper) (Q:mj) (rest:List Oper) (H:Hp) (M:List bU) (L:Env):Prop:=
 ∀ a w,Sl x.N L a->St x.B x.w0 H M w->wpList x.P ops Q rest a w
def C (x:Cx) (c:Code) (Q:mj) (H:Hp) (M:List bU) (L:Env):Prop:=
 ∀ a w,Sl x.N L a->St x.B x.w0 H M w->c.wp x.P Q a w
def E (x:Cx) (e:Exit) (Q:mj) (H:Hp) (M:List bU) (L:Env):Prop:=
 ∀ a w,Sl x.N L a->St x.B x.w0 H M w->Q e a w
section
variable {x:Cx}{ops:Array Oper}{Q:mj}{rest:List Oper}{H:Hp}{M M':List bU}{L L':Env}
theorem cL {c d:Code} (k:C x c (Exit.then (d.wp x.P Q) Q) H M L):C x (.seq c d) Q H M L:=
 λa w hs ht=>wp_seq (k a w hs ht)
theorem kb (k:E x .normal Q H M L):C x .skip Q H M L:=λa w hs ht=>wp_skip (k a w hs ht)
theorem vK {id:Nat} (k:E x (.exit id) Q H M L):C x (.exit id) Q H M L:=λa w hs ht=>wp_exit (k a w hs ht)
theorem nX (k:E x .ret Q H M L):C x .ret Q H M L:=λa w hs ht=>wp_ret (k a w hs ht)
theorem ue {id:Nat}{c:Code} (k:C x c (Exit.inBlock id Q) H M L):C x (.block id c) Q H M L:=
 λa w hs ht=>wp_block (k a w hs ht)
theorem bJ {c:Operand}{p q:Code}{b:Bool} (I:ev L c=some (.bool b)) (J:b=true->C x p Q H M L) (O:b=false->C x q Q H M L):
  C x (.cond c p q) Q H M L:=
 λa w hs ht=>wp_cond_split (hs.ev I) (λe=>J e a w hs ht) (λe=>O e a w hs ht)
theorem aN {id:Nat}{l:List Oper} (k:W x l.toArray Q l H M L):C x (.region id l.toArray false) Q H M L:=
 λa w hs ht=>wp_region_lit (k a w hs ht)
theorem aT (k:E x .normal Q H M L):W x ops Q [] H M L:=λa w hs ht=>wpList_nil (k a w hs ht)
theorem aM {d:Code}{I:mj} (k:C x d I H M L):E x .normal (Exit.then (d.wp x.P I) Q) H M L:=λa w hs ht=>k a w hs ht
theorem zD {c:Code} (hL:Kept L L') (I:M.Perm M') (k:C x c Q H M' L'):C x c Q H M L:=
 λa w hs ht=>k a w (hs.LQ hL) (ht.perm I)
theorem Bk {e:Exit} (hL:Kept L L') (I:M.Perm M') (k:E x e Q H M' L'):E x e Q H M L:=
 λa w hs ht=>k a w (hs.LQ hL) (ht.perm I)
theorem KH {c:Code} (I:M'.Sublist M) (k:C x c Q H M' L):C x c Q H M L:=λa w hs ht=>k a w hs (ht.sub I)
theorem Gr {e:Exit} (I:M'.Sublist M) (k:E x e Q H M' L):E x e Q H M L:=λa w hs ht=>k a w hs (ht.sub I)
theorem oy (I:M.Perm M') (k:W x ops Q rest H M' L):W x ops Q rest H M L:=λa w hs ht=>k a w hs (ht.perm I)
theorem tF {o:Oper}{d:Nat} (Z:o.dst=some d) (hg:gd ops L o=some true) (hN:Nat.blt d x.N=true)
  (I:∀ a w,Sl x.N L a->St x.B x.w0 H M w->∃ v O,(execOp a.eval o).run x.P w=.ok (.value v) O/\∃ H' M',St x.B x.w0 H' M' O/\W x ops Q rest H' M' ((d,v)::L)):
  W x ops Q (o::rest) H M L:=by
 intro a w hs ht;obtain ⟨v,O,hr,H',M',J,k⟩:=I a w hs ht;refine Ry λK Y=>?_;rw [Oc (hs.gd hg)];unfold Oper.wp;rw [hr];simp only [Oper.upon,Z];exact Y _ _ (k _ _ (hs.put hN) J)
theorem iL {o:Oper}{d:Nat}{v:N3} (J:o.dst=some d) (O:gd ops L o=some true) (hN:Nat.blt d x.N=true)
  (I:∀ a w,Sl x.N L a->St x.B x.w0 H M w->(execOp a.eval o).run x.P w=.ok (.value v) w) (k:W x ops Q rest H M ((d,v)::L)):
  W x ops Q (o::rest) H M L:=
 tF J O hN λa w hs ht=>⟨v,w,I a w hs ht,H,M,ht,k⟩
theorem Lz {o:Oper}{d:Nat} (J:o.dst=some d) (O:gd ops L o=some false) (hN:Nat.blt d x.N=true) (k:W x ops Q rest H M ((d,undef)::L)):
  W x ops Q (o::rest) H M L:=by
 intro a w hs ht;refine Ry λK I=>?_;rw [Ob (by rw [hs.gd O]; simp),J]
 exact I _ _ (k _ _ (hs.put hN) ht)
theorem Ks {o:Oper} (J:o.dst=none) (O:gd ops L o=some false) (k:W x ops Q rest H M L):W x ops Q (o::rest) H M L:=by
 intro a w hs ht;refine Ry λK I=>?_;rw [Ob (by rw [hs.gd O]; simp),J]
 exact I _ _ (k _ _ hs ht)
theorem Bt {o:Oper} (Z:o.dst=none) (hg:gd ops L o=some true)
  (I:∀ a w,Sl x.N L a->St x.B x.w0 H M w->∃ O,(execOp a.eval o).run x.P w=.ok .skip O/\∃ H' M',St x.B x.w0 H' M' O/\W x ops Q rest H' M' L):
  W x ops Q (o::rest) H M L:=by
 intro a w hs ht;obtain ⟨O,hr,H',M',J,k⟩:=I a w hs ht;refine Ry λK Y=>?_;rw [Oc (hs.gd hg)];unfold Oper.wp;rw [hr];simp only [Oper.upon,Z];exact Y _ _ (k _ _ hs J)
def ub (B:Nat) (w0:World) (I:Hp->List bU->N3->Prop):Ending->World->Prop
 | .returned v,w'=>∃ H' M',St B w0 H' M' w'/\I H' M' v
 | _,_=>False
def xG (L:Env):List Operand->Option (List N3)
 | []=>some []
 | y::r=>match ev L y,xG L r with
  | some v,some vs=>some (v::vs)
  | _,_=>none
theorem Sl.xG {L:Env}{a:Act}{N:Nat} (hs:Sl N L a):∀ {l:List Operand}{vs:List N3},Sim.xG L l=some vs->l.map a.eval=vs
 | [],vs,h=>by simp [Sim.xG] at h; simp [h]
 | y::r,vs,h=>by
  simp only [Sim.xG] at h;cases I:Sim.ev L y with
  | none=>simp [I] at h
  | some v=>
   cases J:Sim.xG L r with
   | none=>simp [I,J] at h
   | some O=>
    simp only [I,J,Ox] at h;subst h;simp [hs.ev I,Sl.xG hs J]
theorem dG {d:Nat}{f:FuncId}{args:List Operand}{Y:Array TypeId}{ty:TypeId}{pos:String}{I:Array Edge}{g:Option (Nat×Bool)}{vs:List N3}
  {Φ:Hp->List bU->N3->Prop}
  (O:∀ as w,(callFunc f as).run x.P w=.ok (.enter f as) w)
  (hg:gd ops L ⟨some d,.call ⟨.value (.func f),args.toArray,Y⟩,ty,pos,I,g⟩=some true) (hN:Nat.blt d x.N=true)
  (hv:xG L args=some vs)
  (hc:∀ w,St x.B x.w0 H M w->Calls x.P f vs.toArray w (ub x.B x.w0 Φ))
  (k:∀ v H' M',Φ H' M' v->W x ops Q rest H' M' ((d,v)::L)):
  W x ops Q (⟨some d,.call ⟨.value (.func f),args.toArray,Y⟩,ty,pos,I,g⟩::rest) H M L:=by
 intro a w hs ht;refine Ry λK hK=>?_;rw [Oc (hs.gd hg)];have J:args.toArray.map a.eval=vs.toArray:=by simp [hs.xG hv]
 have hr:(execOp a.eval ⟨some d,.call ⟨.value (.func f),args.toArray,Y⟩,ty,pos,I,g⟩).run x.P w=.ok (.enter f vs.toArray) w:=by
  simp only [execOp,resolve,J,Act.eval,Deferred.ofValue,Oi,Oq,Oe,invoke];simp [O]
 unfold Oper.wp;rw [hr];simp only [Oper.upon];refine (hc w ht).mono λe w' Z=>?_;cases e with
 | returned v=>
  obtain ⟨H',M',h1,h2⟩:=Z;exact hK _ _ (k v H' M' h2 _ _ (hs.put hN) h1)
 | panicked c=>exact Z.elim
 | outgrown=>exact Z.elim
end
def xA (x:Cx) (H:Hp) (M:List bU) (ad:Addr) (v:N3):Prop:=∀ w,St x.B x.w0 H M w->w.cell? ad=some v
def zG (H:Hp) (ad:Addr) (v:N3):Prop:=∃ arr T fz,H ad.block=some (.cells arr T fz)/\ad.spot=none/\arr[ad.off]? = some v
theorem R8 {w:World}{ad:Addr}{arr:Array N3}{T:TypeId}{fz:Nat×Nat}{v:N3} (h:w.heap[ad.block]? = some (.cells arr T fz)) (hs:ad.spot=none) (I:arr[ad.off]? = some v):
  w.cell? ad=some v:=by
 simp [World.cell?,h,hs,I]
theorem zG.at {x:Cx}{H:Hp}{M:List bU}{ad:Addr}{v:N3} (h:zG H ad v):xA x H M ad v:=by
 obtain ⟨arr,T,fz,I,hs,J⟩:=h;exact λw ht=>R8 (ht.vH _ _ I) hs J
theorem zG.mono {H H':Hp}{ad:Addr}{v:N3} (I:H.le H') (h:zG H ad v):zG H' ad v:=by
 obtain ⟨arr,T,fz,J,hs,O⟩:=h;exact ⟨arr,T,fz,I _ _ J,hs,O⟩
theorem vm {x:Cx}{H:Hp}{M:List bU}{b off:Nat}{l:List N3}{T:TypeId}{fz:Nat×Nat}{v:N3}
  (hm:bU.obj b (.cells l.toArray T fz) ∈ M) (I:l[off]? = some v):xA x H M ⟨b,off,none⟩ v:=by
 intro w ht;exact R8 (ht.vj hm) rfl (by simpa using I)
def xQ (x:Cx) (H:Hp) (M:List bU) (ad:Addr) (cs:List N3):Prop:=∀ j c,cs[j]? = some c->xA x H M (ad.add j) c
def ky (H:Hp) (ad:Addr) (cs:List N3):Prop:=∀ j c,cs[j]? = some c->zG H (ad.add j) c
theorem ky.at {x:Cx}{H:Hp}{M:List bU}{ad:Addr}{cs:List N3} (h:ky H ad cs):xQ x H M ad cs:=λj c I=>(h j c I).at
theorem ky.mono {H H':Hp}{ad:Addr}{cs:List N3} (I:H.le H') (h:ky H ad cs):ky H' ad cs:=λj c J=>(h j c J).mono I
theorem B2 {x:Cx}{H:Hp}{M:List bU}{b:Nat}{l:List N3}{T:TypeId}{fz:Nat×Nat}
  (hm:bU.obj b (.cells l.toArray T fz) ∈ M):xQ x H M ⟨b,0,none⟩ l:=by
 intro j c I;rw [O9,OB];exact vm hm I
theorem run_loadCellsFrom {P:Program}{w:World}{ad:Addr}:∀ (cs:List N3) (i:Nat) (acc:Array N3),(∀ j c,cs[j]? = some c->w.cell? (ad.add (i+j))=some c) ->
  (loadCellsFrom ad i cs.length acc).run P w=.ok (acc++cs.toArray) w
 | [],i,acc,_=>by simp [loadCellsFrom]
 | c::cs,i,acc,h=>by
  have I:=h 0 c rfl;simp only [PF] at I;have ih:=run_loadCellsFrom (P:=P) (w:=w) (ad:=ad) cs (i+1) (acc.push c) (λj d J=>by have:=h (j+1) d (by simpa using J); rwa [show i+(j+1)=i+1+j from by omega] at this)
  simp only [Oj,loadCellsFrom,load,Oi,Sem.run,I,Oe];rw [ih];simp
section
variable {x:Cx}{ops:Array Oper}{Q:mj}{rest:List Oper}{H:Hp}{M M':List bU}{L L':Env}
variable {d:Nat}{ty:TypeId}{pos:String}{aft:Array Edge}{g:Option (Nat×Bool)}
theorem bZ {y:Operand}{v:N3} (I:gd ops L ⟨some d,.move y,ty,pos,aft,g⟩=some true) (hN:Nat.blt d x.N=true)
  (J:ev L y=some v) (k:W x ops Q rest H M ((d,v)::L)):W x ops Q (⟨some d,.move y,ty,pos,aft,g⟩::rest) H M L:=
 iL rfl I hN (λa w hs _=>by simp [execOp,hs.ev J]) k
theorem aL {y:Operand}{v:N3} (I:gd ops L ⟨some d,.assign y,ty,pos,aft,g⟩=some true) (hN:Nat.blt d x.N=true)
  (J:ev L y=some v) (k:W x ops Q rest H M ((d,v)::L)):W x ops Q (⟨some d,.assign y,ty,pos,aft,g⟩::rest) H M L:=
 iL rfl I hN (λa w hs _=>by simp [execOp,hs.ev J]) k
theorem Br {c y z:Operand}{b:Bool}{v:N3} (O:gd ops L ⟨some d,.pick c y z,ty,pos,aft,g⟩=some true) (hN:Nat.blt d x.N=true)
  (J:ev L c=some (.bool b)) (I:(if b then ev L y else ev L z)=some v) (k:W x ops Q rest H M ((d,v)::L)):
  W x ops Q (⟨some d,.pick c y z,ty,pos,aft,g⟩::rest) H M L:=
 iL rfl O hN (λa w hs _=>by
  cases b
  ·simp only [Ps,P1] at I; simp [execOp,hs.ev J,hs.ev I,asBool]
  ·simp only [RQ] at I; simp [execOp,hs.ev J,hs.ev I,asBool]) k
def zW:BinOp->N3->N3->Option N3
 | .add,.int k a,.int k' b=>if k=k' then some (.int k (k.wrap (a+b))) else none
 | .sub,.int k a,.int k' b=>if k=k' then some (.int k (k.wrap (a-b))) else none
 | .mul,.int k a,.int k' b=>if k=k' then some (.int k (k.wrap (a*b))) else none
 | .lss,.int k a,.int k' b=>if k=k' then some (.bool (decide (a<b))) else none
 | .leq,.int k a,.int k' b=>if k=k' then some (.bool (decide (a<=b))) else none
 | .gtr,.int k a,.int k' b=>if k=k' then some (.bool (decide (b<a))) else none
 | .geq,.int k a,.int k' b=>if k=k' then some (.bool (decide (b<=a))) else none
 | .eql,.int k a,.int k' b=>if k=k' then some (.bool (decide (a=b))) else none
 | .neq,.int k a,.int k' b=>if k=k' then some (.bool (!decide (a=b))) else none
 | .and,.int k a,.int k' b=>if k=k' then some (.int k (k.wrap (BitVec.ofInt k.bits a &&& BitVec.ofInt k.bits b).toNat)) else none
 | .or,.int k a,.int k' b=>if k=k' then some (.int k (k.wrap (BitVec.ofInt k.bits a ||| BitVec.ofInt k.bits b).toNat)) else none
 | .xor,.int k a,.int k' b=>if k=k' then some (.int k (k.wrap (BitVec.ofInt k.bits a ^^^ BitVec.ofInt k.bits b).toNat)) else none
 | .eql,.string s,.string t=>some (.bool (decide (s=t)))
 | .neq,.string s,.string t=>some (.bool (!decide (s=t)))
 | .lss,.string s,.string t=>some (.bool (Op.bytesLess s.toList t.toList))
 | _,_,_=>none
theorem KN (s t:N2):(s.toList == t.toList)=decide (s=t):=by
 rw [Bool.eq_iff_iff];simp only [beq_iff_eq,PC];constructor
 ·intro h
  have hs:∀ u:N2,u.toList=u.data.toList:=Sg;rw [hs,hs] at h;exact ByteArray.ext (Array.ext' h)
 ·intro h; rw [h]
theorem EX (a b:Int):(a == b)=decide (a=b):=by rw [Bool.eq_iff_iff]; simp
theorem Hx {p:Prop}[Decidable p] {v w:N3} (h:(if p then some v else none)=some w):p/\v=w:=by
 split at h
 ·exact ⟨‹_›,by simpa using h⟩
 ·cases h
theorem FC {I:BinOp}{a b v:N3} (t:TypeId) (P:Program) (w:World) (h:zW I a b=some v):(binOp I t a b).run P w=.ok v w:=by
 unfold zW at h
 split at h
 case h_1 | h_2 | h_3 | h_4 | h_5 | h_6 | h_7 | h_8 | h_9 | h_10 | h_11 | h_12=>
  obtain ⟨rfl,rfl⟩:=Hx h
  first
   | (simp [binOp,Op.intArith]; done)
   | (simp [binOp,Op.intBits]; done)
   | (simp [binOp,Op.intCmp]; done)
   | (simp [binOp,Op.intCmp,bne,EX]; done)
 case h_13 | h_14 | h_15=>cases h; simp [binOp,Op.stringOp,<- KN]
 case h_16=>cases h
theorem CQ {I:BinOp}{a b v:N3} (t:TypeId) (y z:Operand) (P:Program) (w:World) (h:zW I a b=some v):(eqGuard I t y z a b).run P w=.ok () w:=by
 unfold zW at h
 split at h <;> first
  | (simp [eqGuard]; done)
  | (cases h; done)
theorem qy {I:BinOp}{t u:TypeId}{y z:Operand}{a b v:N3} (O:gd ops L ⟨some d,.binOp I t y z u,ty,pos,aft,g⟩=some true) (hN:Nat.blt d x.N=true)
  (Y:ev L y=some a) (Z:ev L z=some b) (J:zW I a b=some v) (k:W x ops Q rest H M ((d,v)::L)):
  W x ops Q (⟨some d,.binOp I t y z u,ty,pos,aft,g⟩::rest) H M L:=
 iL rfl O hN (λc w hs _=>by
  simp only [execOp,hs.ev Y,hs.ev Z,Oi,CQ t y z x.P w J,Oe,FC t x.P w J,Oq]) k
theorem sT {t u:TypeId}{y z:Operand}{I:IntKind}{m n:Int} (J:gd ops L ⟨some d,.binOp .quo t y z u,ty,pos,aft,g⟩=some true) (hN:Nat.blt d x.N=true)
  (O:ev L y=some (.int I m)) (Y:ev L z=some (.int I n)) (hn:n≠0) (k:W x ops Q rest H M ((d,.int I (I.wrap (m.tdiv n)))::L)):
  W x ops Q (⟨some d,.binOp .quo t y z u,ty,pos,aft,g⟩::rest) H M L:=
 iL rfl J hN (λc w hs _=>by
  simp [execOp,hs.ev O,hs.ev Y,eqGuard,binOp,Op.intDiv,hn]) k
theorem GM {t u:TypeId}{y z:Operand}{I:IntKind}{m n:Int} (J:gd ops L ⟨some d,.binOp .rem t y z u,ty,pos,aft,g⟩=some true) (hN:Nat.blt d x.N=true)
  (O:ev L y=some (.int I m)) (Y:ev L z=some (.int I n)) (hn:n≠0) (k:W x ops Q rest H M ((d,.int I (m.tmod n))::L)):
  W x ops Q (⟨some d,.binOp .rem t y z u,ty,pos,aft,g⟩::rest) H M L:=
 iL rfl J hN (λc w hs _=>by
  simp [execOp,hs.ev O,hs.ev Y,eqGuard,binOp,Op.intDiv,hn]) k
def KG:UnOp->N3->Option N3
 | .neg,.int k n=>some (.int k (k.wrap (0-n)))
 | .not,.bool b=>some (.bool !b)
 | .xor,.int k n=>some (.int k (k.wrap (BitVec.ofInt k.bits (if k.signed then -1 else k.max) ^^^ BitVec.ofInt k.bits n).toNat))
 | _,_=>none
theorem LA {J:UnOp}{t:TypeId}{y:Operand}{a v:N3} (O:gd ops L ⟨some d,.unOp J t y,ty,pos,aft,g⟩=some true) (hN:Nat.blt d x.N=true)
  (Y:ev L y=some a) (I:KG J a=some v) (k:W x ops Q rest H M ((d,v)::L)):
  W x ops Q (⟨some d,.unOp J t y,ty,pos,aft,g⟩::rest) H M L:=
 iL rfl O hN (λc w hs _=>by
  simp only [execOp,hs.ev Y];unfold KG at I
  split at I <;> first
   | (cases I; simp [Op.unary,Op.intArith,Op.intBits]; done)
   | cases I) k
theorem Ly {T:TypeId}{y:Operand}{v:N3}{cs:List N3} (J:gd ops L ⟨some d,.box T y,ty,pos,aft,g⟩=some true) (hN:Nat.blt d x.N=true)
  (O:ev L y=some v) (I:v.cells=cs.toArray)
  (k:∀ b,W x ops Q rest H (.obj b (.cells cs.toArray T (0,0))::M) ((d,.pointer (some ⟨b,0,none⟩))::L)):
  W x ops Q (⟨some d,.box T y,ty,pos,aft,g⟩::rest) H M L:=
 tF rfl J hN (λc w hs ht=>⟨_,w.alloc (.cells cs.toArray T),by
  simp only [execOp,hs.ev O,Instr.box,newVar,newRow,newObj,Oi,Oq,Sem.run,Oe,I,World.alloc],_,_,ht.alloc _,k _⟩)
theorem I3 {T:TypeId}{z:N3}{cs:List N3} (J:gd ops L ⟨some d,.alloc T,ty,pos,aft,g⟩=some true) (hN:Nat.blt d x.N=true)
  (O:∀ w,(zeroValue T).run x.P w=.ok z w) (I:z.cells=cs.toArray)
  (k:∀ b,W x ops Q rest H (.obj b (.cells cs.toArray T (0,0))::M) ((d,.pointer (some ⟨b,0,none⟩))::L)):
  W x ops Q (⟨some d,.alloc T,ty,pos,aft,g⟩::rest) H M L:=
 tF rfl J hN (λc w hs ht=>⟨_,w.alloc (.cells cs.toArray T),by
  simp only [execOp,Instr.alloc,O,newVar,newRow,newObj,Oi,Oq,Sem.run,Oe,I,World.alloc],_,_,ht.alloc _,k _⟩)
theorem ql {T:TypeId}{y:Operand}{ad:Addr}{v:N3} (O:gd ops L ⟨some d,.load T y,ty,pos,aft,g⟩=some true) (hN:Nat.blt d x.N=true)
  (I:∀ w,(isAgg T).run x.P w=.ok false w) (Y:ev L y=some (.pointer (some ad))) (J:xA x H M ad v)
  (k:W x ops Q rest H M ((d,v)::L)):W x ops Q (⟨some d,.load T y,ty,pos,aft,g⟩::rest) H M L:=
 iL rfl O hN (λc w hs ht=>by
  simp [execOp,hs.ev Y,Instr.loadAt,Instr.sureAddr,loadVar,I,load,Sem.run,J w ht]) k
theorem nN {T:TypeId}{n:Nat}{y:Operand}{ad:Addr}{cs:List N3} (O:gd ops L ⟨some d,.load T y,ty,pos,aft,g⟩=some true) (hN:Nat.blt d x.N=true)
  (I:∀ w,(isAgg T).run x.P w=.ok true w) (hn:∀ w,(sizeOf T).run x.P w=.ok n w) (Z:ev L y=some (.pointer (some ad))) (J:xQ x H M ad cs) (hl:cs.length=n)
  (k:W x ops Q rest H M ((d,.agg cs.toArray)::L)):W x ops Q (⟨some d,.load T y,ty,pos,aft,g⟩::rest) H M L:=
 iL rfl O hN (λc w hs ht=>by
  have h:=run_loadCellsFrom (P:=x.P) (w:=w) (ad:=ad) cs 0 #[] (λj v Y=>by rw [OB]; exact J j v Y w ht)
  rw [hl] at h;simp [execOp,hs.ev Z,Instr.loadAt,Instr.sureAddr,loadVar,I,hn,loadCells,h]) k
theorem uf {T:TypeId}{y:Operand}{ad:Addr}{f n o:Nat}{fs:Array Field}{I:Field} (hg:gd ops L ⟨some d,.fieldAddr T y f,ty,pos,aft,g⟩=some true) (hN:Nat.blt d x.N=true)
  (Y:∀ w,(underlying T).run x.P w=.ok (.struct fs) w) (Z:fs[f]? = some I) (hn:∀ w,(sizeOf I.type).run x.P w=.ok n w) (J:Nat.beq n 0=false) (ho:I.offset=o)
  (hy:ev L y=some (.pointer (some ad))) (k:W x ops Q rest H M ((d,.pointer (some (ad.add o)))::L)):
  W x ops Q (⟨some d,.fieldAddr T y f,ty,pos,aft,g⟩::rest) H M L:=
 iL rfl hg hN (λc w hs ht=>by
  have O:¬ n=0:=λe=>by subst e; simp at J
  simp [execOp,hs.ev hy,Instr.fieldAt,Y,Z,Instr.sureAddr,fieldPlace,hn,O,ho]) k
theorem pM {y:Operand}{ad:Addr} (I:gd ops L ⟨some d,.nilCheck y,ty,pos,aft,g⟩=some true) (hN:Nat.blt d x.N=true)
  (J:ev L y=some (.pointer (some ad))) (k:W x ops Q rest H M ((d,.pointer (some ad))::L)):
  W x ops Q (⟨some d,.nilCheck y,ty,pos,aft,g⟩::rest) H M L:=
 iL rfl I hN (λc w hs ht=>by simp [execOp,hs.ev J]) k
theorem sr {y:Operand}{vs:Array N3}{i:Nat}{v:N3} (I:gd ops L ⟨some d,.extract y i,ty,pos,aft,g⟩=some true) (hN:Nat.blt d x.N=true)
  (O:ev L y=some (.tuple vs)) (J:vs[i]? = some v) (k:W x ops Q rest H M ((d,v)::L)):
  W x ops Q (⟨some d,.extract y i,ty,pos,aft,g⟩::rest) H M L:=
 iL rfl I hN (λc w hs ht=>by simp [execOp,hs.ev O,Instr.extract,J]) k
theorem Kr {y z:Operand}{I:Array TypeId}{J:IntKind}{m n:Int} (O:gd ops L ⟨some d,.call ⟨.builtin .min,#[y,z],I⟩,ty,pos,aft,g⟩=some true) (hN:Nat.blt d x.N=true)
  (Y:ev L y=some (.int J m)) (Z:ev L z=some (.int J n)) (k:W x ops Q rest H M ((d,.int J (min m n))::L)):
  W x ops Q (⟨some d,.call ⟨.builtin .min,#[y,z],I⟩,ty,pos,aft,g⟩::rest) H M L:=
 iL rfl O hN (λc w hs ht=>by
  have:(if n<m then n else m)=min m n:=by rw [Int.min_def]; split <;> split <;> omega
  simp [execOp,resolve,invoke,builtin,hs.ev Y,hs.ev Z,Builtin.min_,Builtin.min2,this]) k
theorem Kq {y z:Operand}{I:Array TypeId}{J:IntKind}{m n:Int} (O:gd ops L ⟨some d,.call ⟨.builtin .max,#[y,z],I⟩,ty,pos,aft,g⟩=some true) (hN:Nat.blt d x.N=true)
  (Y:ev L y=some (.int J m)) (Z:ev L z=some (.int J n)) (k:W x ops Q rest H M ((d,.int J (max m n))::L)):
  W x ops Q (⟨some d,.call ⟨.builtin .max,#[y,z],I⟩,ty,pos,aft,g⟩::rest) H M L:=
 iL rfl O hN (λc w hs ht=>by
  have:(if n > m then n else m)=max m n:=by rw [Int.max_def]; split <;> split <;> omega
  simp [execOp,resolve,invoke,builtin,hs.ev Y,hs.ev Z,Builtin.max_,Builtin.max2,this]) k
theorem Bp {t e:TypeId}{y:Operand}{a:Option Addr}{m n:Nat} (J:gd ops L ⟨some d,.call ⟨.builtin .len,#[y],#[t]⟩,ty,pos,aft,g⟩=some true) (hN:Nat.blt d x.N=true)
  (I:∀ w,(underlying t).run x.P w=.ok (.slice e) w) (O:ev L y=some (.slice a n m)) (k:W x ops Q rest H M ((d,.int .i64 n)::L)):
  W x ops Q (⟨some d,.call ⟨.builtin .len,#[y],#[t]⟩,ty,pos,aft,g⟩::rest) H M L:=
 iL rfl J hN (λc w hs ht=>by
  simp [execOp,resolve,invoke,builtin,hs.ev O,Builtin.len_,I,goInt]) k
theorem oI {t:TypeId}{y:Operand}{s:N2} (J:gd ops L ⟨some d,.call ⟨.builtin .len,#[y],#[t]⟩,ty,pos,aft,g⟩=some true) (hN:Nat.blt d x.N=true)
  (I:∀ w,(underlying t).run x.P w=.ok .string w) (O:ev L y=some (.string s)) (k:W x ops Q rest H M ((d,.int .i64 s.size)::L)):
  W x ops Q (⟨some d,.call ⟨.builtin .len,#[y],#[t]⟩,ty,pos,aft,g⟩::rest) H M L:=
 iL rfl J hN (λc w hs ht=>by
  simp [execOp,resolve,invoke,builtin,hs.ev O,Builtin.len_,I,goInt]) k
theorem GG {t e:TypeId}{sz:Nat}{y z:Operand}{ad:Addr}{n m:Nat}{kk:IntKind}{i:Int} (Z:gd ops L ⟨some d,.indexAddr t y z,ty,pos,aft,g⟩=some true) (hN:Nat.blt d x.N=true)
  (Y:∀ w,(underlying t).run x.P w=.ok (.slice e) w) (hs:∀ w,(sizeOf e).run x.P w=.ok sz w)
  (hy:ev L y=some (.slice (some ad) n m)) (hz:ev L z=some (.int kk i)) (O:0<=i) (h1:i.toNat<n)
  (k:W x ops Q rest H M ((d,.pointer (some (ad.add (i.toNat*sz))))::L)):
  W x ops Q (⟨some d,.indexAddr t y z,ty,pos,aft,g⟩::rest) H M L:=
 iL rfl Z hN (λc w I ht=>by
  have J:i<(n:Int):=by omega
  simp [execOp,I.ev hy,I.ev hz,Instr.indexAt,asIntOf,Y,hs,O,J]) k
end
class aE (α:Type) where
 sz:Nat
 E:Hp->List N3->α->Prop
 len:∀ {H cs x},E H cs x->cs.length=sz
 mono:∀ {H H' cs x},H.le H'->E H cs x->E H' cs x
 one:∀ {H cs x},E H cs x->∀ c ∈ cs,c.oneCell'=true
instance:aE Int where
 sz:=1
 E _ cs n:=cs=[.int .i64 n]
 len h:=by rw [h]; rfl
 mono _ h:=h
 one h c hc:=by rw [h] at hc; simp at hc; subst hc; rfl
instance:aE Bool where
 sz:=1
 E _ cs b:=cs=[.bool b]
 len h:=by rw [h]; rfl
 mono _ h:=h
 one h c hc:=by rw [h] at hc; simp at hc; subst hc; rfl
instance:aE N2 where
 sz:=1
 E _ cs s:=cs=[.string s]
 len h:=by rw [h]; rfl
 mono _ h:=h
 one h c hc:=by rw [h] at hc; simp at hc; subst hc; rfl
instance:aE UInt8 where
 sz:=1
 E _ cs n:=cs=[.int .u8 n.toNat]
 len h:=by rw [h]; rfl
 mono _ h:=h
 one h c hc:=by rw [h] at hc; simp at hc; subst hc; rfl
instance:aE UInt32 where
 sz:=1
 E _ cs n:=cs=[.int .u32 n.toNat]
 len h:=by rw [h]; rfl
 mono _ h:=h
 one h c hc:=by rw [h] at hc; simp at hc; subst hc; rfl
instance:aE UInt64 where
 sz:=1
 E _ cs n:=cs=[.int .u64 n.toNat]
 len h:=by rw [h]; rfl
 mono _ h:=h
 one h c hc:=by rw [h] at hc; simp at hc; subst hc; rfl
def aV {α:Type}[aE α] (H:Hp) (v:N3) (xs:List α):Prop:=
 ((∃ a,v=.slice a 0 0)/\xs=[]) \/
 ∃ b off cap arr T fz,v=.slice (some ⟨b,off,none⟩) xs.length cap/\xs.length<=cap/\cap<=maxLen/\H b=some (.cells arr T fz)/\off+cap*aE.sz α<=arr.size /\
  ∀ k e,xs[k]? = some e->∃ cs,aE.E H cs e/\∀ j c,cs[j]? = some c->arr[off+k*aE.sz α+j]? = some c
theorem aV.mono {α:Type}[aE α] {H H':Hp}{v:N3}{xs:List α} (I:H.le H') (h:aV H v xs):aV H' v xs:=by
 rcases h with h | ⟨b,off,cap,arr,T,fz,J,O,Y,Z,h5,h6⟩
 ·exact .inl h
 ·exact .inr ⟨b,off,cap,arr,T,fz,J,O,Y,I _ _ Z,h5,λk e he=>let ⟨cs,a,b⟩:=h6 k e he; ⟨cs,aE.mono I a,b⟩⟩
instance {α:Type}[aE α]:aE (List α) where
 sz:=1
 E H cs xs:=∃ v,cs=[v]/\aV H v xs
 len h:=by obtain ⟨v,rfl,_⟩:=h; rfl
 mono hle h:=by obtain ⟨v,e,I⟩:=h; exact ⟨v,e,I.mono hle⟩
 one h c hc:=by
  obtain ⟨v,rfl,I⟩:=h;simp at hc; subst hc
  rcases I with ⟨⟨a,rfl⟩,_⟩ | ⟨b,off,cap,arr,T,fz,rfl,_⟩ <;> rfl
def Value.base:N3->Addr
 | .slice (some a) _ _=>a
 | _=>⟨0,0,none⟩
def Value.pX:N3->Nat
 | .slice _ _ c=>c
 | _=>0
theorem aV.len {α:Type}[aE α] {H:Hp}{v:N3}{xs:List α} (h:aV H v xs):∃ a c,v=.slice a xs.length c/\xs.length<=c/\c<=maxLen:=by
 rcases h with ⟨⟨a,rfl⟩,rfl⟩ | ⟨b,off,cap,arr,T,fz,rfl,I,J,_⟩
 ·exact ⟨a,0,rfl,Ov _,by unfold maxLen; omega⟩
 ·exact ⟨_,cap,rfl,I,J⟩
theorem aV.val {α:Type}[aE α] {H:Hp}{v:N3}{xs:List α} (h:aV H v xs) {k:Nat}{e:α} (I:xs[k]? = some e):v=.slice (some (Value.base v)) xs.length (Value.pX v):=by
 rcases h with ⟨⟨a,rfl⟩,rfl⟩ | ⟨b,off,cap,arr,T,fz,rfl,_⟩
 ·simp at I
 ·rfl
theorem aV.elem {α:Type}[aE α] {H:Hp}{v:N3}{xs:List α} (h:aV H v xs) {k:Nat}{e:α} (I:xs[k]? = some e):
  ∃ cs,aE.E H cs e/\ky H ((Value.base v).add (k*aE.sz α)) cs:=by
 rcases h with ⟨⟨a,rfl⟩,rfl⟩ | ⟨b,off,cap,arr,T,fz,rfl,h2,h3,J,h5,O⟩
 ·simp at I
 ·obtain ⟨cs,Y,Z⟩:=O k e I
  refine ⟨cs,Y,λj c hc=>⟨arr,T,fz,?_,?_,?_⟩⟩
  ·simp only [Value.base,O9]; exact J
  ·simp only [Value.base,O9]
  ·simp only [Value.base,O9]; exact Z j c hc
section
variable {x:Cx}{ops:Array Oper}{Q:mj}{rest:List Oper}{H:Hp}{M M':List bU}{L L':Env}
variable {d:Nat}{ty:TypeId}{pos:String}{aft:Array Edge}{g:Option (Nat×Bool)}
theorem Cv {α:Type}[aE α] {t e:TypeId}{y z:Operand}{v:N3}{xs:List α}{el:α}{kk:IntKind}{i:Int} (Y:gd ops L ⟨some d,.indexAddr t y z,ty,pos,aft,g⟩=some true) (hN:Nat.blt d x.N=true)
  (O:∀ w,(underlying t).run x.P w=.ok (.slice e) w) (hs:∀ w,(sizeOf e).run x.P w=.ok (aE.sz α) w)
  (Z:ev L y=some v) (hR:aV H v xs) (hz:ev L z=some (.int kk i)) (J:0<=i) (I:xs[i.toNat]? = some el)
  (k:W x ops Q rest H M ((d,.pointer (some ((Value.base v).add (i.toNat*aE.sz α))))::L)):
  W x ops Q (⟨some d,.indexAddr t y z,ty,pos,aft,g⟩::rest) H M L:=
 GG Y hN O hs (by rw [Z,<- hR.val I]) hz J (by rcases N_.1 I with ⟨h,_⟩; exact h) k
theorem GH {α:Type}[aE α] {t e:TypeId}{y:Operand}{v:N3}{xs:List α} (J:gd ops L ⟨some d,.call ⟨.builtin .len,#[y],#[t]⟩,ty,pos,aft,g⟩=some true) (hN:Nat.blt d x.N=true)
  (I:∀ w,(underlying t).run x.P w=.ok (.slice e) w) (O:ev L y=some v) (hR:aV H v xs) (k:W x ops Q rest H M ((d,.int .i64 xs.length)::L)):
  W x ops Q (⟨some d,.call ⟨.builtin .len,#[y],#[t]⟩,ty,pos,aft,g⟩::rest) H M L:=by
 obtain ⟨a,c,rfl,_⟩:=hR.len;exact Bp J hN I O k
end
def over (l:List N3) (k:Nat):List N3->List N3
 | []=>l
 | v::vs=>over (l.set k v) (k+1) vs
theorem pI (vs:List N3):∀ (l:List N3) (k:Nat),(over l k vs).length=l.length:=by
 induction vs with
 | nil=>intro l k; rfl
 | cons v vs ih=>intro l k; simp [over,ih]
theorem lM {P:Program} (b o:Nat) (T:TypeId):∀ (vs:List N3) (i:Nat) (l:List N3) (w:World),w.heap[b]? = some (.cells l.toArray T (0,0)) ->
  o+i+vs.length<=l.length->(∀ v ∈ vs,v.oneCell'=true) ->
  ∃ O,(storeCells ⟨b,o,none⟩ vs i).run P w=.ok () O/\O.heap[b]? = some (.cells (over l (o+i) vs).toArray T (0,0))/\w.grownBy O (some b)
 | [],i,l,w,h,_,_=>⟨w,rfl,h,⟨rfl,rfl,rfl,Ov _,λ_ _ _=>rfl⟩⟩
 | v::vs,i,l,w,h,hb,h1=>by
  have Y:o+i<l.length:=by simp at hb; omega
  have hc:w.cell? ⟨b,o+i,none⟩=some l[o+i]:=R8 (w:=w) (ad:=⟨b,o+i,none⟩) h rfl (by simp [Y])
  have hf:w.frozen? ⟨b,o+i,none⟩=false:=by simp [World.frozen?,h]
  have Z:(w.setCell ⟨b,o+i,none⟩ v).heap[b]? = some (.cells (l.set (o+i) v).toArray T (0,0)):=by
   simp [World.setCell,R3,h]
  obtain ⟨O,hr,hh,I⟩:=lM (P:=P) b o T vs (i+1) (l.set (o+i) v) (w.setCell ⟨b,o+i,none⟩ v) Z (by simp at hb ⊢; omega) (λu hu=>h1 u (Od _ hu))
  refine ⟨O,?_,?_,?_⟩
  ·have hv:=h1 v (Oa ..)
   simp only [storeCells,Oi,store,O9];have:(Sem.store Mode.plain ⟨b,o+i,none⟩ v (Sem.pure ())).run P w=.ok () (w.setCell ⟨b,o+i,none⟩ v):=by
    cases v <;> first
     | (simp [Sem.run,hc,hf]; done)
     | simp [Value.oneCell'] at hv
   rw [this];simpa using hr
  ·simpa [over,Qi] using hh
  ·exact ⟨I.os,I.tape,I.output,by have:=I.size; simpa [World.setCell] using this,λk hk J=>by
    rw [I.block k (by simpa [World.setCell] using hk) J]
    exact Below.heap_setCell _ _ _ _ (by intro e; subst e; exact J rfl)⟩
section
variable {x:Cx}{ops:Array Oper}{Q:mj}{rest:List Oper}{H:Hp}{M M':List bU}{L L':Env}
variable {ty:TypeId}{pos:String}{aft:Array Edge}{g:Option (Nat×Bool)}
theorem Bu {T E:TypeId}{n:Nat}{y z:Operand}{b o:Nat}{l cs out:List N3}{v:N3} (hg:gd ops L ⟨none,.store T y z,ty,pos,aft,g⟩=some true)
  (hn:∀ w,(sizeOf T).run x.P w=.ok n w) (hy:ev L y=some (.pointer (some ⟨b,o,none⟩))) (hz:ev L z=some v) (hv:v.cells=cs.toArray) (hl:cs.length=n)
  (Y:Nat.ble (o+cs.length) l.length=true) (O:∀ c ∈ cs,c.oneCell'=true) (ho:over l o cs=out)
  (k:W x ops Q rest H (.obj b (.cells out.toArray E (0,0))::M) L):
  W x ops Q (⟨none,.store T y z,ty,pos,aft,g⟩::rest) H (.obj b (.cells l.toArray E (0,0))::M) L:=
 Bt rfl hg (λa w hs ht=>by
  subst ho;have J:=ht.vj (Oa ..);obtain ⟨w',hr,hh,I⟩:=lM (P:=x.P) b o E cs 0 l w J (by simpa [Qz] using Y) O
  refine ⟨w',?_,H,_,ht.Ch (r':=.obj b (.cells (over l o cs).toArray E (0,0))) I hh (λc Z=>.inl Z),k⟩;simp [execOp,hs.ev hy,hs.ev hz,Instr.storeAt,Instr.sureAddr,storeVar,hn,hl,hv,hr])
end
theorem least {p:Nat->Prop}:∀ n,p n->∃ m,p m/\∀ k,p k->m<=k:=by
 intro n
 induction n using Nat.strongRecOn with
 | _ n ih=>
  intro h
  by_cases I:∃ m,m<n/\p m
  ·obtain ⟨m,hm,O⟩:=I; exact ih m hm O
  ·exact ⟨n,h,λk J=>by
    by_cases e:k<n
    ·exact absurd ⟨k,e,J⟩ I
    ·omega⟩
theorem IP {P:Program}{Q:mj}{c:Code} (J:Nat->Act->World->Prop) {n:Nat}{a:Act}{w:World} (h0:J n a w)
  (I:∀ n a w,J n a w->c.wp P (Exit.then (λY w'=>∃ m,m<n/\J m Y w') Q) a w):(Code.loop c).wp P Q a w:=by
 have hex:∀ a w,(∃ n,J n a w)->∃ m,J m a w/\∀ k,J k a w->m<=k:=λa w ⟨n,h⟩=>least n h
 let μ:Act->World->Nat:=λa w=>Classical.epsilon (λm=>J m a w/\∀ k,J k a w->m<=k)
 have O:∀ a w,(∃ n,J n a w)->J (μ a w) a w/\∀ k,J k a w->μ a w<=k:=λa w h=>Classical.epsilon_spec (p:=λm=>J m a w/\∀ k,J k a w->m<=k) (hex a w h);refine wp_loop (λa w=>∃ n,J n a w) μ ⟨n,h0⟩ λa w h=>?_;refine wp_mono (I (μ a w) a w (O a w h).1) ?_;intro e Y w' hq;cases e with
 | normal=>
  obtain ⟨m,hm,Z⟩:=hq;exact ⟨⟨m,Z⟩,QT ((O Y w' ⟨m,Z⟩).2 m Z) hm⟩
 | _=>exact hq
abbrev A0:=Nat->Hp->List bU->Env->Prop
def Gn (x:Cx) (S:A0) (n:Nat) (a:Act) (w:World):Prop:=
 ∃ m,m<n/\∃ H M L,S m H M L/\Sl x.N L a/\St x.B x.w0 H M w
theorem zE {x:Cx}{c:Code}{Q:mj}{H:Hp}{M:List bU}{L:Env} (S:A0) (n:Nat) (I:S n H M L)
  (step:∀ n H M L,S n H M L->C x c (Exit.then (Gn x S n) Q) H M L):C x (.loop c) Q H M L:=by
 intro a w hs ht;refine IP (λn a w=>∃ H M L,S n H M L/\Sl x.N L a/\St x.B x.w0 H M w) ⟨H,M,L,I,hs,ht⟩ ?_;intro n a w ⟨H,M,L,h,hs,ht⟩;exact step n H M L h a w hs ht
theorem gV {x:Cx}{S:A0}{Q:mj}{H:Hp}{M:List bU}{L:Env}{n m:Nat} (hm:m<n) (h:S m H M L):E x .normal (Exit.then (Gn x S n) Q) H M L:=
 λ_ _ hs ht=>⟨m,hm,H,M,L,h,hs,ht⟩
section
variable {x:Cx}{Q:mj}{H:Hp}{M:List bU}{L:Env}{K:Act->World->Prop}
theorem lG (h:E x .ret Q H M L):E x .ret (Exit.then K Q) H M L:=h
theorem tE {id:Nat} (h:E x .ret Q H M L):E x .ret (Exit.inBlock id Q) H M L:=h
theorem lN {id:Nat} (h:E x (.exit id) Q H M L):E x (.exit id) (Exit.then K Q) H M L:=h
theorem pJ {id:Nat} (h:E x .normal Q H M L):E x (.exit id) (Exit.inBlock id Q) H M L:=λa w hs ht=>by
 simp only [Exit.inBlock,RQ]; exact h a w hs ht
theorem tC {id I:Nat} (J:Nat.beq id I=false) (h:E x (.exit id) Q H M L):E x (.exit id) (Exit.inBlock I Q) H M L:=λa w hs ht=>by
 have:¬ id=I:=λe=>by subst e; simp at J
 simp only [Exit.inBlock,Ob this]; exact h a w hs ht
theorem nY {id:Nat} (h:E x .normal Q H M L):E x .normal (Exit.inBlock id Q) H M L:=h
end
abbrev Lt:=Hp->List bU->Env->Prop
theorem rY {x:Cx}{c d:Code}{Q:mj}{H:Hp}{M:List bU}{L:Env} (S:Lt) (rest:∀ H M L,S H M L->C x d Q H M L)
  (k:(∀ H M L,S H M L->E x .normal (Exit.then (d.wp x.P Q) Q) H M L)->C x c (Exit.then (d.wp x.P Q) Q) H M L):C x (.seq c d) Q H M L:=
 cL (k λH M L h=>aM (rest H M L h))
theorem kv {α:Type}{xs ys:List α}{k:Nat} (h:xs.drop k=ys) (J:decide ((k:Int)<(xs.length:Int))=true):
  ∃ y zs,ys=y::zs/\xs[k]? = some y/\xs.drop (k+1)=zs:=by
 have I:k<xs.length:=by have:=N9 J; omega
 refine ⟨xs[k],xs.drop (k+1),?_,N5 I,rfl⟩;rw [<- h,O6 I]
theorem ku {α:Type}{xs ys:List α}{k:Nat} (h:xs.drop k=ys) (I:decide ((k:Int)<(xs.length:Int))=false):ys=[]:=by
 have J:xs.length<=k:=by have:=Og I; omega
 rw [<- h,List.drop_eq_nil_of_le J]
theorem wQ {n:Int} (I:-9223372036854775808<=n) (J:n<=9223372036854775807):i64.wrap n=n:=by
 simp only [IntKind.wrap,IntKind.bits,IntKind.signed,Bool.true_and]
 split <;> rename_i h <;> simp at h <;> omega
theorem dJ {α:Type}{xs:List α}{k:Nat}{y:α} (h:xs[k]? = some y) (hl:xs.length<=maxLen):i64.wrap ((k:Int)+1)=((k+1:Nat):Int):=by
 have I:=(N_.1 h).1;unfold maxLen at hl;rw [wQ (by omega) (by omega)]; rfl
theorem jW {k n:Nat} (h:k<n) (hl:n<=maxLen):i64.wrap ((k:Int)+1)=((k+1:Nat):Int):=by
 unfold maxLen at hl;rw [wQ (by omega) (by omega)]; rfl
theorem aV.fO {α:Type}[aE α] {H:Hp}{v:N3}{xs:List α} (h:aV H v xs):xs.length<=maxLen:=by
 obtain ⟨a,c,_,I,J⟩:=h.len; omega
def A5:Nat->List N3->Env
 | _,[]=>[]
 | i,v::vs=>(i,v)::A5 (i+1) vs
theorem FP (N:Nat):∀ (vs:List N3) (i:Nat) (t:Nat) (v:N3) (pre:List N3),pre.length=i->lk (A5 i vs) t=some v ->
  ((pre++vs).toArray++Array.replicate (N-(pre++vs).length) undef)[t]? = some v:=by
 intro vs
 induction vs with
 | nil=>intro i t v pre _ h; simp [A5,lk] at h
 | cons u vs ih=>
  intro i t v pre I h;simp only [A5,tz] at h
  split at h
  ·rename_i e; subst e; cases h
   simp [Array.getElem?_append,<- I]
  ·have:=ih (i+1) t v (pre++[u]) (by simp [I]) h
   simpa using this
theorem enter {P:Program}{f:FuncId}{fn:Func}{c:Code}{vs:List N3}{N B:Nat}{w0 w:World}{H:Hp}{M:List bU}{Φ:Hp->List bU->N3->Prop}
  (O:P.funcs[f]? = some fn) (J:fn.body=some c) (hN:fn.ntmps=N) (I:Nat.ble vs.length N=true) (ht:St B w0 H M w)
  (k:C ⟨P,N,B,w0⟩ c (bodyPost P fn (ub B w0 Φ)) H M (A5 0 vs)):Calls P f vs.toArray w (ub B w0 Φ):=by
 refine calls_of_wp O J (k _ w ⟨?_,rfl,?_⟩ ht)
 ·have:vs.length<=N:=by simpa [Qz] using I
  simp [hN]; omega
 ·intro t v h
  have:=FP N vs 0 t v [] rfl h;simpa [hN] using this
section
variable {P:Program}{N B:Nat}{w0:World}{fn:Func}{Φ:Hp->List bU->N3->Prop}{H:Hp}{M:List bU}{L:Env}
theorem k5 {t:Nat}{v:N3} (I:fn.results=#[.tmp t]) (hl:lk L t=some v) (h:Φ H M v):E ⟨P,N,B,w0⟩ .ret (bodyPost P fn (ub B w0 Φ)) H M L:=
 λa w hs ht=>⟨hs.CN,v,by rw [results_tmp I]; simp [OP,hs.get t v hl],H,M,ht,h⟩
theorem wu {t u:Nat}{v1 v2:N3} (J:fn.results=#[.tmp t,.tmp u]) (hl:lk L t=some v1) (I:lk L u=some v2) (h:Φ H M (.tuple #[v1,v2])):E ⟨P,N,B,w0⟩ .ret (bodyPost P fn (ub B w0 Φ)) H M L:=
 λa w hs ht=>⟨hs.CN,.tuple #[v1,v2],by rw [results_tmp2 J]; simp [OP,hs.get t v1 hl,hs.get u v2 I],H,M,ht,h⟩
end
section
variable {α σ R:Type}
def idx (l:List α) (i:Int) (k:α->Option R):Option R:=
 if 0<=i then match l[i.toNat]? with
  | some y=>k y
  | none=>none
 else none
theorem aC {l:List α}{i:Int}{k:α->Option R}{r:R} (h:idx l i k=some r):∃ y,0<=i/\l[i.toNat]? = some y/\k y=some r:=by
 unfold idx at h
 split at h
 ·cases hl:l[i.toNat]? with
  | none=>rw [hl] at h; cases h
  | some y=>rw [hl] at h; exact ⟨y,‹_›,rfl,h⟩
 ·cases h
def fU (p:Prop) [Decidable p] (k:Option R):Option R:=if p then k else none
theorem aI {p:Prop}[Decidable p] {k:Option R}{r:R} (h:fU p k=some r):p/\k=some r:=by
 unfold fU at h
 split at h
 ·exact ⟨‹_›,h⟩
 ·cases h
theorem aO {o:Option α}{k:α->Option R}{r:R} (h:o.bind k=some r):∃ y,o=some y/\k y=some r:=by
 cases o with
 | none=>cases h
 | some y=>exact ⟨y,rfl,h⟩
def gM (I:Nat->α->σ->(σ->Option R)->Option R) (k:σ->Option R):Nat->List α->σ->Option R
 | _,[],s=>k s
 | i,y::ys,s=>I i y s (gM I k (i+1) ys)
def mn (I:Nat->σ->(σ->Option R)->Option R) (k:σ->Option R):Nat->Nat->σ->Option R
 | 0,_,s=>k s
 | n+1,i,s=>I i s (mn I k n (i+1))
def cE (I:σ->(σ->Option R)->Option R):Nat->σ->Option R
 | 0,_=>none
 | n+1,s=>I s (cE I n)
def a_:Nat:=1152921504606846976
end
theorem yJ (X Y:Env) (t:Nat):lk (X++Y) t=(lk X t).or (lk Y t):=by
 induction X with
 | nil=>simp [lk]
 | cons p X ih=>
  obtain ⟨u,v⟩:=p;simp only [Qg,tz]
  split <;> simp [ih]
theorem D8 {X:Env}{t:Nat}{v:N3} (h:lk X t=some v):(t,v) ∈ X:=by
 induction X with
 | nil=>simp [lk] at h
 | cons p X ih=>
  obtain ⟨u,w⟩:=p;rw [tz] at h
  split at h
  ·rename_i e; subst e; cases h; exact Oa ..
  ·exact Od _ (ih h)
theorem Sl.more {N:Nat}{L X:Env}{a:Act} (h:Sl N L a) (I:∀ t v,(t,v) ∈ X->a.tmps[t]? = some v):Sl N (L++X) a:=
 ⟨h.size,h.CN,λt v ht=>by
  rw [yJ] at ht;cases hl:lk L t with
  | some u=>rw [hl] at ht; simp at ht; subst ht; exact h.get t _ hl
  | none=>rw [hl] at ht; simp at ht; exact I t v (D8 ht)⟩
theorem Sl.cons {N:Nat}{L:Env}{a:Act}{t:Nat}{v:N3} (h:Sl N L a) (J:a.tmps[t]? = some v):Sl N ((t,v)::L) a:=
 ⟨h.size,h.CN,λu w I=>by
  rw [tz] at I
  split at I
  ·rename_i e; subst e; cases I; exact J
  ·exact h.get u w I⟩
theorem Sl.left {N:Nat}{L X:Env}{a:Act} (h:Sl N (L++X) a):Sl N L a:=
 ⟨h.size,h.CN,λt v ht=>h.get t v (by rw [yJ,ht]; rfl)⟩
def kE (o:Oper):List Nat:=(o.after.toList.filter λe=>Region.binds .any e).map (·.on)
def I0 (l:List Oper) (Φ:Nat->Hp->N3->Prop) (H:Hp):List Nat->Env->(Env->Prop)->Prop
 | [],L,k=>k L
 | j::I,L,k=>match (l[j]?).bind (·.dst) with
  | some t=>∀ v,Φ j H v->I0 l Φ H I ((t,v)::L) k
  | none=>I0 l Φ H I L k
def One (x:Cx) (H:Hp) (M:List bU) (L:Env) (t:Nat) (I:Hp->N3->Prop):mj:=λe a w=>
 e=.normal/\∃ v H',Sl x.N ((t,v)::L) a/\H.le H'/\St x.B x.w0 H' M w/\I H' v
def I1 (x:Cx) (l:List Oper) (Φ:Nat->Hp->N3->Prop) (H:Hp) (M:List bU) (L:Env):Nat->List Oper->Prop
 | _,[]=>True
 | i,o::r=>(∀ H',H.le H'->∀ X,I0 l Φ H' (kE o) (L++X) (λL'=>W x l.toArray (One x H' M L' (o.dst.getD 0) (Φ i)) [o] H' M L'))/\I1 x l Φ H M L (i+1) r
theorem I1.at {x:Cx}{l:List Oper}{Φ:Nat->Hp->N3->Prop}{H:Hp}{M:List bU}{L:Env}:∀ {r:List Oper}{i:Nat},I1 x l Φ H M L i r->∀ j o,r[j]? = some o ->
  ∀ H',H.le H'->∀ X,I0 l Φ H' (kE o) (L++X) (λL'=>W x l.toArray (One x H' M L' (o.dst.getD 0) (Φ (i+j))) [o] H' M L')
 | [],_,_,j,o,h=>by simp at h
 | p::r,i,hh,0,o,h=>by simp at h; subst h; exact hh.1
 | p::r,i,hh,j+1,o,h=>by
  have:=I1.at hh.2 j o (by simpa using h)
  rwa [show i+1+j=i+(j+1) from by omega] at this
theorem I0.use {l:List Oper}{Φ:Nat->Hp->N3->Prop}{H:Hp}{a:Act}{N:Nat}:∀ {J:List Nat}{L:Env}{k:Env->Prop},I0 l Φ H J L k->Sl N L a ->
  (∀ j ∈ J,∀ t,(l[j]?).bind (·.dst)=some t->∃ v,a.tmps[t]? = some v/\Φ j H v)->∃ Y,k (Y++L)/\Sl N (Y++L) a/\∀ t v,(t,v) ∈ Y->a.tmps[t]? = some v
 | [],L,k,h,hs,_=>⟨[],h,hs,by simp⟩
 | j::J,L,k,h,hs,hv=>by
  unfold I0 at h;cases I:(l[j]?).bind (·.dst) with
  | none=>
   rw [I] at h;exact I0.use h hs (λi hi=>hv i (Od _ hi))
  | some t=>
   rw [I] at h;obtain ⟨v,O,Z⟩:=hv j (Oa ..) t I;obtain ⟨Y,h3,h4,h5⟩:=I0.use (h v Z) (hs.cons O) (λi hi=>hv i (Od _ hi));refine ⟨Y++[(t,v)],by simpa using h3,by simpa using h4,?_⟩
   intro u w hm;rcases Om.1 hm with hm | hm
   ·exact h5 u w hm
   ·simp at hm; obtain ⟨rfl,rfl⟩:=hm; exact O
theorem mem_ready {I:Array Oper}{listed:Array Bool}{i:Nat}:i ∈ Region.ready .any I listed↔i<I.size/\listed.getD i true=false/\∃ o,I[i]? = some o/\∀ j ∈ kE o,listed.getD j false=true:=by
 unfold Region.ready kE;simp only [Pj,OS,PZ,Bool.not_eq_true'];refine and_congr_right λhi=>and_congr_right λ_=>?_;have:I[i]? = some I[i]:=QD hi;simp only [this,Py,P0,Array.all_eq_true',Ox,Pg,Pj,Array.mem_toList_iff,PQ,Bool.not_eq_true'];constructor
 ·intro h
  refine ⟨_,rfl,?_⟩;rintro j ⟨e,⟨O,J⟩,rfl⟩;rcases h e O with h | h
  ·rw [h] at J; cases J
  ·exact h
 ·rintro ⟨o,rfl,h⟩ e O
  cases J:Region.binds .any e with
  | false=>exact .inl rfl
  | true=>exact .inr (h _ ⟨e,⟨O,J⟩,rfl⟩)
section
variable {x:Cx}{l:List Oper}{m:Nat}{Φ:Nat->Hp->N3->Prop}{H:Hp}{M:List bU}{L:Env}{Q:mj}
theorem uF (b:Array Bool) (i j:Nat) (d:Bool) (hi:i<b.size):(b.setIfInBounds i true).getD j d=if j=i then true else b.getD j d:=by
 simp only [OP,Rk]
 by_cases e:i=j
 ·subst e; simp [hi]
 ·simp [e,Ne.symm e]
def left (l:List Oper) (listed:Array Bool):Nat:=(List.range l.length).countP λi=>!listed.getD i true
theorem HG {listed:Array Bool}{i:Nat} (Y:listed.size=l.length) (hi:i<l.length) (hl:listed.getD i true=false):left l (listed.setIfInBounds i true)+1=left l listed:=by
 unfold left;have key:∀ n,i<n->n<=l.length->(List.range n).countP (λj=>!(listed.setIfInBounds i true).getD j true)+1=(List.range n).countP (λj=>!listed.getD j true):=by
  intro n
  induction n with
  | zero=>omega
  | succ n ih=>
   intro Z h2;rw [Ra,List.countP_append,List.countP_append]
   by_cases e:i=n
   ·subst e
    have:∀ n,n<=i->(List.range n).countP (λj=>!(listed.setIfInBounds i true).getD j true)=(List.range n).countP (λj=>!listed.getD j true):=by
     intro n hn;refine List.countP_congr λj J=>?_;have O:=OS.1 J;rw [uF _ _ _ _ (by omega),Ob (by omega)]
    rw [this i (Ov _)];simp only [List.countP_cons,List.countP_nil,uF _ _ _ _ (by omega:i<listed.size),hl,RQ]
    simp
   ·have:=ih (by omega) (by omega)
    have I:(listed.setIfInBounds i true).getD n true=listed.getD n true:=by rw [uF _ _ _ _ (by omega),Ob (by omega)]
    simp only [List.countP_cons,List.countP_nil,I];omega
 exact key l.length hi (Ov _)
end
structure U8 where
 n:Int
 deriving DecidableEq
structure Mp where
 n:Int
 deriving DecidableEq
structure bT where
 n:Int
 deriving DecidableEq
structure Ko where
 n:Int
 deriving DecidableEq
structure Mn where
 n:Int
 deriving DecidableEq
instance:aE U8 where
 sz:=1
 E _ cs x:=cs=[.int .u8 x.n]
 len h:=by rw [h]; rfl
 mono _ h:=h
 one h c hc:=by rw [h] at hc; simp at hc; subst hc; rfl
instance:aE Mp where
 sz:=1
 E _ cs x:=cs=[.int .u16 x.n]
 len h:=by rw [h]; rfl
 mono _ h:=h
 one h c hc:=by rw [h] at hc; simp at hc; subst hc; rfl
instance:aE bT where
 sz:=1
 E _ cs x:=cs=[.int .u32 x.n]
 len h:=by rw [h]; rfl
 mono _ h:=h
 one h c hc:=by rw [h] at hc; simp at hc; subst hc; rfl
instance:aE Ko where
 sz:=1
 E _ cs x:=cs=[.int .u64 x.n]
 len h:=by rw [h]; rfl
 mono _ h:=h
 one h c hc:=by rw [h] at hc; simp at hc; subst hc; rfl
instance:aE Mn where
 sz:=1
 E _ cs x:=cs=[.int .i32 x.n]
 len h:=by rw [h]; rfl
 mono _ h:=h
 one h c hc:=by rw [h] at hc; simp at hc; subst hc; rfl
theorem aV.nil {α:Type}[aE α] {H:Hp}:aV H (.slice none 0 0) ([]:List α):=.inl ⟨⟨_,rfl⟩,rfl⟩
theorem aV.cells {α:Type}[aE α] {H:Hp}{v:N3}{xs:List α} (h:aV H v xs):v.cells=[v].toArray:=by
 obtain ⟨a,c,rfl,_⟩:=h.len; rfl
theorem aV.tN {α:Type}[aE α] {H:Hp}{v:N3}{xs:List α} (h:aV H v xs):v.oneCell'=true:=by
 obtain ⟨a,c,rfl,_⟩:=h.len; rfl
theorem P6:∀ c ∈ ([]:List N3),c.oneCell'=true:=by intro c I; cases I
theorem fW {v:N3}{l:List N3} (h:v.oneCell'=true) (k:∀ c ∈ l,c.oneCell'=true):∀ c ∈ v::l,c.oneCell'=true:=by
 intro c I;rcases OM.1 I with rfl | I
 ·exact h
 ·exact k c I
theorem ky.one {H:Hp}{ad:Addr}{cs:List N3} (h:ky H ad cs) (j:Nat) {c:N3} (I:cs[j]? = some c):zG H (ad.add j) c:=h j c I
theorem ky.part {H:Hp}{ad:Addr}{cs I:List N3}{k:Nat} (h:ky H ad cs) (Z:(cs.drop k).take I.length=I):ky H (ad.add k) I:=by
 intro j c J;have hj:j<I.length:=(N_.1 J).1;have:cs[k+j]? = some c:=by
  rw [<- Z,O5,Oc hj,ON] at J; exact J
 have:=h (k+j) c this;have e:(ad.add k).add j=ad.add (k+j):=by
  unfold Addr.add
  by_cases O:k=0
  ·subst O; simp
  ·by_cases Y:j=0
   ·subst Y; simp
   ·simp [O,Y,Qi]
 rw [e]; exact this
theorem yo {x:Cx}{H:Hp}{M:List bU}{b k:Nat}{l I:List N3}{T:TypeId}{fz:Nat×Nat}
  (hm:bU.obj b (.cells l.toArray T fz) ∈ M) (O:(l.drop k).take I.length=I):xQ x H M ⟨b,k,none⟩ I:=by
 intro j c J;have Y:j<I.length:=(N_.1 J).1;rw [O9];refine vm hm ?_;rw [<- O,O5,Oc Y,ON] at J; exact J
theorem Bl {x:Cx}{e:Exit}{Q:mj}{H:Hp}{M M':List bU}{L L':Env} (k:E x e Q H M' L') (I:M.Perm M') (hL:Kept L L'):E x e Q H M L:=Bk hL I k
theorem fN {α:Type}{b:Bool}{p q r:α} (I:b=true) (h:(if b=true then p else q)=r):p=r:=by rw [Oc I] at h; exact h
theorem fM {α:Type}{b:Bool}{p q r:α} (I:b=false) (h:(if b=true then p else q)=r):q=r:=by rw [Ob (by simp [I])] at h; exact h
section
variable {P:Program}{N B:Nat}{w0:World}{fn:Func}{H H0:Hp}{M:List bU}{L:Env}
end
def qx {α:Type}[aE α] (H:Hp):List N3->List α->Prop
 | cs,[]=>cs=[]
 | cs,y::ys=>∃ c r,cs=c++r/\aE.E H c y/\qx H r ys
section
variable {α:Type}[aE α] {H H':Hp}
theorem qx.nil:qx H [] ([]:List α):=rfl
theorem qx.cons {c r:List N3}{y:α}{ys:List α} (h:aE.E H c y) (k:qx H r ys):qx H (c++r) (y::ys):=⟨c,r,rfl,h,k⟩
theorem qx.mono (I:H.le H'):∀ {cs:List N3}{ys:List α},qx H cs ys->qx H' cs ys
 | _,[],h=>h
 | _,_::_,⟨c,r,e,h,k⟩=>⟨c,r,e,aE.mono I h,qx.mono I k⟩
theorem qx.len:∀ {cs:List N3}{ys:List α},qx H cs ys->cs.length=ys.length*aE.sz α
 | _,[],h=>by rw [show _=[] from h]; simp
 | _,_::ys,⟨c,r,e,h,k⟩=>by rw [e,OG,aE.len h,qx.len k,Oj,Ou]; omega
theorem qx.app:∀ {cs I:List N3}{ys zs:List α},qx H cs ys->qx H I zs->qx H (cs++I) (ys++zs)
 | _,I,[],zs,h,k=>by rw [show _=[] from h]; simpa using k
 | _,I,y::ys,zs,⟨c,r,e,h,k⟩,k2=>⟨c,r++I,by rw [e,OJ],h,qx.app k k2⟩
theorem qx.one:∀ {cs:List N3}{ys:List α},qx H cs ys->∀ c ∈ cs,c.oneCell'=true
 | _,[],h=>by rw [show _=[] from h]; simp
 | _,_::_,⟨c,r,e,h,k⟩=>by
  intro d I;rw [e] at I;rcases Om.1 I with I | I
  ·exact aE.one h d I
  ·exact qx.one k d I
theorem qx.get:∀ {cs:List N3}{ys:List α},qx H cs ys->∀ k e,ys[k]? = some e->∃ c,aE.E H c e/\∀ j v,c[j]? = some v->cs[k*aE.sz α+j]? = some v
 | _,[],h,k,e,he=>by simp at he
 | _,y::ys,⟨c,r,e,h,k⟩,0,x,hx=>by
  simp at hx; subst hx
  exact ⟨c,h,λj v I=>by rw [e,PG,OB,Ph (N_.1 I).1]; exact I⟩
 | _,y::ys,⟨c,r,e,h,k⟩,n+1,x,hx=>by
  obtain ⟨d,J,O⟩:=qx.get k n x (by simpa using hx)
  refine ⟨d,J,λj v I=>?_⟩;rw [e,OD (by rw [aE.len h,Ou]; omega),aE.len h]
  rw [show (n+1)*aE.sz α+j-aE.sz α=n*aE.sz α+j from by rw [Ou]; omega]
  exact O j v I
theorem qx.split:∀ {cs:List N3}{ys:List α} (k:Nat),qx H cs ys->qx H (cs.take (k*aE.sz α)) (ys.take k)/\qx H (cs.drop (k*aE.sz α)) (ys.drop k)
 | cs,ys,0,h=>by rw [PG]; exact ⟨rfl,h⟩
 | _,[],k+1,h=>by rw [show _=[] from h,List.take_nil,List.drop_nil,List.take_nil,List.drop_nil]; exact ⟨rfl,rfl⟩
 | _,y::ys,k+1,⟨c,r,e,h,k2⟩=>by
  obtain ⟨I,J⟩:=qx.split k k2;have hl:=aE.len h;subst e;have e1:(k+1)*aE.sz α=c.length+k*aE.sz α:=by rw [Ou,hl]; omega
  rw [e1,List.take_length_add_append,List.drop_length_add_append];exact ⟨⟨c,_,rfl,h,I⟩,J⟩
theorem qx.put {cs c:List N3}{ys:List α}{y:α}{k:Nat} (h:qx H cs ys) (O:k<ys.length) (Y:aE.E H c y):
  qx H (cs.take (k*aE.sz α)++c++cs.drop ((k+1)*aE.sz α)) (ys.set k y):=by
 obtain ⟨I,_⟩:=h.split k;obtain ⟨_,J⟩:=h.split (k+1);have:ys.set k y=ys.take k++y::ys.drop (k+1):=by rw [Q0,Oc O]
 rw [this,OJ];exact I.app (qx.cons Y J)
theorem aV.flat {v : N3} {ys : List α} (h : aV H v ys) : ∃ cs, qx H cs ys ∧ ((∃ a, v = .slice a 0 0) ∧ ys = [] ∨ ky H (Value.base v) cs ∧ ∃ b off c, v = .slice (some ⟨b, off, none⟩) ys.length c) := by
  rcases h with ⟨⟨a, rfl⟩, rfl⟩ | ⟨b, off, cap, arr, T, fz, rfl, h2, h3, h4, h5, h6⟩
  · exact ⟨[], qx.nil, .inl ⟨⟨a, rfl⟩, rfl⟩⟩
  · have key : ∀ (zs : List α) (k : Nat), (∀ j e, zs[j]? = some e → ∃ cs, aE.E H cs e ∧ ∀ i c, cs[i]? = some c → arr[off + (k + j) * aE.sz α + i]? = some c) →
        ∃ cs, qx H cs zs ∧ ∀ i c, cs[i]? = some c → arr[off + k * aE.sz α + i]? = some c := by
      intro zs
      induction zs with
      | nil => intro k _; exact ⟨[], qx.nil, by simp⟩
      | cons z zs ih =>
        intro k hz;obtain ⟨c, I, O⟩ := hz 0 z rfl;obtain ⟨r, hr, hrr⟩ := ih (k + 1) (fun j e Z => by
          obtain ⟨cs, q1, q2⟩ := hz (j + 1) e (by simpa using Z)
          exact ⟨cs, q1, fun i c I => by rw [show k + 1 + j = k + (j + 1) from by omega]; exact q2 i c I⟩)
        refine ⟨c ++ r, qx.cons I hr, fun i d J => ?_⟩;rw [P7] at J
        split at J
        · simpa using O i d J
        · rename_i hn
          have := hrr _ d J;rw [aE.len I] at this hn;rw [show off + k * aE.sz α + i = off + (k + 1) * aE.sz α + (i - aE.sz α) from by rw [Ou]; omega]
          exact this
    obtain ⟨cs, Y, hh⟩ := key ys 0 (fun j e Z => by simpa using h6 j e Z)
    refine ⟨cs, Y, .inr ⟨fun i c I => ⟨arr, T, fz, ?_, ?_, ?_⟩, b, off, cap, rfl⟩⟩
    · simp only [Value.base, O9]; exact h4
    · simp only [Value.base, O9]
    · simp only [Value.base, O9]; simpa using hh i c I
end
structure Lx (P:Program) (T:TypeId) (sz bytes:Nat) (z:N3):Prop where
 ex:∃ i,P.info? T=some i/\i.size=sz/\i.bytes=bytes/\i.zero=some z
theorem St.vz {α:Type}[aE α] {B:Nat}{w0 w:World}{H:Hp}{M:List bU}{v:N3}{T:TypeId}{n:Nat}{xs:List N3}{ys:List α}
  (h:St B w0 H (.row v T (aE.sz α) n xs::M) w) (hx:qx H xs ys) (hs:0<aE.sz α):∃ H',H.le H'/\St B w0 H' M w/\aV H' v ys:=by
 have hok:=h.ok _ (Oa ..);obtain ⟨hl,hh⟩:=hok;have hn:n=ys.length:=by
  have:=hx.len;rw [hl] at this;exact PN hs this
 subst hn;rcases hh with ⟨rfl,h0⟩ | ⟨g,off,cap,O,rfl,hg,hnc,Z,hcs,J⟩
 ·refine ⟨H,O1 _,h.tail,.inl ⟨⟨_,rfl⟩,OK h0⟩⟩
 ·have h':St B w0 H (.obj g (.cells O T (0,0))::M) w:=by
   refine ⟨h.below,h.le,h.vH,?_,?_,h.nd⟩
   ·intro r I
    rcases OM.1 I with rfl | I
    ·exact hg
    ·exact h.tail.ok r I
   ·intro r I
    rcases OM.1 I with rfl | I
    ·exact h.lo (.row _ T (aE.sz α) ys.length xs) (Oa ..)
    ·exact h.tail.lo r I
  obtain ⟨Y,hst⟩:=h'.freeze;refine ⟨_,Y,hst,.inr ⟨g,off,cap,O,T,(0,0),rfl,hnc,Z,Hp.wO _ _ _,hcs,?_⟩⟩;intro k e he;obtain ⟨c,h1,h2⟩:=(hx.mono Y).get k e he;refine ⟨c,h1,λj d hd=>?_⟩;have:=h2 j d hd;rw [<- J,O5] at this
  split at this
  ·rw [ON] at this; simpa [Qi] using this
  ·cases this
theorem vV:∀ (vs l:List N3) (k:Nat),k+vs.length<=l.length->over l k vs=l.take k++vs++l.drop (k+vs.length)
 | [],l,k,_=>by simp [over]
 | v::vs,l,k,h=>by
  simp only [Oj] at h;rw [over,vV vs _ _ (by simp; omega)]
  have I:k<l.length:=by omega
  rw [OL (by simpa using I)]
  simp only [List.getElem_set_self,Oj];rw [QN (by omega),Qs (by omega)]
  simp only [OJ,Qg,PR];rw [show k+1+vs.length=k+(vs.length+1) from by omega]
theorem B6 {P:Program}{w:World}{t ty e:TypeId}{i:TypeInfo}{z:N3}{size bytes:Nat} (ht:P.underlying t=some (.slice e)) (hi:P.info? e=some i) (hz:i.zero=some z)
  (hsize:i.size=size) (hby:i.bytes=bytes) (hzs:z.cells.size=size) (hsz:0<size)
  {v:N3}{n:Nat}{xs:List N3} (J:k6 w e size v n xs)
  {a:Addr}{m c:Nat}{news:List N3} (hl:news.length=m*size) (O:∀ j u,news[j]? = some u->w.cell? (a.add j)=some u) (h1:∀ u ∈ news,u.oneCell'=true)
  (h63:n+m<=maxLen) (Z:(n+m)*bytes<=140737488355328):
  ∃ v' w',(Builtin.append_ #[t,t] ty #[v,.slice (some a) m c]).run P w=.ok v' w'/\k6 w' e size v' (n+m) (xs++news)/\w.grownBy w' v.ownBlock /\
   (∀ b,v'.ownBlock=some b->v.ownBlock=some b\/w.heap.size<=b):=by
 subst hsize;subst hby;have hsmall:n+m<=9223372036854775807:=by simp only [maxLen] at h63; omega
 have hlen:(xs++news).length=(n+m)*i.size:=by rw [OG,J.1,hl,Ou]
 have grown:∀ (xN:Nat) (row:Option Nat),
   k6 (w.drew.alloc (.cells (xs.toArray++news.toArray++Builtin.zeroCells z.cells (grownCap w (n+m) xN e-(n+m))) e)) e i.size
    (.slice (some ⟨w.heap.size,0,none⟩) (n+m) (grownCap w (n+m) xN e)) (n+m) (xs++news) /\
   w.grownBy (w.drew.alloc (.cells (xs.toArray++news.toArray++Builtin.zeroCells z.cells (grownCap w (n+m) xN e-(n+m))) e)) row:=by
  intro xN row;have hge:=grownCap_ge w (n+m) xN e;have hcm:grownCap w (n+m) xN e<=maxLen:=grownCap_le_maxLen w (n+m) xN e h63;refine ⟨⟨hlen,.inr ⟨w.heap.size,0,_,_,rfl,Sk w.drew _,hge,hcm,?_,?_⟩⟩,⟨rfl,rfl,rfl,by simp,λk hk _=>heap_alloc_old w.drew _ (h:=hk)⟩⟩
  ·simp only [Array.size_append,QX,size_zeroCells,hzs,J.1,hl,<- Ou,OB]
   rw [show n+m+(grownCap w (n+m) xN e-(n+m))=grownCap w (n+m) xN e from by omega]
   exact Ov _
  ·simp only [PB,Array.toList_append,OJ]
   rw [<- OJ,<- hlen];exact Rm
 rcases J.2 with ⟨rfl,rfl⟩ | ⟨g,off,cap,cur,rfl,hg,hnc,hcm,hcs,htake⟩
 ·have hx:xs=[]:=OK (by simpa using J.1)
  subst hx
  by_cases hm:m=0
  ·subst hm
   have hn:news=[]:=OK (by simpa using hl)
   subst hn;refine ⟨.slice none 0 0,w,?_,k6.nil w e i.size,⟨rfl,rfl,rfl,Ov _,λ_ _ _=>rfl⟩,by simp [Value.ownBlock]⟩
   simp [Builtin.append_,PD ht,sizeOf,typeInfo,hi,Builtin.lenOf,Builtin.firstCells,loadCells,loadCellsFrom]
  ·have hr:=run_append_nil (P:=P) w t ty e i z ht hi hz a m c news hl O (by omega) (by omega) (by have hb:=Z; simp only [OB] at hb; omega)
   have I:=grown 0 (Value.ownBlock (.slice none 0 0));simp only [OB,PR,Array.empty_append] at I ⊢;exact ⟨_,_,hr,I.1,I.2,λb hb=>.inr (by simp only [Value.ownBlock,Ox] at hb; omega)⟩
 ·by_cases Y:n+m<=cap
  ·have hfit:off+n*i.size+news.length<=cur.size:=by
    have:(n+m)*i.size<=cap*i.size:=On _ Y;rw [Ou] at this;omega
   have hf:=Sj (P:=P) w i.size m a m c news hl O;obtain ⟨w',hst,hh,I⟩:=lM (P:=P) g (off+n*i.size) e news 0 cur.toList w (by simpa using hg) (by simpa using hfit) h1
   refine ⟨.slice (some ⟨g,off,none⟩) (n+m) cap,w',?_,⟨hlen,.inr ⟨g,off,cap,_,rfl,hh,Y,hcm,?_,?_⟩⟩,I,λb hb=>.inl hb⟩
   ·simp [Builtin.append_,PD ht,sizeOf,typeInfo,hi,Builtin.lenOf,Y,hf,O9,hst]
   ·simpa [pI] using hcs
   ·rw [Qu,PF,vV _ _ _ (by simpa using hfit)]
    have hd:(cur.toList.take (off+n*i.size)).drop off=xs:=by rw [Qk,P5]; exact htake
    rw [OJ,QM (by simp; omega),hd,<- OJ,<- hlen]
    exact Rm
  ·have holds:∀ j u,xs[j]? = some u->w.cell? ((⟨g,off,none⟩:Addr).add j)=some u:=by
    intro j u hu;rw [O9];refine R8 hg rfl ?_;rw [<- htake,O5] at hu
    split at hu
    ·rw [ON] at hu; simpa using hu
    ·cases hu
   have hr:=run_append_grow (P:=P) w t ty e i z ht hi hz ⟨g,off,none⟩ n cap xs J.1 holds a m c news hl O (by omega) (by omega) (growslice_fits (by omega) Z)
   have I:=grown cap (Value.ownBlock (.slice (some ⟨g,off,none⟩) n cap));exact ⟨_,_,hr,I.1,I.2,λb hb=>.inr (by simp only [Value.ownBlock,Ox] at hb; omega)⟩
section
variable {x:Cx}{ops:Array Oper}{Q:mj}{rest:List Oper}{H:Hp}{M M':List bU}{L L':Env}
variable {d:Nat}{ty:TypeId}{pos:String}{aft:Array Edge}{g:Option (Nat×Bool)}
theorem jH {α:Type}[aE α] {v:N3}{T:TypeId}{n:Nat}{xs:List N3}{ys:List α} (Z:qx H xs ys) (hs:Nat.blt 0 (aE.sz α)=true)
  (k:∀ H',H.le H'->aV H' v ys->W x ops Q rest H' M L):W x ops Q rest H (.row v T (aE.sz α) n xs::M) L:=by
 intro a w I ht;obtain ⟨H',J,O,Y⟩:=ht.vz Z (by simpa [Pk] using hs)
 exact k H' J Y a w I O
theorem wE {α:Type}[aE α] {e:Exit}{v:N3}{T:TypeId}{n:Nat}{xs:List N3}{ys:List α} (Z:qx H xs ys) (hs:Nat.blt 0 (aE.sz α)=true)
  (k:∀ H',H.le H'->aV H' v ys->E x e Q H' M L):E x e Q H (.row v T (aE.sz α) n xs::M) L:=by
 intro a w I ht;obtain ⟨H',J,O,Y⟩:=ht.vz Z (by simpa [Pk] using hs)
 exact k H' J Y a w I O
theorem Gq {α:Type}[aE α] {c:Code}{v:N3}{T:TypeId}{n:Nat}{xs:List N3}{ys:List α} (Z:qx H xs ys) (hs:Nat.blt 0 (aE.sz α)=true)
  (k:∀ H',H.le H'->aV H' v ys->C x c Q H' M L):C x c Q H (.row v T (aE.sz α) n xs::M) L:=by
 intro a w I ht;obtain ⟨H',J,O,Y⟩:=ht.vz Z (by simpa [Pk] using hs)
 exact k H' J Y a w I O
theorem zS (T:TypeId) (sz:Nat) (k:W x ops Q rest H (.row (.slice none 0 0) T sz 0 []::M) L):W x ops Q rest H M L:=
 λa w I ht=>k a w I (ht.Ar T sz)
theorem dT {e:Exit} (T:TypeId) (sz:Nat) (k:E x e Q H (.row (.slice none 0 0) T sz 0 []::M) L):E x e Q H M L:=
 λa w I ht=>k a w I (ht.Ar T sz)
theorem lC {c:Code} (T:TypeId) (sz:Nat) (k:C x c Q H (.row (.slice none 0 0) T sz 0 []::M) L):C x c Q H M L:=
 λa w I ht=>k a w I (ht.Ar T sz)
theorem GC {α:Type}[aE α] {t e:TypeId}{bytes n:Nat}{z:N3}{y u:Operand}{v vu:N3}{xs:List N3}{l ys:List α}
  (hg:gd ops L ⟨some d,.call ⟨.builtin .append,#[y,u],#[t,t]⟩,ty,pos,aft,g⟩=some true) (hN:Nat.blt d x.N=true)
  (hT:x.P.underlying t=some (.slice e)) (hi:Lx x.P e (aE.sz α) bytes z) (hz:z.cells.size=aE.sz α) (hs:Nat.blt 0 (aE.sz α)=true) (hb0:Nat.blt 0 bytes=true)
  (hy:ev L y=some v) (Z:ev L u=some vu) (hx:qx H xs l) (hR:aV H vu ys) (hb:(l.length+ys.length)*bytes<=140737488355328)
  (k:∀ v' n' xs',qx H xs' (l++ys)->W x ops Q rest H (.row v' e (aE.sz α) n' xs'::M) ((d,v')::L)):
  W x ops Q (⟨some d,.call ⟨.builtin .append,#[y,u],#[t,t]⟩,ty,pos,aft,g⟩::rest) H (.row v e (aE.sz α) n xs::M) L:=by
 obtain ⟨i,h1,h2,h3,h4⟩:=hi.ex;have hs':0<aE.sz α:=by simpa [Pk] using hs
 have hb0':0<bytes:=by simpa [Pk] using hb0
 have hmax:l.length+ys.length<=maxLen:=by
  have:l.length+ys.length<=(l.length+ys.length)*bytes:=Q9 _ hb0';unfold maxLen; omega
 refine tF rfl hg hN λa w I ht=>?_;have J:k6 w e (aE.sz α) v n xs:=ht.ok _ (Oa ..);have hn:n=l.length:=by
  have:=hx.len;rw [J.1] at this;exact PN hs' this
 subst hn;obtain ⟨cs,O,Y⟩:=hR.flat;rcases Y with ⟨⟨ea,rfl⟩,rfl⟩ | ⟨hc,b,off,c,rfl⟩
 ·have hcs':cs=[]:=O
  subst hcs';refine ⟨v,w,?_,H,_,ht,k v _ xs (by simpa using hx)⟩
  rcases J.2 with ⟨rfl,h0⟩ | ⟨g,off,cap,cur,rfl,hg2,hnc,_⟩ <;> cases ea
  ·simp [execOp,resolve,invoke,builtin,I.ev hy,I.ev Z,Builtin.append_,PD hT,sizeOf,typeInfo,h1,Builtin.lenOf,Builtin.firstCells]
  ·simp [execOp,resolve,invoke,builtin,I.ev hy,I.ev Z,Builtin.append_,PD hT,sizeOf,typeInfo,h1,Builtin.lenOf,Builtin.firstCells,loadCells,loadCellsFrom]
  ·simp [execOp,resolve,invoke,builtin,I.ev hy,I.ev Z,Builtin.append_,PD hT,sizeOf,typeInfo,h1,Builtin.lenOf,Builtin.firstCells,storeCells,hnc]
  ·simp [execOp,resolve,invoke,builtin,I.ev hy,I.ev Z,Builtin.append_,PD hT,sizeOf,typeInfo,h1,Builtin.lenOf,Builtin.firstCells,storeCells,hnc,loadCells,loadCellsFrom]
 ·obtain ⟨v',w',hr,ho,hgr,hfr⟩:=B6 (P:=x.P) (ty:=ty) hT h1 h4 h2 h3 hz hs' J (a:=⟨b,off,none⟩) (m:=ys.length) (c:=c) (news:=cs) O.len
   (λj u Z=>((hc j u Z).at (x:=x) (M:=.row v e (aE.sz α) l.length xs::M)) w ht) O.one hmax hb
  refine ⟨v',w',?_,H,_,ht.Ch (r':=.row v' e (aE.sz α) (l.length+ys.length) (xs++cs)) hgr ho hfr,k v' _ _ (hx.app O)⟩;simp [execOp,resolve,invoke,builtin,I.ev hy,I.ev Z,hr]
end
def yB:List N3->List (List N3)->Prop
 | [],[]=>True
 | v::vs,c::cs=>v.cells=c.toArray/\yB vs cs
 | _,_=>False
def laid (places:List (Nat×Nat)):List N3->List (Nat×List N3)->Option (List N3)
 | z,[]=>some z
 | z,(i,c)::r=>match places[i]? with
  | none=>none
  | some (off,size)=>if Nat.beq c.length size && Nat.ble (off+c.length) z.length then laid places (over z off c) r else none
theorem Ab:∀ (c:List N3) (z:List N3) (off k:Nat),(c.zipIdx k).foldl (λcs (p:N3×Nat)=>cs.setIfInBounds (off+p.2) p.1) z.toArray=(over z (off+k) c).toArray
 | [],z,off,k=>rfl
 | v::c,z,off,k=>by
  rw [List.zipIdx_cons,List.foldl_cons];simp only [List.setIfInBounds_toArray];rw [Ab c _ off (k+1),over]
  rfl
theorem vy {place:Nat->Option (Nat×Nat)}{places:List (Nat×Nat)} (Y:∀ i o,places[i]? = some o->place i=some o):
  ∀ (J:List Nat) (vs:List N3) (css:List (List N3)) (z out:List N3),yB vs css->J.length=vs.length->laid places z (J.zip css)=some out ->
   Instr.fill place z.toArray (J.zip vs)=some out.toArray
 | [],[],_,z,out,_,_,h=>by simp [laid] at h; simp [Instr.fill,h]
 | [],_::_,_,_,_,_,hl,_=>by simp at hl
 | _::_,[],_,_,_,_,hl,_=>by simp at hl
 | i::J,v::vs,[],_,_,hc,_,_=>hc.elim
 | i::J,v::vs,c::css,z,out,⟨hv,hc⟩,hl,h=>by
  simp only [List.zip_cons_cons,laid] at h;cases I:places[i]? with
  | none=>simp [I] at h
  | some o=>
   obtain ⟨off,size⟩:=o;simp only [I] at h
   split at h
   ·rename_i hb
    simp only [PZ,Qz] at hb;have O:c.length=size:=Qf hb.1;simp only [List.zip_cons_cons,Instr.fill,Y i _ I,hv];have Z:((c.toArray.size≠size || off+c.toArray.size > z.toArray.size:Bool))=false:=by
     simp [O]; rw [<- O]; exact hb.2
    rw [Ob (by simp only [Z]; simp)]
    have h2:=Ab c z off 0;have h3:c.toArray.zipIdx.foldl (λcs (p:N3×Nat)=>cs.setIfInBounds (off+p.2) p.1) z.toArray=(over z off c).toArray:=by
     rw [<- Array.foldl_toList];simpa using h2
    have ih:=vy Y J vs css (over z off c) out hc (by simpa using hl) h
    rw [<- ih];exact Pc (λq=>Instr.fill place q (J.zip vs)) h3
   ·cases h
theorem oC {k m:Nat}{e:Int} (O:k+m=e.toNat) (J:decide ((k:Int)<e)=true):∃ I,m=I+1/\k+1+I=e.toNat/\k<e.toNat:=by
 have:=N9 J;exact ⟨m-1,by omega,by omega,by omega⟩
theorem oB {k m:Nat}{e:Int} (J:k+m=e.toNat) (I:decide ((k:Int)<e)=false):m=0:=by
 have:=Og I;omega
theorem jX {e:Int} (h:e<=9223372036854775807):e.toNat<=maxLen:=by unfold maxLen; omega
theorem oh {α:Type}{xs:List α} (h:xs.length<=maxLen):(xs.length:Int)<=9223372036854775807:=by unfold maxLen at h; omega
section
variable {x:Cx}{ops:Array Oper}{Q:mj}{rest:List Oper}{H:Hp}{M M':List bU}{L L':Env}
variable {d:Nat}{ty:TypeId}{pos:String}{aft:Array Edge}{g:Option (Nat×Bool)}
theorem zx {N:Nat}{a:Act} (hs:Sl N L a) {I:List (Nat×Operand)}{vs:List N3} (J:xG L (I.map (·.2))=some vs):
  (I.toArray.map λ(p:Nat×Operand)=>(p.1,a.eval p.2))=((I.map (·.1)).zip vs).toArray:=by
 have h:=hs.xG J;subst h;clear J;simp only [R_,List.map_toArray]
 congr 1
 induction I with
 | nil=>rfl
 | cons p I ih=>simp only [QK,List.zip_cons_cons,Function.comp,ih]
theorem jO {T:TypeId}{I:List (Nat×Operand)}{vs:List N3}{css:List (List N3)}{z:N3}{zs out:List N3}{fs:Array Field}{places:List (Nat×Nat)}
  (hg:gd ops L ⟨some d,.build T I.toArray,ty,pos,aft,g⟩=some true) (hN:Nat.blt d x.N=true)
  (Y:xG L (I.map (·.2))=some vs) (hc:yB vs css)
  (hz:∀ w,(zeroValue T).run x.P w=.ok z w) (O:z.cells=zs.toArray) (Z:∀ w,(underlying T).run x.P w=.ok (.struct fs) w)
  (hp:∀ w,(fs.mapM λf=>do pure (f.offset,<- sizeOf f.type):Sem (Array (Nat×Nat))).run x.P w=.ok places.toArray w)
  (ho:laid places zs ((I.map (·.1)).zip css)=some out)
  (k:W x ops Q rest H M ((d,.agg out.toArray)::L)):
  W x ops Q (⟨some d,.build T I.toArray,ty,pos,aft,g⟩::rest) H M L:=
 iL rfl hg hN (λa w hs ht=>by
  have hl:(I.map (·.1)).length=vs.length:=by rw [<- hs.xG Y]; simp
  have hf:=vy (place:=λi:Nat=>places[i]?) (places:=places) (λ_ _ h=>h) (I.map (·.1)) vs css zs out hc hl ho;have J:=zx hs Y;simp only [execOp,Instr.build,Oi,hz,Oe,Z,O];rw [hp];simp only [Oe];have e:(λi:Nat=>places.toArray[i]?)=λi:Nat=>places[i]? := by funext i; simp
  simp only [J,e,hf,Oq,Oe]) k
theorem dZ {α:Type}[aE α] {T e:TypeId}{n:Nat}{J:List (Nat×Operand)}{vs:List N3}{css:List (List N3)}{z:N3}{zs out:List N3}{places:List (Nat×Nat)}{ys:List α}
  (hg:gd ops L ⟨some d,.buildSlice T n J.toArray,ty,pos,aft,g⟩=some true) (hN:Nat.blt d x.N=true)
  (hv:xG L (J.map (·.2))=some vs) (hc:yB vs css)
  (hT:∀ w,(underlying T).run x.P w=.ok (.slice e) w) (hs:∀ w,(sizeOf e).run x.P w=.ok (aE.sz α) w) (hs0:Nat.blt 0 (aE.sz α)=true)
  (hz:∀ w,(zeroValue e).run x.P w=.ok z w) (hzs:(Array.range (n*aE.sz α)).map (z.cells[·%z.cells.size]!)=zs.toArray)
  (hpl:places=(List.range n).map λi=>(i*aE.sz α,aE.sz α)) (hn:Nat.ble (n*aE.sz α) 16777216=true) (hnn:Nat.blt 0 n=true)
  (ho:laid places zs ((J.map (·.1)).zip css)=some out) (hr:qx H out ys) (Z:ys.length=n)
  (k:∀ b v H',v=.slice (some ⟨b,0,none⟩) n n->H.le H'->aV H' v ys->W x ops Q rest H' M ((d,v)::L)):
  W x ops Q (⟨some d,.buildSlice T n J.toArray,ty,pos,aft,g⟩::rest) H M L:=by
 refine tF rfl hg hN λa w Y ht=>?_;have hl:(J.map (·.1)).length=vs.length:=by rw [<- Y.xG hv]; simp
 have I:0<aE.sz α:=by simpa [Pk] using hs0
 have hn':n*aE.sz α<=16777216:=by simpa [Qz] using hn
 have O:0<n:=by simpa [Pk] using hnn
 have hpos:0<n*aE.sz α:=Nat.mul_pos O I;have hf:=vy (place:=λi=>some (i*aE.sz α,aE.sz α)) (places:=places) (λi o h=>by
  rw [hpl,OE] at h;cases hh:(List.range n)[i]? with
  | none=>rw [hh] at h; cases h
  | some j=>
   rw [hh] at h;have:j=i:=by
    have:=N_.1 hh;simpa using this.2.symm
   subst this;simpa using h) (J.map (·.1)) vs css zs out hc hl ho
 have hps:=zx Y hv;have hsz:out.length=n*aE.sz α:=by rw [hr.len,Z]
 refine ⟨.slice (some ⟨w.heap.size,0,none⟩) n n,w.alloc (.cells out.toArray e),?_,H.add w.heap.size (.cells out.toArray e),M,(ht.alloc _).freeze.2,?_⟩
 ·have h1:¬ (2 ^ 24<n*aE.sz α):=by omega
  have h2:¬ (n*aE.sz α=0):=by omega
  simp only [execOp,Instr.buildSlice,Oi,hT,Oe,hs,gt_iff_lt,h1,h2,P1,hz,Oq];simp only [hps];have hf':Instr.fill (λi=>some (i*aE.sz α,aE.sz α)) ((Array.range (n*aE.sz α)).map (z.cells[·%z.cells.size]!)) ((List.map (λx=>x.fst) J).zip vs)=some out.toArray:=by
   rw [hzs]; exact hf
  simp only [hf',newRow,newObj,Oi,Oq,Sem.run,Oe,World.alloc]
 ·refine k w.heap.size _ _ rfl (ht.alloc _).freeze.1 (.inr ⟨w.heap.size,0,n,out.toArray,e,(0,0),by rw [Z],by omega,?_,Hp.wO _ _ _,by simp [hsz],?_⟩)
  ·unfold maxLen
   have:n<=n*aE.sz α:=Q9 _ I;omega
  ·intro j el hel
   obtain ⟨c,q1,q2⟩:=(hr.mono (ht.alloc (.cells out.toArray e)).freeze.1).get j el hel;exact ⟨c,q1,λi u hu=>by simpa using q2 i u hu⟩
end
structure Rw {α:Type}[aE α] (H:Hp) (v:N3) (xs:List N3) (l:List α):Prop where
 rd:qx H xs l
 sl:∃ a n c,v=.slice a n c
section
variable {α:Type}[aE α] {H H':Hp}{v:N3}{xs:List N3}{l:List α}
theorem Rw.mono (I:H.le H') (h:Rw H v xs l):Rw H' v xs l:=⟨h.rd.mono I,h.sl⟩
theorem Rw.one (h:Rw H v xs l):v.oneCell'=true:=by obtain ⟨a,n,c,rfl⟩:=h.sl; rfl
theorem Rw.cells (h:Rw H v xs l):v.cells=[v].toArray:=by obtain ⟨a,n,c,rfl⟩:=h.sl; rfl
theorem Rw.nil:Rw H (.slice none 0 0) [] ([]:List α):=⟨rfl,_,_,_,rfl⟩
theorem Rw.elem (h:Rw H v xs l) {k:Nat}{e:α} (I:l[k]? = some e):∃ c,aE.E H c e/\∀ j u,c[j]? = some u->xs[k*aE.sz α+j]? = some u:=h.rd.get k e I
theorem ym (vs:List N3):∀ (l:List N3) (k j:Nat),k+vs.length<=l.length->(over l k vs)[j]? = if k<=j/\j<k+vs.length then vs[j-k]? else l[j]? := by
 intro l k j h;rw [vV vs l k h,OJ,P7];simp only [OF,O7 (show k<=l.length by omega)]
 by_cases I:j<k
 ·rw [Oc I,Ob (by omega),O5,Oc I]
 ·rw [Ob I,P7]
  by_cases J:j-k<vs.length
  ·rw [Oc J,Oc (by omega)]
  ·rw [Ob J,Ob (by omega),ON]
   congr 1; omega
theorem Rw.put {c cs out:List N3}{k o:Nat}{e e2:α} (h:Rw H v xs l) (he:l[k]? = some e) (hc:aE.E H c e) (hg:∀ j u,c[j]? = some u->xs[k*aE.sz α+j]? = some u)
  (hb:Nat.ble (o+cs.length) c.length=true) (ho:over c o cs=out) (hE:aE.E H out e2):
  Rw H v (over xs (k*aE.sz α+o) cs) (l.set k e2)/\(l.set k e2)[k]? = some e2/\∀ j u,out[j]? = some u->(over xs (k*aE.sz α+o) cs)[k*aE.sz α+j]? = some u:=by
 have hk:k<l.length:=(N_.1 he).1;have hlen:=h.rd.len;have I:=aE.len hc;have Y:o+cs.length<=c.length:=by simpa [Qz] using hb
 have hkk:(k+1)*aE.sz α<=l.length*aE.sz α:=On _ hk;rw [Ou,Rx] at hkk;have vH:k*aE.sz α+o+cs.length<=xs.length:=by omega
 have key:over xs (k*aE.sz α+o) cs=xs.take (k*aE.sz α)++out++xs.drop ((k+1)*aE.sz α):=by
  apply PO;intro j;rw [ym _ _ _ _ vH,OJ,P7];simp only [OF,O7 (show k*aE.sz α<=xs.length by omega)]
  have J:out.length=aE.sz α:=by rw [<- ho,pI,I]
  by_cases O:j<k*aE.sz α
  ·rw [Oc O,Ob (by omega),O5,Oc O]
  ·rw [Ob O,P7,J]
   by_cases h2:j-k*aE.sz α<aE.sz α
   ·rw [Oc h2,<- ho,ym _ _ _ _ Y]
    by_cases h3:k*aE.sz α+o<=j/\j<k*aE.sz α+o+cs.length
    ·rw [Oc h3,Oc (by omega)]; congr 1; omega
    ·rw [Ob h3,Ob (by omega)]
     have Z:j-k*aE.sz α<c.length:=by omega
     have:=hg (j-k*aE.sz α) _ (N5 Z);rw [N5 Z,<- this]; congr 1; omega
   ·rw [Ob h2,Ob (by omega),ON]
    congr 1; rw [Ou]; omega
 refine ⟨⟨?_,h.sl⟩,by simp [hk],λj u hu=>?_⟩
 ·rw [key]; exact h.rd.put hk hE
 ·have Z:j<out.length:=(N_.1 hu).1
  have J:out.length=aE.sz α:=by rw [<- ho,pI,I]
  rw [key,OJ,OD (by simp; omega),Ph (by simp; omega)]
  simp only [OF,O7 (show k*aE.sz α<=xs.length by omega)]
  rw [show k*aE.sz α+j-k*aE.sz α=j by omega]; exact hu
end
section
variable {x:Cx}{ops:Array Oper}{Q:mj}{rest:List Oper}{H:Hp}{M M':List bU}{L L':Env}
variable {d:Nat}{ty:TypeId}{pos:String}{aft:Array Edge}{g:Option (Nat×Bool)}
theorem AA {v:N3}{T:TypeId}{sz n i:Nat}{xs:List N3}{c:N3} (hm:bU.row v T sz n xs ∈ M) (I:xs[i]? = some c):xA x H M ((Value.base v).add i) c:=by
 intro w ht;have O:k6 w T sz v n xs:=ht.ok _ hm;have hi:=(N_.1 I).1;rcases O.2 with ⟨rfl,h0⟩ | ⟨Y,off,cap,Z,rfl,hg,hnc,hcm,hcs,J⟩
 ·exfalso
  have:=O.1;subst h0;simp at this; subst this
  simp at I
 ·rw [show Value.base (Value.slice (some ⟨Y,off,none⟩) n cap)=⟨Y,off,none⟩ from rfl,O9]
  refine R8 hg rfl ?_;rw [<- J,O5] at I
  split at I
  ·rw [ON] at I; simpa using I
  ·cases I
theorem add_add (a:Addr) (i j:Nat):(a.add i).add j=a.add (i+j):=by
 unfold Addr.add
 by_cases I:i=0 <;> by_cases J:j=0 <;> simp [I,J,Qi]
theorem xc {v:N3}{T:TypeId}{sz n i:Nat}{xs cs:List N3} (hm:bU.row v T sz n xs ∈ M) (I:∀ j u,cs[j]? = some u->xs[i+j]? = some u):xQ x H M ((Value.base v).add i) cs:=by
 intro j c J;rw [add_add];exact AA hm (I j c J)
theorem row_one {v:N3}{T:TypeId}{sz n i o:Nat}{xs cs:List N3}{c:N3} (hm:bU.row v T sz n xs ∈ M) (I:∀ j u,cs[j]? = some u->xs[i+j]? = some u) (J:cs[o]? = some c):
  xA x H M (((Value.base v).add i).add o) c:=by
 rw [add_add]; exact AA hm (I o c J)
theorem AB {v:N3}{T:TypeId}{sz n i:Nat}{xs cs:List N3}{c:N3} (hm:bU.row v T sz n xs ∈ M) (I:∀ j u,cs[j]? = some u->xs[i+j]? = some u) (J:cs[0]? = some c):
  xA x H M ((Value.base v).add i) c:=AA hm (I 0 c J)
theorem zO {v:N3}{T:TypeId}{sz n:Nat}{xs:List N3}{t e:TypeId}{y:Operand} (hm:bU.row v T sz n xs ∈ M) (Y:gd ops L ⟨some d,.call ⟨.builtin .len,#[y],#[t]⟩,ty,pos,aft,g⟩=some true) (hN:Nat.blt d x.N=true)
  (O:∀ w,(underlying t).run x.P w=.ok (.slice e) w) (Z:ev L y=some v) (k:W x ops Q rest H M ((d,.int .i64 n)::L)):
  W x ops Q (⟨some d,.call ⟨.builtin .len,#[y],#[t]⟩,ty,pos,aft,g⟩::rest) H M L:=
 iL rfl Y hN (λc w hs ht=>by
  have I:k6 w T sz v n xs:=ht.ok _ hm;rcases I.2 with ⟨rfl,rfl⟩ | ⟨gb,off,cap,J,rfl,_⟩ <;>
   simp [execOp,resolve,invoke,builtin,hs.ev Z,Builtin.len_,O,goInt]) k
theorem xT {v:N3}{T:TypeId}{sz n:Nat}{xs:List N3}{t e:TypeId}{y z:Operand}{kk:IntKind}{i:Int} (hm:bU.row v T sz n xs ∈ M)
  (hg:gd ops L ⟨some d,.indexAddr t y z,ty,pos,aft,g⟩=some true) (hN:Nat.blt d x.N=true)
  (hT:∀ w,(underlying t).run x.P w=.ok (.slice e) w) (hs:∀ w,(sizeOf e).run x.P w=.ok sz w)
  (hy:ev L y=some v) (hz:ev L z=some (.int kk i)) (Z:0<=i) (h1:i.toNat<n)
  (k:W x ops Q rest H M ((d,.pointer (some ((Value.base v).add (i.toNat*sz))))::L)):
  W x ops Q (⟨some d,.indexAddr t y z,ty,pos,aft,g⟩::rest) H M L:=
 iL rfl hg hN (λc w I ht=>by
  have J:i<(n:Int):=by omega
  have O:k6 w T sz v n xs:=ht.ok _ hm;rcases O.2 with ⟨rfl,rfl⟩ | ⟨gb,off,cap,Y,rfl,_⟩
  ·omega
  ·simp [execOp,I.ev hy,I.ev hz,Instr.indexAt,asIntOf,hT,hs,Z,J,Value.base]) k
theorem wL {T E:TypeId}{m sz n i:Nat}{y z:Operand}{v u:N3}{ad:Addr}{xs cs:List N3} (hg:gd ops L ⟨none,.store T y z,ty,pos,aft,g⟩=some true)
  (hn:∀ w,(sizeOf T).run x.P w=.ok m w) (hy:ev L y=some (.pointer (some ad))) (had:ad=(Value.base v).add i) (hz:ev L z=some u) (hv:u.cells=cs.toArray) (hl:cs.length=m)
  (hb:i+cs.length<=xs.length) (Y:Nat.blt 0 cs.length=true) (h1:∀ c ∈ cs,c.oneCell'=true)
  (k:W x ops Q rest H (.row v E sz n (over xs i cs)::M) L):
  W x ops Q (⟨none,.store T y z,ty,pos,aft,g⟩::rest) H (.row v E sz n xs::M) L:=
 Bt rfl hg (λa w hs ht=>by
  subst had;have I:k6 w E sz v n xs:=ht.ok _ (Oa ..);have hpos':0<cs.length:=by simpa [Pk] using Y
  rcases I.2 with ⟨rfl,rfl⟩ | ⟨gb,off,cap,Z,rfl,hgb,O,hcm,hcs,J⟩
  ·have h0:=I.1; rw [PG] at h0; omega
  ·have hmul:n*sz<=cap*sz:=On _ O
   have hxl:=I.1;obtain ⟨w',hr,hh,hgr⟩:=lM (P:=x.P) gb (off+i) E cs 0 Z.toList w (by simpa using hgb) (by simp; omega) h1
   refine ⟨w',?_,H,_,ht.Ch (r':=.row (.slice (some ⟨gb,off,none⟩) n cap) E sz n (over xs i cs)) hgr ?_ (λc hc=>.inl hc),k⟩
   ·simp [execOp,hs.ev hy,hs.ev hz,Instr.storeAt,Instr.sureAddr,storeVar,hn,hl,hv,Value.base,O9,hr]
   ·refine ⟨by rw [pI]; exact hxl,.inr ⟨gb,off,cap,_,rfl,hh,O,hcm,by simpa [pI] using hcs,?_⟩⟩
    rw [Qu,PF];apply PO;intro j;rw [O5,ON,ym _ _ _ _ (by simp; omega),ym _ _ _ _ hb,<- J,O5,ON]
    by_cases hj:j<n*sz
    ·simp only [Oc hj]
     by_cases h3:i<=j/\j<i+cs.length
     ·rw [Oc h3,Oc (by omega)]; congr 1; omega
     ·rw [Ob h3,Ob (by omega)]
    ·simp only [Ob hj]
     rw [Ob (by omega)])
end
section
variable {x:Cx}{ops:Array Oper}{Q:mj}{rest:List Oper}{H:Hp}{M M':List bU}{L L':Env}
variable {d:Nat}{ty:TypeId}{pos:String}{aft:Array Edge}{g:Option (Nat×Bool)}
theorem k6.shape {w:World}{T:TypeId}{sz n:Nat}{v:N3}{xs:List N3} (h:k6 w T sz v n xs):∃ a n c,v=.slice a n c:=by
 rcases h.2 with ⟨rfl,_⟩ | ⟨J,off,cap,I,rfl,_⟩ <;> exact ⟨_,_,_,rfl⟩
theorem dU {α:Type}[aE α] {t e:TypeId}{bytes n:Nat}{z:N3}{y u:Operand}{v vu:N3}{xs:List N3}{l ys:List α}
  (hg:gd ops L ⟨some d,.call ⟨.builtin .append,#[y,u],#[t,t]⟩,ty,pos,aft,g⟩=some true) (hN:Nat.blt d x.N=true)
  (hT:x.P.underlying t=some (.slice e)) (hi:Lx x.P e (aE.sz α) bytes z) (hz:z.cells.size=aE.sz α) (hs:Nat.blt 0 (aE.sz α)=true) (Y:Nat.blt 0 bytes=true)
  (hy:ev L y=some v) (hu:ev L u=some vu) (hx:Rw H v xs l) (hR:aV H vu ys) (hb:((l.length+ys.length)*bytes:Nat)<=140737488355328)
  (k:∀ v' I,Rw H v' I (l++ys)->W x ops Q rest H (.row v' e (aE.sz α) (l++ys).length I::M) ((d,v')::L)):
  W x ops Q (⟨some d,.call ⟨.builtin .append,#[y,u],#[t,t]⟩,ty,pos,aft,g⟩::rest) H (.row v e (aE.sz α) n xs::M) L:=by
 refine GC hg hN hT hi hz hs Y hy hu hx.rd hR hb λv' n' I O=>?_;intro a w Z ht;have J:k6 w e (aE.sz α) v' n' I:=ht.ok _ (Oa ..);have hn:n'=(l++ys).length:=by
  have h1:=O.len;rw [J.1] at h1;exact PN (by simpa [Pk] using hs) h1
 subst hn;exact k v' I ⟨O,J.shape⟩ a w Z ht
theorem St.newRow {α:Type}[aE α] {B:Nat}{w0 w:World}{cells:List N3}{e:TypeId}{l:List α} (ht:St B w0 H M w) (J:qx H cells l) (hm:l.length<=maxLen):
  St B w0 H (.row (.slice (some ⟨w.heap.size,0,none⟩) l.length l.length) e (aE.sz α) l.length cells::M) (w.alloc (.cells cells.toArray e)):=by
 have h:=ht.alloc (.cells cells.toArray e);have hl:=J.len;refine ⟨h.below,h.le,h.vH,?_,?_,h.nd⟩
 ·intro r I
  rcases OM.1 I with rfl | I
  ·refine ⟨hl,.inr ⟨w.heap.size,0,l.length,cells.toArray,rfl,h.ok _ (Oa ..),Ov _,hm,by simp only [QX]; omega,?_⟩⟩
   rw [<- hl,Qu,PB,PS]
  ·exact h.ok r (Od _ I)
 ·intro r I
  rcases OM.1 I with rfl | I
  ·exact h.lo (.obj w.heap.size (.cells cells.toArray e)) (Oa ..)
  ·exact h.lo r (Od _ I)
theorem kt {α:Type}[aE α] {t e:TypeId}{bytes:Nat}{z:N3}{zs:List N3}{ze:α}{y y2:Operand}{n:Int}
  (hg:gd ops L ⟨some d,.makeSlice t y y2,ty,pos,aft,g⟩=some true) (hN:Nat.blt d x.N=true)
  (hT:x.P.underlying t=some (.slice e)) (hi:Lx x.P e (aE.sz α) bytes z) (hz:z.cells=zs.toArray) (hs:Nat.blt 0 (aE.sz α)=true) (hb0:Nat.blt 0 bytes=true)
  (hE:aE.E H zs ze) (hy:ev L y=some (.int .i64 n)) (hy2:ev L y2=some (.int .i64 n)) (h0:0<=n) (hb:n*bytes<=140737488355328)
  (k:∀ v' xs',Rw H v' xs' (List.replicate n.toNat ze)->W x ops Q rest H (.row v' e (aE.sz α) (List.replicate n.toNat ze).length xs'::M) ((d,v')::L)):
  W x ops Q (⟨some d,.makeSlice t y y2,ty,pos,aft,g⟩::rest) H M L:=by
 obtain ⟨i,h1,h2,h3,h4⟩:=hi.ex;obtain ⟨m,rfl⟩:∃ m:Nat,n=m:=⟨n.toNat,by omega⟩
 have hs':0<aE.sz α:=by simpa [Pk] using hs
 have hb0':0<bytes:=by simpa [Pk] using hb0
 have hcast:((m*bytes:Nat):Int)=(m:Int)*(bytes:Int):=OW m bytes;have hbn:m*bytes<=140737488355328:=by omega
 have hm:m<=m*bytes:=Q9 _ hb0';have hzl:zs.length=aE.sz α:=aE.len hE;have hmax:m<=maxLen:=by unfold maxLen; omega
 have hw:i64.wrap (m:Int)=m:=wQ (by omega) (by omega)
 simp only [N7] at k;have hrd:∀ q,qx H ((List.range (q*aE.sz α)).map (zs.toArray[·%zs.length]!)) (List.replicate q ze):=by
  intro q
  induction q with
  | zero=>rw [PG]; exact rfl
  | succ q ih=>
   have J:(List.range ((q+1)*aE.sz α)).map (zs.toArray[·%zs.length]!)=zs++(List.range (q*aE.sz α)).map (zs.toArray[·%zs.length]!):=by
    apply PO;intro j;rw [P7,OE]
    by_cases hj:j<zs.length
    ·rw [Oc hj,P2 (by rw [Ou]; omega)]
     simp [PT hj,hj]
    ·rw [Ob hj,OE]
     by_cases Y:j<(q+1)*aE.sz α
     ·rw [P2 Y,P2 (by rw [Ou] at Y; omega)]
      simp only [Py];rw [<- Nat.mod_eq_sub_mod (by omega)]
     ·rw [O4 (by simp; omega),O4 (by rw [Ou] at Y; simp; omega)]
   rw [J];exact ⟨zs,_,rfl,hE,ih⟩
 have hlr:(List.replicate m ze).length=m:=Pl;refine tF rfl hg hN λa w I ht=>?_;refine ⟨.slice (some ⟨w.heap.size,0,none⟩) (List.replicate m ze).length (List.replicate m ze).length,_,?_,H,_,St.newRow (e:=e) ht (hrd m) (by rw [hlr]; exact hmax),k _ _ ⟨hrd m,_,_,_,rfl⟩⟩
 have e1:¬ ((i.bytes:Int)*(m:Int) > 2 ^ 48):=by
  rw [h3,Int.mul_comm];omega
 have e3:¬ (m*i.bytes > roomBytes):=by rw [h3]; unfold roomBytes; omega
 have e4:¬ ((m:Int)<0):=by omega
 have O:∀ w,(typeInfo e).run x.P w=.ok i w:=λw=>by simp [typeInfo,h1]
 have hsz:∀ w,(sizeOf e).run x.P w=.ok (aE.sz α) w:=λw=>by simp [sizeOf,O,h2]
 have hzv:∀ w,(zeroValue e).run x.P w=.ok z w:=λw=>by simp [zeroValue,O,h4]
 have hun:∀ w,(underlying t).run x.P w=.ok (.slice e) w:=λw=>PD hT w;have hnr:∀ c w,(newRow e c).run x.P w=.ok ⟨w.heap.size,0,none⟩ (w.alloc (.cells c e)):=λc w=>by
  simp only [newRow,newObj,Oi,Oq,Sem.run,Oe,World.alloc]
 rw [hlr]
 by_cases Z:m*aE.sz α=0
 ·have:m=0:=by
   rcases Nat.mul_eq_zero.1 Z with h | h <;> omega
  subst this;simp only [execOp,I.ev hy,I.ev hy2,Instr.makeSlice,Oi,hun,Oe,asInt,asIntOf,Oq,O,hw,e1,e4,Sd,Bool.or_self,Ps,P1,N7,askRoom,hsz,Z,RQ,hnr,gt_iff_lt,Int.lt_irrefl,PG,Nat.not_lt_zero];simp [Array.range]
 ·have e6:(Array.range (m*aE.sz α)).map (λj=>zs.toArray[j%zs.toArray.size]!)=((List.range (m*aE.sz α)).map (zs.toArray[·%zs.length]!)).toArray:=by
   apply Array.ext';simp
  simp only [execOp,I.ev hy,I.ev hy2,Instr.makeSlice,Oi,hun,Oe,asInt,asIntOf,Oq,O,hw,e1,e4,Sd,Bool.or_self,Ps,P1,N7,askRoom,e3,hsz,Z,hzv,hz,e6,hnr,gt_iff_lt,Int.lt_irrefl]
theorem run_sliceBound {P:Program}{w:World}{O:IntKind}{i:Int}{y:Nat}{c:BoundsCode} (I:0<=i) (J:i<=y):(Instr.sliceBound (.int O i) y c).run P w=.ok i.toNat w:=by
 simp [Instr.sliceBound,asIntOf,I,J]
def Bd (o:Option N3) (I top r:Nat):Prop:=(o=none/\r=I)\/∃ J i,o=some (.int J i)/\0<=i/\i<=top/\i.toNat=r
theorem zp {P:Program}{w:World}{len cap:Nat}{lo hi mx:Option N3}{l h m:Nat}
  (I:mx=none\/∃ v,hi=some v) (hm:Bd mx cap cap m) (J:Bd hi len m h) (hl:Bd lo 0 h l):
  (Instr.sliceBounds true len cap lo hi mx).run P w=.ok (l,h,m) w:=by
 rcases hm with ⟨rfl,rfl⟩ | ⟨km,im,rfl,m0,m1,rfl⟩
 ·rcases J with ⟨rfl,rfl⟩ | ⟨kh,ih,rfl,O,Y,rfl⟩
  ·rcases hl with ⟨rfl,rfl⟩ | ⟨kl,il,rfl,Z,l1,rfl⟩
   ·simp only [Instr.sliceBounds,Oi,Oq,Oe]
   ·simp only [Instr.sliceBounds,Oi,Oq,Oe,run_sliceBound Z l1]
  ·rcases hl with ⟨rfl,rfl⟩ | ⟨kl,il,rfl,Z,l1,rfl⟩
   ·simp only [Instr.sliceBounds,Oi,Oq,Oe,run_sliceBound O Y]
   ·simp only [Instr.sliceBounds,Oi,Oq,Oe,run_sliceBound O Y,run_sliceBound Z l1]
 ·rcases I with I | ⟨v,rfl⟩
  ·cases I
  ·rcases J with ⟨J,_⟩ | ⟨kh,ih,J,O,Y,rfl⟩
   ·cases J
   ·obtain rfl:=N8 J
    rcases hl with ⟨rfl,rfl⟩ | ⟨kl,il,rfl,Z,l1,rfl⟩
    ·simp only [Instr.sliceBounds,Oi,Oq,Oe,run_sliceBound m0 m1,run_sliceBound O Y]
    ·simp only [Instr.sliceBounds,Oi,Oq,Oe,run_sliceBound m0 m1,run_sliceBound O Y,run_sliceBound Z l1]
def EA (L:Env) (o:Option Operand) (I top r:Nat):Prop:=(o=none/\r=I)\/∃ J O i,o=some J/\ev L J=some (.int O i)/\0<=i/\i<=top/\i.toNat=r
theorem EA.bd {N:Nat}{a:Act}{o:Option Operand}{I top r:Nat} (hs:Sl N L a) (h:EA L o I top r):Bd (o.map a.eval) I top r:=by
 rcases h with ⟨rfl,rfl⟩ | ⟨o',Z,i,rfl,Y,J,O,rfl⟩
 ·exact .inl ⟨rfl,rfl⟩
 ·exact .inr ⟨Z,i,by simp [hs.ev Y],J,O,rfl⟩
theorem tO {P:Program}{w:World}{t e:TypeId}{sz len cap:Nat}{a:Option Addr}{lo hi mx:Option N3}{l h m:Nat} (J:∀ w,(underlying t).run P w=.ok (.slice e) w) (hs:∀ w,(sizeOf e).run P w=.ok sz w)
  (I:mx=none\/∃ v,hi=some v) (hm:Bd mx cap cap m) (O:Bd hi len m h) (hl:Bd lo 0 h l):
  (Instr.sliceAt t (.slice a len cap) lo hi mx).run P w=.ok (.slice (if m=l then a else a.map (·.add (l*sz))) (h-l) (m-l)) w:=by
 simp only [Instr.sliceAt,Oi,J,Oe,Instr.slice,zp I hm O hl,hs,Oq]
theorem HQ {a:Act}{mx hi:Option Operand} (h:mx=none\/∃ o,hi=some o):mx.map a.eval=none\/∃ v,hi.map a.eval=some v:=by
 rcases h with rfl | ⟨o,rfl⟩
 ·exact .inl rfl
 ·exact .inr ⟨_,rfl⟩
theorem wK {α:Type}[aE α] {t e:TypeId}{y:Operand}{lo hi mx:Option Operand}{v:N3}{xs:List α}{l h:Nat} (hg:gd ops L ⟨some d,.slice t y lo hi mx,ty,pos,aft,g⟩=some true) (hN:Nat.blt d x.N=true)
  (hT:∀ w,(underlying t).run x.P w=.ok (.slice e) w) (hs:∀ w,(sizeOf e).run x.P w=.ok (aE.sz α) w)
  (hy:ev L y=some v) (hR:aV H v xs) (hlh:l<=h) (Z:h<=xs.length) (hmh:mx=none\/∃ o,hi=some o)
  (hm:∀ cap,h<=cap->EA L mx cap cap (if mx=none then cap else h)) (hh:∀ m,h<=m->EA L hi xs.length m h) (hl:EA L lo 0 h l)
  (k:∀ v',aV H v' ((xs.drop l).take (h-l))->(mx≠none->Value.pX v'=h-l)->W x ops Q rest H M ((d,v')::L)):
  W x ops Q (⟨some d,.slice t y lo hi mx,ty,pos,aft,g⟩::rest) H M L:=by
 have hlen:((xs.drop l).take (h-l)).length=h-l:=by simp; omega
 rcases hR with ⟨⟨a0,rfl⟩,rfl⟩ | ⟨b,off,cap,arr,T,fz,rfl,h2,h3,h4,h5,h6⟩
 ·have hl0:l=0:=by simp at Z; omega
  have hh0:h=0:=by simp at Z; omega
  subst hl0; subst hh0
  have hif:(if mx=none then 0 else 0)=0:=by split <;> rfl
  refine iL (v:=.slice a0 0 0) rfl hg hN (λc w I ht=>?_) (k _ (.inl ⟨⟨_,rfl⟩,by simp⟩) (λ_=>rfl))
  have O:=(hm 0 (Ov _)).bd I;rw [hif] at O;have hr:=tO (P:=x.P) (w:=w) (len:=0) (cap:=0) (a:=a0) hT hs (HQ hmh) O ((hh 0 (Ov _)).bd I) (hl.bd I);simp only [Po,RQ] at hr;simp only [execOp,I.ev hy,Oi,hr,Oe,Oq]
 ·have hmc:h<=(if mx=none then cap else h)/\(if mx=none then cap else h)<=cap:=by split <;> omega
  generalize Y:(if mx=none then cap else h)=m at hmc
  refine iL (v:=.slice (if m=l then some ⟨b,off,none⟩ else some ((⟨b,off,none⟩:Addr).add (l*aE.sz α))) (h-l) (m-l)) rfl hg hN (λc w I ht=>?_) (k _ ?_ ?_)
  ·have O:=(hm cap (by omega)).bd I
   rw [Y] at O;simp only [execOp,I.ev hy,Oi,tO hT hs (HQ hmh) O ((hh m hmc.1).bd I) (hl.bd I),Oe,Oq]
   split <;> rfl
  ·by_cases hml:m=l
   ·have:h-l=0:=by omega
    have e0:m-l=0:=by omega
    rw [Oc hml,this,e0];exact .inl ⟨⟨_,rfl⟩,by simp⟩
   ·rw [Ob hml,O9]
    have hmul:l*aE.sz α+(m-l)*aE.sz α<=cap*aE.sz α:=by
     rw [<- Ou]; exact On _ (by omega)
    refine .inr ⟨b,off+l*aE.sz α,m-l,arr,T,fz,by rw [hlen],by omega,by omega,h4,by omega,λj el J=>?_⟩
    rw [O5] at J
    split at J
    ·rw [ON] at J
     obtain ⟨cs,q1,q2⟩:=h6 (l+j) el J;refine ⟨cs,q1,λi c hc=>?_⟩;rw [show off+l*aE.sz α+j*aE.sz α+i=off+(l+j)*aE.sz α+i by rw [Ou]; omega]
     exact q2 i c hc
    ·cases J
  ·intro hne
   rw [Ob hne] at Y;subst Y; rfl
theorem Fv {α:Type}[aE α] {t e T:TypeId}{n:Nat}{y:Operand}{lo hi:Option Operand}{v:N3}{cs:List N3}{xs:List α}{l h:Nat} (hg:gd ops L ⟨some d,.slice t y lo hi none,ty,pos,aft,g⟩=some true) (hN:Nat.blt d x.N=true)
  (hT:∀ w,(underlying t).run x.P w=.ok (.slice e) w) (hs:∀ w,(sizeOf e).run x.P w=.ok (aE.sz α) w) (hs0:Nat.blt 0 (aE.sz α)=true)
  (hy:ev L y=some v) (hR:Rw H v cs xs) (hlh:l<=h) (hhx:h<=xs.length)
  (hh:∀ m,h<=m->EA L hi xs.length m h) (hl:EA L lo 0 h l)
  (k:∀ v' cs',Rw H v' cs' ((xs.drop l).take (h-l))->Value.pX v'=Value.pX v-l->W x ops Q rest H (.row v' T (aE.sz α) ((xs.drop l).take (h-l)).length cs'::M) ((d,v')::L)):
  W x ops Q (⟨some d,.slice t y lo hi none,ty,pos,aft,g⟩::rest) H (.row v T (aE.sz α) n cs::M) L:=by
 have J:((xs.drop l).take (h-l)).length=h-l:=by simp; omega
 refine tF rfl hg hN λa w I ht=>?_;have hok:k6 w T (aE.sz α) v n cs:=ht.ok _ (Oa ..);have hn:n=xs.length:=by
  have h1:=hR.rd.len;rw [hok.1] at h1;exact PN (by simpa [Pk] using hs0) h1
 subst hn;have hrd:=(hR.rd.split h).1.split l;have Y:qx H ((cs.take (h*aE.sz α)).drop (l*aE.sz α)) ((xs.drop l).take (h-l)):=by
  have:=hrd.2
  rwa [Qk (l:=xs)] at this
 have hcl:=Y.len;rcases hok.2 with ⟨rfl,h0⟩ | ⟨Z,off,cap,cur,rfl,hgb,hnc,hcm,hcs,htake⟩
 ·have hl0:l=0:=by omega
  have hh0:h=0:=by omega
  subst hl0; subst hh0
  refine ⟨.slice none 0 0,w,?_,H,_,?_,k _ [] (by simpa using (Rw.nil:Rw H (.slice none 0 0) [] ([]:List α))) rfl⟩
  ·have hh':=(hh 0 (Ov _)).bd I
   rw [h0] at hh';have hr:=tO (P:=x.P) (w:=w) (len:=0) (cap:=0) (a:=none) (mx:=none) hT hs (.inl rfl) (.inl ⟨rfl,rfl⟩) hh' (hl.bd I);simp only [Po,RQ] at hr;simp only [execOp,I.ev hy,Oi,Rc,hr,Oe,Oq]
  ·have:=ht.tail.Ar T (aE.sz α)
   simpa using this
 ·refine ⟨.slice (if cap=l then some ⟨Z,off,none⟩ else some ((⟨Z,off,none⟩:Addr).add (l*aE.sz α))) (h-l) (cap-l),w,?_,H,_,?_,k _ _ ⟨Y,_,_,_,rfl⟩ rfl⟩
  ·simp only [execOp,I.ev hy,Oi,tO (mx:=none) (m:=cap) hT hs (.inl rfl) (.inl ⟨rfl,rfl⟩) ((hh cap (by omega)).bd I) (hl.bd I),Rc,Oe,Oq]
   split <;> rfl
  ·have hgr:w.grownBy w (bU.yI (.row (.slice (some ⟨Z,off,none⟩) xs.length cap) T (aE.sz α) xs.length cs)):=⟨rfl,rfl,rfl,Ov _,λ_ _ _=>rfl⟩
   rw [J];have hmul:l*aE.sz α+(cap-l)*aE.sz α=cap*aE.sz α:=by rw [<- Ou]; congr 1; omega
   have hmul2:h*aE.sz α=l*aE.sz α+(h-l)*aE.sz α:=by rw [<- Ou]; congr 1; omega
   have hmul3:h*aE.sz α<=xs.length*aE.sz α:=On _ hhx;have hxl:cs.length=xs.length*aE.sz α:=hok.1
   by_cases O:cap=l
   ·have e1:h-l=0:=by omega
    have e2:cap-l=0:=by omega
    rw [Oc O,e1,e2];have e3:(cs.take (h*aE.sz α)).drop (l*aE.sz α)=[]:=by
     apply OK; rw [hcl,J,e1,PG]
    rw [e3];exact ht.Ch (r':=.row (.slice (some ⟨Z,off,none⟩) 0 0) T (aE.sz α) 0 []) hgr ⟨by simp,.inr ⟨Z,off,0,cur,rfl,hgb,Ov _,by unfold maxLen; omega,by omega,by simp⟩⟩ (λc hc=>.inl hc)
   ·rw [Ob O,O9]
    refine ht.Ch (r':=.row (.slice (some ⟨Z,off+l*aE.sz α,none⟩) (h-l) (cap-l)) T (aE.sz α) (h-l) _) hgr ⟨?_,.inr ⟨Z,off+l*aE.sz α,cap-l,cur,rfl,hgb,by omega,by omega,by omega,?_⟩⟩ (λc hc=>.inl hc)
    ·rw [hcl,J]
    ·rw [<- htake,RO,O7 hmul3,Qk,Qa]
     congr 1; omega
theorem wJ {α:Type}[aE α] {t e T:TypeId}{n:Nat}{y:Operand}{lo hi:Option Operand}{v:N3}{cs:List N3}{xs:List α}{l h:Nat} (hg:gd ops L ⟨some d,.slice t y lo hi none,ty,pos,aft,g⟩=some true) (hN:Nat.blt d x.N=true)
  (Z:∀ w,(underlying t).run x.P w=.ok (.slice e) w) (hs:∀ w,(sizeOf e).run x.P w=.ok (aE.sz α) w) (Y:Nat.blt 0 (aE.sz α)=true)
  (hy:ev L y=some v) (hR:Rw H v cs xs) (O:l<=h) (J:h<=xs.length)
  (hh:∀ m,h<=m->EA L hi xs.length m h) (hl:EA L lo 0 h l)
  (k:∀ v' I,Rw H v' I ((xs.drop l).take (h-l))->W x ops Q rest H (.row v' T (aE.sz α) ((xs.drop l).take (h-l)).length I::M) ((d,v')::L)):
  W x ops Q (⟨some d,.slice t y lo hi none,ty,pos,aft,g⟩::rest) H (.row v T (aE.sz α) n cs::M) L:=
 Fv hg hN Z hs Y hy hR O J hh hl (λv' I h _=>k v' I h)
end
def uW {α:Type} (xs:List α) (l h:Nat):List α:=(xs.drop l).take (h-l)
theorem Rw.room {α:Type}[aE α] {H:Hp}{v:N3}{xs:List N3}{l:List α} (h:Rw H v xs l) {k:Nat}{e:α} (Y:l[k]? = some e) {o m:Nat} (J:Nat.ble (o+m) (aE.sz α)=true):k*aE.sz α+o+m<=xs.length:=by
 have Z:k<l.length:=(N_.1 Y).1;have I:(k+1)*aE.sz α<=l.length*aE.sz α:=On _ Z;have O:o+m<=aE.sz α:=by simpa [Qz] using J
 rw [h.rd.len];rw [Ou,Rx] at I;omega
theorem Fj (a:Addr) (i:Nat):a.add i=a.add (i+0):=rfl
theorem Im (a:Addr) (i o:Nat):(a.add i).add o=a.add (i+o):=add_add a i o
section
variable {x:Cx}{ops:Array Oper}{Q:mj}{rest:List Oper}{H:Hp}{M M':List bU}{L L':Env}
variable {d:Nat}{ty:TypeId}{pos:String}{aft:Array Edge}{g:Option (Nat×Bool)}
theorem rM (α:Type) [aE α] {T e:TypeId}
  (Y:gd ops L ⟨some d,.buildSlice T 0 #[],ty,pos,aft,g⟩=some true) (hN:Nat.blt d x.N=true)
  (O:∀ w,(underlying T).run x.P w=.ok (.slice e) w) (hs:∀ w,(sizeOf e).run x.P w=.ok (aE.sz α) w)
  (k:∀ v' I,Rw H v' I ([]:List α)->W x ops Q rest H (.row v' e (aE.sz α) ([]:List α).length I::M) ((d,v')::L)):
  W x ops Q (⟨some d,.buildSlice T 0 #[],ty,pos,aft,g⟩::rest) H M L:=by
 refine tF rfl Y hN λa w Z ht=>?_;have J:∀ c w,(newRow e c).run x.P w=.ok ⟨w.heap.size,0,none⟩ (w.alloc (.cells c e)):=λc w=>by
  simp only [newRow,newObj,Oi,Oq,Sem.run,Oe,World.alloc]
 refine ⟨.slice (some ⟨w.heap.size,0,none⟩) 0 0,_,?_,H,_,St.newRow (α:=α) (cells:=[]) (l:=[]) (e:=e) ht rfl (by unfold maxLen; simp),k _ _ ⟨rfl,_,_,_,rfl⟩⟩
 simp only [execOp,Instr.buildSlice,Oi,O,hs,Oe,PG,Nat.not_lt_zero,gt_iff_lt,P1,RQ,Oq];simp [Instr.fill,J,Array.range]
end
def ml (s:N2):List U8:=s.data.toList.map λb=>⟨b.toNat⟩
section
variable {x:Cx}{ops:Array Oper}{Q:mj}{rest:List Oper}{H:Hp}{M M':List bU}{L L':Env}
variable {d:Nat}{ty:TypeId}{pos:String}{aft:Array Edge}{g:Option (Nat×Bool)}
def sY (s:N2) (cap:Nat):Array N3:=s.data.map (λb:UInt8=>Value.int .u8 b.toNat)++Array.replicate (cap-s.size) (Value.int .u8 0)
theorem BP (w:World) (c:Array N3) (e:TypeId):(w.alloc (.cells c e)).freeze ⟨w.heap.size,c.size,none⟩ 1=w.alloc (.cells c e (c.size,c.size+1)):=by
 have key:∀ (f:Obj->Obj),f (.cells c e)=.cells c e (c.size,c.size+1)->(w.heap.push (.cells c e)).modify w.heap.size f=w.heap.push (.cells c e (c.size,c.size+1)):=by
  intro f I;apply Array.ext_getElem?;intro i;rw [R3,Array.getElem?_push,Array.getElem?_push]
  by_cases h:w.heap.size=i
  ·subst h; simp [I]
  ·rw [Ob h,Ob (λq=>h q.symm),Ob (λq=>h q.symm)]
 unfold World.freeze;rw [Ob (by omega)]
 show ({ w with heap:=(w.heap.push (.cells c e)).modify w.heap.size _ }:World)={ w with heap:=w.heap.push (.cells c e (c.size,c.size+1)) }
 rw [key _ (by simp)]
theorem xC (s:N2):(ml s).length=s.size:=by unfold ml; rw [PJ,Array.length_toList]; rfl
theorem yw {P:Program}{w:World}{e:TypeId}{s:N2}:
  (Conv.stringToBytes e s).run P w=.ok (.slice (some ⟨w.heap.size,0,none⟩) s.size (grownCap w s.size 0 e))
   (w.drew.alloc (.cells (sY s (grownCap w s.size 0 e)) e ((sY s (grownCap w s.size 0 e)).size,(sY s (grownCap w s.size 0 e)).size+1))):=by
 have I:(choose (.appendCap s.size 0 e)).run P w=.ok (grownCap w s.size 0 e) w.drew:=by
  simp only [choose,Sem.run,Question.forced,Ps,P1]; rfl
 have O:∀ (c:Array N3) (w:World),(newRow e c).run P w=.ok ⟨w.heap.size,0,none⟩ (w.alloc (.cells c e)):=λc w=>by
  simp only [newRow,newObj,Oi,Oq,Sem.run,Oe,World.alloc]
 have J:∀ (c:Array N3) (w:World),(markStringish ⟨w.heap.size,0,none⟩).run P (w.alloc (.cells c e))=.ok () (w.alloc (.cells c e (c.size,c.size+1))):=λc w=>by
  have Y:(w.alloc (.cells c e)).shape? w.heap.size=some (e,c.size):=by
   have:(w.alloc (.cells c e)).heap[w.heap.size]? = some (.cells c e):=Sk w _;simp only [World.shape?,this]
  simp only [markStringish,shape,Oi,Sem.run,Y,Oe,Go.freeze,BP]
 simp only [Conv.stringToBytes,Oi,I,Oe,O];have:=J (sY s (grownCap w s.size 0 e)) w.drew;simp only [sY] at this ⊢;rw [show (w.drew.heap.size)=w.heap.size from rfl] at this ⊢;rw [this]
 rfl
theorem Cr {t u e:TypeId}{y:Operand}{s:N2} (hg:gd ops L ⟨some d,.convert t u y,ty,pos,aft,g⟩=some true) (hN:Nat.blt d x.N=true)
  (ht:∀ w,(underlying t).run x.P w=.ok .string w) (hu:∀ w,(underlying u).run x.P w=.ok (.slice e) w) (he:∀ w,(underlying e).run x.P w=.ok (.int .u8) w)
  (hy:ev L y=some (.string s)) (hs:s.size<=maxLen)
  (k:∀ v H',H.le H'->aV H' v (ml s)->W x ops Q rest H' M ((d,v)::L)):
  W x ops Q (⟨some d,.convert t u y,ty,pos,aft,g⟩::rest) H M L:=by
 refine tF rfl hg hN λa w hsl h=>?_;have Y:=grownCap_ge w s.size 0 e;have O:grownCap w s.size 0 e<=maxLen:=grownCap_le_maxLen w s.size 0 e hs;have h':St x.B x.w0 H M w.drew:=h.drewN (w.drawn+1);generalize J:grownCap w s.size 0 e=cap at Y O;have ha:=(h'.alloc (.cells (sY s cap) e ((sY s cap).size,(sY s cap).size+1))).freeze;refine ⟨.slice (some ⟨w.heap.size,0,none⟩) s.size cap,w.drew.alloc (.cells (sY s cap) e ((sY s cap).size,(sY s cap).size+1)),?_,_,M,ha.2,k _ _ ha.1 (.inr ⟨w.heap.size,0,cap,_,e,_,?_,?_,O,Hp.wO _ _ _,?_,?_⟩)⟩
 ·have hr:=yw (P:=x.P) (w:=w) (e:=e) (s:=s)
  rw [J] at hr;simp only [execOp,hsl.ev hy,convert,Oi,ht,hu,he,Oe,hr,Oq]
 ·rw [xC]
 ·rw [xC]; exact Y
 ·have e0:s.size=s.data.size:=rfl
  simp [aE.sz,sY];omega
 ·intro j el I
  refine ⟨[.int .u8 el.n],rfl,λi c Z=>?_⟩;have hi:i=0:=by
   have:=(N_.1 Z).1;simp at this; omega
  subst hi;simp at Z; subst Z
  have hj:=(N_.1 I).1;simp [ml] at I hj;obtain ⟨b,hb,rfl⟩:=I;simp only [aE.sz,OB,QE,PF,sY];rw [Array.getElem?_append_left (by simpa using hj),Array.getElem?_map,hb]
  rfl
theorem B7 {P:Program}{w:World}{t e:TypeId}{o:Option Addr}{n c:Nat} (I:∀ w,(underlying t).run P w=.ok (.slice e) w):(Op.equal t (.slice o n c) (.slice none 0 0)).run P w=.ok o.isNone w:=by
 have key:∀ k,(Op.equalIn (k+1) t (.slice o n c) (.slice none 0 0)).run P w=.ok o.isNone w:=λk=>by
  unfold Op.equalIn;cases o <;> simp [I]
 exact key 9999
theorem tw {t e u:TypeId}{y z:Operand}{o:Option Addr}{n c:Nat} (J:gd ops L ⟨some d,.binOp .eql t y z u,ty,pos,aft,g⟩=some true) (hN:Nat.blt d x.N=true)
  (I:∀ w,(underlying t).run x.P w=.ok (.slice e) w) (O:ev L y=some (.slice o n c)) (Y:ev L z=some (.slice none 0 0))
  (k:W x ops Q rest H M ((d,.bool o.isNone)::L)):
  W x ops Q (⟨some d,.binOp .eql t y z u,ty,pos,aft,g⟩::rest) H M L:=
 iL rfl J hN (λa w hs _=>by
  simp only [execOp,hs.ev O,hs.ev Y,Oi,eqGuard,binOp,B7 I,Oe,Oq]
  rfl) k
end
section
variable {B:Nat}{w0 w:World}{H:Hp}{M:List bU}
theorem St.re {α:Type}[aE α] {v:N3}{T:TypeId}{n:Nat}{xs:List N3}{ys:List α}
  (h:St B w0 H (.row v T (aE.sz α) n xs::M) w) (hx:Rw H v xs ys) (hs:Nat.blt 0 (aE.sz α)=true):
  ∃ H',H.le H'/\St B w0 H' M w/\aV H' v ys/\∀ M' w',St B w0 H' M' w'->St B w0 H (.row v T (aE.sz α) n xs::M') w':=by
 have hs':0<aE.sz α:=by simpa [Pk] using hs
 have hok:=h.ok _ (Oa ..);have Z:=h.lo _ (Oa ..);obtain ⟨hl,hh⟩:=hok;have hn:n=ys.length:=by
  have:=hx.rd.len;rw [hl] at this;exact PN hs' this
 subst hn;rcases hh with ⟨rfl,h0⟩ | ⟨g,off,cap,O,rfl,hg,hnc,hcm,hcs,J⟩
 ·refine ⟨H,O1 _,h.tail,.inl ⟨⟨_,rfl⟩,OK h0⟩,λM' w' h'=>?_⟩
  have hx0:xs=[]:=OK (by rw [hl,h0,PG])
  rw [h0,hx0];exact h'.Ar T _
 ·have h':St B w0 H (.obj g (.cells O T (0,0))::M) w:=by
   refine ⟨h.below,h.le,h.vH,?_,?_,h.nd⟩
   ·intro r I
    rcases OM.1 I with rfl | I
    ·exact hg
    ·exact h.tail.ok r I
   ·intro r I
    rcases OM.1 I with rfl | I
    ·exact Z
    ·exact h.tail.lo r I
  obtain ⟨Y,hst⟩:=h'.freeze;refine ⟨_,Y,hst,.inr ⟨g,off,cap,O,T,(0,0),rfl,hnc,hcm,Hp.wO _ _ _,hcs,?_⟩,λM' w' hb=>?_⟩
  ·intro k e he
   obtain ⟨c,h1,h2⟩:=(hx.rd.mono Y).get k e he;refine ⟨c,h1,λj d hd=>?_⟩;have:=h2 j d hd;rw [<- J,O5] at this
   split at this
   ·rw [ON] at this; simpa [Qi] using this
   ·cases this
  ·have ht:=St.M7 (H:=H) hb (Z g (List.Mem.head _)).1 Y (Z g (List.Mem.head _)).2 (Hp.wO _ _ _)
   refine ⟨ht.below,ht.le,ht.vH,?_,?_,ht.nd⟩
   ·intro r I
    rcases OM.1 I with rfl | I
    ·exact ⟨hl,.inr ⟨g,off,cap,O,rfl,ht.ok _ (Oa ..),hnc,hcm,hcs,J⟩⟩
    ·exact ht.tail.ok r I
   ·intro r I
    rcases OM.1 I with rfl | I
    ·exact ht.lo (.obj g _) (Oa ..)
    ·exact ht.tail.lo r I
theorem nO {P:Program}{f:FuncId}{args:Array N3}{Y:Hp}{r:bU}{φ:List bU->N3->Prop}
  (I:∀ M' J,St B w0 Y M' J->St B w0 H (r::M') J) (h:Calls P f args w (ub B w0 λH' M' v=>Y=H'/\φ M' v)):
  Calls P f args w (ub B w0 λH' M' v=>H=H'/\∃ Z,r::Z=M'/\φ Z v):=
 h.mono λe J O=>by
  cases e with
  | returned v=>
   obtain ⟨H2,M',h1,h2,h3⟩:=O;subst h2;exact ⟨H,r::M',I M' J h1,rfl,M',rfl,h3⟩
  | panicked c=>exact O
  | outgrown=>exact O
end
section
variable {x:Cx}{ops:Array Oper}{Q:mj}{rest:List Oper}{H:Hp}{M M':List bU}{L L':Env}
variable {d:Nat}{ty:TypeId}{pos:String}{aft:Array Edge}{g:Option (Nat×Bool)}
theorem zQ {J:Fn}{first I:List Operand}{vs cs:List N3} (Y:gd ops L ⟨some d,.makeFunc J first.toArray I.toArray,ty,pos,aft,g⟩=some true) (hN:Nat.blt d x.N=true)
  (Z:xG L first=some vs) (O:xG L I=some cs) (k:W x ops Q rest H M ((d,.func J vs.toArray cs.toArray)::L)):
  W x ops Q (⟨some d,.makeFunc J first.toArray I.toArray,ty,pos,aft,g⟩::rest) H M L:=
 iL rfl Y hN (λa w hs _=>by simp [execOp,Instr.makeFunc,hs.xG Z,hs.xG O]) k
theorem lZ {d:Nat}{y:Operand}{f:FuncId}{args:List Operand}{O:Array TypeId}{vs fs cs:List N3}
  {Z:Hp->List bU->N3->Prop}
  (J:∀ as w,(callFunc f as).run x.P w=.ok (.enter f as) w)
  (hg:gd ops L ⟨some d,.call ⟨.value y,args.toArray,O⟩,ty,pos,aft,g⟩=some true) (hN:Nat.blt d x.N=true)
  (hy:ev L y=some (.func (.func f) fs.toArray cs.toArray)) (hv:xG L args=some vs)
  (hc:∀ w,St x.B x.w0 H M w->Calls x.P f (fs++vs++cs).toArray w (ub x.B x.w0 Z))
  (k:∀ v H' M',Z H' M' v->W x ops Q rest H' M' ((d,v)::L)):
  W x ops Q (⟨some d,.call ⟨.value y,args.toArray,O⟩,ty,pos,aft,g⟩::rest) H M L:=by
 intro a w hs ht;refine Ry λK hK=>?_;rw [Oc (hs.gd hg)];have I:args.toArray.map a.eval=vs.toArray:=by simp [hs.xG hv]
 have hr:(execOp a.eval ⟨some d,.call ⟨.value y,args.toArray,O⟩,ty,pos,aft,g⟩).run x.P w=.ok (.enter f (fs++vs++cs).toArray) w:=by
  simp only [execOp,resolve,I,hs.ev hy,Deferred.ofValue,Oi,Oq,Oe,invoke];simp [J]
 unfold Oper.wp;rw [hr];simp only [Oper.upon];refine (hc w ht).mono λe w' Y=>?_;cases e with
 | returned v=>
  obtain ⟨H',M',h1,h2⟩:=Y;exact hK _ _ (k v H' M' h2 _ _ (hs.put hN) h1)
 | panicked c=>exact Y.elim
 | outgrown=>exact Y.elim
def pz (k:IntKind) (a b:Int):Int:=k.wrap (a*2 ^ (min b.toNat k.bits))
def mO (k:IntKind) (a b:Int):Int:=a.fdiv (2 ^ (min b.toNat k.bits))
theorem y7 {t u:TypeId}{y z:Operand}{k Y:IntKind}{a b:Int} (I:gd ops L ⟨some d,.binOp .shl t y z u,ty,pos,aft,g⟩=some true) (hN:Nat.blt d x.N=true)
  (J:ev L y=some (.int k a)) (O:ev L z=some (.int Y b)) (hb:0<=b) (Z:W x ops Q rest H M ((d,.int k (pz k a b))::L)):
  W x ops Q (⟨some d,.binOp .shl t y z u,ty,pos,aft,g⟩::rest) H M L:=
 iL rfl I hN (λc w hs _=>by
  have:¬ b<0:=by omega
  simp [execOp,hs.ev J,hs.ev O,eqGuard,binOp,Op.shift,this,pz]) Z
theorem rN {t u:TypeId}{y z:Operand}{k Y:IntKind}{a b:Int} (I:gd ops L ⟨some d,.binOp .shr t y z u,ty,pos,aft,g⟩=some true) (hN:Nat.blt d x.N=true)
  (J:ev L y=some (.int k a)) (O:ev L z=some (.int Y b)) (hb:0<=b) (Z:W x ops Q rest H M ((d,.int k (mO k a b))::L)):
  W x ops Q (⟨some d,.binOp .shr t y z u,ty,pos,aft,g⟩::rest) H M L:=
 iL rfl I hN (λc w hs _=>by
  have:¬ b<0:=by omega
  simp [execOp,hs.ev J,hs.ev O,eqGuard,binOp,Op.shift,this,mO]) Z
theorem sq {t u:TypeId}{y:Operand}{k I:IntKind}{n:Int} (J:gd ops L ⟨some d,.convert t u y,ty,pos,aft,g⟩=some true) (hN:Nat.blt d x.N=true)
  (ht:∀ w,(underlying t).run x.P w=.ok (.int I) w) (O:∀ w,(underlying u).run x.P w=.ok (.int k) w) (Y:ev L y=some (.int I n))
  (Z:W x ops Q rest H M ((d,.int k (k.wrap n))::L)):
  W x ops Q (⟨some d,.convert t u y,ty,pos,aft,g⟩::rest) H M L:=
 iL rfl J hN (λc w hs _=>by simp [execOp,hs.ev Y,convert,ht,O,Conv.intToInt]) Z
theorem zL {t u:TypeId}{y z:Operand}{a b:N2} (J:gd ops L ⟨some d,.binOp .add t y z u,ty,pos,aft,g⟩=some true) (hN:Nat.blt d x.N=true)
  (O:ev L y=some (.string a)) (Y:ev L z=some (.string b)) (I:a.size+b.size<=maxLen) (Z:W x ops Q rest H M ((d,.string (a++b))::L)):
  W x ops Q (⟨some d,.binOp .add t y z u,ty,pos,aft,g⟩::rest) H M L:=
 iL rfl J hN (λc w hs _=>by
  have:¬ (((a.size+b.size:Nat):Int) > i64.max):=by
   simp only [IntKind.max,IntKind.signed,IntKind.bits]; unfold maxLen at I; simp; omega
  simp only [execOp,hs.ev O,hs.ev Y,eqGuard,binOp,Op.stringOp,Oi];simp only [Ob this];simp) Z
theorem DM {s:N2}{k:Nat}{c:U8} (h:(ml s)[k]? = some c):∃ b:UInt8,s[k]? = some b/\c=⟨b.toNat⟩:=by
 simp only [ml,OE,Rj] at h;obtain ⟨b,J,rfl⟩:=h;refine ⟨b,?_,rfl⟩;obtain ⟨O,e⟩:=N_.1 J;have I:k<s.size:=by simpa using O
 rw [getElem?_pos s k I];rw [<- e]; rfl
theorem xB {t:TypeId}{y z:Operand}{s:N2}{kk:IntKind}{i:Int}{c:U8} (Z:gd ops L ⟨some d,.index t y z,ty,pos,aft,g⟩=some true) (hN:Nat.blt d x.N=true)
  (J:∀ w,(underlying t).run x.P w=.ok .string w) (hy:ev L y=some (.string s)) (hz:ev L z=some (.int kk i)) (I:0<=i) (Y:(ml s)[i.toNat]? = some c)
  (k:W x ops Q rest H M ((d,.int .u8 c.n)::L)):
  W x ops Q (⟨some d,.index t y z,ty,pos,aft,g⟩::rest) H M L:=
 iL rfl Z hN (λa w hs _=>by
  obtain ⟨b,O,rfl⟩:=DM Y;simp [execOp,hs.ev hy,hs.ev hz,Instr.index,asIntOf,J,I,O]) k
theorem rZ {t:TypeId}{y:Operand}{lo hi:Option Operand}{s:N2}{l h:Nat} (hg:gd ops L ⟨some d,.slice t y lo hi none,ty,pos,aft,g⟩=some true) (hN:Nat.blt d x.N=true)
  (Y:∀ w,(underlying t).run x.P w=.ok .string w)
  (hy:ev L y=some (.string s)) (hh:EA L hi s.size s.size h) (hl:EA L lo 0 h l)
  (k:W x ops Q rest H M ((d,.string (s.extract l h))::L)):
  W x ops Q (⟨some d,.slice t y lo hi none,ty,pos,aft,g⟩::rest) H M L:=
 iL rfl hg hN (λa w hs _=>by
  have Z:(Instr.sliceBounds false s.size s.size (lo.map a.eval) (hi.map a.eval) none).run x.P w=.ok (l,h,s.size) w:=by
   rcases hh.bd hs with ⟨e1,rfl⟩ | ⟨kh,ih,e1,J,O,rfl⟩
   ·rcases hl.bd hs with ⟨e2,rfl⟩ | ⟨kl,il,e2,I,l1,rfl⟩
    ·simp only [e1,e2,Instr.sliceBounds,Oi,Oq,Oe]
    ·simp only [e1,e2,Instr.sliceBounds,Oi,Oq,Oe,run_sliceBound I l1]
   ·rcases hl.bd hs with ⟨e2,rfl⟩ | ⟨kl,il,e2,I,l1,rfl⟩
    ·simp only [e1,e2,Instr.sliceBounds,Oi,Oq,Oe,run_sliceBound J O]
    ·simp only [e1,e2,Instr.sliceBounds,Oi,Oq,Oe,run_sliceBound J O,run_sliceBound I l1]
  simp only [execOp,hs.ev hy,Instr.sliceAt,Oi,Y,Oe,Instr.slice,Rc,Option.isSome_none,Ps,P1,Z,Oq]) k
end
class MV (α:Type) where
 mv:α->N3
instance:MV Int:=⟨λn=>.int .i64 n⟩
instance:MV Bool:=⟨λb=>.bool b⟩
instance:MV N2:=⟨λs=>.string s⟩
class wg (α:Type) [DecidableEq α] extends MV α where
 kind:TypeDesc
 same:∀ a b:α,Instr.sameNow kind (mv a) (mv b)=some (decide (a=b))
 bits:∀ a:α,Instr.sameBits 10000 (mv a) (mv a)=true
 check:∀ (P:Program) (t:TypeId) (e:Bool) (a:α) (w:World),(∀ w,(underlying t).run P w=.ok kind w)->(Instr.checkKey e 10000 t (mv a)).run P w=.ok () w
theorem Bx (s t:N2):(s == t)=decide (s=t):=by
 have h:(s == t)=(s.data == t.data):=rfl;rw [h,Bool.eq_iff_iff];simp only [beq_iff_eq,PC];exact ⟨λe=>ByteArray.ext e,λe=>by rw [e]⟩
instance:wg Int where
 kind:=.int .i64
 same a b:=by simp [Instr.sameNow,EX,MV.mv]
 bits a:=by simp [Instr.sameBits,MV.mv]
 check P t e a w h:=by
  have key:∀ k,(Instr.checkKey e (k+1) t (.int .i64 a)).run P w=.ok () w:=λk=>by unfold Instr.checkKey; simp [h]
  exact key 9999
instance:wg N2 where
 kind:=.string
 same a b:=by simp [Instr.sameNow,Bx,MV.mv]
 bits a:=by simp [Instr.sameBits,MV.mv,Bx]
 check P t e a w h:=by
  have key:∀ k,(Instr.checkKey e (k+1) t (.string a)).run P w=.ok () w:=λk=>by unfold Instr.checkKey; simp [h]
  exact key 9999
section
variable {κ ν:Type}[DecidableEq κ] [wg κ] [MV ν]
structure sA (es:Array MapEntry) (c:Nat) (l:List (κ×ν)):Prop where
 eq:es.toList.map (λe=>(e.key,e.val))=l.map λp=>(MV.mv p.1,MV.mv p.2)
 nd:(es.toList.map (·.born)).Nodup
 lt:∀ e ∈ es.toList,e.born<c
def vI:List (κ×ν)->κ->Nat->Option (Nat×ν)
 | [],_,_=>none
 | (a,v)::r,k,i=>if a=k then some (i,v) else vI r k (i+1)
def rI (l:List (κ×ν)) (k:κ):Option ν:=(vI l k 0).map (·.2)
def u4 (l:List (κ×ν)) (k:κ) (v:ν):List (κ×ν):=match vI l k 0 with
 | some (i,_)=>l.set i (k,v)
 | none=>l++[(k,v)]
theorem sA.nil:sA #[] 0 ([]:List (κ×ν)):=⟨rfl,by simp,by simp⟩
theorem z_ (k:κ):∀ (es:List MapEntry) (l:List (κ×ν)) (i:Nat),es.map (λe=>(e.key,e.val))=l.map (λp=>(MV.mv p.1,MV.mv p.2)) ->
  Instr.findNow (wg.kind κ) (MV.mv k) es i=some ((vI l k i).map λp=>(p.1,MV.mv p.2))
 | [],[],i,_=>rfl
 | [],_::_,i,h=>by simp at h
 | _::_,[],i,h=>by simp at h
 | e::es,(a,v)::l,i,h=>by
  simp only [QK,List.cons.injEq,Qj] at h;obtain ⟨⟨J,O⟩,Y⟩:=h;unfold Instr.findNow;rw [J,wg.same]
  by_cases I:k=a
  ·subst I; simp [vI,O]
  ·simp only [I,Sd,vI,Ob (λe:a=k=>I e.symm)]
   exact z_ k es l (i+1) Y
theorem run_findKey {P:Program}{w:World}{t:TypeId}{k:κ}{es:Array MapEntry}{c:Nat}{l:List (κ×ν)} (h:sA es c l) (I:∀ w,(underlying t).run P w=.ok (wg.kind κ) w):
  (Instr.findKey t (MV.mv k) es.toList).run P w=.ok ((vI l k 0).map λp=>(p.1,MV.mv p.2)) w:=by
 simp only [Instr.findKey,Oi,I,Oe,z_ k es.toList l 0 h.eq,Oq]
theorem D_:∀ {l:List (κ×ν)}{k:κ}{i j:Nat}{v:ν},vI l k i=some (j,v)->i<=j/\j<i+l.length/\l[j-i]? = some (k,v)
 | [],k,i,j,v,h=>by simp [vI] at h
 | (a,u)::l,k,i,j,v,h=>by
  unfold vI at h
  split at h
  ·rename_i e; subst e
   simp only [Ox,Qj] at h;obtain ⟨rfl,rfl⟩:=h;simp
  ·obtain ⟨J,O,I⟩:=D_ h
   refine ⟨by omega,by simp; omega,?_⟩
   rw [show j-i=(j-(i+1))+1 by omega,List.getElem?_cons_succ]; exact I
end
section
variable {x:Cx}{ops:Array Oper}{Q:mj}{rest:List Oper}{H:Hp}{M M':List bU}{L L':Env}
variable {d:Nat}{ty:TypeId}{pos:String}{aft:Array Edge}{g:Option (Nat×Bool)}
variable {κ ν:Type}[DecidableEq κ] [wg κ] [MV ν]
theorem yD {t:TypeId} (I:gd ops L ⟨some d,.makeMap t none,ty,pos,aft,g⟩=some true) (hN:Nat.blt d x.N=true)
  (k:∀ b,W x ops Q rest H (.obj b (.map #[] 0)::M) ((d,.map (some b))::L)):
  W x ops Q (⟨some d,.makeMap t none,ty,pos,aft,g⟩::rest) H M L:=
 tF rfl I hN (λc w hs ht=>⟨_,w.alloc (.map #[] 0),by
  simp only [execOp,Instr.makeMap,Rc,newObj,Oi,Oq,Sem.run,Oe,World.alloc],_,_,ht.alloc _,k _⟩)
theorem vY {P:Program}{w:World}{b:Nat}{es:Array MapEntry}{c:Nat} (h:w.heap[b]? = some (.map es c)):(getObj b).run P w=.ok (.map es c) w:=by
 simp [getObj,Sem.run,h]
theorem Em {P:Program}{w:World}{t key e:TypeId}{b c:Nat}{es:Array MapEntry}{l:List (κ×ν)}{k:κ}{z:ν}{ok:Bool} (O:w.heap[b]? = some (.map es c)) (h:sA es c l)
  (J:∀ w,(underlying t).run P w=.ok (.map key e) w) (I:∀ w,(underlying key).run P w=.ok (wg.kind κ) w) (Y:∀ w,(zeroValue e).run P w=.ok (MV.mv z) w):
  (Instr.lookup t (.map (some b)) (MV.mv k) ok).run P w=.ok (if ok then .tuple #[MV.mv ((rI l k).getD z),.bool (rI l k).isSome] else MV.mv ((rI l k).getD z)) w:=by
 simp only [Instr.lookup,Oi,J,Oe,vY O,Oq,wg.check P key _ k w I,run_findKey h I];unfold rI;cases hm:vI l k 0 with
 | none=>simp only [Rc,Oi,Y,Oe,Oq]; rfl
 | some p=>simp only [Py,Oq,Oe]; rfl
theorem zP {t key e:TypeId}{b c:Nat}{y u:Operand}{es:Array MapEntry}{l:List (κ×ν)}{k:κ}{z:ν}{J v:N3} (hm:bU.obj b (.map es c) ∈ M) (h:sA es c l)
  (Z:gd ops L ⟨some d,.lookup t y u false,ty,pos,aft,g⟩=some true) (hN:Nat.blt d x.N=true)
  (Y:∀ w,(underlying t).run x.P w=.ok (.map key e) w) (O:∀ w,(underlying key).run x.P w=.ok (wg.kind κ) w) (hz:∀ w,(zeroValue e).run x.P w=.ok (MV.mv z) w)
  (hy:ev L y=some (.map (some b))) (hu:ev L u=some J) (I:J=MV.mv k) (hv:MV.mv ((rI l k).getD z)=v)
  (kk:W x ops Q rest H M ((d,v)::L)):
  W x ops Q (⟨some d,.lookup t y u false,ty,pos,aft,g⟩::rest) H M L:=
 iL rfl Z hN (λa w hs ht=>by
  subst I; subst hv
  simp only [execOp,hs.ev hy,hs.ev hu,Oi,Em (ok:=false) (ht.vj hm) h Y O hz,Oe,Oq]; rfl) kk
theorem wP (w:World) (b:Nat) (o:Obj):w.grownBy { w with heap:=w.heap.setIfInBounds b o } (some b):=
 ⟨rfl,rfl,rfl,by simp,λk _ I=>by
  simp only [Rk];rw [Ob (λe=>I (by rw [e]))]⟩
theorem wI {t key e:TypeId}{b c:Nat}{y u q:Operand}{es:Array MapEntry}{l:List (κ×ν)}{k:κ}{v:ν}{vk vv:N3} (h:sA es c l)
  (hg:gd ops L ⟨none,.mapUpdate t y u q,ty,pos,aft,g⟩=some true)
  (hT:∀ w,(underlying t).run x.P w=.ok (.map key e) w) (hK:∀ w,(underlying key).run x.P w=.ok (wg.kind κ) w)
  (hy:ev L y=some (.map (some b))) (hu:ev L u=some vk) (hvk:vk=MV.mv k) (hq:ev L q=some vv) (hvv:vv=MV.mv v)
  (kk:∀ I J,sA I J (u4 l k v)->W x ops Q rest H (.obj b (.map I J)::M) L):
  W x ops Q (⟨none,.mapUpdate t y u q,ty,pos,aft,g⟩::rest) H (.obj b (.map es c)::M) L:=
 Bt rfl hg (λa w hs ht=>by
  subst hvk; subst hvv
  have Z:=ht.vj (Oa ..);have hlt:b<w.heap.size:=(Pt.1 Z).1;have Y:∀ o,(setObj b o).run x.P w=.ok () { w with heap:=w.heap.setIfInBounds b o }:=λo=>by simp [setObj,Sem.run,Z]
  have fin:∀ I J,sA I J (u4 l k v)->∃ H' M',St x.B x.w0 H' M' { w with heap:=w.heap.setIfInBounds b (.map I J) }/\W x ops Q rest H' M' L:=λI J hr=>
   ⟨H,_,ht.Ch (r':=.obj b (.map I J)) (wP w b _) (by simp [bU.ok,hlt]) (λ_ hc=>.inl hc),kk I J hr⟩
  have hlen:es.size=l.length:=by have:=Pc List.length h.eq; simpa using this
  cases hm:vI l k 0 with
  | none=>
   refine ⟨_,?_,fin (es.push { key:=MV.mv k,val:=MV.mv v,born:=c }) (c+1) ?_⟩
   ·simp only [execOp,hs.ev hy,hs.ev hu,hs.ev hq,Instr.mapUpdate,Oi,hT,Oe,vY Z,wg.check x.P key _ k w hK,run_findKey h hK,hm,Rc,Y,Oq]
   ·refine ⟨?_,?_,λe he=>?_⟩
    ·unfold u4
     rw [hm];simp only [Array.toList_push,Pu,QK,List.map_nil];rw [show es.toList.map _=_ from h.eq]
    ·simp only [Array.toList_push,Pu,QK,List.map_nil]
     rw [OO];refine ⟨h.nd,by simp,λa ha b Z e=>?_⟩
     simp at Z; subst Z; subst e
     obtain ⟨y,hy,rfl⟩:=Pg.1 ha;exact Nat.lt_irrefl _ (h.lt y hy)
    ·simp only [Array.toList_push,Om,OU] at he
     rcases he with he | rfl
     ·exact Nat.lt_succ_of_lt (h.lt e he)
     ·exact Oh _
  | some p=>
   obtain ⟨i,u0⟩:=p;obtain ⟨_,hi,O⟩:=D_ hm;simp only [OB,Q4] at hi O;have hi':i<es.size:=by omega
   have hkey:es[i].key=MV.mv k:=by
    have h1:(es.toList.map λe=>(e.key,e.val))[i]? = some (MV.mv k,MV.mv u0):=by rw [show es.toList.map _=_ from h.eq,OE,O]; rfl
    rw [OE] at h1;simp [hi'] at h1;exact h1.1
   refine ⟨_,?_,fin (es.modify i λe=>{ e with key:=MV.mv k,val:=MV.mv v }) c ?_⟩
   ·have hg2:((es[i]?).map (·.key)).getD (MV.mv k)=MV.mv k:=by simp [hi',hkey]
    simp only [execOp,hs.ev hy,hs.ev hu,hs.ev hq,Instr.mapUpdate,Oi,hT,Oe,vY Z,wg.check x.P key _ k w hK,run_findKey h hK,hm,Py,hg2,Instr.keyThatStays,wg.bits,RQ,Y,Oq]
   ·have hbn:(es.modify i λe=>{ e with key:=MV.mv k,val:=MV.mv v }).toList.map (·.born)=es.toList.map (·.born):=by
     simp only [Array.toList_modify];apply PO;intro j;rw [OE,OE,List.getElem?_modify]
     by_cases e:i=j
     ·subst e; cases es.toList[i]? <;> simp
     ·simp [Ob e]
    refine ⟨?_,by rw [hbn]; exact h.nd,λe he=>?_⟩
    rotate_left
    ·have h1:e.born ∈ es.toList.map (·.born):=by rw [<- hbn]; exact Pg.2 ⟨e,he,rfl⟩
     obtain ⟨y,hy,hyb⟩:=Pg.1 h1;rw [<- hyb]; exact h.lt y hy
    unfold u4;rw [hm];simp only [Array.toList_modify];apply PO;intro j;rw [OE,OE,List.getElem?_modify,List.getElem?_set];have hj:(es.toList.map λe=>(e.key,e.val))[j]? = (l.map λp=>(MV.mv p.1,MV.mv p.2))[j]? := by rw [show es.toList.map _=_ from h.eq]
    rw [OE,OE] at hj
    by_cases e:i=j
    ·subst e
     simp [hi',hi]
    ·simp only [Ob e]
     simpa using hj)
end
section
variable {x:Cx}{ops:Array Oper}{Q:mj}{rest:List Oper}{H:Hp}{M M':List bU}{L L':Env}
variable {d:Nat}{ty:TypeId}{pos:String}{aft:Array Edge}{g:Option (Nat×Bool)}
theorem Cu {t:TypeId}{y:Operand}{f:Nat}{cs:List N3}{v:N3}{fs:Array Field}{I:Field} (Y:gd ops L ⟨some d,.field t y f,ty,pos,aft,g⟩=some true) (hN:Nat.blt d x.N=true)
  (J:∀ w,(underlying t).run x.P w=.ok (.struct fs) w) (O:fs[f]? = some I) (hA:∀ w,(isAgg I.type).run x.P w=.ok false w)
  (hy:ev L y=some (.agg cs.toArray)) (Z:cs[I.offset]? = some v) (k:W x ops Q rest H M ((d,v)::L)):
  W x ops Q (⟨some d,.field t y f,ty,pos,aft,g⟩::rest) H M L:=
 iL rfl Y hN (λa w hs ht=>by simp [execOp,hs.ev hy,Instr.field,J,O,asAgg,part,hA,Z]) k
def Kk (P:Program) (d:Nat) (xs ys:Array N3) (T:TypeId) (o:Nat) (b:Bool):Prop:=
 ∀ w,∃ u v,(part T xs o).run P w=.ok u w/\(part T ys o).run P w=.ok v w/\(Op.equalIn d T u v).run P w=.ok b w
def M_ (P:Program) (d:Nat) (xs ys:Array N3):List Field->List Bool->Prop
 | [],[]=>True
 | f::fs,b::bs=>f.name ≠ "_" /\ Kk P d xs ys f.type f.offset b/\M_ P d xs ys fs bs
 | _,_=>False
theorem yU {P:Program}{t:TypeId}{fs:Array Field}{xs ys:Array N3}{w:World}{d:Nat}{bs:List Bool} (Y:∀ w,(underlying t).run P w=.ok (.struct fs) w) (hs:P.stoodInHeld t=false)
  (h:M_ P d xs ys fs.toList bs):(Op.equalIn (d+1) t (.agg xs) (.agg ys)).run P w=.ok (bs.all id) w:=by
 unfold Op.equalIn;simp only [Oi,Y,Oe,program,Sem.run,hs,Ps,P1];rw [<- Array.forIn_toList]
 revert h
 generalize fs.toList=l;intro h
 induction l generalizing bs with
 | nil=>
  cases bs with
  | nil=>simp
  | cons b bs=>exact h.elim
 | cons f l ih=>
  cases bs with
  | nil=>exact h.elim
  | cons b bs=>
   obtain ⟨I,J,O⟩:=h;obtain ⟨u,v,Z,q2,q3⟩:=J w;rw [List.forIn_cons];simp only [Oc I,Oi,Z,q2,q3,Oe];cases b with
   | false=>simp
   | true=>
    simp only [Bool.not_true,Ps,P1,Oq,Oe];have:=ih O;simpa using this
theorem A6 {P:Program}{d T o:Nat}{xs ys:Array N3}{m n:N2} (hA:∀ w,(isAgg T).run P w=.ok false w) (I:∀ w,(underlying T).run P w=.ok .string w) (J:xs[o]? = some (.string m)) (O:ys[o]? = some (.string n)):
  Kk P (d+1) xs ys T o (decide (m=n)):=λw=>by
 refine ⟨_,_,by simp only [part,Oi,hA,Oe,Ps,P1,J,Oq]; rfl,by simp only [part,Oi,hA,Oe,Ps,P1,O,Oq]; rfl,?_⟩
 unfold Op.equalIn;simp [I,Bx]
theorem I4 {t u:TypeId}{y z:Operand}{xs ys:List N3}{b:Bool} (O:gd ops L ⟨some d,.binOp .eql t y z u,ty,pos,aft,g⟩=some true) (hN:Nat.blt d x.N=true)
  (J:x.P.eqGuardType x.P.depth t=false) (Z:ev L y=some (.agg xs.toArray)) (hz:ev L z=some (.agg ys.toArray)) (h:∀ w,(Op.equalIn 10000 t (.agg xs.toArray) (.agg ys.toArray)).run x.P w=.ok b w)
  (k:W x ops Q rest H M ((d,.bool b)::L)):W x ops Q (⟨some d,.binOp .eql t y z u,ty,pos,aft,g⟩::rest) H M L:=
 iL rfl O hN (λc w hs _=>by
  have I:(Op.equal t (.agg xs.toArray) (.agg ys.toArray)).run x.P w=.ok b w:=h w;have Y:∀ w,(program:Sem Program).run x.P w=.ok x.P w:=λ_=>rfl;simp only [execOp,hs.ev Z,hs.ev hz,Oi,eqGuard,binOp];simp [I,Y,J]) k
def xO (s t:N2):Bool:=Op.bytesLess s.toList t.toList
theorem vr {t e u:TypeId}{y z:Operand}{a:Option Addr} (O:gd ops L ⟨some d,.binOp .eql t y z u,ty,pos,aft,g⟩=some true) (hN:Nat.blt d x.N=true)
  (J:∀ w,(underlying t).run x.P w=.ok (.pointer e) w) (Y:ev L y=some (.pointer a)) (Z:ev L z=some (.pointer none))
  (k:W x ops Q rest H M ((d,.bool a.isNone)::L)):W x ops Q (⟨some d,.binOp .eql t y z u,ty,pos,aft,g⟩::rest) H M L:=
 iL rfl O hN (λc w hs _=>by
  have key:∀ k,(Op.equalIn (k+1) t (.pointer a) (.pointer none)).run x.P w=.ok a.isNone w:=λk=>by
   unfold Op.equalIn;cases a <;> simp [J]
  have I:(Op.equal t (.pointer a) (.pointer none)).run x.P w=.ok a.isNone w:=key 9999;simp only [execOp,hs.ev Y,hs.ev Z,Oi,eqGuard,binOp];simp [I]) k
theorem Cs {t u:TypeId}{y z:Operand}{a b:Bool} (O:gd ops L ⟨some d,.binOp .eql t y z u,ty,pos,aft,g⟩=some true) (hN:Nat.blt d x.N=true)
  (J:∀ w,(underlying t).run x.P w=.ok .bool w) (Y:ev L y=some (.bool a)) (Z:ev L z=some (.bool b))
  (k:W x ops Q rest H M ((d,.bool (decide (a=b)))::L)):W x ops Q (⟨some d,.binOp .eql t y z u,ty,pos,aft,g⟩::rest) H M L:=
 iL rfl O hN (λc w hs _=>by
  have e:(a == b)=decide (a=b):=by cases a <;> cases b <;> rfl
  have key:∀ k,(Op.equalIn (k+1) t (.bool a) (.bool b)).run x.P w=.ok (decide (a=b)) w:=λk=>by
   unfold Op.equalIn;simp [J,e]
  have I:(Op.equal t (.bool a) (.bool b)).run x.P w=.ok (decide (a=b)) w:=key 9999;simp only [execOp,hs.ev Y,hs.ev Z,Oi,eqGuard,binOp];simp [I]) k
theorem GI {t u:TypeId}{y z:Operand}{a b:Bool} (O:gd ops L ⟨some d,.binOp .neq t y z u,ty,pos,aft,g⟩=some true) (hN:Nat.blt d x.N=true)
  (J:∀ w,(underlying t).run x.P w=.ok .bool w) (Y:ev L y=some (.bool a)) (Z:ev L z=some (.bool b))
  (k:W x ops Q rest H M ((d,.bool (!decide (a=b)))::L)):W x ops Q (⟨some d,.binOp .neq t y z u,ty,pos,aft,g⟩::rest) H M L:=
 iL rfl O hN (λc w hs _=>by
  have e:(a == b)=decide (a=b):=by cases a <;> cases b <;> rfl
  have key:∀ k,(Op.equalIn (k+1) t (.bool a) (.bool b)).run x.P w=.ok (decide (a=b)) w:=λk=>by
   unfold Op.equalIn;simp [J,e]
  have I:(Op.equal t (.bool a) (.bool b)).run x.P w=.ok (decide (a=b)) w:=key 9999;simp only [execOp,hs.ev Y,hs.ev Z,Oi,eqGuard,binOp];simp [I]) k
theorem w9:∀ (x y:List UInt8),(!(Op.bytesLess x y || x == y))=Op.bytesLess y x
 | [],[]=>rfl
 | [],_::_=>rfl
 | _::_,[]=>rfl
 | a::x,b::y=>by
  have ih:=w9 x y;simp only [Op.bytesLess,List.cons_beq_cons];rcases QJ a.toNat b.toNat with h | h | h
  ·have I:a<b:=QW.2 h
   have J:¬ b<a:=λe=>by have:=QW.1 e; omega
   have O:(b == a)=false:=by simp; intro e; subst e; omega
   simp [I,J,O]
  ·have Y:a=b:=UInt8.toNat_inj.1 h
   subst Y;simpa using ih
  ·have I:b<a:=QW.2 h
   have J:¬ a<b:=λe=>by have:=QW.1 e; omega
   have O:(a == b)=false:=by simp; intro e; subst e; omega
   simp [I,J,O]
theorem KJ {I:BinOp}{t u:TypeId}{y z:Operand}{a b:N2}{v:Bool} (Y:gd ops L ⟨some d,.binOp I t y z u,ty,pos,aft,g⟩=some true) (hN:Nat.blt d x.N=true)
  (J:ev L y=some (.string a)) (O:ev L z=some (.string b))
  (Z:I=.lss/\v=xO a b\/I=.gtr/\v=xO b a\/I=.leq/\v=(!(xO b a))\/I=.geq/\v=(!(xO a b)))
  (k:W x ops Q rest H M ((d,.bool v)::L)):W x ops Q (⟨some d,.binOp I t y z u,ty,pos,aft,g⟩::rest) H M L:=
 iL rfl Y hN (λc w hs _=>by
  rcases Z with ⟨rfl,rfl⟩ | ⟨rfl,rfl⟩ | ⟨rfl,rfl⟩ | ⟨rfl,rfl⟩
  ·simp [execOp,hs.ev J,hs.ev O,eqGuard,binOp,Op.stringOp,xO]
  ·simp only [execOp,hs.ev J,hs.ev O,eqGuard,binOp,Op.stringOp,xO,<- w9 a.toList b.toList]; simp
  ·simp only [execOp,hs.ev J,hs.ev O,eqGuard,binOp,Op.stringOp,xO,<- w9 a.toList b.toList]; simp
  ·simp [execOp,hs.ev J,hs.ev O,eqGuard,binOp,Op.stringOp,xO]) k
end
def D9 (acc:List Nat) (o:Oper):Nat:=(kE o).foldl (λm j=>m ||| ((1 <<< j) ||| acc.getD j 0)) 0
def Am:List Nat->List Oper->List Nat
 | acc,[]=>acc
 | acc,o::r=>Am (acc++[D9 acc o]) r
theorem Al {acc:List Nat}{j:Nat}:∀ (ws:List Nat) (z:Nat),(ws.foldl (λm j=>m ||| ((1 <<< j) ||| acc.getD j 0)) z).testBit j=true ->
  z.testBit j=true\/∃ q ∈ ws,j=q\/(acc.getD q 0).testBit j=true
 | [],z,h=>.inl h
 | q::ws,z,h=>by
  rcases Al ws _ h with h | ⟨r,J,h⟩
  ·rw [Nat.testBit_or,Nat.testBit_or,PQ,PQ] at h
   rcases h with h | h | h
   ·exact .inl h
   ·refine .inr ⟨q,Oa ..,.inl ?_⟩
    rw [Nat.shiftLeft_eq,Rx,Nat.testBit_two_pow] at h;simpa using (N9 h).symm
   ·exact .inr ⟨q,Oa ..,.inr h⟩
  ·exact .inr ⟨r,Od _ J,h⟩
theorem wU {l:List Oper}{listed:Nat->Prop} (dc:∀ i o,l[i]? = some o->listed i->∀ j ∈ kE o,listed j):
  ∀ (r:List Oper) (acc:List Nat),(∀ i o,r[i]? = some o->l[acc.length+i]? = some o) ->
   (∀ i,i<acc.length->∀ o,l[i]? = some o->(∀ q ∈ kE o,listed q)->∀ j,(acc.getD i 0).testBit j=true->listed j) ->
   ∀ i,i<acc.length+r.length->∀ o,l[i]? = some o->(∀ q ∈ kE o,listed q)->∀ j,((Am acc r).getD i 0).testBit j=true->listed j
 | [],acc,_,h,i,hi,o,ho,hw,j,hj=>h i (by simpa using hi) o ho hw j hj
 | p::r,acc,hr,h,i,hi,o,ho,hw,j,hj=>by
  refine wU dc r (acc++[D9 acc p]) (λk q hk=>?_) ?_ i (by simp at hi ⊢; omega) o ho hw j hj
  ·have:=hr (k+1) q (by simpa using hk)
   rw [OG,OQ]
   rwa [show acc.length+1+k=acc.length+(k+1) by omega]
  ·intro k hk q hq Y b Z
   by_cases hkl:k<acc.length
   ·refine h k hkl q hq Y b ?_
    rw [OC,Ph hkl] at Z;rw [OC]; exact Z
   ·have hke:k=acc.length:=by simp at hk; omega
    subst hke;have hp:p=q:=by
     have:=hr 0 p rfl;rw [PF,hq] at this;exact (N8 this).symm
    subst hp;rw [OC,OD (Ov _),Po] at Z;simp only [List.getElem?_cons_zero,P0] at Z;unfold D9 at Z;rcases Al _ _ Z with h0 | ⟨q,hqm,rfl | O⟩
    ·simp at h0
    ·exact Y b hqm
    ·by_cases hql:q<acc.length
     ·have hlq:=Y q hqm
      cases J:l[q]? with
      | none=>
       have:acc.length<l.length:=(N_.1 hq).1;have:=List.getElem?_eq_none_iff.1 J;omega
      | some oq=>exact h q hql oq J (dc q oq J hlq) b O
     ·rw [OC,O4 (by omega)] at O
      simp at O
def uV (l:List Oper) (m:Nat):Bool:=
 l.zipIdx.all (λp=>(kE p.1).all λj=>Nat.blt j p.2) &&
 l.zipIdx.all λp=>Nat.blt p.2 m || (List.range p.2).all λj=>((Am [] l).getD p.2 0).testBit j
theorem rq {l:List Oper}{m:Nat} (J:uV l m=true) {i:Nat}{o:Oper} (O:l[i]? = some o):∀ j ∈ kE o,j<i:=by
 unfold uV at J;rw [PZ,Pa] at J;have:=J.1 (o,i) (by rw [List.mem_zipIdx_iff_getElem?]; simpa using O)
 simpa only [Pa,Pk] using this
theorem Aw {l:List Oper}{m:Nat} (O:uV l m=true) {listed:Nat->Prop} (dc:∀ i o,l[i]? = some o->listed i->∀ j ∈ kE o,listed j)
  {i:Nat}{o:Oper} (Z:l[i]? = some o) (hm:m<=i) (hw:∀ q ∈ kE o,listed q):∀ j,j<i->listed j:=by
 unfold uV at O;rw [PZ,Pa,Pa] at O;have J:=O.2 (o,i) (by rw [List.mem_zipIdx_iff_getElem?]; simpa using Z)
 simp only [PQ,Pk,Pa,OS] at J;have hi:i<l.length:=(N_.1 Z).1;intro j hj;rcases J with J | J
 ·omega
 ·exact wU dc l [] (λk q Y=>by simpa using Y) (λk Y=>by simp at Y) i (by simpa using hi) o Z hw j (J j hj)
def tP:List Nat->(Nat->List bU)->List bU->List bU
 | [],_,M=>M
 | c::cs,R,M=>R c++tP cs R M
theorem yy (cs:List Nat) (R:Nat->List bU) (M:List bU):tP cs R M=cs.flatMap R++M:=by
 induction cs with
 | nil=>rfl
 | cons c cs ih=>rw [tP,ih,Pm,OJ]
def AI (R:Nat->List bU) (i:Nat) (rs:List bU):Nat->List bU:=λk=>bif Nat.beq k i then rs else R k
theorem yV (R:Nat->List bU) (i:Nat) (rs:List bU):AI R i rs i=rs:=by simp [AI]
theorem zB (R:Nat->List bU) (i k:Nat) (rs:List bU) (h:k≠i):AI R i rs k=R k:=by
 unfold AI;cases J:Nat.beq k i with
 | false=>rfl
 | true=>exact absurd (Qf J) h
abbrev KI:=Nat->Hp->List bU->N3->Prop
def JP:Option Nat->N3->Env->Env
 | some t,v,L=>(t,v)::L
 | none,_,L=>L
def E3 (l:List Oper) (j:Nat):Option Nat:=match l[j]? with
 | none=>none
 | some o=>match o.dst with
  | some _=>none
  | none=>match o.op with
   | .store _ (.tmp s) _=>bif (kE o).any (λw=>match (l[w]?).bind (·.dst) with
    | some u=>Nat.beq u s
    | none=>false) then some s else none
   | _=>none
theorem K4 {l:List Oper}{j s:Nat} (h:E3 l j=some s):∃ o,l[j]? = some o/\o.dst=none/\∃ w ∈ kE o,(l[w]?).bind (·.dst)=some s:=by
 unfold E3 at h
 split at h
 ·cases h
 ·rename_i o ho
  split at h
  ·cases h
  ·rename_i hd
   split at h
   ·rename_i T s' z hop
    cases J:(kE o).any (λw=>match (l[w]?).bind (·.dst) with
     | some u=>Nat.beq u s'
     | none=>false) with
    | false=>rw [J] at h; cases h
    | true=>
     rw [J] at h;cases h;rw [List.any_eq_true] at J;obtain ⟨w,O,J⟩:=J;refine ⟨o,ho,hd,w,O,?_⟩
     split at J
     ·rename_i u hu
      rw [hu,Qf J]
     ·cases J
   ·cases h
def vM (l:List Oper) (Φ:KI) (H:Hp):List Nat->Env->(Nat->List bU)->(Env->(Nat->List bU)->Prop)->Prop
 | [],L,R,k=>k L R
 | j::J,L,R,k=>match (l[j]?).bind (·.dst) with
  | some t=>∀ v rs,Φ j H rs v->vM l Φ H J ((t,v)::L) (AI R j rs) k
  | none=>match E3 l j with
   | none=>∀ rs,Φ j H rs undef->vM l Φ H J L (AI R j rs) k
   | some s=>∀ v rs,(∀ u,lk L s=some u->v=u)->Φ j H rs v->vM l Φ H J L (AI R j rs) k
def MO (L:Env) (v:N3):Option Nat->Option Nat->Prop
 | some _,_=>True
 | none,none=>v=undef
 | none,some s=>lk L s=some v
def Bm (x:Cx) (H:Hp) (M:List bU) (L:Env) (t J:Option Nat) (O:Hp->List bU->N3->Prop):mj:=λe a w=>
 e=.normal/\∃ v H' rs,Sl x.N (JP t v L) a/\MO L v t J/\H.le H'/\St x.B x.w0 H' (rs++M) w/\O H' rs v
theorem iS {x:Cx}{H H':Hp}{M:List bU}{L:Env}{t:Nat}{Y:Option Nat}{v:N3}{O:Hp->List bU->N3->Prop} (rs:List bU) (J:H.le H') (h:O H' rs v):E x .normal (Bm x H M L (some t) Y O) H' (rs++M) ((t,v)::L):=
 λ_ _ hs ht=>⟨rfl,v,H',rs,hs,N4,J,ht,h⟩
theorem A1 {x:Cx}{H H':Hp}{M:List bU}{L:Env}{O:Hp->List bU->N3->Prop} (rs:List bU) (J:H.le H') (h:O H' rs undef):E x .normal (Bm x H M L none none O) H' (rs++M) L:=
 λ_ _ hs ht=>⟨rfl,undef,H',rs,hs,rfl,J,ht,h⟩
theorem fV {x:Cx}{H H':Hp}{M:List bU}{L:Env}{s:Nat}{v:N3}{O:Hp->List bU->N3->Prop} (hl:lk L s=some v) (rs:List bU) (J:H.le H') (h:O H' rs v):E x .normal (Bm x H M L none (some s) O) H' (rs++M) L:=
 λ_ _ hs ht=>⟨rfl,v,H',rs,hs,hl,J,ht,h⟩
def Cf (m:Nat) (I:List (List bU)):Nat->List bU:=λk=>if k<m then [] else I.getD (k-m) []
def wG (x:Cx) (l:List Oper) (Φ:KI) (C U:List (List Nat)) (Es:List Env) (J:Nat->List bU) (H:Hp) (M:List bU) (L:Env):Nat->List Oper->Prop
 | _,[]=>True
 | i,o::r=>(∀ H',H.le H'->∀ X Rest,(∀ s ∈ M,s ∈ Rest)->vM l Φ H' (kE o) (Es.getD i []++(L++X)) J (λL' R=>(∀ s ∈ tP (U.getD i []) R [],s ∈ Rest)->(∃ O,(tP (U.getD i []) R O).Perm Rest)->W x l.toArray (Bm x H' Rest L' o.dst (E3 l i) (Φ i)) [o] H' (tP (C.getD i []) R Rest) L')) /\
   wG x l Φ C U Es J H M L (i+1) r
theorem wG.at {x:Cx}{l:List Oper}{Φ:KI}{C U:List (List Nat)}{Es:List Env}{J:Nat->List bU}{H:Hp}{M:List bU}{L:Env}:∀ {r:List Oper}{i:Nat},wG x l Φ C U Es J H M L i r->∀ j o,r[j]? = some o ->
  ∀ H',H.le H'->∀ X Rest,(∀ s ∈ M,s ∈ Rest)->vM l Φ H' (kE o) (Es.getD (i+j) []++(L++X)) J (λL' R=>(∀ s ∈ tP (U.getD (i+j) []) R [],s ∈ Rest)->(∃ O,(tP (U.getD (i+j) []) R O).Perm Rest)->W x l.toArray (Bm x H' Rest L' o.dst (E3 l (i+j)) (Φ (i+j))) [o] H' (tP (C.getD (i+j) []) R Rest) L')
 | [],_,_,j,o,h=>by simp at h
 | p::r,i,hh,0,o,h=>by simp at h; subst h; exact hh.1
 | p::r,i,hh,j+1,o,h=>by
  have:=wG.at hh.2 j o (by simpa using h)
  rwa [show i+1+j=i+(j+1) from by omega] at this
def tx (a:Act) (v:N3):Option Nat->Option Nat->Prop
 | some t,_=>a.tmps[t]? = some v
 | none,none=>v=undef
 | none,some s=>a.tmps[s]? = some v
theorem vM.use {l:List Oper}{Φ:KI}{H:Hp}{a:Act}{N:Nat}{Rt:Nat->List bU}:∀ {js:List Nat}{L:Env}{R:Nat->List bU}{k:Env->(Nat->List bU)->Prop},vM l Φ H js L R k->Sl N L a ->
  (∀ j ∈ js,∃ v,tx a v ((l[j]?).bind (·.dst)) (E3 l j)/\Φ j H (Rt j) v) ->
  ∃ Y R',k (Y++L) R'/\Sl N (Y++L) a/\(∀ t v,(t,v) ∈ Y->a.tmps[t]? = some v)/\(∀ q,q ∈ js->R' q=Rt q)/\∀ q,q ∉ js->R' q=R q
 | [],L,R,k,h,hs,_=>⟨[],R,h,hs,by simp,by simp,λq _=>rfl⟩
 | j::js,L,R,k,h,hs,hv=>by
  obtain ⟨v,O,h2⟩:=hv j (Oa ..);have J:∀ {R':Nat->List bU},(∀ q,q ∈ js->R' q=Rt q)->(∀ q,q ∉ js->R' q=AI R j (Rt j) q)->(∀ q,q ∈ j::js->R' q=Rt q)/\∀ q,q ∉ j::js->R' q=R q:=by
   intro R' h6 Z;constructor
   ·intro q hq
    by_cases hqj:q ∈ js
    ·exact h6 q hqj
    ·rcases OM.1 hq with rfl | hq
     ·rw [Z _ hqj,yV]
     ·exact absurd hq hqj
   ·intro q hq
    rw [Z q (λh=>hq (Od _ h)),zB _ _ _ _ (λe=>hq (by rw [e]; exact Oa ..))]
  unfold vM at h;cases ht:(l[j]?).bind (·.dst) with
  | none=>
   rw [ht] at h O;cases hk:E3 l j with
   | none=>
    rw [hk] at h O;simp only [tx] at O;subst O;obtain ⟨Y,R',h3,h4,h5,h6,Z⟩:=vM.use (h (Rt j) h2) hs (λi hi=>hv i (Od _ hi));exact ⟨Y,R',h3,h4,h5,(J h6 Z).1,(J h6 Z).2⟩
   | some s=>
    rw [hk] at h O;simp only [tx] at O;obtain ⟨Y,R',h3,h4,h5,h6,Z⟩:=vM.use (h v (Rt j) (λu hu=>by have:=hs.get s u hu; rw [O] at this; exact N8 this) h2) hs (λi hi=>hv i (Od _ hi))
    exact ⟨Y,R',h3,h4,h5,(J h6 Z).1,(J h6 Z).2⟩
  | some t=>
   rw [ht] at h O;simp only [tx] at O;obtain ⟨Y,R',h3,h4,h5,h6,Z⟩:=vM.use (h v (Rt j) h2) (hs.cons O) (λi hi=>hv i (Od _ hi));refine ⟨Y++[(t,v)],R',by simpa using h3,by simpa using h4,?_,(J h6 Z).1,(J h6 Z).2⟩
   intro u w hm;rcases Om.1 hm with hm | hm
   ·exact h5 u w hm
   ·simp at hm; obtain ⟨rfl,rfl⟩:=hm; exact O
def BL (l:List Oper) (m:Nat) (Es:List Env):Bool:=
 (List.range m).all λi=>((Es.getD i []).map (·.1)).all λt=>(List.range m).all λw=>match (l[w]?).bind (·.dst) with
  | some u=>!Nat.beq u t || ((Am [] l).getD w 0).testBit i
  | none=>true
def xE (l:List Oper) (m:Nat) (L:Env):Bool:=
 (l.take m).all (λo=>match o.dst with
  | some t=>(lk L t).isNone
  | none=>true)
def xF (l:List Oper) (m:Nat):Bool:=decide (((l.take m).filterMap (·.dst)).Nodup)
def Et (l:List Oper) (m K:Nat) (C U:List (List Nat)) (live:List Nat):Bool:=
 ((List.range m).all λi=>(U.getD i []).all λu=>(Nat.ble m u || match l[i]? with
  | some o=>(kE o).contains u
  | none=>false) && Nat.blt u K && (List.range m).all λi'=>!(C.getD i' []).contains u || ((Am [] l).getD i' 0).testBit i) &&
 Nat.beq C.length m && (List.range m).all (λi=>(C.getD i []).all λc=>Nat.ble m c || match l[i]? with
  | some o=>(kE o).contains c
  | none=>false) &&
 (C.flatten++live).all (λc=>Nat.blt c K) && ((List.range K).all λk=>Nat.beq ((C.flatten++live).count k) 1) && (List.range m).all λi=>decide ((U.getD i []).Nodup)
section
variable {x:Cx}{l:List Oper}{m K:Nat}{Φ:KI}{C U:List (List Nat)}{live:List Nat}{I:List (List bU)}{Es:List Env}{H:Hp}{M:List bU}{L L0:Env}{Q:mj}
structure yZ (l:List Oper) (m K:Nat) (C U:List (List Nat)) (live:List Nat):Prop where
 len:C.length=m
 wait:∀ i o,i<m->l[i]? = some o->∀ c ∈ C.getD i [],m<=c\/c ∈ kE o
 lt:∀ c ∈ C.flatten++live,c<K
 nd:(C.flatten++live).Nodup
 all:∀ k,k<K->k ∈ C.flatten++live
 L6:∀ i o,i<m->l[i]? = some o->∀ u ∈ U.getD i [],(m<=u\/u ∈ kE o)/\u<K
 L5:∀ i,i<m->∀ u ∈ U.getD i [],∀ i',i'<m->u ∈ C.getD i' []->((Am [] l).getD i' 0).testBit i=true
 M8:∀ i,i<m->(U.getD i []).Nodup
theorem JY (h:Et l m K C U live=true):yZ l m K C U live:=by
 unfold Et at h;simp only [PZ] at h;obtain ⟨⟨⟨⟨⟨h0,h1⟩,h2⟩,h3⟩,h4⟩,J⟩:=h;rw [Pa] at h0 h2 h3 h4 J;have hU:∀ i,i<m->∀ u ∈ U.getD i [],((Nat.ble m u || match l[i]? with
  | some o=>(kE o).contains u
  | none=>false)=true/\u<K)/\∀ i',i'<m->u ∈ C.getD i' []->((Am [] l).getD i' 0).testBit i=true:=by
  intro i hi u Z;have:=h0 i (OS.2 hi);rw [Pa] at this;have:=this u Z;rw [PZ,PZ,Pa] at this;refine ⟨⟨this.1.1,by simpa [Pk] using this.1.2⟩,λi' hi' O=>?_⟩
  have J:=this.2 i' (OS.2 hi');rw [PQ] at J;rcases J with J | J
  ·have h6:(C.getD i' []).contains u=true:=by rw [Rl]; exact O
   rw [h6] at J; cases J
  ·exact J
 have O:∀ k,k<K->(C.flatten++live).count k=1:=λk hk=>Qf (h4 k (OS.2 hk));have Y:∀ c ∈ C.flatten++live,c<K:=λc O=>by simpa [Pk] using h3 c O
 refine ⟨Qf h1,?_,Y,?_,?_,?_,λi hi u Z=>(hU i hi u Z).2,λi hi=>N9 (J i (OS.2 hi))⟩
 ·intro i o hi ho c O
  have:=h2 i (OS.2 hi);rw [Pa] at this;have:=this c O;rw [ho] at this;simpa [PQ,Qz,Rl] using this
 ·rw [List.nodup_iff_count]
  intro a
  by_cases ha:a<K
  ·rw [O a ha]; exact Ov _
  ·rw [List.count_eq_zero.2 (λhm=>ha (Y a hm))]; omega
 ·intro k hk
  rw [<- List.count_pos_iff,O k hk]; omega
 ·intro i o hi ho u Z
  have:=(hU i hi u Z).1;rw [ho] at this;refine ⟨?_,this.2⟩;have J:=this.1;rw [PQ] at J;rcases J with J | J
  ·exact .inl (by simpa [Qz] using J)
  ·exact .inr (by simpa [Rl] using J)
theorem yZ.uniq (h:yZ l m K C U live) {i i' k:Nat} (hi:k ∈ C.getD i []) (J:k ∈ C.getD i' []):i=i':=by
 have O:=(OO.1 h.nd).1;unfold List.Nodup at O;rw [List.pairwise_flatten] at O;have Y:=QZ.1 O.2;have Z:i<C.length:=by
  by_cases e:i<C.length
  ·exact e
  ·rw [OC,O4 (by omega)] at hi; simp at hi
 have g2:i'<C.length:=by
  by_cases e:i'<C.length
  ·exact e
  ·rw [OC,O4 (by omega)] at J; simp at J
 rw [OC,N5 Z] at hi;rw [OC,N5 g2] at J;simp only [P0] at hi J;rcases QJ i i' with q | q | q
 ·exact absurd rfl (Y i i' Z g2 q _ hi _ J)
 ·exact q
 ·exact absurd rfl (Y i' i g2 Z q _ J _ hi)
theorem yZ.mem (h:yZ l m K C U live) {i k:Nat} (hi:k ∈ C.getD i []):k ∈ C.flatten:=by
 have J:i<C.length:=by
  by_cases e:i<C.length
  ·exact e
  ·rw [OC,O4 (by omega)] at hi; simp at hi
 rw [OC,N5 J] at hi;exact List.mem_flatten.2 ⟨_,OY J,hi⟩
theorem yZ.NG (h:yZ l m K C U live) (i:Nat):(C.getD i []).Nodup:=by
 have J:=(OO.1 h.nd).1;unfold List.Nodup at J;rw [List.pairwise_flatten] at J
 by_cases e:i<C.length
 ·rw [OC,N5 e]; exact J.1 _ (OY e)
 ·rw [OC,O4 (by omega)]; simp
def alive (m:Nat) (C:List (List Nat)) (listed:Array Bool) (k:Nat):Bool:=(Nat.ble m k || listed.getD k false) && !(List.range m).any λi=>listed.getD i false && (C.getD i []).contains k
theorem ss {listed:Array Bool}{k:Nat}:alive m C listed k=true↔(m<=k\/listed.getD k false=true)/\∀ i,i<m->listed.getD i false=true->k ∉ C.getD i []:=by
 unfold alive;simp only [PZ,PQ,Qz,Bool.not_eq_true',List.any_eq_false,OS,Rl];constructor
 ·rintro ⟨J,O⟩; exact ⟨J,λi hi hl hm=>O i hi ⟨hl,hm⟩⟩
 ·rintro ⟨J,O⟩; exact ⟨J,λi hi ⟨hl,hm⟩=>O i hi hl hm⟩
theorem Dr (hB:uV l m=true):∀ (f i:Nat) (listed:Array Bool) (a:Act) (w:World),m<=i->listed.size=l.length->i<=l.length->l.length<=i+f ->
  (∀ j,j<l.length->listed.getD j true=decide (j<i))->wpList x.P l.toArray Q (l.drop i) a w->wpAny x.P .any l.toArray Q f listed a w
 | 0,i,listed,a,w,hm,hsz,hf0,hf,hl,h=>by
  have hi:i=l.length:=by omega
  refine ⟨?_,by rw [hi,Q3] at h; exact h⟩
  rw [List.eq_nil_iff_forall_not_mem];intro j J;obtain ⟨h1,h2,_⟩:=mem_ready.1 J;rw [hl j (by simpa using h1)] at h2
  simp at h1 h2; omega
 | f+1,i,listed,a,w,hm,hsz,hf0,hf,hl,h=>by
  by_cases e2:i=l.length
  ·have O:Region.ready .any l.toArray listed=[]:=by
    rw [List.eq_nil_iff_forall_not_mem];intro j J;obtain ⟨q1,q2,_⟩:=mem_ready.1 J;rw [hl j (by simpa using q1)] at q2
    simp at q1 q2; omega
   exact ⟨λ_=>by rw [e2,Q3] at h; exact h,λj J=>by rw [O] at J; cases J⟩
  ·have hi:i<l.length:=by omega
   have ho:l[i]? = some l[i]:=N5 hi;have Y:∀ j,j<l.length->listed.getD j false=decide (j<i):=λj J=>by
    have:=hl j J;simp only [OP] at this ⊢;rw [QD (by omega)] at this ⊢
    simpa using this
   have Z:i ∈ Region.ready .any l.toArray listed:=by
    refine mem_ready.2 ⟨by simpa using hi,by rw [hl i hi]; simp,l[i],by simp,λj J=>?_⟩
    have hj':=rq hB ho j J;rw [Y j (by omega)]; simpa using hj'
   have huniq:∀ j ∈ Region.ready .any l.toArray listed,j=i:=by
    intro j J;obtain ⟨q1,q2,o,ho',hw⟩:=mem_ready.1 J;have q1':j<l.length:=by simpa using q1
    rw [hl j q1'] at q2;have hji:i<=j:=by simpa using q2
    by_cases e:j=i
    ·exact e
    ·exfalso
     have:=Aw hB (listed:=λq=>q<i) (λk o hk hki q hq=>by have:=rq hB hk q hq; omega) (i:=j) (o:=o) (by simpa using ho') (by omega)
      (λq hq=>by
       have h1:=hw q hq;have h2:=rq hB (i:=j) (o:=o) (by simpa using ho') q hq
       rw [Y q (by omega)] at h1
       simpa using h1) i (by omega)
     omega
   refine ⟨λhe=>(by rw [he] at Z; cases Z),λj J=>?_⟩
   obtain rfl:=huniq j J;unfold wpOp;rw [show l.toArray[j]? = some l[j] from by simp]
   rw [O6 hi] at h;have step:∀ a w,wpList x.P l.toArray Q (l.drop (j+1)) a w->wpAny x.P .any l.toArray Q f (listed.setIfInBounds j true) a w:=λa w hh=>
    Dr hB f (j+1) _ a w (by omega) (by simpa using hsz) (by omega) (by omega) (λk hk=>by
     rw [uF _ _ _ _ (by omega),hl k hk]
     by_cases e:k=j
     ·subst e; simp
     ·simp [e]; omega) hh
   unfold wpList at h
   dsimp only
   split
   ·rename_i hw; rw [Oc hw] at h; exact h.imp (Oper.wp_mono step) id
   ·rename_i hw; rw [Ob hw] at h; exact step _ _ h
theorem yp {A B:List Nat} (J:A.Nodup) (O:B.Nodup) (h:∀ a,a ∈ A↔a ∈ B) (R:Nat->List bU) (M:List bU):(A.flatMap R++M).Perm (B.flatMap R++M):=
 (((List.perm_ext_iff_of_nodup J O).2 h).flatMap_right R).append_right M
theorem ui {A:List Nat}{R R':Nat->List bU} (h:∀ a ∈ A,R a=R' a):A.flatMap R=A.flatMap R':=by
 induction A with
 | nil=>rfl
 | cons a A ih=>rw [Pm,Pm,h a (Oa ..),ih λb J=>h b (Od _ J)]
theorem JM (hB:uV l m=true) (hml:m<=l.length) (hD:xE l m L0=true) (hX0:BL l m Es=true) (hL0:∀ t v,lk L0 t=some v->lk L t=some v) (hE:∀ i t v,lk (Es.getD i []) t=some v->lk L t=some v) (hNd:xF l m=true) (hT:yZ l m K C U live) (hmK:m<=K)
  (hmono:∀ i H1 H2 rs v,H1.le H2->Φ i H1 rs v->Φ i H2 rs v)
  (hop:wG x l Φ C U Es (Cf m I) H M L0 0 (l.take m))
  (k:∀ H',H.le H'->vM l Φ H' (List.range m) L0 (Cf m I) (λL' R=>W x l.toArray Q (l.drop m) H' (tP live R M) L')):
  ∀ (J:Nat) (listed:Array Bool) (a:Act) (w:World) (H':Hp) (R:Nat->List bU),listed.size=l.length->left l listed<=J->(∀ j,m<=j->j<l.length->listed.getD j true=false) ->
   (∀ i o,l[i]? = some o->listed.getD i false=true->∀ j ∈ kE o,listed.getD j false=true) ->
   H.le H'->St x.B x.w0 H' (((List.range K).filter (alive m C listed)).flatMap R++M) w->Sl x.N [] a->(∀ t v,lk L t=some v->(∀ w o,w<m->l[w]? = some o->o.dst=some t->listed.getD w false=false)->a.tmps[t]? = some v)->(∀ q,m<=q->R q=Cf m I q) ->
   (∀ i o,i<m->l[i]? = some o->listed.getD i true=true->∃ v,tx a v o.dst (E3 l i)/\Φ i H' (R i) v) ->
   wpAny x.P .any l.toArray Q J listed a w:=by
 have hdst:∀ i o t,i<m->l[i]? = some o->o.dst=some t->lk L0 t=none:=by
  intro i o t him ho hd;have htake:(l.take m)[i]? = some o:=by rw [O5,Oc him]; exact ho
  unfold xE at hD;rw [Pa] at hD;have:=hD o (Ol htake);rw [hd] at this; simpa using this
 have fin:∀ (J:Nat) (listed:Array Bool) (a:Act) (w:World) (H':Hp) (R:Nat->List bU),listed.size=l.length->left l listed<=J->(∀ j,m<=j->j<l.length->listed.getD j true=false) ->
   H.le H'->St x.B x.w0 H' (((List.range K).filter (alive m C listed)).flatMap R++M) w->Sl x.N [] a->(∀ t v,lk L t=some v->(∀ w o,w<m->l[w]? = some o->o.dst=some t->listed.getD w false=false)->a.tmps[t]? = some v)->(∀ q,m<=q->R q=Cf m I q) ->
   (∀ i o,i<m->l[i]? = some o->listed.getD i true=true->∃ v,tx a v o.dst (E3 l i)/\Φ i H' (R i) v) ->
   (∀ j,j<m->listed.getD j true=true)->wpAny x.P .any l.toArray Q J listed a w:=by
  intro J listed a w H' R hsz hf htl hle ht hs0 hsl vH hv hall;have hs:Sl x.N L0 a:=⟨hs0.size,hs0.CN,λt v h=>hsl t v (hL0 t v h) (λw o hw ho hd=>by rw [hdst w o t hw ho hd] at h; cases h)⟩
  have hget:∀ j,j<l.length->listed.getD j false=listed.getD j true:=λj hj=>by
   simp only [OP];rw [QD (by omega)]; rfl
  obtain ⟨Y,R',h1,h2,_,h3,h4⟩:=vM.use (Rt:=R) (k H' hle) hs (λj hj=>by
   have hj':=OS.1 hj;have ho:l[j]? = some l[j]:=N5 (by omega)
   rw [ho];exact hv j _ hj' ho (hall j hj'))
  have hR:∀ q,R' q=R q:=λq=>by
   by_cases Z:q<m
   ·exact h3 q (OS.2 Z)
   ·rw [h4 q (λh=>Z (OS.1 h)),vH q (by omega)]
  have hwl:wpList x.P l.toArray Q (l.drop m) a w:=by
   refine h1 a w h2 (ht.perm ?_);rw [yy,ui (R:=R') (R':=R) (λq _=>hR q)];refine yp (List.nodup_range.filter _) (OO.1 hT.nd).2.1 ?_ R M;intro q;rw [Pj,OS,ss];constructor
   ·rintro ⟨h5,h6,h7⟩
    rcases Om.1 (hT.all q h5) with h8 | h8
    ·exfalso
     obtain ⟨c,hc,hqc⟩:=List.mem_flatten.1 h8;obtain ⟨i,hi,rfl⟩:=Pq.1 hc;have him:i<m:=by rw [<- hT.len]; exact hi
     refine h7 i him (by rw [hget i (by omega)]; exact hall i him) ?_
     rw [OC,N5 hi]; exact hqc
    ·exact h8
   ·intro Z
    refine ⟨hT.lt q (OR _ Z),?_,?_⟩
    ·by_cases e:m<=q
     ·exact .inl e
     ·exact .inr (by rw [hget q (by omega)]; exact hall q (by omega))
    ·intro i him _ hc
     exact (OO.1 hT.nd).2.2 q (hT.mem hc) q Z rfl
  have hl:∀ j,j<l.length->listed.getD j true=decide (j<m):=by
   intro j hj
   by_cases e:j<m
   ·rw [hall j e]; simp [e]
   ·rw [htl j (by omega) hj]; simp [e]
  have hcount:l.length<=m+J:=by
   have:l.length-m<=left l listed:=by
    unfold left;have h1:(List.range l.length).countP (λi=>!listed.getD i true)=(List.range l.length).countP (λi=>decide (m<=i)):=by
     refine List.countP_congr λj hj=>?_;rw [hl j (OS.1 hj)];simp
    rw [h1];have h2:∀ n,(List.range n).countP (λi=>decide (m<=i))=n-m:=by
     intro n
     induction n with
     | zero=>simp
     | succ n ihn=>
      rw [Ra,List.countP_append,ihn];simp only [List.countP_cons,List.countP_nil]
      by_cases e:m<=n
      ·simp [e]; omega
      ·simp [e]; omega
    rw [h2]; exact Ov _
   omega
  exact Dr hB J m listed a w (Ov _) hsz hml hcount hl hwl
 intro J
 induction J with
 | zero=>
  intro listed a w H' R hsz hf htl hdc hle ht hs0 hsl vH hv;refine fin 0 listed a w H' R hsz hf htl hle ht hs0 hsl vH hv (λj hj=>?_);have:left l listed=0:=by omega
  unfold left at this;rw [List.countP_eq_zero] at this;have:=this j (OS.2 (by omega))
  simpa using this
 | succ J ih=>
  intro listed a w H' R hsz hf htl hdc hle ht hs0 hsl vH hv
  by_cases hall:∀ j,j<m->listed.getD j true=true
  ·exact fin (J+1) listed a w H' R hsz hf htl hle ht hs0 hsl vH hv hall
  ·have hs:Sl x.N L0 a:=⟨hs0.size,hs0.CN,λt v h=>hsl t v (hL0 t v h) (λw o hw ho hd=>by rw [hdst w o t hw ho hd] at h; cases h)⟩
   have hget:∀ j,j<l.length->listed.getD j false=listed.getD j true:=λj hj=>by
    simp only [OP];rw [QD (by omega)]; rfl
   have hex:∃ j,j<m/\listed.getD j true=false:=by
    refine Classical.byContradiction λhno=>hall λj hj=>?_;cases hb:listed.getD j true with
    | true=>rfl
    | false=>exact absurd ⟨j,hj,hb⟩ hno
   obtain ⟨j0,⟨hj0,hf0⟩,hleast⟩:=least (p:=λj=>j<m/\listed.getD j true=false) hex.choose hex.choose_spec;have hne:Region.ready .any l.toArray listed≠[]:=by
    intro he;have hlt:j0<l.length:=by omega
    have ho:l[j0]? = some l[j0]:=N5 hlt;have:j0 ∈ Region.ready .any l.toArray listed:=by
     refine mem_ready.2 ⟨by simpa using hlt,hf0,l[j0],by simp,λj hj=>?_⟩
     have hj':=rq hB ho j hj;rw [hget j (by omega)]
     cases hb:listed.getD j true with
     | true=>rfl
     | false=>have:=hleast j ⟨by omega,hb⟩; omega
    rw [he] at this; cases this
   refine ⟨λhe=>absurd he hne,λi hi=>?_⟩;obtain ⟨h1,h2,o,ho',hw⟩:=mem_ready.1 hi;have h1':i<l.length:=by simpa using h1
   have ho:l[i]? = some o:=by simpa using ho'
   have him:i<m:=by
    by_cases e:i<m
    ·exact e
    ·exfalso
     have:=Aw hB (listed:=λq=>listed.getD q false=true) (λk o hk hki q Z=>hdc k o hk hki q Z) ho (by omega) hw j0 (by omega)
     rw [hget j0 (by omega),hf0] at this; cases this
   have htake:(l.take m)[i]? = some o:=by rw [O5,Oc him]; exact ho
   have hnl:listed.getD i false=false:=by rw [hget i h1']; exact h2
   have hCal:∀ c ∈ C.getD i [],c ∈ (List.range K).filter (alive m C listed):=by
    intro c hc;rw [Pj,OS,ss];refine ⟨hT.lt c (N6 _ (hT.mem hc)),?_,?_⟩
    ·rcases hT.wait i o him ho c hc with h | h
     ·exact .inl h
     ·exact .inr (hw c h)
    ·intro i' hi' hl' hc'
     have:=hT.uniq hc hc';subst this;rw [hnl] at hl'; cases hl'
   let A:=(List.range K).filter (alive m C listed)
   let Bs:=A.filter (λc=>!(C.getD i []).contains c)
   have hAnd:A.Nodup:=List.nodup_range.filter _;have hBnd:Bs.Nodup:=hAnd.filter _;have hperm:(A.flatMap R++M).Perm ((C.getD i []++Bs).flatMap R++M):=by
    refine yp hAnd ?_ ?_ R M
    ·refine OO.2 ⟨hT.NG i,hBnd,?_⟩
     rintro a ha b hb rfl;have:=(Pj.1 hb).2;simp at this;exact this (by simpa [OC] using ha)
    ·intro q
     rw [Om];constructor
     ·intro Z
      by_cases hqc:q ∈ C.getD i []
      ·exact .inl hqc
      ·exact .inr (Pj.2 ⟨Z,by simpa using hqc⟩)
     ·rintro (Z | Z)
      ·exact hCal q Z
      ·exact (Pj.1 Z).1
   have ht1:=ht.perm hperm;rw [RA,OJ] at ht1
   let Rest:=Bs.flatMap R++M
   let X1:Env:=(List.range m).filterMap λj=>if listed.getD j true then (l[j]?).bind λo=>o.dst.map λu=>(u,a.tmps.getD u undef) else none
   let X2:Env:=(L.map (·.1)).filterMap λt=>if (List.range m).all (λw=>match (l[w]?).bind (·.dst) with
    | some u=>!Nat.beq u t || !listed.getD w false
    | none=>true) then (lk L t).map λv=>(t,v) else none
   let X:Env:=X1++X2
   have hX2:∀ u v,(u,v) ∈ X2->a.tmps[u]? = some v:=by
    intro u v hm;obtain ⟨t,ht',hh⟩:=RJ.1 hm
    split at hh
    ·rename_i hall2
     rw [Rj] at hh;obtain ⟨v',hv',hh⟩:=hh;cases hh;refine hsl _ _ hv' (λw' o' hw' ho' hd'=>?_);rw [Pa] at hall2;have h9:=hall2 w' (OS.2 hw');rw [ho'] at h9;simp only [QA,hd'] at h9;have h10:Nat.beq u u=true:=Nat.beq_refl u;rw [h10] at h9;simpa using h9
    ·cases hh
   have hX1:∀ u v,(u,v) ∈ X1->a.tmps[u]? = some v:=by
    intro u v hm;obtain ⟨j,hj,hh⟩:=RJ.1 hm
    split at hh
    ·rename_i hlj
     rw [RR] at hh;obtain ⟨oj,O,hh⟩:=hh;rw [Rj] at hh;obtain ⟨u',hu',hh⟩:=hh;cases hh;obtain ⟨v',hv',_⟩:=hv j oj (OS.1 hj) O hlj;rw [hu'] at hv';simp only [tx] at hv';simp [OP,hv']
    ·cases hh
   have hX:∀ u v,(u,v) ∈ X->a.tmps[u]? = some v:=λu v hm=>(Om.1 hm).elim (hX1 u v) (hX2 u v);have hdep:=(wG.at hop i o htake) H' hle X Rest (λs hs=>OR _ hs);simp only [OB] at hdep;have hwl:∀ j ∈ kE o,j<m/\listed.getD j true=true:=λj hj=>by
    have h3:=rq hB ho j hj;refine ⟨by omega,?_⟩
    rw [<- hget j (by omega)]; exact hw j hj
   have hEi:∀ t v,lk (Es.getD i []) t=some v->a.tmps[t]? = some v:=by
    intro t v h;refine hsl t v (hE i t v h) (λw' o' hw' ho' hd'=>?_);cases hlw:listed.getD w' false with
    | false=>rfl
    | true=>
     exfalso;unfold BL at hX0;rw [Pa] at hX0;have h1:=hX0 i (OS.2 him);rw [Pa] at h1;have h2:=h1 t (Pg.2 ⟨_,D8 h,rfl⟩);rw [Pa] at h2;have h3:=h2 w' (OS.2 hw');rw [ho'] at h3;simp only [QA,hd'] at h3;have h10:Nat.beq t t=true:=Nat.beq_refl t;rw [h10] at h3;simp only [Bool.not_true,Bool.false_or] at h3;have:=wU (listed:=λq=>listed.getD q false=true) (λk o hk hki q Z=>hdc k o hk hki q Z) l [] (λk q hk=>by simpa using hk) (λk hk=>by simp at hk) w' (by simp; omega) o' ho' (λq Z=>hdc w' o' ho' hlw q Z) i h3
     rw [hnl] at this; cases this
   have hsE:Sl x.N (Es.getD i []++(L0++X)) a:=by
    refine ⟨hs.size,hs.CN,λt v h=>?_⟩;rw [yJ] at h;cases hl:lk (Es.getD i []) t with
    | some u=>rw [hl] at h; simp at h; subst h; exact hEi t _ hl
    | none=>rw [hl] at h; simp at h; exact (hs.more hX).get t v h
   obtain ⟨Y,R',hk,hsY,hY,hR1,hR2⟩:=vM.use (Rt:=R) hdep hsE (λj hj=>by
    have hj':=hwl j hj;have O:l[j]? = some l[j]:=N5 (by omega)
    rw [O];exact hv j _ hj'.1 O hj'.2)
   have hRC:∀ c ∈ C.getD i [],R' c=R c:=by
    intro c hc;rcases hT.wait i o him ho c hc with h | h
    ·rw [hR2 c (λhcm=>by have:=hwl c hcm; omega),vH c h]
    ·exact hR1 c h
   have hRU:∀ u ∈ U.getD i [],R' u=R u:=by
    intro u hu;have h5:=hT.L6 i o him ho u hu;rcases h5.1 with h | h
    ·rw [hR2 u (λhcm=>by have:=hwl u hcm; omega),vH u h]
    ·exact hR1 u h
   have hUB:∀ u ∈ U.getD i [],u ∈ Bs:=by
    intro u hu;have h5:=hT.L6 i o him ho u hu;refine Pj.2 ⟨Pj.2 ⟨OS.2 h5.2,ss.2 ⟨?_,?_⟩⟩,?_⟩
    ·rcases h5.1 with h | h
     ·exact .inl h
     ·exact .inr (hw u h)
    ·intro i' hi' hl' hc'
     have h6:=hT.L5 i him u hu i' hi' hc';have hoi:l[i']? = some l[i']:=N5 (by omega)
     have:=wU (listed:=λq=>listed.getD q false=true) (λk o hk hki q Z=>hdc k o hk hki q Z) l [] (λk q hk=>by simpa using hk) (λk hk=>by simp at hk) i' (by simp; omega) _ hoi (λq Z=>hdc i' _ hoi hl' q Z) i h6
     rw [hnl] at this; cases this
    ·have h7:u ∉ C.getD i []:=by
      intro hc;have h6:=hT.L5 i him u hu i him hc;have hoi:l[i]? = some o:=ho;have:=wU (listed:=λq=>q<i) (λk o hk hki q Z=>by have:=rq hB hk q Z; omega) l [] (λk q hk=>by simpa using hk) (λk hk=>by simp at hk) i (by simpa using h1') o hoi (λq Z=>rq hB ho q Z) i h6
      omega
     simpa using h7
   have hUR:∀ s ∈ tP (U.getD i []) R' [],s ∈ Rest:=by
    rw [yy,OX];intro s hs;obtain ⟨u,hu,hsu⟩:=P9.1 hs;rw [hRU u hu] at hsu;exact N6 _ (P9.2 ⟨u,hUB u hu,hsu⟩)
   have hUP:∃ Rr,(tP (U.getD i []) R' Rr).Perm Rest:=by
    refine ⟨(Bs.filter λc=>!(U.getD i []).contains c).flatMap R++M,?_⟩;rw [yy,ui (R:=R') (R':=R) hRU,<- OJ,<- RA];refine yp ?_ hBnd ?_ R M
    ·refine OO.2 ⟨hT.M8 i him,hBnd.filter _,?_⟩
     rintro a ha b hb rfl;have:=(Pj.1 hb).2;simp at this;exact this (by simpa [OC] using ha)
    ·intro q
     rw [Om];constructor
     ·rintro (Z | Z)
      ·exact hUB q Z
      ·exact (Pj.1 Z).1
     ·intro Z
      by_cases hqu:q ∈ U.getD i []
      ·exact .inl hqu
      ·exact .inr (Pj.2 ⟨Z,by simpa using hqu⟩)
   have hone:=hk hUR hUP a w hsY (by
    rw [yy,ui (R:=R') (R':=R) hRC];exact ht1)
   have fin2:∀ a' w',Bm x H' Rest (Y++(Es.getD i []++(L0++X))) o.dst (E3 l i) (Φ i) .normal a' w'->wpAny x.P .any l.toArray Q J (listed.setIfInBounds i true) a' w':=by
    rintro a' w' ⟨_,v,H2,rs,hs2,hnv,hle2,ht2,hφ⟩;have hcv:tx a' v o.dst (E3 l i):=by
     cases hd:o.dst with
     | none=>
      cases hk:E3 l i with
      | none=>rw [hd,hk] at hnv; exact hnv
      | some s=>rw [hd,hk] at hnv; rw [hd] at hs2; exact hs2.get s v hnv
     | some t=>rw [hd] at hs2; exact hs2.get t v (by simp only [JP]; rw [tz]; simp)
    have hput:∀ u,o.dst≠some u->lk (JP o.dst v (Y++(Es.getD i []++(L0++X)))) u=lk (Y++(Es.getD i []++(L0++X))) u:=by
     intro u hne;cases hd:o.dst with
     | none=>rfl
     | some t=>
      simp only [JP];rw [tz,Ob (λe=>hne (by rw [hd,e]))]
    have hYt:∀ u z,(u,z) ∈ Y++X->o.dst≠some u->a'.tmps[u]? = some z:=by
     intro u z hm hne;have hz:a.tmps[u]? = some z:=by
      rcases Om.1 hm with hm | hm
      ·exact hY u z hm
      ·exact hX u z hm
     have hlk:∃ z',lk (Y++(Es.getD i []++(L0++X))) u=some z':=by
      have hsome:∀ {E:Env}{u:Nat}{z:N3},(u,z) ∈ E->∃ z',lk E u=some z':=by
       intro E u z
       induction E with
       | nil=>simp
       | cons p E ihE=>
        obtain ⟨q,r⟩:=p;intro hm;rw [tz]
        split
        ·exact ⟨_,rfl⟩
        ·rename_i hne
         rcases OM.1 hm with e | hm
         ·cases e; exact absurd rfl hne
         ·exact ihE hm
      rcases Om.1 hm with hm | hm
      ·exact hsome (N6 _ hm)
      ·exact hsome (OR _ (OR _ (OR _ hm)))
     obtain ⟨z',hz'⟩:=hlk;have e1:=hsY.get u z' hz';rw [hz] at e1;cases e1;exact hs2.get u z (by rw [hput u hne]; exact hz')
    have hset:∀ j,(listed.setIfInBounds i true).getD j false=if j=i then true else listed.getD j false:=λj=>uF _ _ _ _ (by omega)
    refine ih (listed.setIfInBounds i true) a' w' H2 (AI R i rs) (by simpa using hsz) (by have:=HG (l:=l) hsz h1' h2; omega) (λj hj hjl=>by rw [uF _ _ _ _ (by omega),Ob (by omega)]; exact htl j hj hjl) ?_ (Rv hle hle2) ?_ ?_ ?_ ?_ ?_
    ·intro j oj O hlj q Z
     rw [hset] at hlj ⊢
     split at hlj
     ·rename_i e; subst e
      rw [ho] at O; cases O
      split
      ·rfl
      ·exact hw q Z
     ·split
      ·rfl
      ·exact hdc j oj O hlj q Z
    ·
     have hiB:i ∉ Bs:=by
      intro hmB;have:=(Pj.1 hmB).1;rw [Pj,ss] at this;rcases this.2.1 with h | h
      ·omega
      ·rw [hnl] at h; cases h
     have e1:rs++Rest=((i::Bs).flatMap (AI R i rs))++M:=by
      rw [Pm,yV,ui (A:=Bs) (R:=AI R i rs) (R':=R) (λq Z=>zB _ _ _ _ (λe=>hiB (by rw [<- e]; exact Z))),OJ]
     rw [e1] at ht2;refine ht2.perm (yp (QV.2 ⟨hiB,hBnd⟩) (List.nodup_range.filter _) ?_ _ M);intro q;rw [OM,Pj,Pj,Pj,OS,ss,ss];constructor
     ·rintro (rfl | ⟨⟨hqK,hq1,hq2⟩,hq3⟩)
      ·refine ⟨by omega,.inr (by rw [hset,Oc rfl]),?_⟩
       intro i' hi' hl' hc';rw [hset] at hl'
       split at hl'
       ·rename_i e; subst e
        rcases hT.wait i' o hi' ho _ hc' with h | h
        ·omega
        ·have:=rq hB ho _ h; omega
       ·have hoi:l[i']? = some l[i']:=N5 (by omega)
        rcases hT.wait i' _ hi' hoi _ hc' with h | h
        ·omega
        ·have:=hdc i' _ hoi hl' _ h
         rw [hnl] at this; cases this
      ·refine ⟨hqK,?_,?_⟩
       ·rcases hq1 with h | h
        ·exact .inl h
        ·exact .inr (by rw [hset]; split <;> simp [h])
       ·intro i' hi' hl' hc'
        rw [hset] at hl'
        split at hl'
        ·rename_i e; subst e
         simp at hq3;exact hq3 (by simpa [OC] using hc')
        ·exact hq2 i' hi' hl' hc'
     ·rintro ⟨hqK,hq1,hq2⟩
      by_cases hqi:q=i
      ·exact .inl hqi
      ·refine .inr ⟨⟨hqK,?_,?_⟩,?_⟩
       ·rcases hq1 with h | h
        ·exact .inl h
        ·rw [hset,Ob hqi] at h; exact .inr h
       ·intro i' hi' hl' hc'
        exact hq2 i' hi' (by rw [hset]; split <;> simp [hl']) hc'
       ·have:=hq2 i him (by rw [hset,Oc rfl])
        simpa using this
    ·exact ⟨hs2.size,hs2.CN,λu z hu=>by simp [lk] at hu⟩
    ·intro u z hu hun
     have hne:o.dst≠some u:=λe=>by
      have:=hun i o him ho e;rw [hset,Oc rfl] at this; cases this
     refine hYt u z (OR _ (OR _ (RJ.2 ⟨u,Pg.2 ⟨_,D8 hu,rfl⟩,?_⟩))) hne;rw [Oc,hu]
     ·rfl
     ·rw [Pa]
      intro w' hw';have hw'':=OS.1 hw';have hoi:l[w']? = some l[w']:=N5 (by omega)
      rw [hoi];simp only [QA];cases hd':l[w'].dst with
      | none=>rfl
      | some q=>
       by_cases e:q=u
       ·subst e
        have h9:=hun w' _ hw'' hoi hd';rw [hset] at h9
        split at h9
        ·cases h9
        ·simp [h9]
       ·have:Nat.beq q u=false:=by
         cases hb:Nat.beq q u with
         | false=>rfl
         | true=>exact absurd (Qf hb) e
        simp [this]
    ·intro q Z
     rw [zB _ _ _ _ (by omega)]; exact vH q Z
    ·intro j oj hjm O hlj
     rw [uF _ _ _ _ (by omega)] at hlj
     by_cases e:j=i
     ·subst e
      rw [ho] at O; cases O
      rw [yV];exact ⟨v,hcv,hφ⟩
     ·rw [Ob e] at hlj
      rw [zB _ _ _ _ e];obtain ⟨z,hz,hφj⟩:=hv j oj hjm O hlj;refine ⟨z,?_,hmono _ _ _ _ _ hle2 hφj⟩;have hNd2:∀ (j:Nat) (oj:Oper) (u:Nat),j<m->l[j]? = some oj->j≠i->oj.dst=some u->o.dst≠some u:=by
       intro j oj u hjm O e hdj e2;unfold xF at hNd;have hnd:=N9 hNd;have hnd2:(l.take m).Pairwise (λo1 o2=>∀ u,o1.dst=some u->∀ u',o2.dst=some u'->u≠u'):=by
        unfold List.Nodup at hnd;rw [List.pairwise_filterMap] at hnd;exact hnd.imp λh u hu u' hu'=>h u hu u' hu'
       have htj:(l.take m)[j]? = some oj:=by rw [O5,Oc hjm]; exact O
       obtain ⟨hi',p1⟩:=N_.1 htake;obtain ⟨hj',p2⟩:=N_.1 htj;have hpw:=QZ.1 hnd2;rcases Nat.lt_or_gt_of_ne e with q | q
       ·exact hpw j i hj' hi' q u (by rw [p2]; exact hdj) u (by rw [p1]; exact e2) rfl
       ·exact hpw i j hi' hj' q u (by rw [p1]; exact e2) u (by rw [p2]; exact hdj) rfl
      have hkeep:∀ (j:Nat) (oj:Oper) (u:Nat),j<m->l[j]? = some oj->listed.getD j true=true->j≠i->oj.dst=some u->a.tmps[u]? = some z->a'.tmps[u]? = some z:=by
       intro j oj u hjm O hlj e hdj hz;refine hYt u z (OR _ (N6 _ (RJ.2 ⟨j,OS.2 hjm,?_⟩))) (hNd2 j oj u hjm O e hdj);simp [hlj,O,hdj,OP,hz]
      cases hdj:oj.dst with
      | none=>
       rw [hdj] at hz;cases hk:E3 l j with
       | none=>rw [hk] at hz; exact hz
       | some s=>
        rw [hk] at hz;simp only [tx] at hz ⊢;obtain ⟨o2,ho2,_,w2,hw2,hd2⟩:=K4 hk;rw [O] at ho2; cases ho2
        have hlt2:=rq hB O w2 hw2;have hl2:=hdc j oj O (by rw [hget j (by omega)]; exact hlj) w2 hw2
        have hne2:w2≠i:=by rintro rfl; rw [hnl] at hl2; cases hl2
        rw [RR] at hd2;obtain ⟨ow,how,hdw⟩:=hd2;exact hkeep w2 ow s (by omega) how (by rw [<- hget w2 (by omega)]; exact hl2) hne2 hdw hz
      | some u=>
       rw [hdj] at hz;simp only [tx] at hz ⊢;exact hkeep j oj u hjm O hlj e hdj hz
   unfold wpOp;rw [show l.toArray[i]? = some o from by simpa using ho]
   unfold wpList at hone
   dsimp only
   by_cases hwn:Region.wanted o (yielded l.toArray a.tmps)=true
   ·rw [Oc hwn] at hone ⊢
    left
    rcases hone with h | ⟨_,a1,w1,h,_⟩
    ·unfold Oper.wp at h ⊢
     generalize (execOp a.eval o).run x.P w=r at h;have fin':∀ a' w',wpList x.P l.toArray (Bm x H' Rest (Y++(Es.getD i []++(L0++X))) o.dst (E3 l i) (Φ i)) [] a' w'->wpAny x.P .any l.toArray Q J (listed.setIfInBounds i true) a' w':=λa' w' h=>fin2 a' w' h;cases r with
     | ok n w2=>
      cases n <;> simp only [Oper.upon] at h ⊢ <;> first
       | exact fin' _ _ h
       | exact Calls.mono h (λe w3 he=>match e,he with
         | .returned v,he=>fin' _ _ he
         | .panicked c,he=>absurd he.1 (by simp)
         | .outgrown,he=>absurd he.choose_spec.choose_spec.1 (by simp))
       | exact Rows.mono h (λv w3 he=>fin' _ _ he)
     | halt y w2=>
      cases y <;> simp only [Oper.upon] at h ⊢
      exact absurd h.1 (by simp)
    ·cases h
   ·rw [Ob hwn] at hone ⊢
    exact fin2 _ _ hone
def Cl (L:Env):List Env->Prop
 | []=>True
 | E::r=>Kept L E/\Cl L r
theorem Cl.get {L:Env}:∀ {Es:List Env},Cl L Es->∀ i t v,lk (Es.getD i []) t=some v->lk L t=some v
 | [],_,i,t,v,h=>by simp [lk] at h
 | E::r,hk,0,t,v,h=>hk.1.lk t v (by simpa using h)
 | E::r,hk,i+1,t,v,h=>Cl.get hk.2 i t v (by simpa using h)
theorem xP {id:Nat} (m:Nat) (Φ:KI) (C U:List (List Nat)) (I:List (List bU)) (live:List Nat) (L0:Env) (Es:List Env) (hmix:x.P.follows .mixedOrders=true) (hB:uV l m=true) (hml:Nat.ble m l.length=true) (hD:xE l m L0=true) (hX:BL l m Es=true) (hL0:∀ t v,lk L0 t=some v->lk L t=some v) (hE:Cl L Es) (hNd:xF l m=true)
  (hT:Et l m (m+I.length) C U live=true)
  (Z:∀ i H1 H2 rs v,H1.le H2->Φ i H1 rs v->Φ i H2 rs v)
  (hop:wG x l Φ C U Es (Cf m I) H M L0 0 (l.take m))
  (k:∀ H',H.le H'->vM l Φ H' (List.range m) L0 (Cf m I) (λL' R=>W x l.toArray Q (l.drop m) H' (tP live R M) L')):Go.Sim.C x (.region id l.toArray true) Q H (I.flatten++M) L:=by
 intro a w hs ht;refine wp_region_any hmix ?_;have hml':m<=l.length:=by simpa [Qz] using hml
 have O:∀ j,(Array.replicate l.toArray.size false).getD j true=if j<l.length then false else true:=by
  intro j;simp only [OP,Array.getElem?_replicate,QX]
  split <;> simp
 have J:∀ j,(Array.replicate l.toArray.size false).getD j false=false:=by
  intro j;simp only [OP,Array.getElem?_replicate,QX]
  split <;> simp
 have Y:((List.range (m+I.length)).filter (alive m C (Array.replicate l.toArray.size false))).flatMap (Cf m I)=I.flatten:=by
  rw [List.range_add,QS];have e1:(List.range m).filter (alive m C (Array.replicate l.toArray.size false))=[]:=by
   rw [List.filter_eq_nil_iff];intro q hq;rw [ss];rintro ⟨h | h,_⟩
   ·have:=OS.1 hq; omega
   ·rw [J] at h; cases h
  have e2:((List.range I.length).map (m+·)).filter (alive m C (Array.replicate l.toArray.size false))=(List.range I.length).map (m+·):=by
   rw [Sh];intro q hq;obtain ⟨r,hr,rfl⟩:=Pg.1 hq;rw [ss];exact ⟨.inl (by omega),λi _ h=>by rw [J] at h; cases h⟩
  rw [e1,e2,PR,List.flatMap_map];have e3:(List.range I.length).flatMap (λq=>Cf m I (m+q))=((List.range I.length).map λq=>I.getD q []).flatten:=by
   rw [List.flatMap_def]
   congr 1
   refine List.map_congr_left λq _=>?_;unfold Cf;rw [Ob (by omega),P5]
  rw [e3]
  congr 1
  apply PO;intro q;rw [OE]
  by_cases hq:q<I.length
  ·rw [P2 hq,N5 hq]; simp [OC,hq]
  ·rw [O4 (by simp; omega),O4 (by omega)]; rfl
 refine JM (Q:=Q) (K:=m+I.length) hB hml' hD hX hL0 (λi t v h=>hE.get i t v h) hNd (JY hT) (by omega) Z hop k l.toArray.size _ a _ H (Cf m I) (by simp) ?_ (λj hj hjl=>by rw [O,Oc hjl]) (λi o _ h=>by rw [J] at h; cases h) (O1 _) ?_ ⟨hs.size,hs.CN,λt v h=>by simp [lk] at h⟩ (λt v h _=>hs.get t v h) (λ_ _=>rfl) ?_
 ·unfold left
  exact Pn (QB ..) (by simp)
 ·rw [Y]; exact ht.drewN _
 ·intro i o hi ho hl
  rw [O,Oc (by omega)] at hl
  cases hl
theorem rL {id:Nat} (m:Nat) (Φ:KI) (C U:List (List Nat)) (I:List (List bU)) (live:List Nat) (O:x.P.follows .mixedOrders=true) (hB:uV l m=true) (Z:Nat.ble m l.length=true) (hD:xE l m L=true) (Y:xF l m=true)
  (hT:Et l m (m+I.length) C U live=true)
  (J:∀ i H1 H2 rs v,H1.le H2->Φ i H1 rs v->Φ i H2 rs v)
  (hop:wG x l Φ C U [] (Cf m I) H M L 0 (l.take m))
  (k:∀ H',H.le H'->vM l Φ H' (List.range m) L (Cf m I) (λL' R=>W x l.toArray Q (l.drop m) H' (tP live R M) L')):Go.Sim.C x (.region id l.toArray true) Q H (I.flatten++M) L:=
 xP m Φ C U I live L [] O hB Z hD (by unfold BL; simp) (λ_ _ h=>h) N4 Y hT J hop k
end
section
variable {x:Cx}{ops:Array Oper}{Q:mj}{rest:List Oper}{H:Hp}{M M':List bU}{L L':Env}
theorem qL {M'} (h:M=M') (k:W x ops Q rest H M' L):W x ops Q rest H M L:=h▸k
theorem Gp {c:Code}{M'} (h:M=M') (k:C x c Q H M' L):C x c Q H M L:=h▸k
theorem My {e:Exit}{M'} (h:M=M') (k:E x e Q H M' L):E x e Q H M L:=h▸k
theorem Dz {e:Exit} (I:M.Perm M') (k:E x e Q H M' L):E x e Q H M L:=λa w hs ht=>k a w hs (ht.perm I)
theorem zF {c:Code} (I:M.Perm M') (k:C x c Q H M' L):C x c Q H M L:=λa w hs ht=>k a w hs (ht.perm I)
theorem qP {c:Code}{v:N3}{T:TypeId}{sz n:Nat}{xs:List N3} (hm:bU.row v T sz n xs ∈ M) (k:n<=maxLen->C x c Q H M L):C x c Q H M L:=λa w hs ht=>by
 have I:k6 w T sz v n xs:=ht.ok _ hm;refine k ?_ a w hs ht;rcases I.2 with ⟨_,rfl⟩ | ⟨g,off,cap,J,rfl,Z,Y,O,_⟩
 ·unfold maxLen; omega
 ·omega
theorem DA {e:Exit}{J:Hp} (I:J.le H) (k:E x e Q J M L):E x e Q H M L:=λa w hs ht=>k a w hs (ht.Ka I)
end
section
variable {P:Program}{N B:Nat}{w0:World}{fn:Func}{Φ:Hp->List bU->N3->Prop}{H:Hp}{M:List bU}{L:Env}
theorem tD (k:E ⟨P,N,B,w0⟩ .ret (bodyPost P fn (ub B w0 Φ)) H M L):E ⟨P,N,B,w0⟩ .normal (bodyPost P fn (ub B w0 Φ)) H M L:=λa w hs ht=>k a w hs ht
theorem wm (I:fn.results=#[]) (h:Φ H M (.tuple #[])):E ⟨P,N,B,w0⟩ .ret (bodyPost P fn (ub B w0 Φ)) H M L:=
 λa w hs ht=>⟨hs.CN,.tuple #[],by simp [results,I],H,M,ht,h⟩
theorem LG {t u s:Nat}{v1 v2 I:N3} (Y:fn.results=#[.tmp t,.tmp u,.tmp s]) (hl:lk L t=some v1) (J:lk L u=some v2) (O:lk L s=some I) (h:Φ H M (.tuple #[v1,v2,I])):E ⟨P,N,B,w0⟩ .ret (bodyPost P fn (ub B w0 Φ)) H M L:=
 λa w hs ht=>⟨hs.CN,.tuple #[v1,v2,I],by simp [results,Y,OP,hs.get t v1 hl,hs.get u v2 J,hs.get s I O],H,M,ht,h⟩
end
class Flat (α:Type) [aE α]:Prop where
 ind:∀ {H H':Hp}{cs:List N3}{x:α},aE.E H cs x->aE.E H' cs x
instance:Flat Int:=⟨λh=>h⟩
instance:Flat Bool:=⟨λh=>h⟩
instance:Flat N2:=⟨λh=>h⟩
instance:Flat U8:=⟨λh=>h⟩
instance:Flat Mp:=⟨λh=>h⟩
instance:Flat bT:=⟨λh=>h⟩
instance:Flat Ko:=⟨λh=>h⟩
instance:Flat Mn:=⟨λh=>h⟩
theorem qx.flat {α:Type}[aE α] [Flat α] {H H':Hp}:∀ {cs:List N3}{ys:List α},qx H cs ys->qx H' cs ys
 | _,[],h=>h
 | _,_::_,⟨c,r,e,h,k⟩=>⟨c,r,e,Flat.ind h,qx.flat k⟩
def rr {α:Type}[aE α] (v:N3) (xs:List N3) (l:List α):Prop:=∀ H,Rw H v xs l
def Mz {α:Type}[aE α] (xs:List N3) (l:List α):Prop:=∀ H,qx H xs l
theorem Rw.nM {α:Type}[aE α] [Flat α] {H:Hp}{v:N3}{xs:List N3}{l:List α} (h:Rw H v xs l):rr v xs l:=λH'=>⟨h.rd.flat,h.sl⟩
theorem qx.nM {α:Type}[aE α] [Flat α] {H:Hp}{xs:List N3}{l:List α} (h:qx H xs l):Mz xs l:=λH'=>h.flat
def F5 {α R:Type} (o:Option α) (a:R) (f:α->R):R:=match o with
 | none=>a
 | some s=>f s
theorem HZ {α R:Type}{o:Option α}{a:R}{f:α->R}{r:R} (h:o=none) (k:F5 o a f=r):a=r:=by subst h; exact k
theorem H4 {α R:Type}{o:Option α}{a:R}{f:α->R}{s:α}{r:R} (h:o=some s) (k:F5 o a f=r):f s=r:=by subst h; exact k
def yq (l:List (Hp->List bU->N3->Prop)) (i:Nat):Hp->List bU->N3->Prop:=l.getD i (λ_ _ _=>True)
def Kn (p:Hp->List bU->N3->Prop):Prop:=∀ I J rs v,I.le J->p I rs v->p J rs v
def zH:List (Hp->List bU->N3->Prop)->Prop
 | []=>True
 | p::l=>Kn p/\zH l
theorem uB {l:List (Hp->List bU->N3->Prop)} (h:zH l):∀ i I J rs v,I.le J->yq l i I rs v->yq l i J rs v:=by
 induction l with
 | nil=>intro i I J rs v _ _; exact N4
 | cons p l ih=>
  intro i I J rs v O Y;cases i with
  | zero=>exact h.1 I J rs v O Y
  | succ i=>exact ih h.2 i I J rs v O Y
theorem jT (I:List bU) (c:N3):Kn (λ_ rs v=>I=rs/\c=v):=λ_ _ _ _ _ h=>h
section
variable {x:Cx}{ops:Array Oper}{Q:mj}{rest:List Oper}{H:Hp}{M M':List bU}{L L':Env}
variable {d:Nat}{ty:TypeId}{pos:String}{aft:Array Edge}{g:Option (Nat×Bool)}
theorem qh {t e m sz:Nat}{y z:Operand}{ad:Addr}{kk:IntKind}{i:Int}
  (Z:gd ops L ⟨some d,.indexAddr t y z,ty,pos,aft,g⟩=some true) (hN:Nat.blt d x.N=true)
  (Y:∀ w,(underlying t).run x.P w=.ok (.array m e) w) (hs:∀ w,(sizeOf e).run x.P w=.ok sz w)
  (hy:ev L y=some (.pointer (some ad))) (hz:ev L z=some (.int kk i)) (O:0<=i) (h1:i.toNat<m)
  (k:W x ops Q rest H M ((d,.pointer (some (ad.add (i.toNat*sz))))::L)):
  W x ops Q (⟨some d,.indexAddr t y z,ty,pos,aft,g⟩::rest) H M L:=
 iL rfl Z hN (λc w I ht=>by
  have J:i<(m:Int):=by omega
  simp [execOp,I.ev hy,I.ev hz,Instr.indexAt,asIntOf,Y,hs,O,J,Instr.sureAddr]) k
theorem Fw {T E:TypeId}{m sz n n' i:Nat}{y z:Operand}{v u:N3}{ad:Addr}{xs cs:List N3} (hg:gd ops L ⟨none,.store T y z,ty,pos,aft,g⟩=some true)
  (hn:∀ w,(sizeOf T).run x.P w=.ok m w) (hy:ev L y=some (.pointer (some ad))) (J:ad=(Value.base v).add i) (hz:ev L z=some u) (hv:u.cells=cs.toArray) (hl:cs.length=m)
  (Z:i+cs.length<=xs.length) (I:Nat.blt 0 cs.length=true) (Y:∀ c ∈ cs,c.oneCell'=true) (O:n'=n)
  (k:W x ops Q rest H (.row v E sz n' (over xs i cs)::M) L):
  W x ops Q (⟨none,.store T y z,ty,pos,aft,g⟩::rest) H (.row v E sz n xs::M) L:=by
 subst O;exact wL hg hn hy J hz hv hl Z I Y k
theorem zM {T e m sz:Nat}{I:List (Nat×Operand)}{vs:List N3}{css:List (List N3)}{z:N3}{zs out:List N3}{places:List (Nat×Nat)}
  (hg:gd ops L ⟨some d,.build T I.toArray,ty,pos,aft,g⟩=some true) (hN:Nat.blt d x.N=true)
  (hv:xG L (I.map (·.2))=some vs) (hc:yB vs css)
  (hz:∀ w,(zeroValue T).run x.P w=.ok z w) (hzs:z.cells=zs.toArray) (hT:∀ w,(underlying T).run x.P w=.ok (.array m e) w) (hs:∀ w,(sizeOf e).run x.P w=.ok sz w)
  (Y:places=(List.range m).map λi=>(i*sz,sz))
  (ho:laid places zs ((I.map (·.1)).zip css)=some out)
  (k:W x ops Q rest H M ((d,.agg out.toArray)::L)):
  W x ops Q (⟨some d,.build T I.toArray,ty,pos,aft,g⟩::rest) H M L:=
 iL rfl hg hN (λa w J ht=>by
  have hl:(I.map (·.1)).length=vs.length:=by rw [<- J.xG hv]; simp
  have hf:=vy (place:=λi=>some (i*sz,sz)) (places:=places) (λi o h=>by
   rw [Y,OE] at h;cases O:(List.range m)[i]? with
   | none=>rw [O] at h; cases h
   | some j=>
    rw [O] at h;have:j=i:=by
     have:=N_.1 O;simpa using this.2.symm
    subst this;simpa using h) (I.map (·.1)) vs css zs out hc hl ho
  have Z:=zx J hv;simp only [execOp,Instr.build,Oi,hz,Oe,hT,hzs,hs];simp only [Z,hf,Oq,Oe]) k
theorem iZ {α:Type}[aE α] {T e:TypeId}{n:Nat}{J:List (Nat×Operand)}{vs:List N3}{css:List (List N3)}{z:N3}{zs out:List N3}{places:List (Nat×Nat)}{ys:List α}
  (hg:gd ops L ⟨some d,.buildSlice T n J.toArray,ty,pos,aft,g⟩=some true) (hN:Nat.blt d x.N=true)
  (hv:xG L (J.map (·.2))=some vs) (hc:yB vs css)
  (hT:∀ w,(underlying T).run x.P w=.ok (.slice e) w) (hs:∀ w,(sizeOf e).run x.P w=.ok (aE.sz α) w) (hs0:Nat.blt 0 (aE.sz α)=true)
  (hz:∀ w,(zeroValue e).run x.P w=.ok z w) (hzs:(Array.range (n*aE.sz α)).map (z.cells[·%z.cells.size]!)=zs.toArray)
  (hpl:places=(List.range n).map λi=>(i*aE.sz α,aE.sz α)) (hn:Nat.ble (n*aE.sz α) 16777216=true) (hnn:Nat.blt 0 n=true)
  (ho:laid places zs ((J.map (·.1)).zip css)=some out) (hr:qx H out ys) (hyn:ys.length=n)
  (k:∀ v' xs',Rw H v' xs' ys->W x ops Q rest H (.row v' e (aE.sz α) ys.length xs'::M) ((d,v')::L)):
  W x ops Q (⟨some d,.buildSlice T n J.toArray,ty,pos,aft,g⟩::rest) H M L:=by
 refine tF rfl hg hN λa w Z ht=>?_;have hl:(J.map (·.1)).length=vs.length:=by rw [<- Z.xG hv]; simp
 have I:0<aE.sz α:=by simpa [Pk] using hs0
 have hn':n*aE.sz α<=16777216:=by simpa [Qz] using hn
 have Y:0<n:=by simpa [Pk] using hnn
 have hpos:0<n*aE.sz α:=Nat.mul_pos Y I;have hf:=vy (place:=λi=>some (i*aE.sz α,aE.sz α)) (places:=places) (λi o h=>by
  rw [hpl,OE] at h;cases hh:(List.range n)[i]? with
  | none=>rw [hh] at h; cases h
  | some j=>
   rw [hh] at h;have:j=i:=by
    have:=N_.1 hh;simpa using this.2.symm
   subst this;simpa using h) (J.map (·.1)) vs css zs out hc hl ho
 have hps:=zx Z hv;have hsz:out.length=n*aE.sz α:=by rw [hr.len,hyn]
 have O:ys.length<=maxLen:=by
  unfold maxLen;have:n<=n*aE.sz α:=Q9 _ I;omega
 refine ⟨.slice (some ⟨w.heap.size,0,none⟩) ys.length ys.length,w.alloc (.cells out.toArray e),?_,H,_,St.newRow (e:=e) ht hr O,k _ _ ⟨hr,_,_,_,rfl⟩⟩;have h1:¬ (2 ^ 24<n*aE.sz α):=by omega
 have h2:¬ (n*aE.sz α=0):=by omega
 simp only [execOp,Instr.buildSlice,Oi,hT,Oe,hs,gt_iff_lt,h1,h2,P1,hz,Oq];simp only [hps];have hf':Instr.fill (λi=>some (i*aE.sz α,aE.sz α)) ((Array.range (n*aE.sz α)).map (z.cells[·%z.cells.size]!)) ((List.map (λx=>x.fst) J).zip vs)=some out.toArray:=by
  rw [hzs]; exact hf
 simp only [hf',newRow,newObj,Oi,Oq,Sem.run,Oe,World.alloc,hyn]
end
inductive kc (P:Program) (M:List bU) (L:Env):ResultVar->N3->Prop
 | tmp {t}{v:N3} (h:lk L t=some v):kc P M L (.tmp t) v
 | one {t ty b T}{l:List N3}{fz}{v:N3} (h:lk L t=some (.pointer (some ⟨b,0,none⟩))) (hA:∀ w,(isAgg ty).run P w=.ok false w) (hm:bU.obj b (.cells (v::l).toArray T fz) ∈ M):kc P M L (.cell t ty) v
 | agg {t ty b T}{l:List N3}{fz n} (h:lk L t=some (.pointer (some ⟨b,0,none⟩))) (hA:∀ w,(isAgg ty).run P w=.ok true w) (hn:∀ w,(sizeOf ty).run P w=.ok n w) (hm:bU.obj b (.cells l.toArray T fz) ∈ M) (hl:l.length=n):kc P M L (.cell t ty) (.agg l.toArray)
 | arr {t ty v T sz k}{xs:List N3}{n} (h:lk L t=some (.pointer (some (Value.base v)))) (hA:∀ w,(isAgg ty).run P w=.ok true w) (hn:∀ w,(sizeOf ty).run P w=.ok n w) (hm:bU.row v T sz k xs ∈ M) (hl:xs.length=n):kc P M L (.cell t ty) (.agg xs.toArray)
def FT (I:Array N3):ResultVar->Sem N3
 | .tmp t=>pure (I.getD t undef)
 | .cell a t=>do loadVar t (<- asAddr (I.getD a undef))
theorem wZ (fn:Func) (I:Array N3):results fn I=(do
  let vs <- fn.results.mapM (FT I)
  pure (if h:vs.size=1 then vs[0] else .tuple vs)):=rfl
theorem kc.run {P:Program}{M:List bU}{L:Env}{N B:Nat}{w0 w:World}{H:Hp}{a:Act}{rv:ResultVar}{v:N3} (h:kc P M L rv v) (hs:Sl N L a) (ht:St B w0 H M w):
  (FT a.tmps rv).run P w=.ok v w:=by
 cases h with
 | tmp h=>simp [FT,OP,hs.get _ _ h]
 | one h hA hm=>
  have J:=(vm (x:=⟨P,N,B,w0⟩) (H:=H) hm (off:=0) (v:=v) rfl) w ht;simp [FT,OP,hs.get _ _ h,asAddr,loadVar,hA,load,Sem.run,J]
 | agg h hA hn hm hl=>
  rename_i t ty b T l fz n
  have J:=(B2 (x:=⟨P,N,B,w0⟩) (H:=H) hm);have I:=run_loadCellsFrom (P:=P) (w:=w) (ad:=⟨b,0,none⟩) l 0 #[] (λj v Y=>by rw [OB]; exact J j v Y w ht)
  rw [hl] at I;simp [FT,OP,hs.get _ _ h,asAddr,loadVar,hA,hn,loadCells,I]
 | arr h hA hn hm hl=>
  rename_i t ty v T sz k xs n
  have I:=run_loadCellsFrom (P:=P) (w:=w) (ad:=Value.base v) xs 0 #[] (λj u O=>by rw [OB]; exact (AA (x:=⟨P,N,B,w0⟩) (H:=H) hm O) w ht)
  rw [hl] at I;simp [FT,OP,hs.get _ _ h,asAddr,loadVar,hA,hn,loadCells,I]
section
variable {P:Program}{N B:Nat}{w0:World}{fn:Func}{Φ:Hp->List bU->N3->Prop}{H H0:Hp}{M M1 M2:List bU}{L:Env}
theorem mf {J:ResultVar}{v1:N3} (I:H0.le H) (hr:fn.results=#[J]) (O:kc P M L J v1) (Y:M1.Sublist M) (Z:M1.Perm M2) (h:Φ H0 M2 v1):
  E ⟨P,N,B,w0⟩ .ret (bodyPost P fn (ub B w0 Φ)) H M L:=λa w hs ht=>by
 have q1:=O.run hs ht;refine ⟨hs.CN,v1,?_,H0,M2,((ht.sub Y).perm Z).Ka I,h⟩;rw [wZ,hr];simp [q1]
theorem A4 {J O:ResultVar}{v1 v2:N3} (I:H0.le H) (hr:fn.results=#[J,O]) (Y:kc P M L J v1) (Z:kc P M L O v2) (hd:M1.Sublist M) (hp:M1.Perm M2) (h:Φ H0 M2 (.tuple #[v1,v2])):
  E ⟨P,N,B,w0⟩ .ret (bodyPost P fn (ub B w0 Φ)) H M L:=λa w hs ht=>by
 have q1:=Y.run hs ht;have q2:=Z.run hs ht;refine ⟨hs.CN,_,?_,H0,M2,((ht.sub hd).perm hp).Ka I,h⟩;rw [wZ,hr];simp [q1,q2]
theorem CP {J O Y:ResultVar}{v1 v2 Z:N3} (I:H0.le H) (hr:fn.results=#[J,O,Y]) (h1:kc P M L J v1) (h2:kc P M L O v2) (h3:kc P M L Y Z) (hd:M1.Sublist M) (hp:M1.Perm M2) (h:Φ H0 M2 (.tuple #[v1,v2,Z])):
  E ⟨P,N,B,w0⟩ .ret (bodyPost P fn (ub B w0 Φ)) H M L:=λa w hs ht=>by
 have q1:=h1.run hs ht;have q2:=h2.run hs ht;have q3:=h3.run hs ht;refine ⟨hs.CN,_,?_,H0,M2,((ht.sub hd).perm hp).Ka I,h⟩;rw [wZ,hr];simp [q1,q2,q3]
end
theorem aV.shape {α:Type}[aE α] {H:Hp}{v:N3}{xs:List α} (h:aV H v xs):∃ o n c,v=.slice o n c:=by
 obtain ⟨a,c,rfl,_⟩:=h.len; exact ⟨_,_,_,rfl⟩
theorem aV.isNil {α:Type}[aE α] {H:Hp}{n c:Nat}{xs:List α} (h:aV H (.slice none n c) xs):xs=[]:=by
 rcases h with ⟨_,h⟩ | ⟨b,off,cap,arr,T,fz,h,_⟩
 ·exact h
 ·cases h
def Lu {α:Type} (v:N3) (l:List α):Prop:=(∃ n c,v=.slice none n c/\l=[])\/(∃ a n c,v=.slice (some a) n c/\l≠[])
theorem Lu.nil {α:Type}:Lu (.slice none 0 0) ([]:List α):=.inl ⟨_,_,rfl,rfl⟩
section
variable {x:Cx}{ops:Array Oper}{Q:mj}{rest:List Oper}{H:Hp}{M M':List bU}{L L':Env}
variable {d:Nat}{ty:TypeId}{pos:String}{aft:Array Edge}{g:Option (Nat×Bool)}
theorem Kj {α:Type}[aE α] {H:Hp}{zs:List N3}{ze:α} (Y:aE.E H zs ze) (Z:zs.length=aE.sz α):∀ q,qx H ((List.range (q*aE.sz α)).map (zs.toArray[·%zs.length]!)) (List.replicate q ze):=by
 intro q
 induction q with
 | zero=>rw [PG]; exact rfl
 | succ q ih=>
  have I:(List.range ((q+1)*aE.sz α)).map (zs.toArray[·%zs.length]!)=zs++(List.range (q*aE.sz α)).map (zs.toArray[·%zs.length]!):=by
   apply PO;intro j;rw [P7,OE]
   by_cases O:j<zs.length
   ·rw [Oc O,P2 (by rw [Ou]; omega)]
    simp [PT O,O]
   ·rw [Ob O,OE]
    by_cases J:j<(q+1)*aE.sz α
    ·rw [P2 J,P2 (by rw [Ou] at J; omega)]
     simp only [Py];rw [<- Nat.mod_eq_sub_mod (by omega)]
    ·rw [O4 (by simp; omega),O4 (by rw [Ou] at J; simp; omega)]
  rw [I];exact ⟨zs,_,rfl,Y,ih⟩
end
end Go.Sim
