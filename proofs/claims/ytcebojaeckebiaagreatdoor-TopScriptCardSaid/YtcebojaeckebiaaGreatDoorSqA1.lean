/-
  The proof, part A1.
-/
import Derived.WalkKit
import Derived.WalkSpells
import Derived.WalkLawsBesides
import Derived.Lib.AppendZeros
set_option linter.unusedVariables false
set_option linter.unusedSimpArgs false
set_option linter.unusedSectionVars false
set_option linter.unnecessarySimpa false
namespace Go.Sim
abbrev Sf := @Go.Addr.add_lit
abbrev RW := @Array.getD_eq_getD_getElem?
abbrev TS := @Array.getElem?_eq_getElem
abbrev Sz := @Array.getElem?_eq_some_iff
abbrev Vr := @Array.getElem?_modify
abbrev UI := @Array.getElem?_setIfInBounds
abbrev VE := @Array.toList_append
abbrev SK := @Bool.and_eq_true
abbrev SO := @Bool.false_eq_true
abbrev Vk := @Bool.not_eq_true'
abbrev SP := @Bool.or_eq_true
abbrev Q1 := @ByteArray
abbrev R2 := @Int.natCast_mul
abbrev Q5 := @Int.toNat_natCast
abbrev Tm := @List.Sublist.refl
abbrev Sj := @List.all_eq_true
abbrev RG := @List.append_assoc
abbrev RR := @List.append_nil
abbrev S5 := @List.cons_append
abbrev TO := @List.contains_iff_mem
abbrev TP := @List.countP_le_length
abbrev Uu := @List.count_eq_zero
abbrev Tr := @List.drop_append_of_le_length
abbrev SV := @List.drop_drop
abbrev RK := @List.drop_eq_getElem_cons
abbrev TY := @List.drop_length
abbrev TG := @List.drop_set_of_lt
abbrev Ty := @List.drop_take
abbrev Su := @List.drop_zero
abbrev RA := @List.eq_nil_of_length_eq_zero
abbrev SM := @List.ext_getElem?
abbrev TQ := @List.filter_append
abbrev VG := @List.filter_eq_self
abbrev Uo := @List.flatMap_append
abbrev Sp := @List.flatMap_cons
abbrev RM := @List.getD_eq_getElem?_getD
abbrev Tj := @List.getElem?_append
abbrev Sk := @List.getElem?_append_left
abbrev RN := @List.getElem?_append_right
abbrev RT := @List.getElem?_drop
abbrev Q4 := @List.getElem?_eq_getElem
abbrev R4 := @List.getElem?_eq_none
abbrev Q7 := @List.getElem?_eq_some_iff
abbrev RH := @List.getElem?_map
abbrev S_ := @List.getElem?_range
abbrev UH := @List.getElem?_set
abbrev RX := @List.getElem?_take
abbrev RI := @List.getElem_mem
abbrev Ro := @List.length_append
abbrev Rd := @List.length_cons
abbrev S2 := @List.length_map
abbrev So := @List.length_replicate
abbrev Sa := @List.length_singleton
abbrev RC := @List.length_take
abbrev Ss := @List.map_append
abbrev Te := @List.map_cons
abbrev U6 := @List.map_nil
abbrev Rh := @List.mem_append
abbrev Q6 := @List.mem_append_left
abbrev Sc := @List.mem_append_right
abbrev RU := @List.mem_cons
abbrev Rc := @List.mem_cons_of_mem
abbrev Q9 := @List.mem_cons_self
abbrev Sg := @List.mem_filter
abbrev U7 := @List.mem_filterMap
abbrev S6 := @List.mem_flatMap
abbrev Sm := @List.mem_iff_getElem
abbrev RY := @List.mem_map
abbrev Rg := @List.mem_of_getElem?
abbrev R5 := @List.mem_range
abbrev Rz := @List.mem_singleton
abbrev SJ := @List.nil_append
abbrev R6 := @List.nodup_append
abbrev Uv := @List.nodup_cons
abbrev Ue := @List.pairwise_iff_getElem
abbrev Uw := @List.range_succ
abbrev Uf := @List.set_eq_take_append_cons_drop
abbrev Vu := @List.singleton_append
abbrev TC := @List.size_toArray
abbrev Ui := @List.take_left
abbrev SW := @List.take_length
abbrev TX := @List.take_set_of_le
abbrev RD := @List.take_succ_eq_append_getElem
abbrev Vd := @List.take_take
abbrev TH := @List.toList_toArray
abbrev Tv := @Nat.add_assoc
abbrev Ru := @Nat.add_mul
abbrev Ti := @Nat.add_sub_cancel_left
abbrev SH := @Nat.add_zero
abbrev TN := @Nat.ble_eq
abbrev Sh := @Nat.blt_eq
abbrev Tq := @Nat.eq_of_beq_eq_true
abbrev SU := @Nat.eq_of_mul_eq_mul_right
abbrev TW := @Nat.le_mul_of_pos_right
abbrev Rq := @Nat.le_refl
abbrev Sb := @Nat.le_trans
abbrev T6 := @Nat.lt_of_le_of_lt
abbrev TR := @Nat.lt_of_lt_of_le
abbrev S7 := @Nat.lt_succ_self
abbrev Uc := @Nat.lt_trichotomy
abbrev Sd := @Nat.min_eq_left
abbrev SX := @Nat.mod_eq_of_lt
abbrev Rl := @Nat.mul_le_mul_right
abbrev TK := @Nat.mul_one
abbrev UU := @Nat.one_mul
abbrev Sq := @Nat.sub_self
abbrev T7 := @Nat.sub_zero
abbrev Rv := @Nat.zero_add
abbrev SI := @Nat.zero_mul
abbrev Vj := @Option.bind_eq_some_iff
abbrev S8 := @Option.bind_some
abbrev S9 := @Option.getD_some
abbrev UE := @Option.map_eq_some_iff
abbrev Uz := @Option.map_none
abbrev SC := @Option.map_some
abbrev Q8 := @Option.some.inj
abbrev Rp := @Option.some.injEq
abbrev Tw := @Prod.mk.injEq
abbrev Re := @Go.Result.andThen_ok
abbrev Rj := @Go.Sem.run_bind
abbrev Rx := @Go.Sem.run_pure
abbrev Q2 := @Go.Value
abbrev Rn := @congrArg
abbrev RS := @decide_eq_true_eq
abbrev VA := @decide_false
abbrev VM := @Go.grownCap_ge
abbrev U_ := @Go.grownCap_le_maxLen
abbrev VK := @Go.growslice_fits
abbrev Vg := @Go.heap_alloc_new
abbrev Tn := @if_false
abbrev Ra := @if_neg
abbrev Rb := @if_pos
abbrev UM := @if_true
abbrev Rf := @of_decide_eq_false
abbrev Q_ := @of_decide_eq_true
abbrev VJ := @Go.run_firstCells_some
abbrev SF := @Go.run_underlying
abbrev Q3 := @trivial
abbrev UX := @Go.wpList_step
end Go.Sim
namespace Go.Sim
open Go Go.RowKit
open _root_.Go.IntKind (i64 u64 u32 u8)
abbrev Hp:=Nat->Option Obj
def Hp.le (H H':Hp):Prop:=∀ b o,H b=some o->H' b=some o
theorem R8 (H:Hp):H.le H:=λ_ _ h=>h
theorem UT {A B C:Hp} (h:A.le B) (k:B.le C):A.le C:=λb o x=>k b o (h b o x)
def Hp.add (H:Hp) (b:Nat) (o:Obj):Hp:=λc=>if c=b then some o else H c
theorem Hp.Oa {H:Hp}{b:Nat}{o:Obj} (h:H b=none):H.le (H.add b o):=by
 intro c x I;unfold Hp.add
 split
 ·rename_i e; subst e; rw [h] at I; cases I
 ·exact I
theorem Hp.x9 (H:Hp) (b:Nat) (o:Obj):H.add b o b=some o:=by simp [Hp.add]
def snap (w:World):Hp:=λb=>w.heap[b]?
def iQ (w:World) (T:TypeId) (sz:Nat) (v:Q2) (n:Nat) (xs:List Q2):Prop:=
  xs.length=n*sz /\
  ((v=.slice none 0 0/\n=0) \/
   ∃ g off cap I,v=.slice (some ⟨g,off,none⟩) n cap/\w.heap[g]? = some (.cells I T (0,0))/\n<=cap/\cap<=maxLen/\off+cap*sz<=I.size/\(I.toList.drop off).take (n*sz)=xs)
theorem iQ.lt {w:World}{T:TypeId}{sz:Nat}{v:Q2}{n:Nat}{xs:List Q2} (h:iQ w T sz v n xs) {k:Nat} (I:v.ownBlock=some k):k<w.heap.size:=by
 rcases h.2 with ⟨rfl,_⟩ | ⟨g,off,cap,J,rfl,O,_⟩
 ·simp [Value.ownBlock] at I
 ·simp only [Value.ownBlock,Rp] at I
  subst I;exact (Sz.1 O).1
theorem iQ.kept {w w':World}{T:TypeId}{sz:Nat}{v:Q2}{n:Nat}{xs:List Q2}{row:Option Nat} (h:iQ w T sz v n xs) (Y:w.grownBy w' row)
  (O:∀ b,v.ownBlock=some b->row≠some b):iQ w' T sz v n xs:=by
 refine ⟨h.1,?_⟩;rcases h.2 with hn | ⟨g,off,cap,J,rfl,I,rest⟩
 ·exact .inl hn
 ·refine .inr ⟨g,off,cap,J,rfl,?_,rest⟩
  rw [Y.block g (Sz.1 I).1 (λe=>O g rfl e.symm)];exact I
theorem iQ.nil (w:World) (T:TypeId) (sz:Nat):iQ w T sz (.slice none 0 0) 0 []:=⟨by simp,.inl ⟨rfl,rfl⟩⟩
def OR (fs:List Nat) (P:World->Prop):Prop:=∀ w w' row,P w->w.grownBy w' row->(∀ b ∈ fs,row≠some b)->P w'
inductive bQ where
 | obj (b:Nat) (o:Obj)
 | row (v:Q2) (T:TypeId) (sz n:Nat) (xs:List Q2)
 | pack (fs:List Nat) (P:World->Prop)
def bQ.zH:bQ->Option Nat
 | .obj b _=>some b
 | .row v _ _ _ _=>v.ownBlock
 | .pack _ _=>none
def bQ.va:bQ->List Nat
 | .obj b _=>[b]
 | .row v _ _ _ _=>v.ownBlock.toList
 | .pack fs _=>fs
def bQ.ok (w:World):bQ->Prop
 | .obj b o=>w.heap[b]? = some o
 | .row v T sz n xs=>iQ w T sz v n xs
 | .pack fs P=>P w/\(∀ b ∈ fs,b<w.heap.size)/\OR fs P
theorem bQ.Hr {w:World}{r:bQ} (h:r.ok w) {b:Nat} (I:b ∈ r.va):b<w.heap.size:=by
 cases r with
 | obj c o=>
  simp only [bQ.va,Rz] at I;subst I;simp only [bQ.ok] at h;exact (Sz.1 h).1
 | row v T sz n xs=>exact iQ.lt h (Option.mem_toList.1 I)
 | pack fs P=>exact h.2.1 b I
theorem bQ.kept {w w':World}{r:bQ}{row:Option Nat} (h:r.ok w) (J:w.grownBy w' row) (I:∀ b ∈ r.va,row≠some b):r.ok w':=by
 cases r with
 | obj c o=>
  simp only [bQ.ok] at h ⊢;rw [J.block c (Sz.1 h).1 (λe=>I c (by simp [bQ.va]) e.symm)]
  exact h
 | row v T sz n xs=>
  exact iQ.kept h J (λb O=>I b (Option.mem_toList.2 O))
 | pack fs P=>exact ⟨h.2.2 _ _ _ h.1 J I,λb O=>TR (h.2.1 b O) J.size,h.2.2⟩
theorem Lf {l l':List bQ} (h:l.Sublist l'):(l.flatMap bQ.va).Sublist (l'.flatMap bQ.va):=by
 induction h with
 | slnil=>exact Tm _
 | cons a _ ih=>rw [Sp]; exact ih.trans (List.sublist_append_right _ _)
 | cons_cons a _ ih=>rw [Sp,Sp]; exact (Tm _).append ih
structure St (B:Nat) (w0:World) (H:Hp) (M:List bQ) (w:World):Prop where
 below:Below B w0 w
 le:B<=w.heap.size
 uX:∀ b o,H b=some o->w.heap[b]? = some o
 ok:∀ r ∈ M,r.ok w
 lo:∀ r ∈ M,∀ b ∈ r.va,B<=b/\H b=none
 nd:(M.flatMap bQ.va).Nodup
section
variable {B:Nat}{w0 w w':World}{H H':Hp}{M M':List bQ}
theorem St.lt (h:St B w0 H M w) {b:Nat}{o:Obj} (I:H b=some o):b<w.heap.size:=(Sz.1 (h.uX b o I)).1
theorem St.perm (h:St B w0 H M w) (p:M.Perm M'):St B w0 H M' w:=
 ⟨h.below,h.le,h.uX,λr I=>h.ok r (p.mem_iff.2 I),λr I=>h.lo r (p.mem_iff.2 I),(p.flatMap_right _).nodup_iff.1 h.nd⟩
theorem St.sub (h:St B w0 H M w) (p:M'.Sublist M):St B w0 H M' w:=
 ⟨h.below,h.le,h.uX,λr I=>h.ok r (p.subset I),λr I=>h.lo r (p.subset I),h.nd.sublist (Lf p)⟩
theorem St.tail {r:bQ} (h:St B w0 H (r::M) w):St B w0 H M w:=h.sub (List.sublist_cons_self _ _)
theorem St.drewN (h:St B w0 H M w) (n:Nat):St B w0 H M { w with drawn:=n }:=
 ⟨⟨h.below.os,h.below.tape,h.below.output,h.below.size,h.below.block⟩,h.le,h.uX,λr I=>by
  have:=h.ok r I;cases r with
  | pack fs P=>exact ⟨this.2.2 w _ none this.1 ⟨rfl,rfl,rfl,Rq _,λ_ _ _=>rfl⟩ (by simp),this.2⟩
  | _=>exact this,h.lo,h.nd⟩
theorem St.grow (h:St B w0 H M w) (I:w.grownBy w' none):St B w0 H M w':=
  ⟨h.below.grown I h.le (λ_ e=>by cases e),Sb h.le I.size,
   λb o J=>by rw [I.block b (h.lt J) (by simp)]; exact h.uX b o J,
   λr O=>bQ.kept (h.ok r O) I (by simp),h.lo,h.nd⟩
theorem St.EJ {r r':bQ} (h:St B w0 H (r::M) w) (Z:w.grownBy w' r.zH) (hok:r'.ok w')
  (hf:∀ b,r'.zH=some b->r.zH=some b\/w.heap.size<=b) (hr:r.va=r.zH.toList:=by rfl) (Y:r'.va=r'.zH.toList:=by rfl):St B w0 H (r'::M) w':=by
 have J:=h.nd;have uX:∀ {b:Nat},r.zH=some b->b ∈ r.va:=λe=>by rw [hr,e]; simp
 refine ⟨h.below.grown Z h.le (λk e=>(h.lo r (Q9 ..) k (uX e)).1),Sb h.le Z.size,?_,?_,?_,?_⟩
 ·intro b o I
  rw [Z.block b (h.lt I) (λe=>by have:=(h.lo r (Q9 ..) b (uX e.symm)).2; rw [this] at I; cases I)]
  exact h.uX b o I
 ·intro s hs
  rcases RU.1 hs with rfl | hs
  ·exact hok
  ·refine bQ.kept (h.ok s (Rc _ hs)) Z ?_
   intro b I e;simp only [Sp] at J;exact (R6.1 J).2.2 b (uX e) b (S6.2 ⟨s,hs,I⟩) rfl
 ·intro s hs b I
  rcases RU.1 hs with rfl | hs
  ·rw [Y] at I
   rcases hf b (Option.mem_toList.1 I) with e | e
   ·exact h.lo r (Q9 ..) b (uX e)
   ·refine ⟨Sb h.le e,?_⟩
    cases hh:H b with
    | none=>rfl
    | some o=>exact absurd (h.lt hh) (by omega)
  ·exact h.lo s (Rc _ hs) b I
 ·have hm:(M.flatMap bQ.va).Nodup:=(h.tail).nd
  rw [Sp,Y];cases hf':r'.zH with
  | none=>simpa using hm
  | some b=>
   simp only [Option.toList,Vu,Uv];refine ⟨λO=>?_,hm⟩;obtain ⟨s,hs,I⟩:=S6.1 O;rcases hf b hf' with e | e
   ·simp only [Sp] at J
    exact (R6.1 J).2.2 b (uX e) b O rfl
   ·have:=bQ.Hr (h.ok s (Rc _ hs)) I
    omega
theorem St.add {r':bQ} (h:St B w0 H M w) (hg:w.grownBy w' none) (O:r'.ok w') (hf:∀ b,r'.zH=some b->w.heap.size<=b) (Y:r'.va=r'.zH.toList:=by rfl):
  St B w0 H (r'::M) w':=by
 have Z:St B w0 H (.row (.slice none 0 0) 0 1 0 []::M) w:=by
  refine ⟨h.below,h.le,h.uX,?_,?_,?_⟩
  ·intro r I
   rcases RU.1 I with rfl | I
   ·exact iQ.nil _ _ _
   ·exact h.ok r I
  ·intro r I
   rcases RU.1 I with rfl | I
   ·intro b J; simp [bQ.va,Value.ownBlock] at J
   ·exact h.lo r I
  ·simpa [Sp,bQ.va,Value.ownBlock] using h.nd
 exact Z.EJ hg O (λb J=>.inr (hf b J)) rfl Y
theorem St.Cv (h:St B w0 H M w) (T:TypeId) (sz:Nat):St B w0 H (.row (.slice none 0 0) T sz 0 []::M) w:=
 h.add ⟨rfl,rfl,rfl,Rq _,λ_ _ _=>rfl⟩ (iQ.nil _ _ _) (by intro b I; simp [bQ.zH,Value.ownBlock] at I)
theorem St.alloc (h:St B w0 H M w) (o:Obj):St B w0 H (.obj w.heap.size o::M) (w.alloc o):=
 h.add (World.grownBy_alloc w o none) (Vg w o) (by intro b I; simp only [bQ.zH,Rp] at I; omega)
theorem St.wA {b:Nat}{o:Obj} (h:St B w0 H M w) (hm:bQ.obj b o ∈ M):w.heap[b]? = some o:=h.ok _ hm
theorem St.freeze {b:Nat}{o:Obj} (h:St B w0 H (.obj b o::M) w):H.le (H.add b o)/\St B w0 (H.add b o) M w:=by
 have Z:=h.lo _ (Q9 ..) b (by simp [bQ.va])
 refine ⟨Hp.Oa Z.2,h.below,h.le,?_,h.tail.ok,?_,h.tail.nd⟩
 ·intro c x J
  unfold Hp.add at J
  split at J
  ·rename_i e; subst e; cases J; exact h.ok _ (Q9 ..)
  ·exact h.uX c x J
 ·intro r Y c O
  refine ⟨(h.tail.lo r Y c O).1,?_⟩;unfold Hp.add
  split
  ·rename_i e; subst e
   have I:=h.nd;simp only [Sp,bQ.va,Vu,Uv] at I;exact absurd (S6.2 ⟨r,Y,O⟩) I.1
  ·exact (h.tail.lo r Y c O).2
theorem St.Qc {b:Nat}{o:Obj} (h:St B w0 H' M w) (Z:B<=b) (O:H.le H') (hb:H b=none) (Y:H' b=some o):St B w0 H (.obj b o::M) w:=by
 refine ⟨h.below,h.le,λc x hx=>h.uX c x (O c x hx),?_,?_,?_⟩
 ·intro r I
  rcases RU.1 I with rfl | I
  ·exact h.uX b o Y
  ·exact h.ok r I
 ·intro r I c J
  rcases RU.1 I with rfl | I
  ·simp only [bQ.va,Rz] at J; subst J; exact ⟨Z,hb⟩
  ·refine ⟨(h.lo r I c J).1,?_⟩
   cases hh:H c with
   | none=>rfl
   | some x=>have:=O c x hh; rw [(h.lo r I c J).2] at this; cases this
 ·simp only [Sp,bQ.va,Vu,Uv]
  refine ⟨λhm=>?_,h.nd⟩;obtain ⟨r,I,J⟩:=S6.1 hm;have:=(h.lo r I b J).2;rw [this] at Y; cases Y
theorem St.M9 (h:St B w0 H' M w) (I:H.le H'):St B w0 H M w:=
 ⟨h.below,h.le,λb o J=>h.uX b o (I b o J),h.ok,λr O b J=>⟨(h.lo r O b J).1,by
  cases Y:H b with
  | none=>rfl
  | some x=>have:=I b x Y; rw [(h.lo r O b J).2] at this; cases this⟩,h.nd⟩
def jT (rs:List bQ):bQ:=.pack (rs.flatMap bQ.va) (λw=>∀ r ∈ rs,r.ok w)
theorem Jf (rs:List bQ):OR (rs.flatMap bQ.va) (λw=>∀ r ∈ rs,r.ok w):=λ_ _ _ h Y I r J=>
 bQ.kept (h r J) Y (λb O=>I b (S6.2 ⟨r,J,O⟩))
theorem St.unpack {rs:List bQ} (h:St B w0 H (jT rs::M) w):St B w0 H (rs++M) w:=
 ⟨h.below,h.le,h.uX,λr I=>by
  rcases Rh.1 I with I | I
  ·exact (h.ok _ (Q9 ..)).1 r I
  ·exact h.ok r (Rc _ I),λr I b J=>by
  rcases Rh.1 I with I | I
  ·exact h.lo _ (Q9 ..) b (S6.2 ⟨r,I,J⟩)
  ·exact h.lo r (Rc _ I) b J,by
  have:=h.nd;rw [Sp] at this;rw [Uo]; exact this⟩
theorem St.pack {rs:List bQ} (h:St B w0 H (rs++M) w):St B w0 H (jT rs::M) w:=
 ⟨h.below,h.le,h.uX,λr I=>by
  rcases RU.1 I with rfl | I
  ·refine ⟨λr I=>h.ok r (Q6 _ I),λb J=>?_,Jf rs⟩
   obtain ⟨r,I,J⟩:=S6.1 J;exact bQ.Hr (h.ok r (Q6 _ I)) J
  ·exact h.ok r (Sc _ I),λr I b J=>by
  rcases RU.1 I with rfl | I
  ·obtain ⟨r,I,J⟩:=S6.1 J
   exact h.lo r (Q6 _ I) b J
  ·exact h.lo r (Sc _ I) b J,by
  have:=h.nd;rw [Uo] at this;rw [Sp]; exact this⟩
theorem St.begin (w:World):St w.heap.size w (snap w) [] w:=
 ⟨Below.refl _ _,Rq _,λ_ _ h=>h,by simp,by simp,by simp⟩
end
abbrev Env:=List (Nat×Q2)
def lk:Env->Nat->Option Q2
 | [],_=>none
 | (t,v)::r,u=>bif Nat.beq t u then some v else lk r u
structure Sl (N:Nat) (L:Env) (a:Act):Prop where
 size:a.tmps.size=N
 Fa:a.defers=[]
 get:∀ t v,lk L t=some v->a.tmps[t]? = some v
theorem tR (t:Nat) (v:Q2) (r:Env) (u:Nat):lk ((t,v)::r) u=if t=u then some v else lk r u:=by
 show (bif Nat.beq t u then some v else lk r u)=_
 by_cases h:t=u
 ·subst h; simp
 ·have:Nat.beq t u=false:=by
   cases I:Nat.beq t u with
   | false=>rfl
   | true=>exact absurd (Tq I) h
  simp [this,h]
theorem Sl.put {N:Nat}{L:Env}{a:Act}{d:Nat}{v:Q2} (h:Sl N L a) (J:Nat.blt d N=true):Sl N ((d,v)::L) (a.put (some d) v):=by
 have I:d<N:=by simpa [Sh] using J
 refine ⟨by simp [Act.put,h.size],h.Fa,λt u ht=>?_⟩
 rw [tR] at ht;simp only [Act.put,UI]
 by_cases e:d=t
 ·subst e
  simp only [UM,Rp] at ht;subst ht;simp [h.size,I]
 ·simp only [Ra e] at ht ⊢
  exact h.get t u ht
def Kept (L:Env):Env->Prop
 | []=>True
 | (t,v)::r=>lk L t=some v/\Kept L r
theorem Kept.lk {L:Env}:∀ {L':Env},Kept L L'->∀ t v,lk L' t=some v->lk L t=some v
 | [],_,t,v,h=>by simp [Sim.lk] at h
 | (u,x)::r,hk,t,v,h=>by
  rw [tR] at h
  split at h
  ·rename_i e; subst e; cases h; exact hk.1
  ·exact Kept.lk hk.2 t v h
theorem Sl.O8 {N:Nat}{L L':Env}{a:Act} (h:Sl N L a) (I:Kept L L'):Sl N L' a:=
 ⟨h.size,h.Fa,λt v ht=>h.get t v (I.lk t v ht)⟩
def ev (L:Env):Operand->Option Q2
 | .tmp t=>lk L t
 | .const v=>some v
 | .func f=>some (.func (.func f) #[] #[])
 | .global g=>some (.pointer (some ⟨g,0,none⟩))
theorem Sl.ev {N:Nat}{L:Env}{a:Act} (h:Sl N L a) {x:Operand}{v:Q2} (I:Sim.ev L x=some v):a.eval x=v:=by
 cases x with
 | tmp t=>simp [Act.eval,RW,h.get t v I]
 | const u=>simpa [Sim.ev,Act.eval] using I
 | func f=>simpa [Sim.ev,Act.eval] using I
 | global g=>simpa [Sim.ev,Act.eval] using I
def gd (ops:Array Oper) (L:Env) (o:Oper):Option Bool:=
 match o.guard with
 | none=>some true
 | some (j,want)=>
  match (ops[j]?).bind (·.dst) with
  | none=>none
  | some t=>match lk L t with
   | some (.bool b)=>some (b == want)
   | some (.tuple _)=>some false
   | _=>none
theorem Sl.gd {N:Nat}{L:Env}{a:Act} (h:Sl N L a) {ops:Array Oper}{o:Oper}{c:Bool} (I:Sim.gd ops L o=some c):Region.wanted o (yielded ops a.tmps)=c:=by
 unfold Sim.gd at I;unfold Region.wanted;cases O:o.guard with
 | none=>simp only [O,Rp] at I; simp [<- I]
 | some p=>
  obtain ⟨j,Y⟩:=p;simp only [O] at I;cases J:(ops[j]?).bind (·.dst) with
  | none=>simp [J] at I
  | some t=>
   simp only [J] at I;cases hl:lk L t with
   | none=>simp [hl] at I
   | some v=>
    cases v with
    | bool b=>
     simp only [hl,Rp] at I;have:=h.get t _ hl;simp [yielded,J,this,<- I]
    | tuple vs=>
     simp only [hl,Rp] at I;have:=h.get t _ hl;simp [yielded,J,this,<- I]
    | _=>simp [hl] at I
structure Cx where
 P:Program
 N:Nat
 B:Nat
 w0:World
abbrev lG:=Exit->Act->World->Prop
def W (x:Cx) (ops:Array Oper) (Q:lG) (rest:List Oper) (H:Hp) (M:List bQ) (L:Env):Prop:=
 ∀ a w,Sl x.N L a->St x.B x.w0 H M w->wpList x.P ops Q rest a w
def C (x:Cx) (c:Code) (Q:lG) (H:Hp) (M:List bQ) (L:Env):Prop:=
 ∀ a w,Sl x.N L a->St x.B x.w0 H M w->c.wp x.P Q a w
def E (x:Cx) (e:Exit) (Q:lG) (H:Hp) (M:List bQ) (L:Env):Prop:=
 ∀ a w,Sl x.N L a->St x.B x.w0 H M w->Q e a w
section
variable {x:Cx}{ops:Array Oper}{Q:lG}{rest:List Oper}{H:Hp}{M M':List bQ}{L L':Env}
theorem bI {c d:Code} (k:C x c (Exit.then (d.wp x.P Q) Q) H M L):C x (.seq c d) Q H M L:=
 λa w hs ht=>wp_seq (k a w hs ht)
theorem ml (k:E x .normal Q H M L):C x .skip Q H M L:=λa w hs ht=>wp_skip (k a w hs ht)
theorem u5 {id:Nat} (k:E x (.exit id) Q H M L):C x (.exit id) Q H M L:=λa w hs ht=>wp_exit (k a w hs ht)
theorem mj (k:E x .ret Q H M L):C x .ret Q H M L:=λa w hs ht=>wp_ret (k a w hs ht)
theorem uI {id:Nat}{c:Code} (k:C x c (Exit.inBlock id Q) H M L):C x (.block id c) Q H M L:=
 λa w hs ht=>wp_block (k a w hs ht)
theorem bE {c:Operand}{p q:Code}{b:Bool} (I:ev L c=some (.bool b)) (J:b=true->C x p Q H M L) (O:b=false->C x q Q H M L):
  C x (.cond c p q) Q H M L:=
 λa w hs ht=>wp_cond_split (hs.ev I) (λe=>J e a w hs ht) (λe=>O e a w hs ht)
theorem aL {id:Nat}{l:List Oper} (k:W x l.toArray Q l H M L):C x (.region id l.toArray false) Q H M L:=
 λa w hs ht=>wp_region_lit (k a w hs ht)
theorem aZ (k:E x .normal Q H M L):W x ops Q [] H M L:=λa w hs ht=>wpList_nil (k a w hs ht)
theorem aQ {d:Code}{I:lG} (k:C x d I H M L):E x .normal (Exit.then (d.wp x.P I) Q) H M L:=λa w hs ht=>k a w hs ht
theorem Bo {c:Code} (hL:Kept L L') (I:M.Perm M') (k:C x c Q H M' L'):C x c Q H M L:=
 λa w hs ht=>k a w (hs.O8 hL) (ht.perm I)
theorem DC {e:Exit} (hL:Kept L L') (I:M.Perm M') (k:E x e Q H M' L'):E x e Q H M L:=
 λa w hs ht=>k a w (hs.O8 hL) (ht.perm I)
theorem NP {c:Code} (I:M'.Sublist M) (k:C x c Q H M' L):C x c Q H M L:=λa w hs ht=>k a w hs (ht.sub I)
theorem Jp {e:Exit} (I:M'.Sublist M) (k:E x e Q H M' L):E x e Q H M L:=λa w hs ht=>k a w hs (ht.sub I)
theorem oc (I:M.Perm M') (k:W x ops Q rest H M' L):W x ops Q rest H M L:=λa w hs ht=>k a w hs (ht.perm I)
theorem tj {o:Oper}{d:Nat} (Z:o.dst=some d) (hg:gd ops L o=some true) (hN:Nat.blt d x.N=true)
  (I:∀ a w,Sl x.N L a->St x.B x.w0 H M w->∃ v O,(execOp a.eval o).run x.P w=.ok (.value v) O/\∃ H' M',St x.B x.w0 H' M' O/\W x ops Q rest H' M' ((d,v)::L)):
  W x ops Q (o::rest) H M L:=by
 intro a w hs ht;obtain ⟨v,O,hr,H',M',J,k⟩:=I a w hs ht;refine UX λK Y=>?_;rw [Rb (hs.gd hg)];unfold Oper.wp;rw [hr];simp only [Oper.upon,Z];exact Y _ _ (k _ _ (hs.put hN) J)
theorem eZ {o:Oper}{d:Nat}{v:Q2} (J:o.dst=some d) (O:gd ops L o=some true) (hN:Nat.blt d x.N=true)
  (I:∀ a w,Sl x.N L a->St x.B x.w0 H M w->(execOp a.eval o).run x.P w=.ok (.value v) w) (k:W x ops Q rest H M ((d,v)::L)):
  W x ops Q (o::rest) H M L:=
 tj J O hN λa w hs ht=>⟨v,w,I a w hs ht,H,M,ht,k⟩
theorem OT {o:Oper}{d:Nat} (J:o.dst=some d) (O:gd ops L o=some false) (hN:Nat.blt d x.N=true) (k:W x ops Q rest H M ((d,undef)::L)):
  W x ops Q (o::rest) H M L:=by
 intro a w hs ht;refine UX λK I=>?_;rw [Ra (by rw [hs.gd O]; simp),J]
 exact I _ _ (k _ _ (hs.put hN) ht)
theorem Nv {o:Oper} (J:o.dst=none) (O:gd ops L o=some false) (k:W x ops Q rest H M L):W x ops Q (o::rest) H M L:=by
 intro a w hs ht;refine UX λK I=>?_;rw [Ra (by rw [hs.gd O]; simp),J]
 exact I _ _ (k _ _ hs ht)
theorem DN {o:Oper} (Z:o.dst=none) (hg:gd ops L o=some true)
  (I:∀ a w,Sl x.N L a->St x.B x.w0 H M w->∃ O,(execOp a.eval o).run x.P w=.ok .skip O/\∃ H' M',St x.B x.w0 H' M' O/\W x ops Q rest H' M' L):
  W x ops Q (o::rest) H M L:=by
 intro a w hs ht;obtain ⟨O,hr,H',M',J,k⟩:=I a w hs ht;refine UX λK Y=>?_;rw [Rb (hs.gd hg)];unfold Oper.wp;rw [hr];simp only [Oper.upon,Z];exact Y _ _ (k _ _ hs J)
def uC (B:Nat) (w0:World) (I:Hp->List bQ->Q2->Prop):Ending->World->Prop
 | .returned v,w'=>∃ H' M',St B w0 H' M' w'/\I H' M' v
 | _,_=>False
def zc (L:Env):List Operand->Option (List Q2)
 | []=>some []
 | y::r=>match ev L y,zc L r with
  | some v,some vs=>some (v::vs)
  | _,_=>none
theorem Sl.zc {L:Env}{a:Act}{N:Nat} (hs:Sl N L a):∀ {l:List Operand}{vs:List Q2},Sim.zc L l=some vs->l.map a.eval=vs
 | [],vs,h=>by simp [Sim.zc] at h; simp [h]
 | y::r,vs,h=>by
  simp only [Sim.zc] at h;cases I:Sim.ev L y with
  | none=>simp [I] at h
  | some v=>
   cases J:Sim.zc L r with
   | none=>simp [I,J] at h
   | some O=>
    simp only [I,J,Rp] at h;subst h;simp [hs.ev I,Sl.zc hs J]
theorem fQ {d:Nat}{f:FuncId}{args:List Operand}{Y:Array TypeId}{ty:TypeId}{pos:String}{I:Array Edge}{g:Option (Nat×Bool)}{vs:List Q2}
  {Z:Hp->List bQ->Q2->Prop}
  (O:∀ as w,(callFunc f as).run x.P w=.ok (.enter f as) w)
  (hg:gd ops L ⟨some d,.call ⟨.value (.func f),args.toArray,Y⟩,ty,pos,I,g⟩=some true) (hN:Nat.blt d x.N=true)
  (hv:zc L args=some vs)
  (hc:∀ w,St x.B x.w0 H M w->Calls x.P f vs.toArray w (uC x.B x.w0 Z))
  (k:∀ v H' M',Z H' M' v->W x ops Q rest H' M' ((d,v)::L)):
  W x ops Q (⟨some d,.call ⟨.value (.func f),args.toArray,Y⟩,ty,pos,I,g⟩::rest) H M L:=by
 intro a w hs ht;refine UX λK hK=>?_;rw [Rb (hs.gd hg)];have J:args.toArray.map a.eval=vs.toArray:=by simp [hs.zc hv]
 have hr:(execOp a.eval ⟨some d,.call ⟨.value (.func f),args.toArray,Y⟩,ty,pos,I,g⟩).run x.P w=.ok (.enter f vs.toArray) w:=by
  simp only [execOp,resolve,J,Act.eval,Deferred.ofValue,Rj,Rx,Re,invoke];simp [O]
 unfold Oper.wp;rw [hr];simp only [Oper.upon];refine (hc w ht).mono λe w' he=>?_;cases e with
 | returned v=>
  obtain ⟨H',M',h1,h2⟩:=he;exact hK _ _ (k v H' M' h2 _ _ (hs.put hN) h1)
 | panicked c=>exact he.elim
 | outgrown=>exact he.elim
end
def yY (x:Cx) (H:Hp) (M:List bQ) (ad:Addr) (v:Q2):Prop:=∀ w,St x.B x.w0 H M w->w.cell? ad=some v
def Bu (H:Hp) (ad:Addr) (v:Q2):Prop:=∃ arr T fz,H ad.block=some (.cells arr T fz)/\ad.spot=none/\arr[ad.off]? = some v
theorem Vw {w:World}{ad:Addr}{arr:Array Q2}{T:TypeId}{fz:Nat×Nat}{v:Q2} (h:w.heap[ad.block]? = some (.cells arr T fz)) (hs:ad.spot=none) (I:arr[ad.off]? = some v):
  w.cell? ad=some v:=by
 simp [World.cell?,h,hs,I]
theorem Bu.at {x:Cx}{H:Hp}{M:List bQ}{ad:Addr}{v:Q2} (h:Bu H ad v):yY x H M ad v:=by
 obtain ⟨arr,T,fz,I,hs,J⟩:=h;exact λw ht=>Vw (ht.uX _ _ I) hs J
theorem Bu.mono {H H':Hp}{ad:Addr}{v:Q2} (I:H.le H') (h:Bu H ad v):Bu H' ad v:=by
 obtain ⟨arr,T,fz,J,hs,O⟩:=h;exact ⟨arr,T,fz,I _ _ J,hs,O⟩
theorem wB {x:Cx}{H:Hp}{M:List bQ}{b off:Nat}{l:List Q2}{T:TypeId}{fz:Nat×Nat}{v:Q2}
  (hm:bQ.obj b (.cells l.toArray T fz) ∈ M) (I:l[off]? = some v):yY x H M ⟨b,off,none⟩ v:=by
 intro w ht;exact Vw (ht.wA hm) rfl (by simpa using I)
def zv (x:Cx) (H:Hp) (M:List bQ) (ad:Addr) (cs:List Q2):Prop:=∀ j c,cs[j]? = some c->yY x H M (ad.add j) c
def iE (H:Hp) (ad:Addr) (cs:List Q2):Prop:=∀ j c,cs[j]? = some c->Bu H (ad.add j) c
theorem iE.at {x:Cx}{H:Hp}{M:List bQ}{ad:Addr}{cs:List Q2} (h:iE H ad cs):zv x H M ad cs:=λj c I=>(h j c I).at
theorem iE.mono {H H':Hp}{ad:Addr}{cs:List Q2} (I:H.le H') (h:iE H ad cs):iE H' ad cs:=λj c J=>(h j c J).mono I
theorem El {x:Cx}{H:Hp}{M:List bQ}{b:Nat}{l:List Q2}{T:TypeId}{fz:Nat×Nat}
  (hm:bQ.obj b (.cells l.toArray T fz) ∈ M):zv x H M ⟨b,0,none⟩ l:=by
 intro j c I;rw [Sf,Rv];exact wB hm I
theorem run_loadCellsFrom {P:Program}{w:World}{ad:Addr}:∀ (cs:List Q2) (i:Nat) (acc:Array Q2),(∀ j c,cs[j]? = some c->w.cell? (ad.add (i+j))=some c) ->
  (loadCellsFrom ad i cs.length acc).run P w=.ok (acc++cs.toArray) w
 | [],i,acc,_=>by simp [loadCellsFrom]
 | c::cs,i,acc,h=>by
  have I:=h 0 c rfl;simp only [SH] at I;have ih:=run_loadCellsFrom (P:=P) (w:=w) (ad:=ad) cs (i+1) (acc.push c) (λj d J=>by have:=h (j+1) d (by simpa using J); rwa [show i+(j+1)=i+1+j from by omega] at this)
  simp only [Rd,loadCellsFrom,load,Rj,Sem.run,I,Re];rw [ih];simp
section
variable {x:Cx}{ops:Array Oper}{Q:lG}{rest:List Oper}{H:Hp}{M M':List bQ}{L L':Env}
variable {d:Nat}{ty:TypeId}{pos:String}{aft:Array Edge}{g:Option (Nat×Bool)}
theorem bV {y:Operand}{v:Q2} (I:gd ops L ⟨some d,.move y,ty,pos,aft,g⟩=some true) (hN:Nat.blt d x.N=true)
  (J:ev L y=some v) (k:W x ops Q rest H M ((d,v)::L)):W x ops Q (⟨some d,.move y,ty,pos,aft,g⟩::rest) H M L:=
 eZ rfl I hN (λa w hs _=>by simp [execOp,hs.ev J]) k
theorem aJ {y:Operand}{v:Q2} (I:gd ops L ⟨some d,.assign y,ty,pos,aft,g⟩=some true) (hN:Nat.blt d x.N=true)
  (J:ev L y=some v) (k:W x ops Q rest H M ((d,v)::L)):W x ops Q (⟨some d,.assign y,ty,pos,aft,g⟩::rest) H M L:=
 eZ rfl I hN (λa w hs _=>by simp [execOp,hs.ev J]) k
theorem DM {c y z:Operand}{b:Bool}{v:Q2} (O:gd ops L ⟨some d,.pick c y z,ty,pos,aft,g⟩=some true) (hN:Nat.blt d x.N=true)
  (J:ev L c=some (.bool b)) (I:(if b then ev L y else ev L z)=some v) (k:W x ops Q rest H M ((d,v)::L)):
  W x ops Q (⟨some d,.pick c y z,ty,pos,aft,g⟩::rest) H M L:=
 eZ rfl O hN (λa w hs _=>by
  cases b
  ·simp only [SO,Tn] at I; simp [execOp,hs.ev J,hs.ev I,asBool]
  ·simp only [UM] at I; simp [execOp,hs.ev J,hs.ev I,asBool]) k
def BN:BinOp->Q2->Q2->Option Q2
 | .add,.int k a,.int k' b=>if k=k' then some (.int k (k.wrap (a+b))) else none
 | .sub,.int k a,.int k' b=>if k=k' then some (.int k (k.wrap (a-b))) else none
 | .mul,.int k a,.int k' b=>if k=k' then some (.int k (k.wrap (a*b))) else none
 | .lss,.int k a,.int k' b=>if k=k' then some (.bool (decide (a<b))) else none
 | .leq,.int k a,.int k' b=>if k=k' then some (.bool (decide (a<=b))) else none
 | .gtr,.int k a,.int k' b=>if k=k' then some (.bool (decide (b<a))) else none
 | .geq,.int k a,.int k' b=>if k=k' then some (.bool (decide (b<=a))) else none
 | .eql,.int k a,.int k' b=>if k=k' then some (.bool (decide (a=b))) else none
 | .neq,.int k a,.int k' b=>if k=k' then some (.bool (!decide (a=b))) else none
 | .and,.int k a,.int k' b=>if k=k' then some (.int k (k.wrap (BitVec.ofInt k.bits a &&& BitVec.ofInt k.bits b).toNat)) else none
 | .or,.int k a,.int k' b=>if k=k' then some (.int k (k.wrap (BitVec.ofInt k.bits a ||| BitVec.ofInt k.bits b).toNat)) else none
 | .xor,.int k a,.int k' b=>if k=k' then some (.int k (k.wrap (BitVec.ofInt k.bits a ^^^ BitVec.ofInt k.bits b).toNat)) else none
 | .eql,.string s,.string t=>some (.bool (decide (s=t)))
 | .neq,.string s,.string t=>some (.bool (!decide (s=t)))
 | .lss,.string s,.string t=>some (.bool (Op.bytesLess s.toList t.toList))
 | _,_,_=>none
theorem NT (s t:Q1):(s.toList == t.toList)=decide (s=t):=by
 rw [Bool.eq_iff_iff];simp only [beq_iff_eq,RS];constructor
 ·intro h
  have hs:∀ u:Q1,u.toList=u.data.toList:=ByteArray.toList_eq;rw [hs,hs] at h;exact ByteArray.ext (Array.ext' h)
 ·intro h; rw [h]
theorem Hu (a b:Int):(a == b)=decide (a=b):=by rw [Bool.eq_iff_iff]; simp
theorem Kv {p:Prop}[Decidable p] {v w:Q2} (h:(if p then some v else none)=some w):p/\v=w:=by
 split at h
 ·exact ⟨‹_›,by simpa using h⟩
 ·cases h
theorem Im {I:BinOp}{a b v:Q2} (t:TypeId) (P:Program) (w:World) (h:BN I a b=some v):(binOp I t a b).run P w=.ok v w:=by
 unfold BN at h
 split at h
 case h_1 | h_2 | h_3 | h_4 | h_5 | h_6 | h_7 | h_8 | h_9 | h_10 | h_11 | h_12=>
  obtain ⟨rfl,rfl⟩:=Kv h
  first
   | (simp [binOp,Op.intArith]; done)
   | (simp [binOp,Op.intBits]; done)
   | (simp [binOp,Op.intCmp]; done)
   | (simp [binOp,Op.intCmp,bne,Hu]; done)
 case h_13 | h_14 | h_15=>cases h; simp [binOp,Op.stringOp,<- NT]
 case h_16=>cases h
theorem Fe {I:BinOp}{a b v:Q2} (t:TypeId) (y z:Operand) (P:Program) (w:World) (h:BN I a b=some v):(eqGuard I t y z a b).run P w=.ok () w:=by
 unfold BN at h
 split at h <;> first
  | (simp [eqGuard]; done)
  | (cases h; done)
theorem u7 {I:BinOp}{t u:TypeId}{y z:Operand}{a b v:Q2} (O:gd ops L ⟨some d,.binOp I t y z u,ty,pos,aft,g⟩=some true) (hN:Nat.blt d x.N=true)
  (Y:ev L y=some a) (Z:ev L z=some b) (J:BN I a b=some v) (k:W x ops Q rest H M ((d,v)::L)):
  W x ops Q (⟨some d,.binOp I t y z u,ty,pos,aft,g⟩::rest) H M L:=
 eZ rfl O hN (λc w hs _=>by
  simp only [execOp,hs.ev Y,hs.ev Z,Rj,Fe t y z x.P w J,Re,Im t x.P w J,Rx]) k
theorem Nw {t u:TypeId}{y z:Operand}{I:IntKind}{m n:Int} (J:gd ops L ⟨some d,.binOp .quo t y z u,ty,pos,aft,g⟩=some true) (hN:Nat.blt d x.N=true)
  (O:ev L y=some (.int I m)) (Y:ev L z=some (.int I n)) (hn:n≠0) (k:W x ops Q rest H M ((d,.int I (I.wrap (m.tdiv n)))::L)):
  W x ops Q (⟨some d,.binOp .quo t y z u,ty,pos,aft,g⟩::rest) H M L:=
 eZ rfl J hN (λc w hs _=>by
  simp [execOp,hs.ev O,hs.ev Y,eqGuard,binOp,Op.intDiv,hn]) k
theorem JK {t u:TypeId}{y z:Operand}{I:IntKind}{m n:Int} (J:gd ops L ⟨some d,.binOp .rem t y z u,ty,pos,aft,g⟩=some true) (hN:Nat.blt d x.N=true)
  (O:ev L y=some (.int I m)) (Y:ev L z=some (.int I n)) (hn:n≠0) (k:W x ops Q rest H M ((d,.int I (m.tmod n))::L)):
  W x ops Q (⟨some d,.binOp .rem t y z u,ty,pos,aft,g⟩::rest) H M L:=
 eZ rfl J hN (λc w hs _=>by
  simp [execOp,hs.ev O,hs.ev Y,eqGuard,binOp,Op.intDiv,hn]) k
def NN:UnOp->Q2->Option Q2
 | .neg,.int k n=>some (.int k (k.wrap (0-n)))
 | .not,.bool b=>some (.bool !b)
 | .xor,.int k n=>some (.int k (k.wrap (BitVec.ofInt k.bits (if k.signed then -1 else k.max) ^^^ BitVec.ofInt k.bits n).toNat))
 | _,_=>none
theorem OU {J:UnOp}{t:TypeId}{y:Operand}{a v:Q2} (O:gd ops L ⟨some d,.unOp J t y,ty,pos,aft,g⟩=some true) (hN:Nat.blt d x.N=true)
  (Y:ev L y=some a) (I:NN J a=some v) (k:W x ops Q rest H M ((d,v)::L)):
  W x ops Q (⟨some d,.unOp J t y,ty,pos,aft,g⟩::rest) H M L:=
 eZ rfl O hN (λc w hs _=>by
  simp only [execOp,hs.ev Y];unfold NN at I
  split at I <;> first
   | (cases I; simp [Op.unary,Op.intArith,Op.intBits]; done)
   | cases I) k
theorem OS {T:TypeId}{y:Operand}{v:Q2}{cs:List Q2} (J:gd ops L ⟨some d,.box T y,ty,pos,aft,g⟩=some true) (hN:Nat.blt d x.N=true)
  (O:ev L y=some v) (I:v.cells=cs.toArray)
  (k:∀ b,W x ops Q rest H (.obj b (.cells cs.toArray T (0,0))::M) ((d,.pointer (some ⟨b,0,none⟩))::L)):
  W x ops Q (⟨some d,.box T y,ty,pos,aft,g⟩::rest) H M L:=
 tj rfl J hN (λc w hs ht=>⟨_,w.alloc (.cells cs.toArray T),by
  simp only [execOp,hs.ev O,Instr.box,newVar,newRow,newObj,Rj,Rx,Sem.run,Re,I,World.alloc],_,_,ht.alloc _,k _⟩)
theorem LG {T:TypeId}{z:Q2}{cs:List Q2} (J:gd ops L ⟨some d,.alloc T,ty,pos,aft,g⟩=some true) (hN:Nat.blt d x.N=true)
  (O:∀ w,(zeroValue T).run x.P w=.ok z w) (I:z.cells=cs.toArray)
  (k:∀ b,W x ops Q rest H (.obj b (.cells cs.toArray T (0,0))::M) ((d,.pointer (some ⟨b,0,none⟩))::L)):
  W x ops Q (⟨some d,.alloc T,ty,pos,aft,g⟩::rest) H M L:=
 tj rfl J hN (λc w hs ht=>⟨_,w.alloc (.cells cs.toArray T),by
  simp only [execOp,Instr.alloc,O,newVar,newRow,newObj,Rj,Rx,Sem.run,Re,I,World.alloc],_,_,ht.alloc _,k _⟩)
theorem qJ {T:TypeId}{y:Operand}{ad:Addr}{v:Q2} (O:gd ops L ⟨some d,.load T y,ty,pos,aft,g⟩=some true) (hN:Nat.blt d x.N=true)
  (I:∀ w,(isAgg T).run x.P w=.ok false w) (Y:ev L y=some (.pointer (some ad))) (J:yY x H M ad v)
  (k:W x ops Q rest H M ((d,v)::L)):W x ops Q (⟨some d,.load T y,ty,pos,aft,g⟩::rest) H M L:=
 eZ rfl O hN (λc w hs ht=>by
  simp [execOp,hs.ev Y,Instr.loadAt,Instr.sureAddr,loadVar,I,load,Sem.run,J w ht]) k
theorem jN {T:TypeId}{n:Nat}{y:Operand}{ad:Addr}{cs:List Q2} (O:gd ops L ⟨some d,.load T y,ty,pos,aft,g⟩=some true) (hN:Nat.blt d x.N=true)
  (I:∀ w,(isAgg T).run x.P w=.ok true w) (hn:∀ w,(sizeOf T).run x.P w=.ok n w) (Z:ev L y=some (.pointer (some ad))) (J:zv x H M ad cs) (hl:cs.length=n)
  (k:W x ops Q rest H M ((d,.agg cs.toArray)::L)):W x ops Q (⟨some d,.load T y,ty,pos,aft,g⟩::rest) H M L:=
 eZ rfl O hN (λc w hs ht=>by
  have h:=run_loadCellsFrom (P:=x.P) (w:=w) (ad:=ad) cs 0 #[] (λj v Y=>by rw [Rv]; exact J j v Y w ht)
  rw [hl] at h;simp [execOp,hs.ev Z,Instr.loadAt,Instr.sureAddr,loadVar,I,hn,loadCells,h]) k
theorem uJ {T:TypeId}{y:Operand}{ad:Addr}{f n o:Nat}{fs:Array Field}{I:Field} (hg:gd ops L ⟨some d,.fieldAddr T y f,ty,pos,aft,g⟩=some true) (hN:Nat.blt d x.N=true)
  (Y:∀ w,(underlying T).run x.P w=.ok (.struct fs) w) (Z:fs[f]? = some I) (hn:∀ w,(sizeOf I.type).run x.P w=.ok n w) (J:Nat.beq n 0=false) (ho:I.offset=o)
  (hy:ev L y=some (.pointer (some ad))) (k:W x ops Q rest H M ((d,.pointer (some (ad.add o)))::L)):
  W x ops Q (⟨some d,.fieldAddr T y f,ty,pos,aft,g⟩::rest) H M L:=
 eZ rfl hg hN (λc w hs ht=>by
  have O:¬ n=0:=λe=>by subst e; simp at J
  simp [execOp,hs.ev hy,Instr.fieldAt,Y,Z,Instr.sureAddr,fieldPlace,hn,O,ho]) k
theorem pQ {y:Operand}{ad:Addr} (I:gd ops L ⟨some d,.nilCheck y,ty,pos,aft,g⟩=some true) (hN:Nat.blt d x.N=true)
  (J:ev L y=some (.pointer (some ad))) (k:W x ops Q rest H M ((d,.pointer (some ad))::L)):
  W x ops Q (⟨some d,.nilCheck y,ty,pos,aft,g⟩::rest) H M L:=
 eZ rfl I hN (λc w hs ht=>by simp [execOp,hs.ev J]) k
theorem sE {y:Operand}{vs:Array Q2}{i:Nat}{v:Q2} (I:gd ops L ⟨some d,.extract y i,ty,pos,aft,g⟩=some true) (hN:Nat.blt d x.N=true)
  (O:ev L y=some (.tuple vs)) (J:vs[i]? = some v) (k:W x ops Q rest H M ((d,v)::L)):
  W x ops Q (⟨some d,.extract y i,ty,pos,aft,g⟩::rest) H M L:=
 eZ rfl I hN (λc w hs ht=>by simp [execOp,hs.ev O,Instr.extract,J]) k
theorem EU {y z:Operand}{I:Array TypeId}{J:IntKind}{m n:Int} (O:gd ops L ⟨some d,.call ⟨.builtin .min,#[y,z],I⟩,ty,pos,aft,g⟩=some true) (hN:Nat.blt d x.N=true)
  (Y:ev L y=some (.int J m)) (Z:ev L z=some (.int J n)) (k:W x ops Q rest H M ((d,.int J (min m n))::L)):
  W x ops Q (⟨some d,.call ⟨.builtin .min,#[y,z],I⟩,ty,pos,aft,g⟩::rest) H M L:=
 eZ rfl O hN (λc w hs ht=>by
  have:(if n<m then n else m)=min m n:=by rw [Int.min_def]; split <;> split <;> omega
  simp [execOp,resolve,invoke,builtin,hs.ev Y,hs.ev Z,Builtin.min_,Builtin.min2,this]) k
theorem Nu {y z:Operand}{I:Array TypeId}{J:IntKind}{m n:Int} (O:gd ops L ⟨some d,.call ⟨.builtin .max,#[y,z],I⟩,ty,pos,aft,g⟩=some true) (hN:Nat.blt d x.N=true)
  (Y:ev L y=some (.int J m)) (Z:ev L z=some (.int J n)) (k:W x ops Q rest H M ((d,.int J (max m n))::L)):
  W x ops Q (⟨some d,.call ⟨.builtin .max,#[y,z],I⟩,ty,pos,aft,g⟩::rest) H M L:=
 eZ rfl O hN (λc w hs ht=>by
  have:(if n > m then n else m)=max m n:=by rw [Int.max_def]; split <;> split <;> omega
  simp [execOp,resolve,invoke,builtin,hs.ev Y,hs.ev Z,Builtin.max_,Builtin.max2,this]) k
theorem DL {t e:TypeId}{y:Operand}{a:Option Addr}{m n:Nat} (J:gd ops L ⟨some d,.call ⟨.builtin .len,#[y],#[t]⟩,ty,pos,aft,g⟩=some true) (hN:Nat.blt d x.N=true)
  (I:∀ w,(underlying t).run x.P w=.ok (.slice e) w) (O:ev L y=some (.slice a n m)) (k:W x ops Q rest H M ((d,.int .i64 n)::L)):
  W x ops Q (⟨some d,.call ⟨.builtin .len,#[y],#[t]⟩,ty,pos,aft,g⟩::rest) H M L:=
 eZ rfl J hN (λc w hs ht=>by
  simp [execOp,resolve,invoke,builtin,hs.ev O,Builtin.len_,I,goInt]) k
theorem eH {t:TypeId}{y:Operand}{s:Q1} (J:gd ops L ⟨some d,.call ⟨.builtin .len,#[y],#[t]⟩,ty,pos,aft,g⟩=some true) (hN:Nat.blt d x.N=true)
  (I:∀ w,(underlying t).run x.P w=.ok .string w) (O:ev L y=some (.string s)) (k:W x ops Q rest H M ((d,.int .i64 s.size)::L)):
  W x ops Q (⟨some d,.call ⟨.builtin .len,#[y],#[t]⟩,ty,pos,aft,g⟩::rest) H M L:=
 eZ rfl J hN (λc w hs ht=>by
  simp [execOp,resolve,invoke,builtin,hs.ev O,Builtin.len_,I,goInt]) k
theorem JE {t e:TypeId}{sz:Nat}{y z:Operand}{ad:Addr}{n m:Nat}{kk:IntKind}{i:Int} (Z:gd ops L ⟨some d,.indexAddr t y z,ty,pos,aft,g⟩=some true) (hN:Nat.blt d x.N=true)
  (Y:∀ w,(underlying t).run x.P w=.ok (.slice e) w) (hs:∀ w,(sizeOf e).run x.P w=.ok sz w)
  (hy:ev L y=some (.slice (some ad) n m)) (hz:ev L z=some (.int kk i)) (O:0<=i) (h1:i.toNat<n)
  (k:W x ops Q rest H M ((d,.pointer (some (ad.add (i.toNat*sz))))::L)):
  W x ops Q (⟨some d,.indexAddr t y z,ty,pos,aft,g⟩::rest) H M L:=
 eZ rfl Z hN (λc w I ht=>by
  have J:i<(n:Int):=by omega
  simp [execOp,I.ev hy,I.ev hz,Instr.indexAt,asIntOf,Y,hs,O,J]) k
end
class aG (α:Type) where
 sz:Nat
 E:Hp->List Q2->α->Prop
 len:∀ {H cs x},E H cs x->cs.length=sz
 mono:∀ {H H' cs x},H.le H'->E H cs x->E H' cs x
 one:∀ {H cs x},E H cs x->∀ c ∈ cs,c.oneCell'=true
instance:aG Int where
 sz:=1
 E _ cs n:=cs=[.int .i64 n]
 len h:=by rw [h]; rfl
 mono _ h:=h
 one h c hc:=by rw [h] at hc; simp at hc; subst hc; rfl
instance:aG Bool where
 sz:=1
 E _ cs b:=cs=[.bool b]
 len h:=by rw [h]; rfl
 mono _ h:=h
 one h c hc:=by rw [h] at hc; simp at hc; subst hc; rfl
instance:aG Q1 where
 sz:=1
 E _ cs s:=cs=[.string s]
 len h:=by rw [h]; rfl
 mono _ h:=h
 one h c hc:=by rw [h] at hc; simp at hc; subst hc; rfl
instance:aG UInt8 where
 sz:=1
 E _ cs n:=cs=[.int .u8 n.toNat]
 len h:=by rw [h]; rfl
 mono _ h:=h
 one h c hc:=by rw [h] at hc; simp at hc; subst hc; rfl
instance:aG UInt32 where
 sz:=1
 E _ cs n:=cs=[.int .u32 n.toNat]
 len h:=by rw [h]; rfl
 mono _ h:=h
 one h c hc:=by rw [h] at hc; simp at hc; subst hc; rfl
instance:aG UInt64 where
 sz:=1
 E _ cs n:=cs=[.int .u64 n.toNat]
 len h:=by rw [h]; rfl
 mono _ h:=h
 one h c hc:=by rw [h] at hc; simp at hc; subst hc; rfl
def aO {α:Type}[aG α] (H:Hp) (v:Q2) (xs:List α):Prop:=
 ((∃ a,v=.slice a 0 0)/\xs=[]) \/
 ∃ b off cap arr T fz,v=.slice (some ⟨b,off,none⟩) xs.length cap/\xs.length<=cap/\cap<=maxLen/\H b=some (.cells arr T fz)/\off+cap*aG.sz α<=arr.size /\
  ∀ k e,xs[k]? = some e->∃ cs,aG.E H cs e/\∀ j c,cs[j]? = some c->arr[off+k*aG.sz α+j]? = some c
theorem aO.mono {α:Type}[aG α] {H H':Hp}{v:Q2}{xs:List α} (I:H.le H') (h:aO H v xs):aO H' v xs:=by
 rcases h with h | ⟨b,off,cap,arr,T,fz,J,O,Y,Z,h5,h6⟩
 ·exact .inl h
 ·exact .inr ⟨b,off,cap,arr,T,fz,J,O,Y,I _ _ Z,h5,λk e he=>let ⟨cs,a,b⟩:=h6 k e he; ⟨cs,aG.mono I a,b⟩⟩
instance {α:Type}[aG α]:aG (List α) where
 sz:=1
 E H cs xs:=∃ v,cs=[v]/\aO H v xs
 len h:=by obtain ⟨v,rfl,_⟩:=h; rfl
 mono hle h:=by obtain ⟨v,e,I⟩:=h; exact ⟨v,e,I.mono hle⟩
 one h c hc:=by
  obtain ⟨v,rfl,I⟩:=h;simp at hc; subst hc
  rcases I with ⟨⟨a,rfl⟩,_⟩ | ⟨b,off,cap,arr,T,fz,rfl,_⟩ <;> rfl
def Value.base:Q2->Addr
 | .slice (some a) _ _=>a
 | _=>⟨0,0,none⟩
def Value.ob:Q2->Nat
 | .slice _ _ c=>c
 | _=>0
theorem aO.len {α:Type}[aG α] {H:Hp}{v:Q2}{xs:List α} (h:aO H v xs):∃ a c,v=.slice a xs.length c/\xs.length<=c/\c<=maxLen:=by
 rcases h with ⟨⟨a,rfl⟩,rfl⟩ | ⟨b,off,cap,arr,T,fz,rfl,I,J,_⟩
 ·exact ⟨a,0,rfl,Rq _,by unfold maxLen; omega⟩
 ·exact ⟨_,cap,rfl,I,J⟩
theorem aO.val {α:Type}[aG α] {H:Hp}{v:Q2}{xs:List α} (h:aO H v xs) {k:Nat}{e:α} (he:xs[k]? = some e):v=.slice (some (Value.base v)) xs.length (Value.ob v):=by
 rcases h with ⟨⟨a,rfl⟩,rfl⟩ | ⟨b,off,cap,arr,T,fz,rfl,_⟩
 ·simp at he
 ·rfl
theorem aO.elem {α:Type}[aG α] {H:Hp}{v:Q2}{xs:List α} (h:aO H v xs) {k:Nat}{e:α} (he:xs[k]? = some e):
  ∃ cs,aG.E H cs e/\iE H ((Value.base v).add (k*aG.sz α)) cs:=by
 rcases h with ⟨⟨a,rfl⟩,rfl⟩ | ⟨b,off,cap,arr,T,fz,rfl,h2,h3,I,h5,J⟩
 ·simp at he
 ·obtain ⟨cs,O,Y⟩:=J k e he
  refine ⟨cs,O,λj c Z=>⟨arr,T,fz,?_,?_,?_⟩⟩
  ·simp only [Value.base,Sf]; exact I
  ·simp only [Value.base,Sf]
  ·simp only [Value.base,Sf]; exact Y j c Z
section
variable {x:Cx}{ops:Array Oper}{Q:lG}{rest:List Oper}{H:Hp}{M M':List bQ}{L L':Env}
variable {d:Nat}{ty:TypeId}{pos:String}{aft:Array Edge}{g:Option (Nat×Bool)}
theorem ET {α:Type}[aG α] {t e:TypeId}{y z:Operand}{v:Q2}{xs:List α}{el:α}{kk:IntKind}{i:Int} (O:gd ops L ⟨some d,.indexAddr t y z,ty,pos,aft,g⟩=some true) (hN:Nat.blt d x.N=true)
  (J:∀ w,(underlying t).run x.P w=.ok (.slice e) w) (hs:∀ w,(sizeOf e).run x.P w=.ok (aG.sz α) w)
  (Y:ev L y=some v) (hR:aO H v xs) (Z:ev L z=some (.int kk i)) (I:0<=i) (he:xs[i.toNat]? = some el)
  (k:W x ops Q rest H M ((d,.pointer (some ((Value.base v).add (i.toNat*aG.sz α))))::L)):
  W x ops Q (⟨some d,.indexAddr t y z,ty,pos,aft,g⟩::rest) H M L:=
 JE O hN J hs (by rw [Y,<- hR.val he]) Z I (by rcases Q7.1 he with ⟨h,_⟩; exact h) k
theorem JG {α:Type}[aG α] {t e:TypeId}{y:Operand}{v:Q2}{xs:List α} (J:gd ops L ⟨some d,.call ⟨.builtin .len,#[y],#[t]⟩,ty,pos,aft,g⟩=some true) (hN:Nat.blt d x.N=true)
  (I:∀ w,(underlying t).run x.P w=.ok (.slice e) w) (O:ev L y=some v) (hR:aO H v xs) (k:W x ops Q rest H M ((d,.int .i64 xs.length)::L)):
  W x ops Q (⟨some d,.call ⟨.builtin .len,#[y],#[t]⟩,ty,pos,aft,g⟩::rest) H M L:=by
 obtain ⟨a,c,rfl,_⟩:=hR.len;exact DL J hN I O k
end
def over (l:List Q2) (k:Nat):List Q2->List Q2
 | []=>l
 | v::vs=>over (l.set k v) (k+1) vs
theorem pL (vs:List Q2):∀ (l:List Q2) (k:Nat),(over l k vs).length=l.length:=by
 induction vs with
 | nil=>intro l k; rfl
 | cons v vs ih=>intro l k; simp [over,ih]
theorem kG {P:Program} (b o:Nat) (T:TypeId):∀ (vs:List Q2) (i:Nat) (l:List Q2) (w:World),w.heap[b]? = some (.cells l.toArray T (0,0)) ->
  o+i+vs.length<=l.length->(∀ v ∈ vs,v.oneCell'=true) ->
  ∃ O,(storeCells ⟨b,o,none⟩ vs i).run P w=.ok () O/\O.heap[b]? = some (.cells (over l (o+i) vs).toArray T (0,0))/\w.grownBy O (some b)
 | [],i,l,w,h,_,_=>⟨w,rfl,h,⟨rfl,rfl,rfl,Rq _,λ_ _ _=>rfl⟩⟩
 | v::vs,i,l,w,h,hb,h1=>by
  have Y:o+i<l.length:=by simp at hb; omega
  have hc:w.cell? ⟨b,o+i,none⟩=some l[o+i]:=Vw (w:=w) (ad:=⟨b,o+i,none⟩) h rfl (by simp [Y])
  have hf:w.frozen? ⟨b,o+i,none⟩=false:=by simp [World.frozen?,h]
  have Z:(w.setCell ⟨b,o+i,none⟩ v).heap[b]? = some (.cells (l.set (o+i) v).toArray T (0,0)):=by
   simp [World.setCell,Vr,h]
  obtain ⟨O,hr,hh,I⟩:=kG (P:=P) b o T vs (i+1) (l.set (o+i) v) (w.setCell ⟨b,o+i,none⟩ v) Z (by simp at hb ⊢; omega) (λu hu=>h1 u (Rc _ hu))
  refine ⟨O,?_,?_,?_⟩
  ·have hv:=h1 v (Q9 ..)
   simp only [storeCells,Rj,store,Sf];have:(Sem.store Mode.plain ⟨b,o+i,none⟩ v (Sem.pure ())).run P w=.ok () (w.setCell ⟨b,o+i,none⟩ v):=by
    cases v <;> first
     | (simp [Sem.run,hc,hf]; done)
     | simp [Value.oneCell'] at hv
   rw [this];simpa using hr
  ·simpa [over,Tv] using hh
  ·exact ⟨I.os,I.tape,I.output,by have:=I.size; simpa [World.setCell] using this,λk hk J=>by
    rw [I.block k (by simpa [World.setCell] using hk) J]
    exact Below.heap_setCell _ _ _ _ (by intro e; subst e; exact J rfl)⟩
section
variable {x:Cx}{ops:Array Oper}{Q:lG}{rest:List Oper}{H:Hp}{M M':List bQ}{L L':Env}
variable {ty:TypeId}{pos:String}{aft:Array Edge}{g:Option (Nat×Bool)}
theorem DO {T E:TypeId}{n:Nat}{y z:Operand}{b o:Nat}{l cs out:List Q2}{v:Q2} (hg:gd ops L ⟨none,.store T y z,ty,pos,aft,g⟩=some true)
  (hn:∀ w,(sizeOf T).run x.P w=.ok n w) (hy:ev L y=some (.pointer (some ⟨b,o,none⟩))) (hz:ev L z=some v) (hv:v.cells=cs.toArray) (hl:cs.length=n)
  (Y:Nat.ble (o+cs.length) l.length=true) (O:∀ c ∈ cs,c.oneCell'=true) (ho:over l o cs=out)
  (k:W x ops Q rest H (.obj b (.cells out.toArray E (0,0))::M) L):
  W x ops Q (⟨none,.store T y z,ty,pos,aft,g⟩::rest) H (.obj b (.cells l.toArray E (0,0))::M) L:=
 DN rfl hg (λa w hs ht=>by
  subst ho;have J:=ht.wA (Q9 ..);obtain ⟨w',hr,hh,I⟩:=kG (P:=x.P) b o E cs 0 l w J (by simpa [TN] using Y) O
  refine ⟨w',?_,H,_,ht.EJ (r':=.obj b (.cells (over l o cs).toArray E (0,0))) I hh (λc Z=>.inl Z),k⟩;simp [execOp,hs.ev hy,hs.ev hz,Instr.storeAt,Instr.sureAddr,storeVar,hn,hl,hv,hr])
end
theorem least {p:Nat->Prop}:∀ n,p n->∃ m,p m/\∀ k,p k->m<=k:=by
 intro n
 induction n using Nat.strongRecOn with
 | _ n ih=>
  intro h
  by_cases I:∃ m,m<n/\p m
  ·obtain ⟨m,hm,O⟩:=I; exact ih m hm O
  ·exact ⟨n,h,λk J=>by
    by_cases e:k<n
    ·exact absurd ⟨k,e,J⟩ I
    ·omega⟩
theorem Lu {P:Program}{Q:lG}{c:Code} (J:Nat->Act->World->Prop) {n:Nat}{a:Act}{w:World} (h0:J n a w)
  (I:∀ n a w,J n a w->c.wp P (Exit.then (λY w'=>∃ m,m<n/\J m Y w') Q) a w):(Code.loop c).wp P Q a w:=by
 have hex:∀ a w,(∃ n,J n a w)->∃ m,J m a w/\∀ k,J k a w->m<=k:=λa w ⟨n,h⟩=>least n h
 let μ:Act->World->Nat:=λa w=>Classical.epsilon (λm=>J m a w/\∀ k,J k a w->m<=k)
 have O:∀ a w,(∃ n,J n a w)->J (μ a w) a w/\∀ k,J k a w->μ a w<=k:=λa w h=>Classical.epsilon_spec (p:=λm=>J m a w/\∀ k,J k a w->m<=k) (hex a w h);refine wp_loop (λa w=>∃ n,J n a w) μ ⟨n,h0⟩ λa w h=>?_;refine wp_mono (I (μ a w) a w (O a w h).1) ?_;intro e Y w' hq;cases e with
 | normal=>
  obtain ⟨m,hm,Z⟩:=hq;exact ⟨⟨m,Z⟩,T6 ((O Y w' ⟨m,Z⟩).2 m Z) hm⟩
 | _=>exact hq
abbrev De:=Nat->Hp->List bQ->Env->Prop
def Jn (x:Cx) (S:De) (n:Nat) (a:Act) (w:World):Prop:=
 ∃ m,m<n/\∃ H M L,S m H M L/\Sl x.N L a/\St x.B x.w0 H M w
theorem Bp {x:Cx}{c:Code}{Q:lG}{H:Hp}{M:List bQ}{L:Env} (S:De) (n:Nat) (I:S n H M L)
  (step:∀ n H M L,S n H M L->C x c (Exit.then (Jn x S n) Q) H M L):C x (.loop c) Q H M L:=by
 intro a w hs ht;refine Lu (λn a w=>∃ H M L,S n H M L/\Sl x.N L a/\St x.B x.w0 H M w) ⟨H,M,L,I,hs,ht⟩ ?_;intro n a w ⟨H,M,L,h,hs,ht⟩;exact step n H M L h a w hs ht
theorem w8 {x:Cx}{S:De}{Q:lG}{H:Hp}{M:List bQ}{L:Env}{n m:Nat} (hm:m<n) (h:S m H M L):E x .normal (Exit.then (Jn x S n) Q) H M L:=
 λ_ _ hs ht=>⟨m,hm,H,M,L,h,hs,ht⟩
section
variable {x:Cx}{Q:lG}{H:Hp}{M:List bQ}{L:Env}{K:Act->World->Prop}
theorem iW (h:E x .ret Q H M L):E x .ret (Exit.then K Q) H M L:=h
theorem tX {id:Nat} (h:E x .ret Q H M L):E x .ret (Exit.inBlock id Q) H M L:=h
theorem gI {id:Nat} (h:E x (.exit id) Q H M L):E x (.exit id) (Exit.then K Q) H M L:=h
theorem nN {id:Nat} (h:E x .normal Q H M L):E x (.exit id) (Exit.inBlock id Q) H M L:=λa w hs ht=>by
 simp only [Exit.inBlock,UM]; exact h a w hs ht
theorem tW {id I:Nat} (J:Nat.beq id I=false) (h:E x (.exit id) Q H M L):E x (.exit id) (Exit.inBlock I Q) H M L:=λa w hs ht=>by
 have:¬ id=I:=λe=>by subst e; simp at J
 simp only [Exit.inBlock,Ra this]; exact h a w hs ht
theorem mn {id:Nat} (h:E x .normal Q H M L):E x .normal (Exit.inBlock id Q) H M L:=h
end
abbrev OO:=Hp->List bQ->Env->Prop
theorem sk {x:Cx}{c d:Code}{Q:lG}{H:Hp}{M:List bQ}{L:Env} (S:OO) (rest:∀ H M L,S H M L->C x d Q H M L)
  (k:(∀ H M L,S H M L->E x .normal (Exit.then (d.wp x.P Q) Q) H M L)->C x c (Exit.then (d.wp x.P Q) Q) H M L):C x (.seq c d) Q H M L:=
 bI (k λH M L h=>aQ (rest H M L h))
theorem fK {α:Type}{xs ys:List α}{k:Nat} (h:xs.drop k=ys) (J:decide ((k:Int)<(xs.length:Int))=true):
  ∃ y zs,ys=y::zs/\xs[k]? = some y/\xs.drop (k+1)=zs:=by
 have I:k<xs.length:=by have:=Q_ J; omega
 refine ⟨xs[k],xs.drop (k+1),?_,Q4 I,rfl⟩;rw [<- h,RK I]
theorem fJ {α:Type}{xs ys:List α}{k:Nat} (h:xs.drop k=ys) (I:decide ((k:Int)<(xs.length:Int))=false):ys=[]:=by
 have J:xs.length<=k:=by have:=Rf I; omega
 rw [<- h,List.drop_eq_nil_of_le J]
theorem yd {n:Int} (I:-9223372036854775808<=n) (J:n<=9223372036854775807):i64.wrap n=n:=by
 simp only [IntKind.wrap,IntKind.bits,IntKind.signed,Bool.true_and]
 split <;> rename_i h <;> simp at h <;> omega
theorem cA {α:Type}{xs:List α}{k:Nat}{y:α} (h:xs[k]? = some y) (hl:xs.length<=maxLen):i64.wrap ((k:Int)+1)=((k+1:Nat):Int):=by
 have I:=(Q7.1 h).1;unfold maxLen at hl;rw [yd (by omega) (by omega)]; rfl
theorem eI {k n:Nat} (h:k<n) (hl:n<=maxLen):i64.wrap ((k:Int)+1)=((k+1:Nat):Int):=by
 unfold maxLen at hl;rw [yd (by omega) (by omega)]; rfl
theorem aO.cZ {α:Type}[aG α] {H:Hp}{v:Q2}{xs:List α} (h:aO H v xs):xs.length<=maxLen:=by
 obtain ⟨a,c,_,I,J⟩:=h.len; omega
def Dl:Nat->List Q2->Env
 | _,[]=>[]
 | i,v::vs=>(i,v)::Dl (i+1) vs
theorem IH (N:Nat):∀ (vs:List Q2) (i:Nat) (t:Nat) (v:Q2) (pre:List Q2),pre.length=i->lk (Dl i vs) t=some v ->
  ((pre++vs).toArray++Array.replicate (N-(pre++vs).length) undef)[t]? = some v:=by
 intro vs
 induction vs with
 | nil=>intro i t v pre _ h; simp [Dl,lk] at h
 | cons u vs ih=>
  intro i t v pre I h;simp only [Dl,tR] at h
  split at h
  ·rename_i e; subst e; cases h
   simp [Array.getElem?_append,<- I]
  ·have:=ih (i+1) t v (pre++[u]) (by simp [I]) h
   simpa using this
theorem enter {P:Program}{f:FuncId}{fn:Func}{c:Code}{vs:List Q2}{N B:Nat}{w0 w:World}{H:Hp}{M:List bQ}{Φ:Hp->List bQ->Q2->Prop}
  (O:P.funcs[f]? = some fn) (J:fn.body=some c) (hN:fn.ntmps=N) (I:Nat.ble vs.length N=true) (ht:St B w0 H M w)
  (k:C ⟨P,N,B,w0⟩ c (bodyPost P fn (uC B w0 Φ)) H M (Dl 0 vs)):Calls P f vs.toArray w (uC B w0 Φ):=by
 refine calls_of_wp O J (k _ w ⟨?_,rfl,?_⟩ ht)
 ·have:vs.length<=N:=by simpa [TN] using I
  simp [hN]; omega
 ·intro t v h
  have:=IH N vs 0 t v [] rfl h;simpa [hN] using this
section
variable {P:Program}{N B:Nat}{w0:World}{fn:Func}{Φ:Hp->List bQ->Q2->Prop}{H:Hp}{M:List bQ}{L:Env}
theorem lL {t:Nat}{v:Q2} (I:fn.results=#[.tmp t]) (hl:lk L t=some v) (h:Φ H M v):E ⟨P,N,B,w0⟩ .ret (bodyPost P fn (uC B w0 Φ)) H M L:=
 λa w hs ht=>⟨hs.Fa,v,by rw [results_tmp I]; simp [RW,hs.get t v hl],H,M,ht,h⟩
theorem C4 {t u:Nat}{v1 v2:Q2} (J:fn.results=#[.tmp t,.tmp u]) (hl:lk L t=some v1) (I:lk L u=some v2) (h:Φ H M (.tuple #[v1,v2])):E ⟨P,N,B,w0⟩ .ret (bodyPost P fn (uC B w0 Φ)) H M L:=
 λa w hs ht=>⟨hs.Fa,.tuple #[v1,v2],by rw [results_tmp2 J]; simp [RW,hs.get t v1 hl,hs.get u v2 I],H,M,ht,h⟩
end
section
variable {α σ R:Type}
def idx (l:List α) (i:Int) (k:α->Option R):Option R:=
 if 0<=i then match l[i.toNat]? with
  | some y=>k y
  | none=>none
 else none
theorem aC {l:List α}{i:Int}{k:α->Option R}{r:R} (h:idx l i k=some r):∃ y,0<=i/\l[i.toNat]? = some y/\k y=some r:=by
 unfold idx at h
 split at h
 ·cases hl:l[i.toNat]? with
  | none=>rw [hl] at h; cases h
  | some y=>rw [hl] at h; exact ⟨y,‹_›,rfl,h⟩
 ·cases h
def cK (p:Prop) [Decidable p] (k:Option R):Option R:=if p then k else none
theorem aI {p:Prop}[Decidable p] {k:Option R}{r:R} (h:cK p k=some r):p/\k=some r:=by
 unfold cK at h
 split at h
 ·exact ⟨‹_›,h⟩
 ·cases h
theorem aT {o:Option α}{k:α->Option R}{r:R} (h:o.bind k=some r):∃ y,o=some y/\k y=some r:=by
 cases o with
 | none=>cases h
 | some y=>exact ⟨y,rfl,h⟩
def dM (I:Nat->α->σ->(σ->Option R)->Option R) (k:σ->Option R):Nat->List α->σ->Option R
 | _,[],s=>k s
 | i,y::ys,s=>I i y s (dM I k (i+1) ys)
def jW (I:Nat->σ->(σ->Option R)->Option R) (k:σ->Option R):Nat->Nat->σ->Option R
 | 0,_,s=>k s
 | n+1,i,s=>I i s (jW I k n (i+1))
def fX (I:σ->(σ->Option R)->Option R):Nat->σ->Option R
 | 0,_=>none
 | n+1,s=>I s (fX I n)
def eY:Nat:=1152921504606846976
end
theorem Aw (X Y:Env) (t:Nat):lk (X++Y) t=(lk X t).or (lk Y t):=by
 induction X with
 | nil=>simp [lk]
 | cons p X ih=>
  obtain ⟨u,v⟩:=p;simp only [S5,tR]
  split <;> simp [ih]
theorem GC {X:Env}{t:Nat}{v:Q2} (h:lk X t=some v):(t,v) ∈ X:=by
 induction X with
 | nil=>simp [lk] at h
 | cons p X ih=>
  obtain ⟨u,w⟩:=p;rw [tR] at h
  split at h
  ·rename_i e; subst e; cases h; exact Q9 ..
  ·exact Rc _ (ih h)
theorem Sl.more {N:Nat}{L X:Env}{a:Act} (h:Sl N L a) (I:∀ t v,(t,v) ∈ X->a.tmps[t]? = some v):Sl N (L++X) a:=
 ⟨h.size,h.Fa,λt v ht=>by
  rw [Aw] at ht;cases hl:lk L t with
  | some u=>rw [hl] at ht; simp at ht; subst ht; exact h.get t _ hl
  | none=>rw [hl] at ht; simp at ht; exact I t v (GC ht)⟩
theorem Sl.cons {N:Nat}{L:Env}{a:Act}{t:Nat}{v:Q2} (h:Sl N L a) (J:a.tmps[t]? = some v):Sl N ((t,v)::L) a:=
 ⟨h.size,h.Fa,λu w I=>by
  rw [tR] at I
  split at I
  ·rename_i e; subst e; cases I; exact J
  ·exact h.get u w I⟩
theorem Sl.left {N:Nat}{L X:Env}{a:Act} (h:Sl N (L++X) a):Sl N L a:=
 ⟨h.size,h.Fa,λt v ht=>h.get t v (by rw [Aw,ht]; rfl)⟩
def iN (o:Oper):List Nat:=(o.after.toList.filter λe=>Region.binds .any e).map (·.on)
def LD (l:List Oper) (Φ:Nat->Hp->Q2->Prop) (H:Hp):List Nat->Env->(Env->Prop)->Prop
 | [],L,k=>k L
 | j::I,L,k=>match (l[j]?).bind (·.dst) with
  | some t=>∀ v,Φ j H v->LD l Φ H I ((t,v)::L) k
  | none=>LD l Φ H I L k
def One (x:Cx) (H:Hp) (M:List bQ) (L:Env) (t:Nat) (I:Hp->Q2->Prop):lG:=λe a w=>
 e=.normal/\∃ v H',Sl x.N ((t,v)::L) a/\H.le H'/\St x.B x.w0 H' M w/\I H' v
def LF (x:Cx) (l:List Oper) (Φ:Nat->Hp->Q2->Prop) (H:Hp) (M:List bQ) (L:Env):Nat->List Oper->Prop
 | _,[]=>True
 | i,o::r=>(∀ H',H.le H'->∀ X,LD l Φ H' (iN o) (L++X) (λL'=>W x l.toArray (One x H' M L' (o.dst.getD 0) (Φ i)) [o] H' M L'))/\LF x l Φ H M L (i+1) r
theorem LF.at {x:Cx}{l:List Oper}{Φ:Nat->Hp->Q2->Prop}{H:Hp}{M:List bQ}{L:Env}:∀ {r:List Oper}{i:Nat},LF x l Φ H M L i r->∀ j o,r[j]? = some o ->
  ∀ H',H.le H'->∀ X,LD l Φ H' (iN o) (L++X) (λL'=>W x l.toArray (One x H' M L' (o.dst.getD 0) (Φ (i+j))) [o] H' M L')
 | [],_,_,j,o,h=>by simp at h
 | p::r,i,hh,0,o,h=>by simp at h; subst h; exact hh.1
 | p::r,i,hh,j+1,o,h=>by
  have:=LF.at hh.2 j o (by simpa using h)
  rwa [show i+1+j=i+(j+1) from by omega] at this
theorem LD.use {l:List Oper}{Φ:Nat->Hp->Q2->Prop}{H:Hp}{a:Act}{N:Nat}:∀ {J:List Nat}{L:Env}{k:Env->Prop},LD l Φ H J L k->Sl N L a ->
  (∀ j ∈ J,∀ t,(l[j]?).bind (·.dst)=some t->∃ v,a.tmps[t]? = some v/\Φ j H v)->∃ Y,k (Y++L)/\Sl N (Y++L) a/\∀ t v,(t,v) ∈ Y->a.tmps[t]? = some v
 | [],L,k,h,hs,_=>⟨[],h,hs,by simp⟩
 | j::J,L,k,h,hs,hv=>by
  unfold LD at h;cases I:(l[j]?).bind (·.dst) with
  | none=>
   rw [I] at h;exact LD.use h hs (λi hi=>hv i (Rc _ hi))
  | some t=>
   rw [I] at h;obtain ⟨v,O,Z⟩:=hv j (Q9 ..) t I;obtain ⟨Y,h3,h4,h5⟩:=LD.use (h v Z) (hs.cons O) (λi hi=>hv i (Rc _ hi));refine ⟨Y++[(t,v)],by simpa using h3,by simpa using h4,?_⟩
   intro u w hm;rcases Rh.1 hm with hm | hm
   ·exact h5 u w hm
   ·simp at hm; obtain ⟨rfl,rfl⟩:=hm; exact O
theorem mem_ready {I:Array Oper}{listed:Array Bool}{i:Nat}:i ∈ Region.ready .any I listed↔i<I.size/\listed.getD i true=false/\∃ o,I[i]? = some o/\∀ j ∈ iN o,listed.getD j false=true:=by
 unfold Region.ready iN;simp only [Sg,R5,SK,Vk];refine and_congr_right λhi=>and_congr_right λ_=>?_;have:I[i]? = some I[i]:=TS hi;simp only [this,SC,S9,Array.all_eq_true',Rp,RY,Sg,Array.mem_toList_iff,SP,Vk];constructor
 ·intro h
  refine ⟨_,rfl,?_⟩;rintro j ⟨e,⟨he,J⟩,rfl⟩;rcases h e he with h | h
  ·rw [h] at J; cases J
  ·exact h
 ·rintro ⟨o,rfl,h⟩ e he
  cases J:Region.binds .any e with
  | false=>exact .inl rfl
  | true=>exact .inr (h _ ⟨e,⟨he,J⟩,rfl⟩)
section
variable {x:Cx}{l:List Oper}{m:Nat}{Φ:Nat->Hp->Q2->Prop}{H:Hp}{M:List bQ}{L:Env}{Q:lG}
theorem vc (b:Array Bool) (i j:Nat) (d:Bool) (hi:i<b.size):(b.setIfInBounds i true).getD j d=if j=i then true else b.getD j d:=by
 simp only [RW,UI]
 by_cases e:i=j
 ·subst e; simp [hi]
 ·simp [e,Ne.symm e]
def left (l:List Oper) (listed:Array Bool):Nat:=(List.range l.length).countP λi=>!listed.getD i true
theorem KF {listed:Array Bool}{i:Nat} (Y:listed.size=l.length) (hi:i<l.length) (hl:listed.getD i true=false):left l (listed.setIfInBounds i true)+1=left l listed:=by
 unfold left;have key:∀ n,i<n->n<=l.length->(List.range n).countP (λj=>!(listed.setIfInBounds i true).getD j true)+1=(List.range n).countP (λj=>!listed.getD j true):=by
  intro n
  induction n with
  | zero=>omega
  | succ n ih=>
   intro Z h2;rw [Uw,List.countP_append,List.countP_append]
   by_cases e:i=n
   ·subst e
    have:∀ n,n<=i->(List.range n).countP (λj=>!(listed.setIfInBounds i true).getD j true)=(List.range n).countP (λj=>!listed.getD j true):=by
     intro n hn;refine List.countP_congr λj J=>?_;have O:=R5.1 J;rw [vc _ _ _ _ (by omega),Ra (by omega)]
    rw [this i (Rq _)];simp only [List.countP_cons,List.countP_nil,vc _ _ _ _ (by omega:i<listed.size),hl,UM]
    simp
   ·have:=ih (by omega) (by omega)
    have I:(listed.setIfInBounds i true).getD n true=listed.getD n true:=by rw [vc _ _ _ _ (by omega),Ra (by omega)]
    simp only [List.countP_cons,List.countP_nil,I];omega
 exact key l.length hi (Rq _)
end
structure U8 where
 n:Int
 deriving DecidableEq
structure PK where
 n:Int
 deriving DecidableEq
structure bT where
 n:Int
 deriving DecidableEq
structure PL where
 n:Int
 deriving DecidableEq
structure PI where
 n:Int
 deriving DecidableEq
instance:aG U8 where
 sz:=1
 E _ cs x:=cs=[.int .u8 x.n]
 len h:=by rw [h]; rfl
 mono _ h:=h
 one h c hc:=by rw [h] at hc; simp at hc; subst hc; rfl
instance:aG PK where
 sz:=1
 E _ cs x:=cs=[.int .u16 x.n]
 len h:=by rw [h]; rfl
 mono _ h:=h
 one h c hc:=by rw [h] at hc; simp at hc; subst hc; rfl
instance:aG bT where
 sz:=1
 E _ cs x:=cs=[.int .u32 x.n]
 len h:=by rw [h]; rfl
 mono _ h:=h
 one h c hc:=by rw [h] at hc; simp at hc; subst hc; rfl
instance:aG PL where
 sz:=1
 E _ cs x:=cs=[.int .u64 x.n]
 len h:=by rw [h]; rfl
 mono _ h:=h
 one h c hc:=by rw [h] at hc; simp at hc; subst hc; rfl
instance:aG PI where
 sz:=1
 E _ cs x:=cs=[.int .i32 x.n]
 len h:=by rw [h]; rfl
 mono _ h:=h
 one h c hc:=by rw [h] at hc; simp at hc; subst hc; rfl
theorem aO.nil {α:Type}[aG α] {H:Hp}:aO H (.slice none 0 0) ([]:List α):=.inl ⟨⟨_,rfl⟩,rfl⟩
theorem aO.cells {α:Type}[aG α] {H:Hp}{v:Q2}{xs:List α} (h:aO H v xs):v.cells=[v].toArray:=by
 obtain ⟨a,c,rfl,_⟩:=h.len; rfl
theorem aO.oW {α:Type}[aG α] {H:Hp}{v:Q2}{xs:List α} (h:aO H v xs):v.oneCell'=true:=by
 obtain ⟨a,c,rfl,_⟩:=h.len; rfl
theorem SN:∀ c ∈ ([]:List Q2),c.oneCell'=true:=by intro c I; cases I
theorem bP {v:Q2}{l:List Q2} (h:v.oneCell'=true) (k:∀ c ∈ l,c.oneCell'=true):∀ c ∈ v::l,c.oneCell'=true:=by
 intro c I;rcases RU.1 I with rfl | I
 ·exact h
 ·exact k c I
theorem iE.one {H:Hp}{ad:Addr}{cs:List Q2} (h:iE H ad cs) (j:Nat) {c:Q2} (I:cs[j]? = some c):Bu H (ad.add j) c:=h j c I
theorem iE.part {H:Hp}{ad:Addr}{cs I:List Q2}{k:Nat} (h:iE H ad cs) (Z:(cs.drop k).take I.length=I):iE H (ad.add k) I:=by
 intro j c J;have hj:j<I.length:=(Q7.1 J).1;have:cs[k+j]? = some c:=by
  rw [<- Z,RX,Rb hj,RT] at J; exact J
 have:=h (k+j) c this;have e:(ad.add k).add j=ad.add (k+j):=by
  unfold Addr.add
  by_cases O:k=0
  ·subst O; simp
  ·by_cases Y:j=0
   ·subst Y; simp
   ·simp [O,Y,Tv]
 rw [e]; exact this
theorem r8 {x:Cx}{H:Hp}{M:List bQ}{b k:Nat}{l I:List Q2}{T:TypeId}{fz:Nat×Nat}
  (hm:bQ.obj b (.cells l.toArray T fz) ∈ M) (O:(l.drop k).take I.length=I):zv x H M ⟨b,k,none⟩ I:=by
 intro j c J;have Y:j<I.length:=(Q7.1 J).1;rw [Sf];refine wB hm ?_;rw [<- O,RX,Rb Y,RT] at J; exact J
theorem DD {x:Cx}{e:Exit}{Q:lG}{H:Hp}{M M':List bQ}{L L':Env} (k:E x e Q H M' L') (I:M.Perm M') (hL:Kept L L'):E x e Q H M L:=DC hL I k
theorem eG {α:Type}{b:Bool}{p q r:α} (I:b=true) (h:(if b=true then p else q)=r):p=r:=by rw [Rb I] at h; exact h
theorem eF {α:Type}{b:Bool}{p q r:α} (I:b=false) (h:(if b=true then p else q)=r):q=r:=by rw [Ra (by simp [I])] at h; exact h
section
variable {P:Program}{N B:Nat}{w0:World}{fn:Func}{H H0:Hp}{M:List bQ}{L:Env}
end
def qq {α:Type}[aG α] (H:Hp):List Q2->List α->Prop
 | cs,[]=>cs=[]
 | cs,y::ys=>∃ c r,cs=c++r/\aG.E H c y/\qq H r ys
section
variable {α:Type}[aG α] {H H':Hp}
theorem qq.nil:qq H [] ([]:List α):=rfl
theorem qq.cons {c r:List Q2}{y:α}{ys:List α} (h:aG.E H c y) (k:qq H r ys):qq H (c++r) (y::ys):=⟨c,r,rfl,h,k⟩
theorem qq.mono (I:H.le H'):∀ {cs:List Q2}{ys:List α},qq H cs ys->qq H' cs ys
 | _,[],h=>h
 | _,_::_,⟨c,r,e,h,k⟩=>⟨c,r,e,aG.mono I h,qq.mono I k⟩
theorem qq.len:∀ {cs:List Q2}{ys:List α},qq H cs ys->cs.length=ys.length*aG.sz α
 | _,[],h=>by rw [show _=[] from h]; simp
 | _,_::ys,⟨c,r,e,h,k⟩=>by rw [e,Ro,aG.len h,qq.len k,Rd,Ru]; omega
theorem qq.app:∀ {cs I:List Q2}{ys zs:List α},qq H cs ys->qq H I zs->qq H (cs++I) (ys++zs)
 | _,I,[],zs,h,k=>by rw [show _=[] from h]; simpa using k
 | _,I,y::ys,zs,⟨c,r,e,h,k⟩,k2=>⟨c,r++I,by rw [e,RG],h,qq.app k k2⟩
theorem qq.one:∀ {cs:List Q2}{ys:List α},qq H cs ys->∀ c ∈ cs,c.oneCell'=true
 | _,[],h=>by rw [show _=[] from h]; simp
 | _,_::_,⟨c,r,e,h,k⟩=>by
  intro d I;rw [e] at I;rcases Rh.1 I with I | I
  ·exact aG.one h d I
  ·exact qq.one k d I
theorem qq.get:∀ {cs:List Q2}{ys:List α},qq H cs ys->∀ k e,ys[k]? = some e->∃ c,aG.E H c e/\∀ j v,c[j]? = some v->cs[k*aG.sz α+j]? = some v
 | _,[],h,k,e,he=>by simp at he
 | _,y::ys,⟨c,r,e,h,k⟩,0,x,hx=>by
  simp at hx; subst hx
  exact ⟨c,h,λj v I=>by rw [e,SI,Rv,Sk (Q7.1 I).1]; exact I⟩
 | _,y::ys,⟨c,r,e,h,k⟩,n+1,x,hx=>by
  obtain ⟨d,J,O⟩:=qq.get k n x (by simpa using hx)
  refine ⟨d,J,λj v I=>?_⟩;rw [e,RN (by rw [aG.len h,Ru]; omega),aG.len h]
  rw [show (n+1)*aG.sz α+j-aG.sz α=n*aG.sz α+j from by rw [Ru]; omega]
  exact O j v I
theorem qq.split:∀ {cs:List Q2}{ys:List α} (k:Nat),qq H cs ys->qq H (cs.take (k*aG.sz α)) (ys.take k)/\qq H (cs.drop (k*aG.sz α)) (ys.drop k)
 | cs,ys,0,h=>by rw [SI]; exact ⟨rfl,h⟩
 | _,[],k+1,h=>by rw [show _=[] from h,List.take_nil,List.drop_nil,List.take_nil,List.drop_nil]; exact ⟨rfl,rfl⟩
 | _,y::ys,k+1,⟨c,r,e,h,k2⟩=>by
  obtain ⟨J,O⟩:=qq.split k k2;have hl:=aG.len h;subst e;have I:(k+1)*aG.sz α=c.length+k*aG.sz α:=by rw [Ru,hl]; omega
  rw [I,List.take_length_add_append,List.drop_length_add_append];exact ⟨⟨c,_,rfl,h,J⟩,O⟩
theorem qq.put {cs c:List Q2}{ys:List α}{y:α}{k:Nat} (h:qq H cs ys) (O:k<ys.length) (Y:aG.E H c y):
  qq H (cs.take (k*aG.sz α)++c++cs.drop ((k+1)*aG.sz α)) (ys.set k y):=by
 obtain ⟨I,_⟩:=h.split k;obtain ⟨_,J⟩:=h.split (k+1);have:ys.set k y=ys.take k++y::ys.drop (k+1):=by rw [Uf,Rb O]
 rw [this,RG];exact I.app (qq.cons Y J)
theorem aO.flat {v : Q2} {ys : List α} (h : aO H v ys) : ∃ cs, qq H cs ys ∧ ((∃ a, v = .slice a 0 0) ∧ ys = [] ∨ iE H (Value.base v) cs ∧ ∃ b off c, v = .slice (some ⟨b, off, none⟩) ys.length c) := by
  rcases h with ⟨⟨a, rfl⟩, rfl⟩ | ⟨b, off, cap, arr, T, fz, rfl, h2, h3, h4, h5, h6⟩
  · exact ⟨[], qq.nil, .inl ⟨⟨a, rfl⟩, rfl⟩⟩
  · have key : ∀ (zs : List α) (k : Nat), (∀ j e, zs[j]? = some e → ∃ cs, aG.E H cs e ∧ ∀ i c, cs[i]? = some c → arr[off + (k + j) * aG.sz α + i]? = some c) →
        ∃ cs, qq H cs zs ∧ ∀ i c, cs[i]? = some c → arr[off + k * aG.sz α + i]? = some c := by
      intro zs
      induction zs with
      | nil => intro k _; exact ⟨[], qq.nil, by simp⟩
      | cons z zs ih =>
        intro k hz;obtain ⟨c, I, O⟩ := hz 0 z rfl;obtain ⟨r, hr, Z⟩ := ih (k + 1) (fun j e he => by
          obtain ⟨cs, q1, q2⟩ := hz (j + 1) e (by simpa using he)
          exact ⟨cs, q1, fun i c I => by rw [show k + 1 + j = k + (j + 1) from by omega]; exact q2 i c I⟩)
        refine ⟨c ++ r, qq.cons I hr, fun i d J => ?_⟩;rw [Tj] at J
        split at J
        · simpa using O i d J
        · rename_i hn
          have := Z _ d J;rw [aG.len I] at this hn;rw [show off + k * aG.sz α + i = off + (k + 1) * aG.sz α + (i - aG.sz α) from by rw [Ru]; omega]
          exact this
    obtain ⟨cs, Y, hh⟩ := key ys 0 (fun j e he => by simpa using h6 j e he)
    refine ⟨cs, Y, .inr ⟨fun i c I => ⟨arr, T, fz, ?_, ?_, ?_⟩, b, off, cap, rfl⟩⟩
    · simp only [Value.base, Sf]; exact h4
    · simp only [Value.base, Sf]
    · simp only [Value.base, Sf]; simpa using hh i c I
end
structure OF (P:Program) (T:TypeId) (sz bytes:Nat) (z:Q2):Prop where
 ex:∃ i,P.info? T=some i/\i.size=sz/\i.bytes=bytes/\i.zero=some z
theorem St.wI {α:Type}[aG α] {B:Nat}{w0 w:World}{H:Hp}{M:List bQ}{v:Q2}{T:TypeId}{n:Nat}{xs:List Q2}{ys:List α}
  (h:St B w0 H (.row v T (aG.sz α) n xs::M) w) (hx:qq H xs ys) (hs:0<aG.sz α):∃ H',H.le H'/\St B w0 H' M w/\aO H' v ys:=by
 have hok:=h.ok _ (Q9 ..);obtain ⟨hl,hh⟩:=hok;have hn:n=ys.length:=by
  have:=hx.len;rw [hl] at this;exact SU hs this
 subst hn;rcases hh with ⟨rfl,h0⟩ | ⟨g,off,cap,O,rfl,hg,hnc,Z,hcs,J⟩
 ·refine ⟨H,R8 _,h.tail,.inl ⟨⟨_,rfl⟩,RA h0⟩⟩
 ·have h':St B w0 H (.obj g (.cells O T (0,0))::M) w:=by
   refine ⟨h.below,h.le,h.uX,?_,?_,h.nd⟩
   ·intro r I
    rcases RU.1 I with rfl | I
    ·exact hg
    ·exact h.tail.ok r I
   ·intro r I
    rcases RU.1 I with rfl | I
    ·exact h.lo (.row _ T (aG.sz α) ys.length xs) (Q9 ..)
    ·exact h.tail.lo r I
  obtain ⟨Y,hst⟩:=h'.freeze;refine ⟨_,Y,hst,.inr ⟨g,off,cap,O,T,(0,0),rfl,hnc,Z,Hp.x9 _ _ _,hcs,?_⟩⟩;intro k e he;obtain ⟨c,h1,h2⟩:=(hx.mono Y).get k e he;refine ⟨c,h1,λj d hd=>?_⟩;have:=h2 j d hd;rw [<- J,RX] at this
  split at this
  ·rw [RT] at this; simpa [Tv] using this
  ·cases this
theorem xr:∀ (vs l:List Q2) (k:Nat),k+vs.length<=l.length->over l k vs=l.take k++vs++l.drop (k+vs.length)
 | [],l,k,_=>by simp [over]
 | v::vs,l,k,h=>by
  simp only [Rd] at h;rw [over,xr vs _ _ (by simp; omega)]
  have I:k<l.length:=by omega
  rw [RD (by simpa using I)]
  simp only [List.getElem_set_self,Rd];rw [TX (by omega),TG (by omega)]
  simp only [RG,S5,SJ];rw [show k+1+vs.length=k+(vs.length+1) from by omega]
theorem Eu {P:Program}{w:World}{t ty e:TypeId}{i:TypeInfo}{z:Q2}{size bytes:Nat} (ht:P.underlying t=some (.slice e)) (hi:P.info? e=some i) (hz:i.zero=some z)
  (hsize:i.size=size) (hby:i.bytes=bytes) (hzs:z.cells.size=size) (hsz:0<size)
  {v:Q2}{n:Nat}{xs:List Q2} (J:iQ w e size v n xs)
  {a:Addr}{m c:Nat}{news:List Q2} (hl:news.length=m*size) (O:∀ j u,news[j]? = some u->w.cell? (a.add j)=some u) (h1:∀ u ∈ news,u.oneCell'=true)
  (h63:n+m<=maxLen) (Z:(n+m)*bytes<=140737488355328):
  ∃ v' w',(Builtin.append_ #[t,t] ty #[v,.slice (some a) m c]).run P w=.ok v' w'/\iQ w' e size v' (n+m) (xs++news)/\w.grownBy w' v.ownBlock /\
   (∀ b,v'.ownBlock=some b->v.ownBlock=some b\/w.heap.size<=b):=by
 subst hsize;subst hby;have hsmall:n+m<=9223372036854775807:=by simp only [maxLen] at h63; omega
 have hlen:(xs++news).length=(n+m)*i.size:=by rw [Ro,J.1,hl,Ru]
 have grown:∀ (vC:Nat) (row:Option Nat),
   iQ (w.drew.alloc (.cells (xs.toArray++news.toArray++Builtin.zeroCells z.cells (grownCap w (n+m) vC e-(n+m))) e)) e i.size
    (.slice (some ⟨w.heap.size,0,none⟩) (n+m) (grownCap w (n+m) vC e)) (n+m) (xs++news) /\
   w.grownBy (w.drew.alloc (.cells (xs.toArray++news.toArray++Builtin.zeroCells z.cells (grownCap w (n+m) vC e-(n+m))) e)) row:=by
  intro vC row;have hge:=VM w (n+m) vC e;have hcm:grownCap w (n+m) vC e<=maxLen:=U_ w (n+m) vC e h63;refine ⟨⟨hlen,.inr ⟨w.heap.size,0,_,_,rfl,Vg w.drew _,hge,hcm,?_,?_⟩⟩,⟨rfl,rfl,rfl,by simp,λk hk _=>heap_alloc_old w.drew _ (h:=hk)⟩⟩
  ·simp only [Array.size_append,TC,size_zeroCells,hzs,J.1,hl,<- Ru,Rv]
   rw [show n+m+(grownCap w (n+m) vC e-(n+m))=grownCap w (n+m) vC e from by omega]
   exact Rq _
  ·simp only [Su,VE,RG]
   rw [<- RG,<- hlen];exact Ui
 rcases J.2 with ⟨rfl,rfl⟩ | ⟨g,off,cap,cur,rfl,hg,hnc,hcm,hcs,htake⟩
 ·have hx:xs=[]:=RA (by simpa using J.1)
  subst hx
  by_cases hm:m=0
  ·subst hm
   have hn:news=[]:=RA (by simpa using hl)
   subst hn;refine ⟨.slice none 0 0,w,?_,iQ.nil w e i.size,⟨rfl,rfl,rfl,Rq _,λ_ _ _=>rfl⟩,by simp [Value.ownBlock]⟩
   simp [Builtin.append_,SF ht,sizeOf,typeInfo,hi,Builtin.lenOf,Builtin.firstCells,loadCells,loadCellsFrom]
  ·have hr:=run_append_nil (P:=P) w t ty e i z ht hi hz a m c news hl O (by omega) (by omega) (by have hb:=Z; simp only [Rv] at hb; omega)
   have I:=grown 0 (Value.ownBlock (.slice none 0 0));simp only [Rv,SJ,Array.empty_append] at I ⊢;exact ⟨_,_,hr,I.1,I.2,λb hb=>.inr (by simp only [Value.ownBlock,Rp] at hb; omega)⟩
 ·by_cases Y:n+m<=cap
  ·have hfit:off+n*i.size+news.length<=cur.size:=by
    have:(n+m)*i.size<=cap*i.size:=Rl _ Y;rw [Ru] at this;omega
   have hf:=VJ (P:=P) w i.size m a m c news hl O;obtain ⟨w',hst,hh,I⟩:=kG (P:=P) g (off+n*i.size) e news 0 cur.toList w (by simpa using hg) (by simpa using hfit) h1
   refine ⟨.slice (some ⟨g,off,none⟩) (n+m) cap,w',?_,⟨hlen,.inr ⟨g,off,cap,_,rfl,hh,Y,hcm,?_,?_⟩⟩,I,λb hb=>.inl hb⟩
   ·simp [Builtin.append_,SF ht,sizeOf,typeInfo,hi,Builtin.lenOf,Y,hf,Sf,hst]
   ·simpa [pL] using hcs
   ·rw [TH,SH,xr _ _ _ (by simpa using hfit)]
    have hd:(cur.toList.take (off+n*i.size)).drop off=xs:=by rw [Ty,Ti]; exact htake
    rw [RG,Tr (by simp; omega),hd,<- RG,<- hlen]
    exact Ui
  ·have holds:∀ j u,xs[j]? = some u->w.cell? ((⟨g,off,none⟩:Addr).add j)=some u:=by
    intro j u hu;rw [Sf];refine Vw hg rfl ?_;rw [<- htake,RX] at hu
    split at hu
    ·rw [RT] at hu; simpa using hu
    ·cases hu
   have hr:=run_append_grow (P:=P) w t ty e i z ht hi hz ⟨g,off,none⟩ n cap xs J.1 holds a m c news hl O (by omega) (by omega) (VK (by omega) Z)
   have I:=grown cap (Value.ownBlock (.slice (some ⟨g,off,none⟩) n cap));exact ⟨_,_,hr,I.1,I.2,λb hb=>.inr (by simp only [Value.ownBlock,Rp] at hb; omega)⟩
section
variable {x:Cx}{ops:Array Oper}{Q:lG}{rest:List Oper}{H:Hp}{M M':List bQ}{L L':Env}
variable {d:Nat}{ty:TypeId}{pos:String}{aft:Array Edge}{g:Option (Nat×Bool)}
theorem cD {α:Type}[aG α] {v:Q2}{T:TypeId}{n:Nat}{xs:List Q2}{ys:List α} (Z:qq H xs ys) (hs:Nat.blt 0 (aG.sz α)=true)
  (k:∀ H',H.le H'->aO H' v ys->W x ops Q rest H' M L):W x ops Q rest H (.row v T (aG.sz α) n xs::M) L:=by
 intro a w I ht;obtain ⟨H',J,O,Y⟩:=ht.wI Z (by simpa [Sh] using hs)
 exact k H' J Y a w I O
theorem sL {α:Type}[aG α] {e:Exit}{v:Q2}{T:TypeId}{n:Nat}{xs:List Q2}{ys:List α} (Z:qq H xs ys) (hs:Nat.blt 0 (aG.sz α)=true)
  (k:∀ H',H.le H'->aO H' v ys->E x e Q H' M L):E x e Q H (.row v T (aG.sz α) n xs::M) L:=by
 intro a w I ht;obtain ⟨H',J,O,Y⟩:=ht.wI Z (by simpa [Sh] using hs)
 exact k H' J Y a w I O
theorem EK {α:Type}[aG α] {c:Code}{v:Q2}{T:TypeId}{n:Nat}{xs:List Q2}{ys:List α} (Z:qq H xs ys) (hs:Nat.blt 0 (aG.sz α)=true)
  (k:∀ H',H.le H'->aO H' v ys->C x c Q H' M L):C x c Q H (.row v T (aG.sz α) n xs::M) L:=by
 intro a w I ht;obtain ⟨H',J,O,Y⟩:=ht.wI Z (by simpa [Sh] using hs)
 exact k H' J Y a w I O
theorem zA (T:TypeId) (sz:Nat) (k:W x ops Q rest H (.row (.slice none 0 0) T sz 0 []::M) L):W x ops Q rest H M L:=
 λa w I ht=>k a w I (ht.Cv T sz)
theorem bW {e:Exit} (T:TypeId) (sz:Nat) (k:E x e Q H (.row (.slice none 0 0) T sz 0 []::M) L):E x e Q H M L:=
 λa w I ht=>k a w I (ht.Cv T sz)
theorem jP {c:Code} (T:TypeId) (sz:Nat) (k:C x c Q H (.row (.slice none 0 0) T sz 0 []::M) L):C x c Q H M L:=
 λa w I ht=>k a w I (ht.Cv T sz)
theorem JB {α:Type}[aG α] {t e:TypeId}{bytes n:Nat}{z:Q2}{y u:Operand}{v vu:Q2}{xs:List Q2}{l ys:List α}
  (hg:gd ops L ⟨some d,.call ⟨.builtin .append,#[y,u],#[t,t]⟩,ty,pos,aft,g⟩=some true) (hN:Nat.blt d x.N=true)
  (hT:x.P.underlying t=some (.slice e)) (hi:OF x.P e (aG.sz α) bytes z) (hz:z.cells.size=aG.sz α) (hs:Nat.blt 0 (aG.sz α)=true) (hb0:Nat.blt 0 bytes=true)
  (hy:ev L y=some v) (Z:ev L u=some vu) (hx:qq H xs l) (hR:aO H vu ys) (hb:(l.length+ys.length)*bytes<=140737488355328)
  (k:∀ v' n' xs',qq H xs' (l++ys)->W x ops Q rest H (.row v' e (aG.sz α) n' xs'::M) ((d,v')::L)):
  W x ops Q (⟨some d,.call ⟨.builtin .append,#[y,u],#[t,t]⟩,ty,pos,aft,g⟩::rest) H (.row v e (aG.sz α) n xs::M) L:=by
 obtain ⟨i,h1,h2,h3,h4⟩:=hi.ex;have hs':0<aG.sz α:=by simpa [Sh] using hs
 have hb0':0<bytes:=by simpa [Sh] using hb0
 have hmax:l.length+ys.length<=maxLen:=by
  have:l.length+ys.length<=(l.length+ys.length)*bytes:=TW _ hb0';unfold maxLen; omega
 refine tj rfl hg hN λa w I ht=>?_;have J:iQ w e (aG.sz α) v n xs:=ht.ok _ (Q9 ..);have hn:n=l.length:=by
  have:=hx.len;rw [J.1] at this;exact SU hs' this
 subst hn;obtain ⟨cs,O,Y⟩:=hR.flat;rcases Y with ⟨⟨ea,rfl⟩,rfl⟩ | ⟨hc,b,off,c,rfl⟩
 ·have hcs':cs=[]:=O
  subst hcs';refine ⟨v,w,?_,H,_,ht,k v _ xs (by simpa using hx)⟩
  rcases J.2 with ⟨rfl,h0⟩ | ⟨g,off,cap,cur,rfl,hg2,hnc,_⟩ <;> cases ea
  ·simp [execOp,resolve,invoke,builtin,I.ev hy,I.ev Z,Builtin.append_,SF hT,sizeOf,typeInfo,h1,Builtin.lenOf,Builtin.firstCells]
  ·simp [execOp,resolve,invoke,builtin,I.ev hy,I.ev Z,Builtin.append_,SF hT,sizeOf,typeInfo,h1,Builtin.lenOf,Builtin.firstCells,loadCells,loadCellsFrom]
  ·simp [execOp,resolve,invoke,builtin,I.ev hy,I.ev Z,Builtin.append_,SF hT,sizeOf,typeInfo,h1,Builtin.lenOf,Builtin.firstCells,storeCells,hnc]
  ·simp [execOp,resolve,invoke,builtin,I.ev hy,I.ev Z,Builtin.append_,SF hT,sizeOf,typeInfo,h1,Builtin.lenOf,Builtin.firstCells,storeCells,hnc,loadCells,loadCellsFrom]
 ·obtain ⟨v',w',hr,ho,hgr,hfr⟩:=Eu (P:=x.P) (ty:=ty) hT h1 h4 h2 h3 hz hs' J (a:=⟨b,off,none⟩) (m:=ys.length) (c:=c) (news:=cs) O.len
   (λj u Z=>((hc j u Z).at (x:=x) (M:=.row v e (aG.sz α) l.length xs::M)) w ht) O.one hmax hb
  refine ⟨v',w',?_,H,_,ht.EJ (r':=.row v' e (aG.sz α) (l.length+ys.length) (xs++cs)) hgr ho hfr,k v' _ _ (hx.app O)⟩;simp [execOp,resolve,invoke,builtin,I.ev hy,I.ev Z,hr]
end
def Ak:List Q2->List (List Q2)->Prop
 | [],[]=>True
 | v::vs,c::cs=>v.cells=c.toArray/\Ak vs cs
 | _,_=>False
def laid (places:List (Nat×Nat)):List Q2->List (Nat×List Q2)->Option (List Q2)
 | z,[]=>some z
 | z,(i,c)::r=>match places[i]? with
  | none=>none
  | some (off,size)=>if Nat.beq c.length size && Nat.ble (off+c.length) z.length then laid places (over z off c) r else none
theorem B3:∀ (c:List Q2) (z:List Q2) (off k:Nat),(c.zipIdx k).foldl (λcs (p:Q2×Nat)=>cs.setIfInBounds (off+p.2) p.1) z.toArray=(over z (off+k) c).toArray
 | [],z,off,k=>rfl
 | v::c,z,off,k=>by
  rw [List.zipIdx_cons,List.foldl_cons];simp only [List.setIfInBounds_toArray];rw [B3 c _ off (k+1),over]
  rfl
theorem wH {place:Nat->Option (Nat×Nat)}{places:List (Nat×Nat)} (Y:∀ i o,places[i]? = some o->place i=some o):
  ∀ (J:List Nat) (vs:List Q2) (css:List (List Q2)) (z out:List Q2),Ak vs css->J.length=vs.length->laid places z (J.zip css)=some out ->
   Instr.fill place z.toArray (J.zip vs)=some out.toArray
 | [],[],_,z,out,_,_,h=>by simp [laid] at h; simp [Instr.fill,h]
 | [],_::_,_,_,_,_,hl,_=>by simp at hl
 | _::_,[],_,_,_,_,hl,_=>by simp at hl
 | i::J,v::vs,[],_,_,hc,_,_=>hc.elim
 | i::J,v::vs,c::css,z,out,⟨hv,hc⟩,hl,h=>by
  simp only [List.zip_cons_cons,laid] at h;cases I:places[i]? with
  | none=>simp [I] at h
  | some o=>
   obtain ⟨off,size⟩:=o;simp only [I] at h
   split at h
   ·rename_i hb
    simp only [SK,TN] at hb;have O:c.length=size:=Tq hb.1;simp only [List.zip_cons_cons,Instr.fill,Y i _ I,hv];have Z:((c.toArray.size≠size || off+c.toArray.size > z.toArray.size:Bool))=false:=by
     simp [O]; rw [<- O]; exact hb.2
    rw [Ra (by simp only [Z]; simp)]
    have h2:=B3 c z off 0;have h3:c.toArray.zipIdx.foldl (λcs (p:Q2×Nat)=>cs.setIfInBounds (off+p.2) p.1) z.toArray=(over z off c).toArray:=by
     rw [<- Array.foldl_toList];simpa using h2
    have ih:=wH Y J vs css (over z off c) out hc (by simpa using hl) h
    rw [<- ih];exact Rn (λq=>Instr.fill place q (J.zip vs)) h3
   ·cases h
theorem lu {k m:Nat}{e:Int} (O:k+m=e.toNat) (J:decide ((k:Int)<e)=true):∃ I,m=I+1/\k+1+I=e.toNat/\k<e.toNat:=by
 have:=Q_ J;exact ⟨m-1,by omega,by omega,by omega⟩
theorem lq {k m:Nat}{e:Int} (J:k+m=e.toNat) (I:decide ((k:Int)<e)=false):m=0:=by
 have:=Rf I;omega
theorem eL {e:Int} (h:e<=9223372036854775807):e.toNat<=maxLen:=by unfold maxLen; omega
theorem kW {α:Type}{xs:List α} (h:xs.length<=maxLen):(xs.length:Int)<=9223372036854775807:=by unfold maxLen at h; omega
section
variable {x:Cx}{ops:Array Oper}{Q:lG}{rest:List Oper}{H:Hp}{M M':List bQ}{L L':Env}
variable {d:Nat}{ty:TypeId}{pos:String}{aft:Array Edge}{g:Option (Nat×Bool)}
theorem Bh {N:Nat}{a:Act} (hs:Sl N L a) {I:List (Nat×Operand)}{vs:List Q2} (J:zc L (I.map (·.2))=some vs):
  (I.toArray.map λ(p:Nat×Operand)=>(p.1,a.eval p.2))=((I.map (·.1)).zip vs).toArray:=by
 have h:=hs.zc J;subst h;clear J;simp only [List.map_map,List.map_toArray]
 congr 1
 induction I with
 | nil=>rfl
 | cons p I ih=>simp only [Te,List.zip_cons_cons,Function.comp,ih]
theorem cU {T:TypeId}{I:List (Nat×Operand)}{vs:List Q2}{css:List (List Q2)}{z:Q2}{zs out:List Q2}{fs:Array Field}{places:List (Nat×Nat)}
  (hg:gd ops L ⟨some d,.build T I.toArray,ty,pos,aft,g⟩=some true) (hN:Nat.blt d x.N=true)
  (Y:zc L (I.map (·.2))=some vs) (hc:Ak vs css)
  (hz:∀ w,(zeroValue T).run x.P w=.ok z w) (O:z.cells=zs.toArray) (Z:∀ w,(underlying T).run x.P w=.ok (.struct fs) w)
  (hp:∀ w,(fs.mapM λf=>do pure (f.offset,<- sizeOf f.type):Sem (Array (Nat×Nat))).run x.P w=.ok places.toArray w)
  (ho:laid places zs ((I.map (·.1)).zip css)=some out)
  (k:W x ops Q rest H M ((d,.agg out.toArray)::L)):
  W x ops Q (⟨some d,.build T I.toArray,ty,pos,aft,g⟩::rest) H M L:=
 eZ rfl hg hN (λa w hs ht=>by
  have hl:(I.map (·.1)).length=vs.length:=by rw [<- hs.zc Y]; simp
  have hf:=wH (place:=λi:Nat=>places[i]?) (places:=places) (λ_ _ h=>h) (I.map (·.1)) vs css zs out hc hl ho;have J:=Bh hs Y;simp only [execOp,Instr.build,Rj,hz,Re,Z,O];rw [hp];simp only [Re];have e:(λi:Nat=>places.toArray[i]?)=λi:Nat=>places[i]? := by funext i; simp
  simp only [J,e,hf,Rx,Re]) k
theorem c_ {α:Type}[aG α] {T e:TypeId}{n:Nat}{J:List (Nat×Operand)}{vs:List Q2}{css:List (List Q2)}{z:Q2}{zs out:List Q2}{places:List (Nat×Nat)}{ys:List α}
  (hg:gd ops L ⟨some d,.buildSlice T n J.toArray,ty,pos,aft,g⟩=some true) (hN:Nat.blt d x.N=true)
  (hv:zc L (J.map (·.2))=some vs) (hc:Ak vs css)
  (hT:∀ w,(underlying T).run x.P w=.ok (.slice e) w) (hs:∀ w,(sizeOf e).run x.P w=.ok (aG.sz α) w) (hs0:Nat.blt 0 (aG.sz α)=true)
  (hz:∀ w,(zeroValue e).run x.P w=.ok z w) (hzs:(Array.range (n*aG.sz α)).map (z.cells[·%z.cells.size]!)=zs.toArray)
  (hpl:places=(List.range n).map λi=>(i*aG.sz α,aG.sz α)) (hn:Nat.ble (n*aG.sz α) 16777216=true) (hnn:Nat.blt 0 n=true)
  (ho:laid places zs ((J.map (·.1)).zip css)=some out) (hr:qq H out ys) (Z:ys.length=n)
  (k:∀ b v H',v=.slice (some ⟨b,0,none⟩) n n->H.le H'->aO H' v ys->W x ops Q rest H' M ((d,v)::L)):
  W x ops Q (⟨some d,.buildSlice T n J.toArray,ty,pos,aft,g⟩::rest) H M L:=by
 refine tj rfl hg hN λa w Y ht=>?_;have hl:(J.map (·.1)).length=vs.length:=by rw [<- Y.zc hv]; simp
 have I:0<aG.sz α:=by simpa [Sh] using hs0
 have hn':n*aG.sz α<=16777216:=by simpa [TN] using hn
 have O:0<n:=by simpa [Sh] using hnn
 have hpos:0<n*aG.sz α:=Nat.mul_pos O I;have hf:=wH (place:=λi=>some (i*aG.sz α,aG.sz α)) (places:=places) (λi o h=>by
  rw [hpl,RH] at h;cases hh:(List.range n)[i]? with
  | none=>rw [hh] at h; cases h
  | some j=>
   rw [hh] at h;have:j=i:=by
    have:=Q7.1 hh;simpa using this.2.symm
   subst this;simpa using h) (J.map (·.1)) vs css zs out hc hl ho
 have hps:=Bh Y hv;have hsz:out.length=n*aG.sz α:=by rw [hr.len,Z]
 refine ⟨.slice (some ⟨w.heap.size,0,none⟩) n n,w.alloc (.cells out.toArray e),?_,H.add w.heap.size (.cells out.toArray e),M,(ht.alloc _).freeze.2,?_⟩
 ·have h1:¬ (2 ^ 24<n*aG.sz α):=by omega
  have h2:¬ (n*aG.sz α=0):=by omega
  simp only [execOp,Instr.buildSlice,Rj,hT,Re,hs,gt_iff_lt,h1,h2,Tn,hz,Rx];simp only [hps];have hf':Instr.fill (λi=>some (i*aG.sz α,aG.sz α)) ((Array.range (n*aG.sz α)).map (z.cells[·%z.cells.size]!)) ((List.map (λx=>x.fst) J).zip vs)=some out.toArray:=by
   rw [hzs]; exact hf
  simp only [hf',newRow,newObj,Rj,Rx,Sem.run,Re,World.alloc]
 ·refine k w.heap.size _ _ rfl (ht.alloc _).freeze.1 (.inr ⟨w.heap.size,0,n,out.toArray,e,(0,0),by rw [Z],by omega,?_,Hp.x9 _ _ _,by simp [hsz],?_⟩)
  ·unfold maxLen
   have:n<=n*aG.sz α:=TW _ I;omega
  ·intro j el hel
   obtain ⟨c,q1,q2⟩:=(hr.mono (ht.alloc (.cells out.toArray e)).freeze.1).get j el hel;exact ⟨c,q1,λi u hu=>by simpa using q2 i u hu⟩
end
structure Rw {α:Type}[aG α] (H:Hp) (v:Q2) (xs:List Q2) (l:List α):Prop where
 rd:qq H xs l
 sl:∃ a n c,v=.slice a n c
section
variable {α:Type}[aG α] {H H':Hp}{v:Q2}{xs:List Q2}{l:List α}
theorem Rw.mono (I:H.le H') (h:Rw H v xs l):Rw H' v xs l:=⟨h.rd.mono I,h.sl⟩
theorem Rw.one (h:Rw H v xs l):v.oneCell'=true:=by obtain ⟨a,n,c,rfl⟩:=h.sl; rfl
theorem Rw.cells (h:Rw H v xs l):v.cells=[v].toArray:=by obtain ⟨a,n,c,rfl⟩:=h.sl; rfl
theorem Rw.nil:Rw H (.slice none 0 0) [] ([]:List α):=⟨rfl,_,_,_,rfl⟩
theorem Rw.elem (h:Rw H v xs l) {k:Nat}{e:α} (he:l[k]? = some e):∃ c,aG.E H c e/\∀ j u,c[j]? = some u->xs[k*aG.sz α+j]? = some u:=h.rd.get k e he
theorem zY (vs:List Q2):∀ (l:List Q2) (k j:Nat),k+vs.length<=l.length->(over l k vs)[j]? = if k<=j/\j<k+vs.length then vs[j-k]? else l[j]? := by
 intro l k j h;rw [xr vs l k h,RG,Tj];simp only [RC,Sd (show k<=l.length by omega)]
 by_cases I:j<k
 ·rw [Rb I,Ra (by omega),RX,Rb I]
 ·rw [Ra I,Tj]
  by_cases J:j-k<vs.length
  ·rw [Rb J,Rb (by omega)]
  ·rw [Ra J,Ra (by omega),RT]
   congr 1; omega
theorem Rw.put {c cs out:List Q2}{k o:Nat}{e e2:α} (h:Rw H v xs l) (he:l[k]? = some e) (hc:aG.E H c e) (hg:∀ j u,c[j]? = some u->xs[k*aG.sz α+j]? = some u)
  (hb:Nat.ble (o+cs.length) c.length=true) (ho:over c o cs=out) (hE:aG.E H out e2):
  Rw H v (over xs (k*aG.sz α+o) cs) (l.set k e2)/\(l.set k e2)[k]? = some e2/\∀ j u,out[j]? = some u->(over xs (k*aG.sz α+o) cs)[k*aG.sz α+j]? = some u:=by
 have hk:k<l.length:=(Q7.1 he).1;have hlen:=h.rd.len;have I:=aG.len hc;have Y:o+cs.length<=c.length:=by simpa [TN] using hb
 have hkk:(k+1)*aG.sz α<=l.length*aG.sz α:=Rl _ hk;rw [Ru,UU] at hkk;have uX:k*aG.sz α+o+cs.length<=xs.length:=by omega
 have key:over xs (k*aG.sz α+o) cs=xs.take (k*aG.sz α)++out++xs.drop ((k+1)*aG.sz α):=by
  apply SM;intro j;rw [zY _ _ _ _ uX,RG,Tj];simp only [RC,Sd (show k*aG.sz α<=xs.length by omega)]
  have J:out.length=aG.sz α:=by rw [<- ho,pL,I]
  by_cases O:j<k*aG.sz α
  ·rw [Rb O,Ra (by omega),RX,Rb O]
  ·rw [Ra O,Tj,J]
   by_cases h2:j-k*aG.sz α<aG.sz α
   ·rw [Rb h2,<- ho,zY _ _ _ _ Y]
    by_cases h3:k*aG.sz α+o<=j/\j<k*aG.sz α+o+cs.length
    ·rw [Rb h3,Rb (by omega)]; congr 1; omega
    ·rw [Ra h3,Ra (by omega)]
     have Z:j-k*aG.sz α<c.length:=by omega
     have:=hg (j-k*aG.sz α) _ (Q4 Z);rw [Q4 Z,<- this]; congr 1; omega
   ·rw [Ra h2,Ra (by omega),RT]
    congr 1; rw [Ru]; omega
 refine ⟨⟨?_,h.sl⟩,by simp [hk],λj u hu=>?_⟩
 ·rw [key]; exact h.rd.put hk hE
 ·have Z:j<out.length:=(Q7.1 hu).1
  have J:out.length=aG.sz α:=by rw [<- ho,pL,I]
  rw [key,RG,RN (by simp; omega),Sk (by simp; omega)]
  simp only [RC,Sd (show k*aG.sz α<=xs.length by omega)]
  rw [show k*aG.sz α+j-k*aG.sz α=j by omega]; exact hu
end
section
variable {x:Cx}{ops:Array Oper}{Q:lG}{rest:List Oper}{H:Hp}{M M':List bQ}{L L':Env}
variable {d:Nat}{ty:TypeId}{pos:String}{aft:Array Edge}{g:Option (Nat×Bool)}
theorem CJ {v:Q2}{T:TypeId}{sz n i:Nat}{xs:List Q2}{c:Q2} (hm:bQ.row v T sz n xs ∈ M) (I:xs[i]? = some c):yY x H M ((Value.base v).add i) c:=by
 intro w ht;have O:iQ w T sz v n xs:=ht.ok _ hm;have hi:=(Q7.1 I).1;rcases O.2 with ⟨rfl,h0⟩ | ⟨Y,off,cap,Z,rfl,hg,hnc,hcm,hcs,J⟩
 ·exfalso
  have:=O.1;subst h0;simp at this; subst this
  simp at I
 ·rw [show Value.base (Value.slice (some ⟨Y,off,none⟩) n cap)=⟨Y,off,none⟩ from rfl,Sf]
  refine Vw hg rfl ?_;rw [<- J,RX] at I
  split at I
  ·rw [RT] at I; simpa using I
  ·cases I
theorem add_add (a:Addr) (i j:Nat):(a.add i).add j=a.add (i+j):=by
 unfold Addr.add
 by_cases I:i=0 <;> by_cases J:j=0 <;> simp [I,J,Tv]
theorem yB {v:Q2}{T:TypeId}{sz n i:Nat}{xs cs:List Q2} (hm:bQ.row v T sz n xs ∈ M) (I:∀ j u,cs[j]? = some u->xs[i+j]? = some u):zv x H M ((Value.base v).add i) cs:=by
 intro j c J;rw [add_add];exact CJ hm (I j c J)
theorem row_one {v:Q2}{T:TypeId}{sz n i o:Nat}{xs cs:List Q2}{c:Q2} (hm:bQ.row v T sz n xs ∈ M) (I:∀ j u,cs[j]? = some u->xs[i+j]? = some u) (J:cs[o]? = some c):
  yY x H M (((Value.base v).add i).add o) c:=by
 rw [add_add]; exact CJ hm (I o c J)
theorem CK {v:Q2}{T:TypeId}{sz n i:Nat}{xs cs:List Q2}{c:Q2} (hm:bQ.row v T sz n xs ∈ M) (I:∀ j u,cs[j]? = some u->xs[i+j]? = some u) (J:cs[0]? = some c):
  yY x H M ((Value.base v).add i) c:=CJ hm (I 0 c J)
theorem Am {v:Q2}{T:TypeId}{sz n:Nat}{xs:List Q2}{t e:TypeId}{y:Operand} (hm:bQ.row v T sz n xs ∈ M) (Y:gd ops L ⟨some d,.call ⟨.builtin .len,#[y],#[t]⟩,ty,pos,aft,g⟩=some true) (hN:Nat.blt d x.N=true)
  (O:∀ w,(underlying t).run x.P w=.ok (.slice e) w) (Z:ev L y=some v) (k:W x ops Q rest H M ((d,.int .i64 n)::L)):
  W x ops Q (⟨some d,.call ⟨.builtin .len,#[y],#[t]⟩,ty,pos,aft,g⟩::rest) H M L:=
 eZ rfl Y hN (λc w hs ht=>by
  have I:iQ w T sz v n xs:=ht.ok _ hm;rcases I.2 with ⟨rfl,rfl⟩ | ⟨gb,off,cap,J,rfl,_⟩ <;>
   simp [execOp,resolve,invoke,builtin,hs.ev Z,Builtin.len_,O,goInt]) k
theorem zz {v:Q2}{T:TypeId}{sz n:Nat}{xs:List Q2}{t e:TypeId}{y z:Operand}{kk:IntKind}{i:Int} (hm:bQ.row v T sz n xs ∈ M)
  (hg:gd ops L ⟨some d,.indexAddr t y z,ty,pos,aft,g⟩=some true) (hN:Nat.blt d x.N=true)
  (hT:∀ w,(underlying t).run x.P w=.ok (.slice e) w) (hs:∀ w,(sizeOf e).run x.P w=.ok sz w)
  (hy:ev L y=some v) (hz:ev L z=some (.int kk i)) (Z:0<=i) (h1:i.toNat<n)
  (k:W x ops Q rest H M ((d,.pointer (some ((Value.base v).add (i.toNat*sz))))::L)):
  W x ops Q (⟨some d,.indexAddr t y z,ty,pos,aft,g⟩::rest) H M L:=
 eZ rfl hg hN (λc w I ht=>by
  have J:i<(n:Int):=by omega
  have O:iQ w T sz v n xs:=ht.ok _ hm;rcases O.2 with ⟨rfl,rfl⟩ | ⟨gb,off,cap,Y,rfl,_⟩
  ·omega
  ·simp [execOp,I.ev hy,I.ev hz,Instr.indexAt,asIntOf,hT,hs,Z,J,Value.base]) k
theorem xY {T E:TypeId}{m sz n i:Nat}{y z:Operand}{v u:Q2}{ad:Addr}{xs cs:List Q2} (hg:gd ops L ⟨none,.store T y z,ty,pos,aft,g⟩=some true)
  (hn:∀ w,(sizeOf T).run x.P w=.ok m w) (hy:ev L y=some (.pointer (some ad))) (had:ad=(Value.base v).add i) (hz:ev L z=some u) (hv:u.cells=cs.toArray) (hl:cs.length=m)
  (hb:i+cs.length<=xs.length) (Y:Nat.blt 0 cs.length=true) (h1:∀ c ∈ cs,c.oneCell'=true)
  (k:W x ops Q rest H (.row v E sz n (over xs i cs)::M) L):
  W x ops Q (⟨none,.store T y z,ty,pos,aft,g⟩::rest) H (.row v E sz n xs::M) L:=
 DN rfl hg (λa w hs ht=>by
  subst had;have I:iQ w E sz v n xs:=ht.ok _ (Q9 ..);have hpos':0<cs.length:=by simpa [Sh] using Y
  rcases I.2 with ⟨rfl,rfl⟩ | ⟨gb,off,cap,Z,rfl,hgb,O,hcm,hcs,J⟩
  ·have h0:=I.1; rw [SI] at h0; omega
  ·have hmul:n*sz<=cap*sz:=Rl _ O
   have hxl:=I.1;obtain ⟨w',hr,hh,hgr⟩:=kG (P:=x.P) gb (off+i) E cs 0 Z.toList w (by simpa using hgb) (by simp; omega) h1
   refine ⟨w',?_,H,_,ht.EJ (r':=.row (.slice (some ⟨gb,off,none⟩) n cap) E sz n (over xs i cs)) hgr ?_ (λc hc=>.inl hc),k⟩
   ·simp [execOp,hs.ev hy,hs.ev hz,Instr.storeAt,Instr.sureAddr,storeVar,hn,hl,hv,Value.base,Sf,hr]
   ·refine ⟨by rw [pL]; exact hxl,.inr ⟨gb,off,cap,_,rfl,hh,O,hcm,by simpa [pL] using hcs,?_⟩⟩
    rw [TH,SH];apply SM;intro j;rw [RX,RT,zY _ _ _ _ (by simp; omega),zY _ _ _ _ hb,<- J,RX,RT]
    by_cases hj:j<n*sz
    ·simp only [Rb hj]
     by_cases h3:i<=j/\j<i+cs.length
     ·rw [Rb h3,Rb (by omega)]; congr 1; omega
     ·rw [Ra h3,Ra (by omega)]
    ·simp only [Ra hj]
     rw [Ra (by omega)])
end
section
variable {x:Cx}{ops:Array Oper}{Q:lG}{rest:List Oper}{H:Hp}{M M':List bQ}{L L':Env}
variable {d:Nat}{ty:TypeId}{pos:String}{aft:Array Edge}{g:Option (Nat×Bool)}
theorem iQ.shape {w:World}{T:TypeId}{sz n:Nat}{v:Q2}{xs:List Q2} (h:iQ w T sz v n xs):∃ a n c,v=.slice a n c:=by
 rcases h.2 with ⟨rfl,_⟩ | ⟨J,off,cap,I,rfl,_⟩ <;> exact ⟨_,_,_,rfl⟩
theorem cW {α:Type}[aG α] {t e:TypeId}{bytes n:Nat}{z:Q2}{y u:Operand}{v vu:Q2}{xs:List Q2}{l ys:List α}
  (hg:gd ops L ⟨some d,.call ⟨.builtin .append,#[y,u],#[t,t]⟩,ty,pos,aft,g⟩=some true) (hN:Nat.blt d x.N=true)
  (hT:x.P.underlying t=some (.slice e)) (hi:OF x.P e (aG.sz α) bytes z) (hz:z.cells.size=aG.sz α) (hs:Nat.blt 0 (aG.sz α)=true) (Y:Nat.blt 0 bytes=true)
  (hy:ev L y=some v) (hu:ev L u=some vu) (hx:Rw H v xs l) (hR:aO H vu ys) (hb:((l.length+ys.length)*bytes:Nat)<=140737488355328)
  (k:∀ v' I,Rw H v' I (l++ys)->W x ops Q rest H (.row v' e (aG.sz α) (l++ys).length I::M) ((d,v')::L)):
  W x ops Q (⟨some d,.call ⟨.builtin .append,#[y,u],#[t,t]⟩,ty,pos,aft,g⟩::rest) H (.row v e (aG.sz α) n xs::M) L:=by
 refine JB hg hN hT hi hz hs Y hy hu hx.rd hR hb λv' n' I O=>?_;intro a w Z ht;have J:iQ w e (aG.sz α) v' n' I:=ht.ok _ (Q9 ..);have hn:n'=(l++ys).length:=by
  have h1:=O.len;rw [J.1] at h1;exact SU (by simpa [Sh] using hs) h1
 subst hn;exact k v' I ⟨O,J.shape⟩ a w Z ht
theorem St.newRow {α:Type}[aG α] {B:Nat}{w0 w:World}{cells:List Q2}{e:TypeId}{l:List α} (ht:St B w0 H M w) (J:qq H cells l) (hm:l.length<=maxLen):
  St B w0 H (.row (.slice (some ⟨w.heap.size,0,none⟩) l.length l.length) e (aG.sz α) l.length cells::M) (w.alloc (.cells cells.toArray e)):=by
 have h:=ht.alloc (.cells cells.toArray e);have hl:=J.len;refine ⟨h.below,h.le,h.uX,?_,?_,h.nd⟩
 ·intro r I
  rcases RU.1 I with rfl | I
  ·refine ⟨hl,.inr ⟨w.heap.size,0,l.length,cells.toArray,rfl,h.ok _ (Q9 ..),Rq _,hm,by simp only [TC]; omega,?_⟩⟩
   rw [<- hl,TH,Su,SW]
  ·exact h.ok r (Rc _ I)
 ·intro r I
  rcases RU.1 I with rfl | I
  ·exact h.lo (.obj w.heap.size (.cells cells.toArray e)) (Q9 ..)
  ·exact h.lo r (Rc _ I)
theorem eT {α:Type}[aG α] {t e:TypeId}{bytes:Nat}{z:Q2}{zs:List Q2}{ze:α}{y y2:Operand}{n:Int}
  (hg:gd ops L ⟨some d,.makeSlice t y y2,ty,pos,aft,g⟩=some true) (hN:Nat.blt d x.N=true)
  (hT:x.P.underlying t=some (.slice e)) (hi:OF x.P e (aG.sz α) bytes z) (hz:z.cells=zs.toArray) (hs:Nat.blt 0 (aG.sz α)=true) (hb0:Nat.blt 0 bytes=true)
  (hE:aG.E H zs ze) (hy:ev L y=some (.int .i64 n)) (hy2:ev L y2=some (.int .i64 n)) (h0:0<=n) (hb:n*bytes<=140737488355328)
  (k:∀ v' xs',Rw H v' xs' (List.replicate n.toNat ze)->W x ops Q rest H (.row v' e (aG.sz α) (List.replicate n.toNat ze).length xs'::M) ((d,v')::L)):
  W x ops Q (⟨some d,.makeSlice t y y2,ty,pos,aft,g⟩::rest) H M L:=by
 obtain ⟨i,h1,h2,h3,h4⟩:=hi.ex;obtain ⟨m,rfl⟩:∃ m:Nat,n=m:=⟨n.toNat,by omega⟩
 have hs':0<aG.sz α:=by simpa [Sh] using hs
 have hb0':0<bytes:=by simpa [Sh] using hb0
 have hcast:((m*bytes:Nat):Int)=(m:Int)*(bytes:Int):=R2 m bytes;have hbn:m*bytes<=140737488355328:=by omega
 have hm:m<=m*bytes:=TW _ hb0';have hzl:zs.length=aG.sz α:=aG.len hE;have hmax:m<=maxLen:=by unfold maxLen; omega
 have hw:i64.wrap (m:Int)=m:=yd (by omega) (by omega)
 simp only [Q5] at k;have hrd:∀ q,qq H ((List.range (q*aG.sz α)).map (zs.toArray[·%zs.length]!)) (List.replicate q ze):=by
  intro q
  induction q with
  | zero=>rw [SI]; exact rfl
  | succ q ih=>
   have J:(List.range ((q+1)*aG.sz α)).map (zs.toArray[·%zs.length]!)=zs++(List.range (q*aG.sz α)).map (zs.toArray[·%zs.length]!):=by
    apply SM;intro j;rw [Tj,RH]
    by_cases hj:j<zs.length
    ·rw [Rb hj,S_ (by rw [Ru]; omega)]
     simp [SX hj,hj]
    ·rw [Ra hj,RH]
     by_cases Y:j<(q+1)*aG.sz α
     ·rw [S_ Y,S_ (by rw [Ru] at Y; omega)]
      simp only [SC];rw [<- Nat.mod_eq_sub_mod (by omega)]
     ·rw [R4 (by simp; omega),R4 (by rw [Ru] at Y; simp; omega)]
   rw [J];exact ⟨zs,_,rfl,hE,ih⟩
 have hlr:(List.replicate m ze).length=m:=So;refine tj rfl hg hN λa w I ht=>?_;refine ⟨.slice (some ⟨w.heap.size,0,none⟩) (List.replicate m ze).length (List.replicate m ze).length,_,?_,H,_,St.newRow (e:=e) ht (hrd m) (by rw [hlr]; exact hmax),k _ _ ⟨hrd m,_,_,_,rfl⟩⟩
 have e1:¬ ((i.bytes:Int)*(m:Int) > 2 ^ 48):=by
  rw [h3,Int.mul_comm];omega
 have e3:¬ (m*i.bytes > roomBytes):=by rw [h3]; unfold roomBytes; omega
 have e4:¬ ((m:Int)<0):=by omega
 have O:∀ w,(typeInfo e).run x.P w=.ok i w:=λw=>by simp [typeInfo,h1]
 have hsz:∀ w,(sizeOf e).run x.P w=.ok (aG.sz α) w:=λw=>by simp [sizeOf,O,h2]
 have hzv:∀ w,(zeroValue e).run x.P w=.ok z w:=λw=>by simp [zeroValue,O,h4]
 have hun:∀ w,(underlying t).run x.P w=.ok (.slice e) w:=λw=>SF hT w;have hnr:∀ c w,(newRow e c).run x.P w=.ok ⟨w.heap.size,0,none⟩ (w.alloc (.cells c e)):=λc w=>by
  simp only [newRow,newObj,Rj,Rx,Sem.run,Re,World.alloc]
 rw [hlr]
 by_cases Z:m*aG.sz α=0
 ·have:m=0:=by
   rcases Nat.mul_eq_zero.1 Z with h | h <;> omega
  subst this;simp only [execOp,I.ev hy,I.ev hy2,Instr.makeSlice,Rj,hun,Re,asInt,asIntOf,Rx,O,hw,e1,e4,VA,Bool.or_self,SO,Tn,Q5,askRoom,hsz,Z,UM,hnr,gt_iff_lt,Int.lt_irrefl,SI,Nat.not_lt_zero];simp [Array.range]
 ·have e6:(Array.range (m*aG.sz α)).map (λj=>zs.toArray[j%zs.toArray.size]!)=((List.range (m*aG.sz α)).map (zs.toArray[·%zs.length]!)).toArray:=by
   apply Array.ext';simp
  simp only [execOp,I.ev hy,I.ev hy2,Instr.makeSlice,Rj,hun,Re,asInt,asIntOf,Rx,O,hw,e1,e4,VA,Bool.or_self,SO,Tn,Q5,askRoom,e3,hsz,Z,hzv,hz,e6,hnr,gt_iff_lt,Int.lt_irrefl]
theorem run_sliceBound {P:Program}{w:World}{O:IntKind}{i:Int}{y:Nat}{c:BoundsCode} (I:0<=i) (J:i<=y):(Instr.sliceBound (.int O i) y c).run P w=.ok i.toNat w:=by
 simp [Instr.sliceBound,asIntOf,I,J]
def Bd (o:Option Q2) (I top r:Nat):Prop:=(o=none/\r=I)\/∃ J i,o=some (.int J i)/\0<=i/\i<=top/\i.toNat=r
theorem A_ {P:Program}{w:World}{len cap:Nat}{lo hi mx:Option Q2}{l h m:Nat}
  (I:mx=none\/∃ v,hi=some v) (hm:Bd mx cap cap m) (J:Bd hi len m h) (hl:Bd lo 0 h l):
  (Instr.sliceBounds true len cap lo hi mx).run P w=.ok (l,h,m) w:=by
 rcases hm with ⟨rfl,rfl⟩ | ⟨km,im,rfl,m0,m1,rfl⟩
 ·rcases J with ⟨rfl,rfl⟩ | ⟨kh,ih,rfl,O,Y,rfl⟩
  ·rcases hl with ⟨rfl,rfl⟩ | ⟨kl,il,rfl,Z,l1,rfl⟩
   ·simp only [Instr.sliceBounds,Rj,Rx,Re]
   ·simp only [Instr.sliceBounds,Rj,Rx,Re,run_sliceBound Z l1]
  ·rcases hl with ⟨rfl,rfl⟩ | ⟨kl,il,rfl,Z,l1,rfl⟩
   ·simp only [Instr.sliceBounds,Rj,Rx,Re,run_sliceBound O Y]
   ·simp only [Instr.sliceBounds,Rj,Rx,Re,run_sliceBound O Y,run_sliceBound Z l1]
 ·rcases I with I | ⟨v,rfl⟩
  ·cases I
  ·rcases J with ⟨J,_⟩ | ⟨kh,ih,J,O,Y,rfl⟩
   ·cases J
   ·obtain rfl:=Q8 J
    rcases hl with ⟨rfl,rfl⟩ | ⟨kl,il,rfl,Z,l1,rfl⟩
    ·simp only [Instr.sliceBounds,Rj,Rx,Re,run_sliceBound m0 m1,run_sliceBound O Y]
    ·simp only [Instr.sliceBounds,Rj,Rx,Re,run_sliceBound m0 m1,run_sliceBound O Y,run_sliceBound Z l1]
def G6 (L:Env) (o:Option Operand) (I top r:Nat):Prop:=(o=none/\r=I)\/∃ J O i,o=some J/\ev L J=some (.int O i)/\0<=i/\i<=top/\i.toNat=r
theorem G6.bd {N:Nat}{a:Act}{o:Option Operand}{I top r:Nat} (hs:Sl N L a) (h:G6 L o I top r):Bd (o.map a.eval) I top r:=by
 rcases h with ⟨rfl,rfl⟩ | ⟨Z,Y,i,rfl,he,J,O,rfl⟩
 ·exact .inl ⟨rfl,rfl⟩
 ·exact .inr ⟨Y,i,by simp [hs.ev he],J,O,rfl⟩
theorem ui {P:Program}{w:World}{t e:TypeId}{sz len cap:Nat}{a:Option Addr}{lo hi mx:Option Q2}{l h m:Nat} (J:∀ w,(underlying t).run P w=.ok (.slice e) w) (hs:∀ w,(sizeOf e).run P w=.ok sz w)
  (I:mx=none\/∃ v,hi=some v) (hm:Bd mx cap cap m) (O:Bd hi len m h) (hl:Bd lo 0 h l):
  (Instr.sliceAt t (.slice a len cap) lo hi mx).run P w=.ok (.slice (if m=l then a else a.map (·.add (l*sz))) (h-l) (m-l)) w:=by
 simp only [Instr.sliceAt,Rj,J,Re,Instr.slice,A_ I hm O hl,hs,Rx]
theorem KN {a:Act}{mx hi:Option Operand} (h:mx=none\/∃ o,hi=some o):mx.map a.eval=none\/∃ v,hi.map a.eval=some v:=by
 rcases h with rfl | ⟨o,rfl⟩
 ·exact .inl rfl
 ·exact .inr ⟨_,rfl⟩
theorem u9 {α:Type}[aG α] {t e:TypeId}{y:Operand}{lo hi mx:Option Operand}{v:Q2}{xs:List α}{l h:Nat} (hg:gd ops L ⟨some d,.slice t y lo hi mx,ty,pos,aft,g⟩=some true) (hN:Nat.blt d x.N=true)
  (hT:∀ w,(underlying t).run x.P w=.ok (.slice e) w) (hs:∀ w,(sizeOf e).run x.P w=.ok (aG.sz α) w)
  (hy:ev L y=some v) (hR:aO H v xs) (hlh:l<=h) (Z:h<=xs.length) (hmh:mx=none\/∃ o,hi=some o)
  (hm:∀ cap,h<=cap->G6 L mx cap cap (if mx=none then cap else h)) (hh:∀ m,h<=m->G6 L hi xs.length m h) (hl:G6 L lo 0 h l)
  (k:∀ v',aO H v' ((xs.drop l).take (h-l))->(mx≠none->Value.ob v'=h-l)->W x ops Q rest H M ((d,v')::L)):
  W x ops Q (⟨some d,.slice t y lo hi mx,ty,pos,aft,g⟩::rest) H M L:=by
 have hlen:((xs.drop l).take (h-l)).length=h-l:=by simp; omega
 rcases hR with ⟨⟨a0,rfl⟩,rfl⟩ | ⟨b,off,cap,arr,T,fz,rfl,h2,h3,h4,h5,h6⟩
 ·have hl0:l=0:=by simp at Z; omega
  have hh0:h=0:=by simp at Z; omega
  subst hl0; subst hh0
  have hif:(if mx=none then 0 else 0)=0:=by split <;> rfl
  refine eZ (v:=.slice a0 0 0) rfl hg hN (λc w I ht=>?_) (k _ (.inl ⟨⟨_,rfl⟩,by simp⟩) (λ_=>rfl))
  have O:=(hm 0 (Rq _)).bd I;rw [hif] at O;have hr:=ui (P:=x.P) (w:=w) (len:=0) (cap:=0) (a:=a0) hT hs (KN hmh) O ((hh 0 (Rq _)).bd I) (hl.bd I);simp only [Sq,UM] at hr;simp only [execOp,I.ev hy,Rj,hr,Re,Rx]
 ·have hmc:h<=(if mx=none then cap else h)/\(if mx=none then cap else h)<=cap:=by split <;> omega
  generalize Y:(if mx=none then cap else h)=m at hmc
  refine eZ (v:=.slice (if m=l then some ⟨b,off,none⟩ else some ((⟨b,off,none⟩:Addr).add (l*aG.sz α))) (h-l) (m-l)) rfl hg hN (λc w I ht=>?_) (k _ ?_ ?_)
  ·have O:=(hm cap (by omega)).bd I
   rw [Y] at O;simp only [execOp,I.ev hy,Rj,ui hT hs (KN hmh) O ((hh m hmc.1).bd I) (hl.bd I),Re,Rx]
   split <;> rfl
  ·by_cases hml:m=l
   ·have:h-l=0:=by omega
    have e0:m-l=0:=by omega
    rw [Rb hml,this,e0];exact .inl ⟨⟨_,rfl⟩,by simp⟩
   ·rw [Ra hml,Sf]
    have hmul:l*aG.sz α+(m-l)*aG.sz α<=cap*aG.sz α:=by
     rw [<- Ru]; exact Rl _ (by omega)
    refine .inr ⟨b,off+l*aG.sz α,m-l,arr,T,fz,by rw [hlen],by omega,by omega,h4,by omega,λj el J=>?_⟩
    rw [RX] at J
    split at J
    ·rw [RT] at J
     obtain ⟨cs,q1,q2⟩:=h6 (l+j) el J;refine ⟨cs,q1,λi c hc=>?_⟩;rw [show off+l*aG.sz α+j*aG.sz α+i=off+(l+j)*aG.sz α+i by rw [Ru]; omega]
     exact q2 i c hc
    ·cases J
  ·intro hne
   rw [Ra hne] at Y;subst Y; rfl
theorem Ie {α:Type}[aG α] {t e T:TypeId}{n:Nat}{y:Operand}{lo hi:Option Operand}{v:Q2}{cs:List Q2}{xs:List α}{l h:Nat} (hg:gd ops L ⟨some d,.slice t y lo hi none,ty,pos,aft,g⟩=some true) (hN:Nat.blt d x.N=true)
  (hT:∀ w,(underlying t).run x.P w=.ok (.slice e) w) (hs:∀ w,(sizeOf e).run x.P w=.ok (aG.sz α) w) (hs0:Nat.blt 0 (aG.sz α)=true)
  (hy:ev L y=some v) (hR:Rw H v cs xs) (hlh:l<=h) (hhx:h<=xs.length)
  (hh:∀ m,h<=m->G6 L hi xs.length m h) (hl:G6 L lo 0 h l)
  (k:∀ v' cs',Rw H v' cs' ((xs.drop l).take (h-l))->Value.ob v'=Value.ob v-l->W x ops Q rest H (.row v' T (aG.sz α) ((xs.drop l).take (h-l)).length cs'::M) ((d,v')::L)):
  W x ops Q (⟨some d,.slice t y lo hi none,ty,pos,aft,g⟩::rest) H (.row v T (aG.sz α) n cs::M) L:=by
 have J:((xs.drop l).take (h-l)).length=h-l:=by simp; omega
 refine tj rfl hg hN λa w I ht=>?_;have hok:iQ w T (aG.sz α) v n cs:=ht.ok _ (Q9 ..);have hn:n=xs.length:=by
  have h1:=hR.rd.len;rw [hok.1] at h1;exact SU (by simpa [Sh] using hs0) h1
 subst hn;have hrd:=(hR.rd.split h).1.split l;have Y:qq H ((cs.take (h*aG.sz α)).drop (l*aG.sz α)) ((xs.drop l).take (h-l)):=by
  have:=hrd.2
  rwa [Ty (l:=xs)] at this
 have hcl:=Y.len;rcases hok.2 with ⟨rfl,h0⟩ | ⟨Z,off,cap,cur,rfl,hgb,hnc,hcm,hcs,htake⟩
 ·have hl0:l=0:=by omega
  have hh0:h=0:=by omega
  subst hl0; subst hh0
  refine ⟨.slice none 0 0,w,?_,H,_,?_,k _ [] (by simpa using (Rw.nil:Rw H (.slice none 0 0) [] ([]:List α))) rfl⟩
  ·have hh':=(hh 0 (Rq _)).bd I
   rw [h0] at hh';have hr:=ui (P:=x.P) (w:=w) (len:=0) (cap:=0) (a:=none) (mx:=none) hT hs (.inl rfl) (.inl ⟨rfl,rfl⟩) hh' (hl.bd I);simp only [Sq,UM] at hr;simp only [execOp,I.ev hy,Rj,Uz,hr,Re,Rx]
  ·have:=ht.tail.Cv T (aG.sz α)
   simpa using this
 ·refine ⟨.slice (if cap=l then some ⟨Z,off,none⟩ else some ((⟨Z,off,none⟩:Addr).add (l*aG.sz α))) (h-l) (cap-l),w,?_,H,_,?_,k _ _ ⟨Y,_,_,_,rfl⟩ rfl⟩
  ·simp only [execOp,I.ev hy,Rj,ui (mx:=none) (m:=cap) hT hs (.inl rfl) (.inl ⟨rfl,rfl⟩) ((hh cap (by omega)).bd I) (hl.bd I),Uz,Re,Rx]
   split <;> rfl
  ·have hgr:w.grownBy w (bQ.zH (.row (.slice (some ⟨Z,off,none⟩) xs.length cap) T (aG.sz α) xs.length cs)):=⟨rfl,rfl,rfl,Rq _,λ_ _ _=>rfl⟩
   rw [J];have hmul:l*aG.sz α+(cap-l)*aG.sz α=cap*aG.sz α:=by rw [<- Ru]; congr 1; omega
   have hmul2:h*aG.sz α=l*aG.sz α+(h-l)*aG.sz α:=by rw [<- Ru]; congr 1; omega
   have hmul3:h*aG.sz α<=xs.length*aG.sz α:=Rl _ hhx;have hxl:cs.length=xs.length*aG.sz α:=hok.1
   by_cases O:cap=l
   ·have e1:h-l=0:=by omega
    have e2:cap-l=0:=by omega
    rw [Rb O,e1,e2];have e3:(cs.take (h*aG.sz α)).drop (l*aG.sz α)=[]:=by
     apply RA; rw [hcl,J,e1,SI]
    rw [e3];exact ht.EJ (r':=.row (.slice (some ⟨Z,off,none⟩) 0 0) T (aG.sz α) 0 []) hgr ⟨by simp,.inr ⟨Z,off,0,cur,rfl,hgb,Rq _,by unfold maxLen; omega,by omega,by simp⟩⟩ (λc hc=>.inl hc)
   ·rw [Ra O,Sf]
    refine ht.EJ (r':=.row (.slice (some ⟨Z,off+l*aG.sz α,none⟩) (h-l) (cap-l)) T (aG.sz α) (h-l) _) hgr ⟨?_,.inr ⟨Z,off+l*aG.sz α,cap-l,cur,rfl,hgb,by omega,by omega,by omega,?_⟩⟩ (λc hc=>.inl hc)
    ·rw [hcl,J]
    ·rw [<- htake,Vd,Sd hmul3,Ty,SV]
     congr 1; omega
theorem t_ {α:Type}[aG α] {t e T:TypeId}{n:Nat}{y:Operand}{lo hi:Option Operand}{v:Q2}{cs:List Q2}{xs:List α}{l h:Nat} (hg:gd ops L ⟨some d,.slice t y lo hi none,ty,pos,aft,g⟩=some true) (hN:Nat.blt d x.N=true)
  (Z:∀ w,(underlying t).run x.P w=.ok (.slice e) w) (hs:∀ w,(sizeOf e).run x.P w=.ok (aG.sz α) w) (Y:Nat.blt 0 (aG.sz α)=true)
  (hy:ev L y=some v) (hR:Rw H v cs xs) (O:l<=h) (J:h<=xs.length)
  (hh:∀ m,h<=m->G6 L hi xs.length m h) (hl:G6 L lo 0 h l)
  (k:∀ v' I,Rw H v' I ((xs.drop l).take (h-l))->W x ops Q rest H (.row v' T (aG.sz α) ((xs.drop l).take (h-l)).length I::M) ((d,v')::L)):
  W x ops Q (⟨some d,.slice t y lo hi none,ty,pos,aft,g⟩::rest) H (.row v T (aG.sz α) n cs::M) L:=
 Ie hg hN Z hs Y hy hR O J hh hl (λv' I h _=>k v' I h)
end
def sJ {α:Type} (xs:List α) (l h:Nat):List α:=(xs.drop l).take (h-l)
theorem MK {α:Type} (xs:List α) (l h:Nat):(sJ xs l h).length=min (h-l) (xs.length-l):=by simp [sJ]
theorem Rw.room {α:Type}[aG α] {H:Hp}{v:Q2}{xs:List Q2}{l:List α} (h:Rw H v xs l) {k:Nat}{e:α} (he:l[k]? = some e) {o m:Nat} (J:Nat.ble (o+m) (aG.sz α)=true):k*aG.sz α+o+m<=xs.length:=by
 have Y:k<l.length:=(Q7.1 he).1;have I:(k+1)*aG.sz α<=l.length*aG.sz α:=Rl _ Y;have O:o+m<=aG.sz α:=by simpa [TN] using J
 rw [h.rd.len];rw [Ru,UU] at I;omega
theorem HT (a:Addr) (i:Nat):a.add i=a.add (i+0):=rfl
theorem K6 (a:Addr) (i o:Nat):(a.add i).add o=a.add (i+o):=add_add a i o
section
variable {x:Cx}{ops:Array Oper}{Q:lG}{rest:List Oper}{H:Hp}{M M':List bQ}{L L':Env}
variable {d:Nat}{ty:TypeId}{pos:String}{aft:Array Edge}{g:Option (Nat×Bool)}
theorem Ib {α : Type} [aG α] {t e : TypeId} {bytes : Nat} {z : Q2} {y u : Operand} {v vu : Q2} {l ys : List α}
    (hg : gd ops L ⟨some d, .call ⟨.builtin .append, #[y, u], #[t, t]⟩, ty, pos, aft, g⟩ = some true) (hN : Nat.blt d x.N = true)
    (hT : x.P.underlying t = some (.slice e)) (hi : OF x.P e (aG.sz α) bytes z) (hz : z.cells.size = aG.sz α) (hs : Nat.blt 0 (aG.sz α) = true) (hb0 : Nat.blt 0 bytes = true)
    (hy : ev L y = some v) (hu : ev L u = some vu) (hx : aO H v l) (hc : Value.ob v = l.length) (hR : aO H vu ys) (hpos : Nat.blt 0 ys.length = true) (hb : ((l.length + ys.length) * bytes : Nat) ≤ 140737488355328)
    (k : ∀ v' xs', Rw H v' xs' (l ++ ys) → W x ops Q rest H (.row v' e (aG.sz α) (l ++ ys).length xs' :: M) ((d, v') :: L)) :
    W x ops Q (⟨some d, .call ⟨.builtin .append, #[y, u], #[t, t]⟩, ty, pos, aft, g⟩ :: rest) H M L := by
  obtain ⟨i, h1, h2, h3, h4⟩ := hi.ex;have hs' : 0 < aG.sz α := by simpa [Sh] using hs
  have hb0' : 0 < bytes := by simpa [Sh] using hb0
  have hpos' : 0 < ys.length := by simpa [Sh] using hpos
  have hmax : l.length + ys.length ≤ maxLen := by
    have : l.length + ys.length ≤ (l.length + ys.length) * bytes := TW _ hb0';unfold maxLen; omega
  have Y : l.length + ys.length ≤ 9223372036854775807 := by unfold maxLen at hmax; omega
  refine tj rfl hg hN fun a w hsl ht => ?_;obtain ⟨cs, Z, hcase⟩ := hx.flat;obtain ⟨J, hds, hcase2⟩ := hR.flat;rcases hcase2 with ⟨⟨ea, rfl⟩, rfl⟩ | ⟨hd2, b2, I, c2, rfl⟩
  · simp at hpos'
  have O : ∀ j u, J[j]? = some u → w.cell? ((⟨b2, I, none⟩ : Addr).add j) = some u := fun j u hu => ((hd2 j u hu).at (x := x) (M := M)) w ht;have hdl := hds.len;have hge := VM w (l.length + ys.length);have mk : ∀ (vC : Nat), qq H (cs ++ J) (l ++ ys) → iQ (w.drew.alloc (.cells (cs.toArray ++ J.toArray ++ Builtin.zeroCells z.cells (grownCap w (l.length + ys.length) vC e - (l.length + ys.length))) e)) e (aG.sz α)
        (.slice (some ⟨w.heap.size, 0, none⟩) (l.length + ys.length) (grownCap w (l.length + ys.length) vC e)) (l.length + ys.length) (cs ++ J) := by
    intro vC hrd;have hge := VM w (l.length + ys.length) vC e;have hcm : grownCap w (l.length + ys.length) vC e ≤ maxLen := U_ w (l.length + ys.length) vC e hmax;have hlen : (cs ++ J).length = (l.length + ys.length) * aG.sz α := by rw [hrd.len, Ro]
    refine ⟨hlen, .inr ⟨w.heap.size, 0, _, _, rfl, Vg w.drew _, hge, hcm, ?_, ?_⟩⟩
    · have hlen' : cs.length + J.length = (l.length + ys.length) * aG.sz α := by rw [← Ro]; exact hlen
      simp only [Array.size_append, TC, size_zeroCells, hz, Rv];rw [hlen', ← Ru];rw [show l.length + ys.length + (grownCap w (l.length + ys.length) vC e - (l.length + ys.length)) = grownCap w (l.length + ys.length) vC e from by omega]
      exact Rq _
    · simp only [Su, VE, RG]
      rw [← RG, ← hlen];exact Ui
  have fin : ∀ (vC : Nat), qq H (cs ++ J) (l ++ ys) → (Builtin.append_ #[t, t] ty #[v, .slice (some ⟨b2, I, none⟩) ys.length c2]).run x.P w = .ok (.slice (some ⟨w.heap.size, 0, none⟩) (l.length + ys.length) (grownCap w (l.length + ys.length) vC e))
        (w.drew.alloc (.cells (cs.toArray ++ J.toArray ++ Builtin.zeroCells z.cells (grownCap w (l.length + ys.length) vC e - (l.length + ys.length))) e)) →
      ∃ v' w', (execOp a.eval ⟨some d, .call ⟨.builtin .append, #[y, u], #[t, t]⟩, ty, pos, aft, g⟩).run x.P w = .ok (.value v') w' ∧ ∃ H' M', St x.B x.w0 H' M' w' ∧ W x ops Q rest H' M' ((d, v') :: L) := by
    intro vC hrd hr;have hown := mk vC hrd;refine ⟨_, (w.drew.alloc (.cells (cs.toArray ++ J.toArray ++ Builtin.zeroCells z.cells (grownCap w (l.length + ys.length) vC e - (l.length + ys.length))) e)), ?_, H, .row _ e (aG.sz α) (l ++ ys).length (cs ++ J) :: M, ht.add (r' := .row (.slice (some ⟨w.heap.size, 0, none⟩) (l.length + ys.length) (grownCap w (l.length + ys.length) vC e)) e (aG.sz α) (l ++ ys).length (cs ++ J)) ?_ ?_ ?_, k _ _ ⟨hrd, _, _, _, rfl⟩⟩
    · simp [execOp, resolve, invoke, builtin, hsl.ev hy, hsl.ev hu, hr]
    · exact ⟨rfl, rfl, rfl, by simp, fun k hk _ => heap_alloc_old w.drew _ (h := hk)⟩
    · show iQ _ e (aG.sz α) _ (l ++ ys).length (cs ++ J)
      rw [Ro]; exact hown
    · intro b hb
      simp only [bQ.zH, Value.ownBlock, Rp] at hb;omega
  rcases hcase with ⟨⟨ea, rfl⟩, rfl⟩ | ⟨hc1, b1, off1, c1, rfl⟩
  · have hcs' : cs = [] := Z
    subst hcs';have hl0 : ([] : List α).length + ys.length = ys.length := by simp
    cases ea with
    | none =>
      have hr := run_append_nil (P := x.P) w t ty e i z hT h1 h4 ⟨b2, I, none⟩ ys.length c2 J (by rw [h2]; exact hdl) O (by omega) (by rw [hl0] at Y; omega) (by have hb' := hb; rw [hl0] at hb'; rw [h3]; omega)
      refine fin 0 (Z.app hds) ?_;simp only [hl0];simpa using hr
    | some ea =>
      have hr := run_append_grow (P := x.P) w t ty e i z hT h1 h4 ea 0 0 [] (by simp) (by simp) ⟨b2, I, none⟩ ys.length c2 J (by rw [h2]; exact hdl) O (by omega) (by rw [hl0] at Y; omega) (VK (by omega) (by rw [h3]; simpa using hb))
      refine fin 0 (Z.app hds) ?_;simpa using hr
  · have hc' : c1 = l.length := hc
    subst hc';have hr := run_append_grow (P := x.P) w t ty e i z hT h1 h4 ⟨b1, off1, none⟩ l.length l.length cs (by rw [h2]; exact Z.len) (fun j u hu => ((hc1 j u hu).at (x := x) (M := M)) w ht) ⟨b2, I, none⟩ ys.length c2 J (by rw [h2]; exact hdl) O (by omega) (by omega) (VK (by omega) (by rw [h3]; exact hb))
    exact fin l.length (Z.app hds) hr
theorem qu (α:Type) [aG α] {T e:TypeId}
  (Y:gd ops L ⟨some d,.buildSlice T 0 #[],ty,pos,aft,g⟩=some true) (hN:Nat.blt d x.N=true)
  (O:∀ w,(underlying T).run x.P w=.ok (.slice e) w) (hs:∀ w,(sizeOf e).run x.P w=.ok (aG.sz α) w)
  (k:∀ v' I,Rw H v' I ([]:List α)->W x ops Q rest H (.row v' e (aG.sz α) ([]:List α).length I::M) ((d,v')::L)):
  W x ops Q (⟨some d,.buildSlice T 0 #[],ty,pos,aft,g⟩::rest) H M L:=by
 refine tj rfl Y hN λa w Z ht=>?_;have J:∀ c w,(newRow e c).run x.P w=.ok ⟨w.heap.size,0,none⟩ (w.alloc (.cells c e)):=λc w=>by
  simp only [newRow,newObj,Rj,Rx,Sem.run,Re,World.alloc]
 refine ⟨.slice (some ⟨w.heap.size,0,none⟩) 0 0,_,?_,H,_,St.newRow (α:=α) (cells:=[]) (l:=[]) (e:=e) ht rfl (by unfold maxLen; simp),k _ _ ⟨rfl,_,_,_,rfl⟩⟩
 simp only [execOp,Instr.buildSlice,Rj,O,hs,Re,SI,Nat.not_lt_zero,gt_iff_lt,Tn,UM,Rx];simp [Instr.fill,J,Array.range]
end
def iY (s:Q1):List U8:=s.data.toList.map λb=>⟨b.toNat⟩
section
variable {x:Cx}{ops:Array Oper}{Q:lG}{rest:List Oper}{H:Hp}{M M':List bQ}{L L':Env}
variable {d:Nat}{ty:TypeId}{pos:String}{aft:Array Edge}{g:Option (Nat×Bool)}
def tw (s:Q1) (cap:Nat):Array Q2:=s.data.map (λb:UInt8=>Value.int .u8 b.toNat)++Array.replicate (cap-s.size) (Value.int .u8 0)
theorem D6 (w:World) (c:Array Q2) (e:TypeId):(w.alloc (.cells c e)).freeze ⟨w.heap.size,c.size,none⟩ 1=w.alloc (.cells c e (c.size,c.size+1)):=by
 have key:∀ (f:Obj->Obj),f (.cells c e)=.cells c e (c.size,c.size+1)->(w.heap.push (.cells c e)).modify w.heap.size f=w.heap.push (.cells c e (c.size,c.size+1)):=by
  intro f I;apply Array.ext_getElem?;intro i;rw [Vr,Array.getElem?_push,Array.getElem?_push]
  by_cases h:w.heap.size=i
  ·subst h; simp [I]
  ·rw [Ra h,Ra (λq=>h q.symm),Ra (λq=>h q.symm)]
 unfold World.freeze;rw [Ra (by omega)]
 show ({ w with heap:=(w.heap.push (.cells c e)).modify w.heap.size _ }:World)={ w with heap:=w.heap.push (.cells c e (c.size,c.size+1)) }
 rw [key _ (by simp)]
theorem y6 (s:Q1):(iY s).length=s.size:=by unfold iY; rw [S2,Array.length_toList]; rfl
theorem Ae {P:Program}{w:World}{e:TypeId}{s:Q1}:
  (Conv.stringToBytes e s).run P w=.ok (.slice (some ⟨w.heap.size,0,none⟩) s.size (grownCap w s.size 0 e))
   (w.drew.alloc (.cells (tw s (grownCap w s.size 0 e)) e ((tw s (grownCap w s.size 0 e)).size,(tw s (grownCap w s.size 0 e)).size+1))):=by
 have I:(choose (.appendCap s.size 0 e)).run P w=.ok (grownCap w s.size 0 e) w.drew:=by
  simp only [choose,Sem.run,Question.forced,SO,Tn]; rfl
 have O:∀ (c:Array Q2) (w:World),(newRow e c).run P w=.ok ⟨w.heap.size,0,none⟩ (w.alloc (.cells c e)):=λc w=>by
  simp only [newRow,newObj,Rj,Rx,Sem.run,Re,World.alloc]
 have J:∀ (c:Array Q2) (w:World),(markStringish ⟨w.heap.size,0,none⟩).run P (w.alloc (.cells c e))=.ok () (w.alloc (.cells c e (c.size,c.size+1))):=λc w=>by
  have Y:(w.alloc (.cells c e)).shape? w.heap.size=some (e,c.size):=by
   have:(w.alloc (.cells c e)).heap[w.heap.size]? = some (.cells c e):=Vg w _;simp only [World.shape?,this]
  simp only [markStringish,shape,Rj,Sem.run,Y,Re,Go.freeze,D6]
 simp only [Conv.stringToBytes,Rj,I,Re,O];have:=J (tw s (grownCap w s.size 0 e)) w.drew;simp only [tw] at this ⊢;rw [show (w.drew.heap.size)=w.heap.size from rfl] at this ⊢;rw [this]
 rfl
theorem vK {t u e:TypeId}{y:Operand}{s:Q1} (hg:gd ops L ⟨some d,.convert t u y,ty,pos,aft,g⟩=some true) (hN:Nat.blt d x.N=true)
  (ht:∀ w,(underlying t).run x.P w=.ok .string w) (hu:∀ w,(underlying u).run x.P w=.ok (.slice e) w) (he:∀ w,(underlying e).run x.P w=.ok (.int .u8) w)
  (hy:ev L y=some (.string s)) (hs:s.size<=maxLen)
  (k:∀ v H',H.le H'->aO H' v (iY s)->W x ops Q rest H' M ((d,v)::L)):
  W x ops Q (⟨some d,.convert t u y,ty,pos,aft,g⟩::rest) H M L:=by
 refine tj rfl hg hN λa w hsl h=>?_;have Y:=VM w s.size 0 e;have O:grownCap w s.size 0 e<=maxLen:=U_ w s.size 0 e hs;have h':St x.B x.w0 H M w.drew:=h.drewN (w.drawn+1);generalize J:grownCap w s.size 0 e=cap at Y O;have ha:=(h'.alloc (.cells (tw s cap) e ((tw s cap).size,(tw s cap).size+1))).freeze;refine ⟨.slice (some ⟨w.heap.size,0,none⟩) s.size cap,w.drew.alloc (.cells (tw s cap) e ((tw s cap).size,(tw s cap).size+1)),?_,_,M,ha.2,k _ _ ha.1 (.inr ⟨w.heap.size,0,cap,_,e,_,?_,?_,O,Hp.x9 _ _ _,?_,?_⟩)⟩
 ·have hr:=Ae (P:=x.P) (w:=w) (e:=e) (s:=s)
  rw [J] at hr;simp only [execOp,hsl.ev hy,convert,Rj,ht,hu,he,Re,hr,Rx]
 ·rw [y6]
 ·rw [y6]; exact Y
 ·have e0:s.size=s.data.size:=rfl
  simp [aG.sz,tw];omega
 ·intro j el I
  refine ⟨[.int .u8 el.n],rfl,λi c Z=>?_⟩;have hi:i=0:=by
   have:=(Q7.1 Z).1;simp at this; omega
  subst hi;simp at Z; subst Z
  have hj:=(Q7.1 I).1;simp [iY] at I hj;obtain ⟨b,hb,rfl⟩:=I;simp only [aG.sz,Rv,TK,SH,tw];rw [Array.getElem?_append_left (by simpa using hj),Array.getElem?_map,hb]
  rfl
theorem Ex {P:Program}{w:World}{t e:TypeId}{o:Option Addr}{n c:Nat} (I:∀ w,(underlying t).run P w=.ok (.slice e) w):(Op.equal t (.slice o n c) (.slice none 0 0)).run P w=.ok o.isNone w:=by
 have key:∀ k,(Op.equalIn (k+1) t (.slice o n c) (.slice none 0 0)).run P w=.ok o.isNone w:=λk=>by
  unfold Op.equalIn;cases o <;> simp [I]
 exact key 9999
theorem sd {t e u:TypeId}{y z:Operand}{o:Option Addr}{n c:Nat} (J:gd ops L ⟨some d,.binOp .eql t y z u,ty,pos,aft,g⟩=some true) (hN:Nat.blt d x.N=true)
  (I:∀ w,(underlying t).run x.P w=.ok (.slice e) w) (O:ev L y=some (.slice o n c)) (Y:ev L z=some (.slice none 0 0))
  (k:W x ops Q rest H M ((d,.bool o.isNone)::L)):
  W x ops Q (⟨some d,.binOp .eql t y z u,ty,pos,aft,g⟩::rest) H M L:=
 eZ rfl J hN (λa w hs _=>by
  simp only [execOp,hs.ev O,hs.ev Y,Rj,eqGuard,binOp,Ex I,Re,Rx]
  rfl) k
end
section
variable {B:Nat}{w0 w:World}{H:Hp}{M:List bQ}
theorem St.kX {α:Type}[aG α] {v:Q2}{T:TypeId}{n:Nat}{xs:List Q2}{ys:List α}
  (h:St B w0 H (.row v T (aG.sz α) n xs::M) w) (hx:Rw H v xs ys) (hs:Nat.blt 0 (aG.sz α)=true):
  ∃ H',H.le H'/\St B w0 H' M w/\aO H' v ys/\∀ M' w',St B w0 H' M' w'->St B w0 H (.row v T (aG.sz α) n xs::M') w':=by
 have hs':0<aG.sz α:=by simpa [Sh] using hs
 have hok:=h.ok _ (Q9 ..);have Z:=h.lo _ (Q9 ..);obtain ⟨hl,hh⟩:=hok;have hn:n=ys.length:=by
  have:=hx.rd.len;rw [hl] at this;exact SU hs' this
 subst hn;rcases hh with ⟨rfl,h0⟩ | ⟨g,off,cap,O,rfl,hg,hnc,hcm,hcs,J⟩
 ·refine ⟨H,R8 _,h.tail,.inl ⟨⟨_,rfl⟩,RA h0⟩,λM' w' h'=>?_⟩
  have hx0:xs=[]:=RA (by rw [hl,h0,SI])
  rw [h0,hx0];exact h'.Cv T _
 ·have h':St B w0 H (.obj g (.cells O T (0,0))::M) w:=by
   refine ⟨h.below,h.le,h.uX,?_,?_,h.nd⟩
   ·intro r I
    rcases RU.1 I with rfl | I
    ·exact hg
    ·exact h.tail.ok r I
   ·intro r I
    rcases RU.1 I with rfl | I
    ·exact Z
    ·exact h.tail.lo r I
  obtain ⟨Y,hst⟩:=h'.freeze;refine ⟨_,Y,hst,.inr ⟨g,off,cap,O,T,(0,0),rfl,hnc,hcm,Hp.x9 _ _ _,hcs,?_⟩,λM' w' hb=>?_⟩
  ·intro k e he
   obtain ⟨c,h1,h2⟩:=(hx.rd.mono Y).get k e he;refine ⟨c,h1,λj d hd=>?_⟩;have:=h2 j d hd;rw [<- J,RX] at this
   split at this
   ·rw [RT] at this; simpa [Tv] using this
   ·cases this
  ·have ht:=St.Qc (H:=H) hb (Z g (List.Mem.head _)).1 Y (Z g (List.Mem.head _)).2 (Hp.x9 _ _ _)
   refine ⟨ht.below,ht.le,ht.uX,?_,?_,ht.nd⟩
   ·intro r I
    rcases RU.1 I with rfl | I
    ·exact ⟨hl,.inr ⟨g,off,cap,O,rfl,ht.ok _ (Q9 ..),hnc,hcm,hcs,J⟩⟩
    ·exact ht.tail.ok r I
   ·intro r I
    rcases RU.1 I with rfl | I
    ·exact ht.lo (.obj g _) (Q9 ..)
    ·exact ht.tail.lo r I
theorem fW {P:Program}{f:FuncId}{args:Array Q2}{O:Hp}{r:bQ}{Z:List bQ->Q2->Prop}
  (I:∀ M' J,St B w0 O M' J->St B w0 H (r::M') J) (h:Calls P f args w (uC B w0 λH' M' v=>O=H'/\Z M' v)):
  Calls P f args w (uC B w0 λH' M' v=>H=H'/\∃ Y,r::Y=M'/\Z Y v):=
 h.mono λe J he=>by
  cases e with
  | returned v=>
   obtain ⟨H2,M',h1,h2,h3⟩:=he;subst h2;exact ⟨H,r::M',I M' J h1,rfl,M',rfl,h3⟩
  | panicked c=>exact he
  | outgrown=>exact he
end
section
variable {x:Cx}{ops:Array Oper}{Q:lG}{rest:List Oper}{H:Hp}{M M':List bQ}{L L':Env}
variable {d:Nat}{ty:TypeId}{pos:String}{aft:Array Edge}{g:Option (Nat×Bool)}
theorem BG {J:Fn}{first I:List Operand}{vs cs:List Q2} (Y:gd ops L ⟨some d,.makeFunc J first.toArray I.toArray,ty,pos,aft,g⟩=some true) (hN:Nat.blt d x.N=true)
  (Z:zc L first=some vs) (O:zc L I=some cs) (k:W x ops Q rest H M ((d,.func J vs.toArray cs.toArray)::L)):
  W x ops Q (⟨some d,.makeFunc J first.toArray I.toArray,ty,pos,aft,g⟩::rest) H M L:=
 eZ rfl Y hN (λa w hs _=>by simp [execOp,Instr.makeFunc,hs.zc Z,hs.zc O]) k
theorem n7 {d:Nat}{y:Operand}{f:FuncId}{args:List Operand}{O:Array TypeId}{vs fs cs:List Q2}
  {Y:Hp->List bQ->Q2->Prop}
  (J:∀ as w,(callFunc f as).run x.P w=.ok (.enter f as) w)
  (hg:gd ops L ⟨some d,.call ⟨.value y,args.toArray,O⟩,ty,pos,aft,g⟩=some true) (hN:Nat.blt d x.N=true)
  (hy:ev L y=some (.func (.func f) fs.toArray cs.toArray)) (hv:zc L args=some vs)
  (hc:∀ w,St x.B x.w0 H M w->Calls x.P f (fs++vs++cs).toArray w (uC x.B x.w0 Y))
  (k:∀ v H' M',Y H' M' v->W x ops Q rest H' M' ((d,v)::L)):
  W x ops Q (⟨some d,.call ⟨.value y,args.toArray,O⟩,ty,pos,aft,g⟩::rest) H M L:=by
 intro a w hs ht;refine UX λK hK=>?_;rw [Rb (hs.gd hg)];have I:args.toArray.map a.eval=vs.toArray:=by simp [hs.zc hv]
 have hr:(execOp a.eval ⟨some d,.call ⟨.value y,args.toArray,O⟩,ty,pos,aft,g⟩).run x.P w=.ok (.enter f (fs++vs++cs).toArray) w:=by
  simp only [execOp,resolve,I,hs.ev hy,Deferred.ofValue,Rj,Rx,Re,invoke];simp [J]
 unfold Oper.wp;rw [hr];simp only [Oper.upon];refine (hc w ht).mono λe w' he=>?_;cases e with
 | returned v=>
  obtain ⟨H',M',Z,h2⟩:=he;exact hK _ _ (k v H' M' h2 _ _ (hs.put hN) Z)
 | panicked c=>exact he.elim
 | outgrown=>exact he.elim
def uj (k:IntKind) (a b:Int):Int:=k.wrap (a*2 ^ (min b.toNat k.bits))
def ot (k:IntKind) (a b:Int):Int:=a.fdiv (2 ^ (min b.toNat k.bits))
theorem EX {t u:TypeId}{y z:Operand}{k Y:IntKind}{a b:Int} (I:gd ops L ⟨some d,.binOp .shl t y z u,ty,pos,aft,g⟩=some true) (hN:Nat.blt d x.N=true)
  (J:ev L y=some (.int k a)) (O:ev L z=some (.int Y b)) (hb:0<=b) (Z:W x ops Q rest H M ((d,.int k (uj k a b))::L)):
  W x ops Q (⟨some d,.binOp .shl t y z u,ty,pos,aft,g⟩::rest) H M L:=
 eZ rfl I hN (λc w hs _=>by
  have:¬ b<0:=by omega
  simp [execOp,hs.ev J,hs.ev O,eqGuard,binOp,Op.shift,this,uj]) Z
theorem uD {t u:TypeId}{y z:Operand}{k Y:IntKind}{a b:Int} (I:gd ops L ⟨some d,.binOp .shr t y z u,ty,pos,aft,g⟩=some true) (hN:Nat.blt d x.N=true)
  (J:ev L y=some (.int k a)) (O:ev L z=some (.int Y b)) (hb:0<=b) (Z:W x ops Q rest H M ((d,.int k (ot k a b))::L)):
  W x ops Q (⟨some d,.binOp .shr t y z u,ty,pos,aft,g⟩::rest) H M L:=
 eZ rfl I hN (λc w hs _=>by
  have:¬ b<0:=by omega
  simp [execOp,hs.ev J,hs.ev O,eqGuard,binOp,Op.shift,this,ot]) Z
theorem rp {t u:TypeId}{y:Operand}{k I:IntKind}{n:Int} (J:gd ops L ⟨some d,.convert t u y,ty,pos,aft,g⟩=some true) (hN:Nat.blt d x.N=true)
  (ht:∀ w,(underlying t).run x.P w=.ok (.int I) w) (O:∀ w,(underlying u).run x.P w=.ok (.int k) w) (Y:ev L y=some (.int I n))
  (Z:W x ops Q rest H M ((d,.int k (k.wrap n))::L)):
  W x ops Q (⟨some d,.convert t u y,ty,pos,aft,g⟩::rest) H M L:=
 eZ rfl J hN (λc w hs _=>by simp [execOp,hs.ev Y,convert,ht,O,Conv.intToInt]) Z
theorem mV {t u:TypeId}{y z:Operand}{a b:Q1} (J:gd ops L ⟨some d,.binOp .add t y z u,ty,pos,aft,g⟩=some true) (hN:Nat.blt d x.N=true)
  (O:ev L y=some (.string a)) (Y:ev L z=some (.string b)) (I:a.size+b.size<=maxLen) (Z:W x ops Q rest H M ((d,.string (a++b))::L)):
  W x ops Q (⟨some d,.binOp .add t y z u,ty,pos,aft,g⟩::rest) H M L:=
 eZ rfl J hN (λc w hs _=>by
  have:¬ (((a.size+b.size:Nat):Int) > i64.max):=by
   simp only [IntKind.max,IntKind.signed,IntKind.bits]; unfold maxLen at I; simp; omega
  simp only [execOp,hs.ev O,hs.ev Y,eqGuard,binOp,Op.stringOp,Rj];simp only [Ra this];simp) Z
theorem Ga {s:Q1}{k:Nat}{c:U8} (h:(iY s)[k]? = some c):∃ b:UInt8,s[k]? = some b/\c=⟨b.toNat⟩:=by
 simp only [iY,RH,UE] at h;obtain ⟨b,J,rfl⟩:=h;refine ⟨b,?_,rfl⟩;obtain ⟨O,e⟩:=Q7.1 J;have I:k<s.size:=by simpa using O
 rw [getElem?_pos s k I];rw [<- e]; rfl
theorem w_ {t:TypeId}{y z:Operand}{s:Q1}{kk:IntKind}{i:Int}{c:U8} (Y:gd ops L ⟨some d,.index t y z,ty,pos,aft,g⟩=some true) (hN:Nat.blt d x.N=true)
  (J:∀ w,(underlying t).run x.P w=.ok .string w) (Z:ev L y=some (.string s)) (hz:ev L z=some (.int kk i)) (I:0<=i) (he:(iY s)[i.toNat]? = some c)
  (k:W x ops Q rest H M ((d,.int .u8 c.n)::L)):
  W x ops Q (⟨some d,.index t y z,ty,pos,aft,g⟩::rest) H M L:=
 eZ rfl Y hN (λa w hs _=>by
  obtain ⟨b,O,rfl⟩:=Ga he;simp [execOp,hs.ev Z,hs.ev hz,Instr.index,asIntOf,J,I,O]) k
theorem mM {t:TypeId}{y:Operand}{lo hi:Option Operand}{s:Q1}{l h:Nat} (hg:gd ops L ⟨some d,.slice t y lo hi none,ty,pos,aft,g⟩=some true) (hN:Nat.blt d x.N=true)
  (Z:∀ w,(underlying t).run x.P w=.ok .string w)
  (hy:ev L y=some (.string s)) (hh:G6 L hi s.size s.size h) (hl:G6 L lo 0 h l)
  (k:W x ops Q rest H M ((d,.string (s.extract l h))::L)):
  W x ops Q (⟨some d,.slice t y lo hi none,ty,pos,aft,g⟩::rest) H M L:=
 eZ rfl hg hN (λa w hs _=>by
  have hb:(Instr.sliceBounds false s.size s.size (lo.map a.eval) (hi.map a.eval) none).run x.P w=.ok (l,h,s.size) w:=by
   rcases hh.bd hs with ⟨I,rfl⟩ | ⟨kh,ih,I,O,Y,rfl⟩
   ·rcases hl.bd hs with ⟨e2,rfl⟩ | ⟨kl,il,e2,J,l1,rfl⟩
    ·simp only [I,e2,Instr.sliceBounds,Rj,Rx,Re]
    ·simp only [I,e2,Instr.sliceBounds,Rj,Rx,Re,run_sliceBound J l1]
   ·rcases hl.bd hs with ⟨e2,rfl⟩ | ⟨kl,il,e2,J,l1,rfl⟩
    ·simp only [I,e2,Instr.sliceBounds,Rj,Rx,Re,run_sliceBound O Y]
    ·simp only [I,e2,Instr.sliceBounds,Rj,Rx,Re,run_sliceBound O Y,run_sliceBound J l1]
  simp only [execOp,hs.ev hy,Instr.sliceAt,Rj,Z,Re,Instr.slice,Uz,Option.isSome_none,SO,Tn,hb,Rx]) k
end
class MV (α:Type) where
 mv:α->Q2
instance:MV Int:=⟨λn=>.int .i64 n⟩
instance:MV Bool:=⟨λb=>.bool b⟩
instance:MV Q1:=⟨λs=>.string s⟩
class xG (α:Type) [DecidableEq α] extends MV α where
 kind:TypeDesc
 same:∀ a b:α,Instr.sameNow kind (mv a) (mv b)=some (decide (a=b))
 bits:∀ a:α,Instr.sameBits 10000 (mv a) (mv a)=true
 check:∀ (P:Program) (t:TypeId) (e:Bool) (a:α) (w:World),(∀ w,(underlying t).run P w=.ok kind w)->(Instr.checkKey e 10000 t (mv a)).run P w=.ok () w
theorem Hk (s t:Q1):(s == t)=decide (s=t):=by
 have h:(s == t)=(s.data == t.data):=rfl;rw [h,Bool.eq_iff_iff];simp only [beq_iff_eq,RS];exact ⟨λe=>ByteArray.ext e,λe=>by rw [e]⟩
instance:xG Int where
 kind:=.int .i64
 same a b:=by simp [Instr.sameNow,Hu,MV.mv]
 bits a:=by simp [Instr.sameBits,MV.mv]
 check P t e a w h:=by
  have key:∀ k,(Instr.checkKey e (k+1) t (.int .i64 a)).run P w=.ok () w:=λk=>by unfold Instr.checkKey; simp [h]
  exact key 9999
instance:xG Q1 where
 kind:=.string
 same a b:=by simp [Instr.sameNow,Hk,MV.mv]
 bits a:=by simp [Instr.sameBits,MV.mv,Hk]
 check P t e a w h:=by
  have key:∀ k,(Instr.checkKey e (k+1) t (.string a)).run P w=.ok () w:=λk=>by unfold Instr.checkKey; simp [h]
  exact key 9999
section
variable {κ ν:Type}[DecidableEq κ] [xG κ] [MV ν]
structure sM (es:Array MapEntry) (c:Nat) (l:List (κ×ν)):Prop where
 eq:es.toList.map (λe=>(e.key,e.val))=l.map λp=>(MV.mv p.1,MV.mv p.2)
 nd:(es.toList.map (·.born)).Nodup
 lt:∀ e ∈ es.toList,e.born<c
def wY:List (κ×ν)->κ->Nat->Option (Nat×ν)
 | [],_,_=>none
 | (a,v)::r,k,i=>if a=k then some (i,v) else wY r k (i+1)
def rS (l:List (κ×ν)) (k:κ):Option ν:=(wY l k 0).map (·.2)
def vJ (l:List (κ×ν)) (k:κ) (v:ν):List (κ×ν):=match wY l k 0 with
 | some (i,_)=>l.set i (k,v)
 | none=>l++[(k,v)]
theorem sM.nil:sM #[] 0 ([]:List (κ×ν)):=⟨rfl,by simp,by simp⟩
theorem B1 (k:κ):∀ (es:List MapEntry) (l:List (κ×ν)) (i:Nat),es.map (λe=>(e.key,e.val))=l.map (λp=>(MV.mv p.1,MV.mv p.2)) ->
  Instr.findNow (xG.kind κ) (MV.mv k) es i=some ((wY l k i).map λp=>(p.1,MV.mv p.2))
 | [],[],i,_=>rfl
 | [],_::_,i,h=>by simp at h
 | _::_,[],i,h=>by simp at h
 | e::es,(a,v)::l,i,h=>by
  simp only [Te,List.cons.injEq,Tw] at h;obtain ⟨⟨J,O⟩,Y⟩:=h;unfold Instr.findNow;rw [J,xG.same]
  by_cases I:k=a
  ·subst I; simp [wY,O]
  ·simp only [I,VA,wY,Ra (λe:a=k=>I e.symm)]
   exact B1 k es l (i+1) Y
theorem run_findKey {P:Program}{w:World}{t:TypeId}{k:κ}{es:Array MapEntry}{c:Nat}{l:List (κ×ν)} (h:sM es c l) (I:∀ w,(underlying t).run P w=.ok (xG.kind κ) w):
  (Instr.findKey t (MV.mv k) es.toList).run P w=.ok ((wY l k 0).map λp=>(p.1,MV.mv p.2)) w:=by
 simp only [Instr.findKey,Rj,I,Re,B1 k es.toList l 0 h.eq,Rx]
theorem GF:∀ {l:List (κ×ν)}{k:κ}{i j:Nat}{v:ν},wY l k i=some (j,v)->i<=j/\j<i+l.length/\l[j-i]? = some (k,v)
 | [],k,i,j,v,h=>by simp [wY] at h
 | (a,u)::l,k,i,j,v,h=>by
  unfold wY at h
  split at h
  ·rename_i e; subst e
   simp only [Rp,Tw] at h;obtain ⟨rfl,rfl⟩:=h;simp
  ·obtain ⟨J,O,I⟩:=GF h
   refine ⟨by omega,by simp; omega,?_⟩
   rw [show j-i=(j-(i+1))+1 by omega,List.getElem?_cons_succ]; exact I
end
section
variable {x:Cx}{ops:Array Oper}{Q:lG}{rest:List Oper}{H:Hp}{M M':List bQ}{L L':Env}
variable {d:Nat}{ty:TypeId}{pos:String}{aft:Array Edge}{g:Option (Nat×Bool)}
variable {κ ν:Type}[DecidableEq κ] [xG κ] [MV ν]
theorem Ao {t:TypeId} (I:gd ops L ⟨some d,.makeMap t none,ty,pos,aft,g⟩=some true) (hN:Nat.blt d x.N=true)
  (k:∀ b,W x ops Q rest H (.obj b (.map #[] 0)::M) ((d,.map (some b))::L)):
  W x ops Q (⟨some d,.makeMap t none,ty,pos,aft,g⟩::rest) H M L:=
 tj rfl I hN (λc w hs ht=>⟨_,w.alloc (.map #[] 0),by
  simp only [execOp,Instr.makeMap,Uz,newObj,Rj,Rx,Sem.run,Re,World.alloc],_,_,ht.alloc _,k _⟩)
theorem xw {P:Program}{w:World}{b:Nat}{es:Array MapEntry}{c:Nat} (h:w.heap[b]? = some (.map es c)):(getObj b).run P w=.ok (.map es c) w:=by
 simp [getObj,Sem.run,h]
theorem GX {P:Program}{w:World}{t key e:TypeId}{b c:Nat}{es:Array MapEntry}{l:List (κ×ν)}{k:κ}{z:ν}{ok:Bool} (O:w.heap[b]? = some (.map es c)) (h:sM es c l)
  (J:∀ w,(underlying t).run P w=.ok (.map key e) w) (I:∀ w,(underlying key).run P w=.ok (xG.kind κ) w) (Y:∀ w,(zeroValue e).run P w=.ok (MV.mv z) w):
  (Instr.lookup t (.map (some b)) (MV.mv k) ok).run P w=.ok (if ok then .tuple #[MV.mv ((rS l k).getD z),.bool (rS l k).isSome] else MV.mv ((rS l k).getD z)) w:=by
 simp only [Instr.lookup,Rj,J,Re,xw O,Rx,xG.check P key _ k w I,run_findKey h I];unfold rS;cases hm:wY l k 0 with
 | none=>simp only [Uz,Rj,Y,Re,Rx]; rfl
 | some p=>simp only [SC,Rx,Re]; rfl
theorem BF {t key e:TypeId}{b c:Nat}{y u:Operand}{es:Array MapEntry}{l:List (κ×ν)}{k:κ}{z:ν}{J v:Q2} (hm:bQ.obj b (.map es c) ∈ M) (h:sM es c l)
  (Z:gd ops L ⟨some d,.lookup t y u false,ty,pos,aft,g⟩=some true) (hN:Nat.blt d x.N=true)
  (Y:∀ w,(underlying t).run x.P w=.ok (.map key e) w) (O:∀ w,(underlying key).run x.P w=.ok (xG.kind κ) w) (hz:∀ w,(zeroValue e).run x.P w=.ok (MV.mv z) w)
  (hy:ev L y=some (.map (some b))) (hu:ev L u=some J) (I:J=MV.mv k) (hv:MV.mv ((rS l k).getD z)=v)
  (kk:W x ops Q rest H M ((d,v)::L)):
  W x ops Q (⟨some d,.lookup t y u false,ty,pos,aft,g⟩::rest) H M L:=
 eZ rfl Z hN (λa w hs ht=>by
  subst I; subst hv
  simp only [execOp,hs.ev hy,hs.ev hu,Rj,GX (ok:=false) (ht.wA hm) h Y O hz,Re,Rx]; rfl) kk
theorem yc (w:World) (b:Nat) (o:Obj):w.grownBy { w with heap:=w.heap.setIfInBounds b o } (some b):=
 ⟨rfl,rfl,rfl,by simp,λk _ I=>by
  simp only [UI];rw [Ra (λe=>I (by rw [e]))]⟩
theorem xX {t key e:TypeId}{b c:Nat}{y u q:Operand}{es:Array MapEntry}{l:List (κ×ν)}{k:κ}{v:ν}{vk vv:Q2} (h:sM es c l)
  (hg:gd ops L ⟨none,.mapUpdate t y u q,ty,pos,aft,g⟩=some true)
  (hT:∀ w,(underlying t).run x.P w=.ok (.map key e) w) (hK:∀ w,(underlying key).run x.P w=.ok (xG.kind κ) w)
  (hy:ev L y=some (.map (some b))) (hu:ev L u=some vk) (hvk:vk=MV.mv k) (hq:ev L q=some vv) (hvv:vv=MV.mv v)
  (kk:∀ I J,sM I J (vJ l k v)->W x ops Q rest H (.obj b (.map I J)::M) L):
  W x ops Q (⟨none,.mapUpdate t y u q,ty,pos,aft,g⟩::rest) H (.obj b (.map es c)::M) L:=
 DN rfl hg (λa w hs ht=>by
  subst hvk; subst hvv
  have Z:=ht.wA (Q9 ..);have hlt:b<w.heap.size:=(Sz.1 Z).1;have Y:∀ o,(setObj b o).run x.P w=.ok () { w with heap:=w.heap.setIfInBounds b o }:=λo=>by simp [setObj,Sem.run,Z]
  have fin:∀ I J,sM I J (vJ l k v)->∃ H' M',St x.B x.w0 H' M' { w with heap:=w.heap.setIfInBounds b (.map I J) }/\W x ops Q rest H' M' L:=λI J hr=>
   ⟨H,_,ht.EJ (r':=.obj b (.map I J)) (yc w b _) (by simp [bQ.ok,hlt]) (λ_ hc=>.inl hc),kk I J hr⟩
  have hlen:es.size=l.length:=by have:=Rn List.length h.eq; simpa using this
  cases hm:wY l k 0 with
  | none=>
   refine ⟨_,?_,fin (es.push { key:=MV.mv k,val:=MV.mv v,born:=c }) (c+1) ?_⟩
   ·simp only [execOp,hs.ev hy,hs.ev hu,hs.ev hq,Instr.mapUpdate,Rj,hT,Re,xw Z,xG.check x.P key _ k w hK,run_findKey h hK,hm,Uz,Y,Rx]
   ·refine ⟨?_,?_,λe he=>?_⟩
    ·unfold vJ
     rw [hm];simp only [Array.toList_push,Ss,Te,U6];rw [show es.toList.map _=_ from h.eq]
    ·simp only [Array.toList_push,Ss,Te,U6]
     rw [R6];refine ⟨h.nd,by simp,λa ha b Z e=>?_⟩
     simp at Z; subst Z; subst e
     obtain ⟨y,hy,rfl⟩:=RY.1 ha;exact Nat.lt_irrefl _ (h.lt y hy)
    ·simp only [Array.toList_push,Rh,Rz] at he
     rcases he with he | rfl
     ·exact Nat.lt_succ_of_lt (h.lt e he)
     ·exact S7 _
  | some p=>
   obtain ⟨i,u0⟩:=p;obtain ⟨_,hi,O⟩:=GF hm;simp only [Rv,T7] at hi O;have hi':i<es.size:=by omega
   have hkey:es[i].key=MV.mv k:=by
    have h1:(es.toList.map λe=>(e.key,e.val))[i]? = some (MV.mv k,MV.mv u0):=by rw [show es.toList.map _=_ from h.eq,RH,O]; rfl
    rw [RH] at h1;simp [hi'] at h1;exact h1.1
   refine ⟨_,?_,fin (es.modify i λe=>{ e with key:=MV.mv k,val:=MV.mv v }) c ?_⟩
   ·have hg2:((es[i]?).map (·.key)).getD (MV.mv k)=MV.mv k:=by simp [hi',hkey]
    simp only [execOp,hs.ev hy,hs.ev hu,hs.ev hq,Instr.mapUpdate,Rj,hT,Re,xw Z,xG.check x.P key _ k w hK,run_findKey h hK,hm,SC,hg2,Instr.keyThatStays,xG.bits,UM,Y,Rx]
   ·have hbn:(es.modify i λe=>{ e with key:=MV.mv k,val:=MV.mv v }).toList.map (·.born)=es.toList.map (·.born):=by
     simp only [Array.toList_modify];apply SM;intro j;rw [RH,RH,List.getElem?_modify]
     by_cases e:i=j
     ·subst e; cases es.toList[i]? <;> simp
     ·simp [Ra e]
    refine ⟨?_,by rw [hbn]; exact h.nd,λe he=>?_⟩
    rotate_left
    ·have h1:e.born ∈ es.toList.map (·.born):=by rw [<- hbn]; exact RY.2 ⟨e,he,rfl⟩
     obtain ⟨y,hy,hyb⟩:=RY.1 h1;rw [<- hyb]; exact h.lt y hy
    unfold vJ;rw [hm];simp only [Array.toList_modify];apply SM;intro j;rw [RH,RH,List.getElem?_modify,UH];have hj:(es.toList.map λe=>(e.key,e.val))[j]? = (l.map λp=>(MV.mv p.1,MV.mv p.2))[j]? := by rw [show es.toList.map _=_ from h.eq]
    rw [RH,RH] at hj
    by_cases e:i=j
    ·subst e
     simp [hi',hi]
    ·simp only [Ra e]
     simpa using hj)
end
section
variable {x:Cx}{ops:Array Oper}{Q:lG}{rest:List Oper}{H:Hp}{M M':List bQ}{L L':Env}
variable {d:Nat}{ty:TypeId}{pos:String}{aft:Array Edge}{g:Option (Nat×Bool)}
theorem xW {t:TypeId}{y:Operand}{f:Nat}{cs:List Q2}{v:Q2}{fs:Array Field}{I:Field} (Y:gd ops L ⟨some d,.field t y f,ty,pos,aft,g⟩=some true) (hN:Nat.blt d x.N=true)
  (J:∀ w,(underlying t).run x.P w=.ok (.struct fs) w) (O:fs[f]? = some I) (hA:∀ w,(isAgg I.type).run x.P w=.ok false w)
  (hy:ev L y=some (.agg cs.toArray)) (Z:cs[I.offset]? = some v) (k:W x ops Q rest H M ((d,v)::L)):
  W x ops Q (⟨some d,.field t y f,ty,pos,aft,g⟩::rest) H M L:=
 eZ rfl Y hN (λa w hs ht=>by simp [execOp,hs.ev hy,Instr.field,J,O,asAgg,part,hA,Z]) k
theorem JF {t e:TypeId}{y z:Operand}{n sz:Nat}{cs:List Q2}{v:Q2}{kk:IntKind}{i:Int} (Y:gd ops L ⟨some d,.index t y z,ty,pos,aft,g⟩=some true) (hN:Nat.blt d x.N=true)
  (O:∀ w,(underlying t).run x.P w=.ok (.array n e) w) (hA:∀ w,(isAgg e).run x.P w=.ok false w) (hn:∀ w,(sizeOf e).run x.P w=.ok sz w)
  (hy:ev L y=some (.agg cs.toArray)) (hz:ev L z=some (.int kk i)) (J:0<=i) (h1:i.toNat<n) (Z:cs[i.toNat*sz]? = some v) (k:W x ops Q rest H M ((d,v)::L)):
  W x ops Q (⟨some d,.index t y z,ty,pos,aft,g⟩::rest) H M L:=
 eZ rfl Y hN (λa w hs ht=>by
  have I:i<(n:Int):=by omega
  simp [execOp,hs.ev hy,hs.ev hz,Instr.index,asIntOf,O,J,I,hn,part,hA,Z]) k
theorem oE {t e u:TypeId}{y z:Operand}{a:Option Addr} (O:gd ops L ⟨some d,.binOp .eql t y z u,ty,pos,aft,g⟩=some true) (hN:Nat.blt d x.N=true)
  (J:∀ w,(underlying t).run x.P w=.ok (.pointer e) w) (Y:ev L y=some (.pointer a)) (Z:ev L z=some (.pointer none))
  (k:W x ops Q rest H M ((d,.bool a.isNone)::L)):W x ops Q (⟨some d,.binOp .eql t y z u,ty,pos,aft,g⟩::rest) H M L:=
 eZ rfl O hN (λc w hs _=>by
  have key:∀ k,(Op.equalIn (k+1) t (.pointer a) (.pointer none)).run x.P w=.ok a.isNone w:=λk=>by
   unfold Op.equalIn;cases a <;> simp [J]
  have I:(Op.equal t (.pointer a) (.pointer none)).run x.P w=.ok a.isNone w:=key 9999;simp only [execOp,hs.ev Y,hs.ev Z,Rj,eqGuard,binOp];simp [I]) k
theorem BD {t u:TypeId}{y z:Operand}{a b:Bool} (O:gd ops L ⟨some d,.binOp .eql t y z u,ty,pos,aft,g⟩=some true) (hN:Nat.blt d x.N=true)
  (J:∀ w,(underlying t).run x.P w=.ok .bool w) (Y:ev L y=some (.bool a)) (Z:ev L z=some (.bool b))
  (k:W x ops Q rest H M ((d,.bool (decide (a=b)))::L)):W x ops Q (⟨some d,.binOp .eql t y z u,ty,pos,aft,g⟩::rest) H M L:=
 eZ rfl O hN (λc w hs _=>by
  have e:(a == b)=decide (a=b):=by cases a <;> cases b <;> rfl
  have key:∀ k,(Op.equalIn (k+1) t (.bool a) (.bool b)).run x.P w=.ok (decide (a=b)) w:=λk=>by
   unfold Op.equalIn;simp [J,e]
  have I:(Op.equal t (.bool a) (.bool b)).run x.P w=.ok (decide (a=b)) w:=key 9999;simp only [execOp,hs.ev Y,hs.ev Z,Rj,eqGuard,binOp];simp [I]) k
theorem EV {t u:TypeId}{y z:Operand}{a b:Bool} (O:gd ops L ⟨some d,.binOp .neq t y z u,ty,pos,aft,g⟩=some true) (hN:Nat.blt d x.N=true)
  (J:∀ w,(underlying t).run x.P w=.ok .bool w) (Y:ev L y=some (.bool a)) (Z:ev L z=some (.bool b))
  (k:W x ops Q rest H M ((d,.bool (!decide (a=b)))::L)):W x ops Q (⟨some d,.binOp .neq t y z u,ty,pos,aft,g⟩::rest) H M L:=
 eZ rfl O hN (λc w hs _=>by
  have e:(a == b)=decide (a=b):=by cases a <;> cases b <;> rfl
  have key:∀ k,(Op.equalIn (k+1) t (.bool a) (.bool b)).run x.P w=.ok (decide (a=b)) w:=λk=>by
   unfold Op.equalIn;simp [J,e]
  have I:(Op.equal t (.bool a) (.bool b)).run x.P w=.ok (decide (a=b)) w:=key 9999;simp only [execOp,hs.ev Y,hs.ev Z,Rj,eqGuard,binOp];simp [I]) k
end
def GD (acc:List Nat) (o:Oper):Nat:=(iN o).foldl (λm j=>m ||| ((1 <<< j) ||| acc.getD j 0)) 0
def Co:List Nat->List Oper->List Nat
 | acc,[]=>acc
 | acc,o::r=>Co (acc++[GD acc o]) r
theorem Cn {acc:List Nat}{j:Nat}:∀ (ws:List Nat) (z:Nat),(ws.foldl (λm j=>m ||| ((1 <<< j) ||| acc.getD j 0)) z).testBit j=true ->
  z.testBit j=true\/∃ q ∈ ws,j=q\/(acc.getD q 0).testBit j=true
 | [],z,h=>.inl h
 | q::ws,z,h=>by
  rcases Cn ws _ h with h | ⟨r,J,h⟩
  ·rw [Nat.testBit_or,Nat.testBit_or,SP,SP] at h
   rcases h with h | h | h
   ·exact .inl h
   ·refine .inr ⟨q,Q9 ..,.inl ?_⟩
    rw [Nat.shiftLeft_eq,UU,Nat.testBit_two_pow] at h;simpa using (Q_ h).symm
   ·exact .inr ⟨q,Q9 ..,.inr h⟩
  ·exact .inr ⟨r,Rc _ J,h⟩
theorem yn {l:List Oper}{listed:Nat->Prop} (dc:∀ i o,l[i]? = some o->listed i->∀ j ∈ iN o,listed j):
  ∀ (r:List Oper) (acc:List Nat),(∀ i o,r[i]? = some o->l[acc.length+i]? = some o) ->
   (∀ i,i<acc.length->∀ o,l[i]? = some o->(∀ q ∈ iN o,listed q)->∀ j,(acc.getD i 0).testBit j=true->listed j) ->
   ∀ i,i<acc.length+r.length->∀ o,l[i]? = some o->(∀ q ∈ iN o,listed q)->∀ j,((Co acc r).getD i 0).testBit j=true->listed j
 | [],acc,_,h,i,hi,o,ho,hw,j,hj=>h i (by simpa using hi) o ho hw j hj
 | p::r,acc,hr,h,i,hi,o,ho,hw,j,hj=>by
  refine yn dc r (acc++[GD acc p]) (λk q hk=>?_) ?_ i (by simp at hi ⊢; omega) o ho hw j hj
  ·have:=hr (k+1) q (by simpa using hk)
   rw [Ro,Sa]
   rwa [show acc.length+1+k=acc.length+(k+1) by omega]
  ·intro k hk q hq Y b Z
   by_cases hkl:k<acc.length
   ·refine h k hkl q hq Y b ?_
    rw [RM,Sk hkl] at Z;rw [RM]; exact Z
   ·have hke:k=acc.length:=by simp at hk; omega
    subst hke;have hp:p=q:=by
     have:=hr 0 p rfl;rw [SH,hq] at this;exact (Q8 this).symm
    subst hp;rw [RM,RN (Rq _),Sq] at Z;simp only [List.getElem?_cons_zero,S9] at Z;unfold GD at Z;rcases Cn _ _ Z with h0 | ⟨q,hqm,rfl | O⟩
    ·simp at h0
    ·exact Y b hqm
    ·by_cases hql:q<acc.length
     ·have hlq:=Y q hqm
      cases J:l[q]? with
      | none=>
       have:acc.length<l.length:=(Q7.1 hq).1;have:=List.getElem?_eq_none_iff.1 J;omega
      | some oq=>exact h q hql oq J (dc q oq J hlq) b O
     ·rw [RM,R4 (by omega)] at O
      simp at O
def vD (l:List Oper) (m:Nat):Bool:=
 l.zipIdx.all (λp=>(iN p.1).all λj=>Nat.blt j p.2) &&
 l.zipIdx.all λp=>Nat.blt p.2 m || (List.range p.2).all λj=>((Co [] l).getD p.2 0).testBit j
theorem rG {l:List Oper}{m:Nat} (J:vD l m=true) {i:Nat}{o:Oper} (O:l[i]? = some o):∀ j ∈ iN o,j<i:=by
 unfold vD at J;rw [SK,Sj] at J;have:=J.1 (o,i) (by rw [List.mem_zipIdx_iff_getElem?]; simpa using O)
 simpa only [Sj,Sh] using this
theorem CD {l:List Oper}{m:Nat} (O:vD l m=true) {listed:Nat->Prop} (dc:∀ i o,l[i]? = some o->listed i->∀ j ∈ iN o,listed j)
  {i:Nat}{o:Oper} (Z:l[i]? = some o) (hm:m<=i) (hw:∀ q ∈ iN o,listed q):∀ j,j<i->listed j:=by
 unfold vD at O;rw [SK,Sj,Sj] at O;have J:=O.2 (o,i) (by rw [List.mem_zipIdx_iff_getElem?]; simpa using Z)
 simp only [SP,Sh,Sj,R5] at J;have hi:i<l.length:=(Q7.1 Z).1;intro j hj;rcases J with J | J
 ·omega
 ·exact yn dc l [] (λk q Y=>by simpa using Y) (λk Y=>by simp at Y) i (by simpa using hi) o Z hw j (J j hj)
def um:List Nat->(Nat->List bQ)->List bQ->List bQ
 | [],_,M=>M
 | c::cs,R,M=>R c++um cs R M
theorem Ag (cs:List Nat) (R:Nat->List bQ) (M:List bQ):um cs R M=cs.flatMap R++M:=by
 induction cs with
 | nil=>rfl
 | cons c cs ih=>rw [um,ih,Sp,RG]
def CR (R:Nat->List bQ) (i:Nat) (rs:List bQ):Nat->List bQ:=λk=>bif Nat.beq k i then rs else R k
theorem AM (R:Nat->List bQ) (i:Nat) (rs:List bQ):CR R i rs i=rs:=by simp [CR]
theorem Bl (R:Nat->List bQ) (i k:Nat) (rs:List bQ) (h:k≠i):CR R i rs k=R k:=by
 unfold CR;cases J:Nat.beq k i with
 | false=>rfl
 | true=>exact absurd (Tq J) h
abbrev NQ:=Nat->Hp->List bQ->Q2->Prop
def MA:Option Nat->Q2->Env->Env
 | some t,v,L=>(t,v)::L
 | none,_,L=>L
def HB (l:List Oper) (j:Nat):Option Nat:=match l[j]? with
 | none=>none
 | some o=>match o.dst with
  | some _=>none
  | none=>match o.op with
   | .store _ (.tmp s) _=>bif (iN o).any (λw=>match (l[w]?).bind (·.dst) with
    | some u=>Nat.beq u s
    | none=>false) then some s else none
   | _=>none
theorem Od {l:List Oper}{j s:Nat} (h:HB l j=some s):∃ o,l[j]? = some o/\o.dst=none/\∃ w ∈ iN o,(l[w]?).bind (·.dst)=some s:=by
 unfold HB at h
 split at h
 ·cases h
 ·rename_i o ho
  split at h
  ·cases h
  ·rename_i hd
   split at h
   ·rename_i T s' z hop
    cases J:(iN o).any (λw=>match (l[w]?).bind (·.dst) with
     | some u=>Nat.beq u s'
     | none=>false) with
    | false=>rw [J] at h; cases h
    | true=>
     rw [J] at h;cases h;rw [List.any_eq_true] at J;obtain ⟨w,O,J⟩:=J;refine ⟨o,ho,hd,w,O,?_⟩
     split at J
     ·rename_i u hu
      rw [hu,Tq J]
     ·cases J
   ·cases h
def w7 (l:List Oper) (Φ:NQ) (H:Hp):List Nat->Env->(Nat->List bQ)->(Env->(Nat->List bQ)->Prop)->Prop
 | [],L,R,k=>k L R
 | j::J,L,R,k=>match (l[j]?).bind (·.dst) with
  | some t=>∀ v rs,Φ j H rs v->w7 l Φ H J ((t,v)::L) (CR R j rs) k
  | none=>match HB l j with
   | none=>∀ rs,Φ j H rs undef->w7 l Φ H J L (CR R j rs) k
   | some s=>∀ v rs,(∀ u,lk L s=some u->v=u)->Φ j H rs v->w7 l Φ H J L (CR R j rs) k
def P5 (L:Env) (v:Q2):Option Nat->Option Nat->Prop
 | some _,_=>True
 | none,none=>v=undef
 | none,some s=>lk L s=some v
def DG (x:Cx) (H:Hp) (M:List bQ) (L:Env) (t J:Option Nat) (O:Hp->List bQ->Q2->Prop):lG:=λe a w=>
 e=.normal/\∃ v H' rs,Sl x.N (MA t v L) a/\P5 L v t J/\H.le H'/\St x.B x.w0 H' (rs++M) w/\O H' rs v
theorem fE {x:Cx}{H H':Hp}{M:List bQ}{L:Env}{t:Nat}{Y:Option Nat}{v:Q2}{O:Hp->List bQ->Q2->Prop} (rs:List bQ) (J:H.le H') (h:O H' rs v):E x .normal (DG x H M L (some t) Y O) H' (rs++M) ((t,v)::L):=
 λ_ _ hs ht=>⟨rfl,v,H',rs,hs,Q3,J,ht,h⟩
theorem Df {x:Cx}{H H':Hp}{M:List bQ}{L:Env}{O:Hp->List bQ->Q2->Prop} (rs:List bQ) (J:H.le H') (h:O H' rs undef):E x .normal (DG x H M L none none O) H' (rs++M) L:=
 λ_ _ hs ht=>⟨rfl,undef,H',rs,hs,rfl,J,ht,h⟩
theorem nF {x:Cx}{H H':Hp}{M:List bQ}{L:Env}{s:Nat}{v:Q2}{O:Hp->List bQ->Q2->Prop} (hl:lk L s=some v) (rs:List bQ) (J:H.le H') (h:O H' rs v):E x .normal (DG x H M L none (some s) O) H' (rs++M) L:=
 λ_ _ hs ht=>⟨rfl,v,H',rs,hs,hl,J,ht,h⟩
def EI (m:Nat) (I:List (List bQ)):Nat->List bQ:=λk=>if k<m then [] else I.getD (k-m) []
def xU (x:Cx) (l:List Oper) (Φ:NQ) (C U:List (List Nat)) (Es:List Env) (J:Nat->List bQ) (H:Hp) (M:List bQ) (L:Env):Nat->List Oper->Prop
 | _,[]=>True
 | i,o::r=>(∀ H',H.le H'->∀ X Rest,(∀ s ∈ M,s ∈ Rest)->w7 l Φ H' (iN o) (Es.getD i []++(L++X)) J (λL' R=>(∀ s ∈ um (U.getD i []) R [],s ∈ Rest)->(∃ O,(um (U.getD i []) R O).Perm Rest)->W x l.toArray (DG x H' Rest L' o.dst (HB l i) (Φ i)) [o] H' (um (C.getD i []) R Rest) L')) /\
   xU x l Φ C U Es J H M L (i+1) r
theorem xU.at {x:Cx}{l:List Oper}{Φ:NQ}{C U:List (List Nat)}{Es:List Env}{J:Nat->List bQ}{H:Hp}{M:List bQ}{L:Env}:∀ {r:List Oper}{i:Nat},xU x l Φ C U Es J H M L i r->∀ j o,r[j]? = some o ->
  ∀ H',H.le H'->∀ X Rest,(∀ s ∈ M,s ∈ Rest)->w7 l Φ H' (iN o) (Es.getD (i+j) []++(L++X)) J (λL' R=>(∀ s ∈ um (U.getD (i+j) []) R [],s ∈ Rest)->(∃ O,(um (U.getD (i+j) []) R O).Perm Rest)->W x l.toArray (DG x H' Rest L' o.dst (HB l (i+j)) (Φ (i+j))) [o] H' (um (C.getD (i+j) []) R Rest) L')
 | [],_,_,j,o,h=>by simp at h
 | p::r,i,hh,0,o,h=>by simp at h; subst h; exact hh.1
 | p::r,i,hh,j+1,o,h=>by
  have:=xU.at hh.2 j o (by simpa using h)
  rwa [show i+1+j=i+(j+1) from by omega] at this
def tQ (a:Act) (v:Q2):Option Nat->Option Nat->Prop
 | some t,_=>a.tmps[t]? = some v
 | none,none=>v=undef
 | none,some s=>a.tmps[s]? = some v
theorem w7.use {l:List Oper}{Φ:NQ}{H:Hp}{a:Act}{N:Nat}{Rt:Nat->List bQ}:∀ {js:List Nat}{L:Env}{R:Nat->List bQ}{k:Env->(Nat->List bQ)->Prop},w7 l Φ H js L R k->Sl N L a ->
  (∀ j ∈ js,∃ v,tQ a v ((l[j]?).bind (·.dst)) (HB l j)/\Φ j H (Rt j) v) ->
  ∃ Y R',k (Y++L) R'/\Sl N (Y++L) a/\(∀ t v,(t,v) ∈ Y->a.tmps[t]? = some v)/\(∀ q,q ∈ js->R' q=Rt q)/\∀ q,q ∉ js->R' q=R q
 | [],L,R,k,h,hs,_=>⟨[],R,h,hs,by simp,by simp,λq _=>rfl⟩
 | j::js,L,R,k,h,hs,hv=>by
  obtain ⟨v,O,h2⟩:=hv j (Q9 ..);have J:∀ {R':Nat->List bQ},(∀ q,q ∈ js->R' q=Rt q)->(∀ q,q ∉ js->R' q=CR R j (Rt j) q)->(∀ q,q ∈ j::js->R' q=Rt q)/\∀ q,q ∉ j::js->R' q=R q:=by
   intro R' h6 Z;constructor
   ·intro q hq
    by_cases hqj:q ∈ js
    ·exact h6 q hqj
    ·rcases RU.1 hq with rfl | hq
     ·rw [Z _ hqj,AM]
     ·exact absurd hq hqj
   ·intro q hq
    rw [Z q (λh=>hq (Rc _ h)),Bl _ _ _ _ (λe=>hq (by rw [e]; exact Q9 ..))]
  unfold w7 at h;cases ht:(l[j]?).bind (·.dst) with
  | none=>
   rw [ht] at h O;cases hk:HB l j with
   | none=>
    rw [hk] at h O;simp only [tQ] at O;subst O;obtain ⟨Y,R',h3,h4,h5,h6,Z⟩:=w7.use (h (Rt j) h2) hs (λi hi=>hv i (Rc _ hi));exact ⟨Y,R',h3,h4,h5,(J h6 Z).1,(J h6 Z).2⟩
   | some s=>
    rw [hk] at h O;simp only [tQ] at O;obtain ⟨Y,R',h3,h4,h5,h6,Z⟩:=w7.use (h v (Rt j) (λu hu=>by have:=hs.get s u hu; rw [O] at this; exact Q8 this) h2) hs (λi hi=>hv i (Rc _ hi))
    exact ⟨Y,R',h3,h4,h5,(J h6 Z).1,(J h6 Z).2⟩
  | some t=>
   rw [ht] at h O;simp only [tQ] at O;obtain ⟨Y,R',h3,h4,h5,h6,Z⟩:=w7.use (h v (Rt j) h2) (hs.cons O) (λi hi=>hv i (Rc _ hi));refine ⟨Y++[(t,v)],R',by simpa using h3,by simpa using h4,?_,(J h6 Z).1,(J h6 Z).2⟩
   intro u w hm;rcases Rh.1 hm with hm | hm
   ·exact h5 u w hm
   ·simp at hm; obtain ⟨rfl,rfl⟩:=hm; exact O
def D2 (l:List Oper) (m:Nat) (Es:List Env):Bool:=
 (List.range m).all λi=>((Es.getD i []).map (·.1)).all λt=>(List.range m).all λw=>match (l[w]?).bind (·.dst) with
  | some u=>!Nat.beq u t || ((Co [] l).getD w 0).testBit i
  | none=>true
def y9 (l:List Oper) (m:Nat) (L:Env):Bool:=
 (l.take m).all (λo=>match o.dst with
  | some t=>(lk L t).isNone
  | none=>true)
def y_ (l:List Oper) (m:Nat):Bool:=decide (((l.take m).filterMap (·.dst)).Nodup)
def G2 (l:List Oper) (m K:Nat) (C U:List (List Nat)) (live:List Nat):Bool:=
 ((List.range m).all λi=>(U.getD i []).all λu=>(Nat.ble m u || match l[i]? with
  | some o=>(iN o).contains u
  | none=>false) && Nat.blt u K && (List.range m).all λi'=>!(C.getD i' []).contains u || ((Co [] l).getD i' 0).testBit i) &&
 Nat.beq C.length m && (List.range m).all (λi=>(C.getD i []).all λc=>Nat.ble m c || match l[i]? with
  | some o=>(iN o).contains c
  | none=>false) &&
 (C.flatten++live).all (λc=>Nat.blt c K) && ((List.range K).all λk=>Nat.beq ((C.flatten++live).count k) 1) && (List.range m).all λi=>decide ((U.getD i []).Nodup)
section
variable {x:Cx}{l:List Oper}{m K:Nat}{Φ:NQ}{C U:List (List Nat)}{live:List Nat}{I:List (List bQ)}{Es:List Env}{H:Hp}{M:List bQ}{L L0:Env}{Q:lG}
structure AQ (l:List Oper) (m K:Nat) (C U:List (List Nat)) (live:List Nat):Prop where
 len:C.length=m
 wait:∀ i o,i<m->l[i]? = some o->∀ c ∈ C.getD i [],m<=c\/c ∈ iN o
 lt:∀ c ∈ C.flatten++live,c<K
 nd:(C.flatten++live).Nodup
 all:∀ k,k<K->k ∈ C.flatten++live
 Pj:∀ i o,i<m->l[i]? = some o->∀ u ∈ U.getD i [],(m<=u\/u ∈ iN o)/\u<K
 Ph:∀ i,i<m->∀ u ∈ U.getD i [],∀ i',i'<m->u ∈ C.getD i' []->((Co [] l).getD i' 0).testBit i=true
 Qd:∀ i,i<m->(U.getD i []).Nodup
theorem MN (h:G2 l m K C U live=true):AQ l m K C U live:=by
 unfold G2 at h;simp only [SK] at h;obtain ⟨⟨⟨⟨⟨h0,h1⟩,h2⟩,h3⟩,h4⟩,J⟩:=h;rw [Sj] at h0 h2 h3 h4 J;have hU:∀ i,i<m->∀ u ∈ U.getD i [],((Nat.ble m u || match l[i]? with
  | some o=>(iN o).contains u
  | none=>false)=true/\u<K)/\∀ i',i'<m->u ∈ C.getD i' []->((Co [] l).getD i' 0).testBit i=true:=by
  intro i hi u Z;have:=h0 i (R5.2 hi);rw [Sj] at this;have:=this u Z;rw [SK,SK,Sj] at this;refine ⟨⟨this.1.1,by simpa [Sh] using this.1.2⟩,λi' hi' O=>?_⟩
  have J:=this.2 i' (R5.2 hi');rw [SP] at J;rcases J with J | J
  ·have h6:(C.getD i' []).contains u=true:=by rw [TO]; exact O
   rw [h6] at J; cases J
  ·exact J
 have O:∀ k,k<K->(C.flatten++live).count k=1:=λk hk=>Tq (h4 k (R5.2 hk));have Y:∀ c ∈ C.flatten++live,c<K:=λc O=>by simpa [Sh] using h3 c O
 refine ⟨Tq h1,?_,Y,?_,?_,?_,λi hi u Z=>(hU i hi u Z).2,λi hi=>Q_ (J i (R5.2 hi))⟩
 ·intro i o hi ho c O
  have:=h2 i (R5.2 hi);rw [Sj] at this;have:=this c O;rw [ho] at this;simpa [SP,TN,TO] using this
 ·rw [List.nodup_iff_count]
  intro a
  by_cases ha:a<K
  ·rw [O a ha]; exact Rq _
  ·rw [Uu.2 (λhm=>ha (Y a hm))]; omega
 ·intro k hk
  rw [<- List.count_pos_iff,O k hk]; omega
 ·intro i o hi ho u Z
  have:=(hU i hi u Z).1;rw [ho] at this;refine ⟨?_,this.2⟩;have J:=this.1;rw [SP] at J;rcases J with J | J
  ·exact .inl (by simpa [TN] using J)
  ·exact .inr (by simpa [TO] using J)
theorem AQ.uniq (h:AQ l m K C U live) {i i' k:Nat} (hi:k ∈ C.getD i []) (J:k ∈ C.getD i' []):i=i':=by
 have O:=(R6.1 h.nd).1;unfold List.Nodup at O;rw [List.pairwise_flatten] at O;have Y:=Ue.1 O.2;have Z:i<C.length:=by
  by_cases e:i<C.length
  ·exact e
  ·rw [RM,R4 (by omega)] at hi; simp at hi
 have g2:i'<C.length:=by
  by_cases e:i'<C.length
  ·exact e
  ·rw [RM,R4 (by omega)] at J; simp at J
 rw [RM,Q4 Z] at hi;rw [RM,Q4 g2] at J;simp only [S9] at hi J;rcases Uc i i' with q | q | q
 ·exact absurd rfl (Y i i' Z g2 q _ hi _ J)
 ·exact q
 ·exact absurd rfl (Y i' i g2 Z q _ J _ hi)
theorem AQ.mem (h:AQ l m K C U live) {i k:Nat} (hi:k ∈ C.getD i []):k ∈ C.flatten:=by
 have J:i<C.length:=by
  by_cases e:i<C.length
  ·exact e
  ·rw [RM,R4 (by omega)] at hi; simp at hi
 rw [RM,Q4 J] at hi;exact List.mem_flatten.2 ⟨_,RI J,hi⟩
theorem AQ.QH (h:AQ l m K C U live) (i:Nat):(C.getD i []).Nodup:=by
 have J:=(R6.1 h.nd).1;unfold List.Nodup at J;rw [List.pairwise_flatten] at J
 by_cases e:i<C.length
 ·rw [RM,Q4 e]; exact J.1 _ (RI e)
 ·rw [RM,R4 (by omega)]; simp
def alive (m:Nat) (C:List (List Nat)) (listed:Array Bool) (k:Nat):Bool:=(Nat.ble m k || listed.getD k false) && !(List.range m).any λi=>listed.getD i false && (C.getD i []).contains k
theorem sG {listed:Array Bool}{k:Nat}:alive m C listed k=true↔(m<=k\/listed.getD k false=true)/\∀ i,i<m->listed.getD i false=true->k ∉ C.getD i []:=by
 unfold alive;simp only [SK,SP,TN,Vk,List.any_eq_false,R5,TO];constructor
 ·rintro ⟨J,O⟩; exact ⟨J,λi hi hl hm=>O i hi ⟨hl,hm⟩⟩
 ·rintro ⟨J,O⟩; exact ⟨J,λi hi ⟨hl,hm⟩=>O i hi hl hm⟩
theorem FO (hB:vD l m=true):∀ (f i:Nat) (listed:Array Bool) (a:Act) (w:World),m<=i->listed.size=l.length->i<=l.length->l.length<=i+f ->
  (∀ j,j<l.length->listed.getD j true=decide (j<i))->wpList x.P l.toArray Q (l.drop i) a w->wpAny x.P .any l.toArray Q f listed a w
 | 0,i,listed,a,w,hm,hsz,hf0,hf,hl,h=>by
  have hi:i=l.length:=by omega
  refine ⟨?_,by rw [hi,TY] at h; exact h⟩
  rw [List.eq_nil_iff_forall_not_mem];intro j J;obtain ⟨h1,h2,_⟩:=mem_ready.1 J;rw [hl j (by simpa using h1)] at h2
  simp at h1 h2; omega
 | f+1,i,listed,a,w,hm,hsz,hf0,hf,hl,h=>by
  by_cases e2:i=l.length
  ·have O:Region.ready .any l.toArray listed=[]:=by
    rw [List.eq_nil_iff_forall_not_mem];intro j J;obtain ⟨q1,q2,_⟩:=mem_ready.1 J;rw [hl j (by simpa using q1)] at q2
    simp at q1 q2; omega
   exact ⟨λ_=>by rw [e2,TY] at h; exact h,λj J=>by rw [O] at J; cases J⟩
  ·have hi:i<l.length:=by omega
   have ho:l[i]? = some l[i]:=Q4 hi;have Y:∀ j,j<l.length->listed.getD j false=decide (j<i):=λj J=>by
    have:=hl j J;simp only [RW] at this ⊢;rw [TS (by omega)] at this ⊢
    simpa using this
   have Z:i ∈ Region.ready .any l.toArray listed:=by
    refine mem_ready.2 ⟨by simpa using hi,by rw [hl i hi]; simp,l[i],by simp,λj J=>?_⟩
    have hj':=rG hB ho j J;rw [Y j (by omega)]; simpa using hj'
   have huniq:∀ j ∈ Region.ready .any l.toArray listed,j=i:=by
    intro j J;obtain ⟨q1,q2,o,ho',hw⟩:=mem_ready.1 J;have q1':j<l.length:=by simpa using q1
    rw [hl j q1'] at q2;have hji:i<=j:=by simpa using q2
    by_cases e:j=i
    ·exact e
    ·exfalso
     have:=CD hB (listed:=λq=>q<i) (λk o hk hki q hq=>by have:=rG hB hk q hq; omega) (i:=j) (o:=o) (by simpa using ho') (by omega)
      (λq hq=>by
       have h1:=hw q hq;have h2:=rG hB (i:=j) (o:=o) (by simpa using ho') q hq
       rw [Y q (by omega)] at h1
       simpa using h1) i (by omega)
     omega
   refine ⟨λhe=>(by rw [he] at Z; cases Z),λj J=>?_⟩
   obtain rfl:=huniq j J;unfold wpOp;rw [show l.toArray[j]? = some l[j] from by simp]
   rw [RK hi] at h;have step:∀ a w,wpList x.P l.toArray Q (l.drop (j+1)) a w->wpAny x.P .any l.toArray Q f (listed.setIfInBounds j true) a w:=λa w hh=>
    FO hB f (j+1) _ a w (by omega) (by simpa using hsz) (by omega) (by omega) (λk hk=>by
     rw [vc _ _ _ _ (by omega),hl k hk]
     by_cases e:k=j
     ·subst e; simp
     ·simp [e]; omega) hh
   unfold wpList at h
   dsimp only
   split
   ·rename_i hw; rw [Rb hw] at h; exact h.imp (Oper.wp_mono step) id
   ·rename_i hw; rw [Ra hw] at h; exact step _ _ h
theorem zZ {A B:List Nat} (J:A.Nodup) (O:B.Nodup) (h:∀ a,a ∈ A↔a ∈ B) (R:Nat->List bQ) (M:List bQ):(A.flatMap R++M).Perm (B.flatMap R++M):=
 (((List.perm_ext_iff_of_nodup J O).2 h).flatMap_right R).append_right M
theorem uM {A:List Nat}{R R':Nat->List bQ} (h:∀ a ∈ A,R a=R' a):A.flatMap R=A.flatMap R':=by
 induction A with
 | nil=>rfl
 | cons a A ih=>rw [Sp,Sp,h a (Q9 ..),ih λb J=>h b (Rc _ J)]
theorem Mw (hB:vD l m=true) (hml:m<=l.length) (hD:y9 l m L0=true) (hX0:D2 l m Es=true) (hL0:∀ t v,lk L0 t=some v->lk L t=some v) (hE:∀ i t v,lk (Es.getD i []) t=some v->lk L t=some v) (hNd:y_ l m=true) (hT:AQ l m K C U live) (hmK:m<=K)
  (hmono:∀ i H1 H2 rs v,H1.le H2->Φ i H1 rs v->Φ i H2 rs v)
  (hop:xU x l Φ C U Es (EI m I) H M L0 0 (l.take m))
  (k:∀ H',H.le H'->w7 l Φ H' (List.range m) L0 (EI m I) (λL' R=>W x l.toArray Q (l.drop m) H' (um live R M) L')):
  ∀ (J:Nat) (listed:Array Bool) (a:Act) (w:World) (H':Hp) (R:Nat->List bQ),listed.size=l.length->left l listed<=J->(∀ j,m<=j->j<l.length->listed.getD j true=false) ->
   (∀ i o,l[i]? = some o->listed.getD i false=true->∀ j ∈ iN o,listed.getD j false=true) ->
   H.le H'->St x.B x.w0 H' (((List.range K).filter (alive m C listed)).flatMap R++M) w->Sl x.N [] a->(∀ t v,lk L t=some v->(∀ w o,w<m->l[w]? = some o->o.dst=some t->listed.getD w false=false)->a.tmps[t]? = some v)->(∀ q,m<=q->R q=EI m I q) ->
   (∀ i o,i<m->l[i]? = some o->listed.getD i true=true->∃ v,tQ a v o.dst (HB l i)/\Φ i H' (R i) v) ->
   wpAny x.P .any l.toArray Q J listed a w:=by
 have hdst:∀ i o t,i<m->l[i]? = some o->o.dst=some t->lk L0 t=none:=by
  intro i o t him ho hd;have htake:(l.take m)[i]? = some o:=by rw [RX,Rb him]; exact ho
  unfold y9 at hD;rw [Sj] at hD;have:=hD o (Rg htake);rw [hd] at this; simpa using this
 have fin:∀ (J:Nat) (listed:Array Bool) (a:Act) (w:World) (H':Hp) (R:Nat->List bQ),listed.size=l.length->left l listed<=J->(∀ j,m<=j->j<l.length->listed.getD j true=false) ->
   H.le H'->St x.B x.w0 H' (((List.range K).filter (alive m C listed)).flatMap R++M) w->Sl x.N [] a->(∀ t v,lk L t=some v->(∀ w o,w<m->l[w]? = some o->o.dst=some t->listed.getD w false=false)->a.tmps[t]? = some v)->(∀ q,m<=q->R q=EI m I q) ->
   (∀ i o,i<m->l[i]? = some o->listed.getD i true=true->∃ v,tQ a v o.dst (HB l i)/\Φ i H' (R i) v) ->
   (∀ j,j<m->listed.getD j true=true)->wpAny x.P .any l.toArray Q J listed a w:=by
  intro J listed a w H' R hsz hf htl hle ht hs0 hsl uX hv hall;have hs:Sl x.N L0 a:=⟨hs0.size,hs0.Fa,λt v h=>hsl t v (hL0 t v h) (λw o hw ho hd=>by rw [hdst w o t hw ho hd] at h; cases h)⟩
  have hget:∀ j,j<l.length->listed.getD j false=listed.getD j true:=λj hj=>by
   simp only [RW];rw [TS (by omega)]; rfl
  obtain ⟨Y,R',h1,h2,_,h3,h4⟩:=w7.use (Rt:=R) (k H' hle) hs (λj hj=>by
   have hj':=R5.1 hj;have ho:l[j]? = some l[j]:=Q4 (by omega)
   rw [ho];exact hv j _ hj' ho (hall j hj'))
  have hR:∀ q,R' q=R q:=λq=>by
   by_cases Z:q<m
   ·exact h3 q (R5.2 Z)
   ·rw [h4 q (λh=>Z (R5.1 h)),uX q (by omega)]
  have hwl:wpList x.P l.toArray Q (l.drop m) a w:=by
   refine h1 a w h2 (ht.perm ?_);rw [Ag,uM (R:=R') (R':=R) (λq _=>hR q)];refine zZ (List.nodup_range.filter _) (R6.1 hT.nd).2.1 ?_ R M;intro q;rw [Sg,R5,sG];constructor
   ·rintro ⟨h5,h6,h7⟩
    rcases Rh.1 (hT.all q h5) with h8 | h8
    ·exfalso
     obtain ⟨c,hc,hqc⟩:=List.mem_flatten.1 h8;obtain ⟨i,hi,rfl⟩:=Sm.1 hc;have him:i<m:=by rw [<- hT.len]; exact hi
     refine h7 i him (by rw [hget i (by omega)]; exact hall i him) ?_
     rw [RM,Q4 hi]; exact hqc
    ·exact h8
   ·intro Z
    refine ⟨hT.lt q (Sc _ Z),?_,?_⟩
    ·by_cases e:m<=q
     ·exact .inl e
     ·exact .inr (by rw [hget q (by omega)]; exact hall q (by omega))
    ·intro i him _ hc
     exact (R6.1 hT.nd).2.2 q (hT.mem hc) q Z rfl
  have hl:∀ j,j<l.length->listed.getD j true=decide (j<m):=by
   intro j hj
   by_cases e:j<m
   ·rw [hall j e]; simp [e]
   ·rw [htl j (by omega) hj]; simp [e]
  have hcount:l.length<=m+J:=by
   have:l.length-m<=left l listed:=by
    unfold left;have h1:(List.range l.length).countP (λi=>!listed.getD i true)=(List.range l.length).countP (λi=>decide (m<=i)):=by
     refine List.countP_congr λj hj=>?_;rw [hl j (R5.1 hj)];simp
    rw [h1];have h2:∀ n,(List.range n).countP (λi=>decide (m<=i))=n-m:=by
     intro n
     induction n with
     | zero=>simp
     | succ n ihn=>
      rw [Uw,List.countP_append,ihn];simp only [List.countP_cons,List.countP_nil]
      by_cases e:m<=n
      ·simp [e]; omega
      ·simp [e]; omega
    rw [h2]; exact Rq _
   omega
  exact FO hB J m listed a w (Rq _) hsz hml hcount hl hwl
 intro J
 induction J with
 | zero=>
  intro listed a w H' R hsz hf htl hdc hle ht hs0 hsl uX hv;refine fin 0 listed a w H' R hsz hf htl hle ht hs0 hsl uX hv (λj hj=>?_);have:left l listed=0:=by omega
  unfold left at this;rw [List.countP_eq_zero] at this;have:=this j (R5.2 (by omega))
  simpa using this
 | succ J ih=>
  intro listed a w H' R hsz hf htl hdc hle ht hs0 hsl uX hv
  by_cases hall:∀ j,j<m->listed.getD j true=true
  ·exact fin (J+1) listed a w H' R hsz hf htl hle ht hs0 hsl uX hv hall
  ·have hs:Sl x.N L0 a:=⟨hs0.size,hs0.Fa,λt v h=>hsl t v (hL0 t v h) (λw o hw ho hd=>by rw [hdst w o t hw ho hd] at h; cases h)⟩
   have hget:∀ j,j<l.length->listed.getD j false=listed.getD j true:=λj hj=>by
    simp only [RW];rw [TS (by omega)]; rfl
   have hex:∃ j,j<m/\listed.getD j true=false:=by
    refine Classical.byContradiction λhno=>hall λj hj=>?_;cases hb:listed.getD j true with
    | true=>rfl
    | false=>exact absurd ⟨j,hj,hb⟩ hno
   obtain ⟨j0,⟨hj0,hf0⟩,hleast⟩:=least (p:=λj=>j<m/\listed.getD j true=false) hex.choose hex.choose_spec;have hne:Region.ready .any l.toArray listed≠[]:=by
    intro he;have hlt:j0<l.length:=by omega
    have ho:l[j0]? = some l[j0]:=Q4 hlt;have:j0 ∈ Region.ready .any l.toArray listed:=by
     refine mem_ready.2 ⟨by simpa using hlt,hf0,l[j0],by simp,λj hj=>?_⟩
     have hj':=rG hB ho j hj;rw [hget j (by omega)]
     cases hb:listed.getD j true with
     | true=>rfl
     | false=>have:=hleast j ⟨by omega,hb⟩; omega
    rw [he] at this; cases this
   refine ⟨λhe=>absurd he hne,λi hi=>?_⟩;obtain ⟨h1,h2,o,ho',hw⟩:=mem_ready.1 hi;have h1':i<l.length:=by simpa using h1
   have ho:l[i]? = some o:=by simpa using ho'
   have him:i<m:=by
    by_cases e:i<m
    ·exact e
    ·exfalso
     have:=CD hB (listed:=λq=>listed.getD q false=true) (λk o hk hki q Z=>hdc k o hk hki q Z) ho (by omega) hw j0 (by omega)
     rw [hget j0 (by omega),hf0] at this; cases this
   have htake:(l.take m)[i]? = some o:=by rw [RX,Rb him]; exact ho
   have hnl:listed.getD i false=false:=by rw [hget i h1']; exact h2
   have hCal:∀ c ∈ C.getD i [],c ∈ (List.range K).filter (alive m C listed):=by
    intro c hc;rw [Sg,R5,sG];refine ⟨hT.lt c (Q6 _ (hT.mem hc)),?_,?_⟩
    ·rcases hT.wait i o him ho c hc with h | h
     ·exact .inl h
     ·exact .inr (hw c h)
    ·intro i' hi' hl' hc'
     have:=hT.uniq hc hc';subst this;rw [hnl] at hl'; cases hl'
   let A:=(List.range K).filter (alive m C listed)
   let Bs:=A.filter (λc=>!(C.getD i []).contains c)
   have hAnd:A.Nodup:=List.nodup_range.filter _;have hBnd:Bs.Nodup:=hAnd.filter _;have hperm:(A.flatMap R++M).Perm ((C.getD i []++Bs).flatMap R++M):=by
    refine zZ hAnd ?_ ?_ R M
    ·refine R6.2 ⟨hT.QH i,hBnd,?_⟩
     rintro a ha b hb rfl;have:=(Sg.1 hb).2;simp at this;exact this (by simpa [RM] using ha)
    ·intro q
     rw [Rh];constructor
     ·intro Z
      by_cases hqc:q ∈ C.getD i []
      ·exact .inl hqc
      ·exact .inr (Sg.2 ⟨Z,by simpa using hqc⟩)
     ·rintro (Z | Z)
      ·exact hCal q Z
      ·exact (Sg.1 Z).1
   have ht1:=ht.perm hperm;rw [Uo,RG] at ht1
   let Rest:=Bs.flatMap R++M
   let X1:Env:=(List.range m).filterMap λj=>if listed.getD j true then (l[j]?).bind λo=>o.dst.map λu=>(u,a.tmps.getD u undef) else none
   let X2:Env:=(L.map (·.1)).filterMap λt=>if (List.range m).all (λw=>match (l[w]?).bind (·.dst) with
    | some u=>!Nat.beq u t || !listed.getD w false
    | none=>true) then (lk L t).map λv=>(t,v) else none
   let X:Env:=X1++X2
   have hX2:∀ u v,(u,v) ∈ X2->a.tmps[u]? = some v:=by
    intro u v hm;obtain ⟨t,ht',hh⟩:=U7.1 hm
    split at hh
    ·rename_i hall2
     rw [UE] at hh;obtain ⟨v',hv',hh⟩:=hh;cases hh;refine hsl _ _ hv' (λw' o' hw' ho' hd'=>?_);rw [Sj] at hall2;have h9:=hall2 w' (R5.2 hw');rw [ho'] at h9;simp only [S8,hd'] at h9;have h10:Nat.beq u u=true:=Nat.beq_refl u;rw [h10] at h9;simpa using h9
    ·cases hh
   have hX1:∀ u v,(u,v) ∈ X1->a.tmps[u]? = some v:=by
    intro u v hm;obtain ⟨j,hj,hh⟩:=U7.1 hm
    split at hh
    ·rename_i hlj
     rw [Vj] at hh;obtain ⟨oj,O,hh⟩:=hh;rw [UE] at hh;obtain ⟨u',hu',hh⟩:=hh;cases hh;obtain ⟨v',hv',_⟩:=hv j oj (R5.1 hj) O hlj;rw [hu'] at hv';simp only [tQ] at hv';simp [RW,hv']
    ·cases hh
   have hX:∀ u v,(u,v) ∈ X->a.tmps[u]? = some v:=λu v hm=>(Rh.1 hm).elim (hX1 u v) (hX2 u v);have hdep:=(xU.at hop i o htake) H' hle X Rest (λs hs=>Sc _ hs);simp only [Rv] at hdep;have hwl:∀ j ∈ iN o,j<m/\listed.getD j true=true:=λj hj=>by
    have h3:=rG hB ho j hj;refine ⟨by omega,?_⟩
    rw [<- hget j (by omega)]; exact hw j hj
   have hEi:∀ t v,lk (Es.getD i []) t=some v->a.tmps[t]? = some v:=by
    intro t v h;refine hsl t v (hE i t v h) (λw' o' hw' ho' hd'=>?_);cases hlw:listed.getD w' false with
    | false=>rfl
    | true=>
     exfalso;unfold D2 at hX0;rw [Sj] at hX0;have h1:=hX0 i (R5.2 him);rw [Sj] at h1;have h2:=h1 t (RY.2 ⟨_,GC h,rfl⟩);rw [Sj] at h2;have h3:=h2 w' (R5.2 hw');rw [ho'] at h3;simp only [S8,hd'] at h3;have h10:Nat.beq t t=true:=Nat.beq_refl t;rw [h10] at h3;simp only [Bool.not_true,Bool.false_or] at h3;have:=yn (listed:=λq=>listed.getD q false=true) (λk o hk hki q Z=>hdc k o hk hki q Z) l [] (λk q hk=>by simpa using hk) (λk hk=>by simp at hk) w' (by simp; omega) o' ho' (λq Z=>hdc w' o' ho' hlw q Z) i h3
     rw [hnl] at this; cases this
   have hsE:Sl x.N (Es.getD i []++(L0++X)) a:=by
    refine ⟨hs.size,hs.Fa,λt v h=>?_⟩;rw [Aw] at h;cases hl:lk (Es.getD i []) t with
    | some u=>rw [hl] at h; simp at h; subst h; exact hEi t _ hl
    | none=>rw [hl] at h; simp at h; exact (hs.more hX).get t v h
   obtain ⟨Y,R',hk,hsY,hY,hR1,hR2⟩:=w7.use (Rt:=R) hdep hsE (λj hj=>by
    have hj':=hwl j hj;have O:l[j]? = some l[j]:=Q4 (by omega)
    rw [O];exact hv j _ hj'.1 O hj'.2)
   have hRC:∀ c ∈ C.getD i [],R' c=R c:=by
    intro c hc;rcases hT.wait i o him ho c hc with h | h
    ·rw [hR2 c (λhcm=>by have:=hwl c hcm; omega),uX c h]
    ·exact hR1 c h
   have hRU:∀ u ∈ U.getD i [],R' u=R u:=by
    intro u hu;have h5:=hT.Pj i o him ho u hu;rcases h5.1 with h | h
    ·rw [hR2 u (λhcm=>by have:=hwl u hcm; omega),uX u h]
    ·exact hR1 u h
   have hUB:∀ u ∈ U.getD i [],u ∈ Bs:=by
    intro u hu;have h5:=hT.Pj i o him ho u hu;refine Sg.2 ⟨Sg.2 ⟨R5.2 h5.2,sG.2 ⟨?_,?_⟩⟩,?_⟩
    ·rcases h5.1 with h | h
     ·exact .inl h
     ·exact .inr (hw u h)
    ·intro i' hi' hl' hc'
     have h6:=hT.Ph i him u hu i' hi' hc';have hoi:l[i']? = some l[i']:=Q4 (by omega)
     have:=yn (listed:=λq=>listed.getD q false=true) (λk o hk hki q Z=>hdc k o hk hki q Z) l [] (λk q hk=>by simpa using hk) (λk hk=>by simp at hk) i' (by simp; omega) _ hoi (λq Z=>hdc i' _ hoi hl' q Z) i h6
     rw [hnl] at this; cases this
    ·have h7:u ∉ C.getD i []:=by
      intro hc;have h6:=hT.Ph i him u hu i him hc;have hoi:l[i]? = some o:=ho;have:=yn (listed:=λq=>q<i) (λk o hk hki q Z=>by have:=rG hB hk q Z; omega) l [] (λk q hk=>by simpa using hk) (λk hk=>by simp at hk) i (by simpa using h1') o hoi (λq Z=>rG hB ho q Z) i h6
      omega
     simpa using h7
   have hUR:∀ s ∈ um (U.getD i []) R' [],s ∈ Rest:=by
    rw [Ag,RR];intro s hs;obtain ⟨u,hu,hsu⟩:=S6.1 hs;rw [hRU u hu] at hsu;exact Q6 _ (S6.2 ⟨u,hUB u hu,hsu⟩)
   have hUP:∃ Rr,(um (U.getD i []) R' Rr).Perm Rest:=by
    refine ⟨(Bs.filter λc=>!(U.getD i []).contains c).flatMap R++M,?_⟩;rw [Ag,uM (R:=R') (R':=R) hRU,<- RG,<- Uo];refine zZ ?_ hBnd ?_ R M
    ·refine R6.2 ⟨hT.Qd i him,hBnd.filter _,?_⟩
     rintro a ha b hb rfl;have:=(Sg.1 hb).2;simp at this;exact this (by simpa [RM] using ha)
    ·intro q
     rw [Rh];constructor
     ·rintro (Z | Z)
      ·exact hUB q Z
      ·exact (Sg.1 Z).1
     ·intro Z
      by_cases hqu:q ∈ U.getD i []
      ·exact .inl hqu
      ·exact .inr (Sg.2 ⟨Z,by simpa using hqu⟩)
   have hone:=hk hUR hUP a w hsY (by
    rw [Ag,uM (R:=R') (R':=R) hRC];exact ht1)
   have fin2:∀ a' w',DG x H' Rest (Y++(Es.getD i []++(L0++X))) o.dst (HB l i) (Φ i) .normal a' w'->wpAny x.P .any l.toArray Q J (listed.setIfInBounds i true) a' w':=by
    rintro a' w' ⟨_,v,H2,rs,hs2,hnv,hle2,ht2,hφ⟩;have hcv:tQ a' v o.dst (HB l i):=by
     cases hd:o.dst with
     | none=>
      cases hk:HB l i with
      | none=>rw [hd,hk] at hnv; exact hnv
      | some s=>rw [hd,hk] at hnv; rw [hd] at hs2; exact hs2.get s v hnv
     | some t=>rw [hd] at hs2; exact hs2.get t v (by simp only [MA]; rw [tR]; simp)
    have hput:∀ u,o.dst≠some u->lk (MA o.dst v (Y++(Es.getD i []++(L0++X)))) u=lk (Y++(Es.getD i []++(L0++X))) u:=by
     intro u hne;cases hd:o.dst with
     | none=>rfl
     | some t=>
      simp only [MA];rw [tR,Ra (λe=>hne (by rw [hd,e]))]
    have hYt:∀ u z,(u,z) ∈ Y++X->o.dst≠some u->a'.tmps[u]? = some z:=by
     intro u z hm hne;have hz:a.tmps[u]? = some z:=by
      rcases Rh.1 hm with hm | hm
      ·exact hY u z hm
      ·exact hX u z hm
     have hlk:∃ z',lk (Y++(Es.getD i []++(L0++X))) u=some z':=by
      have hsome:∀ {E:Env}{u:Nat}{z:Q2},(u,z) ∈ E->∃ z',lk E u=some z':=by
       intro E u z
       induction E with
       | nil=>simp
       | cons p E ihE=>
        obtain ⟨q,r⟩:=p;intro hm;rw [tR]
        split
        ·exact ⟨_,rfl⟩
        ·rename_i hne
         rcases RU.1 hm with e | hm
         ·cases e; exact absurd rfl hne
         ·exact ihE hm
      rcases Rh.1 hm with hm | hm
      ·exact hsome (Q6 _ hm)
      ·exact hsome (Sc _ (Sc _ (Sc _ hm)))
     obtain ⟨z',hz'⟩:=hlk;have e1:=hsY.get u z' hz';rw [hz] at e1;cases e1;exact hs2.get u z (by rw [hput u hne]; exact hz')
    have hset:∀ j,(listed.setIfInBounds i true).getD j false=if j=i then true else listed.getD j false:=λj=>vc _ _ _ _ (by omega)
    refine ih (listed.setIfInBounds i true) a' w' H2 (CR R i rs) (by simpa using hsz) (by have:=KF (l:=l) hsz h1' h2; omega) (λj hj hjl=>by rw [vc _ _ _ _ (by omega),Ra (by omega)]; exact htl j hj hjl) ?_ (UT hle hle2) ?_ ?_ ?_ ?_ ?_
    ·intro j oj O hlj q Z
     rw [hset] at hlj ⊢
     split at hlj
     ·rename_i e; subst e
      rw [ho] at O; cases O
      split
      ·rfl
      ·exact hw q Z
     ·split
      ·rfl
      ·exact hdc j oj O hlj q Z
    ·
     have hiB:i ∉ Bs:=by
      intro hmB;have:=(Sg.1 hmB).1;rw [Sg,sG] at this;rcases this.2.1 with h | h
      ·omega
      ·rw [hnl] at h; cases h
     have e1:rs++Rest=((i::Bs).flatMap (CR R i rs))++M:=by
      rw [Sp,AM,uM (A:=Bs) (R:=CR R i rs) (R':=R) (λq Z=>Bl _ _ _ _ (λe=>hiB (by rw [<- e]; exact Z))),RG]
     rw [e1] at ht2;refine ht2.perm (zZ (Uv.2 ⟨hiB,hBnd⟩) (List.nodup_range.filter _) ?_ _ M);intro q;rw [RU,Sg,Sg,Sg,R5,sG,sG];constructor
     ·rintro (rfl | ⟨⟨hqK,hq1,hq2⟩,hq3⟩)
      ·refine ⟨by omega,.inr (by rw [hset,Rb rfl]),?_⟩
       intro i' hi' hl' hc';rw [hset] at hl'
       split at hl'
       ·rename_i e; subst e
        rcases hT.wait i' o hi' ho _ hc' with h | h
        ·omega
        ·have:=rG hB ho _ h; omega
       ·have hoi:l[i']? = some l[i']:=Q4 (by omega)
        rcases hT.wait i' _ hi' hoi _ hc' with h | h
        ·omega
        ·have:=hdc i' _ hoi hl' _ h
         rw [hnl] at this; cases this
      ·refine ⟨hqK,?_,?_⟩
       ·rcases hq1 with h | h
        ·exact .inl h
        ·exact .inr (by rw [hset]; split <;> simp [h])
       ·intro i' hi' hl' hc'
        rw [hset] at hl'
        split at hl'
        ·rename_i e; subst e
         simp at hq3;exact hq3 (by simpa [RM] using hc')
        ·exact hq2 i' hi' hl' hc'
     ·rintro ⟨hqK,hq1,hq2⟩
      by_cases hqi:q=i
      ·exact .inl hqi
      ·refine .inr ⟨⟨hqK,?_,?_⟩,?_⟩
       ·rcases hq1 with h | h
        ·exact .inl h
        ·rw [hset,Ra hqi] at h; exact .inr h
       ·intro i' hi' hl' hc'
        exact hq2 i' hi' (by rw [hset]; split <;> simp [hl']) hc'
       ·have:=hq2 i him (by rw [hset,Rb rfl])
        simpa using this
    ·exact ⟨hs2.size,hs2.Fa,λu z hu=>by simp [lk] at hu⟩
    ·intro u z hu hun
     have hne:o.dst≠some u:=λe=>by
      have:=hun i o him ho e;rw [hset,Rb rfl] at this; cases this
     refine hYt u z (Sc _ (Sc _ (U7.2 ⟨u,RY.2 ⟨_,GC hu,rfl⟩,?_⟩))) hne;rw [Rb,hu]
     ·rfl
     ·rw [Sj]
      intro w' hw';have hw'':=R5.1 hw';have hoi:l[w']? = some l[w']:=Q4 (by omega)
      rw [hoi];simp only [S8];cases hd':l[w'].dst with
      | none=>rfl
      | some q=>
       by_cases e:q=u
       ·subst e
        have h9:=hun w' _ hw'' hoi hd';rw [hset] at h9
        split at h9
        ·cases h9
        ·simp [h9]
       ·have:Nat.beq q u=false:=by
         cases hb:Nat.beq q u with
         | false=>rfl
         | true=>exact absurd (Tq hb) e
        simp [this]
    ·intro q Z
     rw [Bl _ _ _ _ (by omega)]; exact uX q Z
    ·intro j oj hjm O hlj
     rw [vc _ _ _ _ (by omega)] at hlj
     by_cases e:j=i
     ·subst e
      rw [ho] at O; cases O
      rw [AM];exact ⟨v,hcv,hφ⟩
     ·rw [Ra e] at hlj
      rw [Bl _ _ _ _ e];obtain ⟨z,hz,hφj⟩:=hv j oj hjm O hlj;refine ⟨z,?_,hmono _ _ _ _ _ hle2 hφj⟩;have hNd2:∀ (j:Nat) (oj:Oper) (u:Nat),j<m->l[j]? = some oj->j≠i->oj.dst=some u->o.dst≠some u:=by
       intro j oj u hjm O e hdj e2;unfold y_ at hNd;have hnd:=Q_ hNd;have hnd2:(l.take m).Pairwise (λo1 o2=>∀ u,o1.dst=some u->∀ u',o2.dst=some u'->u≠u'):=by
        unfold List.Nodup at hnd;rw [List.pairwise_filterMap] at hnd;exact hnd.imp λh u hu u' hu'=>h u hu u' hu'
       have htj:(l.take m)[j]? = some oj:=by rw [RX,Rb hjm]; exact O
       obtain ⟨hi',p1⟩:=Q7.1 htake;obtain ⟨hj',p2⟩:=Q7.1 htj;have hpw:=Ue.1 hnd2;rcases Nat.lt_or_gt_of_ne e with q | q
       ·exact hpw j i hj' hi' q u (by rw [p2]; exact hdj) u (by rw [p1]; exact e2) rfl
       ·exact hpw i j hi' hj' q u (by rw [p1]; exact e2) u (by rw [p2]; exact hdj) rfl
      have hkeep:∀ (j:Nat) (oj:Oper) (u:Nat),j<m->l[j]? = some oj->listed.getD j true=true->j≠i->oj.dst=some u->a.tmps[u]? = some z->a'.tmps[u]? = some z:=by
       intro j oj u hjm O hlj e hdj hz;refine hYt u z (Sc _ (Q6 _ (U7.2 ⟨j,R5.2 hjm,?_⟩))) (hNd2 j oj u hjm O e hdj);simp [hlj,O,hdj,RW,hz]
      cases hdj:oj.dst with
      | none=>
       rw [hdj] at hz;cases hk:HB l j with
       | none=>rw [hk] at hz; exact hz
       | some s=>
        rw [hk] at hz;simp only [tQ] at hz ⊢;obtain ⟨o2,ho2,_,w2,hw2,hd2⟩:=Od hk;rw [O] at ho2; cases ho2
        have hlt2:=rG hB O w2 hw2;have hl2:=hdc j oj O (by rw [hget j (by omega)]; exact hlj) w2 hw2
        have hne2:w2≠i:=by rintro rfl; rw [hnl] at hl2; cases hl2
        rw [Vj] at hd2;obtain ⟨ow,how,hdw⟩:=hd2;exact hkeep w2 ow s (by omega) how (by rw [<- hget w2 (by omega)]; exact hl2) hne2 hdw hz
      | some u=>
       rw [hdj] at hz;simp only [tQ] at hz ⊢;exact hkeep j oj u hjm O hlj e hdj hz
   unfold wpOp;rw [show l.toArray[i]? = some o from by simpa using ho]
   unfold wpList at hone
   dsimp only
   by_cases hwn:Region.wanted o (yielded l.toArray a.tmps)=true
   ·rw [Rb hwn] at hone ⊢
    left
    rcases hone with h | ⟨_,a1,w1,h,_⟩
    ·unfold Oper.wp at h ⊢
     generalize (execOp a.eval o).run x.P w=r at h;have fin':∀ a' w',wpList x.P l.toArray (DG x H' Rest (Y++(Es.getD i []++(L0++X))) o.dst (HB l i) (Φ i)) [] a' w'->wpAny x.P .any l.toArray Q J (listed.setIfInBounds i true) a' w':=λa' w' h=>fin2 a' w' h;cases r with
     | ok n w2=>
      cases n <;> simp only [Oper.upon] at h ⊢ <;> first
       | exact fin' _ _ h
       | exact Calls.mono h (λe w3 he=>match e,he with
         | .returned v,he=>fin' _ _ he
         | .panicked c,he=>absurd he.1 (by simp)
         | .outgrown,he=>absurd he.choose_spec.choose_spec.1 (by simp))
       | exact Rows.mono h (λv w3 he=>fin' _ _ he)
     | halt y w2=>
      cases y <;> simp only [Oper.upon] at h ⊢
      exact absurd h.1 (by simp)
    ·cases h
   ·rw [Ra hwn] at hone ⊢
    exact fin2 _ _ hone
def EN (L:Env):List Env->Prop
 | []=>True
 | E::r=>Kept L E/\EN L r
theorem EN.get {L:Env}:∀ {Es:List Env},EN L Es->∀ i t v,lk (Es.getD i []) t=some v->lk L t=some v
 | [],_,i,t,v,h=>by simp [lk] at h
 | E::r,hk,0,t,v,h=>hk.1.lk t v (by simpa using h)
 | E::r,hk,i+1,t,v,h=>EN.get hk.2 i t v (by simpa using h)
theorem zu {id:Nat} (m:Nat) (Φ:NQ) (C U:List (List Nat)) (I:List (List bQ)) (live:List Nat) (L0:Env) (Es:List Env) (hmix:x.P.follows .mixedOrders=true) (hB:vD l m=true) (hml:Nat.ble m l.length=true) (hD:y9 l m L0=true) (hX:D2 l m Es=true) (hL0:∀ t v,lk L0 t=some v->lk L t=some v) (hE:EN L Es) (hNd:y_ l m=true)
  (hT:G2 l m (m+I.length) C U live=true)
  (Z:∀ i H1 H2 rs v,H1.le H2->Φ i H1 rs v->Φ i H2 rs v)
  (hop:xU x l Φ C U Es (EI m I) H M L0 0 (l.take m))
  (k:∀ H',H.le H'->w7 l Φ H' (List.range m) L0 (EI m I) (λL' R=>W x l.toArray Q (l.drop m) H' (um live R M) L')):Go.Sim.C x (.region id l.toArray true) Q H (I.flatten++M) L:=by
 intro a w hs ht;refine wp_region_any hmix ?_;have hml':m<=l.length:=by simpa [TN] using hml
 have O:∀ j,(Array.replicate l.toArray.size false).getD j true=if j<l.length then false else true:=by
  intro j;simp only [RW,Array.getElem?_replicate,TC]
  split <;> simp
 have J:∀ j,(Array.replicate l.toArray.size false).getD j false=false:=by
  intro j;simp only [RW,Array.getElem?_replicate,TC]
  split <;> simp
 have Y:((List.range (m+I.length)).filter (alive m C (Array.replicate l.toArray.size false))).flatMap (EI m I)=I.flatten:=by
  rw [List.range_add,TQ];have e1:(List.range m).filter (alive m C (Array.replicate l.toArray.size false))=[]:=by
   rw [List.filter_eq_nil_iff];intro q hq;rw [sG];rintro ⟨h | h,_⟩
   ·have:=R5.1 hq; omega
   ·rw [J] at h; cases h
  have e2:((List.range I.length).map (m+·)).filter (alive m C (Array.replicate l.toArray.size false))=(List.range I.length).map (m+·):=by
   rw [VG];intro q hq;obtain ⟨r,hr,rfl⟩:=RY.1 hq;rw [sG];exact ⟨.inl (by omega),λi _ h=>by rw [J] at h; cases h⟩
  rw [e1,e2,SJ,List.flatMap_map];have e3:(List.range I.length).flatMap (λq=>EI m I (m+q))=((List.range I.length).map λq=>I.getD q []).flatten:=by
   rw [List.flatMap_def]
   congr 1
   refine List.map_congr_left λq _=>?_;unfold EI;rw [Ra (by omega),Ti]
  rw [e3]
  congr 1
  apply SM;intro q;rw [RH]
  by_cases hq:q<I.length
  ·rw [S_ hq,Q4 hq]; simp [RM,hq]
  ·rw [R4 (by simp; omega),R4 (by omega)]; rfl
 refine Mw (Q:=Q) (K:=m+I.length) hB hml' hD hX hL0 (λi t v h=>hE.get i t v h) hNd (MN hT) (by omega) Z hop k l.toArray.size _ a _ H (EI m I) (by simp) ?_ (λj hj hjl=>by rw [O,Rb hjl]) (λi o _ h=>by rw [J] at h; cases h) (R8 _) ?_ ⟨hs.size,hs.Fa,λt v h=>by simp [lk] at h⟩ (λt v h _=>hs.get t v h) (λ_ _=>rfl) ?_
 ·unfold left
  exact Sb (TP ..) (by simp)
 ·rw [Y]; exact ht.drewN _
 ·intro i o hi ho hl
  rw [O,Rb (by omega)] at hl
  cases hl
theorem rW {id:Nat} (m:Nat) (Φ:NQ) (C U:List (List Nat)) (I:List (List bQ)) (live:List Nat) (O:x.P.follows .mixedOrders=true) (hB:vD l m=true) (Z:Nat.ble m l.length=true) (hD:y9 l m L=true) (Y:y_ l m=true)
  (hT:G2 l m (m+I.length) C U live=true)
  (J:∀ i H1 H2 rs v,H1.le H2->Φ i H1 rs v->Φ i H2 rs v)
  (hop:xU x l Φ C U [] (EI m I) H M L 0 (l.take m))
  (k:∀ H',H.le H'->w7 l Φ H' (List.range m) L (EI m I) (λL' R=>W x l.toArray Q (l.drop m) H' (um live R M) L')):Go.Sim.C x (.region id l.toArray true) Q H (I.flatten++M) L:=
 zu m Φ C U I live L [] O hB Z hD (by unfold D2; simp) (λ_ _ h=>h) Q3 Y hT J hop k
end
section
variable {x:Cx}{ops:Array Oper}{Q:lG}{rest:List Oper}{H:Hp}{M M':List bQ}{L L':Env}
theorem q6 {M'} (h:M=M') (k:W x ops Q rest H M' L):W x ops Q rest H M L:=h▸k
theorem Jo {c:Code}{M'} (h:M=M') (k:C x c Q H M' L):C x c Q H M L:=h▸k
theorem PR {e:Exit}{M'} (h:M=M') (k:E x e Q H M' L):E x e Q H M L:=h▸k
theorem F0 {e:Exit} (I:M.Perm M') (k:E x e Q H M' L):E x e Q H M L:=λa w hs ht=>k a w hs (ht.perm I)
theorem Br {c:Code} (I:M.Perm M') (k:C x c Q H M' L):C x c Q H M L:=λa w hs ht=>k a w hs (ht.perm I)
theorem q8 {c:Code}{v:Q2}{T:TypeId}{sz n:Nat}{xs:List Q2} (hm:bQ.row v T sz n xs ∈ M) (k:n<=maxLen->C x c Q H M L):C x c Q H M L:=λa w hs ht=>by
 have I:iQ w T sz v n xs:=ht.ok _ hm;refine k ?_ a w hs ht;rcases I.2 with ⟨_,rfl⟩ | ⟨g,off,cap,J,rfl,Z,Y,O,_⟩
 ·unfold maxLen; omega
 ·omega
theorem F1 {e:Exit}{J:Hp} (I:J.le H) (k:E x e Q J M L):E x e Q H M L:=λa w hs ht=>k a w hs (ht.M9 I)
end
section
variable {P:Program}{N B:Nat}{w0:World}{fn:Func}{Φ:Hp->List bQ->Q2->Prop}{H:Hp}{M:List bQ}{L:Env}
theorem G7 (k:E ⟨P,N,B,w0⟩ .ret (bodyPost P fn (uC B w0 Φ)) H M L):E ⟨P,N,B,w0⟩ .normal (bodyPost P fn (uC B w0 Φ)) H M L:=λa w hs ht=>k a w hs ht
theorem IG (I:fn.results=#[]) (h:Φ H M (.tuple #[])):E ⟨P,N,B,w0⟩ .ret (bodyPost P fn (uC B w0 Φ)) H M L:=
 λa w hs ht=>⟨hs.Fa,.tuple #[],by simp [results,I],H,M,ht,h⟩
theorem O1 {t u s:Nat}{v1 v2 v3:Q2} (O:fn.results=#[.tmp t,.tmp u,.tmp s]) (hl:lk L t=some v1) (I:lk L u=some v2) (J:lk L s=some v3) (h:Φ H M (.tuple #[v1,v2,v3])):E ⟨P,N,B,w0⟩ .ret (bodyPost P fn (uC B w0 Φ)) H M L:=
 λa w hs ht=>⟨hs.Fa,.tuple #[v1,v2,v3],by simp [results,O,RW,hs.get t v1 hl,hs.get u v2 I,hs.get s v3 J],H,M,ht,h⟩
end
class Flat (α:Type) [aG α]:Prop where
 ind:∀ {H H':Hp}{cs:List Q2}{x:α},aG.E H cs x->aG.E H' cs x
instance:Flat Int:=⟨λh=>h⟩
instance:Flat Bool:=⟨λh=>h⟩
instance:Flat Q1:=⟨λh=>h⟩
instance:Flat U8:=⟨λh=>h⟩
instance:Flat PK:=⟨λh=>h⟩
instance:Flat bT:=⟨λh=>h⟩
instance:Flat PL:=⟨λh=>h⟩
instance:Flat PI:=⟨λh=>h⟩
theorem qq.flat {α:Type}[aG α] [Flat α] {H H':Hp}:∀ {cs:List Q2}{ys:List α},qq H cs ys->qq H' cs ys
 | _,[],h=>h
 | _,_::_,⟨c,r,e,h,k⟩=>⟨c,r,e,Flat.ind h,qq.flat k⟩
def uq {α:Type}[aG α] (v:Q2) (xs:List Q2) (l:List α):Prop:=∀ H,Rw H v xs l
def PT {α:Type}[aG α] (xs:List Q2) (l:List α):Prop:=∀ H,qq H xs l
theorem Rw.pE {α:Type}[aG α] [Flat α] {H:Hp}{v:Q2}{xs:List Q2}{l:List α} (h:Rw H v xs l):uq v xs l:=λH'=>⟨h.rd.flat,h.sl⟩
theorem qq.pE {α:Type}[aG α] [Flat α] {H:Hp}{xs:List Q2}{l:List α} (h:qq H xs l):PT xs l:=λH'=>h.flat
def C8 {α R:Type} (o:Option α) (a:R) (f:α->R):R:=match o with
 | none=>a
 | some s=>f s
theorem AE {α R:Type}{o:Option α}{a:R}{f:α->R}{r:R} (h:o=none) (k:C8 o a f=r):a=r:=by subst h; exact k
theorem AF {α R:Type}{o:Option α}{a:R}{f:α->R}{s:α}{r:R} (h:o=some s) (k:C8 o a f=r):f s=r:=by subst h; exact k
def z_ (l:List (Hp->List bQ->Q2->Prop)) (i:Nat):Hp->List bQ->Q2->Prop:=l.getD i (λ_ _ _=>True)
def Nr (p:Hp->List bQ->Q2->Prop):Prop:=∀ I J rs v,I.le J->p I rs v->p J rs v
def Bv:List (Hp->List bQ->Q2->Prop)->Prop
 | []=>True
 | p::l=>Nr p/\Bv l
theorem u4 {l:List (Hp->List bQ->Q2->Prop)} (h:Bv l):∀ i I J rs v,I.le J->z_ l i I rs v->z_ l i J rs v:=by
 induction l with
 | nil=>intro i I J rs v _ _; exact Q3
 | cons p l ih=>
  intro i I J rs v O Y;cases i with
  | zero=>exact h.1 I J rs v O Y
  | succ i=>exact ih h.2 i I J rs v O Y
theorem gJ (I:List bQ) (c:Q2):Nr (λ_ rs v=>I=rs/\c=v):=λ_ _ _ _ _ h=>h
theorem Is {α:Type}{f:α->Q2}{l:List α}{k:Nat}{y:α} (he:l[k]? = some y):(l.map f)[k*1]? = some (f y):=by
 rw [TK,RH,he]; rfl
section
variable {x:Cx}{ops:Array Oper}{Q:lG}{rest:List Oper}{H:Hp}{M M':List bQ}{L L':Env}
variable {d:Nat}{ty:TypeId}{pos:String}{aft:Array Edge}{g:Option (Nat×Bool)}
theorem qE {t e m sz:Nat}{y z:Operand}{ad:Addr}{kk:IntKind}{i:Int}
  (Z:gd ops L ⟨some d,.indexAddr t y z,ty,pos,aft,g⟩=some true) (hN:Nat.blt d x.N=true)
  (Y:∀ w,(underlying t).run x.P w=.ok (.array m e) w) (hs:∀ w,(sizeOf e).run x.P w=.ok sz w)
  (hy:ev L y=some (.pointer (some ad))) (hz:ev L z=some (.int kk i)) (O:0<=i) (h1:i.toNat<m)
  (k:W x ops Q rest H M ((d,.pointer (some (ad.add (i.toNat*sz))))::L)):
  W x ops Q (⟨some d,.indexAddr t y z,ty,pos,aft,g⟩::rest) H M L:=
 eZ rfl Z hN (λc w I ht=>by
  have J:i<(m:Int):=by omega
  simp [execOp,I.ev hy,I.ev hz,Instr.indexAt,asIntOf,Y,hs,O,J,Instr.sureAddr]) k
theorem Ig {T E:TypeId}{m sz n n' i:Nat}{y z:Operand}{v u:Q2}{ad:Addr}{xs cs:List Q2} (hg:gd ops L ⟨none,.store T y z,ty,pos,aft,g⟩=some true)
  (hn:∀ w,(sizeOf T).run x.P w=.ok m w) (hy:ev L y=some (.pointer (some ad))) (J:ad=(Value.base v).add i) (hz:ev L z=some u) (hv:u.cells=cs.toArray) (hl:cs.length=m)
  (Z:i+cs.length<=xs.length) (I:Nat.blt 0 cs.length=true) (Y:∀ c ∈ cs,c.oneCell'=true) (O:n'=n)
  (k:W x ops Q rest H (.row v E sz n' (over xs i cs)::M) L):
  W x ops Q (⟨none,.store T y z,ty,pos,aft,g⟩::rest) H (.row v E sz n xs::M) L:=by
 subst O;exact xY hg hn hy J hz hv hl Z I Y k
theorem w9 {T e m sz:Nat}{I:List (Nat×Operand)}{vs:List Q2}{css:List (List Q2)}{z:Q2}{zs out:List Q2}{places:List (Nat×Nat)}
  (hg:gd ops L ⟨some d,.build T I.toArray,ty,pos,aft,g⟩=some true) (hN:Nat.blt d x.N=true)
  (hv:zc L (I.map (·.2))=some vs) (hc:Ak vs css)
  (hz:∀ w,(zeroValue T).run x.P w=.ok z w) (hzs:z.cells=zs.toArray) (hT:∀ w,(underlying T).run x.P w=.ok (.array m e) w) (hs:∀ w,(sizeOf e).run x.P w=.ok sz w)
  (Y:places=(List.range m).map λi=>(i*sz,sz))
  (ho:laid places zs ((I.map (·.1)).zip css)=some out)
  (k:W x ops Q rest H M ((d,.agg out.toArray)::L)):
  W x ops Q (⟨some d,.build T I.toArray,ty,pos,aft,g⟩::rest) H M L:=
 eZ rfl hg hN (λa w J ht=>by
  have hl:(I.map (·.1)).length=vs.length:=by rw [<- J.zc hv]; simp
  have hf:=wH (place:=λi=>some (i*sz,sz)) (places:=places) (λi o h=>by
   rw [Y,RH] at h;cases O:(List.range m)[i]? with
   | none=>rw [O] at h; cases h
   | some j=>
    rw [O] at h;have:j=i:=by
     have:=Q7.1 O;simpa using this.2.symm
    subst this;simpa using h) (I.map (·.1)) vs css zs out hc hl ho
  have Z:=Bh J hv;simp only [execOp,Instr.build,Rj,hz,Re,hT,hzs,hs];simp only [Z,hf,Rx,Re]) k
theorem gC {α:Type}[aG α] {T e:TypeId}{n:Nat}{J:List (Nat×Operand)}{vs:List Q2}{css:List (List Q2)}{z:Q2}{zs out:List Q2}{places:List (Nat×Nat)}{ys:List α}
  (hg:gd ops L ⟨some d,.buildSlice T n J.toArray,ty,pos,aft,g⟩=some true) (hN:Nat.blt d x.N=true)
  (hv:zc L (J.map (·.2))=some vs) (hc:Ak vs css)
  (hT:∀ w,(underlying T).run x.P w=.ok (.slice e) w) (hs:∀ w,(sizeOf e).run x.P w=.ok (aG.sz α) w) (hs0:Nat.blt 0 (aG.sz α)=true)
  (hz:∀ w,(zeroValue e).run x.P w=.ok z w) (hzs:(Array.range (n*aG.sz α)).map (z.cells[·%z.cells.size]!)=zs.toArray)
  (hpl:places=(List.range n).map λi=>(i*aG.sz α,aG.sz α)) (hn:Nat.ble (n*aG.sz α) 16777216=true) (hnn:Nat.blt 0 n=true)
  (ho:laid places zs ((J.map (·.1)).zip css)=some out) (hr:qq H out ys) (hyn:ys.length=n)
  (k:∀ v' xs',Rw H v' xs' ys->W x ops Q rest H (.row v' e (aG.sz α) ys.length xs'::M) ((d,v')::L)):
  W x ops Q (⟨some d,.buildSlice T n J.toArray,ty,pos,aft,g⟩::rest) H M L:=by
 refine tj rfl hg hN λa w Z ht=>?_;have hl:(J.map (·.1)).length=vs.length:=by rw [<- Z.zc hv]; simp
 have I:0<aG.sz α:=by simpa [Sh] using hs0
 have hn':n*aG.sz α<=16777216:=by simpa [TN] using hn
 have Y:0<n:=by simpa [Sh] using hnn
 have hpos:0<n*aG.sz α:=Nat.mul_pos Y I;have hf:=wH (place:=λi=>some (i*aG.sz α,aG.sz α)) (places:=places) (λi o h=>by
  rw [hpl,RH] at h;cases hh:(List.range n)[i]? with
  | none=>rw [hh] at h; cases h
  | some j=>
   rw [hh] at h;have:j=i:=by
    have:=Q7.1 hh;simpa using this.2.symm
   subst this;simpa using h) (J.map (·.1)) vs css zs out hc hl ho
 have hps:=Bh Z hv;have hsz:out.length=n*aG.sz α:=by rw [hr.len,hyn]
 have O:ys.length<=maxLen:=by
  unfold maxLen;have:n<=n*aG.sz α:=TW _ I;omega
 refine ⟨.slice (some ⟨w.heap.size,0,none⟩) ys.length ys.length,w.alloc (.cells out.toArray e),?_,H,_,St.newRow (e:=e) ht hr O,k _ _ ⟨hr,_,_,_,rfl⟩⟩;have h1:¬ (2 ^ 24<n*aG.sz α):=by omega
 have h2:¬ (n*aG.sz α=0):=by omega
 simp only [execOp,Instr.buildSlice,Rj,hT,Re,hs,gt_iff_lt,h1,h2,Tn,hz,Rx];simp only [hps];have hf':Instr.fill (λi=>some (i*aG.sz α,aG.sz α)) ((Array.range (n*aG.sz α)).map (z.cells[·%z.cells.size]!)) ((List.map (λx=>x.fst) J).zip vs)=some out.toArray:=by
  rw [hzs]; exact hf
 simp only [hf',newRow,newObj,Rj,Rx,Sem.run,Re,World.alloc,hyn]
end
inductive eM (P:Program) (M:List bQ) (L:Env):ResultVar->Q2->Prop
 | tmp {t}{v:Q2} (h:lk L t=some v):eM P M L (.tmp t) v
 | one {t ty b T}{l:List Q2}{fz}{v:Q2} (h:lk L t=some (.pointer (some ⟨b,0,none⟩))) (hA:∀ w,(isAgg ty).run P w=.ok false w) (hm:bQ.obj b (.cells (v::l).toArray T fz) ∈ M):eM P M L (.cell t ty) v
 | agg {t ty b T}{l:List Q2}{fz n} (h:lk L t=some (.pointer (some ⟨b,0,none⟩))) (hA:∀ w,(isAgg ty).run P w=.ok true w) (hn:∀ w,(sizeOf ty).run P w=.ok n w) (hm:bQ.obj b (.cells l.toArray T fz) ∈ M) (hl:l.length=n):eM P M L (.cell t ty) (.agg l.toArray)
 | arr {t ty v T sz k}{xs:List Q2}{n} (h:lk L t=some (.pointer (some (Value.base v)))) (hA:∀ w,(isAgg ty).run P w=.ok true w) (hn:∀ w,(sizeOf ty).run P w=.ok n w) (hm:bQ.row v T sz k xs ∈ M) (hl:xs.length=n):eM P M L (.cell t ty) (.agg xs.toArray)
def IL (I:Array Q2):ResultVar->Sem Q2
 | .tmp t=>pure (I.getD t undef)
 | .cell a t=>do loadVar t (<- asAddr (I.getD a undef))
theorem yq (fn:Func) (I:Array Q2):results fn I=(do
  let vs <- fn.results.mapM (IL I)
  pure (if h:vs.size=1 then vs[0] else .tuple vs)):=rfl
theorem eM.run {P:Program}{M:List bQ}{L:Env}{N B:Nat}{w0 w:World}{H:Hp}{a:Act}{rv:ResultVar}{v:Q2} (h:eM P M L rv v) (hs:Sl N L a) (ht:St B w0 H M w):
  (IL a.tmps rv).run P w=.ok v w:=by
 cases h with
 | tmp h=>simp [IL,RW,hs.get _ _ h]
 | one h hA hm=>
  have J:=(wB (x:=⟨P,N,B,w0⟩) (H:=H) hm (off:=0) (v:=v) rfl) w ht;simp [IL,RW,hs.get _ _ h,asAddr,loadVar,hA,load,Sem.run,J]
 | agg h hA hn hm hl=>
  rename_i t ty b T l fz n
  have J:=(El (x:=⟨P,N,B,w0⟩) (H:=H) hm);have I:=run_loadCellsFrom (P:=P) (w:=w) (ad:=⟨b,0,none⟩) l 0 #[] (λj v Y=>by rw [Rv]; exact J j v Y w ht)
  rw [hl] at I;simp [IL,RW,hs.get _ _ h,asAddr,loadVar,hA,hn,loadCells,I]
 | arr h hA hn hm hl=>
  rename_i t ty v T sz k xs n
  have I:=run_loadCellsFrom (P:=P) (w:=w) (ad:=Value.base v) xs 0 #[] (λj u O=>by rw [Rv]; exact (CJ (x:=⟨P,N,B,w0⟩) (H:=H) hm O) w ht)
  rw [hl] at I;simp [IL,RW,hs.get _ _ h,asAddr,loadVar,hA,hn,loadCells,I]
section
variable {P:Program}{N B:Nat}{w0:World}{fn:Func}{Φ:Hp->List bQ->Q2->Prop}{H H0:Hp}{M M1 M2:List bQ}{L:Env}
theorem kD {J:ResultVar}{v1:Q2} (I:H0.le H) (hr:fn.results=#[J]) (O:eM P M L J v1) (Y:M1.Sublist M) (Z:M1.Perm M2) (h:Φ H0 M2 v1):
  E ⟨P,N,B,w0⟩ .ret (bodyPost P fn (uC B w0 Φ)) H M L:=λa w hs ht=>by
 have q1:=O.run hs ht;refine ⟨hs.Fa,v1,?_,H0,M2,((ht.sub Y).perm Z).M9 I,h⟩;rw [yq,hr];simp [q1]
theorem vM {J O:ResultVar}{v1 v2:Q2} (I:H0.le H) (hr:fn.results=#[J,O]) (Y:eM P M L J v1) (Z:eM P M L O v2) (hd:M1.Sublist M) (hp:M1.Perm M2) (h:Φ H0 M2 (.tuple #[v1,v2])):
  E ⟨P,N,B,w0⟩ .ret (bodyPost P fn (uC B w0 Φ)) H M L:=λa w hs ht=>by
 have q1:=Y.run hs ht;have q2:=Z.run hs ht;refine ⟨hs.Fa,_,?_,H0,M2,((ht.sub hd).perm hp).M9 I,h⟩;rw [yq,hr];simp [q1,q2]
theorem B0 {J O Y:ResultVar}{v1 v2 v3:Q2} (I:H0.le H) (hr:fn.results=#[J,O,Y]) (Z:eM P M L J v1) (h2:eM P M L O v2) (h3:eM P M L Y v3) (hd:M1.Sublist M) (hp:M1.Perm M2) (h:Φ H0 M2 (.tuple #[v1,v2,v3])):
  E ⟨P,N,B,w0⟩ .ret (bodyPost P fn (uC B w0 Φ)) H M L:=λa w hs ht=>by
 have q1:=Z.run hs ht;have q2:=h2.run hs ht;have q3:=h3.run hs ht;refine ⟨hs.Fa,_,?_,H0,M2,((ht.sub hd).perm hp).M9 I,h⟩;rw [yq,hr];simp [q1,q2,q3]
end
theorem aO.shape {α:Type}[aG α] {H:Hp}{v:Q2}{xs:List α} (h:aO H v xs):∃ o n c,v=.slice o n c:=by
 obtain ⟨a,c,rfl,_⟩:=h.len; exact ⟨_,_,_,rfl⟩
theorem aO.isNil {α:Type}[aG α] {H:Hp}{n c:Nat}{xs:List α} (h:aO H (.slice none n c) xs):xs=[]:=by
 rcases h with ⟨_,h⟩ | ⟨b,off,cap,arr,T,fz,h,_⟩
 ·exact h
 ·cases h
def OP {α:Type} (v:Q2) (l:List α):Prop:=(∃ n c,v=.slice none n c/\l=[])\/(∃ a n c,v=.slice (some a) n c/\l≠[])
theorem OP.nil {α:Type}:OP (.slice none 0 0) ([]:List α):=.inl ⟨_,_,rfl,rfl⟩
section
variable {x:Cx}{ops:Array Oper}{Q:lG}{rest:List Oper}{H:Hp}{M M':List bQ}{L L':Env}
variable {d:Nat}{ty:TypeId}{pos:String}{aft:Array Edge}{g:Option (Nat×Bool)}
theorem Np {α:Type}[aG α] {H:Hp}{zs:List Q2}{ze:α} (Y:aG.E H zs ze) (Z:zs.length=aG.sz α):∀ q,qq H ((List.range (q*aG.sz α)).map (zs.toArray[·%zs.length]!)) (List.replicate q ze):=by
 intro q
 induction q with
 | zero=>rw [SI]; exact rfl
 | succ q ih=>
  have I:(List.range ((q+1)*aG.sz α)).map (zs.toArray[·%zs.length]!)=zs++(List.range (q*aG.sz α)).map (zs.toArray[·%zs.length]!):=by
   apply SM;intro j;rw [Tj,RH]
   by_cases O:j<zs.length
   ·rw [Rb O,S_ (by rw [Ru]; omega)]
    simp [SX O,O]
   ·rw [Ra O,RH]
    by_cases J:j<(q+1)*aG.sz α
    ·rw [S_ J,S_ (by rw [Ru] at J; omega)]
     simp only [SC];rw [<- Nat.mod_eq_sub_mod (by omega)]
    ·rw [R4 (by simp; omega),R4 (by rw [Ru] at J; simp; omega)]
  rw [I];exact ⟨zs,_,rfl,Y,ih⟩
end
end Go.Sim
