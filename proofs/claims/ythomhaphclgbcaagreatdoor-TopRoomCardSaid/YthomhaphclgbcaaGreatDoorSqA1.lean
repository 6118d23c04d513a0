/-
  The proof, part A1.
-/
import Derived.WalkKit
import Derived.WalkSpells
import Derived.WalkLawsBesides
import Derived.Lib.AppendZeros
set_option linter.unusedVariables false
set_option linter.unusedSimpArgs false
set_option linter.unusedSectionVars false
set_option linter.unnecessarySimpa false
namespace Go.Sim
abbrev P8 := @Go.Addr.add_lit
abbrev PM := @Array.getD_eq_getD_getElem?
abbrev RD := @Array.getElem?_eq_getElem
abbrev Ql := @Array.getElem?_eq_some_iff
abbrev S8 := @Array.getElem?_modify
abbrev Sv := @Array.getElem?_setIfInBounds
abbrev Tm := @Array.toList_append
abbrev QC := @Bool.and_eq_true
abbrev Qw := @Bool.false_eq_true
abbrev Qy := @Bool.or_eq_true
abbrev OX := @ByteArray
abbrev PT := @Int.natCast_mul
abbrev O2 := @Int.toNat_natCast
abbrev QQ := @List.Sublist.refl
abbrev Qa := @List.all_eq_true
abbrev Pv := @List.append_assoc
abbrev PH := @List.append_nil
abbrev Q9 := @List.cons_append
abbrev Sx := @List.contains_iff_mem
abbrev Rz := @List.countP_le_length
abbrev RJ := @List.drop_append_of_le_length
abbrev QG := @List.drop_drop
abbrev Pz := @List.drop_eq_getElem_cons
abbrev RN := @List.drop_length
abbrev Rk := @List.drop_set_of_lt
abbrev Re := @List.drop_take
abbrev Qi := @List.drop_zero
abbrev Py := @List.eq_nil_of_length_eq_zero
abbrev QE := @List.ext_getElem?
abbrev RA := @List.filter_append
abbrev Tp := @List.filter_eq_self
abbrev Sa := @List.flatMap_append
abbrev Qf := @List.flatMap_cons
abbrev PA := @List.getD_eq_getElem?_getD
abbrev Q3 := @List.getElem?_append
abbrev Qb := @List.getElem?_append_left
abbrev PB := @List.getElem?_append_right
abbrev PJ := @List.getElem?_drop
abbrev OZ := @List.getElem?_eq_getElem
abbrev P1 := @List.getElem?_eq_none
abbrev O3 := @List.getElem?_eq_some_iff
abbrev Pw := @List.getElem?_map
abbrev QW := @List.getElem?_range
abbrev Su := @List.getElem?_set
abbrev PR := @List.getElem?_take
abbrev PC := @List.getElem_mem
abbrev Pj := @List.length_append
abbrev Pa := @List.length_cons
abbrev QR := @List.length_map
abbrev Qe := @List.length_replicate
abbrev P2 := @List.length_singleton
abbrev Pr := @List.length_take
abbrev Qk := @List.map_append
abbrev RH := @List.map_cons
abbrev Tf := @List.map_nil
abbrev Pe := @List.mem_append
abbrev O1 := @List.mem_append_left
abbrev P5 := @List.mem_append_right
abbrev PN := @List.mem_cons
abbrev O9 := @List.mem_cons_of_mem
abbrev O5 := @List.mem_cons_self
abbrev PY := @List.mem_filter
abbrev SR := @List.mem_filterMap
abbrev QU := @List.mem_flatMap
abbrev Qc := @List.mem_iff_getElem
abbrev PO := @List.mem_map
abbrev Pb := @List.mem_of_getElem?
abbrev PV := @List.mem_range
abbrev PE := @List.mem_singleton
abbrev Qz := @List.nil_append
abbrev PW := @List.nodup_append
abbrev Sg := @List.nodup_cons
abbrev RZ := @List.pairwise_iff_getElem
abbrev Sh := @List.range_succ
abbrev R2 := @List.set_eq_take_append_cons_drop
abbrev Tb := @List.singleton_append
abbrev RG := @List.size_toArray
abbrev R4 := @List.take_left
abbrev QJ := @List.take_length
abbrev RM := @List.take_set_of_le
abbrev Ps := @List.take_succ_eq_append_getElem
abbrev SX := @List.take_take
abbrev Rn := @List.toList_toArray
abbrev Rb := @Nat.add_assoc
abbrev Pm := @Nat.add_mul
abbrev Q2 := @Nat.add_sub_cancel_left
abbrev Qt := @Nat.add_zero
abbrev Rx := @Nat.ble_eq
abbrev P9 := @Nat.blt_eq
abbrev Q8 := @Nat.eq_of_beq_eq_true
abbrev QD := @Nat.eq_of_mul_eq_mul_right
abbrev RK := @Nat.le_mul_of_pos_right
abbrev Pn := @Nat.le_refl
abbrev P0 := @Nat.le_trans
abbrev RS := @Nat.lt_of_le_of_lt
abbrev RC := @Nat.lt_of_lt_of_le
abbrev QK := @Nat.lt_succ_self
abbrev RX := @Nat.lt_trichotomy
abbrev P6 := @Nat.min_eq_left
abbrev QL := @Nat.mod_eq_of_lt
abbrev Ph := @Nat.mul_le_mul_right
abbrev Rs := @Nat.mul_one
abbrev SG := @Nat.one_mul
abbrev Qg := @Nat.sub_self
abbrev RT := @Nat.sub_zero
abbrev Po := @Nat.zero_add
abbrev Qu := @Nat.zero_mul
abbrev S2 := @Option.bind_eq_some_iff
abbrev Ry := @Option.bind_some
abbrev QV := @Option.getD_some
abbrev Sr := @Option.map_eq_some_iff
abbrev Sj := @Option.map_none
abbrev Qp := @Option.map_some
abbrev O4 := @Option.some.inj
abbrev Pk := @Option.some.injEq
abbrev Rc := @Prod.mk.injEq
abbrev O_ := @Go.Result.andThen_ok
abbrev Pf := @Go.Sem.run_bind
abbrev Pp := @Go.Sem.run_pure
abbrev OY := @Go.Value
abbrev P4 := @congrArg
abbrev PK := @decide_eq_true_eq
abbrev Ti := @decide_false
abbrev Tv := @Go.grownCap_ge
abbrev SU := @Go.grownCap_le_maxLen
abbrev Tt := @Go.growslice_fits
abbrev S0 := @Go.heap_alloc_new
abbrev Q6 := @if_false
abbrev O7 := @if_neg
abbrev O8 := @if_pos
abbrev SH := @if_true
abbrev Pc := @of_decide_eq_false
abbrev O6 := @of_decide_eq_true
abbrev Ts := @Go.run_firstCells_some
abbrev Qs := @Go.run_underlying
abbrev O0 := @trivial
abbrev SI := @Go.wpList_step
end Go.Sim
namespace Go.Sim
open Go Go.RowKit
open _root_.Go.IntKind (i64 u64 u32 u8)
abbrev Hp:=Nat->Option Obj
def Hp.le (H H':Hp):Prop:=∀ b o,H b=some o->H' b=some o
theorem PX (H:Hp):H.le H:=λ_ _ h=>h
theorem SF {A B C:Hp} (h:A.le B) (k:B.le C):A.le C:=λb o x=>k b o (h b o x)
def Hp.add (H:Hp) (b:Nat) (o:Obj):Hp:=λc=>if c=b then some o else H c
theorem Hp.L3 {H:Hp}{b:Nat}{o:Obj} (h:H b=none):H.le (H.add b o):=by
 intro c x I;unfold Hp.add
 split
 ·rename_i e; subst e; rw [h] at I; cases I
 ·exact I
theorem Hp.wG (H:Hp) (b:Nat) (o:Obj):H.add b o b=some o:=by simp [Hp.add]
def snap (w:World):Hp:=λb=>w.heap[b]?
def iB (w:World) (T:TypeId) (sz:Nat) (v:OY) (n:Nat) (xs:List OY):Prop:=
  xs.length=n*sz /\
  ((v=.slice none 0 0/\n=0) \/
   ∃ g off cap I,v=.slice (some ⟨g,off,none⟩) n cap/\w.heap[g]? = some (.cells I T (0,0))/\n<=cap/\cap<=maxLen/\off+cap*sz<=I.size/\(I.toList.drop off).take (n*sz)=xs)
theorem iB.lt {w:World}{T:TypeId}{sz:Nat}{v:OY}{n:Nat}{xs:List OY} (h:iB w T sz v n xs) {k:Nat} (I:v.ownBlock=some k):k<w.heap.size:=by
 rcases h.2 with ⟨rfl,_⟩ | ⟨g,off,cap,J,rfl,O,_⟩
 ·simp [Value.ownBlock] at I
 ·simp only [Value.ownBlock,Pk] at I
  subst I;exact (Ql.1 O).1
theorem iB.kept {w w':World}{T:TypeId}{sz:Nat}{v:OY}{n:Nat}{xs:List OY}{row:Option Nat} (h:iB w T sz v n xs) (Y:w.grownBy w' row)
  (O:∀ b,v.ownBlock=some b->row≠some b):iB w' T sz v n xs:=by
 refine ⟨h.1,?_⟩;rcases h.2 with hn | ⟨g,off,cap,J,rfl,I,rest⟩
 ·exact .inl hn
 ·refine .inr ⟨g,off,cap,J,rfl,?_,rest⟩
  rw [Y.block g (Ql.1 I).1 (λe=>O g rfl e.symm)];exact I
theorem iB.nil (w:World) (T:TypeId) (sz:Nat):iB w T sz (.slice none 0 0) 0 []:=⟨by simp,.inl ⟨rfl,rfl⟩⟩
def MJ (fs:List Nat) (P:World->Prop):Prop:=∀ w w' row,P w->w.grownBy w' row->(∀ b ∈ fs,row≠some b)->P w'
inductive bL where
 | obj (b:Nat) (o:Obj)
 | row (v:OY) (T:TypeId) (sz n:Nat) (xs:List OY)
 | pack (fs:List Nat) (P:World->Prop)
def bL.yk:bL->Option Nat
 | .obj b _=>some b
 | .row v _ _ _ _=>v.ownBlock
 | .pack _ _=>none
def bL.tS:bL->List Nat
 | .obj b _=>[b]
 | .row v _ _ _ _=>v.ownBlock.toList
 | .pack fs _=>fs
def bL.ok (w:World):bL->Prop
 | .obj b o=>w.heap[b]? = some o
 | .row v T sz n xs=>iB w T sz v n xs
 | .pack fs P=>P w/\(∀ b ∈ fs,b<w.heap.size)/\MJ fs P
theorem bL.FD {w:World}{r:bL} (h:r.ok w) {b:Nat} (I:b ∈ r.tS):b<w.heap.size:=by
 cases r with
 | obj c o=>
  simp only [bL.tS,PE] at I;subst I;simp only [bL.ok] at h;exact (Ql.1 h).1
 | row v T sz n xs=>exact iB.lt h (Option.mem_toList.1 I)
 | pack fs P=>exact h.2.1 b I
theorem bL.kept {w w':World}{r:bL}{row:Option Nat} (h:r.ok w) (J:w.grownBy w' row) (I:∀ b ∈ r.tS,row≠some b):r.ok w':=by
 cases r with
 | obj c o=>
  simp only [bL.ok] at h ⊢;rw [J.block c (Ql.1 h).1 (λe=>I c (by simp [bL.tS]) e.symm)]
  exact h
 | row v T sz n xs=>
  exact iB.kept h J (λb O=>I b (Option.mem_toList.2 O))
 | pack fs P=>exact ⟨h.2.2 _ _ _ h.1 J I,λb O=>RC (h.2.1 b O) J.size,h.2.2⟩
theorem Jn {l l':List bL} (h:l.Sublist l'):(l.flatMap bL.tS).Sublist (l'.flatMap bL.tS):=by
 induction h with
 | slnil=>exact QQ _
 | cons a _ ih=>rw [Qf]; exact ih.trans (List.sublist_append_right _ _)
 | cons_cons a _ ih=>rw [Qf,Qf]; exact (QQ _).append ih
structure St (B:Nat) (w0:World) (H:Hp) (M:List bL) (w:World):Prop where
 below:Below B w0 w
 le:B<=w.heap.size
 tK:∀ b o,H b=some o->w.heap[b]? = some o
 ok:∀ r ∈ M,r.ok w
 lo:∀ r ∈ M,∀ b ∈ r.tS,B<=b/\H b=none
 nd:(M.flatMap bL.tS).Nodup
section
variable {B:Nat}{w0 w w':World}{H H':Hp}{M M':List bL}
theorem St.lt (h:St B w0 H M w) {b:Nat}{o:Obj} (I:H b=some o):b<w.heap.size:=(Ql.1 (h.tK b o I)).1
theorem St.perm (h:St B w0 H M w) (p:M.Perm M'):St B w0 H M' w:=
 ⟨h.below,h.le,h.tK,λr I=>h.ok r (p.mem_iff.2 I),λr I=>h.lo r (p.mem_iff.2 I),(p.flatMap_right _).nodup_iff.1 h.nd⟩
theorem St.sub (h:St B w0 H M w) (p:M'.Sublist M):St B w0 H M' w:=
 ⟨h.below,h.le,h.tK,λr I=>h.ok r (p.subset I),λr I=>h.lo r (p.subset I),h.nd.sublist (Jn p)⟩
theorem St.tail {r:bL} (h:St B w0 H (r::M) w):St B w0 H M w:=h.sub (List.sublist_cons_self _ _)
theorem St.drewN (h:St B w0 H M w) (n:Nat):St B w0 H M { w with drawn:=n }:=
 ⟨⟨h.below.os,h.below.tape,h.below.output,h.below.size,h.below.block⟩,h.le,h.tK,λr I=>by
  have:=h.ok r I;cases r with
  | pack fs P=>exact ⟨this.2.2 w _ none this.1 ⟨rfl,rfl,rfl,Pn _,λ_ _ _=>rfl⟩ (by simp),this.2⟩
  | _=>exact this,h.lo,h.nd⟩
theorem St.grow (h:St B w0 H M w) (I:w.grownBy w' none):St B w0 H M w':=
  ⟨h.below.grown I h.le (λ_ e=>by cases e),P0 h.le I.size,
   λb o J=>by rw [I.block b (h.lt J) (by simp)]; exact h.tK b o J,
   λr O=>bL.kept (h.ok r O) I (by simp),h.lo,h.nd⟩
theorem St.CT {r r':bL} (h:St B w0 H (r::M) w) (Z:w.grownBy w' r.yk) (hok:r'.ok w')
  (hf:∀ b,r'.yk=some b->r.yk=some b\/w.heap.size<=b) (hr:r.tS=r.yk.toList:=by rfl) (Y:r'.tS=r'.yk.toList:=by rfl):St B w0 H (r'::M) w':=by
 have J:=h.nd;have tK:∀ {b:Nat},r.yk=some b->b ∈ r.tS:=λe=>by rw [hr,e]; simp
 refine ⟨h.below.grown Z h.le (λk e=>(h.lo r (O5 ..) k (tK e)).1),P0 h.le Z.size,?_,?_,?_,?_⟩
 ·intro b o I
  rw [Z.block b (h.lt I) (λe=>by have:=(h.lo r (O5 ..) b (tK e.symm)).2; rw [this] at I; cases I)]
  exact h.tK b o I
 ·intro s hs
  rcases PN.1 hs with rfl | hs
  ·exact hok
  ·refine bL.kept (h.ok s (O9 _ hs)) Z ?_
   intro b I e;simp only [Qf] at J;exact (PW.1 J).2.2 b (tK e) b (QU.2 ⟨s,hs,I⟩) rfl
 ·intro s hs b I
  rcases PN.1 hs with rfl | hs
  ·rw [Y] at I
   rcases hf b (Option.mem_toList.1 I) with e | e
   ·exact h.lo r (O5 ..) b (tK e)
   ·refine ⟨P0 h.le e,?_⟩
    cases hh:H b with
    | none=>rfl
    | some o=>exact absurd (h.lt hh) (by omega)
  ·exact h.lo s (O9 _ hs) b I
 ·have hm:(M.flatMap bL.tS).Nodup:=(h.tail).nd
  rw [Qf,Y];cases hf':r'.yk with
  | none=>simpa using hm
  | some b=>
   simp only [Option.toList,Tb,Sg];refine ⟨λO=>?_,hm⟩;obtain ⟨s,hs,I⟩:=QU.1 O;rcases hf b hf' with e | e
   ·simp only [Qf] at J
    exact (PW.1 J).2.2 b (tK e) b O rfl
   ·have:=bL.FD (h.ok s (O9 _ hs)) I
    omega
theorem St.add {r':bL} (h:St B w0 H M w) (hg:w.grownBy w' none) (O:r'.ok w') (hf:∀ b,r'.yk=some b->w.heap.size<=b) (Y:r'.tS=r'.yk.toList:=by rfl):
  St B w0 H (r'::M) w':=by
 have Z:St B w0 H (.row (.slice none 0 0) 0 1 0 []::M) w:=by
  refine ⟨h.below,h.le,h.tK,?_,?_,?_⟩
  ·intro r I
   rcases PN.1 I with rfl | I
   ·exact iB.nil _ _ _
   ·exact h.ok r I
  ·intro r I
   rcases PN.1 I with rfl | I
   ·intro b J; simp [bL.tS,Value.ownBlock] at J
   ·exact h.lo r I
  ·simpa [Qf,bL.tS,Value.ownBlock] using h.nd
 exact Z.CT hg O (λb J=>.inr (hf b J)) rfl Y
theorem St.AN (h:St B w0 H M w) (T:TypeId) (sz:Nat):St B w0 H (.row (.slice none 0 0) T sz 0 []::M) w:=
 h.add ⟨rfl,rfl,rfl,Pn _,λ_ _ _=>rfl⟩ (iB.nil _ _ _) (by intro b I; simp [bL.yk,Value.ownBlock] at I)
theorem St.alloc (h:St B w0 H M w) (o:Obj):St B w0 H (.obj w.heap.size o::M) (w.alloc o):=
 h.add (World.grownBy_alloc w o none) (S0 w o) (by intro b I; simp only [bL.yk,Pk] at I; omega)
theorem St.uS {b:Nat}{o:Obj} (h:St B w0 H M w) (hm:bL.obj b o ∈ M):w.heap[b]? = some o:=h.ok _ hm
theorem St.freeze {b:Nat}{o:Obj} (h:St B w0 H (.obj b o::M) w):H.le (H.add b o)/\St B w0 (H.add b o) M w:=by
 have Z:=h.lo _ (O5 ..) b (by simp [bL.tS])
 refine ⟨Hp.L3 Z.2,h.below,h.le,?_,h.tail.ok,?_,h.tail.nd⟩
 ·intro c x J
  unfold Hp.add at J
  split at J
  ·rename_i e; subst e; cases J; exact h.ok _ (O5 ..)
  ·exact h.tK c x J
 ·intro r Y c O
  refine ⟨(h.tail.lo r Y c O).1,?_⟩;unfold Hp.add
  split
  ·rename_i e; subst e
   have I:=h.nd;simp only [Qf,bL.tS,Tb,Sg] at I;exact absurd (QU.2 ⟨r,Y,O⟩) I.1
  ·exact (h.tail.lo r Y c O).2
theorem St.N3 {b:Nat}{o:Obj} (h:St B w0 H' M w) (Z:B<=b) (O:H.le H') (hb:H b=none) (Y:H' b=some o):St B w0 H (.obj b o::M) w:=by
 refine ⟨h.below,h.le,λc x hx=>h.tK c x (O c x hx),?_,?_,?_⟩
 ·intro r I
  rcases PN.1 I with rfl | I
  ·exact h.tK b o Y
  ·exact h.ok r I
 ·intro r I c J
  rcases PN.1 I with rfl | I
  ·simp only [bL.tS,PE] at J; subst J; exact ⟨Z,hb⟩
  ·refine ⟨(h.lo r I c J).1,?_⟩
   cases hh:H c with
   | none=>rfl
   | some x=>have:=O c x hh; rw [(h.lo r I c J).2] at this; cases this
 ·simp only [Qf,bL.tS,Tb,Sg]
  refine ⟨λhm=>?_,h.nd⟩;obtain ⟨r,I,J⟩:=QU.1 hm;have:=(h.lo r I b J).2;rw [this] at Y; cases Y
theorem St.KZ (h:St B w0 H' M w) (I:H.le H'):St B w0 H M w:=
 ⟨h.below,h.le,λb o J=>h.tK b o (I b o J),h.ok,λr O b J=>⟨(h.lo r O b J).1,by
  cases Y:H b with
  | none=>rfl
  | some x=>have:=I b x Y; rw [(h.lo r O b J).2] at this; cases this⟩,h.nd⟩
def iY (rs:List bL):bL:=.pack (rs.flatMap bL.tS) (λw=>∀ r ∈ rs,r.ok w)
theorem Hc (rs:List bL):MJ (rs.flatMap bL.tS) (λw=>∀ r ∈ rs,r.ok w):=λ_ _ _ h Y I r J=>
 bL.kept (h r J) Y (λb O=>I b (QU.2 ⟨r,J,O⟩))
theorem St.unpack {rs:List bL} (h:St B w0 H (iY rs::M) w):St B w0 H (rs++M) w:=
 ⟨h.below,h.le,h.tK,λr I=>by
  rcases Pe.1 I with I | I
  ·exact (h.ok _ (O5 ..)).1 r I
  ·exact h.ok r (O9 _ I),λr I b J=>by
  rcases Pe.1 I with I | I
  ·exact h.lo _ (O5 ..) b (QU.2 ⟨r,I,J⟩)
  ·exact h.lo r (O9 _ I) b J,by
  have:=h.nd;rw [Qf] at this;rw [Sa]; exact this⟩
theorem St.pack {rs:List bL} (h:St B w0 H (rs++M) w):St B w0 H (iY rs::M) w:=
 ⟨h.below,h.le,h.tK,λr I=>by
  rcases PN.1 I with rfl | I
  ·refine ⟨λr I=>h.ok r (O1 _ I),λb J=>?_,Hc rs⟩
   obtain ⟨r,I,J⟩:=QU.1 J;exact bL.FD (h.ok r (O1 _ I)) J
  ·exact h.ok r (P5 _ I),λr I b J=>by
  rcases PN.1 I with rfl | I
  ·obtain ⟨r,I,J⟩:=QU.1 J
   exact h.lo r (O1 _ I) b J
  ·exact h.lo r (P5 _ I) b J,by
  have:=h.nd;rw [Sa] at this;rw [Qf]; exact this⟩
theorem St.begin (w:World):St w.heap.size w (snap w) [] w:=
 ⟨Below.refl _ _,Pn _,λ_ _ h=>h,by simp,by simp,by simp⟩
end
abbrev Env:=List (Nat×OY)
def lk:Env->Nat->Option OY
 | [],_=>none
 | (t,v)::r,u=>bif Nat.beq t u then some v else lk r u
structure Sl (N:Nat) (L:Env) (a:Act):Prop where
 size:a.tmps.size=N
 Di:a.defers=[]
 get:∀ t v,lk L t=some v->a.tmps[t]? = some v
theorem sI (t:Nat) (v:OY) (r:Env) (u:Nat):lk ((t,v)::r) u=if t=u then some v else lk r u:=by
 show (bif Nat.beq t u then some v else lk r u)=_
 by_cases h:t=u
 ·subst h; simp
 ·have:Nat.beq t u=false:=by
   cases I:Nat.beq t u with
   | false=>rfl
   | true=>exact absurd (Q8 I) h
  simp [this,h]
theorem Sl.put {N:Nat}{L:Env}{a:Act}{d:Nat}{v:OY} (h:Sl N L a) (J:Nat.blt d N=true):Sl N ((d,v)::L) (a.put (some d) v):=by
 have I:d<N:=by simpa [P9] using J
 refine ⟨by simp [Act.put,h.size],h.Di,λt u ht=>?_⟩
 rw [sI] at ht;simp only [Act.put,Sv]
 by_cases e:d=t
 ·subst e
  simp only [SH,Pk] at ht;subst ht;simp [h.size,I]
 ·simp only [O7 e] at ht ⊢
  exact h.get t u ht
def Kept (L:Env):Env->Prop
 | []=>True
 | (t,v)::r=>lk L t=some v/\Kept L r
theorem Kept.lk {L:Env}:∀ {L':Env},Kept L L'->∀ t v,lk L' t=some v->lk L t=some v
 | [],_,t,v,h=>by simp [Sim.lk] at h
 | (u,x)::r,hk,t,v,h=>by
  rw [sI] at h
  split at h
  ·rename_i e; subst e; cases h; exact hk.1
  ·exact Kept.lk hk.2 t v h
theorem Sl.MX {N:Nat}{L L':Env}{a:Act} (h:Sl N L a) (I:Kept L L'):Sl N L' a:=
 ⟨h.size,h.Di,λt v ht=>h.get t v (I.lk t v ht)⟩
def ev (L:Env):Operand->Option OY
 | .tmp t=>lk L t
 | .const v=>some v
 | .func f=>some (.func (.func f) #[] #[])
 | .global g=>some (.pointer (some ⟨g,0,none⟩))
theorem Sl.ev {N:Nat}{L:Env}{a:Act} (h:Sl N L a) {x:Operand}{v:OY} (I:Sim.ev L x=some v):a.eval x=v:=by
 cases x with
 | tmp t=>simp [Act.eval,PM,h.get t v I]
 | const u=>simpa [Sim.ev,Act.eval] using I
 | func f=>simpa [Sim.ev,Act.eval] using I
 | global g=>simpa [Sim.ev,Act.eval] using I
def gd (ops:Array Oper) (L:Env) (o:Oper):Option Bool:=
 match o.guard with
 | none=>some true
 | some (j,want)=>
  match (ops[j]?).bind (·.dst) with
  | none=>none
  | some t=>match lk L t with
   | some (.bool b)=>some (b == want)
   | some (.tuple _)=>some false
   | _=>none
theorem Sl.gd {N:Nat}{L:Env}{a:Act} (h:Sl N L a) {ops:Array Oper}{o:Oper}{c:Bool} (I:Sim.gd ops L o=some c):Region.wanted o (yielded ops a.tmps)=c:=by
 unfold Sim.gd at I;unfold Region.wanted;cases O:o.guard with
 | none=>simp only [O,Pk] at I; simp [<- I]
 | some p=>
  obtain ⟨j,Y⟩:=p;simp only [O] at I;cases J:(ops[j]?).bind (·.dst) with
  | none=>simp [J] at I
  | some t=>
   simp only [J] at I;cases hl:lk L t with
   | none=>simp [hl] at I
   | some v=>
    cases v with
    | bool b=>
     simp only [hl,Pk] at I;have:=h.get t _ hl;simp [yielded,J,this,<- I]
    | tuple vs=>
     simp only [hl,Pk] at I;have:=h.get t _ hl;simp [yielded,J,this,<- I]
    | _=>simp [hl] at I
structure Cx where
 P:Program
 N:Nat
 B:Nat
 w0:World
abbrev k_:=Exit->Act->World->Prop
def W (x:Cx) (ops:Array Oper) (Q:k_) (rest:List Oper) (H:Hp) (M:List bL) (L:Env):Prop:=
 ∀ a w,Sl x.N L a->St x.B x.w0 H M w->wpList x.P ops Q rest a w
def C (x:Cx) (c:Code) (Q:k_) (H:Hp) (M:List bL) (L:Env):Prop:=
 ∀ a w,Sl x.N L a->St x.B x.w0 H M w->c.wp x.P Q a w
def E (x:Cx) (e:Exit) (Q:k_) (H:Hp) (M:List bL) (L:Env):Prop:=
 ∀ a w,Sl x.N L a->St x.B x.w0 H M w->Q e a w
section
variable {x:Cx}{ops:Array Oper}{Q:k_}{rest:List Oper}{H:Hp}{M M':List bL}{L L':Env}
theorem bI {c d:Code} (k:C x c (Exit.then (d.wp x.P Q) Q) H M L):C x (.seq c d) Q H M L:=
 λa w hs ht=>wp_seq (k a w hs ht)
theorem lO (k:E x .normal Q H M L):C x .skip Q H M L:=λa w hs ht=>wp_skip (k a w hs ht)
theorem tO {id:Nat} (k:E x (.exit id) Q H M L):C x (.exit id) Q H M L:=λa w hs ht=>wp_exit (k a w hs ht)
theorem lN (k:E x .ret Q H M L):C x .ret Q H M L:=λa w hs ht=>wp_ret (k a w hs ht)
theorem tr {id:Nat}{c:Code} (k:C x c (Exit.inBlock id Q) H M L):C x (.block id c) Q H M L:=
 λa w hs ht=>wp_block (k a w hs ht)
theorem bB {c:Operand}{p q:Code}{b:Bool} (I:ev L c=some (.bool b)) (J:b=true->C x p Q H M L) (O:b=false->C x q Q H M L):
  C x (.cond c p q) Q H M L:=
 λa w hs ht=>wp_cond_split (hs.ev I) (λe=>J e a w hs ht) (λe=>O e a w hs ht)
theorem aK {id:Nat}{l:List Oper} (k:W x l.toArray Q l H M L):C x (.region id l.toArray false) Q H M L:=
 λa w hs ht=>wp_region_lit (k a w hs ht)
theorem aY (k:E x .normal Q H M L):W x ops Q [] H M L:=λa w hs ht=>wpList_nil (k a w hs ht)
theorem aR {d:Code}{I:k_} (k:C x d I H M L):E x .normal (Exit.then (d.wp x.P I) Q) H M L:=λa w hs ht=>k a w hs ht
theorem zJ {c:Code} (hL:Kept L L') (I:M.Perm M') (k:C x c Q H M' L'):C x c Q H M L:=
 λa w hs ht=>k a w (hs.MX hL) (ht.perm I)
theorem BM {e:Exit} (hL:Kept L L') (I:M.Perm M') (k:E x e Q H M' L'):E x e Q H M L:=
 λa w hs ht=>k a w (hs.MX hL) (ht.perm I)
theorem LB {c:Code} (I:M'.Sublist M) (k:C x c Q H M' L):C x c Q H M L:=λa w hs ht=>k a w hs (ht.sub I)
theorem Ho {e:Exit} (I:M'.Sublist M) (k:E x e Q H M' L):E x e Q H M L:=λa w hs ht=>k a w hs (ht.sub I)
theorem nt (I:M.Perm M') (k:W x ops Q rest H M' L):W x ops Q rest H M L:=λa w hs ht=>k a w hs (ht.perm I)
theorem r7 {o:Oper}{d:Nat} (Z:o.dst=some d) (hg:gd ops L o=some true) (hN:Nat.blt d x.N=true)
  (I:∀ a w,Sl x.N L a->St x.B x.w0 H M w->∃ v O,(execOp a.eval o).run x.P w=.ok (.value v) O/\∃ H' M',St x.B x.w0 H' M' O/\W x ops Q rest H' M' ((d,v)::L)):
  W x ops Q (o::rest) H M L:=by
 intro a w hs ht;obtain ⟨v,O,hr,H',M',J,k⟩:=I a w hs ht;refine SI λK Y=>?_;rw [O8 (hs.gd hg)];unfold Oper.wp;rw [hr];simp only [Oper.upon,Z];exact Y _ _ (k _ _ (hs.put hN) J)
theorem eT {o:Oper}{d:Nat}{v:OY} (J:o.dst=some d) (O:gd ops L o=some true) (hN:Nat.blt d x.N=true)
  (I:∀ a w,Sl x.N L a->St x.B x.w0 H M w->(execOp a.eval o).run x.P w=.ok (.value v) w) (k:W x ops Q rest H M ((d,v)::L)):
  W x ops Q (o::rest) H M L:=
 r7 J O hN λa w hs ht=>⟨v,w,I a w hs ht,H,M,ht,k⟩
theorem ML {o:Oper}{d:Nat} (J:o.dst=some d) (O:gd ops L o=some false) (hN:Nat.blt d x.N=true) (k:W x ops Q rest H M ((d,undef)::L)):
  W x ops Q (o::rest) H M L:=by
 intro a w hs ht;refine SI λK I=>?_;rw [O7 (by rw [hs.gd O]; simp),J]
 exact I _ _ (k _ _ (hs.put hN) ht)
theorem Ll {o:Oper} (J:o.dst=none) (O:gd ops L o=some false) (k:W x ops Q rest H M L):W x ops Q (o::rest) H M L:=by
 intro a w hs ht;refine SI λK I=>?_;rw [O7 (by rw [hs.gd O]; simp),J]
 exact I _ _ (k _ _ hs ht)
theorem BY {o:Oper} (Z:o.dst=none) (hg:gd ops L o=some true)
  (I:∀ a w,Sl x.N L a->St x.B x.w0 H M w->∃ O,(execOp a.eval o).run x.P w=.ok .skip O/\∃ H' M',St x.B x.w0 H' M' O/\W x ops Q rest H' M' L):
  W x ops Q (o::rest) H M L:=by
 intro a w hs ht;obtain ⟨O,hr,H',M',J,k⟩:=I a w hs ht;refine SI λK Y=>?_;rw [O8 (hs.gd hg)];unfold Oper.wp;rw [hr];simp only [Oper.upon,Z];exact Y _ _ (k _ _ hs J)
def tG (B:Nat) (w0:World) (I:Hp->List bL->OY->Prop):Ending->World->Prop
 | .returned v,w'=>∃ H' M',St B w0 H' M' w'/\I H' M' v
 | _,_=>False
def xL (L:Env):List Operand->Option (List OY)
 | []=>some []
 | y::r=>match ev L y,xL L r with
  | some v,some vs=>some (v::vs)
  | _,_=>none
theorem Sl.xL {L:Env}{a:Act}{N:Nat} (hs:Sl N L a):∀ {l:List Operand}{vs:List OY},Sim.xL L l=some vs->l.map a.eval=vs
 | [],vs,h=>by simp [Sim.xL] at h; simp [h]
 | y::r,vs,h=>by
  simp only [Sim.xL] at h;cases I:Sim.ev L y with
  | none=>simp [I] at h
  | some v=>
   cases J:Sim.xL L r with
   | none=>simp [I,J] at h
   | some O=>
    simp only [I,J,Pk] at h;subst h;simp [hs.ev I,Sl.xL hs J]
theorem fL {d:Nat}{f:FuncId}{args:List Operand}{Y:Array TypeId}{ty:TypeId}{pos:String}{I:Array Edge}{g:Option (Nat×Bool)}{vs:List OY}
  {Z:Hp->List bL->OY->Prop}
  (O:∀ as w,(callFunc f as).run x.P w=.ok (.enter f as) w)
  (hg:gd ops L ⟨some d,.call ⟨.value (.func f),args.toArray,Y⟩,ty,pos,I,g⟩=some true) (hN:Nat.blt d x.N=true)
  (hv:xL L args=some vs)
  (hc:∀ w,St x.B x.w0 H M w->Calls x.P f vs.toArray w (tG x.B x.w0 Z))
  (k:∀ v H' M',Z H' M' v->W x ops Q rest H' M' ((d,v)::L)):
  W x ops Q (⟨some d,.call ⟨.value (.func f),args.toArray,Y⟩,ty,pos,I,g⟩::rest) H M L:=by
 intro a w hs ht;refine SI λK hK=>?_;rw [O8 (hs.gd hg)];have J:args.toArray.map a.eval=vs.toArray:=by simp [hs.xL hv]
 have hr:(execOp a.eval ⟨some d,.call ⟨.value (.func f),args.toArray,Y⟩,ty,pos,I,g⟩).run x.P w=.ok (.enter f vs.toArray) w:=by
  simp only [execOp,resolve,J,Act.eval,Deferred.ofValue,Pf,Pp,O_,invoke];simp [O]
 unfold Oper.wp;rw [hr];simp only [Oper.upon];refine (hc w ht).mono λe w' he=>?_;cases e with
 | returned v=>
  obtain ⟨H',M',h1,h2⟩:=he;exact hK _ _ (k v H' M' h2 _ _ (hs.put hN) h1)
 | panicked c=>exact he.elim
 | outgrown=>exact he.elim
end
def xB (x:Cx) (H:Hp) (M:List bL) (ad:Addr) (v:OY):Prop:=∀ w,St x.B x.w0 H M w->w.cell? ad=some v
def zN (H:Hp) (ad:Addr) (v:OY):Prop:=∃ arr T fz,H ad.block=some (.cells arr T fz)/\ad.spot=none/\arr[ad.off]? = some v
theorem Td {w:World}{ad:Addr}{arr:Array OY}{T:TypeId}{fz:Nat×Nat}{v:OY} (h:w.heap[ad.block]? = some (.cells arr T fz)) (hs:ad.spot=none) (I:arr[ad.off]? = some v):
  w.cell? ad=some v:=by
 simp [World.cell?,h,hs,I]
theorem zN.at {x:Cx}{H:Hp}{M:List bL}{ad:Addr}{v:OY} (h:zN H ad v):xB x H M ad v:=by
 obtain ⟨arr,T,fz,I,hs,J⟩:=h;exact λw ht=>Td (ht.tK _ _ I) hs J
theorem zN.mono {H H':Hp}{ad:Addr}{v:OY} (I:H.le H') (h:zN H ad v):zN H' ad v:=by
 obtain ⟨arr,T,fz,J,hs,O⟩:=h;exact ⟨arr,T,fz,I _ _ J,hs,O⟩
theorem uT {x:Cx}{H:Hp}{M:List bL}{b off:Nat}{l:List OY}{T:TypeId}{fz:Nat×Nat}{v:OY}
  (hm:bL.obj b (.cells l.toArray T fz) ∈ M) (I:l[off]? = some v):xB x H M ⟨b,off,none⟩ v:=by
 intro w ht;exact Td (ht.uS hm) rfl (by simpa using I)
def xZ (x:Cx) (H:Hp) (M:List bL) (ad:Addr) (cs:List OY):Prop:=∀ j c,cs[j]? = some c->xB x H M (ad.add j) c
def gR (H:Hp) (ad:Addr) (cs:List OY):Prop:=∀ j c,cs[j]? = some c->zN H (ad.add j) c
theorem gR.at {x:Cx}{H:Hp}{M:List bL}{ad:Addr}{cs:List OY} (h:gR H ad cs):xZ x H M ad cs:=λj c I=>(h j c I).at
theorem gR.mono {H H':Hp}{ad:Addr}{cs:List OY} (I:H.le H') (h:gR H ad cs):gR H' ad cs:=λj c J=>(h j c J).mono I
theorem CA {x:Cx}{H:Hp}{M:List bL}{b:Nat}{l:List OY}{T:TypeId}{fz:Nat×Nat}
  (hm:bL.obj b (.cells l.toArray T fz) ∈ M):xZ x H M ⟨b,0,none⟩ l:=by
 intro j c I;rw [P8,Po];exact uT hm I
theorem run_loadCellsFrom {P:Program}{w:World}{ad:Addr}:∀ (cs:List OY) (i:Nat) (acc:Array OY),(∀ j c,cs[j]? = some c->w.cell? (ad.add (i+j))=some c) ->
  (loadCellsFrom ad i cs.length acc).run P w=.ok (acc++cs.toArray) w
 | [],i,acc,_=>by simp [loadCellsFrom]
 | c::cs,i,acc,h=>by
  have I:=h 0 c rfl;simp only [Qt] at I;have ih:=run_loadCellsFrom (P:=P) (w:=w) (ad:=ad) cs (i+1) (acc.push c) (λj d J=>by have:=h (j+1) d (by simpa using J); rwa [show i+(j+1)=i+1+j from by omega] at this)
  simp only [Pa,loadCellsFrom,load,Pf,Sem.run,I,O_];rw [ih];simp
section
variable {x:Cx}{ops:Array Oper}{Q:k_}{rest:List Oper}{H:Hp}{M M':List bL}{L L':Env}
variable {d:Nat}{ty:TypeId}{pos:String}{aft:Array Edge}{g:Option (Nat×Bool)}
theorem bU {y:Operand}{v:OY} (I:gd ops L ⟨some d,.move y,ty,pos,aft,g⟩=some true) (hN:Nat.blt d x.N=true)
  (J:ev L y=some v) (k:W x ops Q rest H M ((d,v)::L)):W x ops Q (⟨some d,.move y,ty,pos,aft,g⟩::rest) H M L:=
 eT rfl I hN (λa w hs _=>by simp [execOp,hs.ev J]) k
theorem aJ {y:Operand}{v:OY} (I:gd ops L ⟨some d,.assign y,ty,pos,aft,g⟩=some true) (hN:Nat.blt d x.N=true)
  (J:ev L y=some v) (k:W x ops Q rest H M ((d,v)::L)):W x ops Q (⟨some d,.assign y,ty,pos,aft,g⟩::rest) H M L:=
 eT rfl I hN (λa w hs _=>by simp [execOp,hs.ev J]) k
theorem BX {c y z:Operand}{b:Bool}{v:OY} (O:gd ops L ⟨some d,.pick c y z,ty,pos,aft,g⟩=some true) (hN:Nat.blt d x.N=true)
  (J:ev L c=some (.bool b)) (I:(if b then ev L y else ev L z)=some v) (k:W x ops Q rest H M ((d,v)::L)):
  W x ops Q (⟨some d,.pick c y z,ty,pos,aft,g⟩::rest) H M L:=
 eT rfl O hN (λa w hs _=>by
  cases b
  ·simp only [Qw,Q6] at I; simp [execOp,hs.ev J,hs.ev I,asBool]
  ·simp only [SH] at I; simp [execOp,hs.ev J,hs.ev I,asBool]) k
def Ad:BinOp->OY->OY->Option OY
 | .add,.int k a,.int k' b=>if k=k' then some (.int k (k.wrap (a+b))) else none
 | .sub,.int k a,.int k' b=>if k=k' then some (.int k (k.wrap (a-b))) else none
 | .mul,.int k a,.int k' b=>if k=k' then some (.int k (k.wrap (a*b))) else none
 | .lss,.int k a,.int k' b=>if k=k' then some (.bool (decide (a<b))) else none
 | .leq,.int k a,.int k' b=>if k=k' then some (.bool (decide (a<=b))) else none
 | .gtr,.int k a,.int k' b=>if k=k' then some (.bool (decide (b<a))) else none
 | .geq,.int k a,.int k' b=>if k=k' then some (.bool (decide (b<=a))) else none
 | .eql,.int k a,.int k' b=>if k=k' then some (.bool (decide (a=b))) else none
 | .neq,.int k a,.int k' b=>if k=k' then some (.bool (!decide (a=b))) else none
 | .and,.int k a,.int k' b=>if k=k' then some (.int k (k.wrap (BitVec.ofInt k.bits a &&& BitVec.ofInt k.bits b).toNat)) else none
 | .or,.int k a,.int k' b=>if k=k' then some (.int k (k.wrap (BitVec.ofInt k.bits a ||| BitVec.ofInt k.bits b).toNat)) else none
 | .xor,.int k a,.int k' b=>if k=k' then some (.int k (k.wrap (BitVec.ofInt k.bits a ^^^ BitVec.ofInt k.bits b).toNat)) else none
 | .eql,.string s,.string t=>some (.bool (decide (s=t)))
 | .neq,.string s,.string t=>some (.bool (!decide (s=t)))
 | .lss,.string s,.string t=>some (.bool (Op.bytesLess s.toList t.toList))
 | _,_,_=>none
theorem LH (s t:OX):(s.toList == t.toList)=decide (s=t):=by
 rw [Bool.eq_iff_iff];simp only [beq_iff_eq,PK];constructor
 ·intro h
  have hs:∀ u:OX,u.toList=u.data.toList:=ByteArray.toList_eq;rw [hs,hs] at h;exact ByteArray.ext (Array.ext' h)
 ·intro h; rw [h]
theorem FG (a b:Int):(a == b)=decide (a=b):=by rw [Bool.eq_iff_iff]; simp
theorem IA {p:Prop}[Decidable p] {v w:OY} (h:(if p then some v else none)=some w):p/\v=w:=by
 split at h
 ·exact ⟨‹_›,by simpa using h⟩
 ·cases h
theorem Gq {I:BinOp}{a b v:OY} (t:TypeId) (P:Program) (w:World) (h:Ad I a b=some v):(binOp I t a b).run P w=.ok v w:=by
 unfold Ad at h
 split at h
 case h_1 | h_2 | h_3 | h_4 | h_5 | h_6 | h_7 | h_8 | h_9 | h_10 | h_11 | h_12=>
  obtain ⟨rfl,rfl⟩:=IA h
  first
   | (simp [binOp,Op.intArith]; done)
   | (simp [binOp,Op.intBits]; done)
   | (simp [binOp,Op.intCmp]; done)
   | (simp [binOp,Op.intCmp,bne,FG]; done)
 case h_13 | h_14 | h_15=>cases h; simp [binOp,Op.stringOp,<- LH]
 case h_16=>cases h
theorem Dl {I:BinOp}{a b v:OY} (t:TypeId) (y z:Operand) (P:Program) (w:World) (h:Ad I a b=some v):(eqGuard I t y z a b).run P w=.ok () w:=by
 unfold Ad at h
 split at h <;> first
  | (simp [eqGuard]; done)
  | (cases h; done)
theorem vR {I:BinOp}{t u:TypeId}{y z:Operand}{a b v:OY} (O:gd ops L ⟨some d,.binOp I t y z u,ty,pos,aft,g⟩=some true) (hN:Nat.blt d x.N=true)
  (Y:ev L y=some a) (Z:ev L z=some b) (J:Ad I a b=some v) (k:W x ops Q rest H M ((d,v)::L)):
  W x ops Q (⟨some d,.binOp I t y z u,ty,pos,aft,g⟩::rest) H M L:=
 eT rfl O hN (λc w hs _=>by
  simp only [execOp,hs.ev Y,hs.ev Z,Pf,Dl t y z x.P w J,O_,Gq t x.P w J,Pp]) k
theorem Lm {t u:TypeId}{y z:Operand}{I:IntKind}{m n:Int} (J:gd ops L ⟨some d,.binOp .quo t y z u,ty,pos,aft,g⟩=some true) (hN:Nat.blt d x.N=true)
  (O:ev L y=some (.int I m)) (Y:ev L z=some (.int I n)) (hn:n≠0) (k:W x ops Q rest H M ((d,.int I (I.wrap (m.tdiv n)))::L)):
  W x ops Q (⟨some d,.binOp .quo t y z u,ty,pos,aft,g⟩::rest) H M L:=
 eT rfl J hN (λc w hs _=>by
  simp [execOp,hs.ev O,hs.ev Y,eqGuard,binOp,Op.intDiv,hn]) k
theorem HI {t u:TypeId}{y z:Operand}{I:IntKind}{m n:Int} (J:gd ops L ⟨some d,.binOp .rem t y z u,ty,pos,aft,g⟩=some true) (hN:Nat.blt d x.N=true)
  (O:ev L y=some (.int I m)) (Y:ev L z=some (.int I n)) (hn:n≠0) (k:W x ops Q rest H M ((d,.int I (m.tmod n))::L)):
  W x ops Q (⟨some d,.binOp .rem t y z u,ty,pos,aft,g⟩::rest) H M L:=
 eT rfl J hN (λc w hs _=>by
  simp [execOp,hs.ev O,hs.ev Y,eqGuard,binOp,Op.intDiv,hn]) k
def LA:UnOp->OY->Option OY
 | .neg,.int k n=>some (.int k (k.wrap (0-n)))
 | .not,.bool b=>some (.bool !b)
 | .xor,.int k n=>some (.int k (k.wrap (BitVec.ofInt k.bits (if k.signed then -1 else k.max) ^^^ BitVec.ofInt k.bits n).toNat))
 | _,_=>none
theorem MM {J:UnOp}{t:TypeId}{y:Operand}{a v:OY} (O:gd ops L ⟨some d,.unOp J t y,ty,pos,aft,g⟩=some true) (hN:Nat.blt d x.N=true)
  (Y:ev L y=some a) (I:LA J a=some v) (k:W x ops Q rest H M ((d,v)::L)):
  W x ops Q (⟨some d,.unOp J t y,ty,pos,aft,g⟩::rest) H M L:=
 eT rfl O hN (λc w hs _=>by
  simp only [execOp,hs.ev Y];unfold LA at I
  split at I <;> first
   | (cases I; simp [Op.unary,Op.intArith,Op.intBits]; done)
   | cases I) k
theorem MK {T:TypeId}{y:Operand}{v:OY}{cs:List OY} (J:gd ops L ⟨some d,.box T y,ty,pos,aft,g⟩=some true) (hN:Nat.blt d x.N=true)
  (O:ev L y=some v) (I:v.cells=cs.toArray)
  (k:∀ b,W x ops Q rest H (.obj b (.cells cs.toArray T (0,0))::M) ((d,.pointer (some ⟨b,0,none⟩))::L)):
  W x ops Q (⟨some d,.box T y,ty,pos,aft,g⟩::rest) H M L:=
 r7 rfl J hN (λc w hs ht=>⟨_,w.alloc (.cells cs.toArray T),by
  simp only [execOp,hs.ev O,Instr.box,newVar,newRow,newObj,Pf,Pp,Sem.run,O_,I,World.alloc],_,_,ht.alloc _,k _⟩)
theorem JL {T:TypeId}{z:OY}{cs:List OY} (J:gd ops L ⟨some d,.alloc T,ty,pos,aft,g⟩=some true) (hN:Nat.blt d x.N=true)
  (O:∀ w,(zeroValue T).run x.P w=.ok z w) (I:z.cells=cs.toArray)
  (k:∀ b,W x ops Q rest H (.obj b (.cells cs.toArray T (0,0))::M) ((d,.pointer (some ⟨b,0,none⟩))::L)):
  W x ops Q (⟨some d,.alloc T,ty,pos,aft,g⟩::rest) H M L:=
 r7 rfl J hN (λc w hs ht=>⟨_,w.alloc (.cells cs.toArray T),by
  simp only [execOp,Instr.alloc,O,newVar,newRow,newObj,Pf,Pp,Sem.run,O_,I,World.alloc],_,_,ht.alloc _,k _⟩)
theorem pL {T:TypeId}{y:Operand}{ad:Addr}{v:OY} (O:gd ops L ⟨some d,.load T y,ty,pos,aft,g⟩=some true) (hN:Nat.blt d x.N=true)
  (I:∀ w,(isAgg T).run x.P w=.ok false w) (Y:ev L y=some (.pointer (some ad))) (J:xB x H M ad v)
  (k:W x ops Q rest H M ((d,v)::L)):W x ops Q (⟨some d,.load T y,ty,pos,aft,g⟩::rest) H M L:=
 eT rfl O hN (λc w hs ht=>by
  simp [execOp,hs.ev Y,Instr.loadAt,Instr.sureAddr,loadVar,I,load,Sem.run,J w ht]) k
theorem iD {T:TypeId}{n:Nat}{y:Operand}{ad:Addr}{cs:List OY} (O:gd ops L ⟨some d,.load T y,ty,pos,aft,g⟩=some true) (hN:Nat.blt d x.N=true)
  (I:∀ w,(isAgg T).run x.P w=.ok true w) (hn:∀ w,(sizeOf T).run x.P w=.ok n w) (Z:ev L y=some (.pointer (some ad))) (J:xZ x H M ad cs) (hl:cs.length=n)
  (k:W x ops Q rest H M ((d,.agg cs.toArray)::L)):W x ops Q (⟨some d,.load T y,ty,pos,aft,g⟩::rest) H M L:=
 eT rfl O hN (λc w hs ht=>by
  have h:=run_loadCellsFrom (P:=x.P) (w:=w) (ad:=ad) cs 0 #[] (λj v Y=>by rw [Po]; exact J j v Y w ht)
  rw [hl] at h;simp [execOp,hs.ev Z,Instr.loadAt,Instr.sureAddr,loadVar,I,hn,loadCells,h]) k
theorem tw {T:TypeId}{y:Operand}{ad:Addr}{f n o:Nat}{fs:Array Field}{I:Field} (hg:gd ops L ⟨some d,.fieldAddr T y f,ty,pos,aft,g⟩=some true) (hN:Nat.blt d x.N=true)
  (Y:∀ w,(underlying T).run x.P w=.ok (.struct fs) w) (Z:fs[f]? = some I) (hn:∀ w,(sizeOf I.type).run x.P w=.ok n w) (J:Nat.beq n 0=false) (ho:I.offset=o)
  (hy:ev L y=some (.pointer (some ad))) (k:W x ops Q rest H M ((d,.pointer (some (ad.add o)))::L)):
  W x ops Q (⟨some d,.fieldAddr T y f,ty,pos,aft,g⟩::rest) H M L:=
 eT rfl hg hN (λc w hs ht=>by
  have O:¬ n=0:=λe=>by subst e; simp at J
  simp [execOp,hs.ev hy,Instr.fieldAt,Y,Z,Instr.sureAddr,fieldPlace,hn,O,ho]) k
theorem oP {y:Operand}{ad:Addr} (I:gd ops L ⟨some d,.nilCheck y,ty,pos,aft,g⟩=some true) (hN:Nat.blt d x.N=true)
  (J:ev L y=some (.pointer (some ad))) (k:W x ops Q rest H M ((d,.pointer (some ad))::L)):
  W x ops Q (⟨some d,.nilCheck y,ty,pos,aft,g⟩::rest) H M L:=
 eT rfl I hN (λc w hs ht=>by simp [execOp,hs.ev J]) k
theorem rp {y:Operand}{vs:Array OY}{i:Nat}{v:OY} (I:gd ops L ⟨some d,.extract y i,ty,pos,aft,g⟩=some true) (hN:Nat.blt d x.N=true)
  (O:ev L y=some (.tuple vs)) (J:vs[i]? = some v) (k:W x ops Q rest H M ((d,v)::L)):
  W x ops Q (⟨some d,.extract y i,ty,pos,aft,g⟩::rest) H M L:=
 eT rfl I hN (λc w hs ht=>by simp [execOp,hs.ev O,Instr.extract,J]) k
theorem Fp {y z:Operand}{I:Array TypeId}{J:IntKind}{m n:Int} (O:gd ops L ⟨some d,.call ⟨.builtin .min,#[y,z],I⟩,ty,pos,aft,g⟩=some true) (hN:Nat.blt d x.N=true)
  (Y:ev L y=some (.int J m)) (Z:ev L z=some (.int J n)) (k:W x ops Q rest H M ((d,.int J (min m n))::L)):
  W x ops Q (⟨some d,.call ⟨.builtin .min,#[y,z],I⟩,ty,pos,aft,g⟩::rest) H M L:=
 eT rfl O hN (λc w hs ht=>by
  have:(if n<m then n else m)=min m n:=by rw [Int.min_def]; split <;> split <;> omega
  simp [execOp,resolve,invoke,builtin,hs.ev Y,hs.ev Z,Builtin.min_,Builtin.min2,this]) k
theorem Lj {y z:Operand}{I:Array TypeId}{J:IntKind}{m n:Int} (O:gd ops L ⟨some d,.call ⟨.builtin .max,#[y,z],I⟩,ty,pos,aft,g⟩=some true) (hN:Nat.blt d x.N=true)
  (Y:ev L y=some (.int J m)) (Z:ev L z=some (.int J n)) (k:W x ops Q rest H M ((d,.int J (max m n))::L)):
  W x ops Q (⟨some d,.call ⟨.builtin .max,#[y,z],I⟩,ty,pos,aft,g⟩::rest) H M L:=
 eT rfl O hN (λc w hs ht=>by
  have:(if n > m then n else m)=max m n:=by rw [Int.max_def]; split <;> split <;> omega
  simp [execOp,resolve,invoke,builtin,hs.ev Y,hs.ev Z,Builtin.max_,Builtin.max2,this]) k
theorem BW {t e:TypeId}{y:Operand}{a:Option Addr}{m n:Nat} (J:gd ops L ⟨some d,.call ⟨.builtin .len,#[y],#[t]⟩,ty,pos,aft,g⟩=some true) (hN:Nat.blt d x.N=true)
  (I:∀ w,(underlying t).run x.P w=.ok (.slice e) w) (O:ev L y=some (.slice a n m)) (k:W x ops Q rest H M ((d,.int .i64 n)::L)):
  W x ops Q (⟨some d,.call ⟨.builtin .len,#[y],#[t]⟩,ty,pos,aft,g⟩::rest) H M L:=
 eT rfl J hN (λc w hs ht=>by
  simp [execOp,resolve,invoke,builtin,hs.ev O,Builtin.len_,I,goInt]) k
theorem jJ {t:TypeId}{y:Operand}{s:OX} (J:gd ops L ⟨some d,.call ⟨.builtin .len,#[y],#[t]⟩,ty,pos,aft,g⟩=some true) (hN:Nat.blt d x.N=true)
  (I:∀ w,(underlying t).run x.P w=.ok .string w) (O:ev L y=some (.string s)) (k:W x ops Q rest H M ((d,.int .i64 s.size)::L)):
  W x ops Q (⟨some d,.call ⟨.builtin .len,#[y],#[t]⟩,ty,pos,aft,g⟩::rest) H M L:=
 eT rfl J hN (λc w hs ht=>by
  simp [execOp,resolve,invoke,builtin,hs.ev O,Builtin.len_,I,goInt]) k
theorem HC {t e:TypeId}{sz:Nat}{y z:Operand}{ad:Addr}{n m:Nat}{kk:IntKind}{i:Int} (Z:gd ops L ⟨some d,.indexAddr t y z,ty,pos,aft,g⟩=some true) (hN:Nat.blt d x.N=true)
  (Y:∀ w,(underlying t).run x.P w=.ok (.slice e) w) (hs:∀ w,(sizeOf e).run x.P w=.ok sz w)
  (hy:ev L y=some (.slice (some ad) n m)) (hz:ev L z=some (.int kk i)) (O:0<=i) (h1:i.toNat<n)
  (k:W x ops Q rest H M ((d,.pointer (some (ad.add (i.toNat*sz))))::L)):
  W x ops Q (⟨some d,.indexAddr t y z,ty,pos,aft,g⟩::rest) H M L:=
 eT rfl Z hN (λc w I ht=>by
  have J:i<(n:Int):=by omega
  simp [execOp,I.ev hy,I.ev hz,Instr.indexAt,asIntOf,Y,hs,O,J]) k
end
class aE (α:Type) where
 sz:Nat
 E:Hp->List OY->α->Prop
 len:∀ {H cs x},E H cs x->cs.length=sz
 mono:∀ {H H' cs x},H.le H'->E H cs x->E H' cs x
 one:∀ {H cs x},E H cs x->∀ c ∈ cs,c.oneCell'=true
instance:aE Int where
 sz:=1
 E _ cs n:=cs=[.int .i64 n]
 len h:=by rw [h]; rfl
 mono _ h:=h
 one h c hc:=by rw [h] at hc; simp at hc; subst hc; rfl
instance:aE Bool where
 sz:=1
 E _ cs b:=cs=[.bool b]
 len h:=by rw [h]; rfl
 mono _ h:=h
 one h c hc:=by rw [h] at hc; simp at hc; subst hc; rfl
instance:aE OX where
 sz:=1
 E _ cs s:=cs=[.string s]
 len h:=by rw [h]; rfl
 mono _ h:=h
 one h c hc:=by rw [h] at hc; simp at hc; subst hc; rfl
instance:aE UInt8 where
 sz:=1
 E _ cs n:=cs=[.int .u8 n.toNat]
 len h:=by rw [h]; rfl
 mono _ h:=h
 one h c hc:=by rw [h] at hc; simp at hc; subst hc; rfl
instance:aE UInt32 where
 sz:=1
 E _ cs n:=cs=[.int .u32 n.toNat]
 len h:=by rw [h]; rfl
 mono _ h:=h
 one h c hc:=by rw [h] at hc; simp at hc; subst hc; rfl
instance:aE UInt64 where
 sz:=1
 E _ cs n:=cs=[.int .u64 n.toNat]
 len h:=by rw [h]; rfl
 mono _ h:=h
 one h c hc:=by rw [h] at hc; simp at hc; subst hc; rfl
def aN {α:Type}[aE α] (H:Hp) (v:OY) (xs:List α):Prop:=
 ((∃ a,v=.slice a 0 0)/\xs=[]) \/
 ∃ b off cap arr T fz,v=.slice (some ⟨b,off,none⟩) xs.length cap/\xs.length<=cap/\cap<=maxLen/\H b=some (.cells arr T fz)/\off+cap*aE.sz α<=arr.size /\
  ∀ k e,xs[k]? = some e->∃ cs,aE.E H cs e/\∀ j c,cs[j]? = some c->arr[off+k*aE.sz α+j]? = some c
theorem aN.mono {α:Type}[aE α] {H H':Hp}{v:OY}{xs:List α} (I:H.le H') (h:aN H v xs):aN H' v xs:=by
 rcases h with h | ⟨b,off,cap,arr,T,fz,J,O,Y,Z,h5,h6⟩
 ·exact .inl h
 ·exact .inr ⟨b,off,cap,arr,T,fz,J,O,Y,I _ _ Z,h5,λk e he=>let ⟨cs,a,b⟩:=h6 k e he; ⟨cs,aE.mono I a,b⟩⟩
instance {α:Type}[aE α]:aE (List α) where
 sz:=1
 E H cs xs:=∃ v,cs=[v]/\aN H v xs
 len h:=by obtain ⟨v,rfl,_⟩:=h; rfl
 mono hle h:=by obtain ⟨v,e,I⟩:=h; exact ⟨v,e,I.mono hle⟩
 one h c hc:=by
  obtain ⟨v,rfl,I⟩:=h;simp at hc; subst hc
  rcases I with ⟨⟨a,rfl⟩,_⟩ | ⟨b,off,cap,arr,T,fz,rfl,_⟩ <;> rfl
def Value.base:OY->Addr
 | .slice (some a) _ _=>a
 | _=>⟨0,0,none⟩
def Value.nq:OY->Nat
 | .slice _ _ c=>c
 | _=>0
theorem aN.len {α:Type}[aE α] {H:Hp}{v:OY}{xs:List α} (h:aN H v xs):∃ a c,v=.slice a xs.length c/\xs.length<=c/\c<=maxLen:=by
 rcases h with ⟨⟨a,rfl⟩,rfl⟩ | ⟨b,off,cap,arr,T,fz,rfl,I,J,_⟩
 ·exact ⟨a,0,rfl,Pn _,by unfold maxLen; omega⟩
 ·exact ⟨_,cap,rfl,I,J⟩
theorem aN.val {α:Type}[aE α] {H:Hp}{v:OY}{xs:List α} (h:aN H v xs) {k:Nat}{e:α} (he:xs[k]? = some e):v=.slice (some (Value.base v)) xs.length (Value.nq v):=by
 rcases h with ⟨⟨a,rfl⟩,rfl⟩ | ⟨b,off,cap,arr,T,fz,rfl,_⟩
 ·simp at he
 ·rfl
theorem aN.elem {α:Type}[aE α] {H:Hp}{v:OY}{xs:List α} (h:aN H v xs) {k:Nat}{e:α} (he:xs[k]? = some e):
  ∃ cs,aE.E H cs e/\gR H ((Value.base v).add (k*aE.sz α)) cs:=by
 rcases h with ⟨⟨a,rfl⟩,rfl⟩ | ⟨b,off,cap,arr,T,fz,rfl,h2,h3,I,h5,J⟩
 ·simp at he
 ·obtain ⟨cs,O,Y⟩:=J k e he
  refine ⟨cs,O,λj c Z=>⟨arr,T,fz,?_,?_,?_⟩⟩
  ·simp only [Value.base,P8]; exact I
  ·simp only [Value.base,P8]
  ·simp only [Value.base,P8]; exact Y j c Z
section
variable {x:Cx}{ops:Array Oper}{Q:k_}{rest:List Oper}{H:Hp}{M M':List bL}{L L':Env}
variable {d:Nat}{ty:TypeId}{pos:String}{aft:Array Edge}{g:Option (Nat×Bool)}
theorem C5 {α:Type}[aE α] {t e:TypeId}{y z:Operand}{v:OY}{xs:List α}{el:α}{kk:IntKind}{i:Int} (O:gd ops L ⟨some d,.indexAddr t y z,ty,pos,aft,g⟩=some true) (hN:Nat.blt d x.N=true)
  (J:∀ w,(underlying t).run x.P w=.ok (.slice e) w) (hs:∀ w,(sizeOf e).run x.P w=.ok (aE.sz α) w)
  (Y:ev L y=some v) (hR:aN H v xs) (Z:ev L z=some (.int kk i)) (I:0<=i) (he:xs[i.toNat]? = some el)
  (k:W x ops Q rest H M ((d,.pointer (some ((Value.base v).add (i.toNat*aE.sz α))))::L)):
  W x ops Q (⟨some d,.indexAddr t y z,ty,pos,aft,g⟩::rest) H M L:=
 HC O hN J hs (by rw [Y,<- hR.val he]) Z I (by rcases O3.1 he with ⟨h,_⟩; exact h) k
theorem HE {α:Type}[aE α] {t e:TypeId}{y:Operand}{v:OY}{xs:List α} (J:gd ops L ⟨some d,.call ⟨.builtin .len,#[y],#[t]⟩,ty,pos,aft,g⟩=some true) (hN:Nat.blt d x.N=true)
  (I:∀ w,(underlying t).run x.P w=.ok (.slice e) w) (O:ev L y=some v) (hR:aN H v xs) (k:W x ops Q rest H M ((d,.int .i64 xs.length)::L)):
  W x ops Q (⟨some d,.call ⟨.builtin .len,#[y],#[t]⟩,ty,pos,aft,g⟩::rest) H M L:=by
 obtain ⟨a,c,rfl,_⟩:=hR.len;exact BW J hN I O k
end
def over (l:List OY) (k:Nat):List OY->List OY
 | []=>l
 | v::vs=>over (l.set k v) (k+1) vs
theorem oM (vs:List OY):∀ (l:List OY) (k:Nat),(over l k vs).length=l.length:=by
 induction vs with
 | nil=>intro l k; rfl
 | cons v vs ih=>intro l k; simp [over,ih]
theorem jT {P:Program} (b o:Nat) (T:TypeId):∀ (vs:List OY) (i:Nat) (l:List OY) (w:World),w.heap[b]? = some (.cells l.toArray T (0,0)) ->
  o+i+vs.length<=l.length->(∀ v ∈ vs,v.oneCell'=true) ->
  ∃ O,(storeCells ⟨b,o,none⟩ vs i).run P w=.ok () O/\O.heap[b]? = some (.cells (over l (o+i) vs).toArray T (0,0))/\w.grownBy O (some b)
 | [],i,l,w,h,_,_=>⟨w,rfl,h,⟨rfl,rfl,rfl,Pn _,λ_ _ _=>rfl⟩⟩
 | v::vs,i,l,w,h,hb,h1=>by
  have Y:o+i<l.length:=by simp at hb; omega
  have hc:w.cell? ⟨b,o+i,none⟩=some l[o+i]:=Td (w:=w) (ad:=⟨b,o+i,none⟩) h rfl (by simp [Y])
  have hf:w.frozen? ⟨b,o+i,none⟩=false:=by simp [World.frozen?,h]
  have Z:(w.setCell ⟨b,o+i,none⟩ v).heap[b]? = some (.cells (l.set (o+i) v).toArray T (0,0)):=by
   simp [World.setCell,S8,h]
  obtain ⟨O,hr,hh,I⟩:=jT (P:=P) b o T vs (i+1) (l.set (o+i) v) (w.setCell ⟨b,o+i,none⟩ v) Z (by simp at hb ⊢; omega) (λu hu=>h1 u (O9 _ hu))
  refine ⟨O,?_,?_,?_⟩
  ·have hv:=h1 v (O5 ..)
   simp only [storeCells,Pf,store,P8];have:(Sem.store Mode.plain ⟨b,o+i,none⟩ v (Sem.pure ())).run P w=.ok () (w.setCell ⟨b,o+i,none⟩ v):=by
    cases v <;> first
     | (simp [Sem.run,hc,hf]; done)
     | simp [Value.oneCell'] at hv
   rw [this];simpa using hr
  ·simpa [over,Rb] using hh
  ·exact ⟨I.os,I.tape,I.output,by have:=I.size; simpa [World.setCell] using this,λk hk J=>by
    rw [I.block k (by simpa [World.setCell] using hk) J]
    exact Below.heap_setCell _ _ _ _ (by intro e; subst e; exact J rfl)⟩
section
variable {x:Cx}{ops:Array Oper}{Q:k_}{rest:List Oper}{H:Hp}{M M':List bL}{L L':Env}
variable {ty:TypeId}{pos:String}{aft:Array Edge}{g:Option (Nat×Bool)}
theorem BZ {T E:TypeId}{n:Nat}{y z:Operand}{b o:Nat}{l cs out:List OY}{v:OY} (hg:gd ops L ⟨none,.store T y z,ty,pos,aft,g⟩=some true)
  (hn:∀ w,(sizeOf T).run x.P w=.ok n w) (hy:ev L y=some (.pointer (some ⟨b,o,none⟩))) (hz:ev L z=some v) (hv:v.cells=cs.toArray) (hl:cs.length=n)
  (Y:Nat.ble (o+cs.length) l.length=true) (O:∀ c ∈ cs,c.oneCell'=true) (ho:over l o cs=out)
  (k:W x ops Q rest H (.obj b (.cells out.toArray E (0,0))::M) L):
  W x ops Q (⟨none,.store T y z,ty,pos,aft,g⟩::rest) H (.obj b (.cells l.toArray E (0,0))::M) L:=
 BY rfl hg (λa w hs ht=>by
  subst ho;have J:=ht.uS (O5 ..);obtain ⟨w',hr,hh,I⟩:=jT (P:=x.P) b o E cs 0 l w J (by simpa [Rx] using Y) O
  refine ⟨w',?_,H,_,ht.CT (r':=.obj b (.cells (over l o cs).toArray E (0,0))) I hh (λc Z=>.inl Z),k⟩;simp [execOp,hs.ev hy,hs.ev hz,Instr.storeAt,Instr.sureAddr,storeVar,hn,hl,hv,hr])
end
theorem least {p:Nat->Prop}:∀ n,p n->∃ m,p m/\∀ k,p k->m<=k:=by
 intro n
 induction n using Nat.strongRecOn with
 | _ n ih=>
  intro h
  by_cases I:∃ m,m<n/\p m
  ·obtain ⟨m,hm,O⟩:=I; exact ih m hm O
  ·exact ⟨n,h,λk J=>by
    by_cases e:k<n
    ·exact absurd ⟨k,e,J⟩ I
    ·omega⟩
theorem JA {P:Program}{Q:k_}{c:Code} (J:Nat->Act->World->Prop) {n:Nat}{a:Act}{w:World} (h0:J n a w)
  (I:∀ n a w,J n a w->c.wp P (Exit.then (λY w'=>∃ m,m<n/\J m Y w') Q) a w):(Code.loop c).wp P Q a w:=by
 have hex:∀ a w,(∃ n,J n a w)->∃ m,J m a w/\∀ k,J k a w->m<=k:=λa w ⟨n,h⟩=>least n h
 let μ:Act->World->Nat:=λa w=>Classical.epsilon (λm=>J m a w/\∀ k,J k a w->m<=k)
 have O:∀ a w,(∃ n,J n a w)->J (μ a w) a w/\∀ k,J k a w->μ a w<=k:=λa w h=>Classical.epsilon_spec (p:=λm=>J m a w/\∀ k,J k a w->m<=k) (hex a w h);refine wp_loop (λa w=>∃ n,J n a w) μ ⟨n,h0⟩ λa w h=>?_;refine wp_mono (I (μ a w) a w (O a w h).1) ?_;intro e Y w' hq;cases e with
 | normal=>
  obtain ⟨m,hm,Z⟩:=hq;exact ⟨⟨m,Z⟩,RS ((O Y w' ⟨m,Z⟩).2 m Z) hm⟩
 | _=>exact hq
abbrev Bm:=Nat->Hp->List bL->Env->Prop
def Hm (x:Cx) (S:Bm) (n:Nat) (a:Act) (w:World):Prop:=
 ∃ m,m<n/\∃ H M L,S m H M L/\Sl x.N L a/\St x.B x.w0 H M w
theorem zK {x:Cx}{c:Code}{Q:k_}{H:Hp}{M:List bL}{L:Env} (S:Bm) (n:Nat) (I:S n H M L)
  (step:∀ n H M L,S n H M L->C x c (Exit.then (Hm x S n) Q) H M L):C x (.loop c) Q H M L:=by
 intro a w hs ht;refine JA (λn a w=>∃ H M L,S n H M L/\Sl x.N L a/\St x.B x.w0 H M w) ⟨H,M,L,I,hs,ht⟩ ?_;intro n a w ⟨H,M,L,h,hs,ht⟩;exact step n H M L h a w hs ht
theorem uI {x:Cx}{S:Bm}{Q:k_}{H:Hp}{M:List bL}{L:Env}{n m:Nat} (hm:m<n) (h:S m H M L):E x .normal (Exit.then (Hm x S n) Q) H M L:=
 λ_ _ hs ht=>⟨m,hm,H,M,L,h,hs,ht⟩
section
variable {x:Cx}{Q:k_}{H:Hp}{M:List bL}{L:Env}{K:Act->World->Prop}
theorem iI (h:E x .ret Q H M L):E x .ret (Exit.then K Q) H M L:=h
theorem sM {id:Nat} (h:E x .ret Q H M L):E x .ret (Exit.inBlock id Q) H M L:=h
theorem fV {id:Nat} (h:E x (.exit id) Q H M L):E x (.exit id) (Exit.then K Q) H M L:=h
theorem mV {id:Nat} (h:E x .normal Q H M L):E x (.exit id) (Exit.inBlock id Q) H M L:=λa w hs ht=>by
 simp only [Exit.inBlock,SH]; exact h a w hs ht
theorem sL {id I:Nat} (J:Nat.beq id I=false) (h:E x (.exit id) Q H M L):E x (.exit id) (Exit.inBlock I Q) H M L:=λa w hs ht=>by
 have:¬ id=I:=λe=>by subst e; simp at J
 simp only [Exit.inBlock,O7 this]; exact h a w hs ht
theorem mW {id:Nat} (h:E x .normal Q H M L):E x .normal (Exit.inBlock id Q) H M L:=h
end
abbrev MG:=Hp->List bL->Env->Prop
theorem qZ {x:Cx}{c d:Code}{Q:k_}{H:Hp}{M:List bL}{L:Env} (S:MG) (rest:∀ H M L,S H M L->C x d Q H M L)
  (k:(∀ H M L,S H M L->E x .normal (Exit.then (d.wp x.P Q) Q) H M L)->C x c (Exit.then (d.wp x.P Q) Q) H M L):C x (.seq c d) Q H M L:=
 bI (k λH M L h=>aR (rest H M L h))
theorem fI {α:Type}{xs ys:List α}{k:Nat} (h:xs.drop k=ys) (J:decide ((k:Int)<(xs.length:Int))=true):
  ∃ y zs,ys=y::zs/\xs[k]? = some y/\xs.drop (k+1)=zs:=by
 have I:k<xs.length:=by have:=O6 J; omega
 refine ⟨xs[k],xs.drop (k+1),?_,OZ I,rfl⟩;rw [<- h,Pz I]
theorem fH {α:Type}{xs ys:List α}{k:Nat} (h:xs.drop k=ys) (I:decide ((k:Int)<(xs.length:Int))=false):ys=[]:=by
 have J:xs.length<=k:=by have:=Pc I; omega
 rw [<- h,List.drop_eq_nil_of_le J]
theorem wL {n:Int} (I:-9223372036854775808<=n) (J:n<=9223372036854775807):i64.wrap n=n:=by
 simp only [IntKind.wrap,IntKind.bits,IntKind.signed,Bool.true_and]
 split <;> rename_i h <;> simp at h <;> omega
theorem cA {α:Type}{xs:List α}{k:Nat}{y:α} (h:xs[k]? = some y) (hl:xs.length<=maxLen):i64.wrap ((k:Int)+1)=((k+1:Nat):Int):=by
 have I:=(O3.1 h).1;unfold maxLen at hl;rw [wL (by omega) (by omega)]; rfl
theorem eH {k n:Nat} (h:k<n) (hl:n<=maxLen):i64.wrap ((k:Int)+1)=((k+1:Nat):Int):=by
 unfold maxLen at hl;rw [wL (by omega) (by omega)]; rfl
theorem aN.cU {α:Type}[aE α] {H:Hp}{v:OY}{xs:List α} (h:aN H v xs):xs.length<=maxLen:=by
 obtain ⟨a,c,_,I,J⟩:=h.len; omega
def Bw:Nat->List OY->Env
 | _,[]=>[]
 | i,v::vs=>(i,v)::Bw (i+1) vs
theorem GJ (N:Nat):∀ (vs:List OY) (i:Nat) (t:Nat) (v:OY) (pre:List OY),pre.length=i->lk (Bw i vs) t=some v ->
  ((pre++vs).toArray++Array.replicate (N-(pre++vs).length) undef)[t]? = some v:=by
 intro vs
 induction vs with
 | nil=>intro i t v pre _ h; simp [Bw,lk] at h
 | cons u vs ih=>
  intro i t v pre I h;simp only [Bw,sI] at h
  split at h
  ·rename_i e; subst e; cases h
   simp [Array.getElem?_append,<- I]
  ·have:=ih (i+1) t v (pre++[u]) (by simp [I]) h
   simpa using this
theorem enter {P:Program}{f:FuncId}{fn:Func}{c:Code}{vs:List OY}{N B:Nat}{w0 w:World}{H:Hp}{M:List bL}{Φ:Hp->List bL->OY->Prop}
  (O:P.funcs[f]? = some fn) (J:fn.body=some c) (hN:fn.ntmps=N) (I:Nat.ble vs.length N=true) (ht:St B w0 H M w)
  (k:C ⟨P,N,B,w0⟩ c (bodyPost P fn (tG B w0 Φ)) H M (Bw 0 vs)):Calls P f vs.toArray w (tG B w0 Φ):=by
 refine calls_of_wp O J (k _ w ⟨?_,rfl,?_⟩ ht)
 ·have:vs.length<=N:=by simpa [Rx] using I
  simp [hN]; omega
 ·intro t v h
  have:=GJ N vs 0 t v [] rfl h;simpa [hN] using this
section
variable {P:Program}{N B:Nat}{w0:World}{fn:Func}{Φ:Hp->List bL->OY->Prop}{H:Hp}{M:List bL}{L:Env}
theorem lf {t:Nat}{v:OY} (I:fn.results=#[.tmp t]) (hl:lk L t=some v) (h:Φ H M v):E ⟨P,N,B,w0⟩ .ret (bodyPost P fn (tG B w0 Φ)) H M L:=
 λa w hs ht=>⟨hs.Di,v,by rw [results_tmp I]; simp [PM,hs.get t v hl],H,M,ht,h⟩
theorem Be {t u:Nat}{v1 v2:OY} (J:fn.results=#[.tmp t,.tmp u]) (hl:lk L t=some v1) (I:lk L u=some v2) (h:Φ H M (.tuple #[v1,v2])):E ⟨P,N,B,w0⟩ .ret (bodyPost P fn (tG B w0 Φ)) H M L:=
 λa w hs ht=>⟨hs.Di,.tuple #[v1,v2],by rw [results_tmp2 J]; simp [PM,hs.get t v1 hl,hs.get u v2 I],H,M,ht,h⟩
end
section
variable {α σ R:Type}
def idx (l:List α) (i:Int) (k:α->Option R):Option R:=
 if 0<=i then match l[i.toNat]? with
  | some y=>k y
  | none=>none
 else none
theorem aC {l:List α}{i:Int}{k:α->Option R}{r:R} (h:idx l i k=some r):∃ y,0<=i/\l[i.toNat]? = some y/\k y=some r:=by
 unfold idx at h
 split at h
 ·cases hl:l[i.toNat]? with
  | none=>rw [hl] at h; cases h
  | some y=>rw [hl] at h; exact ⟨y,‹_›,rfl,h⟩
 ·cases h
def dF (p:Prop) [Decidable p] (k:Option R):Option R:=if p then k else none
theorem aI {p:Prop}[Decidable p] {k:Option R}{r:R} (h:dF p k=some r):p/\k=some r:=by
 unfold dF at h
 split at h
 ·exact ⟨‹_›,h⟩
 ·cases h
theorem aU {o:Option α}{k:α->Option R}{r:R} (h:o.bind k=some r):∃ y,o=some y/\k y=some r:=by
 cases o with
 | none=>cases h
 | some y=>exact ⟨y,rfl,h⟩
def dR (I:Nat->α->σ->(σ->Option R)->Option R) (k:σ->Option R):Nat->List α->σ->Option R
 | _,[],s=>k s
 | i,y::ys,s=>I i y s (dR I k (i+1) ys)
def jQ (I:Nat->σ->(σ->Option R)->Option R) (k:σ->Option R):Nat->Nat->σ->Option R
 | 0,_,s=>k s
 | n+1,i,s=>I i s (jQ I k n (i+1))
def gG (I:σ->(σ->Option R)->Option R):Nat->σ->Option R
 | 0,_=>none
 | n+1,s=>I s (gG I n)
def fA:Nat:=1152921504606846976
end
theorem yO (X Y:Env) (t:Nat):lk (X++Y) t=(lk X t).or (lk Y t):=by
 induction X with
 | nil=>simp [lk]
 | cons p X ih=>
  obtain ⟨u,v⟩:=p;simp only [Q9,sI]
  split <;> simp [ih]
theorem EN {X:Env}{t:Nat}{v:OY} (h:lk X t=some v):(t,v) ∈ X:=by
 induction X with
 | nil=>simp [lk] at h
 | cons p X ih=>
  obtain ⟨u,w⟩:=p;rw [sI] at h
  split at h
  ·rename_i e; subst e; cases h; exact O5 ..
  ·exact O9 _ (ih h)
theorem Sl.more {N:Nat}{L X:Env}{a:Act} (h:Sl N L a) (I:∀ t v,(t,v) ∈ X->a.tmps[t]? = some v):Sl N (L++X) a:=
 ⟨h.size,h.Di,λt v ht=>by
  rw [yO] at ht;cases hl:lk L t with
  | some u=>rw [hl] at ht; simp at ht; subst ht; exact h.get t _ hl
  | none=>rw [hl] at ht; simp at ht; exact I t v (EN ht)⟩
theorem Sl.cons {N:Nat}{L:Env}{a:Act}{t:Nat}{v:OY} (h:Sl N L a) (J:a.tmps[t]? = some v):Sl N ((t,v)::L) a:=
 ⟨h.size,h.Di,λu w I=>by
  rw [sI] at I
  split at I
  ·rename_i e; subst e; cases I; exact J
  ·exact h.get u w I⟩
theorem Sl.left {N:Nat}{L X:Env}{a:Act} (h:Sl N (L++X) a):Sl N L a:=
 ⟨h.size,h.Di,λt v ht=>h.get t v (by rw [yO,ht]; rfl)⟩
def g_ (o:Oper):List Nat:=(o.after.toList.filter λe=>Region.binds .any e).map (·.on)
def JJ (l:List Oper) (Φ:Nat->Hp->OY->Prop) (H:Hp):List Nat->Env->(Env->Prop)->Prop
 | [],L,k=>k L
 | j::I,L,k=>match (l[j]?).bind (·.dst) with
  | some t=>∀ v,Φ j H v->JJ l Φ H I ((t,v)::L) k
  | none=>JJ l Φ H I L k
def One (x:Cx) (H:Hp) (M:List bL) (L:Env) (t:Nat) (I:Hp->OY->Prop):k_:=λe a w=>
 e=.normal/\∃ v H',Sl x.N ((t,v)::L) a/\H.le H'/\St x.B x.w0 H' M w/\I H' v
def JK (x:Cx) (l:List Oper) (Φ:Nat->Hp->OY->Prop) (H:Hp) (M:List bL) (L:Env):Nat->List Oper->Prop
 | _,[]=>True
 | i,o::r=>(∀ H',H.le H'->∀ X,JJ l Φ H' (g_ o) (L++X) (λL'=>W x l.toArray (One x H' M L' (o.dst.getD 0) (Φ i)) [o] H' M L'))/\JK x l Φ H M L (i+1) r
theorem JK.at {x:Cx}{l:List Oper}{Φ:Nat->Hp->OY->Prop}{H:Hp}{M:List bL}{L:Env}:∀ {r:List Oper}{i:Nat},JK x l Φ H M L i r->∀ j o,r[j]? = some o ->
  ∀ H',H.le H'->∀ X,JJ l Φ H' (g_ o) (L++X) (λL'=>W x l.toArray (One x H' M L' (o.dst.getD 0) (Φ (i+j))) [o] H' M L')
 | [],_,_,j,o,h=>by simp at h
 | p::r,i,hh,0,o,h=>by simp at h; subst h; exact hh.1
 | p::r,i,hh,j+1,o,h=>by
  have:=JK.at hh.2 j o (by simpa using h)
  rwa [show i+1+j=i+(j+1) from by omega] at this
theorem JJ.use {l:List Oper}{Φ:Nat->Hp->OY->Prop}{H:Hp}{a:Act}{N:Nat}:∀ {J:List Nat}{L:Env}{k:Env->Prop},JJ l Φ H J L k->Sl N L a ->
  (∀ j ∈ J,∀ t,(l[j]?).bind (·.dst)=some t->∃ v,a.tmps[t]? = some v/\Φ j H v)->∃ Y,k (Y++L)/\Sl N (Y++L) a/\∀ t v,(t,v) ∈ Y->a.tmps[t]? = some v
 | [],L,k,h,hs,_=>⟨[],h,hs,by simp⟩
 | j::J,L,k,h,hs,hv=>by
  unfold JJ at h;cases I:(l[j]?).bind (·.dst) with
  | none=>
   rw [I] at h;exact JJ.use h hs (λi hi=>hv i (O9 _ hi))
  | some t=>
   rw [I] at h;obtain ⟨v,O,Z⟩:=hv j (O5 ..) t I;obtain ⟨Y,h3,h4,h5⟩:=JJ.use (h v Z) (hs.cons O) (λi hi=>hv i (O9 _ hi));refine ⟨Y++[(t,v)],by simpa using h3,by simpa using h4,?_⟩
   intro u w hm;rcases Pe.1 hm with hm | hm
   ·exact h5 u w hm
   ·simp at hm; obtain ⟨rfl,rfl⟩:=hm; exact O
theorem mem_ready {I:Array Oper}{listed:Array Bool}{i:Nat}:i ∈ Region.ready .any I listed↔i<I.size/\listed.getD i true=false/\∃ o,I[i]? = some o/\∀ j ∈ g_ o,listed.getD j false=true:=by
 unfold Region.ready g_;simp only [PY,PV,QC,Bool.not_eq_true'];refine and_congr_right λhi=>and_congr_right λ_=>?_;have:I[i]? = some I[i]:=RD hi;simp only [this,Qp,QV,Array.all_eq_true',Pk,PO,PY,Array.mem_toList_iff,Qy,Bool.not_eq_true'];constructor
 ·intro h
  refine ⟨_,rfl,?_⟩;rintro j ⟨e,⟨he,J⟩,rfl⟩;rcases h e he with h | h
  ·rw [h] at J; cases J
  ·exact h
 ·rintro ⟨o,rfl,h⟩ e he
  cases J:Region.binds .any e with
  | false=>exact .inl rfl
  | true=>exact .inr (h _ ⟨e,⟨he,J⟩,rfl⟩)
section
variable {x:Cx}{l:List Oper}{m:Nat}{Φ:Nat->Hp->OY->Prop}{H:Hp}{M:List bL}{L:Env}{Q:k_}
theorem tT (b:Array Bool) (i j:Nat) (d:Bool) (hi:i<b.size):(b.setIfInBounds i true).getD j d=if j=i then true else b.getD j d:=by
 simp only [PM,Sv]
 by_cases e:i=j
 ·subst e; simp [hi]
 ·simp [e,Ne.symm e]
def left (l:List Oper) (listed:Array Bool):Nat:=(List.range l.length).countP λi=>!listed.getD i true
theorem II {listed:Array Bool}{i:Nat} (Y:listed.size=l.length) (hi:i<l.length) (hl:listed.getD i true=false):left l (listed.setIfInBounds i true)+1=left l listed:=by
 unfold left;have key:∀ n,i<n->n<=l.length->(List.range n).countP (λj=>!(listed.setIfInBounds i true).getD j true)+1=(List.range n).countP (λj=>!listed.getD j true):=by
  intro n
  induction n with
  | zero=>omega
  | succ n ih=>
   intro Z h2;rw [Sh,List.countP_append,List.countP_append]
   by_cases e:i=n
   ·subst e
    have:∀ n,n<=i->(List.range n).countP (λj=>!(listed.setIfInBounds i true).getD j true)=(List.range n).countP (λj=>!listed.getD j true):=by
     intro n hn;refine List.countP_congr λj J=>?_;have O:=PV.1 J;rw [tT _ _ _ _ (by omega),O7 (by omega)]
    rw [this i (Pn _)];simp only [List.countP_cons,List.countP_nil,tT _ _ _ _ (by omega:i<listed.size),hl,SH]
    simp
   ·have:=ih (by omega) (by omega)
    have I:(listed.setIfInBounds i true).getD n true=listed.getD n true:=by rw [tT _ _ _ _ (by omega),O7 (by omega)]
    simp only [List.countP_cons,List.countP_nil,I];omega
 exact key l.length hi (Pn _)
end
structure U8 where
 n:Int
 deriving DecidableEq
structure NA where
 n:Int
 deriving DecidableEq
structure bO where
 n:Int
 deriving DecidableEq
structure NB where
 n:Int
 deriving DecidableEq
structure Ny where
 n:Int
 deriving DecidableEq
instance:aE U8 where
 sz:=1
 E _ cs x:=cs=[.int .u8 x.n]
 len h:=by rw [h]; rfl
 mono _ h:=h
 one h c hc:=by rw [h] at hc; simp at hc; subst hc; rfl
instance:aE NA where
 sz:=1
 E _ cs x:=cs=[.int .u16 x.n]
 len h:=by rw [h]; rfl
 mono _ h:=h
 one h c hc:=by rw [h] at hc; simp at hc; subst hc; rfl
instance:aE bO where
 sz:=1
 E _ cs x:=cs=[.int .u32 x.n]
 len h:=by rw [h]; rfl
 mono _ h:=h
 one h c hc:=by rw [h] at hc; simp at hc; subst hc; rfl
instance:aE NB where
 sz:=1
 E _ cs x:=cs=[.int .u64 x.n]
 len h:=by rw [h]; rfl
 mono _ h:=h
 one h c hc:=by rw [h] at hc; simp at hc; subst hc; rfl
instance:aE Ny where
 sz:=1
 E _ cs x:=cs=[.int .i32 x.n]
 len h:=by rw [h]; rfl
 mono _ h:=h
 one h c hc:=by rw [h] at hc; simp at hc; subst hc; rfl
theorem aN.nil {α:Type}[aE α] {H:Hp}:aN H (.slice none 0 0) ([]:List α):=.inl ⟨⟨_,rfl⟩,rfl⟩
theorem aN.cells {α:Type}[aE α] {H:Hp}{v:OY}{xs:List α} (h:aN H v xs):v.cells=[v].toArray:=by
 obtain ⟨a,c,rfl,_⟩:=h.len; rfl
theorem aN.n9 {α:Type}[aE α] {H:Hp}{v:OY}{xs:List α} (h:aN H v xs):v.oneCell'=true:=by
 obtain ⟨a,c,rfl,_⟩:=h.len; rfl
theorem QH:∀ c ∈ ([]:List OY),c.oneCell'=true:=by intro c I; cases I
theorem cK {v:OY}{l:List OY} (h:v.oneCell'=true) (k:∀ c ∈ l,c.oneCell'=true):∀ c ∈ v::l,c.oneCell'=true:=by
 intro c I;rcases PN.1 I with rfl | I
 ·exact h
 ·exact k c I
theorem gR.one {H:Hp}{ad:Addr}{cs:List OY} (h:gR H ad cs) (j:Nat) {c:OY} (I:cs[j]? = some c):zN H (ad.add j) c:=h j c I
theorem gR.part {H:Hp}{ad:Addr}{cs I:List OY}{k:Nat} (h:gR H ad cs) (Z:(cs.drop k).take I.length=I):gR H (ad.add k) I:=by
 intro j c J;have hj:j<I.length:=(O3.1 J).1;have:cs[k+j]? = some c:=by
  rw [<- Z,PR,O8 hj,PJ] at J; exact J
 have:=h (k+j) c this;have e:(ad.add k).add j=ad.add (k+j):=by
  unfold Addr.add
  by_cases O:k=0
  ·subst O; simp
  ·by_cases Y:j=0
   ·subst Y; simp
   ·simp [O,Y,Rb]
 rw [e]; exact this
theorem ql {x:Cx}{H:Hp}{M:List bL}{b k:Nat}{l I:List OY}{T:TypeId}{fz:Nat×Nat}
  (hm:bL.obj b (.cells l.toArray T fz) ∈ M) (O:(l.drop k).take I.length=I):xZ x H M ⟨b,k,none⟩ I:=by
 intro j c J;have Y:j<I.length:=(O3.1 J).1;rw [P8];refine uT hm ?_;rw [<- O,PR,O8 Y,PJ] at J; exact J
theorem BN {x:Cx}{e:Exit}{Q:k_}{H:Hp}{M M':List bL}{L L':Env} (k:E x e Q H M' L') (I:M.Perm M') (hL:Kept L L'):E x e Q H M L:=BM hL I k
theorem eN {α:Type}{b:Bool}{p q r:α} (I:b=true) (h:(if b=true then p else q)=r):p=r:=by rw [O8 I] at h; exact h
theorem eM {α:Type}{b:Bool}{p q r:α} (I:b=false) (h:(if b=true then p else q)=r):q=r:=by rw [O7 (by simp [I])] at h; exact h
section
variable {P:Program}{N B:Nat}{w0:World}{fn:Func}{H H0:Hp}{M:List bL}{L:Env}
end
def pF {α:Type}[aE α] (H:Hp):List OY->List α->Prop
 | cs,[]=>cs=[]
 | cs,y::ys=>∃ c r,cs=c++r/\aE.E H c y/\pF H r ys
section
variable {α:Type}[aE α] {H H':Hp}
theorem pF.nil:pF H [] ([]:List α):=rfl
theorem pF.cons {c r:List OY}{y:α}{ys:List α} (h:aE.E H c y) (k:pF H r ys):pF H (c++r) (y::ys):=⟨c,r,rfl,h,k⟩
theorem pF.mono (I:H.le H'):∀ {cs:List OY}{ys:List α},pF H cs ys->pF H' cs ys
 | _,[],h=>h
 | _,_::_,⟨c,r,e,h,k⟩=>⟨c,r,e,aE.mono I h,pF.mono I k⟩
theorem pF.len:∀ {cs:List OY}{ys:List α},pF H cs ys->cs.length=ys.length*aE.sz α
 | _,[],h=>by rw [show _=[] from h]; simp
 | _,_::ys,⟨c,r,e,h,k⟩=>by rw [e,Pj,aE.len h,pF.len k,Pa,Pm]; omega
theorem pF.app:∀ {cs I:List OY}{ys zs:List α},pF H cs ys->pF H I zs->pF H (cs++I) (ys++zs)
 | _,I,[],zs,h,k=>by rw [show _=[] from h]; simpa using k
 | _,I,y::ys,zs,⟨c,r,e,h,k⟩,k2=>⟨c,r++I,by rw [e,Pv],h,pF.app k k2⟩
theorem pF.one:∀ {cs:List OY}{ys:List α},pF H cs ys->∀ c ∈ cs,c.oneCell'=true
 | _,[],h=>by rw [show _=[] from h]; simp
 | _,_::_,⟨c,r,e,h,k⟩=>by
  intro d I;rw [e] at I;rcases Pe.1 I with I | I
  ·exact aE.one h d I
  ·exact pF.one k d I
theorem pF.get:∀ {cs:List OY}{ys:List α},pF H cs ys->∀ k e,ys[k]? = some e->∃ c,aE.E H c e/\∀ j v,c[j]? = some v->cs[k*aE.sz α+j]? = some v
 | _,[],h,k,e,he=>by simp at he
 | _,y::ys,⟨c,r,e,h,k⟩,0,x,hx=>by
  simp at hx; subst hx
  exact ⟨c,h,λj v I=>by rw [e,Qu,Po,Qb (O3.1 I).1]; exact I⟩
 | _,y::ys,⟨c,r,e,h,k⟩,n+1,x,hx=>by
  obtain ⟨d,J,O⟩:=pF.get k n x (by simpa using hx)
  refine ⟨d,J,λj v I=>?_⟩;rw [e,PB (by rw [aE.len h,Pm]; omega),aE.len h]
  rw [show (n+1)*aE.sz α+j-aE.sz α=n*aE.sz α+j from by rw [Pm]; omega]
  exact O j v I
theorem pF.split:∀ {cs:List OY}{ys:List α} (k:Nat),pF H cs ys->pF H (cs.take (k*aE.sz α)) (ys.take k)/\pF H (cs.drop (k*aE.sz α)) (ys.drop k)
 | cs,ys,0,h=>by rw [Qu]; exact ⟨rfl,h⟩
 | _,[],k+1,h=>by rw [show _=[] from h,List.take_nil,List.drop_nil,List.take_nil,List.drop_nil]; exact ⟨rfl,rfl⟩
 | _,y::ys,k+1,⟨c,r,e,h,k2⟩=>by
  obtain ⟨I,J⟩:=pF.split k k2;have hl:=aE.len h;subst e;have e1:(k+1)*aE.sz α=c.length+k*aE.sz α:=by rw [Pm,hl]; omega
  rw [e1,List.take_length_add_append,List.drop_length_add_append];exact ⟨⟨c,_,rfl,h,I⟩,J⟩
theorem pF.put {cs c:List OY}{ys:List α}{y:α}{k:Nat} (h:pF H cs ys) (O:k<ys.length) (Y:aE.E H c y):
  pF H (cs.take (k*aE.sz α)++c++cs.drop ((k+1)*aE.sz α)) (ys.set k y):=by
 obtain ⟨I,_⟩:=h.split k;obtain ⟨_,J⟩:=h.split (k+1);have:ys.set k y=ys.take k++y::ys.drop (k+1):=by rw [R2,O8 O]
 rw [this,Pv];exact I.app (pF.cons Y J)
theorem aN.flat {v : OY} {ys : List α} (h : aN H v ys) : ∃ cs, pF H cs ys ∧ ((∃ a, v = .slice a 0 0) ∧ ys = [] ∨ gR H (Value.base v) cs ∧ ∃ b off c, v = .slice (some ⟨b, off, none⟩) ys.length c) := by
  rcases h with ⟨⟨a, rfl⟩, rfl⟩ | ⟨b, off, cap, arr, T, fz, rfl, h2, h3, h4, h5, h6⟩
  · exact ⟨[], pF.nil, .inl ⟨⟨a, rfl⟩, rfl⟩⟩
  · have key : ∀ (zs : List α) (k : Nat), (∀ j e, zs[j]? = some e → ∃ cs, aE.E H cs e ∧ ∀ i c, cs[i]? = some c → arr[off + (k + j) * aE.sz α + i]? = some c) →
        ∃ cs, pF H cs zs ∧ ∀ i c, cs[i]? = some c → arr[off + k * aE.sz α + i]? = some c := by
      intro zs
      induction zs with
      | nil => intro k _; exact ⟨[], pF.nil, by simp⟩
      | cons z zs ih =>
        intro k hz;obtain ⟨c, I, O⟩ := hz 0 z rfl;obtain ⟨r, hr, Z⟩ := ih (k + 1) (fun j e he => by
          obtain ⟨cs, q1, q2⟩ := hz (j + 1) e (by simpa using he)
          exact ⟨cs, q1, fun i c I => by rw [show k + 1 + j = k + (j + 1) from by omega]; exact q2 i c I⟩)
        refine ⟨c ++ r, pF.cons I hr, fun i d J => ?_⟩;rw [Q3] at J
        split at J
        · simpa using O i d J
        · rename_i hn
          have := Z _ d J;rw [aE.len I] at this hn;rw [show off + k * aE.sz α + i = off + (k + 1) * aE.sz α + (i - aE.sz α) from by rw [Pm]; omega]
          exact this
    obtain ⟨cs, Y, hh⟩ := key ys 0 (fun j e he => by simpa using h6 j e he)
    refine ⟨cs, Y, .inr ⟨fun i c I => ⟨arr, T, fz, ?_, ?_, ?_⟩, b, off, cap, rfl⟩⟩
    · simp only [Value.base, P8]; exact h4
    · simp only [Value.base, P8]
    · simp only [Value.base, P8]; simpa using hh i c I
end
structure Mw (P:Program) (T:TypeId) (sz bytes:Nat) (z:OY):Prop where
 ex:∃ i,P.info? T=some i/\i.size=sz/\i.bytes=bytes/\i.zero=some z
theorem St.uZ {α:Type}[aE α] {B:Nat}{w0 w:World}{H:Hp}{M:List bL}{v:OY}{T:TypeId}{n:Nat}{xs:List OY}{ys:List α}
  (h:St B w0 H (.row v T (aE.sz α) n xs::M) w) (hx:pF H xs ys) (hs:0<aE.sz α):∃ H',H.le H'/\St B w0 H' M w/\aN H' v ys:=by
 have hok:=h.ok _ (O5 ..);obtain ⟨hl,hh⟩:=hok;have hn:n=ys.length:=by
  have:=hx.len;rw [hl] at this;exact QD hs this
 subst hn;rcases hh with ⟨rfl,h0⟩ | ⟨g,off,cap,O,rfl,hg,hnc,Z,hcs,J⟩
 ·refine ⟨H,PX _,h.tail,.inl ⟨⟨_,rfl⟩,Py h0⟩⟩
 ·have h':St B w0 H (.obj g (.cells O T (0,0))::M) w:=by
   refine ⟨h.below,h.le,h.tK,?_,?_,h.nd⟩
   ·intro r I
    rcases PN.1 I with rfl | I
    ·exact hg
    ·exact h.tail.ok r I
   ·intro r I
    rcases PN.1 I with rfl | I
    ·exact h.lo (.row _ T (aE.sz α) ys.length xs) (O5 ..)
    ·exact h.tail.lo r I
  obtain ⟨Y,hst⟩:=h'.freeze;refine ⟨_,Y,hst,.inr ⟨g,off,cap,O,T,(0,0),rfl,hnc,Z,Hp.wG _ _ _,hcs,?_⟩⟩;intro k e he;obtain ⟨c,h1,h2⟩:=(hx.mono Y).get k e he;refine ⟨c,h1,λj d hd=>?_⟩;have:=h2 j d hd;rw [<- J,PR] at this
  split at this
  ·rw [PJ] at this; simpa [Rb] using this
  ·cases this
theorem vJ:∀ (vs l:List OY) (k:Nat),k+vs.length<=l.length->over l k vs=l.take k++vs++l.drop (k+vs.length)
 | [],l,k,_=>by simp [over]
 | v::vs,l,k,h=>by
  simp only [Pa] at h;rw [over,vJ vs _ _ (by simp; omega)]
  have I:k<l.length:=by omega
  rw [Ps (by simpa using I)]
  simp only [List.getElem_set_self,Pa];rw [RM (by omega),Rk (by omega)]
  simp only [Pv,Q9,Qz];rw [show k+1+vs.length=k+(vs.length+1) from by omega]
theorem CG {P:Program}{w:World}{t ty e:TypeId}{i:TypeInfo}{z:OY}{size bytes:Nat} (ht:P.underlying t=some (.slice e)) (hi:P.info? e=some i) (hz:i.zero=some z)
  (hsize:i.size=size) (hby:i.bytes=bytes) (hzs:z.cells.size=size) (hsz:0<size)
  {v:OY}{n:Nat}{xs:List OY} (J:iB w e size v n xs)
  {a:Addr}{m c:Nat}{news:List OY} (hl:news.length=m*size) (O:∀ j u,news[j]? = some u->w.cell? (a.add j)=some u) (h1:∀ u ∈ news,u.oneCell'=true)
  (h63:n+m<=maxLen) (Z:(n+m)*bytes<=140737488355328):
  ∃ v' w',(Builtin.append_ #[t,t] ty #[v,.slice (some a) m c]).run P w=.ok v' w'/\iB w' e size v' (n+m) (xs++news)/\w.grownBy w' v.ownBlock /\
   (∀ b,v'.ownBlock=some b->v.ownBlock=some b\/w.heap.size<=b):=by
 subst hsize;subst hby;have hsmall:n+m<=9223372036854775807:=by simp only [maxLen] at h63; omega
 have hlen:(xs++news).length=(n+m)*i.size:=by rw [Pj,J.1,hl,Pm]
 have grown:∀ (uj:Nat) (row:Option Nat),
   iB (w.drew.alloc (.cells (xs.toArray++news.toArray++Builtin.zeroCells z.cells (grownCap w (n+m) uj e-(n+m))) e)) e i.size
    (.slice (some ⟨w.heap.size,0,none⟩) (n+m) (grownCap w (n+m) uj e)) (n+m) (xs++news) /\
   w.grownBy (w.drew.alloc (.cells (xs.toArray++news.toArray++Builtin.zeroCells z.cells (grownCap w (n+m) uj e-(n+m))) e)) row:=by
  intro uj row;have hge:=Tv w (n+m) uj e;have hcm:grownCap w (n+m) uj e<=maxLen:=SU w (n+m) uj e h63;refine ⟨⟨hlen,.inr ⟨w.heap.size,0,_,_,rfl,S0 w.drew _,hge,hcm,?_,?_⟩⟩,⟨rfl,rfl,rfl,by simp,λk hk _=>heap_alloc_old w.drew _ (h:=hk)⟩⟩
  ·simp only [Array.size_append,RG,size_zeroCells,hzs,J.1,hl,<- Pm,Po]
   rw [show n+m+(grownCap w (n+m) uj e-(n+m))=grownCap w (n+m) uj e from by omega]
   exact Pn _
  ·simp only [Qi,Tm,Pv]
   rw [<- Pv,<- hlen];exact R4
 rcases J.2 with ⟨rfl,rfl⟩ | ⟨g,off,cap,cur,rfl,hg,hnc,hcm,hcs,htake⟩
 ·have hx:xs=[]:=Py (by simpa using J.1)
  subst hx
  by_cases hm:m=0
  ·subst hm
   have hn:news=[]:=Py (by simpa using hl)
   subst hn;refine ⟨.slice none 0 0,w,?_,iB.nil w e i.size,⟨rfl,rfl,rfl,Pn _,λ_ _ _=>rfl⟩,by simp [Value.ownBlock]⟩
   simp [Builtin.append_,Qs ht,sizeOf,typeInfo,hi,Builtin.lenOf,Builtin.firstCells,loadCells,loadCellsFrom]
  ·have hr:=run_append_nil (P:=P) w t ty e i z ht hi hz a m c news hl O (by omega) (by omega) (by have hb:=Z; simp only [Po] at hb; omega)
   have I:=grown 0 (Value.ownBlock (.slice none 0 0));simp only [Po,Qz,Array.empty_append] at I ⊢;exact ⟨_,_,hr,I.1,I.2,λb hb=>.inr (by simp only [Value.ownBlock,Pk] at hb; omega)⟩
 ·by_cases Y:n+m<=cap
  ·have hfit:off+n*i.size+news.length<=cur.size:=by
    have:(n+m)*i.size<=cap*i.size:=Ph _ Y;rw [Pm] at this;omega
   have hf:=Ts (P:=P) w i.size m a m c news hl O;obtain ⟨w',hst,hh,I⟩:=jT (P:=P) g (off+n*i.size) e news 0 cur.toList w (by simpa using hg) (by simpa using hfit) h1
   refine ⟨.slice (some ⟨g,off,none⟩) (n+m) cap,w',?_,⟨hlen,.inr ⟨g,off,cap,_,rfl,hh,Y,hcm,?_,?_⟩⟩,I,λb hb=>.inl hb⟩
   ·simp [Builtin.append_,Qs ht,sizeOf,typeInfo,hi,Builtin.lenOf,Y,hf,P8,hst]
   ·simpa [oM] using hcs
   ·rw [Rn,Qt,vJ _ _ _ (by simpa using hfit)]
    have hd:(cur.toList.take (off+n*i.size)).drop off=xs:=by rw [Re,Q2]; exact htake
    rw [Pv,RJ (by simp; omega),hd,<- Pv,<- hlen]
    exact R4
  ·have holds:∀ j u,xs[j]? = some u->w.cell? ((⟨g,off,none⟩:Addr).add j)=some u:=by
    intro j u hu;rw [P8];refine Td hg rfl ?_;rw [<- htake,PR] at hu
    split at hu
    ·rw [PJ] at hu; simpa using hu
    ·cases hu
   have hr:=run_append_grow (P:=P) w t ty e i z ht hi hz ⟨g,off,none⟩ n cap xs J.1 holds a m c news hl O (by omega) (by omega) (Tt (by omega) Z)
   have I:=grown cap (Value.ownBlock (.slice (some ⟨g,off,none⟩) n cap));exact ⟨_,_,hr,I.1,I.2,λb hb=>.inr (by simp only [Value.ownBlock,Pk] at hb; omega)⟩
section
variable {x:Cx}{ops:Array Oper}{Q:k_}{rest:List Oper}{H:Hp}{M M':List bL}{L L':Env}
variable {d:Nat}{ty:TypeId}{pos:String}{aft:Array Edge}{g:Option (Nat×Bool)}
theorem bZ {α:Type}[aE α] {v:OY}{T:TypeId}{n:Nat}{xs:List OY}{ys:List α} (Z:pF H xs ys) (hs:Nat.blt 0 (aE.sz α)=true)
  (k:∀ H',H.le H'->aN H' v ys->W x ops Q rest H' M L):W x ops Q rest H (.row v T (aE.sz α) n xs::M) L:=by
 intro a w I ht;obtain ⟨H',J,O,Y⟩:=ht.uZ Z (by simpa [P9] using hs)
 exact k H' J Y a w I O
theorem rE {α:Type}[aE α] {e:Exit}{v:OY}{T:TypeId}{n:Nat}{xs:List OY}{ys:List α} (Z:pF H xs ys) (hs:Nat.blt 0 (aE.sz α)=true)
  (k:∀ H',H.le H'->aN H' v ys->E x e Q H' M L):E x e Q H (.row v T (aE.sz α) n xs::M) L:=by
 intro a w I ht;obtain ⟨H',J,O,Y⟩:=ht.uZ Z (by simpa [P9] using hs)
 exact k H' J Y a w I O
theorem CU {α:Type}[aE α] {c:Code}{v:OY}{T:TypeId}{n:Nat}{xs:List OY}{ys:List α} (Z:pF H xs ys) (hs:Nat.blt 0 (aE.sz α)=true)
  (k:∀ H',H.le H'->aN H' v ys->C x c Q H' M L):C x c Q H (.row v T (aE.sz α) n xs::M) L:=by
 intro a w I ht;obtain ⟨H',J,O,Y⟩:=ht.uZ Z (by simpa [P9] using hs)
 exact k H' J Y a w I O
theorem yc (T:TypeId) (sz:Nat) (k:W x ops Q rest H (.row (.slice none 0 0) T sz 0 []::M) L):W x ops Q rest H M L:=
 λa w I ht=>k a w I (ht.AN T sz)
theorem b_ {e:Exit} (T:TypeId) (sz:Nat) (k:E x e Q H (.row (.slice none 0 0) T sz 0 []::M) L):E x e Q H M L:=
 λa w I ht=>k a w I (ht.AN T sz)
theorem iZ {c:Code} (T:TypeId) (sz:Nat) (k:C x c Q H (.row (.slice none 0 0) T sz 0 []::M) L):C x c Q H M L:=
 λa w I ht=>k a w I (ht.AN T sz)
theorem Hz {α:Type}[aE α] {t e:TypeId}{bytes n:Nat}{z:OY}{y u:Operand}{v vu:OY}{xs:List OY}{l ys:List α}
  (hg:gd ops L ⟨some d,.call ⟨.builtin .append,#[y,u],#[t,t]⟩,ty,pos,aft,g⟩=some true) (hN:Nat.blt d x.N=true)
  (hT:x.P.underlying t=some (.slice e)) (hi:Mw x.P e (aE.sz α) bytes z) (hz:z.cells.size=aE.sz α) (hs:Nat.blt 0 (aE.sz α)=true) (hb0:Nat.blt 0 bytes=true)
  (hy:ev L y=some v) (Z:ev L u=some vu) (hx:pF H xs l) (hR:aN H vu ys) (hb:(l.length+ys.length)*bytes<=140737488355328)
  (k:∀ v' n' xs',pF H xs' (l++ys)->W x ops Q rest H (.row v' e (aE.sz α) n' xs'::M) ((d,v')::L)):
  W x ops Q (⟨some d,.call ⟨.builtin .append,#[y,u],#[t,t]⟩,ty,pos,aft,g⟩::rest) H (.row v e (aE.sz α) n xs::M) L:=by
 obtain ⟨i,h1,h2,h3,h4⟩:=hi.ex;have hs':0<aE.sz α:=by simpa [P9] using hs
 have hb0':0<bytes:=by simpa [P9] using hb0
 have hmax:l.length+ys.length<=maxLen:=by
  have:l.length+ys.length<=(l.length+ys.length)*bytes:=RK _ hb0';unfold maxLen; omega
 refine r7 rfl hg hN λa w I ht=>?_;have J:iB w e (aE.sz α) v n xs:=ht.ok _ (O5 ..);have hn:n=l.length:=by
  have:=hx.len;rw [J.1] at this;exact QD hs' this
 subst hn;obtain ⟨cs,O,Y⟩:=hR.flat;rcases Y with ⟨⟨ea,rfl⟩,rfl⟩ | ⟨hc,b,off,c,rfl⟩
 ·have hcs':cs=[]:=O
  subst hcs';refine ⟨v,w,?_,H,_,ht,k v _ xs (by simpa using hx)⟩
  rcases J.2 with ⟨rfl,h0⟩ | ⟨g,off,cap,cur,rfl,hg2,hnc,_⟩ <;> cases ea
  ·simp [execOp,resolve,invoke,builtin,I.ev hy,I.ev Z,Builtin.append_,Qs hT,sizeOf,typeInfo,h1,Builtin.lenOf,Builtin.firstCells]
  ·simp [execOp,resolve,invoke,builtin,I.ev hy,I.ev Z,Builtin.append_,Qs hT,sizeOf,typeInfo,h1,Builtin.lenOf,Builtin.firstCells,loadCells,loadCellsFrom]
  ·simp [execOp,resolve,invoke,builtin,I.ev hy,I.ev Z,Builtin.append_,Qs hT,sizeOf,typeInfo,h1,Builtin.lenOf,Builtin.firstCells,storeCells,hnc]
  ·simp [execOp,resolve,invoke,builtin,I.ev hy,I.ev Z,Builtin.append_,Qs hT,sizeOf,typeInfo,h1,Builtin.lenOf,Builtin.firstCells,storeCells,hnc,loadCells,loadCellsFrom]
 ·obtain ⟨v',w',hr,ho,hgr,hfr⟩:=CG (P:=x.P) (ty:=ty) hT h1 h4 h2 h3 hz hs' J (a:=⟨b,off,none⟩) (m:=ys.length) (c:=c) (news:=cs) O.len
   (λj u Z=>((hc j u Z).at (x:=x) (M:=.row v e (aE.sz α) l.length xs::M)) w ht) O.one hmax hb
  refine ⟨v',w',?_,H,_,ht.CT (r':=.row v' e (aE.sz α) (l.length+ys.length) (xs++cs)) hgr ho hfr,k v' _ _ (hx.app O)⟩;simp [execOp,resolve,invoke,builtin,I.ev hy,I.ev Z,hr]
end
def yJ:List OY->List (List OY)->Prop
 | [],[]=>True
 | v::vs,c::cs=>v.cells=c.toArray/\yJ vs cs
 | _,_=>False
def laid (places:List (Nat×Nat)):List OY->List (Nat×List OY)->Option (List OY)
 | z,[]=>some z
 | z,(i,c)::r=>match places[i]? with
  | none=>none
  | some (off,size)=>if Nat.beq c.length size && Nat.ble (off+c.length) z.length then laid places (over z off c) r else none
theorem As:∀ (c:List OY) (z:List OY) (off k:Nat),(c.zipIdx k).foldl (λcs (p:OY×Nat)=>cs.setIfInBounds (off+p.2) p.1) z.toArray=(over z (off+k) c).toArray
 | [],z,off,k=>rfl
 | v::c,z,off,k=>by
  rw [List.zipIdx_cons,List.foldl_cons];simp only [List.setIfInBounds_toArray];rw [As c _ off (k+1),over]
  rfl
theorem uY {place:Nat->Option (Nat×Nat)}{places:List (Nat×Nat)} (Y:∀ i o,places[i]? = some o->place i=some o):
  ∀ (J:List Nat) (vs:List OY) (css:List (List OY)) (z out:List OY),yJ vs css->J.length=vs.length->laid places z (J.zip css)=some out ->
   Instr.fill place z.toArray (J.zip vs)=some out.toArray
 | [],[],_,z,out,_,_,h=>by simp [laid] at h; simp [Instr.fill,h]
 | [],_::_,_,_,_,_,hl,_=>by simp at hl
 | _::_,[],_,_,_,_,hl,_=>by simp at hl
 | i::J,v::vs,[],_,_,hc,_,_=>hc.elim
 | i::J,v::vs,c::css,z,out,⟨hv,hc⟩,hl,h=>by
  simp only [List.zip_cons_cons,laid] at h;cases I:places[i]? with
  | none=>simp [I] at h
  | some o=>
   obtain ⟨off,size⟩:=o;simp only [I] at h
   split at h
   ·rename_i hb
    simp only [QC,Rx] at hb;have O:c.length=size:=Q8 hb.1;simp only [List.zip_cons_cons,Instr.fill,Y i _ I,hv];have Z:((c.toArray.size≠size || off+c.toArray.size > z.toArray.size:Bool))=false:=by
     simp [O]; rw [<- O]; exact hb.2
    rw [O7 (by simp only [Z]; simp)]
    have h2:=As c z off 0;have h3:c.toArray.zipIdx.foldl (λcs (p:OY×Nat)=>cs.setIfInBounds (off+p.2) p.1) z.toArray=(over z off c).toArray:=by
     rw [<- Array.foldl_toList];simpa using h2
    have ih:=uY Y J vs css (over z off c) out hc (by simpa using hl) h
    rw [<- ih];exact P4 (λq=>Instr.fill place q (J.zip vs)) h3
   ·cases h
theorem lq {k m:Nat}{e:Int} (O:k+m=e.toNat) (J:decide ((k:Int)<e)=true):∃ I,m=I+1/\k+1+I=e.toNat/\k<e.toNat:=by
 have:=O6 J;exact ⟨m-1,by omega,by omega,by omega⟩
theorem lj {k m:Nat}{e:Int} (J:k+m=e.toNat) (I:decide ((k:Int)<e)=false):m=0:=by
 have:=Pc I;omega
theorem eI {e:Int} (h:e<=9223372036854775807):e.toNat<=maxLen:=by unfold maxLen; omega
theorem lu {α:Type}{xs:List α} (h:xs.length<=maxLen):(xs.length:Int)<=9223372036854775807:=by unfold maxLen at h; omega
section
variable {x:Cx}{ops:Array Oper}{Q:k_}{rest:List Oper}{H:Hp}{M M':List bL}{L L':Env}
variable {d:Nat}{ty:TypeId}{pos:String}{aft:Array Edge}{g:Option (Nat×Bool)}
theorem zC {N:Nat}{a:Act} (hs:Sl N L a) {I:List (Nat×Operand)}{vs:List OY} (J:xL L (I.map (·.2))=some vs):
  (I.toArray.map λ(p:Nat×Operand)=>(p.1,a.eval p.2))=((I.map (·.1)).zip vs).toArray:=by
 have h:=hs.xL J;subst h;clear J;simp only [List.map_map,List.map_toArray]
 congr 1
 induction I with
 | nil=>rfl
 | cons p I ih=>simp only [RH,List.zip_cons_cons,Function.comp,ih]
theorem dX {T:TypeId}{I:List (Nat×Operand)}{vs:List OY}{css:List (List OY)}{z:OY}{zs out:List OY}{fs:Array Field}{places:List (Nat×Nat)}
  (hg:gd ops L ⟨some d,.build T I.toArray,ty,pos,aft,g⟩=some true) (hN:Nat.blt d x.N=true)
  (Y:xL L (I.map (·.2))=some vs) (hc:yJ vs css)
  (hz:∀ w,(zeroValue T).run x.P w=.ok z w) (O:z.cells=zs.toArray) (Z:∀ w,(underlying T).run x.P w=.ok (.struct fs) w)
  (hp:∀ w,(fs.mapM λf=>do pure (f.offset,<- sizeOf f.type):Sem (Array (Nat×Nat))).run x.P w=.ok places.toArray w)
  (ho:laid places zs ((I.map (·.1)).zip css)=some out)
  (k:W x ops Q rest H M ((d,.agg out.toArray)::L)):
  W x ops Q (⟨some d,.build T I.toArray,ty,pos,aft,g⟩::rest) H M L:=
 eT rfl hg hN (λa w hs ht=>by
  have hl:(I.map (·.1)).length=vs.length:=by rw [<- hs.xL Y]; simp
  have hf:=uY (place:=λi:Nat=>places[i]?) (places:=places) (λ_ _ h=>h) (I.map (·.1)) vs css zs out hc hl ho;have J:=zC hs Y;simp only [execOp,Instr.build,Pf,hz,O_,Z,O];rw [hp];simp only [O_];have e:(λi:Nat=>places.toArray[i]?)=λi:Nat=>places[i]? := by funext i; simp
  simp only [J,e,hf,Pp,O_]) k
theorem cV {α:Type}[aE α] {T e:TypeId}{n:Nat}{J:List (Nat×Operand)}{vs:List OY}{css:List (List OY)}{z:OY}{zs out:List OY}{places:List (Nat×Nat)}{ys:List α}
  (hg:gd ops L ⟨some d,.buildSlice T n J.toArray,ty,pos,aft,g⟩=some true) (hN:Nat.blt d x.N=true)
  (hv:xL L (J.map (·.2))=some vs) (hc:yJ vs css)
  (hT:∀ w,(underlying T).run x.P w=.ok (.slice e) w) (hs:∀ w,(sizeOf e).run x.P w=.ok (aE.sz α) w) (hs0:Nat.blt 0 (aE.sz α)=true)
  (hz:∀ w,(zeroValue e).run x.P w=.ok z w) (hzs:(Array.range (n*aE.sz α)).map (z.cells[·%z.cells.size]!)=zs.toArray)
  (hpl:places=(List.range n).map λi=>(i*aE.sz α,aE.sz α)) (hn:Nat.ble (n*aE.sz α) 16777216=true) (hnn:Nat.blt 0 n=true)
  (ho:laid places zs ((J.map (·.1)).zip css)=some out) (hr:pF H out ys) (Z:ys.length=n)
  (k:∀ b v H',v=.slice (some ⟨b,0,none⟩) n n->H.le H'->aN H' v ys->W x ops Q rest H' M ((d,v)::L)):
  W x ops Q (⟨some d,.buildSlice T n J.toArray,ty,pos,aft,g⟩::rest) H M L:=by
 refine r7 rfl hg hN λa w Y ht=>?_;have hl:(J.map (·.1)).length=vs.length:=by rw [<- Y.xL hv]; simp
 have I:0<aE.sz α:=by simpa [P9] using hs0
 have hn':n*aE.sz α<=16777216:=by simpa [Rx] using hn
 have O:0<n:=by simpa [P9] using hnn
 have hpos:0<n*aE.sz α:=Nat.mul_pos O I;have hf:=uY (place:=λi=>some (i*aE.sz α,aE.sz α)) (places:=places) (λi o h=>by
  rw [hpl,Pw] at h;cases hh:(List.range n)[i]? with
  | none=>rw [hh] at h; cases h
  | some j=>
   rw [hh] at h;have:j=i:=by
    have:=O3.1 hh;simpa using this.2.symm
   subst this;simpa using h) (J.map (·.1)) vs css zs out hc hl ho
 have hps:=zC Y hv;have hsz:out.length=n*aE.sz α:=by rw [hr.len,Z]
 refine ⟨.slice (some ⟨w.heap.size,0,none⟩) n n,w.alloc (.cells out.toArray e),?_,H.add w.heap.size (.cells out.toArray e),M,(ht.alloc _).freeze.2,?_⟩
 ·have h1:¬ (2 ^ 24<n*aE.sz α):=by omega
  have h2:¬ (n*aE.sz α=0):=by omega
  simp only [execOp,Instr.buildSlice,Pf,hT,O_,hs,gt_iff_lt,h1,h2,Q6,hz,Pp];simp only [hps];have hf':Instr.fill (λi=>some (i*aE.sz α,aE.sz α)) ((Array.range (n*aE.sz α)).map (z.cells[·%z.cells.size]!)) ((List.map (λx=>x.fst) J).zip vs)=some out.toArray:=by
   rw [hzs]; exact hf
  simp only [hf',newRow,newObj,Pf,Pp,Sem.run,O_,World.alloc]
 ·refine k w.heap.size _ _ rfl (ht.alloc _).freeze.1 (.inr ⟨w.heap.size,0,n,out.toArray,e,(0,0),by rw [Z],by omega,?_,Hp.wG _ _ _,by simp [hsz],?_⟩)
  ·unfold maxLen
   have:n<=n*aE.sz α:=RK _ I;omega
  ·intro j el hel
   obtain ⟨c,q1,q2⟩:=(hr.mono (ht.alloc (.cells out.toArray e)).freeze.1).get j el hel;exact ⟨c,q1,λi u hu=>by simpa using q2 i u hu⟩
end
structure Rw {α:Type}[aE α] (H:Hp) (v:OY) (xs:List OY) (l:List α):Prop where
 rd:pF H xs l
 sl:∃ a n c,v=.slice a n c
section
variable {α:Type}[aE α] {H H':Hp}{v:OY}{xs:List OY}{l:List α}
theorem Rw.mono (I:H.le H') (h:Rw H v xs l):Rw H' v xs l:=⟨h.rd.mono I,h.sl⟩
theorem Rw.one (h:Rw H v xs l):v.oneCell'=true:=by obtain ⟨a,n,c,rfl⟩:=h.sl; rfl
theorem Rw.cells (h:Rw H v xs l):v.cells=[v].toArray:=by obtain ⟨a,n,c,rfl⟩:=h.sl; rfl
theorem Rw.nil:Rw H (.slice none 0 0) [] ([]:List α):=⟨rfl,_,_,_,rfl⟩
theorem Rw.elem (h:Rw H v xs l) {k:Nat}{e:α} (he:l[k]? = some e):∃ c,aE.E H c e/\∀ j u,c[j]? = some u->xs[k*aE.sz α+j]? = some u:=h.rd.get k e he
theorem yx (vs:List OY):∀ (l:List OY) (k j:Nat),k+vs.length<=l.length->(over l k vs)[j]? = if k<=j/\j<k+vs.length then vs[j-k]? else l[j]? := by
 intro l k j h;rw [vJ vs l k h,Pv,Q3];simp only [Pr,P6 (show k<=l.length by omega)]
 by_cases I:j<k
 ·rw [O8 I,O7 (by omega),PR,O8 I]
 ·rw [O7 I,Q3]
  by_cases J:j-k<vs.length
  ·rw [O8 J,O8 (by omega)]
  ·rw [O7 J,O7 (by omega),PJ]
   congr 1; omega
theorem Rw.put {c cs out:List OY}{k o:Nat}{e e2:α} (h:Rw H v xs l) (he:l[k]? = some e) (hc:aE.E H c e) (hg:∀ j u,c[j]? = some u->xs[k*aE.sz α+j]? = some u)
  (hb:Nat.ble (o+cs.length) c.length=true) (ho:over c o cs=out) (hE:aE.E H out e2):
  Rw H v (over xs (k*aE.sz α+o) cs) (l.set k e2)/\(l.set k e2)[k]? = some e2/\∀ j u,out[j]? = some u->(over xs (k*aE.sz α+o) cs)[k*aE.sz α+j]? = some u:=by
 have hk:k<l.length:=(O3.1 he).1;have hlen:=h.rd.len;have I:=aE.len hc;have Y:o+cs.length<=c.length:=by simpa [Rx] using hb
 have hkk:(k+1)*aE.sz α<=l.length*aE.sz α:=Ph _ hk;rw [Pm,SG] at hkk;have tK:k*aE.sz α+o+cs.length<=xs.length:=by omega
 have key:over xs (k*aE.sz α+o) cs=xs.take (k*aE.sz α)++out++xs.drop ((k+1)*aE.sz α):=by
  apply QE;intro j;rw [yx _ _ _ _ tK,Pv,Q3];simp only [Pr,P6 (show k*aE.sz α<=xs.length by omega)]
  have J:out.length=aE.sz α:=by rw [<- ho,oM,I]
  by_cases O:j<k*aE.sz α
  ·rw [O8 O,O7 (by omega),PR,O8 O]
  ·rw [O7 O,Q3,J]
   by_cases h2:j-k*aE.sz α<aE.sz α
   ·rw [O8 h2,<- ho,yx _ _ _ _ Y]
    by_cases h3:k*aE.sz α+o<=j/\j<k*aE.sz α+o+cs.length
    ·rw [O8 h3,O8 (by omega)]; congr 1; omega
    ·rw [O7 h3,O7 (by omega)]
     have Z:j-k*aE.sz α<c.length:=by omega
     have:=hg (j-k*aE.sz α) _ (OZ Z);rw [OZ Z,<- this]; congr 1; omega
   ·rw [O7 h2,O7 (by omega),PJ]
    congr 1; rw [Pm]; omega
 refine ⟨⟨?_,h.sl⟩,by simp [hk],λj u hu=>?_⟩
 ·rw [key]; exact h.rd.put hk hE
 ·have Z:j<out.length:=(O3.1 hu).1
  have J:out.length=aE.sz α:=by rw [<- ho,oM,I]
  rw [key,Pv,PB (by simp; omega),Qb (by simp; omega)]
  simp only [Pr,P6 (show k*aE.sz α<=xs.length by omega)]
  rw [show k*aE.sz α+j-k*aE.sz α=j by omega]; exact hu
end
section
variable {x:Cx}{ops:Array Oper}{Q:k_}{rest:List Oper}{H:Hp}{M M':List bL}{L L':Env}
variable {d:Nat}{ty:TypeId}{pos:String}{aft:Array Edge}{g:Option (Nat×Bool)}
theorem AY {v:OY}{T:TypeId}{sz n i:Nat}{xs:List OY}{c:OY} (hm:bL.row v T sz n xs ∈ M) (I:xs[i]? = some c):xB x H M ((Value.base v).add i) c:=by
 intro w ht;have O:iB w T sz v n xs:=ht.ok _ hm;have hi:=(O3.1 I).1;rcases O.2 with ⟨rfl,h0⟩ | ⟨Y,off,cap,Z,rfl,hg,hnc,hcm,hcs,J⟩
 ·exfalso
  have:=O.1;subst h0;simp at this; subst this
  simp at I
 ·rw [show Value.base (Value.slice (some ⟨Y,off,none⟩) n cap)=⟨Y,off,none⟩ from rfl,P8]
  refine Td hg rfl ?_;rw [<- J,PR] at I
  split at I
  ·rw [PJ] at I; simpa using I
  ·cases I
theorem add_add (a:Addr) (i j:Nat):(a.add i).add j=a.add (i+j):=by
 unfold Addr.add
 by_cases I:i=0 <;> by_cases J:j=0 <;> simp [I,J,Rb]
theorem xe {v:OY}{T:TypeId}{sz n i:Nat}{xs cs:List OY} (hm:bL.row v T sz n xs ∈ M) (I:∀ j u,cs[j]? = some u->xs[i+j]? = some u):xZ x H M ((Value.base v).add i) cs:=by
 intro j c J;rw [add_add];exact AY hm (I j c J)
theorem row_one {v:OY}{T:TypeId}{sz n i o:Nat}{xs cs:List OY}{c:OY} (hm:bL.row v T sz n xs ∈ M) (I:∀ j u,cs[j]? = some u->xs[i+j]? = some u) (J:cs[o]? = some c):
  xB x H M (((Value.base v).add i).add o) c:=by
 rw [add_add]; exact AY hm (I o c J)
theorem AZ {v:OY}{T:TypeId}{sz n i:Nat}{xs cs:List OY}{c:OY} (hm:bL.row v T sz n xs ∈ M) (I:∀ j u,cs[j]? = some u->xs[i+j]? = some u) (J:cs[0]? = some c):
  xB x H M ((Value.base v).add i) c:=AY hm (I 0 c J)
theorem zW {v:OY}{T:TypeId}{sz n:Nat}{xs:List OY}{t e:TypeId}{y:Operand} (hm:bL.row v T sz n xs ∈ M) (Y:gd ops L ⟨some d,.call ⟨.builtin .len,#[y],#[t]⟩,ty,pos,aft,g⟩=some true) (hN:Nat.blt d x.N=true)
  (O:∀ w,(underlying t).run x.P w=.ok (.slice e) w) (Z:ev L y=some v) (k:W x ops Q rest H M ((d,.int .i64 n)::L)):
  W x ops Q (⟨some d,.call ⟨.builtin .len,#[y],#[t]⟩,ty,pos,aft,g⟩::rest) H M L:=
 eT rfl Y hN (λc w hs ht=>by
  have I:iB w T sz v n xs:=ht.ok _ hm;rcases I.2 with ⟨rfl,rfl⟩ | ⟨gb,off,cap,J,rfl,_⟩ <;>
   simp [execOp,resolve,invoke,builtin,hs.ev Z,Builtin.len_,O,goInt]) k
theorem yb {v:OY}{T:TypeId}{sz n:Nat}{xs:List OY}{t e:TypeId}{y z:Operand}{kk:IntKind}{i:Int} (hm:bL.row v T sz n xs ∈ M)
  (hg:gd ops L ⟨some d,.indexAddr t y z,ty,pos,aft,g⟩=some true) (hN:Nat.blt d x.N=true)
  (hT:∀ w,(underlying t).run x.P w=.ok (.slice e) w) (hs:∀ w,(sizeOf e).run x.P w=.ok sz w)
  (hy:ev L y=some v) (hz:ev L z=some (.int kk i)) (Z:0<=i) (h1:i.toNat<n)
  (k:W x ops Q rest H M ((d,.pointer (some ((Value.base v).add (i.toNat*sz))))::L)):
  W x ops Q (⟨some d,.indexAddr t y z,ty,pos,aft,g⟩::rest) H M L:=
 eT rfl hg hN (λc w I ht=>by
  have J:i<(n:Int):=by omega
  have O:iB w T sz v n xs:=ht.ok _ hm;rcases O.2 with ⟨rfl,rfl⟩ | ⟨gb,off,cap,Y,rfl,_⟩
  ·omega
  ·simp [execOp,I.ev hy,I.ev hz,Instr.indexAt,asIntOf,hT,hs,Z,J,Value.base]) k
theorem wD {T E:TypeId}{m sz n i:Nat}{y z:Operand}{v u:OY}{ad:Addr}{xs cs:List OY} (hg:gd ops L ⟨none,.store T y z,ty,pos,aft,g⟩=some true)
  (hn:∀ w,(sizeOf T).run x.P w=.ok m w) (hy:ev L y=some (.pointer (some ad))) (had:ad=(Value.base v).add i) (hz:ev L z=some u) (hv:u.cells=cs.toArray) (hl:cs.length=m)
  (hb:i+cs.length<=xs.length) (Y:Nat.blt 0 cs.length=true) (h1:∀ c ∈ cs,c.oneCell'=true)
  (k:W x ops Q rest H (.row v E sz n (over xs i cs)::M) L):
  W x ops Q (⟨none,.store T y z,ty,pos,aft,g⟩::rest) H (.row v E sz n xs::M) L:=
 BY rfl hg (λa w hs ht=>by
  subst had;have I:iB w E sz v n xs:=ht.ok _ (O5 ..);have hpos':0<cs.length:=by simpa [P9] using Y
  rcases I.2 with ⟨rfl,rfl⟩ | ⟨gb,off,cap,Z,rfl,hgb,O,hcm,hcs,J⟩
  ·have h0:=I.1; rw [Qu] at h0; omega
  ·have hmul:n*sz<=cap*sz:=Ph _ O
   have hxl:=I.1;obtain ⟨w',hr,hh,hgr⟩:=jT (P:=x.P) gb (off+i) E cs 0 Z.toList w (by simpa using hgb) (by simp; omega) h1
   refine ⟨w',?_,H,_,ht.CT (r':=.row (.slice (some ⟨gb,off,none⟩) n cap) E sz n (over xs i cs)) hgr ?_ (λc hc=>.inl hc),k⟩
   ·simp [execOp,hs.ev hy,hs.ev hz,Instr.storeAt,Instr.sureAddr,storeVar,hn,hl,hv,Value.base,P8,hr]
   ·refine ⟨by rw [oM]; exact hxl,.inr ⟨gb,off,cap,_,rfl,hh,O,hcm,by simpa [oM] using hcs,?_⟩⟩
    rw [Rn,Qt];apply QE;intro j;rw [PR,PJ,yx _ _ _ _ (by simp; omega),yx _ _ _ _ hb,<- J,PR,PJ]
    by_cases hj:j<n*sz
    ·simp only [O8 hj]
     by_cases h3:i<=j/\j<i+cs.length
     ·rw [O8 h3,O8 (by omega)]; congr 1; omega
     ·rw [O7 h3,O7 (by omega)]
    ·simp only [O7 hj]
     rw [O7 (by omega)])
end
section
variable {x:Cx}{ops:Array Oper}{Q:k_}{rest:List Oper}{H:Hp}{M M':List bL}{L L':Env}
variable {d:Nat}{ty:TypeId}{pos:String}{aft:Array Edge}{g:Option (Nat×Bool)}
theorem iB.shape {w:World}{T:TypeId}{sz n:Nat}{v:OY}{xs:List OY} (h:iB w T sz v n xs):∃ a n c,v=.slice a n c:=by
 rcases h.2 with ⟨rfl,_⟩ | ⟨J,off,cap,I,rfl,_⟩ <;> exact ⟨_,_,_,rfl⟩
theorem cQ {α:Type}[aE α] {t e:TypeId}{bytes n:Nat}{z:OY}{y u:Operand}{v vu:OY}{xs:List OY}{l ys:List α}
  (hg:gd ops L ⟨some d,.call ⟨.builtin .append,#[y,u],#[t,t]⟩,ty,pos,aft,g⟩=some true) (hN:Nat.blt d x.N=true)
  (hT:x.P.underlying t=some (.slice e)) (hi:Mw x.P e (aE.sz α) bytes z) (hz:z.cells.size=aE.sz α) (hs:Nat.blt 0 (aE.sz α)=true) (Y:Nat.blt 0 bytes=true)
  (hy:ev L y=some v) (hu:ev L u=some vu) (hx:Rw H v xs l) (hR:aN H vu ys) (hb:((l.length+ys.length)*bytes:Nat)<=140737488355328)
  (k:∀ v' I,Rw H v' I (l++ys)->W x ops Q rest H (.row v' e (aE.sz α) (l++ys).length I::M) ((d,v')::L)):
  W x ops Q (⟨some d,.call ⟨.builtin .append,#[y,u],#[t,t]⟩,ty,pos,aft,g⟩::rest) H (.row v e (aE.sz α) n xs::M) L:=by
 refine Hz hg hN hT hi hz hs Y hy hu hx.rd hR hb λv' n' I O=>?_;intro a w Z ht;have J:iB w e (aE.sz α) v' n' I:=ht.ok _ (O5 ..);have hn:n'=(l++ys).length:=by
  have h1:=O.len;rw [J.1] at h1;exact QD (by simpa [P9] using hs) h1
 subst hn;exact k v' I ⟨O,J.shape⟩ a w Z ht
theorem St.newRow {α:Type}[aE α] {B:Nat}{w0 w:World}{cells:List OY}{e:TypeId}{l:List α} (ht:St B w0 H M w) (J:pF H cells l) (hm:l.length<=maxLen):
  St B w0 H (.row (.slice (some ⟨w.heap.size,0,none⟩) l.length l.length) e (aE.sz α) l.length cells::M) (w.alloc (.cells cells.toArray e)):=by
 have h:=ht.alloc (.cells cells.toArray e);have hl:=J.len;refine ⟨h.below,h.le,h.tK,?_,?_,h.nd⟩
 ·intro r I
  rcases PN.1 I with rfl | I
  ·refine ⟨hl,.inr ⟨w.heap.size,0,l.length,cells.toArray,rfl,h.ok _ (O5 ..),Pn _,hm,by simp only [RG]; omega,?_⟩⟩
   rw [<- hl,Rn,Qi,QJ]
  ·exact h.ok r (O9 _ I)
 ·intro r I
  rcases PN.1 I with rfl | I
  ·exact h.lo (.obj w.heap.size (.cells cells.toArray e)) (O5 ..)
  ·exact h.lo r (O9 _ I)
theorem eS {α:Type}[aE α] {t e:TypeId}{bytes:Nat}{z:OY}{zs:List OY}{ze:α}{y y2:Operand}{n:Int}
  (hg:gd ops L ⟨some d,.makeSlice t y y2,ty,pos,aft,g⟩=some true) (hN:Nat.blt d x.N=true)
  (hT:x.P.underlying t=some (.slice e)) (hi:Mw x.P e (aE.sz α) bytes z) (hz:z.cells=zs.toArray) (hs:Nat.blt 0 (aE.sz α)=true) (hb0:Nat.blt 0 bytes=true)
  (hE:aE.E H zs ze) (hy:ev L y=some (.int .i64 n)) (hy2:ev L y2=some (.int .i64 n)) (h0:0<=n) (hb:n*bytes<=140737488355328)
  (k:∀ v' xs',Rw H v' xs' (List.replicate n.toNat ze)->W x ops Q rest H (.row v' e (aE.sz α) (List.replicate n.toNat ze).length xs'::M) ((d,v')::L)):
  W x ops Q (⟨some d,.makeSlice t y y2,ty,pos,aft,g⟩::rest) H M L:=by
 obtain ⟨i,h1,h2,h3,h4⟩:=hi.ex;obtain ⟨m,rfl⟩:∃ m:Nat,n=m:=⟨n.toNat,by omega⟩
 have hs':0<aE.sz α:=by simpa [P9] using hs
 have hb0':0<bytes:=by simpa [P9] using hb0
 have hcast:((m*bytes:Nat):Int)=(m:Int)*(bytes:Int):=PT m bytes;have hbn:m*bytes<=140737488355328:=by omega
 have hm:m<=m*bytes:=RK _ hb0';have hzl:zs.length=aE.sz α:=aE.len hE;have hmax:m<=maxLen:=by unfold maxLen; omega
 have hw:i64.wrap (m:Int)=m:=wL (by omega) (by omega)
 simp only [O2] at k;have hrd:∀ q,pF H ((List.range (q*aE.sz α)).map (zs.toArray[·%zs.length]!)) (List.replicate q ze):=by
  intro q
  induction q with
  | zero=>rw [Qu]; exact rfl
  | succ q ih=>
   have J:(List.range ((q+1)*aE.sz α)).map (zs.toArray[·%zs.length]!)=zs++(List.range (q*aE.sz α)).map (zs.toArray[·%zs.length]!):=by
    apply QE;intro j;rw [Q3,Pw]
    by_cases hj:j<zs.length
    ·rw [O8 hj,QW (by rw [Pm]; omega)]
     simp [QL hj,hj]
    ·rw [O7 hj,Pw]
     by_cases Y:j<(q+1)*aE.sz α
     ·rw [QW Y,QW (by rw [Pm] at Y; omega)]
      simp only [Qp];rw [<- Nat.mod_eq_sub_mod (by omega)]
     ·rw [P1 (by simp; omega),P1 (by rw [Pm] at Y; simp; omega)]
   rw [J];exact ⟨zs,_,rfl,hE,ih⟩
 have hlr:(List.replicate m ze).length=m:=Qe;refine r7 rfl hg hN λa w I ht=>?_;refine ⟨.slice (some ⟨w.heap.size,0,none⟩) (List.replicate m ze).length (List.replicate m ze).length,_,?_,H,_,St.newRow (e:=e) ht (hrd m) (by rw [hlr]; exact hmax),k _ _ ⟨hrd m,_,_,_,rfl⟩⟩
 have e1:¬ ((i.bytes:Int)*(m:Int) > 2 ^ 48):=by
  rw [h3,Int.mul_comm];omega
 have e3:¬ (m*i.bytes > roomBytes):=by rw [h3]; unfold roomBytes; omega
 have e4:¬ ((m:Int)<0):=by omega
 have O:∀ w,(typeInfo e).run x.P w=.ok i w:=λw=>by simp [typeInfo,h1]
 have hsz:∀ w,(sizeOf e).run x.P w=.ok (aE.sz α) w:=λw=>by simp [sizeOf,O,h2]
 have hzv:∀ w,(zeroValue e).run x.P w=.ok z w:=λw=>by simp [zeroValue,O,h4]
 have hun:∀ w,(underlying t).run x.P w=.ok (.slice e) w:=λw=>Qs hT w;have hnr:∀ c w,(newRow e c).run x.P w=.ok ⟨w.heap.size,0,none⟩ (w.alloc (.cells c e)):=λc w=>by
  simp only [newRow,newObj,Pf,Pp,Sem.run,O_,World.alloc]
 rw [hlr]
 by_cases Z:m*aE.sz α=0
 ·have:m=0:=by
   rcases Nat.mul_eq_zero.1 Z with h | h <;> omega
  subst this;simp only [execOp,I.ev hy,I.ev hy2,Instr.makeSlice,Pf,hun,O_,asInt,asIntOf,Pp,O,hw,e1,e4,Ti,Bool.or_self,Qw,Q6,O2,askRoom,hsz,Z,SH,hnr,gt_iff_lt,Int.lt_irrefl,Qu,Nat.not_lt_zero];simp [Array.range]
 ·have e6:(Array.range (m*aE.sz α)).map (λj=>zs.toArray[j%zs.toArray.size]!)=((List.range (m*aE.sz α)).map (zs.toArray[·%zs.length]!)).toArray:=by
   apply Array.ext';simp
  simp only [execOp,I.ev hy,I.ev hy2,Instr.makeSlice,Pf,hun,O_,asInt,asIntOf,Pp,O,hw,e1,e4,Ti,Bool.or_self,Qw,Q6,O2,askRoom,e3,hsz,Z,hzv,hz,e6,hnr,gt_iff_lt,Int.lt_irrefl]
theorem run_sliceBound {P:Program}{w:World}{O:IntKind}{i:Int}{y:Nat}{c:BoundsCode} (I:0<=i) (J:i<=y):(Instr.sliceBound (.int O i) y c).run P w=.ok i.toNat w:=by
 simp [Instr.sliceBound,asIntOf,I,J]
def Bd (o:Option OY) (I top r:Nat):Prop:=(o=none/\r=I)\/∃ J i,o=some (.int J i)/\0<=i/\i<=top/\i.toNat=r
theorem zu {P:Program}{w:World}{len cap:Nat}{lo hi mx:Option OY}{l h m:Nat}
  (I:mx=none\/∃ v,hi=some v) (hm:Bd mx cap cap m) (J:Bd hi len m h) (hl:Bd lo 0 h l):
  (Instr.sliceBounds true len cap lo hi mx).run P w=.ok (l,h,m) w:=by
 rcases hm with ⟨rfl,rfl⟩ | ⟨km,im,rfl,m0,m1,rfl⟩
 ·rcases J with ⟨rfl,rfl⟩ | ⟨kh,ih,rfl,O,Y,rfl⟩
  ·rcases hl with ⟨rfl,rfl⟩ | ⟨kl,il,rfl,Z,l1,rfl⟩
   ·simp only [Instr.sliceBounds,Pf,Pp,O_]
   ·simp only [Instr.sliceBounds,Pf,Pp,O_,run_sliceBound Z l1]
  ·rcases hl with ⟨rfl,rfl⟩ | ⟨kl,il,rfl,Z,l1,rfl⟩
   ·simp only [Instr.sliceBounds,Pf,Pp,O_,run_sliceBound O Y]
   ·simp only [Instr.sliceBounds,Pf,Pp,O_,run_sliceBound O Y,run_sliceBound Z l1]
 ·rcases I with I | ⟨v,rfl⟩
  ·cases I
  ·rcases J with ⟨J,_⟩ | ⟨kh,ih,J,O,Y,rfl⟩
   ·cases J
   ·obtain rfl:=O4 J
    rcases hl with ⟨rfl,rfl⟩ | ⟨kl,il,rfl,Z,l1,rfl⟩
    ·simp only [Instr.sliceBounds,Pf,Pp,O_,run_sliceBound m0 m1,run_sliceBound O Y]
    ·simp only [Instr.sliceBounds,Pf,Pp,O_,run_sliceBound m0 m1,run_sliceBound O Y,run_sliceBound Z l1]
def Fg (L:Env) (o:Option Operand) (I top r:Nat):Prop:=(o=none/\r=I)\/∃ J O i,o=some J/\ev L J=some (.int O i)/\0<=i/\i<=top/\i.toNat=r
theorem Fg.bd {N:Nat}{a:Act}{o:Option Operand}{I top r:Nat} (hs:Sl N L a) (h:Fg L o I top r):Bd (o.map a.eval) I top r:=by
 rcases h with ⟨rfl,rfl⟩ | ⟨Z,Y,i,rfl,he,J,O,rfl⟩
 ·exact .inl ⟨rfl,rfl⟩
 ·exact .inr ⟨Y,i,by simp [hs.ev he],J,O,rfl⟩
theorem sX {P:Program}{w:World}{t e:TypeId}{sz len cap:Nat}{a:Option Addr}{lo hi mx:Option OY}{l h m:Nat} (J:∀ w,(underlying t).run P w=.ok (.slice e) w) (hs:∀ w,(sizeOf e).run P w=.ok sz w)
  (I:mx=none\/∃ v,hi=some v) (hm:Bd mx cap cap m) (O:Bd hi len m h) (hl:Bd lo 0 h l):
  (Instr.sliceAt t (.slice a len cap) lo hi mx).run P w=.ok (.slice (if m=l then a else a.map (·.add (l*sz))) (h-l) (m-l)) w:=by
 simp only [Instr.sliceAt,Pf,J,O_,Instr.slice,zu I hm O hl,hs,Pp]
theorem IS {a:Act}{mx hi:Option Operand} (h:mx=none\/∃ o,hi=some o):mx.map a.eval=none\/∃ v,hi.map a.eval=some v:=by
 rcases h with rfl | ⟨o,rfl⟩
 ·exact .inl rfl
 ·exact .inr ⟨_,rfl⟩
theorem tR {α:Type}[aE α] {t e:TypeId}{y:Operand}{lo hi mx:Option Operand}{v:OY}{xs:List α}{l h:Nat} (hg:gd ops L ⟨some d,.slice t y lo hi mx,ty,pos,aft,g⟩=some true) (hN:Nat.blt d x.N=true)
  (hT:∀ w,(underlying t).run x.P w=.ok (.slice e) w) (hs:∀ w,(sizeOf e).run x.P w=.ok (aE.sz α) w)
  (hy:ev L y=some v) (hR:aN H v xs) (hlh:l<=h) (Z:h<=xs.length) (hmh:mx=none\/∃ o,hi=some o)
  (hm:∀ cap,h<=cap->Fg L mx cap cap (if mx=none then cap else h)) (hh:∀ m,h<=m->Fg L hi xs.length m h) (hl:Fg L lo 0 h l)
  (k:∀ v',aN H v' ((xs.drop l).take (h-l))->(mx≠none->Value.nq v'=h-l)->W x ops Q rest H M ((d,v')::L)):
  W x ops Q (⟨some d,.slice t y lo hi mx,ty,pos,aft,g⟩::rest) H M L:=by
 have hlen:((xs.drop l).take (h-l)).length=h-l:=by simp; omega
 rcases hR with ⟨⟨a0,rfl⟩,rfl⟩ | ⟨b,off,cap,arr,T,fz,rfl,h2,h3,h4,h5,h6⟩
 ·have hl0:l=0:=by simp at Z; omega
  have hh0:h=0:=by simp at Z; omega
  subst hl0; subst hh0
  have hif:(if mx=none then 0 else 0)=0:=by split <;> rfl
  refine eT (v:=.slice a0 0 0) rfl hg hN (λc w I ht=>?_) (k _ (.inl ⟨⟨_,rfl⟩,by simp⟩) (λ_=>rfl))
  have O:=(hm 0 (Pn _)).bd I;rw [hif] at O;have hr:=sX (P:=x.P) (w:=w) (len:=0) (cap:=0) (a:=a0) hT hs (IS hmh) O ((hh 0 (Pn _)).bd I) (hl.bd I);simp only [Qg,SH] at hr;simp only [execOp,I.ev hy,Pf,hr,O_,Pp]
 ·have hmc:h<=(if mx=none then cap else h)/\(if mx=none then cap else h)<=cap:=by split <;> omega
  generalize Y:(if mx=none then cap else h)=m at hmc
  refine eT (v:=.slice (if m=l then some ⟨b,off,none⟩ else some ((⟨b,off,none⟩:Addr).add (l*aE.sz α))) (h-l) (m-l)) rfl hg hN (λc w I ht=>?_) (k _ ?_ ?_)
  ·have O:=(hm cap (by omega)).bd I
   rw [Y] at O;simp only [execOp,I.ev hy,Pf,sX hT hs (IS hmh) O ((hh m hmc.1).bd I) (hl.bd I),O_,Pp]
   split <;> rfl
  ·by_cases hml:m=l
   ·have:h-l=0:=by omega
    have e0:m-l=0:=by omega
    rw [O8 hml,this,e0];exact .inl ⟨⟨_,rfl⟩,by simp⟩
   ·rw [O7 hml,P8]
    have hmul:l*aE.sz α+(m-l)*aE.sz α<=cap*aE.sz α:=by
     rw [<- Pm]; exact Ph _ (by omega)
    refine .inr ⟨b,off+l*aE.sz α,m-l,arr,T,fz,by rw [hlen],by omega,by omega,h4,by omega,λj el J=>?_⟩
    rw [PR] at J
    split at J
    ·rw [PJ] at J
     obtain ⟨cs,q1,q2⟩:=h6 (l+j) el J;refine ⟨cs,q1,λi c hc=>?_⟩;rw [show off+l*aE.sz α+j*aE.sz α+i=off+(l+j)*aE.sz α+i by rw [Pm]; omega]
     exact q2 i c hc
    ·cases J
  ·intro hne
   rw [O7 hne] at Y;subst Y; rfl
theorem Gi {α:Type}[aE α] {t e T:TypeId}{n:Nat}{y:Operand}{lo hi:Option Operand}{v:OY}{cs:List OY}{xs:List α}{l h:Nat} (hg:gd ops L ⟨some d,.slice t y lo hi none,ty,pos,aft,g⟩=some true) (hN:Nat.blt d x.N=true)
  (hT:∀ w,(underlying t).run x.P w=.ok (.slice e) w) (hs:∀ w,(sizeOf e).run x.P w=.ok (aE.sz α) w) (hs0:Nat.blt 0 (aE.sz α)=true)
  (hy:ev L y=some v) (hR:Rw H v cs xs) (hlh:l<=h) (hhx:h<=xs.length)
  (hh:∀ m,h<=m->Fg L hi xs.length m h) (hl:Fg L lo 0 h l)
  (k:∀ v' cs',Rw H v' cs' ((xs.drop l).take (h-l))->Value.nq v'=Value.nq v-l->W x ops Q rest H (.row v' T (aE.sz α) ((xs.drop l).take (h-l)).length cs'::M) ((d,v')::L)):
  W x ops Q (⟨some d,.slice t y lo hi none,ty,pos,aft,g⟩::rest) H (.row v T (aE.sz α) n cs::M) L:=by
 have J:((xs.drop l).take (h-l)).length=h-l:=by simp; omega
 refine r7 rfl hg hN λa w I ht=>?_;have hok:iB w T (aE.sz α) v n cs:=ht.ok _ (O5 ..);have hn:n=xs.length:=by
  have h1:=hR.rd.len;rw [hok.1] at h1;exact QD (by simpa [P9] using hs0) h1
 subst hn;have hrd:=(hR.rd.split h).1.split l;have Y:pF H ((cs.take (h*aE.sz α)).drop (l*aE.sz α)) ((xs.drop l).take (h-l)):=by
  have:=hrd.2
  rwa [Re (l:=xs)] at this
 have hcl:=Y.len;rcases hok.2 with ⟨rfl,h0⟩ | ⟨Z,off,cap,cur,rfl,hgb,hnc,hcm,hcs,htake⟩
 ·have hl0:l=0:=by omega
  have hh0:h=0:=by omega
  subst hl0; subst hh0
  refine ⟨.slice none 0 0,w,?_,H,_,?_,k _ [] (by simpa using (Rw.nil:Rw H (.slice none 0 0) [] ([]:List α))) rfl⟩
  ·have hh':=(hh 0 (Pn _)).bd I
   rw [h0] at hh';have hr:=sX (P:=x.P) (w:=w) (len:=0) (cap:=0) (a:=none) (mx:=none) hT hs (.inl rfl) (.inl ⟨rfl,rfl⟩) hh' (hl.bd I);simp only [Qg,SH] at hr;simp only [execOp,I.ev hy,Pf,Sj,hr,O_,Pp]
  ·have:=ht.tail.AN T (aE.sz α)
   simpa using this
 ·refine ⟨.slice (if cap=l then some ⟨Z,off,none⟩ else some ((⟨Z,off,none⟩:Addr).add (l*aE.sz α))) (h-l) (cap-l),w,?_,H,_,?_,k _ _ ⟨Y,_,_,_,rfl⟩ rfl⟩
  ·simp only [execOp,I.ev hy,Pf,sX (mx:=none) (m:=cap) hT hs (.inl rfl) (.inl ⟨rfl,rfl⟩) ((hh cap (by omega)).bd I) (hl.bd I),Sj,O_,Pp]
   split <;> rfl
  ·have hgr:w.grownBy w (bL.yk (.row (.slice (some ⟨Z,off,none⟩) xs.length cap) T (aE.sz α) xs.length cs)):=⟨rfl,rfl,rfl,Pn _,λ_ _ _=>rfl⟩
   rw [J];have hmul:l*aE.sz α+(cap-l)*aE.sz α=cap*aE.sz α:=by rw [<- Pm]; congr 1; omega
   have hmul2:h*aE.sz α=l*aE.sz α+(h-l)*aE.sz α:=by rw [<- Pm]; congr 1; omega
   have hmul3:h*aE.sz α<=xs.length*aE.sz α:=Ph _ hhx;have hxl:cs.length=xs.length*aE.sz α:=hok.1
   by_cases O:cap=l
   ·have e1:h-l=0:=by omega
    have e2:cap-l=0:=by omega
    rw [O8 O,e1,e2];have e3:(cs.take (h*aE.sz α)).drop (l*aE.sz α)=[]:=by
     apply Py; rw [hcl,J,e1,Qu]
    rw [e3];exact ht.CT (r':=.row (.slice (some ⟨Z,off,none⟩) 0 0) T (aE.sz α) 0 []) hgr ⟨by simp,.inr ⟨Z,off,0,cur,rfl,hgb,Pn _,by unfold maxLen; omega,by omega,by simp⟩⟩ (λc hc=>.inl hc)
   ·rw [O7 O,P8]
    refine ht.CT (r':=.row (.slice (some ⟨Z,off+l*aE.sz α,none⟩) (h-l) (cap-l)) T (aE.sz α) (h-l) _) hgr ⟨?_,.inr ⟨Z,off+l*aE.sz α,cap-l,cur,rfl,hgb,by omega,by omega,by omega,?_⟩⟩ (λc hc=>.inl hc)
    ·rw [hcl,J]
    ·rw [<- htake,SX,P6 hmul3,Re,QG]
     congr 1; omega
theorem tQ {α:Type}[aE α] {t e T:TypeId}{n:Nat}{y:Operand}{lo hi:Option Operand}{v:OY}{cs:List OY}{xs:List α}{l h:Nat} (hg:gd ops L ⟨some d,.slice t y lo hi none,ty,pos,aft,g⟩=some true) (hN:Nat.blt d x.N=true)
  (Z:∀ w,(underlying t).run x.P w=.ok (.slice e) w) (hs:∀ w,(sizeOf e).run x.P w=.ok (aE.sz α) w) (Y:Nat.blt 0 (aE.sz α)=true)
  (hy:ev L y=some v) (hR:Rw H v cs xs) (O:l<=h) (J:h<=xs.length)
  (hh:∀ m,h<=m->Fg L hi xs.length m h) (hl:Fg L lo 0 h l)
  (k:∀ v' I,Rw H v' I ((xs.drop l).take (h-l))->W x ops Q rest H (.row v' T (aE.sz α) ((xs.drop l).take (h-l)).length I::M) ((d,v')::L)):
  W x ops Q (⟨some d,.slice t y lo hi none,ty,pos,aft,g⟩::rest) H (.row v T (aE.sz α) n cs::M) L:=
 Gi hg hN Z hs Y hy hR O J hh hl (λv' I h _=>k v' I h)
end
def se {α:Type} (xs:List α) (l h:Nat):List α:=(xs.drop l).take (h-l)
theorem KE {α:Type} (xs:List α) (l h:Nat):(se xs l h).length=min (h-l) (xs.length-l):=by simp [se]
theorem Rw.room {α:Type}[aE α] {H:Hp}{v:OY}{xs:List OY}{l:List α} (h:Rw H v xs l) {k:Nat}{e:α} (he:l[k]? = some e) {o m:Nat} (J:Nat.ble (o+m) (aE.sz α)=true):k*aE.sz α+o+m<=xs.length:=by
 have Y:k<l.length:=(O3.1 he).1;have I:(k+1)*aE.sz α<=l.length*aE.sz α:=Ph _ Y;have O:o+m<=aE.sz α:=by simpa [Rx] using J
 rw [h.rd.len];rw [Pm,SG] at I;omega
theorem F6 (a:Addr) (i:Nat):a.add i=a.add (i+0):=rfl
theorem Jb (a:Addr) (i o:Nat):(a.add i).add o=a.add (i+o):=add_add a i o
section
variable {x:Cx}{ops:Array Oper}{Q:k_}{rest:List Oper}{H:Hp}{M M':List bL}{L L':Env}
variable {d:Nat}{ty:TypeId}{pos:String}{aft:Array Edge}{g:Option (Nat×Bool)}
theorem Gh {α : Type} [aE α] {t e : TypeId} {bytes : Nat} {z : OY} {y u : Operand} {v vu : OY} {l ys : List α}
    (hg : gd ops L ⟨some d, .call ⟨.builtin .append, #[y, u], #[t, t]⟩, ty, pos, aft, g⟩ = some true) (hN : Nat.blt d x.N = true)
    (hT : x.P.underlying t = some (.slice e)) (hi : Mw x.P e (aE.sz α) bytes z) (hz : z.cells.size = aE.sz α) (hs : Nat.blt 0 (aE.sz α) = true) (hb0 : Nat.blt 0 bytes = true)
    (hy : ev L y = some v) (hu : ev L u = some vu) (hx : aN H v l) (hc : Value.nq v = l.length) (hR : aN H vu ys) (hpos : Nat.blt 0 ys.length = true) (hb : ((l.length + ys.length) * bytes : Nat) ≤ 140737488355328)
    (k : ∀ v' xs', Rw H v' xs' (l ++ ys) → W x ops Q rest H (.row v' e (aE.sz α) (l ++ ys).length xs' :: M) ((d, v') :: L)) :
    W x ops Q (⟨some d, .call ⟨.builtin .append, #[y, u], #[t, t]⟩, ty, pos, aft, g⟩ :: rest) H M L := by
  obtain ⟨i, h1, h2, h3, h4⟩ := hi.ex;have hs' : 0 < aE.sz α := by simpa [P9] using hs
  have hb0' : 0 < bytes := by simpa [P9] using hb0
  have hpos' : 0 < ys.length := by simpa [P9] using hpos
  have hmax : l.length + ys.length ≤ maxLen := by
    have : l.length + ys.length ≤ (l.length + ys.length) * bytes := RK _ hb0';unfold maxLen; omega
  have Y : l.length + ys.length ≤ 9223372036854775807 := by unfold maxLen at hmax; omega
  refine r7 rfl hg hN fun a w hsl ht => ?_;obtain ⟨cs, Z, hcase⟩ := hx.flat;obtain ⟨J, hds, hcase2⟩ := hR.flat;rcases hcase2 with ⟨⟨ea, rfl⟩, rfl⟩ | ⟨hd2, b2, I, c2, rfl⟩
  · simp at hpos'
  have O : ∀ j u, J[j]? = some u → w.cell? ((⟨b2, I, none⟩ : Addr).add j) = some u := fun j u hu => ((hd2 j u hu).at (x := x) (M := M)) w ht;have hdl := hds.len;have hge := Tv w (l.length + ys.length);have mk : ∀ (uj : Nat), pF H (cs ++ J) (l ++ ys) → iB (w.drew.alloc (.cells (cs.toArray ++ J.toArray ++ Builtin.zeroCells z.cells (grownCap w (l.length + ys.length) uj e - (l.length + ys.length))) e)) e (aE.sz α)
        (.slice (some ⟨w.heap.size, 0, none⟩) (l.length + ys.length) (grownCap w (l.length + ys.length) uj e)) (l.length + ys.length) (cs ++ J) := by
    intro uj hrd;have hge := Tv w (l.length + ys.length) uj e;have hcm : grownCap w (l.length + ys.length) uj e ≤ maxLen := SU w (l.length + ys.length) uj e hmax;have hlen : (cs ++ J).length = (l.length + ys.length) * aE.sz α := by rw [hrd.len, Pj]
    refine ⟨hlen, .inr ⟨w.heap.size, 0, _, _, rfl, S0 w.drew _, hge, hcm, ?_, ?_⟩⟩
    · have hlen' : cs.length + J.length = (l.length + ys.length) * aE.sz α := by rw [← Pj]; exact hlen
      simp only [Array.size_append, RG, size_zeroCells, hz, Po];rw [hlen', ← Pm];rw [show l.length + ys.length + (grownCap w (l.length + ys.length) uj e - (l.length + ys.length)) = grownCap w (l.length + ys.length) uj e from by omega]
      exact Pn _
    · simp only [Qi, Tm, Pv]
      rw [← Pv, ← hlen];exact R4
  have fin : ∀ (uj : Nat), pF H (cs ++ J) (l ++ ys) → (Builtin.append_ #[t, t] ty #[v, .slice (some ⟨b2, I, none⟩) ys.length c2]).run x.P w = .ok (.slice (some ⟨w.heap.size, 0, none⟩) (l.length + ys.length) (grownCap w (l.length + ys.length) uj e))
        (w.drew.alloc (.cells (cs.toArray ++ J.toArray ++ Builtin.zeroCells z.cells (grownCap w (l.length + ys.length) uj e - (l.length + ys.length))) e)) →
      ∃ v' w', (execOp a.eval ⟨some d, .call ⟨.builtin .append, #[y, u], #[t, t]⟩, ty, pos, aft, g⟩).run x.P w = .ok (.value v') w' ∧ ∃ H' M', St x.B x.w0 H' M' w' ∧ W x ops Q rest H' M' ((d, v') :: L) := by
    intro uj hrd hr;have hown := mk uj hrd;refine ⟨_, (w.drew.alloc (.cells (cs.toArray ++ J.toArray ++ Builtin.zeroCells z.cells (grownCap w (l.length + ys.length) uj e - (l.length + ys.length))) e)), ?_, H, .row _ e (aE.sz α) (l ++ ys).length (cs ++ J) :: M, ht.add (r' := .row (.slice (some ⟨w.heap.size, 0, none⟩) (l.length + ys.length) (grownCap w (l.length + ys.length) uj e)) e (aE.sz α) (l ++ ys).length (cs ++ J)) ?_ ?_ ?_, k _ _ ⟨hrd, _, _, _, rfl⟩⟩
    · simp [execOp, resolve, invoke, builtin, hsl.ev hy, hsl.ev hu, hr]
    · exact ⟨rfl, rfl, rfl, by simp, fun k hk _ => heap_alloc_old w.drew _ (h := hk)⟩
    · show iB _ e (aE.sz α) _ (l ++ ys).length (cs ++ J)
      rw [Pj]; exact hown
    · intro b hb
      simp only [bL.yk, Value.ownBlock, Pk] at hb;omega
  rcases hcase with ⟨⟨ea, rfl⟩, rfl⟩ | ⟨hc1, b1, off1, c1, rfl⟩
  · have hcs' : cs = [] := Z
    subst hcs';have hl0 : ([] : List α).length + ys.length = ys.length := by simp
    cases ea with
    | none =>
      have hr := run_append_nil (P := x.P) w t ty e i z hT h1 h4 ⟨b2, I, none⟩ ys.length c2 J (by rw [h2]; exact hdl) O (by omega) (by rw [hl0] at Y; omega) (by have hb' := hb; rw [hl0] at hb'; rw [h3]; omega)
      refine fin 0 (Z.app hds) ?_;simp only [hl0];simpa using hr
    | some ea =>
      have hr := run_append_grow (P := x.P) w t ty e i z hT h1 h4 ea 0 0 [] (by simp) (by simp) ⟨b2, I, none⟩ ys.length c2 J (by rw [h2]; exact hdl) O (by omega) (by rw [hl0] at Y; omega) (Tt (by omega) (by rw [h3]; simpa using hb))
      refine fin 0 (Z.app hds) ?_;simpa using hr
  · have hc' : c1 = l.length := hc
    subst hc';have hr := run_append_grow (P := x.P) w t ty e i z hT h1 h4 ⟨b1, off1, none⟩ l.length l.length cs (by rw [h2]; exact Z.len) (fun j u hu => ((hc1 j u hu).at (x := x) (M := M)) w ht) ⟨b2, I, none⟩ ys.length c2 J (by rw [h2]; exact hdl) O (by omega) (by omega) (Tt (by omega) (by rw [h3]; exact hb))
    exact fin l.length (Z.app hds) hr
theorem py (α:Type) [aE α] {T e:TypeId}
  (Y:gd ops L ⟨some d,.buildSlice T 0 #[],ty,pos,aft,g⟩=some true) (hN:Nat.blt d x.N=true)
  (O:∀ w,(underlying T).run x.P w=.ok (.slice e) w) (hs:∀ w,(sizeOf e).run x.P w=.ok (aE.sz α) w)
  (k:∀ v' I,Rw H v' I ([]:List α)->W x ops Q rest H (.row v' e (aE.sz α) ([]:List α).length I::M) ((d,v')::L)):
  W x ops Q (⟨some d,.buildSlice T 0 #[],ty,pos,aft,g⟩::rest) H M L:=by
 refine r7 rfl Y hN λa w Z ht=>?_;have J:∀ c w,(newRow e c).run x.P w=.ok ⟨w.heap.size,0,none⟩ (w.alloc (.cells c e)):=λc w=>by
  simp only [newRow,newObj,Pf,Pp,Sem.run,O_,World.alloc]
 refine ⟨.slice (some ⟨w.heap.size,0,none⟩) 0 0,_,?_,H,_,St.newRow (α:=α) (cells:=[]) (l:=[]) (e:=e) ht rfl (by unfold maxLen; simp),k _ _ ⟨rfl,_,_,_,rfl⟩⟩
 simp only [execOp,Instr.buildSlice,Pf,O,hs,O_,Qu,Nat.not_lt_zero,gt_iff_lt,Q6,SH,Pp];simp [Instr.fill,J,Array.range]
end
def jL (s:OX):List U8:=s.data.toList.map λb=>⟨b.toNat⟩
section
variable {x:Cx}{ops:Array Oper}{Q:k_}{rest:List Oper}{H:Hp}{M M':List bL}{L L':Env}
variable {d:Nat}{ty:TypeId}{pos:String}{aft:Array Edge}{g:Option (Nat×Bool)}
def si (s:OX) (cap:Nat):Array OY:=s.data.map (λb:UInt8=>Value.int .u8 b.toNat)++Array.replicate (cap-s.size) (Value.int .u8 0)
theorem Cg (w:World) (c:Array OY) (e:TypeId):(w.alloc (.cells c e)).freeze ⟨w.heap.size,c.size,none⟩ 1=w.alloc (.cells c e (c.size,c.size+1)):=by
 have key:∀ (f:Obj->Obj),f (.cells c e)=.cells c e (c.size,c.size+1)->(w.heap.push (.cells c e)).modify w.heap.size f=w.heap.push (.cells c e (c.size,c.size+1)):=by
  intro f I;apply Array.ext_getElem?;intro i;rw [S8,Array.getElem?_push,Array.getElem?_push]
  by_cases h:w.heap.size=i
  ·subst h; simp [I]
  ·rw [O7 h,O7 (λq=>h q.symm),O7 (λq=>h q.symm)]
 unfold World.freeze;rw [O7 (by omega)]
 show ({ w with heap:=(w.heap.push (.cells c e)).modify w.heap.size _ }:World)={ w with heap:=w.heap.push (.cells c e (c.size,c.size+1)) }
 rw [key _ (by simp)]
theorem xH (s:OX):(jL s).length=s.size:=by unfold jL; rw [QR,Array.length_toList]; rfl
theorem yD {P:Program}{w:World}{e:TypeId}{s:OX}:
  (Conv.stringToBytes e s).run P w=.ok (.slice (some ⟨w.heap.size,0,none⟩) s.size (grownCap w s.size 0 e))
   (w.drew.alloc (.cells (si s (grownCap w s.size 0 e)) e ((si s (grownCap w s.size 0 e)).size,(si s (grownCap w s.size 0 e)).size+1))):=by
 have I:(choose (.appendCap s.size 0 e)).run P w=.ok (grownCap w s.size 0 e) w.drew:=by
  simp only [choose,Sem.run,Question.forced,Qw,Q6]; rfl
 have O:∀ (c:Array OY) (w:World),(newRow e c).run P w=.ok ⟨w.heap.size,0,none⟩ (w.alloc (.cells c e)):=λc w=>by
  simp only [newRow,newObj,Pf,Pp,Sem.run,O_,World.alloc]
 have J:∀ (c:Array OY) (w:World),(markStringish ⟨w.heap.size,0,none⟩).run P (w.alloc (.cells c e))=.ok () (w.alloc (.cells c e (c.size,c.size+1))):=λc w=>by
  have Y:(w.alloc (.cells c e)).shape? w.heap.size=some (e,c.size):=by
   have:(w.alloc (.cells c e)).heap[w.heap.size]? = some (.cells c e):=S0 w _;simp only [World.shape?,this]
  simp only [markStringish,shape,Pf,Sem.run,Y,O_,Go.freeze,Cg]
 simp only [Conv.stringToBytes,Pf,I,O_,O];have:=J (si s (grownCap w s.size 0 e)) w.drew;simp only [si] at this ⊢;rw [show (w.drew.heap.size)=w.heap.size from rfl] at this ⊢;rw [this]
 rfl
theorem wA {t u e:TypeId}{y:Operand}{s:OX} (hg:gd ops L ⟨some d,.convert t u y,ty,pos,aft,g⟩=some true) (hN:Nat.blt d x.N=true)
  (ht:∀ w,(underlying t).run x.P w=.ok .string w) (hu:∀ w,(underlying u).run x.P w=.ok (.slice e) w) (he:∀ w,(underlying e).run x.P w=.ok (.int .u8) w)
  (hy:ev L y=some (.string s)) (hs:s.size<=maxLen)
  (k:∀ v H',H.le H'->aN H' v (jL s)->W x ops Q rest H' M ((d,v)::L)):
  W x ops Q (⟨some d,.convert t u y,ty,pos,aft,g⟩::rest) H M L:=by
 refine r7 rfl hg hN λa w hsl h=>?_;have Y:=Tv w s.size 0 e;have O:grownCap w s.size 0 e<=maxLen:=SU w s.size 0 e hs;have h':St x.B x.w0 H M w.drew:=h.drewN (w.drawn+1);generalize J:grownCap w s.size 0 e=cap at Y O;have ha:=(h'.alloc (.cells (si s cap) e ((si s cap).size,(si s cap).size+1))).freeze;refine ⟨.slice (some ⟨w.heap.size,0,none⟩) s.size cap,w.drew.alloc (.cells (si s cap) e ((si s cap).size,(si s cap).size+1)),?_,_,M,ha.2,k _ _ ha.1 (.inr ⟨w.heap.size,0,cap,_,e,_,?_,?_,O,Hp.wG _ _ _,?_,?_⟩)⟩
 ·have hr:=yD (P:=x.P) (w:=w) (e:=e) (s:=s)
  rw [J] at hr;simp only [execOp,hsl.ev hy,convert,Pf,ht,hu,he,O_,hr,Pp]
 ·rw [xH]
 ·rw [xH]; exact Y
 ·have e0:s.size=s.data.size:=rfl
  simp [aE.sz,si];omega
 ·intro j el I
  refine ⟨[.int .u8 el.n],rfl,λi c Z=>?_⟩;have hi:i=0:=by
   have:=(O3.1 Z).1;simp at this; omega
  subst hi;simp at Z; subst Z
  have hj:=(O3.1 I).1;simp [jL] at I hj;obtain ⟨b,hb,rfl⟩:=I;simp only [aE.sz,Po,Rs,Qt,si];rw [Array.getElem?_append_left (by simpa using hj),Array.getElem?_map,hb]
  rfl
theorem CH {P:Program}{w:World}{t e:TypeId}{o:Option Addr}{n c:Nat} (I:∀ w,(underlying t).run P w=.ok (.slice e) w):(Op.equal t (.slice o n c) (.slice none 0 0)).run P w=.ok o.isNone w:=by
 have key:∀ k,(Op.equalIn (k+1) t (.slice o n c) (.slice none 0 0)).run P w=.ok o.isNone w:=λk=>by
  unfold Op.equalIn;cases o <;> simp [I]
 exact key 9999
theorem qT {t e u:TypeId}{y z:Operand}{o:Option Addr}{n c:Nat} (J:gd ops L ⟨some d,.binOp .eql t y z u,ty,pos,aft,g⟩=some true) (hN:Nat.blt d x.N=true)
  (I:∀ w,(underlying t).run x.P w=.ok (.slice e) w) (O:ev L y=some (.slice o n c)) (Y:ev L z=some (.slice none 0 0))
  (k:W x ops Q rest H M ((d,.bool o.isNone)::L)):
  W x ops Q (⟨some d,.binOp .eql t y z u,ty,pos,aft,g⟩::rest) H M L:=
 eT rfl J hN (λa w hs _=>by
  simp only [execOp,hs.ev O,hs.ev Y,Pf,eqGuard,binOp,CH I,O_,Pp]
  rfl) k
end
section
variable {B:Nat}{w0 w:World}{H:Hp}{M:List bL}
theorem St.eA {α:Type}[aE α] {v:OY}{T:TypeId}{n:Nat}{xs:List OY}{ys:List α}
  (h:St B w0 H (.row v T (aE.sz α) n xs::M) w) (hx:Rw H v xs ys) (hs:Nat.blt 0 (aE.sz α)=true):
  ∃ H',H.le H'/\St B w0 H' M w/\aN H' v ys/\∀ M' w',St B w0 H' M' w'->St B w0 H (.row v T (aE.sz α) n xs::M') w':=by
 have hs':0<aE.sz α:=by simpa [P9] using hs
 have hok:=h.ok _ (O5 ..);have Z:=h.lo _ (O5 ..);obtain ⟨hl,hh⟩:=hok;have hn:n=ys.length:=by
  have:=hx.rd.len;rw [hl] at this;exact QD hs' this
 subst hn;rcases hh with ⟨rfl,h0⟩ | ⟨g,off,cap,O,rfl,hg,hnc,hcm,hcs,J⟩
 ·refine ⟨H,PX _,h.tail,.inl ⟨⟨_,rfl⟩,Py h0⟩,λM' w' h'=>?_⟩
  have hx0:xs=[]:=Py (by rw [hl,h0,Qu])
  rw [h0,hx0];exact h'.AN T _
 ·have h':St B w0 H (.obj g (.cells O T (0,0))::M) w:=by
   refine ⟨h.below,h.le,h.tK,?_,?_,h.nd⟩
   ·intro r I
    rcases PN.1 I with rfl | I
    ·exact hg
    ·exact h.tail.ok r I
   ·intro r I
    rcases PN.1 I with rfl | I
    ·exact Z
    ·exact h.tail.lo r I
  obtain ⟨Y,hst⟩:=h'.freeze;refine ⟨_,Y,hst,.inr ⟨g,off,cap,O,T,(0,0),rfl,hnc,hcm,Hp.wG _ _ _,hcs,?_⟩,λM' w' hb=>?_⟩
  ·intro k e he
   obtain ⟨c,h1,h2⟩:=(hx.rd.mono Y).get k e he;refine ⟨c,h1,λj d hd=>?_⟩;have:=h2 j d hd;rw [<- J,PR] at this
   split at this
   ·rw [PJ] at this; simpa [Rb] using this
   ·cases this
  ·have ht:=St.N3 (H:=H) hb (Z g (List.Mem.head _)).1 Y (Z g (List.Mem.head _)).2 (Hp.wG _ _ _)
   refine ⟨ht.below,ht.le,ht.tK,?_,?_,ht.nd⟩
   ·intro r I
    rcases PN.1 I with rfl | I
    ·exact ⟨hl,.inr ⟨g,off,cap,O,rfl,ht.ok _ (O5 ..),hnc,hcm,hcs,J⟩⟩
    ·exact ht.tail.ok r I
   ·intro r I
    rcases PN.1 I with rfl | I
    ·exact ht.lo (.obj g _) (O5 ..)
    ·exact ht.tail.lo r I
theorem cJ {P:Program}{f:FuncId}{args:Array OY}{O:Hp}{r:bL}{Z:List bL->OY->Prop}
  (I:∀ M' J,St B w0 O M' J->St B w0 H (r::M') J) (h:Calls P f args w (tG B w0 λH' M' v=>O=H'/\Z M' v)):
  Calls P f args w (tG B w0 λH' M' v=>H=H'/\∃ Y,r::Y=M'/\Z Y v):=
 h.mono λe J he=>by
  cases e with
  | returned v=>
   obtain ⟨H2,M',h1,h2,h3⟩:=he;subst h2;exact ⟨H,r::M',I M' J h1,rfl,M',rfl,h3⟩
  | panicked c=>exact he
  | outgrown=>exact he
end
section
variable {x:Cx}{ops:Array Oper}{Q:k_}{rest:List Oper}{H:Hp}{M M':List bL}{L L':Env}
variable {d:Nat}{ty:TypeId}{pos:String}{aft:Array Edge}{g:Option (Nat×Bool)}
theorem zY {J:Fn}{first I:List Operand}{vs cs:List OY} (Y:gd ops L ⟨some d,.makeFunc J first.toArray I.toArray,ty,pos,aft,g⟩=some true) (hN:Nat.blt d x.N=true)
  (Z:xL L first=some vs) (O:xL L I=some cs) (k:W x ops Q rest H M ((d,.func J vs.toArray cs.toArray)::L)):
  W x ops Q (⟨some d,.makeFunc J first.toArray I.toArray,ty,pos,aft,g⟩::rest) H M L:=
 eT rfl Y hN (λa w hs _=>by simp [execOp,Instr.makeFunc,hs.xL Z,hs.xL O]) k
theorem nj {d:Nat}{y:Operand}{f:FuncId}{args:List Operand}{O:Array TypeId}{vs fs cs:List OY}
  {Y:Hp->List bL->OY->Prop}
  (J:∀ as w,(callFunc f as).run x.P w=.ok (.enter f as) w)
  (hg:gd ops L ⟨some d,.call ⟨.value y,args.toArray,O⟩,ty,pos,aft,g⟩=some true) (hN:Nat.blt d x.N=true)
  (hy:ev L y=some (.func (.func f) fs.toArray cs.toArray)) (hv:xL L args=some vs)
  (hc:∀ w,St x.B x.w0 H M w->Calls x.P f (fs++vs++cs).toArray w (tG x.B x.w0 Y))
  (k:∀ v H' M',Y H' M' v->W x ops Q rest H' M' ((d,v)::L)):
  W x ops Q (⟨some d,.call ⟨.value y,args.toArray,O⟩,ty,pos,aft,g⟩::rest) H M L:=by
 intro a w hs ht;refine SI λK hK=>?_;rw [O8 (hs.gd hg)];have I:args.toArray.map a.eval=vs.toArray:=by simp [hs.xL hv]
 have hr:(execOp a.eval ⟨some d,.call ⟨.value y,args.toArray,O⟩,ty,pos,aft,g⟩).run x.P w=.ok (.enter f (fs++vs++cs).toArray) w:=by
  simp only [execOp,resolve,I,hs.ev hy,Deferred.ofValue,Pf,Pp,O_,invoke];simp [J]
 unfold Oper.wp;rw [hr];simp only [Oper.upon];refine (hc w ht).mono λe w' he=>?_;cases e with
 | returned v=>
  obtain ⟨H',M',Z,h2⟩:=he;exact hK _ _ (k v H' M' h2 _ _ (hs.put hN) Z)
 | panicked c=>exact he.elim
 | outgrown=>exact he.elim
def rB (k:IntKind) (a b:Int):Int:=k.wrap (a*2 ^ (min b.toNat k.bits))
def nr (k:IntKind) (a b:Int):Int:=a.fdiv (2 ^ (min b.toNat k.bits))
theorem Bo {t u:TypeId}{y z:Operand}{k Y:IntKind}{a b:Int} (I:gd ops L ⟨some d,.binOp .shl t y z u,ty,pos,aft,g⟩=some true) (hN:Nat.blt d x.N=true)
  (J:ev L y=some (.int k a)) (O:ev L z=some (.int Y b)) (hb:0<=b) (Z:W x ops Q rest H M ((d,.int k (rB k a b))::L)):
  W x ops Q (⟨some d,.binOp .shl t y z u,ty,pos,aft,g⟩::rest) H M L:=
 eT rfl I hN (λc w hs _=>by
  have:¬ b<0:=by omega
  simp [execOp,hs.ev J,hs.ev O,eqGuard,binOp,Op.shift,this,rB]) Z
theorem sQ {t u:TypeId}{y z:Operand}{k Y:IntKind}{a b:Int} (I:gd ops L ⟨some d,.binOp .shr t y z u,ty,pos,aft,g⟩=some true) (hN:Nat.blt d x.N=true)
  (J:ev L y=some (.int k a)) (O:ev L z=some (.int Y b)) (hb:0<=b) (Z:W x ops Q rest H M ((d,.int k (nr k a b))::L)):
  W x ops Q (⟨some d,.binOp .shr t y z u,ty,pos,aft,g⟩::rest) H M L:=
 eT rfl I hN (λc w hs _=>by
  have:¬ b<0:=by omega
  simp [execOp,hs.ev J,hs.ev O,eqGuard,binOp,Op.shift,this,nr]) Z
theorem rm {t u:TypeId}{y:Operand}{k I:IntKind}{n:Int} (J:gd ops L ⟨some d,.convert t u y,ty,pos,aft,g⟩=some true) (hN:Nat.blt d x.N=true)
  (ht:∀ w,(underlying t).run x.P w=.ok (.int I) w) (O:∀ w,(underlying u).run x.P w=.ok (.int k) w) (Y:ev L y=some (.int I n))
  (Z:W x ops Q rest H M ((d,.int k (k.wrap n))::L)):
  W x ops Q (⟨some d,.convert t u y,ty,pos,aft,g⟩::rest) H M L:=
 eT rfl J hN (λc w hs _=>by simp [execOp,hs.ev Y,convert,ht,O,Conv.intToInt]) Z
theorem zT {t u:TypeId}{y z:Operand}{a b:OX} (J:gd ops L ⟨some d,.binOp .add t y z u,ty,pos,aft,g⟩=some true) (hN:Nat.blt d x.N=true)
  (O:ev L y=some (.string a)) (Y:ev L z=some (.string b)) (I:a.size+b.size<=maxLen) (Z:W x ops Q rest H M ((d,.string (a++b))::L)):
  W x ops Q (⟨some d,.binOp .add t y z u,ty,pos,aft,g⟩::rest) H M L:=
 eT rfl J hN (λc w hs _=>by
  have:¬ (((a.size+b.size:Nat):Int) > i64.max):=by
   simp only [IntKind.max,IntKind.signed,IntKind.bits]; unfold maxLen at I; simp; omega
  simp only [execOp,hs.ev O,hs.ev Y,eqGuard,binOp,Op.stringOp,Pf];simp only [O7 this];simp) Z
theorem El {s:OX}{k:Nat}{c:U8} (h:(jL s)[k]? = some c):∃ b:UInt8,s[k]? = some b/\c=⟨b.toNat⟩:=by
 simp only [jL,Pw,Sr] at h;obtain ⟨b,J,rfl⟩:=h;refine ⟨b,?_,rfl⟩;obtain ⟨O,e⟩:=O3.1 J;have I:k<s.size:=by simpa using O
 rw [getElem?_pos s k I];rw [<- e]; rfl
theorem xF {t:TypeId}{y z:Operand}{s:OX}{kk:IntKind}{i:Int}{c:U8} (Y:gd ops L ⟨some d,.index t y z,ty,pos,aft,g⟩=some true) (hN:Nat.blt d x.N=true)
  (J:∀ w,(underlying t).run x.P w=.ok .string w) (Z:ev L y=some (.string s)) (hz:ev L z=some (.int kk i)) (I:0<=i) (he:(jL s)[i.toNat]? = some c)
  (k:W x ops Q rest H M ((d,.int .u8 c.n)::L)):
  W x ops Q (⟨some d,.index t y z,ty,pos,aft,g⟩::rest) H M L:=
 eT rfl Y hN (λa w hs _=>by
  obtain ⟨b,O,rfl⟩:=El he;simp [execOp,hs.ev Z,hs.ev hz,Instr.index,asIntOf,J,I,O]) k
theorem q6 {t:TypeId}{y:Operand}{lo hi:Option Operand}{s:OX}{l h:Nat} (hg:gd ops L ⟨some d,.slice t y lo hi none,ty,pos,aft,g⟩=some true) (hN:Nat.blt d x.N=true)
  (Y:∀ w,(underlying t).run x.P w=.ok .string w)
  (hy:ev L y=some (.string s)) (hh:Fg L hi s.size s.size h) (hl:Fg L lo 0 h l)
  (k:W x ops Q rest H M ((d,.string (s.extract l h))::L)):
  W x ops Q (⟨some d,.slice t y lo hi none,ty,pos,aft,g⟩::rest) H M L:=
 eT rfl hg hN (λa w hs _=>by
  have Z:(Instr.sliceBounds false s.size s.size (lo.map a.eval) (hi.map a.eval) none).run x.P w=.ok (l,h,s.size) w:=by
   rcases hh.bd hs with ⟨e1,rfl⟩ | ⟨kh,ih,e1,J,O,rfl⟩
   ·rcases hl.bd hs with ⟨e2,rfl⟩ | ⟨kl,il,e2,I,l1,rfl⟩
    ·simp only [e1,e2,Instr.sliceBounds,Pf,Pp,O_]
    ·simp only [e1,e2,Instr.sliceBounds,Pf,Pp,O_,run_sliceBound I l1]
   ·rcases hl.bd hs with ⟨e2,rfl⟩ | ⟨kl,il,e2,I,l1,rfl⟩
    ·simp only [e1,e2,Instr.sliceBounds,Pf,Pp,O_,run_sliceBound J O]
    ·simp only [e1,e2,Instr.sliceBounds,Pf,Pp,O_,run_sliceBound J O,run_sliceBound I l1]
  simp only [execOp,hs.ev hy,Instr.sliceAt,Pf,Y,O_,Instr.slice,Sj,Option.isSome_none,Qw,Q6,Z,Pp]) k
end
class MV (α:Type) where
 mv:α->OY
instance:MV Int:=⟨λn=>.int .i64 n⟩
instance:MV Bool:=⟨λb=>.bool b⟩
instance:MV OX:=⟨λs=>.string s⟩
class vY (α:Type) [DecidableEq α] extends MV α where
 kind:TypeDesc
 same:∀ a b:α,Instr.sameNow kind (mv a) (mv b)=some (decide (a=b))
 bits:∀ a:α,Instr.sameBits 10000 (mv a) (mv a)=true
 check:∀ (P:Program) (t:TypeId) (e:Bool) (a:α) (w:World),(∀ w,(underlying t).run P w=.ok kind w)->(Instr.checkKey e 10000 t (mv a)).run P w=.ok () w
theorem Fx (s t:OX):(s == t)=decide (s=t):=by
 have h:(s == t)=(s.data == t.data):=rfl;rw [h,Bool.eq_iff_iff];simp only [beq_iff_eq,PK];exact ⟨λe=>ByteArray.ext e,λe=>by rw [e]⟩
instance:vY Int where
 kind:=.int .i64
 same a b:=by simp [Instr.sameNow,FG,MV.mv]
 bits a:=by simp [Instr.sameBits,MV.mv]
 check P t e a w h:=by
  have key:∀ k,(Instr.checkKey e (k+1) t (.int .i64 a)).run P w=.ok () w:=λk=>by unfold Instr.checkKey; simp [h]
  exact key 9999
instance:vY OX where
 kind:=.string
 same a b:=by simp [Instr.sameNow,Fx,MV.mv]
 bits a:=by simp [Instr.sameBits,MV.mv,Fx]
 check P t e a w h:=by
  have key:∀ k,(Instr.checkKey e (k+1) t (.string a)).run P w=.ok () w:=λk=>by unfold Instr.checkKey; simp [h]
  exact key 9999
section
variable {κ ν:Type}[DecidableEq κ] [vY κ] [MV ν]
structure rF (es:Array MapEntry) (c:Nat) (l:List (κ×ν)):Prop where
 eq:es.toList.map (λe=>(e.key,e.val))=l.map λp=>(MV.mv p.1,MV.mv p.2)
 nd:(es.toList.map (·.born)).Nodup
 lt:∀ e ∈ es.toList,e.born<c
def vq:List (κ×ν)->κ->Nat->Option (Nat×ν)
 | [],_,_=>none
 | (a,v)::r,k,i=>if a=k then some (i,v) else vq r k (i+1)
def qK (l:List (κ×ν)) (k:κ):Option ν:=(vq l k 0).map (·.2)
def uv (l:List (κ×ν)) (k:κ) (v:ν):List (κ×ν):=match vq l k 0 with
 | some (i,_)=>l.set i (k,v)
 | none=>l++[(k,v)]
theorem rF.nil:rF #[] 0 ([]:List (κ×ν)):=⟨rfl,by simp,by simp⟩
theorem Aq (k:κ):∀ (es:List MapEntry) (l:List (κ×ν)) (i:Nat),es.map (λe=>(e.key,e.val))=l.map (λp=>(MV.mv p.1,MV.mv p.2)) ->
  Instr.findNow (vY.kind κ) (MV.mv k) es i=some ((vq l k i).map λp=>(p.1,MV.mv p.2))
 | [],[],i,_=>rfl
 | [],_::_,i,h=>by simp at h
 | _::_,[],i,h=>by simp at h
 | e::es,(a,v)::l,i,h=>by
  simp only [RH,List.cons.injEq,Rc] at h;obtain ⟨⟨J,O⟩,Y⟩:=h;unfold Instr.findNow;rw [J,vY.same]
  by_cases I:k=a
  ·subst I; simp [vq,O]
  ·simp only [I,Ti,vq,O7 (λe:a=k=>I e.symm)]
   exact Aq k es l (i+1) Y
theorem run_findKey {P:Program}{w:World}{t:TypeId}{k:κ}{es:Array MapEntry}{c:Nat}{l:List (κ×ν)} (h:rF es c l) (I:∀ w,(underlying t).run P w=.ok (vY.kind κ) w):
  (Instr.findKey t (MV.mv k) es.toList).run P w=.ok ((vq l k 0).map λp=>(p.1,MV.mv p.2)) w:=by
 simp only [Instr.findKey,Pf,I,O_,Aq k es.toList l 0 h.eq,Pp]
theorem EP:∀ {l:List (κ×ν)}{k:κ}{i j:Nat}{v:ν},vq l k i=some (j,v)->i<=j/\j<i+l.length/\l[j-i]? = some (k,v)
 | [],k,i,j,v,h=>by simp [vq] at h
 | (a,u)::l,k,i,j,v,h=>by
  unfold vq at h
  split at h
  ·rename_i e; subst e
   simp only [Pk,Rc] at h;obtain ⟨rfl,rfl⟩:=h;simp
  ·obtain ⟨J,O,I⟩:=EP h
   refine ⟨by omega,by simp; omega,?_⟩
   rw [show j-i=(j-(i+1))+1 by omega,List.getElem?_cons_succ]; exact I
end
section
variable {x:Cx}{ops:Array Oper}{Q:k_}{rest:List Oper}{H:Hp}{M M':List bL}{L L':Env}
variable {d:Nat}{ty:TypeId}{pos:String}{aft:Array Edge}{g:Option (Nat×Bool)}
variable {κ ν:Type}[DecidableEq κ] [vY κ] [MV ν]
theorem yK {t:TypeId} (I:gd ops L ⟨some d,.makeMap t none,ty,pos,aft,g⟩=some true) (hN:Nat.blt d x.N=true)
  (k:∀ b,W x ops Q rest H (.obj b (.map #[] 0)::M) ((d,.map (some b))::L)):
  W x ops Q (⟨some d,.makeMap t none,ty,pos,aft,g⟩::rest) H M L:=
 r7 rfl I hN (λc w hs ht=>⟨_,w.alloc (.map #[] 0),by
  simp only [execOp,Instr.makeMap,Sj,newObj,Pf,Pp,Sem.run,O_,World.alloc],_,_,ht.alloc _,k _⟩)
theorem vO {P:Program}{w:World}{b:Nat}{es:Array MapEntry}{c:Nat} (h:w.heap[b]? = some (.map es c)):(getObj b).run P w=.ok (.map es c) w:=by
 simp [getObj,Sem.run,h]
theorem E8 {P:Program}{w:World}{t key e:TypeId}{b c:Nat}{es:Array MapEntry}{l:List (κ×ν)}{k:κ}{z:ν}{ok:Bool} (O:w.heap[b]? = some (.map es c)) (h:rF es c l)
  (J:∀ w,(underlying t).run P w=.ok (.map key e) w) (I:∀ w,(underlying key).run P w=.ok (vY.kind κ) w) (Y:∀ w,(zeroValue e).run P w=.ok (MV.mv z) w):
  (Instr.lookup t (.map (some b)) (MV.mv k) ok).run P w=.ok (if ok then .tuple #[MV.mv ((qK l k).getD z),.bool (qK l k).isSome] else MV.mv ((qK l k).getD z)) w:=by
 simp only [Instr.lookup,Pf,J,O_,vO O,Pp,vY.check P key _ k w I,run_findKey h I];unfold qK;cases hm:vq l k 0 with
 | none=>simp only [Sj,Pf,Y,O_,Pp]; rfl
 | some p=>simp only [Qp,Pp,O_]; rfl
theorem zX {t key e:TypeId}{b c:Nat}{y u:Operand}{es:Array MapEntry}{l:List (κ×ν)}{k:κ}{z:ν}{J v:OY} (hm:bL.obj b (.map es c) ∈ M) (h:rF es c l)
  (Z:gd ops L ⟨some d,.lookup t y u false,ty,pos,aft,g⟩=some true) (hN:Nat.blt d x.N=true)
  (Y:∀ w,(underlying t).run x.P w=.ok (.map key e) w) (O:∀ w,(underlying key).run x.P w=.ok (vY.kind κ) w) (hz:∀ w,(zeroValue e).run x.P w=.ok (MV.mv z) w)
  (hy:ev L y=some (.map (some b))) (hu:ev L u=some J) (I:J=MV.mv k) (hv:MV.mv ((qK l k).getD z)=v)
  (kk:W x ops Q rest H M ((d,v)::L)):
  W x ops Q (⟨some d,.lookup t y u false,ty,pos,aft,g⟩::rest) H M L:=
 eT rfl Z hN (λa w hs ht=>by
  subst I; subst hv
  simp only [execOp,hs.ev hy,hs.ev hu,Pf,E8 (ok:=false) (ht.uS hm) h Y O hz,O_,Pp]; rfl) kk
theorem wK (w:World) (b:Nat) (o:Obj):w.grownBy { w with heap:=w.heap.setIfInBounds b o } (some b):=
 ⟨rfl,rfl,rfl,by simp,λk _ I=>by
  simp only [Sv];rw [O7 (λe=>I (by rw [e]))]⟩
theorem wC {t key e:TypeId}{b c:Nat}{y u q:Operand}{es:Array MapEntry}{l:List (κ×ν)}{k:κ}{v:ν}{vk vv:OY} (h:rF es c l)
  (hg:gd ops L ⟨none,.mapUpdate t y u q,ty,pos,aft,g⟩=some true)
  (hT:∀ w,(underlying t).run x.P w=.ok (.map key e) w) (hK:∀ w,(underlying key).run x.P w=.ok (vY.kind κ) w)
  (hy:ev L y=some (.map (some b))) (hu:ev L u=some vk) (hvk:vk=MV.mv k) (hq:ev L q=some vv) (hvv:vv=MV.mv v)
  (kk:∀ I J,rF I J (uv l k v)->W x ops Q rest H (.obj b (.map I J)::M) L):
  W x ops Q (⟨none,.mapUpdate t y u q,ty,pos,aft,g⟩::rest) H (.obj b (.map es c)::M) L:=
 BY rfl hg (λa w hs ht=>by
  subst hvk; subst hvv
  have Z:=ht.uS (O5 ..);have hlt:b<w.heap.size:=(Ql.1 Z).1;have Y:∀ o,(setObj b o).run x.P w=.ok () { w with heap:=w.heap.setIfInBounds b o }:=λo=>by simp [setObj,Sem.run,Z]
  have fin:∀ I J,rF I J (uv l k v)->∃ H' M',St x.B x.w0 H' M' { w with heap:=w.heap.setIfInBounds b (.map I J) }/\W x ops Q rest H' M' L:=λI J hr=>
   ⟨H,_,ht.CT (r':=.obj b (.map I J)) (wK w b _) (by simp [bL.ok,hlt]) (λ_ hc=>.inl hc),kk I J hr⟩
  have hlen:es.size=l.length:=by have:=P4 List.length h.eq; simpa using this
  cases hm:vq l k 0 with
  | none=>
   refine ⟨_,?_,fin (es.push { key:=MV.mv k,val:=MV.mv v,born:=c }) (c+1) ?_⟩
   ·simp only [execOp,hs.ev hy,hs.ev hu,hs.ev hq,Instr.mapUpdate,Pf,hT,O_,vO Z,vY.check x.P key _ k w hK,run_findKey h hK,hm,Sj,Y,Pp]
   ·refine ⟨?_,?_,λe he=>?_⟩
    ·unfold uv
     rw [hm];simp only [Array.toList_push,Qk,RH,Tf];rw [show es.toList.map _=_ from h.eq]
    ·simp only [Array.toList_push,Qk,RH,Tf]
     rw [PW];refine ⟨h.nd,by simp,λa ha b Z e=>?_⟩
     simp at Z; subst Z; subst e
     obtain ⟨y,hy,rfl⟩:=PO.1 ha;exact Nat.lt_irrefl _ (h.lt y hy)
    ·simp only [Array.toList_push,Pe,PE] at he
     rcases he with he | rfl
     ·exact Nat.lt_succ_of_lt (h.lt e he)
     ·exact QK _
  | some p=>
   obtain ⟨i,u0⟩:=p;obtain ⟨_,hi,O⟩:=EP hm;simp only [Po,RT] at hi O;have hi':i<es.size:=by omega
   have hkey:es[i].key=MV.mv k:=by
    have h1:(es.toList.map λe=>(e.key,e.val))[i]? = some (MV.mv k,MV.mv u0):=by rw [show es.toList.map _=_ from h.eq,Pw,O]; rfl
    rw [Pw] at h1;simp [hi'] at h1;exact h1.1
   refine ⟨_,?_,fin (es.modify i λe=>{ e with key:=MV.mv k,val:=MV.mv v }) c ?_⟩
   ·have hg2:((es[i]?).map (·.key)).getD (MV.mv k)=MV.mv k:=by simp [hi',hkey]
    simp only [execOp,hs.ev hy,hs.ev hu,hs.ev hq,Instr.mapUpdate,Pf,hT,O_,vO Z,vY.check x.P key _ k w hK,run_findKey h hK,hm,Qp,hg2,Instr.keyThatStays,vY.bits,SH,Y,Pp]
   ·have hbn:(es.modify i λe=>{ e with key:=MV.mv k,val:=MV.mv v }).toList.map (·.born)=es.toList.map (·.born):=by
     simp only [Array.toList_modify];apply QE;intro j;rw [Pw,Pw,List.getElem?_modify]
     by_cases e:i=j
     ·subst e; cases es.toList[i]? <;> simp
     ·simp [O7 e]
    refine ⟨?_,by rw [hbn]; exact h.nd,λe he=>?_⟩
    rotate_left
    ·have h1:e.born ∈ es.toList.map (·.born):=by rw [<- hbn]; exact PO.2 ⟨e,he,rfl⟩
     obtain ⟨y,hy,hyb⟩:=PO.1 h1;rw [<- hyb]; exact h.lt y hy
    unfold uv;rw [hm];simp only [Array.toList_modify];apply QE;intro j;rw [Pw,Pw,List.getElem?_modify,Su];have hj:(es.toList.map λe=>(e.key,e.val))[j]? = (l.map λp=>(MV.mv p.1,MV.mv p.2))[j]? := by rw [show es.toList.map _=_ from h.eq]
    rw [Pw,Pw] at hj
    by_cases e:i=j
    ·subst e
     simp [hi',hi]
    ·simp only [O7 e]
     simpa using hj)
end
section
variable {x:Cx}{ops:Array Oper}{Q:k_}{rest:List Oper}{H:Hp}{M M':List bL}{L L':Env}
variable {d:Nat}{ty:TypeId}{pos:String}{aft:Array Edge}{g:Option (Nat×Bool)}
theorem wB {t:TypeId}{y:Operand}{f:Nat}{cs:List OY}{v:OY}{fs:Array Field}{I:Field} (Y:gd ops L ⟨some d,.field t y f,ty,pos,aft,g⟩=some true) (hN:Nat.blt d x.N=true)
  (J:∀ w,(underlying t).run x.P w=.ok (.struct fs) w) (O:fs[f]? = some I) (hA:∀ w,(isAgg I.type).run x.P w=.ok false w)
  (hy:ev L y=some (.agg cs.toArray)) (Z:cs[I.offset]? = some v) (k:W x ops Q rest H M ((d,v)::L)):
  W x ops Q (⟨some d,.field t y f,ty,pos,aft,g⟩::rest) H M L:=
 eT rfl Y hN (λa w hs ht=>by simp [execOp,hs.ev hy,Instr.field,J,O,asAgg,part,hA,Z]) k
theorem HD {t e:TypeId}{y z:Operand}{n sz:Nat}{cs:List OY}{v:OY}{kk:IntKind}{i:Int} (Y:gd ops L ⟨some d,.index t y z,ty,pos,aft,g⟩=some true) (hN:Nat.blt d x.N=true)
  (O:∀ w,(underlying t).run x.P w=.ok (.array n e) w) (hA:∀ w,(isAgg e).run x.P w=.ok false w) (hn:∀ w,(sizeOf e).run x.P w=.ok sz w)
  (hy:ev L y=some (.agg cs.toArray)) (hz:ev L z=some (.int kk i)) (J:0<=i) (h1:i.toNat<n) (Z:cs[i.toNat*sz]? = some v) (k:W x ops Q rest H M ((d,v)::L)):
  W x ops Q (⟨some d,.index t y z,ty,pos,aft,g⟩::rest) H M L:=
 eT rfl Y hN (λa w hs ht=>by
  have I:i<(n:Int):=by omega
  simp [execOp,hs.ev hy,hs.ev hz,Instr.index,asIntOf,O,J,I,hn,part,hA,Z]) k
theorem sP {t e u:TypeId}{y z:Operand}{a:Option Addr} (O:gd ops L ⟨some d,.binOp .eql t y z u,ty,pos,aft,g⟩=some true) (hN:Nat.blt d x.N=true)
  (J:∀ w,(underlying t).run x.P w=.ok (.pointer e) w) (Y:ev L y=some (.pointer a)) (Z:ev L z=some (.pointer none))
  (k:W x ops Q rest H M ((d,.bool a.isNone)::L)):W x ops Q (⟨some d,.binOp .eql t y z u,ty,pos,aft,g⟩::rest) H M L:=
 eT rfl O hN (λc w hs _=>by
  have key:∀ k,(Op.equalIn (k+1) t (.pointer a) (.pointer none)).run x.P w=.ok a.isNone w:=λk=>by
   unfold Op.equalIn;cases a <;> simp [J]
  have I:(Op.equal t (.pointer a) (.pointer none)).run x.P w=.ok a.isNone w:=key 9999;simp only [execOp,hs.ev Y,hs.ev Z,Pf,eqGuard,binOp];simp [I]) k
theorem zV {t u:TypeId}{y z:Operand}{a b:Bool} (O:gd ops L ⟨some d,.binOp .eql t y z u,ty,pos,aft,g⟩=some true) (hN:Nat.blt d x.N=true)
  (J:∀ w,(underlying t).run x.P w=.ok .bool w) (Y:ev L y=some (.bool a)) (Z:ev L z=some (.bool b))
  (k:W x ops Q rest H M ((d,.bool (decide (a=b)))::L)):W x ops Q (⟨some d,.binOp .eql t y z u,ty,pos,aft,g⟩::rest) H M L:=
 eT rfl O hN (λc w hs _=>by
  have e:(a == b)=decide (a=b):=by cases a <;> cases b <;> rfl
  have key:∀ k,(Op.equalIn (k+1) t (.bool a) (.bool b)).run x.P w=.ok (decide (a=b)) w:=λk=>by
   unfold Op.equalIn;simp [J,e]
  have I:(Op.equal t (.bool a) (.bool b)).run x.P w=.ok (decide (a=b)) w:=key 9999;simp only [execOp,hs.ev Y,hs.ev Z,Pf,eqGuard,binOp];simp [I]) k
theorem C6 {t u:TypeId}{y z:Operand}{a b:Bool} (O:gd ops L ⟨some d,.binOp .neq t y z u,ty,pos,aft,g⟩=some true) (hN:Nat.blt d x.N=true)
  (J:∀ w,(underlying t).run x.P w=.ok .bool w) (Y:ev L y=some (.bool a)) (Z:ev L z=some (.bool b))
  (k:W x ops Q rest H M ((d,.bool (!decide (a=b)))::L)):W x ops Q (⟨some d,.binOp .neq t y z u,ty,pos,aft,g⟩::rest) H M L:=
 eT rfl O hN (λc w hs _=>by
  have e:(a == b)=decide (a=b):=by cases a <;> cases b <;> rfl
  have key:∀ k,(Op.equalIn (k+1) t (.bool a) (.bool b)).run x.P w=.ok (decide (a=b)) w:=λk=>by
   unfold Op.equalIn;simp [J,e]
  have I:(Op.equal t (.bool a) (.bool b)).run x.P w=.ok (decide (a=b)) w:=key 9999;simp only [execOp,hs.ev Y,hs.ev Z,Pf,eqGuard,binOp];simp [I]) k
end
def EO (acc:List Nat) (o:Oper):Nat:=(g_ o).foldl (λm j=>m ||| ((1 <<< j) ||| acc.getD j 0)) 0
def AJ:List Nat->List Oper->List Nat
 | acc,[]=>acc
 | acc,o::r=>AJ (acc++[EO acc o]) r
theorem AI {acc:List Nat}{j:Nat}:∀ (ws:List Nat) (z:Nat),(ws.foldl (λm j=>m ||| ((1 <<< j) ||| acc.getD j 0)) z).testBit j=true ->
  z.testBit j=true\/∃ q ∈ ws,j=q\/(acc.getD q 0).testBit j=true
 | [],z,h=>.inl h
 | q::ws,z,h=>by
  rcases AI ws _ h with h | ⟨r,J,h⟩
  ·rw [Nat.testBit_or,Nat.testBit_or,Qy,Qy] at h
   rcases h with h | h | h
   ·exact .inl h
   ·refine .inr ⟨q,O5 ..,.inl ?_⟩
    rw [Nat.shiftLeft_eq,SG,Nat.testBit_two_pow] at h;simpa using (O6 h).symm
   ·exact .inr ⟨q,O5 ..,.inr h⟩
  ·exact .inr ⟨r,O9 _ J,h⟩
theorem wV {l:List Oper}{listed:Nat->Prop} (dc:∀ i o,l[i]? = some o->listed i->∀ j ∈ g_ o,listed j):
  ∀ (r:List Oper) (acc:List Nat),(∀ i o,r[i]? = some o->l[acc.length+i]? = some o) ->
   (∀ i,i<acc.length->∀ o,l[i]? = some o->(∀ q ∈ g_ o,listed q)->∀ j,(acc.getD i 0).testBit j=true->listed j) ->
   ∀ i,i<acc.length+r.length->∀ o,l[i]? = some o->(∀ q ∈ g_ o,listed q)->∀ j,((AJ acc r).getD i 0).testBit j=true->listed j
 | [],acc,_,h,i,hi,o,ho,hw,j,hj=>h i (by simpa using hi) o ho hw j hj
 | p::r,acc,hr,h,i,hi,o,ho,hw,j,hj=>by
  refine wV dc r (acc++[EO acc p]) (λk q hk=>?_) ?_ i (by simp at hi ⊢; omega) o ho hw j hj
  ·have:=hr (k+1) q (by simpa using hk)
   rw [Pj,P2]
   rwa [show acc.length+1+k=acc.length+(k+1) by omega]
  ·intro k hk q hq Y b Z
   by_cases hkl:k<acc.length
   ·refine h k hkl q hq Y b ?_
    rw [PA,Qb hkl] at Z;rw [PA]; exact Z
   ·have hke:k=acc.length:=by simp at hk; omega
    subst hke;have hp:p=q:=by
     have:=hr 0 p rfl;rw [Qt,hq] at this;exact (O4 this).symm
    subst hp;rw [PA,PB (Pn _),Qg] at Z;simp only [List.getElem?_cons_zero,QV] at Z;unfold EO at Z;rcases AI _ _ Z with h0 | ⟨q,hqm,rfl | O⟩
    ·simp at h0
    ·exact Y b hqm
    ·by_cases hql:q<acc.length
     ·have hlq:=Y q hqm
      cases J:l[q]? with
      | none=>
       have:acc.length<l.length:=(O3.1 hq).1;have:=List.getElem?_eq_none_iff.1 J;omega
      | some oq=>exact h q hql oq J (dc q oq J hlq) b O
     ·rw [PA,P1 (by omega)] at O
      simp at O
def uk (l:List Oper) (m:Nat):Bool:=
 l.zipIdx.all (λp=>(g_ p.1).all λj=>Nat.blt j p.2) &&
 l.zipIdx.all λp=>Nat.blt p.2 m || (List.range p.2).all λj=>((AJ [] l).getD p.2 0).testBit j
theorem qA {l:List Oper}{m:Nat} (J:uk l m=true) {i:Nat}{o:Oper} (O:l[i]? = some o):∀ j ∈ g_ o,j<i:=by
 unfold uk at J;rw [QC,Qa] at J;have:=J.1 (o,i) (by rw [List.mem_zipIdx_iff_getElem?]; simpa using O)
 simpa only [Qa,P9] using this
theorem AT {l:List Oper}{m:Nat} (O:uk l m=true) {listed:Nat->Prop} (dc:∀ i o,l[i]? = some o->listed i->∀ j ∈ g_ o,listed j)
  {i:Nat}{o:Oper} (Z:l[i]? = some o) (hm:m<=i) (hw:∀ q ∈ g_ o,listed q):∀ j,j<i->listed j:=by
 unfold uk at O;rw [QC,Qa,Qa] at O;have J:=O.2 (o,i) (by rw [List.mem_zipIdx_iff_getElem?]; simpa using Z)
 simp only [Qy,P9,Qa,PV] at J;have hi:i<l.length:=(O3.1 Z).1;intro j hj;rcases J with J | J
 ·omega
 ·exact wV dc l [] (λk q Y=>by simpa using Y) (λk Y=>by simp at Y) i (by simpa using hi) o Z hw j (J j hj)
def sY:List Nat->(Nat->List bL)->List bL->List bL
 | [],_,M=>M
 | c::cs,R,M=>R c++sY cs R M
theorem yF (cs:List Nat) (R:Nat->List bL) (M:List bL):sY cs R M=cs.flatMap R++M:=by
 induction cs with
 | nil=>rfl
 | cons c cs ih=>rw [sY,ih,Qf,Pv]
def A5 (R:Nat->List bL) (i:Nat) (rs:List bL):Nat->List bL:=λk=>bif Nat.beq k i then rs else R k
theorem yZ (R:Nat->List bL) (i:Nat) (rs:List bL):A5 R i rs i=rs:=by simp [A5]
theorem zH (R:Nat->List bL) (i k:Nat) (rs:List bL) (h:k≠i):A5 R i rs k=R k:=by
 unfold A5;cases J:Nat.beq k i with
 | false=>rfl
 | true=>exact absurd (Q8 J) h
abbrev LC:=Nat->Hp->List bL->OY->Prop
def Ku:Option Nat->OY->Env->Env
 | some t,v,L=>(t,v)::L
 | none,_,L=>L
def FN (l:List Oper) (j:Nat):Option Nat:=match l[j]? with
 | none=>none
 | some o=>match o.dst with
  | some _=>none
  | none=>match o.op with
   | .store _ (.tmp s) _=>bif (g_ o).any (λw=>match (l[w]?).bind (·.dst) with
    | some u=>Nat.beq u s
    | none=>false) then some s else none
   | _=>none
theorem L5 {l:List Oper}{j s:Nat} (h:FN l j=some s):∃ o,l[j]? = some o/\o.dst=none/\∃ w ∈ g_ o,(l[w]?).bind (·.dst)=some s:=by
 unfold FN at h
 split at h
 ·cases h
 ·rename_i o ho
  split at h
  ·cases h
  ·rename_i hd
   split at h
   ·rename_i T s' z hop
    cases J:(g_ o).any (λw=>match (l[w]?).bind (·.dst) with
     | some u=>Nat.beq u s'
     | none=>false) with
    | false=>rw [J] at h; cases h
    | true=>
     rw [J] at h;cases h;rw [List.any_eq_true] at J;obtain ⟨w,O,J⟩:=J;refine ⟨o,ho,hd,w,O,?_⟩
     split at J
     ·rename_i u hu
      rw [hu,Q8 J]
     ·cases J
   ·cases h
def vw (l:List Oper) (Φ:LC) (H:Hp):List Nat->Env->(Nat->List bL)->(Env->(Nat->List bL)->Prop)->Prop
 | [],L,R,k=>k L R
 | j::J,L,R,k=>match (l[j]?).bind (·.dst) with
  | some t=>∀ v rs,Φ j H rs v->vw l Φ H J ((t,v)::L) (A5 R j rs) k
  | none=>match FN l j with
   | none=>∀ rs,Φ j H rs undef->vw l Φ H J L (A5 R j rs) k
   | some s=>∀ v rs,(∀ u,lk L s=some u->v=u)->Φ j H rs v->vw l Φ H J L (A5 R j rs) k
def NW (L:Env) (v:OY):Option Nat->Option Nat->Prop
 | some _,_=>True
 | none,none=>v=undef
 | none,some s=>lk L s=some v
def BP (x:Cx) (H:Hp) (M:List bL) (L:Env) (t J:Option Nat) (O:Hp->List bL->OY->Prop):k_:=λe a w=>
 e=.normal/\∃ v H' rs,Sl x.N (Ku t v L) a/\NW L v t J/\H.le H'/\St x.B x.w0 H' (rs++M) w/\O H' rs v
theorem eX {x:Cx}{H H':Hp}{M:List bL}{L:Env}{t:Nat}{Y:Option Nat}{v:OY}{O:Hp->List bL->OY->Prop} (rs:List bL) (J:H.le H') (h:O H' rs v):E x .normal (BP x H M L (some t) Y O) H' (rs++M) ((t,v)::L):=
 λ_ _ hs ht=>⟨rfl,v,H',rs,hs,O0,J,ht,h⟩
theorem Bn {x:Cx}{H H':Hp}{M:List bL}{L:Env}{O:Hp->List bL->OY->Prop} (rs:List bL) (J:H.le H') (h:O H' rs undef):E x .normal (BP x H M L none none O) H' (rs++M) L:=
 λ_ _ hs ht=>⟨rfl,undef,H',rs,hs,rfl,J,ht,h⟩
theorem mM {x:Cx}{H H':Hp}{M:List bL}{L:Env}{s:Nat}{v:OY}{O:Hp->List bL->OY->Prop} (hl:lk L s=some v) (rs:List bL) (J:H.le H') (h:O H' rs v):E x .normal (BP x H M L none (some s) O) H' (rs++M) L:=
 λ_ _ hs ht=>⟨rfl,v,H',rs,hs,hl,J,ht,h⟩
def CS (m:Nat) (I:List (List bL)):Nat->List bL:=λk=>if k<m then [] else I.getD (k-m) []
def wy (x:Cx) (l:List Oper) (Φ:LC) (C U:List (List Nat)) (Es:List Env) (J:Nat->List bL) (H:Hp) (M:List bL) (L:Env):Nat->List Oper->Prop
 | _,[]=>True
 | i,o::r=>(∀ H',H.le H'->∀ X Rest,(∀ s ∈ M,s ∈ Rest)->vw l Φ H' (g_ o) (Es.getD i []++(L++X)) J (λL' R=>(∀ s ∈ sY (U.getD i []) R [],s ∈ Rest)->(∃ O,(sY (U.getD i []) R O).Perm Rest)->W x l.toArray (BP x H' Rest L' o.dst (FN l i) (Φ i)) [o] H' (sY (C.getD i []) R Rest) L')) /\
   wy x l Φ C U Es J H M L (i+1) r
theorem wy.at {x:Cx}{l:List Oper}{Φ:LC}{C U:List (List Nat)}{Es:List Env}{J:Nat->List bL}{H:Hp}{M:List bL}{L:Env}:∀ {r:List Oper}{i:Nat},wy x l Φ C U Es J H M L i r->∀ j o,r[j]? = some o ->
  ∀ H',H.le H'->∀ X Rest,(∀ s ∈ M,s ∈ Rest)->vw l Φ H' (g_ o) (Es.getD (i+j) []++(L++X)) J (λL' R=>(∀ s ∈ sY (U.getD (i+j) []) R [],s ∈ Rest)->(∃ O,(sY (U.getD (i+j) []) R O).Perm Rest)->W x l.toArray (BP x H' Rest L' o.dst (FN l (i+j)) (Φ (i+j))) [o] H' (sY (C.getD (i+j) []) R Rest) L')
 | [],_,_,j,o,h=>by simp at h
 | p::r,i,hh,0,o,h=>by simp at h; subst h; exact hh.1
 | p::r,i,hh,j+1,o,h=>by
  have:=wy.at hh.2 j o (by simpa using h)
  rwa [show i+1+j=i+(j+1) from by omega] at this
def sH (a:Act) (v:OY):Option Nat->Option Nat->Prop
 | some t,_=>a.tmps[t]? = some v
 | none,none=>v=undef
 | none,some s=>a.tmps[s]? = some v
theorem vw.use {l:List Oper}{Φ:LC}{H:Hp}{a:Act}{N:Nat}{Rt:Nat->List bL}:∀ {js:List Nat}{L:Env}{R:Nat->List bL}{k:Env->(Nat->List bL)->Prop},vw l Φ H js L R k->Sl N L a ->
  (∀ j ∈ js,∃ v,sH a v ((l[j]?).bind (·.dst)) (FN l j)/\Φ j H (Rt j) v) ->
  ∃ Y R',k (Y++L) R'/\Sl N (Y++L) a/\(∀ t v,(t,v) ∈ Y->a.tmps[t]? = some v)/\(∀ q,q ∈ js->R' q=Rt q)/\∀ q,q ∉ js->R' q=R q
 | [],L,R,k,h,hs,_=>⟨[],R,h,hs,by simp,by simp,λq _=>rfl⟩
 | j::js,L,R,k,h,hs,hv=>by
  obtain ⟨v,O,h2⟩:=hv j (O5 ..);have J:∀ {R':Nat->List bL},(∀ q,q ∈ js->R' q=Rt q)->(∀ q,q ∉ js->R' q=A5 R j (Rt j) q)->(∀ q,q ∈ j::js->R' q=Rt q)/\∀ q,q ∉ j::js->R' q=R q:=by
   intro R' h6 Z;constructor
   ·intro q hq
    by_cases hqj:q ∈ js
    ·exact h6 q hqj
    ·rcases PN.1 hq with rfl | hq
     ·rw [Z _ hqj,yZ]
     ·exact absurd hq hqj
   ·intro q hq
    rw [Z q (λh=>hq (O9 _ h)),zH _ _ _ _ (λe=>hq (by rw [e]; exact O5 ..))]
  unfold vw at h;cases ht:(l[j]?).bind (·.dst) with
  | none=>
   rw [ht] at h O;cases hk:FN l j with
   | none=>
    rw [hk] at h O;simp only [sH] at O;subst O;obtain ⟨Y,R',h3,h4,h5,h6,Z⟩:=vw.use (h (Rt j) h2) hs (λi hi=>hv i (O9 _ hi));exact ⟨Y,R',h3,h4,h5,(J h6 Z).1,(J h6 Z).2⟩
   | some s=>
    rw [hk] at h O;simp only [sH] at O;obtain ⟨Y,R',h3,h4,h5,h6,Z⟩:=vw.use (h v (Rt j) (λu hu=>by have:=hs.get s u hu; rw [O] at this; exact O4 this) h2) hs (λi hi=>hv i (O9 _ hi))
    exact ⟨Y,R',h3,h4,h5,(J h6 Z).1,(J h6 Z).2⟩
  | some t=>
   rw [ht] at h O;simp only [sH] at O;obtain ⟨Y,R',h3,h4,h5,h6,Z⟩:=vw.use (h v (Rt j) h2) (hs.cons O) (λi hi=>hv i (O9 _ hi));refine ⟨Y++[(t,v)],R',by simpa using h3,by simpa using h4,?_,(J h6 Z).1,(J h6 Z).2⟩
   intro u w hm;rcases Pe.1 hm with hm | hm
   ·exact h5 u w hm
   ·simp at hm; obtain ⟨rfl,rfl⟩:=hm; exact O
def Cc (l:List Oper) (m:Nat) (Es:List Env):Bool:=
 (List.range m).all λi=>((Es.getD i []).map (·.1)).all λt=>(List.range m).all λw=>match (l[w]?).bind (·.dst) with
  | some u=>!Nat.beq u t || ((AJ [] l).getD w 0).testBit i
  | none=>true
def xJ (l:List Oper) (m:Nat) (L:Env):Bool:=
 (l.take m).all (λo=>match o.dst with
  | some t=>(lk L t).isNone
  | none=>true)
def xK (l:List Oper) (m:Nat):Bool:=decide (((l.take m).filterMap (·.dst)).Nodup)
def Fb (l:List Oper) (m K:Nat) (C U:List (List Nat)) (live:List Nat):Bool:=
 ((List.range m).all λi=>(U.getD i []).all λu=>(Nat.ble m u || match l[i]? with
  | some o=>(g_ o).contains u
  | none=>false) && Nat.blt u K && (List.range m).all λi'=>!(C.getD i' []).contains u || ((AJ [] l).getD i' 0).testBit i) &&
 Nat.beq C.length m && (List.range m).all (λi=>(C.getD i []).all λc=>Nat.ble m c || match l[i]? with
  | some o=>(g_ o).contains c
  | none=>false) &&
 (C.flatten++live).all (λc=>Nat.blt c K) && ((List.range K).all λk=>Nat.beq ((C.flatten++live).count k) 1) && (List.range m).all λi=>decide ((U.getD i []).Nodup)
section
variable {x:Cx}{l:List Oper}{m K:Nat}{Φ:LC}{C U:List (List Nat)}{live:List Nat}{I:List (List bL)}{Es:List Env}{H:Hp}{M:List bL}{L L0:Env}{Q:k_}
structure y8 (l:List Oper) (m K:Nat) (C U:List (List Nat)) (live:List Nat):Prop where
 len:C.length=m
 wait:∀ i o,i<m->l[i]? = some o->∀ c ∈ C.getD i [],m<=c\/c ∈ g_ o
 lt:∀ c ∈ C.flatten++live,c<K
 nd:(C.flatten++live).Nodup
 all:∀ k,k<K->k ∈ C.flatten++live
 M_:∀ i o,i<m->l[i]? = some o->∀ u ∈ U.getD i [],(m<=u\/u ∈ g_ o)/\u<K
 M9:∀ i,i<m->∀ u ∈ U.getD i [],∀ i',i'<m->u ∈ C.getD i' []->((AJ [] l).getD i' 0).testBit i=true
 N4:∀ i,i<m->(U.getD i []).Nodup
theorem KI (h:Fb l m K C U live=true):y8 l m K C U live:=by
 unfold Fb at h;simp only [QC] at h;obtain ⟨⟨⟨⟨⟨h0,h1⟩,h2⟩,h3⟩,h4⟩,J⟩:=h;rw [Qa] at h0 h2 h3 h4 J;have hU:∀ i,i<m->∀ u ∈ U.getD i [],((Nat.ble m u || match l[i]? with
  | some o=>(g_ o).contains u
  | none=>false)=true/\u<K)/\∀ i',i'<m->u ∈ C.getD i' []->((AJ [] l).getD i' 0).testBit i=true:=by
  intro i hi u Z;have:=h0 i (PV.2 hi);rw [Qa] at this;have:=this u Z;rw [QC,QC,Qa] at this;refine ⟨⟨this.1.1,by simpa [P9] using this.1.2⟩,λi' hi' O=>?_⟩
  have J:=this.2 i' (PV.2 hi');rw [Qy] at J;rcases J with J | J
  ·have h6:(C.getD i' []).contains u=true:=by rw [Sx]; exact O
   rw [h6] at J; cases J
  ·exact J
 have O:∀ k,k<K->(C.flatten++live).count k=1:=λk hk=>Q8 (h4 k (PV.2 hk));have Y:∀ c ∈ C.flatten++live,c<K:=λc O=>by simpa [P9] using h3 c O
 refine ⟨Q8 h1,?_,Y,?_,?_,?_,λi hi u Z=>(hU i hi u Z).2,λi hi=>O6 (J i (PV.2 hi))⟩
 ·intro i o hi ho c O
  have:=h2 i (PV.2 hi);rw [Qa] at this;have:=this c O;rw [ho] at this;simpa [Qy,Rx,Sx] using this
 ·rw [List.nodup_iff_count]
  intro a
  by_cases ha:a<K
  ·rw [O a ha]; exact Pn _
  ·rw [List.count_eq_zero.2 (λhm=>ha (Y a hm))]; omega
 ·intro k hk
  rw [<- List.count_pos_iff,O k hk]; omega
 ·intro i o hi ho u Z
  have:=(hU i hi u Z).1;rw [ho] at this;refine ⟨?_,this.2⟩;have J:=this.1;rw [Qy] at J;rcases J with J | J
  ·exact .inl (by simpa [Rx] using J)
  ·exact .inr (by simpa [Sx] using J)
theorem y8.uniq (h:y8 l m K C U live) {i i' k:Nat} (hi:k ∈ C.getD i []) (J:k ∈ C.getD i' []):i=i':=by
 have O:=(PW.1 h.nd).1;unfold List.Nodup at O;rw [List.pairwise_flatten] at O;have Y:=RZ.1 O.2;have Z:i<C.length:=by
  by_cases e:i<C.length
  ·exact e
  ·rw [PA,P1 (by omega)] at hi; simp at hi
 have g2:i'<C.length:=by
  by_cases e:i'<C.length
  ·exact e
  ·rw [PA,P1 (by omega)] at J; simp at J
 rw [PA,OZ Z] at hi;rw [PA,OZ g2] at J;simp only [QV] at hi J;rcases RX i i' with q | q | q
 ·exact absurd rfl (Y i i' Z g2 q _ hi _ J)
 ·exact q
 ·exact absurd rfl (Y i' i g2 Z q _ J _ hi)
theorem y8.mem (h:y8 l m K C U live) {i k:Nat} (hi:k ∈ C.getD i []):k ∈ C.flatten:=by
 have J:i<C.length:=by
  by_cases e:i<C.length
  ·exact e
  ·rw [PA,P1 (by omega)] at hi; simp at hi
 rw [PA,OZ J] at hi;exact List.mem_flatten.2 ⟨_,PC J,hi⟩
theorem y8.OC (h:y8 l m K C U live) (i:Nat):(C.getD i []).Nodup:=by
 have J:=(PW.1 h.nd).1;unfold List.Nodup at J;rw [List.pairwise_flatten] at J
 by_cases e:i<C.length
 ·rw [PA,OZ e]; exact J.1 _ (PC e)
 ·rw [PA,P1 (by omega)]; simp
def alive (m:Nat) (C:List (List Nat)) (listed:Array Bool) (k:Nat):Bool:=(Nat.ble m k || listed.getD k false) && !(List.range m).any λi=>listed.getD i false && (C.getD i []).contains k
theorem rr {listed:Array Bool}{k:Nat}:alive m C listed k=true↔(m<=k\/listed.getD k false=true)/\∀ i,i<m->listed.getD i false=true->k ∉ C.getD i []:=by
 unfold alive;simp only [QC,Qy,Rx,Bool.not_eq_true',List.any_eq_false,PV,Sx];constructor
 ·rintro ⟨J,O⟩; exact ⟨J,λi hi hl hm=>O i hi ⟨hl,hm⟩⟩
 ·rintro ⟨J,O⟩; exact ⟨J,λi hi ⟨hl,hm⟩=>O i hi hl hm⟩
theorem DW (hB:uk l m=true):∀ (f i:Nat) (listed:Array Bool) (a:Act) (w:World),m<=i->listed.size=l.length->i<=l.length->l.length<=i+f ->
  (∀ j,j<l.length->listed.getD j true=decide (j<i))->wpList x.P l.toArray Q (l.drop i) a w->wpAny x.P .any l.toArray Q f listed a w
 | 0,i,listed,a,w,hm,hsz,hf0,hf,hl,h=>by
  have hi:i=l.length:=by omega
  refine ⟨?_,by rw [hi,RN] at h; exact h⟩
  rw [List.eq_nil_iff_forall_not_mem];intro j J;obtain ⟨h1,h2,_⟩:=mem_ready.1 J;rw [hl j (by simpa using h1)] at h2
  simp at h1 h2; omega
 | f+1,i,listed,a,w,hm,hsz,hf0,hf,hl,h=>by
  by_cases e2:i=l.length
  ·have O:Region.ready .any l.toArray listed=[]:=by
    rw [List.eq_nil_iff_forall_not_mem];intro j J;obtain ⟨q1,q2,_⟩:=mem_ready.1 J;rw [hl j (by simpa using q1)] at q2
    simp at q1 q2; omega
   exact ⟨λ_=>by rw [e2,RN] at h; exact h,λj J=>by rw [O] at J; cases J⟩
  ·have hi:i<l.length:=by omega
   have ho:l[i]? = some l[i]:=OZ hi;have Y:∀ j,j<l.length->listed.getD j false=decide (j<i):=λj J=>by
    have:=hl j J;simp only [PM] at this ⊢;rw [RD (by omega)] at this ⊢
    simpa using this
   have Z:i ∈ Region.ready .any l.toArray listed:=by
    refine mem_ready.2 ⟨by simpa using hi,by rw [hl i hi]; simp,l[i],by simp,λj J=>?_⟩
    have hj':=qA hB ho j J;rw [Y j (by omega)]; simpa using hj'
   have huniq:∀ j ∈ Region.ready .any l.toArray listed,j=i:=by
    intro j J;obtain ⟨q1,q2,o,ho',hw⟩:=mem_ready.1 J;have q1':j<l.length:=by simpa using q1
    rw [hl j q1'] at q2;have hji:i<=j:=by simpa using q2
    by_cases e:j=i
    ·exact e
    ·exfalso
     have:=AT hB (listed:=λq=>q<i) (λk o hk hki q hq=>by have:=qA hB hk q hq; omega) (i:=j) (o:=o) (by simpa using ho') (by omega)
      (λq hq=>by
       have h1:=hw q hq;have h2:=qA hB (i:=j) (o:=o) (by simpa using ho') q hq
       rw [Y q (by omega)] at h1
       simpa using h1) i (by omega)
     omega
   refine ⟨λhe=>(by rw [he] at Z; cases Z),λj J=>?_⟩
   obtain rfl:=huniq j J;unfold wpOp;rw [show l.toArray[j]? = some l[j] from by simp]
   rw [Pz hi] at h;have step:∀ a w,wpList x.P l.toArray Q (l.drop (j+1)) a w->wpAny x.P .any l.toArray Q f (listed.setIfInBounds j true) a w:=λa w hh=>
    DW hB f (j+1) _ a w (by omega) (by simpa using hsz) (by omega) (by omega) (λk hk=>by
     rw [tT _ _ _ _ (by omega),hl k hk]
     by_cases e:k=j
     ·subst e; simp
     ·simp [e]; omega) hh
   unfold wpList at h
   dsimp only
   split
   ·rename_i hw; rw [O8 hw] at h; exact h.imp (Oper.wp_mono step) id
   ·rename_i hw; rw [O7 hw] at h; exact step _ _ h
theorem yy {A B:List Nat} (J:A.Nodup) (O:B.Nodup) (h:∀ a,a ∈ A↔a ∈ B) (R:Nat->List bL) (M:List bL):(A.flatMap R++M).Perm (B.flatMap R++M):=
 (((List.perm_ext_iff_of_nodup J O).2 h).flatMap_right R).append_right M
theorem tA {A:List Nat}{R R':Nat->List bL} (h:∀ a ∈ A,R a=R' a):A.flatMap R=A.flatMap R':=by
 induction A with
 | nil=>rfl
 | cons a A ih=>rw [Qf,Qf,h a (O5 ..),ih λb J=>h b (O9 _ J)]
theorem Kr (hB:uk l m=true) (hml:m<=l.length) (hD:xJ l m L0=true) (hX0:Cc l m Es=true) (hL0:∀ t v,lk L0 t=some v->lk L t=some v) (hE:∀ i t v,lk (Es.getD i []) t=some v->lk L t=some v) (hNd:xK l m=true) (hT:y8 l m K C U live) (hmK:m<=K)
  (hmono:∀ i H1 H2 rs v,H1.le H2->Φ i H1 rs v->Φ i H2 rs v)
  (hop:wy x l Φ C U Es (CS m I) H M L0 0 (l.take m))
  (k:∀ H',H.le H'->vw l Φ H' (List.range m) L0 (CS m I) (λL' R=>W x l.toArray Q (l.drop m) H' (sY live R M) L')):
  ∀ (J:Nat) (listed:Array Bool) (a:Act) (w:World) (H':Hp) (R:Nat->List bL),listed.size=l.length->left l listed<=J->(∀ j,m<=j->j<l.length->listed.getD j true=false) ->
   (∀ i o,l[i]? = some o->listed.getD i false=true->∀ j ∈ g_ o,listed.getD j false=true) ->
   H.le H'->St x.B x.w0 H' (((List.range K).filter (alive m C listed)).flatMap R++M) w->Sl x.N [] a->(∀ t v,lk L t=some v->(∀ w o,w<m->l[w]? = some o->o.dst=some t->listed.getD w false=false)->a.tmps[t]? = some v)->(∀ q,m<=q->R q=CS m I q) ->
   (∀ i o,i<m->l[i]? = some o->listed.getD i true=true->∃ v,sH a v o.dst (FN l i)/\Φ i H' (R i) v) ->
   wpAny x.P .any l.toArray Q J listed a w:=by
 have hdst:∀ i o t,i<m->l[i]? = some o->o.dst=some t->lk L0 t=none:=by
  intro i o t him ho hd;have htake:(l.take m)[i]? = some o:=by rw [PR,O8 him]; exact ho
  unfold xJ at hD;rw [Qa] at hD;have:=hD o (Pb htake);rw [hd] at this; simpa using this
 have fin:∀ (J:Nat) (listed:Array Bool) (a:Act) (w:World) (H':Hp) (R:Nat->List bL),listed.size=l.length->left l listed<=J->(∀ j,m<=j->j<l.length->listed.getD j true=false) ->
   H.le H'->St x.B x.w0 H' (((List.range K).filter (alive m C listed)).flatMap R++M) w->Sl x.N [] a->(∀ t v,lk L t=some v->(∀ w o,w<m->l[w]? = some o->o.dst=some t->listed.getD w false=false)->a.tmps[t]? = some v)->(∀ q,m<=q->R q=CS m I q) ->
   (∀ i o,i<m->l[i]? = some o->listed.getD i true=true->∃ v,sH a v o.dst (FN l i)/\Φ i H' (R i) v) ->
   (∀ j,j<m->listed.getD j true=true)->wpAny x.P .any l.toArray Q J listed a w:=by
  intro J listed a w H' R hsz hf htl hle ht hs0 hsl tK hv hall;have hs:Sl x.N L0 a:=⟨hs0.size,hs0.Di,λt v h=>hsl t v (hL0 t v h) (λw o hw ho hd=>by rw [hdst w o t hw ho hd] at h; cases h)⟩
  have hget:∀ j,j<l.length->listed.getD j false=listed.getD j true:=λj hj=>by
   simp only [PM];rw [RD (by omega)]; rfl
  obtain ⟨Y,R',h1,h2,_,h3,h4⟩:=vw.use (Rt:=R) (k H' hle) hs (λj hj=>by
   have hj':=PV.1 hj;have ho:l[j]? = some l[j]:=OZ (by omega)
   rw [ho];exact hv j _ hj' ho (hall j hj'))
  have hR:∀ q,R' q=R q:=λq=>by
   by_cases Z:q<m
   ·exact h3 q (PV.2 Z)
   ·rw [h4 q (λh=>Z (PV.1 h)),tK q (by omega)]
  have hwl:wpList x.P l.toArray Q (l.drop m) a w:=by
   refine h1 a w h2 (ht.perm ?_);rw [yF,tA (R:=R') (R':=R) (λq _=>hR q)];refine yy (List.nodup_range.filter _) (PW.1 hT.nd).2.1 ?_ R M;intro q;rw [PY,PV,rr];constructor
   ·rintro ⟨h5,h6,h7⟩
    rcases Pe.1 (hT.all q h5) with h8 | h8
    ·exfalso
     obtain ⟨c,hc,hqc⟩:=List.mem_flatten.1 h8;obtain ⟨i,hi,rfl⟩:=Qc.1 hc;have him:i<m:=by rw [<- hT.len]; exact hi
     refine h7 i him (by rw [hget i (by omega)]; exact hall i him) ?_
     rw [PA,OZ hi]; exact hqc
    ·exact h8
   ·intro Z
    refine ⟨hT.lt q (P5 _ Z),?_,?_⟩
    ·by_cases e:m<=q
     ·exact .inl e
     ·exact .inr (by rw [hget q (by omega)]; exact hall q (by omega))
    ·intro i him _ hc
     exact (PW.1 hT.nd).2.2 q (hT.mem hc) q Z rfl
  have hl:∀ j,j<l.length->listed.getD j true=decide (j<m):=by
   intro j hj
   by_cases e:j<m
   ·rw [hall j e]; simp [e]
   ·rw [htl j (by omega) hj]; simp [e]
  have hcount:l.length<=m+J:=by
   have:l.length-m<=left l listed:=by
    unfold left;have h1:(List.range l.length).countP (λi=>!listed.getD i true)=(List.range l.length).countP (λi=>decide (m<=i)):=by
     refine List.countP_congr λj hj=>?_;rw [hl j (PV.1 hj)];simp
    rw [h1];have h2:∀ n,(List.range n).countP (λi=>decide (m<=i))=n-m:=by
     intro n
     induction n with
     | zero=>simp
     | succ n ihn=>
      rw [Sh,List.countP_append,ihn];simp only [List.countP_cons,List.countP_nil]
      by_cases e:m<=n
      ·simp [e]; omega
      ·simp [e]; omega
    rw [h2]; exact Pn _
   omega
  exact DW hB J m listed a w (Pn _) hsz hml hcount hl hwl
 intro J
 induction J with
 | zero=>
  intro listed a w H' R hsz hf htl hdc hle ht hs0 hsl tK hv;refine fin 0 listed a w H' R hsz hf htl hle ht hs0 hsl tK hv (λj hj=>?_);have:left l listed=0:=by omega
  unfold left at this;rw [List.countP_eq_zero] at this;have:=this j (PV.2 (by omega))
  simpa using this
 | succ J ih=>
  intro listed a w H' R hsz hf htl hdc hle ht hs0 hsl tK hv
  by_cases hall:∀ j,j<m->listed.getD j true=true
  ·exact fin (J+1) listed a w H' R hsz hf htl hle ht hs0 hsl tK hv hall
  ·have hs:Sl x.N L0 a:=⟨hs0.size,hs0.Di,λt v h=>hsl t v (hL0 t v h) (λw o hw ho hd=>by rw [hdst w o t hw ho hd] at h; cases h)⟩
   have hget:∀ j,j<l.length->listed.getD j false=listed.getD j true:=λj hj=>by
    simp only [PM];rw [RD (by omega)]; rfl
   have hex:∃ j,j<m/\listed.getD j true=false:=by
    refine Classical.byContradiction λhno=>hall λj hj=>?_;cases hb:listed.getD j true with
    | true=>rfl
    | false=>exact absurd ⟨j,hj,hb⟩ hno
   obtain ⟨j0,⟨hj0,hf0⟩,hleast⟩:=least (p:=λj=>j<m/\listed.getD j true=false) hex.choose hex.choose_spec;have hne:Region.ready .any l.toArray listed≠[]:=by
    intro he;have hlt:j0<l.length:=by omega
    have ho:l[j0]? = some l[j0]:=OZ hlt;have:j0 ∈ Region.ready .any l.toArray listed:=by
     refine mem_ready.2 ⟨by simpa using hlt,hf0,l[j0],by simp,λj hj=>?_⟩
     have hj':=qA hB ho j hj;rw [hget j (by omega)]
     cases hb:listed.getD j true with
     | true=>rfl
     | false=>have:=hleast j ⟨by omega,hb⟩; omega
    rw [he] at this; cases this
   refine ⟨λhe=>absurd he hne,λi hi=>?_⟩;obtain ⟨h1,h2,o,ho',hw⟩:=mem_ready.1 hi;have h1':i<l.length:=by simpa using h1
   have ho:l[i]? = some o:=by simpa using ho'
   have him:i<m:=by
    by_cases e:i<m
    ·exact e
    ·exfalso
     have:=AT hB (listed:=λq=>listed.getD q false=true) (λk o hk hki q Z=>hdc k o hk hki q Z) ho (by omega) hw j0 (by omega)
     rw [hget j0 (by omega),hf0] at this; cases this
   have htake:(l.take m)[i]? = some o:=by rw [PR,O8 him]; exact ho
   have hnl:listed.getD i false=false:=by rw [hget i h1']; exact h2
   have hCal:∀ c ∈ C.getD i [],c ∈ (List.range K).filter (alive m C listed):=by
    intro c hc;rw [PY,PV,rr];refine ⟨hT.lt c (O1 _ (hT.mem hc)),?_,?_⟩
    ·rcases hT.wait i o him ho c hc with h | h
     ·exact .inl h
     ·exact .inr (hw c h)
    ·intro i' hi' hl' hc'
     have:=hT.uniq hc hc';subst this;rw [hnl] at hl'; cases hl'
   let A:=(List.range K).filter (alive m C listed)
   let Bs:=A.filter (λc=>!(C.getD i []).contains c)
   have hAnd:A.Nodup:=List.nodup_range.filter _;have hBnd:Bs.Nodup:=hAnd.filter _;have hperm:(A.flatMap R++M).Perm ((C.getD i []++Bs).flatMap R++M):=by
    refine yy hAnd ?_ ?_ R M
    ·refine PW.2 ⟨hT.OC i,hBnd,?_⟩
     rintro a ha b hb rfl;have:=(PY.1 hb).2;simp at this;exact this (by simpa [PA] using ha)
    ·intro q
     rw [Pe];constructor
     ·intro Z
      by_cases hqc:q ∈ C.getD i []
      ·exact .inl hqc
      ·exact .inr (PY.2 ⟨Z,by simpa using hqc⟩)
     ·rintro (Z | Z)
      ·exact hCal q Z
      ·exact (PY.1 Z).1
   have ht1:=ht.perm hperm;rw [Sa,Pv] at ht1
   let Rest:=Bs.flatMap R++M
   let X1:Env:=(List.range m).filterMap λj=>if listed.getD j true then (l[j]?).bind λo=>o.dst.map λu=>(u,a.tmps.getD u undef) else none
   let X2:Env:=(L.map (·.1)).filterMap λt=>if (List.range m).all (λw=>match (l[w]?).bind (·.dst) with
    | some u=>!Nat.beq u t || !listed.getD w false
    | none=>true) then (lk L t).map λv=>(t,v) else none
   let X:Env:=X1++X2
   have hX2:∀ u v,(u,v) ∈ X2->a.tmps[u]? = some v:=by
    intro u v hm;obtain ⟨t,ht',hh⟩:=SR.1 hm
    split at hh
    ·rename_i hall2
     rw [Sr] at hh;obtain ⟨v',hv',hh⟩:=hh;cases hh;refine hsl _ _ hv' (λw' o' hw' ho' hd'=>?_);rw [Qa] at hall2;have h9:=hall2 w' (PV.2 hw');rw [ho'] at h9;simp only [Ry,hd'] at h9;have h10:Nat.beq u u=true:=Nat.beq_refl u;rw [h10] at h9;simpa using h9
    ·cases hh
   have hX1:∀ u v,(u,v) ∈ X1->a.tmps[u]? = some v:=by
    intro u v hm;obtain ⟨j,hj,hh⟩:=SR.1 hm
    split at hh
    ·rename_i hlj
     rw [S2] at hh;obtain ⟨oj,O,hh⟩:=hh;rw [Sr] at hh;obtain ⟨u',hu',hh⟩:=hh;cases hh;obtain ⟨v',hv',_⟩:=hv j oj (PV.1 hj) O hlj;rw [hu'] at hv';simp only [sH] at hv';simp [PM,hv']
    ·cases hh
   have hX:∀ u v,(u,v) ∈ X->a.tmps[u]? = some v:=λu v hm=>(Pe.1 hm).elim (hX1 u v) (hX2 u v);have hdep:=(wy.at hop i o htake) H' hle X Rest (λs hs=>P5 _ hs);simp only [Po] at hdep;have hwl:∀ j ∈ g_ o,j<m/\listed.getD j true=true:=λj hj=>by
    have h3:=qA hB ho j hj;refine ⟨by omega,?_⟩
    rw [<- hget j (by omega)]; exact hw j hj
   have hEi:∀ t v,lk (Es.getD i []) t=some v->a.tmps[t]? = some v:=by
    intro t v h;refine hsl t v (hE i t v h) (λw' o' hw' ho' hd'=>?_);cases hlw:listed.getD w' false with
    | false=>rfl
    | true=>
     exfalso;unfold Cc at hX0;rw [Qa] at hX0;have h1:=hX0 i (PV.2 him);rw [Qa] at h1;have h2:=h1 t (PO.2 ⟨_,EN h,rfl⟩);rw [Qa] at h2;have h3:=h2 w' (PV.2 hw');rw [ho'] at h3;simp only [Ry,hd'] at h3;have h10:Nat.beq t t=true:=Nat.beq_refl t;rw [h10] at h3;simp only [Bool.not_true,Bool.false_or] at h3;have:=wV (listed:=λq=>listed.getD q false=true) (λk o hk hki q Z=>hdc k o hk hki q Z) l [] (λk q hk=>by simpa using hk) (λk hk=>by simp at hk) w' (by simp; omega) o' ho' (λq Z=>hdc w' o' ho' hlw q Z) i h3
     rw [hnl] at this; cases this
   have hsE:Sl x.N (Es.getD i []++(L0++X)) a:=by
    refine ⟨hs.size,hs.Di,λt v h=>?_⟩;rw [yO] at h;cases hl:lk (Es.getD i []) t with
    | some u=>rw [hl] at h; simp at h; subst h; exact hEi t _ hl
    | none=>rw [hl] at h; simp at h; exact (hs.more hX).get t v h
   obtain ⟨Y,R',hk,hsY,hY,hR1,hR2⟩:=vw.use (Rt:=R) hdep hsE (λj hj=>by
    have hj':=hwl j hj;have O:l[j]? = some l[j]:=OZ (by omega)
    rw [O];exact hv j _ hj'.1 O hj'.2)
   have hRC:∀ c ∈ C.getD i [],R' c=R c:=by
    intro c hc;rcases hT.wait i o him ho c hc with h | h
    ·rw [hR2 c (λhcm=>by have:=hwl c hcm; omega),tK c h]
    ·exact hR1 c h
   have hRU:∀ u ∈ U.getD i [],R' u=R u:=by
    intro u hu;have h5:=hT.M_ i o him ho u hu;rcases h5.1 with h | h
    ·rw [hR2 u (λhcm=>by have:=hwl u hcm; omega),tK u h]
    ·exact hR1 u h
   have hUB:∀ u ∈ U.getD i [],u ∈ Bs:=by
    intro u hu;have h5:=hT.M_ i o him ho u hu;refine PY.2 ⟨PY.2 ⟨PV.2 h5.2,rr.2 ⟨?_,?_⟩⟩,?_⟩
    ·rcases h5.1 with h | h
     ·exact .inl h
     ·exact .inr (hw u h)
    ·intro i' hi' hl' hc'
     have h6:=hT.M9 i him u hu i' hi' hc';have hoi:l[i']? = some l[i']:=OZ (by omega)
     have:=wV (listed:=λq=>listed.getD q false=true) (λk o hk hki q Z=>hdc k o hk hki q Z) l [] (λk q hk=>by simpa using hk) (λk hk=>by simp at hk) i' (by simp; omega) _ hoi (λq Z=>hdc i' _ hoi hl' q Z) i h6
     rw [hnl] at this; cases this
    ·have h7:u ∉ C.getD i []:=by
      intro hc;have h6:=hT.M9 i him u hu i him hc;have hoi:l[i]? = some o:=ho;have:=wV (listed:=λq=>q<i) (λk o hk hki q Z=>by have:=qA hB hk q Z; omega) l [] (λk q hk=>by simpa using hk) (λk hk=>by simp at hk) i (by simpa using h1') o hoi (λq Z=>qA hB ho q Z) i h6
      omega
     simpa using h7
   have hUR:∀ s ∈ sY (U.getD i []) R' [],s ∈ Rest:=by
    rw [yF,PH];intro s hs;obtain ⟨u,hu,hsu⟩:=QU.1 hs;rw [hRU u hu] at hsu;exact O1 _ (QU.2 ⟨u,hUB u hu,hsu⟩)
   have hUP:∃ Rr,(sY (U.getD i []) R' Rr).Perm Rest:=by
    refine ⟨(Bs.filter λc=>!(U.getD i []).contains c).flatMap R++M,?_⟩;rw [yF,tA (R:=R') (R':=R) hRU,<- Pv,<- Sa];refine yy ?_ hBnd ?_ R M
    ·refine PW.2 ⟨hT.N4 i him,hBnd.filter _,?_⟩
     rintro a ha b hb rfl;have:=(PY.1 hb).2;simp at this;exact this (by simpa [PA] using ha)
    ·intro q
     rw [Pe];constructor
     ·rintro (Z | Z)
      ·exact hUB q Z
      ·exact (PY.1 Z).1
     ·intro Z
      by_cases hqu:q ∈ U.getD i []
      ·exact .inl hqu
      ·exact .inr (PY.2 ⟨Z,by simpa using hqu⟩)
   have hone:=hk hUR hUP a w hsY (by
    rw [yF,tA (R:=R') (R':=R) hRC];exact ht1)
   have fin2:∀ a' w',BP x H' Rest (Y++(Es.getD i []++(L0++X))) o.dst (FN l i) (Φ i) .normal a' w'->wpAny x.P .any l.toArray Q J (listed.setIfInBounds i true) a' w':=by
    rintro a' w' ⟨_,v,H2,rs,hs2,hnv,hle2,ht2,hφ⟩;have hcv:sH a' v o.dst (FN l i):=by
     cases hd:o.dst with
     | none=>
      cases hk:FN l i with
      | none=>rw [hd,hk] at hnv; exact hnv
      | some s=>rw [hd,hk] at hnv; rw [hd] at hs2; exact hs2.get s v hnv
     | some t=>rw [hd] at hs2; exact hs2.get t v (by simp only [Ku]; rw [sI]; simp)
    have hput:∀ u,o.dst≠some u->lk (Ku o.dst v (Y++(Es.getD i []++(L0++X)))) u=lk (Y++(Es.getD i []++(L0++X))) u:=by
     intro u hne;cases hd:o.dst with
     | none=>rfl
     | some t=>
      simp only [Ku];rw [sI,O7 (λe=>hne (by rw [hd,e]))]
    have hYt:∀ u z,(u,z) ∈ Y++X->o.dst≠some u->a'.tmps[u]? = some z:=by
     intro u z hm hne;have hz:a.tmps[u]? = some z:=by
      rcases Pe.1 hm with hm | hm
      ·exact hY u z hm
      ·exact hX u z hm
     have hlk:∃ z',lk (Y++(Es.getD i []++(L0++X))) u=some z':=by
      have hsome:∀ {E:Env}{u:Nat}{z:OY},(u,z) ∈ E->∃ z',lk E u=some z':=by
       intro E u z
       induction E with
       | nil=>simp
       | cons p E ihE=>
        obtain ⟨q,r⟩:=p;intro hm;rw [sI]
        split
        ·exact ⟨_,rfl⟩
        ·rename_i hne
         rcases PN.1 hm with e | hm
         ·cases e; exact absurd rfl hne
         ·exact ihE hm
      rcases Pe.1 hm with hm | hm
      ·exact hsome (O1 _ hm)
      ·exact hsome (P5 _ (P5 _ (P5 _ hm)))
     obtain ⟨z',hz'⟩:=hlk;have e1:=hsY.get u z' hz';rw [hz] at e1;cases e1;exact hs2.get u z (by rw [hput u hne]; exact hz')
    have hset:∀ j,(listed.setIfInBounds i true).getD j false=if j=i then true else listed.getD j false:=λj=>tT _ _ _ _ (by omega)
    refine ih (listed.setIfInBounds i true) a' w' H2 (A5 R i rs) (by simpa using hsz) (by have:=II (l:=l) hsz h1' h2; omega) (λj hj hjl=>by rw [tT _ _ _ _ (by omega),O7 (by omega)]; exact htl j hj hjl) ?_ (SF hle hle2) ?_ ?_ ?_ ?_ ?_
    ·intro j oj O hlj q Z
     rw [hset] at hlj ⊢
     split at hlj
     ·rename_i e; subst e
      rw [ho] at O; cases O
      split
      ·rfl
      ·exact hw q Z
     ·split
      ·rfl
      ·exact hdc j oj O hlj q Z
    ·
     have hiB:i ∉ Bs:=by
      intro hmB;have:=(PY.1 hmB).1;rw [PY,rr] at this;rcases this.2.1 with h | h
      ·omega
      ·rw [hnl] at h; cases h
     have e1:rs++Rest=((i::Bs).flatMap (A5 R i rs))++M:=by
      rw [Qf,yZ,tA (A:=Bs) (R:=A5 R i rs) (R':=R) (λq Z=>zH _ _ _ _ (λe=>hiB (by rw [<- e]; exact Z))),Pv]
     rw [e1] at ht2;refine ht2.perm (yy (Sg.2 ⟨hiB,hBnd⟩) (List.nodup_range.filter _) ?_ _ M);intro q;rw [PN,PY,PY,PY,PV,rr,rr];constructor
     ·rintro (rfl | ⟨⟨hqK,hq1,hq2⟩,hq3⟩)
      ·refine ⟨by omega,.inr (by rw [hset,O8 rfl]),?_⟩
       intro i' hi' hl' hc';rw [hset] at hl'
       split at hl'
       ·rename_i e; subst e
        rcases hT.wait i' o hi' ho _ hc' with h | h
        ·omega
        ·have:=qA hB ho _ h; omega
       ·have hoi:l[i']? = some l[i']:=OZ (by omega)
        rcases hT.wait i' _ hi' hoi _ hc' with h | h
        ·omega
        ·have:=hdc i' _ hoi hl' _ h
         rw [hnl] at this; cases this
      ·refine ⟨hqK,?_,?_⟩
       ·rcases hq1 with h | h
        ·exact .inl h
        ·exact .inr (by rw [hset]; split <;> simp [h])
       ·intro i' hi' hl' hc'
        rw [hset] at hl'
        split at hl'
        ·rename_i e; subst e
         simp at hq3;exact hq3 (by simpa [PA] using hc')
        ·exact hq2 i' hi' hl' hc'
     ·rintro ⟨hqK,hq1,hq2⟩
      by_cases hqi:q=i
      ·exact .inl hqi
      ·refine .inr ⟨⟨hqK,?_,?_⟩,?_⟩
       ·rcases hq1 with h | h
        ·exact .inl h
        ·rw [hset,O7 hqi] at h; exact .inr h
       ·intro i' hi' hl' hc'
        exact hq2 i' hi' (by rw [hset]; split <;> simp [hl']) hc'
       ·have:=hq2 i him (by rw [hset,O8 rfl])
        simpa using this
    ·exact ⟨hs2.size,hs2.Di,λu z hu=>by simp [lk] at hu⟩
    ·intro u z hu hun
     have hne:o.dst≠some u:=λe=>by
      have:=hun i o him ho e;rw [hset,O8 rfl] at this; cases this
     refine hYt u z (P5 _ (P5 _ (SR.2 ⟨u,PO.2 ⟨_,EN hu,rfl⟩,?_⟩))) hne;rw [O8,hu]
     ·rfl
     ·rw [Qa]
      intro w' hw';have hw'':=PV.1 hw';have hoi:l[w']? = some l[w']:=OZ (by omega)
      rw [hoi];simp only [Ry];cases hd':l[w'].dst with
      | none=>rfl
      | some q=>
       by_cases e:q=u
       ·subst e
        have h9:=hun w' _ hw'' hoi hd';rw [hset] at h9
        split at h9
        ·cases h9
        ·simp [h9]
       ·have:Nat.beq q u=false:=by
         cases hb:Nat.beq q u with
         | false=>rfl
         | true=>exact absurd (Q8 hb) e
        simp [this]
    ·intro q Z
     rw [zH _ _ _ _ (by omega)]; exact tK q Z
    ·intro j oj hjm O hlj
     rw [tT _ _ _ _ (by omega)] at hlj
     by_cases e:j=i
     ·subst e
      rw [ho] at O; cases O
      rw [yZ];exact ⟨v,hcv,hφ⟩
     ·rw [O7 e] at hlj
      rw [zH _ _ _ _ e];obtain ⟨z,hz,hφj⟩:=hv j oj hjm O hlj;refine ⟨z,?_,hmono _ _ _ _ _ hle2 hφj⟩;have hNd2:∀ (j:Nat) (oj:Oper) (u:Nat),j<m->l[j]? = some oj->j≠i->oj.dst=some u->o.dst≠some u:=by
       intro j oj u hjm O e hdj e2;unfold xK at hNd;have hnd:=O6 hNd;have hnd2:(l.take m).Pairwise (λo1 o2=>∀ u,o1.dst=some u->∀ u',o2.dst=some u'->u≠u'):=by
        unfold List.Nodup at hnd;rw [List.pairwise_filterMap] at hnd;exact hnd.imp λh u hu u' hu'=>h u hu u' hu'
       have htj:(l.take m)[j]? = some oj:=by rw [PR,O8 hjm]; exact O
       obtain ⟨hi',p1⟩:=O3.1 htake;obtain ⟨hj',p2⟩:=O3.1 htj;have hpw:=RZ.1 hnd2;rcases Nat.lt_or_gt_of_ne e with q | q
       ·exact hpw j i hj' hi' q u (by rw [p2]; exact hdj) u (by rw [p1]; exact e2) rfl
       ·exact hpw i j hi' hj' q u (by rw [p1]; exact e2) u (by rw [p2]; exact hdj) rfl
      have hkeep:∀ (j:Nat) (oj:Oper) (u:Nat),j<m->l[j]? = some oj->listed.getD j true=true->j≠i->oj.dst=some u->a.tmps[u]? = some z->a'.tmps[u]? = some z:=by
       intro j oj u hjm O hlj e hdj hz;refine hYt u z (P5 _ (O1 _ (SR.2 ⟨j,PV.2 hjm,?_⟩))) (hNd2 j oj u hjm O e hdj);simp [hlj,O,hdj,PM,hz]
      cases hdj:oj.dst with
      | none=>
       rw [hdj] at hz;cases hk:FN l j with
       | none=>rw [hk] at hz; exact hz
       | some s=>
        rw [hk] at hz;simp only [sH] at hz ⊢;obtain ⟨o2,ho2,_,w2,hw2,hd2⟩:=L5 hk;rw [O] at ho2; cases ho2
        have hlt2:=qA hB O w2 hw2;have hl2:=hdc j oj O (by rw [hget j (by omega)]; exact hlj) w2 hw2
        have hne2:w2≠i:=by rintro rfl; rw [hnl] at hl2; cases hl2
        rw [S2] at hd2;obtain ⟨ow,how,hdw⟩:=hd2;exact hkeep w2 ow s (by omega) how (by rw [<- hget w2 (by omega)]; exact hl2) hne2 hdw hz
      | some u=>
       rw [hdj] at hz;simp only [sH] at hz ⊢;exact hkeep j oj u hjm O hlj e hdj hz
   unfold wpOp;rw [show l.toArray[i]? = some o from by simpa using ho]
   unfold wpList at hone
   dsimp only
   by_cases hwn:Region.wanted o (yielded l.toArray a.tmps)=true
   ·rw [O8 hwn] at hone ⊢
    left
    rcases hone with h | ⟨_,a1,w1,h,_⟩
    ·unfold Oper.wp at h ⊢
     generalize (execOp a.eval o).run x.P w=r at h;have fin':∀ a' w',wpList x.P l.toArray (BP x H' Rest (Y++(Es.getD i []++(L0++X))) o.dst (FN l i) (Φ i)) [] a' w'->wpAny x.P .any l.toArray Q J (listed.setIfInBounds i true) a' w':=λa' w' h=>fin2 a' w' h;cases r with
     | ok n w2=>
      cases n <;> simp only [Oper.upon] at h ⊢ <;> first
       | exact fin' _ _ h
       | exact Calls.mono h (λe w3 he=>match e,he with
         | .returned v,he=>fin' _ _ he
         | .panicked c,he=>absurd he.1 (by simp)
         | .outgrown,he=>absurd he.choose_spec.choose_spec.1 (by simp))
       | exact Rows.mono h (λv w3 he=>fin' _ _ he)
     | halt y w2=>
      cases y <;> simp only [Oper.upon] at h ⊢
      exact absurd h.1 (by simp)
    ·cases h
   ·rw [O7 hwn] at hone ⊢
    exact fin2 _ _ hone
def CX (L:Env):List Env->Prop
 | []=>True
 | E::r=>Kept L E/\CX L r
theorem CX.get {L:Env}:∀ {Es:List Env},CX L Es->∀ i t v,lk (Es.getD i []) t=some v->lk L t=some v
 | [],_,i,t,v,h=>by simp [lk] at h
 | E::r,hk,0,t,v,h=>hk.1.lk t v (by simpa using h)
 | E::r,hk,i+1,t,v,h=>CX.get hk.2 i t v (by simpa using h)
theorem xY {id:Nat} (m:Nat) (Φ:LC) (C U:List (List Nat)) (I:List (List bL)) (live:List Nat) (L0:Env) (Es:List Env) (hmix:x.P.follows .mixedOrders=true) (hB:uk l m=true) (hml:Nat.ble m l.length=true) (hD:xJ l m L0=true) (hX:Cc l m Es=true) (hL0:∀ t v,lk L0 t=some v->lk L t=some v) (hE:CX L Es) (hNd:xK l m=true)
  (hT:Fb l m (m+I.length) C U live=true)
  (Z:∀ i H1 H2 rs v,H1.le H2->Φ i H1 rs v->Φ i H2 rs v)
  (hop:wy x l Φ C U Es (CS m I) H M L0 0 (l.take m))
  (k:∀ H',H.le H'->vw l Φ H' (List.range m) L0 (CS m I) (λL' R=>W x l.toArray Q (l.drop m) H' (sY live R M) L')):Go.Sim.C x (.region id l.toArray true) Q H (I.flatten++M) L:=by
 intro a w hs ht;refine wp_region_any hmix ?_;have hml':m<=l.length:=by simpa [Rx] using hml
 have O:∀ j,(Array.replicate l.toArray.size false).getD j true=if j<l.length then false else true:=by
  intro j;simp only [PM,Array.getElem?_replicate,RG]
  split <;> simp
 have J:∀ j,(Array.replicate l.toArray.size false).getD j false=false:=by
  intro j;simp only [PM,Array.getElem?_replicate,RG]
  split <;> simp
 have Y:((List.range (m+I.length)).filter (alive m C (Array.replicate l.toArray.size false))).flatMap (CS m I)=I.flatten:=by
  rw [List.range_add,RA];have e1:(List.range m).filter (alive m C (Array.replicate l.toArray.size false))=[]:=by
   rw [List.filter_eq_nil_iff];intro q hq;rw [rr];rintro ⟨h | h,_⟩
   ·have:=PV.1 hq; omega
   ·rw [J] at h; cases h
  have e2:((List.range I.length).map (m+·)).filter (alive m C (Array.replicate l.toArray.size false))=(List.range I.length).map (m+·):=by
   rw [Tp];intro q hq;obtain ⟨r,hr,rfl⟩:=PO.1 hq;rw [rr];exact ⟨.inl (by omega),λi _ h=>by rw [J] at h; cases h⟩
  rw [e1,e2,Qz,List.flatMap_map];have e3:(List.range I.length).flatMap (λq=>CS m I (m+q))=((List.range I.length).map λq=>I.getD q []).flatten:=by
   rw [List.flatMap_def]
   congr 1
   refine List.map_congr_left λq _=>?_;unfold CS;rw [O7 (by omega),Q2]
  rw [e3]
  congr 1
  apply QE;intro q;rw [Pw]
  by_cases hq:q<I.length
  ·rw [QW hq,OZ hq]; simp [PA,hq]
  ·rw [P1 (by simp; omega),P1 (by omega)]; rfl
 refine Kr (Q:=Q) (K:=m+I.length) hB hml' hD hX hL0 (λi t v h=>hE.get i t v h) hNd (KI hT) (by omega) Z hop k l.toArray.size _ a _ H (CS m I) (by simp) ?_ (λj hj hjl=>by rw [O,O8 hjl]) (λi o _ h=>by rw [J] at h; cases h) (PX _) ?_ ⟨hs.size,hs.Di,λt v h=>by simp [lk] at h⟩ (λt v h _=>hs.get t v h) (λ_ _=>rfl) ?_
 ·unfold left
  exact P0 (Rz ..) (by simp)
 ·rw [Y]; exact ht.drewN _
 ·intro i o hi ho hl
  rw [O,O8 (by omega)] at hl
  cases hl
theorem qO {id:Nat} (m:Nat) (Φ:LC) (C U:List (List Nat)) (I:List (List bL)) (live:List Nat) (O:x.P.follows .mixedOrders=true) (hB:uk l m=true) (Z:Nat.ble m l.length=true) (hD:xJ l m L=true) (Y:xK l m=true)
  (hT:Fb l m (m+I.length) C U live=true)
  (J:∀ i H1 H2 rs v,H1.le H2->Φ i H1 rs v->Φ i H2 rs v)
  (hop:wy x l Φ C U [] (CS m I) H M L 0 (l.take m))
  (k:∀ H',H.le H'->vw l Φ H' (List.range m) L (CS m I) (λL' R=>W x l.toArray Q (l.drop m) H' (sY live R M) L')):Go.Sim.C x (.region id l.toArray true) Q H (I.flatten++M) L:=
 xY m Φ C U I live L [] O hB Z hD (by unfold Cc; simp) (λ_ _ h=>h) O0 Y hT J hop k
end
section
variable {x:Cx}{ops:Array Oper}{Q:k_}{rest:List Oper}{H:Hp}{M M':List bL}{L L':Env}
theorem pZ {M'} (h:M=M') (k:W x ops Q rest H M' L):W x ops Q rest H M L:=h▸k
theorem Hn {c:Code}{M'} (h:M=M') (k:C x c Q H M' L):C x c Q H M L:=h▸k
theorem NI {e:Exit}{M'} (h:M=M') (k:E x e Q H M' L):E x e Q H M L:=h▸k
theorem D7 {e:Exit} (I:M.Perm M') (k:E x e Q H M' L):E x e Q H M L:=λa w hs ht=>k a w hs (ht.perm I)
theorem zL {c:Code} (I:M.Perm M') (k:C x c Q H M' L):C x c Q H M L:=λa w hs ht=>k a w hs (ht.perm I)
theorem rC {c:Code}{v:OY}{T:TypeId}{sz n:Nat}{xs:List OY} (hm:bL.row v T sz n xs ∈ M) (k:n<=maxLen->C x c Q H M L):C x c Q H M L:=λa w hs ht=>by
 have I:iB w T sz v n xs:=ht.ok _ hm;refine k ?_ a w hs ht;rcases I.2 with ⟨_,rfl⟩ | ⟨g,off,cap,J,rfl,Z,Y,O,_⟩
 ·unfold maxLen; omega
 ·omega
theorem D8 {e:Exit}{J:Hp} (I:J.le H) (k:E x e Q J M L):E x e Q H M L:=λa w hs ht=>k a w hs (ht.KZ I)
end
section
variable {P:Program}{N B:Nat}{w0:World}{fn:Func}{Φ:Hp->List bL->OY->Prop}{H:Hp}{M:List bL}{L:Env}
theorem Fh (k:E ⟨P,N,B,w0⟩ .ret (bodyPost P fn (tG B w0 Φ)) H M L):E ⟨P,N,B,w0⟩ .normal (bodyPost P fn (tG B w0 Φ)) H M L:=λa w hs ht=>k a w hs ht
theorem GI (I:fn.results=#[]) (h:Φ H M (.tuple #[])):E ⟨P,N,B,w0⟩ .ret (bodyPost P fn (tG B w0 Φ)) H M L:=
 λa w hs ht=>⟨hs.Di,.tuple #[],by simp [results,I],H,M,ht,h⟩
theorem MQ {t u s:Nat}{v1 v2 v3:OY} (O:fn.results=#[.tmp t,.tmp u,.tmp s]) (hl:lk L t=some v1) (I:lk L u=some v2) (J:lk L s=some v3) (h:Φ H M (.tuple #[v1,v2,v3])):E ⟨P,N,B,w0⟩ .ret (bodyPost P fn (tG B w0 Φ)) H M L:=
 λa w hs ht=>⟨hs.Di,.tuple #[v1,v2,v3],by simp [results,O,PM,hs.get t v1 hl,hs.get u v2 I,hs.get s v3 J],H,M,ht,h⟩
end
class Flat (α:Type) [aE α]:Prop where
 ind:∀ {H H':Hp}{cs:List OY}{x:α},aE.E H cs x->aE.E H' cs x
instance:Flat Int:=⟨λh=>h⟩
instance:Flat Bool:=⟨λh=>h⟩
instance:Flat OX:=⟨λh=>h⟩
instance:Flat U8:=⟨λh=>h⟩
instance:Flat NA:=⟨λh=>h⟩
instance:Flat bO:=⟨λh=>h⟩
instance:Flat NB:=⟨λh=>h⟩
instance:Flat Ny:=⟨λh=>h⟩
theorem pF.flat {α:Type}[aE α] [Flat α] {H H':Hp}:∀ {cs:List OY}{ys:List α},pF H cs ys->pF H' cs ys
 | _,[],h=>h
 | _,_::_,⟨c,r,e,h,k⟩=>⟨c,r,e,Flat.ind h,pF.flat k⟩
def rX {α:Type}[aE α] (v:OY) (xs:List OY) (l:List α):Prop:=∀ H,Rw H v xs l
def NK {α:Type}[aE α] (xs:List OY) (l:List α):Prop:=∀ H,pF H xs l
theorem Rw.ob {α:Type}[aE α] [Flat α] {H:Hp}{v:OY}{xs:List OY}{l:List α} (h:Rw H v xs l):rX v xs l:=λH'=>⟨h.rd.flat,h.sl⟩
theorem pF.ob {α:Type}[aE α] [Flat α] {H:Hp}{xs:List OY}{l:List α} (h:pF H xs l):NK xs l:=λH'=>h.flat
def DL {α R:Type} (o:Option α) (a:R) (f:α->R):R:=match o with
 | none=>a
 | some s=>f s
theorem Cw {α R:Type}{o:Option α}{a:R}{f:α->R}{r:R} (h:o=none) (k:DL o a f=r):a=r:=by subst h; exact k
theorem Cy {α R:Type}{o:Option α}{a:R}{f:α->R}{s:α}{r:R} (h:o=some s) (k:DL o a f=r):f s=r:=by subst h; exact k
def yz (l:List (Hp->List bL->OY->Prop)) (i:Nat):Hp->List bL->OY->Prop:=l.getD i (λ_ _ _=>True)
def Lf (p:Hp->List bL->OY->Prop):Prop:=∀ I J rs v,I.le J->p I rs v->p J rs v
def zO:List (Hp->List bL->OY->Prop)->Prop
 | []=>True
 | p::l=>Lf p/\zO l
theorem tN {l:List (Hp->List bL->OY->Prop)} (h:zO l):∀ i I J rs v,I.le J->yz l i I rs v->yz l i J rs v:=by
 induction l with
 | nil=>intro i I J rs v _ _; exact O0
 | cons p l ih=>
  intro i I J rs v O Y;cases i with
  | zero=>exact h.1 I J rs v O Y
  | succ i=>exact ih h.2 i I J rs v O Y
theorem fW (I:List bL) (c:OY):Lf (λ_ rs v=>I=rs/\c=v):=λ_ _ _ _ _ h=>h
theorem Gu {α:Type}{f:α->OY}{l:List α}{k:Nat}{y:α} (he:l[k]? = some y):(l.map f)[k*1]? = some (f y):=by
 rw [Rs,Pw,he]; rfl
section
variable {x:Cx}{ops:Array Oper}{Q:k_}{rest:List Oper}{H:Hp}{M M':List bL}{L L':Env}
variable {d:Nat}{ty:TypeId}{pos:String}{aft:Array Edge}{g:Option (Nat×Bool)}
theorem pG {t e m sz:Nat}{y z:Operand}{ad:Addr}{kk:IntKind}{i:Int}
  (Z:gd ops L ⟨some d,.indexAddr t y z,ty,pos,aft,g⟩=some true) (hN:Nat.blt d x.N=true)
  (Y:∀ w,(underlying t).run x.P w=.ok (.array m e) w) (hs:∀ w,(sizeOf e).run x.P w=.ok sz w)
  (hy:ev L y=some (.pointer (some ad))) (hz:ev L z=some (.int kk i)) (O:0<=i) (h1:i.toNat<m)
  (k:W x ops Q rest H M ((d,.pointer (some (ad.add (i.toNat*sz))))::L)):
  W x ops Q (⟨some d,.indexAddr t y z,ty,pos,aft,g⟩::rest) H M L:=
 eT rfl Z hN (λc w I ht=>by
  have J:i<(m:Int):=by omega
  simp [execOp,I.ev hy,I.ev hz,Instr.indexAt,asIntOf,Y,hs,O,J,Instr.sureAddr]) k
theorem Gk {T E:TypeId}{m sz n n' i:Nat}{y z:Operand}{v u:OY}{ad:Addr}{xs cs:List OY} (hg:gd ops L ⟨none,.store T y z,ty,pos,aft,g⟩=some true)
  (hn:∀ w,(sizeOf T).run x.P w=.ok m w) (hy:ev L y=some (.pointer (some ad))) (J:ad=(Value.base v).add i) (hz:ev L z=some u) (hv:u.cells=cs.toArray) (hl:cs.length=m)
  (Z:i+cs.length<=xs.length) (I:Nat.blt 0 cs.length=true) (Y:∀ c ∈ cs,c.oneCell'=true) (O:n'=n)
  (k:W x ops Q rest H (.row v E sz n' (over xs i cs)::M) L):
  W x ops Q (⟨none,.store T y z,ty,pos,aft,g⟩::rest) H (.row v E sz n xs::M) L:=by
 subst O;exact wD hg hn hy J hz hv hl Z I Y k
theorem xE {T e m sz:Nat}{I:List (Nat×Operand)}{vs:List OY}{css:List (List OY)}{z:OY}{zs out:List OY}{places:List (Nat×Nat)}
  (hg:gd ops L ⟨some d,.build T I.toArray,ty,pos,aft,g⟩=some true) (hN:Nat.blt d x.N=true)
  (hv:xL L (I.map (·.2))=some vs) (hc:yJ vs css)
  (hz:∀ w,(zeroValue T).run x.P w=.ok z w) (hzs:z.cells=zs.toArray) (hT:∀ w,(underlying T).run x.P w=.ok (.array m e) w) (hs:∀ w,(sizeOf e).run x.P w=.ok sz w)
  (Y:places=(List.range m).map λi=>(i*sz,sz))
  (ho:laid places zs ((I.map (·.1)).zip css)=some out)
  (k:W x ops Q rest H M ((d,.agg out.toArray)::L)):
  W x ops Q (⟨some d,.build T I.toArray,ty,pos,aft,g⟩::rest) H M L:=
 eT rfl hg hN (λa w J ht=>by
  have hl:(I.map (·.1)).length=vs.length:=by rw [<- J.xL hv]; simp
  have hf:=uY (place:=λi=>some (i*sz,sz)) (places:=places) (λi o h=>by
   rw [Y,Pw] at h;cases O:(List.range m)[i]? with
   | none=>rw [O] at h; cases h
   | some j=>
    rw [O] at h;have:j=i:=by
     have:=O3.1 O;simpa using this.2.symm
    subst this;simpa using h) (I.map (·.1)) vs css zs out hc hl ho
  have Z:=zC J hv;simp only [execOp,Instr.build,Pf,hz,O_,hT,hzs,hs];simp only [Z,hf,Pp,O_]) k
theorem fP {α:Type}[aE α] {T e:TypeId}{n:Nat}{J:List (Nat×Operand)}{vs:List OY}{css:List (List OY)}{z:OY}{zs out:List OY}{places:List (Nat×Nat)}{ys:List α}
  (hg:gd ops L ⟨some d,.buildSlice T n J.toArray,ty,pos,aft,g⟩=some true) (hN:Nat.blt d x.N=true)
  (hv:xL L (J.map (·.2))=some vs) (hc:yJ vs css)
  (hT:∀ w,(underlying T).run x.P w=.ok (.slice e) w) (hs:∀ w,(sizeOf e).run x.P w=.ok (aE.sz α) w) (hs0:Nat.blt 0 (aE.sz α)=true)
  (hz:∀ w,(zeroValue e).run x.P w=.ok z w) (hzs:(Array.range (n*aE.sz α)).map (z.cells[·%z.cells.size]!)=zs.toArray)
  (hpl:places=(List.range n).map λi=>(i*aE.sz α,aE.sz α)) (hn:Nat.ble (n*aE.sz α) 16777216=true) (hnn:Nat.blt 0 n=true)
  (ho:laid places zs ((J.map (·.1)).zip css)=some out) (hr:pF H out ys) (hyn:ys.length=n)
  (k:∀ v' xs',Rw H v' xs' ys->W x ops Q rest H (.row v' e (aE.sz α) ys.length xs'::M) ((d,v')::L)):
  W x ops Q (⟨some d,.buildSlice T n J.toArray,ty,pos,aft,g⟩::rest) H M L:=by
 refine r7 rfl hg hN λa w Z ht=>?_;have hl:(J.map (·.1)).length=vs.length:=by rw [<- Z.xL hv]; simp
 have I:0<aE.sz α:=by simpa [P9] using hs0
 have hn':n*aE.sz α<=16777216:=by simpa [Rx] using hn
 have Y:0<n:=by simpa [P9] using hnn
 have hpos:0<n*aE.sz α:=Nat.mul_pos Y I;have hf:=uY (place:=λi=>some (i*aE.sz α,aE.sz α)) (places:=places) (λi o h=>by
  rw [hpl,Pw] at h;cases hh:(List.range n)[i]? with
  | none=>rw [hh] at h; cases h
  | some j=>
   rw [hh] at h;have:j=i:=by
    have:=O3.1 hh;simpa using this.2.symm
   subst this;simpa using h) (J.map (·.1)) vs css zs out hc hl ho
 have hps:=zC Z hv;have hsz:out.length=n*aE.sz α:=by rw [hr.len,hyn]
 have O:ys.length<=maxLen:=by
  unfold maxLen;have:n<=n*aE.sz α:=RK _ I;omega
 refine ⟨.slice (some ⟨w.heap.size,0,none⟩) ys.length ys.length,w.alloc (.cells out.toArray e),?_,H,_,St.newRow (e:=e) ht hr O,k _ _ ⟨hr,_,_,_,rfl⟩⟩;have h1:¬ (2 ^ 24<n*aE.sz α):=by omega
 have h2:¬ (n*aE.sz α=0):=by omega
 simp only [execOp,Instr.buildSlice,Pf,hT,O_,hs,gt_iff_lt,h1,h2,Q6,hz,Pp];simp only [hps];have hf':Instr.fill (λi=>some (i*aE.sz α,aE.sz α)) ((Array.range (n*aE.sz α)).map (z.cells[·%z.cells.size]!)) ((List.map (λx=>x.fst) J).zip vs)=some out.toArray:=by
  rw [hzs]; exact hf
 simp only [hf',newRow,newObj,Pf,Pp,Sem.run,O_,World.alloc,hyn]
end
inductive fB (P:Program) (M:List bL) (L:Env):ResultVar->OY->Prop
 | tmp {t}{v:OY} (h:lk L t=some v):fB P M L (.tmp t) v
 | one {t ty b T}{l:List OY}{fz}{v:OY} (h:lk L t=some (.pointer (some ⟨b,0,none⟩))) (hA:∀ w,(isAgg ty).run P w=.ok false w) (hm:bL.obj b (.cells (v::l).toArray T fz) ∈ M):fB P M L (.cell t ty) v
 | agg {t ty b T}{l:List OY}{fz n} (h:lk L t=some (.pointer (some ⟨b,0,none⟩))) (hA:∀ w,(isAgg ty).run P w=.ok true w) (hn:∀ w,(sizeOf ty).run P w=.ok n w) (hm:bL.obj b (.cells l.toArray T fz) ∈ M) (hl:l.length=n):fB P M L (.cell t ty) (.agg l.toArray)
 | arr {t ty v T sz k}{xs:List OY}{n} (h:lk L t=some (.pointer (some (Value.base v)))) (hA:∀ w,(isAgg ty).run P w=.ok true w) (hn:∀ w,(sizeOf ty).run P w=.ok n w) (hm:bL.row v T sz k xs ∈ M) (hl:xs.length=n):fB P M L (.cell t ty) (.agg xs.toArray)
def GM (I:Array OY):ResultVar->Sem OY
 | .tmp t=>pure (I.getD t undef)
 | .cell a t=>do loadVar t (<- asAddr (I.getD a undef))
theorem wY (fn:Func) (I:Array OY):results fn I=(do
  let vs <- fn.results.mapM (GM I)
  pure (if h:vs.size=1 then vs[0] else .tuple vs)):=rfl
theorem fB.run {P:Program}{M:List bL}{L:Env}{N B:Nat}{w0 w:World}{H:Hp}{a:Act}{rv:ResultVar}{v:OY} (h:fB P M L rv v) (hs:Sl N L a) (ht:St B w0 H M w):
  (GM a.tmps rv).run P w=.ok v w:=by
 cases h with
 | tmp h=>simp [GM,PM,hs.get _ _ h]
 | one h hA hm=>
  have J:=(uT (x:=⟨P,N,B,w0⟩) (H:=H) hm (off:=0) (v:=v) rfl) w ht;simp [GM,PM,hs.get _ _ h,asAddr,loadVar,hA,load,Sem.run,J]
 | agg h hA hn hm hl=>
  rename_i t ty b T l fz n
  have J:=(CA (x:=⟨P,N,B,w0⟩) (H:=H) hm);have I:=run_loadCellsFrom (P:=P) (w:=w) (ad:=⟨b,0,none⟩) l 0 #[] (λj v Y=>by rw [Po]; exact J j v Y w ht)
  rw [hl] at I;simp [GM,PM,hs.get _ _ h,asAddr,loadVar,hA,hn,loadCells,I]
 | arr h hA hn hm hl=>
  rename_i t ty v T sz k xs n
  have I:=run_loadCellsFrom (P:=P) (w:=w) (ad:=Value.base v) xs 0 #[] (λj u O=>by rw [Po]; exact (AY (x:=⟨P,N,B,w0⟩) (H:=H) hm O) w ht)
  rw [hl] at I;simp [GM,PM,hs.get _ _ h,asAddr,loadVar,hA,hn,loadCells,I]
section
variable {P:Program}{N B:Nat}{w0:World}{fn:Func}{Φ:Hp->List bL->OY->Prop}{H H0:Hp}{M M1 M2:List bL}{L:Env}
theorem jR {J:ResultVar}{v1:OY} (I:H0.le H) (hr:fn.results=#[J]) (O:fB P M L J v1) (Y:M1.Sublist M) (Z:M1.Perm M2) (h:Φ H0 M2 v1):
  E ⟨P,N,B,w0⟩ .ret (bodyPost P fn (tG B w0 Φ)) H M L:=λa w hs ht=>by
 have q1:=O.run hs ht;refine ⟨hs.Di,v1,?_,H0,M2,((ht.sub Y).perm Z).KZ I,h⟩;rw [wY,hr];simp [q1]
theorem Bv {J O:ResultVar}{v1 v2:OY} (I:H0.le H) (hr:fn.results=#[J,O]) (Y:fB P M L J v1) (Z:fB P M L O v2) (hd:M1.Sublist M) (hp:M1.Perm M2) (h:Φ H0 M2 (.tuple #[v1,v2])):
  E ⟨P,N,B,w0⟩ .ret (bodyPost P fn (tG B w0 Φ)) H M L:=λa w hs ht=>by
 have q1:=Y.run hs ht;have q2:=Z.run hs ht;refine ⟨hs.Di,_,?_,H0,M2,((ht.sub hd).perm hp).KZ I,h⟩;rw [wY,hr];simp [q1,q2]
theorem Ap {J O Y:ResultVar}{v1 v2 v3:OY} (I:H0.le H) (hr:fn.results=#[J,O,Y]) (Z:fB P M L J v1) (h2:fB P M L O v2) (h3:fB P M L Y v3) (hd:M1.Sublist M) (hp:M1.Perm M2) (h:Φ H0 M2 (.tuple #[v1,v2,v3])):
  E ⟨P,N,B,w0⟩ .ret (bodyPost P fn (tG B w0 Φ)) H M L:=λa w hs ht=>by
 have q1:=Z.run hs ht;have q2:=h2.run hs ht;have q3:=h3.run hs ht;refine ⟨hs.Di,_,?_,H0,M2,((ht.sub hd).perm hp).KZ I,h⟩;rw [wY,hr];simp [q1,q2,q3]
end
theorem aN.shape {α:Type}[aE α] {H:Hp}{v:OY}{xs:List α} (h:aN H v xs):∃ o n c,v=.slice o n c:=by
 obtain ⟨a,c,rfl,_⟩:=h.len; exact ⟨_,_,_,rfl⟩
theorem aN.isNil {α:Type}[aE α] {H:Hp}{n c:Nat}{xs:List α} (h:aN H (.slice none n c) xs):xs=[]:=by
 rcases h with ⟨_,h⟩ | ⟨b,off,cap,arr,T,fz,h,_⟩
 ·exact h
 ·cases h
def MH {α:Type} (v:OY) (l:List α):Prop:=(∃ n c,v=.slice none n c/\l=[])\/(∃ a n c,v=.slice (some a) n c/\l≠[])
theorem MH.nil {α:Type}:MH (.slice none 0 0) ([]:List α):=.inl ⟨_,_,rfl,rfl⟩
section
variable {x:Cx}{ops:Array Oper}{Q:k_}{rest:List Oper}{H:Hp}{M M':List bL}{L L':Env}
variable {d:Nat}{ty:TypeId}{pos:String}{aft:Array Edge}{g:Option (Nat×Bool)}
theorem Lc {α:Type}[aE α] {H:Hp}{zs:List OY}{ze:α} (Y:aE.E H zs ze) (Z:zs.length=aE.sz α):∀ q,pF H ((List.range (q*aE.sz α)).map (zs.toArray[·%zs.length]!)) (List.replicate q ze):=by
 intro q
 induction q with
 | zero=>rw [Qu]; exact rfl
 | succ q ih=>
  have I:(List.range ((q+1)*aE.sz α)).map (zs.toArray[·%zs.length]!)=zs++(List.range (q*aE.sz α)).map (zs.toArray[·%zs.length]!):=by
   apply QE;intro j;rw [Q3,Pw]
   by_cases O:j<zs.length
   ·rw [O8 O,QW (by rw [Pm]; omega)]
    simp [QL O,O]
   ·rw [O7 O,Pw]
    by_cases J:j<(q+1)*aE.sz α
    ·rw [QW J,QW (by rw [Pm] at J; omega)]
     simp only [Qp];rw [<- Nat.mod_eq_sub_mod (by omega)]
    ·rw [P1 (by simp; omega),P1 (by rw [Pm] at J; simp; omega)]
  rw [I];exact ⟨zs,_,rfl,Y,ih⟩
end
end Go.Sim
