/-
  The proof, part A1.
-/
import Derived.WalkKit
import Derived.WalkSpells
import Derived.WalkLawsBesides
import Derived.Lib.AppendZeros
set_option linter.unusedVariables false
set_option linter.unusedSimpArgs false
set_option linter.unusedSectionVars false
set_option linter.unnecessarySimpa false
namespace Go.Sim
abbrev P5 := @Go.Addr.add_lit
abbrev PK := @Array.getD_eq_getD_getElem?
abbrev RC := @Array.getElem?_eq_getElem
abbrev Qk := @Array.getElem?_eq_some_iff
abbrev S7 := @Array.getElem?_modify
abbrev Ss := @Array.getElem?_setIfInBounds
abbrev Tj := @Array.toList_append
abbrev QB := @Bool.and_eq_true
abbrev PZ := @Bool.false_eq_true
abbrev Qu := @Bool.or_eq_true
abbrev PO := @Int.natCast_mul
abbrev OX := @Int.toNat_natCast
abbrev Q5 := @List.Sublist.refl
abbrev P_ := @List.all_eq_true
abbrev Pr := @List.append_assoc
abbrev PE := @List.append_nil
abbrev Q8 := @List.cons_append
abbrev Su := @List.contains_iff_mem
abbrev Rx := @List.countP_le_length
abbrev RI := @List.drop_append_of_le_length
abbrev QF := @List.drop_drop
abbrev Px := @List.drop_eq_getElem_cons
abbrev RN := @List.drop_length
abbrev Rh := @List.drop_set_of_lt
abbrev Rc := @List.drop_take
abbrev Qh := @List.drop_zero
abbrev Pw := @List.eq_nil_of_length_eq_zero
abbrev QD := @List.ext_getElem?
abbrev Ry := @List.filter_append
abbrev Tl := @List.filter_eq_self
abbrev R9 := @List.flatMap_append
abbrev Qe := @List.flatMap_cons
abbrev Py := @List.getD_eq_getElem?_getD
abbrev Q2 := @List.getElem?_append
abbrev Qa := @List.getElem?_append_left
abbrev Pz := @List.getElem?_append_right
abbrev PG := @List.getElem?_drop
abbrev OU := @List.getElem?_eq_getElem
abbrev PV := @List.getElem?_eq_none
abbrev OY := @List.getElem?_eq_some_iff
abbrev Ps := @List.getElem?_map
abbrev QU := @List.getElem?_range
abbrev Sr := @List.getElem?_set
abbrev PN := @List.getElem?_take
abbrev Pt := @List.getElem_mem
abbrev Pg := @List.length_append
abbrev O6 := @List.length_cons
abbrev QN := @List.length_map
abbrev Qd := @List.length_replicate
abbrev PW := @List.length_singleton
abbrev Pn := @List.length_take
abbrev Qj := @List.map_append
abbrev RG := @List.map_cons
abbrev Td := @List.map_nil
abbrev Pa := @List.mem_append
abbrev OW := @List.mem_append_left
abbrev P1 := @List.mem_append_right
abbrev PH := @List.mem_cons
abbrev O5 := @List.mem_cons_of_mem
abbrev O0 := @List.mem_cons_self
abbrev P6 := @List.mem_filter
abbrev SP := @List.mem_filterMap
abbrev QS := @List.mem_flatMap
abbrev Qb := @List.mem_iff_getElem
abbrev PL := @List.mem_map
abbrev O7 := @List.mem_of_getElem?
abbrev PR := @List.mem_range
abbrev PA := @List.mem_singleton
abbrev Qy := @List.nil_append
abbrev PS := @List.nodup_append
abbrev Sc := @List.nodup_cons
abbrev RZ := @List.pairwise_iff_getElem
abbrev Sd := @List.range_succ
abbrev R2 := @List.set_eq_take_append_cons_drop
abbrev Ta := @List.singleton_append
abbrev RF := @List.size_toArray
abbrev R4 := @List.take_left
abbrev QH := @List.take_length
abbrev RM := @List.take_set_of_le
abbrev Po := @List.take_succ_eq_append_getElem
abbrev SU := @List.take_take
abbrev Rj := @List.toList_toArray
abbrev Q_ := @Nat.add_assoc
abbrev Pk := @Nat.add_mul
abbrev Q0 := @Nat.add_sub_cancel_left
abbrev Qs := @Nat.add_zero
abbrev Ru := @Nat.ble_eq
abbrev P7 := @Nat.blt_eq
abbrev Q7 := @Nat.eq_of_beq_eq_true
abbrev QC := @Nat.eq_of_mul_eq_mul_right
abbrev RJ := @Nat.le_mul_of_pos_right
abbrev Pl := @Nat.le_refl
abbrev P0 := @Nat.le_trans
abbrev RS := @Nat.lt_of_le_of_lt
abbrev Rz := @Nat.lt_of_lt_of_le
abbrev Q3 := @Nat.lt_succ_self
abbrev RX := @Nat.lt_trichotomy
abbrev P2 := @Nat.min_eq_left
abbrev QI := @Nat.mod_eq_of_lt
abbrev Pe := @Nat.mul_le_mul_right
abbrev Ro := @Nat.mul_one
abbrev SE := @Nat.one_mul
abbrev Qf := @Nat.sub_self
abbrev RT := @Nat.sub_zero
abbrev Pm := @Nat.zero_add
abbrev Qt := @Nat.zero_mul
abbrev SY := @Option.bind_eq_some_iff
abbrev Rv := @Option.bind_some
abbrev QT := @Option.getD_some
abbrev Sp := @Option.map_eq_some_iff
abbrev Sf := @Option.map_none
abbrev Qo := @Option.map_some
abbrev OZ := @Option.some.inj
abbrev Pf := @Option.some.injEq
abbrev Ra := @Prod.mk.injEq
abbrev O4 := @Go.Result.andThen_ok
abbrev O8 := @Go.Sem.run_bind
abbrev Pc := @Go.Sem.run_pure
abbrev P3 := @congrArg
abbrev PF := @decide_eq_true_eq
abbrev Tg := @decide_false
abbrev Tr := @Go.grownCap_ge
abbrev SR := @Go.grownCap_le_maxLen
abbrev Tp := @Go.growslice_fits
abbrev SX := @Go.heap_alloc_new
abbrev Qw := @if_false
abbrev O2 := @if_neg
abbrev O3 := @if_pos
abbrev SF := @if_true
abbrev O9 := @of_decide_eq_false
abbrev O1 := @of_decide_eq_true
abbrev Tn := @Go.run_firstCells_some
abbrev Qr := @Go.run_underlying
abbrev OV := @trivial
abbrev SG := @Go.wpList_step
end Go.Sim
namespace Go.Sim
open Go Go.RowKit
open _root_.Go.IntKind (i64 u64 u32 u8)
abbrev Hp:=Nat->Option Obj
def Hp.le (H H':Hp):Prop:=∀ b o,H b=some o->H' b=some o
theorem PT (H:Hp):H.le H:=λ_ _ h=>h
theorem SD {A B C:Hp} (h:A.le B) (k:B.le C):A.le C:=λb o x=>k b o (h b o x)
def Hp.add (H:Hp) (b:Nat) (o:Obj):Hp:=λc=>if c=b then some o else H c
theorem Hp.LW {H:Hp}{b:Nat}{o:Obj} (h:H b=none):H.le (H.add b o):=by
 intro c x hx;unfold Hp.add
 split
 ·rename_i e; subst e; rw [h] at hx; cases hx
 ·exact hx
theorem Hp.wH (H:Hp) (b:Nat) (o:Obj):H.add b o b=some o:=by simp [Hp.add]
def snap (w:World):Hp:=λb=>w.heap[b]?
def iB (w:World) (T:TypeId) (sz:Nat) (v:Value) (n:Nat) (xs:List Value):Prop:=
  xs.length=n*sz /\
  ((v=.slice none 0 0/\n=0) \/
   ∃ g off cap cur,v=.slice (some ⟨g,off,none⟩) n cap/\w.heap[g]? = some (.cells cur T (0,0))/\n<=cap/\cap<=maxLen/\off+cap*sz<=cur.size/\(cur.toList.drop off).take (n*sz)=xs)
theorem iB.lt {w:World}{T:TypeId}{sz:Nat}{v:Value}{n:Nat}{xs:List Value} (h:iB w T sz v n xs) {k:Nat} (hk:v.ownBlock=some k):k<w.heap.size:=by
 rcases h.2 with ⟨rfl,_⟩ | ⟨g,off,cap,cur,rfl,hg,_⟩
 ·simp [Value.ownBlock] at hk
 ·simp only [Value.ownBlock,Pf] at hk
  subst hk;exact (Qk.1 hg).1
theorem iB.kept {w w':World}{T:TypeId}{sz:Nat}{v:Value}{n:Nat}{xs:List Value}{row:Option Nat} (h:iB w T sz v n xs) (hg:w.grownBy w' row)
  (hne:∀ b,v.ownBlock=some b->row≠some b):iB w' T sz v n xs:=by
 refine ⟨h.1,?_⟩;rcases h.2 with hn | ⟨g,off,cap,cur,rfl,hgg,rest⟩
 ·exact .inl hn
 ·refine .inr ⟨g,off,cap,cur,rfl,?_,rest⟩
  rw [hg.block g (Qk.1 hgg).1 (λe=>hne g rfl e.symm)];exact hgg
theorem iB.nil (w:World) (T:TypeId) (sz:Nat):iB w T sz (.slice none 0 0) 0 []:=⟨by simp,.inl ⟨rfl,rfl⟩⟩
def MB (fs:List Nat) (P:World->Prop):Prop:=∀ w w' row,P w->w.grownBy w' row->(∀ b ∈ fs,row≠some b)->P w'
inductive bL where
 | obj (b:Nat) (o:Obj)
 | row (v:Value) (T:TypeId) (sz n:Nat) (xs:List Value)
 | pack (fs:List Nat) (P:World->Prop)
def bL.ye:bL->Option Nat
 | .obj b _=>some b
 | .row v _ _ _ _=>v.ownBlock
 | .pack _ _=>none
def bL.tP:bL->List Nat
 | .obj b _=>[b]
 | .row v _ _ _ _=>v.ownBlock.toList
 | .pack fs _=>fs
def bL.ok (w:World):bL->Prop
 | .obj b o=>w.heap[b]? = some o
 | .row v T sz n xs=>iB w T sz v n xs
 | .pack fs P=>P w/\(∀ b ∈ fs,b<w.heap.size)/\MB fs P
theorem bL.FD {w:World}{r:bL} (h:r.ok w) {b:Nat} (hb:b ∈ r.tP):b<w.heap.size:=by
 cases r with
 | obj c o=>
  simp only [bL.tP,PA] at hb;subst hb;simp only [bL.ok] at h;exact (Qk.1 h).1
 | row v T sz n xs=>exact iB.lt h (Option.mem_toList.1 hb)
 | pack fs P=>exact h.2.1 b hb
theorem bL.kept {w w':World}{r:bL}{row:Option Nat} (h:r.ok w) (hg:w.grownBy w' row) (hne:∀ b ∈ r.tP,row≠some b):r.ok w':=by
 cases r with
 | obj c o=>
  simp only [bL.ok] at h ⊢;rw [hg.block c (Qk.1 h).1 (λe=>hne c (by simp [bL.tP]) e.symm)]
  exact h
 | row v T sz n xs=>
  exact iB.kept h hg (λb hb=>hne b (Option.mem_toList.2 hb))
 | pack fs P=>exact ⟨h.2.2 _ _ _ h.1 hg hne,λb hb=>Rz (h.2.1 b hb) hg.size,h.2.2⟩
theorem Jh {l l':List bL} (h:l.Sublist l'):(l.flatMap bL.tP).Sublist (l'.flatMap bL.tP):=by
 induction h with
 | slnil=>exact Q5 _
 | cons a _ ih=>rw [Qe]; exact ih.trans (List.sublist_append_right _ _)
 | cons_cons a _ ih=>rw [Qe,Qe]; exact (Q5 _).append ih
structure St (B:Nat) (w0:World) (H:Hp) (M:List bL) (w:World):Prop where
 below:Below B w0 w
 le:B<=w.heap.size
 tG:∀ b o,H b=some o->w.heap[b]? = some o
 ok:∀ r ∈ M,r.ok w
 lo:∀ r ∈ M,∀ b ∈ r.tP,B<=b/\H b=none
 nd:(M.flatMap bL.tP).Nodup
section
variable {B:Nat}{w0 w w':World}{H H':Hp}{M M':List bL}
theorem St.lt (h:St B w0 H M w) {b:Nat}{o:Obj} (hb:H b=some o):b<w.heap.size:=(Qk.1 (h.tG b o hb)).1
theorem St.perm (h:St B w0 H M w) (p:M.Perm M'):St B w0 H M' w:=
 ⟨h.below,h.le,h.tG,λr hr=>h.ok r (p.mem_iff.2 hr),λr hr=>h.lo r (p.mem_iff.2 hr),(p.flatMap_right _).nodup_iff.1 h.nd⟩
theorem St.sub (h:St B w0 H M w) (p:M'.Sublist M):St B w0 H M' w:=
 ⟨h.below,h.le,h.tG,λr hr=>h.ok r (p.subset hr),λr hr=>h.lo r (p.subset hr),h.nd.sublist (Jh p)⟩
theorem St.tail {r:bL} (h:St B w0 H (r::M) w):St B w0 H M w:=h.sub (List.sublist_cons_self _ _)
theorem St.drewN (h:St B w0 H M w) (n:Nat):St B w0 H M { w with drawn:=n }:=
 ⟨⟨h.below.os,h.below.tape,h.below.output,h.below.size,h.below.block⟩,h.le,h.tG,λr hr=>by
  have:=h.ok r hr;cases r with
  | pack fs P=>exact ⟨this.2.2 w _ none this.1 ⟨rfl,rfl,rfl,Pl _,λ_ _ _=>rfl⟩ (by simp),this.2⟩
  | _=>exact this,h.lo,h.nd⟩
theorem St.grow (h:St B w0 H M w) (hg:w.grownBy w' none):St B w0 H M w':=
  ⟨h.below.grown hg h.le (λ_ e=>by cases e),P0 h.le hg.size,
   λb o hb=>by rw [hg.block b (h.lt hb) (by simp)]; exact h.tG b o hb,
   λr hr=>bL.kept (h.ok r hr) hg (by simp),h.lo,h.nd⟩
theorem St.CS {r r':bL} (h:St B w0 H (r::M) w) (hg:w.grownBy w' r.ye) (hok:r'.ok w')
  (hf:∀ b,r'.ye=some b->r.ye=some b\/w.heap.size<=b) (hr:r.tP=r.ye.toList:=by rfl) (hr':r'.tP=r'.ye.toList:=by rfl):St B w0 H (r'::M) w':=by
 have hnd:=h.nd;have tG:∀ {b:Nat},r.ye=some b->b ∈ r.tP:=λe=>by rw [hr,e]; simp
 refine ⟨h.below.grown hg h.le (λk e=>(h.lo r (O0 ..) k (tG e)).1),P0 h.le hg.size,?_,?_,?_,?_⟩
 ·intro b o hb
  rw [hg.block b (h.lt hb) (λe=>by have:=(h.lo r (O0 ..) b (tG e.symm)).2; rw [this] at hb; cases hb)]
  exact h.tG b o hb
 ·intro s hs
  rcases PH.1 hs with rfl | hs
  ·exact hok
  ·refine bL.kept (h.ok s (O5 _ hs)) hg ?_
   intro b hb e;simp only [Qe] at hnd;exact (PS.1 hnd).2.2 b (tG e) b (QS.2 ⟨s,hs,hb⟩) rfl
 ·intro s hs b hb
  rcases PH.1 hs with rfl | hs
  ·rw [hr'] at hb
   rcases hf b (Option.mem_toList.1 hb) with e | e
   ·exact h.lo r (O0 ..) b (tG e)
   ·refine ⟨P0 h.le e,?_⟩
    cases hh:H b with
    | none=>rfl
    | some o=>exact absurd (h.lt hh) (by omega)
  ·exact h.lo s (O5 _ hs) b hb
 ·have hm:(M.flatMap bL.tP).Nodup:=(h.tail).nd
  rw [Qe,hr'];cases hf':r'.ye with
  | none=>simpa using hm
  | some b=>
   simp only [Option.toList,Ta,Sc];refine ⟨λhmem=>?_,hm⟩;obtain ⟨s,hs,hb⟩:=QS.1 hmem;rcases hf b hf' with e | e
   ·simp only [Qe] at hnd
    exact (PS.1 hnd).2.2 b (tG e) b hmem rfl
   ·have:=bL.FD (h.ok s (O5 _ hs)) hb
    omega
theorem St.add {r':bL} (h:St B w0 H M w) (hg:w.grownBy w' none) (hok:r'.ok w') (hf:∀ b,r'.ye=some b->w.heap.size<=b) (hr':r'.tP=r'.ye.toList:=by rfl):
  St B w0 H (r'::M) w':=by
 have h1:St B w0 H (.row (.slice none 0 0) 0 1 0 []::M) w:=by
  refine ⟨h.below,h.le,h.tG,?_,?_,?_⟩
  ·intro r hr
   rcases PH.1 hr with rfl | hr
   ·exact iB.nil _ _ _
   ·exact h.ok r hr
  ·intro r hr
   rcases PH.1 hr with rfl | hr
   ·intro b hb; simp [bL.tP,Value.ownBlock] at hb
   ·exact h.lo r hr
  ·simpa [Qe,bL.tP,Value.ownBlock] using h.nd
 exact h1.CS hg hok (λb hb=>.inr (hf b hb)) rfl hr'
theorem St.AH (h:St B w0 H M w) (T:TypeId) (sz:Nat):St B w0 H (.row (.slice none 0 0) T sz 0 []::M) w:=
 h.add ⟨rfl,rfl,rfl,Pl _,λ_ _ _=>rfl⟩ (iB.nil _ _ _) (by intro b hb; simp [bL.ye,Value.ownBlock] at hb)
theorem St.alloc (h:St B w0 H M w) (o:Obj):St B w0 H (.obj w.heap.size o::M) (w.alloc o):=
 h.add (World.grownBy_alloc w o none) (SX w o) (by intro b hb; simp only [bL.ye,Pf] at hb; omega)
theorem St.uO {b:Nat}{o:Obj} (h:St B w0 H M w) (hm:bL.obj b o ∈ M):w.heap[b]? = some o:=h.ok _ hm
theorem St.freeze {b:Nat}{o:Obj} (h:St B w0 H (.obj b o::M) w):H.le (H.add b o)/\St B w0 (H.add b o) M w:=by
 have hb:=h.lo _ (O0 ..) b (by simp [bL.tP])
 refine ⟨Hp.LW hb.2,h.below,h.le,?_,h.tail.ok,?_,h.tail.nd⟩
 ·intro c x hx
  unfold Hp.add at hx
  split at hx
  ·rename_i e; subst e; cases hx; exact h.ok _ (O0 ..)
  ·exact h.tG c x hx
 ·intro r hr c hc
  refine ⟨(h.tail.lo r hr c hc).1,?_⟩;unfold Hp.add
  split
  ·rename_i e; subst e
   have hnd:=h.nd;simp only [Qe,bL.tP,Ta,Sc] at hnd;exact absurd (QS.2 ⟨r,hr,hc⟩) hnd.1
  ·exact (h.tail.lo r hr c hc).2
theorem St.NX {b:Nat}{o:Obj} (h:St B w0 H' M w) (hB:B<=b) (hle:H.le H') (hb:H b=none) (ho:H' b=some o):St B w0 H (.obj b o::M) w:=by
 refine ⟨h.below,h.le,λc x hx=>h.tG c x (hle c x hx),?_,?_,?_⟩
 ·intro r hr
  rcases PH.1 hr with rfl | hr
  ·exact h.tG b o ho
  ·exact h.ok r hr
 ·intro r hr c hc
  rcases PH.1 hr with rfl | hr
  ·simp only [bL.tP,PA] at hc; subst hc; exact ⟨hB,hb⟩
  ·refine ⟨(h.lo r hr c hc).1,?_⟩
   cases hh:H c with
   | none=>rfl
   | some x=>have:=hle c x hh; rw [(h.lo r hr c hc).2] at this; cases this
 ·simp only [Qe,bL.tP,Ta,Sc]
  refine ⟨λhm=>?_,h.nd⟩;obtain ⟨r,hr,hc⟩:=QS.1 hm;have:=(h.lo r hr b hc).2;rw [this] at ho; cases ho
theorem St.KS (h:St B w0 H' M w) (hle:H.le H'):St B w0 H M w:=
 ⟨h.below,h.le,λb o hb=>h.tG b o (hle b o hb),h.ok,λr hr b hb=>⟨(h.lo r hr b hb).1,by
  cases hh:H b with
  | none=>rfl
  | some x=>have:=hle b x hh; rw [(h.lo r hr b hb).2] at this; cases this⟩,h.nd⟩
def iT (rs:List bL):bL:=.pack (rs.flatMap bL.tP) (λw=>∀ r ∈ rs,r.ok w)
theorem Hb (rs:List bL):MB (rs.flatMap bL.tP) (λw=>∀ r ∈ rs,r.ok w):=λ_ _ _ h hg hne r hr=>
 bL.kept (h r hr) hg (λb hb=>hne b (QS.2 ⟨r,hr,hb⟩))
theorem St.unpack {rs:List bL} (h:St B w0 H (iT rs::M) w):St B w0 H (rs++M) w:=
 ⟨h.below,h.le,h.tG,λr hr=>by
  rcases Pa.1 hr with hr | hr
  ·exact (h.ok _ (O0 ..)).1 r hr
  ·exact h.ok r (O5 _ hr),λr hr b hb=>by
  rcases Pa.1 hr with hr | hr
  ·exact h.lo _ (O0 ..) b (QS.2 ⟨r,hr,hb⟩)
  ·exact h.lo r (O5 _ hr) b hb,by
  have:=h.nd;rw [Qe] at this;rw [R9]; exact this⟩
theorem St.pack {rs:List bL} (h:St B w0 H (rs++M) w):St B w0 H (iT rs::M) w:=
 ⟨h.below,h.le,h.tG,λr hr=>by
  rcases PH.1 hr with rfl | hr
  ·refine ⟨λr hr=>h.ok r (OW _ hr),λb hb=>?_,Hb rs⟩
   obtain ⟨r,hr,hb⟩:=QS.1 hb;exact bL.FD (h.ok r (OW _ hr)) hb
  ·exact h.ok r (P1 _ hr),λr hr b hb=>by
  rcases PH.1 hr with rfl | hr
  ·obtain ⟨r,hr,hb⟩:=QS.1 hb
   exact h.lo r (OW _ hr) b hb
  ·exact h.lo r (P1 _ hr) b hb,by
  have:=h.nd;rw [R9] at this;rw [Qe]; exact this⟩
theorem St.begin (w:World):St w.heap.size w (snap w) [] w:=
 ⟨Below.refl _ _,Pl _,λ_ _ h=>h,by simp,by simp,by simp⟩
end
abbrev Env:=List (Nat×Value)
def lk:Env->Nat->Option Value
 | [],_=>none
 | (t,v)::r,u=>bif Nat.beq t u then some v else lk r u
structure Sl (N:Nat) (L:Env) (a:Act):Prop where
 size:a.tmps.size=N
 Df:a.defers=[]
 get:∀ t v,lk L t=some v->a.tmps[t]? = some v
theorem sD (t:Nat) (v:Value) (r:Env) (u:Nat):lk ((t,v)::r) u=if t=u then some v else lk r u:=by
 show (bif Nat.beq t u then some v else lk r u)=_
 by_cases h:t=u
 ·subst h; simp
 ·have:Nat.beq t u=false:=by
   cases hb:Nat.beq t u with
   | false=>rfl
   | true=>exact absurd (Q7 hb) h
  simp [this,h]
theorem Sl.put {N:Nat}{L:Env}{a:Act}{d:Nat}{v:Value} (h:Sl N L a) (hd:Nat.blt d N=true):Sl N ((d,v)::L) (a.put (some d) v):=by
 have hd':d<N:=by simpa [P7] using hd
 refine ⟨by simp [Act.put,h.size],h.Df,λt u ht=>?_⟩
 rw [sD] at ht;simp only [Act.put,Ss]
 by_cases e:d=t
 ·subst e
  simp only [SF,Pf] at ht;subst ht;simp [h.size,hd']
 ·simp only [O2 e] at ht ⊢
  exact h.get t u ht
def Kept (L:Env):Env->Prop
 | []=>True
 | (t,v)::r=>lk L t=some v/\Kept L r
theorem Kept.lk {L:Env}:∀ {L':Env},Kept L L'->∀ t v,lk L' t=some v->lk L t=some v
 | [],_,t,v,h=>by simp [Sim.lk] at h
 | (u,x)::r,hk,t,v,h=>by
  rw [sD] at h
  split at h
  ·rename_i e; subst e; cases h; exact hk.1
  ·exact Kept.lk hk.2 t v h
theorem Sl.MP {N:Nat}{L L':Env}{a:Act} (h:Sl N L a) (hk:Kept L L'):Sl N L' a:=
 ⟨h.size,h.Df,λt v ht=>h.get t v (hk.lk t v ht)⟩
def ev (L:Env):Operand->Option Value
 | .tmp t=>lk L t
 | .const v=>some v
 | .func f=>some (.func (.func f) #[] #[])
 | .global g=>some (.pointer (some ⟨g,0,none⟩))
theorem Sl.ev {N:Nat}{L:Env}{a:Act} (h:Sl N L a) {x:Operand}{v:Value} (hx:Sim.ev L x=some v):a.eval x=v:=by
 cases x with
 | tmp t=>simp [Act.eval,PK,h.get t v hx]
 | const u=>simpa [Sim.ev,Act.eval] using hx
 | func f=>simpa [Sim.ev,Act.eval] using hx
 | global g=>simpa [Sim.ev,Act.eval] using hx
def gd (ops:Array Oper) (L:Env) (o:Oper):Option Bool:=
 match o.guard with
 | none=>some true
 | some (j,want)=>
  match (ops[j]?).bind (·.dst) with
  | none=>none
  | some t=>match lk L t with
   | some (.bool b)=>some (b == want)
   | some (.tuple _)=>some false
   | _=>none
theorem Sl.gd {N:Nat}{L:Env}{a:Act} (h:Sl N L a) {ops:Array Oper}{o:Oper}{c:Bool} (hg:Sim.gd ops L o=some c):Region.wanted o (yielded ops a.tmps)=c:=by
 unfold Sim.gd at hg;unfold Region.wanted;cases ho:o.guard with
 | none=>simp only [ho,Pf] at hg; simp [<- hg]
 | some p=>
  obtain ⟨j,want⟩:=p;simp only [ho] at hg;cases hd:(ops[j]?).bind (·.dst) with
  | none=>simp [hd] at hg
  | some t=>
   simp only [hd] at hg;cases hl:lk L t with
   | none=>simp [hl] at hg
   | some v=>
    cases v with
    | bool b=>
     simp only [hl,Pf] at hg;have:=h.get t _ hl;simp [yielded,hd,this,<- hg]
    | tuple vs=>
     simp only [hl,Pf] at hg;have:=h.get t _ hl;simp [yielded,hd,this,<- hg]
    | _=>simp [hl] at hg
structure Cx where
 P:Program
 N:Nat
 B:Nat
 w0:World
abbrev lC:=Exit->Act->World->Prop
def W (x:Cx) (ops:Array Oper) (Q:lC) (rest:List Oper) (H:Hp) (M:List bL) (L:Env):Prop:=
 ∀ a w,Sl x.N L a->St x.B x.w0 H M w->wpList x.P ops Q rest a w
def C (x:Cx) (c:Code) (Q:lC) (H:Hp) (M:List bL) (L:Env):Prop:=
 ∀ a w,Sl x.N L a->St x.B x.w0 H M w->c.wp x.P Q a w
def E (x:Cx) (e:Exit) (Q:lC) (H:Hp) (M:List bL) (L:Env):Prop:=
 ∀ a w,Sl x.N L a->St x.B x.w0 H M w->Q e a w
section
variable {x:Cx}{ops:Array Oper}{Q:lC}{rest:List Oper}{H:Hp}{M M':List bL}{L L':Env}
theorem bI {c d:Code} (k:C x c (Exit.then (d.wp x.P Q) Q) H M L):C x (.seq c d) Q H M L:=
 λa w hs ht=>wp_seq (k a w hs ht)
theorem mf (k:E x .normal Q H M L):C x .skip Q H M L:=λa w hs ht=>wp_skip (k a w hs ht)
theorem tL {id:Nat} (k:E x (.exit id) Q H M L):C x (.exit id) Q H M L:=λa w hs ht=>wp_exit (k a w hs ht)
theorem mq (k:E x .ret Q H M L):C x .ret Q H M L:=λa w hs ht=>wp_ret (k a w hs ht)
theorem tl {id:Nat}{c:Code} (k:C x c (Exit.inBlock id Q) H M L):C x (.block id c) Q H M L:=
 λa w hs ht=>wp_block (k a w hs ht)
theorem bC {c:Operand}{p q:Code}{b:Bool} (hb:ev L c=some (.bool b)) (k1:b=true->C x p Q H M L) (k2:b=false->C x q Q H M L):
  C x (.cond c p q) Q H M L:=
 λa w hs ht=>wp_cond_split (hs.ev hb) (λe=>k1 e a w hs ht) (λe=>k2 e a w hs ht)
theorem aN {id:Nat}{l:List Oper} (k:W x l.toArray Q l H M L):C x (.region id l.toArray false) Q H M L:=
 λa w hs ht=>wp_region_lit (k a w hs ht)
theorem aZ (k:E x .normal Q H M L):W x ops Q [] H M L:=λa w hs ht=>wpList_nil (k a w hs ht)
theorem aT {d:Code}{Q':lC} (k:C x d Q' H M L):E x .normal (Exit.then (d.wp x.P Q') Q) H M L:=λa w hs ht=>k a w hs ht
theorem zC {c:Code} (hL:Kept L L') (hM:M.Perm M') (k:C x c Q H M' L'):C x c Q H M L:=
 λa w hs ht=>k a w (hs.MP hL) (ht.perm hM)
theorem BK {e:Exit} (hL:Kept L L') (hM:M.Perm M') (k:E x e Q H M' L'):E x e Q H M L:=
 λa w hs ht=>k a w (hs.MP hL) (ht.perm hM)
theorem Lu {c:Code} (hM:M'.Sublist M) (k:C x c Q H M' L):C x c Q H M L:=λa w hs ht=>k a w hs (ht.sub hM)
theorem Hq {e:Exit} (hM:M'.Sublist M) (k:E x e Q H M' L):E x e Q H M L:=λa w hs ht=>k a w hs (ht.sub hM)
theorem nE (hM:M.Perm M') (k:W x ops Q rest H M' L):W x ops Q rest H M L:=λa w hs ht=>k a w hs (ht.perm hM)
theorem rY {o:Oper}{d:Nat} (hd:o.dst=some d) (hg:gd ops L o=some true) (hN:Nat.blt d x.N=true)
  (hrun:∀ a w,Sl x.N L a->St x.B x.w0 H M w->∃ v w',(execOp a.eval o).run x.P w=.ok (.value v) w'/\∃ H' M',St x.B x.w0 H' M' w'/\W x ops Q rest H' M' ((d,v)::L)):
  W x ops Q (o::rest) H M L:=by
 intro a w hs ht;obtain ⟨v,w',hr,H',M',ht',k⟩:=hrun a w hs ht;refine SG λK hK=>?_;rw [O3 (hs.gd hg)];unfold Oper.wp;rw [hr];simp only [Oper.upon,hd];exact hK _ _ (k _ _ (hs.put hN) ht')
theorem eO {o:Oper}{d:Nat}{v:Value} (hd:o.dst=some d) (hg:gd ops L o=some true) (hN:Nat.blt d x.N=true)
  (hrun:∀ a w,Sl x.N L a->St x.B x.w0 H M w->(execOp a.eval o).run x.P w=.ok (.value v) w) (k:W x ops Q rest H M ((d,v)::L)):
  W x ops Q (o::rest) H M L:=
 rY hd hg hN λa w hs ht=>⟨v,w,hrun a w hs ht,H,M,ht,k⟩
theorem MD {o:Oper}{d:Nat} (hd:o.dst=some d) (hg:gd ops L o=some false) (hN:Nat.blt d x.N=true) (k:W x ops Q rest H M ((d,undef)::L)):
  W x ops Q (o::rest) H M L:=by
 intro a w hs ht;refine SG λK hK=>?_;rw [O2 (by rw [hs.gd hg]; simp),hd]
 exact hK _ _ (k _ _ (hs.put hN) ht)
theorem Lc {o:Oper} (hd:o.dst=none) (hg:gd ops L o=some false) (k:W x ops Q rest H M L):W x ops Q (o::rest) H M L:=by
 intro a w hs ht;refine SG λK hK=>?_;rw [O2 (by rw [hs.gd hg]; simp),hd]
 exact hK _ _ (k _ _ hs ht)
theorem BW {o:Oper} (hd:o.dst=none) (hg:gd ops L o=some true)
  (hrun:∀ a w,Sl x.N L a->St x.B x.w0 H M w->∃ w',(execOp a.eval o).run x.P w=.ok .skip w'/\∃ H' M',St x.B x.w0 H' M' w'/\W x ops Q rest H' M' L):
  W x ops Q (o::rest) H M L:=by
 intro a w hs ht;obtain ⟨w',hr,H',M',ht',k⟩:=hrun a w hs ht;refine SG λK hK=>?_;rw [O3 (hs.gd hg)];unfold Oper.wp;rw [hr];simp only [Oper.upon,hd];exact hK _ _ (k _ _ hs ht')
def eA (B:Nat) (w0:World) (Φ:Hp->List bL->Value->Prop):Ending->World->Prop
 | .returned v,w'=>∃ H' M',St B w0 H' M' w'/\Φ H' M' v
 | _,_=>False
def xH (L:Env):List Operand->Option (List Value)
 | []=>some []
 | y::r=>match ev L y,xH L r with
  | some v,some vs=>some (v::vs)
  | _,_=>none
theorem Sl.xH {L:Env}{a:Act}{N:Nat} (hs:Sl N L a):∀ {l:List Operand}{vs:List Value},Sim.xH L l=some vs->l.map a.eval=vs
 | [],vs,h=>by simp [Sim.xH] at h; simp [h]
 | y::r,vs,h=>by
  simp only [Sim.xH] at h;cases h1:Sim.ev L y with
  | none=>simp [h1] at h
  | some v=>
   cases h2:Sim.xH L r with
   | none=>simp [h1,h2] at h
   | some us=>
    simp only [h1,h2,Pf] at h;subst h;simp [hs.ev h1,Sl.xH hs h2]
theorem hO {d:Nat}{f:FuncId}{args:List Operand}{tys:Array TypeId}{ty:TypeId}{pos:String}{aft:Array Edge}{g:Option (Nat×Bool)}{vs:List Value}
  {Φ:Hp->List bL->Value->Prop}
  (hcall:∀ as w,(callFunc f as).run x.P w=.ok (.enter f as) w)
  (hg:gd ops L ⟨some d,.call ⟨.value (.func f),args.toArray,tys⟩,ty,pos,aft,g⟩=some true) (hN:Nat.blt d x.N=true)
  (hv:xH L args=some vs)
  (hc:∀ w,St x.B x.w0 H M w->Calls x.P f vs.toArray w (eA x.B x.w0 Φ))
  (k:∀ v H' M',Φ H' M' v->W x ops Q rest H' M' ((d,v)::L)):
  W x ops Q (⟨some d,.call ⟨.value (.func f),args.toArray,tys⟩,ty,pos,aft,g⟩::rest) H M L:=by
 intro a w hs ht;refine SG λK hK=>?_;rw [O3 (hs.gd hg)];have hargs:args.toArray.map a.eval=vs.toArray:=by simp [hs.xH hv]
 have hr:(execOp a.eval ⟨some d,.call ⟨.value (.func f),args.toArray,tys⟩,ty,pos,aft,g⟩).run x.P w=.ok (.enter f vs.toArray) w:=by
  simp only [execOp,resolve,hargs,Act.eval,Deferred.ofValue,O8,Pc,O4,invoke];simp [hcall]
 unfold Oper.wp;rw [hr];simp only [Oper.upon];refine (hc w ht).mono λe w' he=>?_;cases e with
 | returned v=>
  obtain ⟨H',M',h1,h2⟩:=he;exact hK _ _ (k v H' M' h2 _ _ (hs.put hN) h1)
 | panicked c=>exact he.elim
 | outgrown=>exact he.elim
end
def xy (x:Cx) (H:Hp) (M:List bL) (ad:Addr) (v:Value):Prop:=∀ w,St x.B x.w0 H M w->w.cell? ad=some v
def zG (H:Hp) (ad:Addr) (v:Value):Prop:=∃ arr T fz,H ad.block=some (.cells arr T fz)/\ad.spot=none/\arr[ad.off]? = some v
theorem Tc {w:World}{ad:Addr}{arr:Array Value}{T:TypeId}{fz:Nat×Nat}{v:Value} (h:w.heap[ad.block]? = some (.cells arr T fz)) (hs:ad.spot=none) (hv:arr[ad.off]? = some v):
  w.cell? ad=some v:=by
 simp [World.cell?,h,hs,hv]
theorem zG.at {x:Cx}{H:Hp}{M:List bL}{ad:Addr}{v:Value} (h:zG H ad v):xy x H M ad v:=by
 obtain ⟨arr,T,fz,hb,hs,hv⟩:=h;exact λw ht=>Tc (ht.tG _ _ hb) hs hv
theorem zG.mono {H H':Hp}{ad:Addr}{v:Value} (hle:H.le H') (h:zG H ad v):zG H' ad v:=by
 obtain ⟨arr,T,fz,hb,hs,hv⟩:=h;exact ⟨arr,T,fz,hle _ _ hb,hs,hv⟩
theorem uP {x:Cx}{H:Hp}{M:List bL}{b off:Nat}{l:List Value}{T:TypeId}{fz:Nat×Nat}{v:Value}
  (hm:bL.obj b (.cells l.toArray T fz) ∈ M) (hv:l[off]? = some v):xy x H M ⟨b,off,none⟩ v:=by
 intro w ht;exact Tc (ht.uO hm) rfl (by simpa using hv)
def xU (x:Cx) (H:Hp) (M:List bL) (ad:Addr) (cs:List Value):Prop:=∀ j c,cs[j]? = some c->xy x H M (ad.add j) c
def gS (H:Hp) (ad:Addr) (cs:List Value):Prop:=∀ j c,cs[j]? = some c->zG H (ad.add j) c
theorem gS.at {x:Cx}{H:Hp}{M:List bL}{ad:Addr}{cs:List Value} (h:gS H ad cs):xU x H M ad cs:=λj c hc=>(h j c hc).at
theorem gS.mono {H H':Hp}{ad:Addr}{cs:List Value} (hle:H.le H') (h:gS H ad cs):gS H' ad cs:=λj c hc=>(h j c hc).mono hle
theorem Cz {x:Cx}{H:Hp}{M:List bL}{b:Nat}{l:List Value}{T:TypeId}{fz:Nat×Nat}
  (hm:bL.obj b (.cells l.toArray T fz) ∈ M):xU x H M ⟨b,0,none⟩ l:=by
 intro j c hc;rw [P5,Pm];exact uP hm hc
theorem run_loadCellsFrom {P:Program}{w:World}{ad:Addr}:∀ (cs:List Value) (i:Nat) (acc:Array Value),(∀ j c,cs[j]? = some c->w.cell? (ad.add (i+j))=some c) ->
  (loadCellsFrom ad i cs.length acc).run P w=.ok (acc++cs.toArray) w
 | [],i,acc,_=>by simp [loadCellsFrom]
 | c::cs,i,acc,h=>by
  have h0:=h 0 c rfl;simp only [Qs] at h0;have ih:=run_loadCellsFrom (P:=P) (w:=w) (ad:=ad) cs (i+1) (acc.push c) (λj d hd=>by have:=h (j+1) d (by simpa using hd); rwa [show i+(j+1)=i+1+j from by omega] at this)
  simp only [O6,loadCellsFrom,load,O8,Sem.run,h0,O4];rw [ih];simp
section
variable {x:Cx}{ops:Array Oper}{Q:lC}{rest:List Oper}{H:Hp}{M M':List bL}{L L':Env}
variable {d:Nat}{ty:TypeId}{pos:String}{aft:Array Edge}{g:Option (Nat×Bool)}
theorem bR {y:Operand}{v:Value} (hg:gd ops L ⟨some d,.move y,ty,pos,aft,g⟩=some true) (hN:Nat.blt d x.N=true)
  (hy:ev L y=some v) (k:W x ops Q rest H M ((d,v)::L)):W x ops Q (⟨some d,.move y,ty,pos,aft,g⟩::rest) H M L:=
 eO rfl hg hN (λa w hs _=>by simp [execOp,hs.ev hy]) k
theorem aJ {y:Operand}{v:Value} (hg:gd ops L ⟨some d,.assign y,ty,pos,aft,g⟩=some true) (hN:Nat.blt d x.N=true)
  (hy:ev L y=some v) (k:W x ops Q rest H M ((d,v)::L)):W x ops Q (⟨some d,.assign y,ty,pos,aft,g⟩::rest) H M L:=
 eO rfl hg hN (λa w hs _=>by simp [execOp,hs.ev hy]) k
theorem BV {c y z:Operand}{b:Bool}{v:Value} (hg:gd ops L ⟨some d,.pick c y z,ty,pos,aft,g⟩=some true) (hN:Nat.blt d x.N=true)
  (hc:ev L c=some (.bool b)) (hy:(if b then ev L y else ev L z)=some v) (k:W x ops Q rest H M ((d,v)::L)):
  W x ops Q (⟨some d,.pick c y z,ty,pos,aft,g⟩::rest) H M L:=
 eO rfl hg hN (λa w hs _=>by
  cases b
  ·simp only [PZ,Qw] at hy; simp [execOp,hs.ev hc,hs.ev hy,asBool]
  ·simp only [SF] at hy; simp [execOp,hs.ev hc,hs.ev hy,asBool]) k
def zX:BinOp->Value->Value->Option Value
 | .add,.int k a,.int k' b=>if k=k' then some (.int k (k.wrap (a+b))) else none
 | .sub,.int k a,.int k' b=>if k=k' then some (.int k (k.wrap (a-b))) else none
 | .mul,.int k a,.int k' b=>if k=k' then some (.int k (k.wrap (a*b))) else none
 | .lss,.int k a,.int k' b=>if k=k' then some (.bool (decide (a<b))) else none
 | .leq,.int k a,.int k' b=>if k=k' then some (.bool (decide (a<=b))) else none
 | .gtr,.int k a,.int k' b=>if k=k' then some (.bool (decide (b<a))) else none
 | .geq,.int k a,.int k' b=>if k=k' then some (.bool (decide (b<=a))) else none
 | .eql,.int k a,.int k' b=>if k=k' then some (.bool (decide (a=b))) else none
 | .neq,.int k a,.int k' b=>if k=k' then some (.bool (!decide (a=b))) else none
 | .and,.int k a,.int k' b=>if k=k' then some (.int k (k.wrap (BitVec.ofInt k.bits a &&& BitVec.ofInt k.bits b).toNat)) else none
 | .or,.int k a,.int k' b=>if k=k' then some (.int k (k.wrap (BitVec.ofInt k.bits a ||| BitVec.ofInt k.bits b).toNat)) else none
 | .xor,.int k a,.int k' b=>if k=k' then some (.int k (k.wrap (BitVec.ofInt k.bits a ^^^ BitVec.ofInt k.bits b).toNat)) else none
 | .eql,.string s,.string t=>some (.bool (decide (s=t)))
 | .neq,.string s,.string t=>some (.bool (!decide (s=t)))
 | .lss,.string s,.string t=>some (.bool (Op.bytesLess s.toList t.toList))
 | _,_,_=>none
theorem Lz (s t:ByteArray):(s.toList == t.toList)=decide (s=t):=by
 rw [Bool.eq_iff_iff];simp only [beq_iff_eq,PF];constructor
 ·intro h
  have hs:∀ u:ByteArray,u.toList=u.data.toList:=ByteArray.toList_eq;rw [hs,hs] at h;exact ByteArray.ext (Array.ext' h)
 ·intro h; rw [h]
theorem Ci (a b:Int):(a == b)=decide (a=b):=by rw [Bool.eq_iff_iff]; simp
theorem Iz {p:Prop}[Decidable p] {v w:Value} (h:(if p then some v else none)=some w):p/\v=w:=by
 split at h
 ·exact ⟨‹_›,by simpa using h⟩
 ·cases h
theorem Gq {op:BinOp}{a b v:Value} (t:TypeId) (P:Program) (w:World) (h:zX op a b=some v):(binOp op t a b).run P w=.ok v w:=by
 unfold zX at h
 split at h
 case h_1 | h_2 | h_3 | h_4 | h_5 | h_6 | h_7 | h_8 | h_9 | h_10 | h_11 | h_12=>
  obtain ⟨rfl,rfl⟩:=Iz h
  first
   | (simp [binOp,Op.intArith]; done)
   | (simp [binOp,Op.intBits]; done)
   | (simp [binOp,Op.intCmp]; done)
   | (simp [binOp,Op.intCmp,bne,Ci]; done)
 case h_13 | h_14 | h_15=>cases h; simp [binOp,Op.stringOp,<- Lz]
 case h_16=>cases h
theorem Di {op:BinOp}{a b v:Value} (t:TypeId) (y z:Operand) (P:Program) (w:World) (h:zX op a b=some v):(eqGuard op t y z a b).run P w=.ok () w:=by
 unfold zX at h
 split at h <;> first
  | (simp [eqGuard]; done)
  | (cases h; done)
theorem vP {op:BinOp}{t u:TypeId}{y z:Operand}{a b v:Value} (hg:gd ops L ⟨some d,.binOp op t y z u,ty,pos,aft,g⟩=some true) (hN:Nat.blt d x.N=true)
  (hy:ev L y=some a) (hz:ev L z=some b) (hv:zX op a b=some v) (k:W x ops Q rest H M ((d,v)::L)):
  W x ops Q (⟨some d,.binOp op t y z u,ty,pos,aft,g⟩::rest) H M L:=
 eO rfl hg hN (λc w hs _=>by
  simp only [execOp,hs.ev hy,hs.ev hz,O8,Di t y z x.P w hv,O4,Gq t x.P w hv,Pc]) k
theorem Ld {t u:TypeId}{y z:Operand}{kk:IntKind}{m n:Int} (hg:gd ops L ⟨some d,.binOp .quo t y z u,ty,pos,aft,g⟩=some true) (hN:Nat.blt d x.N=true)
  (hy:ev L y=some (.int kk m)) (hz:ev L z=some (.int kk n)) (hn:n≠0) (k:W x ops Q rest H M ((d,.int kk (kk.wrap (m.tdiv n)))::L)):
  W x ops Q (⟨some d,.binOp .quo t y z u,ty,pos,aft,g⟩::rest) H M L:=
 eO rfl hg hN (λc w hs _=>by
  simp [execOp,hs.ev hy,hs.ev hz,eqGuard,binOp,Op.intDiv,hn]) k
theorem Fs {t u:TypeId}{y z:Operand}{kk:IntKind}{m n:Int} (hg:gd ops L ⟨some d,.binOp .rem t y z u,ty,pos,aft,g⟩=some true) (hN:Nat.blt d x.N=true)
  (hy:ev L y=some (.int kk m)) (hz:ev L z=some (.int kk n)) (hn:n≠0) (k:W x ops Q rest H M ((d,.int kk (m.tmod n))::L)):
  W x ops Q (⟨some d,.binOp .rem t y z u,ty,pos,aft,g⟩::rest) H M L:=
 eO rfl hg hN (λc w hs _=>by
  simp [execOp,hs.ev hy,hs.ev hz,eqGuard,binOp,Op.intDiv,hn]) k
def Ls:UnOp->Value->Option Value
 | .neg,.int k n=>some (.int k (k.wrap (0-n)))
 | .not,.bool b=>some (.bool !b)
 | .xor,.int k n=>some (.int k (k.wrap (BitVec.ofInt k.bits (if k.signed then -1 else k.max) ^^^ BitVec.ofInt k.bits n).toNat))
 | _,_=>none
theorem ME {op:UnOp}{t:TypeId}{y:Operand}{a v:Value} (hg:gd ops L ⟨some d,.unOp op t y,ty,pos,aft,g⟩=some true) (hN:Nat.blt d x.N=true)
  (hy:ev L y=some a) (hv:Ls op a=some v) (k:W x ops Q rest H M ((d,v)::L)):
  W x ops Q (⟨some d,.unOp op t y,ty,pos,aft,g⟩::rest) H M L:=
 eO rfl hg hN (λc w hs _=>by
  simp only [execOp,hs.ev hy];unfold Ls at hv
  split at hv <;> first
   | (cases hv; simp [Op.unary,Op.intArith,Op.intBits]; done)
   | cases hv) k
theorem MC {T:TypeId}{y:Operand}{v:Value}{cs:List Value} (hg:gd ops L ⟨some d,.box T y,ty,pos,aft,g⟩=some true) (hN:Nat.blt d x.N=true)
  (hy:ev L y=some v) (hcs:v.cells=cs.toArray)
  (k:∀ b,W x ops Q rest H (.obj b (.cells cs.toArray T (0,0))::M) ((d,.pointer (some ⟨b,0,none⟩))::L)):
  W x ops Q (⟨some d,.box T y,ty,pos,aft,g⟩::rest) H M L:=
 rY rfl hg hN (λc w hs ht=>⟨_,w.alloc (.cells cs.toArray T),by
  simp only [execOp,hs.ev hy,Instr.box,newVar,newRow,newObj,O8,Pc,Sem.run,O4,hcs,World.alloc],_,_,ht.alloc _,k _⟩)
theorem JB {T:TypeId}{z:Value}{cs:List Value} (hg:gd ops L ⟨some d,.alloc T,ty,pos,aft,g⟩=some true) (hN:Nat.blt d x.N=true)
  (hz:∀ w,(zeroValue T).run x.P w=.ok z w) (hcs:z.cells=cs.toArray)
  (k:∀ b,W x ops Q rest H (.obj b (.cells cs.toArray T (0,0))::M) ((d,.pointer (some ⟨b,0,none⟩))::L)):
  W x ops Q (⟨some d,.alloc T,ty,pos,aft,g⟩::rest) H M L:=
 rY rfl hg hN (λc w hs ht=>⟨_,w.alloc (.cells cs.toArray T),by
  simp only [execOp,Instr.alloc,hz,newVar,newRow,newObj,O8,Pc,Sem.run,O4,hcs,World.alloc],_,_,ht.alloc _,k _⟩)
theorem pJ {T:TypeId}{y:Operand}{ad:Addr}{v:Value} (hg:gd ops L ⟨some d,.load T y,ty,pos,aft,g⟩=some true) (hN:Nat.blt d x.N=true)
  (hT:∀ w,(isAgg T).run x.P w=.ok false w) (hy:ev L y=some (.pointer (some ad))) (hc:xy x H M ad v)
  (k:W x ops Q rest H M ((d,v)::L)):W x ops Q (⟨some d,.load T y,ty,pos,aft,g⟩::rest) H M L:=
 eO rfl hg hN (λc w hs ht=>by
  simp [execOp,hs.ev hy,Instr.loadAt,Instr.sureAddr,loadVar,hT,load,Sem.run,hc w ht]) k
theorem cA {T:TypeId}{n:Nat}{y:Operand}{ad:Addr}{cs:List Value} (hg:gd ops L ⟨some d,.load T y,ty,pos,aft,g⟩=some true) (hN:Nat.blt d x.N=true)
  (hT:∀ w,(isAgg T).run x.P w=.ok true w) (hn:∀ w,(sizeOf T).run x.P w=.ok n w) (hy:ev L y=some (.pointer (some ad))) (hc:xU x H M ad cs) (hl:cs.length=n)
  (k:W x ops Q rest H M ((d,.agg cs.toArray)::L)):W x ops Q (⟨some d,.load T y,ty,pos,aft,g⟩::rest) H M L:=
 eO rfl hg hN (λc w hs ht=>by
  have h:=run_loadCellsFrom (P:=x.P) (w:=w) (ad:=ad) cs 0 #[] (λj v hv=>by rw [Pm]; exact hc j v hv w ht)
  rw [hl] at h;simp [execOp,hs.ev hy,Instr.loadAt,Instr.sureAddr,loadVar,hT,hn,loadCells,h]) k
theorem tn {T:TypeId}{y:Operand}{ad:Addr}{f n o:Nat}{fs:Array Field}{fd:Field} (hg:gd ops L ⟨some d,.fieldAddr T y f,ty,pos,aft,g⟩=some true) (hN:Nat.blt d x.N=true)
  (hT:∀ w,(underlying T).run x.P w=.ok (.struct fs) w) (hf:fs[f]? = some fd) (hn:∀ w,(sizeOf fd.type).run x.P w=.ok n w) (hn0:Nat.beq n 0=false) (ho:fd.offset=o)
  (hy:ev L y=some (.pointer (some ad))) (k:W x ops Q rest H M ((d,.pointer (some (ad.add o)))::L)):
  W x ops Q (⟨some d,.fieldAddr T y f,ty,pos,aft,g⟩::rest) H M L:=
 eO rfl hg hN (λc w hs ht=>by
  have h0:¬ n=0:=λe=>by subst e; simp at hn0
  simp [execOp,hs.ev hy,Instr.fieldAt,hT,hf,Instr.sureAddr,fieldPlace,hn,h0,ho]) k
theorem oU {y:Operand}{ad:Addr} (hg:gd ops L ⟨some d,.nilCheck y,ty,pos,aft,g⟩=some true) (hN:Nat.blt d x.N=true)
  (hy:ev L y=some (.pointer (some ad))) (k:W x ops Q rest H M ((d,.pointer (some ad))::L)):
  W x ops Q (⟨some d,.nilCheck y,ty,pos,aft,g⟩::rest) H M L:=
 eO rfl hg hN (λc w hs ht=>by simp [execOp,hs.ev hy]) k
theorem rp {y:Operand}{vs:Array Value}{i:Nat}{v:Value} (hg:gd ops L ⟨some d,.extract y i,ty,pos,aft,g⟩=some true) (hN:Nat.blt d x.N=true)
  (hy:ev L y=some (.tuple vs)) (hv:vs[i]? = some v) (k:W x ops Q rest H M ((d,v)::L)):
  W x ops Q (⟨some d,.extract y i,ty,pos,aft,g⟩::rest) H M L:=
 eO rfl hg hN (λc w hs ht=>by simp [execOp,hs.ev hy,Instr.extract,hv]) k
theorem C2 {y z:Operand}{tys:Array TypeId}{kk:IntKind}{m n:Int} (hg:gd ops L ⟨some d,.call ⟨.builtin .min,#[y,z],tys⟩,ty,pos,aft,g⟩=some true) (hN:Nat.blt d x.N=true)
  (hy:ev L y=some (.int kk m)) (hz:ev L z=some (.int kk n)) (k:W x ops Q rest H M ((d,.int kk (min m n))::L)):
  W x ops Q (⟨some d,.call ⟨.builtin .min,#[y,z],tys⟩,ty,pos,aft,g⟩::rest) H M L:=
 eO rfl hg hN (λc w hs ht=>by
  have:(if n<m then n else m)=min m n:=by rw [Int.min_def]; split <;> split <;> omega
  simp [execOp,resolve,invoke,builtin,hs.ev hy,hs.ev hz,Builtin.min_,Builtin.min2,this]) k
theorem Lb {y z:Operand}{tys:Array TypeId}{kk:IntKind}{m n:Int} (hg:gd ops L ⟨some d,.call ⟨.builtin .max,#[y,z],tys⟩,ty,pos,aft,g⟩=some true) (hN:Nat.blt d x.N=true)
  (hy:ev L y=some (.int kk m)) (hz:ev L z=some (.int kk n)) (k:W x ops Q rest H M ((d,.int kk (max m n))::L)):
  W x ops Q (⟨some d,.call ⟨.builtin .max,#[y,z],tys⟩,ty,pos,aft,g⟩::rest) H M L:=
 eO rfl hg hN (λc w hs ht=>by
  have:(if n > m then n else m)=max m n:=by rw [Int.max_def]; split <;> split <;> omega
  simp [execOp,resolve,invoke,builtin,hs.ev hy,hs.ev hz,Builtin.max_,Builtin.max2,this]) k
theorem BU {t e:TypeId}{y:Operand}{a:Option Addr}{m n:Nat} (hg:gd ops L ⟨some d,.call ⟨.builtin .len,#[y],#[t]⟩,ty,pos,aft,g⟩=some true) (hN:Nat.blt d x.N=true)
  (hT:∀ w,(underlying t).run x.P w=.ok (.slice e) w) (hy:ev L y=some (.slice a n m)) (k:W x ops Q rest H M ((d,.int .i64 n)::L)):
  W x ops Q (⟨some d,.call ⟨.builtin .len,#[y],#[t]⟩,ty,pos,aft,g⟩::rest) H M L:=
 eO rfl hg hN (λc w hs ht=>by
  simp [execOp,resolve,invoke,builtin,hs.ev hy,Builtin.len_,hT,goInt]) k
theorem jK {t:TypeId}{y:Operand}{s:ByteArray} (hg:gd ops L ⟨some d,.call ⟨.builtin .len,#[y],#[t]⟩,ty,pos,aft,g⟩=some true) (hN:Nat.blt d x.N=true)
  (hT:∀ w,(underlying t).run x.P w=.ok .string w) (hy:ev L y=some (.string s)) (k:W x ops Q rest H M ((d,.int .i64 s.size)::L)):
  W x ops Q (⟨some d,.call ⟨.builtin .len,#[y],#[t]⟩,ty,pos,aft,g⟩::rest) H M L:=
 eO rfl hg hN (λc w hs ht=>by
  simp [execOp,resolve,invoke,builtin,hs.ev hy,Builtin.len_,hT,goInt]) k
theorem HE {t e:TypeId}{sz:Nat}{y z:Operand}{ad:Addr}{n m:Nat}{kk:IntKind}{i:Int} (hg:gd ops L ⟨some d,.indexAddr t y z,ty,pos,aft,g⟩=some true) (hN:Nat.blt d x.N=true)
  (hT:∀ w,(underlying t).run x.P w=.ok (.slice e) w) (hs:∀ w,(sizeOf e).run x.P w=.ok sz w)
  (hy:ev L y=some (.slice (some ad) n m)) (hz:ev L z=some (.int kk i)) (h0:0<=i) (h1:i.toNat<n)
  (k:W x ops Q rest H M ((d,.pointer (some (ad.add (i.toNat*sz))))::L)):
  W x ops Q (⟨some d,.indexAddr t y z,ty,pos,aft,g⟩::rest) H M L:=
 eO rfl hg hN (λc w hsl ht=>by
  have h1':i<(n:Int):=by omega
  simp [execOp,hsl.ev hy,hsl.ev hz,Instr.indexAt,asIntOf,hT,hs,h0,h1']) k
end
class aF (α:Type) where
 sz:Nat
 E:Hp->List Value->α->Prop
 len:∀ {H cs x},E H cs x->cs.length=sz
 mono:∀ {H H' cs x},H.le H'->E H cs x->E H' cs x
 one:∀ {H cs x},E H cs x->∀ c ∈ cs,c.oneCell'=true
instance:aF Int where
 sz:=1
 E _ cs n:=cs=[.int .i64 n]
 len h:=by rw [h]; rfl
 mono _ h:=h
 one h c hc:=by rw [h] at hc; simp at hc; subst hc; rfl
instance:aF Bool where
 sz:=1
 E _ cs b:=cs=[.bool b]
 len h:=by rw [h]; rfl
 mono _ h:=h
 one h c hc:=by rw [h] at hc; simp at hc; subst hc; rfl
instance:aF ByteArray where
 sz:=1
 E _ cs s:=cs=[.string s]
 len h:=by rw [h]; rfl
 mono _ h:=h
 one h c hc:=by rw [h] at hc; simp at hc; subst hc; rfl
instance:aF UInt8 where
 sz:=1
 E _ cs n:=cs=[.int .u8 n.toNat]
 len h:=by rw [h]; rfl
 mono _ h:=h
 one h c hc:=by rw [h] at hc; simp at hc; subst hc; rfl
instance:aF UInt32 where
 sz:=1
 E _ cs n:=cs=[.int .u32 n.toNat]
 len h:=by rw [h]; rfl
 mono _ h:=h
 one h c hc:=by rw [h] at hc; simp at hc; subst hc; rfl
instance:aF UInt64 where
 sz:=1
 E _ cs n:=cs=[.int .u64 n.toNat]
 len h:=by rw [h]; rfl
 mono _ h:=h
 one h c hc:=by rw [h] at hc; simp at hc; subst hc; rfl
def aP {α:Type}[aF α] (H:Hp) (v:Value) (xs:List α):Prop:=
 ((∃ a,v=.slice a 0 0)/\xs=[]) \/
 ∃ b off cap arr T fz,v=.slice (some ⟨b,off,none⟩) xs.length cap/\xs.length<=cap/\cap<=maxLen/\H b=some (.cells arr T fz)/\off+cap*aF.sz α<=arr.size /\
  ∀ k e,xs[k]? = some e->∃ cs,aF.E H cs e/\∀ j c,cs[j]? = some c->arr[off+k*aF.sz α+j]? = some c
theorem aP.mono {α:Type}[aF α] {H H':Hp}{v:Value}{xs:List α} (hle:H.le H') (h:aP H v xs):aP H' v xs:=by
 rcases h with h | ⟨b,off,cap,arr,T,fz,h1,h2,h3,h4,h5,h6⟩
 ·exact .inl h
 ·exact .inr ⟨b,off,cap,arr,T,fz,h1,h2,h3,hle _ _ h4,h5,λk e he=>let ⟨cs,a,b⟩:=h6 k e he; ⟨cs,aF.mono hle a,b⟩⟩
instance {α:Type}[aF α]:aF (List α) where
 sz:=1
 E H cs xs:=∃ v,cs=[v]/\aP H v xs
 len h:=by obtain ⟨v,rfl,_⟩:=h; rfl
 mono hle h:=by obtain ⟨v,e,hv⟩:=h; exact ⟨v,e,hv.mono hle⟩
 one h c hc:=by
  obtain ⟨v,rfl,hv⟩:=h;simp at hc; subst hc
  rcases hv with ⟨⟨a,rfl⟩,_⟩ | ⟨b,off,cap,arr,T,fz,rfl,_⟩ <;> rfl
def Value.base:Value->Addr
 | .slice (some a) _ _=>a
 | _=>⟨0,0,none⟩
def Value.nF:Value->Nat
 | .slice _ _ c=>c
 | _=>0
theorem aP.len {α:Type}[aF α] {H:Hp}{v:Value}{xs:List α} (h:aP H v xs):∃ a c,v=.slice a xs.length c/\xs.length<=c/\c<=maxLen:=by
 rcases h with ⟨⟨a,rfl⟩,rfl⟩ | ⟨b,off,cap,arr,T,fz,rfl,h2,h3,_⟩
 ·exact ⟨a,0,rfl,Pl _,by unfold maxLen; omega⟩
 ·exact ⟨_,cap,rfl,h2,h3⟩
theorem aP.val {α:Type}[aF α] {H:Hp}{v:Value}{xs:List α} (h:aP H v xs) {k:Nat}{e:α} (he:xs[k]? = some e):v=.slice (some (Value.base v)) xs.length (Value.nF v):=by
 rcases h with ⟨⟨a,rfl⟩,rfl⟩ | ⟨b,off,cap,arr,T,fz,rfl,_⟩
 ·simp at he
 ·rfl
theorem aP.elem {α:Type}[aF α] {H:Hp}{v:Value}{xs:List α} (h:aP H v xs) {k:Nat}{e:α} (he:xs[k]? = some e):
  ∃ cs,aF.E H cs e/\gS H ((Value.base v).add (k*aF.sz α)) cs:=by
 rcases h with ⟨⟨a,rfl⟩,rfl⟩ | ⟨b,off,cap,arr,T,fz,rfl,h2,h3,h4,h5,h6⟩
 ·simp at he
 ·obtain ⟨cs,h7,h8⟩:=h6 k e he
  refine ⟨cs,h7,λj c hc=>⟨arr,T,fz,?_,?_,?_⟩⟩
  ·simp only [Value.base,P5]; exact h4
  ·simp only [Value.base,P5]
  ·simp only [Value.base,P5]; exact h8 j c hc
section
variable {x:Cx}{ops:Array Oper}{Q:lC}{rest:List Oper}{H:Hp}{M M':List bL}{L L':Env}
variable {d:Nat}{ty:TypeId}{pos:String}{aft:Array Edge}{g:Option (Nat×Bool)}
theorem C1 {α:Type}[aF α] {t e:TypeId}{y z:Operand}{v:Value}{xs:List α}{el:α}{kk:IntKind}{i:Int} (hg:gd ops L ⟨some d,.indexAddr t y z,ty,pos,aft,g⟩=some true) (hN:Nat.blt d x.N=true)
  (hT:∀ w,(underlying t).run x.P w=.ok (.slice e) w) (hs:∀ w,(sizeOf e).run x.P w=.ok (aF.sz α) w)
  (hy:ev L y=some v) (hR:aP H v xs) (hz:ev L z=some (.int kk i)) (h0:0<=i) (he:xs[i.toNat]? = some el)
  (k:W x ops Q rest H M ((d,.pointer (some ((Value.base v).add (i.toNat*aF.sz α))))::L)):
  W x ops Q (⟨some d,.indexAddr t y z,ty,pos,aft,g⟩::rest) H M L:=
 HE hg hN hT hs (by rw [hy,<- hR.val he]) hz h0 (by rcases OY.1 he with ⟨h,_⟩; exact h) k
theorem HG {α:Type}[aF α] {t e:TypeId}{y:Operand}{v:Value}{xs:List α} (hg:gd ops L ⟨some d,.call ⟨.builtin .len,#[y],#[t]⟩,ty,pos,aft,g⟩=some true) (hN:Nat.blt d x.N=true)
  (hT:∀ w,(underlying t).run x.P w=.ok (.slice e) w) (hy:ev L y=some v) (hR:aP H v xs) (k:W x ops Q rest H M ((d,.int .i64 xs.length)::L)):
  W x ops Q (⟨some d,.call ⟨.builtin .len,#[y],#[t]⟩,ty,pos,aft,g⟩::rest) H M L:=by
 obtain ⟨a,c,rfl,_⟩:=hR.len;exact BU hg hN hT hy k
end
def over (l:List Value) (k:Nat):List Value->List Value
 | []=>l
 | v::vs=>over (l.set k v) (k+1) vs
theorem oR (vs:List Value):∀ (l:List Value) (k:Nat),(over l k vs).length=l.length:=by
 induction vs with
 | nil=>intro l k; rfl
 | cons v vs ih=>intro l k; simp [over,ih]
theorem jV {P:Program} (b o:Nat) (T:TypeId):∀ (vs:List Value) (i:Nat) (l:List Value) (w:World),w.heap[b]? = some (.cells l.toArray T (0,0)) ->
  o+i+vs.length<=l.length->(∀ v ∈ vs,v.oneCell'=true) ->
  ∃ w',(storeCells ⟨b,o,none⟩ vs i).run P w=.ok () w'/\w'.heap[b]? = some (.cells (over l (o+i) vs).toArray T (0,0))/\w.grownBy w' (some b)
 | [],i,l,w,h,_,_=>⟨w,rfl,h,⟨rfl,rfl,rfl,Pl _,λ_ _ _=>rfl⟩⟩
 | v::vs,i,l,w,h,hb,h1=>by
  have hlt:o+i<l.length:=by simp at hb; omega
  have hc:w.cell? ⟨b,o+i,none⟩=some l[o+i]:=Tc (w:=w) (ad:=⟨b,o+i,none⟩) h rfl (by simp [hlt])
  have hf:w.frozen? ⟨b,o+i,none⟩=false:=by simp [World.frozen?,h]
  have h':(w.setCell ⟨b,o+i,none⟩ v).heap[b]? = some (.cells (l.set (o+i) v).toArray T (0,0)):=by
   simp [World.setCell,S7,h]
  obtain ⟨w',hr,hh,hg⟩:=jV (P:=P) b o T vs (i+1) (l.set (o+i) v) (w.setCell ⟨b,o+i,none⟩ v) h' (by simp at hb ⊢; omega) (λu hu=>h1 u (O5 _ hu))
  refine ⟨w',?_,?_,?_⟩
  ·have hv:=h1 v (O0 ..)
   simp only [storeCells,O8,store,P5];have:(Sem.store Mode.plain ⟨b,o+i,none⟩ v (Sem.pure ())).run P w=.ok () (w.setCell ⟨b,o+i,none⟩ v):=by
    cases v <;> first
     | (simp [Sem.run,hc,hf]; done)
     | simp [Value.oneCell'] at hv
   rw [this];simpa using hr
  ·simpa [over,Q_] using hh
  ·exact ⟨hg.os,hg.tape,hg.output,by have:=hg.size; simpa [World.setCell] using this,λk hk hne=>by
    rw [hg.block k (by simpa [World.setCell] using hk) hne]
    exact Below.heap_setCell _ _ _ _ (by intro e; subst e; exact hne rfl)⟩
section
variable {x:Cx}{ops:Array Oper}{Q:lC}{rest:List Oper}{H:Hp}{M M':List bL}{L L':Env}
variable {ty:TypeId}{pos:String}{aft:Array Edge}{g:Option (Nat×Bool)}
theorem BX {T E:TypeId}{n:Nat}{y z:Operand}{b o:Nat}{l cs out:List Value}{v:Value} (hg:gd ops L ⟨none,.store T y z,ty,pos,aft,g⟩=some true)
  (hn:∀ w,(sizeOf T).run x.P w=.ok n w) (hy:ev L y=some (.pointer (some ⟨b,o,none⟩))) (hz:ev L z=some v) (hv:v.cells=cs.toArray) (hl:cs.length=n)
  (hb:Nat.ble (o+cs.length) l.length=true) (h1:∀ c ∈ cs,c.oneCell'=true) (ho:over l o cs=out)
  (k:W x ops Q rest H (.obj b (.cells out.toArray E (0,0))::M) L):
  W x ops Q (⟨none,.store T y z,ty,pos,aft,g⟩::rest) H (.obj b (.cells l.toArray E (0,0))::M) L:=
 BW rfl hg (λa w hs ht=>by
  subst ho;have hob:=ht.uO (O0 ..);obtain ⟨w',hr,hh,hgr⟩:=jV (P:=x.P) b o E cs 0 l w hob (by simpa [Ru] using hb) h1
  refine ⟨w',?_,H,_,ht.CS (r':=.obj b (.cells (over l o cs).toArray E (0,0))) hgr hh (λc hc=>.inl hc),k⟩;simp [execOp,hs.ev hy,hs.ev hz,Instr.storeAt,Instr.sureAddr,storeVar,hn,hl,hv,hr])
end
theorem least {p:Nat->Prop}:∀ n,p n->∃ m,p m/\∀ k,p k->m<=k:=by
 intro n
 induction n using Nat.strongRecOn with
 | _ n ih=>
  intro h
  by_cases hh:∃ m,m<n/\p m
  ·obtain ⟨m,hm,hp⟩:=hh; exact ih m hm hp
  ·exact ⟨n,h,λk hk=>by
    by_cases e:k<n
    ·exact absurd ⟨k,e,hk⟩ hh
    ·omega⟩
theorem Js {P:Program}{Q:lC}{c:Code} (J:Nat->Act->World->Prop) {n:Nat}{a:Act}{w:World} (h0:J n a w)
  (round:∀ n a w,J n a w->c.wp P (Exit.then (λa' w'=>∃ m,m<n/\J m a' w') Q) a w):(Code.loop c).wp P Q a w:=by
 have hex:∀ a w,(∃ n,J n a w)->∃ m,J m a w/\∀ k,J k a w->m<=k:=λa w ⟨n,h⟩=>least n h
 let μ:Act->World->Nat:=λa w=>Classical.epsilon (λm=>J m a w/\∀ k,J k a w->m<=k)
 have hμ:∀ a w,(∃ n,J n a w)->J (μ a w) a w/\∀ k,J k a w->μ a w<=k:=λa w h=>Classical.epsilon_spec (p:=λm=>J m a w/\∀ k,J k a w->m<=k) (hex a w h);refine wp_loop (λa w=>∃ n,J n a w) μ ⟨n,h0⟩ λa w h=>?_;refine wp_mono (round (μ a w) a w (hμ a w h).1) ?_;intro e a' w' hq;cases e with
 | normal=>
  obtain ⟨m,hm,hJ⟩:=hq;exact ⟨⟨m,hJ⟩,RS ((hμ a' w' ⟨m,hJ⟩).2 m hJ) hm⟩
 | _=>exact hq
abbrev Bm:=Nat->Hp->List bL->Env->Prop
def Hn (x:Cx) (S:Bm) (n:Nat) (a:Act) (w:World):Prop:=
 ∃ m,m<n/\∃ H M L,S m H M L/\Sl x.N L a/\St x.B x.w0 H M w
theorem zD {x:Cx}{c:Code}{Q:lC}{H:Hp}{M:List bL}{L:Env} (S:Bm) (n:Nat) (h0:S n H M L)
  (step:∀ n H M L,S n H M L->C x c (Exit.then (Hn x S n) Q) H M L):C x (.loop c) Q H M L:=by
 intro a w hs ht;refine Js (λn a w=>∃ H M L,S n H M L/\Sl x.N L a/\St x.B x.w0 H M w) ⟨H,M,L,h0,hs,ht⟩ ?_;intro n a w ⟨H,M,L,h,hs,ht⟩;exact step n H M L h a w hs ht
theorem wx {x:Cx}{S:Bm}{Q:lC}{H:Hp}{M:List bL}{L:Env}{n m:Nat} (hm:m<n) (h:S m H M L):E x .normal (Exit.then (Hn x S n) Q) H M L:=
 λ_ _ hs ht=>⟨m,hm,H,M,L,h,hs,ht⟩
section
variable {x:Cx}{Q:lC}{H:Hp}{M:List bL}{L:Env}{K:Act->World->Prop}
theorem jB (h:E x .ret Q H M L):E x .ret (Exit.then K Q) H M L:=h
theorem sJ {id:Nat} (h:E x .ret Q H M L):E x .ret (Exit.inBlock id Q) H M L:=h
theorem fU {id:Nat} (h:E x (.exit id) Q H M L):E x (.exit id) (Exit.then K Q) H M L:=h
theorem nb {id:Nat} (h:E x .normal Q H M L):E x (.exit id) (Exit.inBlock id Q) H M L:=λa w hs ht=>by
 simp only [Exit.inBlock,SF]; exact h a w hs ht
theorem sI {id id':Nat} (hne:Nat.beq id id'=false) (h:E x (.exit id) Q H M L):E x (.exit id) (Exit.inBlock id' Q) H M L:=λa w hs ht=>by
 have:¬ id=id':=λe=>by subst e; simp at hne
 simp only [Exit.inBlock,O2 this]; exact h a w hs ht
theorem nc {id:Nat} (h:E x .normal Q H M L):E x .normal (Exit.inBlock id Q) H M L:=h
end
abbrev Mz:=Hp->List bL->Env->Prop
theorem qZ {x:Cx}{c d:Code}{Q:lC}{H:Hp}{M:List bL}{L:Env} (S:Mz) (rest:∀ H M L,S H M L->C x d Q H M L)
  (k:(∀ H M L,S H M L->E x .normal (Exit.then (d.wp x.P Q) Q) H M L)->C x c (Exit.then (d.wp x.P Q) Q) H M L):C x (.seq c d) Q H M L:=
 bI (k λH M L h=>aT (rest H M L h))
theorem fP {α:Type}{xs ys:List α}{k:Nat} (h:xs.drop k=ys) (hb:decide ((k:Int)<(xs.length:Int))=true):
  ∃ y zs,ys=y::zs/\xs[k]? = some y/\xs.drop (k+1)=zs:=by
 have hk:k<xs.length:=by have:=O1 hb; omega
 refine ⟨xs[k],xs.drop (k+1),?_,OU hk,rfl⟩;rw [<- h,Px hk]
theorem fO {α:Type}{xs ys:List α}{k:Nat} (h:xs.drop k=ys) (hb:decide ((k:Int)<(xs.length:Int))=false):ys=[]:=by
 have hk:xs.length<=k:=by have:=O9 hb; omega
 rw [<- h,List.drop_eq_nil_of_le hk]
theorem wM {n:Int} (h0:-9223372036854775808<=n) (h1:n<=9223372036854775807):i64.wrap n=n:=by
 simp only [IntKind.wrap,IntKind.bits,IntKind.signed,Bool.true_and]
 split <;> rename_i h <;> simp at h <;> omega
theorem cB {α:Type}{xs:List α}{k:Nat}{y:α} (h:xs[k]? = some y) (hl:xs.length<=maxLen):i64.wrap ((k:Int)+1)=((k+1:Nat):Int):=by
 have hk:=(OY.1 h).1;unfold maxLen at hl;rw [wM (by omega) (by omega)]; rfl
theorem eI {k n:Nat} (h:k<n) (hl:n<=maxLen):i64.wrap ((k:Int)+1)=((k+1:Nat):Int):=by
 unfold maxLen at hl;rw [wM (by omega) (by omega)]; rfl
theorem aP.cQ {α:Type}[aF α] {H:Hp}{v:Value}{xs:List α} (h:aP H v xs):xs.length<=maxLen:=by
 obtain ⟨a,c,_,h1,h2⟩:=h.len; omega
def Dh:Nat->List Value->Env
 | _,[]=>[]
 | i,v::vs=>(i,v)::Dh (i+1) vs
theorem GJ (N:Nat):∀ (vs:List Value) (i:Nat) (t:Nat) (v:Value) (pre:List Value),pre.length=i->lk (Dh i vs) t=some v ->
  ((pre++vs).toArray++Array.replicate (N-(pre++vs).length) undef)[t]? = some v:=by
 intro vs
 induction vs with
 | nil=>intro i t v pre _ h; simp [Dh,lk] at h
 | cons u vs ih=>
  intro i t v pre hp h;simp only [Dh,sD] at h
  split at h
  ·rename_i e; subst e; cases h
   simp [Array.getElem?_append,<- hp]
  ·have:=ih (i+1) t v (pre++[u]) (by simp [hp]) h
   simpa using this
theorem enter {P:Program}{f:FuncId}{fn:Func}{c:Code}{vs:List Value}{N B:Nat}{w0 w:World}{H:Hp}{M:List bL}{Φ:Hp->List bL->Value->Prop}
  (hf:P.funcs[f]? = some fn) (hb:fn.body=some c) (hN:fn.ntmps=N) (hle:Nat.ble vs.length N=true) (ht:St B w0 H M w)
  (k:C ⟨P,N,B,w0⟩ c (bodyPost P fn (eA B w0 Φ)) H M (Dh 0 vs)):Calls P f vs.toArray w (eA B w0 Φ):=by
 refine calls_of_wp hf hb (k _ w ⟨?_,rfl,?_⟩ ht)
 ·have:vs.length<=N:=by simpa [Ru] using hle
  simp [hN]; omega
 ·intro t v h
  have:=GJ N vs 0 t v [] rfl h;simpa [hN] using this
section
variable {P:Program}{N B:Nat}{w0:World}{fn:Func}{Φ:Hp->List bL->Value->Prop}{H:Hp}{M:List bL}{L:Env}
theorem lj {t:Nat}{v:Value} (hr:fn.results=#[.tmp t]) (hl:lk L t=some v) (h:Φ H M v):E ⟨P,N,B,w0⟩ .ret (bodyPost P fn (eA B w0 Φ)) H M L:=
 λa w hs ht=>⟨hs.Df,v,by rw [results_tmp hr]; simp [PK,hs.get t v hl],H,M,ht,h⟩
theorem Bc {t u:Nat}{v1 v2:Value} (hr:fn.results=#[.tmp t,.tmp u]) (hl:lk L t=some v1) (hl2:lk L u=some v2) (h:Φ H M (.tuple #[v1,v2])):E ⟨P,N,B,w0⟩ .ret (bodyPost P fn (eA B w0 Φ)) H M L:=
 λa w hs ht=>⟨hs.Df,.tuple #[v1,v2],by rw [results_tmp2 hr]; simp [PK,hs.get t v1 hl,hs.get u v2 hl2],H,M,ht,h⟩
end
section
variable {α σ R:Type}
def idx (l:List α) (i:Int) (k:α->Option R):Option R:=
 if 0<=i then match l[i.toNat]? with
  | some y=>k y
  | none=>none
 else none
theorem aB {l:List α}{i:Int}{k:α->Option R}{r:R} (h:idx l i k=some r):∃ y,0<=i/\l[i.toNat]? = some y/\k y=some r:=by
 unfold idx at h
 split at h
 ·cases hl:l[i.toNat]? with
  | none=>rw [hl] at h; cases h
  | some y=>rw [hl] at h; exact ⟨y,‹_›,rfl,h⟩
 ·cases h
def dG (p:Prop) [Decidable p] (k:Option R):Option R:=if p then k else none
theorem aL {p:Prop}[Decidable p] {k:Option R}{r:R} (h:dG p k=some r):p/\k=some r:=by
 unfold dG at h
 split at h
 ·exact ⟨‹_›,h⟩
 ·cases h
theorem bind_some {o:Option α}{k:α->Option R}{r:R} (h:o.bind k=some r):∃ y,o=some y/\k y=some r:=by
 cases o with
 | none=>cases h
 | some y=>exact ⟨y,rfl,h⟩
def dR (body:Nat->α->σ->(σ->Option R)->Option R) (k:σ->Option R):Nat->List α->σ->Option R
 | _,[],s=>k s
 | i,y::ys,s=>body i y s (dR body k (i+1) ys)
def jN (body:Nat->σ->(σ->Option R)->Option R) (k:σ->Option R):Nat->Nat->σ->Option R
 | 0,_,s=>k s
 | n+1,i,s=>body i s (jN body k n (i+1))
def gH (body:σ->(σ->Option R)->Option R):Nat->σ->Option R
 | 0,_=>none
 | n+1,s=>body s (gH body n)
def fC:Nat:=1152921504606846976
end
theorem yJ (X Y:Env) (t:Nat):lk (X++Y) t=(lk X t).or (lk Y t):=by
 induction X with
 | nil=>simp [lk]
 | cons p X ih=>
  obtain ⟨u,v⟩:=p;simp only [Q8,sD]
  split <;> simp [ih]
theorem EO {X:Env}{t:Nat}{v:Value} (h:lk X t=some v):(t,v) ∈ X:=by
 induction X with
 | nil=>simp [lk] at h
 | cons p X ih=>
  obtain ⟨u,w⟩:=p;rw [sD] at h
  split at h
  ·rename_i e; subst e; cases h; exact O0 ..
  ·exact O5 _ (ih h)
theorem Sl.more {N:Nat}{L X:Env}{a:Act} (h:Sl N L a) (hX:∀ t v,(t,v) ∈ X->a.tmps[t]? = some v):Sl N (L++X) a:=
 ⟨h.size,h.Df,λt v ht=>by
  rw [yJ] at ht;cases hl:lk L t with
  | some u=>rw [hl] at ht; simp at ht; subst ht; exact h.get t _ hl
  | none=>rw [hl] at ht; simp at ht; exact hX t v (EO ht)⟩
theorem Sl.cons {N:Nat}{L:Env}{a:Act}{t:Nat}{v:Value} (h:Sl N L a) (hv:a.tmps[t]? = some v):Sl N ((t,v)::L) a:=
 ⟨h.size,h.Df,λu w hu=>by
  rw [sD] at hu
  split at hu
  ·rename_i e; subst e; cases hu; exact hv
  ·exact h.get u w hu⟩
theorem Sl.left {N:Nat}{L X:Env}{a:Act} (h:Sl N (L++X) a):Sl N L a:=
 ⟨h.size,h.Df,λt v ht=>h.get t v (by rw [yJ,ht]; rfl)⟩
def g_ (o:Oper):List Nat:=(o.after.toList.filter λe=>Region.binds .any e).map (·.on)
def Jz (l:List Oper) (Φ:Nat->Hp->Value->Prop) (H:Hp):List Nat->Env->(Env->Prop)->Prop
 | [],L,k=>k L
 | j::js,L,k=>match (l[j]?).bind (·.dst) with
  | some t=>∀ v,Φ j H v->Jz l Φ H js ((t,v)::L) k
  | none=>Jz l Φ H js L k
def One (x:Cx) (H:Hp) (M:List bL) (L:Env) (t:Nat) (φ:Hp->Value->Prop):lC:=λe a w=>
 e=.normal/\∃ v H',Sl x.N ((t,v)::L) a/\H.le H'/\St x.B x.w0 H' M w/\φ H' v
def JA (x:Cx) (l:List Oper) (Φ:Nat->Hp->Value->Prop) (H:Hp) (M:List bL) (L:Env):Nat->List Oper->Prop
 | _,[]=>True
 | i,o::r=>(∀ H',H.le H'->∀ X,Jz l Φ H' (g_ o) (L++X) (λL'=>W x l.toArray (One x H' M L' (o.dst.getD 0) (Φ i)) [o] H' M L'))/\JA x l Φ H M L (i+1) r
theorem JA.at {x:Cx}{l:List Oper}{Φ:Nat->Hp->Value->Prop}{H:Hp}{M:List bL}{L:Env}:∀ {r:List Oper}{i:Nat},JA x l Φ H M L i r->∀ j o,r[j]? = some o ->
  ∀ H',H.le H'->∀ X,Jz l Φ H' (g_ o) (L++X) (λL'=>W x l.toArray (One x H' M L' (o.dst.getD 0) (Φ (i+j))) [o] H' M L')
 | [],_,_,j,o,h=>by simp at h
 | p::r,i,hh,0,o,h=>by simp at h; subst h; exact hh.1
 | p::r,i,hh,j+1,o,h=>by
  have:=JA.at hh.2 j o (by simpa using h)
  rwa [show i+1+j=i+(j+1) from by omega] at this
theorem Jz.use {l:List Oper}{Φ:Nat->Hp->Value->Prop}{H:Hp}{a:Act}{N:Nat}:∀ {js:List Nat}{L:Env}{k:Env->Prop},Jz l Φ H js L k->Sl N L a ->
  (∀ j ∈ js,∀ t,(l[j]?).bind (·.dst)=some t->∃ v,a.tmps[t]? = some v/\Φ j H v)->∃ Y,k (Y++L)/\Sl N (Y++L) a/\∀ t v,(t,v) ∈ Y->a.tmps[t]? = some v
 | [],L,k,h,hs,_=>⟨[],h,hs,by simp⟩
 | j::js,L,k,h,hs,hv=>by
  unfold Jz at h;cases hd:(l[j]?).bind (·.dst) with
  | none=>
   rw [hd] at h;exact Jz.use h hs (λi hi=>hv i (O5 _ hi))
  | some t=>
   rw [hd] at h;obtain ⟨v,h1,h2⟩:=hv j (O0 ..) t hd;obtain ⟨Y,h3,h4,h5⟩:=Jz.use (h v h2) (hs.cons h1) (λi hi=>hv i (O5 _ hi));refine ⟨Y++[(t,v)],by simpa using h3,by simpa using h4,?_⟩
   intro u w hm;rcases Pa.1 hm with hm | hm
   ·exact h5 u w hm
   ·simp at hm; obtain ⟨rfl,rfl⟩:=hm; exact h1
theorem mem_ready {ops:Array Oper}{listed:Array Bool}{i:Nat}:i ∈ Region.ready .any ops listed↔i<ops.size/\listed.getD i true=false/\∃ o,ops[i]? = some o/\∀ j ∈ g_ o,listed.getD j false=true:=by
 unfold Region.ready g_;simp only [P6,PR,QB,Bool.not_eq_true'];refine and_congr_right λhi=>and_congr_right λ_=>?_;have:ops[i]? = some ops[i]:=RC hi;simp only [this,Qo,QT,Array.all_eq_true',Pf,PL,P6,Array.mem_toList_iff,Qu,Bool.not_eq_true'];constructor
 ·intro h
  refine ⟨_,rfl,?_⟩;rintro j ⟨e,⟨he,hb⟩,rfl⟩;rcases h e he with h | h
  ·rw [h] at hb; cases hb
  ·exact h
 ·rintro ⟨o,rfl,h⟩ e he
  cases hb:Region.binds .any e with
  | false=>exact .inl rfl
  | true=>exact .inr (h _ ⟨e,⟨he,hb⟩,rfl⟩)
section
variable {x:Cx}{l:List Oper}{m:Nat}{Φ:Nat->Hp->Value->Prop}{H:Hp}{M:List bL}{L:Env}{Q:lC}
theorem tQ (b:Array Bool) (i j:Nat) (d:Bool) (hi:i<b.size):(b.setIfInBounds i true).getD j d=if j=i then true else b.getD j d:=by
 simp only [PK,Ss]
 by_cases e:i=j
 ·subst e; simp [hi]
 ·simp [e,Ne.symm e]
def left (l:List Oper) (listed:Array Bool):Nat:=(List.range l.length).countP λi=>!listed.getD i true
theorem IH {listed:Array Bool}{i:Nat} (hsz:listed.size=l.length) (hi:i<l.length) (hl:listed.getD i true=false):left l (listed.setIfInBounds i true)+1=left l listed:=by
 unfold left;have key:∀ n,i<n->n<=l.length->(List.range n).countP (λj=>!(listed.setIfInBounds i true).getD j true)+1=(List.range n).countP (λj=>!listed.getD j true):=by
  intro n
  induction n with
  | zero=>omega
  | succ n ih=>
   intro h1 h2;rw [Sd,List.countP_append,List.countP_append]
   by_cases e:i=n
   ·subst e
    have:∀ n,n<=i->(List.range n).countP (λj=>!(listed.setIfInBounds i true).getD j true)=(List.range n).countP (λj=>!listed.getD j true):=by
     intro n hn;refine List.countP_congr λj hj=>?_;have hj':=PR.1 hj;rw [tQ _ _ _ _ (by omega),O2 (by omega)]
    rw [this i (Pl _)];simp only [List.countP_cons,List.countP_nil,tQ _ _ _ _ (by omega:i<listed.size),hl,SF]
    simp
   ·have:=ih (by omega) (by omega)
    have h3:(listed.setIfInBounds i true).getD n true=listed.getD n true:=by rw [tQ _ _ _ _ (by omega),O2 (by omega)]
    simp only [List.countP_cons,List.countP_nil,h3];omega
 exact key l.length hi (Pl _)
end
structure U8 where
 n:Int
 deriving DecidableEq
structure Nv where
 n:Int
 deriving DecidableEq
structure bP where
 n:Int
 deriving DecidableEq
structure Nw where
 n:Int
 deriving DecidableEq
structure Nt where
 n:Int
 deriving DecidableEq
instance:aF U8 where
 sz:=1
 E _ cs x:=cs=[.int .u8 x.n]
 len h:=by rw [h]; rfl
 mono _ h:=h
 one h c hc:=by rw [h] at hc; simp at hc; subst hc; rfl
instance:aF Nv where
 sz:=1
 E _ cs x:=cs=[.int .u16 x.n]
 len h:=by rw [h]; rfl
 mono _ h:=h
 one h c hc:=by rw [h] at hc; simp at hc; subst hc; rfl
instance:aF bP where
 sz:=1
 E _ cs x:=cs=[.int .u32 x.n]
 len h:=by rw [h]; rfl
 mono _ h:=h
 one h c hc:=by rw [h] at hc; simp at hc; subst hc; rfl
instance:aF Nw where
 sz:=1
 E _ cs x:=cs=[.int .u64 x.n]
 len h:=by rw [h]; rfl
 mono _ h:=h
 one h c hc:=by rw [h] at hc; simp at hc; subst hc; rfl
instance:aF Nt where
 sz:=1
 E _ cs x:=cs=[.int .i32 x.n]
 len h:=by rw [h]; rfl
 mono _ h:=h
 one h c hc:=by rw [h] at hc; simp at hc; subst hc; rfl
theorem aP.nil {α:Type}[aF α] {H:Hp}:aP H (.slice none 0 0) ([]:List α):=.inl ⟨⟨_,rfl⟩,rfl⟩
theorem aP.cells {α:Type}[aF α] {H:Hp}{v:Value}{xs:List α} (h:aP H v xs):v.cells=[v].toArray:=by
 obtain ⟨a,c,rfl,_⟩:=h.len; rfl
theorem aP.og {α:Type}[aF α] {H:Hp}{v:Value}{xs:List α} (h:aP H v xs):v.oneCell'=true:=by
 obtain ⟨a,c,rfl,_⟩:=h.len; rfl
theorem QG:∀ c ∈ ([]:List Value),c.oneCell'=true:=by intro c hc; cases hc
theorem O_ {v:Value}{l:List Value} (h:v.oneCell'=true) (k:∀ c ∈ l,c.oneCell'=true):∀ c ∈ v::l,c.oneCell'=true:=by
 intro c hc;rcases PH.1 hc with rfl | hc
 ·exact h
 ·exact k c hc
theorem gS.one {H:Hp}{ad:Addr}{cs:List Value} (h:gS H ad cs) (j:Nat) {c:Value} (hc:cs[j]? = some c):zG H (ad.add j) c:=h j c hc
theorem gS.part {H:Hp}{ad:Addr}{cs ds:List Value}{k:Nat} (h:gS H ad cs) (hd:(cs.drop k).take ds.length=ds):gS H (ad.add k) ds:=by
 intro j c hc;have hj:j<ds.length:=(OY.1 hc).1;have:cs[k+j]? = some c:=by
  rw [<- hd,PN,O3 hj,PG] at hc; exact hc
 have:=h (k+j) c this;have e:(ad.add k).add j=ad.add (k+j):=by
  unfold Addr.add
  by_cases h1:k=0
  ·subst h1; simp
  ·by_cases h2:j=0
   ·subst h2; simp
   ·simp [h1,h2,Q_]
 rw [e]; exact this
theorem dT {x:Cx}{H:Hp}{M:List bL}{b k:Nat}{l ds:List Value}{T:TypeId}{fz:Nat×Nat}
  (hm:bL.obj b (.cells l.toArray T fz) ∈ M) (hd:(l.drop k).take ds.length=ds):xU x H M ⟨b,k,none⟩ ds:=by
 intro j c hc;have hj:j<ds.length:=(OY.1 hc).1;rw [P5];refine uP hm ?_;rw [<- hd,PN,O3 hj,PG] at hc; exact hc
theorem BL {x:Cx}{e:Exit}{Q:lC}{H:Hp}{M M':List bL}{L L':Env} (k:E x e Q H M' L') (hM:M.Perm M') (hL:Kept L L'):E x e Q H M L:=BK hL hM k
theorem eG {α:Type}{b:Bool}{p q r:α} (hb:b=true) (h:(if b=true then p else q)=r):p=r:=by rw [O3 hb] at h; exact h
theorem eF {α:Type}{b:Bool}{p q r:α} (hb:b=false) (h:(if b=true then p else q)=r):q=r:=by rw [O2 (by simp [hb])] at h; exact h
section
variable {P:Program}{N B:Nat}{w0:World}{fn:Func}{H H0:Hp}{M:List bL}{L:Env}
end
def pD {α:Type}[aF α] (H:Hp):List Value->List α->Prop
 | cs,[]=>cs=[]
 | cs,y::ys=>∃ c r,cs=c++r/\aF.E H c y/\pD H r ys
section
variable {α:Type}[aF α] {H H':Hp}
theorem pD.nil:pD H [] ([]:List α):=rfl
theorem pD.cons {c r:List Value}{y:α}{ys:List α} (h:aF.E H c y) (k:pD H r ys):pD H (c++r) (y::ys):=⟨c,r,rfl,h,k⟩
theorem pD.mono (hle:H.le H'):∀ {cs:List Value}{ys:List α},pD H cs ys->pD H' cs ys
 | _,[],h=>h
 | _,_::_,⟨c,r,e,h,k⟩=>⟨c,r,e,aF.mono hle h,pD.mono hle k⟩
theorem pD.len:∀ {cs:List Value}{ys:List α},pD H cs ys->cs.length=ys.length*aF.sz α
 | _,[],h=>by rw [show _=[] from h]; simp
 | _,_::ys,⟨c,r,e,h,k⟩=>by rw [e,Pg,aF.len h,pD.len k,O6,Pk]; omega
theorem pD.app:∀ {cs ds:List Value}{ys zs:List α},pD H cs ys->pD H ds zs->pD H (cs++ds) (ys++zs)
 | _,ds,[],zs,h,k=>by rw [show _=[] from h]; simpa using k
 | _,ds,y::ys,zs,⟨c,r,e,h,k⟩,k2=>⟨c,r++ds,by rw [e,Pr],h,pD.app k k2⟩
theorem pD.one:∀ {cs:List Value}{ys:List α},pD H cs ys->∀ c ∈ cs,c.oneCell'=true
 | _,[],h=>by rw [show _=[] from h]; simp
 | _,_::_,⟨c,r,e,h,k⟩=>by
  intro d hd;rw [e] at hd;rcases Pa.1 hd with hd | hd
  ·exact aF.one h d hd
  ·exact pD.one k d hd
theorem pD.get:∀ {cs:List Value}{ys:List α},pD H cs ys->∀ k e,ys[k]? = some e->∃ c,aF.E H c e/\∀ j v,c[j]? = some v->cs[k*aF.sz α+j]? = some v
 | _,[],h,k,e,he=>by simp at he
 | _,y::ys,⟨c,r,e,h,k⟩,0,x,hx=>by
  simp at hx; subst hx
  exact ⟨c,h,λj v hv=>by rw [e,Qt,Pm,Qa (OY.1 hv).1]; exact hv⟩
 | _,y::ys,⟨c,r,e,h,k⟩,n+1,x,hx=>by
  obtain ⟨d,h1,h2⟩:=pD.get k n x (by simpa using hx)
  refine ⟨d,h1,λj v hv=>?_⟩;rw [e,Pz (by rw [aF.len h,Pk]; omega),aF.len h]
  rw [show (n+1)*aF.sz α+j-aF.sz α=n*aF.sz α+j from by rw [Pk]; omega]
  exact h2 j v hv
theorem pD.split:∀ {cs:List Value}{ys:List α} (k:Nat),pD H cs ys->pD H (cs.take (k*aF.sz α)) (ys.take k)/\pD H (cs.drop (k*aF.sz α)) (ys.drop k)
 | cs,ys,0,h=>by rw [Qt]; exact ⟨rfl,h⟩
 | _,[],k+1,h=>by rw [show _=[] from h,List.take_nil,List.drop_nil,List.take_nil,List.drop_nil]; exact ⟨rfl,rfl⟩
 | _,y::ys,k+1,⟨c,r,e,h,k2⟩=>by
  obtain ⟨h1,h2⟩:=pD.split k k2;have hl:=aF.len h;subst e;have e1:(k+1)*aF.sz α=c.length+k*aF.sz α:=by rw [Pk,hl]; omega
  rw [e1,List.take_length_add_append,List.drop_length_add_append];exact ⟨⟨c,_,rfl,h,h1⟩,h2⟩
theorem pD.put {cs c:List Value}{ys:List α}{y:α}{k:Nat} (h:pD H cs ys) (hk:k<ys.length) (hy:aF.E H c y):
  pD H (cs.take (k*aF.sz α)++c++cs.drop ((k+1)*aF.sz α)) (ys.set k y):=by
 obtain ⟨h1,_⟩:=h.split k;obtain ⟨_,h2⟩:=h.split (k+1);have:ys.set k y=ys.take k++y::ys.drop (k+1):=by rw [R2,O3 hk]
 rw [this,Pr];exact h1.app (pD.cons hy h2)
theorem aP.flat {v : Value} {ys : List α} (h : aP H v ys) : ∃ cs, pD H cs ys ∧ ((∃ a, v = .slice a 0 0) ∧ ys = [] ∨ gS H (Value.base v) cs ∧ ∃ b off c, v = .slice (some ⟨b, off, none⟩) ys.length c) := by
  rcases h with ⟨⟨a, rfl⟩, rfl⟩ | ⟨b, off, cap, arr, T, fz, rfl, h2, h3, h4, h5, h6⟩
  · exact ⟨[], pD.nil, .inl ⟨⟨a, rfl⟩, rfl⟩⟩
  · have key : ∀ (zs : List α) (k : Nat), (∀ j e, zs[j]? = some e → ∃ cs, aF.E H cs e ∧ ∀ i c, cs[i]? = some c → arr[off + (k + j) * aF.sz α + i]? = some c) →
        ∃ cs, pD H cs zs ∧ ∀ i c, cs[i]? = some c → arr[off + k * aF.sz α + i]? = some c := by
      intro zs
      induction zs with
      | nil => intro k _; exact ⟨[], pD.nil, by simp⟩
      | cons z zs ih =>
        intro k hz;obtain ⟨c, hc, hcc⟩ := hz 0 z rfl;obtain ⟨r, hr, hrr⟩ := ih (k + 1) (fun j e he => by
          obtain ⟨cs, q1, q2⟩ := hz (j + 1) e (by simpa using he)
          exact ⟨cs, q1, fun i c hc => by rw [show k + 1 + j = k + (j + 1) from by omega]; exact q2 i c hc⟩)
        refine ⟨c ++ r, pD.cons hc hr, fun i d hd => ?_⟩;rw [Q2] at hd
        split at hd
        · simpa using hcc i d hd
        · rename_i hn
          have := hrr _ d hd;rw [aF.len hc] at this hn;rw [show off + k * aF.sz α + i = off + (k + 1) * aF.sz α + (i - aF.sz α) from by rw [Pk]; omega]
          exact this
    obtain ⟨cs, hcs, hh⟩ := key ys 0 (fun j e he => by simpa using h6 j e he)
    refine ⟨cs, hcs, .inr ⟨fun i c hc => ⟨arr, T, fz, ?_, ?_, ?_⟩, b, off, cap, rfl⟩⟩
    · simp only [Value.base, P5]; exact h4
    · simp only [Value.base, P5]
    · simp only [Value.base, P5]; simpa using hh i c hc
end
structure Mp (P:Program) (T:TypeId) (sz bytes:Nat) (z:Value):Prop where
 ex:∃ i,P.info? T=some i/\i.size=sz/\i.bytes=bytes/\i.zero=some z
theorem St.uZ {α:Type}[aF α] {B:Nat}{w0 w:World}{H:Hp}{M:List bL}{v:Value}{T:TypeId}{n:Nat}{xs:List Value}{ys:List α}
  (h:St B w0 H (.row v T (aF.sz α) n xs::M) w) (hx:pD H xs ys) (hs:0<aF.sz α):∃ H',H.le H'/\St B w0 H' M w/\aP H' v ys:=by
 have hok:=h.ok _ (O0 ..);obtain ⟨hl,hh⟩:=hok;have hn:n=ys.length:=by
  have:=hx.len;rw [hl] at this;exact QC hs this
 subst hn;rcases hh with ⟨rfl,h0⟩ | ⟨g,off,cap,cur,rfl,hg,hnc,hcm,hcs,htake⟩
 ·refine ⟨H,PT _,h.tail,.inl ⟨⟨_,rfl⟩,Pw h0⟩⟩
 ·have h':St B w0 H (.obj g (.cells cur T (0,0))::M) w:=by
   refine ⟨h.below,h.le,h.tG,?_,?_,h.nd⟩
   ·intro r hr
    rcases PH.1 hr with rfl | hr
    ·exact hg
    ·exact h.tail.ok r hr
   ·intro r hr
    rcases PH.1 hr with rfl | hr
    ·exact h.lo (.row _ T (aF.sz α) ys.length xs) (O0 ..)
    ·exact h.tail.lo r hr
  obtain ⟨hle,hst⟩:=h'.freeze;refine ⟨_,hle,hst,.inr ⟨g,off,cap,cur,T,(0,0),rfl,hnc,hcm,Hp.wH _ _ _,hcs,?_⟩⟩;intro k e he;obtain ⟨c,h1,h2⟩:=(hx.mono hle).get k e he;refine ⟨c,h1,λj d hd=>?_⟩;have:=h2 j d hd;rw [<- htake,PN] at this
  split at this
  ·rw [PG] at this; simpa [Q_] using this
  ·cases this
theorem vH:∀ (vs l:List Value) (k:Nat),k+vs.length<=l.length->over l k vs=l.take k++vs++l.drop (k+vs.length)
 | [],l,k,_=>by simp [over]
 | v::vs,l,k,h=>by
  simp only [O6] at h;rw [over,vH vs _ _ (by simp; omega)]
  have hk:k<l.length:=by omega
  rw [Po (by simpa using hk)]
  simp only [List.getElem_set_self,O6];rw [RM (by omega),Rh (by omega)]
  simp only [Pr,Q8,Qy];rw [show k+1+vs.length=k+(vs.length+1) from by omega]
theorem CG {P:Program}{w:World}{t ty e:TypeId}{i:TypeInfo}{z:Value}{size bytes:Nat} (ht:P.underlying t=some (.slice e)) (hi:P.info? e=some i) (hz:i.zero=some z)
  (hsize:i.size=size) (hby:i.bytes=bytes) (hzs:z.cells.size=size) (hsz:0<size)
  {v:Value}{n:Nat}{xs:List Value} (hown:iB w e size v n xs)
  {a:Addr}{m c:Nat}{news:List Value} (hl:news.length=m*size) (hnews:∀ j u,news[j]? = some u->w.cell? (a.add j)=some u) (h1:∀ u ∈ news,u.oneCell'=true)
  (h63:n+m<=maxLen) (hbytes:(n+m)*bytes<=140737488355328):
  ∃ v' w',(Builtin.append_ #[t,t] ty #[v,.slice (some a) m c]).run P w=.ok v' w'/\iB w' e size v' (n+m) (xs++news)/\w.grownBy w' v.ownBlock /\
   (∀ b,v'.ownBlock=some b->v.ownBlock=some b\/w.heap.size<=b):=by
 subst hsize;subst hby;have hsmall:n+m<=9223372036854775807:=by simp only [maxLen] at h63; omega
 have hlen:(xs++news).length=(n+m)*i.size:=by rw [Pg,hown.1,hl,Pk]
 have grown:∀ (uh:Nat) (row:Option Nat),
   iB (w.drew.alloc (.cells (xs.toArray++news.toArray++Builtin.zeroCells z.cells (grownCap w (n+m) uh e-(n+m))) e)) e i.size
    (.slice (some ⟨w.heap.size,0,none⟩) (n+m) (grownCap w (n+m) uh e)) (n+m) (xs++news) /\
   w.grownBy (w.drew.alloc (.cells (xs.toArray++news.toArray++Builtin.zeroCells z.cells (grownCap w (n+m) uh e-(n+m))) e)) row:=by
  intro uh row;have hge:=Tr w (n+m) uh e;have hcm:grownCap w (n+m) uh e<=maxLen:=SR w (n+m) uh e h63;refine ⟨⟨hlen,.inr ⟨w.heap.size,0,_,_,rfl,SX w.drew _,hge,hcm,?_,?_⟩⟩,⟨rfl,rfl,rfl,by simp,λk hk _=>heap_alloc_old w.drew _ (h:=hk)⟩⟩
  ·simp only [Array.size_append,RF,size_zeroCells,hzs,hown.1,hl,<- Pk,Pm]
   rw [show n+m+(grownCap w (n+m) uh e-(n+m))=grownCap w (n+m) uh e from by omega]
   exact Pl _
  ·simp only [Qh,Tj,Pr]
   rw [<- Pr,<- hlen];exact R4
 rcases hown.2 with ⟨rfl,rfl⟩ | ⟨g,off,cap,cur,rfl,hg,hnc,hcm,hcs,htake⟩
 ·have hx:xs=[]:=Pw (by simpa using hown.1)
  subst hx
  by_cases hm:m=0
  ·subst hm
   have hn:news=[]:=Pw (by simpa using hl)
   subst hn;refine ⟨.slice none 0 0,w,?_,iB.nil w e i.size,⟨rfl,rfl,rfl,Pl _,λ_ _ _=>rfl⟩,by simp [Value.ownBlock]⟩
   simp [Builtin.append_,Qr ht,sizeOf,typeInfo,hi,Builtin.lenOf,Builtin.firstCells,loadCells,loadCellsFrom]
  ·have hr:=run_append_nil (P:=P) w t ty e i z ht hi hz a m c news hl hnews (by omega) (by omega) (by have hb:=hbytes; simp only [Pm] at hb; omega)
   have hgr:=grown 0 (Value.ownBlock (.slice none 0 0));simp only [Pm,Qy,Array.empty_append] at hgr ⊢;exact ⟨_,_,hr,hgr.1,hgr.2,λb hb=>.inr (by simp only [Value.ownBlock,Pf] at hb; omega)⟩
 ·by_cases hroom:n+m<=cap
  ·have hfit:off+n*i.size+news.length<=cur.size:=by
    have:(n+m)*i.size<=cap*i.size:=Pe _ hroom;rw [Pk] at this;omega
   have hf:=Tn (P:=P) w i.size m a m c news hl hnews;obtain ⟨w',hst,hh,hgr⟩:=jV (P:=P) g (off+n*i.size) e news 0 cur.toList w (by simpa using hg) (by simpa using hfit) h1
   refine ⟨.slice (some ⟨g,off,none⟩) (n+m) cap,w',?_,⟨hlen,.inr ⟨g,off,cap,_,rfl,hh,hroom,hcm,?_,?_⟩⟩,hgr,λb hb=>.inl hb⟩
   ·simp [Builtin.append_,Qr ht,sizeOf,typeInfo,hi,Builtin.lenOf,hroom,hf,P5,hst]
   ·simpa [oR] using hcs
   ·rw [Rj,Qs,vH _ _ _ (by simpa using hfit)]
    have hd:(cur.toList.take (off+n*i.size)).drop off=xs:=by rw [Rc,Q0]; exact htake
    rw [Pr,RI (by simp; omega),hd,<- Pr,<- hlen]
    exact R4
  ·have holds:∀ j u,xs[j]? = some u->w.cell? ((⟨g,off,none⟩:Addr).add j)=some u:=by
    intro j u hu;rw [P5];refine Tc hg rfl ?_;rw [<- htake,PN] at hu
    split at hu
    ·rw [PG] at hu; simpa using hu
    ·cases hu
   have hr:=run_append_grow (P:=P) w t ty e i z ht hi hz ⟨g,off,none⟩ n cap xs hown.1 holds a m c news hl hnews (by omega) (by omega) (Tp (by omega) hbytes)
   have hgr:=grown cap (Value.ownBlock (.slice (some ⟨g,off,none⟩) n cap));exact ⟨_,_,hr,hgr.1,hgr.2,λb hb=>.inr (by simp only [Value.ownBlock,Pf] at hb; omega)⟩
section
variable {x:Cx}{ops:Array Oper}{Q:lC}{rest:List Oper}{H:Hp}{M M':List bL}{L L':Env}
variable {d:Nat}{ty:TypeId}{pos:String}{aft:Array Edge}{g:Option (Nat×Bool)}
theorem bV {α:Type}[aF α] {v:Value}{T:TypeId}{n:Nat}{xs:List Value}{ys:List α} (hx:pD H xs ys) (hs:Nat.blt 0 (aF.sz α)=true)
  (k:∀ H',H.le H'->aP H' v ys->W x ops Q rest H' M L):W x ops Q rest H (.row v T (aF.sz α) n xs::M) L:=by
 intro a w hsl ht;obtain ⟨H',h1,h2,h3⟩:=ht.uZ hx (by simpa [P7] using hs)
 exact k H' h1 h3 a w hsl h2
theorem qP {α:Type}[aF α] {e:Exit}{v:Value}{T:TypeId}{n:Nat}{xs:List Value}{ys:List α} (hx:pD H xs ys) (hs:Nat.blt 0 (aF.sz α)=true)
  (k:∀ H',H.le H'->aP H' v ys->E x e Q H' M L):E x e Q H (.row v T (aF.sz α) n xs::M) L:=by
 intro a w hsl ht;obtain ⟨H',h1,h2,h3⟩:=ht.uZ hx (by simpa [P7] using hs)
 exact k H' h1 h3 a w hsl h2
theorem CT {α:Type}[aF α] {c:Code}{v:Value}{T:TypeId}{n:Nat}{xs:List Value}{ys:List α} (hx:pD H xs ys) (hs:Nat.blt 0 (aF.sz α)=true)
  (k:∀ H',H.le H'->aP H' v ys->C x c Q H' M L):C x c Q H (.row v T (aF.sz α) n xs::M) L:=by
 intro a w hsl ht;obtain ⟨H',h1,h2,h3⟩:=ht.uZ hx (by simpa [P7] using hs)
 exact k H' h1 h3 a w hsl h2
theorem xZ (T:TypeId) (sz:Nat) (k:W x ops Q rest H (.row (.slice none 0 0) T sz 0 []::M) L):W x ops Q rest H M L:=
 λa w hsl ht=>k a w hsl (ht.AH T sz)
theorem cD {e:Exit} (T:TypeId) (sz:Nat) (k:E x e Q H (.row (.slice none 0 0) T sz 0 []::M) L):E x e Q H M L:=
 λa w hsl ht=>k a w hsl (ht.AH T sz)
theorem jJ {c:Code} (T:TypeId) (sz:Nat) (k:C x c Q H (.row (.slice none 0 0) T sz 0 []::M) L):C x c Q H M L:=
 λa w hsl ht=>k a w hsl (ht.AH T sz)
theorem HB {α:Type}[aF α] {t e:TypeId}{bytes n:Nat}{z:Value}{y u:Operand}{v vu:Value}{xs:List Value}{l ys:List α}
  (hg:gd ops L ⟨some d,.call ⟨.builtin .append,#[y,u],#[t,t]⟩,ty,pos,aft,g⟩=some true) (hN:Nat.blt d x.N=true)
  (hT:x.P.underlying t=some (.slice e)) (hi:Mp x.P e (aF.sz α) bytes z) (hz:z.cells.size=aF.sz α) (hs:Nat.blt 0 (aF.sz α)=true) (hb0:Nat.blt 0 bytes=true)
  (hy:ev L y=some v) (hu:ev L u=some vu) (hx:pD H xs l) (hR:aP H vu ys) (hb:(l.length+ys.length)*bytes<=140737488355328)
  (k:∀ v' n' xs',pD H xs' (l++ys)->W x ops Q rest H (.row v' e (aF.sz α) n' xs'::M) ((d,v')::L)):
  W x ops Q (⟨some d,.call ⟨.builtin .append,#[y,u],#[t,t]⟩,ty,pos,aft,g⟩::rest) H (.row v e (aF.sz α) n xs::M) L:=by
 obtain ⟨i,h1,h2,h3,h4⟩:=hi.ex;have hs':0<aF.sz α:=by simpa [P7] using hs
 have hb0':0<bytes:=by simpa [P7] using hb0
 have hmax:l.length+ys.length<=maxLen:=by
  have:l.length+ys.length<=(l.length+ys.length)*bytes:=RJ _ hb0';unfold maxLen; omega
 refine rY rfl hg hN λa w hsl ht=>?_;have hown:iB w e (aF.sz α) v n xs:=ht.ok _ (O0 ..);have hn:n=l.length:=by
  have:=hx.len;rw [hown.1] at this;exact QC hs' this
 subst hn;obtain ⟨cs,hcs,hcase⟩:=hR.flat;rcases hcase with ⟨⟨ea,rfl⟩,rfl⟩ | ⟨hc,b,off,c,rfl⟩
 ·have hcs':cs=[]:=hcs
  subst hcs';refine ⟨v,w,?_,H,_,ht,k v _ xs (by simpa using hx)⟩
  rcases hown.2 with ⟨rfl,h0⟩ | ⟨g,off,cap,cur,rfl,hg2,hnc,_⟩ <;> cases ea
  ·simp [execOp,resolve,invoke,builtin,hsl.ev hy,hsl.ev hu,Builtin.append_,Qr hT,sizeOf,typeInfo,h1,Builtin.lenOf,Builtin.firstCells]
  ·simp [execOp,resolve,invoke,builtin,hsl.ev hy,hsl.ev hu,Builtin.append_,Qr hT,sizeOf,typeInfo,h1,Builtin.lenOf,Builtin.firstCells,loadCells,loadCellsFrom]
  ·simp [execOp,resolve,invoke,builtin,hsl.ev hy,hsl.ev hu,Builtin.append_,Qr hT,sizeOf,typeInfo,h1,Builtin.lenOf,Builtin.firstCells,storeCells,hnc]
  ·simp [execOp,resolve,invoke,builtin,hsl.ev hy,hsl.ev hu,Builtin.append_,Qr hT,sizeOf,typeInfo,h1,Builtin.lenOf,Builtin.firstCells,storeCells,hnc,loadCells,loadCellsFrom]
 ·obtain ⟨v',w',hr,ho,hgr,hfr⟩:=CG (P:=x.P) (ty:=ty) hT h1 h4 h2 h3 hz hs' hown (a:=⟨b,off,none⟩) (m:=ys.length) (c:=c) (news:=cs) hcs.len
   (λj u hu=>((hc j u hu).at (x:=x) (M:=.row v e (aF.sz α) l.length xs::M)) w ht) hcs.one hmax hb
  refine ⟨v',w',?_,H,_,ht.CS (r':=.row v' e (aF.sz α) (l.length+ys.length) (xs++cs)) hgr ho hfr,k v' _ _ (hx.app hcs)⟩;simp [execOp,resolve,invoke,builtin,hsl.ev hy,hsl.ev hu,hr]
end
def yE:List Value->List (List Value)->Prop
 | [],[]=>True
 | v::vs,c::cs=>v.cells=c.toArray/\yE vs cs
 | _,_=>False
def laid (places:List (Nat×Nat)):List Value->List (Nat×List Value)->Option (List Value)
 | z,[]=>some z
 | z,(i,c)::r=>match places[i]? with
  | none=>none
  | some (off,size)=>if Nat.beq c.length size && Nat.ble (off+c.length) z.length then laid places (over z off c) r else none
theorem Ak:∀ (c:List Value) (z:List Value) (off k:Nat),(c.zipIdx k).foldl (λcs (p:Value×Nat)=>cs.setIfInBounds (off+p.2) p.1) z.toArray=(over z (off+k) c).toArray
 | [],z,off,k=>rfl
 | v::c,z,off,k=>by
  rw [List.zipIdx_cons,List.foldl_cons];simp only [List.setIfInBounds_toArray];rw [Ak c _ off (k+1),over]
  rfl
theorem uX {place:Nat->Option (Nat×Nat)}{places:List (Nat×Nat)} (hp:∀ i o,places[i]? = some o->place i=some o):
  ∀ (is:List Nat) (vs:List Value) (css:List (List Value)) (z out:List Value),yE vs css->is.length=vs.length->laid places z (is.zip css)=some out ->
   Instr.fill place z.toArray (is.zip vs)=some out.toArray
 | [],[],_,z,out,_,_,h=>by simp [laid] at h; simp [Instr.fill,h]
 | [],_::_,_,_,_,_,hl,_=>by simp at hl
 | _::_,[],_,_,_,_,hl,_=>by simp at hl
 | i::is,v::vs,[],_,_,hc,_,_=>hc.elim
 | i::is,v::vs,c::css,z,out,⟨hv,hc⟩,hl,h=>by
  simp only [List.zip_cons_cons,laid] at h;cases hpl:places[i]? with
  | none=>simp [hpl] at h
  | some o=>
   obtain ⟨off,size⟩:=o;simp only [hpl] at h
   split at h
   ·rename_i hb
    simp only [QB,Ru] at hb;have hsz:c.length=size:=Q7 hb.1;simp only [List.zip_cons_cons,Instr.fill,hp i _ hpl,hv];have h1:((c.toArray.size≠size || off+c.toArray.size > z.toArray.size:Bool))=false:=by
     simp [hsz]; rw [<- hsz]; exact hb.2
    rw [O2 (by simp only [h1]; simp)]
    have h2:=Ak c z off 0;have h3:c.toArray.zipIdx.foldl (λcs (p:Value×Nat)=>cs.setIfInBounds (off+p.2) p.1) z.toArray=(over z off c).toArray:=by
     rw [<- Array.foldl_toList];simpa using h2
    have ih:=uX hp is vs css (over z off c) out hc (by simpa using hl) h
    rw [<- ih];exact P3 (λq=>Instr.fill place q (is.zip vs)) h3
   ·cases h
theorem lv {k m:Nat}{e:Int} (hd:k+m=e.toNat) (hb:decide ((k:Int)<e)=true):∃ m',m=m'+1/\k+1+m'=e.toNat/\k<e.toNat:=by
 have:=O1 hb;exact ⟨m-1,by omega,by omega,by omega⟩
theorem lu {k m:Nat}{e:Int} (hd:k+m=e.toNat) (hb:decide ((k:Int)<e)=false):m=0:=by
 have:=O9 hb;omega
theorem eJ {e:Int} (h:e<=9223372036854775807):e.toNat<=maxLen:=by unfold maxLen; omega
theorem kF {α:Type}{xs:List α} (h:xs.length<=maxLen):(xs.length:Int)<=9223372036854775807:=by unfold maxLen at h; omega
section
variable {x:Cx}{ops:Array Oper}{Q:lC}{rest:List Oper}{H:Hp}{M M':List bL}{L L':Env}
variable {d:Nat}{ty:TypeId}{pos:String}{aft:Array Edge}{g:Option (Nat×Bool)}
theorem zw {N:Nat}{a:Act} (hs:Sl N L a) {ps:List (Nat×Operand)}{vs:List Value} (hv:xH L (ps.map (·.2))=some vs):
  (ps.toArray.map λ(p:Nat×Operand)=>(p.1,a.eval p.2))=((ps.map (·.1)).zip vs).toArray:=by
 have h:=hs.xH hv;subst h;clear hv;simp only [List.map_map,List.map_toArray]
 congr 1
 induction ps with
 | nil=>rfl
 | cons p ps ih=>simp only [RG,List.zip_cons_cons,Function.comp,ih]
theorem dS {T:TypeId}{ps:List (Nat×Operand)}{vs:List Value}{css:List (List Value)}{z:Value}{zs out:List Value}{fs:Array Field}{places:List (Nat×Nat)}
  (hg:gd ops L ⟨some d,.build T ps.toArray,ty,pos,aft,g⟩=some true) (hN:Nat.blt d x.N=true)
  (hv:xH L (ps.map (·.2))=some vs) (hc:yE vs css)
  (hz:∀ w,(zeroValue T).run x.P w=.ok z w) (hzs:z.cells=zs.toArray) (hT:∀ w,(underlying T).run x.P w=.ok (.struct fs) w)
  (hp:∀ w,(fs.mapM λf=>do pure (f.offset,<- sizeOf f.type):Sem (Array (Nat×Nat))).run x.P w=.ok places.toArray w)
  (ho:laid places zs ((ps.map (·.1)).zip css)=some out)
  (k:W x ops Q rest H M ((d,.agg out.toArray)::L)):
  W x ops Q (⟨some d,.build T ps.toArray,ty,pos,aft,g⟩::rest) H M L:=
 eO rfl hg hN (λa w hs ht=>by
  have hl:(ps.map (·.1)).length=vs.length:=by rw [<- hs.xH hv]; simp
  have hf:=uX (place:=λi:Nat=>places[i]?) (places:=places) (λ_ _ h=>h) (ps.map (·.1)) vs css zs out hc hl ho;have hps:=zw hs hv;simp only [execOp,Instr.build,O8,hz,O4,hT,hzs];rw [hp];simp only [O4];have e:(λi:Nat=>places.toArray[i]?)=λi:Nat=>places[i]? := by funext i; simp
  simp only [hps,e,hf,Pc,O4]) k
theorem cZ {α:Type}[aF α] {T e:TypeId}{n:Nat}{ps:List (Nat×Operand)}{vs:List Value}{css:List (List Value)}{z:Value}{zs out:List Value}{places:List (Nat×Nat)}{ys:List α}
  (hg:gd ops L ⟨some d,.buildSlice T n ps.toArray,ty,pos,aft,g⟩=some true) (hN:Nat.blt d x.N=true)
  (hv:xH L (ps.map (·.2))=some vs) (hc:yE vs css)
  (hT:∀ w,(underlying T).run x.P w=.ok (.slice e) w) (hs:∀ w,(sizeOf e).run x.P w=.ok (aF.sz α) w) (hs0:Nat.blt 0 (aF.sz α)=true)
  (hz:∀ w,(zeroValue e).run x.P w=.ok z w) (hzs:(Array.range (n*aF.sz α)).map (z.cells[·%z.cells.size]!)=zs.toArray)
  (hpl:places=(List.range n).map λi=>(i*aF.sz α,aF.sz α)) (hn:Nat.ble (n*aF.sz α) 16777216=true) (hnn:Nat.blt 0 n=true)
  (ho:laid places zs ((ps.map (·.1)).zip css)=some out) (hr:pD H out ys) (hyn:ys.length=n)
  (k:∀ b v H',v=.slice (some ⟨b,0,none⟩) n n->H.le H'->aP H' v ys->W x ops Q rest H' M ((d,v)::L)):
  W x ops Q (⟨some d,.buildSlice T n ps.toArray,ty,pos,aft,g⟩::rest) H M L:=by
 refine rY rfl hg hN λa w hsl ht=>?_;have hl:(ps.map (·.1)).length=vs.length:=by rw [<- hsl.xH hv]; simp
 have hs0':0<aF.sz α:=by simpa [P7] using hs0
 have hn':n*aF.sz α<=16777216:=by simpa [Ru] using hn
 have hnn':0<n:=by simpa [P7] using hnn
 have hpos:0<n*aF.sz α:=Nat.mul_pos hnn' hs0';have hf:=uX (place:=λi=>some (i*aF.sz α,aF.sz α)) (places:=places) (λi o h=>by
  rw [hpl,Ps] at h;cases hh:(List.range n)[i]? with
  | none=>rw [hh] at h; cases h
  | some j=>
   rw [hh] at h;have:j=i:=by
    have:=OY.1 hh;simpa using this.2.symm
   subst this;simpa using h) (ps.map (·.1)) vs css zs out hc hl ho
 have hps:=zw hsl hv;have hsz:out.length=n*aF.sz α:=by rw [hr.len,hyn]
 refine ⟨.slice (some ⟨w.heap.size,0,none⟩) n n,w.alloc (.cells out.toArray e),?_,H.add w.heap.size (.cells out.toArray e),M,(ht.alloc _).freeze.2,?_⟩
 ·have h1:¬ (2 ^ 24<n*aF.sz α):=by omega
  have h2:¬ (n*aF.sz α=0):=by omega
  simp only [execOp,Instr.buildSlice,O8,hT,O4,hs,gt_iff_lt,h1,h2,Qw,hz,Pc];simp only [hps];have hf':Instr.fill (λi=>some (i*aF.sz α,aF.sz α)) ((Array.range (n*aF.sz α)).map (z.cells[·%z.cells.size]!)) ((List.map (λx=>x.fst) ps).zip vs)=some out.toArray:=by
   rw [hzs]; exact hf
  simp only [hf',newRow,newObj,O8,Pc,Sem.run,O4,World.alloc]
 ·refine k w.heap.size _ _ rfl (ht.alloc _).freeze.1 (.inr ⟨w.heap.size,0,n,out.toArray,e,(0,0),by rw [hyn],by omega,?_,Hp.wH _ _ _,by simp [hsz],?_⟩)
  ·unfold maxLen
   have:n<=n*aF.sz α:=RJ _ hs0';omega
  ·intro j el hel
   obtain ⟨c,q1,q2⟩:=(hr.mono (ht.alloc (.cells out.toArray e)).freeze.1).get j el hel;exact ⟨c,q1,λi u hu=>by simpa using q2 i u hu⟩
end
structure Rw {α:Type}[aF α] (H:Hp) (v:Value) (xs:List Value) (l:List α):Prop where
 rd:pD H xs l
 sl:∃ a n c,v=.slice a n c
section
variable {α:Type}[aF α] {H H':Hp}{v:Value}{xs:List Value}{l:List α}
theorem Rw.mono (hle:H.le H') (h:Rw H v xs l):Rw H' v xs l:=⟨h.rd.mono hle,h.sl⟩
theorem Rw.one (h:Rw H v xs l):v.oneCell'=true:=by obtain ⟨a,n,c,rfl⟩:=h.sl; rfl
theorem Rw.cells (h:Rw H v xs l):v.cells=[v].toArray:=by obtain ⟨a,n,c,rfl⟩:=h.sl; rfl
theorem Rw.nil:Rw H (.slice none 0 0) [] ([]:List α):=⟨rfl,_,_,_,rfl⟩
theorem Rw.elem (h:Rw H v xs l) {k:Nat}{e:α} (he:l[k]? = some e):∃ c,aF.E H c e/\∀ j u,c[j]? = some u->xs[k*aF.sz α+j]? = some u:=h.rd.get k e he
theorem yq (vs:List Value):∀ (l:List Value) (k j:Nat),k+vs.length<=l.length->(over l k vs)[j]? = if k<=j/\j<k+vs.length then vs[j-k]? else l[j]? := by
 intro l k j h;rw [vH vs l k h,Pr,Q2];simp only [Pn,P2 (show k<=l.length by omega)]
 by_cases h1:j<k
 ·rw [O3 h1,O2 (by omega),PN,O3 h1]
 ·rw [O2 h1,Q2]
  by_cases h2:j-k<vs.length
  ·rw [O3 h2,O3 (by omega)]
  ·rw [O2 h2,O2 (by omega),PG]
   congr 1; omega
theorem Rw.put {c cs out:List Value}{k o:Nat}{e e2:α} (h:Rw H v xs l) (he:l[k]? = some e) (hc:aF.E H c e) (hg:∀ j u,c[j]? = some u->xs[k*aF.sz α+j]? = some u)
  (hb:Nat.ble (o+cs.length) c.length=true) (ho:over c o cs=out) (hE:aF.E H out e2):
  Rw H v (over xs (k*aF.sz α+o) cs) (l.set k e2)/\(l.set k e2)[k]? = some e2/\∀ j u,out[j]? = some u->(over xs (k*aF.sz α+o) cs)[k*aF.sz α+j]? = some u:=by
 have hk:k<l.length:=(OY.1 he).1;have hlen:=h.rd.len;have hcl:=aF.len hc;have hb':o+cs.length<=c.length:=by simpa [Ru] using hb
 have hkk:(k+1)*aF.sz α<=l.length*aF.sz α:=Pe _ hk;rw [Pk,SE] at hkk;have tG:k*aF.sz α+o+cs.length<=xs.length:=by omega
 have key:over xs (k*aF.sz α+o) cs=xs.take (k*aF.sz α)++out++xs.drop ((k+1)*aF.sz α):=by
  apply QD;intro j;rw [yq _ _ _ _ tG,Pr,Q2];simp only [Pn,P2 (show k*aF.sz α<=xs.length by omega)]
  have hol:out.length=aF.sz α:=by rw [<- ho,oR,hcl]
  by_cases h1:j<k*aF.sz α
  ·rw [O3 h1,O2 (by omega),PN,O3 h1]
  ·rw [O2 h1,Q2,hol]
   by_cases h2:j-k*aF.sz α<aF.sz α
   ·rw [O3 h2,<- ho,yq _ _ _ _ hb']
    by_cases h3:k*aF.sz α+o<=j/\j<k*aF.sz α+o+cs.length
    ·rw [O3 h3,O3 (by omega)]; congr 1; omega
    ·rw [O2 h3,O2 (by omega)]
     have hj:j-k*aF.sz α<c.length:=by omega
     have:=hg (j-k*aF.sz α) _ (OU hj);rw [OU hj,<- this]; congr 1; omega
   ·rw [O2 h2,O2 (by omega),PG]
    congr 1; rw [Pk]; omega
 refine ⟨⟨?_,h.sl⟩,by simp [hk],λj u hu=>?_⟩
 ·rw [key]; exact h.rd.put hk hE
 ·have hj:j<out.length:=(OY.1 hu).1
  have hol:out.length=aF.sz α:=by rw [<- ho,oR,hcl]
  rw [key,Pr,Pz (by simp; omega),Qa (by simp; omega)]
  simp only [Pn,P2 (show k*aF.sz α<=xs.length by omega)]
  rw [show k*aF.sz α+j-k*aF.sz α=j by omega]; exact hu
end
section
variable {x:Cx}{ops:Array Oper}{Q:lC}{rest:List Oper}{H:Hp}{M M':List bL}{L L':Env}
variable {d:Nat}{ty:TypeId}{pos:String}{aft:Array Edge}{g:Option (Nat×Bool)}
theorem AU {v:Value}{T:TypeId}{sz n i:Nat}{xs:List Value}{c:Value} (hm:bL.row v T sz n xs ∈ M) (hc:xs[i]? = some c):xy x H M ((Value.base v).add i) c:=by
 intro w ht;have hok:iB w T sz v n xs:=ht.ok _ hm;have hi:=(OY.1 hc).1;rcases hok.2 with ⟨rfl,h0⟩ | ⟨gb,off,cap,cur,rfl,hg,hnc,hcm,hcs,htake⟩
 ·exfalso
  have:=hok.1;subst h0;simp at this; subst this
  simp at hc
 ·rw [show Value.base (Value.slice (some ⟨gb,off,none⟩) n cap)=⟨gb,off,none⟩ from rfl,P5]
  refine Tc hg rfl ?_;rw [<- htake,PN] at hc
  split at hc
  ·rw [PG] at hc; simpa using hc
  ·cases hc
theorem add_add (a:Addr) (i j:Nat):(a.add i).add j=a.add (i+j):=by
 unfold Addr.add
 by_cases h1:i=0 <;> by_cases h2:j=0 <;> simp [h1,h2,Q_]
theorem xa {v:Value}{T:TypeId}{sz n i:Nat}{xs cs:List Value} (hm:bL.row v T sz n xs ∈ M) (hc:∀ j u,cs[j]? = some u->xs[i+j]? = some u):xU x H M ((Value.base v).add i) cs:=by
 intro j c hj;rw [add_add];exact AU hm (hc j c hj)
theorem row_one {v:Value}{T:TypeId}{sz n i o:Nat}{xs cs:List Value}{c:Value} (hm:bL.row v T sz n xs ∈ M) (hc:∀ j u,cs[j]? = some u->xs[i+j]? = some u) (hd:cs[o]? = some c):
  xy x H M (((Value.base v).add i).add o) c:=by
 rw [add_add]; exact AU hm (hc o c hd)
theorem AV {v:Value}{T:TypeId}{sz n i:Nat}{xs cs:List Value}{c:Value} (hm:bL.row v T sz n xs ∈ M) (hc:∀ j u,cs[j]? = some u->xs[i+j]? = some u) (hd:cs[0]? = some c):
  xy x H M ((Value.base v).add i) c:=AU hm (hc 0 c hd)
theorem zN {v:Value}{T:TypeId}{sz n:Nat}{xs:List Value}{t e:TypeId}{y:Operand} (hm:bL.row v T sz n xs ∈ M) (hg:gd ops L ⟨some d,.call ⟨.builtin .len,#[y],#[t]⟩,ty,pos,aft,g⟩=some true) (hN:Nat.blt d x.N=true)
  (hT:∀ w,(underlying t).run x.P w=.ok (.slice e) w) (hy:ev L y=some v) (k:W x ops Q rest H M ((d,.int .i64 n)::L)):
  W x ops Q (⟨some d,.call ⟨.builtin .len,#[y],#[t]⟩,ty,pos,aft,g⟩::rest) H M L:=
 eO rfl hg hN (λc w hs ht=>by
  have hok:iB w T sz v n xs:=ht.ok _ hm;rcases hok.2 with ⟨rfl,rfl⟩ | ⟨gb,off,cap,cur,rfl,_⟩ <;>
   simp [execOp,resolve,invoke,builtin,hs.ev hy,Builtin.len_,hT,goInt]) k
theorem xY {v:Value}{T:TypeId}{sz n:Nat}{xs:List Value}{t e:TypeId}{y z:Operand}{kk:IntKind}{i:Int} (hm:bL.row v T sz n xs ∈ M)
  (hg:gd ops L ⟨some d,.indexAddr t y z,ty,pos,aft,g⟩=some true) (hN:Nat.blt d x.N=true)
  (hT:∀ w,(underlying t).run x.P w=.ok (.slice e) w) (hs:∀ w,(sizeOf e).run x.P w=.ok sz w)
  (hy:ev L y=some v) (hz:ev L z=some (.int kk i)) (h0:0<=i) (h1:i.toNat<n)
  (k:W x ops Q rest H M ((d,.pointer (some ((Value.base v).add (i.toNat*sz))))::L)):
  W x ops Q (⟨some d,.indexAddr t y z,ty,pos,aft,g⟩::rest) H M L:=
 eO rfl hg hN (λc w hsl ht=>by
  have h1':i<(n:Int):=by omega
  have hok:iB w T sz v n xs:=ht.ok _ hm;rcases hok.2 with ⟨rfl,rfl⟩ | ⟨gb,off,cap,cur,rfl,_⟩
  ·omega
  ·simp [execOp,hsl.ev hy,hsl.ev hz,Instr.indexAt,asIntOf,hT,hs,h0,h1',Value.base]) k
theorem wE {T E:TypeId}{m sz n i:Nat}{y z:Operand}{v u:Value}{ad:Addr}{xs cs:List Value} (hg:gd ops L ⟨none,.store T y z,ty,pos,aft,g⟩=some true)
  (hn:∀ w,(sizeOf T).run x.P w=.ok m w) (hy:ev L y=some (.pointer (some ad))) (had:ad=(Value.base v).add i) (hz:ev L z=some u) (hv:u.cells=cs.toArray) (hl:cs.length=m)
  (hb:i+cs.length<=xs.length) (hpos:Nat.blt 0 cs.length=true) (h1:∀ c ∈ cs,c.oneCell'=true)
  (k:W x ops Q rest H (.row v E sz n (over xs i cs)::M) L):
  W x ops Q (⟨none,.store T y z,ty,pos,aft,g⟩::rest) H (.row v E sz n xs::M) L:=
 BW rfl hg (λa w hs ht=>by
  subst had;have hok:iB w E sz v n xs:=ht.ok _ (O0 ..);have hpos':0<cs.length:=by simpa [P7] using hpos
  rcases hok.2 with ⟨rfl,rfl⟩ | ⟨gb,off,cap,cur,rfl,hgb,hnc,hcm,hcs,htake⟩
  ·have h0:=hok.1; rw [Qt] at h0; omega
  ·have hmul:n*sz<=cap*sz:=Pe _ hnc
   have hxl:=hok.1;obtain ⟨w',hr,hh,hgr⟩:=jV (P:=x.P) gb (off+i) E cs 0 cur.toList w (by simpa using hgb) (by simp; omega) h1
   refine ⟨w',?_,H,_,ht.CS (r':=.row (.slice (some ⟨gb,off,none⟩) n cap) E sz n (over xs i cs)) hgr ?_ (λc hc=>.inl hc),k⟩
   ·simp [execOp,hs.ev hy,hs.ev hz,Instr.storeAt,Instr.sureAddr,storeVar,hn,hl,hv,Value.base,P5,hr]
   ·refine ⟨by rw [oR]; exact hxl,.inr ⟨gb,off,cap,_,rfl,hh,hnc,hcm,by simpa [oR] using hcs,?_⟩⟩
    rw [Rj,Qs];apply QD;intro j;rw [PN,PG,yq _ _ _ _ (by simp; omega),yq _ _ _ _ hb,<- htake,PN,PG]
    by_cases hj:j<n*sz
    ·simp only [O3 hj]
     by_cases h3:i<=j/\j<i+cs.length
     ·rw [O3 h3,O3 (by omega)]; congr 1; omega
     ·rw [O2 h3,O2 (by omega)]
    ·simp only [O2 hj]
     rw [O2 (by omega)])
end
section
variable {x:Cx}{ops:Array Oper}{Q:lC}{rest:List Oper}{H:Hp}{M M':List bL}{L L':Env}
variable {d:Nat}{ty:TypeId}{pos:String}{aft:Array Edge}{g:Option (Nat×Bool)}
theorem iB.shape {w:World}{T:TypeId}{sz n:Nat}{v:Value}{xs:List Value} (h:iB w T sz v n xs):∃ a n c,v=.slice a n c:=by
 rcases h.2 with ⟨rfl,_⟩ | ⟨gb,off,cap,cur,rfl,_⟩ <;> exact ⟨_,_,_,rfl⟩
theorem cS {α:Type}[aF α] {t e:TypeId}{bytes n:Nat}{z:Value}{y u:Operand}{v vu:Value}{xs:List Value}{l ys:List α}
  (hg:gd ops L ⟨some d,.call ⟨.builtin .append,#[y,u],#[t,t]⟩,ty,pos,aft,g⟩=some true) (hN:Nat.blt d x.N=true)
  (hT:x.P.underlying t=some (.slice e)) (hi:Mp x.P e (aF.sz α) bytes z) (hz:z.cells.size=aF.sz α) (hs:Nat.blt 0 (aF.sz α)=true) (hb0:Nat.blt 0 bytes=true)
  (hy:ev L y=some v) (hu:ev L u=some vu) (hx:Rw H v xs l) (hR:aP H vu ys) (hb:((l.length+ys.length)*bytes:Nat)<=140737488355328)
  (k:∀ v' xs',Rw H v' xs' (l++ys)->W x ops Q rest H (.row v' e (aF.sz α) (l++ys).length xs'::M) ((d,v')::L)):
  W x ops Q (⟨some d,.call ⟨.builtin .append,#[y,u],#[t,t]⟩,ty,pos,aft,g⟩::rest) H (.row v e (aF.sz α) n xs::M) L:=by
 refine HB hg hN hT hi hz hs hb0 hy hu hx.rd hR hb λv' n' xs' hx'=>?_;intro a w hsl ht;have hok:iB w e (aF.sz α) v' n' xs':=ht.ok _ (O0 ..);have hn:n'=(l++ys).length:=by
  have h1:=hx'.len;rw [hok.1] at h1;exact QC (by simpa [P7] using hs) h1
 subst hn;exact k v' xs' ⟨hx',hok.shape⟩ a w hsl ht
theorem St.newRow {α:Type}[aF α] {B:Nat}{w0 w:World}{cells:List Value}{e:TypeId}{l:List α} (ht:St B w0 H M w) (hr:pD H cells l) (hm:l.length<=maxLen):
  St B w0 H (.row (.slice (some ⟨w.heap.size,0,none⟩) l.length l.length) e (aF.sz α) l.length cells::M) (w.alloc (.cells cells.toArray e)):=by
 have h:=ht.alloc (.cells cells.toArray e);have hl:=hr.len;refine ⟨h.below,h.le,h.tG,?_,?_,h.nd⟩
 ·intro r hr'
  rcases PH.1 hr' with rfl | hr'
  ·refine ⟨hl,.inr ⟨w.heap.size,0,l.length,cells.toArray,rfl,h.ok _ (O0 ..),Pl _,hm,by simp only [RF]; omega,?_⟩⟩
   rw [<- hl,Rj,Qh,QH]
  ·exact h.ok r (O5 _ hr')
 ·intro r hr'
  rcases PH.1 hr' with rfl | hr'
  ·exact h.lo (.obj w.heap.size (.cells cells.toArray e)) (O0 ..)
  ·exact h.lo r (O5 _ hr')
theorem eS {α:Type}[aF α] {t e:TypeId}{bytes:Nat}{z:Value}{zs:List Value}{ze:α}{y y2:Operand}{n:Int}
  (hg:gd ops L ⟨some d,.makeSlice t y y2,ty,pos,aft,g⟩=some true) (hN:Nat.blt d x.N=true)
  (hT:x.P.underlying t=some (.slice e)) (hi:Mp x.P e (aF.sz α) bytes z) (hz:z.cells=zs.toArray) (hs:Nat.blt 0 (aF.sz α)=true) (hb0:Nat.blt 0 bytes=true)
  (hE:aF.E H zs ze) (hy:ev L y=some (.int .i64 n)) (hy2:ev L y2=some (.int .i64 n)) (h0:0<=n) (hb:n*bytes<=140737488355328)
  (k:∀ v' xs',Rw H v' xs' (List.replicate n.toNat ze)->W x ops Q rest H (.row v' e (aF.sz α) (List.replicate n.toNat ze).length xs'::M) ((d,v')::L)):
  W x ops Q (⟨some d,.makeSlice t y y2,ty,pos,aft,g⟩::rest) H M L:=by
 obtain ⟨i,h1,h2,h3,h4⟩:=hi.ex;obtain ⟨m,rfl⟩:∃ m:Nat,n=m:=⟨n.toNat,by omega⟩
 have hs':0<aF.sz α:=by simpa [P7] using hs
 have hb0':0<bytes:=by simpa [P7] using hb0
 have hcast:((m*bytes:Nat):Int)=(m:Int)*(bytes:Int):=PO m bytes;have hbn:m*bytes<=140737488355328:=by omega
 have hm:m<=m*bytes:=RJ _ hb0';have hzl:zs.length=aF.sz α:=aF.len hE;have hmax:m<=maxLen:=by unfold maxLen; omega
 have hw:i64.wrap (m:Int)=m:=wM (by omega) (by omega)
 simp only [OX] at k;have hrd:∀ q,pD H ((List.range (q*aF.sz α)).map (zs.toArray[·%zs.length]!)) (List.replicate q ze):=by
  intro q
  induction q with
  | zero=>rw [Qt]; exact rfl
  | succ q ih=>
   have hsplit:(List.range ((q+1)*aF.sz α)).map (zs.toArray[·%zs.length]!)=zs++(List.range (q*aF.sz α)).map (zs.toArray[·%zs.length]!):=by
    apply QD;intro j;rw [Q2,Ps]
    by_cases hj:j<zs.length
    ·rw [O3 hj,QU (by rw [Pk]; omega)]
     simp [QI hj,hj]
    ·rw [O2 hj,Ps]
     by_cases hj2:j<(q+1)*aF.sz α
     ·rw [QU hj2,QU (by rw [Pk] at hj2; omega)]
      simp only [Qo];rw [<- Nat.mod_eq_sub_mod (by omega)]
     ·rw [PV (by simp; omega),PV (by rw [Pk] at hj2; simp; omega)]
   rw [hsplit];exact ⟨zs,_,rfl,hE,ih⟩
 have hlr:(List.replicate m ze).length=m:=Qd;refine rY rfl hg hN λa w hsl ht=>?_;refine ⟨.slice (some ⟨w.heap.size,0,none⟩) (List.replicate m ze).length (List.replicate m ze).length,_,?_,H,_,St.newRow (e:=e) ht (hrd m) (by rw [hlr]; exact hmax),k _ _ ⟨hrd m,_,_,_,rfl⟩⟩
 have e1:¬ ((i.bytes:Int)*(m:Int) > 2 ^ 48):=by
  rw [h3,Int.mul_comm];omega
 have e3:¬ (m*i.bytes > roomBytes):=by rw [h3]; unfold roomBytes; omega
 have e4:¬ ((m:Int)<0):=by omega
 have hti:∀ w,(typeInfo e).run x.P w=.ok i w:=λw=>by simp [typeInfo,h1]
 have hsz:∀ w,(sizeOf e).run x.P w=.ok (aF.sz α) w:=λw=>by simp [sizeOf,hti,h2]
 have hzv:∀ w,(zeroValue e).run x.P w=.ok z w:=λw=>by simp [zeroValue,hti,h4]
 have hun:∀ w,(underlying t).run x.P w=.ok (.slice e) w:=λw=>Qr hT w;have hnr:∀ c w,(newRow e c).run x.P w=.ok ⟨w.heap.size,0,none⟩ (w.alloc (.cells c e)):=λc w=>by
  simp only [newRow,newObj,O8,Pc,Sem.run,O4,World.alloc]
 rw [hlr]
 by_cases hm0:m*aF.sz α=0
 ·have:m=0:=by
   rcases Nat.mul_eq_zero.1 hm0 with h | h <;> omega
  subst this;simp only [execOp,hsl.ev hy,hsl.ev hy2,Instr.makeSlice,O8,hun,O4,asInt,asIntOf,Pc,hti,hw,e1,e4,Tg,Bool.or_self,PZ,Qw,OX,askRoom,hsz,hm0,SF,hnr,gt_iff_lt,Int.lt_irrefl,Qt,Nat.not_lt_zero];simp [Array.range]
 ·have e6:(Array.range (m*aF.sz α)).map (λj=>zs.toArray[j%zs.toArray.size]!)=((List.range (m*aF.sz α)).map (zs.toArray[·%zs.length]!)).toArray:=by
   apply Array.ext';simp
  simp only [execOp,hsl.ev hy,hsl.ev hy2,Instr.makeSlice,O8,hun,O4,asInt,asIntOf,Pc,hti,hw,e1,e4,Tg,Bool.or_self,PZ,Qw,OX,askRoom,e3,hsz,hm0,hzv,hz,e6,hnr,gt_iff_lt,Int.lt_irrefl]
theorem run_sliceBound {P:Program}{w:World}{kk:IntKind}{i:Int}{y:Nat}{c:BoundsCode} (h0:0<=i) (h1:i<=y):(Instr.sliceBound (.int kk i) y c).run P w=.ok i.toNat w:=by
 simp [Instr.sliceBound,asIntOf,h0,h1]
def Bd (o:Option Value) (dflt top r:Nat):Prop:=(o=none/\r=dflt)\/∃ kk i,o=some (.int kk i)/\0<=i/\i<=top/\i.toNat=r
theorem zo {P:Program}{w:World}{len cap:Nat}{lo hi mx:Option Value}{l h m:Nat}
  (hmh:mx=none\/∃ v,hi=some v) (hm:Bd mx cap cap m) (hh:Bd hi len m h) (hl:Bd lo 0 h l):
  (Instr.sliceBounds true len cap lo hi mx).run P w=.ok (l,h,m) w:=by
 rcases hm with ⟨rfl,rfl⟩ | ⟨km,im,rfl,m0,m1,rfl⟩
 ·rcases hh with ⟨rfl,rfl⟩ | ⟨kh,ih,rfl,h0,h1,rfl⟩
  ·rcases hl with ⟨rfl,rfl⟩ | ⟨kl,il,rfl,l0,l1,rfl⟩
   ·simp only [Instr.sliceBounds,O8,Pc,O4]
   ·simp only [Instr.sliceBounds,O8,Pc,O4,run_sliceBound l0 l1]
  ·rcases hl with ⟨rfl,rfl⟩ | ⟨kl,il,rfl,l0,l1,rfl⟩
   ·simp only [Instr.sliceBounds,O8,Pc,O4,run_sliceBound h0 h1]
   ·simp only [Instr.sliceBounds,O8,Pc,O4,run_sliceBound h0 h1,run_sliceBound l0 l1]
 ·rcases hmh with hmh | ⟨v,rfl⟩
  ·cases hmh
  ·rcases hh with ⟨hh,_⟩ | ⟨kh,ih,hh,h0,h1,rfl⟩
   ·cases hh
   ·obtain rfl:=OZ hh
    rcases hl with ⟨rfl,rfl⟩ | ⟨kl,il,rfl,l0,l1,rfl⟩
    ·simp only [Instr.sliceBounds,O8,Pc,O4,run_sliceBound m0 m1,run_sliceBound h0 h1]
    ·simp only [Instr.sliceBounds,O8,Pc,O4,run_sliceBound m0 m1,run_sliceBound h0 h1,run_sliceBound l0 l1]
def Ff (L:Env) (o:Option Operand) (dflt top r:Nat):Prop:=(o=none/\r=dflt)\/∃ o' kk i,o=some o'/\ev L o'=some (.int kk i)/\0<=i/\i<=top/\i.toNat=r
theorem Ff.bd {N:Nat}{a:Act}{o:Option Operand}{dflt top r:Nat} (hs:Sl N L a) (h:Ff L o dflt top r):Bd (o.map a.eval) dflt top r:=by
 rcases h with ⟨rfl,rfl⟩ | ⟨o',kk,i,rfl,he,h0,h1,rfl⟩
 ·exact .inl ⟨rfl,rfl⟩
 ·exact .inr ⟨kk,i,by simp [hs.ev he],h0,h1,rfl⟩
theorem sT {P:Program}{w:World}{t e:TypeId}{sz len cap:Nat}{a:Option Addr}{lo hi mx:Option Value}{l h m:Nat} (hT:∀ w,(underlying t).run P w=.ok (.slice e) w) (hs:∀ w,(sizeOf e).run P w=.ok sz w)
  (hmh:mx=none\/∃ v,hi=some v) (hm:Bd mx cap cap m) (hh:Bd hi len m h) (hl:Bd lo 0 h l):
  (Instr.sliceAt t (.slice a len cap) lo hi mx).run P w=.ok (.slice (if m=l then a else a.map (·.add (l*sz))) (h-l) (m-l)) w:=by
 simp only [Instr.sliceAt,O8,hT,O4,Instr.slice,zo hmh hm hh hl,hs,Pc]
theorem IP {a:Act}{mx hi:Option Operand} (h:mx=none\/∃ o,hi=some o):mx.map a.eval=none\/∃ v,hi.map a.eval=some v:=by
 rcases h with rfl | ⟨o,rfl⟩
 ·exact .inl rfl
 ·exact .inr ⟨_,rfl⟩
theorem sM {α:Type}[aF α] {t e:TypeId}{y:Operand}{lo hi mx:Option Operand}{v:Value}{xs:List α}{l h:Nat} (hg:gd ops L ⟨some d,.slice t y lo hi mx,ty,pos,aft,g⟩=some true) (hN:Nat.blt d x.N=true)
  (hT:∀ w,(underlying t).run x.P w=.ok (.slice e) w) (hs:∀ w,(sizeOf e).run x.P w=.ok (aF.sz α) w)
  (hy:ev L y=some v) (hR:aP H v xs) (hlh:l<=h) (hhx:h<=xs.length) (hmh:mx=none\/∃ o,hi=some o)
  (hm:∀ cap,h<=cap->Ff L mx cap cap (if mx=none then cap else h)) (hh:∀ m,h<=m->Ff L hi xs.length m h) (hl:Ff L lo 0 h l)
  (k:∀ v',aP H v' ((xs.drop l).take (h-l))->(mx≠none->Value.nF v'=h-l)->W x ops Q rest H M ((d,v')::L)):
  W x ops Q (⟨some d,.slice t y lo hi mx,ty,pos,aft,g⟩::rest) H M L:=by
 have hlen:((xs.drop l).take (h-l)).length=h-l:=by simp; omega
 rcases hR with ⟨⟨a0,rfl⟩,rfl⟩ | ⟨b,off,cap,arr,T,fz,rfl,h2,h3,h4,h5,h6⟩
 ·have hl0:l=0:=by simp at hhx; omega
  have hh0:h=0:=by simp at hhx; omega
  subst hl0; subst hh0
  have hif:(if mx=none then 0 else 0)=0:=by split <;> rfl
  refine eO (v:=.slice a0 0 0) rfl hg hN (λc w hsl ht=>?_) (k _ (.inl ⟨⟨_,rfl⟩,by simp⟩) (λ_=>rfl))
  have hm':=(hm 0 (Pl _)).bd hsl;rw [hif] at hm';have hr:=sT (P:=x.P) (w:=w) (len:=0) (cap:=0) (a:=a0) hT hs (IP hmh) hm' ((hh 0 (Pl _)).bd hsl) (hl.bd hsl);simp only [Qf,SF] at hr;simp only [execOp,hsl.ev hy,O8,hr,O4,Pc]
 ·have hmc:h<=(if mx=none then cap else h)/\(if mx=none then cap else h)<=cap:=by split <;> omega
  generalize hmm:(if mx=none then cap else h)=m at hmc
  refine eO (v:=.slice (if m=l then some ⟨b,off,none⟩ else some ((⟨b,off,none⟩:Addr).add (l*aF.sz α))) (h-l) (m-l)) rfl hg hN (λc w hsl ht=>?_) (k _ ?_ ?_)
  ·have hm':=(hm cap (by omega)).bd hsl
   rw [hmm] at hm';simp only [execOp,hsl.ev hy,O8,sT hT hs (IP hmh) hm' ((hh m hmc.1).bd hsl) (hl.bd hsl),O4,Pc]
   split <;> rfl
  ·by_cases hml:m=l
   ·have:h-l=0:=by omega
    have e0:m-l=0:=by omega
    rw [O3 hml,this,e0];exact .inl ⟨⟨_,rfl⟩,by simp⟩
   ·rw [O2 hml,P5]
    have hmul:l*aF.sz α+(m-l)*aF.sz α<=cap*aF.sz α:=by
     rw [<- Pk]; exact Pe _ (by omega)
    refine .inr ⟨b,off+l*aF.sz α,m-l,arr,T,fz,by rw [hlen],by omega,by omega,h4,by omega,λj el hel=>?_⟩
    rw [PN] at hel
    split at hel
    ·rw [PG] at hel
     obtain ⟨cs,q1,q2⟩:=h6 (l+j) el hel;refine ⟨cs,q1,λi c hc=>?_⟩;rw [show off+l*aF.sz α+j*aF.sz α+i=off+(l+j)*aF.sz α+i by rw [Pk]; omega]
     exact q2 i c hc
    ·cases hel
  ·intro hne
   rw [O2 hne] at hmm;subst hmm; rfl
theorem Gi {α:Type}[aF α] {t e T:TypeId}{n:Nat}{y:Operand}{lo hi:Option Operand}{v:Value}{cs:List Value}{xs:List α}{l h:Nat} (hg:gd ops L ⟨some d,.slice t y lo hi none,ty,pos,aft,g⟩=some true) (hN:Nat.blt d x.N=true)
  (hT:∀ w,(underlying t).run x.P w=.ok (.slice e) w) (hs:∀ w,(sizeOf e).run x.P w=.ok (aF.sz α) w) (hs0:Nat.blt 0 (aF.sz α)=true)
  (hy:ev L y=some v) (hR:Rw H v cs xs) (hlh:l<=h) (hhx:h<=xs.length)
  (hh:∀ m,h<=m->Ff L hi xs.length m h) (hl:Ff L lo 0 h l)
  (k:∀ v' cs',Rw H v' cs' ((xs.drop l).take (h-l))->Value.nF v'=Value.nF v-l->W x ops Q rest H (.row v' T (aF.sz α) ((xs.drop l).take (h-l)).length cs'::M) ((d,v')::L)):
  W x ops Q (⟨some d,.slice t y lo hi none,ty,pos,aft,g⟩::rest) H (.row v T (aF.sz α) n cs::M) L:=by
 have hlen:((xs.drop l).take (h-l)).length=h-l:=by simp; omega
 refine rY rfl hg hN λa w hsl ht=>?_;have hok:iB w T (aF.sz α) v n cs:=ht.ok _ (O0 ..);have hn:n=xs.length:=by
  have h1:=hR.rd.len;rw [hok.1] at h1;exact QC (by simpa [P7] using hs0) h1
 subst hn;have hrd:=(hR.rd.split h).1.split l;have hrd2:pD H ((cs.take (h*aF.sz α)).drop (l*aF.sz α)) ((xs.drop l).take (h-l)):=by
  have:=hrd.2
  rwa [Rc (l:=xs)] at this
 have hcl:=hrd2.len;rcases hok.2 with ⟨rfl,h0⟩ | ⟨gb,off,cap,cur,rfl,hgb,hnc,hcm,hcs,htake⟩
 ·have hl0:l=0:=by omega
  have hh0:h=0:=by omega
  subst hl0; subst hh0
  refine ⟨.slice none 0 0,w,?_,H,_,?_,k _ [] (by simpa using (Rw.nil:Rw H (.slice none 0 0) [] ([]:List α))) rfl⟩
  ·have hh':=(hh 0 (Pl _)).bd hsl
   rw [h0] at hh';have hr:=sT (P:=x.P) (w:=w) (len:=0) (cap:=0) (a:=none) (mx:=none) hT hs (.inl rfl) (.inl ⟨rfl,rfl⟩) hh' (hl.bd hsl);simp only [Qf,SF] at hr;simp only [execOp,hsl.ev hy,O8,Sf,hr,O4,Pc]
  ·have:=ht.tail.AH T (aF.sz α)
   simpa using this
 ·refine ⟨.slice (if cap=l then some ⟨gb,off,none⟩ else some ((⟨gb,off,none⟩:Addr).add (l*aF.sz α))) (h-l) (cap-l),w,?_,H,_,?_,k _ _ ⟨hrd2,_,_,_,rfl⟩ rfl⟩
  ·simp only [execOp,hsl.ev hy,O8,sT (mx:=none) (m:=cap) hT hs (.inl rfl) (.inl ⟨rfl,rfl⟩) ((hh cap (by omega)).bd hsl) (hl.bd hsl),Sf,O4,Pc]
   split <;> rfl
  ·have hgr:w.grownBy w (bL.ye (.row (.slice (some ⟨gb,off,none⟩) xs.length cap) T (aF.sz α) xs.length cs)):=⟨rfl,rfl,rfl,Pl _,λ_ _ _=>rfl⟩
   rw [hlen];have hmul:l*aF.sz α+(cap-l)*aF.sz α=cap*aF.sz α:=by rw [<- Pk]; congr 1; omega
   have hmul2:h*aF.sz α=l*aF.sz α+(h-l)*aF.sz α:=by rw [<- Pk]; congr 1; omega
   have hmul3:h*aF.sz α<=xs.length*aF.sz α:=Pe _ hhx;have hxl:cs.length=xs.length*aF.sz α:=hok.1
   by_cases hcl2:cap=l
   ·have e1:h-l=0:=by omega
    have e2:cap-l=0:=by omega
    rw [O3 hcl2,e1,e2];have e3:(cs.take (h*aF.sz α)).drop (l*aF.sz α)=[]:=by
     apply Pw; rw [hcl,hlen,e1,Qt]
    rw [e3];exact ht.CS (r':=.row (.slice (some ⟨gb,off,none⟩) 0 0) T (aF.sz α) 0 []) hgr ⟨by simp,.inr ⟨gb,off,0,cur,rfl,hgb,Pl _,by unfold maxLen; omega,by omega,by simp⟩⟩ (λc hc=>.inl hc)
   ·rw [O2 hcl2,P5]
    refine ht.CS (r':=.row (.slice (some ⟨gb,off+l*aF.sz α,none⟩) (h-l) (cap-l)) T (aF.sz α) (h-l) _) hgr ⟨?_,.inr ⟨gb,off+l*aF.sz α,cap-l,cur,rfl,hgb,by omega,by omega,by omega,?_⟩⟩ (λc hc=>.inl hc)
    ·rw [hcl,hlen]
    ·rw [<- htake,SU,P2 hmul3,Rc,QF]
     congr 1; omega
theorem tO {α:Type}[aF α] {t e T:TypeId}{n:Nat}{y:Operand}{lo hi:Option Operand}{v:Value}{cs:List Value}{xs:List α}{l h:Nat} (hg:gd ops L ⟨some d,.slice t y lo hi none,ty,pos,aft,g⟩=some true) (hN:Nat.blt d x.N=true)
  (hT:∀ w,(underlying t).run x.P w=.ok (.slice e) w) (hs:∀ w,(sizeOf e).run x.P w=.ok (aF.sz α) w) (hs0:Nat.blt 0 (aF.sz α)=true)
  (hy:ev L y=some v) (hR:Rw H v cs xs) (hlh:l<=h) (hhx:h<=xs.length)
  (hh:∀ m,h<=m->Ff L hi xs.length m h) (hl:Ff L lo 0 h l)
  (k:∀ v' cs',Rw H v' cs' ((xs.drop l).take (h-l))->W x ops Q rest H (.row v' T (aF.sz α) ((xs.drop l).take (h-l)).length cs'::M) ((d,v')::L)):
  W x ops Q (⟨some d,.slice t y lo hi none,ty,pos,aft,g⟩::rest) H (.row v T (aF.sz α) n cs::M) L:=
 Gi hg hN hT hs hs0 hy hR hlh hhx hh hl (λv' cs' h _=>k v' cs' h)
end
def rV {α:Type} (xs:List α) (l h:Nat):List α:=(xs.drop l).take (h-l)
theorem Ku {α:Type} (xs:List α) (l h:Nat):(rV xs l h).length=min (h-l) (xs.length-l):=by simp [rV]
theorem Rw.room {α:Type}[aF α] {H:Hp}{v:Value}{xs:List Value}{l:List α} (h:Rw H v xs l) {k:Nat}{e:α} (he:l[k]? = some e) {o m:Nat} (hb:Nat.ble (o+m) (aF.sz α)=true):k*aF.sz α+o+m<=xs.length:=by
 have hk:k<l.length:=(OY.1 he).1;have hkk:(k+1)*aF.sz α<=l.length*aF.sz α:=Pe _ hk;have hb':o+m<=aF.sz α:=by simpa [Ru] using hb
 rw [h.rd.len];rw [Pk,SE] at hkk;omega
theorem F4 (a:Addr) (i:Nat):a.add i=a.add (i+0):=rfl
theorem I7 (a:Addr) (i o:Nat):(a.add i).add o=a.add (i+o):=add_add a i o
section
variable {x:Cx}{ops:Array Oper}{Q:lC}{rest:List Oper}{H:Hp}{M M':List bL}{L L':Env}
variable {d:Nat}{ty:TypeId}{pos:String}{aft:Array Edge}{g:Option (Nat×Bool)}
theorem Gh {α : Type} [aF α] {t e : TypeId} {bytes : Nat} {z : Value} {y u : Operand} {v vu : Value} {l ys : List α}
    (hg : gd ops L ⟨some d, .call ⟨.builtin .append, #[y, u], #[t, t]⟩, ty, pos, aft, g⟩ = some true) (hN : Nat.blt d x.N = true)
    (hT : x.P.underlying t = some (.slice e)) (hi : Mp x.P e (aF.sz α) bytes z) (hz : z.cells.size = aF.sz α) (hs : Nat.blt 0 (aF.sz α) = true) (hb0 : Nat.blt 0 bytes = true)
    (hy : ev L y = some v) (hu : ev L u = some vu) (hx : aP H v l) (hc : Value.nF v = l.length) (hR : aP H vu ys) (hpos : Nat.blt 0 ys.length = true) (hb : ((l.length + ys.length) * bytes : Nat) ≤ 140737488355328)
    (k : ∀ v' xs', Rw H v' xs' (l ++ ys) → W x ops Q rest H (.row v' e (aF.sz α) (l ++ ys).length xs' :: M) ((d, v') :: L)) :
    W x ops Q (⟨some d, .call ⟨.builtin .append, #[y, u], #[t, t]⟩, ty, pos, aft, g⟩ :: rest) H M L := by
  obtain ⟨i, h1, h2, h3, h4⟩ := hi.ex;have hs' : 0 < aF.sz α := by simpa [P7] using hs
  have hb0' : 0 < bytes := by simpa [P7] using hb0
  have hpos' : 0 < ys.length := by simpa [P7] using hpos
  have hmax : l.length + ys.length ≤ maxLen := by
    have : l.length + ys.length ≤ (l.length + ys.length) * bytes := RJ _ hb0';unfold maxLen; omega
  have hsmall : l.length + ys.length ≤ 9223372036854775807 := by unfold maxLen at hmax; omega
  refine rY rfl hg hN fun a w hsl ht => ?_;obtain ⟨cs, hcs, hcase⟩ := hx.flat;obtain ⟨ds, hds, hcase2⟩ := hR.flat;rcases hcase2 with ⟨⟨ea, rfl⟩, rfl⟩ | ⟨hd2, b2, off2, c2, rfl⟩
  · simp at hpos'
  have hnews : ∀ j u, ds[j]? = some u → w.cell? ((⟨b2, off2, none⟩ : Addr).add j) = some u := fun j u hu => ((hd2 j u hu).at (x := x) (M := M)) w ht;have hdl := hds.len;have hge := Tr w (l.length + ys.length);have mk : ∀ (uh : Nat), pD H (cs ++ ds) (l ++ ys) → iB (w.drew.alloc (.cells (cs.toArray ++ ds.toArray ++ Builtin.zeroCells z.cells (grownCap w (l.length + ys.length) uh e - (l.length + ys.length))) e)) e (aF.sz α)
        (.slice (some ⟨w.heap.size, 0, none⟩) (l.length + ys.length) (grownCap w (l.length + ys.length) uh e)) (l.length + ys.length) (cs ++ ds) := by
    intro uh hrd;have hge := Tr w (l.length + ys.length) uh e;have hcm : grownCap w (l.length + ys.length) uh e ≤ maxLen := SR w (l.length + ys.length) uh e hmax;have hlen : (cs ++ ds).length = (l.length + ys.length) * aF.sz α := by rw [hrd.len, Pg]
    refine ⟨hlen, .inr ⟨w.heap.size, 0, _, _, rfl, SX w.drew _, hge, hcm, ?_, ?_⟩⟩
    · have hlen' : cs.length + ds.length = (l.length + ys.length) * aF.sz α := by rw [← Pg]; exact hlen
      simp only [Array.size_append, RF, size_zeroCells, hz, Pm];rw [hlen', ← Pk];rw [show l.length + ys.length + (grownCap w (l.length + ys.length) uh e - (l.length + ys.length)) = grownCap w (l.length + ys.length) uh e from by omega]
      exact Pl _
    · simp only [Qh, Tj, Pr]
      rw [← Pr, ← hlen];exact R4
  have fin : ∀ (uh : Nat), pD H (cs ++ ds) (l ++ ys) → (Builtin.append_ #[t, t] ty #[v, .slice (some ⟨b2, off2, none⟩) ys.length c2]).run x.P w = .ok (.slice (some ⟨w.heap.size, 0, none⟩) (l.length + ys.length) (grownCap w (l.length + ys.length) uh e))
        (w.drew.alloc (.cells (cs.toArray ++ ds.toArray ++ Builtin.zeroCells z.cells (grownCap w (l.length + ys.length) uh e - (l.length + ys.length))) e)) →
      ∃ v' w', (execOp a.eval ⟨some d, .call ⟨.builtin .append, #[y, u], #[t, t]⟩, ty, pos, aft, g⟩).run x.P w = .ok (.value v') w' ∧ ∃ H' M', St x.B x.w0 H' M' w' ∧ W x ops Q rest H' M' ((d, v') :: L) := by
    intro uh hrd hr;have hown := mk uh hrd;refine ⟨_, (w.drew.alloc (.cells (cs.toArray ++ ds.toArray ++ Builtin.zeroCells z.cells (grownCap w (l.length + ys.length) uh e - (l.length + ys.length))) e)), ?_, H, .row _ e (aF.sz α) (l ++ ys).length (cs ++ ds) :: M, ht.add (r' := .row (.slice (some ⟨w.heap.size, 0, none⟩) (l.length + ys.length) (grownCap w (l.length + ys.length) uh e)) e (aF.sz α) (l ++ ys).length (cs ++ ds)) ?_ ?_ ?_, k _ _ ⟨hrd, _, _, _, rfl⟩⟩
    · simp [execOp, resolve, invoke, builtin, hsl.ev hy, hsl.ev hu, hr]
    · exact ⟨rfl, rfl, rfl, by simp, fun k hk _ => heap_alloc_old w.drew _ (h := hk)⟩
    · show iB _ e (aF.sz α) _ (l ++ ys).length (cs ++ ds)
      rw [Pg]; exact hown
    · intro b hb
      simp only [bL.ye, Value.ownBlock, Pf] at hb;omega
  rcases hcase with ⟨⟨ea, rfl⟩, rfl⟩ | ⟨hc1, b1, off1, c1, rfl⟩
  · have hcs' : cs = [] := hcs
    subst hcs';have hl0 : ([] : List α).length + ys.length = ys.length := by simp
    cases ea with
    | none =>
      have hr := run_append_nil (P := x.P) w t ty e i z hT h1 h4 ⟨b2, off2, none⟩ ys.length c2 ds (by rw [h2]; exact hdl) hnews (by omega) (by rw [hl0] at hsmall; omega) (by have hb' := hb; rw [hl0] at hb'; rw [h3]; omega)
      refine fin 0 (hcs.app hds) ?_;simp only [hl0];simpa using hr
    | some ea =>
      have hr := run_append_grow (P := x.P) w t ty e i z hT h1 h4 ea 0 0 [] (by simp) (by simp) ⟨b2, off2, none⟩ ys.length c2 ds (by rw [h2]; exact hdl) hnews (by omega) (by rw [hl0] at hsmall; omega) (Tp (by omega) (by rw [h3]; simpa using hb))
      refine fin 0 (hcs.app hds) ?_;simpa using hr
  · have hc' : c1 = l.length := hc
    subst hc';have hr := run_append_grow (P := x.P) w t ty e i z hT h1 h4 ⟨b1, off1, none⟩ l.length l.length cs (by rw [h2]; exact hcs.len) (fun j u hu => ((hc1 j u hu).at (x := x) (M := M)) w ht) ⟨b2, off2, none⟩ ys.length c2 ds (by rw [h2]; exact hdl) hnews (by omega) (by omega) (Tp (by omega) (by rw [h3]; exact hb))
    exact fin l.length (hcs.app hds) hr
theorem pY (α:Type) [aF α] {T e:TypeId}
  (hg:gd ops L ⟨some d,.buildSlice T 0 #[],ty,pos,aft,g⟩=some true) (hN:Nat.blt d x.N=true)
  (hT:∀ w,(underlying T).run x.P w=.ok (.slice e) w) (hs:∀ w,(sizeOf e).run x.P w=.ok (aF.sz α) w)
  (k:∀ v' xs',Rw H v' xs' ([]:List α)->W x ops Q rest H (.row v' e (aF.sz α) ([]:List α).length xs'::M) ((d,v')::L)):
  W x ops Q (⟨some d,.buildSlice T 0 #[],ty,pos,aft,g⟩::rest) H M L:=by
 refine rY rfl hg hN λa w hsl ht=>?_;have hnr:∀ c w,(newRow e c).run x.P w=.ok ⟨w.heap.size,0,none⟩ (w.alloc (.cells c e)):=λc w=>by
  simp only [newRow,newObj,O8,Pc,Sem.run,O4,World.alloc]
 refine ⟨.slice (some ⟨w.heap.size,0,none⟩) 0 0,_,?_,H,_,St.newRow (α:=α) (cells:=[]) (l:=[]) (e:=e) ht rfl (by unfold maxLen; simp),k _ _ ⟨rfl,_,_,_,rfl⟩⟩
 simp only [execOp,Instr.buildSlice,O8,hT,hs,O4,Qt,Nat.not_lt_zero,gt_iff_lt,Qw,SF,Pc];simp [Instr.fill,hnr,Array.range]
end
def jM (s:ByteArray):List U8:=s.data.toList.map λb=>⟨b.toNat⟩
section
variable {x:Cx}{ops:Array Oper}{Q:lC}{rest:List Oper}{H:Hp}{M M':List bL}{L L':Env}
variable {d:Nat}{ty:TypeId}{pos:String}{aft:Array Edge}{g:Option (Nat×Bool)}
def sd (s:ByteArray) (cap:Nat):Array Value:=s.data.map (λb:UInt8=>Value.int .u8 b.toNat)++Array.replicate (cap-s.size) (Value.int .u8 0)
theorem Cg (w:World) (c:Array Value) (e:TypeId):(w.alloc (.cells c e)).freeze ⟨w.heap.size,c.size,none⟩ 1=w.alloc (.cells c e (c.size,c.size+1)):=by
 have key:∀ (f:Obj->Obj),f (.cells c e)=.cells c e (c.size,c.size+1)->(w.heap.push (.cells c e)).modify w.heap.size f=w.heap.push (.cells c e (c.size,c.size+1)):=by
  intro f hf;apply Array.ext_getElem?;intro i;rw [S7,Array.getElem?_push,Array.getElem?_push]
  by_cases h:w.heap.size=i
  ·subst h; simp [hf]
  ·rw [O2 h,O2 (λq=>h q.symm),O2 (λq=>h q.symm)]
 unfold World.freeze;rw [O2 (by omega)]
 show ({ w with heap:=(w.heap.push (.cells c e)).modify w.heap.size _ }:World)={ w with heap:=w.heap.push (.cells c e (c.size,c.size+1)) }
 rw [key _ (by simp)]
theorem xD (s:ByteArray):(jM s).length=s.size:=by unfold jM; rw [QN,Array.length_toList]; rfl
theorem yy {P:Program}{w:World}{e:TypeId}{s:ByteArray}:
  (Conv.stringToBytes e s).run P w=.ok (.slice (some ⟨w.heap.size,0,none⟩) s.size (grownCap w s.size 0 e))
   (w.drew.alloc (.cells (sd s (grownCap w s.size 0 e)) e ((sd s (grownCap w s.size 0 e)).size,(sd s (grownCap w s.size 0 e)).size+1))):=by
 have hch:(choose (.appendCap s.size 0 e)).run P w=.ok (grownCap w s.size 0 e) w.drew:=by
  simp only [choose,Sem.run,Question.forced,PZ,Qw]; rfl
 have hnr:∀ (c:Array Value) (w:World),(newRow e c).run P w=.ok ⟨w.heap.size,0,none⟩ (w.alloc (.cells c e)):=λc w=>by
  simp only [newRow,newObj,O8,Pc,Sem.run,O4,World.alloc]
 have hms:∀ (c:Array Value) (w:World),(markStringish ⟨w.heap.size,0,none⟩).run P (w.alloc (.cells c e))=.ok () (w.alloc (.cells c e (c.size,c.size+1))):=λc w=>by
  have hsh:(w.alloc (.cells c e)).shape? w.heap.size=some (e,c.size):=by
   have:(w.alloc (.cells c e)).heap[w.heap.size]? = some (.cells c e):=SX w _;simp only [World.shape?,this]
  simp only [markStringish,shape,O8,Sem.run,hsh,O4,Go.freeze,Cg]
 simp only [Conv.stringToBytes,O8,hch,O4,hnr];have:=hms (sd s (grownCap w s.size 0 e)) w.drew;simp only [sd] at this ⊢;rw [show (w.drew.heap.size)=w.heap.size from rfl] at this ⊢;rw [this]
 rfl
theorem wA {t u e:TypeId}{y:Operand}{s:ByteArray} (hg:gd ops L ⟨some d,.convert t u y,ty,pos,aft,g⟩=some true) (hN:Nat.blt d x.N=true)
  (ht:∀ w,(underlying t).run x.P w=.ok .string w) (hu:∀ w,(underlying u).run x.P w=.ok (.slice e) w) (he:∀ w,(underlying e).run x.P w=.ok (.int .u8) w)
  (hy:ev L y=some (.string s)) (hs:s.size<=maxLen)
  (k:∀ v H',H.le H'->aP H' v (jM s)->W x ops Q rest H' M ((d,v)::L)):
  W x ops Q (⟨some d,.convert t u y,ty,pos,aft,g⟩::rest) H M L:=by
 refine rY rfl hg hN λa w hsl h=>?_;have hge:=Tr w s.size 0 e;have hcm:grownCap w s.size 0 e<=maxLen:=SR w s.size 0 e hs;have h':St x.B x.w0 H M w.drew:=h.drewN (w.drawn+1);generalize hcap:grownCap w s.size 0 e=cap at hge hcm;have ha:=(h'.alloc (.cells (sd s cap) e ((sd s cap).size,(sd s cap).size+1))).freeze;refine ⟨.slice (some ⟨w.heap.size,0,none⟩) s.size cap,w.drew.alloc (.cells (sd s cap) e ((sd s cap).size,(sd s cap).size+1)),?_,_,M,ha.2,k _ _ ha.1 (.inr ⟨w.heap.size,0,cap,_,e,_,?_,?_,hcm,Hp.wH _ _ _,?_,?_⟩)⟩
 ·have hr:=yy (P:=x.P) (w:=w) (e:=e) (s:=s)
  rw [hcap] at hr;simp only [execOp,hsl.ev hy,convert,O8,ht,hu,he,O4,hr,Pc]
 ·rw [xD]
 ·rw [xD]; exact hge
 ·have e0:s.size=s.data.size:=rfl
  simp [aF.sz,sd];omega
 ·intro j el hel
  refine ⟨[.int .u8 el.n],rfl,λi c hc=>?_⟩;have hi:i=0:=by
   have:=(OY.1 hc).1;simp at this; omega
  subst hi;simp at hc; subst hc
  have hj:=(OY.1 hel).1;simp [jM] at hel hj;obtain ⟨b,hb,rfl⟩:=hel;simp only [aF.sz,Pm,Ro,Qs,sd];rw [Array.getElem?_append_left (by simpa using hj),Array.getElem?_map,hb]
  rfl
theorem CH {P:Program}{w:World}{t e:TypeId}{o:Option Addr}{n c:Nat} (hT:∀ w,(underlying t).run P w=.ok (.slice e) w):(Op.equal t (.slice o n c) (.slice none 0 0)).run P w=.ok o.isNone w:=by
 have key:∀ k,(Op.equalIn (k+1) t (.slice o n c) (.slice none 0 0)).run P w=.ok o.isNone w:=λk=>by
  unfold Op.equalIn;cases o <;> simp [hT]
 exact key 9999
theorem rC {t e u:TypeId}{y z:Operand}{o:Option Addr}{n c:Nat} (hg:gd ops L ⟨some d,.binOp .eql t y z u,ty,pos,aft,g⟩=some true) (hN:Nat.blt d x.N=true)
  (hT:∀ w,(underlying t).run x.P w=.ok (.slice e) w) (hy:ev L y=some (.slice o n c)) (hz:ev L z=some (.slice none 0 0))
  (k:W x ops Q rest H M ((d,.bool o.isNone)::L)):
  W x ops Q (⟨some d,.binOp .eql t y z u,ty,pos,aft,g⟩::rest) H M L:=
 eO rfl hg hN (λa w hs _=>by
  simp only [execOp,hs.ev hy,hs.ev hz,O8,eqGuard,binOp,CH hT,O4,Pc]
  rfl) k
end
section
variable {B:Nat}{w0 w:World}{H:Hp}{M:List bL}
theorem St.kG {α:Type}[aF α] {v:Value}{T:TypeId}{n:Nat}{xs:List Value}{ys:List α}
  (h:St B w0 H (.row v T (aF.sz α) n xs::M) w) (hx:Rw H v xs ys) (hs:Nat.blt 0 (aF.sz α)=true):
  ∃ H',H.le H'/\St B w0 H' M w/\aP H' v ys/\∀ M' w',St B w0 H' M' w'->St B w0 H (.row v T (aF.sz α) n xs::M') w':=by
 have hs':0<aF.sz α:=by simpa [P7] using hs
 have hok:=h.ok _ (O0 ..);have hlo:=h.lo _ (O0 ..);obtain ⟨hl,hh⟩:=hok;have hn:n=ys.length:=by
  have:=hx.rd.len;rw [hl] at this;exact QC hs' this
 subst hn;rcases hh with ⟨rfl,h0⟩ | ⟨g,off,cap,cur,rfl,hg,hnc,hcm,hcs,htake⟩
 ·refine ⟨H,PT _,h.tail,.inl ⟨⟨_,rfl⟩,Pw h0⟩,λM' w' h'=>?_⟩
  have hx0:xs=[]:=Pw (by rw [hl,h0,Qt])
  rw [h0,hx0];exact h'.AH T _
 ·have h':St B w0 H (.obj g (.cells cur T (0,0))::M) w:=by
   refine ⟨h.below,h.le,h.tG,?_,?_,h.nd⟩
   ·intro r hr
    rcases PH.1 hr with rfl | hr
    ·exact hg
    ·exact h.tail.ok r hr
   ·intro r hr
    rcases PH.1 hr with rfl | hr
    ·exact hlo
    ·exact h.tail.lo r hr
  obtain ⟨hle,hst⟩:=h'.freeze;refine ⟨_,hle,hst,.inr ⟨g,off,cap,cur,T,(0,0),rfl,hnc,hcm,Hp.wH _ _ _,hcs,?_⟩,λM' w' hb=>?_⟩
  ·intro k e he
   obtain ⟨c,h1,h2⟩:=(hx.rd.mono hle).get k e he;refine ⟨c,h1,λj d hd=>?_⟩;have:=h2 j d hd;rw [<- htake,PN] at this
   split at this
   ·rw [PG] at this; simpa [Q_] using this
   ·cases this
  ·have ht:=St.NX (H:=H) hb (hlo g (List.Mem.head _)).1 hle (hlo g (List.Mem.head _)).2 (Hp.wH _ _ _)
   refine ⟨ht.below,ht.le,ht.tG,?_,?_,ht.nd⟩
   ·intro r hr
    rcases PH.1 hr with rfl | hr
    ·exact ⟨hl,.inr ⟨g,off,cap,cur,rfl,ht.ok _ (O0 ..),hnc,hcm,hcs,htake⟩⟩
    ·exact ht.tail.ok r hr
   ·intro r hr
    rcases PH.1 hr with rfl | hr
    ·exact ht.lo (.obj g _) (O0 ..)
    ·exact ht.tail.lo r hr
theorem fK {P:Program}{f:FuncId}{args:Array Value}{H1:Hp}{r:bL}{φ:List bL->Value->Prop}
  (back:∀ M' w',St B w0 H1 M' w'->St B w0 H (r::M') w') (h:Calls P f args w (eA B w0 λH' M' v=>H1=H'/\φ M' v)):
  Calls P f args w (eA B w0 λH' M' v=>H=H'/\∃ M2,r::M2=M'/\φ M2 v):=
 h.mono λe w' he=>by
  cases e with
  | returned v=>
   obtain ⟨H2,M',h1,h2,h3⟩:=he;subst h2;exact ⟨H,r::M',back M' w' h1,rfl,M',rfl,h3⟩
  | panicked c=>exact he
  | outgrown=>exact he
end
section
variable {x:Cx}{ops:Array Oper}{Q:lC}{rest:List Oper}{H:Hp}{M M':List bL}{L L':Env}
variable {d:Nat}{ty:TypeId}{pos:String}{aft:Array Edge}{g:Option (Nat×Bool)}
theorem zP {fn:Fn}{first caps:List Operand}{vs cs:List Value} (hg:gd ops L ⟨some d,.makeFunc fn first.toArray caps.toArray,ty,pos,aft,g⟩=some true) (hN:Nat.blt d x.N=true)
  (hv:xH L first=some vs) (hc:xH L caps=some cs) (k:W x ops Q rest H M ((d,.func fn vs.toArray cs.toArray)::L)):
  W x ops Q (⟨some d,.makeFunc fn first.toArray caps.toArray,ty,pos,aft,g⟩::rest) H M L:=
 eO rfl hg hN (λa w hs _=>by simp [execOp,Instr.makeFunc,hs.xH hv,hs.xH hc]) k
theorem mJ {d:Nat}{y:Operand}{f:FuncId}{args:List Operand}{tys:Array TypeId}{vs fs cs:List Value}
  {Φ:Hp->List bL->Value->Prop}
  (hcall:∀ as w,(callFunc f as).run x.P w=.ok (.enter f as) w)
  (hg:gd ops L ⟨some d,.call ⟨.value y,args.toArray,tys⟩,ty,pos,aft,g⟩=some true) (hN:Nat.blt d x.N=true)
  (hy:ev L y=some (.func (.func f) fs.toArray cs.toArray)) (hv:xH L args=some vs)
  (hc:∀ w,St x.B x.w0 H M w->Calls x.P f (fs++vs++cs).toArray w (eA x.B x.w0 Φ))
  (k:∀ v H' M',Φ H' M' v->W x ops Q rest H' M' ((d,v)::L)):
  W x ops Q (⟨some d,.call ⟨.value y,args.toArray,tys⟩,ty,pos,aft,g⟩::rest) H M L:=by
 intro a w hs ht;refine SG λK hK=>?_;rw [O3 (hs.gd hg)];have hargs:args.toArray.map a.eval=vs.toArray:=by simp [hs.xH hv]
 have hr:(execOp a.eval ⟨some d,.call ⟨.value y,args.toArray,tys⟩,ty,pos,aft,g⟩).run x.P w=.ok (.enter f (fs++vs++cs).toArray) w:=by
  simp only [execOp,resolve,hargs,hs.ev hy,Deferred.ofValue,O8,Pc,O4,invoke];simp [hcall]
 unfold Oper.wp;rw [hr];simp only [Oper.upon];refine (hc w ht).mono λe w' he=>?_;cases e with
 | returned v=>
  obtain ⟨H',M',h1,h2⟩:=he;exact hK _ _ (k v H' M' h2 _ _ (hs.put hN) h1)
 | panicked c=>exact he.elim
 | outgrown=>exact he.elim
def sU (k:IntKind) (a b:Int):Int:=k.wrap (a*2 ^ (min b.toNat k.bits))
def nJ (k:IntKind) (a b:Int):Int:=a.fdiv (2 ^ (min b.toNat k.bits))
theorem C5 {t u:TypeId}{y z:Operand}{k k2:IntKind}{a b:Int} (hg:gd ops L ⟨some d,.binOp .shl t y z u,ty,pos,aft,g⟩=some true) (hN:Nat.blt d x.N=true)
  (hy:ev L y=some (.int k a)) (hz:ev L z=some (.int k2 b)) (hb:0<=b) (kk:W x ops Q rest H M ((d,.int k (sU k a b))::L)):
  W x ops Q (⟨some d,.binOp .shl t y z u,ty,pos,aft,g⟩::rest) H M L:=
 eO rfl hg hN (λc w hs _=>by
  have:¬ b<0:=by omega
  simp [execOp,hs.ev hy,hs.ev hz,eqGuard,binOp,Op.shift,this,sU]) kk
theorem th {t u:TypeId}{y z:Operand}{k k2:IntKind}{a b:Int} (hg:gd ops L ⟨some d,.binOp .shr t y z u,ty,pos,aft,g⟩=some true) (hN:Nat.blt d x.N=true)
  (hy:ev L y=some (.int k a)) (hz:ev L z=some (.int k2 b)) (hb:0<=b) (kk:W x ops Q rest H M ((d,.int k (nJ k a b))::L)):
  W x ops Q (⟨some d,.binOp .shr t y z u,ty,pos,aft,g⟩::rest) H M L:=
 eO rfl hg hN (λc w hs _=>by
  have:¬ b<0:=by omega
  simp [execOp,hs.ev hy,hs.ev hz,eqGuard,binOp,Op.shift,this,nJ]) kk
theorem rm {t u:TypeId}{y:Operand}{k k2:IntKind}{n:Int} (hg:gd ops L ⟨some d,.convert t u y,ty,pos,aft,g⟩=some true) (hN:Nat.blt d x.N=true)
  (ht:∀ w,(underlying t).run x.P w=.ok (.int k2) w) (hu:∀ w,(underlying u).run x.P w=.ok (.int k) w) (hy:ev L y=some (.int k2 n))
  (kk:W x ops Q rest H M ((d,.int k (k.wrap n))::L)):
  W x ops Q (⟨some d,.convert t u y,ty,pos,aft,g⟩::rest) H M L:=
 eO rfl hg hN (λc w hs _=>by simp [execOp,hs.ev hy,convert,ht,hu,Conv.intToInt]) kk
theorem zL {t u:TypeId}{y z:Operand}{a b:ByteArray} (hg:gd ops L ⟨some d,.binOp .add t y z u,ty,pos,aft,g⟩=some true) (hN:Nat.blt d x.N=true)
  (hy:ev L y=some (.string a)) (hz:ev L z=some (.string b)) (hb:a.size+b.size<=maxLen) (kk:W x ops Q rest H M ((d,.string (a++b))::L)):
  W x ops Q (⟨some d,.binOp .add t y z u,ty,pos,aft,g⟩::rest) H M L:=
 eO rfl hg hN (λc w hs _=>by
  have:¬ (((a.size+b.size:Nat):Int) > i64.max):=by
   simp only [IntKind.max,IntKind.signed,IntKind.bits]; unfold maxLen at hb; simp; omega
  simp only [execOp,hs.ev hy,hs.ev hz,eqGuard,binOp,Op.stringOp,O8];simp only [O2 this];simp) kk
theorem Em {s:ByteArray}{k:Nat}{c:U8} (h:(jM s)[k]? = some c):∃ b:UInt8,s[k]? = some b/\c=⟨b.toNat⟩:=by
 simp only [jM,Ps,Sp] at h;obtain ⟨b,hb,rfl⟩:=h;refine ⟨b,?_,rfl⟩;obtain ⟨hk,e⟩:=OY.1 hb;have hk':k<s.size:=by simpa using hk
 rw [getElem?_pos s k hk'];rw [<- e]; rfl
theorem xB {t:TypeId}{y z:Operand}{s:ByteArray}{kk:IntKind}{i:Int}{c:U8} (hg:gd ops L ⟨some d,.index t y z,ty,pos,aft,g⟩=some true) (hN:Nat.blt d x.N=true)
  (hT:∀ w,(underlying t).run x.P w=.ok .string w) (hy:ev L y=some (.string s)) (hz:ev L z=some (.int kk i)) (h0:0<=i) (he:(jM s)[i.toNat]? = some c)
  (k:W x ops Q rest H M ((d,.int .u8 c.n)::L)):
  W x ops Q (⟨some d,.index t y z,ty,pos,aft,g⟩::rest) H M L:=
 eO rfl hg hN (λa w hs _=>by
  obtain ⟨b,hb,rfl⟩:=Em he;simp [execOp,hs.ev hy,hs.ev hz,Instr.index,asIntOf,hT,h0,hb]) k
theorem q6 {t:TypeId}{y:Operand}{lo hi:Option Operand}{s:ByteArray}{l h:Nat} (hg:gd ops L ⟨some d,.slice t y lo hi none,ty,pos,aft,g⟩=some true) (hN:Nat.blt d x.N=true)
  (hT:∀ w,(underlying t).run x.P w=.ok .string w)
  (hy:ev L y=some (.string s)) (hh:Ff L hi s.size s.size h) (hl:Ff L lo 0 h l)
  (k:W x ops Q rest H M ((d,.string (s.extract l h))::L)):
  W x ops Q (⟨some d,.slice t y lo hi none,ty,pos,aft,g⟩::rest) H M L:=
 eO rfl hg hN (λa w hs _=>by
  have hb:(Instr.sliceBounds false s.size s.size (lo.map a.eval) (hi.map a.eval) none).run x.P w=.ok (l,h,s.size) w:=by
   rcases hh.bd hs with ⟨e1,rfl⟩ | ⟨kh,ih,e1,h0,h1,rfl⟩
   ·rcases hl.bd hs with ⟨e2,rfl⟩ | ⟨kl,il,e2,l0,l1,rfl⟩
    ·simp only [e1,e2,Instr.sliceBounds,O8,Pc,O4]
    ·simp only [e1,e2,Instr.sliceBounds,O8,Pc,O4,run_sliceBound l0 l1]
   ·rcases hl.bd hs with ⟨e2,rfl⟩ | ⟨kl,il,e2,l0,l1,rfl⟩
    ·simp only [e1,e2,Instr.sliceBounds,O8,Pc,O4,run_sliceBound h0 h1]
    ·simp only [e1,e2,Instr.sliceBounds,O8,Pc,O4,run_sliceBound h0 h1,run_sliceBound l0 l1]
  simp only [execOp,hs.ev hy,Instr.sliceAt,O8,hT,O4,Instr.slice,Sf,Option.isSome_none,PZ,Qw,hb,Pc]) k
end
class MV (α:Type) where
 mv:α->Value
instance:MV Int:=⟨λn=>.int .i64 n⟩
instance:MV Bool:=⟨λb=>.bool b⟩
instance:MV ByteArray:=⟨λs=>.string s⟩
class vV (α:Type) [DecidableEq α] extends MV α where
 kind:TypeDesc
 same:∀ a b:α,Instr.sameNow kind (mv a) (mv b)=some (decide (a=b))
 bits:∀ a:α,Instr.sameBits 10000 (mv a) (mv a)=true
 check:∀ (P:Program) (t:TypeId) (e:Bool) (a:α) (w:World),(∀ w,(underlying t).run P w=.ok kind w)->(Instr.checkKey e 10000 t (mv a)).run P w=.ok () w
theorem B1 (s t:ByteArray):(s == t)=decide (s=t):=by
 have h:(s == t)=(s.data == t.data):=rfl;rw [h,Bool.eq_iff_iff];simp only [beq_iff_eq,PF];exact ⟨λe=>ByteArray.ext e,λe=>by rw [e]⟩
instance:vV Int where
 kind:=.int .i64
 same a b:=by simp [Instr.sameNow,Ci,MV.mv]
 bits a:=by simp [Instr.sameBits,MV.mv]
 check P t e a w h:=by
  have key:∀ k,(Instr.checkKey e (k+1) t (.int .i64 a)).run P w=.ok () w:=λk=>by unfold Instr.checkKey; simp [h]
  exact key 9999
instance:vV ByteArray where
 kind:=.string
 same a b:=by simp [Instr.sameNow,B1,MV.mv]
 bits a:=by simp [Instr.sameBits,MV.mv,B1]
 check P t e a w h:=by
  have key:∀ k,(Instr.checkKey e (k+1) t (.string a)).run P w=.ok () w:=λk=>by unfold Instr.checkKey; simp [h]
  exact key 9999
section
variable {κ ν:Type}[DecidableEq κ] [vV κ] [MV ν]
structure rB (es:Array MapEntry) (c:Nat) (l:List (κ×ν)):Prop where
 eq:es.toList.map (λe=>(e.key,e.val))=l.map λp=>(MV.mv p.1,MV.mv p.2)
 nd:(es.toList.map (·.born)).Nodup
 lt:∀ e ∈ es.toList,e.born<c
def vo:List (κ×ν)->κ->Nat->Option (Nat×ν)
 | [],_,_=>none
 | (a,v)::r,k,i=>if a=k then some (i,v) else vo r k (i+1)
def qK (l:List (κ×ν)) (k:κ):Option ν:=(vo l k 0).map (·.2)
def ur (l:List (κ×ν)) (k:κ) (v:ν):List (κ×ν):=match vo l k 0 with
 | some (i,_)=>l.set i (k,v)
 | none=>l++[(k,v)]
theorem rB.nil:rB #[] 0 ([]:List (κ×ν)):=⟨rfl,by simp,by simp⟩
theorem Ah (k:κ):∀ (es:List MapEntry) (l:List (κ×ν)) (i:Nat),es.map (λe=>(e.key,e.val))=l.map (λp=>(MV.mv p.1,MV.mv p.2)) ->
  Instr.findNow (vV.kind κ) (MV.mv k) es i=some ((vo l k i).map λp=>(p.1,MV.mv p.2))
 | [],[],i,_=>rfl
 | [],_::_,i,h=>by simp at h
 | _::_,[],i,h=>by simp at h
 | e::es,(a,v)::l,i,h=>by
  simp only [RG,List.cons.injEq,Ra] at h;obtain ⟨⟨h1,h2⟩,h3⟩:=h;unfold Instr.findNow;rw [h1,vV.same]
  by_cases hk:k=a
  ·subst hk; simp [vo,h2]
  ·simp only [hk,Tg,vo,O2 (λe:a=k=>hk e.symm)]
   exact Ah k es l (i+1) h3
theorem run_findKey {P:Program}{w:World}{t:TypeId}{k:κ}{es:Array MapEntry}{c:Nat}{l:List (κ×ν)} (h:rB es c l) (hK:∀ w,(underlying t).run P w=.ok (vV.kind κ) w):
  (Instr.findKey t (MV.mv k) es.toList).run P w=.ok ((vo l k 0).map λp=>(p.1,MV.mv p.2)) w:=by
 simp only [Instr.findKey,O8,hK,O4,Ah k es.toList l 0 h.eq,Pc]
theorem ER:∀ {l:List (κ×ν)}{k:κ}{i j:Nat}{v:ν},vo l k i=some (j,v)->i<=j/\j<i+l.length/\l[j-i]? = some (k,v)
 | [],k,i,j,v,h=>by simp [vo] at h
 | (a,u)::l,k,i,j,v,h=>by
  unfold vo at h
  split at h
  ·rename_i e; subst e
   simp only [Pf,Ra] at h;obtain ⟨rfl,rfl⟩:=h;simp
  ·obtain ⟨h1,h2,h3⟩:=ER h
   refine ⟨by omega,by simp; omega,?_⟩
   rw [show j-i=(j-(i+1))+1 by omega,List.getElem?_cons_succ]; exact h3
end
section
variable {x:Cx}{ops:Array Oper}{Q:lC}{rest:List Oper}{H:Hp}{M M':List bL}{L L':Env}
variable {d:Nat}{ty:TypeId}{pos:String}{aft:Array Edge}{g:Option (Nat×Bool)}
variable {κ ν:Type}[DecidableEq κ] [vV κ] [MV ν]
theorem yF {t:TypeId} (hg:gd ops L ⟨some d,.makeMap t none,ty,pos,aft,g⟩=some true) (hN:Nat.blt d x.N=true)
  (k:∀ b,W x ops Q rest H (.obj b (.map #[] 0)::M) ((d,.map (some b))::L)):
  W x ops Q (⟨some d,.makeMap t none,ty,pos,aft,g⟩::rest) H M L:=
 rY rfl hg hN (λc w hs ht=>⟨_,w.alloc (.map #[] 0),by
  simp only [execOp,Instr.makeMap,Sf,newObj,O8,Pc,Sem.run,O4,World.alloc],_,_,ht.alloc _,k _⟩)
theorem vK {P:Program}{w:World}{b:Nat}{es:Array MapEntry}{c:Nat} (h:w.heap[b]? = some (.map es c)):(getObj b).run P w=.ok (.map es c) w:=by
 simp [getObj,Sem.run,h]
theorem E7 {P:Program}{w:World}{t key e:TypeId}{b c:Nat}{es:Array MapEntry}{l:List (κ×ν)}{k:κ}{z:ν}{ok:Bool} (hb:w.heap[b]? = some (.map es c)) (h:rB es c l)
  (hT:∀ w,(underlying t).run P w=.ok (.map key e) w) (hK:∀ w,(underlying key).run P w=.ok (vV.kind κ) w) (hz:∀ w,(zeroValue e).run P w=.ok (MV.mv z) w):
  (Instr.lookup t (.map (some b)) (MV.mv k) ok).run P w=.ok (if ok then .tuple #[MV.mv ((qK l k).getD z),.bool (qK l k).isSome] else MV.mv ((qK l k).getD z)) w:=by
 simp only [Instr.lookup,O8,hT,O4,vK hb,Pc,vV.check P key _ k w hK,run_findKey h hK];unfold qK;cases hm:vo l k 0 with
 | none=>simp only [Sf,O8,hz,O4,Pc]; rfl
 | some p=>simp only [Qo,Pc,O4]; rfl
theorem zO {t key e:TypeId}{b c:Nat}{y u:Operand}{es:Array MapEntry}{l:List (κ×ν)}{k:κ}{z:ν}{vk v:Value} (hm:bL.obj b (.map es c) ∈ M) (h:rB es c l)
  (hg:gd ops L ⟨some d,.lookup t y u false,ty,pos,aft,g⟩=some true) (hN:Nat.blt d x.N=true)
  (hT:∀ w,(underlying t).run x.P w=.ok (.map key e) w) (hK:∀ w,(underlying key).run x.P w=.ok (vV.kind κ) w) (hz:∀ w,(zeroValue e).run x.P w=.ok (MV.mv z) w)
  (hy:ev L y=some (.map (some b))) (hu:ev L u=some vk) (hvk:vk=MV.mv k) (hv:MV.mv ((qK l k).getD z)=v)
  (kk:W x ops Q rest H M ((d,v)::L)):
  W x ops Q (⟨some d,.lookup t y u false,ty,pos,aft,g⟩::rest) H M L:=
 eO rfl hg hN (λa w hs ht=>by
  subst hvk; subst hv
  simp only [execOp,hs.ev hy,hs.ev hu,O8,E7 (ok:=false) (ht.uO hm) h hT hK hz,O4,Pc]; rfl) kk
theorem wL (w:World) (b:Nat) (o:Obj):w.grownBy { w with heap:=w.heap.setIfInBounds b o } (some b):=
 ⟨rfl,rfl,rfl,by simp,λk _ hne=>by
  simp only [Ss];rw [O2 (λe=>hne (by rw [e]))]⟩
theorem wD {t key e:TypeId}{b c:Nat}{y u q:Operand}{es:Array MapEntry}{l:List (κ×ν)}{k:κ}{v:ν}{vk vv:Value} (h:rB es c l)
  (hg:gd ops L ⟨none,.mapUpdate t y u q,ty,pos,aft,g⟩=some true)
  (hT:∀ w,(underlying t).run x.P w=.ok (.map key e) w) (hK:∀ w,(underlying key).run x.P w=.ok (vV.kind κ) w)
  (hy:ev L y=some (.map (some b))) (hu:ev L u=some vk) (hvk:vk=MV.mv k) (hq:ev L q=some vv) (hvv:vv=MV.mv v)
  (kk:∀ es' c',rB es' c' (ur l k v)->W x ops Q rest H (.obj b (.map es' c')::M) L):
  W x ops Q (⟨none,.mapUpdate t y u q,ty,pos,aft,g⟩::rest) H (.obj b (.map es c)::M) L:=
 BW rfl hg (λa w hs ht=>by
  subst hvk; subst hvv
  have hb:=ht.uO (O0 ..);have hlt:b<w.heap.size:=(Qk.1 hb).1;have hset:∀ o,(setObj b o).run x.P w=.ok () { w with heap:=w.heap.setIfInBounds b o }:=λo=>by simp [setObj,Sem.run,hb]
  have fin:∀ es' c',rB es' c' (ur l k v)->∃ H' M',St x.B x.w0 H' M' { w with heap:=w.heap.setIfInBounds b (.map es' c') }/\W x ops Q rest H' M' L:=λes' c' hr=>
   ⟨H,_,ht.CS (r':=.obj b (.map es' c')) (wL w b _) (by simp [bL.ok,hlt]) (λ_ hc=>.inl hc),kk es' c' hr⟩
  have hlen:es.size=l.length:=by have:=P3 List.length h.eq; simpa using this
  cases hm:vo l k 0 with
  | none=>
   refine ⟨_,?_,fin (es.push { key:=MV.mv k,val:=MV.mv v,born:=c }) (c+1) ?_⟩
   ·simp only [execOp,hs.ev hy,hs.ev hu,hs.ev hq,Instr.mapUpdate,O8,hT,O4,vK hb,vV.check x.P key _ k w hK,run_findKey h hK,hm,Sf,hset,Pc]
   ·refine ⟨?_,?_,λe he=>?_⟩
    ·unfold ur
     rw [hm];simp only [Array.toList_push,Qj,RG,Td];rw [show es.toList.map _=_ from h.eq]
    ·simp only [Array.toList_push,Qj,RG,Td]
     rw [PS];refine ⟨h.nd,by simp,λa ha b hb e=>?_⟩
     simp at hb; subst hb; subst e
     obtain ⟨y,hy,rfl⟩:=PL.1 ha;exact Nat.lt_irrefl _ (h.lt y hy)
    ·simp only [Array.toList_push,Pa,PA] at he
     rcases he with he | rfl
     ·exact Nat.lt_succ_of_lt (h.lt e he)
     ·exact Q3 _
  | some p=>
   obtain ⟨i,u0⟩:=p;obtain ⟨_,hi,hget⟩:=ER hm;simp only [Pm,RT] at hi hget;have hi':i<es.size:=by omega
   have hkey:es[i].key=MV.mv k:=by
    have h1:(es.toList.map λe=>(e.key,e.val))[i]? = some (MV.mv k,MV.mv u0):=by rw [show es.toList.map _=_ from h.eq,Ps,hget]; rfl
    rw [Ps] at h1;simp [hi'] at h1;exact h1.1
   refine ⟨_,?_,fin (es.modify i λe=>{ e with key:=MV.mv k,val:=MV.mv v }) c ?_⟩
   ·have hg2:((es[i]?).map (·.key)).getD (MV.mv k)=MV.mv k:=by simp [hi',hkey]
    simp only [execOp,hs.ev hy,hs.ev hu,hs.ev hq,Instr.mapUpdate,O8,hT,O4,vK hb,vV.check x.P key _ k w hK,run_findKey h hK,hm,Qo,hg2,Instr.keyThatStays,vV.bits,SF,hset,Pc]
   ·have hbn:(es.modify i λe=>{ e with key:=MV.mv k,val:=MV.mv v }).toList.map (·.born)=es.toList.map (·.born):=by
     simp only [Array.toList_modify];apply QD;intro j;rw [Ps,Ps,List.getElem?_modify]
     by_cases e:i=j
     ·subst e; cases es.toList[i]? <;> simp
     ·simp [O2 e]
    refine ⟨?_,by rw [hbn]; exact h.nd,λe he=>?_⟩
    rotate_left
    ·have h1:e.born ∈ es.toList.map (·.born):=by rw [<- hbn]; exact PL.2 ⟨e,he,rfl⟩
     obtain ⟨y,hy,hyb⟩:=PL.1 h1;rw [<- hyb]; exact h.lt y hy
    unfold ur;rw [hm];simp only [Array.toList_modify];apply QD;intro j;rw [Ps,Ps,List.getElem?_modify,Sr];have hj:(es.toList.map λe=>(e.key,e.val))[j]? = (l.map λp=>(MV.mv p.1,MV.mv p.2))[j]? := by rw [show es.toList.map _=_ from h.eq]
    rw [Ps,Ps] at hj
    by_cases e:i=j
    ·subst e
     simp [hi',hi]
    ·simp only [O2 e]
     simpa using hj)
end
section
variable {x:Cx}{ops:Array Oper}{Q:lC}{rest:List Oper}{H:Hp}{M M':List bL}{L L':Env}
variable {d:Nat}{ty:TypeId}{pos:String}{aft:Array Edge}{g:Option (Nat×Bool)}
theorem wC {t:TypeId}{y:Operand}{f:Nat}{cs:List Value}{v:Value}{fs:Array Field}{fd:Field} (hg:gd ops L ⟨some d,.field t y f,ty,pos,aft,g⟩=some true) (hN:Nat.blt d x.N=true)
  (hT:∀ w,(underlying t).run x.P w=.ok (.struct fs) w) (hf:fs[f]? = some fd) (hA:∀ w,(isAgg fd.type).run x.P w=.ok false w)
  (hy:ev L y=some (.agg cs.toArray)) (hv:cs[fd.offset]? = some v) (k:W x ops Q rest H M ((d,v)::L)):
  W x ops Q (⟨some d,.field t y f,ty,pos,aft,g⟩::rest) H M L:=
 eO rfl hg hN (λa w hs ht=>by simp [execOp,hs.ev hy,Instr.field,hT,hf,asAgg,part,hA,hv]) k
theorem HF {t e:TypeId}{y z:Operand}{n sz:Nat}{cs:List Value}{v:Value}{kk:IntKind}{i:Int} (hg:gd ops L ⟨some d,.index t y z,ty,pos,aft,g⟩=some true) (hN:Nat.blt d x.N=true)
  (hT:∀ w,(underlying t).run x.P w=.ok (.array n e) w) (hA:∀ w,(isAgg e).run x.P w=.ok false w) (hn:∀ w,(sizeOf e).run x.P w=.ok sz w)
  (hy:ev L y=some (.agg cs.toArray)) (hz:ev L z=some (.int kk i)) (h0:0<=i) (h1:i.toNat<n) (hv:cs[i.toNat*sz]? = some v) (k:W x ops Q rest H M ((d,v)::L)):
  W x ops Q (⟨some d,.index t y z,ty,pos,aft,g⟩::rest) H M L:=
 eO rfl hg hN (λa w hs ht=>by
  have h1':i<(n:Int):=by omega
  simp [execOp,hs.ev hy,hs.ev hz,Instr.index,asIntOf,hT,h0,h1',hn,part,hA,hv]) k
def Fi (P:Program) (d:Nat) (xs ys:Array Value) (T:TypeId) (o:Nat) (b:Bool):Prop:=
 ∀ w,∃ u v,(part T xs o).run P w=.ok u w/\(part T ys o).run P w=.ok v w/\(Op.equalIn d T u v).run P w=.ok b w
def N7 (P:Program) (d:Nat) (xs ys:Array Value):List Field->List Bool->Prop
 | [],[]=>True
 | f::fs,b::bs=>f.name ≠ "_" /\ Fi P d xs ys f.type f.offset b/\N7 P d xs ys fs bs
 | _,_=>False
theorem vi {P:Program}{t:TypeId}{fs:Array Field}{xs ys:Array Value}{w:World}{d:Nat}{bs:List Bool} (hT:∀ w,(underlying t).run P w=.ok (.struct fs) w) (hs:P.stoodInHeld t=false)
  (h:N7 P d xs ys fs.toList bs):(Op.equalIn (d+1) t (.agg xs) (.agg ys)).run P w=.ok (bs.all id) w:=by
 unfold Op.equalIn;simp only [O8,hT,O4,program,Sem.run,hs,PZ,Qw];rw [<- Array.forIn_toList]
 revert h
 generalize fs.toList=l;intro h
 induction l generalizing bs with
 | nil=>
  cases bs with
  | nil=>simp
  | cons b bs=>exact h.elim
 | cons f l ih=>
  cases bs with
  | nil=>exact h.elim
  | cons b bs=>
   obtain ⟨h1,h2,h3⟩:=h;obtain ⟨u,v,q1,q2,q3⟩:=h2 w;rw [List.forIn_cons];simp only [O3 h1,O8,q1,q2,q3,O4];cases b with
   | false=>simp
   | true=>
    simp only [Bool.not_true,PZ,Qw,Pc,O4];have:=ih h3;simpa using this
theorem Bu {P:Program}{d T o:Nat}{xs ys:Array Value}{k:IntKind}{m n:Int} (hA:∀ w,(isAgg T).run P w=.ok false w) (hT:∀ w,(underlying T).run P w=.ok (.int k) w) (hx:xs[o]? = some (.int k m)) (hy:ys[o]? = some (.int k n)):
  Fi P (d+1) xs ys T o (decide (m=n)):=λw=>by
 refine ⟨_,_,by simp only [part,O8,hA,O4,PZ,Qw,hx,Pc]; rfl,by simp only [part,O8,hA,O4,PZ,Qw,hy,Pc]; rfl,?_⟩
 unfold Op.equalIn;simp [hT,Ci]
theorem Ai {P:Program}{d T o:Nat}{xs ys:Array Value}{m n:Bool} (hA:∀ w,(isAgg T).run P w=.ok false w) (hT:∀ w,(underlying T).run P w=.ok .bool w) (hx:xs[o]? = some (.bool m)) (hy:ys[o]? = some (.bool n)):
  Fi P (d+1) xs ys T o (decide (m=n)):=λw=>by
 refine ⟨_,_,by simp only [part,O8,hA,O4,PZ,Qw,hx,Pc]; rfl,by simp only [part,O8,hA,O4,PZ,Qw,hy,Pc]; rfl,?_⟩
 have e:(m == n)=decide (m=n):=by cases m <;> cases n <;> rfl
 unfold Op.equalIn;simp [hT,e]
theorem uY {P:Program}{d T o:Nat}{xs ys:Array Value}{m n:ByteArray} (hA:∀ w,(isAgg T).run P w=.ok false w) (hT:∀ w,(underlying T).run P w=.ok .string w) (hx:xs[o]? = some (.string m)) (hy:ys[o]? = some (.string n)):
  Fi P (d+1) xs ys T o (decide (m=n)):=λw=>by
 refine ⟨_,_,by simp only [part,O8,hA,O4,PZ,Qw,hx,Pc]; rfl,by simp only [part,O8,hA,O4,PZ,Qw,hy,Pc]; rfl,?_⟩
 unfold Op.equalIn;simp [hT,B1]
theorem Fm {t u:TypeId}{y z:Operand}{xs ys:List Value}{b:Bool} (hg:gd ops L ⟨some d,.binOp .eql t y z u,ty,pos,aft,g⟩=some true) (hN:Nat.blt d x.N=true)
  (hE:x.P.eqGuardType x.P.depth t=false) (hy:ev L y=some (.agg xs.toArray)) (hz:ev L z=some (.agg ys.toArray)) (h:∀ w,(Op.equalIn 10000 t (.agg xs.toArray) (.agg ys.toArray)).run x.P w=.ok b w)
  (k:W x ops Q rest H M ((d,.bool b)::L)):W x ops Q (⟨some d,.binOp .eql t y z u,ty,pos,aft,g⟩::rest) H M L:=
 eO rfl hg hN (λc w hs _=>by
  have h':(Op.equal t (.agg xs.toArray) (.agg ys.toArray)).run x.P w=.ok b w:=h w;have hp:∀ w,(program:Sem Program).run x.P w=.ok x.P w:=λ_=>rfl;simp only [execOp,hs.ev hy,hs.ev hz,O8,eqGuard,binOp];simp [h',hp,hE]) k
theorem uU {t e u:TypeId}{y z:Operand}{a:Option Addr} (hg:gd ops L ⟨some d,.binOp .eql t y z u,ty,pos,aft,g⟩=some true) (hN:Nat.blt d x.N=true)
  (hT:∀ w,(underlying t).run x.P w=.ok (.pointer e) w) (hy:ev L y=some (.pointer a)) (hz:ev L z=some (.pointer none))
  (k:W x ops Q rest H M ((d,.bool a.isNone)::L)):W x ops Q (⟨some d,.binOp .eql t y z u,ty,pos,aft,g⟩::rest) H M L:=
 eO rfl hg hN (λc w hs _=>by
  have key:∀ k,(Op.equalIn (k+1) t (.pointer a) (.pointer none)).run x.P w=.ok a.isNone w:=λk=>by
   unfold Op.equalIn;cases a <;> simp [hT]
  have h':(Op.equal t (.pointer a) (.pointer none)).run x.P w=.ok a.isNone w:=key 9999;simp only [execOp,hs.ev hy,hs.ev hz,O8,eqGuard,binOp];simp [h']) k
theorem zR {t e u:TypeId}{y z:Operand}{a:Option Addr} (hg:gd ops L ⟨some d,.binOp .neq t y z u,ty,pos,aft,g⟩=some true) (hN:Nat.blt d x.N=true)
  (hT:∀ w,(underlying t).run x.P w=.ok (.pointer e) w) (hy:ev L y=some (.pointer a)) (hz:ev L z=some (.pointer none))
  (k:W x ops Q rest H M ((d,.bool (!a.isNone))::L)):W x ops Q (⟨some d,.binOp .neq t y z u,ty,pos,aft,g⟩::rest) H M L:=
 eO rfl hg hN (λc w hs _=>by
  have key:∀ k,(Op.equalIn (k+1) t (.pointer a) (.pointer none)).run x.P w=.ok a.isNone w:=λk=>by
   unfold Op.equalIn;cases a <;> simp [hT]
  have h':(Op.equal t (.pointer a) (.pointer none)).run x.P w=.ok a.isNone w:=key 9999;simp only [execOp,hs.ev hy,hs.ev hz,O8,eqGuard,binOp];simp [h']) k
theorem wB {t u:TypeId}{y z:Operand}{a b:Bool} (hg:gd ops L ⟨some d,.binOp .eql t y z u,ty,pos,aft,g⟩=some true) (hN:Nat.blt d x.N=true)
  (hT:∀ w,(underlying t).run x.P w=.ok .bool w) (hy:ev L y=some (.bool a)) (hz:ev L z=some (.bool b))
  (k:W x ops Q rest H M ((d,.bool (decide (a=b)))::L)):W x ops Q (⟨some d,.binOp .eql t y z u,ty,pos,aft,g⟩::rest) H M L:=
 eO rfl hg hN (λc w hs _=>by
  have e:(a == b)=decide (a=b):=by cases a <;> cases b <;> rfl
  have key:∀ k,(Op.equalIn (k+1) t (.bool a) (.bool b)).run x.P w=.ok (decide (a=b)) w:=λk=>by
   unfold Op.equalIn;simp [hT,e]
  have h':(Op.equal t (.bool a) (.bool b)).run x.P w=.ok (decide (a=b)) w:=key 9999;simp only [execOp,hs.ev hy,hs.ev hz,O8,eqGuard,binOp];simp [h']) k
theorem C3 {t u:TypeId}{y z:Operand}{a b:Bool} (hg:gd ops L ⟨some d,.binOp .neq t y z u,ty,pos,aft,g⟩=some true) (hN:Nat.blt d x.N=true)
  (hT:∀ w,(underlying t).run x.P w=.ok .bool w) (hy:ev L y=some (.bool a)) (hz:ev L z=some (.bool b))
  (k:W x ops Q rest H M ((d,.bool (!decide (a=b)))::L)):W x ops Q (⟨some d,.binOp .neq t y z u,ty,pos,aft,g⟩::rest) H M L:=
 eO rfl hg hN (λc w hs _=>by
  have e:(a == b)=decide (a=b):=by cases a <;> cases b <;> rfl
  have key:∀ k,(Op.equalIn (k+1) t (.bool a) (.bool b)).run x.P w=.ok (decide (a=b)) w:=λk=>by
   unfold Op.equalIn;simp [hT,e]
  have h':(Op.equal t (.bool a) (.bool b)).run x.P w=.ok (decide (a=b)) w:=key 9999;simp only [execOp,hs.ev hy,hs.ev hz,O8,eqGuard,binOp];simp [h']) k
end
def EP (acc:List Nat) (o:Oper):Nat:=(g_ o).foldl (λm j=>m ||| ((1 <<< j) ||| acc.getD j 0)) 0
def AD:List Nat->List Oper->List Nat
 | acc,[]=>acc
 | acc,o::r=>AD (acc++[EP acc o]) r
theorem AB {acc:List Nat}{j:Nat}:∀ (ws:List Nat) (z:Nat),(ws.foldl (λm j=>m ||| ((1 <<< j) ||| acc.getD j 0)) z).testBit j=true ->
  z.testBit j=true\/∃ q ∈ ws,j=q\/(acc.getD q 0).testBit j=true
 | [],z,h=>.inl h
 | q::ws,z,h=>by
  rcases AB ws _ h with h | ⟨r,hr,h⟩
  ·rw [Nat.testBit_or,Nat.testBit_or,Qu,Qu] at h
   rcases h with h | h | h
   ·exact .inl h
   ·refine .inr ⟨q,O0 ..,.inl ?_⟩
    rw [Nat.shiftLeft_eq,SE,Nat.testBit_two_pow] at h;simpa using (O1 h).symm
   ·exact .inr ⟨q,O0 ..,.inr h⟩
  ·exact .inr ⟨r,O5 _ hr,h⟩
theorem wU {l:List Oper}{listed:Nat->Prop} (dc:∀ i o,l[i]? = some o->listed i->∀ j ∈ g_ o,listed j):
  ∀ (r:List Oper) (acc:List Nat),(∀ i o,r[i]? = some o->l[acc.length+i]? = some o) ->
   (∀ i,i<acc.length->∀ o,l[i]? = some o->(∀ q ∈ g_ o,listed q)->∀ j,(acc.getD i 0).testBit j=true->listed j) ->
   ∀ i,i<acc.length+r.length->∀ o,l[i]? = some o->(∀ q ∈ g_ o,listed q)->∀ j,((AD acc r).getD i 0).testBit j=true->listed j
 | [],acc,_,h,i,hi,o,ho,hw,j,hj=>h i (by simpa using hi) o ho hw j hj
 | p::r,acc,hr,h,i,hi,o,ho,hw,j,hj=>by
  refine wU dc r (acc++[EP acc p]) (λk q hk=>?_) ?_ i (by simp at hi ⊢; omega) o ho hw j hj
  ·have:=hr (k+1) q (by simpa using hk)
   rw [Pg,PW]
   rwa [show acc.length+1+k=acc.length+(k+1) by omega]
  ·intro k hk q hq hqw b hb
   by_cases hkl:k<acc.length
   ·refine h k hkl q hq hqw b ?_
    rw [Py,Qa hkl] at hb;rw [Py]; exact hb
   ·have hke:k=acc.length:=by simp at hk; omega
    subst hke;have hp:p=q:=by
     have:=hr 0 p rfl;rw [Qs,hq] at this;exact (OZ this).symm
    subst hp;rw [Py,Pz (Pl _),Qf] at hb;simp only [List.getElem?_cons_zero,QT] at hb;unfold EP at hb;rcases AB _ _ hb with h0 | ⟨q,hqm,rfl | hqb⟩
    ·simp at h0
    ·exact hqw b hqm
    ·by_cases hql:q<acc.length
     ·have hlq:=hqw q hqm
      cases hoq:l[q]? with
      | none=>
       have:acc.length<l.length:=(OY.1 hq).1;have:=List.getElem?_eq_none_iff.1 hoq;omega
      | some oq=>exact h q hql oq hoq (dc q oq hoq hlq) b hqb
     ·rw [Py,PV (by omega)] at hqb
      simp at hqb
def ui (l:List Oper) (m:Nat):Bool:=
 l.zipIdx.all (λp=>(g_ p.1).all λj=>Nat.blt j p.2) &&
 l.zipIdx.all λp=>Nat.blt p.2 m || (List.range p.2).all λj=>((AD [] l).getD p.2 0).testBit j
theorem qA {l:List Oper}{m:Nat} (hB:ui l m=true) {i:Nat}{o:Oper} (ho:l[i]? = some o):∀ j ∈ g_ o,j<i:=by
 unfold ui at hB;rw [QB,P_] at hB;have:=hB.1 (o,i) (by rw [List.mem_zipIdx_iff_getElem?]; simpa using ho)
 simpa only [P_,P7] using this
theorem AO {l:List Oper}{m:Nat} (hB:ui l m=true) {listed:Nat->Prop} (dc:∀ i o,l[i]? = some o->listed i->∀ j ∈ g_ o,listed j)
  {i:Nat}{o:Oper} (ho:l[i]? = some o) (hm:m<=i) (hw:∀ q ∈ g_ o,listed q):∀ j,j<i->listed j:=by
 unfold ui at hB;rw [QB,P_,P_] at hB;have h2:=hB.2 (o,i) (by rw [List.mem_zipIdx_iff_getElem?]; simpa using ho)
 simp only [Qu,P7,P_,PR] at h2;have hi:i<l.length:=(OY.1 ho).1;intro j hj;rcases h2 with h2 | h2
 ·omega
 ·exact wU dc l [] (λk q hk=>by simpa using hk) (λk hk=>by simp at hk) i (by simpa using hi) o ho hw j (h2 j hj)
def sV:List Nat->(Nat->List bL)->List bL->List bL
 | [],_,M=>M
 | c::cs,R,M=>R c++sV cs R M
theorem yA (cs:List Nat) (R:Nat->List bL) (M:List bL):sV cs R M=cs.flatMap R++M:=by
 induction cs with
 | nil=>rfl
 | cons c cs ih=>rw [sV,ih,Qe,Pr]
def A0 (R:Nat->List bL) (i:Nat) (rs:List bL):Nat->List bL:=λk=>bif Nat.beq k i then rs else R k
theorem yX (R:Nat->List bL) (i:Nat) (rs:List bL):A0 R i rs i=rs:=by simp [A0]
theorem zA (R:Nat->List bL) (i k:Nat) (rs:List bL) (h:k≠i):A0 R i rs k=R k:=by
 unfold A0;cases hb:Nat.beq k i with
 | false=>rfl
 | true=>exact absurd (Q7 hb) h
abbrev Lv:=Nat->Hp->List bL->Value->Prop
def Kj:Option Nat->Value->Env->Env
 | some t,v,L=>(t,v)::L
 | none,_,L=>L
def FL (l:List Oper) (j:Nat):Option Nat:=match l[j]? with
 | none=>none
 | some o=>match o.dst with
  | some _=>none
  | none=>match o.op with
   | .store _ (.tmp s) _=>bif (g_ o).any (λw=>match (l[w]?).bind (·.dst) with
    | some u=>Nat.beq u s
    | none=>false) then some s else none
   | _=>none
theorem LY {l:List Oper}{j s:Nat} (h:FL l j=some s):∃ o,l[j]? = some o/\o.dst=none/\∃ w ∈ g_ o,(l[w]?).bind (·.dst)=some s:=by
 unfold FL at h
 split at h
 ·cases h
 ·rename_i o ho
  split at h
  ·cases h
  ·rename_i hd
   split at h
   ·rename_i T s' z hop
    cases hb:(g_ o).any (λw=>match (l[w]?).bind (·.dst) with
     | some u=>Nat.beq u s'
     | none=>false) with
    | false=>rw [hb] at h; cases h
    | true=>
     rw [hb] at h;cases h;rw [List.any_eq_true] at hb;obtain ⟨w,hw,hb⟩:=hb;refine ⟨o,ho,hd,w,hw,?_⟩
     split at hb
     ·rename_i u hu
      rw [hu,Q7 hb]
     ·cases hb
   ·cases h
def vp (l:List Oper) (Φ:Lv) (H:Hp):List Nat->Env->(Nat->List bL)->(Env->(Nat->List bL)->Prop)->Prop
 | [],L,R,k=>k L R
 | j::js,L,R,k=>match (l[j]?).bind (·.dst) with
  | some t=>∀ v rs,Φ j H rs v->vp l Φ H js ((t,v)::L) (A0 R j rs) k
  | none=>match FL l j with
   | none=>∀ rs,Φ j H rs undef->vp l Φ H js L (A0 R j rs) k
   | some s=>∀ v rs,(∀ u,lk L s=some u->v=u)->Φ j H rs v->vp l Φ H js L (A0 R j rs) k
def NQ (L:Env) (v:Value):Option Nat->Option Nat->Prop
 | some _,_=>True
 | none,none=>v=undef
 | none,some s=>lk L s=some v
def BO (x:Cx) (H:Hp) (M:List bL) (L:Env) (t ps:Option Nat) (φ:Hp->List bL->Value->Prop):lC:=λe a w=>
 e=.normal/\∃ v H' rs,Sl x.N (Kj t v L) a/\NQ L v t ps/\H.le H'/\St x.B x.w0 H' (rs++M) w/\φ H' rs v
theorem eZ {x:Cx}{H H':Hp}{M:List bL}{L:Env}{t:Nat}{ps:Option Nat}{v:Value}{φ:Hp->List bL->Value->Prop} (rs:List bL) (hle:H.le H') (h:φ H' rs v):E x .normal (BO x H M L (some t) ps φ) H' (rs++M) ((t,v)::L):=
 λ_ _ hs ht=>⟨rfl,v,H',rs,hs,OV,hle,ht,h⟩
theorem Ge {x:Cx}{H H':Hp}{M:List bL}{L:Env}{φ:Hp->List bL->Value->Prop} (rs:List bL) (hle:H.le H') (h:φ H' rs undef):E x .normal (BO x H M L none none φ) H' (rs++M) L:=
 λ_ _ hs ht=>⟨rfl,undef,H',rs,hs,rfl,hle,ht,h⟩
theorem mU {x:Cx}{H H':Hp}{M:List bL}{L:Env}{s:Nat}{v:Value}{φ:Hp->List bL->Value->Prop} (hl:lk L s=some v) (rs:List bL) (hle:H.le H') (h:φ H' rs v):E x .normal (BO x H M L none (some s) φ) H' (rs++M) L:=
 λ_ _ hs ht=>⟨rfl,v,H',rs,hs,hl,hle,ht,h⟩
def CR (m:Nat) (I:List (List bL)):Nat->List bL:=λk=>if k<m then [] else I.getD (k-m) []
def wy (x:Cx) (l:List Oper) (Φ:Lv) (C U:List (List Nat)) (Es:List Env) (R0:Nat->List bL) (H:Hp) (M:List bL) (L:Env):Nat->List Oper->Prop
 | _,[]=>True
 | i,o::r=>(∀ H',H.le H'->∀ X Rest,(∀ s ∈ M,s ∈ Rest)->vp l Φ H' (g_ o) (Es.getD i []++(L++X)) R0 (λL' R=>(∀ s ∈ sV (U.getD i []) R [],s ∈ Rest)->(∃ Rr,(sV (U.getD i []) R Rr).Perm Rest)->W x l.toArray (BO x H' Rest L' o.dst (FL l i) (Φ i)) [o] H' (sV (C.getD i []) R Rest) L')) /\
   wy x l Φ C U Es R0 H M L (i+1) r
theorem wy.at {x:Cx}{l:List Oper}{Φ:Lv}{C U:List (List Nat)}{Es:List Env}{R0:Nat->List bL}{H:Hp}{M:List bL}{L:Env}:∀ {r:List Oper}{i:Nat},wy x l Φ C U Es R0 H M L i r->∀ j o,r[j]? = some o ->
  ∀ H',H.le H'->∀ X Rest,(∀ s ∈ M,s ∈ Rest)->vp l Φ H' (g_ o) (Es.getD (i+j) []++(L++X)) R0 (λL' R=>(∀ s ∈ sV (U.getD (i+j) []) R [],s ∈ Rest)->(∃ Rr,(sV (U.getD (i+j) []) R Rr).Perm Rest)->W x l.toArray (BO x H' Rest L' o.dst (FL l (i+j)) (Φ (i+j))) [o] H' (sV (C.getD (i+j) []) R Rest) L')
 | [],_,_,j,o,h=>by simp at h
 | p::r,i,hh,0,o,h=>by simp at h; subst h; exact hh.1
 | p::r,i,hh,j+1,o,h=>by
  have:=wy.at hh.2 j o (by simpa using h)
  rwa [show i+1+j=i+(j+1) from by omega] at this
def sC (a:Act) (v:Value):Option Nat->Option Nat->Prop
 | some t,_=>a.tmps[t]? = some v
 | none,none=>v=undef
 | none,some s=>a.tmps[s]? = some v
theorem vp.use {l:List Oper}{Φ:Lv}{H:Hp}{a:Act}{N:Nat}{Rt:Nat->List bL}:∀ {js:List Nat}{L:Env}{R:Nat->List bL}{k:Env->(Nat->List bL)->Prop},vp l Φ H js L R k->Sl N L a ->
  (∀ j ∈ js,∃ v,sC a v ((l[j]?).bind (·.dst)) (FL l j)/\Φ j H (Rt j) v) ->
  ∃ Y R',k (Y++L) R'/\Sl N (Y++L) a/\(∀ t v,(t,v) ∈ Y->a.tmps[t]? = some v)/\(∀ q,q ∈ js->R' q=Rt q)/\∀ q,q ∉ js->R' q=R q
 | [],L,R,k,h,hs,_=>⟨[],R,h,hs,by simp,by simp,λq _=>rfl⟩
 | j::js,L,R,k,h,hs,hv=>by
  obtain ⟨v,h1,h2⟩:=hv j (O0 ..);have fin:∀ {R':Nat->List bL},(∀ q,q ∈ js->R' q=Rt q)->(∀ q,q ∉ js->R' q=A0 R j (Rt j) q)->(∀ q,q ∈ j::js->R' q=Rt q)/\∀ q,q ∉ j::js->R' q=R q:=by
   intro R' h6 h7;constructor
   ·intro q hq
    by_cases hqj:q ∈ js
    ·exact h6 q hqj
    ·rcases PH.1 hq with rfl | hq
     ·rw [h7 _ hqj,yX]
     ·exact absurd hq hqj
   ·intro q hq
    rw [h7 q (λh=>hq (O5 _ h)),zA _ _ _ _ (λe=>hq (by rw [e]; exact O0 ..))]
  unfold vp at h;cases ht:(l[j]?).bind (·.dst) with
  | none=>
   rw [ht] at h h1;cases hk:FL l j with
   | none=>
    rw [hk] at h h1;simp only [sC] at h1;subst h1;obtain ⟨Y,R',h3,h4,h5,h6,h7⟩:=vp.use (h (Rt j) h2) hs (λi hi=>hv i (O5 _ hi));exact ⟨Y,R',h3,h4,h5,(fin h6 h7).1,(fin h6 h7).2⟩
   | some s=>
    rw [hk] at h h1;simp only [sC] at h1;obtain ⟨Y,R',h3,h4,h5,h6,h7⟩:=vp.use (h v (Rt j) (λu hu=>by have:=hs.get s u hu; rw [h1] at this; exact OZ this) h2) hs (λi hi=>hv i (O5 _ hi))
    exact ⟨Y,R',h3,h4,h5,(fin h6 h7).1,(fin h6 h7).2⟩
  | some t=>
   rw [ht] at h h1;simp only [sC] at h1;obtain ⟨Y,R',h3,h4,h5,h6,h7⟩:=vp.use (h v (Rt j) h2) (hs.cons h1) (λi hi=>hv i (O5 _ hi));refine ⟨Y++[(t,v)],R',by simpa using h3,by simpa using h4,?_,(fin h6 h7).1,(fin h6 h7).2⟩
   intro u w hm;rcases Pa.1 hm with hm | hm
   ·exact h5 u w hm
   ·simp at hm; obtain ⟨rfl,rfl⟩:=hm; exact h1
def Cc (l:List Oper) (m:Nat) (Es:List Env):Bool:=
 (List.range m).all λi=>((Es.getD i []).map (·.1)).all λt=>(List.range m).all λw=>match (l[w]?).bind (·.dst) with
  | some u=>!Nat.beq u t || ((AD [] l).getD w 0).testBit i
  | none=>true
def xF (l:List Oper) (m:Nat) (L:Env):Bool:=
 (l.take m).all (λo=>match o.dst with
  | some t=>(lk L t).isNone
  | none=>true)
def xG (l:List Oper) (m:Nat):Bool:=decide (((l.take m).filterMap (·.dst)).Nodup)
def Fb (l:List Oper) (m K:Nat) (C U:List (List Nat)) (live:List Nat):Bool:=
 ((List.range m).all λi=>(U.getD i []).all λu=>(Nat.ble m u || match l[i]? with
  | some o=>(g_ o).contains u
  | none=>false) && Nat.blt u K && (List.range m).all λi'=>!(C.getD i' []).contains u || ((AD [] l).getD i' 0).testBit i) &&
 Nat.beq C.length m && (List.range m).all (λi=>(C.getD i []).all λc=>Nat.ble m c || match l[i]? with
  | some o=>(g_ o).contains c
  | none=>false) &&
 (C.flatten++live).all (λc=>Nat.blt c K) && ((List.range K).all λk=>Nat.beq ((C.flatten++live).count k) 1) && (List.range m).all λi=>decide ((U.getD i []).Nodup)
section
variable {x:Cx}{l:List Oper}{m K:Nat}{Φ:Lv}{C U:List (List Nat)}{live:List Nat}{I:List (List bL)}{Es:List Env}{H:Hp}{M:List bL}{L L0:Env}{Q:lC}
structure y6 (l:List Oper) (m K:Nat) (C U:List (List Nat)) (live:List Nat):Prop where
 len:C.length=m
 wait:∀ i o,i<m->l[i]? = some o->∀ c ∈ C.getD i [],m<=c\/c ∈ g_ o
 lt:∀ c ∈ C.flatten++live,c<K
 nd:(C.flatten++live).Nodup
 all:∀ k,k<K->k ∈ C.flatten++live
 M3:∀ i o,i<m->l[i]? = some o->∀ u ∈ U.getD i [],(m<=u\/u ∈ g_ o)/\u<K
 MZ:∀ i,i<m->∀ u ∈ U.getD i [],∀ i',i'<m->u ∈ C.getD i' []->((AD [] l).getD i' 0).testBit i=true
 NY:∀ i,i<m->(U.getD i []).Nodup
theorem Kz (h:Fb l m K C U live=true):y6 l m K C U live:=by
 unfold Fb at h;simp only [QB] at h;obtain ⟨⟨⟨⟨⟨h0,h1⟩,h2⟩,h3⟩,h4⟩,h5⟩:=h;rw [P_] at h0 h2 h3 h4 h5;have hU:∀ i,i<m->∀ u ∈ U.getD i [],((Nat.ble m u || match l[i]? with
  | some o=>(g_ o).contains u
  | none=>false)=true/\u<K)/\∀ i',i'<m->u ∈ C.getD i' []->((AD [] l).getD i' 0).testBit i=true:=by
  intro i hi u hu;have:=h0 i (PR.2 hi);rw [P_] at this;have:=this u hu;rw [QB,QB,P_] at this;refine ⟨⟨this.1.1,by simpa [P7] using this.1.2⟩,λi' hi' hc=>?_⟩
  have h5:=this.2 i' (PR.2 hi');rw [Qu] at h5;rcases h5 with h5 | h5
  ·have h6:(C.getD i' []).contains u=true:=by rw [Su]; exact hc
   rw [h6] at h5; cases h5
  ·exact h5
 have hc:∀ k,k<K->(C.flatten++live).count k=1:=λk hk=>Q7 (h4 k (PR.2 hk));have hlt:∀ c ∈ C.flatten++live,c<K:=λc hc=>by simpa [P7] using h3 c hc
 refine ⟨Q7 h1,?_,hlt,?_,?_,?_,λi hi u hu=>(hU i hi u hu).2,λi hi=>O1 (h5 i (PR.2 hi))⟩
 ·intro i o hi ho c hc
  have:=h2 i (PR.2 hi);rw [P_] at this;have:=this c hc;rw [ho] at this;simpa [Qu,Ru,Su] using this
 ·rw [List.nodup_iff_count]
  intro a
  by_cases ha:a<K
  ·rw [hc a ha]; exact Pl _
  ·rw [List.count_eq_zero.2 (λhm=>ha (hlt a hm))]; omega
 ·intro k hk
  rw [<- List.count_pos_iff,hc k hk]; omega
 ·intro i o hi ho u hu
  have:=(hU i hi u hu).1;rw [ho] at this;refine ⟨?_,this.2⟩;have h5:=this.1;rw [Qu] at h5;rcases h5 with h5 | h5
  ·exact .inl (by simpa [Ru] using h5)
  ·exact .inr (by simpa [Su] using h5)
theorem y6.uniq (h:y6 l m K C U live) {i i' k:Nat} (hi:k ∈ C.getD i []) (hi':k ∈ C.getD i' []):i=i':=by
 have hnd:=(PS.1 h.nd).1;unfold List.Nodup at hnd;rw [List.pairwise_flatten] at hnd;have hpw:=RZ.1 hnd.2;have g1:i<C.length:=by
  by_cases e:i<C.length
  ·exact e
  ·rw [Py,PV (by omega)] at hi; simp at hi
 have g2:i'<C.length:=by
  by_cases e:i'<C.length
  ·exact e
  ·rw [Py,PV (by omega)] at hi'; simp at hi'
 rw [Py,OU g1] at hi;rw [Py,OU g2] at hi';simp only [QT] at hi hi';rcases RX i i' with q | q | q
 ·exact absurd rfl (hpw i i' g1 g2 q _ hi _ hi')
 ·exact q
 ·exact absurd rfl (hpw i' i g2 g1 q _ hi' _ hi)
theorem y6.mem (h:y6 l m K C U live) {i k:Nat} (hi:k ∈ C.getD i []):k ∈ C.flatten:=by
 have g1:i<C.length:=by
  by_cases e:i<C.length
  ·exact e
  ·rw [Py,PV (by omega)] at hi; simp at hi
 rw [Py,OU g1] at hi;exact List.mem_flatten.2 ⟨_,Pt g1,hi⟩
theorem y6.Oz (h:y6 l m K C U live) (i:Nat):(C.getD i []).Nodup:=by
 have hnd:=(PS.1 h.nd).1;unfold List.Nodup at hnd;rw [List.pairwise_flatten] at hnd
 by_cases e:i<C.length
 ·rw [Py,OU e]; exact hnd.1 _ (Pt e)
 ·rw [Py,PV (by omega)]; simp
def alive (m:Nat) (C:List (List Nat)) (listed:Array Bool) (k:Nat):Bool:=(Nat.ble m k || listed.getD k false) && !(List.range m).any λi=>listed.getD i false && (C.getD i []).contains k
theorem rr {listed:Array Bool}{k:Nat}:alive m C listed k=true↔(m<=k\/listed.getD k false=true)/\∀ i,i<m->listed.getD i false=true->k ∉ C.getD i []:=by
 unfold alive;simp only [QB,Qu,Ru,Bool.not_eq_true',List.any_eq_false,PR,Su];constructor
 ·rintro ⟨h1,h2⟩; exact ⟨h1,λi hi hl hm=>h2 i hi ⟨hl,hm⟩⟩
 ·rintro ⟨h1,h2⟩; exact ⟨h1,λi hi ⟨hl,hm⟩=>h2 i hi hl hm⟩
theorem DX (hB:ui l m=true):∀ (f i:Nat) (listed:Array Bool) (a:Act) (w:World),m<=i->listed.size=l.length->i<=l.length->l.length<=i+f ->
  (∀ j,j<l.length->listed.getD j true=decide (j<i))->wpList x.P l.toArray Q (l.drop i) a w->wpAny x.P .any l.toArray Q f listed a w
 | 0,i,listed,a,w,hm,hsz,hf0,hf,hl,h=>by
  have hi:i=l.length:=by omega
  refine ⟨?_,by rw [hi,RN] at h; exact h⟩
  rw [List.eq_nil_iff_forall_not_mem];intro j hj;obtain ⟨h1,h2,_⟩:=mem_ready.1 hj;rw [hl j (by simpa using h1)] at h2
  simp at h1 h2; omega
 | f+1,i,listed,a,w,hm,hsz,hf0,hf,hl,h=>by
  by_cases e2:i=l.length
  ·have hempty:Region.ready .any l.toArray listed=[]:=by
    rw [List.eq_nil_iff_forall_not_mem];intro j hj;obtain ⟨q1,q2,_⟩:=mem_ready.1 hj;rw [hl j (by simpa using q1)] at q2
    simp at q1 q2; omega
   exact ⟨λ_=>by rw [e2,RN] at h; exact h,λj hj=>by rw [hempty] at hj; cases hj⟩
  ·have hi:i<l.length:=by omega
   have ho:l[i]? = some l[i]:=OU hi;have hget:∀ j,j<l.length->listed.getD j false=decide (j<i):=λj hj=>by
    have:=hl j hj;simp only [PK] at this ⊢;rw [RC (by omega)] at this ⊢
    simpa using this
   have hmem:i ∈ Region.ready .any l.toArray listed:=by
    refine mem_ready.2 ⟨by simpa using hi,by rw [hl i hi]; simp,l[i],by simp,λj hj=>?_⟩
    have hj':=qA hB ho j hj;rw [hget j (by omega)]; simpa using hj'
   have huniq:∀ j ∈ Region.ready .any l.toArray listed,j=i:=by
    intro j hj;obtain ⟨q1,q2,o,ho',hw⟩:=mem_ready.1 hj;have q1':j<l.length:=by simpa using q1
    rw [hl j q1'] at q2;have hji:i<=j:=by simpa using q2
    by_cases e:j=i
    ·exact e
    ·exfalso
     have:=AO hB (listed:=λq=>q<i) (λk o hk hki q hq=>by have:=qA hB hk q hq; omega) (i:=j) (o:=o) (by simpa using ho') (by omega)
      (λq hq=>by
       have h1:=hw q hq;have h2:=qA hB (i:=j) (o:=o) (by simpa using ho') q hq
       rw [hget q (by omega)] at h1
       simpa using h1) i (by omega)
     omega
   refine ⟨λhe=>(by rw [he] at hmem; cases hmem),λj hj=>?_⟩
   obtain rfl:=huniq j hj;unfold wpOp;rw [show l.toArray[j]? = some l[j] from by simp]
   rw [Px hi] at h;have step:∀ a w,wpList x.P l.toArray Q (l.drop (j+1)) a w->wpAny x.P .any l.toArray Q f (listed.setIfInBounds j true) a w:=λa w hh=>
    DX hB f (j+1) _ a w (by omega) (by simpa using hsz) (by omega) (by omega) (λk hk=>by
     rw [tQ _ _ _ _ (by omega),hl k hk]
     by_cases e:k=j
     ·subst e; simp
     ·simp [e]; omega) hh
   unfold wpList at h
   dsimp only
   split
   ·rename_i hw; rw [O3 hw] at h; exact h.imp (Oper.wp_mono step) id
   ·rename_i hw; rw [O2 hw] at h; exact step _ _ h
theorem yt {A B:List Nat} (ha:A.Nodup) (hb:B.Nodup) (h:∀ a,a ∈ A↔a ∈ B) (R:Nat->List bL) (M:List bL):(A.flatMap R++M).Perm (B.flatMap R++M):=
 (((List.perm_ext_iff_of_nodup ha hb).2 h).flatMap_right R).append_right M
theorem tw {A:List Nat}{R R':Nat->List bL} (h:∀ a ∈ A,R a=R' a):A.flatMap R=A.flatMap R':=by
 induction A with
 | nil=>rfl
 | cons a A ih=>rw [Qe,Qe,h a (O0 ..),ih λb hb=>h b (O5 _ hb)]
theorem Kg (hB:ui l m=true) (hml:m<=l.length) (hD:xF l m L0=true) (hX0:Cc l m Es=true) (hL0:∀ t v,lk L0 t=some v->lk L t=some v) (hE:∀ i t v,lk (Es.getD i []) t=some v->lk L t=some v) (hNd:xG l m=true) (hT:y6 l m K C U live) (hmK:m<=K)
  (hmono:∀ i H1 H2 rs v,H1.le H2->Φ i H1 rs v->Φ i H2 rs v)
  (hop:wy x l Φ C U Es (CR m I) H M L0 0 (l.take m))
  (k:∀ H',H.le H'->vp l Φ H' (List.range m) L0 (CR m I) (λL' R=>W x l.toArray Q (l.drop m) H' (sV live R M) L')):
  ∀ (fuel:Nat) (listed:Array Bool) (a:Act) (w:World) (H':Hp) (R:Nat->List bL),listed.size=l.length->left l listed<=fuel->(∀ j,m<=j->j<l.length->listed.getD j true=false) ->
   (∀ i o,l[i]? = some o->listed.getD i false=true->∀ j ∈ g_ o,listed.getD j false=true) ->
   H.le H'->St x.B x.w0 H' (((List.range K).filter (alive m C listed)).flatMap R++M) w->Sl x.N [] a->(∀ t v,lk L t=some v->(∀ w o,w<m->l[w]? = some o->o.dst=some t->listed.getD w false=false)->a.tmps[t]? = some v)->(∀ q,m<=q->R q=CR m I q) ->
   (∀ i o,i<m->l[i]? = some o->listed.getD i true=true->∃ v,sC a v o.dst (FL l i)/\Φ i H' (R i) v) ->
   wpAny x.P .any l.toArray Q fuel listed a w:=by
 have hdst:∀ i o t,i<m->l[i]? = some o->o.dst=some t->lk L0 t=none:=by
  intro i o t him ho hd;have htake:(l.take m)[i]? = some o:=by rw [PN,O3 him]; exact ho
  unfold xF at hD;rw [P_] at hD;have:=hD o (O7 htake);rw [hd] at this; simpa using this
 have fin:∀ (fuel:Nat) (listed:Array Bool) (a:Act) (w:World) (H':Hp) (R:Nat->List bL),listed.size=l.length->left l listed<=fuel->(∀ j,m<=j->j<l.length->listed.getD j true=false) ->
   H.le H'->St x.B x.w0 H' (((List.range K).filter (alive m C listed)).flatMap R++M) w->Sl x.N [] a->(∀ t v,lk L t=some v->(∀ w o,w<m->l[w]? = some o->o.dst=some t->listed.getD w false=false)->a.tmps[t]? = some v)->(∀ q,m<=q->R q=CR m I q) ->
   (∀ i o,i<m->l[i]? = some o->listed.getD i true=true->∃ v,sC a v o.dst (FL l i)/\Φ i H' (R i) v) ->
   (∀ j,j<m->listed.getD j true=true)->wpAny x.P .any l.toArray Q fuel listed a w:=by
  intro fuel listed a w H' R hsz hf htl hle ht hs0 hsl tG hv hall;have hs:Sl x.N L0 a:=⟨hs0.size,hs0.Df,λt v h=>hsl t v (hL0 t v h) (λw o hw ho hd=>by rw [hdst w o t hw ho hd] at h; cases h)⟩
  have hget:∀ j,j<l.length->listed.getD j false=listed.getD j true:=λj hj=>by
   simp only [PK];rw [RC (by omega)]; rfl
  obtain ⟨Y,R',h1,h2,_,h3,h4⟩:=vp.use (Rt:=R) (k H' hle) hs (λj hj=>by
   have hj':=PR.1 hj;have ho:l[j]? = some l[j]:=OU (by omega)
   rw [ho];exact hv j _ hj' ho (hall j hj'))
  have hR:∀ q,R' q=R q:=λq=>by
   by_cases hq:q<m
   ·exact h3 q (PR.2 hq)
   ·rw [h4 q (λh=>hq (PR.1 h)),tG q (by omega)]
  have hwl:wpList x.P l.toArray Q (l.drop m) a w:=by
   refine h1 a w h2 (ht.perm ?_);rw [yA,tw (R:=R') (R':=R) (λq _=>hR q)];refine yt (List.nodup_range.filter _) (PS.1 hT.nd).2.1 ?_ R M;intro q;rw [P6,PR,rr];constructor
   ·rintro ⟨h5,h6,h7⟩
    rcases Pa.1 (hT.all q h5) with h8 | h8
    ·exfalso
     obtain ⟨c,hc,hqc⟩:=List.mem_flatten.1 h8;obtain ⟨i,hi,rfl⟩:=Qb.1 hc;have him:i<m:=by rw [<- hT.len]; exact hi
     refine h7 i him (by rw [hget i (by omega)]; exact hall i him) ?_
     rw [Py,OU hi]; exact hqc
    ·exact h8
   ·intro hq
    refine ⟨hT.lt q (P1 _ hq),?_,?_⟩
    ·by_cases e:m<=q
     ·exact .inl e
     ·exact .inr (by rw [hget q (by omega)]; exact hall q (by omega))
    ·intro i him _ hc
     exact (PS.1 hT.nd).2.2 q (hT.mem hc) q hq rfl
  have hl:∀ j,j<l.length->listed.getD j true=decide (j<m):=by
   intro j hj
   by_cases e:j<m
   ·rw [hall j e]; simp [e]
   ·rw [htl j (by omega) hj]; simp [e]
  have hcount:l.length<=m+fuel:=by
   have:l.length-m<=left l listed:=by
    unfold left;have h1:(List.range l.length).countP (λi=>!listed.getD i true)=(List.range l.length).countP (λi=>decide (m<=i)):=by
     refine List.countP_congr λj hj=>?_;rw [hl j (PR.1 hj)];simp
    rw [h1];have h2:∀ n,(List.range n).countP (λi=>decide (m<=i))=n-m:=by
     intro n
     induction n with
     | zero=>simp
     | succ n ihn=>
      rw [Sd,List.countP_append,ihn];simp only [List.countP_cons,List.countP_nil]
      by_cases e:m<=n
      ·simp [e]; omega
      ·simp [e]; omega
    rw [h2]; exact Pl _
   omega
  exact DX hB fuel m listed a w (Pl _) hsz hml hcount hl hwl
 intro fuel
 induction fuel with
 | zero=>
  intro listed a w H' R hsz hf htl hdc hle ht hs0 hsl tG hv;refine fin 0 listed a w H' R hsz hf htl hle ht hs0 hsl tG hv (λj hj=>?_);have:left l listed=0:=by omega
  unfold left at this;rw [List.countP_eq_zero] at this;have:=this j (PR.2 (by omega))
  simpa using this
 | succ fuel ih=>
  intro listed a w H' R hsz hf htl hdc hle ht hs0 hsl tG hv
  by_cases hall:∀ j,j<m->listed.getD j true=true
  ·exact fin (fuel+1) listed a w H' R hsz hf htl hle ht hs0 hsl tG hv hall
  ·have hs:Sl x.N L0 a:=⟨hs0.size,hs0.Df,λt v h=>hsl t v (hL0 t v h) (λw o hw ho hd=>by rw [hdst w o t hw ho hd] at h; cases h)⟩
   have hget:∀ j,j<l.length->listed.getD j false=listed.getD j true:=λj hj=>by
    simp only [PK];rw [RC (by omega)]; rfl
   have hex:∃ j,j<m/\listed.getD j true=false:=by
    refine Classical.byContradiction λhno=>hall λj hj=>?_;cases hb:listed.getD j true with
    | true=>rfl
    | false=>exact absurd ⟨j,hj,hb⟩ hno
   obtain ⟨j0,⟨hj0,hf0⟩,hleast⟩:=least (p:=λj=>j<m/\listed.getD j true=false) hex.choose hex.choose_spec;have hne:Region.ready .any l.toArray listed≠[]:=by
    intro he;have hlt:j0<l.length:=by omega
    have ho:l[j0]? = some l[j0]:=OU hlt;have:j0 ∈ Region.ready .any l.toArray listed:=by
     refine mem_ready.2 ⟨by simpa using hlt,hf0,l[j0],by simp,λj hj=>?_⟩
     have hj':=qA hB ho j hj;rw [hget j (by omega)]
     cases hb:listed.getD j true with
     | true=>rfl
     | false=>have:=hleast j ⟨by omega,hb⟩; omega
    rw [he] at this; cases this
   refine ⟨λhe=>absurd he hne,λi hi=>?_⟩;obtain ⟨h1,h2,o,ho',hw⟩:=mem_ready.1 hi;have h1':i<l.length:=by simpa using h1
   have ho:l[i]? = some o:=by simpa using ho'
   have him:i<m:=by
    by_cases e:i<m
    ·exact e
    ·exfalso
     have:=AO hB (listed:=λq=>listed.getD q false=true) (λk o hk hki q hq=>hdc k o hk hki q hq) ho (by omega) hw j0 (by omega)
     rw [hget j0 (by omega),hf0] at this; cases this
   have htake:(l.take m)[i]? = some o:=by rw [PN,O3 him]; exact ho
   have hnl:listed.getD i false=false:=by rw [hget i h1']; exact h2
   have hCal:∀ c ∈ C.getD i [],c ∈ (List.range K).filter (alive m C listed):=by
    intro c hc;rw [P6,PR,rr];refine ⟨hT.lt c (OW _ (hT.mem hc)),?_,?_⟩
    ·rcases hT.wait i o him ho c hc with h | h
     ·exact .inl h
     ·exact .inr (hw c h)
    ·intro i' hi' hl' hc'
     have:=hT.uniq hc hc';subst this;rw [hnl] at hl'; cases hl'
   let A:=(List.range K).filter (alive m C listed)
   let Bs:=A.filter (λc=>!(C.getD i []).contains c)
   have hAnd:A.Nodup:=List.nodup_range.filter _;have hBnd:Bs.Nodup:=hAnd.filter _;have hperm:(A.flatMap R++M).Perm ((C.getD i []++Bs).flatMap R++M):=by
    refine yt hAnd ?_ ?_ R M
    ·refine PS.2 ⟨hT.Oz i,hBnd,?_⟩
     rintro a ha b hb rfl;have:=(P6.1 hb).2;simp at this;exact this (by simpa [Py] using ha)
    ·intro q
     rw [Pa];constructor
     ·intro hq
      by_cases hqc:q ∈ C.getD i []
      ·exact .inl hqc
      ·exact .inr (P6.2 ⟨hq,by simpa using hqc⟩)
     ·rintro (hq | hq)
      ·exact hCal q hq
      ·exact (P6.1 hq).1
   have ht1:=ht.perm hperm;rw [R9,Pr] at ht1
   let Rest:=Bs.flatMap R++M
   let X1:Env:=(List.range m).filterMap λj=>if listed.getD j true then (l[j]?).bind λo=>o.dst.map λu=>(u,a.tmps.getD u undef) else none
   let X2:Env:=(L.map (·.1)).filterMap λt=>if (List.range m).all (λw=>match (l[w]?).bind (·.dst) with
    | some u=>!Nat.beq u t || !listed.getD w false
    | none=>true) then (lk L t).map λv=>(t,v) else none
   let X:Env:=X1++X2
   have hX2:∀ u v,(u,v) ∈ X2->a.tmps[u]? = some v:=by
    intro u v hm;obtain ⟨t,ht',hh⟩:=SP.1 hm
    split at hh
    ·rename_i hall2
     rw [Sp] at hh;obtain ⟨v',hv',hh⟩:=hh;cases hh;refine hsl _ _ hv' (λw' o' hw' ho' hd'=>?_);rw [P_] at hall2;have h9:=hall2 w' (PR.2 hw');rw [ho'] at h9;simp only [Rv,hd'] at h9;have h10:Nat.beq u u=true:=Nat.beq_refl u;rw [h10] at h9;simpa using h9
    ·cases hh
   have hX1:∀ u v,(u,v) ∈ X1->a.tmps[u]? = some v:=by
    intro u v hm;obtain ⟨j,hj,hh⟩:=SP.1 hm
    split at hh
    ·rename_i hlj
     rw [SY] at hh;obtain ⟨oj,hoj,hh⟩:=hh;rw [Sp] at hh;obtain ⟨u',hu',hh⟩:=hh;cases hh;obtain ⟨v',hv',_⟩:=hv j oj (PR.1 hj) hoj hlj;rw [hu'] at hv';simp only [sC] at hv';simp [PK,hv']
    ·cases hh
   have hX:∀ u v,(u,v) ∈ X->a.tmps[u]? = some v:=λu v hm=>(Pa.1 hm).elim (hX1 u v) (hX2 u v);have hdep:=(wy.at hop i o htake) H' hle X Rest (λs hs=>P1 _ hs);simp only [Pm] at hdep;have hwl:∀ j ∈ g_ o,j<m/\listed.getD j true=true:=λj hj=>by
    have h3:=qA hB ho j hj;refine ⟨by omega,?_⟩
    rw [<- hget j (by omega)]; exact hw j hj
   have hEi:∀ t v,lk (Es.getD i []) t=some v->a.tmps[t]? = some v:=by
    intro t v h;refine hsl t v (hE i t v h) (λw' o' hw' ho' hd'=>?_);cases hlw:listed.getD w' false with
    | false=>rfl
    | true=>
     exfalso;unfold Cc at hX0;rw [P_] at hX0;have h1:=hX0 i (PR.2 him);rw [P_] at h1;have h2:=h1 t (PL.2 ⟨_,EO h,rfl⟩);rw [P_] at h2;have h3:=h2 w' (PR.2 hw');rw [ho'] at h3;simp only [Rv,hd'] at h3;have h10:Nat.beq t t=true:=Nat.beq_refl t;rw [h10] at h3;simp only [Bool.not_true,Bool.false_or] at h3;have:=wU (listed:=λq=>listed.getD q false=true) (λk o hk hki q hq=>hdc k o hk hki q hq) l [] (λk q hk=>by simpa using hk) (λk hk=>by simp at hk) w' (by simp; omega) o' ho' (λq hq=>hdc w' o' ho' hlw q hq) i h3
     rw [hnl] at this; cases this
   have hsE:Sl x.N (Es.getD i []++(L0++X)) a:=by
    refine ⟨hs.size,hs.Df,λt v h=>?_⟩;rw [yJ] at h;cases hl:lk (Es.getD i []) t with
    | some u=>rw [hl] at h; simp at h; subst h; exact hEi t _ hl
    | none=>rw [hl] at h; simp at h; exact (hs.more hX).get t v h
   obtain ⟨Y,R',hk,hsY,hY,hR1,hR2⟩:=vp.use (Rt:=R) hdep hsE (λj hj=>by
    have hj':=hwl j hj;have hoj:l[j]? = some l[j]:=OU (by omega)
    rw [hoj];exact hv j _ hj'.1 hoj hj'.2)
   have hRC:∀ c ∈ C.getD i [],R' c=R c:=by
    intro c hc;rcases hT.wait i o him ho c hc with h | h
    ·rw [hR2 c (λhcm=>by have:=hwl c hcm; omega),tG c h]
    ·exact hR1 c h
   have hRU:∀ u ∈ U.getD i [],R' u=R u:=by
    intro u hu;have h5:=hT.M3 i o him ho u hu;rcases h5.1 with h | h
    ·rw [hR2 u (λhcm=>by have:=hwl u hcm; omega),tG u h]
    ·exact hR1 u h
   have hUB:∀ u ∈ U.getD i [],u ∈ Bs:=by
    intro u hu;have h5:=hT.M3 i o him ho u hu;refine P6.2 ⟨P6.2 ⟨PR.2 h5.2,rr.2 ⟨?_,?_⟩⟩,?_⟩
    ·rcases h5.1 with h | h
     ·exact .inl h
     ·exact .inr (hw u h)
    ·intro i' hi' hl' hc'
     have h6:=hT.MZ i him u hu i' hi' hc';have hoi:l[i']? = some l[i']:=OU (by omega)
     have:=wU (listed:=λq=>listed.getD q false=true) (λk o hk hki q hq=>hdc k o hk hki q hq) l [] (λk q hk=>by simpa using hk) (λk hk=>by simp at hk) i' (by simp; omega) _ hoi (λq hq=>hdc i' _ hoi hl' q hq) i h6
     rw [hnl] at this; cases this
    ·have h7:u ∉ C.getD i []:=by
      intro hc;have h6:=hT.MZ i him u hu i him hc;have hoi:l[i]? = some o:=ho;have:=wU (listed:=λq=>q<i) (λk o hk hki q hq=>by have:=qA hB hk q hq; omega) l [] (λk q hk=>by simpa using hk) (λk hk=>by simp at hk) i (by simpa using h1') o hoi (λq hq=>qA hB ho q hq) i h6
      omega
     simpa using h7
   have hUR:∀ s ∈ sV (U.getD i []) R' [],s ∈ Rest:=by
    rw [yA,PE];intro s hs;obtain ⟨u,hu,hsu⟩:=QS.1 hs;rw [hRU u hu] at hsu;exact OW _ (QS.2 ⟨u,hUB u hu,hsu⟩)
   have hUP:∃ Rr,(sV (U.getD i []) R' Rr).Perm Rest:=by
    refine ⟨(Bs.filter λc=>!(U.getD i []).contains c).flatMap R++M,?_⟩;rw [yA,tw (R:=R') (R':=R) hRU,<- Pr,<- R9];refine yt ?_ hBnd ?_ R M
    ·refine PS.2 ⟨hT.NY i him,hBnd.filter _,?_⟩
     rintro a ha b hb rfl;have:=(P6.1 hb).2;simp at this;exact this (by simpa [Py] using ha)
    ·intro q
     rw [Pa];constructor
     ·rintro (hq | hq)
      ·exact hUB q hq
      ·exact (P6.1 hq).1
     ·intro hq
      by_cases hqu:q ∈ U.getD i []
      ·exact .inl hqu
      ·exact .inr (P6.2 ⟨hq,by simpa using hqu⟩)
   have hone:=hk hUR hUP a w hsY (by
    rw [yA,tw (R:=R') (R':=R) hRC];exact ht1)
   have fin2:∀ a' w',BO x H' Rest (Y++(Es.getD i []++(L0++X))) o.dst (FL l i) (Φ i) .normal a' w'->wpAny x.P .any l.toArray Q fuel (listed.setIfInBounds i true) a' w':=by
    rintro a' w' ⟨_,v,H2,rs,hs2,hnv,hle2,ht2,hφ⟩;have hcv:sC a' v o.dst (FL l i):=by
     cases hd:o.dst with
     | none=>
      cases hk:FL l i with
      | none=>rw [hd,hk] at hnv; exact hnv
      | some s=>rw [hd,hk] at hnv; rw [hd] at hs2; exact hs2.get s v hnv
     | some t=>rw [hd] at hs2; exact hs2.get t v (by simp only [Kj]; rw [sD]; simp)
    have hput:∀ u,o.dst≠some u->lk (Kj o.dst v (Y++(Es.getD i []++(L0++X)))) u=lk (Y++(Es.getD i []++(L0++X))) u:=by
     intro u hne;cases hd:o.dst with
     | none=>rfl
     | some t=>
      simp only [Kj];rw [sD,O2 (λe=>hne (by rw [hd,e]))]
    have hYt:∀ u z,(u,z) ∈ Y++X->o.dst≠some u->a'.tmps[u]? = some z:=by
     intro u z hm hne;have hz:a.tmps[u]? = some z:=by
      rcases Pa.1 hm with hm | hm
      ·exact hY u z hm
      ·exact hX u z hm
     have hlk:∃ z',lk (Y++(Es.getD i []++(L0++X))) u=some z':=by
      have hsome:∀ {E:Env}{u:Nat}{z:Value},(u,z) ∈ E->∃ z',lk E u=some z':=by
       intro E u z
       induction E with
       | nil=>simp
       | cons p E ihE=>
        obtain ⟨q,r⟩:=p;intro hm;rw [sD]
        split
        ·exact ⟨_,rfl⟩
        ·rename_i hne
         rcases PH.1 hm with e | hm
         ·cases e; exact absurd rfl hne
         ·exact ihE hm
      rcases Pa.1 hm with hm | hm
      ·exact hsome (OW _ hm)
      ·exact hsome (P1 _ (P1 _ (P1 _ hm)))
     obtain ⟨z',hz'⟩:=hlk;have e1:=hsY.get u z' hz';rw [hz] at e1;cases e1;exact hs2.get u z (by rw [hput u hne]; exact hz')
    have hset:∀ j,(listed.setIfInBounds i true).getD j false=if j=i then true else listed.getD j false:=λj=>tQ _ _ _ _ (by omega)
    refine ih (listed.setIfInBounds i true) a' w' H2 (A0 R i rs) (by simpa using hsz) (by have:=IH (l:=l) hsz h1' h2; omega) (λj hj hjl=>by rw [tQ _ _ _ _ (by omega),O2 (by omega)]; exact htl j hj hjl) ?_ (SD hle hle2) ?_ ?_ ?_ ?_ ?_
    ·intro j oj hoj hlj q hq
     rw [hset] at hlj ⊢
     split at hlj
     ·rename_i e; subst e
      rw [ho] at hoj; cases hoj
      split
      ·rfl
      ·exact hw q hq
     ·split
      ·rfl
      ·exact hdc j oj hoj hlj q hq
    ·
     have hiB:i ∉ Bs:=by
      intro hmB;have:=(P6.1 hmB).1;rw [P6,rr] at this;rcases this.2.1 with h | h
      ·omega
      ·rw [hnl] at h; cases h
     have e1:rs++Rest=((i::Bs).flatMap (A0 R i rs))++M:=by
      rw [Qe,yX,tw (A:=Bs) (R:=A0 R i rs) (R':=R) (λq hq=>zA _ _ _ _ (λe=>hiB (by rw [<- e]; exact hq))),Pr]
     rw [e1] at ht2;refine ht2.perm (yt (Sc.2 ⟨hiB,hBnd⟩) (List.nodup_range.filter _) ?_ _ M);intro q;rw [PH,P6,P6,P6,PR,rr,rr];constructor
     ·rintro (rfl | ⟨⟨hqK,hq1,hq2⟩,hq3⟩)
      ·refine ⟨by omega,.inr (by rw [hset,O3 rfl]),?_⟩
       intro i' hi' hl' hc';rw [hset] at hl'
       split at hl'
       ·rename_i e; subst e
        rcases hT.wait i' o hi' ho _ hc' with h | h
        ·omega
        ·have:=qA hB ho _ h; omega
       ·have hoi:l[i']? = some l[i']:=OU (by omega)
        rcases hT.wait i' _ hi' hoi _ hc' with h | h
        ·omega
        ·have:=hdc i' _ hoi hl' _ h
         rw [hnl] at this; cases this
      ·refine ⟨hqK,?_,?_⟩
       ·rcases hq1 with h | h
        ·exact .inl h
        ·exact .inr (by rw [hset]; split <;> simp [h])
       ·intro i' hi' hl' hc'
        rw [hset] at hl'
        split at hl'
        ·rename_i e; subst e
         simp at hq3;exact hq3 (by simpa [Py] using hc')
        ·exact hq2 i' hi' hl' hc'
     ·rintro ⟨hqK,hq1,hq2⟩
      by_cases hqi:q=i
      ·exact .inl hqi
      ·refine .inr ⟨⟨hqK,?_,?_⟩,?_⟩
       ·rcases hq1 with h | h
        ·exact .inl h
        ·rw [hset,O2 hqi] at h; exact .inr h
       ·intro i' hi' hl' hc'
        exact hq2 i' hi' (by rw [hset]; split <;> simp [hl']) hc'
       ·have:=hq2 i him (by rw [hset,O3 rfl])
        simpa using this
    ·exact ⟨hs2.size,hs2.Df,λu z hu=>by simp [lk] at hu⟩
    ·intro u z hu hun
     have hne:o.dst≠some u:=λe=>by
      have:=hun i o him ho e;rw [hset,O3 rfl] at this; cases this
     refine hYt u z (P1 _ (P1 _ (SP.2 ⟨u,PL.2 ⟨_,EO hu,rfl⟩,?_⟩))) hne;rw [O3,hu]
     ·rfl
     ·rw [P_]
      intro w' hw';have hw'':=PR.1 hw';have hoi:l[w']? = some l[w']:=OU (by omega)
      rw [hoi];simp only [Rv];cases hd':l[w'].dst with
      | none=>rfl
      | some q=>
       by_cases e:q=u
       ·subst e
        have h9:=hun w' _ hw'' hoi hd';rw [hset] at h9
        split at h9
        ·cases h9
        ·simp [h9]
       ·have:Nat.beq q u=false:=by
         cases hb:Nat.beq q u with
         | false=>rfl
         | true=>exact absurd (Q7 hb) e
        simp [this]
    ·intro q hq
     rw [zA _ _ _ _ (by omega)]; exact tG q hq
    ·intro j oj hjm hoj hlj
     rw [tQ _ _ _ _ (by omega)] at hlj
     by_cases e:j=i
     ·subst e
      rw [ho] at hoj; cases hoj
      rw [yX];exact ⟨v,hcv,hφ⟩
     ·rw [O2 e] at hlj
      rw [zA _ _ _ _ e];obtain ⟨z,hz,hφj⟩:=hv j oj hjm hoj hlj;refine ⟨z,?_,hmono _ _ _ _ _ hle2 hφj⟩;have hNd2:∀ (j:Nat) (oj:Oper) (u:Nat),j<m->l[j]? = some oj->j≠i->oj.dst=some u->o.dst≠some u:=by
       intro j oj u hjm hoj e hdj e2;unfold xG at hNd;have hnd:=O1 hNd;have hnd2:(l.take m).Pairwise (λo1 o2=>∀ u,o1.dst=some u->∀ u',o2.dst=some u'->u≠u'):=by
        unfold List.Nodup at hnd;rw [List.pairwise_filterMap] at hnd;exact hnd.imp λh u hu u' hu'=>h u hu u' hu'
       have htj:(l.take m)[j]? = some oj:=by rw [PN,O3 hjm]; exact hoj
       obtain ⟨hi',p1⟩:=OY.1 htake;obtain ⟨hj',p2⟩:=OY.1 htj;have hpw:=RZ.1 hnd2;rcases Nat.lt_or_gt_of_ne e with q | q
       ·exact hpw j i hj' hi' q u (by rw [p2]; exact hdj) u (by rw [p1]; exact e2) rfl
       ·exact hpw i j hi' hj' q u (by rw [p1]; exact e2) u (by rw [p2]; exact hdj) rfl
      have hkeep:∀ (j:Nat) (oj:Oper) (u:Nat),j<m->l[j]? = some oj->listed.getD j true=true->j≠i->oj.dst=some u->a.tmps[u]? = some z->a'.tmps[u]? = some z:=by
       intro j oj u hjm hoj hlj e hdj hz;refine hYt u z (P1 _ (OW _ (SP.2 ⟨j,PR.2 hjm,?_⟩))) (hNd2 j oj u hjm hoj e hdj);simp [hlj,hoj,hdj,PK,hz]
      cases hdj:oj.dst with
      | none=>
       rw [hdj] at hz;cases hk:FL l j with
       | none=>rw [hk] at hz; exact hz
       | some s=>
        rw [hk] at hz;simp only [sC] at hz ⊢;obtain ⟨o2,ho2,_,w2,hw2,hd2⟩:=LY hk;rw [hoj] at ho2; cases ho2
        have hlt2:=qA hB hoj w2 hw2;have hl2:=hdc j oj hoj (by rw [hget j (by omega)]; exact hlj) w2 hw2
        have hne2:w2≠i:=by rintro rfl; rw [hnl] at hl2; cases hl2
        rw [SY] at hd2;obtain ⟨ow,how,hdw⟩:=hd2;exact hkeep w2 ow s (by omega) how (by rw [<- hget w2 (by omega)]; exact hl2) hne2 hdw hz
      | some u=>
       rw [hdj] at hz;simp only [sC] at hz ⊢;exact hkeep j oj u hjm hoj hlj e hdj hz
   unfold wpOp;rw [show l.toArray[i]? = some o from by simpa using ho]
   unfold wpList at hone
   dsimp only
   by_cases hwn:Region.wanted o (yielded l.toArray a.tmps)=true
   ·rw [O3 hwn] at hone ⊢
    left
    rcases hone with h | ⟨_,a1,w1,h,_⟩
    ·unfold Oper.wp at h ⊢
     generalize (execOp a.eval o).run x.P w=r at h;have fin':∀ a' w',wpList x.P l.toArray (BO x H' Rest (Y++(Es.getD i []++(L0++X))) o.dst (FL l i) (Φ i)) [] a' w'->wpAny x.P .any l.toArray Q fuel (listed.setIfInBounds i true) a' w':=λa' w' h=>fin2 a' w' h;cases r with
     | ok n w2=>
      cases n <;> simp only [Oper.upon] at h ⊢ <;> first
       | exact fin' _ _ h
       | exact Calls.mono h (λe w3 he=>match e,he with
         | .returned v,he=>fin' _ _ he
         | .panicked c,he=>absurd he.1 (by simp)
         | .outgrown,he=>absurd he.choose_spec.choose_spec.1 (by simp))
       | exact Rows.mono h (λv w3 he=>fin' _ _ he)
     | halt y w2=>
      cases y <;> simp only [Oper.upon] at h ⊢
      exact absurd h.1 (by simp)
    ·cases h
   ·rw [O2 hwn] at hone ⊢
    exact fin2 _ _ hone
def CW (L:Env):List Env->Prop
 | []=>True
 | E::r=>Kept L E/\CW L r
theorem CW.get {L:Env}:∀ {Es:List Env},CW L Es->∀ i t v,lk (Es.getD i []) t=some v->lk L t=some v
 | [],_,i,t,v,h=>by simp [lk] at h
 | E::r,hk,0,t,v,h=>hk.1.lk t v (by simpa using h)
 | E::r,hk,i+1,t,v,h=>CW.get hk.2 i t v (by simpa using h)
theorem xT {id:Nat} (m:Nat) (Φ:Lv) (C U:List (List Nat)) (I:List (List bL)) (live:List Nat) (L0:Env) (Es:List Env) (hmix:x.P.follows .mixedOrders=true) (hB:ui l m=true) (hml:Nat.ble m l.length=true) (hD:xF l m L0=true) (hX:Cc l m Es=true) (hL0:∀ t v,lk L0 t=some v->lk L t=some v) (hE:CW L Es) (hNd:xG l m=true)
  (hT:Fb l m (m+I.length) C U live=true)
  (hmono:∀ i H1 H2 rs v,H1.le H2->Φ i H1 rs v->Φ i H2 rs v)
  (hop:wy x l Φ C U Es (CR m I) H M L0 0 (l.take m))
  (k:∀ H',H.le H'->vp l Φ H' (List.range m) L0 (CR m I) (λL' R=>W x l.toArray Q (l.drop m) H' (sV live R M) L')):Go.Sim.C x (.region id l.toArray true) Q H (I.flatten++M) L:=by
 intro a w hs ht;refine wp_region_any hmix ?_;have hml':m<=l.length:=by simpa [Ru] using hml
 have hlist:∀ j,(Array.replicate l.toArray.size false).getD j true=if j<l.length then false else true:=by
  intro j;simp only [PK,Array.getElem?_replicate,RF]
  split <;> simp
 have hlist2:∀ j,(Array.replicate l.toArray.size false).getD j false=false:=by
  intro j;simp only [PK,Array.getElem?_replicate,RF]
  split <;> simp
 have hstart:((List.range (m+I.length)).filter (alive m C (Array.replicate l.toArray.size false))).flatMap (CR m I)=I.flatten:=by
  rw [List.range_add,Ry];have e1:(List.range m).filter (alive m C (Array.replicate l.toArray.size false))=[]:=by
   rw [List.filter_eq_nil_iff];intro q hq;rw [rr];rintro ⟨h | h,_⟩
   ·have:=PR.1 hq; omega
   ·rw [hlist2] at h; cases h
  have e2:((List.range I.length).map (m+·)).filter (alive m C (Array.replicate l.toArray.size false))=(List.range I.length).map (m+·):=by
   rw [Tl];intro q hq;obtain ⟨r,hr,rfl⟩:=PL.1 hq;rw [rr];exact ⟨.inl (by omega),λi _ h=>by rw [hlist2] at h; cases h⟩
  rw [e1,e2,Qy,List.flatMap_map];have e3:(List.range I.length).flatMap (λq=>CR m I (m+q))=((List.range I.length).map λq=>I.getD q []).flatten:=by
   rw [List.flatMap_def]
   congr 1
   refine List.map_congr_left λq _=>?_;unfold CR;rw [O2 (by omega),Q0]
  rw [e3]
  congr 1
  apply QD;intro q;rw [Ps]
  by_cases hq:q<I.length
  ·rw [QU hq,OU hq]; simp [Py,hq]
  ·rw [PV (by simp; omega),PV (by omega)]; rfl
 refine Kg (Q:=Q) (K:=m+I.length) hB hml' hD hX hL0 (λi t v h=>hE.get i t v h) hNd (Kz hT) (by omega) hmono hop k l.toArray.size _ a _ H (CR m I) (by simp) ?_ (λj hj hjl=>by rw [hlist,O3 hjl]) (λi o _ h=>by rw [hlist2] at h; cases h) (PT _) ?_ ⟨hs.size,hs.Df,λt v h=>by simp [lk] at h⟩ (λt v h _=>hs.get t v h) (λ_ _=>rfl) ?_
 ·unfold left
  exact P0 (Rx ..) (by simp)
 ·rw [hstart]; exact ht.drewN _
 ·intro i o hi ho hl
  rw [hlist,O3 (by omega)] at hl
  cases hl
theorem qO {id:Nat} (m:Nat) (Φ:Lv) (C U:List (List Nat)) (I:List (List bL)) (live:List Nat) (hmix:x.P.follows .mixedOrders=true) (hB:ui l m=true) (hml:Nat.ble m l.length=true) (hD:xF l m L=true) (hNd:xG l m=true)
  (hT:Fb l m (m+I.length) C U live=true)
  (hmono:∀ i H1 H2 rs v,H1.le H2->Φ i H1 rs v->Φ i H2 rs v)
  (hop:wy x l Φ C U [] (CR m I) H M L 0 (l.take m))
  (k:∀ H',H.le H'->vp l Φ H' (List.range m) L (CR m I) (λL' R=>W x l.toArray Q (l.drop m) H' (sV live R M) L')):Go.Sim.C x (.region id l.toArray true) Q H (I.flatten++M) L:=
 xT m Φ C U I live L [] hmix hB hml hD (by unfold Cc; simp) (λ_ _ h=>h) OV hNd hT hmono hop k
end
section
variable {x:Cx}{ops:Array Oper}{Q:lC}{rest:List Oper}{H:Hp}{M M':List bL}{L L':Env}
theorem pV {M'} (h:M=M') (k:W x ops Q rest H M' L):W x ops Q rest H M L:=h▸k
theorem Ho {c:Code}{M'} (h:M=M') (k:C x c Q H M' L):C x c Q H M L:=h▸k
theorem NB {e:Exit}{M'} (h:M=M') (k:E x e Q H M' L):E x e Q H M L:=h▸k
theorem D8 {e:Exit} (hM:M.Perm M') (k:E x e Q H M' L):E x e Q H M L:=λa w hs ht=>k a w hs (ht.perm hM)
theorem zE {c:Code} (hM:M.Perm M') (k:C x c Q H M' L):C x c Q H M L:=λa w hs ht=>k a w hs (ht.perm hM)
theorem sH {c:Code}{v:Value}{T:TypeId}{sz n:Nat}{xs:List Value} (hm:bL.row v T sz n xs ∈ M) (k:n<=maxLen->C x c Q H M L):C x c Q H M L:=λa w hs ht=>by
 have hok:iB w T sz v n xs:=ht.ok _ hm;refine k ?_ a w hs ht;rcases hok.2 with ⟨_,rfl⟩ | ⟨g,off,cap,cur,rfl,hg,hnc,hcm,_⟩
 ·unfold maxLen; omega
 ·omega
theorem D9 {e:Exit}{H0:Hp} (hle:H0.le H) (k:E x e Q H0 M L):E x e Q H M L:=λa w hs ht=>k a w hs (ht.KS hle)
end
section
variable {P:Program}{N B:Nat}{w0:World}{fn:Func}{Φ:Hp->List bL->Value->Prop}{H:Hp}{M:List bL}{L:Env}
theorem Fg (k:E ⟨P,N,B,w0⟩ .ret (bodyPost P fn (eA B w0 Φ)) H M L):E ⟨P,N,B,w0⟩ .normal (bodyPost P fn (eA B w0 Φ)) H M L:=λa w hs ht=>k a w hs ht
theorem GI (hr:fn.results=#[]) (h:Φ H M (.tuple #[])):E ⟨P,N,B,w0⟩ .ret (bodyPost P fn (eA B w0 Φ)) H M L:=
 λa w hs ht=>⟨hs.Df,.tuple #[],by simp [results,hr],H,M,ht,h⟩
theorem MJ {t u s:Nat}{v1 v2 v3:Value} (hr:fn.results=#[.tmp t,.tmp u,.tmp s]) (hl:lk L t=some v1) (hl2:lk L u=some v2) (hl3:lk L s=some v3) (h:Φ H M (.tuple #[v1,v2,v3])):E ⟨P,N,B,w0⟩ .ret (bodyPost P fn (eA B w0 Φ)) H M L:=
 λa w hs ht=>⟨hs.Df,.tuple #[v1,v2,v3],by simp [results,hr,PK,hs.get t v1 hl,hs.get u v2 hl2,hs.get s v3 hl3],H,M,ht,h⟩
end
class Flat (α:Type) [aF α]:Prop where
 ind:∀ {H H':Hp}{cs:List Value}{x:α},aF.E H cs x->aF.E H' cs x
instance:Flat Int:=⟨λh=>h⟩
instance:Flat Bool:=⟨λh=>h⟩
instance:Flat ByteArray:=⟨λh=>h⟩
instance:Flat U8:=⟨λh=>h⟩
instance:Flat Nv:=⟨λh=>h⟩
instance:Flat bP:=⟨λh=>h⟩
instance:Flat Nw:=⟨λh=>h⟩
instance:Flat Nt:=⟨λh=>h⟩
theorem pD.flat {α:Type}[aF α] [Flat α] {H H':Hp}:∀ {cs:List Value}{ys:List α},pD H cs ys->pD H' cs ys
 | _,[],h=>h
 | _,_::_,⟨c,r,e,h,k⟩=>⟨c,r,e,Flat.ind h,pD.flat k⟩
def sB {α:Type}[aF α] (v:Value) (xs:List Value) (l:List α):Prop:=∀ H,Rw H v xs l
def ND {α:Type}[aF α] (xs:List Value) (l:List α):Prop:=∀ H,pD H xs l
theorem Rw.oF {α:Type}[aF α] [Flat α] {H:Hp}{v:Value}{xs:List Value}{l:List α} (h:Rw H v xs l):sB v xs l:=λH'=>⟨h.rd.flat,h.sl⟩
theorem pD.oF {α:Type}[aF α] [Flat α] {H:Hp}{xs:List Value}{l:List α} (h:pD H xs l):ND xs l:=λH'=>h.flat
def Bh {α R:Type} (o:Option α) (a:R) (f:α->R):R:=match o with
 | none=>a
 | some s=>f s
theorem Cv {α R:Type}{o:Option α}{a:R}{f:α->R}{r:R} (h:o=none) (k:Bh o a f=r):a=r:=by subst h; exact k
theorem Cw {α R:Type}{o:Option α}{a:R}{f:α->R}{s:α}{r:R} (h:o=some s) (k:Bh o a f=r):f s=r:=by subst h; exact k
def yu (l:List (Hp->List bL->Value->Prop)) (i:Nat):Hp->List bL->Value->Prop:=l.getD i (λ_ _ _=>True)
def K9 (p:Hp->List bL->Value->Prop):Prop:=∀ H1 H2 rs v,H1.le H2->p H1 rs v->p H2 rs v
def zH:List (Hp->List bL->Value->Prop)->Prop
 | []=>True
 | p::l=>K9 p/\zH l
theorem tK {l:List (Hp->List bL->Value->Prop)} (h:zH l):∀ i H1 H2 rs v,H1.le H2->yu l i H1 rs v->yu l i H2 rs v:=by
 induction l with
 | nil=>intro i H1 H2 rs v _ _; exact OV
 | cons p l ih=>
  intro i H1 H2 rs v hle hp;cases i with
  | zero=>exact h.1 H1 H2 rs v hle hp
  | succ i=>exact ih h.2 i H1 H2 rs v hle hp
theorem fV (rs0:List bL) (c:Value):K9 (λ_ rs v=>rs0=rs/\c=v):=λ_ _ _ _ _ h=>h
theorem Gu {α:Type}{f:α->Value}{l:List α}{k:Nat}{y:α} (he:l[k]? = some y):(l.map f)[k*1]? = some (f y):=by
 rw [Ro,Ps,he]; rfl
section
variable {x:Cx}{ops:Array Oper}{Q:lC}{rest:List Oper}{H:Hp}{M M':List bL}{L L':Env}
variable {d:Nat}{ty:TypeId}{pos:String}{aft:Array Edge}{g:Option (Nat×Bool)}
theorem pE {t e m sz:Nat}{y z:Operand}{ad:Addr}{kk:IntKind}{i:Int}
  (hg:gd ops L ⟨some d,.indexAddr t y z,ty,pos,aft,g⟩=some true) (hN:Nat.blt d x.N=true)
  (hT:∀ w,(underlying t).run x.P w=.ok (.array m e) w) (hs:∀ w,(sizeOf e).run x.P w=.ok sz w)
  (hy:ev L y=some (.pointer (some ad))) (hz:ev L z=some (.int kk i)) (h0:0<=i) (h1:i.toNat<m)
  (k:W x ops Q rest H M ((d,.pointer (some (ad.add (i.toNat*sz))))::L)):
  W x ops Q (⟨some d,.indexAddr t y z,ty,pos,aft,g⟩::rest) H M L:=
 eO rfl hg hN (λc w hsl ht=>by
  have h1':i<(m:Int):=by omega
  simp [execOp,hsl.ev hy,hsl.ev hz,Instr.indexAt,asIntOf,hT,hs,h0,h1',Instr.sureAddr]) k
theorem Gk {T E:TypeId}{m sz n n' i:Nat}{y z:Operand}{v u:Value}{ad:Addr}{xs cs:List Value} (hg:gd ops L ⟨none,.store T y z,ty,pos,aft,g⟩=some true)
  (hn:∀ w,(sizeOf T).run x.P w=.ok m w) (hy:ev L y=some (.pointer (some ad))) (had:ad=(Value.base v).add i) (hz:ev L z=some u) (hv:u.cells=cs.toArray) (hl:cs.length=m)
  (hb:i+cs.length<=xs.length) (hpos:Nat.blt 0 cs.length=true) (h1:∀ c ∈ cs,c.oneCell'=true) (hnn:n'=n)
  (k:W x ops Q rest H (.row v E sz n' (over xs i cs)::M) L):
  W x ops Q (⟨none,.store T y z,ty,pos,aft,g⟩::rest) H (.row v E sz n xs::M) L:=by
 subst hnn;exact wE hg hn hy had hz hv hl hb hpos h1 k
theorem xA {T e m sz:Nat}{ps:List (Nat×Operand)}{vs:List Value}{css:List (List Value)}{z:Value}{zs out:List Value}{places:List (Nat×Nat)}
  (hg:gd ops L ⟨some d,.build T ps.toArray,ty,pos,aft,g⟩=some true) (hN:Nat.blt d x.N=true)
  (hv:xH L (ps.map (·.2))=some vs) (hc:yE vs css)
  (hz:∀ w,(zeroValue T).run x.P w=.ok z w) (hzs:z.cells=zs.toArray) (hT:∀ w,(underlying T).run x.P w=.ok (.array m e) w) (hs:∀ w,(sizeOf e).run x.P w=.ok sz w)
  (hpl:places=(List.range m).map λi=>(i*sz,sz))
  (ho:laid places zs ((ps.map (·.1)).zip css)=some out)
  (k:W x ops Q rest H M ((d,.agg out.toArray)::L)):
  W x ops Q (⟨some d,.build T ps.toArray,ty,pos,aft,g⟩::rest) H M L:=
 eO rfl hg hN (λa w hsl ht=>by
  have hl:(ps.map (·.1)).length=vs.length:=by rw [<- hsl.xH hv]; simp
  have hf:=uX (place:=λi=>some (i*sz,sz)) (places:=places) (λi o h=>by
   rw [hpl,Ps] at h;cases hh:(List.range m)[i]? with
   | none=>rw [hh] at h; cases h
   | some j=>
    rw [hh] at h;have:j=i:=by
     have:=OY.1 hh;simpa using this.2.symm
    subst this;simpa using h) (ps.map (·.1)) vs css zs out hc hl ho
  have hps:=zw hsl hv;simp only [execOp,Instr.build,O8,hz,O4,hT,hzs,hs];simp only [hps,hf,Pc,O4]) k
theorem eU {α:Type}[aF α] {T e:TypeId}{n:Nat}{ps:List (Nat×Operand)}{vs:List Value}{css:List (List Value)}{z:Value}{zs out:List Value}{places:List (Nat×Nat)}{ys:List α}
  (hg:gd ops L ⟨some d,.buildSlice T n ps.toArray,ty,pos,aft,g⟩=some true) (hN:Nat.blt d x.N=true)
  (hv:xH L (ps.map (·.2))=some vs) (hc:yE vs css)
  (hT:∀ w,(underlying T).run x.P w=.ok (.slice e) w) (hs:∀ w,(sizeOf e).run x.P w=.ok (aF.sz α) w) (hs0:Nat.blt 0 (aF.sz α)=true)
  (hz:∀ w,(zeroValue e).run x.P w=.ok z w) (hzs:(Array.range (n*aF.sz α)).map (z.cells[·%z.cells.size]!)=zs.toArray)
  (hpl:places=(List.range n).map λi=>(i*aF.sz α,aF.sz α)) (hn:Nat.ble (n*aF.sz α) 16777216=true) (hnn:Nat.blt 0 n=true)
  (ho:laid places zs ((ps.map (·.1)).zip css)=some out) (hr:pD H out ys) (hyn:ys.length=n)
  (k:∀ v' xs',Rw H v' xs' ys->W x ops Q rest H (.row v' e (aF.sz α) ys.length xs'::M) ((d,v')::L)):
  W x ops Q (⟨some d,.buildSlice T n ps.toArray,ty,pos,aft,g⟩::rest) H M L:=by
 refine rY rfl hg hN λa w hsl ht=>?_;have hl:(ps.map (·.1)).length=vs.length:=by rw [<- hsl.xH hv]; simp
 have hs0':0<aF.sz α:=by simpa [P7] using hs0
 have hn':n*aF.sz α<=16777216:=by simpa [Ru] using hn
 have hnn':0<n:=by simpa [P7] using hnn
 have hpos:0<n*aF.sz α:=Nat.mul_pos hnn' hs0';have hf:=uX (place:=λi=>some (i*aF.sz α,aF.sz α)) (places:=places) (λi o h=>by
  rw [hpl,Ps] at h;cases hh:(List.range n)[i]? with
  | none=>rw [hh] at h; cases h
  | some j=>
   rw [hh] at h;have:j=i:=by
    have:=OY.1 hh;simpa using this.2.symm
   subst this;simpa using h) (ps.map (·.1)) vs css zs out hc hl ho
 have hps:=zw hsl hv;have hsz:out.length=n*aF.sz α:=by rw [hr.len,hyn]
 have hmax:ys.length<=maxLen:=by
  unfold maxLen;have:n<=n*aF.sz α:=RJ _ hs0';omega
 refine ⟨.slice (some ⟨w.heap.size,0,none⟩) ys.length ys.length,w.alloc (.cells out.toArray e),?_,H,_,St.newRow (e:=e) ht hr hmax,k _ _ ⟨hr,_,_,_,rfl⟩⟩;have h1:¬ (2 ^ 24<n*aF.sz α):=by omega
 have h2:¬ (n*aF.sz α=0):=by omega
 simp only [execOp,Instr.buildSlice,O8,hT,O4,hs,gt_iff_lt,h1,h2,Qw,hz,Pc];simp only [hps];have hf':Instr.fill (λi=>some (i*aF.sz α,aF.sz α)) ((Array.range (n*aF.sz α)).map (z.cells[·%z.cells.size]!)) ((List.map (λx=>x.fst) ps).zip vs)=some out.toArray:=by
  rw [hzs]; exact hf
 simp only [hf',newRow,newObj,O8,Pc,Sem.run,O4,World.alloc,hyn]
end
inductive fD (P:Program) (M:List bL) (L:Env):ResultVar->Value->Prop
 | tmp {t}{v:Value} (h:lk L t=some v):fD P M L (.tmp t) v
 | one {t ty b T}{l:List Value}{fz}{v:Value} (h:lk L t=some (.pointer (some ⟨b,0,none⟩))) (hA:∀ w,(isAgg ty).run P w=.ok false w) (hm:bL.obj b (.cells (v::l).toArray T fz) ∈ M):fD P M L (.cell t ty) v
 | agg {t ty b T}{l:List Value}{fz n} (h:lk L t=some (.pointer (some ⟨b,0,none⟩))) (hA:∀ w,(isAgg ty).run P w=.ok true w) (hn:∀ w,(sizeOf ty).run P w=.ok n w) (hm:bL.obj b (.cells l.toArray T fz) ∈ M) (hl:l.length=n):fD P M L (.cell t ty) (.agg l.toArray)
 | arr {t ty v T sz k}{xs:List Value}{n} (h:lk L t=some (.pointer (some (Value.base v)))) (hA:∀ w,(isAgg ty).run P w=.ok true w) (hn:∀ w,(sizeOf ty).run P w=.ok n w) (hm:bL.row v T sz k xs ∈ M) (hl:xs.length=n):fD P M L (.cell t ty) (.agg xs.toArray)
def GM (tmps:Array Value):ResultVar->Sem Value
 | .tmp t=>pure (tmps.getD t undef)
 | .cell a t=>do loadVar t (<- asAddr (tmps.getD a undef))
theorem wX (fn:Func) (tmps:Array Value):results fn tmps=(do
  let vs <- fn.results.mapM (GM tmps)
  pure (if h:vs.size=1 then vs[0] else .tuple vs)):=rfl
theorem fD.run {P:Program}{M:List bL}{L:Env}{N B:Nat}{w0 w:World}{H:Hp}{a:Act}{rv:ResultVar}{v:Value} (h:fD P M L rv v) (hs:Sl N L a) (ht:St B w0 H M w):
  (GM a.tmps rv).run P w=.ok v w:=by
 cases h with
 | tmp h=>simp [GM,PK,hs.get _ _ h]
 | one h hA hm=>
  have hc:=(uP (x:=⟨P,N,B,w0⟩) (H:=H) hm (off:=0) (v:=v) rfl) w ht;simp [GM,PK,hs.get _ _ h,asAddr,loadVar,hA,load,Sem.run,hc]
 | agg h hA hn hm hl=>
  rename_i t ty b T l fz n
  have hc:=(Cz (x:=⟨P,N,B,w0⟩) (H:=H) hm);have hr:=run_loadCellsFrom (P:=P) (w:=w) (ad:=⟨b,0,none⟩) l 0 #[] (λj v hv=>by rw [Pm]; exact hc j v hv w ht)
  rw [hl] at hr;simp [GM,PK,hs.get _ _ h,asAddr,loadVar,hA,hn,loadCells,hr]
 | arr h hA hn hm hl=>
  rename_i t ty v T sz k xs n
  have hr:=run_loadCellsFrom (P:=P) (w:=w) (ad:=Value.base v) xs 0 #[] (λj u hu=>by rw [Pm]; exact (AU (x:=⟨P,N,B,w0⟩) (H:=H) hm hu) w ht)
  rw [hl] at hr;simp [GM,PK,hs.get _ _ h,asAddr,loadVar,hA,hn,loadCells,hr]
section
variable {P:Program}{N B:Nat}{w0:World}{fn:Func}{Φ:Hp->List bL->Value->Prop}{H H0:Hp}{M M1 M2:List bL}{L:Env}
theorem jT {r1:ResultVar}{v1:Value} (hle:H0.le H) (hr:fn.results=#[r1]) (h1:fD P M L r1 v1) (hd:M1.Sublist M) (hp:M1.Perm M2) (h:Φ H0 M2 v1):
  E ⟨P,N,B,w0⟩ .ret (bodyPost P fn (eA B w0 Φ)) H M L:=λa w hs ht=>by
 have q1:=h1.run hs ht;refine ⟨hs.Df,v1,?_,H0,M2,((ht.sub hd).perm hp).KS hle,h⟩;rw [wX,hr];simp [q1]
theorem Bt {r1 r2:ResultVar}{v1 v2:Value} (hle:H0.le H) (hr:fn.results=#[r1,r2]) (h1:fD P M L r1 v1) (h2:fD P M L r2 v2) (hd:M1.Sublist M) (hp:M1.Perm M2) (h:Φ H0 M2 (.tuple #[v1,v2])):
  E ⟨P,N,B,w0⟩ .ret (bodyPost P fn (eA B w0 Φ)) H M L:=λa w hs ht=>by
 have q1:=h1.run hs ht;have q2:=h2.run hs ht;refine ⟨hs.Df,_,?_,H0,M2,((ht.sub hd).perm hp).KS hle,h⟩;rw [wX,hr];simp [q1,q2]
theorem Ag {r1 r2 r3:ResultVar}{v1 v2 v3:Value} (hle:H0.le H) (hr:fn.results=#[r1,r2,r3]) (h1:fD P M L r1 v1) (h2:fD P M L r2 v2) (h3:fD P M L r3 v3) (hd:M1.Sublist M) (hp:M1.Perm M2) (h:Φ H0 M2 (.tuple #[v1,v2,v3])):
  E ⟨P,N,B,w0⟩ .ret (bodyPost P fn (eA B w0 Φ)) H M L:=λa w hs ht=>by
 have q1:=h1.run hs ht;have q2:=h2.run hs ht;have q3:=h3.run hs ht;refine ⟨hs.Df,_,?_,H0,M2,((ht.sub hd).perm hp).KS hle,h⟩;rw [wX,hr];simp [q1,q2,q3]
end
theorem aP.shape {α:Type}[aF α] {H:Hp}{v:Value}{xs:List α} (h:aP H v xs):∃ o n c,v=.slice o n c:=by
 obtain ⟨a,c,rfl,_⟩:=h.len; exact ⟨_,_,_,rfl⟩
theorem aP.isNil {α:Type}[aF α] {H:Hp}{n c:Nat}{xs:List α} (h:aP H (.slice none n c) xs):xs=[]:=by
 rcases h with ⟨_,h⟩ | ⟨b,off,cap,arr,T,fz,h,_⟩
 ·exact h
 ·cases h
def MA {α:Type} (v:Value) (l:List α):Prop:=(∃ n c,v=.slice none n c/\l=[])\/(∃ a n c,v=.slice (some a) n c/\l≠[])
theorem MA.nil {α:Type}:MA (.slice none 0 0) ([]:List α):=.inl ⟨_,_,rfl,rfl⟩
section
variable {x:Cx}{ops:Array Oper}{Q:lC}{rest:List Oper}{H:Hp}{M M':List bL}{L L':Env}
variable {d:Nat}{ty:TypeId}{pos:String}{aft:Array Edge}{g:Option (Nat×Bool)}
theorem K6 {α:Type}[aF α] {H:Hp}{zs:List Value}{ze:α} (hE:aF.E H zs ze) (hzl:zs.length=aF.sz α):∀ q,pD H ((List.range (q*aF.sz α)).map (zs.toArray[·%zs.length]!)) (List.replicate q ze):=by
 intro q
 induction q with
 | zero=>rw [Qt]; exact rfl
 | succ q ih=>
  have hsplit:(List.range ((q+1)*aF.sz α)).map (zs.toArray[·%zs.length]!)=zs++(List.range (q*aF.sz α)).map (zs.toArray[·%zs.length]!):=by
   apply QD;intro j;rw [Q2,Ps]
   by_cases hj:j<zs.length
   ·rw [O3 hj,QU (by rw [Pk]; omega)]
    simp [QI hj,hj]
   ·rw [O2 hj,Ps]
    by_cases hj2:j<(q+1)*aF.sz α
    ·rw [QU hj2,QU (by rw [Pk] at hj2; omega)]
     simp only [Qo];rw [<- Nat.mod_eq_sub_mod (by omega)]
    ·rw [PV (by simp; omega),PV (by rw [Pk] at hj2; simp; omega)]
  rw [hsplit];exact ⟨zs,_,rfl,hE,ih⟩
end
end Go.Sim
