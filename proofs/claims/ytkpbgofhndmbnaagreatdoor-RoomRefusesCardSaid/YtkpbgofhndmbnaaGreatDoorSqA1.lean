/-
  The proof, part A1.
-/
import Derived.WalkKit
import Derived.WalkSpells
import Derived.WalkLawsBesides
import Derived.Lib.AppendZeros
set_option linter.unusedVariables false
set_option linter.unusedSimpArgs false
set_option linter.unusedSectionVars false
set_option linter.unnecessarySimpa false
namespace Go.Sim
abbrev Ru := @Go.Addr.add_lit
abbrev Q_ := @Array.getD_eq_getD_getElem?
abbrev Tg := @Array.getElem?_eq_getElem
abbrev RN := @Array.getElem?_eq_some_iff
abbrev Va := @Array.getElem?_modify
abbrev T6 := @Array.getElem?_setIfInBounds
abbrev Vp := @Array.toList_append
abbrev R6 := @Bool.and_eq_true
abbrev Rx := @Bool.false_eq_true
abbrev RZ := @Bool.or_eq_true
abbrev Qi := @ByteArray
abbrev Rd := @Int.natCast_mul
abbrev Qn := @Int.toNat_natCast
abbrev SD := @List.Sublist.refl
abbrev Rz := @List.all_eq_true
abbrev QR := @List.append_assoc
abbrev Q5 := @List.append_nil
abbrev SL := @List.cons_append
abbrev T7 := @List.contains_iff_mem
abbrev Td := @List.countP_le_length
abbrev Tl := @List.drop_append_of_le_length
abbrev Sa := @List.drop_drop
abbrev QV := @List.drop_eq_getElem_cons
abbrev Tp := @List.drop_length
abbrev S3 := @List.drop_set_of_lt
abbrev SW := @List.drop_take
abbrev RI := @List.drop_zero
abbrev QU := @List.eq_nil_of_length_eq_zero
abbrev R8 := @List.ext_getElem?
abbrev Te := @List.filter_append
abbrev Vr := @List.filter_eq_self
abbrev TN := @List.flatMap_append
abbrev RF := @List.flatMap_cons
abbrev Um := @List.foldl_cons
abbrev QW := @List.getD_eq_getElem?_getD
abbrev Sz := @List.getElem?_append
abbrev RA := @List.getElem?_append_left
abbrev QX := @List.getElem?_append_right
abbrev Q7 := @List.getElem?_drop
abbrev Ql := @List.getElem?_eq_getElem
abbrev Rj := @List.getElem?_eq_none
abbrev Qo := @List.getElem?_eq_some_iff
abbrev QS := @List.getElem?_map
abbrev Sq := @List.getElem?_range
abbrev T5 := @List.getElem?_set
abbrev Rc := @List.getElem?_take
abbrev QY := @List.getElem_mem
abbrev QE := @List.length_append
abbrev Qy := @List.length_cons
abbrev Sj := @List.length_map
abbrev RE := @List.length_replicate
abbrev Rk := @List.length_singleton
abbrev QN := @List.length_take
abbrev RM := @List.map_append
abbrev SR := @List.map_cons
abbrev UA := @List.map_nil
abbrev QC := @List.mem_append
abbrev Qm := @List.mem_append_left
abbrev Rp := @List.mem_append_right
abbrev Q8 := @List.mem_cons
abbrev Qw := @List.mem_cons_of_mem
abbrev Qq := @List.mem_cons_self
abbrev Rn := @List.mem_filter
abbrev UB := @List.mem_filterMap
abbrev So := @List.mem_flatMap
abbrev RC := @List.mem_iff_getElem
abbrev Ra := @List.mem_map
abbrev Qz := @List.mem_of_getElem?
abbrev Rf := @List.mem_range
abbrev QZ := @List.mem_singleton
abbrev R2 := @List.nil_append
abbrev Rg := @List.nodup_append
abbrev TR := @List.nodup_cons
abbrev TF := @List.pairwise_iff_getElem
abbrev TS := @List.range_succ
abbrev TG := @List.set_eq_take_append_cons_drop
abbrev Ve := @List.singleton_append
abbrev S1 := @List.size_toArray
abbrev TI := @List.take_left
abbrev Sc := @List.take_length
abbrev Tn := @List.take_set_of_le
abbrev QO := @List.take_succ_eq_append_getElem
abbrev UW := @List.take_take
abbrev S5 := @List.toList_toArray
abbrev SS := @Nat.add_assoc
abbrev QK := @Nat.add_mul
abbrev Sy := @Nat.add_sub_cancel_left
abbrev RV := @Nat.add_zero
abbrev Tb := @Nat.ble_eq
abbrev Rv := @Nat.blt_eq
abbrev SK := @Nat.eq_of_beq_eq_true
abbrev R7 := @Nat.eq_of_mul_eq_mul_right
abbrev Tm := @Nat.le_mul_of_pos_right
abbrev QI := @Nat.le_refl
abbrev Ro := @Nat.le_trans
abbrev Tu := @Nat.lt_of_le_of_lt
abbrev Tf := @Nat.lt_of_lt_of_le
abbrev Sd := @Nat.lt_succ_self
abbrev TD := @Nat.lt_trichotomy
abbrev Rq := @Nat.min_eq_left
abbrev Se := @Nat.mod_eq_of_lt
abbrev QF := @Nat.mul_le_mul_right
abbrev S9 := @Nat.mul_one
abbrev Ug := @Nat.one_mul
abbrev RG := @Nat.sub_self
abbrev Tv := @Nat.sub_zero
abbrev QL := @Nat.zero_add
abbrev RW := @Nat.zero_mul
abbrev U4 := @Option.bind_eq_some_iff
abbrev Tc := @Option.bind_some
abbrev Sp := @Option.getD_some
abbrev T0 := @Option.map_eq_some_iff
abbrev TU := @Option.map_none
abbrev RR := @Option.map_some
abbrev Qp := @Option.some.inj
abbrev QH := @Option.some.injEq
abbrev SU := @Prod.mk.injEq
abbrev Qx := @Go.Result.andThen_ok
abbrev QA := @Go.Sem.run_bind
abbrev QG := @Go.Sem.run_pure
abbrev Qj := @Go.Value
abbrev Q6 := @congrArg
abbrev Q9 := @decide_eq_true_eq
abbrev Vm := @decide_false
abbrev Vw := @Go.grownCap_ge
abbrev US := @Go.grownCap_le_maxLen
abbrev Vu := @Go.growslice_fits
abbrev UZ := @Go.heap_alloc_new
abbrev R_ := @if_false
abbrev Qs := @if_neg
abbrev Qu := @if_pos
abbrev Uh := @if_true
abbrev QB := @of_decide_eq_false
abbrev Qr := @of_decide_eq_true
abbrev Vt := @Go.run_firstCells_some
abbrev RU := @Go.run_underlying
abbrev Qk := @trivial
abbrev Ui := @Go.wpList_step
end Go.Sim
namespace Go.Sim
open Go Go.RowKit
open _root_.Go.IntKind (i64 u64 u32 u8)
abbrev Hp:=Nat->Option Obj
def Hp.le (H H':Hp):Prop:=∀ b o,H b=some o->H' b=some o
theorem Rh (H:Hp):H.le H:=λ_ _ h=>h
theorem Uf {A B C:Hp} (h:A.le B) (k:B.le C):A.le C:=λb o x=>k b o (h b o x)
def Hp.add (H:Hp) (b:Nat) (o:Obj):Hp:=λc=>if c=b then some o else H c
theorem Hp.Ns {H:Hp}{b:Nat}{o:Obj} (h:H b=none):H.le (H.add b o):=by
 intro c x hx;unfold Hp.add
 split
 ·rename_i e; subst e; rw [h] at hx; cases hx
 ·exact hx
theorem Hp.xw (H:Hp) (b:Nat) (o:Obj):H.add b o b=some o:=by simp [Hp.add]
def snap (w:World):Hp:=λb=>w.heap[b]?
def jM (w:World) (T:TypeId) (sz:Nat) (v:Qj) (n:Nat) (xs:List Qj):Prop:=
  xs.length=n*sz /\
  ((v=.slice none 0 0/\n=0) \/
   ∃ g off cap cur,v=.slice (some ⟨g,off,none⟩) n cap/\w.heap[g]? = some (.cells cur T (0,0))/\n<=cap/\cap<=maxLen/\off+cap*sz<=cur.size/\(cur.toList.drop off).take (n*sz)=xs)
theorem jM.lt {w:World}{T:TypeId}{sz:Nat}{v:Qj}{n:Nat}{xs:List Qj} (h:jM w T sz v n xs) {k:Nat} (hk:v.ownBlock=some k):k<w.heap.size:=by
 rcases h.2 with ⟨rfl,_⟩ | ⟨g,off,cap,cur,rfl,hg,_⟩
 ·simp [Value.ownBlock] at hk
 ·simp only [Value.ownBlock,QH] at hk
  subst hk;exact (RN.1 hg).1
theorem jM.kept {w w':World}{T:TypeId}{sz:Nat}{v:Qj}{n:Nat}{xs:List Qj}{row:Option Nat} (h:jM w T sz v n xs) (hg:w.grownBy w' row)
  (hne:∀ b,v.ownBlock=some b->row≠some b):jM w' T sz v n xs:=by
 refine ⟨h.1,?_⟩;rcases h.2 with hn | ⟨g,off,cap,cur,rfl,hgg,rest⟩
 ·exact .inl hn
 ·refine .inr ⟨g,off,cap,cur,rfl,?_,rest⟩
  rw [hg.block g (RN.1 hgg).1 (λe=>hne g rfl e.symm)];exact hgg
theorem jM.nil (w:World) (T:TypeId) (sz:Nat):jM w T sz (.slice none 0 0) 0 []:=⟨by simp,.inl ⟨rfl,rfl⟩⟩
def Oa (fs:List Nat) (P:World->Prop):Prop:=∀ w w' row,P w->w.grownBy w' row->(∀ b ∈ fs,row≠some b)->P w'
inductive bQ where
 | obj (b:Nat) (o:Obj)
 | row (v:Qj) (T:TypeId) (sz n:Nat) (xs:List Qj)
 | pack (fs:List Nat) (P:World->Prop)
def bQ.zh:bQ->Option Nat
 | .obj b _=>some b
 | .row v _ _ _ _=>v.ownBlock
 | .pack _ _=>none
def bQ.uT:bQ->List Nat
 | .obj b _=>[b]
 | .row v _ _ _ _=>v.ownBlock.toList
 | .pack fs _=>fs
def bQ.ok (w:World):bQ->Prop
 | .obj b o=>w.heap[b]? = some o
 | .row v T sz n xs=>jM w T sz v n xs
 | .pack fs P=>P w/\(∀ b ∈ fs,b<w.heap.size)/\Oa fs P
theorem bQ.G9 {w:World}{r:bQ} (h:r.ok w) {b:Nat} (hb:b ∈ r.uT):b<w.heap.size:=by
 cases r with
 | obj c o=>
  simp only [bQ.uT,QZ] at hb;subst hb;simp only [bQ.ok] at h;exact (RN.1 h).1
 | row v T sz n xs=>exact jM.lt h (Option.mem_toList.1 hb)
 | pack fs P=>exact h.2.1 b hb
theorem bQ.kept {w w':World}{r:bQ}{row:Option Nat} (h:r.ok w) (hg:w.grownBy w' row) (hne:∀ b ∈ r.uT,row≠some b):r.ok w':=by
 cases r with
 | obj c o=>
  simp only [bQ.ok] at h ⊢;rw [hg.block c (RN.1 h).1 (λe=>hne c (by simp [bQ.uT]) e.symm)]
  exact h
 | row v T sz n xs=>
  exact jM.kept h hg (λb hb=>hne b (Option.mem_toList.2 hb))
 | pack fs P=>exact ⟨h.2.2 _ _ _ h.1 hg hne,λb hb=>Tf (h.2.1 b hb) hg.size,h.2.2⟩
theorem KQ {l l':List bQ} (h:l.Sublist l'):(l.flatMap bQ.uT).Sublist (l'.flatMap bQ.uT):=by
 induction h with
 | slnil=>exact SD _
 | cons a _ ih=>rw [RF]; exact ih.trans (List.sublist_append_right _ _)
 | cons_cons a _ ih=>rw [RF,RF]; exact (SD _).append ih
structure St (B:Nat) (w0:World) (H:Hp) (M:List bQ) (w:World):Prop where
 below:Below B w0 w
 le:B<=w.heap.size
 uJ:∀ b o,H b=some o->w.heap[b]? = some o
 ok:∀ r ∈ M,r.ok w
 lo:∀ r ∈ M,∀ b ∈ r.uT,B<=b/\H b=none
 nd:(M.flatMap bQ.uT).Nodup
section
variable {B:Nat}{w0 w w':World}{H H':Hp}{M M':List bQ}
theorem St.lt (h:St B w0 H M w) {b:Nat}{o:Obj} (hb:H b=some o):b<w.heap.size:=(RN.1 (h.uJ b o hb)).1
theorem St.perm (h:St B w0 H M w) (p:M.Perm M'):St B w0 H M' w:=
 ⟨h.below,h.le,h.uJ,λr hr=>h.ok r (p.mem_iff.2 hr),λr hr=>h.lo r (p.mem_iff.2 hr),(p.flatMap_right _).nodup_iff.1 h.nd⟩
theorem St.sub (h:St B w0 H M w) (p:M'.Sublist M):St B w0 H M' w:=
 ⟨h.below,h.le,h.uJ,λr hr=>h.ok r (p.subset hr),λr hr=>h.lo r (p.subset hr),h.nd.sublist (KQ p)⟩
theorem St.tail {r:bQ} (h:St B w0 H (r::M) w):St B w0 H M w:=h.sub (List.sublist_cons_self _ _)
theorem St.drewN (h:St B w0 H M w) (n:Nat):St B w0 H M { w with drawn:=n }:=
 ⟨⟨h.below.os,h.below.tape,h.below.output,h.below.size,h.below.block⟩,h.le,h.uJ,λr hr=>by
  have:=h.ok r hr;cases r with
  | pack fs P=>exact ⟨this.2.2 w _ none this.1 ⟨rfl,rfl,rfl,QI _,λ_ _ _=>rfl⟩ (by simp),this.2⟩
  | _=>exact this,h.lo,h.nd⟩
theorem St.grow (h:St B w0 H M w) (hg:w.grownBy w' none):St B w0 H M w':=
  ⟨h.below.grown hg h.le (λ_ e=>by cases e),Ro h.le hg.size,
   λb o hb=>by rw [hg.block b (h.lt hb) (by simp)]; exact h.uJ b o hb,
   λr hr=>bQ.kept (h.ok r hr) hg (by simp),h.lo,h.nd⟩
theorem St.Eu {r r':bQ} (h:St B w0 H (r::M) w) (hg:w.grownBy w' r.zh) (hok:r'.ok w')
  (hf:∀ b,r'.zh=some b->r.zh=some b\/w.heap.size<=b) (hr:r.uT=r.zh.toList:=by rfl) (hr':r'.uT=r'.zh.toList:=by rfl):St B w0 H (r'::M) w':=by
 have hnd:=h.nd;have uJ:∀ {b:Nat},r.zh=some b->b ∈ r.uT:=λe=>by rw [hr,e]; simp
 refine ⟨h.below.grown hg h.le (λk e=>(h.lo r (Qq ..) k (uJ e)).1),Ro h.le hg.size,?_,?_,?_,?_⟩
 ·intro b o hb
  rw [hg.block b (h.lt hb) (λe=>by have:=(h.lo r (Qq ..) b (uJ e.symm)).2; rw [this] at hb; cases hb)]
  exact h.uJ b o hb
 ·intro s hs
  rcases Q8.1 hs with rfl | hs
  ·exact hok
  ·refine bQ.kept (h.ok s (Qw _ hs)) hg ?_
   intro b hb e;simp only [RF] at hnd;exact (Rg.1 hnd).2.2 b (uJ e) b (So.2 ⟨s,hs,hb⟩) rfl
 ·intro s hs b hb
  rcases Q8.1 hs with rfl | hs
  ·rw [hr'] at hb
   rcases hf b (Option.mem_toList.1 hb) with e | e
   ·exact h.lo r (Qq ..) b (uJ e)
   ·refine ⟨Ro h.le e,?_⟩
    cases hh:H b with
    | none=>rfl
    | some o=>exact absurd (h.lt hh) (by omega)
  ·exact h.lo s (Qw _ hs) b hb
 ·have hm:(M.flatMap bQ.uT).Nodup:=(h.tail).nd
  rw [RF,hr'];cases hf':r'.zh with
  | none=>simpa using hm
  | some b=>
   simp only [Option.toList,Ve,TR];refine ⟨λhmem=>?_,hm⟩;obtain ⟨s,hs,hb⟩:=So.1 hmem;rcases hf b hf' with e | e
   ·simp only [RF] at hnd
    exact (Rg.1 hnd).2.2 b (uJ e) b hmem rfl
   ·have:=bQ.G9 (h.ok s (Qw _ hs)) hb
    omega
theorem St.add {r':bQ} (h:St B w0 H M w) (hg:w.grownBy w' none) (hok:r'.ok w') (hf:∀ b,r'.zh=some b->w.heap.size<=b) (hr':r'.uT=r'.zh.toList:=by rfl):
  St B w0 H (r'::M) w':=by
 have h1:St B w0 H (.row (.slice none 0 0) 0 1 0 []::M) w:=by
  refine ⟨h.below,h.le,h.uJ,?_,?_,?_⟩
  ·intro r hr
   rcases Q8.1 hr with rfl | hr
   ·exact jM.nil _ _ _
   ·exact h.ok r hr
  ·intro r hr
   rcases Q8.1 hr with rfl | hr
   ·intro b hb; simp [bQ.uT,Value.ownBlock] at hb
   ·exact h.lo r hr
  ·simpa [RF,bQ.uT,Value.ownBlock] using h.nd
 exact h1.Eu hg hok (λb hb=>.inr (hf b hb)) rfl hr'
theorem St.Cd (h:St B w0 H M w) (T:TypeId) (sz:Nat):St B w0 H (.row (.slice none 0 0) T sz 0 []::M) w:=
 h.add ⟨rfl,rfl,rfl,QI _,λ_ _ _=>rfl⟩ (jM.nil _ _ _) (by intro b hb; simp [bQ.zh,Value.ownBlock] at hb)
theorem St.alloc (h:St B w0 H M w) (o:Obj):St B w0 H (.obj w.heap.size o::M) (w.alloc o):=
 h.add (World.grownBy_alloc w o none) (UZ w o) (by intro b hb; simp only [bQ.zh,QH] at hb; omega)
theorem St.vS {b:Nat}{o:Obj} (h:St B w0 H M w) (hm:bQ.obj b o ∈ M):w.heap[b]? = some o:=h.ok _ hm
theorem St.freeze {b:Nat}{o:Obj} (h:St B w0 H (.obj b o::M) w):H.le (H.add b o)/\St B w0 (H.add b o) M w:=by
 have hb:=h.lo _ (Qq ..) b (by simp [bQ.uT])
 refine ⟨Hp.Ns hb.2,h.below,h.le,?_,h.tail.ok,?_,h.tail.nd⟩
 ·intro c x hx
  unfold Hp.add at hx
  split at hx
  ·rename_i e; subst e; cases hx; exact h.ok _ (Qq ..)
  ·exact h.uJ c x hx
 ·intro r hr c hc
  refine ⟨(h.tail.lo r hr c hc).1,?_⟩;unfold Hp.add
  split
  ·rename_i e; subst e
   have hnd:=h.nd;simp only [RF,bQ.uT,Ve,TR] at hnd;exact absurd (So.2 ⟨r,hr,hc⟩) hnd.1
  ·exact (h.tail.lo r hr c hc).2
theorem St.Pr {b:Nat}{o:Obj} (h:St B w0 H' M w) (hB:B<=b) (hle:H.le H') (hb:H b=none) (ho:H' b=some o):St B w0 H (.obj b o::M) w:=by
 refine ⟨h.below,h.le,λc x hx=>h.uJ c x (hle c x hx),?_,?_,?_⟩
 ·intro r hr
  rcases Q8.1 hr with rfl | hr
  ·exact h.uJ b o ho
  ·exact h.ok r hr
 ·intro r hr c hc
  rcases Q8.1 hr with rfl | hr
  ·simp only [bQ.uT,QZ] at hc; subst hc; exact ⟨hB,hb⟩
  ·refine ⟨(h.lo r hr c hc).1,?_⟩
   cases hh:H c with
   | none=>rfl
   | some x=>have:=hle c x hh; rw [(h.lo r hr c hc).2] at this; cases this
 ·simp only [RF,bQ.uT,Ve,TR]
  refine ⟨λhm=>?_,h.nd⟩;obtain ⟨r,hr,hc⟩:=So.1 hm;have:=(h.lo r hr b hc).2;rw [this] at ho; cases ho
theorem St.Mh (h:St B w0 H' M w) (hle:H.le H'):St B w0 H M w:=
 ⟨h.below,h.le,λb o hb=>h.uJ b o (hle b o hb),h.ok,λr hr b hb=>⟨(h.lo r hr b hb).1,by
  cases hh:H b with
  | none=>rfl
  | some x=>have:=hle b x hh; rw [(h.lo r hr b hb).2] at this; cases this⟩,h.nd⟩
def dQ (rs:List bQ):bQ:=.pack (rs.flatMap bQ.uT) (λw=>∀ r ∈ rs,r.ok w)
theorem IP (rs:List bQ):Oa (rs.flatMap bQ.uT) (λw=>∀ r ∈ rs,r.ok w):=λ_ _ _ h hg hne r hr=>
 bQ.kept (h r hr) hg (λb hb=>hne b (So.2 ⟨r,hr,hb⟩))
theorem St.unpack {rs:List bQ} (h:St B w0 H (dQ rs::M) w):St B w0 H (rs++M) w:=
 ⟨h.below,h.le,h.uJ,λr hr=>by
  rcases QC.1 hr with hr | hr
  ·exact (h.ok _ (Qq ..)).1 r hr
  ·exact h.ok r (Qw _ hr),λr hr b hb=>by
  rcases QC.1 hr with hr | hr
  ·exact h.lo _ (Qq ..) b (So.2 ⟨r,hr,hb⟩)
  ·exact h.lo r (Qw _ hr) b hb,by
  have:=h.nd;rw [RF] at this;rw [TN]; exact this⟩
theorem St.pack {rs:List bQ} (h:St B w0 H (rs++M) w):St B w0 H (dQ rs::M) w:=
 ⟨h.below,h.le,h.uJ,λr hr=>by
  rcases Q8.1 hr with rfl | hr
  ·refine ⟨λr hr=>h.ok r (Qm _ hr),λb hb=>?_,IP rs⟩
   obtain ⟨r,hr,hb⟩:=So.1 hb;exact bQ.G9 (h.ok r (Qm _ hr)) hb
  ·exact h.ok r (Rp _ hr),λr hr b hb=>by
  rcases Q8.1 hr with rfl | hr
  ·obtain ⟨r,hr,hb⟩:=So.1 hb
   exact h.lo r (Qm _ hr) b hb
  ·exact h.lo r (Rp _ hr) b hb,by
  have:=h.nd;rw [TN] at this;rw [RF]; exact this⟩
theorem St.begin (w:World):St w.heap.size w (snap w) [] w:=
 ⟨Below.refl _ _,QI _,λ_ _ h=>h,by simp,by simp,by simp⟩
end
abbrev Env:=List (Nat×Qj)
def lk:Env->Nat->Option Qj
 | [],_=>none
 | (t,v)::r,u=>bif Nat.beq t u then some v else lk r u
structure Sl (N:Nat) (L:Env) (a:Act):Prop where
 size:a.tmps.size=N
 EU:a.defers=[]
 get:∀ t v,lk L t=some v->a.tmps[t]? = some v
theorem tH (t:Nat) (v:Qj) (r:Env) (u:Nat):lk ((t,v)::r) u=if t=u then some v else lk r u:=by
 show (bif Nat.beq t u then some v else lk r u)=_
 by_cases h:t=u
 ·subst h; simp
 ·have:Nat.beq t u=false:=by
   cases hb:Nat.beq t u with
   | false=>rfl
   | true=>exact absurd (SK hb) h
  simp [this,h]
theorem Sl.put {N:Nat}{L:Env}{a:Act}{d:Nat}{v:Qj} (h:Sl N L a) (hd:Nat.blt d N=true):Sl N ((d,v)::L) (a.put (some d) v):=by
 have hd':d<N:=by simpa [Rv] using hd
 refine ⟨by simp [Act.put,h.size],h.EU,λt u ht=>?_⟩
 rw [tH] at ht;simp only [Act.put,T6]
 by_cases e:d=t
 ·subst e
  simp only [Uh,QH] at ht;subst ht;simp [h.size,hd']
 ·simp only [Qs e] at ht ⊢
  exact h.get t u ht
def Kept (L:Env):Env->Prop
 | []=>True
 | (t,v)::r=>lk L t=some v/\Kept L r
theorem Kept.lk {L:Env}:∀ {L':Env},Kept L L'->∀ t v,lk L' t=some v->lk L t=some v
 | [],_,t,v,h=>by simp [Sim.lk] at h
 | (u,x)::r,hk,t,v,h=>by
  rw [tH] at h
  split at h
  ·rename_i e; subst e; cases h; exact hk.1
  ·exact Kept.lk hk.2 t v h
theorem Sl.Ot {N:Nat}{L L':Env}{a:Act} (h:Sl N L a) (hk:Kept L L'):Sl N L' a:=
 ⟨h.size,h.EU,λt v ht=>h.get t v (hk.lk t v ht)⟩
def ev (L:Env):Operand->Option Qj
 | .tmp t=>lk L t
 | .const v=>some v
 | .func f=>some (.func (.func f) #[] #[])
 | .global g=>some (.pointer (some ⟨g,0,none⟩))
theorem Sl.ev {N:Nat}{L:Env}{a:Act} (h:Sl N L a) {x:Operand}{v:Qj} (hx:Sim.ev L x=some v):a.eval x=v:=by
 cases x with
 | tmp t=>simp [Act.eval,Q_,h.get t v hx]
 | const u=>simpa [Sim.ev,Act.eval] using hx
 | func f=>simpa [Sim.ev,Act.eval] using hx
 | global g=>simpa [Sim.ev,Act.eval] using hx
def gd (ops:Array Oper) (L:Env) (o:Oper):Option Bool:=
 match o.guard with
 | none=>some true
 | some (j,want)=>
  match (ops[j]?).bind (·.dst) with
  | none=>none
  | some t=>match lk L t with
   | some (.bool b)=>some (b == want)
   | some (.tuple _)=>some false
   | _=>none
theorem Sl.gd {N:Nat}{L:Env}{a:Act} (h:Sl N L a) {ops:Array Oper}{o:Oper}{c:Bool} (hg:Sim.gd ops L o=some c):Region.wanted o (yielded ops a.tmps)=c:=by
 unfold Sim.gd at hg;unfold Region.wanted;cases ho:o.guard with
 | none=>simp only [ho,QH] at hg; simp [<- hg]
 | some p=>
  obtain ⟨j,want⟩:=p;simp only [ho] at hg;cases hd:(ops[j]?).bind (·.dst) with
  | none=>simp [hd] at hg
  | some t=>
   simp only [hd] at hg;cases hl:lk L t with
   | none=>simp [hl] at hg
   | some v=>
    cases v with
    | bool b=>
     simp only [hl,QH] at hg;have:=h.get t _ hl;simp [yielded,hd,this,<- hg]
    | tuple vs=>
     simp only [hl,QH] at hg;have:=h.get t _ hl;simp [yielded,hd,this,<- hg]
    | _=>simp [hl] at hg
structure Cx where
 P:Program
 N:Nat
 B:Nat
 w0:World
abbrev lZ:=Exit->Act->World->Prop
def W (x:Cx) (ops:Array Oper) (Q:lZ) (rest:List Oper) (H:Hp) (M:List bQ) (L:Env):Prop:=
 ∀ a w,Sl x.N L a->St x.B x.w0 H M w->wpList x.P ops Q rest a w
def C (x:Cx) (c:Code) (Q:lZ) (H:Hp) (M:List bQ) (L:Env):Prop:=
 ∀ a w,Sl x.N L a->St x.B x.w0 H M w->c.wp x.P Q a w
def E (x:Cx) (e:Exit) (Q:lZ) (H:Hp) (M:List bQ) (L:Env):Prop:=
 ∀ a w,Sl x.N L a->St x.B x.w0 H M w->Q e a w
section
variable {x:Cx}{ops:Array Oper}{Q:lZ}{rest:List Oper}{H:Hp}{M M':List bQ}{L L':Env}
theorem bL {c d:Code} (k:C x c (Exit.then (d.wp x.P Q) Q) H M L):C x (.seq c d) Q H M L:=
 λa w hs ht=>wp_seq (k a w hs ht)
theorem mD (k:E x .normal Q H M L):C x .skip Q H M L:=λa w hs ht=>wp_skip (k a w hs ht)
theorem uQ {id:Nat} (k:E x (.exit id) Q H M L):C x (.exit id) Q H M L:=λa w hs ht=>wp_exit (k a w hs ht)
theorem mC (k:E x .ret Q H M L):C x .ret Q H M L:=λa w hs ht=>wp_ret (k a w hs ht)
theorem uq {id:Nat}{c:Code} (k:C x c (Exit.inBlock id Q) H M L):C x (.block id c) Q H M L:=
 λa w hs ht=>wp_block (k a w hs ht)
theorem bE {c:Operand}{p q:Code}{b:Bool} (hb:ev L c=some (.bool b)) (k1:b=true->C x p Q H M L) (k2:b=false->C x q Q H M L):
  C x (.cond c p q) Q H M L:=
 λa w hs ht=>wp_cond_split (hs.ev hb) (λe=>k1 e a w hs ht) (λe=>k2 e a w hs ht)
theorem aM {id:Nat}{l:List Oper} (k:W x l.toArray Q l H M L):C x (.region id l.toArray false) Q H M L:=
 λa w hs ht=>wp_region_lit (k a w hs ht)
theorem a_ (k:E x .normal Q H M L):W x ops Q [] H M L:=λa w hs ht=>wpList_nil (k a w hs ht)
theorem aS {d:Code}{Q':lZ} (k:C x d Q' H M L):E x .normal (Exit.then (d.wp x.P Q') Q) H M L:=λa w hs ht=>k a w hs ht
theorem Bb {c:Code} (hL:Kept L L') (hM:M.Perm M') (k:C x c Q H M' L'):C x c Q H M L:=
 λa w hs ht=>k a w (hs.Ot hL) (ht.perm hM)
theorem Dq {e:Exit} (hL:Kept L L') (hM:M.Perm M') (k:E x e Q H M' L'):E x e Q H M L:=
 λa w hs ht=>k a w (hs.Ot hL) (ht.perm hM)
theorem MU {c:Code} (hM:M'.Sublist M) (k:C x c Q H M' L):C x c Q H M L:=λa w hs ht=>k a w hs (ht.sub hM)
theorem I4 {e:Exit} (hM:M'.Sublist M) (k:E x e Q H M' L):E x e Q H M L:=λa w hs ht=>k a w hs (ht.sub hM)
theorem kQ (hM:M.Perm M') (k:W x ops Q rest H M' L):W x ops Q rest H M L:=λa w hs ht=>k a w hs (ht.perm hM)
theorem s5 {o:Oper}{d:Nat} (hd:o.dst=some d) (hg:gd ops L o=some true) (hN:Nat.blt d x.N=true)
  (hrun:∀ a w,Sl x.N L a->St x.B x.w0 H M w->∃ v w',(execOp a.eval o).run x.P w=.ok (.value v) w'/\∃ H' M',St x.B x.w0 H' M' w'/\W x ops Q rest H' M' ((d,v)::L)):
  W x ops Q (o::rest) H M L:=by
 intro a w hs ht;obtain ⟨v,w',hr,H',M',ht',k⟩:=hrun a w hs ht;refine Ui λK hK=>?_;rw [Qu (hs.gd hg)];unfold Oper.wp;rw [hr];simp only [Oper.upon,hd];exact hK _ _ (k _ _ (hs.put hN) ht')
theorem fG {o:Oper}{d:Nat}{v:Qj} (hd:o.dst=some d) (hg:gd ops L o=some true) (hN:Nat.blt d x.N=true)
  (hrun:∀ a w,Sl x.N L a->St x.B x.w0 H M w->(execOp a.eval o).run x.P w=.ok (.value v) w) (k:W x ops Q rest H M ((d,v)::L)):
  W x ops Q (o::rest) H M L:=
 s5 hd hg hN λa w hs ht=>⟨v,w,hrun a w hs ht,H,M,ht,k⟩
theorem Oc {o:Oper}{d:Nat} (hd:o.dst=some d) (hg:gd ops L o=some false) (hN:Nat.blt d x.N=true) (k:W x ops Q rest H M ((d,undef)::L)):
  W x ops Q (o::rest) H M L:=by
 intro a w hs ht;refine Ui λK hK=>?_;rw [Qs (by rw [hs.gd hg]; simp),hd]
 exact hK _ _ (k _ _ (hs.put hN) ht)
theorem ME {o:Oper} (hd:o.dst=none) (hg:gd ops L o=some false) (k:W x ops Q rest H M L):W x ops Q (o::rest) H M L:=by
 intro a w hs ht;refine Ui λK hK=>?_;rw [Qs (by rw [hs.gd hg]; simp),hd]
 exact hK _ _ (k _ _ hs ht)
theorem DA {o:Oper} (hd:o.dst=none) (hg:gd ops L o=some true)
  (hrun:∀ a w,Sl x.N L a->St x.B x.w0 H M w->∃ w',(execOp a.eval o).run x.P w=.ok .skip w'/\∃ H' M',St x.B x.w0 H' M' w'/\W x ops Q rest H' M' L):
  W x ops Q (o::rest) H M L:=by
 intro a w hs ht;obtain ⟨w',hr,H',M',ht',k⟩:=hrun a w hs ht;refine Ui λK hK=>?_;rw [Qu (hs.gd hg)];unfold Oper.wp;rw [hr];simp only [Oper.upon,hd];exact hK _ _ (k _ _ hs ht')
def ur (B:Nat) (w0:World) (Φ:Hp->List bQ->Qj->Prop):Ending->World->Prop
 | .returned v,w'=>∃ H' M',St B w0 H' M' w'/\Φ H' M' v
 | _,_=>False
def yK (L:Env):List Operand->Option (List Qj)
 | []=>some []
 | y::r=>match ev L y,yK L r with
  | some v,some vs=>some (v::vs)
  | _,_=>none
theorem Sl.yK {L:Env}{a:Act}{N:Nat} (hs:Sl N L a):∀ {l:List Operand}{vs:List Qj},Sim.yK L l=some vs->l.map a.eval=vs
 | [],vs,h=>by simp [Sim.yK] at h; simp [h]
 | y::r,vs,h=>by
  simp only [Sim.yK] at h;cases h1:Sim.ev L y with
  | none=>simp [h1] at h
  | some v=>
   cases h2:Sim.yK L r with
   | none=>simp [h1,h2] at h
   | some us=>
    simp only [h1,h2,QH] at h;subst h;simp [hs.ev h1,Sl.yK hs h2]
theorem gJ {d:Nat}{f:FuncId}{args:List Operand}{tys:Array TypeId}{ty:TypeId}{pos:String}{aft:Array Edge}{g:Option (Nat×Bool)}{vs:List Qj}
  {Φ:Hp->List bQ->Qj->Prop}
  (hcall:∀ as w,(callFunc f as).run x.P w=.ok (.enter f as) w)
  (hg:gd ops L ⟨some d,.call ⟨.value (.func f),args.toArray,tys⟩,ty,pos,aft,g⟩=some true) (hN:Nat.blt d x.N=true)
  (hv:yK L args=some vs)
  (hc:∀ w,St x.B x.w0 H M w->Calls x.P f vs.toArray w (ur x.B x.w0 Φ))
  (k:∀ v H' M',Φ H' M' v->W x ops Q rest H' M' ((d,v)::L)):
  W x ops Q (⟨some d,.call ⟨.value (.func f),args.toArray,tys⟩,ty,pos,aft,g⟩::rest) H M L:=by
 intro a w hs ht;refine Ui λK hK=>?_;rw [Qu (hs.gd hg)];have hargs:args.toArray.map a.eval=vs.toArray:=by simp [hs.yK hv]
 have hr:(execOp a.eval ⟨some d,.call ⟨.value (.func f),args.toArray,tys⟩,ty,pos,aft,g⟩).run x.P w=.ok (.enter f vs.toArray) w:=by
  simp only [execOp,resolve,hargs,Act.eval,Deferred.ofValue,QA,QG,Qx,invoke];simp [hcall]
 unfold Oper.wp;rw [hr];simp only [Oper.upon];refine (hc w ht).mono λe w' he=>?_;cases e with
 | returned v=>
  obtain ⟨H',M',h1,h2⟩:=he;exact hK _ _ (k v H' M' h2 _ _ (hs.put hN) h1)
 | panicked c=>exact he.elim
 | outgrown=>exact he.elim
end
def yz (x:Cx) (H:Hp) (M:List bQ) (ad:Addr) (v:Qj):Prop:=∀ w,St x.B x.w0 H M w->w.cell? ad=some v
def Bg (H:Hp) (ad:Addr) (v:Qj):Prop:=∃ arr T fz,H ad.block=some (.cells arr T fz)/\ad.spot=none/\arr[ad.off]? = some v
theorem Vg {w:World}{ad:Addr}{arr:Array Qj}{T:TypeId}{fz:Nat×Nat}{v:Qj} (h:w.heap[ad.block]? = some (.cells arr T fz)) (hs:ad.spot=none) (hv:arr[ad.off]? = some v):
  w.cell? ad=some v:=by
 simp [World.cell?,h,hs,hv]
theorem Bg.at {x:Cx}{H:Hp}{M:List bQ}{ad:Addr}{v:Qj} (h:Bg H ad v):yz x H M ad v:=by
 obtain ⟨arr,T,fz,hb,hs,hv⟩:=h;exact λw ht=>Vg (ht.uJ _ _ hb) hs hv
theorem Bg.mono {H H':Hp}{ad:Addr}{v:Qj} (hle:H.le H') (h:Bg H ad v):Bg H' ad v:=by
 obtain ⟨arr,T,fz,hb,hs,hv⟩:=h;exact ⟨arr,T,fz,hle _ _ hb,hs,hv⟩
theorem vT {x:Cx}{H:Hp}{M:List bQ}{b off:Nat}{l:List Qj}{T:TypeId}{fz:Nat×Nat}{v:Qj}
  (hm:bQ.obj b (.cells l.toArray T fz) ∈ M) (hv:l[off]? = some v):yz x H M ⟨b,off,none⟩ v:=by
 intro w ht;exact Vg (ht.vS hm) rfl (by simpa using hv)
def yX (x:Cx) (H:Hp) (M:List bQ) (ad:Addr) (cs:List Qj):Prop:=∀ j c,cs[j]? = some c->yz x H M (ad.add j) c
def i_ (H:Hp) (ad:Addr) (cs:List Qj):Prop:=∀ j c,cs[j]? = some c->Bg H (ad.add j) c
theorem i_.at {x:Cx}{H:Hp}{M:List bQ}{ad:Addr}{cs:List Qj} (h:i_ H ad cs):yX x H M ad cs:=λj c hc=>(h j c hc).at
theorem i_.mono {H H':Hp}{ad:Addr}{cs:List Qj} (hle:H.le H') (h:i_ H ad cs):i_ H' ad cs:=λj c hc=>(h j c hc).mono hle
theorem D8 {x:Cx}{H:Hp}{M:List bQ}{b:Nat}{l:List Qj}{T:TypeId}{fz:Nat×Nat}
  (hm:bQ.obj b (.cells l.toArray T fz) ∈ M):yX x H M ⟨b,0,none⟩ l:=by
 intro j c hc;rw [Ru,QL];exact vT hm hc
theorem run_loadCellsFrom {P:Program}{w:World}{ad:Addr}:∀ (cs:List Qj) (i:Nat) (acc:Array Qj),(∀ j c,cs[j]? = some c->w.cell? (ad.add (i+j))=some c) ->
  (loadCellsFrom ad i cs.length acc).run P w=.ok (acc++cs.toArray) w
 | [],i,acc,_=>by simp [loadCellsFrom]
 | c::cs,i,acc,h=>by
  have h0:=h 0 c rfl;simp only [RV] at h0;have ih:=run_loadCellsFrom (P:=P) (w:=w) (ad:=ad) cs (i+1) (acc.push c) (λj d hd=>by have:=h (j+1) d (by simpa using hd); rwa [show i+(j+1)=i+1+j from by omega] at this)
  simp only [Qy,loadCellsFrom,load,QA,Sem.run,h0,Qx];rw [ih];simp
section
variable {x:Cx}{ops:Array Oper}{Q:lZ}{rest:List Oper}{H:Hp}{M M':List bQ}{L L':Env}
variable {d:Nat}{ty:TypeId}{pos:String}{aft:Array Edge}{g:Option (Nat×Bool)}
theorem bX {y:Operand}{v:Qj} (hg:gd ops L ⟨some d,.move y,ty,pos,aft,g⟩=some true) (hN:Nat.blt d x.N=true)
  (hy:ev L y=some v) (k:W x ops Q rest H M ((d,v)::L)):W x ops Q (⟨some d,.move y,ty,pos,aft,g⟩::rest) H M L:=
 fG rfl hg hN (λa w hs _=>by simp [execOp,hs.ev hy]) k
theorem aL {y:Operand}{v:Qj} (hg:gd ops L ⟨some d,.assign y,ty,pos,aft,g⟩=some true) (hN:Nat.blt d x.N=true)
  (hy:ev L y=some v) (k:W x ops Q rest H M ((d,v)::L)):W x ops Q (⟨some d,.assign y,ty,pos,aft,g⟩::rest) H M L:=
 fG rfl hg hN (λa w hs _=>by simp [execOp,hs.ev hy]) k
theorem Dz {c y z:Operand}{b:Bool}{v:Qj} (hg:gd ops L ⟨some d,.pick c y z,ty,pos,aft,g⟩=some true) (hN:Nat.blt d x.N=true)
  (hc:ev L c=some (.bool b)) (hy:(if b then ev L y else ev L z)=some v) (k:W x ops Q rest H M ((d,v)::L)):
  W x ops Q (⟨some d,.pick c y z,ty,pos,aft,g⟩::rest) H M L:=
 fG rfl hg hN (λa w hs _=>by
  cases b
  ·simp only [Rx,R_] at hy; simp [execOp,hs.ev hc,hs.ev hy,asBool]
  ·simp only [Uh] at hy; simp [execOp,hs.ev hc,hs.ev hy,asBool]) k
def BF:BinOp->Qj->Qj->Option Qj
 | .add,.int k a,.int k' b=>if k=k' then some (.int k (k.wrap (a+b))) else none
 | .sub,.int k a,.int k' b=>if k=k' then some (.int k (k.wrap (a-b))) else none
 | .mul,.int k a,.int k' b=>if k=k' then some (.int k (k.wrap (a*b))) else none
 | .lss,.int k a,.int k' b=>if k=k' then some (.bool (decide (a<b))) else none
 | .leq,.int k a,.int k' b=>if k=k' then some (.bool (decide (a<=b))) else none
 | .gtr,.int k a,.int k' b=>if k=k' then some (.bool (decide (b<a))) else none
 | .geq,.int k a,.int k' b=>if k=k' then some (.bool (decide (b<=a))) else none
 | .eql,.int k a,.int k' b=>if k=k' then some (.bool (decide (a=b))) else none
 | .neq,.int k a,.int k' b=>if k=k' then some (.bool (!decide (a=b))) else none
 | .and,.int k a,.int k' b=>if k=k' then some (.int k (k.wrap (BitVec.ofInt k.bits a &&& BitVec.ofInt k.bits b).toNat)) else none
 | .or,.int k a,.int k' b=>if k=k' then some (.int k (k.wrap (BitVec.ofInt k.bits a ||| BitVec.ofInt k.bits b).toNat)) else none
 | .xor,.int k a,.int k' b=>if k=k' then some (.int k (k.wrap (BitVec.ofInt k.bits a ^^^ BitVec.ofInt k.bits b).toNat)) else none
 | .eql,.string s,.string t=>some (.bool (decide (s=t)))
 | .neq,.string s,.string t=>some (.bool (!decide (s=t)))
 | .lss,.string s,.string t=>some (.bool (Op.bytesLess s.toList t.toList))
 | _,_,_=>none
theorem M5 (s t:Qi):(s.toList == t.toList)=decide (s=t):=by
 rw [Bool.eq_iff_iff];simp only [beq_iff_eq,Q9];constructor
 ·intro h
  have hs:∀ u:Qi,u.toList=u.data.toList:=ByteArray.toList_eq;rw [hs,hs] at h;exact ByteArray.ext (Array.ext' h)
 ·intro h; rw [h]
theorem DV (a b:Int):(a == b)=decide (a=b):=by rw [Bool.eq_iff_iff]; simp
theorem J9 {p:Prop}[Decidable p] {v w:Qj} (h:(if p then some v else none)=some w):p/\v=w:=by
 split at h
 ·exact ⟨‹_›,by simpa using h⟩
 ·cases h
theorem HU {op:BinOp}{a b v:Qj} (t:TypeId) (P:Program) (w:World) (h:BF op a b=some v):(binOp op t a b).run P w=.ok v w:=by
 unfold BF at h
 split at h
 case h_1 | h_2 | h_3 | h_4 | h_5 | h_6 | h_7 | h_8 | h_9 | h_10 | h_11 | h_12=>
  obtain ⟨rfl,rfl⟩:=J9 h
  first
   | (simp [binOp,Op.intArith]; done)
   | (simp [binOp,Op.intBits]; done)
   | (simp [binOp,Op.intCmp]; done)
   | (simp [binOp,Op.intCmp,bne,DV]; done)
 case h_13 | h_14 | h_15=>cases h; simp [binOp,Op.stringOp,<- M5]
 case h_16=>cases h
theorem EW {op:BinOp}{a b v:Qj} (t:TypeId) (y z:Operand) (P:Program) (w:World) (h:BF op a b=some v):(eqGuard op t y z a b).run P w=.ok () w:=by
 unfold BF at h
 split at h <;> first
  | (simp [eqGuard]; done)
  | (cases h; done)
theorem vw {op:BinOp}{t u:TypeId}{y z:Operand}{a b v:Qj} (hg:gd ops L ⟨some d,.binOp op t y z u,ty,pos,aft,g⟩=some true) (hN:Nat.blt d x.N=true)
  (hy:ev L y=some a) (hz:ev L z=some b) (hv:BF op a b=some v) (k:W x ops Q rest H M ((d,v)::L)):
  W x ops Q (⟨some d,.binOp op t y z u,ty,pos,aft,g⟩::rest) H M L:=
 fG rfl hg hN (λc w hs _=>by
  simp only [execOp,hs.ev hy,hs.ev hz,QA,EW t y z x.P w hv,Qx,HU t x.P w hv,QG]) k
theorem MF {t u:TypeId}{y z:Operand}{kk:IntKind}{m n:Int} (hg:gd ops L ⟨some d,.binOp .quo t y z u,ty,pos,aft,g⟩=some true) (hN:Nat.blt d x.N=true)
  (hy:ev L y=some (.int kk m)) (hz:ev L z=some (.int kk n)) (hn:n≠0) (k:W x ops Q rest H M ((d,.int kk (kk.wrap (m.tdiv n)))::L)):
  W x ops Q (⟨some d,.binOp .quo t y z u,ty,pos,aft,g⟩::rest) H M L:=
 fG rfl hg hN (λc w hs _=>by
  simp [execOp,hs.ev hy,hs.ev hz,eqGuard,binOp,Op.intDiv,hn]) k
theorem Jp {t u:TypeId}{y z:Operand}{kk:IntKind}{m n:Int} (hg:gd ops L ⟨some d,.binOp .rem t y z u,ty,pos,aft,g⟩=some true) (hN:Nat.blt d x.N=true)
  (hy:ev L y=some (.int kk m)) (hz:ev L z=some (.int kk n)) (hn:n≠0) (k:W x ops Q rest H M ((d,.int kk (m.tmod n))::L)):
  W x ops Q (⟨some d,.binOp .rem t y z u,ty,pos,aft,g⟩::rest) H M L:=
 fG rfl hg hN (λc w hs _=>by
  simp [execOp,hs.ev hy,hs.ev hz,eqGuard,binOp,Op.intDiv,hn]) k
def MT:UnOp->Qj->Option Qj
 | .neg,.int k n=>some (.int k (k.wrap (0-n)))
 | .not,.bool b=>some (.bool !b)
 | .xor,.int k n=>some (.int k (k.wrap (BitVec.ofInt k.bits (if k.signed then -1 else k.max) ^^^ BitVec.ofInt k.bits n).toNat))
 | _,_=>none
theorem Od {op:UnOp}{t:TypeId}{y:Operand}{a v:Qj} (hg:gd ops L ⟨some d,.unOp op t y,ty,pos,aft,g⟩=some true) (hN:Nat.blt d x.N=true)
  (hy:ev L y=some a) (hv:MT op a=some v) (k:W x ops Q rest H M ((d,v)::L)):
  W x ops Q (⟨some d,.unOp op t y,ty,pos,aft,g⟩::rest) H M L:=
 fG rfl hg hN (λc w hs _=>by
  simp only [execOp,hs.ev hy];unfold MT at hv
  split at hv <;> first
   | (cases hv; simp [Op.unary,Op.intArith,Op.intBits]; done)
   | cases hv) k
theorem Ob {T:TypeId}{y:Operand}{v:Qj}{cs:List Qj} (hg:gd ops L ⟨some d,.box T y,ty,pos,aft,g⟩=some true) (hN:Nat.blt d x.N=true)
  (hy:ev L y=some v) (hcs:v.cells=cs.toArray)
  (k:∀ b,W x ops Q rest H (.obj b (.cells cs.toArray T (0,0))::M) ((d,.pointer (some ⟨b,0,none⟩))::L)):
  W x ops Q (⟨some d,.box T y,ty,pos,aft,g⟩::rest) H M L:=
 s5 rfl hg hN (λc w hs ht=>⟨_,w.alloc (.cells cs.toArray T),by
  simp only [execOp,hs.ev hy,Instr.box,newVar,newRow,newObj,QA,QG,Sem.run,Qx,hcs,World.alloc],_,_,ht.alloc _,k _⟩)
theorem K9 {T:TypeId}{z:Qj}{cs:List Qj} (hg:gd ops L ⟨some d,.alloc T,ty,pos,aft,g⟩=some true) (hN:Nat.blt d x.N=true)
  (hz:∀ w,(zeroValue T).run x.P w=.ok z w) (hcs:z.cells=cs.toArray)
  (k:∀ b,W x ops Q rest H (.obj b (.cells cs.toArray T (0,0))::M) ((d,.pointer (some ⟨b,0,none⟩))::L)):
  W x ops Q (⟨some d,.alloc T,ty,pos,aft,g⟩::rest) H M L:=
 s5 rfl hg hN (λc w hs ht=>⟨_,w.alloc (.cells cs.toArray T),by
  simp only [execOp,Instr.alloc,hz,newVar,newRow,newObj,QA,QG,Sem.run,Qx,hcs,World.alloc],_,_,ht.alloc _,k _⟩)
theorem qI {T:TypeId}{y:Operand}{ad:Addr}{v:Qj} (hg:gd ops L ⟨some d,.load T y,ty,pos,aft,g⟩=some true) (hN:Nat.blt d x.N=true)
  (hT:∀ w,(isAgg T).run x.P w=.ok false w) (hy:ev L y=some (.pointer (some ad))) (hc:yz x H M ad v)
  (k:W x ops Q rest H M ((d,v)::L)):W x ops Q (⟨some d,.load T y,ty,pos,aft,g⟩::rest) H M L:=
 fG rfl hg hN (λc w hs ht=>by
  simp [execOp,hs.ev hy,Instr.loadAt,Instr.sureAddr,loadVar,hT,load,Sem.run,hc w ht]) k
theorem iW {T:TypeId}{n:Nat}{y:Operand}{ad:Addr}{cs:List Qj} (hg:gd ops L ⟨some d,.load T y,ty,pos,aft,g⟩=some true) (hN:Nat.blt d x.N=true)
  (hT:∀ w,(isAgg T).run x.P w=.ok true w) (hn:∀ w,(sizeOf T).run x.P w=.ok n w) (hy:ev L y=some (.pointer (some ad))) (hc:yX x H M ad cs) (hl:cs.length=n)
  (k:W x ops Q rest H M ((d,.agg cs.toArray)::L)):W x ops Q (⟨some d,.load T y,ty,pos,aft,g⟩::rest) H M L:=
 fG rfl hg hN (λc w hs ht=>by
  have h:=run_loadCellsFrom (P:=x.P) (w:=w) (ad:=ad) cs 0 #[] (λj v hv=>by rw [QL]; exact hc j v hv w ht)
  rw [hl] at h;simp [execOp,hs.ev hy,Instr.loadAt,Instr.sureAddr,loadVar,hT,hn,loadCells,h]) k
theorem uu {T:TypeId}{y:Operand}{ad:Addr}{f n o:Nat}{fs:Array Field}{fd:Field} (hg:gd ops L ⟨some d,.fieldAddr T y f,ty,pos,aft,g⟩=some true) (hN:Nat.blt d x.N=true)
  (hT:∀ w,(underlying T).run x.P w=.ok (.struct fs) w) (hf:fs[f]? = some fd) (hn:∀ w,(sizeOf fd.type).run x.P w=.ok n w) (hn0:Nat.beq n 0=false) (ho:fd.offset=o)
  (hy:ev L y=some (.pointer (some ad))) (k:W x ops Q rest H M ((d,.pointer (some (ad.add o)))::L)):
  W x ops Q (⟨some d,.fieldAddr T y f,ty,pos,aft,g⟩::rest) H M L:=
 fG rfl hg hN (λc w hs ht=>by
  have h0:¬ n=0:=λe=>by subst e; simp at hn0
  simp [execOp,hs.ev hy,Instr.fieldAt,hT,hf,Instr.sureAddr,fieldPlace,hn,h0,ho]) k
theorem pW {y:Operand}{ad:Addr} (hg:gd ops L ⟨some d,.nilCheck y,ty,pos,aft,g⟩=some true) (hN:Nat.blt d x.N=true)
  (hy:ev L y=some (.pointer (some ad))) (k:W x ops Q rest H M ((d,.pointer (some ad))::L)):
  W x ops Q (⟨some d,.nilCheck y,ty,pos,aft,g⟩::rest) H M L:=
 fG rfl hg hN (λc w hs ht=>by simp [execOp,hs.ev hy]) k
theorem ss {y:Operand}{vs:Array Qj}{i:Nat}{v:Qj} (hg:gd ops L ⟨some d,.extract y i,ty,pos,aft,g⟩=some true) (hN:Nat.blt d x.N=true)
  (hy:ev L y=some (.tuple vs)) (hv:vs[i]? = some v) (k:W x ops Q rest H M ((d,v)::L)):
  W x ops Q (⟨some d,.extract y i,ty,pos,aft,g⟩::rest) H M L:=
 fG rfl hg hN (λc w hs ht=>by simp [execOp,hs.ev hy,Instr.extract,hv]) k
theorem Bz {y z:Operand}{tys:Array TypeId}{kk:IntKind}{m n:Int} (hg:gd ops L ⟨some d,.call ⟨.builtin .min,#[y,z],tys⟩,ty,pos,aft,g⟩=some true) (hN:Nat.blt d x.N=true)
  (hy:ev L y=some (.int kk m)) (hz:ev L z=some (.int kk n)) (k:W x ops Q rest H M ((d,.int kk (min m n))::L)):
  W x ops Q (⟨some d,.call ⟨.builtin .min,#[y,z],tys⟩,ty,pos,aft,g⟩::rest) H M L:=
 fG rfl hg hN (λc w hs ht=>by
  have:(if n<m then n else m)=min m n:=by rw [Int.min_def]; split <;> split <;> omega
  simp [execOp,resolve,invoke,builtin,hs.ev hy,hs.ev hz,Builtin.min_,Builtin.min2,this]) k
theorem MD {y z:Operand}{tys:Array TypeId}{kk:IntKind}{m n:Int} (hg:gd ops L ⟨some d,.call ⟨.builtin .max,#[y,z],tys⟩,ty,pos,aft,g⟩=some true) (hN:Nat.blt d x.N=true)
  (hy:ev L y=some (.int kk m)) (hz:ev L z=some (.int kk n)) (k:W x ops Q rest H M ((d,.int kk (max m n))::L)):
  W x ops Q (⟨some d,.call ⟨.builtin .max,#[y,z],tys⟩,ty,pos,aft,g⟩::rest) H M L:=
 fG rfl hg hN (λc w hs ht=>by
  have:(if n > m then n else m)=max m n:=by rw [Int.max_def]; split <;> split <;> omega
  simp [execOp,resolve,invoke,builtin,hs.ev hy,hs.ev hz,Builtin.max_,Builtin.max2,this]) k
theorem Dy {t e:TypeId}{y:Operand}{a:Option Addr}{m n:Nat} (hg:gd ops L ⟨some d,.call ⟨.builtin .len,#[y],#[t]⟩,ty,pos,aft,g⟩=some true) (hN:Nat.blt d x.N=true)
  (hT:∀ w,(underlying t).run x.P w=.ok (.slice e) w) (hy:ev L y=some (.slice a n m)) (k:W x ops Q rest H M ((d,.int .i64 n)::L)):
  W x ops Q (⟨some d,.call ⟨.builtin .len,#[y],#[t]⟩,ty,pos,aft,g⟩::rest) H M L:=
 fG rfl hg hN (λc w hs ht=>by
  simp [execOp,resolve,invoke,builtin,hs.ev hy,Builtin.len_,hT,goInt]) k
theorem kP {t:TypeId}{y:Operand}{s:Qi} (hg:gd ops L ⟨some d,.call ⟨.builtin .len,#[y],#[t]⟩,ty,pos,aft,g⟩=some true) (hN:Nat.blt d x.N=true)
  (hT:∀ w,(underlying t).run x.P w=.ok .string w) (hy:ev L y=some (.string s)) (k:W x ops Q rest H M ((d,.int .i64 s.size)::L)):
  W x ops Q (⟨some d,.call ⟨.builtin .len,#[y],#[t]⟩,ty,pos,aft,g⟩::rest) H M L:=
 fG rfl hg hN (λc w hs ht=>by
  simp [execOp,resolve,invoke,builtin,hs.ev hy,Builtin.len_,hT,goInt]) k
theorem Jj {t e:TypeId}{sz:Nat}{y z:Operand}{ad:Addr}{n m:Nat}{kk:IntKind}{i:Int} (hg:gd ops L ⟨some d,.indexAddr t y z,ty,pos,aft,g⟩=some true) (hN:Nat.blt d x.N=true)
  (hT:∀ w,(underlying t).run x.P w=.ok (.slice e) w) (hs:∀ w,(sizeOf e).run x.P w=.ok sz w)
  (hy:ev L y=some (.slice (some ad) n m)) (hz:ev L z=some (.int kk i)) (h0:0<=i) (h1:i.toNat<n)
  (k:W x ops Q rest H M ((d,.pointer (some (ad.add (i.toNat*sz))))::L)):
  W x ops Q (⟨some d,.indexAddr t y z,ty,pos,aft,g⟩::rest) H M L:=
 fG rfl hg hN (λc w hsl ht=>by
  have h1':i<(n:Int):=by omega
  simp [execOp,hsl.ev hy,hsl.ev hz,Instr.indexAt,asIntOf,hT,hs,h0,h1']) k
end
class aH (α:Type) where
 sz:Nat
 E:Hp->List Qj->α->Prop
 len:∀ {H cs x},E H cs x->cs.length=sz
 mono:∀ {H H' cs x},H.le H'->E H cs x->E H' cs x
 one:∀ {H cs x},E H cs x->∀ c ∈ cs,c.oneCell'=true
instance:aH Int where
 sz:=1
 E _ cs n:=cs=[.int .i64 n]
 len h:=by rw [h]; rfl
 mono _ h:=h
 one h c hc:=by rw [h] at hc; simp at hc; subst hc; rfl
instance:aH Bool where
 sz:=1
 E _ cs b:=cs=[.bool b]
 len h:=by rw [h]; rfl
 mono _ h:=h
 one h c hc:=by rw [h] at hc; simp at hc; subst hc; rfl
instance:aH Qi where
 sz:=1
 E _ cs s:=cs=[.string s]
 len h:=by rw [h]; rfl
 mono _ h:=h
 one h c hc:=by rw [h] at hc; simp at hc; subst hc; rfl
instance:aH UInt8 where
 sz:=1
 E _ cs n:=cs=[.int .u8 n.toNat]
 len h:=by rw [h]; rfl
 mono _ h:=h
 one h c hc:=by rw [h] at hc; simp at hc; subst hc; rfl
instance:aH UInt32 where
 sz:=1
 E _ cs n:=cs=[.int .u32 n.toNat]
 len h:=by rw [h]; rfl
 mono _ h:=h
 one h c hc:=by rw [h] at hc; simp at hc; subst hc; rfl
instance:aH UInt64 where
 sz:=1
 E _ cs n:=cs=[.int .u64 n.toNat]
 len h:=by rw [h]; rfl
 mono _ h:=h
 one h c hc:=by rw [h] at hc; simp at hc; subst hc; rfl
def aQ {α:Type}[aH α] (H:Hp) (v:Qj) (xs:List α):Prop:=
 ((∃ a,v=.slice a 0 0)/\xs=[]) \/
 ∃ b off cap arr T fz,v=.slice (some ⟨b,off,none⟩) xs.length cap/\xs.length<=cap/\cap<=maxLen/\H b=some (.cells arr T fz)/\off+cap*aH.sz α<=arr.size /\
  ∀ k e,xs[k]? = some e->∃ cs,aH.E H cs e/\∀ j c,cs[j]? = some c->arr[off+k*aH.sz α+j]? = some c
theorem aQ.mono {α:Type}[aH α] {H H':Hp}{v:Qj}{xs:List α} (hle:H.le H') (h:aQ H v xs):aQ H' v xs:=by
 rcases h with h | ⟨b,off,cap,arr,T,fz,h1,h2,h3,h4,h5,h6⟩
 ·exact .inl h
 ·exact .inr ⟨b,off,cap,arr,T,fz,h1,h2,h3,hle _ _ h4,h5,λk e he=>let ⟨cs,a,b⟩:=h6 k e he; ⟨cs,aH.mono hle a,b⟩⟩
instance {α:Type}[aH α]:aH (List α) where
 sz:=1
 E H cs xs:=∃ v,cs=[v]/\aQ H v xs
 len h:=by obtain ⟨v,rfl,_⟩:=h; rfl
 mono hle h:=by obtain ⟨v,e,hv⟩:=h; exact ⟨v,e,hv.mono hle⟩
 one h c hc:=by
  obtain ⟨v,rfl,hv⟩:=h;simp at hc; subst hc
  rcases hv with ⟨⟨a,rfl⟩,_⟩ | ⟨b,off,cap,arr,T,fz,rfl,_⟩ <;> rfl
def Value.base:Qj->Addr
 | .slice (some a) _ _=>a
 | _=>⟨0,0,none⟩
def Value.oz:Qj->Nat
 | .slice _ _ c=>c
 | _=>0
theorem aQ.len {α:Type}[aH α] {H:Hp}{v:Qj}{xs:List α} (h:aQ H v xs):∃ a c,v=.slice a xs.length c/\xs.length<=c/\c<=maxLen:=by
 rcases h with ⟨⟨a,rfl⟩,rfl⟩ | ⟨b,off,cap,arr,T,fz,rfl,h2,h3,_⟩
 ·exact ⟨a,0,rfl,QI _,by unfold maxLen; omega⟩
 ·exact ⟨_,cap,rfl,h2,h3⟩
theorem aQ.val {α:Type}[aH α] {H:Hp}{v:Qj}{xs:List α} (h:aQ H v xs) {k:Nat}{e:α} (he:xs[k]? = some e):v=.slice (some (Value.base v)) xs.length (Value.oz v):=by
 rcases h with ⟨⟨a,rfl⟩,rfl⟩ | ⟨b,off,cap,arr,T,fz,rfl,_⟩
 ·simp at he
 ·rfl
theorem aQ.elem {α:Type}[aH α] {H:Hp}{v:Qj}{xs:List α} (h:aQ H v xs) {k:Nat}{e:α} (he:xs[k]? = some e):
  ∃ cs,aH.E H cs e/\i_ H ((Value.base v).add (k*aH.sz α)) cs:=by
 rcases h with ⟨⟨a,rfl⟩,rfl⟩ | ⟨b,off,cap,arr,T,fz,rfl,h2,h3,h4,h5,h6⟩
 ·simp at he
 ·obtain ⟨cs,h7,h8⟩:=h6 k e he
  refine ⟨cs,h7,λj c hc=>⟨arr,T,fz,?_,?_,?_⟩⟩
  ·simp only [Value.base,Ru]; exact h4
  ·simp only [Value.base,Ru]
  ·simp only [Value.base,Ru]; exact h8 j c hc
section
variable {x:Cx}{ops:Array Oper}{Q:lZ}{rest:List Oper}{H:Hp}{M M':List bQ}{L L':Env}
variable {d:Nat}{ty:TypeId}{pos:String}{aft:Array Edge}{g:Option (Nat×Bool)}
theorem EF {α:Type}[aH α] {t e:TypeId}{y z:Operand}{v:Qj}{xs:List α}{el:α}{kk:IntKind}{i:Int} (hg:gd ops L ⟨some d,.indexAddr t y z,ty,pos,aft,g⟩=some true) (hN:Nat.blt d x.N=true)
  (hT:∀ w,(underlying t).run x.P w=.ok (.slice e) w) (hs:∀ w,(sizeOf e).run x.P w=.ok (aH.sz α) w)
  (hy:ev L y=some v) (hR:aQ H v xs) (hz:ev L z=some (.int kk i)) (h0:0<=i) (he:xs[i.toNat]? = some el)
  (k:W x ops Q rest H M ((d,.pointer (some ((Value.base v).add (i.toNat*aH.sz α))))::L)):
  W x ops Q (⟨some d,.indexAddr t y z,ty,pos,aft,g⟩::rest) H M L:=
 Jj hg hN hT hs (by rw [hy,<- hR.val he]) hz h0 (by rcases Qo.1 he with ⟨h,_⟩; exact h) k
theorem Jl {α:Type}[aH α] {t e:TypeId}{y:Operand}{v:Qj}{xs:List α} (hg:gd ops L ⟨some d,.call ⟨.builtin .len,#[y],#[t]⟩,ty,pos,aft,g⟩=some true) (hN:Nat.blt d x.N=true)
  (hT:∀ w,(underlying t).run x.P w=.ok (.slice e) w) (hy:ev L y=some v) (hR:aQ H v xs) (k:W x ops Q rest H M ((d,.int .i64 xs.length)::L)):
  W x ops Q (⟨some d,.call ⟨.builtin .len,#[y],#[t]⟩,ty,pos,aft,g⟩::rest) H M L:=by
 obtain ⟨a,c,rfl,_⟩:=hR.len;exact Dy hg hN hT hy k
end
def over (l:List Qj) (k:Nat):List Qj->List Qj
 | []=>l
 | v::vs=>over (l.set k v) (k+1) vs
theorem pU (vs:List Qj):∀ (l:List Qj) (k:Nat),(over l k vs).length=l.length:=by
 induction vs with
 | nil=>intro l k; rfl
 | cons v vs ih=>intro l k; simp [over,ih]
theorem kY {P:Program} (b o:Nat) (T:TypeId):∀ (vs:List Qj) (i:Nat) (l:List Qj) (w:World),w.heap[b]? = some (.cells l.toArray T (0,0)) ->
  o+i+vs.length<=l.length->(∀ v ∈ vs,v.oneCell'=true) ->
  ∃ w',(storeCells ⟨b,o,none⟩ vs i).run P w=.ok () w'/\w'.heap[b]? = some (.cells (over l (o+i) vs).toArray T (0,0))/\w.grownBy w' (some b)
 | [],i,l,w,h,_,_=>⟨w,rfl,h,⟨rfl,rfl,rfl,QI _,λ_ _ _=>rfl⟩⟩
 | v::vs,i,l,w,h,hb,h1=>by
  have hlt:o+i<l.length:=by simp at hb; omega
  have hc:w.cell? ⟨b,o+i,none⟩=some l[o+i]:=Vg (w:=w) (ad:=⟨b,o+i,none⟩) h rfl (by simp [hlt])
  have hf:w.frozen? ⟨b,o+i,none⟩=false:=by simp [World.frozen?,h]
  have h':(w.setCell ⟨b,o+i,none⟩ v).heap[b]? = some (.cells (l.set (o+i) v).toArray T (0,0)):=by
   simp [World.setCell,Va,h]
  obtain ⟨w',hr,hh,hg⟩:=kY (P:=P) b o T vs (i+1) (l.set (o+i) v) (w.setCell ⟨b,o+i,none⟩ v) h' (by simp at hb ⊢; omega) (λu hu=>h1 u (Qw _ hu))
  refine ⟨w',?_,?_,?_⟩
  ·have hv:=h1 v (Qq ..)
   simp only [storeCells,QA,store,Ru];have:(Sem.store Mode.plain ⟨b,o+i,none⟩ v (Sem.pure ())).run P w=.ok () (w.setCell ⟨b,o+i,none⟩ v):=by
    cases v <;> first
     | (simp [Sem.run,hc,hf]; done)
     | simp [Value.oneCell'] at hv
   rw [this];simpa using hr
  ·simpa [over,SS] using hh
  ·exact ⟨hg.os,hg.tape,hg.output,by have:=hg.size; simpa [World.setCell] using this,λk hk hne=>by
    rw [hg.block k (by simpa [World.setCell] using hk) hne]
    exact Below.heap_setCell _ _ _ _ (by intro e; subst e; exact hne rfl)⟩
section
variable {x:Cx}{ops:Array Oper}{Q:lZ}{rest:List Oper}{H:Hp}{M M':List bQ}{L L':Env}
variable {ty:TypeId}{pos:String}{aft:Array Edge}{g:Option (Nat×Bool)}
theorem DB {T E:TypeId}{n:Nat}{y z:Operand}{b o:Nat}{l cs out:List Qj}{v:Qj} (hg:gd ops L ⟨none,.store T y z,ty,pos,aft,g⟩=some true)
  (hn:∀ w,(sizeOf T).run x.P w=.ok n w) (hy:ev L y=some (.pointer (some ⟨b,o,none⟩))) (hz:ev L z=some v) (hv:v.cells=cs.toArray) (hl:cs.length=n)
  (hb:Nat.ble (o+cs.length) l.length=true) (h1:∀ c ∈ cs,c.oneCell'=true) (ho:over l o cs=out)
  (k:W x ops Q rest H (.obj b (.cells out.toArray E (0,0))::M) L):
  W x ops Q (⟨none,.store T y z,ty,pos,aft,g⟩::rest) H (.obj b (.cells l.toArray E (0,0))::M) L:=
 DA rfl hg (λa w hs ht=>by
  subst ho;have hob:=ht.vS (Qq ..);obtain ⟨w',hr,hh,hgr⟩:=kY (P:=x.P) b o E cs 0 l w hob (by simpa [Tb] using hb) h1
  refine ⟨w',?_,H,_,ht.Eu (r':=.obj b (.cells (over l o cs).toArray E (0,0))) hgr hh (λc hc=>.inl hc),k⟩;simp [execOp,hs.ev hy,hs.ev hz,Instr.storeAt,Instr.sureAddr,storeVar,hn,hl,hv,hr])
end
theorem least {p:Nat->Prop}:∀ n,p n->∃ m,p m/\∀ k,p k->m<=k:=by
 intro n
 induction n using Nat.strongRecOn with
 | _ n ih=>
  intro h
  by_cases hh:∃ m,m<n/\p m
  ·obtain ⟨m,hm,hp⟩:=hh; exact ih m hm hp
  ·exact ⟨n,h,λk hk=>by
    by_cases e:k<n
    ·exact absurd ⟨k,e,hk⟩ hh
    ·omega⟩
theorem KZ {P:Program}{Q:lZ}{c:Code} (J:Nat->Act->World->Prop) {n:Nat}{a:Act}{w:World} (h0:J n a w)
  (round:∀ n a w,J n a w->c.wp P (Exit.then (λa' w'=>∃ m,m<n/\J m a' w') Q) a w):(Code.loop c).wp P Q a w:=by
 have hex:∀ a w,(∃ n,J n a w)->∃ m,J m a w/\∀ k,J k a w->m<=k:=λa w ⟨n,h⟩=>least n h
 let μ:Act->World->Nat:=λa w=>Classical.epsilon (λm=>J m a w/\∀ k,J k a w->m<=k)
 have hμ:∀ a w,(∃ n,J n a w)->J (μ a w) a w/\∀ k,J k a w->μ a w<=k:=λa w h=>Classical.epsilon_spec (p:=λm=>J m a w/\∀ k,J k a w->m<=k) (hex a w h);refine wp_loop (λa w=>∃ n,J n a w) μ ⟨n,h0⟩ λa w h=>?_;refine wp_mono (round (μ a w) a w (hμ a w h).1) ?_;intro e a' w' hq;cases e with
 | normal=>
  obtain ⟨m,hm,hJ⟩:=hq;exact ⟨⟨m,hJ⟩,Tu ((hμ a' w' ⟨m,hJ⟩).2 m hJ) hm⟩
 | _=>exact hq
abbrev CW:=Nat->Hp->List bQ->Env->Prop
def I1 (x:Cx) (S:CW) (n:Nat) (a:Act) (w:World):Prop:=
 ∃ m,m<n/\∃ H M L,S m H M L/\Sl x.N L a/\St x.B x.w0 H M w
theorem Bc {x:Cx}{c:Code}{Q:lZ}{H:Hp}{M:List bQ}{L:Env} (S:CW) (n:Nat) (h0:S n H M L)
  (step:∀ n H M L,S n H M L->C x c (Exit.then (I1 x S n) Q) H M L):C x (.loop c) Q H M L:=by
 intro a w hs ht;refine KZ (λn a w=>∃ H M L,S n H M L/\Sl x.N L a/\St x.B x.w0 H M w) ⟨H,M,L,h0,hs,ht⟩ ?_;intro n a w ⟨H,M,L,h,hs,ht⟩;exact step n H M L h a w hs ht
theorem vI {x:Cx}{S:CW}{Q:lZ}{H:Hp}{M:List bQ}{L:Env}{n m:Nat} (hm:m<n) (h:S m H M L):E x .normal (Exit.then (I1 x S n) Q) H M L:=
 λ_ _ hs ht=>⟨m,hm,H,M,L,h,hs,ht⟩
section
variable {x:Cx}{Q:lZ}{H:Hp}{M:List bQ}{L:Env}{K:Act->World->Prop}
theorem jQ (h:E x .ret Q H M L):E x .ret (Exit.then K Q) H M L:=h
theorem tL {id:Nat} (h:E x .ret Q H M L):E x .ret (Exit.inBlock id Q) H M L:=h
theorem gY {id:Nat} (h:E x (.exit id) Q H M L):E x (.exit id) (Exit.then K Q) H M L:=h
theorem nW {id:Nat} (h:E x .normal Q H M L):E x (.exit id) (Exit.inBlock id Q) H M L:=λa w hs ht=>by
 simp only [Exit.inBlock,Uh]; exact h a w hs ht
theorem tK {id id':Nat} (hne:Nat.beq id id'=false) (h:E x (.exit id) Q H M L):E x (.exit id) (Exit.inBlock id' Q) H M L:=λa w hs ht=>by
 have:¬ id=id':=λe=>by subst e; simp at hne
 simp only [Exit.inBlock,Qs this]; exact h a w hs ht
theorem mE {id:Nat} (h:E x .normal Q H M L):E x .normal (Exit.inBlock id Q) H M L:=h
end
abbrev N9:=Hp->List bQ->Env->Prop
theorem r9 {x:Cx}{c d:Code}{Q:lZ}{H:Hp}{M:List bQ}{L:Env} (S:N9) (rest:∀ H M L,S H M L->C x d Q H M L)
  (k:(∀ H M L,S H M L->E x .normal (Exit.then (d.wp x.P Q) Q) H M L)->C x c (Exit.then (d.wp x.P Q) Q) H M L):C x (.seq c d) Q H M L:=
 bL (k λH M L h=>aS (rest H M L h))
theorem fL {α:Type}{xs ys:List α}{k:Nat} (h:xs.drop k=ys) (hb:decide ((k:Int)<(xs.length:Int))=true):
  ∃ y zs,ys=y::zs/\xs[k]? = some y/\xs.drop (k+1)=zs:=by
 have hk:k<xs.length:=by have:=Qr hb; omega
 refine ⟨xs[k],xs.drop (k+1),?_,Ql hk,rfl⟩;rw [<- h,QV hk]
theorem fK {α:Type}{xs ys:List α}{k:Nat} (h:xs.drop k=ys) (hb:decide ((k:Int)<(xs.length:Int))=false):ys=[]:=by
 have hk:xs.length<=k:=by have:=QB hb; omega
 rw [<- h,List.drop_eq_nil_of_le hk]
theorem xB {n:Int} (h0:-9223372036854775808<=n) (h1:n<=9223372036854775807):i64.wrap n=n:=by
 simp only [IntKind.wrap,IntKind.bits,IntKind.signed,Bool.true_and]
 split <;> rename_i h <;> simp at h <;> omega
theorem b_ {α:Type}{xs:List α}{k:Nat}{y:α} (h:xs[k]? = some y) (hl:xs.length<=maxLen):i64.wrap ((k:Int)+1)=((k+1:Nat):Int):=by
 have hk:=(Qo.1 h).1;unfold maxLen at hl;rw [xB (by omega) (by omega)]; rfl
theorem eS {k n:Nat} (h:k<n) (hl:n<=maxLen):i64.wrap ((k:Int)+1)=((k+1:Nat):Int):=by
 unfold maxLen at hl;rw [xB (by omega) (by omega)]; rfl
theorem aQ.cQ {α:Type}[aH α] {H:Hp}{v:Qj}{xs:List α} (h:aQ H v xs):xs.length<=maxLen:=by
 obtain ⟨a,c,_,h1,h2⟩:=h.len; omega
def C6:Nat->List Qj->Env
 | _,[]=>[]
 | i,v::vs=>(i,v)::C6 (i+1) vs
theorem Ii (N:Nat):∀ (vs:List Qj) (i:Nat) (t:Nat) (v:Qj) (pre:List Qj),pre.length=i->lk (C6 i vs) t=some v ->
  ((pre++vs).toArray++Array.replicate (N-(pre++vs).length) undef)[t]? = some v:=by
 intro vs
 induction vs with
 | nil=>intro i t v pre _ h; simp [C6,lk] at h
 | cons u vs ih=>
  intro i t v pre hp h;simp only [C6,tH] at h
  split at h
  ·rename_i e; subst e; cases h
   simp [Array.getElem?_append,<- hp]
  ·have:=ih (i+1) t v (pre++[u]) (by simp [hp]) h
   simpa using this
theorem enter {P:Program}{f:FuncId}{fn:Func}{c:Code}{vs:List Qj}{N B:Nat}{w0 w:World}{H:Hp}{M:List bQ}{Φ:Hp->List bQ->Qj->Prop}
  (hf:P.funcs[f]? = some fn) (hb:fn.body=some c) (hN:fn.ntmps=N) (hle:Nat.ble vs.length N=true) (ht:St B w0 H M w)
  (k:C ⟨P,N,B,w0⟩ c (bodyPost P fn (ur B w0 Φ)) H M (C6 0 vs)):Calls P f vs.toArray w (ur B w0 Φ):=by
 refine calls_of_wp hf hb (k _ w ⟨?_,rfl,?_⟩ ht)
 ·have:vs.length<=N:=by simpa [Tb] using hle
  simp [hN]; omega
 ·intro t v h
  have:=Ii N vs 0 t v [] rfl h;simpa [hN] using this
section
variable {P:Program}{N B:Nat}{w0:World}{fn:Func}{Φ:Hp->List bQ->Qj->Prop}{H:Hp}{M:List bQ}{L:Env}
theorem l7 {t:Nat}{v:Qj} (hr:fn.results=#[.tmp t]) (hl:lk L t=some v) (h:Φ H M v):E ⟨P,N,B,w0⟩ .ret (bodyPost P fn (ur B w0 Φ)) H M L:=
 λa w hs ht=>⟨hs.EU,v,by rw [results_tmp hr]; simp [Q_,hs.get t v hl],H,M,ht,h⟩
theorem CM {t u:Nat}{v1 v2:Qj} (hr:fn.results=#[.tmp t,.tmp u]) (hl:lk L t=some v1) (hl2:lk L u=some v2) (h:Φ H M (.tuple #[v1,v2])):E ⟨P,N,B,w0⟩ .ret (bodyPost P fn (ur B w0 Φ)) H M L:=
 λa w hs ht=>⟨hs.EU,.tuple #[v1,v2],by rw [results_tmp2 hr]; simp [Q_,hs.get t v1 hl,hs.get u v2 hl2],H,M,ht,h⟩
end
section
variable {α σ R:Type}
def idx (l:List α) (i:Int) (k:α->Option R):Option R:=
 if 0<=i then match l[i.toNat]? with
  | some y=>k y
  | none=>none
 else none
theorem aB {l:List α}{i:Int}{k:α->Option R}{r:R} (h:idx l i k=some r):∃ y,0<=i/\l[i.toNat]? = some y/\k y=some r:=by
 unfold idx at h
 split at h
 ·cases hl:l[i.toNat]? with
  | none=>rw [hl] at h; cases h
  | some y=>rw [hl] at h; exact ⟨y,‹_›,rfl,h⟩
 ·cases h
def cZ (p:Prop) [Decidable p] (k:Option R):Option R:=if p then k else none
theorem aK {p:Prop}[Decidable p] {k:Option R}{r:R} (h:cZ p k=some r):p/\k=some r:=by
 unfold cZ at h
 split at h
 ·exact ⟨‹_›,h⟩
 ·cases h
theorem aU {o:Option α}{k:α->Option R}{r:R} (h:o.bind k=some r):∃ y,o=some y/\k y=some r:=by
 cases o with
 | none=>cases h
 | some y=>exact ⟨y,rfl,h⟩
def dI (body:Nat->α->σ->(σ->Option R)->Option R) (k:σ->Option R):Nat->List α->σ->Option R
 | _,[],s=>k s
 | i,y::ys,s=>body i y s (dI body k (i+1) ys)
def kL (body:Nat->σ->(σ->Option R)->Option R) (k:σ->Option R):Nat->Nat->σ->Option R
 | 0,_,s=>k s
 | n+1,i,s=>body i s (kL body k n (i+1))
def iN (body:σ->(σ->Option R)->Option R):Nat->σ->Option R
 | 0,_=>none
 | n+1,s=>body s (iN body n)
def fY:Nat:=1152921504606846976
end
theorem Ag (X Y:Env) (t:Nat):lk (X++Y) t=(lk X t).or (lk Y t):=by
 induction X with
 | nil=>simp [lk]
 | cons p X ih=>
  obtain ⟨u,v⟩:=p;simp only [SL,tH]
  split <;> simp [ih]
theorem Gk {X:Env}{t:Nat}{v:Qj} (h:lk X t=some v):(t,v) ∈ X:=by
 induction X with
 | nil=>simp [lk] at h
 | cons p X ih=>
  obtain ⟨u,w⟩:=p;rw [tH] at h
  split at h
  ·rename_i e; subst e; cases h; exact Qq ..
  ·exact Qw _ (ih h)
theorem Sl.more {N:Nat}{L X:Env}{a:Act} (h:Sl N L a) (hX:∀ t v,(t,v) ∈ X->a.tmps[t]? = some v):Sl N (L++X) a:=
 ⟨h.size,h.EU,λt v ht=>by
  rw [Ag] at ht;cases hl:lk L t with
  | some u=>rw [hl] at ht; simp at ht; subst ht; exact h.get t _ hl
  | none=>rw [hl] at ht; simp at ht; exact hX t v (Gk ht)⟩
theorem Sl.cons {N:Nat}{L:Env}{a:Act}{t:Nat}{v:Qj} (h:Sl N L a) (hv:a.tmps[t]? = some v):Sl N ((t,v)::L) a:=
 ⟨h.size,h.EU,λu w hu=>by
  rw [tH] at hu
  split at hu
  ·rename_i e; subst e; cases hu; exact hv
  ·exact h.get u w hu⟩
theorem Sl.left {N:Nat}{L X:Env}{a:Act} (h:Sl N (L++X) a):Sl N L a:=
 ⟨h.size,h.EU,λt v ht=>h.get t v (by rw [Ag,ht]; rfl)⟩
def jL (o:Oper):List Nat:=(o.after.toList.filter λe=>Region.binds .any e).map (·.on)
def K7 (l:List Oper) (Φ:Nat->Hp->Qj->Prop) (H:Hp):List Nat->Env->(Env->Prop)->Prop
 | [],L,k=>k L
 | j::js,L,k=>match (l[j]?).bind (·.dst) with
  | some t=>∀ v,Φ j H v->K7 l Φ H js ((t,v)::L) k
  | none=>K7 l Φ H js L k
def One (x:Cx) (H:Hp) (M:List bQ) (L:Env) (t:Nat) (φ:Hp->Qj->Prop):lZ:=λe a w=>
 e=.normal/\∃ v H',Sl x.N ((t,v)::L) a/\H.le H'/\St x.B x.w0 H' M w/\φ H' v
def K8 (x:Cx) (l:List Oper) (Φ:Nat->Hp->Qj->Prop) (H:Hp) (M:List bQ) (L:Env):Nat->List Oper->Prop
 | _,[]=>True
 | i,o::r=>(∀ H',H.le H'->∀ X,K7 l Φ H' (jL o) (L++X) (λL'=>W x l.toArray (One x H' M L' (o.dst.getD 0) (Φ i)) [o] H' M L'))/\K8 x l Φ H M L (i+1) r
theorem K8.at {x:Cx}{l:List Oper}{Φ:Nat->Hp->Qj->Prop}{H:Hp}{M:List bQ}{L:Env}:∀ {r:List Oper}{i:Nat},K8 x l Φ H M L i r->∀ j o,r[j]? = some o ->
  ∀ H',H.le H'->∀ X,K7 l Φ H' (jL o) (L++X) (λL'=>W x l.toArray (One x H' M L' (o.dst.getD 0) (Φ (i+j))) [o] H' M L')
 | [],_,_,j,o,h=>by simp at h
 | p::r,i,hh,0,o,h=>by simp at h; subst h; exact hh.1
 | p::r,i,hh,j+1,o,h=>by
  have:=K8.at hh.2 j o (by simpa using h)
  rwa [show i+1+j=i+(j+1) from by omega] at this
theorem K7.use {l:List Oper}{Φ:Nat->Hp->Qj->Prop}{H:Hp}{a:Act}{N:Nat}:∀ {js:List Nat}{L:Env}{k:Env->Prop},K7 l Φ H js L k->Sl N L a ->
  (∀ j ∈ js,∀ t,(l[j]?).bind (·.dst)=some t->∃ v,a.tmps[t]? = some v/\Φ j H v)->∃ Y,k (Y++L)/\Sl N (Y++L) a/\∀ t v,(t,v) ∈ Y->a.tmps[t]? = some v
 | [],L,k,h,hs,_=>⟨[],h,hs,by simp⟩
 | j::js,L,k,h,hs,hv=>by
  unfold K7 at h;cases hd:(l[j]?).bind (·.dst) with
  | none=>
   rw [hd] at h;exact K7.use h hs (λi hi=>hv i (Qw _ hi))
  | some t=>
   rw [hd] at h;obtain ⟨v,h1,h2⟩:=hv j (Qq ..) t hd;obtain ⟨Y,h3,h4,h5⟩:=K7.use (h v h2) (hs.cons h1) (λi hi=>hv i (Qw _ hi));refine ⟨Y++[(t,v)],by simpa using h3,by simpa using h4,?_⟩
   intro u w hm;rcases QC.1 hm with hm | hm
   ·exact h5 u w hm
   ·simp at hm; obtain ⟨rfl,rfl⟩:=hm; exact h1
theorem mem_ready {ops:Array Oper}{listed:Array Bool}{i:Nat}:i ∈ Region.ready .any ops listed↔i<ops.size/\listed.getD i true=false/\∃ o,ops[i]? = some o/\∀ j ∈ jL o,listed.getD j false=true:=by
 unfold Region.ready jL;simp only [Rn,Rf,R6,Bool.not_eq_true'];refine and_congr_right λhi=>and_congr_right λ_=>?_;have:ops[i]? = some ops[i]:=Tg hi;simp only [this,RR,Sp,Array.all_eq_true',QH,Ra,Rn,Array.mem_toList_iff,RZ,Bool.not_eq_true'];constructor
 ·intro h
  refine ⟨_,rfl,?_⟩;rintro j ⟨e,⟨he,hb⟩,rfl⟩;rcases h e he with h | h
  ·rw [h] at hb; cases hb
  ·exact h
 ·rintro ⟨o,rfl,h⟩ e he
  cases hb:Region.binds .any e with
  | false=>exact .inl rfl
  | true=>exact .inr (h _ ⟨e,⟨he,hb⟩,rfl⟩)
section
variable {x:Cx}{l:List Oper}{m:Nat}{Φ:Nat->Hp->Qj->Prop}{H:Hp}{M:List bQ}{L:Env}{Q:lZ}
theorem uU (b:Array Bool) (i j:Nat) (d:Bool) (hi:i<b.size):(b.setIfInBounds i true).getD j d=if j=i then true else b.getD j d:=by
 simp only [Q_,T6]
 by_cases e:i=j
 ·subst e; simp [hi]
 ·simp [e,Ne.symm e]
def left (l:List Oper) (listed:Array Bool):Nat:=(List.range l.length).countP λi=>!listed.getD i true
theorem Kf {listed:Array Bool}{i:Nat} (hsz:listed.size=l.length) (hi:i<l.length) (hl:listed.getD i true=false):left l (listed.setIfInBounds i true)+1=left l listed:=by
 unfold left;have key:∀ n,i<n->n<=l.length->(List.range n).countP (λj=>!(listed.setIfInBounds i true).getD j true)+1=(List.range n).countP (λj=>!listed.getD j true):=by
  intro n
  induction n with
  | zero=>omega
  | succ n ih=>
   intro h1 h2;rw [TS,List.countP_append,List.countP_append]
   by_cases e:i=n
   ·subst e
    have:∀ n,n<=i->(List.range n).countP (λj=>!(listed.setIfInBounds i true).getD j true)=(List.range n).countP (λj=>!listed.getD j true):=by
     intro n hn;refine List.countP_congr λj hj=>?_;have hj':=Rf.1 hj;rw [uU _ _ _ _ (by omega),Qs (by omega)]
    rw [this i (QI _)];simp only [List.countP_cons,List.countP_nil,uU _ _ _ _ (by omega:i<listed.size),hl,Uh]
    simp
   ·have:=ih (by omega) (by omega)
    have h3:(listed.setIfInBounds i true).getD n true=listed.getD n true:=by rw [uU _ _ _ _ (by omega),Qs (by omega)]
    simp only [List.countP_cons,List.countP_nil,h3];omega
 exact key l.length hi (QI _)
end
structure U8 where
 n:Int
 deriving DecidableEq
structure O2 where
 n:Int
 deriving DecidableEq
structure bU where
 n:Int
 deriving DecidableEq
structure Du where
 n:Int
 deriving DecidableEq
structure O0 where
 n:Int
 deriving DecidableEq
instance:aH U8 where
 sz:=1
 E _ cs x:=cs=[.int .u8 x.n]
 len h:=by rw [h]; rfl
 mono _ h:=h
 one h c hc:=by rw [h] at hc; simp at hc; subst hc; rfl
instance:aH O2 where
 sz:=1
 E _ cs x:=cs=[.int .u16 x.n]
 len h:=by rw [h]; rfl
 mono _ h:=h
 one h c hc:=by rw [h] at hc; simp at hc; subst hc; rfl
instance:aH bU where
 sz:=1
 E _ cs x:=cs=[.int .u32 x.n]
 len h:=by rw [h]; rfl
 mono _ h:=h
 one h c hc:=by rw [h] at hc; simp at hc; subst hc; rfl
instance:aH Du where
 sz:=1
 E _ cs x:=cs=[.int .u64 x.n]
 len h:=by rw [h]; rfl
 mono _ h:=h
 one h c hc:=by rw [h] at hc; simp at hc; subst hc; rfl
instance:aH O0 where
 sz:=1
 E _ cs x:=cs=[.int .i32 x.n]
 len h:=by rw [h]; rfl
 mono _ h:=h
 one h c hc:=by rw [h] at hc; simp at hc; subst hc; rfl
theorem aQ.nil {α:Type}[aH α] {H:Hp}:aQ H (.slice none 0 0) ([]:List α):=.inl ⟨⟨_,rfl⟩,rfl⟩
theorem aQ.cells {α:Type}[aH α] {H:Hp}{v:Qj}{xs:List α} (h:aQ H v xs):v.cells=[v].toArray:=by
 obtain ⟨a,c,rfl,_⟩:=h.len; rfl
theorem aQ.pw {α:Type}[aH α] {H:Hp}{v:Qj}{xs:List α} (h:aQ H v xs):v.oneCell'=true:=by
 obtain ⟨a,c,rfl,_⟩:=h.len; rfl
theorem Sb:∀ c ∈ ([]:List Qj),c.oneCell'=true:=by intro c hc; cases hc
theorem cO {v:Qj}{l:List Qj} (h:v.oneCell'=true) (k:∀ c ∈ l,c.oneCell'=true):∀ c ∈ v::l,c.oneCell'=true:=by
 intro c hc;rcases Q8.1 hc with rfl | hc
 ·exact h
 ·exact k c hc
theorem i_.one {H:Hp}{ad:Addr}{cs:List Qj} (h:i_ H ad cs) (j:Nat) {c:Qj} (hc:cs[j]? = some c):Bg H (ad.add j) c:=h j c hc
theorem i_.part {H:Hp}{ad:Addr}{cs ds:List Qj}{k:Nat} (h:i_ H ad cs) (hd:(cs.drop k).take ds.length=ds):i_ H (ad.add k) ds:=by
 intro j c hc;have hj:j<ds.length:=(Qo.1 hc).1;have:cs[k+j]? = some c:=by
  rw [<- hd,Rc,Qu hj,Q7] at hc; exact hc
 have:=h (k+j) c this;have e:(ad.add k).add j=ad.add (k+j):=by
  unfold Addr.add
  by_cases h1:k=0
  ·subst h1; simp
  ·by_cases h2:j=0
   ·subst h2; simp
   ·simp [h1,h2,SS]
 rw [e]; exact this
theorem qB {x:Cx}{H:Hp}{M:List bQ}{b k:Nat}{l ds:List Qj}{T:TypeId}{fz:Nat×Nat}
  (hm:bQ.obj b (.cells l.toArray T fz) ∈ M) (hd:(l.drop k).take ds.length=ds):yX x H M ⟨b,k,none⟩ ds:=by
 intro j c hc;have hj:j<ds.length:=(Qo.1 hc).1;rw [Ru];refine vT hm ?_;rw [<- hd,Rc,Qu hj,Q7] at hc; exact hc
theorem Dr {x:Cx}{e:Exit}{Q:lZ}{H:Hp}{M M':List bQ}{L L':Env} (k:E x e Q H M' L') (hM:M.Perm M') (hL:Kept L L'):E x e Q H M L:=Dq hL hM k
theorem dV {α:Type}{b:Bool}{p q r:α} (hb:b=true) (h:(if b=true then p else q)=r):p=r:=by rw [Qu hb] at h; exact h
theorem dU {α:Type}{b:Bool}{p q r:α} (hb:b=false) (h:(if b=true then p else q)=r):q=r:=by rw [Qs (by simp [hb])] at h; exact h
section
variable {P:Program}{N B:Nat}{w0:World}{fn:Func}{H H0:Hp}{M:List bQ}{L:Env}
end
def qC {α:Type}[aH α] (H:Hp):List Qj->List α->Prop
 | cs,[]=>cs=[]
 | cs,y::ys=>∃ c r,cs=c++r/\aH.E H c y/\qC H r ys
section
variable {α:Type}[aH α] {H H':Hp}
theorem qC.nil:qC H [] ([]:List α):=rfl
theorem qC.cons {c r:List Qj}{y:α}{ys:List α} (h:aH.E H c y) (k:qC H r ys):qC H (c++r) (y::ys):=⟨c,r,rfl,h,k⟩
theorem qC.mono (hle:H.le H'):∀ {cs:List Qj}{ys:List α},qC H cs ys->qC H' cs ys
 | _,[],h=>h
 | _,_::_,⟨c,r,e,h,k⟩=>⟨c,r,e,aH.mono hle h,qC.mono hle k⟩
theorem qC.len:∀ {cs:List Qj}{ys:List α},qC H cs ys->cs.length=ys.length*aH.sz α
 | _,[],h=>by rw [show _=[] from h]; simp
 | _,_::ys,⟨c,r,e,h,k⟩=>by rw [e,QE,aH.len h,qC.len k,Qy,QK]; omega
theorem qC.app:∀ {cs ds:List Qj}{ys zs:List α},qC H cs ys->qC H ds zs->qC H (cs++ds) (ys++zs)
 | _,ds,[],zs,h,k=>by rw [show _=[] from h]; simpa using k
 | _,ds,y::ys,zs,⟨c,r,e,h,k⟩,k2=>⟨c,r++ds,by rw [e,QR],h,qC.app k k2⟩
theorem qC.one:∀ {cs:List Qj}{ys:List α},qC H cs ys->∀ c ∈ cs,c.oneCell'=true
 | _,[],h=>by rw [show _=[] from h]; simp
 | _,_::_,⟨c,r,e,h,k⟩=>by
  intro d hd;rw [e] at hd;rcases QC.1 hd with hd | hd
  ·exact aH.one h d hd
  ·exact qC.one k d hd
theorem qC.get:∀ {cs:List Qj}{ys:List α},qC H cs ys->∀ k e,ys[k]? = some e->∃ c,aH.E H c e/\∀ j v,c[j]? = some v->cs[k*aH.sz α+j]? = some v
 | _,[],h,k,e,he=>by simp at he
 | _,y::ys,⟨c,r,e,h,k⟩,0,x,hx=>by
  simp at hx; subst hx
  exact ⟨c,h,λj v hv=>by rw [e,RW,QL,RA (Qo.1 hv).1]; exact hv⟩
 | _,y::ys,⟨c,r,e,h,k⟩,n+1,x,hx=>by
  obtain ⟨d,h1,h2⟩:=qC.get k n x (by simpa using hx)
  refine ⟨d,h1,λj v hv=>?_⟩;rw [e,QX (by rw [aH.len h,QK]; omega),aH.len h]
  rw [show (n+1)*aH.sz α+j-aH.sz α=n*aH.sz α+j from by rw [QK]; omega]
  exact h2 j v hv
theorem qC.split:∀ {cs:List Qj}{ys:List α} (k:Nat),qC H cs ys->qC H (cs.take (k*aH.sz α)) (ys.take k)/\qC H (cs.drop (k*aH.sz α)) (ys.drop k)
 | cs,ys,0,h=>by rw [RW]; exact ⟨rfl,h⟩
 | _,[],k+1,h=>by rw [show _=[] from h,List.take_nil,List.drop_nil,List.take_nil,List.drop_nil]; exact ⟨rfl,rfl⟩
 | _,y::ys,k+1,⟨c,r,e,h,k2⟩=>by
  obtain ⟨h1,h2⟩:=qC.split k k2;have hl:=aH.len h;subst e;have e1:(k+1)*aH.sz α=c.length+k*aH.sz α:=by rw [QK,hl]; omega
  rw [e1,List.take_length_add_append,List.drop_length_add_append];exact ⟨⟨c,_,rfl,h,h1⟩,h2⟩
theorem qC.put {cs c:List Qj}{ys:List α}{y:α}{k:Nat} (h:qC H cs ys) (hk:k<ys.length) (hy:aH.E H c y):
  qC H (cs.take (k*aH.sz α)++c++cs.drop ((k+1)*aH.sz α)) (ys.set k y):=by
 obtain ⟨h1,_⟩:=h.split k;obtain ⟨_,h2⟩:=h.split (k+1);have:ys.set k y=ys.take k++y::ys.drop (k+1):=by rw [TG,Qu hk]
 rw [this,QR];exact h1.app (qC.cons hy h2)
theorem aQ.flat {v : Qj} {ys : List α} (h : aQ H v ys) : ∃ cs, qC H cs ys ∧ ((∃ a, v = .slice a 0 0) ∧ ys = [] ∨ i_ H (Value.base v) cs ∧ ∃ b off c, v = .slice (some ⟨b, off, none⟩) ys.length c) := by
  rcases h with ⟨⟨a, rfl⟩, rfl⟩ | ⟨b, off, cap, arr, T, fz, rfl, h2, h3, h4, h5, h6⟩
  · exact ⟨[], qC.nil, .inl ⟨⟨a, rfl⟩, rfl⟩⟩
  · have key : ∀ (zs : List α) (k : Nat), (∀ j e, zs[j]? = some e → ∃ cs, aH.E H cs e ∧ ∀ i c, cs[i]? = some c → arr[off + (k + j) * aH.sz α + i]? = some c) →
        ∃ cs, qC H cs zs ∧ ∀ i c, cs[i]? = some c → arr[off + k * aH.sz α + i]? = some c := by
      intro zs
      induction zs with
      | nil => intro k _; exact ⟨[], qC.nil, by simp⟩
      | cons z zs ih =>
        intro k hz;obtain ⟨c, hc, hcc⟩ := hz 0 z rfl;obtain ⟨r, hr, hrr⟩ := ih (k + 1) (fun j e he => by
          obtain ⟨cs, q1, q2⟩ := hz (j + 1) e (by simpa using he)
          exact ⟨cs, q1, fun i c hc => by rw [show k + 1 + j = k + (j + 1) from by omega]; exact q2 i c hc⟩)
        refine ⟨c ++ r, qC.cons hc hr, fun i d hd => ?_⟩;rw [Sz] at hd
        split at hd
        · simpa using hcc i d hd
        · rename_i hn
          have := hrr _ d hd;rw [aH.len hc] at this hn;rw [show off + k * aH.sz α + i = off + (k + 1) * aH.sz α + (i - aH.sz α) from by rw [QK]; omega]
          exact this
    obtain ⟨cs, hcs, hh⟩ := key ys 0 (fun j e he => by simpa using h6 j e he)
    refine ⟨cs, hcs, .inr ⟨fun i c hc => ⟨arr, T, fz, ?_, ?_, ?_⟩, b, off, cap, rfl⟩⟩
    · simp only [Value.base, Ru]; exact h4
    · simp only [Value.base, Ru]
    · simp only [Value.base, Ru]; simpa using hh i c hc
end
structure NZ (P:Program) (T:TypeId) (sz bytes:Nat) (z:Qj):Prop where
 ex:∃ i,P.info? T=some i/\i.size=sz/\i.bytes=bytes/\i.zero=some z
theorem St.we {α:Type}[aH α] {B:Nat}{w0 w:World}{H:Hp}{M:List bQ}{v:Qj}{T:TypeId}{n:Nat}{xs:List Qj}{ys:List α}
  (h:St B w0 H (.row v T (aH.sz α) n xs::M) w) (hx:qC H xs ys) (hs:0<aH.sz α):∃ H',H.le H'/\St B w0 H' M w/\aQ H' v ys:=by
 have hok:=h.ok _ (Qq ..);obtain ⟨hl,hh⟩:=hok;have hn:n=ys.length:=by
  have:=hx.len;rw [hl] at this;exact R7 hs this
 subst hn;rcases hh with ⟨rfl,h0⟩ | ⟨g,off,cap,cur,rfl,hg,hnc,hcm,hcs,htake⟩
 ·refine ⟨H,Rh _,h.tail,.inl ⟨⟨_,rfl⟩,QU h0⟩⟩
 ·have h':St B w0 H (.obj g (.cells cur T (0,0))::M) w:=by
   refine ⟨h.below,h.le,h.uJ,?_,?_,h.nd⟩
   ·intro r hr
    rcases Q8.1 hr with rfl | hr
    ·exact hg
    ·exact h.tail.ok r hr
   ·intro r hr
    rcases Q8.1 hr with rfl | hr
    ·exact h.lo (.row _ T (aH.sz α) ys.length xs) (Qq ..)
    ·exact h.tail.lo r hr
  obtain ⟨hle,hst⟩:=h'.freeze;refine ⟨_,hle,hst,.inr ⟨g,off,cap,cur,T,(0,0),rfl,hnc,hcm,Hp.xw _ _ _,hcs,?_⟩⟩;intro k e he;obtain ⟨c,h1,h2⟩:=(hx.mono hle).get k e he;refine ⟨c,h1,λj d hd=>?_⟩;have:=h2 j d hd;rw [<- htake,Rc] at this
  split at this
  ·rw [Q7] at this; simpa [SS] using this
  ·cases this
theorem wX:∀ (vs l:List Qj) (k:Nat),k+vs.length<=l.length->over l k vs=l.take k++vs++l.drop (k+vs.length)
 | [],l,k,_=>by simp [over]
 | v::vs,l,k,h=>by
  simp only [Qy] at h;rw [over,wX vs _ _ (by simp; omega)]
  have hk:k<l.length:=by omega
  rw [QO (by simpa using hk)]
  simp only [List.getElem_set_self,Qy];rw [Tn (by omega),S3 (by omega)]
  simp only [QR,SL,R2];rw [show k+1+vs.length=k+(vs.length+1) from by omega]
theorem Ee {P:Program}{w:World}{t ty e:TypeId}{i:TypeInfo}{z:Qj}{size bytes:Nat} (ht:P.underlying t=some (.slice e)) (hi:P.info? e=some i) (hz:i.zero=some z)
  (hsize:i.size=size) (hby:i.bytes=bytes) (hzs:z.cells.size=size) (hsz:0<size)
  {v:Qj}{n:Nat}{xs:List Qj} (hown:jM w e size v n xs)
  {a:Addr}{m c:Nat}{news:List Qj} (hl:news.length=m*size) (hnews:∀ j u,news[j]? = some u->w.cell? (a.add j)=some u) (h1:∀ u ∈ news,u.oneCell'=true)
  (h63:n+m<=maxLen) (hbytes:(n+m)*bytes<=140737488355328):
  ∃ v' w',(Builtin.append_ #[t,t] ty #[v,.slice (some a) m c]).run P w=.ok v' w'/\jM w' e size v' (n+m) (xs++news)/\w.grownBy w' v.ownBlock /\
   (∀ b,v'.ownBlock=some b->v.ownBlock=some b\/w.heap.size<=b):=by
 subst hsize;subst hby;have hsmall:n+m<=9223372036854775807:=by simp only [maxLen] at h63; omega
 have hlen:(xs++news).length=(n+m)*i.size:=by rw [QE,hown.1,hl,QK]
 have grown:∀ (vi:Nat) (row:Option Nat),
   jM (w.drew.alloc (.cells (xs.toArray++news.toArray++Builtin.zeroCells z.cells (grownCap w (n+m) vi e-(n+m))) e)) e i.size
    (.slice (some ⟨w.heap.size,0,none⟩) (n+m) (grownCap w (n+m) vi e)) (n+m) (xs++news) /\
   w.grownBy (w.drew.alloc (.cells (xs.toArray++news.toArray++Builtin.zeroCells z.cells (grownCap w (n+m) vi e-(n+m))) e)) row:=by
  intro vi row;have hge:=Vw w (n+m) vi e;have hcm:grownCap w (n+m) vi e<=maxLen:=US w (n+m) vi e h63;refine ⟨⟨hlen,.inr ⟨w.heap.size,0,_,_,rfl,UZ w.drew _,hge,hcm,?_,?_⟩⟩,⟨rfl,rfl,rfl,by simp,λk hk _=>heap_alloc_old w.drew _ (h:=hk)⟩⟩
  ·simp only [Array.size_append,S1,size_zeroCells,hzs,hown.1,hl,<- QK,QL]
   rw [show n+m+(grownCap w (n+m) vi e-(n+m))=grownCap w (n+m) vi e from by omega]
   exact QI _
  ·simp only [RI,Vp,QR]
   rw [<- QR,<- hlen];exact TI
 rcases hown.2 with ⟨rfl,rfl⟩ | ⟨g,off,cap,cur,rfl,hg,hnc,hcm,hcs,htake⟩
 ·have hx:xs=[]:=QU (by simpa using hown.1)
  subst hx
  by_cases hm:m=0
  ·subst hm
   have hn:news=[]:=QU (by simpa using hl)
   subst hn;refine ⟨.slice none 0 0,w,?_,jM.nil w e i.size,⟨rfl,rfl,rfl,QI _,λ_ _ _=>rfl⟩,by simp [Value.ownBlock]⟩
   simp [Builtin.append_,RU ht,sizeOf,typeInfo,hi,Builtin.lenOf,Builtin.firstCells,loadCells,loadCellsFrom]
  ·have hr:=run_append_nil (P:=P) w t ty e i z ht hi hz a m c news hl hnews (by omega) (by omega) (by have hb:=hbytes; simp only [QL] at hb; omega)
   have hgr:=grown 0 (Value.ownBlock (.slice none 0 0));simp only [QL,R2,Array.empty_append] at hgr ⊢;exact ⟨_,_,hr,hgr.1,hgr.2,λb hb=>.inr (by simp only [Value.ownBlock,QH] at hb; omega)⟩
 ·by_cases hroom:n+m<=cap
  ·have hfit:off+n*i.size+news.length<=cur.size:=by
    have:(n+m)*i.size<=cap*i.size:=QF _ hroom;rw [QK] at this;omega
   have hf:=Vt (P:=P) w i.size m a m c news hl hnews;obtain ⟨w',hst,hh,hgr⟩:=kY (P:=P) g (off+n*i.size) e news 0 cur.toList w (by simpa using hg) (by simpa using hfit) h1
   refine ⟨.slice (some ⟨g,off,none⟩) (n+m) cap,w',?_,⟨hlen,.inr ⟨g,off,cap,_,rfl,hh,hroom,hcm,?_,?_⟩⟩,hgr,λb hb=>.inl hb⟩
   ·simp [Builtin.append_,RU ht,sizeOf,typeInfo,hi,Builtin.lenOf,hroom,hf,Ru,hst]
   ·simpa [pU] using hcs
   ·rw [S5,RV,wX _ _ _ (by simpa using hfit)]
    have hd:(cur.toList.take (off+n*i.size)).drop off=xs:=by rw [SW,Sy]; exact htake
    rw [QR,Tl (by simp; omega),hd,<- QR,<- hlen]
    exact TI
  ·have holds:∀ j u,xs[j]? = some u->w.cell? ((⟨g,off,none⟩:Addr).add j)=some u:=by
    intro j u hu;rw [Ru];refine Vg hg rfl ?_;rw [<- htake,Rc] at hu
    split at hu
    ·rw [Q7] at hu; simpa using hu
    ·cases hu
   have hr:=run_append_grow (P:=P) w t ty e i z ht hi hz ⟨g,off,none⟩ n cap xs hown.1 holds a m c news hl hnews (by omega) (by omega) (Vu (by omega) hbytes)
   have hgr:=grown cap (Value.ownBlock (.slice (some ⟨g,off,none⟩) n cap));exact ⟨_,_,hr,hgr.1,hgr.2,λb hb=>.inr (by simp only [Value.ownBlock,QH] at hb; omega)⟩
section
variable {x:Cx}{ops:Array Oper}{Q:lZ}{rest:List Oper}{H:Hp}{M M':List bQ}{L L':Env}
variable {d:Nat}{ty:TypeId}{pos:String}{aft:Array Edge}{g:Option (Nat×Bool)}
theorem cE {α:Type}[aH α] {v:Qj}{T:TypeId}{n:Nat}{xs:List Qj}{ys:List α} (hx:qC H xs ys) (hs:Nat.blt 0 (aH.sz α)=true)
  (k:∀ H',H.le H'->aQ H' v ys->W x ops Q rest H' M L):W x ops Q rest H (.row v T (aH.sz α) n xs::M) L:=by
 intro a w hsl ht;obtain ⟨H',h1,h2,h3⟩:=ht.we hx (by simpa [Rv] using hs)
 exact k H' h1 h3 a w hsl h2
theorem nX {α:Type}[aH α] {e:Exit}{v:Qj}{T:TypeId}{n:Nat}{xs:List Qj}{ys:List α} (hx:qC H xs ys) (hs:Nat.blt 0 (aH.sz α)=true)
  (k:∀ H',H.le H'->aQ H' v ys->E x e Q H' M L):E x e Q H (.row v T (aH.sz α) n xs::M) L:=by
 intro a w hsl ht;obtain ⟨H',h1,h2,h3⟩:=ht.we hx (by simpa [Rv] using hs)
 exact k H' h1 h3 a w hsl h2
theorem Ey {α:Type}[aH α] {c:Code}{v:Qj}{T:TypeId}{n:Nat}{xs:List Qj}{ys:List α} (hx:qC H xs ys) (hs:Nat.blt 0 (aH.sz α)=true)
  (k:∀ H',H.le H'->aQ H' v ys->C x c Q H' M L):C x c Q H (.row v T (aH.sz α) n xs::M) L:=by
 intro a w hsl ht;obtain ⟨H',h1,h2,h3⟩:=ht.we hx (by simpa [Rv] using hs)
 exact k H' h1 h3 a w hsl h2
theorem y8 (T:TypeId) (sz:Nat) (k:W x ops Q rest H (.row (.slice none 0 0) T sz 0 []::M) L):W x ops Q rest H M L:=
 λa w hsl ht=>k a w hsl (ht.Cd T sz)
theorem cJ {e:Exit} (T:TypeId) (sz:Nat) (k:E x e Q H (.row (.slice none 0 0) T sz 0 []::M) L):E x e Q H M L:=
 λa w hsl ht=>k a w hsl (ht.Cd T sz)
theorem kE {c:Code} (T:TypeId) (sz:Nat) (k:C x c Q H (.row (.slice none 0 0) T sz 0 []::M) L):C x c Q H M L:=
 λa w hsl ht=>k a w hsl (ht.Cd T sz)
theorem Jg {α:Type}[aH α] {t e:TypeId}{bytes n:Nat}{z:Qj}{y u:Operand}{v vu:Qj}{xs:List Qj}{l ys:List α}
  (hg:gd ops L ⟨some d,.call ⟨.builtin .append,#[y,u],#[t,t]⟩,ty,pos,aft,g⟩=some true) (hN:Nat.blt d x.N=true)
  (hT:x.P.underlying t=some (.slice e)) (hi:NZ x.P e (aH.sz α) bytes z) (hz:z.cells.size=aH.sz α) (hs:Nat.blt 0 (aH.sz α)=true) (hb0:Nat.blt 0 bytes=true)
  (hy:ev L y=some v) (hu:ev L u=some vu) (hx:qC H xs l) (hR:aQ H vu ys) (hb:(l.length+ys.length)*bytes<=140737488355328)
  (k:∀ v' n' xs',qC H xs' (l++ys)->W x ops Q rest H (.row v' e (aH.sz α) n' xs'::M) ((d,v')::L)):
  W x ops Q (⟨some d,.call ⟨.builtin .append,#[y,u],#[t,t]⟩,ty,pos,aft,g⟩::rest) H (.row v e (aH.sz α) n xs::M) L:=by
 obtain ⟨i,h1,h2,h3,h4⟩:=hi.ex;have hs':0<aH.sz α:=by simpa [Rv] using hs
 have hb0':0<bytes:=by simpa [Rv] using hb0
 have hmax:l.length+ys.length<=maxLen:=by
  have:l.length+ys.length<=(l.length+ys.length)*bytes:=Tm _ hb0';unfold maxLen; omega
 refine s5 rfl hg hN λa w hsl ht=>?_;have hown:jM w e (aH.sz α) v n xs:=ht.ok _ (Qq ..);have hn:n=l.length:=by
  have:=hx.len;rw [hown.1] at this;exact R7 hs' this
 subst hn;obtain ⟨cs,hcs,hcase⟩:=hR.flat;rcases hcase with ⟨⟨ea,rfl⟩,rfl⟩ | ⟨hc,b,off,c,rfl⟩
 ·have hcs':cs=[]:=hcs
  subst hcs';refine ⟨v,w,?_,H,_,ht,k v _ xs (by simpa using hx)⟩
  rcases hown.2 with ⟨rfl,h0⟩ | ⟨g,off,cap,cur,rfl,hg2,hnc,_⟩ <;> cases ea
  ·simp [execOp,resolve,invoke,builtin,hsl.ev hy,hsl.ev hu,Builtin.append_,RU hT,sizeOf,typeInfo,h1,Builtin.lenOf,Builtin.firstCells]
  ·simp [execOp,resolve,invoke,builtin,hsl.ev hy,hsl.ev hu,Builtin.append_,RU hT,sizeOf,typeInfo,h1,Builtin.lenOf,Builtin.firstCells,loadCells,loadCellsFrom]
  ·simp [execOp,resolve,invoke,builtin,hsl.ev hy,hsl.ev hu,Builtin.append_,RU hT,sizeOf,typeInfo,h1,Builtin.lenOf,Builtin.firstCells,storeCells,hnc]
  ·simp [execOp,resolve,invoke,builtin,hsl.ev hy,hsl.ev hu,Builtin.append_,RU hT,sizeOf,typeInfo,h1,Builtin.lenOf,Builtin.firstCells,storeCells,hnc,loadCells,loadCellsFrom]
 ·obtain ⟨v',w',hr,ho,hgr,hfr⟩:=Ee (P:=x.P) (ty:=ty) hT h1 h4 h2 h3 hz hs' hown (a:=⟨b,off,none⟩) (m:=ys.length) (c:=c) (news:=cs) hcs.len
   (λj u hu=>((hc j u hu).at (x:=x) (M:=.row v e (aH.sz α) l.length xs::M)) w ht) hcs.one hmax hb
  refine ⟨v',w',?_,H,_,ht.Eu (r':=.row v' e (aH.sz α) (l.length+ys.length) (xs++cs)) hgr ho hfr,k v' _ _ (hx.app hcs)⟩;simp [execOp,resolve,invoke,builtin,hsl.ev hy,hsl.ev hu,hr]
end
def zV:List Qj->List (List Qj)->Prop
 | [],[]=>True
 | v::vs,c::cs=>v.cells=c.toArray/\zV vs cs
 | _,_=>False
def laid (places:List (Nat×Nat)):List Qj->List (Nat×List Qj)->Option (List Qj)
 | z,[]=>some z
 | z,(i,c)::r=>match places[i]? with
  | none=>none
  | some (off,size)=>if Nat.beq c.length size && Nat.ble (off+c.length) z.length then laid places (over z off c) r else none
theorem BU:∀ (c:List Qj) (z:List Qj) (off k:Nat),(c.zipIdx k).foldl (λcs (p:Qj×Nat)=>cs.setIfInBounds (off+p.2) p.1) z.toArray=(over z (off+k) c).toArray
 | [],z,off,k=>rfl
 | v::c,z,off,k=>by
  rw [List.zipIdx_cons,Um];simp only [List.setIfInBounds_toArray];rw [BU c _ off (k+1),over]
  rfl
theorem wc {place:Nat->Option (Nat×Nat)}{places:List (Nat×Nat)} (hp:∀ i o,places[i]? = some o->place i=some o):
  ∀ (is:List Nat) (vs:List Qj) (css:List (List Qj)) (z out:List Qj),zV vs css->is.length=vs.length->laid places z (is.zip css)=some out ->
   Instr.fill place z.toArray (is.zip vs)=some out.toArray
 | [],[],_,z,out,_,_,h=>by simp [laid] at h; simp [Instr.fill,h]
 | [],_::_,_,_,_,_,hl,_=>by simp at hl
 | _::_,[],_,_,_,_,hl,_=>by simp at hl
 | i::is,v::vs,[],_,_,hc,_,_=>hc.elim
 | i::is,v::vs,c::css,z,out,⟨hv,hc⟩,hl,h=>by
  simp only [List.zip_cons_cons,laid] at h;cases hpl:places[i]? with
  | none=>simp [hpl] at h
  | some o=>
   obtain ⟨off,size⟩:=o;simp only [hpl] at h
   split at h
   ·rename_i hb
    simp only [R6,Tb] at hb;have hsz:c.length=size:=SK hb.1;simp only [List.zip_cons_cons,Instr.fill,hp i _ hpl,hv];have h1:((c.toArray.size≠size || off+c.toArray.size > z.toArray.size:Bool))=false:=by
     simp [hsz]; rw [<- hsz]; exact hb.2
    rw [Qs (by simp only [h1]; simp)]
    have h2:=BU c z off 0;have h3:c.toArray.zipIdx.foldl (λcs (p:Qj×Nat)=>cs.setIfInBounds (off+p.2) p.1) z.toArray=(over z off c).toArray:=by
     rw [<- Array.foldl_toList];simpa using h2
    have ih:=wc hp is vs css (over z off c) out hc (by simpa using hl) h
    rw [<- ih];exact Q6 (λq=>Instr.fill place q (is.zip vs)) h3
   ·cases h
theorem lM {k m:Nat}{e:Int} (hd:k+m=e.toNat) (hb:decide ((k:Int)<e)=true):∃ m',m=m'+1/\k+1+m'=e.toNat/\k<e.toNat:=by
 have:=Qr hb;exact ⟨m-1,by omega,by omega,by omega⟩
theorem lL {k m:Nat}{e:Int} (hd:k+m=e.toNat) (hb:decide ((k:Int)<e)=false):m=0:=by
 have:=QB hb;omega
theorem eU {e:Int} (h:e<=9223372036854775807):e.toNat<=maxLen:=by unfold maxLen; omega
theorem ly {α:Type}{xs:List α} (h:xs.length<=maxLen):(xs.length:Int)<=9223372036854775807:=by unfold maxLen at h; omega
section
variable {x:Cx}{ops:Array Oper}{Q:lZ}{rest:List Oper}{H:Hp}{M M':List bQ}{L L':Env}
variable {d:Nat}{ty:TypeId}{pos:String}{aft:Array Edge}{g:Option (Nat×Bool)}
theorem A5 {N:Nat}{a:Act} (hs:Sl N L a) {ps:List (Nat×Operand)}{vs:List Qj} (hv:yK L (ps.map (·.2))=some vs):
  (ps.toArray.map λ(p:Nat×Operand)=>(p.1,a.eval p.2))=((ps.map (·.1)).zip vs).toArray:=by
 have h:=hs.yK hv;subst h;clear hv;simp only [List.map_map,List.map_toArray]
 congr 1
 induction ps with
 | nil=>rfl
 | cons p ps ih=>simp only [SR,List.zip_cons_cons,Function.comp,ih]
theorem eC {T:TypeId}{ps:List (Nat×Operand)}{vs:List Qj}{css:List (List Qj)}{z:Qj}{zs out:List Qj}{fs:Array Field}{places:List (Nat×Nat)}
  (hg:gd ops L ⟨some d,.build T ps.toArray,ty,pos,aft,g⟩=some true) (hN:Nat.blt d x.N=true)
  (hv:yK L (ps.map (·.2))=some vs) (hc:zV vs css)
  (hz:∀ w,(zeroValue T).run x.P w=.ok z w) (hzs:z.cells=zs.toArray) (hT:∀ w,(underlying T).run x.P w=.ok (.struct fs) w)
  (hp:∀ w,(fs.mapM λf=>do pure (f.offset,<- sizeOf f.type):Sem (Array (Nat×Nat))).run x.P w=.ok places.toArray w)
  (ho:laid places zs ((ps.map (·.1)).zip css)=some out)
  (k:W x ops Q rest H M ((d,.agg out.toArray)::L)):
  W x ops Q (⟨some d,.build T ps.toArray,ty,pos,aft,g⟩::rest) H M L:=
 fG rfl hg hN (λa w hs ht=>by
  have hl:(ps.map (·.1)).length=vs.length:=by rw [<- hs.yK hv]; simp
  have hf:=wc (place:=λi:Nat=>places[i]?) (places:=places) (λ_ _ h=>h) (ps.map (·.1)) vs css zs out hc hl ho;have hps:=A5 hs hv;simp only [execOp,Instr.build,QA,hz,Qx,hT,hzs];rw [hp];simp only [Qx];have e:(λi:Nat=>places.toArray[i]?)=λi:Nat=>places[i]? := by funext i; simp
  simp only [hps,e,hf,QG,Qx]) k
theorem dD {α:Type}[aH α] {T e:TypeId}{n:Nat}{ps:List (Nat×Operand)}{vs:List Qj}{css:List (List Qj)}{z:Qj}{zs out:List Qj}{places:List (Nat×Nat)}{ys:List α}
  (hg:gd ops L ⟨some d,.buildSlice T n ps.toArray,ty,pos,aft,g⟩=some true) (hN:Nat.blt d x.N=true)
  (hv:yK L (ps.map (·.2))=some vs) (hc:zV vs css)
  (hT:∀ w,(underlying T).run x.P w=.ok (.slice e) w) (hs:∀ w,(sizeOf e).run x.P w=.ok (aH.sz α) w) (hs0:Nat.blt 0 (aH.sz α)=true)
  (hz:∀ w,(zeroValue e).run x.P w=.ok z w) (hzs:(Array.range (n*aH.sz α)).map (z.cells[·%z.cells.size]!)=zs.toArray)
  (hpl:places=(List.range n).map λi=>(i*aH.sz α,aH.sz α)) (hn:Nat.ble (n*aH.sz α) 16777216=true) (hnn:Nat.blt 0 n=true)
  (ho:laid places zs ((ps.map (·.1)).zip css)=some out) (hr:qC H out ys) (hyn:ys.length=n)
  (k:∀ b v H',v=.slice (some ⟨b,0,none⟩) n n->H.le H'->aQ H' v ys->W x ops Q rest H' M ((d,v)::L)):
  W x ops Q (⟨some d,.buildSlice T n ps.toArray,ty,pos,aft,g⟩::rest) H M L:=by
 refine s5 rfl hg hN λa w hsl ht=>?_;have hl:(ps.map (·.1)).length=vs.length:=by rw [<- hsl.yK hv]; simp
 have hs0':0<aH.sz α:=by simpa [Rv] using hs0
 have hn':n*aH.sz α<=16777216:=by simpa [Tb] using hn
 have hnn':0<n:=by simpa [Rv] using hnn
 have hpos:0<n*aH.sz α:=Nat.mul_pos hnn' hs0';have hf:=wc (place:=λi=>some (i*aH.sz α,aH.sz α)) (places:=places) (λi o h=>by
  rw [hpl,QS] at h;cases hh:(List.range n)[i]? with
  | none=>rw [hh] at h; cases h
  | some j=>
   rw [hh] at h;have:j=i:=by
    have:=Qo.1 hh;simpa using this.2.symm
   subst this;simpa using h) (ps.map (·.1)) vs css zs out hc hl ho
 have hps:=A5 hsl hv;have hsz:out.length=n*aH.sz α:=by rw [hr.len,hyn]
 refine ⟨.slice (some ⟨w.heap.size,0,none⟩) n n,w.alloc (.cells out.toArray e),?_,H.add w.heap.size (.cells out.toArray e),M,(ht.alloc _).freeze.2,?_⟩
 ·have h1:¬ (2 ^ 24<n*aH.sz α):=by omega
  have h2:¬ (n*aH.sz α=0):=by omega
  simp only [execOp,Instr.buildSlice,QA,hT,Qx,hs,gt_iff_lt,h1,h2,R_,hz,QG];simp only [hps];have hf':Instr.fill (λi=>some (i*aH.sz α,aH.sz α)) ((Array.range (n*aH.sz α)).map (z.cells[·%z.cells.size]!)) ((List.map (λx=>x.fst) ps).zip vs)=some out.toArray:=by
   rw [hzs]; exact hf
  simp only [hf',newRow,newObj,QA,QG,Sem.run,Qx,World.alloc]
 ·refine k w.heap.size _ _ rfl (ht.alloc _).freeze.1 (.inr ⟨w.heap.size,0,n,out.toArray,e,(0,0),by rw [hyn],by omega,?_,Hp.xw _ _ _,by simp [hsz],?_⟩)
  ·unfold maxLen
   have:n<=n*aH.sz α:=Tm _ hs0';omega
  ·intro j el hel
   obtain ⟨c,q1,q2⟩:=(hr.mono (ht.alloc (.cells out.toArray e)).freeze.1).get j el hel;exact ⟨c,q1,λi u hu=>by simpa using q2 i u hu⟩
end
structure Rw {α:Type}[aH α] (H:Hp) (v:Qj) (xs:List Qj) (l:List α):Prop where
 rd:qC H xs l
 sl:∃ a n c,v=.slice a n c
section
variable {α:Type}[aH α] {H H':Hp}{v:Qj}{xs:List Qj}{l:List α}
theorem Rw.mono (hle:H.le H') (h:Rw H v xs l):Rw H' v xs l:=⟨h.rd.mono hle,h.sl⟩
theorem Rw.one (h:Rw H v xs l):v.oneCell'=true:=by obtain ⟨a,n,c,rfl⟩:=h.sl; rfl
theorem Rw.cells (h:Rw H v xs l):v.cells=[v].toArray:=by obtain ⟨a,n,c,rfl⟩:=h.sl; rfl
theorem Rw.nil:Rw H (.slice none 0 0) [] ([]:List α):=⟨rfl,_,_,_,rfl⟩
theorem Rw.elem (h:Rw H v xs l) {k:Nat}{e:α} (he:l[k]? = some e):∃ c,aH.E H c e/\∀ j u,c[j]? = some u->xs[k*aH.sz α+j]? = some u:=h.rd.get k e he
theorem zt (vs:List Qj):∀ (l:List Qj) (k j:Nat),k+vs.length<=l.length->(over l k vs)[j]? = if k<=j/\j<k+vs.length then vs[j-k]? else l[j]? := by
 intro l k j h;rw [wX vs l k h,QR,Sz];simp only [QN,Rq (show k<=l.length by omega)]
 by_cases h1:j<k
 ·rw [Qu h1,Qs (by omega),Rc,Qu h1]
 ·rw [Qs h1,Sz]
  by_cases h2:j-k<vs.length
  ·rw [Qu h2,Qu (by omega)]
  ·rw [Qs h2,Qs (by omega),Q7]
   congr 1; omega
theorem Rw.put {c cs out:List Qj}{k o:Nat}{e e2:α} (h:Rw H v xs l) (he:l[k]? = some e) (hc:aH.E H c e) (hg:∀ j u,c[j]? = some u->xs[k*aH.sz α+j]? = some u)
  (hb:Nat.ble (o+cs.length) c.length=true) (ho:over c o cs=out) (hE:aH.E H out e2):
  Rw H v (over xs (k*aH.sz α+o) cs) (l.set k e2)/\(l.set k e2)[k]? = some e2/\∀ j u,out[j]? = some u->(over xs (k*aH.sz α+o) cs)[k*aH.sz α+j]? = some u:=by
 have hk:k<l.length:=(Qo.1 he).1;have hlen:=h.rd.len;have hcl:=aH.len hc;have hb':o+cs.length<=c.length:=by simpa [Tb] using hb
 have hkk:(k+1)*aH.sz α<=l.length*aH.sz α:=QF _ hk;rw [QK,Ug] at hkk;have uJ:k*aH.sz α+o+cs.length<=xs.length:=by omega
 have key:over xs (k*aH.sz α+o) cs=xs.take (k*aH.sz α)++out++xs.drop ((k+1)*aH.sz α):=by
  apply R8;intro j;rw [zt _ _ _ _ uJ,QR,Sz];simp only [QN,Rq (show k*aH.sz α<=xs.length by omega)]
  have hol:out.length=aH.sz α:=by rw [<- ho,pU,hcl]
  by_cases h1:j<k*aH.sz α
  ·rw [Qu h1,Qs (by omega),Rc,Qu h1]
  ·rw [Qs h1,Sz,hol]
   by_cases h2:j-k*aH.sz α<aH.sz α
   ·rw [Qu h2,<- ho,zt _ _ _ _ hb']
    by_cases h3:k*aH.sz α+o<=j/\j<k*aH.sz α+o+cs.length
    ·rw [Qu h3,Qu (by omega)]; congr 1; omega
    ·rw [Qs h3,Qs (by omega)]
     have hj:j-k*aH.sz α<c.length:=by omega
     have:=hg (j-k*aH.sz α) _ (Ql hj);rw [Ql hj,<- this]; congr 1; omega
   ·rw [Qs h2,Qs (by omega),Q7]
    congr 1; rw [QK]; omega
 refine ⟨⟨?_,h.sl⟩,by simp [hk],λj u hu=>?_⟩
 ·rw [key]; exact h.rd.put hk hE
 ·have hj:j<out.length:=(Qo.1 hu).1
  have hol:out.length=aH.sz α:=by rw [<- ho,pU,hcl]
  rw [key,QR,QX (by simp; omega),RA (by simp; omega)]
  simp only [QN,Rq (show k*aH.sz α<=xs.length by omega)]
  rw [show k*aH.sz α+j-k*aH.sz α=j by omega]; exact hu
end
section
variable {x:Cx}{ops:Array Oper}{Q:lZ}{rest:List Oper}{H:Hp}{M M':List bQ}{L L':Env}
variable {d:Nat}{ty:TypeId}{pos:String}{aft:Array Edge}{g:Option (Nat×Bool)}
theorem Cs {v:Qj}{T:TypeId}{sz n i:Nat}{xs:List Qj}{c:Qj} (hm:bQ.row v T sz n xs ∈ M) (hc:xs[i]? = some c):yz x H M ((Value.base v).add i) c:=by
 intro w ht;have hok:jM w T sz v n xs:=ht.ok _ hm;have hi:=(Qo.1 hc).1;rcases hok.2 with ⟨rfl,h0⟩ | ⟨gb,off,cap,cur,rfl,hg,hnc,hcm,hcs,htake⟩
 ·exfalso
  have:=hok.1;subst h0;simp at this; subst this
  simp at hc
 ·rw [show Value.base (Value.slice (some ⟨gb,off,none⟩) n cap)=⟨gb,off,none⟩ from rfl,Ru]
  refine Vg hg rfl ?_;rw [<- htake,Rc] at hc
  split at hc
  ·rw [Q7] at hc; simpa using hc
  ·cases hc
theorem add_add (a:Addr) (i j:Nat):(a.add i).add j=a.add (i+j):=by
 unfold Addr.add
 by_cases h1:i=0 <;> by_cases h2:j=0 <;> simp [h1,h2,SS]
theorem x_ {v:Qj}{T:TypeId}{sz n i:Nat}{xs cs:List Qj} (hm:bQ.row v T sz n xs ∈ M) (hc:∀ j u,cs[j]? = some u->xs[i+j]? = some u):yX x H M ((Value.base v).add i) cs:=by
 intro j c hj;rw [add_add];exact Cs hm (hc j c hj)
theorem row_one {v:Qj}{T:TypeId}{sz n i o:Nat}{xs cs:List Qj}{c:Qj} (hm:bQ.row v T sz n xs ∈ M) (hc:∀ j u,cs[j]? = some u->xs[i+j]? = some u) (hd:cs[o]? = some c):
  yz x H M (((Value.base v).add i).add o) c:=by
 rw [add_add]; exact Cs hm (hc o c hd)
theorem Ct {v:Qj}{T:TypeId}{sz n i:Nat}{xs cs:List Qj}{c:Qj} (hm:bQ.row v T sz n xs ∈ M) (hc:∀ j u,cs[j]? = some u->xs[i+j]? = some u) (hd:cs[0]? = some c):
  yz x H M ((Value.base v).add i) c:=Cs hm (hc 0 c hd)
theorem Bv {v:Qj}{T:TypeId}{sz n:Nat}{xs:List Qj}{t e:TypeId}{y:Operand} (hm:bQ.row v T sz n xs ∈ M) (hg:gd ops L ⟨some d,.call ⟨.builtin .len,#[y],#[t]⟩,ty,pos,aft,g⟩=some true) (hN:Nat.blt d x.N=true)
  (hT:∀ w,(underlying t).run x.P w=.ok (.slice e) w) (hy:ev L y=some v) (k:W x ops Q rest H M ((d,.int .i64 n)::L)):
  W x ops Q (⟨some d,.call ⟨.builtin .len,#[y],#[t]⟩,ty,pos,aft,g⟩::rest) H M L:=
 fG rfl hg hN (λc w hs ht=>by
  have hok:jM w T sz v n xs:=ht.ok _ hm;rcases hok.2 with ⟨rfl,rfl⟩ | ⟨gb,off,cap,cur,rfl,_⟩ <;>
   simp [execOp,resolve,invoke,builtin,hs.ev hy,Builtin.len_,hT,goInt]) k
theorem y7 {v:Qj}{T:TypeId}{sz n:Nat}{xs:List Qj}{t e:TypeId}{y z:Operand}{kk:IntKind}{i:Int} (hm:bQ.row v T sz n xs ∈ M)
  (hg:gd ops L ⟨some d,.indexAddr t y z,ty,pos,aft,g⟩=some true) (hN:Nat.blt d x.N=true)
  (hT:∀ w,(underlying t).run x.P w=.ok (.slice e) w) (hs:∀ w,(sizeOf e).run x.P w=.ok sz w)
  (hy:ev L y=some v) (hz:ev L z=some (.int kk i)) (h0:0<=i) (h1:i.toNat<n)
  (k:W x ops Q rest H M ((d,.pointer (some ((Value.base v).add (i.toNat*sz))))::L)):
  W x ops Q (⟨some d,.indexAddr t y z,ty,pos,aft,g⟩::rest) H M L:=
 fG rfl hg hN (λc w hsl ht=>by
  have h1':i<(n:Int):=by omega
  have hok:jM w T sz v n xs:=ht.ok _ hm;rcases hok.2 with ⟨rfl,rfl⟩ | ⟨gb,off,cap,cur,rfl,_⟩
  ·omega
  ·simp [execOp,hsl.ev hy,hsl.ev hz,Instr.indexAt,asIntOf,hT,hs,h0,h1',Value.base]) k
theorem xu {T E:TypeId}{m sz n i:Nat}{y z:Operand}{v u:Qj}{ad:Addr}{xs cs:List Qj} (hg:gd ops L ⟨none,.store T y z,ty,pos,aft,g⟩=some true)
  (hn:∀ w,(sizeOf T).run x.P w=.ok m w) (hy:ev L y=some (.pointer (some ad))) (had:ad=(Value.base v).add i) (hz:ev L z=some u) (hv:u.cells=cs.toArray) (hl:cs.length=m)
  (hb:i+cs.length<=xs.length) (hpos:Nat.blt 0 cs.length=true) (h1:∀ c ∈ cs,c.oneCell'=true)
  (k:W x ops Q rest H (.row v E sz n (over xs i cs)::M) L):
  W x ops Q (⟨none,.store T y z,ty,pos,aft,g⟩::rest) H (.row v E sz n xs::M) L:=
 DA rfl hg (λa w hs ht=>by
  subst had;have hok:jM w E sz v n xs:=ht.ok _ (Qq ..);have hpos':0<cs.length:=by simpa [Rv] using hpos
  rcases hok.2 with ⟨rfl,rfl⟩ | ⟨gb,off,cap,cur,rfl,hgb,hnc,hcm,hcs,htake⟩
  ·have h0:=hok.1; rw [RW] at h0; omega
  ·have hmul:n*sz<=cap*sz:=QF _ hnc
   have hxl:=hok.1;obtain ⟨w',hr,hh,hgr⟩:=kY (P:=x.P) gb (off+i) E cs 0 cur.toList w (by simpa using hgb) (by simp; omega) h1
   refine ⟨w',?_,H,_,ht.Eu (r':=.row (.slice (some ⟨gb,off,none⟩) n cap) E sz n (over xs i cs)) hgr ?_ (λc hc=>.inl hc),k⟩
   ·simp [execOp,hs.ev hy,hs.ev hz,Instr.storeAt,Instr.sureAddr,storeVar,hn,hl,hv,Value.base,Ru,hr]
   ·refine ⟨by rw [pU]; exact hxl,.inr ⟨gb,off,cap,_,rfl,hh,hnc,hcm,by simpa [pU] using hcs,?_⟩⟩
    rw [S5,RV];apply R8;intro j;rw [Rc,Q7,zt _ _ _ _ (by simp; omega),zt _ _ _ _ hb,<- htake,Rc,Q7]
    by_cases hj:j<n*sz
    ·simp only [Qu hj]
     by_cases h3:i<=j/\j<i+cs.length
     ·rw [Qu h3,Qu (by omega)]; congr 1; omega
     ·rw [Qs h3,Qs (by omega)]
    ·simp only [Qs hj]
     rw [Qs (by omega)])
end
section
variable {x:Cx}{ops:Array Oper}{Q:lZ}{rest:List Oper}{H:Hp}{M M':List bQ}{L L':Env}
variable {d:Nat}{ty:TypeId}{pos:String}{aft:Array Edge}{g:Option (Nat×Bool)}
theorem jM.shape {w:World}{T:TypeId}{sz n:Nat}{v:Qj}{xs:List Qj} (h:jM w T sz v n xs):∃ a n c,v=.slice a n c:=by
 rcases h.2 with ⟨rfl,_⟩ | ⟨gb,off,cap,cur,rfl,_⟩ <;> exact ⟨_,_,_,rfl⟩
theorem cW {α:Type}[aH α] {t e:TypeId}{bytes n:Nat}{z:Qj}{y u:Operand}{v vu:Qj}{xs:List Qj}{l ys:List α}
  (hg:gd ops L ⟨some d,.call ⟨.builtin .append,#[y,u],#[t,t]⟩,ty,pos,aft,g⟩=some true) (hN:Nat.blt d x.N=true)
  (hT:x.P.underlying t=some (.slice e)) (hi:NZ x.P e (aH.sz α) bytes z) (hz:z.cells.size=aH.sz α) (hs:Nat.blt 0 (aH.sz α)=true) (hb0:Nat.blt 0 bytes=true)
  (hy:ev L y=some v) (hu:ev L u=some vu) (hx:Rw H v xs l) (hR:aQ H vu ys) (hb:((l.length+ys.length)*bytes:Nat)<=140737488355328)
  (k:∀ v' xs',Rw H v' xs' (l++ys)->W x ops Q rest H (.row v' e (aH.sz α) (l++ys).length xs'::M) ((d,v')::L)):
  W x ops Q (⟨some d,.call ⟨.builtin .append,#[y,u],#[t,t]⟩,ty,pos,aft,g⟩::rest) H (.row v e (aH.sz α) n xs::M) L:=by
 refine Jg hg hN hT hi hz hs hb0 hy hu hx.rd hR hb λv' n' xs' hx'=>?_;intro a w hsl ht;have hok:jM w e (aH.sz α) v' n' xs':=ht.ok _ (Qq ..);have hn:n'=(l++ys).length:=by
  have h1:=hx'.len;rw [hok.1] at h1;exact R7 (by simpa [Rv] using hs) h1
 subst hn;exact k v' xs' ⟨hx',hok.shape⟩ a w hsl ht
theorem St.newRow {α:Type}[aH α] {B:Nat}{w0 w:World}{cells:List Qj}{e:TypeId}{l:List α} (ht:St B w0 H M w) (hr:qC H cells l) (hm:l.length<=maxLen):
  St B w0 H (.row (.slice (some ⟨w.heap.size,0,none⟩) l.length l.length) e (aH.sz α) l.length cells::M) (w.alloc (.cells cells.toArray e)):=by
 have h:=ht.alloc (.cells cells.toArray e);have hl:=hr.len;refine ⟨h.below,h.le,h.uJ,?_,?_,h.nd⟩
 ·intro r hr'
  rcases Q8.1 hr' with rfl | hr'
  ·refine ⟨hl,.inr ⟨w.heap.size,0,l.length,cells.toArray,rfl,h.ok _ (Qq ..),QI _,hm,by simp only [S1]; omega,?_⟩⟩
   rw [<- hl,S5,RI,Sc]
  ·exact h.ok r (Qw _ hr')
 ·intro r hr'
  rcases Q8.1 hr' with rfl | hr'
  ·exact h.lo (.obj w.heap.size (.cells cells.toArray e)) (Qq ..)
  ·exact h.lo r (Qw _ hr')
theorem fJ {α:Type}[aH α] {t e:TypeId}{bytes:Nat}{z:Qj}{zs:List Qj}{ze:α}{y y2:Operand}{n:Int}
  (hg:gd ops L ⟨some d,.makeSlice t y y2,ty,pos,aft,g⟩=some true) (hN:Nat.blt d x.N=true)
  (hT:x.P.underlying t=some (.slice e)) (hi:NZ x.P e (aH.sz α) bytes z) (hz:z.cells=zs.toArray) (hs:Nat.blt 0 (aH.sz α)=true) (hb0:Nat.blt 0 bytes=true)
  (hE:aH.E H zs ze) (hy:ev L y=some (.int .i64 n)) (hy2:ev L y2=some (.int .i64 n)) (h0:0<=n) (hb:n*bytes<=140737488355328)
  (k:∀ v' xs',Rw H v' xs' (List.replicate n.toNat ze)->W x ops Q rest H (.row v' e (aH.sz α) (List.replicate n.toNat ze).length xs'::M) ((d,v')::L)):
  W x ops Q (⟨some d,.makeSlice t y y2,ty,pos,aft,g⟩::rest) H M L:=by
 obtain ⟨i,h1,h2,h3,h4⟩:=hi.ex;obtain ⟨m,rfl⟩:∃ m:Nat,n=m:=⟨n.toNat,by omega⟩
 have hs':0<aH.sz α:=by simpa [Rv] using hs
 have hb0':0<bytes:=by simpa [Rv] using hb0
 have hcast:((m*bytes:Nat):Int)=(m:Int)*(bytes:Int):=Rd m bytes;have hbn:m*bytes<=140737488355328:=by omega
 have hm:m<=m*bytes:=Tm _ hb0';have hzl:zs.length=aH.sz α:=aH.len hE;have hmax:m<=maxLen:=by unfold maxLen; omega
 have hw:i64.wrap (m:Int)=m:=xB (by omega) (by omega)
 simp only [Qn] at k;have hrd:∀ q,qC H ((List.range (q*aH.sz α)).map (zs.toArray[·%zs.length]!)) (List.replicate q ze):=by
  intro q
  induction q with
  | zero=>rw [RW]; exact rfl
  | succ q ih=>
   have hsplit:(List.range ((q+1)*aH.sz α)).map (zs.toArray[·%zs.length]!)=zs++(List.range (q*aH.sz α)).map (zs.toArray[·%zs.length]!):=by
    apply R8;intro j;rw [Sz,QS]
    by_cases hj:j<zs.length
    ·rw [Qu hj,Sq (by rw [QK]; omega)]
     simp [Se hj,hj]
    ·rw [Qs hj,QS]
     by_cases hj2:j<(q+1)*aH.sz α
     ·rw [Sq hj2,Sq (by rw [QK] at hj2; omega)]
      simp only [RR];rw [<- Nat.mod_eq_sub_mod (by omega)]
     ·rw [Rj (by simp; omega),Rj (by rw [QK] at hj2; simp; omega)]
   rw [hsplit];exact ⟨zs,_,rfl,hE,ih⟩
 have hlr:(List.replicate m ze).length=m:=RE;refine s5 rfl hg hN λa w hsl ht=>?_;refine ⟨.slice (some ⟨w.heap.size,0,none⟩) (List.replicate m ze).length (List.replicate m ze).length,_,?_,H,_,St.newRow (e:=e) ht (hrd m) (by rw [hlr]; exact hmax),k _ _ ⟨hrd m,_,_,_,rfl⟩⟩
 have e1:¬ ((i.bytes:Int)*(m:Int) > 2 ^ 48):=by
  rw [h3,Int.mul_comm];omega
 have e3:¬ (m*i.bytes > roomBytes):=by rw [h3]; unfold roomBytes; omega
 have e4:¬ ((m:Int)<0):=by omega
 have hti:∀ w,(typeInfo e).run x.P w=.ok i w:=λw=>by simp [typeInfo,h1]
 have hsz:∀ w,(sizeOf e).run x.P w=.ok (aH.sz α) w:=λw=>by simp [sizeOf,hti,h2]
 have hzv:∀ w,(zeroValue e).run x.P w=.ok z w:=λw=>by simp [zeroValue,hti,h4]
 have hun:∀ w,(underlying t).run x.P w=.ok (.slice e) w:=λw=>RU hT w;have hnr:∀ c w,(newRow e c).run x.P w=.ok ⟨w.heap.size,0,none⟩ (w.alloc (.cells c e)):=λc w=>by
  simp only [newRow,newObj,QA,QG,Sem.run,Qx,World.alloc]
 rw [hlr]
 by_cases hm0:m*aH.sz α=0
 ·have:m=0:=by
   rcases Nat.mul_eq_zero.1 hm0 with h | h <;> omega
  subst this;simp only [execOp,hsl.ev hy,hsl.ev hy2,Instr.makeSlice,QA,hun,Qx,asInt,asIntOf,QG,hti,hw,e1,e4,Vm,Bool.or_self,Rx,R_,Qn,askRoom,hsz,hm0,Uh,hnr,gt_iff_lt,Int.lt_irrefl,RW,Nat.not_lt_zero];simp [Array.range]
 ·have e6:(Array.range (m*aH.sz α)).map (λj=>zs.toArray[j%zs.toArray.size]!)=((List.range (m*aH.sz α)).map (zs.toArray[·%zs.length]!)).toArray:=by
   apply Array.ext';simp
  simp only [execOp,hsl.ev hy,hsl.ev hy2,Instr.makeSlice,QA,hun,Qx,asInt,asIntOf,QG,hti,hw,e1,e4,Vm,Bool.or_self,Rx,R_,Qn,askRoom,e3,hsz,hm0,hzv,hz,e6,hnr,gt_iff_lt,Int.lt_irrefl]
theorem run_sliceBound {P:Program}{w:World}{kk:IntKind}{i:Int}{y:Nat}{c:BoundsCode} (h0:0<=i) (h1:i<=y):(Instr.sliceBound (.int kk i) y c).run P w=.ok i.toNat w:=by
 simp [Instr.sliceBound,asIntOf,h0,h1]
def Bd (o:Option Qj) (dflt top r:Nat):Prop:=(o=none/\r=dflt)\/∃ kk i,o=some (.int kk i)/\0<=i/\i<=top/\i.toNat=r
theorem AW {P:Program}{w:World}{len cap:Nat}{lo hi mx:Option Qj}{l h m:Nat}
  (hmh:mx=none\/∃ v,hi=some v) (hm:Bd mx cap cap m) (hh:Bd hi len m h) (hl:Bd lo 0 h l):
  (Instr.sliceBounds true len cap lo hi mx).run P w=.ok (l,h,m) w:=by
 rcases hm with ⟨rfl,rfl⟩ | ⟨km,im,rfl,m0,m1,rfl⟩
 ·rcases hh with ⟨rfl,rfl⟩ | ⟨kh,ih,rfl,h0,h1,rfl⟩
  ·rcases hl with ⟨rfl,rfl⟩ | ⟨kl,il,rfl,l0,l1,rfl⟩
   ·simp only [Instr.sliceBounds,QA,QG,Qx]
   ·simp only [Instr.sliceBounds,QA,QG,Qx,run_sliceBound l0 l1]
  ·rcases hl with ⟨rfl,rfl⟩ | ⟨kl,il,rfl,l0,l1,rfl⟩
   ·simp only [Instr.sliceBounds,QA,QG,Qx,run_sliceBound h0 h1]
   ·simp only [Instr.sliceBounds,QA,QG,Qx,run_sliceBound h0 h1,run_sliceBound l0 l1]
 ·rcases hmh with hmh | ⟨v,rfl⟩
  ·cases hmh
  ·rcases hh with ⟨hh,_⟩ | ⟨kh,ih,hh,h0,h1,rfl⟩
   ·cases hh
   ·obtain rfl:=Qp hh
    rcases hl with ⟨rfl,rfl⟩ | ⟨kl,il,rfl,l0,l1,rfl⟩
    ·simp only [Instr.sliceBounds,QA,QG,Qx,run_sliceBound m0 m1,run_sliceBound h0 h1]
    ·simp only [Instr.sliceBounds,QA,QG,Qx,run_sliceBound m0 m1,run_sliceBound h0 h1,run_sliceBound l0 l1]
def GQ (L:Env) (o:Option Operand) (dflt top r:Nat):Prop:=(o=none/\r=dflt)\/∃ o' kk i,o=some o'/\ev L o'=some (.int kk i)/\0<=i/\i<=top/\i.toNat=r
theorem GQ.bd {N:Nat}{a:Act}{o:Option Operand}{dflt top r:Nat} (hs:Sl N L a) (h:GQ L o dflt top r):Bd (o.map a.eval) dflt top r:=by
 rcases h with ⟨rfl,rfl⟩ | ⟨o',kk,i,rfl,he,h0,h1,rfl⟩
 ·exact .inl ⟨rfl,rfl⟩
 ·exact .inr ⟨kk,i,by simp [hs.ev he],h0,h1,rfl⟩
theorem tV {P:Program}{w:World}{t e:TypeId}{sz len cap:Nat}{a:Option Addr}{lo hi mx:Option Qj}{l h m:Nat} (hT:∀ w,(underlying t).run P w=.ok (.slice e) w) (hs:∀ w,(sizeOf e).run P w=.ok sz w)
  (hmh:mx=none\/∃ v,hi=some v) (hm:Bd mx cap cap m) (hh:Bd hi len m h) (hl:Bd lo 0 h l):
  (Instr.sliceAt t (.slice a len cap) lo hi mx).run P w=.ok (.slice (if m=l then a else a.map (·.add (l*sz))) (h-l) (m-l)) w:=by
 simp only [Instr.sliceAt,QA,hT,Qx,Instr.slice,AW hmh hm hh hl,hs,QG]
theorem Km {a:Act}{mx hi:Option Operand} (h:mx=none\/∃ o,hi=some o):mx.map a.eval=none\/∃ v,hi.map a.eval=some v:=by
 rcases h with rfl | ⟨o,rfl⟩
 ·exact .inl rfl
 ·exact .inr ⟨_,rfl⟩
theorem rQ {α:Type}[aH α] {t e:TypeId}{y:Operand}{lo hi mx:Option Operand}{v:Qj}{xs:List α}{l h:Nat} (hg:gd ops L ⟨some d,.slice t y lo hi mx,ty,pos,aft,g⟩=some true) (hN:Nat.blt d x.N=true)
  (hT:∀ w,(underlying t).run x.P w=.ok (.slice e) w) (hs:∀ w,(sizeOf e).run x.P w=.ok (aH.sz α) w)
  (hy:ev L y=some v) (hR:aQ H v xs) (hlh:l<=h) (hhx:h<=xs.length) (hmh:mx=none\/∃ o,hi=some o)
  (hm:∀ cap,h<=cap->GQ L mx cap cap (if mx=none then cap else h)) (hh:∀ m,h<=m->GQ L hi xs.length m h) (hl:GQ L lo 0 h l)
  (k:∀ v',aQ H v' ((xs.drop l).take (h-l))->(mx≠none->Value.oz v'=h-l)->W x ops Q rest H M ((d,v')::L)):
  W x ops Q (⟨some d,.slice t y lo hi mx,ty,pos,aft,g⟩::rest) H M L:=by
 have hlen:((xs.drop l).take (h-l)).length=h-l:=by simp; omega
 rcases hR with ⟨⟨a0,rfl⟩,rfl⟩ | ⟨b,off,cap,arr,T,fz,rfl,h2,h3,h4,h5,h6⟩
 ·have hl0:l=0:=by simp at hhx; omega
  have hh0:h=0:=by simp at hhx; omega
  subst hl0; subst hh0
  have hif:(if mx=none then 0 else 0)=0:=by split <;> rfl
  refine fG (v:=.slice a0 0 0) rfl hg hN (λc w hsl ht=>?_) (k _ (.inl ⟨⟨_,rfl⟩,by simp⟩) (λ_=>rfl))
  have hm':=(hm 0 (QI _)).bd hsl;rw [hif] at hm';have hr:=tV (P:=x.P) (w:=w) (len:=0) (cap:=0) (a:=a0) hT hs (Km hmh) hm' ((hh 0 (QI _)).bd hsl) (hl.bd hsl);simp only [RG,Uh] at hr;simp only [execOp,hsl.ev hy,QA,hr,Qx,QG]
 ·have hmc:h<=(if mx=none then cap else h)/\(if mx=none then cap else h)<=cap:=by split <;> omega
  generalize hmm:(if mx=none then cap else h)=m at hmc
  refine fG (v:=.slice (if m=l then some ⟨b,off,none⟩ else some ((⟨b,off,none⟩:Addr).add (l*aH.sz α))) (h-l) (m-l)) rfl hg hN (λc w hsl ht=>?_) (k _ ?_ ?_)
  ·have hm':=(hm cap (by omega)).bd hsl
   rw [hmm] at hm';simp only [execOp,hsl.ev hy,QA,tV hT hs (Km hmh) hm' ((hh m hmc.1).bd hsl) (hl.bd hsl),Qx,QG]
   split <;> rfl
  ·by_cases hml:m=l
   ·have:h-l=0:=by omega
    have e0:m-l=0:=by omega
    rw [Qu hml,this,e0];exact .inl ⟨⟨_,rfl⟩,by simp⟩
   ·rw [Qs hml,Ru]
    have hmul:l*aH.sz α+(m-l)*aH.sz α<=cap*aH.sz α:=by
     rw [<- QK]; exact QF _ (by omega)
    refine .inr ⟨b,off+l*aH.sz α,m-l,arr,T,fz,by rw [hlen],by omega,by omega,h4,by omega,λj el hel=>?_⟩
    rw [Rc] at hel
    split at hel
    ·rw [Q7] at hel
     obtain ⟨cs,q1,q2⟩:=h6 (l+j) el hel;refine ⟨cs,q1,λi c hc=>?_⟩;rw [show off+l*aH.sz α+j*aH.sz α+i=off+(l+j)*aH.sz α+i by rw [QK]; omega]
     exact q2 i c hc
    ·cases hel
  ·intro hne
   rw [Qs hne] at hmm;subst hmm; rfl
theorem HP {α:Type}[aH α] {t e T:TypeId}{n:Nat}{y:Operand}{lo hi:Option Operand}{v:Qj}{cs:List Qj}{xs:List α}{l h:Nat} (hg:gd ops L ⟨some d,.slice t y lo hi none,ty,pos,aft,g⟩=some true) (hN:Nat.blt d x.N=true)
  (hT:∀ w,(underlying t).run x.P w=.ok (.slice e) w) (hs:∀ w,(sizeOf e).run x.P w=.ok (aH.sz α) w) (hs0:Nat.blt 0 (aH.sz α)=true)
  (hy:ev L y=some v) (hR:Rw H v cs xs) (hlh:l<=h) (hhx:h<=xs.length)
  (hh:∀ m,h<=m->GQ L hi xs.length m h) (hl:GQ L lo 0 h l)
  (k:∀ v' cs',Rw H v' cs' ((xs.drop l).take (h-l))->Value.oz v'=Value.oz v-l->W x ops Q rest H (.row v' T (aH.sz α) ((xs.drop l).take (h-l)).length cs'::M) ((d,v')::L)):
  W x ops Q (⟨some d,.slice t y lo hi none,ty,pos,aft,g⟩::rest) H (.row v T (aH.sz α) n cs::M) L:=by
 have hlen:((xs.drop l).take (h-l)).length=h-l:=by simp; omega
 refine s5 rfl hg hN λa w hsl ht=>?_;have hok:jM w T (aH.sz α) v n cs:=ht.ok _ (Qq ..);have hn:n=xs.length:=by
  have h1:=hR.rd.len;rw [hok.1] at h1;exact R7 (by simpa [Rv] using hs0) h1
 subst hn;have hrd:=(hR.rd.split h).1.split l;have hrd2:qC H ((cs.take (h*aH.sz α)).drop (l*aH.sz α)) ((xs.drop l).take (h-l)):=by
  have:=hrd.2
  rwa [SW (l:=xs)] at this
 have hcl:=hrd2.len;rcases hok.2 with ⟨rfl,h0⟩ | ⟨gb,off,cap,cur,rfl,hgb,hnc,hcm,hcs,htake⟩
 ·have hl0:l=0:=by omega
  have hh0:h=0:=by omega
  subst hl0; subst hh0
  refine ⟨.slice none 0 0,w,?_,H,_,?_,k _ [] (by simpa using (Rw.nil:Rw H (.slice none 0 0) [] ([]:List α))) rfl⟩
  ·have hh':=(hh 0 (QI _)).bd hsl
   rw [h0] at hh';have hr:=tV (P:=x.P) (w:=w) (len:=0) (cap:=0) (a:=none) (mx:=none) hT hs (.inl rfl) (.inl ⟨rfl,rfl⟩) hh' (hl.bd hsl);simp only [RG,Uh] at hr;simp only [execOp,hsl.ev hy,QA,TU,hr,Qx,QG]
  ·have:=ht.tail.Cd T (aH.sz α)
   simpa using this
 ·refine ⟨.slice (if cap=l then some ⟨gb,off,none⟩ else some ((⟨gb,off,none⟩:Addr).add (l*aH.sz α))) (h-l) (cap-l),w,?_,H,_,?_,k _ _ ⟨hrd2,_,_,_,rfl⟩ rfl⟩
  ·simp only [execOp,hsl.ev hy,QA,tV (mx:=none) (m:=cap) hT hs (.inl rfl) (.inl ⟨rfl,rfl⟩) ((hh cap (by omega)).bd hsl) (hl.bd hsl),TU,Qx,QG]
   split <;> rfl
  ·have hgr:w.grownBy w (bQ.zh (.row (.slice (some ⟨gb,off,none⟩) xs.length cap) T (aH.sz α) xs.length cs)):=⟨rfl,rfl,rfl,QI _,λ_ _ _=>rfl⟩
   rw [hlen];have hmul:l*aH.sz α+(cap-l)*aH.sz α=cap*aH.sz α:=by rw [<- QK]; congr 1; omega
   have hmul2:h*aH.sz α=l*aH.sz α+(h-l)*aH.sz α:=by rw [<- QK]; congr 1; omega
   have hmul3:h*aH.sz α<=xs.length*aH.sz α:=QF _ hhx;have hxl:cs.length=xs.length*aH.sz α:=hok.1
   by_cases hcl2:cap=l
   ·have e1:h-l=0:=by omega
    have e2:cap-l=0:=by omega
    rw [Qu hcl2,e1,e2];have e3:(cs.take (h*aH.sz α)).drop (l*aH.sz α)=[]:=by
     apply QU; rw [hcl,hlen,e1,RW]
    rw [e3];exact ht.Eu (r':=.row (.slice (some ⟨gb,off,none⟩) 0 0) T (aH.sz α) 0 []) hgr ⟨by simp,.inr ⟨gb,off,0,cur,rfl,hgb,QI _,by unfold maxLen; omega,by omega,by simp⟩⟩ (λc hc=>.inl hc)
   ·rw [Qs hcl2,Ru]
    refine ht.Eu (r':=.row (.slice (some ⟨gb,off+l*aH.sz α,none⟩) (h-l) (cap-l)) T (aH.sz α) (h-l) _) hgr ⟨?_,.inr ⟨gb,off+l*aH.sz α,cap-l,cur,rfl,hgb,by omega,by omega,by omega,?_⟩⟩ (λc hc=>.inl hc)
    ·rw [hcl,hlen]
    ·rw [<- htake,UW,Rq hmul3,SW,Sa]
     congr 1; omega
theorem uS {α:Type}[aH α] {t e T:TypeId}{n:Nat}{y:Operand}{lo hi:Option Operand}{v:Qj}{cs:List Qj}{xs:List α}{l h:Nat} (hg:gd ops L ⟨some d,.slice t y lo hi none,ty,pos,aft,g⟩=some true) (hN:Nat.blt d x.N=true)
  (hT:∀ w,(underlying t).run x.P w=.ok (.slice e) w) (hs:∀ w,(sizeOf e).run x.P w=.ok (aH.sz α) w) (hs0:Nat.blt 0 (aH.sz α)=true)
  (hy:ev L y=some v) (hR:Rw H v cs xs) (hlh:l<=h) (hhx:h<=xs.length)
  (hh:∀ m,h<=m->GQ L hi xs.length m h) (hl:GQ L lo 0 h l)
  (k:∀ v' cs',Rw H v' cs' ((xs.drop l).take (h-l))->W x ops Q rest H (.row v' T (aH.sz α) ((xs.drop l).take (h-l)).length cs'::M) ((d,v')::L)):
  W x ops Q (⟨some d,.slice t y lo hi none,ty,pos,aft,g⟩::rest) H (.row v T (aH.sz α) n cs::M) L:=
 HP hg hN hT hs hs0 hy hR hlh hhx hh hl (λv' cs' h _=>k v' cs' h)
end
def r8 {α:Type} (xs:List α) (l h:Nat):List α:=(xs.drop l).take (h-l)
theorem L_ {α:Type} (xs:List α) (l h:Nat):(r8 xs l h).length=min (h-l) (xs.length-l):=by simp [r8]
theorem Rw.room {α:Type}[aH α] {H:Hp}{v:Qj}{xs:List Qj}{l:List α} (h:Rw H v xs l) {k:Nat}{e:α} (he:l[k]? = some e) {o m:Nat} (hb:Nat.ble (o+m) (aH.sz α)=true):k*aH.sz α+o+m<=xs.length:=by
 have hk:k<l.length:=(Qo.1 he).1;have hkk:(k+1)*aH.sz α<=l.length*aH.sz α:=QF _ hk;have hb':o+m<=aH.sz α:=by simpa [Tb] using hb
 rw [h.rd.len];rw [QK,Ug] at hkk;omega
theorem HC (a:Addr) (i:Nat):a.add i=a.add (i+0):=rfl
theorem KF (a:Addr) (i o:Nat):(a.add i).add o=a.add (i+o):=add_add a i o
section
variable {x:Cx}{ops:Array Oper}{Q:lZ}{rest:List Oper}{H:Hp}{M M':List bQ}{L L':Env}
variable {d:Nat}{ty:TypeId}{pos:String}{aft:Array Edge}{g:Option (Nat×Bool)}
theorem HO {α : Type} [aH α] {t e : TypeId} {bytes : Nat} {z : Qj} {y u : Operand} {v vu : Qj} {l ys : List α}
    (hg : gd ops L ⟨some d, .call ⟨.builtin .append, #[y, u], #[t, t]⟩, ty, pos, aft, g⟩ = some true) (hN : Nat.blt d x.N = true)
    (hT : x.P.underlying t = some (.slice e)) (hi : NZ x.P e (aH.sz α) bytes z) (hz : z.cells.size = aH.sz α) (hs : Nat.blt 0 (aH.sz α) = true) (hb0 : Nat.blt 0 bytes = true)
    (hy : ev L y = some v) (hu : ev L u = some vu) (hx : aQ H v l) (hc : Value.oz v = l.length) (hR : aQ H vu ys) (hpos : Nat.blt 0 ys.length = true) (hb : ((l.length + ys.length) * bytes : Nat) ≤ 140737488355328)
    (k : ∀ v' xs', Rw H v' xs' (l ++ ys) → W x ops Q rest H (.row v' e (aH.sz α) (l ++ ys).length xs' :: M) ((d, v') :: L)) :
    W x ops Q (⟨some d, .call ⟨.builtin .append, #[y, u], #[t, t]⟩, ty, pos, aft, g⟩ :: rest) H M L := by
  obtain ⟨i, h1, h2, h3, h4⟩ := hi.ex;have hs' : 0 < aH.sz α := by simpa [Rv] using hs
  have hb0' : 0 < bytes := by simpa [Rv] using hb0
  have hpos' : 0 < ys.length := by simpa [Rv] using hpos
  have hmax : l.length + ys.length ≤ maxLen := by
    have : l.length + ys.length ≤ (l.length + ys.length) * bytes := Tm _ hb0';unfold maxLen; omega
  have hsmall : l.length + ys.length ≤ 9223372036854775807 := by unfold maxLen at hmax; omega
  refine s5 rfl hg hN fun a w hsl ht => ?_;obtain ⟨cs, hcs, hcase⟩ := hx.flat;obtain ⟨ds, hds, hcase2⟩ := hR.flat;rcases hcase2 with ⟨⟨ea, rfl⟩, rfl⟩ | ⟨hd2, b2, off2, c2, rfl⟩
  · simp at hpos'
  have hnews : ∀ j u, ds[j]? = some u → w.cell? ((⟨b2, off2, none⟩ : Addr).add j) = some u := fun j u hu => ((hd2 j u hu).at (x := x) (M := M)) w ht;have hdl := hds.len;have hge := Vw w (l.length + ys.length);have mk : ∀ (vi : Nat), qC H (cs ++ ds) (l ++ ys) → jM (w.drew.alloc (.cells (cs.toArray ++ ds.toArray ++ Builtin.zeroCells z.cells (grownCap w (l.length + ys.length) vi e - (l.length + ys.length))) e)) e (aH.sz α)
        (.slice (some ⟨w.heap.size, 0, none⟩) (l.length + ys.length) (grownCap w (l.length + ys.length) vi e)) (l.length + ys.length) (cs ++ ds) := by
    intro vi hrd;have hge := Vw w (l.length + ys.length) vi e;have hcm : grownCap w (l.length + ys.length) vi e ≤ maxLen := US w (l.length + ys.length) vi e hmax;have hlen : (cs ++ ds).length = (l.length + ys.length) * aH.sz α := by rw [hrd.len, QE]
    refine ⟨hlen, .inr ⟨w.heap.size, 0, _, _, rfl, UZ w.drew _, hge, hcm, ?_, ?_⟩⟩
    · have hlen' : cs.length + ds.length = (l.length + ys.length) * aH.sz α := by rw [← QE]; exact hlen
      simp only [Array.size_append, S1, size_zeroCells, hz, QL];rw [hlen', ← QK];rw [show l.length + ys.length + (grownCap w (l.length + ys.length) vi e - (l.length + ys.length)) = grownCap w (l.length + ys.length) vi e from by omega]
      exact QI _
    · simp only [RI, Vp, QR]
      rw [← QR, ← hlen];exact TI
  have fin : ∀ (vi : Nat), qC H (cs ++ ds) (l ++ ys) → (Builtin.append_ #[t, t] ty #[v, .slice (some ⟨b2, off2, none⟩) ys.length c2]).run x.P w = .ok (.slice (some ⟨w.heap.size, 0, none⟩) (l.length + ys.length) (grownCap w (l.length + ys.length) vi e))
        (w.drew.alloc (.cells (cs.toArray ++ ds.toArray ++ Builtin.zeroCells z.cells (grownCap w (l.length + ys.length) vi e - (l.length + ys.length))) e)) →
      ∃ v' w', (execOp a.eval ⟨some d, .call ⟨.builtin .append, #[y, u], #[t, t]⟩, ty, pos, aft, g⟩).run x.P w = .ok (.value v') w' ∧ ∃ H' M', St x.B x.w0 H' M' w' ∧ W x ops Q rest H' M' ((d, v') :: L) := by
    intro vi hrd hr;have hown := mk vi hrd;refine ⟨_, (w.drew.alloc (.cells (cs.toArray ++ ds.toArray ++ Builtin.zeroCells z.cells (grownCap w (l.length + ys.length) vi e - (l.length + ys.length))) e)), ?_, H, .row _ e (aH.sz α) (l ++ ys).length (cs ++ ds) :: M, ht.add (r' := .row (.slice (some ⟨w.heap.size, 0, none⟩) (l.length + ys.length) (grownCap w (l.length + ys.length) vi e)) e (aH.sz α) (l ++ ys).length (cs ++ ds)) ?_ ?_ ?_, k _ _ ⟨hrd, _, _, _, rfl⟩⟩
    · simp [execOp, resolve, invoke, builtin, hsl.ev hy, hsl.ev hu, hr]
    · exact ⟨rfl, rfl, rfl, by simp, fun k hk _ => heap_alloc_old w.drew _ (h := hk)⟩
    · show jM _ e (aH.sz α) _ (l ++ ys).length (cs ++ ds)
      rw [QE]; exact hown
    · intro b hb
      simp only [bQ.zh, Value.ownBlock, QH] at hb;omega
  rcases hcase with ⟨⟨ea, rfl⟩, rfl⟩ | ⟨hc1, b1, off1, c1, rfl⟩
  · have hcs' : cs = [] := hcs
    subst hcs';have hl0 : ([] : List α).length + ys.length = ys.length := by simp
    cases ea with
    | none =>
      have hr := run_append_nil (P := x.P) w t ty e i z hT h1 h4 ⟨b2, off2, none⟩ ys.length c2 ds (by rw [h2]; exact hdl) hnews (by omega) (by rw [hl0] at hsmall; omega) (by have hb' := hb; rw [hl0] at hb'; rw [h3]; omega)
      refine fin 0 (hcs.app hds) ?_;simp only [hl0];simpa using hr
    | some ea =>
      have hr := run_append_grow (P := x.P) w t ty e i z hT h1 h4 ea 0 0 [] (by simp) (by simp) ⟨b2, off2, none⟩ ys.length c2 ds (by rw [h2]; exact hdl) hnews (by omega) (by rw [hl0] at hsmall; omega) (Vu (by omega) (by rw [h3]; simpa using hb))
      refine fin 0 (hcs.app hds) ?_;simpa using hr
  · have hc' : c1 = l.length := hc
    subst hc';have hr := run_append_grow (P := x.P) w t ty e i z hT h1 h4 ⟨b1, off1, none⟩ l.length l.length cs (by rw [h2]; exact hcs.len) (fun j u hu => ((hc1 j u hu).at (x := x) (M := M)) w ht) ⟨b2, off2, none⟩ ys.length c2 ds (by rw [h2]; exact hdl) hnews (by omega) (by omega) (Vu (by omega) (by rw [h3]; exact hb))
    exact fin l.length (hcs.app hds) hr
theorem qv (α:Type) [aH α] {T e:TypeId}
  (hg:gd ops L ⟨some d,.buildSlice T 0 #[],ty,pos,aft,g⟩=some true) (hN:Nat.blt d x.N=true)
  (hT:∀ w,(underlying T).run x.P w=.ok (.slice e) w) (hs:∀ w,(sizeOf e).run x.P w=.ok (aH.sz α) w)
  (k:∀ v' xs',Rw H v' xs' ([]:List α)->W x ops Q rest H (.row v' e (aH.sz α) ([]:List α).length xs'::M) ((d,v')::L)):
  W x ops Q (⟨some d,.buildSlice T 0 #[],ty,pos,aft,g⟩::rest) H M L:=by
 refine s5 rfl hg hN λa w hsl ht=>?_;have hnr:∀ c w,(newRow e c).run x.P w=.ok ⟨w.heap.size,0,none⟩ (w.alloc (.cells c e)):=λc w=>by
  simp only [newRow,newObj,QA,QG,Sem.run,Qx,World.alloc]
 refine ⟨.slice (some ⟨w.heap.size,0,none⟩) 0 0,_,?_,H,_,St.newRow (α:=α) (cells:=[]) (l:=[]) (e:=e) ht rfl (by unfold maxLen; simp),k _ _ ⟨rfl,_,_,_,rfl⟩⟩
 simp only [execOp,Instr.buildSlice,QA,hT,hs,Qx,RW,Nat.not_lt_zero,gt_iff_lt,R_,Uh,QG];simp [Instr.fill,hnr,Array.range]
end
def kB (s:Qi):List U8:=s.data.toList.map λb=>⟨b.toNat⟩
section
variable {x:Cx}{ops:Array Oper}{Q:lZ}{rest:List Oper}{H:Hp}{M M':List bQ}{L L':Env}
variable {d:Nat}{ty:TypeId}{pos:String}{aft:Array Edge}{g:Option (Nat×Bool)}
def te (s:Qi) (cap:Nat):Array Qj:=s.data.map (λb:UInt8=>Value.int .u8 b.toNat)++Array.replicate (cap-s.size) (Value.int .u8 0)
theorem DT (w:World) (c:Array Qj) (e:TypeId):(w.alloc (.cells c e)).freeze ⟨w.heap.size,c.size,none⟩ 1=w.alloc (.cells c e (c.size,c.size+1)):=by
 have key:∀ (f:Obj->Obj),f (.cells c e)=.cells c e (c.size,c.size+1)->(w.heap.push (.cells c e)).modify w.heap.size f=w.heap.push (.cells c e (c.size,c.size+1)):=by
  intro f hf;apply Array.ext_getElem?;intro i;rw [Va,Array.getElem?_push,Array.getElem?_push]
  by_cases h:w.heap.size=i
  ·subst h; simp [hf]
  ·rw [Qs h,Qs (λq=>h q.symm),Qs (λq=>h q.symm)]
 unfold World.freeze;rw [Qs (by omega)]
 show ({ w with heap:=(w.heap.push (.cells c e)).modify w.heap.size _ }:World)={ w with heap:=w.heap.push (.cells c e (c.size,c.size+1)) }
 rw [key _ (by simp)]
theorem yG (s:Qi):(kB s).length=s.size:=by unfold kB; rw [Sj,Array.length_toList]; rfl
theorem zz {P:Program}{w:World}{e:TypeId}{s:Qi}:
  (Conv.stringToBytes e s).run P w=.ok (.slice (some ⟨w.heap.size,0,none⟩) s.size (grownCap w s.size 0 e))
   (w.drew.alloc (.cells (te s (grownCap w s.size 0 e)) e ((te s (grownCap w s.size 0 e)).size,(te s (grownCap w s.size 0 e)).size+1))):=by
 have hch:(choose (.appendCap s.size 0 e)).run P w=.ok (grownCap w s.size 0 e) w.drew:=by
  simp only [choose,Sem.run,Question.forced,Rx,R_]; rfl
 have hnr:∀ (c:Array Qj) (w:World),(newRow e c).run P w=.ok ⟨w.heap.size,0,none⟩ (w.alloc (.cells c e)):=λc w=>by
  simp only [newRow,newObj,QA,QG,Sem.run,Qx,World.alloc]
 have hms:∀ (c:Array Qj) (w:World),(markStringish ⟨w.heap.size,0,none⟩).run P (w.alloc (.cells c e))=.ok () (w.alloc (.cells c e (c.size,c.size+1))):=λc w=>by
  have hsh:(w.alloc (.cells c e)).shape? w.heap.size=some (e,c.size):=by
   have:(w.alloc (.cells c e)).heap[w.heap.size]? = some (.cells c e):=UZ w _;simp only [World.shape?,this]
  simp only [markStringish,shape,QA,Sem.run,hsh,Qx,Go.freeze,DT]
 simp only [Conv.stringToBytes,QA,hch,Qx,hnr];have:=hms (te s (grownCap w s.size 0 e)) w.drew;simp only [te] at this ⊢;rw [show (w.drew.heap.size)=w.heap.size from rfl] at this ⊢;rw [this]
 rfl
theorem vx {t u e:TypeId}{y:Operand}{s:Qi} (hg:gd ops L ⟨some d,.convert t u y,ty,pos,aft,g⟩=some true) (hN:Nat.blt d x.N=true)
  (ht:∀ w,(underlying t).run x.P w=.ok .string w) (hu:∀ w,(underlying u).run x.P w=.ok (.slice e) w) (he:∀ w,(underlying e).run x.P w=.ok (.int .u8) w)
  (hy:ev L y=some (.string s)) (hs:s.size<=maxLen)
  (k:∀ v H',H.le H'->aQ H' v (kB s)->W x ops Q rest H' M ((d,v)::L)):
  W x ops Q (⟨some d,.convert t u y,ty,pos,aft,g⟩::rest) H M L:=by
 refine s5 rfl hg hN λa w hsl h=>?_;have hge:=Vw w s.size 0 e;have hcm:grownCap w s.size 0 e<=maxLen:=US w s.size 0 e hs;have h':St x.B x.w0 H M w.drew:=h.drewN (w.drawn+1);generalize hcap:grownCap w s.size 0 e=cap at hge hcm;have ha:=(h'.alloc (.cells (te s cap) e ((te s cap).size,(te s cap).size+1))).freeze;refine ⟨.slice (some ⟨w.heap.size,0,none⟩) s.size cap,w.drew.alloc (.cells (te s cap) e ((te s cap).size,(te s cap).size+1)),?_,_,M,ha.2,k _ _ ha.1 (.inr ⟨w.heap.size,0,cap,_,e,_,?_,?_,hcm,Hp.xw _ _ _,?_,?_⟩)⟩
 ·have hr:=zz (P:=x.P) (w:=w) (e:=e) (s:=s)
  rw [hcap] at hr;simp only [execOp,hsl.ev hy,convert,QA,ht,hu,he,Qx,hr,QG]
 ·rw [yG]
 ·rw [yG]; exact hge
 ·have e0:s.size=s.data.size:=rfl
  simp [aH.sz,te];omega
 ·intro j el hel
  refine ⟨[.int .u8 el.n],rfl,λi c hc=>?_⟩;have hi:i=0:=by
   have:=(Qo.1 hc).1;simp at this; omega
  subst hi;simp at hc; subst hc
  have hj:=(Qo.1 hel).1;simp [kB] at hel hj;obtain ⟨b,hb,rfl⟩:=hel;simp only [aH.sz,QL,S9,RV,te];rw [Array.getElem?_append_left (by simpa using hj),Array.getElem?_map,hb]
  rfl
theorem Ef {P:Program}{w:World}{t e:TypeId}{o:Option Addr}{n c:Nat} (hT:∀ w,(underlying t).run P w=.ok (.slice e) w):(Op.equal t (.slice o n c) (.slice none 0 0)).run P w=.ok o.isNone w:=by
 have key:∀ k,(Op.equalIn (k+1) t (.slice o n c) (.slice none 0 0)).run P w=.ok o.isNone w:=λk=>by
  unfold Op.equalIn;cases o <;> simp [hT]
 exact key 9999
theorem rV {t e u:TypeId}{y z:Operand}{o:Option Addr}{n c:Nat} (hg:gd ops L ⟨some d,.binOp .eql t y z u,ty,pos,aft,g⟩=some true) (hN:Nat.blt d x.N=true)
  (hT:∀ w,(underlying t).run x.P w=.ok (.slice e) w) (hy:ev L y=some (.slice o n c)) (hz:ev L z=some (.slice none 0 0))
  (k:W x ops Q rest H M ((d,.bool o.isNone)::L)):
  W x ops Q (⟨some d,.binOp .eql t y z u,ty,pos,aft,g⟩::rest) H M L:=
 fG rfl hg hN (λa w hs _=>by
  simp only [execOp,hs.ev hy,hs.ev hz,QA,eqGuard,binOp,Ef hT,Qx,QG]
  rfl) k
end
section
variable {B:Nat}{w0 w:World}{H:Hp}{M:List bQ}
theorem St.eG {α:Type}[aH α] {v:Qj}{T:TypeId}{n:Nat}{xs:List Qj}{ys:List α}
  (h:St B w0 H (.row v T (aH.sz α) n xs::M) w) (hx:Rw H v xs ys) (hs:Nat.blt 0 (aH.sz α)=true):
  ∃ H',H.le H'/\St B w0 H' M w/\aQ H' v ys/\∀ M' w',St B w0 H' M' w'->St B w0 H (.row v T (aH.sz α) n xs::M') w':=by
 have hs':0<aH.sz α:=by simpa [Rv] using hs
 have hok:=h.ok _ (Qq ..);have hlo:=h.lo _ (Qq ..);obtain ⟨hl,hh⟩:=hok;have hn:n=ys.length:=by
  have:=hx.rd.len;rw [hl] at this;exact R7 hs' this
 subst hn;rcases hh with ⟨rfl,h0⟩ | ⟨g,off,cap,cur,rfl,hg,hnc,hcm,hcs,htake⟩
 ·refine ⟨H,Rh _,h.tail,.inl ⟨⟨_,rfl⟩,QU h0⟩,λM' w' h'=>?_⟩
  have hx0:xs=[]:=QU (by rw [hl,h0,RW])
  rw [h0,hx0];exact h'.Cd T _
 ·have h':St B w0 H (.obj g (.cells cur T (0,0))::M) w:=by
   refine ⟨h.below,h.le,h.uJ,?_,?_,h.nd⟩
   ·intro r hr
    rcases Q8.1 hr with rfl | hr
    ·exact hg
    ·exact h.tail.ok r hr
   ·intro r hr
    rcases Q8.1 hr with rfl | hr
    ·exact hlo
    ·exact h.tail.lo r hr
  obtain ⟨hle,hst⟩:=h'.freeze;refine ⟨_,hle,hst,.inr ⟨g,off,cap,cur,T,(0,0),rfl,hnc,hcm,Hp.xw _ _ _,hcs,?_⟩,λM' w' hb=>?_⟩
  ·intro k e he
   obtain ⟨c,h1,h2⟩:=(hx.rd.mono hle).get k e he;refine ⟨c,h1,λj d hd=>?_⟩;have:=h2 j d hd;rw [<- htake,Rc] at this
   split at this
   ·rw [Q7] at this; simpa [SS] using this
   ·cases this
  ·have ht:=St.Pr (H:=H) hb (hlo g (List.Mem.head _)).1 hle (hlo g (List.Mem.head _)).2 (Hp.xw _ _ _)
   refine ⟨ht.below,ht.le,ht.uJ,?_,?_,ht.nd⟩
   ·intro r hr
    rcases Q8.1 hr with rfl | hr
    ·exact ⟨hl,.inr ⟨g,off,cap,cur,rfl,ht.ok _ (Qq ..),hnc,hcm,hcs,htake⟩⟩
    ·exact ht.tail.ok r hr
   ·intro r hr
    rcases Q8.1 hr with rfl | hr
    ·exact ht.lo (.obj g _) (Qq ..)
    ·exact ht.tail.lo r hr
theorem cM {P:Program}{f:FuncId}{args:Array Qj}{H1:Hp}{r:bQ}{φ:List bQ->Qj->Prop}
  (back:∀ M' w',St B w0 H1 M' w'->St B w0 H (r::M') w') (h:Calls P f args w (ur B w0 λH' M' v=>H1=H'/\φ M' v)):
  Calls P f args w (ur B w0 λH' M' v=>H=H'/\∃ M2,r::M2=M'/\φ M2 v):=
 h.mono λe w' he=>by
  cases e with
  | returned v=>
   obtain ⟨H2,M',h1,h2,h3⟩:=he;subst h2;exact ⟨H,r::M',back M' w' h1,rfl,M',rfl,h3⟩
  | panicked c=>exact he
  | outgrown=>exact he
end
section
variable {x:Cx}{ops:Array Oper}{Q:lZ}{rest:List Oper}{H:Hp}{M M':List bQ}{L L':Env}
variable {d:Nat}{ty:TypeId}{pos:String}{aft:Array Edge}{g:Option (Nat×Bool)}
theorem Bx {fn:Fn}{first caps:List Operand}{vs cs:List Qj} (hg:gd ops L ⟨some d,.makeFunc fn first.toArray caps.toArray,ty,pos,aft,g⟩=some true) (hN:Nat.blt d x.N=true)
  (hv:yK L first=some vs) (hc:yK L caps=some cs) (k:W x ops Q rest H M ((d,.func fn vs.toArray cs.toArray)::L)):
  W x ops Q (⟨some d,.makeFunc fn first.toArray caps.toArray,ty,pos,aft,g⟩::rest) H M L:=
 fG rfl hg hN (λa w hs _=>by simp [execOp,Instr.makeFunc,hs.yK hv,hs.yK hc]) k
theorem mz {d:Nat}{y:Operand}{f:FuncId}{args:List Operand}{tys:Array TypeId}{vs fs cs:List Qj}
  {Φ:Hp->List bQ->Qj->Prop}
  (hcall:∀ as w,(callFunc f as).run x.P w=.ok (.enter f as) w)
  (hg:gd ops L ⟨some d,.call ⟨.value y,args.toArray,tys⟩,ty,pos,aft,g⟩=some true) (hN:Nat.blt d x.N=true)
  (hy:ev L y=some (.func (.func f) fs.toArray cs.toArray)) (hv:yK L args=some vs)
  (hc:∀ w,St x.B x.w0 H M w->Calls x.P f (fs++vs++cs).toArray w (ur x.B x.w0 Φ))
  (k:∀ v H' M',Φ H' M' v->W x ops Q rest H' M' ((d,v)::L)):
  W x ops Q (⟨some d,.call ⟨.value y,args.toArray,tys⟩,ty,pos,aft,g⟩::rest) H M L:=by
 intro a w hs ht;refine Ui λK hK=>?_;rw [Qu (hs.gd hg)];have hargs:args.toArray.map a.eval=vs.toArray:=by simp [hs.yK hv]
 have hr:(execOp a.eval ⟨some d,.call ⟨.value y,args.toArray,tys⟩,ty,pos,aft,g⟩).run x.P w=.ok (.enter f (fs++vs++cs).toArray) w:=by
  simp only [execOp,resolve,hargs,hs.ev hy,Deferred.ofValue,QA,QG,Qx,invoke];simp [hcall]
 unfold Oper.wp;rw [hr];simp only [Oper.upon];refine (hc w ht).mono λe w' he=>?_;cases e with
 | returned v=>
  obtain ⟨H',M',h1,h2⟩:=he;exact hK _ _ (k v H' M' h2 _ _ (hs.put hN) h1)
 | panicked c=>exact he.elim
 | outgrown=>exact he.elim
def tW (k:IntKind) (a b:Int):Int:=k.wrap (a*2 ^ (min b.toNat k.bits))
def oF (k:IntKind) (a b:Int):Int:=a.fdiv (2 ^ (min b.toNat k.bits))
theorem EI {t u:TypeId}{y z:Operand}{k k2:IntKind}{a b:Int} (hg:gd ops L ⟨some d,.binOp .shl t y z u,ty,pos,aft,g⟩=some true) (hN:Nat.blt d x.N=true)
  (hy:ev L y=some (.int k a)) (hz:ev L z=some (.int k2 b)) (hb:0<=b) (kk:W x ops Q rest H M ((d,.int k (tW k a b))::L)):
  W x ops Q (⟨some d,.binOp .shl t y z u,ty,pos,aft,g⟩::rest) H M L:=
 fG rfl hg hN (λc w hs _=>by
  have:¬ b<0:=by omega
  simp [execOp,hs.ev hy,hs.ev hz,eqGuard,binOp,Op.shift,this,tW]) kk
theorem ug {t u:TypeId}{y z:Operand}{k k2:IntKind}{a b:Int} (hg:gd ops L ⟨some d,.binOp .shr t y z u,ty,pos,aft,g⟩=some true) (hN:Nat.blt d x.N=true)
  (hy:ev L y=some (.int k a)) (hz:ev L z=some (.int k2 b)) (hb:0<=b) (kk:W x ops Q rest H M ((d,.int k (oF k a b))::L)):
  W x ops Q (⟨some d,.binOp .shr t y z u,ty,pos,aft,g⟩::rest) H M L:=
 fG rfl hg hN (λc w hs _=>by
  have:¬ b<0:=by omega
  simp [execOp,hs.ev hy,hs.ev hz,eqGuard,binOp,Op.shift,this,oF]) kk
theorem rh {t u:TypeId}{y:Operand}{k k2:IntKind}{n:Int} (hg:gd ops L ⟨some d,.convert t u y,ty,pos,aft,g⟩=some true) (hN:Nat.blt d x.N=true)
  (ht:∀ w,(underlying t).run x.P w=.ok (.int k2) w) (hu:∀ w,(underlying u).run x.P w=.ok (.int k) w) (hy:ev L y=some (.int k2 n))
  (kk:W x ops Q rest H M ((d,.int k (k.wrap n))::L)):
  W x ops Q (⟨some d,.convert t u y,ty,pos,aft,g⟩::rest) H M L:=
 fG rfl hg hN (λc w hs _=>by simp [execOp,hs.ev hy,convert,ht,hu,Conv.intToInt]) kk
theorem rP {t u:TypeId}{y z:Operand}{a b:Qi} (hg:gd ops L ⟨some d,.binOp .add t y z u,ty,pos,aft,g⟩=some true) (hN:Nat.blt d x.N=true)
  (hy:ev L y=some (.string a)) (hz:ev L z=some (.string b)) (hb:a.size+b.size<=maxLen) (kk:W x ops Q rest H M ((d,.string (a++b))::L)):
  W x ops Q (⟨some d,.binOp .add t y z u,ty,pos,aft,g⟩::rest) H M L:=
 fG rfl hg hN (λc w hs _=>by
  have:¬ (((a.size+b.size:Nat):Int) > i64.max):=by
   simp only [IntKind.max,IntKind.signed,IntKind.bits]; unfold maxLen at hb; simp; omega
  simp only [execOp,hs.ev hy,hs.ev hz,eqGuard,binOp,Op.stringOp,QA];simp only [Qs this];simp) kk
theorem FW {s:Qi}{k:Nat}{c:U8} (h:(kB s)[k]? = some c):∃ b:UInt8,s[k]? = some b/\c=⟨b.toNat⟩:=by
 simp only [kB,QS,T0] at h;obtain ⟨b,hb,rfl⟩:=h;refine ⟨b,?_,rfl⟩;obtain ⟨hk,e⟩:=Qo.1 hb;have hk':k<s.size:=by simpa using hk
 rw [getElem?_pos s k hk'];rw [<- e]; rfl
theorem yD {t:TypeId}{y z:Operand}{s:Qi}{kk:IntKind}{i:Int}{c:U8} (hg:gd ops L ⟨some d,.index t y z,ty,pos,aft,g⟩=some true) (hN:Nat.blt d x.N=true)
  (hT:∀ w,(underlying t).run x.P w=.ok .string w) (hy:ev L y=some (.string s)) (hz:ev L z=some (.int kk i)) (h0:0<=i) (he:(kB s)[i.toNat]? = some c)
  (k:W x ops Q rest H M ((d,.int .u8 c.n)::L)):
  W x ops Q (⟨some d,.index t y z,ty,pos,aft,g⟩::rest) H M L:=
 fG rfl hg hN (λa w hs _=>by
  obtain ⟨b,hb,rfl⟩:=FW he;simp [execOp,hs.ev hy,hs.ev hz,Instr.index,asIntOf,hT,h0,hb]) k
theorem r_ {t:TypeId}{y:Operand}{lo hi:Option Operand}{s:Qi}{l h:Nat} (hg:gd ops L ⟨some d,.slice t y lo hi none,ty,pos,aft,g⟩=some true) (hN:Nat.blt d x.N=true)
  (hT:∀ w,(underlying t).run x.P w=.ok .string w)
  (hy:ev L y=some (.string s)) (hh:GQ L hi s.size s.size h) (hl:GQ L lo 0 h l)
  (k:W x ops Q rest H M ((d,.string (s.extract l h))::L)):
  W x ops Q (⟨some d,.slice t y lo hi none,ty,pos,aft,g⟩::rest) H M L:=
 fG rfl hg hN (λa w hs _=>by
  have hb:(Instr.sliceBounds false s.size s.size (lo.map a.eval) (hi.map a.eval) none).run x.P w=.ok (l,h,s.size) w:=by
   rcases hh.bd hs with ⟨e1,rfl⟩ | ⟨kh,ih,e1,h0,h1,rfl⟩
   ·rcases hl.bd hs with ⟨e2,rfl⟩ | ⟨kl,il,e2,l0,l1,rfl⟩
    ·simp only [e1,e2,Instr.sliceBounds,QA,QG,Qx]
    ·simp only [e1,e2,Instr.sliceBounds,QA,QG,Qx,run_sliceBound l0 l1]
   ·rcases hl.bd hs with ⟨e2,rfl⟩ | ⟨kl,il,e2,l0,l1,rfl⟩
    ·simp only [e1,e2,Instr.sliceBounds,QA,QG,Qx,run_sliceBound h0 h1]
    ·simp only [e1,e2,Instr.sliceBounds,QA,QG,Qx,run_sliceBound h0 h1,run_sliceBound l0 l1]
  simp only [execOp,hs.ev hy,Instr.sliceAt,QA,hT,Qx,Instr.slice,TU,Option.isSome_none,Rx,R_,hb,QG]) k
end
class MV (α:Type) where
 mv:α->Qj
instance:MV Int:=⟨λn=>.int .i64 n⟩
instance:MV Bool:=⟨λb=>.bool b⟩
instance:MV Qi:=⟨λs=>.string s⟩
class xc (α:Type) [DecidableEq α] extends MV α where
 kind:TypeDesc
 same:∀ a b:α,Instr.sameNow kind (mv a) (mv b)=some (decide (a=b))
 bits:∀ a:α,Instr.sameBits 10000 (mv a) (mv a)=true
 check:∀ (P:Program) (t:TypeId) (e:Bool) (a:α) (w:World),(∀ w,(underlying t).run P w=.ok kind w)->(Instr.checkKey e 10000 t (mv a)).run P w=.ok () w
theorem DE (s t:Qi):(s == t)=decide (s=t):=by
 have h:(s == t)=(s.data == t.data):=rfl;rw [h,Bool.eq_iff_iff];simp only [beq_iff_eq,Q9];exact ⟨λe=>ByteArray.ext e,λe=>by rw [e]⟩
instance:xc Int where
 kind:=.int .i64
 same a b:=by simp [Instr.sameNow,DV,MV.mv]
 bits a:=by simp [Instr.sameBits,MV.mv]
 check P t e a w h:=by
  have key:∀ k,(Instr.checkKey e (k+1) t (.int .i64 a)).run P w=.ok () w:=λk=>by unfold Instr.checkKey; simp [h]
  exact key 9999
instance:xc Qi where
 kind:=.string
 same a b:=by simp [Instr.sameNow,DE,MV.mv]
 bits a:=by simp [Instr.sameBits,MV.mv,DE]
 check P t e a w h:=by
  have key:∀ k,(Instr.checkKey e (k+1) t (.string a)).run P w=.ok () w:=λk=>by unfold Instr.checkKey; simp [h]
  exact key 9999
section
variable {κ ν:Type}[DecidableEq κ] [xc κ] [MV ν]
structure sD (es:Array MapEntry) (c:Nat) (l:List (κ×ν)):Prop where
 eq:es.toList.map (λe=>(e.key,e.val))=l.map λp=>(MV.mv p.1,MV.mv p.2)
 nd:(es.toList.map (·.born)).Nodup
 lt:∀ e ∈ es.toList,e.born<c
def wH:List (κ×ν)->κ->Nat->Option (Nat×ν)
 | [],_,_=>none
 | (a,v)::r,k,i=>if a=k then some (i,v) else wH r k (i+1)
def rL (l:List (κ×ν)) (k:κ):Option ν:=(wH l k 0).map (·.2)
def vr (l:List (κ×ν)) (k:κ) (v:ν):List (κ×ν):=match wH l k 0 with
 | some (i,_)=>l.set i (k,v)
 | none=>l++[(k,v)]
theorem sD.nil:sD #[] 0 ([]:List (κ×ν)):=⟨rfl,by simp,by simp⟩
theorem BR (k:κ):∀ (es:List MapEntry) (l:List (κ×ν)) (i:Nat),es.map (λe=>(e.key,e.val))=l.map (λp=>(MV.mv p.1,MV.mv p.2)) ->
  Instr.findNow (xc.kind κ) (MV.mv k) es i=some ((wH l k i).map λp=>(p.1,MV.mv p.2))
 | [],[],i,_=>rfl
 | [],_::_,i,h=>by simp at h
 | _::_,[],i,h=>by simp at h
 | e::es,(a,v)::l,i,h=>by
  simp only [SR,List.cons.injEq,SU] at h;obtain ⟨⟨h1,h2⟩,h3⟩:=h;unfold Instr.findNow;rw [h1,xc.same]
  by_cases hk:k=a
  ·subst hk; simp [wH,h2]
  ·simp only [hk,Vm,wH,Qs (λe:a=k=>hk e.symm)]
   exact BR k es l (i+1) h3
theorem run_findKey {P:Program}{w:World}{t:TypeId}{k:κ}{es:Array MapEntry}{c:Nat}{l:List (κ×ν)} (h:sD es c l) (hK:∀ w,(underlying t).run P w=.ok (xc.kind κ) w):
  (Instr.findKey t (MV.mv k) es.toList).run P w=.ok ((wH l k 0).map λp=>(p.1,MV.mv p.2)) w:=by
 simp only [Instr.findKey,QA,hK,Qx,BR k es.toList l 0 h.eq,QG]
theorem Gn:∀ {l:List (κ×ν)}{k:κ}{i j:Nat}{v:ν},wH l k i=some (j,v)->i<=j/\j<i+l.length/\l[j-i]? = some (k,v)
 | [],k,i,j,v,h=>by simp [wH] at h
 | (a,u)::l,k,i,j,v,h=>by
  unfold wH at h
  split at h
  ·rename_i e; subst e
   simp only [QH,SU] at h;obtain ⟨rfl,rfl⟩:=h;simp
  ·obtain ⟨h1,h2,h3⟩:=Gn h
   refine ⟨by omega,by simp; omega,?_⟩
   rw [show j-i=(j-(i+1))+1 by omega,List.getElem?_cons_succ]; exact h3
end
section
variable {x:Cx}{ops:Array Oper}{Q:lZ}{rest:List Oper}{H:Hp}{M M':List bQ}{L L':Env}
variable {d:Nat}{ty:TypeId}{pos:String}{aft:Array Edge}{g:Option (Nat×Bool)}
variable {κ ν:Type}[DecidableEq κ] [xc κ] [MV ν]
theorem Aa {t:TypeId} (hg:gd ops L ⟨some d,.makeMap t none,ty,pos,aft,g⟩=some true) (hN:Nat.blt d x.N=true)
  (k:∀ b,W x ops Q rest H (.obj b (.map #[] 0)::M) ((d,.map (some b))::L)):
  W x ops Q (⟨some d,.makeMap t none,ty,pos,aft,g⟩::rest) H M L:=
 s5 rfl hg hN (λc w hs ht=>⟨_,w.alloc (.map #[] 0),by
  simp only [execOp,Instr.makeMap,TU,newObj,QA,QG,Sem.run,Qx,World.alloc],_,_,ht.alloc _,k _⟩)
theorem w4 {P:Program}{w:World}{b:Nat}{es:Array MapEntry}{c:Nat} (h:w.heap[b]? = some (.map es c)):(getObj b).run P w=.ok (.map es c) w:=by
 simp [getObj,Sem.run,h]
theorem GH {P:Program}{w:World}{t key e:TypeId}{b c:Nat}{es:Array MapEntry}{l:List (κ×ν)}{k:κ}{z:ν}{ok:Bool} (hb:w.heap[b]? = some (.map es c)) (h:sD es c l)
  (hT:∀ w,(underlying t).run P w=.ok (.map key e) w) (hK:∀ w,(underlying key).run P w=.ok (xc.kind κ) w) (hz:∀ w,(zeroValue e).run P w=.ok (MV.mv z) w):
  (Instr.lookup t (.map (some b)) (MV.mv k) ok).run P w=.ok (if ok then .tuple #[MV.mv ((rL l k).getD z),.bool (rL l k).isSome] else MV.mv ((rL l k).getD z)) w:=by
 simp only [Instr.lookup,QA,hT,Qx,w4 hb,QG,xc.check P key _ k w hK,run_findKey h hK];unfold rL;cases hm:wH l k 0 with
 | none=>simp only [TU,QA,hz,Qx,QG]; rfl
 | some p=>simp only [RR,QG,Qx]; rfl
theorem Bw {t key e:TypeId}{b c:Nat}{y u:Operand}{es:Array MapEntry}{l:List (κ×ν)}{k:κ}{z:ν}{vk v:Qj} (hm:bQ.obj b (.map es c) ∈ M) (h:sD es c l)
  (hg:gd ops L ⟨some d,.lookup t y u false,ty,pos,aft,g⟩=some true) (hN:Nat.blt d x.N=true)
  (hT:∀ w,(underlying t).run x.P w=.ok (.map key e) w) (hK:∀ w,(underlying key).run x.P w=.ok (xc.kind κ) w) (hz:∀ w,(zeroValue e).run x.P w=.ok (MV.mv z) w)
  (hy:ev L y=some (.map (some b))) (hu:ev L u=some vk) (hvk:vk=MV.mv k) (hv:MV.mv ((rL l k).getD z)=v)
  (kk:W x ops Q rest H M ((d,v)::L)):
  W x ops Q (⟨some d,.lookup t y u false,ty,pos,aft,g⟩::rest) H M L:=
 fG rfl hg hN (λa w hs ht=>by
  subst hvk; subst hv
  simp only [execOp,hs.ev hy,hs.ev hu,QA,GH (ok:=false) (ht.vS hm) h hT hK hz,Qx,QG]; rfl) kk
theorem xA (w:World) (b:Nat) (o:Obj):w.grownBy { w with heap:=w.heap.setIfInBounds b o } (some b):=
 ⟨rfl,rfl,rfl,by simp,λk _ hne=>by
  simp only [T6];rw [Qs (λe=>hne (by rw [e]))]⟩
theorem xt {t key e:TypeId}{b c:Nat}{y u q:Operand}{es:Array MapEntry}{l:List (κ×ν)}{k:κ}{v:ν}{vk vv:Qj} (h:sD es c l)
  (hg:gd ops L ⟨none,.mapUpdate t y u q,ty,pos,aft,g⟩=some true)
  (hT:∀ w,(underlying t).run x.P w=.ok (.map key e) w) (hK:∀ w,(underlying key).run x.P w=.ok (xc.kind κ) w)
  (hy:ev L y=some (.map (some b))) (hu:ev L u=some vk) (hvk:vk=MV.mv k) (hq:ev L q=some vv) (hvv:vv=MV.mv v)
  (kk:∀ es' c',sD es' c' (vr l k v)->W x ops Q rest H (.obj b (.map es' c')::M) L):
  W x ops Q (⟨none,.mapUpdate t y u q,ty,pos,aft,g⟩::rest) H (.obj b (.map es c)::M) L:=
 DA rfl hg (λa w hs ht=>by
  subst hvk; subst hvv
  have hb:=ht.vS (Qq ..);have hlt:b<w.heap.size:=(RN.1 hb).1;have hset:∀ o,(setObj b o).run x.P w=.ok () { w with heap:=w.heap.setIfInBounds b o }:=λo=>by simp [setObj,Sem.run,hb]
  have fin:∀ es' c',sD es' c' (vr l k v)->∃ H' M',St x.B x.w0 H' M' { w with heap:=w.heap.setIfInBounds b (.map es' c') }/\W x ops Q rest H' M' L:=λes' c' hr=>
   ⟨H,_,ht.Eu (r':=.obj b (.map es' c')) (xA w b _) (by simp [bQ.ok,hlt]) (λ_ hc=>.inl hc),kk es' c' hr⟩
  have hlen:es.size=l.length:=by have:=Q6 List.length h.eq; simpa using this
  cases hm:wH l k 0 with
  | none=>
   refine ⟨_,?_,fin (es.push { key:=MV.mv k,val:=MV.mv v,born:=c }) (c+1) ?_⟩
   ·simp only [execOp,hs.ev hy,hs.ev hu,hs.ev hq,Instr.mapUpdate,QA,hT,Qx,w4 hb,xc.check x.P key _ k w hK,run_findKey h hK,hm,TU,hset,QG]
   ·refine ⟨?_,?_,λe he=>?_⟩
    ·unfold vr
     rw [hm];simp only [Array.toList_push,RM,SR,UA];rw [show es.toList.map _=_ from h.eq]
    ·simp only [Array.toList_push,RM,SR,UA]
     rw [Rg];refine ⟨h.nd,by simp,λa ha b hb e=>?_⟩
     simp at hb; subst hb; subst e
     obtain ⟨y,hy,rfl⟩:=Ra.1 ha;exact Nat.lt_irrefl _ (h.lt y hy)
    ·simp only [Array.toList_push,QC,QZ] at he
     rcases he with he | rfl
     ·exact Nat.lt_succ_of_lt (h.lt e he)
     ·exact Sd _
  | some p=>
   obtain ⟨i,u0⟩:=p;obtain ⟨_,hi,hget⟩:=Gn hm;simp only [QL,Tv] at hi hget;have hi':i<es.size:=by omega
   have hkey:es[i].key=MV.mv k:=by
    have h1:(es.toList.map λe=>(e.key,e.val))[i]? = some (MV.mv k,MV.mv u0):=by rw [show es.toList.map _=_ from h.eq,QS,hget]; rfl
    rw [QS] at h1;simp [hi'] at h1;exact h1.1
   refine ⟨_,?_,fin (es.modify i λe=>{ e with key:=MV.mv k,val:=MV.mv v }) c ?_⟩
   ·have hg2:((es[i]?).map (·.key)).getD (MV.mv k)=MV.mv k:=by simp [hi',hkey]
    simp only [execOp,hs.ev hy,hs.ev hu,hs.ev hq,Instr.mapUpdate,QA,hT,Qx,w4 hb,xc.check x.P key _ k w hK,run_findKey h hK,hm,RR,hg2,Instr.keyThatStays,xc.bits,Uh,hset,QG]
   ·have hbn:(es.modify i λe=>{ e with key:=MV.mv k,val:=MV.mv v }).toList.map (·.born)=es.toList.map (·.born):=by
     simp only [Array.toList_modify];apply R8;intro j;rw [QS,QS,List.getElem?_modify]
     by_cases e:i=j
     ·subst e; cases es.toList[i]? <;> simp
     ·simp [Qs e]
    refine ⟨?_,by rw [hbn]; exact h.nd,λe he=>?_⟩
    rotate_left
    ·have h1:e.born ∈ es.toList.map (·.born):=by rw [<- hbn]; exact Ra.2 ⟨e,he,rfl⟩
     obtain ⟨y,hy,hyb⟩:=Ra.1 h1;rw [<- hyb]; exact h.lt y hy
    unfold vr;rw [hm];simp only [Array.toList_modify];apply R8;intro j;rw [QS,QS,List.getElem?_modify,T5];have hj:(es.toList.map λe=>(e.key,e.val))[j]? = (l.map λp=>(MV.mv p.1,MV.mv p.2))[j]? := by rw [show es.toList.map _=_ from h.eq]
    rw [QS,QS] at hj
    by_cases e:i=j
    ·subst e
     simp [hi',hi]
    ·simp only [Qs e]
     simpa using hj)
end
section
variable {x:Cx}{ops:Array Oper}{Q:lZ}{rest:List Oper}{H:Hp}{M M':List bQ}{L L':Env}
variable {d:Nat}{ty:TypeId}{pos:String}{aft:Array Edge}{g:Option (Nat×Bool)}
theorem y6 {t:TypeId}{y:Operand}{f:Nat}{cs:List Qj}{v:Qj}{fs:Array Field}{fd:Field} (hg:gd ops L ⟨some d,.field t y f,ty,pos,aft,g⟩=some true) (hN:Nat.blt d x.N=true)
  (hT:∀ w,(underlying t).run x.P w=.ok (.struct fs) w) (hf:fs[f]? = some fd) (hA:∀ w,(isAgg fd.type).run x.P w=.ok false w)
  (hy:ev L y=some (.agg cs.toArray)) (hv:cs[fd.offset]? = some v) (k:W x ops Q rest H M ((d,v)::L)):
  W x ops Q (⟨some d,.field t y f,ty,pos,aft,g⟩::rest) H M L:=
 fG rfl hg hN (λa w hs ht=>by simp [execOp,hs.ev hy,Instr.field,hT,hf,asAgg,part,hA,hv]) k
theorem Jk {t e:TypeId}{y z:Operand}{n sz:Nat}{cs:List Qj}{v:Qj}{kk:IntKind}{i:Int} (hg:gd ops L ⟨some d,.index t y z,ty,pos,aft,g⟩=some true) (hN:Nat.blt d x.N=true)
  (hT:∀ w,(underlying t).run x.P w=.ok (.array n e) w) (hA:∀ w,(isAgg e).run x.P w=.ok false w) (hn:∀ w,(sizeOf e).run x.P w=.ok sz w)
  (hy:ev L y=some (.agg cs.toArray)) (hz:ev L z=some (.int kk i)) (h0:0<=i) (h1:i.toNat<n) (hv:cs[i.toNat*sz]? = some v) (k:W x ops Q rest H M ((d,v)::L)):
  W x ops Q (⟨some d,.index t y z,ty,pos,aft,g⟩::rest) H M L:=
 fG rfl hg hN (λa w hs ht=>by
  have h1':i<(n:Int):=by omega
  simp [execOp,hs.ev hy,hs.ev hz,Instr.index,asIntOf,hT,h0,h1',hn,part,hA,hv]) k
def I5 (P:Program) (d:Nat) (xs ys:Array Qj) (T:TypeId) (o:Nat) (b:Bool):Prop:=
 ∀ w,∃ u v,(part T xs o).run P w=.ok u w/\(part T ys o).run P w=.ok v w/\(Op.equalIn d T u v).run P w=.ok b w
def Pz (P:Program) (d:Nat) (xs ys:Array Qj):List Field->List Bool->Prop
 | [],[]=>True
 | f::fs,b::bs=>f.name ≠ "_" /\ I5 P d xs ys f.type f.offset b/\Pz P d xs ys fs bs
 | _,_=>False
theorem Av {P:Program}{t:TypeId}{fs:Array Field}{xs ys:Array Qj}{w:World}{d:Nat}{bs:List Bool} (hT:∀ w,(underlying t).run P w=.ok (.struct fs) w) (hs:P.stoodInHeld t=false)
  (h:Pz P d xs ys fs.toList bs):(Op.equalIn (d+1) t (.agg xs) (.agg ys)).run P w=.ok (bs.all id) w:=by
 unfold Op.equalIn;simp only [QA,hT,Qx,program,Sem.run,hs,Rx,R_];rw [<- Array.forIn_toList]
 revert h
 generalize fs.toList=l;intro h
 induction l generalizing bs with
 | nil=>
  cases bs with
  | nil=>simp
  | cons b bs=>exact h.elim
 | cons f l ih=>
  cases bs with
  | nil=>exact h.elim
  | cons b bs=>
   obtain ⟨h1,h2,h3⟩:=h;obtain ⟨u,v,q1,q2,q3⟩:=h2 w;rw [List.forIn_cons];simp only [Qu h1,QA,q1,q2,q3,Qx];cases b with
   | false=>simp
   | true=>
    simp only [Bool.not_true,Rx,R_,QG,Qx];have:=ih h3;simpa using this
theorem C7 {P:Program}{d T o:Nat}{xs ys:Array Qj}{k:IntKind}{m n:Int} (hA:∀ w,(isAgg T).run P w=.ok false w) (hT:∀ w,(underlying T).run P w=.ok (.int k) w) (hx:xs[o]? = some (.int k m)) (hy:ys[o]? = some (.int k n)):
  I5 P (d+1) xs ys T o (decide (m=n)):=λw=>by
 refine ⟨_,_,by simp only [part,QA,hA,Qx,Rx,R_,hx,QG]; rfl,by simp only [part,QA,hA,Qx,Rx,R_,hy,QG]; rfl,?_⟩
 unfold Op.equalIn;simp [hT,DV]
theorem C8 {P:Program}{d T o:Nat}{xs ys:Array Qj}{m n:Qi} (hA:∀ w,(isAgg T).run P w=.ok false w) (hT:∀ w,(underlying T).run P w=.ok .string w) (hx:xs[o]? = some (.string m)) (hy:ys[o]? = some (.string n)):
  I5 P (d+1) xs ys T o (decide (m=n)):=λw=>by
 refine ⟨_,_,by simp only [part,QA,hA,Qx,Rx,R_,hx,QG]; rfl,by simp only [part,QA,hA,Qx,Rx,R_,hy,QG]; rfl,?_⟩
 unfold Op.equalIn;simp [hT,DE]
theorem K_ {t u:TypeId}{y z:Operand}{xs ys:List Qj}{b:Bool} (hg:gd ops L ⟨some d,.binOp .eql t y z u,ty,pos,aft,g⟩=some true) (hN:Nat.blt d x.N=true)
  (hE:x.P.eqGuardType x.P.depth t=false) (hy:ev L y=some (.agg xs.toArray)) (hz:ev L z=some (.agg ys.toArray)) (h:∀ w,(Op.equalIn 10000 t (.agg xs.toArray) (.agg ys.toArray)).run x.P w=.ok b w)
  (k:W x ops Q rest H M ((d,.bool b)::L)):W x ops Q (⟨some d,.binOp .eql t y z u,ty,pos,aft,g⟩::rest) H M L:=
 fG rfl hg hN (λc w hs _=>by
  have h':(Op.equal t (.agg xs.toArray) (.agg ys.toArray)).run x.P w=.ok b w:=h w;have hp:∀ w,(program:Sem Program).run x.P w=.ok x.P w:=λ_=>rfl;simp only [execOp,hs.ev hy,hs.ev hz,QA,eqGuard,binOp];simp [h',hp,hE]) k
theorem ng {t e u:TypeId}{y z:Operand}{a:Option Addr} (hg:gd ops L ⟨some d,.binOp .eql t y z u,ty,pos,aft,g⟩=some true) (hN:Nat.blt d x.N=true)
  (hT:∀ w,(underlying t).run x.P w=.ok (.pointer e) w) (hy:ev L y=some (.pointer a)) (hz:ev L z=some (.pointer none))
  (k:W x ops Q rest H M ((d,.bool a.isNone)::L)):W x ops Q (⟨some d,.binOp .eql t y z u,ty,pos,aft,g⟩::rest) H M L:=
 fG rfl hg hN (λc w hs _=>by
  have key:∀ k,(Op.equalIn (k+1) t (.pointer a) (.pointer none)).run x.P w=.ok a.isNone w:=λk=>by
   unfold Op.equalIn;cases a <;> simp [hT]
  have h':(Op.equal t (.pointer a) (.pointer none)).run x.P w=.ok a.isNone w:=key 9999;simp only [execOp,hs.ev hy,hs.ev hz,QA,eqGuard,binOp];simp [h']) k
theorem Bu {t u:TypeId}{y z:Operand}{a b:Bool} (hg:gd ops L ⟨some d,.binOp .eql t y z u,ty,pos,aft,g⟩=some true) (hN:Nat.blt d x.N=true)
  (hT:∀ w,(underlying t).run x.P w=.ok .bool w) (hy:ev L y=some (.bool a)) (hz:ev L z=some (.bool b))
  (k:W x ops Q rest H M ((d,.bool (decide (a=b)))::L)):W x ops Q (⟨some d,.binOp .eql t y z u,ty,pos,aft,g⟩::rest) H M L:=
 fG rfl hg hN (λc w hs _=>by
  have e:(a == b)=decide (a=b):=by cases a <;> cases b <;> rfl
  have key:∀ k,(Op.equalIn (k+1) t (.bool a) (.bool b)).run x.P w=.ok (decide (a=b)) w:=λk=>by
   unfold Op.equalIn;simp [hT,e]
  have h':(Op.equal t (.bool a) (.bool b)).run x.P w=.ok (decide (a=b)) w:=key 9999;simp only [execOp,hs.ev hy,hs.ev hz,QA,eqGuard,binOp];simp [h']) k
theorem EG {t u:TypeId}{y z:Operand}{a b:Bool} (hg:gd ops L ⟨some d,.binOp .neq t y z u,ty,pos,aft,g⟩=some true) (hN:Nat.blt d x.N=true)
  (hT:∀ w,(underlying t).run x.P w=.ok .bool w) (hy:ev L y=some (.bool a)) (hz:ev L z=some (.bool b))
  (k:W x ops Q rest H M ((d,.bool (!decide (a=b)))::L)):W x ops Q (⟨some d,.binOp .neq t y z u,ty,pos,aft,g⟩::rest) H M L:=
 fG rfl hg hN (λc w hs _=>by
  have e:(a == b)=decide (a=b):=by cases a <;> cases b <;> rfl
  have key:∀ k,(Op.equalIn (k+1) t (.bool a) (.bool b)).run x.P w=.ok (decide (a=b)) w:=λk=>by
   unfold Op.equalIn;simp [hT,e]
  have h':(Op.equal t (.bool a) (.bool b)).run x.P w=.ok (decide (a=b)) w:=key 9999;simp only [execOp,hs.ev hy,hs.ev hz,QA,eqGuard,binOp];simp [h']) k
end
def Gm (acc:List Nat) (o:Oper):Nat:=(jL o).foldl (λm j=>m ||| ((1 <<< j) ||| acc.getD j 0)) 0
def B9:List Nat->List Oper->List Nat
 | acc,[]=>acc
 | acc,o::r=>B9 (acc++[Gm acc o]) r
theorem B8 {acc:List Nat}{j:Nat}:∀ (ws:List Nat) (z:Nat),(ws.foldl (λm j=>m ||| ((1 <<< j) ||| acc.getD j 0)) z).testBit j=true ->
  z.testBit j=true\/∃ q ∈ ws,j=q\/(acc.getD q 0).testBit j=true
 | [],z,h=>.inl h
 | q::ws,z,h=>by
  rcases B8 ws _ h with h | ⟨r,hr,h⟩
  ·rw [Nat.testBit_or,Nat.testBit_or,RZ,RZ] at h
   rcases h with h | h | h
   ·exact .inl h
   ·refine .inr ⟨q,Qq ..,.inl ?_⟩
    rw [Nat.shiftLeft_eq,Ug,Nat.testBit_two_pow] at h;simpa using (Qr h).symm
   ·exact .inr ⟨q,Qq ..,.inr h⟩
  ·exact .inr ⟨r,Qw _ hr,h⟩
theorem xK {l:List Oper}{listed:Nat->Prop} (dc:∀ i o,l[i]? = some o->listed i->∀ j ∈ jL o,listed j):
  ∀ (r:List Oper) (acc:List Nat),(∀ i o,r[i]? = some o->l[acc.length+i]? = some o) ->
   (∀ i,i<acc.length->∀ o,l[i]? = some o->(∀ q ∈ jL o,listed q)->∀ j,(acc.getD i 0).testBit j=true->listed j) ->
   ∀ i,i<acc.length+r.length->∀ o,l[i]? = some o->(∀ q ∈ jL o,listed q)->∀ j,((B9 acc r).getD i 0).testBit j=true->listed j
 | [],acc,_,h,i,hi,o,ho,hw,j,hj=>h i (by simpa using hi) o ho hw j hj
 | p::r,acc,hr,h,i,hi,o,ho,hw,j,hj=>by
  refine xK dc r (acc++[Gm acc p]) (λk q hk=>?_) ?_ i (by simp at hi ⊢; omega) o ho hw j hj
  ·have:=hr (k+1) q (by simpa using hk)
   rw [QE,Rk]
   rwa [show acc.length+1+k=acc.length+(k+1) by omega]
  ·intro k hk q hq hqw b hb
   by_cases hkl:k<acc.length
   ·refine h k hkl q hq hqw b ?_
    rw [QW,RA hkl] at hb;rw [QW]; exact hb
   ·have hke:k=acc.length:=by simp at hk; omega
    subst hke;have hp:p=q:=by
     have:=hr 0 p rfl;rw [RV,hq] at this;exact (Qp this).symm
    subst hp;rw [QW,QX (QI _),RG] at hb;simp only [List.getElem?_cons_zero,Sp] at hb;unfold Gm at hb;rcases B8 _ _ hb with h0 | ⟨q,hqm,rfl | hqb⟩
    ·simp at h0
    ·exact hqw b hqm
    ·by_cases hql:q<acc.length
     ·have hlq:=hqw q hqm
      cases hoq:l[q]? with
      | none=>
       have:acc.length<l.length:=(Qo.1 hq).1;have:=List.getElem?_eq_none_iff.1 hoq;omega
      | some oq=>exact h q hql oq hoq (dc q oq hoq hlq) b hqb
     ·rw [QW,Rj (by omega)] at hqb
      simp at hqb
def vj (l:List Oper) (m:Nat):Bool:=
 l.zipIdx.all (λp=>(jL p.1).all λj=>Nat.blt j p.2) &&
 l.zipIdx.all λp=>Nat.blt p.2 m || (List.range p.2).all λj=>((B9 [] l).getD p.2 0).testBit j
theorem rA {l:List Oper}{m:Nat} (hB:vj l m=true) {i:Nat}{o:Oper} (ho:l[i]? = some o):∀ j ∈ jL o,j<i:=by
 unfold vj at hB;rw [R6,Rz] at hB;have:=hB.1 (o,i) (by rw [List.mem_zipIdx_iff_getElem?]; simpa using ho)
 simpa only [Rz,Rv] using this
theorem Cl {l:List Oper}{m:Nat} (hB:vj l m=true) {listed:Nat->Prop} (dc:∀ i o,l[i]? = some o->listed i->∀ j ∈ jL o,listed j)
  {i:Nat}{o:Oper} (ho:l[i]? = some o) (hm:m<=i) (hw:∀ q ∈ jL o,listed q):∀ j,j<i->listed j:=by
 unfold vj at hB;rw [R6,Rz,Rz] at hB;have h2:=hB.2 (o,i) (by rw [List.mem_zipIdx_iff_getElem?]; simpa using ho)
 simp only [RZ,Rv,Rz,Rf] at h2;have hi:i<l.length:=(Qo.1 ho).1;intro j hj;rcases h2 with h2 | h2
 ·omega
 ·exact xK dc l [] (λk q hk=>by simpa using hk) (λk hk=>by simp at hk) i (by simpa using hi) o ho hw j (h2 j hj)
def tX:List Nat->(Nat->List bQ)->List bQ->List bQ
 | [],_,M=>M
 | c::cs,R,M=>R c++tX cs R M
theorem zB (cs:List Nat) (R:Nat->List bQ) (M:List bQ):tX cs R M=cs.flatMap R++M:=by
 induction cs with
 | nil=>rfl
 | cons c cs ih=>rw [tX,ih,RF,QR]
def CB (R:Nat->List bQ) (i:Nat) (rs:List bQ):Nat->List bQ:=λk=>bif Nat.beq k i then rs else R k
theorem Aw (R:Nat->List bQ) (i:Nat) (rs:List bQ):CB R i rs i=rs:=by simp [CB]
theorem A_ (R:Nat->List bQ) (i k:Nat) (rs:List bQ) (h:k≠i):CB R i rs k=R k:=by
 unfold CB;cases hb:Nat.beq k i with
 | false=>rfl
 | true=>exact absurd (SK hb) h
abbrev MW:=Nat->Hp->List bQ->Qj->Prop
def LY:Option Nat->Qj->Env->Env
 | some t,v,L=>(t,v)::L
 | none,_,L=>L
def Hi (l:List Oper) (j:Nat):Option Nat:=match l[j]? with
 | none=>none
 | some o=>match o.dst with
  | some _=>none
  | none=>match o.op with
   | .store _ (.tmp s) _=>bif (jL o).any (λw=>match (l[w]?).bind (·.dst) with
    | some u=>Nat.beq u s
    | none=>false) then some s else none
   | _=>none
theorem Nu {l:List Oper}{j s:Nat} (h:Hi l j=some s):∃ o,l[j]? = some o/\o.dst=none/\∃ w ∈ jL o,(l[w]?).bind (·.dst)=some s:=by
 unfold Hi at h
 split at h
 ·cases h
 ·rename_i o ho
  split at h
  ·cases h
  ·rename_i hd
   split at h
   ·rename_i T s' z hop
    cases hb:(jL o).any (λw=>match (l[w]?).bind (·.dst) with
     | some u=>Nat.beq u s'
     | none=>false) with
    | false=>rw [hb] at h; cases h
    | true=>
     rw [hb] at h;cases h;rw [List.any_eq_true] at hb;obtain ⟨w,hw,hb⟩:=hb;refine ⟨o,ho,hd,w,hw,?_⟩
     split at hb
     ·rename_i u hu
      rw [hu,SK hb]
     ·cases hb
   ·cases h
def wI (l:List Oper) (Φ:MW) (H:Hp):List Nat->Env->(Nat->List bQ)->(Env->(Nat->List bQ)->Prop)->Prop
 | [],L,R,k=>k L R
 | j::js,L,R,k=>match (l[j]?).bind (·.dst) with
  | some t=>∀ v rs,Φ j H rs v->wI l Φ H js ((t,v)::L) (CB R j rs) k
  | none=>match Hi l j with
   | none=>∀ rs,Φ j H rs undef->wI l Φ H js L (CB R j rs) k
   | some s=>∀ v rs,(∀ u,lk L s=some u->v=u)->Φ j H rs v->wI l Φ H js L (CB R j rs) k
def Pk (L:Env) (v:Qj):Option Nat->Option Nat->Prop
 | some _,_=>True
 | none,none=>v=undef
 | none,some s=>lk L s=some v
def Ds (x:Cx) (H:Hp) (M:List bQ) (L:Env) (t ps:Option Nat) (φ:Hp->List bQ->Qj->Prop):lZ:=λe a w=>
 e=.normal/\∃ v H' rs,Sl x.N (LY t v L) a/\Pk L v t ps/\H.le H'/\St x.B x.w0 H' (rs++M) w/\φ H' rs v
theorem fU {x:Cx}{H H':Hp}{M:List bQ}{L:Env}{t:Nat}{ps:Option Nat}{v:Qj}{φ:Hp->List bQ->Qj->Prop} (rs:List bQ) (hle:H.le H') (h:φ H' rs v):E x .normal (Ds x H M L (some t) ps φ) H' (rs++M) ((t,v)::L):=
 λ_ _ hs ht=>⟨rfl,v,H',rs,hs,Qk,hle,ht,h⟩
theorem CY {x:Cx}{H H':Hp}{M:List bQ}{L:Env}{φ:Hp->List bQ->Qj->Prop} (rs:List bQ) (hle:H.le H') (h:φ H' rs undef):E x .normal (Ds x H M L none none φ) H' (rs++M) L:=
 λ_ _ hs ht=>⟨rfl,undef,H',rs,hs,rfl,hle,ht,h⟩
theorem nO {x:Cx}{H H':Hp}{M:List bQ}{L:Env}{s:Nat}{v:Qj}{φ:Hp->List bQ->Qj->Prop} (hl:lk L s=some v) (rs:List bQ) (hle:H.le H') (h:φ H' rs v):E x .normal (Ds x H M L none (some s) φ) H' (rs++M) L:=
 λ_ _ hs ht=>⟨rfl,v,H',rs,hs,hl,hle,ht,h⟩
def Et (m:Nat) (I:List (List bQ)):Nat->List bQ:=λk=>if k<m then [] else I.getD (k-m) []
def xr (x:Cx) (l:List Oper) (Φ:MW) (C U:List (List Nat)) (Es:List Env) (R0:Nat->List bQ) (H:Hp) (M:List bQ) (L:Env):Nat->List Oper->Prop
 | _,[]=>True
 | i,o::r=>(∀ H',H.le H'->∀ X Rest,(∀ s ∈ M,s ∈ Rest)->wI l Φ H' (jL o) (Es.getD i []++(L++X)) R0 (λL' R=>(∀ s ∈ tX (U.getD i []) R [],s ∈ Rest)->(∃ Rr,(tX (U.getD i []) R Rr).Perm Rest)->W x l.toArray (Ds x H' Rest L' o.dst (Hi l i) (Φ i)) [o] H' (tX (C.getD i []) R Rest) L')) /\
   xr x l Φ C U Es R0 H M L (i+1) r
theorem xr.at {x:Cx}{l:List Oper}{Φ:MW}{C U:List (List Nat)}{Es:List Env}{R0:Nat->List bQ}{H:Hp}{M:List bQ}{L:Env}:∀ {r:List Oper}{i:Nat},xr x l Φ C U Es R0 H M L i r->∀ j o,r[j]? = some o ->
  ∀ H',H.le H'->∀ X Rest,(∀ s ∈ M,s ∈ Rest)->wI l Φ H' (jL o) (Es.getD (i+j) []++(L++X)) R0 (λL' R=>(∀ s ∈ tX (U.getD (i+j) []) R [],s ∈ Rest)->(∃ Rr,(tX (U.getD (i+j) []) R Rr).Perm Rest)->W x l.toArray (Ds x H' Rest L' o.dst (Hi l (i+j)) (Φ (i+j))) [o] H' (tX (C.getD (i+j) []) R Rest) L')
 | [],_,_,j,o,h=>by simp at h
 | p::r,i,hh,0,o,h=>by simp at h; subst h; exact hh.1
 | p::r,i,hh,j+1,o,h=>by
  have:=xr.at hh.2 j o (by simpa using h)
  rwa [show i+1+j=i+(j+1) from by omega] at this
def tG (a:Act) (v:Qj):Option Nat->Option Nat->Prop
 | some t,_=>a.tmps[t]? = some v
 | none,none=>v=undef
 | none,some s=>a.tmps[s]? = some v
theorem wI.use {l:List Oper}{Φ:MW}{H:Hp}{a:Act}{N:Nat}{Rt:Nat->List bQ}:∀ {js:List Nat}{L:Env}{R:Nat->List bQ}{k:Env->(Nat->List bQ)->Prop},wI l Φ H js L R k->Sl N L a ->
  (∀ j ∈ js,∃ v,tG a v ((l[j]?).bind (·.dst)) (Hi l j)/\Φ j H (Rt j) v) ->
  ∃ Y R',k (Y++L) R'/\Sl N (Y++L) a/\(∀ t v,(t,v) ∈ Y->a.tmps[t]? = some v)/\(∀ q,q ∈ js->R' q=Rt q)/\∀ q,q ∉ js->R' q=R q
 | [],L,R,k,h,hs,_=>⟨[],R,h,hs,by simp,by simp,λq _=>rfl⟩
 | j::js,L,R,k,h,hs,hv=>by
  obtain ⟨v,h1,h2⟩:=hv j (Qq ..);have fin:∀ {R':Nat->List bQ},(∀ q,q ∈ js->R' q=Rt q)->(∀ q,q ∉ js->R' q=CB R j (Rt j) q)->(∀ q,q ∈ j::js->R' q=Rt q)/\∀ q,q ∉ j::js->R' q=R q:=by
   intro R' h6 h7;constructor
   ·intro q hq
    by_cases hqj:q ∈ js
    ·exact h6 q hqj
    ·rcases Q8.1 hq with rfl | hq
     ·rw [h7 _ hqj,Aw]
     ·exact absurd hq hqj
   ·intro q hq
    rw [h7 q (λh=>hq (Qw _ h)),A_ _ _ _ _ (λe=>hq (by rw [e]; exact Qq ..))]
  unfold wI at h;cases ht:(l[j]?).bind (·.dst) with
  | none=>
   rw [ht] at h h1;cases hk:Hi l j with
   | none=>
    rw [hk] at h h1;simp only [tG] at h1;subst h1;obtain ⟨Y,R',h3,h4,h5,h6,h7⟩:=wI.use (h (Rt j) h2) hs (λi hi=>hv i (Qw _ hi));exact ⟨Y,R',h3,h4,h5,(fin h6 h7).1,(fin h6 h7).2⟩
   | some s=>
    rw [hk] at h h1;simp only [tG] at h1;obtain ⟨Y,R',h3,h4,h5,h6,h7⟩:=wI.use (h v (Rt j) (λu hu=>by have:=hs.get s u hu; rw [h1] at this; exact Qp this) h2) hs (λi hi=>hv i (Qw _ hi))
    exact ⟨Y,R',h3,h4,h5,(fin h6 h7).1,(fin h6 h7).2⟩
  | some t=>
   rw [ht] at h h1;simp only [tG] at h1;obtain ⟨Y,R',h3,h4,h5,h6,h7⟩:=wI.use (h v (Rt j) h2) (hs.cons h1) (λi hi=>hv i (Qw _ hi));refine ⟨Y++[(t,v)],R',by simpa using h3,by simpa using h4,?_,(fin h6 h7).1,(fin h6 h7).2⟩
   intro u w hm;rcases QC.1 hm with hm | hm
   ·exact h5 u w hm
   ·simp at hm; obtain ⟨rfl,rfl⟩:=hm; exact h1
def DP (l:List Oper) (m:Nat) (Es:List Env):Bool:=
 (List.range m).all λi=>((Es.getD i []).map (·.1)).all λt=>(List.range m).all λw=>match (l[w]?).bind (·.dst) with
  | some u=>!Nat.beq u t || ((B9 [] l).getD w 0).testBit i
  | none=>true
def yI (l:List Oper) (m:Nat) (L:Env):Bool:=
 (l.take m).all (λo=>match o.dst with
  | some t=>(lk L t).isNone
  | none=>true)
def yJ (l:List Oper) (m:Nat):Bool:=decide (((l.take m).filterMap (·.dst)).Nodup)
def GM (l:List Oper) (m K:Nat) (C U:List (List Nat)) (live:List Nat):Bool:=
 ((List.range m).all λi=>(U.getD i []).all λu=>(Nat.ble m u || match l[i]? with
  | some o=>(jL o).contains u
  | none=>false) && Nat.blt u K && (List.range m).all λi'=>!(C.getD i' []).contains u || ((B9 [] l).getD i' 0).testBit i) &&
 Nat.beq C.length m && (List.range m).all (λi=>(C.getD i []).all λc=>Nat.ble m c || match l[i]? with
  | some o=>(jL o).contains c
  | none=>false) &&
 (C.flatten++live).all (λc=>Nat.blt c K) && ((List.range K).all λk=>Nat.beq ((C.flatten++live).count k) 1) && (List.range m).all λi=>decide ((U.getD i []).Nodup)
section
variable {x:Cx}{l:List Oper}{m K:Nat}{Φ:MW}{C U:List (List Nat)}{live:List Nat}{I:List (List bQ)}{Es:List Env}{H:Hp}{M:List bQ}{L L0:Env}{Q:lZ}
structure AA (l:List Oper) (m K:Nat) (C U:List (List Nat)) (live:List Nat):Prop where
 len:C.length=m
 wait:∀ i o,i<m->l[i]? = some o->∀ c ∈ C.getD i [],m<=c\/c ∈ jL o
 lt:∀ c ∈ C.flatten++live,c<K
 nd:(C.flatten++live).Nodup
 all:∀ k,k<K->k ∈ C.flatten++live
 OC:∀ i o,i<m->l[i]? = some o->∀ u ∈ U.getD i [],(m<=u\/u ∈ jL o)/\u<K
 OB:∀ i,i<m->∀ u ∈ U.getD i [],∀ i',i'<m->u ∈ C.getD i' []->((B9 [] l).getD i' 0).testBit i=true
 Ps:∀ i,i<m->(U.getD i []).Nodup
theorem Me (h:GM l m K C U live=true):AA l m K C U live:=by
 unfold GM at h;simp only [R6] at h;obtain ⟨⟨⟨⟨⟨h0,h1⟩,h2⟩,h3⟩,h4⟩,h5⟩:=h;rw [Rz] at h0 h2 h3 h4 h5;have hU:∀ i,i<m->∀ u ∈ U.getD i [],((Nat.ble m u || match l[i]? with
  | some o=>(jL o).contains u
  | none=>false)=true/\u<K)/\∀ i',i'<m->u ∈ C.getD i' []->((B9 [] l).getD i' 0).testBit i=true:=by
  intro i hi u hu;have:=h0 i (Rf.2 hi);rw [Rz] at this;have:=this u hu;rw [R6,R6,Rz] at this;refine ⟨⟨this.1.1,by simpa [Rv] using this.1.2⟩,λi' hi' hc=>?_⟩
  have h5:=this.2 i' (Rf.2 hi');rw [RZ] at h5;rcases h5 with h5 | h5
  ·have h6:(C.getD i' []).contains u=true:=by rw [T7]; exact hc
   rw [h6] at h5; cases h5
  ·exact h5
 have hc:∀ k,k<K->(C.flatten++live).count k=1:=λk hk=>SK (h4 k (Rf.2 hk));have hlt:∀ c ∈ C.flatten++live,c<K:=λc hc=>by simpa [Rv] using h3 c hc
 refine ⟨SK h1,?_,hlt,?_,?_,?_,λi hi u hu=>(hU i hi u hu).2,λi hi=>Qr (h5 i (Rf.2 hi))⟩
 ·intro i o hi ho c hc
  have:=h2 i (Rf.2 hi);rw [Rz] at this;have:=this c hc;rw [ho] at this;simpa [RZ,Tb,T7] using this
 ·rw [List.nodup_iff_count]
  intro a
  by_cases ha:a<K
  ·rw [hc a ha]; exact QI _
  ·rw [List.count_eq_zero.2 (λhm=>ha (hlt a hm))]; omega
 ·intro k hk
  rw [<- List.count_pos_iff,hc k hk]; omega
 ·intro i o hi ho u hu
  have:=(hU i hi u hu).1;rw [ho] at this;refine ⟨?_,this.2⟩;have h5:=this.1;rw [RZ] at h5;rcases h5 with h5 | h5
  ·exact .inl (by simpa [Tb] using h5)
  ·exact .inr (by simpa [T7] using h5)
theorem AA.uniq (h:AA l m K C U live) {i i' k:Nat} (hi:k ∈ C.getD i []) (hi':k ∈ C.getD i' []):i=i':=by
 have hnd:=(Rg.1 h.nd).1;unfold List.Nodup at hnd;rw [List.pairwise_flatten] at hnd;have hpw:=TF.1 hnd.2;have g1:i<C.length:=by
  by_cases e:i<C.length
  ·exact e
  ·rw [QW,Rj (by omega)] at hi; simp at hi
 have g2:i'<C.length:=by
  by_cases e:i'<C.length
  ·exact e
  ·rw [QW,Rj (by omega)] at hi'; simp at hi'
 rw [QW,Ql g1] at hi;rw [QW,Ql g2] at hi';simp only [Sp] at hi hi';rcases TD i i' with q | q | q
 ·exact absurd rfl (hpw i i' g1 g2 q _ hi _ hi')
 ·exact q
 ·exact absurd rfl (hpw i' i g2 g1 q _ hi' _ hi)
theorem AA.mem (h:AA l m K C U live) {i k:Nat} (hi:k ∈ C.getD i []):k ∈ C.flatten:=by
 have g1:i<C.length:=by
  by_cases e:i<C.length
  ·exact e
  ·rw [QW,Rj (by omega)] at hi; simp at hi
 rw [QW,Ql g1] at hi;exact List.mem_flatten.2 ⟨_,QY g1,hi⟩
theorem AA.P0 (h:AA l m K C U live) (i:Nat):(C.getD i []).Nodup:=by
 have hnd:=(Rg.1 h.nd).1;unfold List.Nodup at hnd;rw [List.pairwise_flatten] at hnd
 by_cases e:i<C.length
 ·rw [QW,Ql e]; exact hnd.1 _ (QY e)
 ·rw [QW,Rj (by omega)]; simp
def alive (m:Nat) (C:List (List Nat)) (listed:Array Bool) (k:Nat):Bool:=(Nat.ble m k || listed.getD k false) && !(List.range m).any λi=>listed.getD i false && (C.getD i []).contains k
theorem sx {listed:Array Bool}{k:Nat}:alive m C listed k=true↔(m<=k\/listed.getD k false=true)/\∀ i,i<m->listed.getD i false=true->k ∉ C.getD i []:=by
 unfold alive;simp only [R6,RZ,Tb,Bool.not_eq_true',List.any_eq_false,Rf,T7];constructor
 ·rintro ⟨h1,h2⟩; exact ⟨h1,λi hi hl hm=>h2 i hi ⟨hl,hm⟩⟩
 ·rintro ⟨h1,h2⟩; exact ⟨h1,λi hi ⟨hl,hm⟩=>h2 i hi hl hm⟩
theorem FA (hB:vj l m=true):∀ (f i:Nat) (listed:Array Bool) (a:Act) (w:World),m<=i->listed.size=l.length->i<=l.length->l.length<=i+f ->
  (∀ j,j<l.length->listed.getD j true=decide (j<i))->wpList x.P l.toArray Q (l.drop i) a w->wpAny x.P .any l.toArray Q f listed a w
 | 0,i,listed,a,w,hm,hsz,hf0,hf,hl,h=>by
  have hi:i=l.length:=by omega
  refine ⟨?_,by rw [hi,Tp] at h; exact h⟩
  rw [List.eq_nil_iff_forall_not_mem];intro j hj;obtain ⟨h1,h2,_⟩:=mem_ready.1 hj;rw [hl j (by simpa using h1)] at h2
  simp at h1 h2; omega
 | f+1,i,listed,a,w,hm,hsz,hf0,hf,hl,h=>by
  by_cases e2:i=l.length
  ·have hempty:Region.ready .any l.toArray listed=[]:=by
    rw [List.eq_nil_iff_forall_not_mem];intro j hj;obtain ⟨q1,q2,_⟩:=mem_ready.1 hj;rw [hl j (by simpa using q1)] at q2
    simp at q1 q2; omega
   exact ⟨λ_=>by rw [e2,Tp] at h; exact h,λj hj=>by rw [hempty] at hj; cases hj⟩
  ·have hi:i<l.length:=by omega
   have ho:l[i]? = some l[i]:=Ql hi;have hget:∀ j,j<l.length->listed.getD j false=decide (j<i):=λj hj=>by
    have:=hl j hj;simp only [Q_] at this ⊢;rw [Tg (by omega)] at this ⊢
    simpa using this
   have hmem:i ∈ Region.ready .any l.toArray listed:=by
    refine mem_ready.2 ⟨by simpa using hi,by rw [hl i hi]; simp,l[i],by simp,λj hj=>?_⟩
    have hj':=rA hB ho j hj;rw [hget j (by omega)]; simpa using hj'
   have huniq:∀ j ∈ Region.ready .any l.toArray listed,j=i:=by
    intro j hj;obtain ⟨q1,q2,o,ho',hw⟩:=mem_ready.1 hj;have q1':j<l.length:=by simpa using q1
    rw [hl j q1'] at q2;have hji:i<=j:=by simpa using q2
    by_cases e:j=i
    ·exact e
    ·exfalso
     have:=Cl hB (listed:=λq=>q<i) (λk o hk hki q hq=>by have:=rA hB hk q hq; omega) (i:=j) (o:=o) (by simpa using ho') (by omega)
      (λq hq=>by
       have h1:=hw q hq;have h2:=rA hB (i:=j) (o:=o) (by simpa using ho') q hq
       rw [hget q (by omega)] at h1
       simpa using h1) i (by omega)
     omega
   refine ⟨λhe=>(by rw [he] at hmem; cases hmem),λj hj=>?_⟩
   obtain rfl:=huniq j hj;unfold wpOp;rw [show l.toArray[j]? = some l[j] from by simp]
   rw [QV hi] at h;have step:∀ a w,wpList x.P l.toArray Q (l.drop (j+1)) a w->wpAny x.P .any l.toArray Q f (listed.setIfInBounds j true) a w:=λa w hh=>
    FA hB f (j+1) _ a w (by omega) (by simpa using hsz) (by omega) (by omega) (λk hk=>by
     rw [uU _ _ _ _ (by omega),hl k hk]
     by_cases e:k=j
     ·subst e; simp
     ·simp [e]; omega) hh
   unfold wpList at h
   dsimp only
   split
   ·rename_i hw; rw [Qu hw] at h; exact h.imp (Oper.wp_mono step) id
   ·rename_i hw; rw [Qs hw] at h; exact step _ _ h
theorem zu {A B:List Nat} (ha:A.Nodup) (hb:B.Nodup) (h:∀ a,a ∈ A↔a ∈ B) (R:Nat->List bQ) (M:List bQ):(A.flatMap R++M).Perm (B.flatMap R++M):=
 (((List.perm_ext_iff_of_nodup ha hb).2 h).flatMap_right R).append_right M
theorem ux {A:List Nat}{R R':Nat->List bQ} (h:∀ a ∈ A,R a=R' a):A.flatMap R=A.flatMap R':=by
 induction A with
 | nil=>rfl
 | cons a A ih=>rw [RF,RF,h a (Qq ..),ih λb hb=>h b (Qw _ hb)]
theorem LV (hB:vj l m=true) (hml:m<=l.length) (hD:yI l m L0=true) (hX0:DP l m Es=true) (hL0:∀ t v,lk L0 t=some v->lk L t=some v) (hE:∀ i t v,lk (Es.getD i []) t=some v->lk L t=some v) (hNd:yJ l m=true) (hT:AA l m K C U live) (hmK:m<=K)
  (hmono:∀ i H1 H2 rs v,H1.le H2->Φ i H1 rs v->Φ i H2 rs v)
  (hop:xr x l Φ C U Es (Et m I) H M L0 0 (l.take m))
  (k:∀ H',H.le H'->wI l Φ H' (List.range m) L0 (Et m I) (λL' R=>W x l.toArray Q (l.drop m) H' (tX live R M) L')):
  ∀ (fuel:Nat) (listed:Array Bool) (a:Act) (w:World) (H':Hp) (R:Nat->List bQ),listed.size=l.length->left l listed<=fuel->(∀ j,m<=j->j<l.length->listed.getD j true=false) ->
   (∀ i o,l[i]? = some o->listed.getD i false=true->∀ j ∈ jL o,listed.getD j false=true) ->
   H.le H'->St x.B x.w0 H' (((List.range K).filter (alive m C listed)).flatMap R++M) w->Sl x.N [] a->(∀ t v,lk L t=some v->(∀ w o,w<m->l[w]? = some o->o.dst=some t->listed.getD w false=false)->a.tmps[t]? = some v)->(∀ q,m<=q->R q=Et m I q) ->
   (∀ i o,i<m->l[i]? = some o->listed.getD i true=true->∃ v,tG a v o.dst (Hi l i)/\Φ i H' (R i) v) ->
   wpAny x.P .any l.toArray Q fuel listed a w:=by
 have hdst:∀ i o t,i<m->l[i]? = some o->o.dst=some t->lk L0 t=none:=by
  intro i o t him ho hd;have htake:(l.take m)[i]? = some o:=by rw [Rc,Qu him]; exact ho
  unfold yI at hD;rw [Rz] at hD;have:=hD o (Qz htake);rw [hd] at this; simpa using this
 have fin:∀ (fuel:Nat) (listed:Array Bool) (a:Act) (w:World) (H':Hp) (R:Nat->List bQ),listed.size=l.length->left l listed<=fuel->(∀ j,m<=j->j<l.length->listed.getD j true=false) ->
   H.le H'->St x.B x.w0 H' (((List.range K).filter (alive m C listed)).flatMap R++M) w->Sl x.N [] a->(∀ t v,lk L t=some v->(∀ w o,w<m->l[w]? = some o->o.dst=some t->listed.getD w false=false)->a.tmps[t]? = some v)->(∀ q,m<=q->R q=Et m I q) ->
   (∀ i o,i<m->l[i]? = some o->listed.getD i true=true->∃ v,tG a v o.dst (Hi l i)/\Φ i H' (R i) v) ->
   (∀ j,j<m->listed.getD j true=true)->wpAny x.P .any l.toArray Q fuel listed a w:=by
  intro fuel listed a w H' R hsz hf htl hle ht hs0 hsl uJ hv hall;have hs:Sl x.N L0 a:=⟨hs0.size,hs0.EU,λt v h=>hsl t v (hL0 t v h) (λw o hw ho hd=>by rw [hdst w o t hw ho hd] at h; cases h)⟩
  have hget:∀ j,j<l.length->listed.getD j false=listed.getD j true:=λj hj=>by
   simp only [Q_];rw [Tg (by omega)]; rfl
  obtain ⟨Y,R',h1,h2,_,h3,h4⟩:=wI.use (Rt:=R) (k H' hle) hs (λj hj=>by
   have hj':=Rf.1 hj;have ho:l[j]? = some l[j]:=Ql (by omega)
   rw [ho];exact hv j _ hj' ho (hall j hj'))
  have hR:∀ q,R' q=R q:=λq=>by
   by_cases hq:q<m
   ·exact h3 q (Rf.2 hq)
   ·rw [h4 q (λh=>hq (Rf.1 h)),uJ q (by omega)]
  have hwl:wpList x.P l.toArray Q (l.drop m) a w:=by
   refine h1 a w h2 (ht.perm ?_);rw [zB,ux (R:=R') (R':=R) (λq _=>hR q)];refine zu (List.nodup_range.filter _) (Rg.1 hT.nd).2.1 ?_ R M;intro q;rw [Rn,Rf,sx];constructor
   ·rintro ⟨h5,h6,h7⟩
    rcases QC.1 (hT.all q h5) with h8 | h8
    ·exfalso
     obtain ⟨c,hc,hqc⟩:=List.mem_flatten.1 h8;obtain ⟨i,hi,rfl⟩:=RC.1 hc;have him:i<m:=by rw [<- hT.len]; exact hi
     refine h7 i him (by rw [hget i (by omega)]; exact hall i him) ?_
     rw [QW,Ql hi]; exact hqc
    ·exact h8
   ·intro hq
    refine ⟨hT.lt q (Rp _ hq),?_,?_⟩
    ·by_cases e:m<=q
     ·exact .inl e
     ·exact .inr (by rw [hget q (by omega)]; exact hall q (by omega))
    ·intro i him _ hc
     exact (Rg.1 hT.nd).2.2 q (hT.mem hc) q hq rfl
  have hl:∀ j,j<l.length->listed.getD j true=decide (j<m):=by
   intro j hj
   by_cases e:j<m
   ·rw [hall j e]; simp [e]
   ·rw [htl j (by omega) hj]; simp [e]
  have hcount:l.length<=m+fuel:=by
   have:l.length-m<=left l listed:=by
    unfold left;have h1:(List.range l.length).countP (λi=>!listed.getD i true)=(List.range l.length).countP (λi=>decide (m<=i)):=by
     refine List.countP_congr λj hj=>?_;rw [hl j (Rf.1 hj)];simp
    rw [h1];have h2:∀ n,(List.range n).countP (λi=>decide (m<=i))=n-m:=by
     intro n
     induction n with
     | zero=>simp
     | succ n ihn=>
      rw [TS,List.countP_append,ihn];simp only [List.countP_cons,List.countP_nil]
      by_cases e:m<=n
      ·simp [e]; omega
      ·simp [e]; omega
    rw [h2]; exact QI _
   omega
  exact FA hB fuel m listed a w (QI _) hsz hml hcount hl hwl
 intro fuel
 induction fuel with
 | zero=>
  intro listed a w H' R hsz hf htl hdc hle ht hs0 hsl uJ hv;refine fin 0 listed a w H' R hsz hf htl hle ht hs0 hsl uJ hv (λj hj=>?_);have:left l listed=0:=by omega
  unfold left at this;rw [List.countP_eq_zero] at this;have:=this j (Rf.2 (by omega))
  simpa using this
 | succ fuel ih=>
  intro listed a w H' R hsz hf htl hdc hle ht hs0 hsl uJ hv
  by_cases hall:∀ j,j<m->listed.getD j true=true
  ·exact fin (fuel+1) listed a w H' R hsz hf htl hle ht hs0 hsl uJ hv hall
  ·have hs:Sl x.N L0 a:=⟨hs0.size,hs0.EU,λt v h=>hsl t v (hL0 t v h) (λw o hw ho hd=>by rw [hdst w o t hw ho hd] at h; cases h)⟩
   have hget:∀ j,j<l.length->listed.getD j false=listed.getD j true:=λj hj=>by
    simp only [Q_];rw [Tg (by omega)]; rfl
   have hex:∃ j,j<m/\listed.getD j true=false:=by
    refine Classical.byContradiction λhno=>hall λj hj=>?_;cases hb:listed.getD j true with
    | true=>rfl
    | false=>exact absurd ⟨j,hj,hb⟩ hno
   obtain ⟨j0,⟨hj0,hf0⟩,hleast⟩:=least (p:=λj=>j<m/\listed.getD j true=false) hex.choose hex.choose_spec;have hne:Region.ready .any l.toArray listed≠[]:=by
    intro he;have hlt:j0<l.length:=by omega
    have ho:l[j0]? = some l[j0]:=Ql hlt;have:j0 ∈ Region.ready .any l.toArray listed:=by
     refine mem_ready.2 ⟨by simpa using hlt,hf0,l[j0],by simp,λj hj=>?_⟩
     have hj':=rA hB ho j hj;rw [hget j (by omega)]
     cases hb:listed.getD j true with
     | true=>rfl
     | false=>have:=hleast j ⟨by omega,hb⟩; omega
    rw [he] at this; cases this
   refine ⟨λhe=>absurd he hne,λi hi=>?_⟩;obtain ⟨h1,h2,o,ho',hw⟩:=mem_ready.1 hi;have h1':i<l.length:=by simpa using h1
   have ho:l[i]? = some o:=by simpa using ho'
   have him:i<m:=by
    by_cases e:i<m
    ·exact e
    ·exfalso
     have:=Cl hB (listed:=λq=>listed.getD q false=true) (λk o hk hki q hq=>hdc k o hk hki q hq) ho (by omega) hw j0 (by omega)
     rw [hget j0 (by omega),hf0] at this; cases this
   have htake:(l.take m)[i]? = some o:=by rw [Rc,Qu him]; exact ho
   have hnl:listed.getD i false=false:=by rw [hget i h1']; exact h2
   have hCal:∀ c ∈ C.getD i [],c ∈ (List.range K).filter (alive m C listed):=by
    intro c hc;rw [Rn,Rf,sx];refine ⟨hT.lt c (Qm _ (hT.mem hc)),?_,?_⟩
    ·rcases hT.wait i o him ho c hc with h | h
     ·exact .inl h
     ·exact .inr (hw c h)
    ·intro i' hi' hl' hc'
     have:=hT.uniq hc hc';subst this;rw [hnl] at hl'; cases hl'
   let A:=(List.range K).filter (alive m C listed)
   let Bs:=A.filter (λc=>!(C.getD i []).contains c)
   have hAnd:A.Nodup:=List.nodup_range.filter _;have hBnd:Bs.Nodup:=hAnd.filter _;have hperm:(A.flatMap R++M).Perm ((C.getD i []++Bs).flatMap R++M):=by
    refine zu hAnd ?_ ?_ R M
    ·refine Rg.2 ⟨hT.P0 i,hBnd,?_⟩
     rintro a ha b hb rfl;have:=(Rn.1 hb).2;simp at this;exact this (by simpa [QW] using ha)
    ·intro q
     rw [QC];constructor
     ·intro hq
      by_cases hqc:q ∈ C.getD i []
      ·exact .inl hqc
      ·exact .inr (Rn.2 ⟨hq,by simpa using hqc⟩)
     ·rintro (hq | hq)
      ·exact hCal q hq
      ·exact (Rn.1 hq).1
   have ht1:=ht.perm hperm;rw [TN,QR] at ht1
   let Rest:=Bs.flatMap R++M
   let X1:Env:=(List.range m).filterMap λj=>if listed.getD j true then (l[j]?).bind λo=>o.dst.map λu=>(u,a.tmps.getD u undef) else none
   let X2:Env:=(L.map (·.1)).filterMap λt=>if (List.range m).all (λw=>match (l[w]?).bind (·.dst) with
    | some u=>!Nat.beq u t || !listed.getD w false
    | none=>true) then (lk L t).map λv=>(t,v) else none
   let X:Env:=X1++X2
   have hX2:∀ u v,(u,v) ∈ X2->a.tmps[u]? = some v:=by
    intro u v hm;obtain ⟨t,ht',hh⟩:=UB.1 hm
    split at hh
    ·rename_i hall2
     rw [T0] at hh;obtain ⟨v',hv',hh⟩:=hh;cases hh;refine hsl _ _ hv' (λw' o' hw' ho' hd'=>?_);rw [Rz] at hall2;have h9:=hall2 w' (Rf.2 hw');rw [ho'] at h9;simp only [Tc,hd'] at h9;have h10:Nat.beq u u=true:=Nat.beq_refl u;rw [h10] at h9;simpa using h9
    ·cases hh
   have hX1:∀ u v,(u,v) ∈ X1->a.tmps[u]? = some v:=by
    intro u v hm;obtain ⟨j,hj,hh⟩:=UB.1 hm
    split at hh
    ·rename_i hlj
     rw [U4] at hh;obtain ⟨oj,hoj,hh⟩:=hh;rw [T0] at hh;obtain ⟨u',hu',hh⟩:=hh;cases hh;obtain ⟨v',hv',_⟩:=hv j oj (Rf.1 hj) hoj hlj;rw [hu'] at hv';simp only [tG] at hv';simp [Q_,hv']
    ·cases hh
   have hX:∀ u v,(u,v) ∈ X->a.tmps[u]? = some v:=λu v hm=>(QC.1 hm).elim (hX1 u v) (hX2 u v);have hdep:=(xr.at hop i o htake) H' hle X Rest (λs hs=>Rp _ hs);simp only [QL] at hdep;have hwl:∀ j ∈ jL o,j<m/\listed.getD j true=true:=λj hj=>by
    have h3:=rA hB ho j hj;refine ⟨by omega,?_⟩
    rw [<- hget j (by omega)]; exact hw j hj
   have hEi:∀ t v,lk (Es.getD i []) t=some v->a.tmps[t]? = some v:=by
    intro t v h;refine hsl t v (hE i t v h) (λw' o' hw' ho' hd'=>?_);cases hlw:listed.getD w' false with
    | false=>rfl
    | true=>
     exfalso;unfold DP at hX0;rw [Rz] at hX0;have h1:=hX0 i (Rf.2 him);rw [Rz] at h1;have h2:=h1 t (Ra.2 ⟨_,Gk h,rfl⟩);rw [Rz] at h2;have h3:=h2 w' (Rf.2 hw');rw [ho'] at h3;simp only [Tc,hd'] at h3;have h10:Nat.beq t t=true:=Nat.beq_refl t;rw [h10] at h3;simp only [Bool.not_true,Bool.false_or] at h3;have:=xK (listed:=λq=>listed.getD q false=true) (λk o hk hki q hq=>hdc k o hk hki q hq) l [] (λk q hk=>by simpa using hk) (λk hk=>by simp at hk) w' (by simp; omega) o' ho' (λq hq=>hdc w' o' ho' hlw q hq) i h3
     rw [hnl] at this; cases this
   have hsE:Sl x.N (Es.getD i []++(L0++X)) a:=by
    refine ⟨hs.size,hs.EU,λt v h=>?_⟩;rw [Ag] at h;cases hl:lk (Es.getD i []) t with
    | some u=>rw [hl] at h; simp at h; subst h; exact hEi t _ hl
    | none=>rw [hl] at h; simp at h; exact (hs.more hX).get t v h
   obtain ⟨Y,R',hk,hsY,hY,hR1,hR2⟩:=wI.use (Rt:=R) hdep hsE (λj hj=>by
    have hj':=hwl j hj;have hoj:l[j]? = some l[j]:=Ql (by omega)
    rw [hoj];exact hv j _ hj'.1 hoj hj'.2)
   have hRC:∀ c ∈ C.getD i [],R' c=R c:=by
    intro c hc;rcases hT.wait i o him ho c hc with h | h
    ·rw [hR2 c (λhcm=>by have:=hwl c hcm; omega),uJ c h]
    ·exact hR1 c h
   have hRU:∀ u ∈ U.getD i [],R' u=R u:=by
    intro u hu;have h5:=hT.OC i o him ho u hu;rcases h5.1 with h | h
    ·rw [hR2 u (λhcm=>by have:=hwl u hcm; omega),uJ u h]
    ·exact hR1 u h
   have hUB:∀ u ∈ U.getD i [],u ∈ Bs:=by
    intro u hu;have h5:=hT.OC i o him ho u hu;refine Rn.2 ⟨Rn.2 ⟨Rf.2 h5.2,sx.2 ⟨?_,?_⟩⟩,?_⟩
    ·rcases h5.1 with h | h
     ·exact .inl h
     ·exact .inr (hw u h)
    ·intro i' hi' hl' hc'
     have h6:=hT.OB i him u hu i' hi' hc';have hoi:l[i']? = some l[i']:=Ql (by omega)
     have:=xK (listed:=λq=>listed.getD q false=true) (λk o hk hki q hq=>hdc k o hk hki q hq) l [] (λk q hk=>by simpa using hk) (λk hk=>by simp at hk) i' (by simp; omega) _ hoi (λq hq=>hdc i' _ hoi hl' q hq) i h6
     rw [hnl] at this; cases this
    ·have h7:u ∉ C.getD i []:=by
      intro hc;have h6:=hT.OB i him u hu i him hc;have hoi:l[i]? = some o:=ho;have:=xK (listed:=λq=>q<i) (λk o hk hki q hq=>by have:=rA hB hk q hq; omega) l [] (λk q hk=>by simpa using hk) (λk hk=>by simp at hk) i (by simpa using h1') o hoi (λq hq=>rA hB ho q hq) i h6
      omega
     simpa using h7
   have hUR:∀ s ∈ tX (U.getD i []) R' [],s ∈ Rest:=by
    rw [zB,Q5];intro s hs;obtain ⟨u,hu,hsu⟩:=So.1 hs;rw [hRU u hu] at hsu;exact Qm _ (So.2 ⟨u,hUB u hu,hsu⟩)
   have hUP:∃ Rr,(tX (U.getD i []) R' Rr).Perm Rest:=by
    refine ⟨(Bs.filter λc=>!(U.getD i []).contains c).flatMap R++M,?_⟩;rw [zB,ux (R:=R') (R':=R) hRU,<- QR,<- TN];refine zu ?_ hBnd ?_ R M
    ·refine Rg.2 ⟨hT.Ps i him,hBnd.filter _,?_⟩
     rintro a ha b hb rfl;have:=(Rn.1 hb).2;simp at this;exact this (by simpa [QW] using ha)
    ·intro q
     rw [QC];constructor
     ·rintro (hq | hq)
      ·exact hUB q hq
      ·exact (Rn.1 hq).1
     ·intro hq
      by_cases hqu:q ∈ U.getD i []
      ·exact .inl hqu
      ·exact .inr (Rn.2 ⟨hq,by simpa using hqu⟩)
   have hone:=hk hUR hUP a w hsY (by
    rw [zB,ux (R:=R') (R':=R) hRC];exact ht1)
   have fin2:∀ a' w',Ds x H' Rest (Y++(Es.getD i []++(L0++X))) o.dst (Hi l i) (Φ i) .normal a' w'->wpAny x.P .any l.toArray Q fuel (listed.setIfInBounds i true) a' w':=by
    rintro a' w' ⟨_,v,H2,rs,hs2,hnv,hle2,ht2,hφ⟩;have hcv:tG a' v o.dst (Hi l i):=by
     cases hd:o.dst with
     | none=>
      cases hk:Hi l i with
      | none=>rw [hd,hk] at hnv; exact hnv
      | some s=>rw [hd,hk] at hnv; rw [hd] at hs2; exact hs2.get s v hnv
     | some t=>rw [hd] at hs2; exact hs2.get t v (by simp only [LY]; rw [tH]; simp)
    have hput:∀ u,o.dst≠some u->lk (LY o.dst v (Y++(Es.getD i []++(L0++X)))) u=lk (Y++(Es.getD i []++(L0++X))) u:=by
     intro u hne;cases hd:o.dst with
     | none=>rfl
     | some t=>
      simp only [LY];rw [tH,Qs (λe=>hne (by rw [hd,e]))]
    have hYt:∀ u z,(u,z) ∈ Y++X->o.dst≠some u->a'.tmps[u]? = some z:=by
     intro u z hm hne;have hz:a.tmps[u]? = some z:=by
      rcases QC.1 hm with hm | hm
      ·exact hY u z hm
      ·exact hX u z hm
     have hlk:∃ z',lk (Y++(Es.getD i []++(L0++X))) u=some z':=by
      have hsome:∀ {E:Env}{u:Nat}{z:Qj},(u,z) ∈ E->∃ z',lk E u=some z':=by
       intro E u z
       induction E with
       | nil=>simp
       | cons p E ihE=>
        obtain ⟨q,r⟩:=p;intro hm;rw [tH]
        split
        ·exact ⟨_,rfl⟩
        ·rename_i hne
         rcases Q8.1 hm with e | hm
         ·cases e; exact absurd rfl hne
         ·exact ihE hm
      rcases QC.1 hm with hm | hm
      ·exact hsome (Qm _ hm)
      ·exact hsome (Rp _ (Rp _ (Rp _ hm)))
     obtain ⟨z',hz'⟩:=hlk;have e1:=hsY.get u z' hz';rw [hz] at e1;cases e1;exact hs2.get u z (by rw [hput u hne]; exact hz')
    have hset:∀ j,(listed.setIfInBounds i true).getD j false=if j=i then true else listed.getD j false:=λj=>uU _ _ _ _ (by omega)
    refine ih (listed.setIfInBounds i true) a' w' H2 (CB R i rs) (by simpa using hsz) (by have:=Kf (l:=l) hsz h1' h2; omega) (λj hj hjl=>by rw [uU _ _ _ _ (by omega),Qs (by omega)]; exact htl j hj hjl) ?_ (Uf hle hle2) ?_ ?_ ?_ ?_ ?_
    ·intro j oj hoj hlj q hq
     rw [hset] at hlj ⊢
     split at hlj
     ·rename_i e; subst e
      rw [ho] at hoj; cases hoj
      split
      ·rfl
      ·exact hw q hq
     ·split
      ·rfl
      ·exact hdc j oj hoj hlj q hq
    ·
     have hiB:i ∉ Bs:=by
      intro hmB;have:=(Rn.1 hmB).1;rw [Rn,sx] at this;rcases this.2.1 with h | h
      ·omega
      ·rw [hnl] at h; cases h
     have e1:rs++Rest=((i::Bs).flatMap (CB R i rs))++M:=by
      rw [RF,Aw,ux (A:=Bs) (R:=CB R i rs) (R':=R) (λq hq=>A_ _ _ _ _ (λe=>hiB (by rw [<- e]; exact hq))),QR]
     rw [e1] at ht2;refine ht2.perm (zu (TR.2 ⟨hiB,hBnd⟩) (List.nodup_range.filter _) ?_ _ M);intro q;rw [Q8,Rn,Rn,Rn,Rf,sx,sx];constructor
     ·rintro (rfl | ⟨⟨hqK,hq1,hq2⟩,hq3⟩)
      ·refine ⟨by omega,.inr (by rw [hset,Qu rfl]),?_⟩
       intro i' hi' hl' hc';rw [hset] at hl'
       split at hl'
       ·rename_i e; subst e
        rcases hT.wait i' o hi' ho _ hc' with h | h
        ·omega
        ·have:=rA hB ho _ h; omega
       ·have hoi:l[i']? = some l[i']:=Ql (by omega)
        rcases hT.wait i' _ hi' hoi _ hc' with h | h
        ·omega
        ·have:=hdc i' _ hoi hl' _ h
         rw [hnl] at this; cases this
      ·refine ⟨hqK,?_,?_⟩
       ·rcases hq1 with h | h
        ·exact .inl h
        ·exact .inr (by rw [hset]; split <;> simp [h])
       ·intro i' hi' hl' hc'
        rw [hset] at hl'
        split at hl'
        ·rename_i e; subst e
         simp at hq3;exact hq3 (by simpa [QW] using hc')
        ·exact hq2 i' hi' hl' hc'
     ·rintro ⟨hqK,hq1,hq2⟩
      by_cases hqi:q=i
      ·exact .inl hqi
      ·refine .inr ⟨⟨hqK,?_,?_⟩,?_⟩
       ·rcases hq1 with h | h
        ·exact .inl h
        ·rw [hset,Qs hqi] at h; exact .inr h
       ·intro i' hi' hl' hc'
        exact hq2 i' hi' (by rw [hset]; split <;> simp [hl']) hc'
       ·have:=hq2 i him (by rw [hset,Qu rfl])
        simpa using this
    ·exact ⟨hs2.size,hs2.EU,λu z hu=>by simp [lk] at hu⟩
    ·intro u z hu hun
     have hne:o.dst≠some u:=λe=>by
      have:=hun i o him ho e;rw [hset,Qu rfl] at this; cases this
     refine hYt u z (Rp _ (Rp _ (UB.2 ⟨u,Ra.2 ⟨_,Gk hu,rfl⟩,?_⟩))) hne;rw [Qu,hu]
     ·rfl
     ·rw [Rz]
      intro w' hw';have hw'':=Rf.1 hw';have hoi:l[w']? = some l[w']:=Ql (by omega)
      rw [hoi];simp only [Tc];cases hd':l[w'].dst with
      | none=>rfl
      | some q=>
       by_cases e:q=u
       ·subst e
        have h9:=hun w' _ hw'' hoi hd';rw [hset] at h9
        split at h9
        ·cases h9
        ·simp [h9]
       ·have:Nat.beq q u=false:=by
         cases hb:Nat.beq q u with
         | false=>rfl
         | true=>exact absurd (SK hb) e
        simp [this]
    ·intro q hq
     rw [A_ _ _ _ _ (by omega)]; exact uJ q hq
    ·intro j oj hjm hoj hlj
     rw [uU _ _ _ _ (by omega)] at hlj
     by_cases e:j=i
     ·subst e
      rw [ho] at hoj; cases hoj
      rw [Aw];exact ⟨v,hcv,hφ⟩
     ·rw [Qs e] at hlj
      rw [A_ _ _ _ _ e];obtain ⟨z,hz,hφj⟩:=hv j oj hjm hoj hlj;refine ⟨z,?_,hmono _ _ _ _ _ hle2 hφj⟩;have hNd2:∀ (j:Nat) (oj:Oper) (u:Nat),j<m->l[j]? = some oj->j≠i->oj.dst=some u->o.dst≠some u:=by
       intro j oj u hjm hoj e hdj e2;unfold yJ at hNd;have hnd:=Qr hNd;have hnd2:(l.take m).Pairwise (λo1 o2=>∀ u,o1.dst=some u->∀ u',o2.dst=some u'->u≠u'):=by
        unfold List.Nodup at hnd;rw [List.pairwise_filterMap] at hnd;exact hnd.imp λh u hu u' hu'=>h u hu u' hu'
       have htj:(l.take m)[j]? = some oj:=by rw [Rc,Qu hjm]; exact hoj
       obtain ⟨hi',p1⟩:=Qo.1 htake;obtain ⟨hj',p2⟩:=Qo.1 htj;have hpw:=TF.1 hnd2;rcases Nat.lt_or_gt_of_ne e with q | q
       ·exact hpw j i hj' hi' q u (by rw [p2]; exact hdj) u (by rw [p1]; exact e2) rfl
       ·exact hpw i j hi' hj' q u (by rw [p1]; exact e2) u (by rw [p2]; exact hdj) rfl
      have hkeep:∀ (j:Nat) (oj:Oper) (u:Nat),j<m->l[j]? = some oj->listed.getD j true=true->j≠i->oj.dst=some u->a.tmps[u]? = some z->a'.tmps[u]? = some z:=by
       intro j oj u hjm hoj hlj e hdj hz;refine hYt u z (Rp _ (Qm _ (UB.2 ⟨j,Rf.2 hjm,?_⟩))) (hNd2 j oj u hjm hoj e hdj);simp [hlj,hoj,hdj,Q_,hz]
      cases hdj:oj.dst with
      | none=>
       rw [hdj] at hz;cases hk:Hi l j with
       | none=>rw [hk] at hz; exact hz
       | some s=>
        rw [hk] at hz;simp only [tG] at hz ⊢;obtain ⟨o2,ho2,_,w2,hw2,hd2⟩:=Nu hk;rw [hoj] at ho2; cases ho2
        have hlt2:=rA hB hoj w2 hw2;have hl2:=hdc j oj hoj (by rw [hget j (by omega)]; exact hlj) w2 hw2
        have hne2:w2≠i:=by rintro rfl; rw [hnl] at hl2; cases hl2
        rw [U4] at hd2;obtain ⟨ow,how,hdw⟩:=hd2;exact hkeep w2 ow s (by omega) how (by rw [<- hget w2 (by omega)]; exact hl2) hne2 hdw hz
      | some u=>
       rw [hdj] at hz;simp only [tG] at hz ⊢;exact hkeep j oj u hjm hoj hlj e hdj hz
   unfold wpOp;rw [show l.toArray[i]? = some o from by simpa using ho]
   unfold wpList at hone
   dsimp only
   by_cases hwn:Region.wanted o (yielded l.toArray a.tmps)=true
   ·rw [Qu hwn] at hone ⊢
    left
    rcases hone with h | ⟨_,a1,w1,h,_⟩
    ·unfold Oper.wp at h ⊢
     generalize (execOp a.eval o).run x.P w=r at h;have fin':∀ a' w',wpList x.P l.toArray (Ds x H' Rest (Y++(Es.getD i []++(L0++X))) o.dst (Hi l i) (Φ i)) [] a' w'->wpAny x.P .any l.toArray Q fuel (listed.setIfInBounds i true) a' w':=λa' w' h=>fin2 a' w' h;cases r with
     | ok n w2=>
      cases n <;> simp only [Oper.upon] at h ⊢ <;> first
       | exact fin' _ _ h
       | exact Calls.mono h (λe w3 he=>match e,he with
         | .returned v,he=>fin' _ _ he
         | .panicked c,he=>absurd he.1 (by simp)
         | .outgrown,he=>absurd he.choose_spec.choose_spec.1 (by simp))
       | exact Rows.mono h (λv w3 he=>fin' _ _ he)
     | halt y w2=>
      cases y <;> simp only [Oper.upon] at h ⊢
      exact absurd h.1 (by simp)
    ·cases h
   ·rw [Qs hwn] at hone ⊢
    exact fin2 _ _ hone
def EA (L:Env):List Env->Prop
 | []=>True
 | E::r=>Kept L E/\EA L r
theorem EA.get {L:Env}:∀ {Es:List Env},EA L Es->∀ i t v,lk (Es.getD i []) t=some v->lk L t=some v
 | [],_,i,t,v,h=>by simp [lk] at h
 | E::r,hk,0,t,v,h=>hk.1.lk t v (by simpa using h)
 | E::r,hk,i+1,t,v,h=>EA.get hk.2 i t v (by simpa using h)
theorem yW {id:Nat} (m:Nat) (Φ:MW) (C U:List (List Nat)) (I:List (List bQ)) (live:List Nat) (L0:Env) (Es:List Env) (hmix:x.P.follows .mixedOrders=true) (hB:vj l m=true) (hml:Nat.ble m l.length=true) (hD:yI l m L0=true) (hX:DP l m Es=true) (hL0:∀ t v,lk L0 t=some v->lk L t=some v) (hE:EA L Es) (hNd:yJ l m=true)
  (hT:GM l m (m+I.length) C U live=true)
  (hmono:∀ i H1 H2 rs v,H1.le H2->Φ i H1 rs v->Φ i H2 rs v)
  (hop:xr x l Φ C U Es (Et m I) H M L0 0 (l.take m))
  (k:∀ H',H.le H'->wI l Φ H' (List.range m) L0 (Et m I) (λL' R=>W x l.toArray Q (l.drop m) H' (tX live R M) L')):Go.Sim.C x (.region id l.toArray true) Q H (I.flatten++M) L:=by
 intro a w hs ht;refine wp_region_any hmix ?_;have hml':m<=l.length:=by simpa [Tb] using hml
 have hlist:∀ j,(Array.replicate l.toArray.size false).getD j true=if j<l.length then false else true:=by
  intro j;simp only [Q_,Array.getElem?_replicate,S1]
  split <;> simp
 have hlist2:∀ j,(Array.replicate l.toArray.size false).getD j false=false:=by
  intro j;simp only [Q_,Array.getElem?_replicate,S1]
  split <;> simp
 have hstart:((List.range (m+I.length)).filter (alive m C (Array.replicate l.toArray.size false))).flatMap (Et m I)=I.flatten:=by
  rw [List.range_add,Te];have e1:(List.range m).filter (alive m C (Array.replicate l.toArray.size false))=[]:=by
   rw [List.filter_eq_nil_iff];intro q hq;rw [sx];rintro ⟨h | h,_⟩
   ·have:=Rf.1 hq; omega
   ·rw [hlist2] at h; cases h
  have e2:((List.range I.length).map (m+·)).filter (alive m C (Array.replicate l.toArray.size false))=(List.range I.length).map (m+·):=by
   rw [Vr];intro q hq;obtain ⟨r,hr,rfl⟩:=Ra.1 hq;rw [sx];exact ⟨.inl (by omega),λi _ h=>by rw [hlist2] at h; cases h⟩
  rw [e1,e2,R2,List.flatMap_map];have e3:(List.range I.length).flatMap (λq=>Et m I (m+q))=((List.range I.length).map λq=>I.getD q []).flatten:=by
   rw [List.flatMap_def]
   congr 1
   refine List.map_congr_left λq _=>?_;unfold Et;rw [Qs (by omega),Sy]
  rw [e3]
  congr 1
  apply R8;intro q;rw [QS]
  by_cases hq:q<I.length
  ·rw [Sq hq,Ql hq]; simp [QW,hq]
  ·rw [Rj (by simp; omega),Rj (by omega)]; rfl
 refine LV (Q:=Q) (K:=m+I.length) hB hml' hD hX hL0 (λi t v h=>hE.get i t v h) hNd (Me hT) (by omega) hmono hop k l.toArray.size _ a _ H (Et m I) (by simp) ?_ (λj hj hjl=>by rw [hlist,Qu hjl]) (λi o _ h=>by rw [hlist2] at h; cases h) (Rh _) ?_ ⟨hs.size,hs.EU,λt v h=>by simp [lk] at h⟩ (λt v h _=>hs.get t v h) (λ_ _=>rfl) ?_
 ·unfold left
  exact Ro (Td ..) (by simp)
 ·rw [hstart]; exact ht.drewN _
 ·intro i o hi ho hl
  rw [hlist,Qu (by omega)] at hl
  cases hl
theorem rO {id:Nat} (m:Nat) (Φ:MW) (C U:List (List Nat)) (I:List (List bQ)) (live:List Nat) (hmix:x.P.follows .mixedOrders=true) (hB:vj l m=true) (hml:Nat.ble m l.length=true) (hD:yI l m L=true) (hNd:yJ l m=true)
  (hT:GM l m (m+I.length) C U live=true)
  (hmono:∀ i H1 H2 rs v,H1.le H2->Φ i H1 rs v->Φ i H2 rs v)
  (hop:xr x l Φ C U [] (Et m I) H M L 0 (l.take m))
  (k:∀ H',H.le H'->wI l Φ H' (List.range m) L (Et m I) (λL' R=>W x l.toArray Q (l.drop m) H' (tX live R M) L')):Go.Sim.C x (.region id l.toArray true) Q H (I.flatten++M) L:=
 yW m Φ C U I live L [] hmix hB hml hD (by unfold DP; simp) (λ_ _ h=>h) Qk hNd hT hmono hop k
end
section
variable {x:Cx}{ops:Array Oper}{Q:lZ}{rest:List Oper}{H:Hp}{M M':List bQ}{L L':Env}
theorem qY {M'} (h:M=M') (k:W x ops Q rest H M' L):W x ops Q rest H M L:=h▸k
theorem I3 {c:Code}{M'} (h:M=M') (k:C x c Q H M' L):C x c Q H M L:=h▸k
theorem O6 {e:Exit}{M'} (h:M=M') (k:E x e Q H M' L):E x e Q H M L:=h▸k
theorem FJ {e:Exit} (hM:M.Perm M') (k:E x e Q H M' L):E x e Q H M L:=λa w hs ht=>k a w hs (ht.perm hM)
theorem Be {c:Code} (hM:M.Perm M') (k:C x c Q H M' L):C x c Q H M L:=λa w hs ht=>k a w hs (ht.perm hM)
theorem qu {c:Code}{v:Qj}{T:TypeId}{sz n:Nat}{xs:List Qj} (hm:bQ.row v T sz n xs ∈ M) (k:n<=maxLen->C x c Q H M L):C x c Q H M L:=λa w hs ht=>by
 have hok:jM w T sz v n xs:=ht.ok _ hm;refine k ?_ a w hs ht;rcases hok.2 with ⟨_,rfl⟩ | ⟨g,off,cap,cur,rfl,hg,hnc,hcm,_⟩
 ·unfold maxLen; omega
 ·omega
theorem FK {e:Exit}{H0:Hp} (hle:H0.le H) (k:E x e Q H0 M L):E x e Q H M L:=λa w hs ht=>k a w hs (ht.Mh hle)
end
section
variable {P:Program}{N B:Nat}{w0:World}{fn:Func}{Φ:Hp->List bQ->Qj->Prop}{H:Hp}{M:List bQ}{L:Env}
theorem GR (k:E ⟨P,N,B,w0⟩ .ret (bodyPost P fn (ur B w0 Φ)) H M L):E ⟨P,N,B,w0⟩ .normal (bodyPost P fn (ur B w0 Φ)) H M L:=λa w hs ht=>k a w hs ht
theorem Ih (hr:fn.results=#[]) (h:Φ H M (.tuple #[])):E ⟨P,N,B,w0⟩ .ret (bodyPost P fn (ur B w0 Φ)) H M L:=
 λa w hs ht=>⟨hs.EU,.tuple #[],by simp [results,hr],H,M,ht,h⟩
theorem Oi {t u s:Nat}{v1 v2 v3:Qj} (hr:fn.results=#[.tmp t,.tmp u,.tmp s]) (hl:lk L t=some v1) (hl2:lk L u=some v2) (hl3:lk L s=some v3) (h:Φ H M (.tuple #[v1,v2,v3])):E ⟨P,N,B,w0⟩ .ret (bodyPost P fn (ur B w0 Φ)) H M L:=
 λa w hs ht=>⟨hs.EU,.tuple #[v1,v2,v3],by simp [results,hr,Q_,hs.get t v1 hl,hs.get u v2 hl2,hs.get s v3 hl3],H,M,ht,h⟩
end
class Flat (α:Type) [aH α]:Prop where
 ind:∀ {H H':Hp}{cs:List Qj}{x:α},aH.E H cs x->aH.E H' cs x
instance:Flat Int:=⟨λh=>h⟩
instance:Flat Bool:=⟨λh=>h⟩
instance:Flat Qi:=⟨λh=>h⟩
instance:Flat U8:=⟨λh=>h⟩
instance:Flat O2:=⟨λh=>h⟩
instance:Flat bU:=⟨λh=>h⟩
instance:Flat Du:=⟨λh=>h⟩
instance:Flat O0:=⟨λh=>h⟩
theorem qC.flat {α:Type}[aH α] [Flat α] {H H':Hp}:∀ {cs:List Qj}{ys:List α},qC H cs ys->qC H' cs ys
 | _,[],h=>h
 | _,_::_,⟨c,r,e,h,k⟩=>⟨c,r,e,Flat.ind h,qC.flat k⟩
def sW {α:Type}[aH α] (v:Qj) (xs:List Qj) (l:List α):Prop:=∀ H,Rw H v xs l
def O8 {α:Type}[aH α] (xs:List Qj) (l:List α):Prop:=∀ H,qC H xs l
theorem Rw.py {α:Type}[aH α] [Flat α] {H:Hp}{v:Qj}{xs:List Qj}{l:List α} (h:Rw H v xs l):sW v xs l:=λH'=>⟨h.rd.flat,h.sl⟩
theorem qC.py {α:Type}[aH α] [Flat α] {H:Hp}{xs:List Qj}{l:List α} (h:qC H xs l):O8 xs l:=λH'=>h.flat
def Am {α R:Type} (o:Option α) (a:R) (f:α->R):R:=match o with
 | none=>a
 | some s=>f s
theorem yS {α R:Type}{o:Option α}{a:R}{f:α->R}{r:R} (h:o=none) (k:Am o a f=r):a=r:=by subst h; exact k
theorem yT {α R:Type}{o:Option α}{a:R}{f:α->R}{s:α}{r:R} (h:o=some s) (k:Am o a f=r):f s=r:=by subst h; exact k
def zv (l:List (Hp->List bQ->Qj->Prop)) (i:Nat):Hp->List bQ->Qj->Prop:=l.getD i (λ_ _ _=>True)
def MA (p:Hp->List bQ->Qj->Prop):Prop:=∀ H1 H2 rs v,H1.le H2->p H1 rs v->p H2 rs v
def Bi:List (Hp->List bQ->Qj->Prop)->Prop
 | []=>True
 | p::l=>MA p/\Bi l
theorem uP {l:List (Hp->List bQ->Qj->Prop)} (h:Bi l):∀ i H1 H2 rs v,H1.le H2->zv l i H1 rs v->zv l i H2 rs v:=by
 induction l with
 | nil=>intro i H1 H2 rs v _ _; exact Qk
 | cons p l ih=>
  intro i H1 H2 rs v hle hp;cases i with
  | zero=>exact h.1 H1 H2 rs v hle hp
  | succ i=>exact ih h.2 i H1 H2 rs v hle hp
theorem gZ (rs0:List bQ) (c:Qj):MA (λ_ rs v=>rs0=rs/\c=v):=λ_ _ _ _ _ h=>h
theorem HY {α:Type}{f:α->Qj}{l:List α}{k:Nat}{y:α} (he:l[k]? = some y):(l.map f)[k*1]? = some (f y):=by
 rw [S9,QS,he]; rfl
section
variable {x:Cx}{ops:Array Oper}{Q:lZ}{rest:List Oper}{H:Hp}{M M':List bQ}{L L':Env}
variable {d:Nat}{ty:TypeId}{pos:String}{aft:Array Edge}{g:Option (Nat×Bool)}
theorem qD {t e m sz:Nat}{y z:Operand}{ad:Addr}{kk:IntKind}{i:Int}
  (hg:gd ops L ⟨some d,.indexAddr t y z,ty,pos,aft,g⟩=some true) (hN:Nat.blt d x.N=true)
  (hT:∀ w,(underlying t).run x.P w=.ok (.array m e) w) (hs:∀ w,(sizeOf e).run x.P w=.ok sz w)
  (hy:ev L y=some (.pointer (some ad))) (hz:ev L z=some (.int kk i)) (h0:0<=i) (h1:i.toNat<m)
  (k:W x ops Q rest H M ((d,.pointer (some (ad.add (i.toNat*sz))))::L)):
  W x ops Q (⟨some d,.indexAddr t y z,ty,pos,aft,g⟩::rest) H M L:=
 fG rfl hg hN (λc w hsl ht=>by
  have h1':i<(m:Int):=by omega
  simp [execOp,hsl.ev hy,hsl.ev hz,Instr.indexAt,asIntOf,hT,hs,h0,h1',Instr.sureAddr]) k
theorem HQ {T E:TypeId}{m sz n n' i:Nat}{y z:Operand}{v u:Qj}{ad:Addr}{xs cs:List Qj} (hg:gd ops L ⟨none,.store T y z,ty,pos,aft,g⟩=some true)
  (hn:∀ w,(sizeOf T).run x.P w=.ok m w) (hy:ev L y=some (.pointer (some ad))) (had:ad=(Value.base v).add i) (hz:ev L z=some u) (hv:u.cells=cs.toArray) (hl:cs.length=m)
  (hb:i+cs.length<=xs.length) (hpos:Nat.blt 0 cs.length=true) (h1:∀ c ∈ cs,c.oneCell'=true) (hnn:n'=n)
  (k:W x ops Q rest H (.row v E sz n' (over xs i cs)::M) L):
  W x ops Q (⟨none,.store T y z,ty,pos,aft,g⟩::rest) H (.row v E sz n xs::M) L:=by
 subst hnn;exact xu hg hn hy had hz hv hl hb hpos h1 k
theorem yC {T e m sz:Nat}{ps:List (Nat×Operand)}{vs:List Qj}{css:List (List Qj)}{z:Qj}{zs out:List Qj}{places:List (Nat×Nat)}
  (hg:gd ops L ⟨some d,.build T ps.toArray,ty,pos,aft,g⟩=some true) (hN:Nat.blt d x.N=true)
  (hv:yK L (ps.map (·.2))=some vs) (hc:zV vs css)
  (hz:∀ w,(zeroValue T).run x.P w=.ok z w) (hzs:z.cells=zs.toArray) (hT:∀ w,(underlying T).run x.P w=.ok (.array m e) w) (hs:∀ w,(sizeOf e).run x.P w=.ok sz w)
  (hpl:places=(List.range m).map λi=>(i*sz,sz))
  (ho:laid places zs ((ps.map (·.1)).zip css)=some out)
  (k:W x ops Q rest H M ((d,.agg out.toArray)::L)):
  W x ops Q (⟨some d,.build T ps.toArray,ty,pos,aft,g⟩::rest) H M L:=
 fG rfl hg hN (λa w hsl ht=>by
  have hl:(ps.map (·.1)).length=vs.length:=by rw [<- hsl.yK hv]; simp
  have hf:=wc (place:=λi=>some (i*sz,sz)) (places:=places) (λi o h=>by
   rw [hpl,QS] at h;cases hh:(List.range m)[i]? with
   | none=>rw [hh] at h; cases h
   | some j=>
    rw [hh] at h;have:j=i:=by
     have:=Qo.1 hh;simpa using this.2.symm
    subst this;simpa using h) (ps.map (·.1)) vs css zs out hc hl ho
  have hps:=A5 hsl hv;simp only [execOp,Instr.build,QA,hz,Qx,hT,hzs,hs];simp only [hps,hf,QG,Qx]) k
theorem fO {α:Type}[aH α] {T e:TypeId}{n:Nat}{ps:List (Nat×Operand)}{vs:List Qj}{css:List (List Qj)}{z:Qj}{zs out:List Qj}{places:List (Nat×Nat)}{ys:List α}
  (hg:gd ops L ⟨some d,.buildSlice T n ps.toArray,ty,pos,aft,g⟩=some true) (hN:Nat.blt d x.N=true)
  (hv:yK L (ps.map (·.2))=some vs) (hc:zV vs css)
  (hT:∀ w,(underlying T).run x.P w=.ok (.slice e) w) (hs:∀ w,(sizeOf e).run x.P w=.ok (aH.sz α) w) (hs0:Nat.blt 0 (aH.sz α)=true)
  (hz:∀ w,(zeroValue e).run x.P w=.ok z w) (hzs:(Array.range (n*aH.sz α)).map (z.cells[·%z.cells.size]!)=zs.toArray)
  (hpl:places=(List.range n).map λi=>(i*aH.sz α,aH.sz α)) (hn:Nat.ble (n*aH.sz α) 16777216=true) (hnn:Nat.blt 0 n=true)
  (ho:laid places zs ((ps.map (·.1)).zip css)=some out) (hr:qC H out ys) (hyn:ys.length=n)
  (k:∀ v' xs',Rw H v' xs' ys->W x ops Q rest H (.row v' e (aH.sz α) ys.length xs'::M) ((d,v')::L)):
  W x ops Q (⟨some d,.buildSlice T n ps.toArray,ty,pos,aft,g⟩::rest) H M L:=by
 refine s5 rfl hg hN λa w hsl ht=>?_;have hl:(ps.map (·.1)).length=vs.length:=by rw [<- hsl.yK hv]; simp
 have hs0':0<aH.sz α:=by simpa [Rv] using hs0
 have hn':n*aH.sz α<=16777216:=by simpa [Tb] using hn
 have hnn':0<n:=by simpa [Rv] using hnn
 have hpos:0<n*aH.sz α:=Nat.mul_pos hnn' hs0';have hf:=wc (place:=λi=>some (i*aH.sz α,aH.sz α)) (places:=places) (λi o h=>by
  rw [hpl,QS] at h;cases hh:(List.range n)[i]? with
  | none=>rw [hh] at h; cases h
  | some j=>
   rw [hh] at h;have:j=i:=by
    have:=Qo.1 hh;simpa using this.2.symm
   subst this;simpa using h) (ps.map (·.1)) vs css zs out hc hl ho
 have hps:=A5 hsl hv;have hsz:out.length=n*aH.sz α:=by rw [hr.len,hyn]
 have hmax:ys.length<=maxLen:=by
  unfold maxLen;have:n<=n*aH.sz α:=Tm _ hs0';omega
 refine ⟨.slice (some ⟨w.heap.size,0,none⟩) ys.length ys.length,w.alloc (.cells out.toArray e),?_,H,_,St.newRow (e:=e) ht hr hmax,k _ _ ⟨hr,_,_,_,rfl⟩⟩;have h1:¬ (2 ^ 24<n*aH.sz α):=by omega
 have h2:¬ (n*aH.sz α=0):=by omega
 simp only [execOp,Instr.buildSlice,QA,hT,Qx,hs,gt_iff_lt,h1,h2,R_,hz,QG];simp only [hps];have hf':Instr.fill (λi=>some (i*aH.sz α,aH.sz α)) ((Array.range (n*aH.sz α)).map (z.cells[·%z.cells.size]!)) ((List.map (λx=>x.fst) ps).zip vs)=some out.toArray:=by
  rw [hzs]; exact hf
 simp only [hf',newRow,newObj,QA,QG,Sem.run,Qx,World.alloc,hyn]
end
inductive fZ (P:Program) (M:List bQ) (L:Env):ResultVar->Qj->Prop
 | tmp {t}{v:Qj} (h:lk L t=some v):fZ P M L (.tmp t) v
 | one {t ty b T}{l:List Qj}{fz}{v:Qj} (h:lk L t=some (.pointer (some ⟨b,0,none⟩))) (hA:∀ w,(isAgg ty).run P w=.ok false w) (hm:bQ.obj b (.cells (v::l).toArray T fz) ∈ M):fZ P M L (.cell t ty) v
 | agg {t ty b T}{l:List Qj}{fz n} (h:lk L t=some (.pointer (some ⟨b,0,none⟩))) (hA:∀ w,(isAgg ty).run P w=.ok true w) (hn:∀ w,(sizeOf ty).run P w=.ok n w) (hm:bQ.obj b (.cells l.toArray T fz) ∈ M) (hl:l.length=n):fZ P M L (.cell t ty) (.agg l.toArray)
 | arr {t ty v T sz k}{xs:List Qj}{n} (h:lk L t=some (.pointer (some (Value.base v)))) (hA:∀ w,(isAgg ty).run P w=.ok true w) (hn:∀ w,(sizeOf ty).run P w=.ok n w) (hm:bQ.row v T sz k xs ∈ M) (hl:xs.length=n):fZ P M L (.cell t ty) (.agg xs.toArray)
def Il (tmps:Array Qj):ResultVar->Sem Qj
 | .tmp t=>pure (tmps.getD t undef)
 | .cell a t=>do loadVar t (<- asAddr (tmps.getD a undef))
theorem xO (fn:Func) (tmps:Array Qj):results fn tmps=(do
  let vs <- fn.results.mapM (Il tmps)
  pure (if h:vs.size=1 then vs[0] else .tuple vs)):=rfl
theorem fZ.run {P:Program}{M:List bQ}{L:Env}{N B:Nat}{w0 w:World}{H:Hp}{a:Act}{rv:ResultVar}{v:Qj} (h:fZ P M L rv v) (hs:Sl N L a) (ht:St B w0 H M w):
  (Il a.tmps rv).run P w=.ok v w:=by
 cases h with
 | tmp h=>simp [Il,Q_,hs.get _ _ h]
 | one h hA hm=>
  have hc:=(vT (x:=⟨P,N,B,w0⟩) (H:=H) hm (off:=0) (v:=v) rfl) w ht;simp [Il,Q_,hs.get _ _ h,asAddr,loadVar,hA,load,Sem.run,hc]
 | agg h hA hn hm hl=>
  rename_i t ty b T l fz n
  have hc:=(D8 (x:=⟨P,N,B,w0⟩) (H:=H) hm);have hr:=run_loadCellsFrom (P:=P) (w:=w) (ad:=⟨b,0,none⟩) l 0 #[] (λj v hv=>by rw [QL]; exact hc j v hv w ht)
  rw [hl] at hr;simp [Il,Q_,hs.get _ _ h,asAddr,loadVar,hA,hn,loadCells,hr]
 | arr h hA hn hm hl=>
  rename_i t ty v T sz k xs n
  have hr:=run_loadCellsFrom (P:=P) (w:=w) (ad:=Value.base v) xs 0 #[] (λj u hu=>by rw [QL]; exact (Cs (x:=⟨P,N,B,w0⟩) (H:=H) hm hu) w ht)
  rw [hl] at hr;simp [Il,Q_,hs.get _ _ h,asAddr,loadVar,hA,hn,loadCells,hr]
section
variable {P:Program}{N B:Nat}{w0:World}{fn:Func}{Φ:Hp->List bQ->Qj->Prop}{H H0:Hp}{M M1 M2:List bQ}{L:Env}
theorem kR {r1:ResultVar}{v1:Qj} (hle:H0.le H) (hr:fn.results=#[r1]) (h1:fZ P M L r1 v1) (hd:M1.Sublist M) (hp:M1.Perm M2) (h:Φ H0 M2 v1):
  E ⟨P,N,B,w0⟩ .ret (bodyPost P fn (ur B w0 Φ)) H M L:=λa w hs ht=>by
 have q1:=h1.run hs ht;refine ⟨hs.EU,v1,?_,H0,M2,((ht.sub hd).perm hp).Mh hle,h⟩;rw [xO,hr];simp [q1]
theorem C5 {r1 r2:ResultVar}{v1 v2:Qj} (hle:H0.le H) (hr:fn.results=#[r1,r2]) (h1:fZ P M L r1 v1) (h2:fZ P M L r2 v2) (hd:M1.Sublist M) (hp:M1.Perm M2) (h:Φ H0 M2 (.tuple #[v1,v2])):
  E ⟨P,N,B,w0⟩ .ret (bodyPost P fn (ur B w0 Φ)) H M L:=λa w hs ht=>by
 have q1:=h1.run hs ht;have q2:=h2.run hs ht;refine ⟨hs.EU,_,?_,H0,M2,((ht.sub hd).perm hp).Mh hle,h⟩;rw [xO,hr];simp [q1,q2]
theorem BQ {r1 r2 r3:ResultVar}{v1 v2 v3:Qj} (hle:H0.le H) (hr:fn.results=#[r1,r2,r3]) (h1:fZ P M L r1 v1) (h2:fZ P M L r2 v2) (h3:fZ P M L r3 v3) (hd:M1.Sublist M) (hp:M1.Perm M2) (h:Φ H0 M2 (.tuple #[v1,v2,v3])):
  E ⟨P,N,B,w0⟩ .ret (bodyPost P fn (ur B w0 Φ)) H M L:=λa w hs ht=>by
 have q1:=h1.run hs ht;have q2:=h2.run hs ht;have q3:=h3.run hs ht;refine ⟨hs.EU,_,?_,H0,M2,((ht.sub hd).perm hp).Mh hle,h⟩;rw [xO,hr];simp [q1,q2,q3]
end
theorem aQ.shape {α:Type}[aH α] {H:Hp}{v:Qj}{xs:List α} (h:aQ H v xs):∃ o n c,v=.slice o n c:=by
 obtain ⟨a,c,rfl,_⟩:=h.len; exact ⟨_,_,_,rfl⟩
theorem aQ.isNil {α:Type}[aH α] {H:Hp}{n c:Nat}{xs:List α} (h:aQ H (.slice none n c) xs):xs=[]:=by
 rcases h with ⟨_,h⟩ | ⟨b,off,cap,arr,T,fz,h,_⟩
 ·exact h
 ·cases h
def N_ {α:Type} (v:Qj) (l:List α):Prop:=(∃ n c,v=.slice none n c/\l=[])\/(∃ a n c,v=.slice (some a) n c/\l≠[])
theorem N_.nil {α:Type}:N_ (.slice none 0 0) ([]:List α):=.inl ⟨_,_,rfl,rfl⟩
section
variable {x:Cx}{ops:Array Oper}{Q:lZ}{rest:List Oper}{H:Hp}{M M':List bQ}{L L':Env}
variable {d:Nat}{ty:TypeId}{pos:String}{aft:Array Edge}{g:Option (Nat×Bool)}
theorem Mw {α:Type}[aH α] {H:Hp}{zs:List Qj}{ze:α} (hE:aH.E H zs ze) (hzl:zs.length=aH.sz α):∀ q,qC H ((List.range (q*aH.sz α)).map (zs.toArray[·%zs.length]!)) (List.replicate q ze):=by
 intro q
 induction q with
 | zero=>rw [RW]; exact rfl
 | succ q ih=>
  have hsplit:(List.range ((q+1)*aH.sz α)).map (zs.toArray[·%zs.length]!)=zs++(List.range (q*aH.sz α)).map (zs.toArray[·%zs.length]!):=by
   apply R8;intro j;rw [Sz,QS]
   by_cases hj:j<zs.length
   ·rw [Qu hj,Sq (by rw [QK]; omega)]
    simp [Se hj,hj]
   ·rw [Qs hj,QS]
    by_cases hj2:j<(q+1)*aH.sz α
    ·rw [Sq hj2,Sq (by rw [QK] at hj2; omega)]
     simp only [RR];rw [<- Nat.mod_eq_sub_mod (by omega)]
    ·rw [Rj (by simp; omega),Rj (by rw [QK] at hj2; simp; omega)]
  rw [hsplit];exact ⟨zs,_,rfl,hE,ih⟩
end
end Go.Sim
