/-
  The proof, part A1.
-/
import Derived.WalkKit
import Derived.WalkSpells
import Derived.WalkLawsBesides
import Derived.Lib.AppendZeros
set_option linter.unusedVariables false
set_option linter.unusedSimpArgs false
set_option linter.unusedSectionVars false
set_option linter.unnecessarySimpa false
namespace Go.Sim
abbrev IC := @Go.Addr.add_lit
abbrev Ij := @Array.getD_eq_getD_getElem?
abbrev Kh := @Array.getElem?_eq_getElem
abbrev I1 := @Array.getElem?_eq_some_iff
abbrev L1 := @Array.getElem?_modify
abbrev Lc := @Array.getElem?_setIfInBounds
abbrev Mh := @Array.toList_append
abbrev Jn := @Bool.and_eq_true
abbrev Jk := @Bool.false_eq_true
abbrev Jd := @Bool.or_eq_true
abbrev Mi := @Go.ByteArray.toList_eq
abbrev Ip := @Int.natCast_mul
abbrev Ha := @Int.toNat_natCast
abbrev IG := @List.all_eq_true
abbrev H6 := @List.append_assoc
abbrev Ia := @List.append_nil
abbrev JQ := @List.cons_append
abbrev Ld := @List.contains_iff_mem
abbrev Kf := @List.countP_le_length
abbrev Kt := @List.drop_append_of_le_length
abbrev Jt := @List.drop_drop
abbrev Il := @List.drop_eq_getElem_cons
abbrev KU := @List.drop_length
abbrev J4 := @List.drop_set_of_lt
abbrev JU := @List.drop_take
abbrev Jg := @List.drop_zero
abbrev H7 := @List.eq_nil_of_length_eq_zero
abbrev Ji := @List.ext_getElem?
abbrev JK := @List.filterMap_cons
abbrev KC := @List.filter_append
abbrev Mk := @List.filter_eq_self
abbrev Ml := @List.flatMap_append
abbrev LO := @List.flatMap_cons
abbrev HW := @List.getD_eq_getElem?_getD
abbrev Jv := @List.getElem?_append
abbrev IM := @List.getElem?_append_left
abbrev HY := @List.getElem?_append_right
abbrev Ib := @List.getElem?_drop
abbrev G9 := @List.getElem?_eq_getElem
abbrev Iv := @List.getElem?_eq_none
abbrev G6 := @List.getElem?_eq_some_iff
abbrev HZ := @List.getElem?_map
abbrev JB := @List.getElem?_range
abbrev Lb := @List.getElem?_set
abbrev It := @List.getElem?_take
abbrev Iy := @List.getElem_mem
abbrev HQ := @List.length_append
abbrev Hz := @List.length_cons
abbrev JN := @List.length_map
abbrev IS := @List.length_replicate
abbrev Is := @List.length_singleton
abbrev HT := @List.length_take
abbrev I4 := @List.map_append
abbrev KK := @List.map_cons
abbrev Ma := @List.map_nil
abbrev HV := @List.mem_append
abbrev Hb := @List.mem_append_left
abbrev IH := @List.mem_append_right
abbrev Ik := @List.mem_cons
abbrev Ho := @List.mem_cons_of_mem
abbrev He := @List.mem_cons_self
abbrev IX := @List.mem_filter
abbrev JE := @List.mem_filterMap
abbrev IN := @List.mem_iff_getElem
abbrev II := @List.mem_map
abbrev Hu := @List.mem_of_getElem?
abbrev Io := @List.mem_range
abbrev IJ := @List.mem_singleton
abbrev Jw := @List.nil_append
abbrev IK := @List.nodup_append
abbrev Km := @List.nodup_cons
abbrev Ki := @List.pairwise_iff_getElem
abbrev K1 := @List.range_succ
abbrev KP := @List.set_eq_take_append_cons_drop
abbrev Kr := @List.size_toArray
abbrev KS := @List.take_left
abbrev I5 := @List.take_length
abbrev HN := @List.take_of_length_le
abbrev J6 := @List.take_set_of_le
abbrev Ig := @List.take_succ_eq_append_getElem
abbrev Le := @List.take_take
abbrev J7 := @List.toList_toArray
abbrev JT := @Nat.add_assoc
abbrev HI := @Nat.add_mul
abbrev JG := @Nat.add_sub_cancel_left
abbrev Jb := @Nat.add_zero
abbrev Kn := @Nat.ble_eq
abbrev IE := @Nat.blt_eq
abbrev JC := @Nat.eq_of_beq_eq_true
abbrev Jo := @Nat.eq_of_mul_eq_mul_right
abbrev Ku := @Nat.le_mul_of_pos_right
abbrev HH := @Nat.le_refl
abbrev IY := @Nat.le_trans
abbrev KD := @Nat.lt_of_le_of_lt
abbrev Hi := @Nat.lt_succ_self
abbrev Ks := @Nat.lt_trichotomy
abbrev Ix := @Nat.min_eq_left
abbrev Jr := @Nat.mod_eq_of_lt
abbrev HD := @Nat.mul_le_mul_right
abbrev Kk := @Nat.mul_one
abbrev Lo := @Nat.one_mul
abbrev IT := @Nat.sub_self
abbrev Lh := @Nat.sub_zero
abbrev H_ := @Nat.zero_add
abbrev Jc := @Nat.zero_mul
abbrev LM := @Option.bind_eq_some_iff
abbrev Ke := @Option.bind_some
abbrev JA := @Option.getD_some
abbrev K8 := @Option.map_eq_some_iff
abbrev K3 := @Option.map_none
abbrev I7 := @Option.map_some
abbrev G7 := @Option.some.inj
abbrev H9 := @Option.some.injEq
abbrev KY := @Prod.mk.injEq
abbrev Hr := @Go.Result.andThen_ok
abbrev Hx := @Go.Sem.run_bind
abbrev HL := @Go.Sem.run_pure
abbrev KI := @UInt8.lt_iff_toNat_lt
abbrev Me := @UInt8.toNat_inj
abbrev HB := @congrArg
abbrev IF := @decide_eq_true_eq
abbrev Mf := @decide_false
abbrev Mp := @Go.grownCap_ge
abbrev Lz := @Go.grownCap_le_maxLen
abbrev Mo := @Go.growslice_fits
abbrev LJ := @Go.heap_alloc_new
abbrev JL := @if_false
abbrev Hh := @if_neg
abbrev Hl := @if_pos
abbrev Lp := @if_true
abbrev Hv := @of_decide_eq_false
abbrev Hk := @of_decide_eq_true
abbrev Mn := @Go.run_firstCells_some
abbrev I_ := @Go.run_underlying
abbrev G_ := @trivial
abbrev Lq := @Go.wpList_step
end Go.Sim
namespace Go.Sim
open Go Go.RowKit
open _root_.Go.IntKind (i64 u64 u32 u8)
abbrev Hp:=Nat→Option Obj
def Hp.le (H H':Hp):Prop:=∀ b o,H b=some o→H' b=some o
theorem G8 (H:Hp):H.le H:=fun _ _ h=>h
theorem G4 {A B C:Hp} (h:A.le B) (k:B.le C):A.le C:=fun b o x=>k b o (h b o x)
def Hp.add (H:Hp) (b:Nat) (o:Obj):Hp:=fun c=>if c=b then some o else H c
theorem Hp.Fv {H:Hp}{b:Nat}{o:Obj} (h:H b=none):H.le (H.add b o):=by
 intro c x hx;unfold Hp.add
 split
 ·rename_i e; subst e; rw [h] at hx; cases hx
 ·exact hx
theorem Hp.rP (H:Hp) (b:Nat) (o:Obj):H.add b o b=some o:=by simp [Hp.add]
def snap (w:World):Hp:=fun b=>w.heap[b]?
def fN (w:World) (T:TypeId) (sz:Nat) (v:Value) (n:Nat) (xs:List Value):Prop:=
  xs.length=n*sz ∧
  ((v=.slice none 0 0∧n=0) ∨
   ∃ g off cap cur,v=.slice (some ⟨g,off,none⟩) n cap∧w.heap[g]? = some (.cells cur T (0,0))∧n≤cap∧cap≤maxLen∧off+cap*sz≤cur.size∧(cur.toList.drop off).take (n*sz)=xs)
theorem fN.lt {w:World}{T:TypeId}{sz:Nat}{v:Value}{n:Nat}{xs:List Value} (h:fN w T sz v n xs) {k:Nat} (hk:v.ownBlock=some k):k<w.heap.size:=by
 rcases h.2 with ⟨rfl,_⟩ | ⟨g,off,cap,cur,rfl,hg,_⟩
 ·simp [Value.ownBlock] at hk
 ·simp only [Value.ownBlock,H9] at hk
  subst hk;exact (I1.1 hg).1
theorem fN.kept {w w':World}{T:TypeId}{sz:Nat}{v:Value}{n:Nat}{xs:List Value}{row:Option Nat} (h:fN w T sz v n xs) (hg:w.grownBy w' row)
  (hne:∀ b,v.ownBlock=some b→row≠some b):fN w' T sz v n xs:=by
 refine ⟨h.1,?_⟩;rcases h.2 with hn | ⟨g,off,cap,cur,rfl,hgg,rest⟩
 ·exact .inl hn
 ·refine .inr ⟨g,off,cap,cur,rfl,?_,rest⟩
  rw [hg.block g (I1.1 hgg).1 (fun e=>hne g rfl e.symm)];exact hgg
theorem fN.nil (w:World) (T:TypeId) (sz:Nat):fN w T sz (.slice none 0 0) 0 []:=⟨by simp,.inl ⟨rfl,rfl⟩⟩
inductive bR where
 | obj (b:Nat) (o:Obj)
 | row (v:Value) (T:TypeId) (sz n:Nat) (xs:List Value)
def bR.pW:bR→Option Nat
 | .obj b _=>some b
 | .row v _ _ _ _=>v.ownBlock
def bR.ok (w:World):bR→Prop
 | .obj b o=>w.heap[b]? = some o
 | .row v T sz n xs=>fN w T sz v n xs
theorem bR.D3 {w:World}{r:bR} (h:r.ok w) {b:Nat} (hb:r.pW=some b):b<w.heap.size:=by
 cases r with
 | obj c o=>
  simp only [bR.pW,H9] at hb;subst hb;simp only [bR.ok] at h;exact (I1.1 h).1
 | row v T sz n xs=>exact fN.lt h hb
theorem bR.kept {w w':World}{r:bR}{row:Option Nat} (h:r.ok w) (hg:w.grownBy w' row) (hne:∀ b,r.pW=some b→row≠some b):r.ok w':=by
 cases r with
 | obj c o=>
  simp only [bR.ok] at h ⊢;rw [hg.block c (I1.1 h).1 (fun e=>hne c rfl e.symm)];exact h
 | row v T sz n xs=>
  exact fN.kept h hg hne
structure St (B:Nat) (w0:World) (H:Hp) (M:List bR) (w:World):Prop where
 below:Below B w0 w
 le:B≤w.heap.size
 rS:∀ b o,H b=some o→w.heap[b]? = some o
 ok:∀ r ∈ M,r.ok w
 lo:∀ r ∈ M,∀ b,r.pW=some b→B≤b∧H b=none
 nd:(M.filterMap bR.pW).Nodup
section
variable {B:Nat}{w0 w w':World}{H H':Hp}{M M':List bR}
theorem St.lt (h:St B w0 H M w) {b:Nat}{o:Obj} (hb:H b=some o):b<w.heap.size:=(I1.1 (h.rS b o hb)).1
theorem St.perm (h:St B w0 H M w) (p:M.Perm M'):St B w0 H M' w:=
 ⟨h.below,h.le,h.rS,fun r hr=>h.ok r (p.mem_iff.2 hr),fun r hr=>h.lo r (p.mem_iff.2 hr),(p.filterMap _).nodup_iff.1 h.nd⟩
theorem St.sub (h:St B w0 H M w) (p:M'.Sublist M):St B w0 H M' w:=
 ⟨h.below,h.le,h.rS,fun r hr=>h.ok r (p.subset hr),fun r hr=>h.lo r (p.subset hr),h.nd.sublist (p.filterMap _)⟩
theorem St.tail {r:bR} (h:St B w0 H (r::M) w):St B w0 H M w:=h.sub (List.sublist_cons_self _ _)
theorem St.drewN (h:St B w0 H M w) (n:Nat):St B w0 H M { w with drawn:=n }:=
 ⟨⟨h.below.os,h.below.tape,h.below.output,h.below.size,h.below.block⟩,h.le,h.rS,fun r hr=>by
  have:=h.ok r hr;cases r <;> exact this,h.lo,h.nd⟩
theorem St.grow (h:St B w0 H M w) (hg:w.grownBy w' none):St B w0 H M w':=
  ⟨h.below.grown hg h.le (fun _ e=>by cases e),IY h.le hg.size,
   fun b o hb=>by rw [hg.block b (h.lt hb) (by simp)]; exact h.rS b o hb,
   fun r hr=>bR.kept (h.ok r hr) hg (by simp),h.lo,h.nd⟩
theorem St.xG {r r':bR} (h:St B w0 H (r::M) w) (hg:w.grownBy w' r.pW) (hok:r'.ok w')
  (hf:∀ b,r'.pW=some b→r.pW=some b∨w.heap.size≤b):St B w0 H (r'::M) w':=by
 have hnd:=h.nd;refine ⟨h.below.grown hg h.le (fun k e=>(h.lo r (He ..) k e).1),IY h.le hg.size,?_,?_,?_,?_⟩
 ·intro b o hb
  rw [hg.block b (h.lt hb) (fun e=>by have:=(h.lo r (He ..) b e.symm).2; rw [this] at hb; cases hb)]
  exact h.rS b o hb
 ·intro s hs
  rcases Ik.1 hs with rfl | hs
  ·exact hok
  ·refine bR.kept (h.ok s (Ho _ hs)) hg ?_
   intro b hb e;simp only [JK,e,Km] at hnd;exact hnd.1 (JE.2 ⟨s,hs,hb⟩)
 ·intro s hs b hb
  rcases Ik.1 hs with rfl | hs
  ·rcases hf b hb with e | e
   ·exact h.lo r (He ..) b e
   ·refine ⟨IY h.le e,?_⟩
    cases hh:H b with
    | none=>rfl
    | some o=>exact absurd (h.lt hh) (by omega)
  ·exact h.lo s (Ho _ hs) b hb
 ·have hm:(M.filterMap bR.pW).Nodup:=(h.tail).nd
  cases hr':r'.pW with
  | none=>simp only [JK,hr']; exact hm
  | some b=>
   simp only [JK,hr',Km];refine ⟨fun hmem=>?_,hm⟩;obtain ⟨s,hs,hb⟩:=JE.1 hmem;rcases hf b hr' with e | e
   ·simp only [JK,e,Km] at hnd
    exact hnd.1 (JE.2 ⟨s,hs,hb⟩)
   ·have:=bR.D3 (h.ok s (Ho _ hs)) hb
    omega
theorem St.add {r':bR} (h:St B w0 H M w) (hg:w.grownBy w' none) (hok:r'.ok w') (hf:∀ b,r'.pW=some b→w.heap.size≤b):
  St B w0 H (r'::M) w':=by
 have h1:St B w0 H (.row (.slice none 0 0) 0 1 0 []::M) w:=by
  refine ⟨h.below,h.le,h.rS,?_,?_,?_⟩
  ·intro r hr
   rcases Ik.1 hr with rfl | hr
   ·exact fN.nil _ _ _
   ·exact h.ok r hr
  ·intro r hr
   rcases Ik.1 hr with rfl | hr
   ·intro b hb; simp [bR.pW,Value.ownBlock] at hb
   ·exact h.lo r hr
  ·simpa [JK,bR.pW,Value.ownBlock] using h.nd
 exact h1.xG hg hok (fun b hb=>.inr (hf b hb))
theorem St.vI (h:St B w0 H M w) (T:TypeId) (sz:Nat):St B w0 H (.row (.slice none 0 0) T sz 0 []::M) w:=
 h.add ⟨rfl,rfl,rfl,HH _,fun _ _ _=>rfl⟩ (fN.nil _ _ _) (by intro b hb; simp [bR.pW,Value.ownBlock] at hb)
theorem St.alloc (h:St B w0 H M w) (o:Obj):St B w0 H (.obj w.heap.size o::M) (w.alloc o):=
 h.add (World.grownBy_alloc w o none) (LJ w o) (by intro b hb; simp only [bR.pW,H9] at hb; omega)
theorem St.qM {b:Nat}{o:Obj} (h:St B w0 H M w) (hm:bR.obj b o ∈ M):w.heap[b]? = some o:=h.ok _ hm
theorem St.freeze {b:Nat}{o:Obj} (h:St B w0 H (.obj b o::M) w):H.le (H.add b o)∧St B w0 (H.add b o) M w:=by
 have hb:=h.lo _ (He ..) b rfl;refine ⟨Hp.Fv hb.2,h.below,h.le,?_,h.tail.ok,?_,h.tail.nd⟩
 ·intro c x hx
  unfold Hp.add at hx
  split at hx
  ·rename_i e; subst e; cases hx; exact h.ok _ (He ..)
  ·exact h.rS c x hx
 ·intro r hr c hc
  refine ⟨(h.tail.lo r hr c hc).1,?_⟩;unfold Hp.add
  split
  ·rename_i e; subst e
   have hnd:=h.nd;simp only [JK,bR.pW,Km] at hnd;exact absurd (JE.2 ⟨r,hr,hc⟩) hnd.1
  ·exact (h.tail.lo r hr c hc).2
theorem St.GB {b:Nat}{o:Obj} (h:St B w0 H' M w) (hB:B≤b) (hle:H.le H') (hb:H b=none) (ho:H' b=some o):St B w0 H (.obj b o::M) w:=by
 refine ⟨h.below,h.le,fun c x hx=>h.rS c x (hle c x hx),?_,?_,?_⟩
 ·intro r hr
  rcases Ik.1 hr with rfl | hr
  ·exact h.rS b o ho
  ·exact h.ok r hr
 ·intro r hr c hc
  rcases Ik.1 hr with rfl | hr
  ·simp only [bR.pW,H9] at hc; subst hc; exact ⟨hB,hb⟩
  ·refine ⟨(h.lo r hr c hc).1,?_⟩
   cases hh:H c with
   | none=>rfl
   | some x=>have:=hle c x hh; rw [(h.lo r hr c hc).2] at this; cases this
 ·simp only [JK,bR.pW,Km]
  refine ⟨fun hm=>?_,h.nd⟩;obtain ⟨r,hr,hc⟩:=JE.1 hm;have:=(h.lo r hr b hc).2;rw [this] at ho; cases ho
theorem St.ES (h:St B w0 H' M w) (hle:H.le H'):St B w0 H M w:=
 ⟨h.below,h.le,fun b o hb=>h.rS b o (hle b o hb),h.ok,fun r hr b hb=>⟨(h.lo r hr b hb).1,by
  cases hh:H b with
  | none=>rfl
  | some x=>have:=hle b x hh; rw [(h.lo r hr b hb).2] at this; cases this⟩,h.nd⟩
theorem St.begin (w:World):St w.heap.size w (snap w) [] w:=
 ⟨Below.refl _ _,HH _,fun _ _ h=>h,by simp,by simp,by simp⟩
end
abbrev Env:=List (Nat×Value)
def lk:Env→Nat→Option Value
 | [],_=>none
 | (t,v)::r,u=>bif Nat.beq t u then some v else lk r u
structure Sl (N:Nat) (L:Env) (a:Act):Prop where
 size:a.tmps.size=N
 ye:a.defers=[]
 get:∀ t v,lk L t=some v→a.tmps[t]? = some v
theorem oT (t:Nat) (v:Value) (r:Env) (u:Nat):lk ((t,v)::r) u=if t=u then some v else lk r u:=by
 show (bif Nat.beq t u then some v else lk r u)=_
 by_cases h:t=u
 ·subst h; simp
 ·have:Nat.beq t u=false:=by
   cases hb:Nat.beq t u with
   | false=>rfl
   | true=>exact absurd (JC hb) h
  simp [this,h]
theorem Sl.put {N:Nat}{L:Env}{a:Act}{d:Nat}{v:Value} (h:Sl N L a) (hd:Nat.blt d N=true):Sl N ((d,v)::L) (a.put (some d) v):=by
 have hd':d<N:=by simpa [IE] using hd
 refine ⟨by simp [Act.put,h.size],h.ye,fun t u ht=>?_⟩
 rw [oT] at ht;simp only [Act.put,Lc]
 by_cases e:d=t
 ·subst e
  simp only [Lp,H9] at ht;subst ht;simp [h.size,hd']
 ·simp only [Hh e] at ht ⊢
  exact h.get t u ht
def Kept (L:Env):Env→Prop
 | []=>True
 | (t,v)::r=>lk L t=some v∧Kept L r
theorem Kept.lk {L:Env}:∀ {L':Env},Kept L L'→∀ t v,lk L' t=some v→lk L t=some v
 | [],_,t,v,h=>by simp [Sim.lk] at h
 | (u,x)::r,hk,t,v,h=>by
  rw [oT] at h
  split at h
  ·rename_i e; subst e; cases h; exact hk.1
  ·exact Kept.lk hk.2 t v h
theorem Sl.FV {N:Nat}{L L':Env}{a:Act} (h:Sl N L a) (hk:Kept L L'):Sl N L' a:=
 ⟨h.size,h.ye,fun t v ht=>h.get t v (hk.lk t v ht)⟩
def ev (L:Env):Operand→Option Value
 | .tmp t=>lk L t
 | .const v=>some v
 | .func f=>some (.func (.func f) #[] #[])
 | .global g=>some (.pointer (some ⟨g,0,none⟩))
theorem Sl.ev {N:Nat}{L:Env}{a:Act} (h:Sl N L a) {x:Operand}{v:Value} (hx:Sim.ev L x=some v):a.eval x=v:=by
 cases x with
 | tmp t=>simp [Act.eval,Ij,h.get t v hx]
 | const u=>simpa [Sim.ev,Act.eval] using hx
 | func f=>simpa [Sim.ev,Act.eval] using hx
 | global g=>simpa [Sim.ev,Act.eval] using hx
def gd (ops:Array Oper) (L:Env) (o:Oper):Option Bool:=
 match o.guard with
 | none=>some true
 | some (j,want)=>
  match (ops[j]?).bind (·.dst) with
  | none=>none
  | some t=>match lk L t with
   | some (.bool b)=>some (b == want)
   | some (.tuple _)=>some false
   | _=>none
theorem Sl.gd {N:Nat}{L:Env}{a:Act} (h:Sl N L a) {ops:Array Oper}{o:Oper}{c:Bool} (hg:Sim.gd ops L o=some c):Region.wanted o (yielded ops a.tmps)=c:=by
 unfold Sim.gd at hg;unfold Region.wanted;cases ho:o.guard with
 | none=>simp only [ho,H9] at hg; simp [← hg]
 | some p=>
  obtain ⟨j,want⟩:=p;simp only [ho] at hg;cases hd:(ops[j]?).bind (·.dst) with
  | none=>simp [hd] at hg
  | some t=>
   simp only [hd] at hg;cases hl:lk L t with
   | none=>simp [hl] at hg
   | some v=>
    cases v with
    | bool b=>
     simp only [hl,H9] at hg;have:=h.get t _ hl;simp [yielded,hd,this,← hg]
    | tuple vs=>
     simp only [hl,H9] at hg;have:=h.get t _ hl;simp [yielded,hd,this,← hg]
    | _=>simp [hl] at hg
structure Cx where
 P:Program
 N:Nat
 B:Nat
 w0:World
abbrev kF:=Exit→Act→World→Prop
def W (x:Cx) (ops:Array Oper) (Q:kF) (rest:List Oper) (H:Hp) (M:List bR) (L:Env):Prop:=
 ∀ a w,Sl x.N L a→St x.B x.w0 H M w→wpList x.P ops Q rest a w
def C (x:Cx) (c:Code) (Q:kF) (H:Hp) (M:List bR) (L:Env):Prop:=
 ∀ a w,Sl x.N L a→St x.B x.w0 H M w→c.wp x.P Q a w
def E (x:Cx) (e:Exit) (Q:kF) (H:Hp) (M:List bR) (L:Env):Prop:=
 ∀ a w,Sl x.N L a→St x.B x.w0 H M w→Q e a w
section
variable {x:Cx}{ops:Array Oper}{Q:kF}{rest:List Oper}{H:Hp}{M M':List bR}{L L':Env}
theorem cG {c d:Code} (k:C x c (Exit.then (d.wp x.P Q) Q) H M L):C x (.seq c d) Q H M L:=
 fun a w hs ht=>wp_seq (k a w hs ht)
theorem eS (k:E x .normal Q H M L):C x .skip Q H M L:=fun a w hs ht=>wp_skip (k a w hs ht)
theorem pS {id:Nat} (k:E x (.exit id) Q H M L):C x (.exit id) Q H M L:=fun a w hs ht=>wp_exit (k a w hs ht)
theorem lD (k:E x .ret Q H M L):C x .ret Q H M L:=fun a w hs ht=>wp_ret (k a w hs ht)
theorem aG {id:Nat}{c:Code} (k:C x c (Exit.inBlock id Q) H M L):C x (.block id c) Q H M L:=
 fun a w hs ht=>wp_block (k a w hs ht)
theorem bT {c:Operand}{p q:Code}{b:Bool} (hb:ev L c=some (.bool b)) (k1:b=true→C x p Q H M L) (k2:b=false→C x q Q H M L):
  C x (.cond c p q) Q H M L:=
 fun a w hs ht=>wp_cond_split (hs.ev hb) (fun e=>k1 e a w hs ht) (fun e=>k2 e a w hs ht)
theorem bE {id:Nat}{l:List Oper} (k:W x l.toArray Q l H M L):C x (.region id l.toArray false) Q H M L:=
 fun a w hs ht=>wp_region_lit (k a w hs ht)
theorem bC (k:E x .normal Q H M L):W x ops Q [] H M L:=fun a w hs ht=>wpList_nil (k a w hs ht)
theorem aO {d:Code}{Q':kF} (k:C x d Q' H M L):E x .normal (Exit.then (d.wp x.P Q') Q) H M L:=fun a w hs ht=>k a w hs ht
theorem uP {c:Code} (hL:Kept L L') (hM:M.Perm M') (k:C x c Q H M' L'):C x c Q H M L:=
 fun a w hs ht=>k a w (hs.FV hL) (ht.perm hM)
theorem yX {e:Exit} (hL:Kept L L') (hM:M.Perm M') (k:E x e Q H M' L'):E x e Q H M L:=
 fun a w hs ht=>k a w (hs.FV hL) (ht.perm hM)
theorem ox {c:Code} (hM:M'.Sublist M) (k:C x c Q H M' L):C x c Q H M L:=fun a w hs ht=>k a w hs (ht.sub hM)
theorem aU {e:Exit} (hM:M'.Sublist M) (k:E x e Q H M' L):E x e Q H M L:=fun a w hs ht=>k a w hs (ht.sub hM)
theorem a_ (hM:M.Perm M') (k:W x ops Q rest H M' L):W x ops Q rest H M L:=fun a w hs ht=>k a w hs (ht.perm hM)
theorem ot {o:Oper}{d:Nat} (hd:o.dst=some d) (hg:gd ops L o=some true) (hN:Nat.blt d x.N=true)
  (hrun:∀ a w,Sl x.N L a→St x.B x.w0 H M w→∃ v w',(execOp a.eval o).run x.P w=.ok (.value v) w'∧∃ H' M',St x.B x.w0 H' M' w'∧W x ops Q rest H' M' ((d,v)::L)):
  W x ops Q (o::rest) H M L:=by
 intro a w hs ht;obtain ⟨v,w',hr,H',M',ht',k⟩:=hrun a w hs ht;refine Lq fun K hK=>?_;rw [Hl (hs.gd hg)];unfold Oper.wp;rw [hr];simp only [Oper.upon,hd];exact hK _ _ (k _ _ (hs.put hN) ht')
theorem dX {o:Oper}{d:Nat}{v:Value} (hd:o.dst=some d) (hg:gd ops L o=some true) (hN:Nat.blt d x.N=true)
  (hrun:∀ a w,Sl x.N L a→St x.B x.w0 H M w→(execOp a.eval o).run x.P w=.ok (.value v) w) (k:W x ops Q rest H M ((d,v)::L)):
  W x ops Q (o::rest) H M L:=
 ot hd hg hN fun a w hs ht=>⟨v,w,hrun a w hs ht,H,M,ht,k⟩
theorem A0 {o:Oper}{d:Nat} (hd:o.dst=some d) (hg:gd ops L o=some false) (hN:Nat.blt d x.N=true) (k:W x ops Q rest H M ((d,undef)::L)):
  W x ops Q (o::rest) H M L:=by
 intro a w hs ht;refine Lq fun K hK=>?_;rw [Hh (by rw [hs.gd hg]; simp),hd]
 exact hK _ _ (k _ _ (hs.put hN) ht)
theorem wA {o:Oper} (hd:o.dst=none) (hg:gd ops L o=some false) (k:W x ops Q rest H M L):W x ops Q (o::rest) H M L:=by
 intro a w hs ht;refine Lq fun K hK=>?_;rw [Hh (by rw [hs.gd hg]; simp),hd]
 exact hK _ _ (k _ _ hs ht)
theorem yZ {o:Oper} (hd:o.dst=none) (hg:gd ops L o=some true)
  (hrun:∀ a w,Sl x.N L a→St x.B x.w0 H M w→∃ w',(execOp a.eval o).run x.P w=.ok .skip w'∧∃ H' M',St x.B x.w0 H' M' w'∧W x ops Q rest H' M' L):
  W x ops Q (o::rest) H M L:=by
 intro a w hs ht;obtain ⟨w',hr,H',M',ht',k⟩:=hrun a w hs ht;refine Lq fun K hK=>?_;rw [Hl (hs.gd hg)];unfold Oper.wp;rw [hr];simp only [Oper.upon,hd];exact hK _ _ (k _ _ hs ht')
def fG (B:Nat) (w0:World) (Φ:Hp→List bR→Value→Prop):Ending→World→Prop
 | .returned v,w'=>∃ H' M',St B w0 H' M' w'∧Φ H' M' v
 | _,_=>False
def tX (L:Env):List Operand→Option (List Value)
 | []=>some []
 | y::r=>match ev L y,tX L r with
  | some v,some vs=>some (v::vs)
  | _,_=>none
theorem Sl.tX {L:Env}{a:Act}{N:Nat} (hs:Sl N L a):∀ {l:List Operand}{vs:List Value},Sim.tX L l=some vs→l.map a.eval=vs
 | [],vs,h=>by simp [Sim.tX] at h; simp [h]
 | y::r,vs,h=>by
  simp only [Sim.tX] at h;cases h1:Sim.ev L y with
  | none=>simp [h1] at h
  | some v=>
   cases h2:Sim.tX L r with
   | none=>simp [h1,h2] at h
   | some us=>
    simp only [h1,h2,H9] at h;subst h;simp [hs.ev h1,Sl.tX hs h2]
theorem aE {d:Nat}{f:FuncId}{args:List Operand}{tys:Array TypeId}{ty:TypeId}{pos:String}{aft:Array Edge}{g:Option (Nat×Bool)}{vs:List Value}
  {Φ:Hp→List bR→Value→Prop}
  (hcall:∀ as w,(callFunc f as).run x.P w=.ok (.enter f as) w)
  (hg:gd ops L ⟨some d,.call ⟨.value (.func f),args.toArray,tys⟩,ty,pos,aft,g⟩=some true) (hN:Nat.blt d x.N=true)
  (hv:tX L args=some vs)
  (hc:∀ w,St x.B x.w0 H M w→Calls x.P f vs.toArray w (fG x.B x.w0 Φ))
  (k:∀ v H' M',Φ H' M' v→W x ops Q rest H' M' ((d,v)::L)):
  W x ops Q (⟨some d,.call ⟨.value (.func f),args.toArray,tys⟩,ty,pos,aft,g⟩::rest) H M L:=by
 intro a w hs ht;refine Lq fun K hK=>?_;rw [Hl (hs.gd hg)];have hargs:args.toArray.map a.eval=vs.toArray:=by simp [hs.tX hv]
 have hr:(execOp a.eval ⟨some d,.call ⟨.value (.func f),args.toArray,tys⟩,ty,pos,aft,g⟩).run x.P w=.ok (.enter f vs.toArray) w:=by
  simp only [execOp,resolve,hargs,Act.eval,Deferred.ofValue,Hx,HL,Hr,invoke];simp [hcall]
 unfold Oper.wp;rw [hr];simp only [Oper.upon];refine (hc w ht).mono fun e w' he=>?_;cases e with
 | returned v=>
  obtain ⟨H',M',h1,h2⟩:=he;exact hK _ _ (k v H' M' h2 _ _ (hs.put hN) h1)
 | panicked c=>exact he.elim
 | outgrown=>exact he.elim
end
def sO (x:Cx) (H:Hp) (M:List bR) (ad:Addr) (v:Value):Prop:=∀ w,St x.B x.w0 H M w→w.cell? ad=some v
def uR (H:Hp) (ad:Addr) (v:Value):Prop:=∃ arr T fz,H ad.block=some (.cells arr T fz)∧ad.spot=none∧arr[ad.off]? = some v
theorem L7 {w:World}{ad:Addr}{arr:Array Value}{T:TypeId}{fz:Nat×Nat}{v:Value} (h:w.heap[ad.block]? = some (.cells arr T fz)) (hs:ad.spot=none) (hv:arr[ad.off]? = some v):
  w.cell? ad=some v:=by
 simp [World.cell?,h,hs,hv]
theorem uR.at {x:Cx}{H:Hp}{M:List bR}{ad:Addr}{v:Value} (h:uR H ad v):sO x H M ad v:=by
 obtain ⟨arr,T,fz,hb,hs,hv⟩:=h;exact fun w ht=>L7 (ht.rS _ _ hb) hs hv
theorem uR.mono {H H':Hp}{ad:Addr}{v:Value} (hle:H.le H') (h:uR H ad v):uR H' ad v:=by
 obtain ⟨arr,T,fz,hb,hs,hv⟩:=h;exact ⟨arr,T,fz,hle _ _ hb,hs,hv⟩
theorem bV {x:Cx}{H:Hp}{M:List bR}{b off:Nat}{l:List Value}{T:TypeId}{fz:Nat×Nat}{v:Value}
  (hm:bR.obj b (.cells l.toArray T fz) ∈ M) (hv:l[off]? = some v):sO x H M ⟨b,off,none⟩ v:=by
 intro w ht;exact L7 (ht.qM hm) rfl (by simpa using hv)
def s6 (x:Cx) (H:Hp) (M:List bR) (ad:Addr) (cs:List Value):Prop:=∀ j c,cs[j]? = some c→sO x H M (ad.add j) c
def cB (H:Hp) (ad:Addr) (cs:List Value):Prop:=∀ j c,cs[j]? = some c→uR H (ad.add j) c
theorem cB.at {x:Cx}{H:Hp}{M:List bR}{ad:Addr}{cs:List Value} (h:cB H ad cs):s6 x H M ad cs:=fun j c hc=>(h j c hc).at
theorem cB.mono {H H':Hp}{ad:Addr}{cs:List Value} (hle:H.le H') (h:cB H ad cs):cB H' ad cs:=fun j c hc=>(h j c hc).mono hle
theorem eG {x:Cx}{H:Hp}{M:List bR}{b:Nat}{l:List Value}{T:TypeId}{fz:Nat×Nat}
  (hm:bR.obj b (.cells l.toArray T fz) ∈ M):s6 x H M ⟨b,0,none⟩ l:=by
 intro j c hc;rw [IC,H_];exact bV hm hc
theorem run_loadCellsFrom {P:Program}{w:World}{ad:Addr}:∀ (cs:List Value) (i:Nat) (acc:Array Value),(∀ j c,cs[j]? = some c→w.cell? (ad.add (i+j))=some c) →
  (loadCellsFrom ad i cs.length acc).run P w=.ok (acc++cs.toArray) w
 | [],i,acc,_=>by simp [loadCellsFrom]
 | c::cs,i,acc,h=>by
  have h0:=h 0 c rfl;simp only [Jb] at h0;have ih:=run_loadCellsFrom (P:=P) (w:=w) (ad:=ad) cs (i+1) (acc.push c) (fun j d hd=>by have:=h (j+1) d (by simpa using hd); rwa [show i+(j+1)=i+1+j from by omega] at this)
  simp only [Hz,loadCellsFrom,load,Hx,Sem.run,h0,Hr];rw [ih];simp
section
variable {x:Cx}{ops:Array Oper}{Q:kF}{rest:List Oper}{H:Hp}{M M':List bR}{L L':Env}
variable {d:Nat}{ty:TypeId}{pos:String}{aft:Array Edge}{g:Option (Nat×Bool)}
theorem bX {y:Operand}{v:Value} (hg:gd ops L ⟨some d,.move y,ty,pos,aft,g⟩=some true) (hN:Nat.blt d x.N=true)
  (hy:ev L y=some v) (k:W x ops Q rest H M ((d,v)::L)):W x ops Q (⟨some d,.move y,ty,pos,aft,g⟩::rest) H M L:=
 dX rfl hg hN (fun a w hs _=>by simp [execOp,hs.ev hy]) k
theorem aN {y:Operand}{v:Value} (hg:gd ops L ⟨some d,.assign y,ty,pos,aft,g⟩=some true) (hN:Nat.blt d x.N=true)
  (hy:ev L y=some v) (k:W x ops Q rest H M ((d,v)::L)):W x ops Q (⟨some d,.assign y,ty,pos,aft,g⟩::rest) H M L:=
 dX rfl hg hN (fun a w hs _=>by simp [execOp,hs.ev hy]) k
theorem rM {c y z:Operand}{b:Bool}{v:Value} (hg:gd ops L ⟨some d,.pick c y z,ty,pos,aft,g⟩=some true) (hN:Nat.blt d x.N=true)
  (hc:ev L c=some (.bool b)) (hy:(if b then ev L y else ev L z)=some v) (k:W x ops Q rest H M ((d,v)::L)):
  W x ops Q (⟨some d,.pick c y z,ty,pos,aft,g⟩::rest) H M L:=
 dX rfl hg hN (fun a w hs _=>by
  cases b
  ·simp only [Jk,JL] at hy; simp [execOp,hs.ev hc,hs.ev hy,asBool]
  ·simp only [Lp] at hy; simp [execOp,hs.ev hc,hs.ev hy,asBool]) k
def u7:BinOp→Value→Value→Option Value
 | .add,.int k a,.int k' b=>if k=k' then some (.int k (k.wrap (a+b))) else none
 | .sub,.int k a,.int k' b=>if k=k' then some (.int k (k.wrap (a-b))) else none
 | .mul,.int k a,.int k' b=>if k=k' then some (.int k (k.wrap (a*b))) else none
 | .lss,.int k a,.int k' b=>if k=k' then some (.bool (decide (a<b))) else none
 | .leq,.int k a,.int k' b=>if k=k' then some (.bool (decide (a≤b))) else none
 | .gtr,.int k a,.int k' b=>if k=k' then some (.bool (decide (b<a))) else none
 | .geq,.int k a,.int k' b=>if k=k' then some (.bool (decide (b≤a))) else none
 | .eql,.int k a,.int k' b=>if k=k' then some (.bool (decide (a=b))) else none
 | .neq,.int k a,.int k' b=>if k=k' then some (.bool (!decide (a=b))) else none
 | .and,.int k a,.int k' b=>if k=k' then some (.int k (k.wrap (BitVec.ofInt k.bits a &&& BitVec.ofInt k.bits b).toNat)) else none
 | .or,.int k a,.int k' b=>if k=k' then some (.int k (k.wrap (BitVec.ofInt k.bits a ||| BitVec.ofInt k.bits b).toNat)) else none
 | .xor,.int k a,.int k' b=>if k=k' then some (.int k (k.wrap (BitVec.ofInt k.bits a ^^^ BitVec.ofInt k.bits b).toNat)) else none
 | .eql,.string s,.string t=>some (.bool (decide (s=t)))
 | .neq,.string s,.string t=>some (.bool (!decide (s=t)))
 | .lss,.string s,.string t=>some (.bool (Op.bytesLess s.toList t.toList))
 | _,_,_=>none
theorem Fh (s t:ByteArray):(s.toList == t.toList)=decide (s=t):=by
 rw [Bool.eq_iff_iff];simp only [beq_iff_eq,IF];constructor
 ·intro h
  have hs:∀ u:ByteArray,u.toList=u.data.toList:=Mi;rw [hs,hs] at h;exact ByteArray.ext (Array.ext' h)
 ·intro h; rw [h]
theorem Ap (a b:Int):(a == b)=decide (a=b):=by rw [Bool.eq_iff_iff]; simp
theorem CI {p:Prop}[Decidable p] {v w:Value} (h:(if p then some v else none)=some w):p∧v=w:=by
 split at h
 ·exact ⟨‹_›,by simpa using h⟩
 ·cases h
theorem A4 {op:BinOp}{a b v:Value} (t:TypeId) (P:Program) (w:World) (h:u7 op a b=some v):(binOp op t a b).run P w=.ok v w:=by
 unfold u7 at h
 split at h
 case h_1 | h_2 | h_3 | h_4 | h_5 | h_6 | h_7 | h_8 | h_9 | h_10 | h_11 | h_12=>
  obtain ⟨rfl,rfl⟩:=CI h
  first
   | (simp [binOp,Op.intArith]; done)
   | (simp [binOp,Op.intBits]; done)
   | (simp [binOp,Op.intCmp]; done)
   | (simp [binOp,Op.intCmp,bne,Ap]; done)
 case h_13 | h_14 | h_15=>cases h; simp [binOp,Op.stringOp,← Fh]
 case h_16=>cases h
theorem yh {op:BinOp}{a b v:Value} (t:TypeId) (y z:Operand) (P:Program) (w:World) (h:u7 op a b=some v):(eqGuard op t y z a b).run P w=.ok () w:=by
 unfold u7 at h
 split at h <;> first
  | (simp [eqGuard]; done)
  | (cases h; done)
theorem pz {op:BinOp}{t u:TypeId}{y z:Operand}{a b v:Value} (hg:gd ops L ⟨some d,.binOp op t y z u,ty,pos,aft,g⟩=some true) (hN:Nat.blt d x.N=true)
  (hy:ev L y=some a) (hz:ev L z=some b) (hv:u7 op a b=some v) (k:W x ops Q rest H M ((d,v)::L)):
  W x ops Q (⟨some d,.binOp op t y z u,ty,pos,aft,g⟩::rest) H M L:=
 dX rfl hg hN (fun c w hs _=>by
  simp only [execOp,hs.ev hy,hs.ev hz,Hx,yh t y z x.P w hv,Hr,A4 t x.P w hv,HL]) k
theorem EY {t u:TypeId}{y z:Operand}{kk:IntKind}{m n:Int} (hg:gd ops L ⟨some d,.binOp .quo t y z u,ty,pos,aft,g⟩=some true) (hN:Nat.blt d x.N=true)
  (hy:ev L y=some (.int kk m)) (hz:ev L z=some (.int kk n)) (hn:n≠0) (k:W x ops Q rest H M ((d,.int kk (kk.wrap (m.tdiv n)))::L)):
  W x ops Q (⟨some d,.binOp .quo t y z u,ty,pos,aft,g⟩::rest) H M L:=
 dX rfl hg hN (fun c w hs _=>by
  simp [execOp,hs.ev hy,hs.ev hz,eqGuard,binOp,Op.intDiv,hn]) k
theorem BY {t u:TypeId}{y z:Operand}{kk:IntKind}{m n:Int} (hg:gd ops L ⟨some d,.binOp .rem t y z u,ty,pos,aft,g⟩=some true) (hN:Nat.blt d x.N=true)
  (hy:ev L y=some (.int kk m)) (hz:ev L z=some (.int kk n)) (hn:n≠0) (k:W x ops Q rest H M ((d,.int kk (m.tmod n))::L)):
  W x ops Q (⟨some d,.binOp .rem t y z u,ty,pos,aft,g⟩::rest) H M L:=
 dX rfl hg hN (fun c w hs _=>by
  simp [execOp,hs.ev hy,hs.ev hz,eqGuard,binOp,Op.intDiv,hn]) k
def Fa:UnOp→Value→Option Value
 | .neg,.int k n=>some (.int k (k.wrap (0-n)))
 | .not,.bool b=>some (.bool !b)
 | .xor,.int k n=>some (.int k (k.wrap (BitVec.ofInt k.bits (if k.signed then -1 else k.max) ^^^ BitVec.ofInt k.bits n).toNat))
 | _,_=>none
theorem ny {op:UnOp}{t:TypeId}{y:Operand}{a v:Value} (hg:gd ops L ⟨some d,.unOp op t y,ty,pos,aft,g⟩=some true) (hN:Nat.blt d x.N=true)
  (hy:ev L y=some a) (hv:Fa op a=some v) (k:W x ops Q rest H M ((d,v)::L)):
  W x ops Q (⟨some d,.unOp op t y,ty,pos,aft,g⟩::rest) H M L:=
 dX rfl hg hN (fun c w hs _=>by
  simp only [execOp,hs.ev hy];unfold Fa at hv
  split at hv <;> first
   | (cases hv; simp [Op.unary,Op.intArith,Op.intBits]; done)
   | cases hv) k
theorem dO {T:TypeId}{y:Operand}{v:Value}{cs:List Value} (hg:gd ops L ⟨some d,.box T y,ty,pos,aft,g⟩=some true) (hN:Nat.blt d x.N=true)
  (hy:ev L y=some v) (hcs:v.cells=cs.toArray)
  (k:∀ b,W x ops Q rest H (.obj b (.cells cs.toArray T (0,0))::M) ((d,.pointer (some ⟨b,0,none⟩))::L)):
  W x ops Q (⟨some d,.box T y,ty,pos,aft,g⟩::rest) H M L:=
 ot rfl hg hN (fun c w hs ht=>⟨_,w.alloc (.cells cs.toArray T),by
  simp only [execOp,hs.ev hy,Instr.box,newVar,newRow,newObj,Hx,HL,Sem.run,Hr,hcs,World.alloc],_,_,ht.alloc _,k _⟩)
theorem bO {T:TypeId}{z:Value}{cs:List Value} (hg:gd ops L ⟨some d,.alloc T,ty,pos,aft,g⟩=some true) (hN:Nat.blt d x.N=true)
  (hz:∀ w,(zeroValue T).run x.P w=.ok z w) (hcs:z.cells=cs.toArray)
  (k:∀ b,W x ops Q rest H (.obj b (.cells cs.toArray T (0,0))::M) ((d,.pointer (some ⟨b,0,none⟩))::L)):
  W x ops Q (⟨some d,.alloc T,ty,pos,aft,g⟩::rest) H M L:=
 ot rfl hg hN (fun c w hs ht=>⟨_,w.alloc (.cells cs.toArray T),by
  simp only [execOp,Instr.alloc,hz,newVar,newRow,newObj,Hx,HL,Sem.run,Hr,hcs,World.alloc],_,_,ht.alloc _,k _⟩)
theorem aJ {T:TypeId}{y:Operand}{ad:Addr}{v:Value} (hg:gd ops L ⟨some d,.load T y,ty,pos,aft,g⟩=some true) (hN:Nat.blt d x.N=true)
  (hT:∀ w,(isAgg T).run x.P w=.ok false w) (hy:ev L y=some (.pointer (some ad))) (hc:sO x H M ad v)
  (k:W x ops Q rest H M ((d,v)::L)):W x ops Q (⟨some d,.load T y,ty,pos,aft,g⟩::rest) H M L:=
 dX rfl hg hN (fun c w hs ht=>by
  simp [execOp,hs.ev hy,Instr.loadAt,Instr.sureAddr,loadVar,hT,load,Sem.run,hc w ht]) k
theorem aR {T:TypeId}{n:Nat}{y:Operand}{ad:Addr}{cs:List Value} (hg:gd ops L ⟨some d,.load T y,ty,pos,aft,g⟩=some true) (hN:Nat.blt d x.N=true)
  (hT:∀ w,(isAgg T).run x.P w=.ok true w) (hn:∀ w,(sizeOf T).run x.P w=.ok n w) (hy:ev L y=some (.pointer (some ad))) (hc:s6 x H M ad cs) (hl:cs.length=n)
  (k:W x ops Q rest H M ((d,.agg cs.toArray)::L)):W x ops Q (⟨some d,.load T y,ty,pos,aft,g⟩::rest) H M L:=
 dX rfl hg hN (fun c w hs ht=>by
  have h:=run_loadCellsFrom (P:=x.P) (w:=w) (ad:=ad) cs 0 #[] (fun j v hv=>by rw [H_]; exact hc j v hv w ht)
  rw [hl] at h;simp [execOp,hs.ev hy,Instr.loadAt,Instr.sureAddr,loadVar,hT,hn,loadCells,h]) k
theorem qv {T:TypeId}{y:Operand}{ad:Addr}{f n o:Nat}{fs:Array Field}{fd:Field} (hg:gd ops L ⟨some d,.fieldAddr T y f,ty,pos,aft,g⟩=some true) (hN:Nat.blt d x.N=true)
  (hT:∀ w,(underlying T).run x.P w=.ok (.struct fs) w) (hf:fs[f]? = some fd) (hn:∀ w,(sizeOf fd.type).run x.P w=.ok n w) (hn0:Nat.beq n 0=false) (ho:fd.offset=o)
  (hy:ev L y=some (.pointer (some ad))) (k:W x ops Q rest H M ((d,.pointer (some (ad.add o)))::L)):
  W x ops Q (⟨some d,.fieldAddr T y f,ty,pos,aft,g⟩::rest) H M L:=
 dX rfl hg hN (fun c w hs ht=>by
  have h0:¬ n=0:=fun e=>by subst e; simp at hn0
  simp [execOp,hs.ev hy,Instr.fieldAt,hT,hf,Instr.sureAddr,fieldPlace,hn,h0,ho]) k
theorem i_ {y:Operand}{ad:Addr} (hg:gd ops L ⟨some d,.nilCheck y,ty,pos,aft,g⟩=some true) (hN:Nat.blt d x.N=true)
  (hy:ev L y=some (.pointer (some ad))) (k:W x ops Q rest H M ((d,.pointer (some ad))::L)):
  W x ops Q (⟨some d,.nilCheck y,ty,pos,aft,g⟩::rest) H M L:=
 dX rfl hg hN (fun c w hs ht=>by simp [execOp,hs.ev hy]) k
theorem kI {y:Operand}{vs:Array Value}{i:Nat}{v:Value} (hg:gd ops L ⟨some d,.extract y i,ty,pos,aft,g⟩=some true) (hN:Nat.blt d x.N=true)
  (hy:ev L y=some (.tuple vs)) (hv:vs[i]? = some v) (k:W x ops Q rest H M ((d,v)::L)):
  W x ops Q (⟨some d,.extract y i,ty,pos,aft,g⟩::rest) H M L:=
 dX rfl hg hN (fun c w hs ht=>by simp [execOp,hs.ev hy,Instr.extract,hv]) k
theorem BS {y z:Operand}{tys:Array TypeId}{kk:IntKind}{m n:Int} (hg:gd ops L ⟨some d,.call ⟨.builtin .min,#[y,z],tys⟩,ty,pos,aft,g⟩=some true) (hN:Nat.blt d x.N=true)
  (hy:ev L y=some (.int kk m)) (hz:ev L z=some (.int kk n)) (k:W x ops Q rest H M ((d,.int kk (min m n))::L)):
  W x ops Q (⟨some d,.call ⟨.builtin .min,#[y,z],tys⟩,ty,pos,aft,g⟩::rest) H M L:=
 dX rfl hg hN (fun c w hs ht=>by
  have:(if n<m then n else m)=min m n:=by rw [Int.min_def]; split <;> split <;> omega
  simp [execOp,resolve,invoke,builtin,hs.ev hy,hs.ev hz,Builtin.min_,Builtin.min2,this]) k
theorem EX {y z:Operand}{tys:Array TypeId}{kk:IntKind}{m n:Int} (hg:gd ops L ⟨some d,.call ⟨.builtin .max,#[y,z],tys⟩,ty,pos,aft,g⟩=some true) (hN:Nat.blt d x.N=true)
  (hy:ev L y=some (.int kk m)) (hz:ev L z=some (.int kk n)) (k:W x ops Q rest H M ((d,.int kk (max m n))::L)):
  W x ops Q (⟨some d,.call ⟨.builtin .max,#[y,z],tys⟩,ty,pos,aft,g⟩::rest) H M L:=
 dX rfl hg hN (fun c w hs ht=>by
  have:(if n > m then n else m)=max m n:=by rw [Int.max_def]; split <;> split <;> omega
  simp [execOp,resolve,invoke,builtin,hs.ev hy,hs.ev hz,Builtin.max_,Builtin.max2,this]) k
theorem wX {t e:TypeId}{y:Operand}{a:Option Addr}{m n:Nat} (hg:gd ops L ⟨some d,.call ⟨.builtin .len,#[y],#[t]⟩,ty,pos,aft,g⟩=some true) (hN:Nat.blt d x.N=true)
  (hT:∀ w,(underlying t).run x.P w=.ok (.slice e) w) (hy:ev L y=some (.slice a n m)) (k:W x ops Q rest H M ((d,.int .i64 n)::L)):
  W x ops Q (⟨some d,.call ⟨.builtin .len,#[y],#[t]⟩,ty,pos,aft,g⟩::rest) H M L:=
 dX rfl hg hN (fun c w hs ht=>by
  simp [execOp,resolve,invoke,builtin,hs.ev hy,Builtin.len_,hT,goInt]) k
theorem kO {t:TypeId}{y:Operand}{s:ByteArray} (hg:gd ops L ⟨some d,.call ⟨.builtin .len,#[y],#[t]⟩,ty,pos,aft,g⟩=some true) (hN:Nat.blt d x.N=true)
  (hT:∀ w,(underlying t).run x.P w=.ok .string w) (hy:ev L y=some (.string s)) (k:W x ops Q rest H M ((d,.int .i64 s.size)::L)):
  W x ops Q (⟨some d,.call ⟨.builtin .len,#[y],#[t]⟩,ty,pos,aft,g⟩::rest) H M L:=
 dX rfl hg hN (fun c w hs ht=>by
  simp [execOp,resolve,invoke,builtin,hs.ev hy,Builtin.len_,hT,goInt]) k
theorem BR {t e:TypeId}{sz:Nat}{y z:Operand}{ad:Addr}{n m:Nat}{kk:IntKind}{i:Int} (hg:gd ops L ⟨some d,.indexAddr t y z,ty,pos,aft,g⟩=some true) (hN:Nat.blt d x.N=true)
  (hT:∀ w,(underlying t).run x.P w=.ok (.slice e) w) (hs:∀ w,(sizeOf e).run x.P w=.ok sz w)
  (hy:ev L y=some (.slice (some ad) n m)) (hz:ev L z=some (.int kk i)) (h0:0≤i) (h1:i.toNat<n)
  (k:W x ops Q rest H M ((d,.pointer (some (ad.add (i.toNat*sz))))::L)):
  W x ops Q (⟨some d,.indexAddr t y z,ty,pos,aft,g⟩::rest) H M L:=
 dX rfl hg hN (fun c w hsl ht=>by
  have h1':i<(n:Int):=by omega
  simp [execOp,hsl.ev hy,hsl.ev hz,Instr.indexAt,asIntOf,hT,hs,h0,h1']) k
end
class aF (α:Type) where
 sz:Nat
 E:Hp→List Value→α→Prop
 len:∀ {H cs x},E H cs x→cs.length=sz
 mono:∀ {H H' cs x},H.le H'→E H cs x→E H' cs x
 one:∀ {H cs x},E H cs x→∀ c ∈ cs,c.oneCell'=true
instance:aF Int where
 sz:=1
 E _ cs n:=cs=[.int .i64 n]
 len h:=by rw [h]; rfl
 mono _ h:=h
 one h c hc:=by rw [h] at hc; simp at hc; subst hc; rfl
instance:aF Bool where
 sz:=1
 E _ cs b:=cs=[.bool b]
 len h:=by rw [h]; rfl
 mono _ h:=h
 one h c hc:=by rw [h] at hc; simp at hc; subst hc; rfl
instance:aF ByteArray where
 sz:=1
 E _ cs s:=cs=[.string s]
 len h:=by rw [h]; rfl
 mono _ h:=h
 one h c hc:=by rw [h] at hc; simp at hc; subst hc; rfl
instance:aF UInt8 where
 sz:=1
 E _ cs n:=cs=[.int .u8 n.toNat]
 len h:=by rw [h]; rfl
 mono _ h:=h
 one h c hc:=by rw [h] at hc; simp at hc; subst hc; rfl
instance:aF UInt32 where
 sz:=1
 E _ cs n:=cs=[.int .u32 n.toNat]
 len h:=by rw [h]; rfl
 mono _ h:=h
 one h c hc:=by rw [h] at hc; simp at hc; subst hc; rfl
instance:aF UInt64 where
 sz:=1
 E _ cs n:=cs=[.int .u64 n.toNat]
 len h:=by rw [h]; rfl
 mono _ h:=h
 one h c hc:=by rw [h] at hc; simp at hc; subst hc; rfl
def aI {α:Type}[aF α] (H:Hp) (v:Value) (xs:List α):Prop:=
 ((∃ a,v=.slice a 0 0)∧xs=[]) ∨
 ∃ b off cap arr T fz,v=.slice (some ⟨b,off,none⟩) xs.length cap∧xs.length≤cap∧cap≤maxLen∧H b=some (.cells arr T fz)∧off+cap*aF.sz α≤arr.size ∧
  ∀ k e,xs[k]? = some e→∃ cs,aF.E H cs e∧∀ j c,cs[j]? = some c→arr[off+k*aF.sz α+j]? = some c
theorem aI.mono {α:Type}[aF α] {H H':Hp}{v:Value}{xs:List α} (hle:H.le H') (h:aI H v xs):aI H' v xs:=by
 rcases h with h | ⟨b,off,cap,arr,T,fz,h1,h2,h3,h4,h5,h6⟩
 ·exact .inl h
 ·exact .inr ⟨b,off,cap,arr,T,fz,h1,h2,h3,hle _ _ h4,h5,fun k e he=>let ⟨cs,a,b⟩:=h6 k e he; ⟨cs,aF.mono hle a,b⟩⟩
instance {α:Type}[aF α]:aF (List α) where
 sz:=1
 E H cs xs:=∃ v,cs=[v]∧aI H v xs
 len h:=by obtain ⟨v,rfl,_⟩:=h; rfl
 mono hle h:=by obtain ⟨v,e,hv⟩:=h; exact ⟨v,e,hv.mono hle⟩
 one h c hc:=by
  obtain ⟨v,rfl,hv⟩:=h;simp at hc; subst hc
  rcases hv with ⟨⟨a,rfl⟩,_⟩ | ⟨b,off,cap,arr,T,fz,rfl,_⟩ <;> rfl
def Value.base:Value→Addr
 | .slice (some a) _ _=>a
 | _=>⟨0,0,none⟩
def Value.l9:Value→Nat
 | .slice _ _ c=>c
 | _=>0
theorem aI.len {α:Type}[aF α] {H:Hp}{v:Value}{xs:List α} (h:aI H v xs):∃ a c,v=.slice a xs.length c∧xs.length≤c∧c≤maxLen:=by
 rcases h with ⟨⟨a,rfl⟩,rfl⟩ | ⟨b,off,cap,arr,T,fz,rfl,h2,h3,_⟩
 ·exact ⟨a,0,rfl,HH _,by unfold maxLen; omega⟩
 ·exact ⟨_,cap,rfl,h2,h3⟩
theorem aI.val {α:Type}[aF α] {H:Hp}{v:Value}{xs:List α} (h:aI H v xs) {k:Nat}{e:α} (he:xs[k]? = some e):v=.slice (some (Value.base v)) xs.length (Value.l9 v):=by
 rcases h with ⟨⟨a,rfl⟩,rfl⟩ | ⟨b,off,cap,arr,T,fz,rfl,_⟩
 ·simp at he
 ·rfl
theorem aI.elem {α:Type}[aF α] {H:Hp}{v:Value}{xs:List α} (h:aI H v xs) {k:Nat}{e:α} (he:xs[k]? = some e):
  ∃ cs,aF.E H cs e∧cB H ((Value.base v).add (k*aF.sz α)) cs:=by
 rcases h with ⟨⟨a,rfl⟩,rfl⟩ | ⟨b,off,cap,arr,T,fz,rfl,h2,h3,h4,h5,h6⟩
 ·simp at he
 ·obtain ⟨cs,h7,h8⟩:=h6 k e he
  refine ⟨cs,h7,fun j c hc=>⟨arr,T,fz,?_,?_,?_⟩⟩
  ·simp only [Value.base,IC]; exact h4
  ·simp only [Value.base,IC]
  ·simp only [Value.base,IC]; exact h8 j c hc
section
variable {x:Cx}{ops:Array Oper}{Q:kF}{rest:List Oper}{H:Hp}{M M':List bR}{L L':Env}
variable {d:Nat}{ty:TypeId}{pos:String}{aft:Array Edge}{g:Option (Nat×Bool)}
theorem aY {α:Type}[aF α] {t e:TypeId}{y z:Operand}{v:Value}{xs:List α}{el:α}{kk:IntKind}{i:Int} (hg:gd ops L ⟨some d,.indexAddr t y z,ty,pos,aft,g⟩=some true) (hN:Nat.blt d x.N=true)
  (hT:∀ w,(underlying t).run x.P w=.ok (.slice e) w) (hs:∀ w,(sizeOf e).run x.P w=.ok (aF.sz α) w)
  (hy:ev L y=some v) (hR:aI H v xs) (hz:ev L z=some (.int kk i)) (h0:0≤i) (he:xs[i.toNat]? = some el)
  (k:W x ops Q rest H M ((d,.pointer (some ((Value.base v).add (i.toNat*aF.sz α))))::L)):
  W x ops Q (⟨some d,.indexAddr t y z,ty,pos,aft,g⟩::rest) H M L:=
 BR hg hN hT hs (by rw [hy,← hR.val he]) hz h0 (by rcases G6.1 he with ⟨h,_⟩; exact h) k
theorem bD {α:Type}[aF α] {t e:TypeId}{y:Operand}{v:Value}{xs:List α} (hg:gd ops L ⟨some d,.call ⟨.builtin .len,#[y],#[t]⟩,ty,pos,aft,g⟩=some true) (hN:Nat.blt d x.N=true)
  (hT:∀ w,(underlying t).run x.P w=.ok (.slice e) w) (hy:ev L y=some v) (hR:aI H v xs) (k:W x ops Q rest H M ((d,.int .i64 xs.length)::L)):
  W x ops Q (⟨some d,.call ⟨.builtin .len,#[y],#[t]⟩,ty,pos,aft,g⟩::rest) H M L:=by
 obtain ⟨a,c,rfl,_⟩:=hR.len;exact wX hg hN hT hy k
end
def over (l:List Value) (k:Nat):List Value→List Value
 | []=>l
 | v::vs=>over (l.set k v) (k+1) vs
theorem lI (vs:List Value):∀ (l:List Value) (k:Nat),(over l k vs).length=l.length:=by
 induction vs with
 | nil=>intro l k; rfl
 | cons v vs ih=>intro l k; simp [over,ih]
theorem gO {P:Program} (b o:Nat) (T:TypeId):∀ (vs:List Value) (i:Nat) (l:List Value) (w:World),w.heap[b]? = some (.cells l.toArray T (0,0)) →
  o+i+vs.length≤l.length→(∀ v ∈ vs,v.oneCell'=true) →
  ∃ w',(storeCells ⟨b,o,none⟩ vs i).run P w=.ok () w'∧w'.heap[b]? = some (.cells (over l (o+i) vs).toArray T (0,0))∧w.grownBy w' (some b)
 | [],i,l,w,h,_,_=>⟨w,rfl,h,⟨rfl,rfl,rfl,HH _,fun _ _ _=>rfl⟩⟩
 | v::vs,i,l,w,h,hb,h1=>by
  have hlt:o+i<l.length:=by simp at hb; omega
  have hc:w.cell? ⟨b,o+i,none⟩=some l[o+i]:=L7 (w:=w) (ad:=⟨b,o+i,none⟩) h rfl (by simp [hlt])
  have hf:w.frozen? ⟨b,o+i,none⟩=false:=by simp [World.frozen?,h]
  have h':(w.setCell ⟨b,o+i,none⟩ v).heap[b]? = some (.cells (l.set (o+i) v).toArray T (0,0)):=by
   simp [World.setCell,L1,h]
  obtain ⟨w',hr,hh,hg⟩:=gO (P:=P) b o T vs (i+1) (l.set (o+i) v) (w.setCell ⟨b,o+i,none⟩ v) h' (by simp at hb ⊢; omega) (fun u hu=>h1 u (Ho _ hu))
  refine ⟨w',?_,?_,?_⟩
  ·have hv:=h1 v (He ..)
   simp only [storeCells,Hx,store,IC];have:(Sem.store Mode.plain ⟨b,o+i,none⟩ v (Sem.pure ())).run P w=.ok () (w.setCell ⟨b,o+i,none⟩ v):=by
    cases v <;> first
     | (simp [Sem.run,hc,hf]; done)
     | simp [Value.oneCell'] at hv
   rw [this];simpa using hr
  ·simpa [over,JT] using hh
  ·exact ⟨hg.os,hg.tape,hg.output,by have:=hg.size; simpa [World.setCell] using this,fun k hk hne=>by
    rw [hg.block k (by simpa [World.setCell] using hk) hne]
    exact Below.heap_setCell _ _ _ _ (by intro e; subst e; exact hne rfl)⟩
section
variable {x:Cx}{ops:Array Oper}{Q:kF}{rest:List Oper}{H:Hp}{M M':List bR}{L L':Env}
variable {ty:TypeId}{pos:String}{aft:Array Edge}{g:Option (Nat×Bool)}
theorem aM {T E:TypeId}{n:Nat}{y z:Operand}{b o:Nat}{l cs out:List Value}{v:Value} (hg:gd ops L ⟨none,.store T y z,ty,pos,aft,g⟩=some true)
  (hn:∀ w,(sizeOf T).run x.P w=.ok n w) (hy:ev L y=some (.pointer (some ⟨b,o,none⟩))) (hz:ev L z=some v) (hv:v.cells=cs.toArray) (hl:cs.length=n)
  (hb:Nat.ble (o+cs.length) l.length=true) (h1:∀ c ∈ cs,c.oneCell'=true) (ho:over l o cs=out)
  (k:W x ops Q rest H (.obj b (.cells out.toArray E (0,0))::M) L):
  W x ops Q (⟨none,.store T y z,ty,pos,aft,g⟩::rest) H (.obj b (.cells l.toArray E (0,0))::M) L:=
 yZ rfl hg (fun a w hs ht=>by
  subst ho;have hob:=ht.qM (He ..);obtain ⟨w',hr,hh,hgr⟩:=gO (P:=x.P) b o E cs 0 l w hob (by simpa [Kn] using hb) h1
  refine ⟨w',?_,H,_,ht.xG (r':=.obj b (.cells (over l o cs).toArray E (0,0))) hgr hh (fun c hc=>.inl hc),k⟩;simp [execOp,hs.ev hy,hs.ev hz,Instr.storeAt,Instr.sureAddr,storeVar,hn,hl,hv,hr])
theorem aP {l cs:List Value} (h:Nat.beq cs.length l.length=true):over l 0 cs=cs:=by
 have h':cs.length=l.length:=JC h;have key:∀ (vs pre:List Value) (l:List Value),l.length=pre.length+vs.length→l.take pre.length=pre→over l pre.length vs=pre++vs:=by
  intro vs
  induction vs with
  | nil=>intro pre l h1 h2; simp at h1; simp only [over,Ia]; rw [← h2,HN (by omega)]
  | cons v vs ih=>
   intro pre l h1 h2;simp only [Hz] at h1;have:=ih (pre++[v]) (l.set pre.length v) (by simp; omega) (by
    simp only [HQ,Is];rw [Ig (by simp; omega),J6 (HH _),h2]
    simp)
   simp only [over];simpa using this
 simpa using key cs [] l (by simpa using h'.symm) rfl
end
theorem least {p:Nat→Prop}:∀ n,p n→∃ m,p m∧∀ k,p k→m≤k:=by
 intro n
 induction n using Nat.strongRecOn with
 | _ n ih=>
  intro h
  by_cases hh:∃ m,m<n∧p m
  ·obtain ⟨m,hm,hp⟩:=hh; exact ih m hm hp
  ·exact ⟨n,h,fun k hk=>by
    by_cases e:k<n
    ·exact absurd ⟨k,e,hk⟩ hh
    ·omega⟩
theorem DD {P:Program}{Q:kF}{c:Code} (J:Nat→Act→World→Prop) {n:Nat}{a:Act}{w:World} (h0:J n a w)
  (round:∀ n a w,J n a w→c.wp P (Exit.then (fun a' w'=>∃ m,m<n∧J m a' w') Q) a w):(Code.loop c).wp P Q a w:=by
 have hex:∀ a w,(∃ n,J n a w)→∃ m,J m a w∧∀ k,J k a w→m≤k:=fun a w ⟨n,h⟩=>least n h
 let μ:Act→World→Nat:=fun a w=>Classical.epsilon (fun m=>J m a w∧∀ k,J k a w→m≤k)
 have hμ:∀ a w,(∃ n,J n a w)→J (μ a w) a w∧∀ k,J k a w→μ a w≤k:=fun a w h=>Classical.epsilon_spec (p:=fun m=>J m a w∧∀ k,J k a w→m≤k) (hex a w h);refine wp_loop (fun a w=>∃ n,J n a w) μ ⟨n,h0⟩ fun a w h=>?_;refine wp_mono (round (μ a w) a w (hμ a w h).1) ?_;intro e a' w' hq;cases e with
 | normal=>
  obtain ⟨m,hm,hJ⟩:=hq;exact ⟨⟨m,hJ⟩,KD ((hμ a' w' ⟨m,hJ⟩).2 m hJ) hm⟩
 | _=>exact hq
abbrev xJ:=Nat→Hp→List bR→Env→Prop
def DI (x:Cx) (S:xJ) (n:Nat) (a:Act) (w:World):Prop:=
 ∃ m,m<n∧∃ H M L,S m H M L∧Sl x.N L a∧St x.B x.w0 H M w
theorem uQ {x:Cx}{c:Code}{Q:kF}{H:Hp}{M:List bR}{L:Env} (S:xJ) (n:Nat) (h0:S n H M L)
  (step:∀ n H M L,S n H M L→C x c (Exit.then (DI x S n) Q) H M L):C x (.loop c) Q H M L:=by
 intro a w hs ht;refine DD (fun n a w=>∃ H M L,S n H M L∧Sl x.N L a∧St x.B x.w0 H M w) ⟨H,M,L,h0,hs,ht⟩ ?_;intro n a w ⟨H,M,L,h,hs,ht⟩;exact step n H M L h a w hs ht
theorem bZ {x:Cx}{S:xJ}{Q:kF}{H:Hp}{M:List bR}{L:Env}{n m:Nat} (hm:m<n) (h:S m H M L):E x .normal (Exit.then (DI x S n) Q) H M L:=
 fun _ _ hs ht=>⟨m,hm,H,M,L,h,hs,ht⟩
section
variable {x:Cx}{Q:kF}{H:Hp}{M:List bR}{L:Env}{K:Act→World→Prop}
theorem jN (h:E x .ret Q H M L):E x .ret (Exit.then K Q) H M L:=h
theorem qq {id:Nat} (h:E x .ret Q H M L):E x .ret (Exit.inBlock id Q) H M L:=h
theorem eH {id:Nat} (h:E x (.exit id) Q H M L):E x (.exit id) (Exit.then K Q) H M L:=h
theorem kx {id:Nat} (h:E x .normal Q H M L):E x (.exit id) (Exit.inBlock id Q) H M L:=fun a w hs ht=>by
 simp only [Exit.inBlock,Lp]; exact h a w hs ht
theorem qp {id id':Nat} (hne:Nat.beq id id'=false) (h:E x (.exit id) Q H M L):E x (.exit id) (Exit.inBlock id' Q) H M L:=fun a w hs ht=>by
 have:¬ id=id':=fun e=>by subst e; simp at hne
 simp only [Exit.inBlock,Hh this]; exact h a w hs ht
theorem aH {id:Nat} (h:E x .normal Q H M L):E x .normal (Exit.inBlock id Q) H M L:=h
end
abbrev Gf:=Hp→List bR→Env→Prop
theorem bK {x:Cx}{c d:Code}{Q:kF}{H:Hp}{M:List bR}{L:Env} (S:Gf) (rest:∀ H M L,S H M L→C x d Q H M L)
  (k:(∀ H M L,S H M L→E x .normal (Exit.then (d.wp x.P Q) Q) H M L)→C x c (Exit.then (d.wp x.P Q) Q) H M L):C x (.seq c d) Q H M L:=
 cG (k fun H M L h=>aO (rest H M L h))
theorem iA {α:Type}{xs ys:List α}{k:Nat} (h:xs.drop k=ys) (hb:decide ((k:Int)<(xs.length:Int))=true):
  ∃ y zs,ys=y::zs∧xs[k]? = some y∧xs.drop (k+1)=zs:=by
 have hk:k<xs.length:=by have:=Hk hb; omega
 refine ⟨xs[k],xs.drop (k+1),?_,G9 hk,rfl⟩;rw [← h,Il hk]
theorem hO {α:Type}{xs ys:List α}{k:Nat} (h:xs.drop k=ys) (hb:decide ((k:Int)<(xs.length:Int))=false):ys=[]:=by
 have hk:xs.length≤k:=by have:=Hv hb; omega
 rw [← h,List.drop_eq_nil_of_le hk]
theorem rT {n:Int} (h0:-9223372036854775808≤n) (h1:n≤9223372036854775807):i64.wrap n=n:=by
 simp only [IntKind.wrap,IntKind.bits,IntKind.signed,Bool.true_and]
 split <;> rename_i h <;> simp at h <;> omega
theorem cS {α:Type}{xs:List α}{k:Nat}{y:α} (h:xs[k]? = some y) (hl:xs.length≤maxLen):i64.wrap ((k:Int)+1)=((k+1:Nat):Int):=by
 have hk:=(G6.1 h).1;unfold maxLen at hl;rw [rT (by omega) (by omega)]; rfl
theorem gP {k n:Nat} (h:k<n) (hl:n≤maxLen):i64.wrap ((k:Int)+1)=((k+1:Nat):Int):=by
 unfold maxLen at hl;rw [rT (by omega) (by omega)]; rfl
theorem aI.dQ {α:Type}[aF α] {H:Hp}{v:Value}{xs:List α} (h:aI H v xs):xs.length≤maxLen:=by
 obtain ⟨a,c,_,h1,h2⟩:=h.len; omega
def yg:Nat→List Value→Env
 | _,[]=>[]
 | i,v::vs=>(i,v)::yg (i+1) vs
theorem A_ (N:Nat):∀ (vs:List Value) (i:Nat) (t:Nat) (v:Value) (pre:List Value),pre.length=i→lk (yg i vs) t=some v →
  ((pre++vs).toArray++Array.replicate (N-(pre++vs).length) undef)[t]? = some v:=by
 intro vs
 induction vs with
 | nil=>intro i t v pre _ h; simp [yg,lk] at h
 | cons u vs ih=>
  intro i t v pre hp h;simp only [yg,oT] at h
  split at h
  ·rename_i e; subst e; cases h
   simp [Array.getElem?_append,← hp]
  ·have:=ih (i+1) t v (pre++[u]) (by simp [hp]) h
   simpa using this
theorem enter {P:Program}{f:FuncId}{fn:Func}{c:Code}{vs:List Value}{N B:Nat}{w0 w:World}{H:Hp}{M:List bR}{Φ:Hp→List bR→Value→Prop}
  (hf:P.funcs[f]? = some fn) (hb:fn.body=some c) (hN:fn.ntmps=N) (hle:Nat.ble vs.length N=true) (ht:St B w0 H M w)
  (k:C ⟨P,N,B,w0⟩ c (bodyPost P fn (fG B w0 Φ)) H M (yg 0 vs)):Calls P f vs.toArray w (fG B w0 Φ):=by
 refine calls_of_wp hf hb (k _ w ⟨?_,rfl,?_⟩ ht)
 ·have:vs.length≤N:=by simpa [Kn] using hle
  simp [hN]; omega
 ·intro t v h
  have:=A_ N vs 0 t v [] rfl h;simpa [hN] using this
section
variable {P:Program}{N B:Nat}{w0:World}{fn:Func}{Φ:Hp→List bR→Value→Prop}{H:Hp}{M:List bR}{L:Env}
theorem cL {t:Nat}{v:Value} (hr:fn.results=#[.tmp t]) (hl:lk L t=some v) (h:Φ H M v):E ⟨P,N,B,w0⟩ .ret (bodyPost P fn (fG B w0 Φ)) H M L:=
 fun a w hs ht=>⟨hs.ye,v,by rw [results_tmp hr]; simp [Ij,hs.get t v hl],H,M,ht,h⟩
theorem ki {t u:Nat}{v1 v2:Value} (hr:fn.results=#[.tmp t,.tmp u]) (hl:lk L t=some v1) (hl2:lk L u=some v2) (h:Φ H M (.tuple #[v1,v2])):E ⟨P,N,B,w0⟩ .ret (bodyPost P fn (fG B w0 Φ)) H M L:=
 fun a w hs ht=>⟨hs.ye,.tuple #[v1,v2],by rw [results_tmp2 hr]; simp [Ij,hs.get t v1 hl,hs.get u v2 hl2],H,M,ht,h⟩
end
section
variable {α σ R:Type}
def idx (l:List α) (i:Int) (k:α→Option R):Option R:=
 if 0≤i then match l[i.toNat]? with
  | some y=>k y
  | none=>none
 else none
theorem aD {l:List α}{i:Int}{k:α→Option R}{r:R} (h:idx l i k=some r):∃ y,0≤i∧l[i.toNat]? = some y∧k y=some r:=by
 unfold idx at h
 split at h
 ·cases hl:l[i.toNat]? with
  | none=>rw [hl] at h; cases h
  | some y=>rw [hl] at h; exact ⟨y,‹_›,rfl,h⟩
 ·cases h
def dN (p:Prop) [Decidable p] (k:Option R):Option R:=if p then k else none
theorem aT {p:Prop}[Decidable p] {k:Option R}{r:R} (h:dN p k=some r):p∧k=some r:=by
 unfold dN at h
 split at h
 ·exact ⟨‹_›,h⟩
 ·cases h
theorem bind_some {o:Option α}{k:α→Option R}{r:R} (h:o.bind k=some r):∃ y,o=some y∧k y=some r:=by
 cases o with
 | none=>cases h
 | some y=>exact ⟨y,rfl,h⟩
def dW (body:Nat→α→σ→(σ→Option R)→Option R) (k:σ→Option R):Nat→List α→σ→Option R
 | _,[],s=>k s
 | i,y::ys,s=>body i y s (dW body k (i+1) ys)
def jT (body:Nat→σ→(σ→Option R)→Option R) (k:σ→Option R):Nat→Nat→σ→Option R
 | 0,_,s=>k s
 | n+1,i,s=>body i s (jT body k n (i+1))
def fD (body:σ→(σ→Option R)→Option R):Nat→σ→Option R
 | 0,_=>none
 | n+1,s=>body s (fD body n)
def eB:Nat:=1152921504606846976
end
theorem tY (X Y:Env) (t:Nat):lk (X++Y) t=(lk X t).or (lk Y t):=by
 induction X with
 | nil=>simp [lk]
 | cons p X ih=>
  obtain ⟨u,v⟩:=p;simp only [JQ,oT]
  split <;> simp [ih]
theorem zF {X:Env}{t:Nat}{v:Value} (h:lk X t=some v):(t,v) ∈ X:=by
 induction X with
 | nil=>simp [lk] at h
 | cons p X ih=>
  obtain ⟨u,w⟩:=p;rw [oT] at h
  split at h
  ·rename_i e; subst e; cases h; exact He ..
  ·exact Ho _ (ih h)
theorem Sl.more {N:Nat}{L X:Env}{a:Act} (h:Sl N L a) (hX:∀ t v,(t,v) ∈ X→a.tmps[t]? = some v):Sl N (L++X) a:=
 ⟨h.size,h.ye,fun t v ht=>by
  rw [tY] at ht;cases hl:lk L t with
  | some u=>rw [hl] at ht; simp at ht; subst ht; exact h.get t _ hl
  | none=>rw [hl] at ht; simp at ht; exact hX t v (zF ht)⟩
theorem Sl.cons {N:Nat}{L:Env}{a:Act}{t:Nat}{v:Value} (h:Sl N L a) (hv:a.tmps[t]? = some v):Sl N ((t,v)::L) a:=
 ⟨h.size,h.ye,fun u w hu=>by
  rw [oT] at hu
  split at hu
  ·rename_i e; subst e; cases hu; exact hv
  ·exact h.get u w hu⟩
theorem Sl.left {N:Nat}{L X:Env}{a:Act} (h:Sl N (L++X) a):Sl N L a:=
 ⟨h.size,h.ye,fun t v ht=>h.get t v (by rw [tY,ht]; rfl)⟩
def fK (o:Oper):List Nat:=(o.after.toList.filter fun e=>Region.binds .any e).map (·.on)
def DJ (l:List Oper) (Φ:Nat→Hp→Value→Prop) (H:Hp):List Nat→Env→(Env→Prop)→Prop
 | [],L,k=>k L
 | j::js,L,k=>match (l[j]?).bind (·.dst) with
  | some t=>∀ v,Φ j H v→DJ l Φ H js ((t,v)::L) k
  | none=>DJ l Φ H js L k
def One (x:Cx) (H:Hp) (M:List bR) (L:Env) (t:Nat) (φ:Hp→Value→Prop):kF:=fun e a w=>
 e=.normal∧∃ v H',Sl x.N ((t,v)::L) a∧H.le H'∧St x.B x.w0 H' M w∧φ H' v
def DK (x:Cx) (l:List Oper) (Φ:Nat→Hp→Value→Prop) (H:Hp) (M:List bR) (L:Env):Nat→List Oper→Prop
 | _,[]=>True
 | i,o::r=>(∀ H',H.le H'→∀ X,DJ l Φ H' (fK o) (L++X) (fun L'=>W x l.toArray (One x H' M L' (o.dst.getD 0) (Φ i)) [o] H' M L'))∧DK x l Φ H M L (i+1) r
theorem DK.at {x:Cx}{l:List Oper}{Φ:Nat→Hp→Value→Prop}{H:Hp}{M:List bR}{L:Env}:∀ {r:List Oper}{i:Nat},DK x l Φ H M L i r→∀ j o,r[j]? = some o →
  ∀ H',H.le H'→∀ X,DJ l Φ H' (fK o) (L++X) (fun L'=>W x l.toArray (One x H' M L' (o.dst.getD 0) (Φ (i+j))) [o] H' M L')
 | [],_,_,j,o,h=>by simp at h
 | p::r,i,hh,0,o,h=>by simp at h; subst h; exact hh.1
 | p::r,i,hh,j+1,o,h=>by
  have:=DK.at hh.2 j o (by simpa using h)
  rwa [show i+1+j=i+(j+1) from by omega] at this
theorem DJ.use {l:List Oper}{Φ:Nat→Hp→Value→Prop}{H:Hp}{a:Act}{N:Nat}:∀ {js:List Nat}{L:Env}{k:Env→Prop},DJ l Φ H js L k→Sl N L a →
  (∀ j ∈ js,∀ t,(l[j]?).bind (·.dst)=some t→∃ v,a.tmps[t]? = some v∧Φ j H v)→∃ Y,k (Y++L)∧Sl N (Y++L) a∧∀ t v,(t,v) ∈ Y→a.tmps[t]? = some v
 | [],L,k,h,hs,_=>⟨[],h,hs,by simp⟩
 | j::js,L,k,h,hs,hv=>by
  unfold DJ at h;cases hd:(l[j]?).bind (·.dst) with
  | none=>
   rw [hd] at h;exact DJ.use h hs (fun i hi=>hv i (Ho _ hi))
  | some t=>
   rw [hd] at h;obtain ⟨v,h1,h2⟩:=hv j (He ..) t hd;obtain ⟨Y,h3,h4,h5⟩:=DJ.use (h v h2) (hs.cons h1) (fun i hi=>hv i (Ho _ hi));refine ⟨Y++[(t,v)],by simpa using h3,by simpa using h4,?_⟩
   intro u w hm;rcases HV.1 hm with hm | hm
   ·exact h5 u w hm
   ·simp at hm; obtain ⟨rfl,rfl⟩:=hm; exact h1
theorem mem_ready {ops:Array Oper}{listed:Array Bool}{i:Nat}:i ∈ Region.ready .any ops listed↔i<ops.size∧listed.getD i true=false∧∃ o,ops[i]? = some o∧∀ j ∈ fK o,listed.getD j false=true:=by
 unfold Region.ready fK;simp only [IX,Io,Jn,Bool.not_eq_true'];refine and_congr_right fun hi=>and_congr_right fun _=>?_;have:ops[i]? = some ops[i]:=Kh hi;simp only [this,I7,JA,Array.all_eq_true',H9,II,IX,Array.mem_toList_iff,Jd,Bool.not_eq_true'];constructor
 ·intro h
  refine ⟨_,rfl,?_⟩;rintro j ⟨e,⟨he,hb⟩,rfl⟩;rcases h e he with h | h
  ·rw [h] at hb; cases hb
  ·exact h
 ·rintro ⟨o,rfl,h⟩ e he
  cases hb:Region.binds .any e with
  | false=>exact .inl rfl
  | true=>exact .inr (h _ ⟨e,⟨he,hb⟩,rfl⟩)
section
variable {x:Cx}{l:List Oper}{m:Nat}{Φ:Nat→Hp→Value→Prop}{H:Hp}{M:List bR}{L:Env}{Q:kF}
theorem pX (b:Array Bool) (i j:Nat) (d:Bool) (hi:i<b.size):(b.setIfInBounds i true).getD j d=if j=i then true else b.getD j d:=by
 simp only [Ij,Lc]
 by_cases e:i=j
 ·subst e; simp [hi]
 ·simp [e,Ne.symm e]
def left (l:List Oper) (listed:Array Bool):Nat:=(List.range l.length).countP fun i=>!listed.getD i true
theorem CR {listed:Array Bool}{i:Nat} (hsz:listed.size=l.length) (hi:i<l.length) (hl:listed.getD i true=false):left l (listed.setIfInBounds i true)+1=left l listed:=by
 unfold left;have key:∀ n,i<n→n≤l.length→(List.range n).countP (fun j=>!(listed.setIfInBounds i true).getD j true)+1=(List.range n).countP (fun j=>!listed.getD j true):=by
  intro n
  induction n with
  | zero=>omega
  | succ n ih=>
   intro h1 h2;rw [K1,List.countP_append,List.countP_append]
   by_cases e:i=n
   ·subst e
    have:∀ n,n≤i→(List.range n).countP (fun j=>!(listed.setIfInBounds i true).getD j true)=(List.range n).countP (fun j=>!listed.getD j true):=by
     intro n hn;refine List.countP_congr fun j hj=>?_;have hj':=Io.1 hj;rw [pX _ _ _ _ (by omega),Hh (by omega)]
    rw [this i (HH _)];simp only [List.countP_cons,List.countP_nil,pX _ _ _ _ (by omega:i<listed.size),hl,Lp]
    simp
   ·have:=ih (by omega) (by omega)
    have h3:(listed.setIfInBounds i true).getD n true=listed.getD n true:=by rw [pX _ _ _ _ (by omega),Hh (by omega)]
    simp only [List.countP_cons,List.countP_nil,h3];omega
 exact key l.length hi (HH _)
end
structure U8 where
 n:Int
 deriving DecidableEq
structure Gi where
 n:Int
 deriving DecidableEq
structure bG where
 n:Int
 deriving DecidableEq
structure Gk where
 n:Int
 deriving DecidableEq
structure Ge where
 n:Int
 deriving DecidableEq
instance:aF U8 where
 sz:=1
 E _ cs x:=cs=[.int .u8 x.n]
 len h:=by rw [h]; rfl
 mono _ h:=h
 one h c hc:=by rw [h] at hc; simp at hc; subst hc; rfl
instance:aF Gi where
 sz:=1
 E _ cs x:=cs=[.int .u16 x.n]
 len h:=by rw [h]; rfl
 mono _ h:=h
 one h c hc:=by rw [h] at hc; simp at hc; subst hc; rfl
instance:aF bG where
 sz:=1
 E _ cs x:=cs=[.int .u32 x.n]
 len h:=by rw [h]; rfl
 mono _ h:=h
 one h c hc:=by rw [h] at hc; simp at hc; subst hc; rfl
instance:aF Gk where
 sz:=1
 E _ cs x:=cs=[.int .u64 x.n]
 len h:=by rw [h]; rfl
 mono _ h:=h
 one h c hc:=by rw [h] at hc; simp at hc; subst hc; rfl
instance:aF Ge where
 sz:=1
 E _ cs x:=cs=[.int .i32 x.n]
 len h:=by rw [h]; rfl
 mono _ h:=h
 one h c hc:=by rw [h] at hc; simp at hc; subst hc; rfl
theorem aI.nil {α:Type}[aF α] {H:Hp}:aI H (.slice none 0 0) ([]:List α):=.inl ⟨⟨_,rfl⟩,rfl⟩
theorem aI.cells {α:Type}[aF α] {H:Hp}{v:Value}{xs:List α} (h:aI H v xs):v.cells=[v].toArray:=by
 obtain ⟨a,c,rfl,_⟩:=h.len; rfl
theorem aI.cA {α:Type}[aF α] {H:Hp}{v:Value}{xs:List α} (h:aI H v xs):v.oneCell'=true:=by
 obtain ⟨a,c,rfl,_⟩:=h.len; rfl
theorem Hj:∀ c ∈ ([]:List Value),c.oneCell'=true:=by intro c hc; cases hc
theorem G5 {v:Value}{l:List Value} (h:v.oneCell'=true) (k:∀ c ∈ l,c.oneCell'=true):∀ c ∈ v::l,c.oneCell'=true:=by
 intro c hc;rcases Ik.1 hc with rfl | hc
 ·exact h
 ·exact k c hc
theorem cB.one {H:Hp}{ad:Addr}{cs:List Value} (h:cB H ad cs) (j:Nat) {c:Value} (hc:cs[j]? = some c):uR H (ad.add j) c:=h j c hc
theorem cB.part {H:Hp}{ad:Addr}{cs ds:List Value}{k:Nat} (h:cB H ad cs) (hd:(cs.drop k).take ds.length=ds):cB H (ad.add k) ds:=by
 intro j c hc;have hj:j<ds.length:=(G6.1 hc).1;have:cs[k+j]? = some c:=by
  rw [← hd,It,Hl hj,Ib] at hc; exact hc
 have:=h (k+j) c this;have e:(ad.add k).add j=ad.add (k+j):=by
  unfold Addr.add
  by_cases h1:k=0
  ·subst h1; simp
  ·by_cases h2:j=0
   ·subst h2; simp
   ·simp [h1,h2,JT]
 rw [e]; exact this
theorem fY {x:Cx}{H:Hp}{M:List bR}{b k:Nat}{l ds:List Value}{T:TypeId}{fz:Nat×Nat}
  (hm:bR.obj b (.cells l.toArray T fz) ∈ M) (hd:(l.drop k).take ds.length=ds):s6 x H M ⟨b,k,none⟩ ds:=by
 intro j c hc;have hj:j<ds.length:=(G6.1 hc).1;rw [IC];refine bV hm ?_;rw [← hd,It,Hl hj,Ib] at hc; exact hc
theorem wS {x:Cx}{e:Exit}{Q:kF}{H:Hp}{M M':List bR}{L L':Env} (k:E x e Q H M' L') (hM:M.Perm M') (hL:Kept L L'):E x e Q H M L:=yX hL hM k
theorem fF {α:Type}{b:Bool}{p q r:α} (hb:b=true) (h:(if b=true then p else q)=r):p=r:=by rw [Hl hb] at h; exact h
theorem fE {α:Type}{b:Bool}{p q r:α} (hb:b=false) (h:(if b=true then p else q)=r):q=r:=by rw [Hh (by simp [hb])] at h; exact h
section
variable {P:Program}{N B:Nat}{w0:World}{fn:Func}{H H0:Hp}{M:List bR}{L:Env}
end
def mC {α:Type}[aF α] (H:Hp):List Value→List α→Prop
 | cs,[]=>cs=[]
 | cs,y::ys=>∃ c r,cs=c++r∧aF.E H c y∧mC H r ys
section
variable {α:Type}[aF α] {H H':Hp}
theorem mC.nil:mC H [] ([]:List α):=rfl
theorem mC.cons {c r:List Value}{y:α}{ys:List α} (h:aF.E H c y) (k:mC H r ys):mC H (c++r) (y::ys):=⟨c,r,rfl,h,k⟩
theorem mC.mono (hle:H.le H'):∀ {cs:List Value}{ys:List α},mC H cs ys→mC H' cs ys
 | _,[],h=>h
 | _,_::_,⟨c,r,e,h,k⟩=>⟨c,r,e,aF.mono hle h,mC.mono hle k⟩
theorem mC.len:∀ {cs:List Value}{ys:List α},mC H cs ys→cs.length=ys.length*aF.sz α
 | _,[],h=>by rw [show _=[] from h]; simp
 | _,_::ys,⟨c,r,e,h,k⟩=>by rw [e,HQ,aF.len h,mC.len k,Hz,HI]; omega
theorem mC.app:∀ {cs ds:List Value}{ys zs:List α},mC H cs ys→mC H ds zs→mC H (cs++ds) (ys++zs)
 | _,ds,[],zs,h,k=>by rw [show _=[] from h]; simpa using k
 | _,ds,y::ys,zs,⟨c,r,e,h,k⟩,k2=>⟨c,r++ds,by rw [e,H6],h,mC.app k k2⟩
theorem mC.one:∀ {cs:List Value}{ys:List α},mC H cs ys→∀ c ∈ cs,c.oneCell'=true
 | _,[],h=>by rw [show _=[] from h]; simp
 | _,_::_,⟨c,r,e,h,k⟩=>by
  intro d hd;rw [e] at hd;rcases HV.1 hd with hd | hd
  ·exact aF.one h d hd
  ·exact mC.one k d hd
theorem mC.get:∀ {cs:List Value}{ys:List α},mC H cs ys→∀ k e,ys[k]? = some e→∃ c,aF.E H c e∧∀ j v,c[j]? = some v→cs[k*aF.sz α+j]? = some v
 | _,[],h,k,e,he=>by simp at he
 | _,y::ys,⟨c,r,e,h,k⟩,0,x,hx=>by
  simp at hx; subst hx
  exact ⟨c,h,fun j v hv=>by rw [e,Jc,H_,IM (G6.1 hv).1]; exact hv⟩
 | _,y::ys,⟨c,r,e,h,k⟩,n+1,x,hx=>by
  obtain ⟨d,h1,h2⟩:=mC.get k n x (by simpa using hx)
  refine ⟨d,h1,fun j v hv=>?_⟩;rw [e,HY (by rw [aF.len h,HI]; omega),aF.len h]
  rw [show (n+1)*aF.sz α+j-aF.sz α=n*aF.sz α+j from by rw [HI]; omega]
  exact h2 j v hv
theorem mC.split:∀ {cs:List Value}{ys:List α} (k:Nat),mC H cs ys→mC H (cs.take (k*aF.sz α)) (ys.take k)∧mC H (cs.drop (k*aF.sz α)) (ys.drop k)
 | cs,ys,0,h=>by rw [Jc]; exact ⟨rfl,h⟩
 | _,[],k+1,h=>by rw [show _=[] from h,List.take_nil,List.drop_nil,List.take_nil,List.drop_nil]; exact ⟨rfl,rfl⟩
 | _,y::ys,k+1,⟨c,r,e,h,k2⟩=>by
  obtain ⟨h1,h2⟩:=mC.split k k2;have hl:=aF.len h;subst e;have e1:(k+1)*aF.sz α=c.length+k*aF.sz α:=by rw [HI,hl]; omega
  rw [e1,List.take_length_add_append,List.drop_length_add_append];exact ⟨⟨c,_,rfl,h,h1⟩,h2⟩
theorem mC.put {cs c:List Value}{ys:List α}{y:α}{k:Nat} (h:mC H cs ys) (hk:k<ys.length) (hy:aF.E H c y):
  mC H (cs.take (k*aF.sz α)++c++cs.drop ((k+1)*aF.sz α)) (ys.set k y):=by
 obtain ⟨h1,_⟩:=h.split k;obtain ⟨_,h2⟩:=h.split (k+1);have:ys.set k y=ys.take k++y::ys.drop (k+1):=by rw [KP,Hl hk]
 rw [this,H6];exact h1.app (mC.cons hy h2)
theorem aI.flat {v : Value} {ys : List α} (h : aI H v ys) : ∃ cs, mC H cs ys ∧ ((∃ a, v = .slice a 0 0) ∧ ys = [] ∨ cB H (Value.base v) cs ∧ ∃ b off c, v = .slice (some ⟨b, off, none⟩) ys.length c) := by
  rcases h with ⟨⟨a, rfl⟩, rfl⟩ | ⟨b, off, cap, arr, T, fz, rfl, h2, h3, h4, h5, h6⟩
  · exact ⟨[], mC.nil, .inl ⟨⟨a, rfl⟩, rfl⟩⟩
  · have key : ∀ (zs : List α) (k : Nat), (∀ j e, zs[j]? = some e → ∃ cs, aF.E H cs e ∧ ∀ i c, cs[i]? = some c → arr[off + (k + j) * aF.sz α + i]? = some c) →
        ∃ cs, mC H cs zs ∧ ∀ i c, cs[i]? = some c → arr[off + k * aF.sz α + i]? = some c := by
      intro zs
      induction zs with
      | nil => intro k _; exact ⟨[], mC.nil, by simp⟩
      | cons z zs ih =>
        intro k hz;obtain ⟨c, hc, hcc⟩ := hz 0 z rfl;obtain ⟨r, hr, hrr⟩ := ih (k + 1) (fun j e he => by
          obtain ⟨cs, q1, q2⟩ := hz (j + 1) e (by simpa using he)
          exact ⟨cs, q1, fun i c hc => by rw [show k + 1 + j = k + (j + 1) from by omega]; exact q2 i c hc⟩)
        refine ⟨c ++ r, mC.cons hc hr, fun i d hd => ?_⟩;rw [Jv] at hd
        split at hd
        · simpa using hcc i d hd
        · rename_i hn
          have := hrr _ d hd;rw [aF.len hc] at this hn;rw [show off + k * aF.sz α + i = off + (k + 1) * aF.sz α + (i - aF.sz α) from by rw [HI]; omega]
          exact this
    obtain ⟨cs, hcs, hh⟩ := key ys 0 (fun j e he => by simpa using h6 j e he)
    refine ⟨cs, hcs, .inr ⟨fun i c hc => ⟨arr, T, fz, ?_, ?_, ?_⟩, b, off, cap, rfl⟩⟩
    · simp only [Value.base, IC]; exact h4
    · simp only [Value.base, IC]
    · simp only [Value.base, IC]; simpa using hh i c hc
end
structure FJ (P:Program) (T:TypeId) (sz bytes:Nat) (z:Value):Prop where
 ex:∃ i,P.info? T=some i∧i.size=sz∧i.bytes=bytes∧i.zero=some z
theorem St.qX {α:Type}[aF α] {B:Nat}{w0 w:World}{H:Hp}{M:List bR}{v:Value}{T:TypeId}{n:Nat}{xs:List Value}{ys:List α}
  (h:St B w0 H (.row v T (aF.sz α) n xs::M) w) (hx:mC H xs ys) (hs:0<aF.sz α):∃ H',H.le H'∧St B w0 H' M w∧aI H' v ys:=by
 have hok:=h.ok _ (He ..);obtain ⟨hl,hh⟩:=hok;have hn:n=ys.length:=by
  have:=hx.len;rw [hl] at this;exact Jo hs this
 subst hn;rcases hh with ⟨rfl,h0⟩ | ⟨g,off,cap,cur,rfl,hg,hnc,hcm,hcs,htake⟩
 ·refine ⟨H,G8 _,h.tail,.inl ⟨⟨_,rfl⟩,H7 h0⟩⟩
 ·have h':St B w0 H (.obj g (.cells cur T (0,0))::M) w:=by
   refine ⟨h.below,h.le,h.rS,?_,?_,h.nd⟩
   ·intro r hr
    rcases Ik.1 hr with rfl | hr
    ·exact hg
    ·exact h.tail.ok r hr
   ·intro r hr
    rcases Ik.1 hr with rfl | hr
    ·exact h.lo (.row _ T (aF.sz α) ys.length xs) (He ..)
    ·exact h.tail.lo r hr
  obtain ⟨hle,hst⟩:=h'.freeze;refine ⟨_,hle,hst,.inr ⟨g,off,cap,cur,T,(0,0),rfl,hnc,hcm,Hp.rP _ _ _,hcs,?_⟩⟩;intro k e he;obtain ⟨c,h1,h2⟩:=(hx.mono hle).get k e he;refine ⟨c,h1,fun j d hd=>?_⟩;have:=h2 j d hd;rw [← htake,It] at this
  split at this
  ·rw [Ib] at this; simpa [JT] using this
  ·cases this
theorem rp:∀ (vs l:List Value) (k:Nat),k+vs.length≤l.length→over l k vs=l.take k++vs++l.drop (k+vs.length)
 | [],l,k,_=>by simp [over]
 | v::vs,l,k,h=>by
  simp only [Hz] at h;rw [over,rp vs _ _ (by simp; omega)]
  have hk:k<l.length:=by omega
  rw [Ig (by simpa using hk)]
  simp only [List.getElem_set_self,Hz];rw [J6 (by omega),J4 (by omega)]
  simp only [H6,JQ,Jw];rw [show k+1+vs.length=k+(vs.length+1) from by omega]
theorem xw {P:Program}{w:World}{t ty e:TypeId}{i:TypeInfo}{z:Value}{size bytes:Nat} (ht:P.underlying t=some (.slice e)) (hi:P.info? e=some i) (hz:i.zero=some z)
  (hsize:i.size=size) (hby:i.bytes=bytes) (hzs:z.cells.size=size) (hsz:0<size)
  {v:Value}{n:Nat}{xs:List Value} (hown:fN w e size v n xs)
  {a:Addr}{m c:Nat}{news:List Value} (hl:news.length=m*size) (hnews:∀ j u,news[j]? = some u→w.cell? (a.add j)=some u) (h1:∀ u ∈ news,u.oneCell'=true)
  (h63:n+m≤maxLen) (hbytes:(n+m)*bytes≤140737488355328):
  ∃ v' w',(Builtin.append_ #[t,t] ty #[v,.slice (some a) m c]).run P w=.ok v' w'∧fN w' e size v' (n+m) (xs++news)∧w.grownBy w' v.ownBlock ∧
   (∀ b,v'.ownBlock=some b→v.ownBlock=some b∨w.heap.size≤b):=by
 subst hsize;subst hby;have hsmall:n+m≤9223372036854775807:=by simp only [maxLen] at h63; omega
 have hlen:(xs++news).length=(n+m)*i.size:=by rw [HQ,hown.1,hl,HI]
 have grown:∀ (ql:Nat) (row:Option Nat),
   fN (w.drew.alloc (.cells (xs.toArray++news.toArray++Builtin.zeroCells z.cells (grownCap w (n+m) ql e-(n+m))) e)) e i.size
    (.slice (some ⟨w.heap.size,0,none⟩) (n+m) (grownCap w (n+m) ql e)) (n+m) (xs++news) ∧
   w.grownBy (w.drew.alloc (.cells (xs.toArray++news.toArray++Builtin.zeroCells z.cells (grownCap w (n+m) ql e-(n+m))) e)) row:=by
  intro ql row;have hge:=Mp w (n+m) ql e;have hcm:grownCap w (n+m) ql e≤maxLen:=Lz w (n+m) ql e h63;refine ⟨⟨hlen,.inr ⟨w.heap.size,0,_,_,rfl,LJ w.drew _,hge,hcm,?_,?_⟩⟩,⟨rfl,rfl,rfl,by simp,fun k hk _=>heap_alloc_old w.drew _ (h:=hk)⟩⟩
  ·simp only [Array.size_append,Kr,size_zeroCells,hzs,hown.1,hl,← HI,H_]
   rw [show n+m+(grownCap w (n+m) ql e-(n+m))=grownCap w (n+m) ql e from by omega]
   exact HH _
  ·simp only [Jg,Mh,H6]
   rw [← H6,← hlen];exact KS
 rcases hown.2 with ⟨rfl,rfl⟩ | ⟨g,off,cap,cur,rfl,hg,hnc,hcm,hcs,htake⟩
 ·have hx:xs=[]:=H7 (by simpa using hown.1)
  subst hx
  by_cases hm:m=0
  ·subst hm
   have hn:news=[]:=H7 (by simpa using hl)
   subst hn;refine ⟨.slice none 0 0,w,?_,fN.nil w e i.size,⟨rfl,rfl,rfl,HH _,fun _ _ _=>rfl⟩,by simp [Value.ownBlock]⟩
   simp [Builtin.append_,I_ ht,sizeOf,typeInfo,hi,Builtin.lenOf,Builtin.firstCells,loadCells,loadCellsFrom]
  ·have hr:=run_append_nil (P:=P) w t ty e i z ht hi hz a m c news hl hnews (by omega) (by omega) (by have hb:=hbytes; simp only [H_] at hb; omega)
   have hgr:=grown 0 (Value.ownBlock (.slice none 0 0));simp only [H_,Jw,Array.empty_append] at hgr ⊢;exact ⟨_,_,hr,hgr.1,hgr.2,fun b hb=>.inr (by simp only [Value.ownBlock,H9] at hb; omega)⟩
 ·by_cases hroom:n+m≤cap
  ·have hfit:off+n*i.size+news.length≤cur.size:=by
    have:(n+m)*i.size≤cap*i.size:=HD _ hroom;rw [HI] at this;omega
   have hf:=Mn (P:=P) w i.size m a m c news hl hnews;obtain ⟨w',hst,hh,hgr⟩:=gO (P:=P) g (off+n*i.size) e news 0 cur.toList w (by simpa using hg) (by simpa using hfit) h1
   refine ⟨.slice (some ⟨g,off,none⟩) (n+m) cap,w',?_,⟨hlen,.inr ⟨g,off,cap,_,rfl,hh,hroom,hcm,?_,?_⟩⟩,hgr,fun b hb=>.inl hb⟩
   ·simp [Builtin.append_,I_ ht,sizeOf,typeInfo,hi,Builtin.lenOf,hroom,hf,IC,hst]
   ·simpa [lI] using hcs
   ·rw [J7,Jb,rp _ _ _ (by simpa using hfit)]
    have hd:(cur.toList.take (off+n*i.size)).drop off=xs:=by rw [JU,JG]; exact htake
    rw [H6,Kt (by simp; omega),hd,← H6,← hlen]
    exact KS
  ·have holds:∀ j u,xs[j]? = some u→w.cell? ((⟨g,off,none⟩:Addr).add j)=some u:=by
    intro j u hu;rw [IC];refine L7 hg rfl ?_;rw [← htake,It] at hu
    split at hu
    ·rw [Ib] at hu; simpa using hu
    ·cases hu
   have hr:=run_append_grow (P:=P) w t ty e i z ht hi hz ⟨g,off,none⟩ n cap xs hown.1 holds a m c news hl hnews (by omega) (by omega) (Mo (by omega) hbytes)
   have hgr:=grown cap (Value.ownBlock (.slice (some ⟨g,off,none⟩) n cap));exact ⟨_,_,hr,hgr.1,hgr.2,fun b hb=>.inr (by simp only [Value.ownBlock,H9] at hb; omega)⟩
section
variable {x:Cx}{ops:Array Oper}{Q:kF}{rest:List Oper}{H:Hp}{M M':List bR}{L L':Env}
variable {d:Nat}{ty:TypeId}{pos:String}{aft:Array Edge}{g:Option (Nat×Bool)}
theorem cY {α:Type}[aF α] {v:Value}{T:TypeId}{n:Nat}{xs:List Value}{ys:List α} (hx:mC H xs ys) (hs:Nat.blt 0 (aF.sz α)=true)
  (k:∀ H',H.le H'→aI H' v ys→W x ops Q rest H' M L):W x ops Q rest H (.row v T (aF.sz α) n xs::M) L:=by
 intro a w hsl ht;obtain ⟨H',h1,h2,h3⟩:=ht.qX hx (by simpa [IE] using hs)
 exact k H' h1 h3 a w hsl h2
theorem lx {α:Type}[aF α] {e:Exit}{v:Value}{T:TypeId}{n:Nat}{xs:List Value}{ys:List α} (hx:mC H xs ys) (hs:Nat.blt 0 (aF.sz α)=true)
  (k:∀ H',H.le H'→aI H' v ys→E x e Q H' M L):E x e Q H (.row v T (aF.sz α) n xs::M) L:=by
 intro a w hsl ht;obtain ⟨H',h1,h2,h3⟩:=ht.qX hx (by simpa [IE] using hs)
 exact k H' h1 h3 a w hsl h2
theorem BI {α:Type}[aF α] {c:Code}{v:Value}{T:TypeId}{n:Nat}{xs:List Value}{ys:List α} (hx:mC H xs ys) (hs:Nat.blt 0 (aF.sz α)=true)
  (k:∀ H',H.le H'→aI H' v ys→C x c Q H' M L):C x c Q H (.row v T (aF.sz α) n xs::M) L:=by
 intro a w hsl ht;obtain ⟨H',h1,h2,h3⟩:=ht.qX hx (by simpa [IE] using hs)
 exact k H' h1 h3 a w hsl h2
theorem uZ (T:TypeId) (sz:Nat) (k:W x ops Q rest H (.row (.slice none 0 0) T sz 0 []::M) L):W x ops Q rest H M L:=
 fun a w hsl ht=>k a w hsl (ht.vI T sz)
theorem gJ {e:Exit} (T:TypeId) (sz:Nat) (k:E x e Q H (.row (.slice none 0 0) T sz 0 []::M) L):E x e Q H M L:=
 fun a w hsl ht=>k a w hsl (ht.vI T sz)
theorem jB {c:Code} (T:TypeId) (sz:Nat) (k:C x c Q H (.row (.slice none 0 0) T sz 0 []::M) L):C x c Q H M L:=
 fun a w hsl ht=>k a w hsl (ht.vI T sz)
theorem BO {α:Type}[aF α] {t e:TypeId}{bytes n:Nat}{z:Value}{y u:Operand}{v vu:Value}{xs:List Value}{l ys:List α}
  (hg:gd ops L ⟨some d,.call ⟨.builtin .append,#[y,u],#[t,t]⟩,ty,pos,aft,g⟩=some true) (hN:Nat.blt d x.N=true)
  (hT:x.P.underlying t=some (.slice e)) (hi:FJ x.P e (aF.sz α) bytes z) (hz:z.cells.size=aF.sz α) (hs:Nat.blt 0 (aF.sz α)=true) (hb0:Nat.blt 0 bytes=true)
  (hy:ev L y=some v) (hu:ev L u=some vu) (hx:mC H xs l) (hR:aI H vu ys) (hb:(l.length+ys.length)*bytes≤140737488355328)
  (k:∀ v' n' xs',mC H xs' (l++ys)→W x ops Q rest H (.row v' e (aF.sz α) n' xs'::M) ((d,v')::L)):
  W x ops Q (⟨some d,.call ⟨.builtin .append,#[y,u],#[t,t]⟩,ty,pos,aft,g⟩::rest) H (.row v e (aF.sz α) n xs::M) L:=by
 obtain ⟨i,h1,h2,h3,h4⟩:=hi.ex;have hs':0<aF.sz α:=by simpa [IE] using hs
 have hb0':0<bytes:=by simpa [IE] using hb0
 have hmax:l.length+ys.length≤maxLen:=by
  have:l.length+ys.length≤(l.length+ys.length)*bytes:=Ku _ hb0';unfold maxLen; omega
 refine ot rfl hg hN fun a w hsl ht=>?_;have hown:fN w e (aF.sz α) v n xs:=ht.ok _ (He ..);have hn:n=l.length:=by
  have:=hx.len;rw [hown.1] at this;exact Jo hs' this
 subst hn;obtain ⟨cs,hcs,hcase⟩:=hR.flat;rcases hcase with ⟨⟨ea,rfl⟩,rfl⟩ | ⟨hc,b,off,c,rfl⟩
 ·have hcs':cs=[]:=hcs
  subst hcs';refine ⟨v,w,?_,H,_,ht,k v _ xs (by simpa using hx)⟩
  rcases hown.2 with ⟨rfl,h0⟩ | ⟨g,off,cap,cur,rfl,hg2,hnc,_⟩ <;> cases ea
  ·simp [execOp,resolve,invoke,builtin,hsl.ev hy,hsl.ev hu,Builtin.append_,I_ hT,sizeOf,typeInfo,h1,Builtin.lenOf,Builtin.firstCells]
  ·simp [execOp,resolve,invoke,builtin,hsl.ev hy,hsl.ev hu,Builtin.append_,I_ hT,sizeOf,typeInfo,h1,Builtin.lenOf,Builtin.firstCells,loadCells,loadCellsFrom]
  ·simp [execOp,resolve,invoke,builtin,hsl.ev hy,hsl.ev hu,Builtin.append_,I_ hT,sizeOf,typeInfo,h1,Builtin.lenOf,Builtin.firstCells,storeCells,hnc]
  ·simp [execOp,resolve,invoke,builtin,hsl.ev hy,hsl.ev hu,Builtin.append_,I_ hT,sizeOf,typeInfo,h1,Builtin.lenOf,Builtin.firstCells,storeCells,hnc,loadCells,loadCellsFrom]
 ·obtain ⟨v',w',hr,ho,hgr,hfr⟩:=xw (P:=x.P) (ty:=ty) hT h1 h4 h2 h3 hz hs' hown (a:=⟨b,off,none⟩) (m:=ys.length) (c:=c) (news:=cs) hcs.len
   (fun j u hu=>((hc j u hu).at (x:=x) (M:=.row v e (aF.sz α) l.length xs::M)) w ht) hcs.one hmax hb
  refine ⟨v',w',?_,H,_,ht.xG (r':=.row v' e (aF.sz α) (l.length+ys.length) (xs++cs)) hgr ho hfr,k v' _ _ (hx.app hcs)⟩;simp [execOp,resolve,invoke,builtin,hsl.ev hy,hsl.ev hu,hr]
end
def tP:List Value→List (List Value)→Prop
 | [],[]=>True
 | v::vs,c::cs=>v.cells=c.toArray∧tP vs cs
 | _,_=>False
def laid (places:List (Nat×Nat)):List Value→List (Nat×List Value)→Option (List Value)
 | z,[]=>some z
 | z,(i,c)::r=>match places[i]? with
  | none=>none
  | some (off,size)=>if Nat.beq c.length size && Nat.ble (off+c.length) z.length then laid places (over z off c) r else none
theorem vm:∀ (c:List Value) (z:List Value) (off k:Nat),(c.zipIdx k).foldl (fun cs (p:Value×Nat)=>cs.setIfInBounds (off+p.2) p.1) z.toArray=(over z (off+k) c).toArray
 | [],z,off,k=>rfl
 | v::c,z,off,k=>by
  rw [List.zipIdx_cons,List.foldl_cons];simp only [List.setIfInBounds_toArray];rw [vm c _ off (k+1),over]
  rfl
theorem qW {place:Nat→Option (Nat×Nat)}{places:List (Nat×Nat)} (hp:∀ i o,places[i]? = some o→place i=some o):
  ∀ (is:List Nat) (vs:List Value) (css:List (List Value)) (z out:List Value),tP vs css→is.length=vs.length→laid places z (is.zip css)=some out →
   Instr.fill place z.toArray (is.zip vs)=some out.toArray
 | [],[],_,z,out,_,_,h=>by simp [laid] at h; simp [Instr.fill,h]
 | [],_::_,_,_,_,_,hl,_=>by simp at hl
 | _::_,[],_,_,_,_,hl,_=>by simp at hl
 | i::is,v::vs,[],_,_,hc,_,_=>hc.elim
 | i::is,v::vs,c::css,z,out,⟨hv,hc⟩,hl,h=>by
  simp only [List.zip_cons_cons,laid] at h;cases hpl:places[i]? with
  | none=>simp [hpl] at h
  | some o=>
   obtain ⟨off,size⟩:=o;simp only [hpl] at h
   split at h
   ·rename_i hb
    simp only [Jn,Kn] at hb;have hsz:c.length=size:=JC hb.1;simp only [List.zip_cons_cons,Instr.fill,hp i _ hpl,hv];have h1:((c.toArray.size≠size || off+c.toArray.size > z.toArray.size:Bool))=false:=by
     simp [hsz]; rw [← hsz]; exact hb.2
    rw [Hh (by simp only [h1]; simp)]
    have h2:=vm c z off 0;have h3:c.toArray.zipIdx.foldl (fun cs (p:Value×Nat)=>cs.setIfInBounds (off+p.2) p.1) z.toArray=(over z off c).toArray:=by
     rw [← Array.foldl_toList];simpa using h2
    have ih:=qW hp is vs css (over z off c) out hc (by simpa using hl) h
    rw [← ih];exact HB (fun q=>Instr.fill place q (is.zip vs)) h3
   ·cases h
theorem mB {k m:Nat}{e:Int} (hd:k+m=e.toNat) (hb:decide ((k:Int)<e)=true):∃ m',m=m'+1∧k+1+m'=e.toNat∧k<e.toNat:=by
 have:=Hk hb;exact ⟨m-1,by omega,by omega,by omega⟩
theorem mA {k m:Nat}{e:Int} (hd:k+m=e.toNat) (hb:decide ((k:Int)<e)=false):m=0:=by
 have:=Hv hb;omega
theorem iB {e:Int} (h:e≤9223372036854775807):e.toNat≤maxLen:=by unfold maxLen; omega
theorem mH {α:Type}{xs:List α} (h:xs.length≤maxLen):(xs.length:Int)≤9223372036854775807:=by unfold maxLen at h; omega
section
variable {x:Cx}{ops:Array Oper}{Q:kF}{rest:List Oper}{H:Hp}{M M':List bR}{L L':Env}
variable {d:Nat}{ty:TypeId}{pos:String}{aft:Array Edge}{g:Option (Nat×Bool)}
theorem uI {N:Nat}{a:Act} (hs:Sl N L a) {ps:List (Nat×Operand)}{vs:List Value} (hv:tX L (ps.map (·.2))=some vs):
  (ps.toArray.map fun (p:Nat×Operand)=>(p.1,a.eval p.2))=((ps.map (·.1)).zip vs).toArray:=by
 have h:=hs.tX hv;subst h;clear hv;simp only [List.map_map,List.map_toArray]
 congr 1
 induction ps with
 | nil=>rfl
 | cons p ps ih=>simp only [KK,List.zip_cons_cons,Function.comp,ih]
theorem eD {T:TypeId}{ps:List (Nat×Operand)}{vs:List Value}{css:List (List Value)}{z:Value}{zs out:List Value}{fs:Array Field}{places:List (Nat×Nat)}
  (hg:gd ops L ⟨some d,.build T ps.toArray,ty,pos,aft,g⟩=some true) (hN:Nat.blt d x.N=true)
  (hv:tX L (ps.map (·.2))=some vs) (hc:tP vs css)
  (hz:∀ w,(zeroValue T).run x.P w=.ok z w) (hzs:z.cells=zs.toArray) (hT:∀ w,(underlying T).run x.P w=.ok (.struct fs) w)
  (hp:∀ w,(fs.mapM fun f=>do pure (f.offset,← sizeOf f.type):Sem (Array (Nat×Nat))).run x.P w=.ok places.toArray w)
  (ho:laid places zs ((ps.map (·.1)).zip css)=some out)
  (k:W x ops Q rest H M ((d,.agg out.toArray)::L)):
  W x ops Q (⟨some d,.build T ps.toArray,ty,pos,aft,g⟩::rest) H M L:=
 dX rfl hg hN (fun a w hs ht=>by
  have hl:(ps.map (·.1)).length=vs.length:=by rw [← hs.tX hv]; simp
  have hf:=qW (place:=fun i:Nat=>places[i]?) (places:=places) (fun _ _ h=>h) (ps.map (·.1)) vs css zs out hc hl ho;have hps:=uI hs hv;simp only [execOp,Instr.build,Hx,hz,Hr,hT,hzs];rw [hp];simp only [Hr];have e:(fun i:Nat=>places.toArray[i]?)=fun i:Nat=>places[i]? := by funext i; simp
  simp only [hps,e,hf,HL,Hr]) k
theorem dP {α:Type}[aF α] {T e:TypeId}{n:Nat}{ps:List (Nat×Operand)}{vs:List Value}{css:List (List Value)}{z:Value}{zs out:List Value}{places:List (Nat×Nat)}{ys:List α}
  (hg:gd ops L ⟨some d,.buildSlice T n ps.toArray,ty,pos,aft,g⟩=some true) (hN:Nat.blt d x.N=true)
  (hv:tX L (ps.map (·.2))=some vs) (hc:tP vs css)
  (hT:∀ w,(underlying T).run x.P w=.ok (.slice e) w) (hs:∀ w,(sizeOf e).run x.P w=.ok (aF.sz α) w) (hs0:Nat.blt 0 (aF.sz α)=true)
  (hz:∀ w,(zeroValue e).run x.P w=.ok z w) (hzs:(Array.range (n*aF.sz α)).map (z.cells[·%z.cells.size]!)=zs.toArray)
  (hpl:places=(List.range n).map fun i=>(i*aF.sz α,aF.sz α)) (hn:Nat.ble (n*aF.sz α) 16777216=true) (hnn:Nat.blt 0 n=true)
  (ho:laid places zs ((ps.map (·.1)).zip css)=some out) (hr:mC H out ys) (hyn:ys.length=n)
  (k:∀ b v H',v=.slice (some ⟨b,0,none⟩) n n→H.le H'→aI H' v ys→W x ops Q rest H' M ((d,v)::L)):
  W x ops Q (⟨some d,.buildSlice T n ps.toArray,ty,pos,aft,g⟩::rest) H M L:=by
 refine ot rfl hg hN fun a w hsl ht=>?_;have hl:(ps.map (·.1)).length=vs.length:=by rw [← hsl.tX hv]; simp
 have hs0':0<aF.sz α:=by simpa [IE] using hs0
 have hn':n*aF.sz α≤16777216:=by simpa [Kn] using hn
 have hnn':0<n:=by simpa [IE] using hnn
 have hpos:0<n*aF.sz α:=Nat.mul_pos hnn' hs0';have hf:=qW (place:=fun i=>some (i*aF.sz α,aF.sz α)) (places:=places) (fun i o h=>by
  rw [hpl,HZ] at h;cases hh:(List.range n)[i]? with
  | none=>rw [hh] at h; cases h
  | some j=>
   rw [hh] at h;have:j=i:=by
    have:=G6.1 hh;simpa using this.2.symm
   subst this;simpa using h) (ps.map (·.1)) vs css zs out hc hl ho
 have hps:=uI hsl hv;have hsz:out.length=n*aF.sz α:=by rw [hr.len,hyn]
 refine ⟨.slice (some ⟨w.heap.size,0,none⟩) n n,w.alloc (.cells out.toArray e),?_,H.add w.heap.size (.cells out.toArray e),M,(ht.alloc _).freeze.2,?_⟩
 ·have h1:¬ (2 ^ 24<n*aF.sz α):=by omega
  have h2:¬ (n*aF.sz α=0):=by omega
  simp only [execOp,Instr.buildSlice,Hx,hT,Hr,hs,gt_iff_lt,h1,h2,JL,hz,HL];simp only [hps];have hf':Instr.fill (fun i=>some (i*aF.sz α,aF.sz α)) ((Array.range (n*aF.sz α)).map (z.cells[·%z.cells.size]!)) ((List.map (fun x=>x.fst) ps).zip vs)=some out.toArray:=by
   rw [hzs]; exact hf
  simp only [hf',newRow,newObj,Hx,HL,Sem.run,Hr,World.alloc]
 ·refine k w.heap.size _ _ rfl (ht.alloc _).freeze.1 (.inr ⟨w.heap.size,0,n,out.toArray,e,(0,0),by rw [hyn],by omega,?_,Hp.rP _ _ _,by simp [hsz],?_⟩)
  ·unfold maxLen
   have:n≤n*aF.sz α:=Ku _ hs0';omega
  ·intro j el hel
   obtain ⟨c,q1,q2⟩:=(hr.mono (ht.alloc (.cells out.toArray e)).freeze.1).get j el hel;exact ⟨c,q1,fun i u hu=>by simpa using q2 i u hu⟩
end
structure Rw {α:Type}[aF α] (H:Hp) (v:Value) (xs:List Value) (l:List α):Prop where
 rd:mC H xs l
 sl:∃ a n c,v=.slice a n c
section
variable {α:Type}[aF α] {H H':Hp}{v:Value}{xs:List Value}{l:List α}
theorem Rw.mono (hle:H.le H') (h:Rw H v xs l):Rw H' v xs l:=⟨h.rd.mono hle,h.sl⟩
theorem Rw.one (h:Rw H v xs l):v.oneCell'=true:=by obtain ⟨a,n,c,rfl⟩:=h.sl; rfl
theorem Rw.cells (h:Rw H v xs l):v.cells=[v].toArray:=by obtain ⟨a,n,c,rfl⟩:=h.sl; rfl
theorem Rw.nil:Rw H (.slice none 0 0) [] ([]:List α):=⟨rfl,_,_,_,rfl⟩
theorem Rw.elem (h:Rw H v xs l) {k:Nat}{e:α} (he:l[k]? = some e):∃ c,aF.E H c e∧∀ j u,c[j]? = some u→xs[k*aF.sz α+j]? = some u:=h.rd.get k e he
theorem tG (vs:List Value):∀ (l:List Value) (k j:Nat),k+vs.length≤l.length→(over l k vs)[j]? = if k≤j∧j<k+vs.length then vs[j-k]? else l[j]? := by
 intro l k j h;rw [rp vs l k h,H6,Jv];simp only [HT,Ix (show k≤l.length by omega)]
 by_cases h1:j<k
 ·rw [Hl h1,Hh (by omega),It,Hl h1]
 ·rw [Hh h1,Jv]
  by_cases h2:j-k<vs.length
  ·rw [Hl h2,Hl (by omega)]
  ·rw [Hh h2,Hh (by omega),Ib]
   congr 1; omega
theorem Rw.put {c cs out:List Value}{k o:Nat}{e e2:α} (h:Rw H v xs l) (he:l[k]? = some e) (hc:aF.E H c e) (hg:∀ j u,c[j]? = some u→xs[k*aF.sz α+j]? = some u)
  (hb:Nat.ble (o+cs.length) c.length=true) (ho:over c o cs=out) (hE:aF.E H out e2):
  Rw H v (over xs (k*aF.sz α+o) cs) (l.set k e2)∧(l.set k e2)[k]? = some e2∧∀ j u,out[j]? = some u→(over xs (k*aF.sz α+o) cs)[k*aF.sz α+j]? = some u:=by
 have hk:k<l.length:=(G6.1 he).1;have hlen:=h.rd.len;have hcl:=aF.len hc;have hb':o+cs.length≤c.length:=by simpa [Kn] using hb
 have hkk:(k+1)*aF.sz α≤l.length*aF.sz α:=HD _ hk;rw [HI,Lo] at hkk;have rS:k*aF.sz α+o+cs.length≤xs.length:=by omega
 have key:over xs (k*aF.sz α+o) cs=xs.take (k*aF.sz α)++out++xs.drop ((k+1)*aF.sz α):=by
  apply Ji;intro j;rw [tG _ _ _ _ rS,H6,Jv];simp only [HT,Ix (show k*aF.sz α≤xs.length by omega)]
  have hol:out.length=aF.sz α:=by rw [← ho,lI,hcl]
  by_cases h1:j<k*aF.sz α
  ·rw [Hl h1,Hh (by omega),It,Hl h1]
  ·rw [Hh h1,Jv,hol]
   by_cases h2:j-k*aF.sz α<aF.sz α
   ·rw [Hl h2,← ho,tG _ _ _ _ hb']
    by_cases h3:k*aF.sz α+o≤j∧j<k*aF.sz α+o+cs.length
    ·rw [Hl h3,Hl (by omega)]; congr 1; omega
    ·rw [Hh h3,Hh (by omega)]
     have hj:j-k*aF.sz α<c.length:=by omega
     have:=hg (j-k*aF.sz α) _ (G9 hj);rw [G9 hj,← this]; congr 1; omega
   ·rw [Hh h2,Hh (by omega),Ib]
    congr 1; rw [HI]; omega
 refine ⟨⟨?_,h.sl⟩,by simp [hk],fun j u hu=>?_⟩
 ·rw [key]; exact h.rd.put hk hE
 ·have hj:j<out.length:=(G6.1 hu).1
  have hol:out.length=aF.sz α:=by rw [← ho,lI,hcl]
  rw [key,H6,HY (by simp; omega),IM (by simp; omega)]
  simp only [HT,Ix (show k*aF.sz α≤xs.length by omega)]
  rw [show k*aF.sz α+j-k*aF.sz α=j by omega]; exact hu
end
section
variable {x:Cx}{ops:Array Oper}{Q:kF}{rest:List Oper}{H:Hp}{M M':List bR}{L L':Env}
variable {d:Nat}{ty:TypeId}{pos:String}{aft:Array Edge}{g:Option (Nat×Bool)}
theorem vV {v:Value}{T:TypeId}{sz n i:Nat}{xs:List Value}{c:Value} (hm:bR.row v T sz n xs ∈ M) (hc:xs[i]? = some c):sO x H M ((Value.base v).add i) c:=by
 intro w ht;have hok:fN w T sz v n xs:=ht.ok _ hm;have hi:=(G6.1 hc).1;rcases hok.2 with ⟨rfl,h0⟩ | ⟨gb,off,cap,cur,rfl,hg,hnc,hcm,hcs,htake⟩
 ·exfalso
  have:=hok.1;subst h0;simp at this; subst this
  simp at hc
 ·rw [show Value.base (Value.slice (some ⟨gb,off,none⟩) n cap)=⟨gb,off,none⟩ from rfl,IC]
  refine L7 hg rfl ?_;rw [← htake,It] at hc
  split at hc
  ·rw [Ib] at hc; simpa using hc
  ·cases hc
theorem add_add (a:Addr) (i j:Nat):(a.add i).add j=a.add (i+j):=by
 unfold Addr.add
 by_cases h1:i=0 <;> by_cases h2:j=0 <;> simp [h1,h2,JT]
theorem q9 {v:Value}{T:TypeId}{sz n i:Nat}{xs cs:List Value} (hm:bR.row v T sz n xs ∈ M) (hc:∀ j u,cs[j]? = some u→xs[i+j]? = some u):s6 x H M ((Value.base v).add i) cs:=by
 intro j c hj;rw [add_add];exact vV hm (hc j c hj)
theorem row_one {v:Value}{T:TypeId}{sz n i o:Nat}{xs cs:List Value}{c:Value} (hm:bR.row v T sz n xs ∈ M) (hc:∀ j u,cs[j]? = some u→xs[i+j]? = some u) (hd:cs[o]? = some c):
  sO x H M (((Value.base v).add i).add o) c:=by
 rw [add_add]; exact vV hm (hc o c hd)
theorem cM {v:Value}{T:TypeId}{sz n i:Nat}{xs cs:List Value}{c:Value} (hm:bR.row v T sz n xs ∈ M) (hc:∀ j u,cs[j]? = some u→xs[i+j]? = some u) (hd:cs[0]? = some c):
  sO x H M ((Value.base v).add i) c:=vV hm (hc 0 c hd)
theorem l8 {v:Value}{T:TypeId}{sz n:Nat}{xs:List Value}{t e:TypeId}{y:Operand} (hm:bR.row v T sz n xs ∈ M) (hg:gd ops L ⟨some d,.call ⟨.builtin .len,#[y],#[t]⟩,ty,pos,aft,g⟩=some true) (hN:Nat.blt d x.N=true)
  (hT:∀ w,(underlying t).run x.P w=.ok (.slice e) w) (hy:ev L y=some v) (k:W x ops Q rest H M ((d,.int .i64 n)::L)):
  W x ops Q (⟨some d,.call ⟨.builtin .len,#[y],#[t]⟩,ty,pos,aft,g⟩::rest) H M L:=
 dX rfl hg hN (fun c w hs ht=>by
  have hok:fN w T sz v n xs:=ht.ok _ hm;rcases hok.2 with ⟨rfl,rfl⟩ | ⟨gb,off,cap,cur,rfl,_⟩ <;>
   simp [execOp,resolve,invoke,builtin,hs.ev hy,Builtin.len_,hT,goInt]) k
theorem bF {v:Value}{T:TypeId}{sz n:Nat}{xs:List Value}{t e:TypeId}{y z:Operand}{kk:IntKind}{i:Int} (hm:bR.row v T sz n xs ∈ M)
  (hg:gd ops L ⟨some d,.indexAddr t y z,ty,pos,aft,g⟩=some true) (hN:Nat.blt d x.N=true)
  (hT:∀ w,(underlying t).run x.P w=.ok (.slice e) w) (hs:∀ w,(sizeOf e).run x.P w=.ok sz w)
  (hy:ev L y=some v) (hz:ev L z=some (.int kk i)) (h0:0≤i) (h1:i.toNat<n)
  (k:W x ops Q rest H M ((d,.pointer (some ((Value.base v).add (i.toNat*sz))))::L)):
  W x ops Q (⟨some d,.indexAddr t y z,ty,pos,aft,g⟩::rest) H M L:=
 dX rfl hg hN (fun c w hsl ht=>by
  have h1':i<(n:Int):=by omega
  have hok:fN w T sz v n xs:=ht.ok _ hm;rcases hok.2 with ⟨rfl,rfl⟩ | ⟨gb,off,cap,cur,rfl,_⟩
  ·omega
  ·simp [execOp,hsl.ev hy,hsl.ev hz,Instr.indexAt,asIntOf,hT,hs,h0,h1',Value.base]) k
theorem rN {T E:TypeId}{m sz n i:Nat}{y z:Operand}{v u:Value}{ad:Addr}{xs cs:List Value} (hg:gd ops L ⟨none,.store T y z,ty,pos,aft,g⟩=some true)
  (hn:∀ w,(sizeOf T).run x.P w=.ok m w) (hy:ev L y=some (.pointer (some ad))) (had:ad=(Value.base v).add i) (hz:ev L z=some u) (hv:u.cells=cs.toArray) (hl:cs.length=m)
  (hb:i+cs.length≤xs.length) (hpos:Nat.blt 0 cs.length=true) (h1:∀ c ∈ cs,c.oneCell'=true)
  (k:W x ops Q rest H (.row v E sz n (over xs i cs)::M) L):
  W x ops Q (⟨none,.store T y z,ty,pos,aft,g⟩::rest) H (.row v E sz n xs::M) L:=
 yZ rfl hg (fun a w hs ht=>by
  subst had;have hok:fN w E sz v n xs:=ht.ok _ (He ..);have hpos':0<cs.length:=by simpa [IE] using hpos
  rcases hok.2 with ⟨rfl,rfl⟩ | ⟨gb,off,cap,cur,rfl,hgb,hnc,hcm,hcs,htake⟩
  ·have h0:=hok.1; rw [Jc] at h0; omega
  ·have hmul:n*sz≤cap*sz:=HD _ hnc
   have hxl:=hok.1;obtain ⟨w',hr,hh,hgr⟩:=gO (P:=x.P) gb (off+i) E cs 0 cur.toList w (by simpa using hgb) (by simp; omega) h1
   refine ⟨w',?_,H,_,ht.xG (r':=.row (.slice (some ⟨gb,off,none⟩) n cap) E sz n (over xs i cs)) hgr ?_ (fun c hc=>.inl hc),k⟩
   ·simp [execOp,hs.ev hy,hs.ev hz,Instr.storeAt,Instr.sureAddr,storeVar,hn,hl,hv,Value.base,IC,hr]
   ·refine ⟨by rw [lI]; exact hxl,.inr ⟨gb,off,cap,_,rfl,hh,hnc,hcm,by simpa [lI] using hcs,?_⟩⟩
    rw [J7,Jb];apply Ji;intro j;rw [It,Ib,tG _ _ _ _ (by simp; omega),tG _ _ _ _ hb,← htake,It,Ib]
    by_cases hj:j<n*sz
    ·simp only [Hl hj]
     by_cases h3:i≤j∧j<i+cs.length
     ·rw [Hl h3,Hl (by omega)]; congr 1; omega
     ·rw [Hh h3,Hh (by omega)]
    ·simp only [Hh hj]
     rw [Hh (by omega)])
end
section
variable {x:Cx}{ops:Array Oper}{Q:kF}{rest:List Oper}{H:Hp}{M M':List bR}{L L':Env}
variable {d:Nat}{ty:TypeId}{pos:String}{aft:Array Edge}{g:Option (Nat×Bool)}
theorem fN.shape {w:World}{T:TypeId}{sz n:Nat}{v:Value}{xs:List Value} (h:fN w T sz v n xs):∃ a n c,v=.slice a n c:=by
 rcases h.2 with ⟨rfl,_⟩ | ⟨gb,off,cap,cur,rfl,_⟩ <;> exact ⟨_,_,_,rfl⟩
theorem dF {α:Type}[aF α] {t e:TypeId}{bytes n:Nat}{z:Value}{y u:Operand}{v vu:Value}{xs:List Value}{l ys:List α}
  (hg:gd ops L ⟨some d,.call ⟨.builtin .append,#[y,u],#[t,t]⟩,ty,pos,aft,g⟩=some true) (hN:Nat.blt d x.N=true)
  (hT:x.P.underlying t=some (.slice e)) (hi:FJ x.P e (aF.sz α) bytes z) (hz:z.cells.size=aF.sz α) (hs:Nat.blt 0 (aF.sz α)=true) (hb0:Nat.blt 0 bytes=true)
  (hy:ev L y=some v) (hu:ev L u=some vu) (hx:Rw H v xs l) (hR:aI H vu ys) (hb:((l.length+ys.length)*bytes:Nat)≤140737488355328)
  (k:∀ v' xs',Rw H v' xs' (l++ys)→W x ops Q rest H (.row v' e (aF.sz α) (l++ys).length xs'::M) ((d,v')::L)):
  W x ops Q (⟨some d,.call ⟨.builtin .append,#[y,u],#[t,t]⟩,ty,pos,aft,g⟩::rest) H (.row v e (aF.sz α) n xs::M) L:=by
 refine BO hg hN hT hi hz hs hb0 hy hu hx.rd hR hb fun v' n' xs' hx'=>?_;intro a w hsl ht;have hok:fN w e (aF.sz α) v' n' xs':=ht.ok _ (He ..);have hn:n'=(l++ys).length:=by
  have h1:=hx'.len;rw [hok.1] at h1;exact Jo (by simpa [IE] using hs) h1
 subst hn;exact k v' xs' ⟨hx',hok.shape⟩ a w hsl ht
theorem St.newRow {α:Type}[aF α] {B:Nat}{w0 w:World}{cells:List Value}{e:TypeId}{l:List α} (ht:St B w0 H M w) (hr:mC H cells l) (hm:l.length≤maxLen):
  St B w0 H (.row (.slice (some ⟨w.heap.size,0,none⟩) l.length l.length) e (aF.sz α) l.length cells::M) (w.alloc (.cells cells.toArray e)):=by
 have h:=ht.alloc (.cells cells.toArray e);have hl:=hr.len;refine ⟨h.below,h.le,h.rS,?_,?_,h.nd⟩
 ·intro r hr'
  rcases Ik.1 hr' with rfl | hr'
  ·refine ⟨hl,.inr ⟨w.heap.size,0,l.length,cells.toArray,rfl,h.ok _ (He ..),HH _,hm,by simp only [Kr]; omega,?_⟩⟩
   rw [← hl,J7,Jg,I5]
  ·exact h.ok r (Ho _ hr')
 ·intro r hr'
  rcases Ik.1 hr' with rfl | hr'
  ·exact h.lo (.obj w.heap.size (.cells cells.toArray e)) (He ..)
  ·exact h.lo r (Ho _ hr')
theorem fC {α:Type}[aF α] {t e:TypeId}{bytes:Nat}{z:Value}{zs:List Value}{ze:α}{y y2:Operand}{n:Int}
  (hg:gd ops L ⟨some d,.makeSlice t y y2,ty,pos,aft,g⟩=some true) (hN:Nat.blt d x.N=true)
  (hT:x.P.underlying t=some (.slice e)) (hi:FJ x.P e (aF.sz α) bytes z) (hz:z.cells=zs.toArray) (hs:Nat.blt 0 (aF.sz α)=true) (hb0:Nat.blt 0 bytes=true)
  (hE:aF.E H zs ze) (hy:ev L y=some (.int .i64 n)) (hy2:ev L y2=some (.int .i64 n)) (h0:0≤n) (hb:n*bytes≤140737488355328)
  (k:∀ v' xs',Rw H v' xs' (List.replicate n.toNat ze)→W x ops Q rest H (.row v' e (aF.sz α) (List.replicate n.toNat ze).length xs'::M) ((d,v')::L)):
  W x ops Q (⟨some d,.makeSlice t y y2,ty,pos,aft,g⟩::rest) H M L:=by
 obtain ⟨i,h1,h2,h3,h4⟩:=hi.ex;obtain ⟨m,rfl⟩:∃ m:Nat,n=m:=⟨n.toNat,by omega⟩
 have hs':0<aF.sz α:=by simpa [IE] using hs
 have hb0':0<bytes:=by simpa [IE] using hb0
 have hcast:((m*bytes:Nat):Int)=(m:Int)*(bytes:Int):=Ip m bytes;have hbn:m*bytes≤140737488355328:=by omega
 have hm:m≤m*bytes:=Ku _ hb0';have hzl:zs.length=aF.sz α:=aF.len hE;have hmax:m≤maxLen:=by unfold maxLen; omega
 have hw:i64.wrap (m:Int)=m:=rT (by omega) (by omega)
 simp only [Ha] at k;have hrd:∀ q,mC H ((List.range (q*aF.sz α)).map (zs.toArray[·%zs.length]!)) (List.replicate q ze):=by
  intro q
  induction q with
  | zero=>rw [Jc]; exact rfl
  | succ q ih=>
   have hsplit:(List.range ((q+1)*aF.sz α)).map (zs.toArray[·%zs.length]!)=zs++(List.range (q*aF.sz α)).map (zs.toArray[·%zs.length]!):=by
    apply Ji;intro j;rw [Jv,HZ]
    by_cases hj:j<zs.length
    ·rw [Hl hj,JB (by rw [HI]; omega)]
     simp [Jr hj,hj]
    ·rw [Hh hj,HZ]
     by_cases hj2:j<(q+1)*aF.sz α
     ·rw [JB hj2,JB (by rw [HI] at hj2; omega)]
      simp only [I7];rw [← Nat.mod_eq_sub_mod (by omega)]
     ·rw [Iv (by simp; omega),Iv (by rw [HI] at hj2; simp; omega)]
   rw [hsplit];exact ⟨zs,_,rfl,hE,ih⟩
 have hlr:(List.replicate m ze).length=m:=IS;refine ot rfl hg hN fun a w hsl ht=>?_;refine ⟨.slice (some ⟨w.heap.size,0,none⟩) (List.replicate m ze).length (List.replicate m ze).length,_,?_,H,_,St.newRow (e:=e) ht (hrd m) (by rw [hlr]; exact hmax),k _ _ ⟨hrd m,_,_,_,rfl⟩⟩
 have e1:¬ ((i.bytes:Int)*(m:Int) > 2 ^ 48):=by
  rw [h3,Int.mul_comm];omega
 have e3:¬ (m*i.bytes > roomBytes):=by rw [h3]; unfold roomBytes; omega
 have e4:¬ ((m:Int)<0):=by omega
 have hti:∀ w,(typeInfo e).run x.P w=.ok i w:=fun w=>by simp [typeInfo,h1]
 have hsz:∀ w,(sizeOf e).run x.P w=.ok (aF.sz α) w:=fun w=>by simp [sizeOf,hti,h2]
 have hzv:∀ w,(zeroValue e).run x.P w=.ok z w:=fun w=>by simp [zeroValue,hti,h4]
 have hun:∀ w,(underlying t).run x.P w=.ok (.slice e) w:=fun w=>I_ hT w;have hnr:∀ c w,(newRow e c).run x.P w=.ok ⟨w.heap.size,0,none⟩ (w.alloc (.cells c e)):=fun c w=>by
  simp only [newRow,newObj,Hx,HL,Sem.run,Hr,World.alloc]
 rw [hlr]
 by_cases hm0:m*aF.sz α=0
 ·have:m=0:=by
   rcases Nat.mul_eq_zero.1 hm0 with h | h <;> omega
  subst this;simp only [execOp,hsl.ev hy,hsl.ev hy2,Instr.makeSlice,Hx,hun,Hr,asInt,asIntOf,HL,hti,hw,e1,e4,Mf,Bool.or_self,Jk,JL,Ha,askRoom,hsz,hm0,Lp,hnr,gt_iff_lt,Int.lt_irrefl,Jc,Nat.not_lt_zero];simp [Array.range]
 ·have e6:(Array.range (m*aF.sz α)).map (fun j=>zs.toArray[j%zs.toArray.size]!)=((List.range (m*aF.sz α)).map (zs.toArray[·%zs.length]!)).toArray:=by
   apply Array.ext';simp
  simp only [execOp,hsl.ev hy,hsl.ev hy2,Instr.makeSlice,Hx,hun,Hr,asInt,asIntOf,HL,hti,hw,e1,e4,Mf,Bool.or_self,Jk,JL,Ha,askRoom,e3,hsz,hm0,hzv,hz,e6,hnr,gt_iff_lt,Int.lt_irrefl]
theorem run_sliceBound {P:Program}{w:World}{kk:IntKind}{i:Int}{y:Nat}{c:BoundsCode} (h0:0≤i) (h1:i≤y):(Instr.sliceBound (.int kk i) y c).run P w=.ok i.toNat w:=by
 simp [Instr.sliceBound,asIntOf,h0,h1]
def Bd (o:Option Value) (dflt top r:Nat):Prop:=(o=none∧r=dflt)∨∃ kk i,o=some (.int kk i)∧0≤i∧i≤top∧i.toNat=r
theorem uC {P:Program}{w:World}{len cap:Nat}{lo hi mx:Option Value}{l h m:Nat}
  (hmh:mx=none∨∃ v,hi=some v) (hm:Bd mx cap cap m) (hh:Bd hi len m h) (hl:Bd lo 0 h l):
  (Instr.sliceBounds true len cap lo hi mx).run P w=.ok (l,h,m) w:=by
 rcases hm with ⟨rfl,rfl⟩ | ⟨km,im,rfl,m0,m1,rfl⟩
 ·rcases hh with ⟨rfl,rfl⟩ | ⟨kh,ih,rfl,h0,h1,rfl⟩
  ·rcases hl with ⟨rfl,rfl⟩ | ⟨kl,il,rfl,l0,l1,rfl⟩
   ·simp only [Instr.sliceBounds,Hx,HL,Hr]
   ·simp only [Instr.sliceBounds,Hx,HL,Hr,run_sliceBound l0 l1]
  ·rcases hl with ⟨rfl,rfl⟩ | ⟨kl,il,rfl,l0,l1,rfl⟩
   ·simp only [Instr.sliceBounds,Hx,HL,Hr,run_sliceBound h0 h1]
   ·simp only [Instr.sliceBounds,Hx,HL,Hr,run_sliceBound h0 h1,run_sliceBound l0 l1]
 ·rcases hmh with hmh | ⟨v,rfl⟩
  ·cases hmh
  ·rcases hh with ⟨hh,_⟩ | ⟨kh,ih,hh,h0,h1,rfl⟩
   ·cases hh
   ·obtain rfl:=G7 hh
    rcases hl with ⟨rfl,rfl⟩ | ⟨kl,il,rfl,l0,l1,rfl⟩
    ·simp only [Instr.sliceBounds,Hx,HL,Hr,run_sliceBound m0 m1,run_sliceBound h0 h1]
    ·simp only [Instr.sliceBounds,Hx,HL,Hr,run_sliceBound m0 m1,run_sliceBound h0 h1,run_sliceBound l0 l1]
def zZ (L:Env) (o:Option Operand) (dflt top r:Nat):Prop:=(o=none∧r=dflt)∨∃ o' kk i,o=some o'∧ev L o'=some (.int kk i)∧0≤i∧i≤top∧i.toNat=r
theorem zZ.bd {N:Nat}{a:Act}{o:Option Operand}{dflt top r:Nat} (hs:Sl N L a) (h:zZ L o dflt top r):Bd (o.map a.eval) dflt top r:=by
 rcases h with ⟨rfl,rfl⟩ | ⟨o',kk,i,rfl,he,h0,h1,rfl⟩
 ·exact .inl ⟨rfl,rfl⟩
 ·exact .inr ⟨kk,i,by simp [hs.ev he],h0,h1,rfl⟩
theorem pb {P:Program}{w:World}{t e:TypeId}{sz len cap:Nat}{a:Option Addr}{lo hi mx:Option Value}{l h m:Nat} (hT:∀ w,(underlying t).run P w=.ok (.slice e) w) (hs:∀ w,(sizeOf e).run P w=.ok sz w)
  (hmh:mx=none∨∃ v,hi=some v) (hm:Bd mx cap cap m) (hh:Bd hi len m h) (hl:Bd lo 0 h l):
  (Instr.sliceAt t (.slice a len cap) lo hi mx).run P w=.ok (.slice (if m=l then a else a.map (·.add (l*sz))) (h-l) (m-l)) w:=by
 simp only [Instr.sliceAt,Hx,hT,Hr,Instr.slice,uC hmh hm hh hl,hs,HL]
theorem C0 {a:Act}{mx hi:Option Operand} (h:mx=none∨∃ o,hi=some o):mx.map a.eval=none∨∃ v,hi.map a.eval=some v:=by
 rcases h with rfl | ⟨o,rfl⟩
 ·exact .inl rfl
 ·exact .inr ⟨_,rfl⟩
theorem qT {α:Type}[aF α] {t e:TypeId}{y:Operand}{lo hi mx:Option Operand}{v:Value}{xs:List α}{l h:Nat} (hg:gd ops L ⟨some d,.slice t y lo hi mx,ty,pos,aft,g⟩=some true) (hN:Nat.blt d x.N=true)
  (hT:∀ w,(underlying t).run x.P w=.ok (.slice e) w) (hs:∀ w,(sizeOf e).run x.P w=.ok (aF.sz α) w)
  (hy:ev L y=some v) (hR:aI H v xs) (hlh:l≤h) (hhx:h≤xs.length) (hmh:mx=none∨∃ o,hi=some o)
  (hm:∀ cap,h≤cap→zZ L mx cap cap (if mx=none then cap else h)) (hh:∀ m,h≤m→zZ L hi xs.length m h) (hl:zZ L lo 0 h l)
  (k:∀ v',aI H v' ((xs.drop l).take (h-l))→(mx≠none→Value.l9 v'=h-l)→W x ops Q rest H M ((d,v')::L)):
  W x ops Q (⟨some d,.slice t y lo hi mx,ty,pos,aft,g⟩::rest) H M L:=by
 have hlen:((xs.drop l).take (h-l)).length=h-l:=by simp; omega
 rcases hR with ⟨⟨a0,rfl⟩,rfl⟩ | ⟨b,off,cap,arr,T,fz,rfl,h2,h3,h4,h5,h6⟩
 ·have hl0:l=0:=by simp at hhx; omega
  have hh0:h=0:=by simp at hhx; omega
  subst hl0; subst hh0
  have hif:(if mx=none then 0 else 0)=0:=by split <;> rfl
  refine dX (v:=.slice a0 0 0) rfl hg hN (fun c w hsl ht=>?_) (k _ (.inl ⟨⟨_,rfl⟩,by simp⟩) (fun _=>rfl))
  have hm':=(hm 0 (HH _)).bd hsl;rw [hif] at hm';have hr:=pb (P:=x.P) (w:=w) (len:=0) (cap:=0) (a:=a0) hT hs (C0 hmh) hm' ((hh 0 (HH _)).bd hsl) (hl.bd hsl);simp only [IT,Lp] at hr;simp only [execOp,hsl.ev hy,Hx,hr,Hr,HL]
 ·have hmc:h≤(if mx=none then cap else h)∧(if mx=none then cap else h)≤cap:=by split <;> omega
  generalize hmm:(if mx=none then cap else h)=m at hmc
  refine dX (v:=.slice (if m=l then some ⟨b,off,none⟩ else some ((⟨b,off,none⟩:Addr).add (l*aF.sz α))) (h-l) (m-l)) rfl hg hN (fun c w hsl ht=>?_) (k _ ?_ ?_)
  ·have hm':=(hm cap (by omega)).bd hsl
   rw [hmm] at hm';simp only [execOp,hsl.ev hy,Hx,pb hT hs (C0 hmh) hm' ((hh m hmc.1).bd hsl) (hl.bd hsl),Hr,HL]
   split <;> rfl
  ·by_cases hml:m=l
   ·have:h-l=0:=by omega
    have e0:m-l=0:=by omega
    rw [Hl hml,this,e0];exact .inl ⟨⟨_,rfl⟩,by simp⟩
   ·rw [Hh hml,IC]
    have hmul:l*aF.sz α+(m-l)*aF.sz α≤cap*aF.sz α:=by
     rw [← HI]; exact HD _ (by omega)
    refine .inr ⟨b,off+l*aF.sz α,m-l,arr,T,fz,by rw [hlen],by omega,by omega,h4,by omega,fun j el hel=>?_⟩
    rw [It] at hel
    split at hel
    ·rw [Ib] at hel
     obtain ⟨cs,q1,q2⟩:=h6 (l+j) el hel;refine ⟨cs,q1,fun i c hc=>?_⟩;rw [show off+l*aF.sz α+j*aF.sz α+i=off+(l+j)*aF.sz α+i by rw [HI]; omega]
     exact q2 i c hc
    ·cases hel
  ·intro hne
   rw [Hh hne] at hmm;subst hmm; rfl
theorem A1 {α:Type}[aF α] {t e T:TypeId}{n:Nat}{y:Operand}{lo hi:Option Operand}{v:Value}{cs:List Value}{xs:List α}{l h:Nat} (hg:gd ops L ⟨some d,.slice t y lo hi none,ty,pos,aft,g⟩=some true) (hN:Nat.blt d x.N=true)
  (hT:∀ w,(underlying t).run x.P w=.ok (.slice e) w) (hs:∀ w,(sizeOf e).run x.P w=.ok (aF.sz α) w) (hs0:Nat.blt 0 (aF.sz α)=true)
  (hy:ev L y=some v) (hR:Rw H v cs xs) (hlh:l≤h) (hhx:h≤xs.length)
  (hh:∀ m,h≤m→zZ L hi xs.length m h) (hl:zZ L lo 0 h l)
  (k:∀ v' cs',Rw H v' cs' ((xs.drop l).take (h-l))→Value.l9 v'=Value.l9 v-l→W x ops Q rest H (.row v' T (aF.sz α) ((xs.drop l).take (h-l)).length cs'::M) ((d,v')::L)):
  W x ops Q (⟨some d,.slice t y lo hi none,ty,pos,aft,g⟩::rest) H (.row v T (aF.sz α) n cs::M) L:=by
 have hlen:((xs.drop l).take (h-l)).length=h-l:=by simp; omega
 refine ot rfl hg hN fun a w hsl ht=>?_;have hok:fN w T (aF.sz α) v n cs:=ht.ok _ (He ..);have hn:n=xs.length:=by
  have h1:=hR.rd.len;rw [hok.1] at h1;exact Jo (by simpa [IE] using hs0) h1
 subst hn;have hrd:=(hR.rd.split h).1.split l;have hrd2:mC H ((cs.take (h*aF.sz α)).drop (l*aF.sz α)) ((xs.drop l).take (h-l)):=by
  have:=hrd.2
  rwa [JU (l:=xs)] at this
 have hcl:=hrd2.len;rcases hok.2 with ⟨rfl,h0⟩ | ⟨gb,off,cap,cur,rfl,hgb,hnc,hcm,hcs,htake⟩
 ·have hl0:l=0:=by omega
  have hh0:h=0:=by omega
  subst hl0; subst hh0
  refine ⟨.slice none 0 0,w,?_,H,_,?_,k _ [] (by simpa using (Rw.nil:Rw H (.slice none 0 0) [] ([]:List α))) rfl⟩
  ·have hh':=(hh 0 (HH _)).bd hsl
   rw [h0] at hh';have hr:=pb (P:=x.P) (w:=w) (len:=0) (cap:=0) (a:=none) (mx:=none) hT hs (.inl rfl) (.inl ⟨rfl,rfl⟩) hh' (hl.bd hsl);simp only [IT,Lp] at hr;simp only [execOp,hsl.ev hy,Hx,K3,hr,Hr,HL]
  ·have:=ht.tail.vI T (aF.sz α)
   simpa using this
 ·refine ⟨.slice (if cap=l then some ⟨gb,off,none⟩ else some ((⟨gb,off,none⟩:Addr).add (l*aF.sz α))) (h-l) (cap-l),w,?_,H,_,?_,k _ _ ⟨hrd2,_,_,_,rfl⟩ rfl⟩
  ·simp only [execOp,hsl.ev hy,Hx,pb (mx:=none) (m:=cap) hT hs (.inl rfl) (.inl ⟨rfl,rfl⟩) ((hh cap (by omega)).bd hsl) (hl.bd hsl),K3,Hr,HL]
   split <;> rfl
  ·have hgr:w.grownBy w (bR.pW (.row (.slice (some ⟨gb,off,none⟩) xs.length cap) T (aF.sz α) xs.length cs)):=⟨rfl,rfl,rfl,HH _,fun _ _ _=>rfl⟩
   rw [hlen];have hmul:l*aF.sz α+(cap-l)*aF.sz α=cap*aF.sz α:=by rw [← HI]; congr 1; omega
   have hmul2:h*aF.sz α=l*aF.sz α+(h-l)*aF.sz α:=by rw [← HI]; congr 1; omega
   have hmul3:h*aF.sz α≤xs.length*aF.sz α:=HD _ hhx;have hxl:cs.length=xs.length*aF.sz α:=hok.1
   by_cases hcl2:cap=l
   ·have e1:h-l=0:=by omega
    have e2:cap-l=0:=by omega
    rw [Hl hcl2,e1,e2];have e3:(cs.take (h*aF.sz α)).drop (l*aF.sz α)=[]:=by
     apply H7; rw [hcl,hlen,e1,Jc]
    rw [e3];exact ht.xG (r':=.row (.slice (some ⟨gb,off,none⟩) 0 0) T (aF.sz α) 0 []) hgr ⟨by simp,.inr ⟨gb,off,0,cur,rfl,hgb,HH _,by unfold maxLen; omega,by omega,by simp⟩⟩ (fun c hc=>.inl hc)
   ·rw [Hh hcl2,IC]
    refine ht.xG (r':=.row (.slice (some ⟨gb,off+l*aF.sz α,none⟩) (h-l) (cap-l)) T (aF.sz α) (h-l) _) hgr ⟨?_,.inr ⟨gb,off+l*aF.sz α,cap-l,cur,rfl,hgb,by omega,by omega,by omega,?_⟩⟩ (fun c hc=>.inl hc)
    ·rw [hcl,hlen]
    ·rw [← htake,Le,Ix hmul3,JU,Jt]
     congr 1; omega
theorem u4 {α:Type}[aF α] {t e T:TypeId}{n:Nat}{y:Operand}{lo hi:Option Operand}{v:Value}{cs:List Value}{xs:List α}{l h:Nat} (hg:gd ops L ⟨some d,.slice t y lo hi none,ty,pos,aft,g⟩=some true) (hN:Nat.blt d x.N=true)
  (hT:∀ w,(underlying t).run x.P w=.ok (.slice e) w) (hs:∀ w,(sizeOf e).run x.P w=.ok (aF.sz α) w) (hs0:Nat.blt 0 (aF.sz α)=true)
  (hy:ev L y=some v) (hR:Rw H v cs xs) (hlh:l≤h) (hhx:h≤xs.length)
  (hh:∀ m,h≤m→zZ L hi xs.length m h) (hl:zZ L lo 0 h l)
  (k:∀ v' cs',Rw H v' cs' ((xs.drop l).take (h-l))→W x ops Q rest H (.row v' T (aF.sz α) ((xs.drop l).take (h-l)).length cs'::M) ((d,v')::L)):
  W x ops Q (⟨some d,.slice t y lo hi none,ty,pos,aft,g⟩::rest) H (.row v T (aF.sz α) n cs::M) L:=
 A1 hg hN hT hs hs0 hy hR hlh hhx hh hl (fun v' cs' h _=>k v' cs' h)
end
def nr {α:Type} (xs:List α) (l h:Nat):List α:=(xs.drop l).take (h-l)
theorem AP {α:Type} (xs:List α) (l h:Nat):(nr xs l h).length=min (h-l) (xs.length-l):=by simp [nr]
theorem Rw.room {α:Type}[aF α] {H:Hp}{v:Value}{xs:List Value}{l:List α} (h:Rw H v xs l) {k:Nat}{e:α} (he:l[k]? = some e) {o m:Nat} (hb:Nat.ble (o+m) (aF.sz α)=true):k*aF.sz α+o+m≤xs.length:=by
 have hk:k<l.length:=(G6.1 he).1;have hkk:(k+1)*aF.sz α≤l.length*aF.sz α:=HD _ hk;have hb':o+m≤aF.sz α:=by simpa [Kn] using hb
 rw [h.rd.len];rw [HI,Lo] at hkk;omega
theorem eO (a:Addr) (i:Nat):a.add i=a.add (i+0):=rfl
theorem Di (a:Addr) (i o:Nat):(a.add i).add o=a.add (i+o):=add_add a i o
section
variable {x:Cx}{ops:Array Oper}{Q:kF}{rest:List Oper}{H:Hp}{M M':List bR}{L L':Env}
variable {d:Nat}{ty:TypeId}{pos:String}{aft:Array Edge}{g:Option (Nat×Bool)}
theorem AZ {α : Type} [aF α] {t e : TypeId} {bytes : Nat} {z : Value} {y u : Operand} {v vu : Value} {l ys : List α}
    (hg : gd ops L ⟨some d, .call ⟨.builtin .append, #[y, u], #[t, t]⟩, ty, pos, aft, g⟩ = some true) (hN : Nat.blt d x.N = true)
    (hT : x.P.underlying t = some (.slice e)) (hi : FJ x.P e (aF.sz α) bytes z) (hz : z.cells.size = aF.sz α) (hs : Nat.blt 0 (aF.sz α) = true) (hb0 : Nat.blt 0 bytes = true)
    (hy : ev L y = some v) (hu : ev L u = some vu) (hx : aI H v l) (hc : Value.l9 v = l.length) (hR : aI H vu ys) (hpos : Nat.blt 0 ys.length = true) (hb : ((l.length + ys.length) * bytes : Nat) ≤ 140737488355328)
    (k : ∀ v' xs', Rw H v' xs' (l ++ ys) → W x ops Q rest H (.row v' e (aF.sz α) (l ++ ys).length xs' :: M) ((d, v') :: L)) :
    W x ops Q (⟨some d, .call ⟨.builtin .append, #[y, u], #[t, t]⟩, ty, pos, aft, g⟩ :: rest) H M L := by
  obtain ⟨i, h1, h2, h3, h4⟩ := hi.ex;have hs' : 0 < aF.sz α := by simpa [IE] using hs
  have hb0' : 0 < bytes := by simpa [IE] using hb0
  have hpos' : 0 < ys.length := by simpa [IE] using hpos
  have hmax : l.length + ys.length ≤ maxLen := by
    have : l.length + ys.length ≤ (l.length + ys.length) * bytes := Ku _ hb0';unfold maxLen; omega
  have hsmall : l.length + ys.length ≤ 9223372036854775807 := by unfold maxLen at hmax; omega
  refine ot rfl hg hN fun a w hsl ht => ?_;obtain ⟨cs, hcs, hcase⟩ := hx.flat;obtain ⟨ds, hds, hcase2⟩ := hR.flat;rcases hcase2 with ⟨⟨ea, rfl⟩, rfl⟩ | ⟨hd2, b2, off2, c2, rfl⟩
  · simp at hpos'
  have hnews : ∀ j u, ds[j]? = some u → w.cell? ((⟨b2, off2, none⟩ : Addr).add j) = some u := fun j u hu => ((hd2 j u hu).at (x := x) (M := M)) w ht;have hdl := hds.len;have hge := Mp w (l.length + ys.length);have mk : ∀ (ql : Nat), mC H (cs ++ ds) (l ++ ys) → fN (w.drew.alloc (.cells (cs.toArray ++ ds.toArray ++ Builtin.zeroCells z.cells (grownCap w (l.length + ys.length) ql e - (l.length + ys.length))) e)) e (aF.sz α)
        (.slice (some ⟨w.heap.size, 0, none⟩) (l.length + ys.length) (grownCap w (l.length + ys.length) ql e)) (l.length + ys.length) (cs ++ ds) := by
    intro ql hrd;have hge := Mp w (l.length + ys.length) ql e;have hcm : grownCap w (l.length + ys.length) ql e ≤ maxLen := Lz w (l.length + ys.length) ql e hmax;have hlen : (cs ++ ds).length = (l.length + ys.length) * aF.sz α := by rw [hrd.len, HQ]
    refine ⟨hlen, .inr ⟨w.heap.size, 0, _, _, rfl, LJ w.drew _, hge, hcm, ?_, ?_⟩⟩
    · have hlen' : cs.length + ds.length = (l.length + ys.length) * aF.sz α := by rw [← HQ]; exact hlen
      simp only [Array.size_append, Kr, size_zeroCells, hz, H_];rw [hlen', ← HI];rw [show l.length + ys.length + (grownCap w (l.length + ys.length) ql e - (l.length + ys.length)) = grownCap w (l.length + ys.length) ql e from by omega]
      exact HH _
    · simp only [Jg, Mh, H6]
      rw [← H6, ← hlen];exact KS
  have fin : ∀ (ql : Nat), mC H (cs ++ ds) (l ++ ys) → (Builtin.append_ #[t, t] ty #[v, .slice (some ⟨b2, off2, none⟩) ys.length c2]).run x.P w = .ok (.slice (some ⟨w.heap.size, 0, none⟩) (l.length + ys.length) (grownCap w (l.length + ys.length) ql e))
        (w.drew.alloc (.cells (cs.toArray ++ ds.toArray ++ Builtin.zeroCells z.cells (grownCap w (l.length + ys.length) ql e - (l.length + ys.length))) e)) →
      ∃ v' w', (execOp a.eval ⟨some d, .call ⟨.builtin .append, #[y, u], #[t, t]⟩, ty, pos, aft, g⟩).run x.P w = .ok (.value v') w' ∧ ∃ H' M', St x.B x.w0 H' M' w' ∧ W x ops Q rest H' M' ((d, v') :: L) := by
    intro ql hrd hr;have hown := mk ql hrd;refine ⟨_, (w.drew.alloc (.cells (cs.toArray ++ ds.toArray ++ Builtin.zeroCells z.cells (grownCap w (l.length + ys.length) ql e - (l.length + ys.length))) e)), ?_, H, .row _ e (aF.sz α) (l ++ ys).length (cs ++ ds) :: M, ht.add (r' := .row (.slice (some ⟨w.heap.size, 0, none⟩) (l.length + ys.length) (grownCap w (l.length + ys.length) ql e)) e (aF.sz α) (l ++ ys).length (cs ++ ds)) ?_ ?_ ?_, k _ _ ⟨hrd, _, _, _, rfl⟩⟩
    · simp [execOp, resolve, invoke, builtin, hsl.ev hy, hsl.ev hu, hr]
    · exact ⟨rfl, rfl, rfl, by simp, fun k hk _ => heap_alloc_old w.drew _ (h := hk)⟩
    · show fN _ e (aF.sz α) _ (l ++ ys).length (cs ++ ds)
      rw [HQ]; exact hown
    · intro b hb
      simp only [bR.pW, Value.ownBlock, H9] at hb;omega
  rcases hcase with ⟨⟨ea, rfl⟩, rfl⟩ | ⟨hc1, b1, off1, c1, rfl⟩
  · have hcs' : cs = [] := hcs
    subst hcs';have hl0 : ([] : List α).length + ys.length = ys.length := by simp
    cases ea with
    | none =>
      have hr := run_append_nil (P := x.P) w t ty e i z hT h1 h4 ⟨b2, off2, none⟩ ys.length c2 ds (by rw [h2]; exact hdl) hnews (by omega) (by rw [hl0] at hsmall; omega) (by have hb' := hb; rw [hl0] at hb'; rw [h3]; omega)
      refine fin 0 (hcs.app hds) ?_;simp only [hl0];simpa using hr
    | some ea =>
      have hr := run_append_grow (P := x.P) w t ty e i z hT h1 h4 ea 0 0 [] (by simp) (by simp) ⟨b2, off2, none⟩ ys.length c2 ds (by rw [h2]; exact hdl) hnews (by omega) (by rw [hl0] at hsmall; omega) (Mo (by omega) (by rw [h3]; simpa using hb))
      refine fin 0 (hcs.app hds) ?_;simpa using hr
  · have hc' : c1 = l.length := hc
    subst hc';have hr := run_append_grow (P := x.P) w t ty e i z hT h1 h4 ⟨b1, off1, none⟩ l.length l.length cs (by rw [h2]; exact hcs.len) (fun j u hu => ((hc1 j u hu).at (x := x) (M := M)) w ht) ⟨b2, off2, none⟩ ys.length c2 ds (by rw [h2]; exact hdl) hnews (by omega) (by omega) (Mo (by omega) (by rw [h3]; exact hb))
    exact fin l.length (hcs.app hds) hr
theorem oW (α:Type) [aF α] {T e:TypeId}
  (hg:gd ops L ⟨some d,.buildSlice T 0 #[],ty,pos,aft,g⟩=some true) (hN:Nat.blt d x.N=true)
  (hT:∀ w,(underlying T).run x.P w=.ok (.slice e) w) (hs:∀ w,(sizeOf e).run x.P w=.ok (aF.sz α) w)
  (k:∀ v' xs',Rw H v' xs' ([]:List α)→W x ops Q rest H (.row v' e (aF.sz α) ([]:List α).length xs'::M) ((d,v')::L)):
  W x ops Q (⟨some d,.buildSlice T 0 #[],ty,pos,aft,g⟩::rest) H M L:=by
 refine ot rfl hg hN fun a w hsl ht=>?_;have hnr:∀ c w,(newRow e c).run x.P w=.ok ⟨w.heap.size,0,none⟩ (w.alloc (.cells c e)):=fun c w=>by
  simp only [newRow,newObj,Hx,HL,Sem.run,Hr,World.alloc]
 refine ⟨.slice (some ⟨w.heap.size,0,none⟩) 0 0,_,?_,H,_,St.newRow (α:=α) (cells:=[]) (l:=[]) (e:=e) ht rfl (by unfold maxLen; simp),k _ _ ⟨rfl,_,_,_,rfl⟩⟩
 simp only [execOp,Instr.buildSlice,Hx,hT,hs,Hr,Jc,Nat.not_lt_zero,gt_iff_lt,JL,Lp,HL];simp [Instr.fill,hnr,Array.range]
end
def gL (s:ByteArray):List U8:=s.data.toList.map fun b=>⟨b.toNat⟩
section
variable {x:Cx}{ops:Array Oper}{Q:kF}{rest:List Oper}{H:Hp}{M M':List bR}{L L':Env}
variable {d:Nat}{ty:TypeId}{pos:String}{aft:Array Edge}{g:Option (Nat×Bool)}
def oz (s:ByteArray) (cap:Nat):Array Value:=s.data.map (fun b:UInt8=>Value.int .u8 b.toNat)++Array.replicate (cap-s.size) (Value.int .u8 0)
theorem xf (w:World) (c:Array Value) (e:TypeId):(w.alloc (.cells c e)).freeze ⟨w.heap.size,c.size,none⟩ 1=w.alloc (.cells c e (c.size,c.size+1)):=by
 have key:∀ (f:Obj→Obj),f (.cells c e)=.cells c e (c.size,c.size+1)→(w.heap.push (.cells c e)).modify w.heap.size f=w.heap.push (.cells c e (c.size,c.size+1)):=by
  intro f hf;apply Array.ext_getElem?;intro i;rw [L1,Array.getElem?_push,Array.getElem?_push]
  by_cases h:w.heap.size=i
  ·subst h; simp [hf]
  ·rw [Hh h,Hh (fun q=>h q.symm),Hh (fun q=>h q.symm)]
 unfold World.freeze;rw [Hh (by omega)]
 show ({ w with heap:=(w.heap.push (.cells c e)).modify w.heap.size _ }:World)={ w with heap:=w.heap.push (.cells c e (c.size,c.size+1)) }
 rw [key _ (by simp)]
theorem sR (s:ByteArray):(gL s).length=s.size:=by unfold gL; rw [JN,Array.length_toList]; rfl
theorem tL {P:Program}{w:World}{e:TypeId}{s:ByteArray}:
  (Conv.stringToBytes e s).run P w=.ok (.slice (some ⟨w.heap.size,0,none⟩) s.size (grownCap w s.size 0 e))
   (w.drew.alloc (.cells (oz s (grownCap w s.size 0 e)) e ((oz s (grownCap w s.size 0 e)).size,(oz s (grownCap w s.size 0 e)).size+1))):=by
 have hch:(choose (.appendCap s.size 0 e)).run P w=.ok (grownCap w s.size 0 e) w.drew:=by
  simp only [choose,Sem.run,Question.forced,Jk,JL]; rfl
 have hnr:∀ (c:Array Value) (w:World),(newRow e c).run P w=.ok ⟨w.heap.size,0,none⟩ (w.alloc (.cells c e)):=fun c w=>by
  simp only [newRow,newObj,Hx,HL,Sem.run,Hr,World.alloc]
 have hms:∀ (c:Array Value) (w:World),(markStringish ⟨w.heap.size,0,none⟩).run P (w.alloc (.cells c e))=.ok () (w.alloc (.cells c e (c.size,c.size+1))):=fun c w=>by
  have hsh:(w.alloc (.cells c e)).shape? w.heap.size=some (e,c.size):=by
   have:(w.alloc (.cells c e)).heap[w.heap.size]? = some (.cells c e):=LJ w _;simp only [World.shape?,this]
  simp only [markStringish,shape,Hx,Sem.run,hsh,Hr,Go.freeze,xf]
 simp only [Conv.stringToBytes,Hx,hch,Hr,hnr];have:=hms (oz s (grownCap w s.size 0 e)) w.drew;simp only [oz] at this ⊢;rw [show (w.drew.heap.size)=w.heap.size from rfl] at this ⊢;rw [this]
 rfl
theorem xP {t u e:TypeId}{y:Operand}{s:ByteArray} (hg:gd ops L ⟨some d,.convert t u y,ty,pos,aft,g⟩=some true) (hN:Nat.blt d x.N=true)
  (ht:∀ w,(underlying t).run x.P w=.ok .string w) (hu:∀ w,(underlying u).run x.P w=.ok (.slice e) w) (he:∀ w,(underlying e).run x.P w=.ok (.int .u8) w)
  (hy:ev L y=some (.string s)) (hs:s.size≤maxLen)
  (k:∀ v H',H.le H'→aI H' v (gL s)→W x ops Q rest H' M ((d,v)::L)):
  W x ops Q (⟨some d,.convert t u y,ty,pos,aft,g⟩::rest) H M L:=by
 refine ot rfl hg hN fun a w hsl h=>?_;have hge:=Mp w s.size 0 e;have hcm:grownCap w s.size 0 e≤maxLen:=Lz w s.size 0 e hs;have h':St x.B x.w0 H M w.drew:=h.drewN (w.drawn+1);generalize hcap:grownCap w s.size 0 e=cap at hge hcm;have ha:=(h'.alloc (.cells (oz s cap) e ((oz s cap).size,(oz s cap).size+1))).freeze;refine ⟨.slice (some ⟨w.heap.size,0,none⟩) s.size cap,w.drew.alloc (.cells (oz s cap) e ((oz s cap).size,(oz s cap).size+1)),?_,_,M,ha.2,k _ _ ha.1 (.inr ⟨w.heap.size,0,cap,_,e,_,?_,?_,hcm,Hp.rP _ _ _,?_,?_⟩)⟩
 ·have hr:=tL (P:=x.P) (w:=w) (e:=e) (s:=s)
  rw [hcap] at hr;simp only [execOp,hsl.ev hy,convert,Hx,ht,hu,he,Hr,hr,HL]
 ·rw [sR]
 ·rw [sR]; exact hge
 ·have e0:s.size=s.data.size:=rfl
  simp [aF.sz,oz];omega
 ·intro j el hel
  refine ⟨[.int .u8 el.n],rfl,fun i c hc=>?_⟩;have hi:i=0:=by
   have:=(G6.1 hc).1;simp at this; omega
  subst hi;simp at hc; subst hc
  have hj:=(G6.1 hel).1;simp [gL] at hel hj;obtain ⟨b,hb,rfl⟩:=hel;simp only [aF.sz,H_,Kk,Jb,oz];rw [Array.getElem?_append_left (by simpa using hj),Array.getElem?_map,hb]
  rfl
theorem xx {P:Program}{w:World}{t e:TypeId}{o:Option Addr}{n c:Nat} (hT:∀ w,(underlying t).run P w=.ok (.slice e) w):(Op.equal t (.slice o n c) (.slice none 0 0)).run P w=.ok o.isNone w:=by
 have key:∀ k,(Op.equalIn (k+1) t (.slice o n c) (.slice none 0 0)).run P w=.ok o.isNone w:=fun k=>by
  unfold Op.equalIn;cases o <;> simp [hT]
 exact key 9999
theorem qu {t e u:TypeId}{y z:Operand}{o:Option Addr}{n c:Nat} (hg:gd ops L ⟨some d,.binOp .eql t y z u,ty,pos,aft,g⟩=some true) (hN:Nat.blt d x.N=true)
  (hT:∀ w,(underlying t).run x.P w=.ok (.slice e) w) (hy:ev L y=some (.slice o n c)) (hz:ev L z=some (.slice none 0 0))
  (k:W x ops Q rest H M ((d,.bool o.isNone)::L)):
  W x ops Q (⟨some d,.binOp .eql t y z u,ty,pos,aft,g⟩::rest) H M L:=
 dX rfl hg hN (fun a w hs _=>by
  simp only [execOp,hs.ev hy,hs.ev hz,Hx,eqGuard,binOp,xx hT,Hr,HL]
  rfl) k
end
section
variable {B:Nat}{w0 w:World}{H:Hp}{M:List bR}
theorem St.eI {α:Type}[aF α] {v:Value}{T:TypeId}{n:Nat}{xs:List Value}{ys:List α}
  (h:St B w0 H (.row v T (aF.sz α) n xs::M) w) (hx:Rw H v xs ys) (hs:Nat.blt 0 (aF.sz α)=true):
  ∃ H',H.le H'∧St B w0 H' M w∧aI H' v ys∧∀ M' w',St B w0 H' M' w'→St B w0 H (.row v T (aF.sz α) n xs::M') w':=by
 have hs':0<aF.sz α:=by simpa [IE] using hs
 have hok:=h.ok _ (He ..);have hlo:=h.lo _ (He ..);obtain ⟨hl,hh⟩:=hok;have hn:n=ys.length:=by
  have:=hx.rd.len;rw [hl] at this;exact Jo hs' this
 subst hn;rcases hh with ⟨rfl,h0⟩ | ⟨g,off,cap,cur,rfl,hg,hnc,hcm,hcs,htake⟩
 ·refine ⟨H,G8 _,h.tail,.inl ⟨⟨_,rfl⟩,H7 h0⟩,fun M' w' h'=>?_⟩
  have hx0:xs=[]:=H7 (by rw [hl,h0,Jc])
  rw [h0,hx0];exact h'.vI T _
 ·have h':St B w0 H (.obj g (.cells cur T (0,0))::M) w:=by
   refine ⟨h.below,h.le,h.rS,?_,?_,h.nd⟩
   ·intro r hr
    rcases Ik.1 hr with rfl | hr
    ·exact hg
    ·exact h.tail.ok r hr
   ·intro r hr
    rcases Ik.1 hr with rfl | hr
    ·exact hlo
    ·exact h.tail.lo r hr
  obtain ⟨hle,hst⟩:=h'.freeze;refine ⟨_,hle,hst,.inr ⟨g,off,cap,cur,T,(0,0),rfl,hnc,hcm,Hp.rP _ _ _,hcs,?_⟩,fun M' w' hb=>?_⟩
  ·intro k e he
   obtain ⟨c,h1,h2⟩:=(hx.rd.mono hle).get k e he;refine ⟨c,h1,fun j d hd=>?_⟩;have:=h2 j d hd;rw [← htake,It] at this
   split at this
   ·rw [Ib] at this; simpa [JT] using this
   ·cases this
  ·have ht:=St.GB (H:=H) hb (hlo g rfl).1 hle (hlo g rfl).2 (Hp.rP _ _ _)
   refine ⟨ht.below,ht.le,ht.rS,?_,?_,ht.nd⟩
   ·intro r hr
    rcases Ik.1 hr with rfl | hr
    ·exact ⟨hl,.inr ⟨g,off,cap,cur,rfl,ht.ok _ (He ..),hnc,hcm,hcs,htake⟩⟩
    ·exact ht.tail.ok r hr
   ·intro r hr
    rcases Ik.1 hr with rfl | hr
    ·exact ht.lo (.obj g _) (He ..)
    ·exact ht.tail.lo r hr
theorem cZ {P:Program}{f:FuncId}{args:Array Value}{H1:Hp}{r:bR}{φ:List bR→Value→Prop}
  (back:∀ M' w',St B w0 H1 M' w'→St B w0 H (r::M') w') (h:Calls P f args w (fG B w0 fun H' M' v=>H1=H'∧φ M' v)):
  Calls P f args w (fG B w0 fun H' M' v=>H=H'∧∃ M2,r::M2=M'∧φ M2 v):=
 h.mono fun e w' he=>by
  cases e with
  | returned v=>
   obtain ⟨H2,M',h1,h2,h3⟩:=he;subst h2;exact ⟨H,r::M',back M' w' h1,rfl,M',rfl,h3⟩
  | panicked c=>exact he
  | outgrown=>exact he
end
section
variable {x:Cx}{ops:Array Oper}{Q:kF}{rest:List Oper}{H:Hp}{M M':List bR}{L L':Env}
variable {d:Nat}{ty:TypeId}{pos:String}{aft:Array Edge}{g:Option (Nat×Bool)}
theorem uX {fn:Fn}{first caps:List Operand}{vs cs:List Value} (hg:gd ops L ⟨some d,.makeFunc fn first.toArray caps.toArray,ty,pos,aft,g⟩=some true) (hN:Nat.blt d x.N=true)
  (hv:tX L first=some vs) (hc:tX L caps=some cs) (k:W x ops Q rest H M ((d,.func fn vs.toArray cs.toArray)::L)):
  W x ops Q (⟨some d,.makeFunc fn first.toArray caps.toArray,ty,pos,aft,g⟩::rest) H M L:=
 dX rfl hg hN (fun a w hs _=>by simp [execOp,Instr.makeFunc,hs.tX hv,hs.tX hc]) k
theorem uF {d:Nat}{y:Operand}{f:FuncId}{args:List Operand}{tys:Array TypeId}{vs fs cs:List Value}
  {Φ:Hp→List bR→Value→Prop}
  (hcall:∀ as w,(callFunc f as).run x.P w=.ok (.enter f as) w)
  (hg:gd ops L ⟨some d,.call ⟨.value y,args.toArray,tys⟩,ty,pos,aft,g⟩=some true) (hN:Nat.blt d x.N=true)
  (hy:ev L y=some (.func (.func f) fs.toArray cs.toArray)) (hv:tX L args=some vs)
  (hc:∀ w,St x.B x.w0 H M w→Calls x.P f (fs++vs++cs).toArray w (fG x.B x.w0 Φ))
  (k:∀ v H' M',Φ H' M' v→W x ops Q rest H' M' ((d,v)::L)):
  W x ops Q (⟨some d,.call ⟨.value y,args.toArray,tys⟩,ty,pos,aft,g⟩::rest) H M L:=by
 intro a w hs ht;refine Lq fun K hK=>?_;rw [Hl (hs.gd hg)];have hargs:args.toArray.map a.eval=vs.toArray:=by simp [hs.tX hv]
 have hr:(execOp a.eval ⟨some d,.call ⟨.value y,args.toArray,tys⟩,ty,pos,aft,g⟩).run x.P w=.ok (.enter f (fs++vs++cs).toArray) w:=by
  simp only [execOp,resolve,hargs,hs.ev hy,Deferred.ofValue,Hx,HL,Hr,invoke];simp [hcall]
 unfold Oper.wp;rw [hr];simp only [Oper.upon];refine (hc w ht).mono fun e w' he=>?_;cases e with
 | returned v=>
  obtain ⟨H',M',h1,h2⟩:=he;exact hK _ _ (k v H' M' h2 _ _ (hs.put hN) h1)
 | panicked c=>exact he.elim
 | outgrown=>exact he.elim
def kD (k:IntKind) (a b:Int):Int:=k.wrap (a*2 ^ (min b.toNat k.bits))
def jA (k:IntKind) (a b:Int):Int:=a.fdiv (2 ^ (min b.toNat k.bits))
theorem xV {t u:TypeId}{y z:Operand}{k k2:IntKind}{a b:Int} (hg:gd ops L ⟨some d,.binOp .shl t y z u,ty,pos,aft,g⟩=some true) (hN:Nat.blt d x.N=true)
  (hy:ev L y=some (.int k a)) (hz:ev L z=some (.int k2 b)) (hb:0≤b) (kk:W x ops Q rest H M ((d,.int k (kD k a b))::L)):
  W x ops Q (⟨some d,.binOp .shl t y z u,ty,pos,aft,g⟩::rest) H M L:=
 dX rfl hg hN (fun c w hs _=>by
  have:¬ b<0:=by omega
  simp [execOp,hs.ev hy,hs.ev hz,eqGuard,binOp,Op.shift,this,kD]) kk
theorem nS {t u:TypeId}{y z:Operand}{k k2:IntKind}{a b:Int} (hg:gd ops L ⟨some d,.binOp .shr t y z u,ty,pos,aft,g⟩=some true) (hN:Nat.blt d x.N=true)
  (hy:ev L y=some (.int k a)) (hz:ev L z=some (.int k2 b)) (hb:0≤b) (kk:W x ops Q rest H M ((d,.int k (jA k a b))::L)):
  W x ops Q (⟨some d,.binOp .shr t y z u,ty,pos,aft,g⟩::rest) H M L:=
 dX rfl hg hN (fun c w hs _=>by
  have:¬ b<0:=by omega
  simp [execOp,hs.ev hy,hs.ev hz,eqGuard,binOp,Op.shift,this,jA]) kk
theorem bN {t u:TypeId}{y:Operand}{k k2:IntKind}{n:Int} (hg:gd ops L ⟨some d,.convert t u y,ty,pos,aft,g⟩=some true) (hN:Nat.blt d x.N=true)
  (ht:∀ w,(underlying t).run x.P w=.ok (.int k2) w) (hu:∀ w,(underlying u).run x.P w=.ok (.int k) w) (hy:ev L y=some (.int k2 n))
  (kk:W x ops Q rest H M ((d,.int k (k.wrap n))::L)):
  W x ops Q (⟨some d,.convert t u y,ty,pos,aft,g⟩::rest) H M L:=
 dX rfl hg hN (fun c w hs _=>by simp [execOp,hs.ev hy,convert,ht,hu,Conv.intToInt]) kk
theorem uT {t u:TypeId}{y z:Operand}{a b:ByteArray} (hg:gd ops L ⟨some d,.binOp .add t y z u,ty,pos,aft,g⟩=some true) (hN:Nat.blt d x.N=true)
  (hy:ev L y=some (.string a)) (hz:ev L z=some (.string b)) (hb:a.size+b.size≤maxLen) (kk:W x ops Q rest H M ((d,.string (a++b))::L)):
  W x ops Q (⟨some d,.binOp .add t y z u,ty,pos,aft,g⟩::rest) H M L:=
 dX rfl hg hN (fun c w hs _=>by
  have:¬ (((a.size+b.size:Nat):Int) > i64.max):=by
   simp only [IntKind.max,IntKind.signed,IntKind.bits]; unfold maxLen at hb; simp; omega
  simp only [execOp,hs.ev hy,hs.ev hz,eqGuard,binOp,Op.stringOp,Hx];simp only [Hh this];simp) kk
theorem zf {s:ByteArray}{k:Nat}{c:U8} (h:(gL s)[k]? = some c):∃ b:UInt8,s[k]? = some b∧c=⟨b.toNat⟩:=by
 simp only [gL,HZ,K8] at h;obtain ⟨b,hb,rfl⟩:=h;refine ⟨b,?_,rfl⟩;obtain ⟨hk,e⟩:=G6.1 hb;have hk':k<s.size:=by simpa using hk
 rw [getElem?_pos s k hk'];rw [← e]; rfl
theorem sP {t:TypeId}{y z:Operand}{s:ByteArray}{kk:IntKind}{i:Int}{c:U8} (hg:gd ops L ⟨some d,.index t y z,ty,pos,aft,g⟩=some true) (hN:Nat.blt d x.N=true)
  (hT:∀ w,(underlying t).run x.P w=.ok .string w) (hy:ev L y=some (.string s)) (hz:ev L z=some (.int kk i)) (h0:0≤i) (he:(gL s)[i.toNat]? = some c)
  (k:W x ops Q rest H M ((d,.int .u8 c.n)::L)):
  W x ops Q (⟨some d,.index t y z,ty,pos,aft,g⟩::rest) H M L:=
 dX rfl hg hN (fun a w hs _=>by
  obtain ⟨b,hb,rfl⟩:=zf he;simp [execOp,hs.ev hy,hs.ev hz,Instr.index,asIntOf,hT,h0,hb]) k
theorem nt {t:TypeId}{y:Operand}{lo hi:Option Operand}{s:ByteArray}{l h:Nat} (hg:gd ops L ⟨some d,.slice t y lo hi none,ty,pos,aft,g⟩=some true) (hN:Nat.blt d x.N=true)
  (hT:∀ w,(underlying t).run x.P w=.ok .string w)
  (hy:ev L y=some (.string s)) (hh:zZ L hi s.size s.size h) (hl:zZ L lo 0 h l)
  (k:W x ops Q rest H M ((d,.string (s.extract l h))::L)):
  W x ops Q (⟨some d,.slice t y lo hi none,ty,pos,aft,g⟩::rest) H M L:=
 dX rfl hg hN (fun a w hs _=>by
  have hb:(Instr.sliceBounds false s.size s.size (lo.map a.eval) (hi.map a.eval) none).run x.P w=.ok (l,h,s.size) w:=by
   rcases hh.bd hs with ⟨e1,rfl⟩ | ⟨kh,ih,e1,h0,h1,rfl⟩
   ·rcases hl.bd hs with ⟨e2,rfl⟩ | ⟨kl,il,e2,l0,l1,rfl⟩
    ·simp only [e1,e2,Instr.sliceBounds,Hx,HL,Hr]
    ·simp only [e1,e2,Instr.sliceBounds,Hx,HL,Hr,run_sliceBound l0 l1]
   ·rcases hl.bd hs with ⟨e2,rfl⟩ | ⟨kl,il,e2,l0,l1,rfl⟩
    ·simp only [e1,e2,Instr.sliceBounds,Hx,HL,Hr,run_sliceBound h0 h1]
    ·simp only [e1,e2,Instr.sliceBounds,Hx,HL,Hr,run_sliceBound h0 h1,run_sliceBound l0 l1]
  simp only [execOp,hs.ev hy,Instr.sliceAt,Hx,hT,Hr,Instr.slice,K3,Option.isSome_none,Jk,JL,hb,HL]) k
end
class MV (α:Type) where
 mv:α→Value
instance:MV Int:=⟨fun n=>.int .i64 n⟩
instance:MV Bool:=⟨fun b=>.bool b⟩
instance:MV ByteArray:=⟨fun s=>.string s⟩
class rC (α:Type) [DecidableEq α] extends MV α where
 kind:TypeDesc
 same:∀ a b:α,Instr.sameNow kind (mv a) (mv b)=some (decide (a=b))
 bits:∀ a:α,Instr.sameBits 10000 (mv a) (mv a)=true
 check:∀ (P:Program) (t:TypeId) (e:Bool) (a:α) (w:World),(∀ w,(underlying t).run P w=.ok kind w)→(Instr.checkKey e 10000 t (mv a)).run P w=.ok () w
theorem Ag (s t:ByteArray):(s == t)=decide (s=t):=by
 have h:(s == t)=(s.data == t.data):=rfl;rw [h,Bool.eq_iff_iff];simp only [beq_iff_eq,IF];exact ⟨fun e=>ByteArray.ext e,fun e=>by rw [e]⟩
instance:rC Int where
 kind:=.int .i64
 same a b:=by simp [Instr.sameNow,Ap,MV.mv]
 bits a:=by simp [Instr.sameBits,MV.mv]
 check P t e a w h:=by
  have key:∀ k,(Instr.checkKey e (k+1) t (.int .i64 a)).run P w=.ok () w:=fun k=>by unfold Instr.checkKey; simp [h]
  exact key 9999
instance:rC ByteArray where
 kind:=.string
 same a b:=by simp [Instr.sameNow,Ag,MV.mv]
 bits a:=by simp [Instr.sameBits,MV.mv,Ag]
 check P t e a w h:=by
  have key:∀ k,(Instr.checkKey e (k+1) t (.string a)).run P w=.ok () w:=fun k=>by unfold Instr.checkKey; simp [h]
  exact key 9999
section
variable {κ ν:Type}[DecidableEq κ] [rC κ] [MV ν]
structure nR (es:Array MapEntry) (c:Nat) (l:List (κ×ν)):Prop where
 eq:es.toList.map (fun e=>(e.key,e.val))=l.map fun p=>(MV.mv p.1,MV.mv p.2)
 nd:(es.toList.map (·.born)).Nodup
 lt:∀ e ∈ es.toList,e.born<c
def re:List (κ×ν)→κ→Nat→Option (Nat×ν)
 | [],_,_=>none
 | (a,v)::r,k,i=>if a=k then some (i,v) else re r k (i+1)
def mW (l:List (κ×ν)) (k:κ):Option ν:=(re l k 0).map (·.2)
def qo (l:List (κ×ν)) (k:κ) (v:ν):List (κ×ν):=match re l k 0 with
 | some (i,_)=>l.set i (k,v)
 | none=>l++[(k,v)]
theorem nR.nil:nR #[] 0 ([]:List (κ×ν)):=⟨rfl,by simp,by simp⟩
theorem vi (k:κ):∀ (es:List MapEntry) (l:List (κ×ν)) (i:Nat),es.map (fun e=>(e.key,e.val))=l.map (fun p=>(MV.mv p.1,MV.mv p.2)) →
  Instr.findNow (rC.kind κ) (MV.mv k) es i=some ((re l k i).map fun p=>(p.1,MV.mv p.2))
 | [],[],i,_=>rfl
 | [],_::_,i,h=>by simp at h
 | _::_,[],i,h=>by simp at h
 | e::es,(a,v)::l,i,h=>by
  simp only [KK,List.cons.injEq,KY] at h;obtain ⟨⟨h1,h2⟩,h3⟩:=h;unfold Instr.findNow;rw [h1,rC.same]
  by_cases hk:k=a
  ·subst hk; simp [re,h2]
  ·simp only [hk,Mf,re,Hh (fun e:a=k=>hk e.symm)]
   exact vi k es l (i+1) h3
theorem run_findKey {P:Program}{w:World}{t:TypeId}{k:κ}{es:Array MapEntry}{c:Nat}{l:List (κ×ν)} (h:nR es c l) (hK:∀ w,(underlying t).run P w=.ok (rC.kind κ) w):
  (Instr.findKey t (MV.mv k) es.toList).run P w=.ok ((re l k 0).map fun p=>(p.1,MV.mv p.2)) w:=by
 simp only [Instr.findKey,Hx,hK,Hr,vi k es.toList l 0 h.eq,HL]
theorem zH:∀ {l:List (κ×ν)}{k:κ}{i j:Nat}{v:ν},re l k i=some (j,v)→i≤j∧j<i+l.length∧l[j-i]? = some (k,v)
 | [],k,i,j,v,h=>by simp [re] at h
 | (a,u)::l,k,i,j,v,h=>by
  unfold re at h
  split at h
  ·rename_i e; subst e
   simp only [H9,KY] at h;obtain ⟨rfl,rfl⟩:=h;simp
  ·obtain ⟨h1,h2,h3⟩:=zH h
   refine ⟨by omega,by simp; omega,?_⟩
   rw [show j-i=(j-(i+1))+1 by omega,List.getElem?_cons_succ]; exact h3
end
section
variable {x:Cx}{ops:Array Oper}{Q:kF}{rest:List Oper}{H:Hp}{M M':List bR}{L L':Env}
variable {d:Nat}{ty:TypeId}{pos:String}{aft:Array Edge}{g:Option (Nat×Bool)}
variable {κ ν:Type}[DecidableEq κ] [rC κ] [MV ν]
theorem tS {t:TypeId} (hg:gd ops L ⟨some d,.makeMap t none,ty,pos,aft,g⟩=some true) (hN:Nat.blt d x.N=true)
  (k:∀ b,W x ops Q rest H (.obj b (.map #[] 0)::M) ((d,.map (some b))::L)):
  W x ops Q (⟨some d,.makeMap t none,ty,pos,aft,g⟩::rest) H M L:=
 ot rfl hg hN (fun c w hs ht=>⟨_,w.alloc (.map #[] 0),by
  simp only [execOp,Instr.makeMap,K3,newObj,Hx,HL,Sem.run,Hr,World.alloc],_,_,ht.alloc _,k _⟩)
theorem rr {P:Program}{w:World}{b:Nat}{es:Array MapEntry}{c:Nat} (h:w.heap[b]? = some (.map es c)):(getObj b).run P w=.ok (.map es c) w:=by
 simp [getObj,Sem.run,h]
theorem zU {P:Program}{w:World}{t key e:TypeId}{b c:Nat}{es:Array MapEntry}{l:List (κ×ν)}{k:κ}{z:ν}{ok:Bool} (hb:w.heap[b]? = some (.map es c)) (h:nR es c l)
  (hT:∀ w,(underlying t).run P w=.ok (.map key e) w) (hK:∀ w,(underlying key).run P w=.ok (rC.kind κ) w) (hz:∀ w,(zeroValue e).run P w=.ok (MV.mv z) w):
  (Instr.lookup t (.map (some b)) (MV.mv k) ok).run P w=.ok (if ok then .tuple #[MV.mv ((mW l k).getD z),.bool (mW l k).isSome] else MV.mv ((mW l k).getD z)) w:=by
 simp only [Instr.lookup,Hx,hT,Hr,rr hb,HL,rC.check P key _ k w hK,run_findKey h hK];unfold mW;cases hm:re l k 0 with
 | none=>simp only [K3,Hx,hz,Hr,HL]; rfl
 | some p=>simp only [I7,HL,Hr]; rfl
theorem uW {t key e:TypeId}{b c:Nat}{y u:Operand}{es:Array MapEntry}{l:List (κ×ν)}{k:κ}{z:ν}{vk v:Value} (hm:bR.obj b (.map es c) ∈ M) (h:nR es c l)
  (hg:gd ops L ⟨some d,.lookup t y u false,ty,pos,aft,g⟩=some true) (hN:Nat.blt d x.N=true)
  (hT:∀ w,(underlying t).run x.P w=.ok (.map key e) w) (hK:∀ w,(underlying key).run x.P w=.ok (rC.kind κ) w) (hz:∀ w,(zeroValue e).run x.P w=.ok (MV.mv z) w)
  (hy:ev L y=some (.map (some b))) (hu:ev L u=some vk) (hvk:vk=MV.mv k) (hv:MV.mv ((mW l k).getD z)=v)
  (kk:W x ops Q rest H M ((d,v)::L)):
  W x ops Q (⟨some d,.lookup t y u false,ty,pos,aft,g⟩::rest) H M L:=
 dX rfl hg hN (fun a w hs ht=>by
  subst hvk; subst hv
  simp only [execOp,hs.ev hy,hs.ev hu,Hx,zU (ok:=false) (ht.qM hm) h hT hK hz,Hr,HL]; rfl) kk
theorem rR (w:World) (b:Nat) (o:Obj):w.grownBy { w with heap:=w.heap.setIfInBounds b o } (some b):=
 ⟨rfl,rfl,rfl,by simp,fun k _ hne=>by
  simp only [Lc];rw [Hh (fun e=>hne (by rw [e]))]⟩
theorem rL {t key e:TypeId}{b c:Nat}{y u q:Operand}{es:Array MapEntry}{l:List (κ×ν)}{k:κ}{v:ν}{vk vv:Value} (h:nR es c l)
  (hg:gd ops L ⟨none,.mapUpdate t y u q,ty,pos,aft,g⟩=some true)
  (hT:∀ w,(underlying t).run x.P w=.ok (.map key e) w) (hK:∀ w,(underlying key).run x.P w=.ok (rC.kind κ) w)
  (hy:ev L y=some (.map (some b))) (hu:ev L u=some vk) (hvk:vk=MV.mv k) (hq:ev L q=some vv) (hvv:vv=MV.mv v)
  (kk:∀ es' c',nR es' c' (qo l k v)→W x ops Q rest H (.obj b (.map es' c')::M) L):
  W x ops Q (⟨none,.mapUpdate t y u q,ty,pos,aft,g⟩::rest) H (.obj b (.map es c)::M) L:=
 yZ rfl hg (fun a w hs ht=>by
  subst hvk; subst hvv
  have hb:=ht.qM (He ..);have hlt:b<w.heap.size:=(I1.1 hb).1;have hset:∀ o,(setObj b o).run x.P w=.ok () { w with heap:=w.heap.setIfInBounds b o }:=fun o=>by simp [setObj,Sem.run,hb]
  have fin:∀ es' c',nR es' c' (qo l k v)→∃ H' M',St x.B x.w0 H' M' { w with heap:=w.heap.setIfInBounds b (.map es' c') }∧W x ops Q rest H' M' L:=fun es' c' hr=>
   ⟨H,_,ht.xG (r':=.obj b (.map es' c')) (rR w b _) (by simp [bR.ok,hlt]) (fun _ hc=>.inl hc),kk es' c' hr⟩
  have hlen:es.size=l.length:=by have:=HB List.length h.eq; simpa using this
  cases hm:re l k 0 with
  | none=>
   refine ⟨_,?_,fin (es.push { key:=MV.mv k,val:=MV.mv v,born:=c }) (c+1) ?_⟩
   ·simp only [execOp,hs.ev hy,hs.ev hu,hs.ev hq,Instr.mapUpdate,Hx,hT,Hr,rr hb,rC.check x.P key _ k w hK,run_findKey h hK,hm,K3,hset,HL]
   ·refine ⟨?_,?_,fun e he=>?_⟩
    ·unfold qo
     rw [hm];simp only [Array.toList_push,I4,KK,Ma];rw [show es.toList.map _=_ from h.eq]
    ·simp only [Array.toList_push,I4,KK,Ma]
     rw [IK];refine ⟨h.nd,by simp,fun a ha b hb e=>?_⟩
     simp at hb; subst hb; subst e
     obtain ⟨y,hy,rfl⟩:=II.1 ha;exact Nat.lt_irrefl _ (h.lt y hy)
    ·simp only [Array.toList_push,HV,IJ] at he
     rcases he with he | rfl
     ·exact Nat.lt_succ_of_lt (h.lt e he)
     ·exact Hi _
  | some p=>
   obtain ⟨i,u0⟩:=p;obtain ⟨_,hi,hget⟩:=zH hm;simp only [H_,Lh] at hi hget;have hi':i<es.size:=by omega
   have hkey:es[i].key=MV.mv k:=by
    have h1:(es.toList.map fun e=>(e.key,e.val))[i]? = some (MV.mv k,MV.mv u0):=by rw [show es.toList.map _=_ from h.eq,HZ,hget]; rfl
    rw [HZ] at h1;simp [hi'] at h1;exact h1.1
   refine ⟨_,?_,fin (es.modify i fun e=>{ e with key:=MV.mv k,val:=MV.mv v }) c ?_⟩
   ·have hg2:((es[i]?).map (·.key)).getD (MV.mv k)=MV.mv k:=by simp [hi',hkey]
    simp only [execOp,hs.ev hy,hs.ev hu,hs.ev hq,Instr.mapUpdate,Hx,hT,Hr,rr hb,rC.check x.P key _ k w hK,run_findKey h hK,hm,I7,hg2,Instr.keyThatStays,rC.bits,Lp,hset,HL]
   ·have hbn:(es.modify i fun e=>{ e with key:=MV.mv k,val:=MV.mv v }).toList.map (·.born)=es.toList.map (·.born):=by
     simp only [Array.toList_modify];apply Ji;intro j;rw [HZ,HZ,List.getElem?_modify]
     by_cases e:i=j
     ·subst e; cases es.toList[i]? <;> simp
     ·simp [Hh e]
    refine ⟨?_,by rw [hbn]; exact h.nd,fun e he=>?_⟩
    rotate_left
    ·have h1:e.born ∈ es.toList.map (·.born):=by rw [← hbn]; exact II.2 ⟨e,he,rfl⟩
     obtain ⟨y,hy,hyb⟩:=II.1 h1;rw [← hyb]; exact h.lt y hy
    unfold qo;rw [hm];simp only [Array.toList_modify];apply Ji;intro j;rw [HZ,HZ,List.getElem?_modify,Lb];have hj:(es.toList.map fun e=>(e.key,e.val))[j]? = (l.map fun p=>(MV.mv p.1,MV.mv p.2))[j]? := by rw [show es.toList.map _=_ from h.eq]
    rw [HZ,HZ] at hj
    by_cases e:i=j
    ·subst e
     simp [hi',hi]
    ·simp only [Hh e]
     simpa using hj)
end
section
variable {x:Cx}{ops:Array Oper}{Q:kF}{rest:List Oper}{H:Hp}{M M':List bR}{L L':Env}
variable {d:Nat}{ty:TypeId}{pos:String}{aft:Array Edge}{g:Option (Nat×Bool)}
theorem xS {t:TypeId}{y:Operand}{f:Nat}{cs:List Value}{v:Value}{fs:Array Field}{fd:Field} (hg:gd ops L ⟨some d,.field t y f,ty,pos,aft,g⟩=some true) (hN:Nat.blt d x.N=true)
  (hT:∀ w,(underlying t).run x.P w=.ok (.struct fs) w) (hf:fs[f]? = some fd) (hA:∀ w,(isAgg fd.type).run x.P w=.ok false w)
  (hy:ev L y=some (.agg cs.toArray)) (hv:cs[fd.offset]? = some v) (k:W x ops Q rest H M ((d,v)::L)):
  W x ops Q (⟨some d,.field t y f,ty,pos,aft,g⟩::rest) H M L:=
 dX rfl hg hN (fun a w hs ht=>by simp [execOp,hs.ev hy,Instr.field,hT,hf,asAgg,part,hA,hv]) k
def xm (s t:ByteArray):Bool:=Op.bytesLess s.toList t.toList
theorem xU {t e u:TypeId}{y z:Operand}{a:Option Addr} (hg:gd ops L ⟨some d,.binOp .eql t y z u,ty,pos,aft,g⟩=some true) (hN:Nat.blt d x.N=true)
  (hT:∀ w,(underlying t).run x.P w=.ok (.pointer e) w) (hy:ev L y=some (.pointer a)) (hz:ev L z=some (.pointer none))
  (k:W x ops Q rest H M ((d,.bool a.isNone)::L)):W x ops Q (⟨some d,.binOp .eql t y z u,ty,pos,aft,g⟩::rest) H M L:=
 dX rfl hg hN (fun c w hs _=>by
  have key:∀ k,(Op.equalIn (k+1) t (.pointer a) (.pointer none)).run x.P w=.ok a.isNone w:=fun k=>by
   unfold Op.equalIn;cases a <;> simp [hT]
  have h':(Op.equal t (.pointer a) (.pointer none)).run x.P w=.ok a.isNone w:=key 9999;simp only [execOp,hs.ev hy,hs.ev hz,Hx,eqGuard,binOp];simp [h']) k
theorem xQ {t u:TypeId}{y z:Operand}{a b:Bool} (hg:gd ops L ⟨some d,.binOp .eql t y z u,ty,pos,aft,g⟩=some true) (hN:Nat.blt d x.N=true)
  (hT:∀ w,(underlying t).run x.P w=.ok .bool w) (hy:ev L y=some (.bool a)) (hz:ev L z=some (.bool b))
  (k:W x ops Q rest H M ((d,.bool (decide (a=b)))::L)):W x ops Q (⟨some d,.binOp .eql t y z u,ty,pos,aft,g⟩::rest) H M L:=
 dX rfl hg hN (fun c w hs _=>by
  have e:(a == b)=decide (a=b):=by cases a <;> cases b <;> rfl
  have key:∀ k,(Op.equalIn (k+1) t (.bool a) (.bool b)).run x.P w=.ok (decide (a=b)) w:=fun k=>by
   unfold Op.equalIn;simp [hT,e]
  have h':(Op.equal t (.bool a) (.bool b)).run x.P w=.ok (decide (a=b)) w:=key 9999;simp only [execOp,hs.ev hy,hs.ev hz,Hx,eqGuard,binOp];simp [h']) k
theorem BU {t u:TypeId}{y z:Operand}{a b:Bool} (hg:gd ops L ⟨some d,.binOp .neq t y z u,ty,pos,aft,g⟩=some true) (hN:Nat.blt d x.N=true)
  (hT:∀ w,(underlying t).run x.P w=.ok .bool w) (hy:ev L y=some (.bool a)) (hz:ev L z=some (.bool b))
  (k:W x ops Q rest H M ((d,.bool (!decide (a=b)))::L)):W x ops Q (⟨some d,.binOp .neq t y z u,ty,pos,aft,g⟩::rest) H M L:=
 dX rfl hg hN (fun c w hs _=>by
  have e:(a == b)=decide (a=b):=by cases a <;> cases b <;> rfl
  have key:∀ k,(Op.equalIn (k+1) t (.bool a) (.bool b)).run x.P w=.ok (decide (a=b)) w:=fun k=>by
   unfold Op.equalIn;simp [hT,e]
  have h':(Op.equal t (.bool a) (.bool b)).run x.P w=.ok (decide (a=b)) w:=key 9999;simp only [execOp,hs.ev hy,hs.ev hz,Hx,eqGuard,binOp];simp [h']) k
theorem wB:∀ (x y:List UInt8),(!(Op.bytesLess x y || x == y))=Op.bytesLess y x
 | [],[]=>rfl
 | [],_::_=>rfl
 | _::_,[]=>rfl
 | a::x,b::y=>by
  have ih:=wB x y;simp only [Op.bytesLess,List.cons_beq_cons];rcases Ks a.toNat b.toNat with h | h | h
  ·have h1:a<b:=KI.2 h
   have h2:¬ b<a:=fun e=>by have:=KI.1 e; omega
   have h3:(b == a)=false:=by simp; intro e; subst e; omega
   simp [h1,h2,h3]
  ·have h0:a=b:=Me.1 h
   subst h0;simpa using ih
  ·have h1:b<a:=KI.2 h
   have h2:¬ a<b:=fun e=>by have:=KI.1 e; omega
   have h3:(a == b)=false:=by simp; intro e; subst e; omega
   simp [h1,h2,h3]
end
def zG (acc:List Nat) (o:Oper):Nat:=(fK o).foldl (fun m j=>m ||| ((1 <<< j) ||| acc.getD j 0)) 0
def vE:List Nat→List Oper→List Nat
 | acc,[]=>acc
 | acc,o::r=>vE (acc++[zG acc o]) r
theorem vD {acc:List Nat}{j:Nat}:∀ (ws:List Nat) (z:Nat),(ws.foldl (fun m j=>m ||| ((1 <<< j) ||| acc.getD j 0)) z).testBit j=true →
  z.testBit j=true∨∃ q ∈ ws,j=q∨(acc.getD q 0).testBit j=true
 | [],z,h=>.inl h
 | q::ws,z,h=>by
  rcases vD ws _ h with h | ⟨r,hr,h⟩
  ·rw [Nat.testBit_or,Nat.testBit_or,Jd,Jd] at h
   rcases h with h | h | h
   ·exact .inl h
   ·refine .inr ⟨q,He ..,.inl ?_⟩
    rw [Nat.shiftLeft_eq,Lo,Nat.testBit_two_pow] at h;simpa using (Hk h).symm
   ·exact .inr ⟨q,He ..,.inr h⟩
  ·exact .inr ⟨r,Ho _ hr,h⟩
theorem r7 {l:List Oper}{listed:Nat→Prop} (dc:∀ i o,l[i]? = some o→listed i→∀ j ∈ fK o,listed j):
  ∀ (r:List Oper) (acc:List Nat),(∀ i o,r[i]? = some o→l[acc.length+i]? = some o) →
   (∀ i,i<acc.length→∀ o,l[i]? = some o→(∀ q ∈ fK o,listed q)→∀ j,(acc.getD i 0).testBit j=true→listed j) →
   ∀ i,i<acc.length+r.length→∀ o,l[i]? = some o→(∀ q ∈ fK o,listed q)→∀ j,((vE acc r).getD i 0).testBit j=true→listed j
 | [],acc,_,h,i,hi,o,ho,hw,j,hj=>h i (by simpa using hi) o ho hw j hj
 | p::r,acc,hr,h,i,hi,o,ho,hw,j,hj=>by
  refine r7 dc r (acc++[zG acc p]) (fun k q hk=>?_) ?_ i (by simp at hi ⊢; omega) o ho hw j hj
  ·have:=hr (k+1) q (by simpa using hk)
   rw [HQ,Is]
   rwa [show acc.length+1+k=acc.length+(k+1) by omega]
  ·intro k hk q hq hqw b hb
   by_cases hkl:k<acc.length
   ·refine h k hkl q hq hqw b ?_
    rw [HW,IM hkl] at hb;rw [HW]; exact hb
   ·have hke:k=acc.length:=by simp at hk; omega
    subst hke;have hp:p=q:=by
     have:=hr 0 p rfl;rw [Jb,hq] at this;exact (G7 this).symm
    subst hp;rw [HW,HY (HH _),IT] at hb;simp only [List.getElem?_cons_zero,JA] at hb;unfold zG at hb;rcases vD _ _ hb with h0 | ⟨q,hqm,rfl | hqb⟩
    ·simp at h0
    ·exact hqw b hqm
    ·by_cases hql:q<acc.length
     ·have hlq:=hqw q hqm
      cases hoq:l[q]? with
      | none=>
       have:acc.length<l.length:=(G6.1 hq).1;have:=List.getElem?_eq_none_iff.1 hoq;omega
      | some oq=>exact h q hql oq hoq (dc q oq hoq hlq) b hqb
     ·rw [HW,Iv (by omega)] at hqb
      simp at hqb
def qO (l:List Oper) (m:Nat):Bool:=
 l.zipIdx.all (fun p=>(fK p.1).all fun j=>Nat.blt j p.2) &&
 l.zipIdx.all fun p=>Nat.blt p.2 m || (List.range p.2).all fun j=>((vE [] l).getD p.2 0).testBit j
theorem mM {l:List Oper}{m:Nat} (hB:qO l m=true) {i:Nat}{o:Oper} (ho:l[i]? = some o):∀ j ∈ fK o,j<i:=by
 unfold qO at hB;rw [Jn,IG] at hB;have:=hB.1 (o,i) (by rw [List.mem_zipIdx_iff_getElem?]; simpa using ho)
 simpa only [IG,IE] using this
theorem vP {l:List Oper}{m:Nat} (hB:qO l m=true) {listed:Nat→Prop} (dc:∀ i o,l[i]? = some o→listed i→∀ j ∈ fK o,listed j)
  {i:Nat}{o:Oper} (ho:l[i]? = some o) (hm:m≤i) (hw:∀ q ∈ fK o,listed q):∀ j,j<i→listed j:=by
 unfold qO at hB;rw [Jn,IG,IG] at hB;have h2:=hB.2 (o,i) (by rw [List.mem_zipIdx_iff_getElem?]; simpa using ho)
 simp only [Jd,IE,IG,Io] at h2;have hi:i<l.length:=(G6.1 ho).1;intro j hj;rcases h2 with h2 | h2
 ·omega
 ·exact r7 dc l [] (fun k q hk=>by simpa using hk) (fun k hk=>by simp at hk) i (by simpa using hi) o ho hw j (h2 j hj)
def pB:List Nat→(Nat→List bR)→List bR→List bR
 | [],_,M=>M
 | c::cs,R,M=>R c++pB cs R M
theorem tN (cs:List Nat) (R:Nat→List bR) (M:List bR):pB cs R M=cs.flatMap R++M:=by
 induction cs with
 | nil=>rfl
 | cons c cs ih=>rw [pB,ih,LO,H6]
def wb (R:Nat→List bR) (i:Nat) (rs:List bR):Nat→List bR:=fun k=>bif Nat.beq k i then rs else R k
theorem uh (R:Nat→List bR) (i:Nat) (rs:List bR):wb R i rs i=rs:=by simp [wb]
theorem uM (R:Nat→List bR) (i k:Nat) (rs:List bR) (h:k≠i):wb R i rs k=R k:=by
 unfold wb;cases hb:Nat.beq k i with
 | false=>rfl
 | true=>exact absurd (JC hb) h
abbrev Fb:=Nat→Hp→List bR→Value→Prop
def Ew:Option Nat→Value→Env→Env
 | some t,v,L=>(t,v)::L
 | none,_,L=>L
def Av (l:List Oper) (j:Nat):Option Nat:=match l[j]? with
 | none=>none
 | some o=>match o.dst with
  | some _=>none
  | none=>match o.op with
   | .store _ (.tmp s) _=>bif (fK o).any (fun w=>match (l[w]?).bind (·.dst) with
    | some u=>Nat.beq u s
    | none=>false) then some s else none
   | _=>none
theorem Fx {l:List Oper}{j s:Nat} (h:Av l j=some s):∃ o,l[j]? = some o∧o.dst=none∧∃ w ∈ fK o,(l[w]?).bind (·.dst)=some s:=by
 unfold Av at h
 split at h
 ·cases h
 ·rename_i o ho
  split at h
  ·cases h
  ·rename_i hd
   split at h
   ·rename_i T s' z hop
    cases hb:(fK o).any (fun w=>match (l[w]?).bind (·.dst) with
     | some u=>Nat.beq u s'
     | none=>false) with
    | false=>rw [hb] at h; cases h
    | true=>
     rw [hb] at h;cases h;rw [List.any_eq_true] at hb;obtain ⟨w,hw,hb⟩:=hb;refine ⟨o,ho,hd,w,hw,?_⟩
     split at hb
     ·rename_i u hu
      rw [hu,JC hb]
     ·cases hb
   ·cases h
def rB (l:List Oper) (Φ:Fb) (H:Hp):List Nat→Env→(Nat→List bR)→(Env→(Nat→List bR)→Prop)→Prop
 | [],L,R,k=>k L R
 | j::js,L,R,k=>match (l[j]?).bind (·.dst) with
  | some t=>∀ v rs,Φ j H rs v→rB l Φ H js ((t,v)::L) (wb R j rs) k
  | none=>match Av l j with
   | none=>∀ rs,Φ j H rs undef→rB l Φ H js L (wb R j rs) k
   | some s=>∀ v rs,(∀ u,lk L s=some u→v=u)→Φ j H rs v→rB l Φ H js L (wb R j rs) k
def Gv (L:Env) (v:Value):Option Nat→Option Nat→Prop
 | some _,_=>True
 | none,none=>v=undef
 | none,some s=>lk L s=some v
def wU (x:Cx) (H:Hp) (M:List bR) (L:Env) (t ps:Option Nat) (φ:Hp→List bR→Value→Prop):kF:=fun e a w=>
 e=.normal∧∃ v H' rs,Sl x.N (Ew t v L) a∧Gv L v t ps∧H.le H'∧St x.B x.w0 H' (rs++M) w∧φ H' rs v
theorem dZ {x:Cx}{H H':Hp}{M:List bR}{L:Env}{t:Nat}{ps:Option Nat}{v:Value}{φ:Hp→List bR→Value→Prop} (rs:List bR) (hle:H.le H') (h:φ H' rs v):E x .normal (wU x H M L (some t) ps φ) H' (rs++M) ((t,v)::L):=
 fun _ _ hs ht=>⟨rfl,v,H',rs,hs,G_,hle,ht,h⟩
theorem AY {x:Cx}{H H':Hp}{M:List bR}{L:Env}{φ:Hp→List bR→Value→Prop} (rs:List bR) (hle:H.le H') (h:φ H' rs undef):E x .normal (wU x H M L none none φ) H' (rs++M) L:=
 fun _ _ hs ht=>⟨rfl,undef,H',rs,hs,rfl,hle,ht,h⟩
theorem tQ {x:Cx}{H H':Hp}{M:List bR}{L:Env}{s:Nat}{v:Value}{φ:Hp→List bR→Value→Prop} (hl:lk L s=some v) (rs:List bR) (hle:H.le H') (h:φ H' rs v):E x .normal (wU x H M L none (some s) φ) H' (rs++M) L:=
 fun _ _ hs ht=>⟨rfl,v,H',rs,hs,hl,hle,ht,h⟩
def yW (m:Nat) (I:List (List bR)):Nat→List bR:=fun k=>if k<m then [] else I.getD (k-m) []
def sH (x:Cx) (l:List Oper) (Φ:Fb) (C U:List (List Nat)) (Es:List Env) (R0:Nat→List bR) (H:Hp) (M:List bR) (L:Env):Nat→List Oper→Prop
 | _,[]=>True
 | i,o::r=>(∀ H',H.le H'→∀ X Rest,(∀ s ∈ M,s ∈ Rest)→rB l Φ H' (fK o) (Es.getD i []++(L++X)) R0 (fun L' R=>(∀ s ∈ pB (U.getD i []) R [],s ∈ Rest)→(∃ Rr,(pB (U.getD i []) R Rr).Perm Rest)→W x l.toArray (wU x H' Rest L' o.dst (Av l i) (Φ i)) [o] H' (pB (C.getD i []) R Rest) L')) ∧
   sH x l Φ C U Es R0 H M L (i+1) r
theorem sH.at {x:Cx}{l:List Oper}{Φ:Fb}{C U:List (List Nat)}{Es:List Env}{R0:Nat→List bR}{H:Hp}{M:List bR}{L:Env}:∀ {r:List Oper}{i:Nat},sH x l Φ C U Es R0 H M L i r→∀ j o,r[j]? = some o →
  ∀ H',H.le H'→∀ X Rest,(∀ s ∈ M,s ∈ Rest)→rB l Φ H' (fK o) (Es.getD (i+j) []++(L++X)) R0 (fun L' R=>(∀ s ∈ pB (U.getD (i+j) []) R [],s ∈ Rest)→(∃ Rr,(pB (U.getD (i+j) []) R Rr).Perm Rest)→W x l.toArray (wU x H' Rest L' o.dst (Av l (i+j)) (Φ (i+j))) [o] H' (pB (C.getD (i+j) []) R Rest) L')
 | [],_,_,j,o,h=>by simp at h
 | p::r,i,hh,0,o,h=>by simp at h; subst h; exact hh.1
 | p::r,i,hh,j+1,o,h=>by
  have:=sH.at hh.2 j o (by simpa using h)
  rwa [show i+1+j=i+(j+1) from by omega] at this
def oS (a:Act) (v:Value):Option Nat→Option Nat→Prop
 | some t,_=>a.tmps[t]? = some v
 | none,none=>v=undef
 | none,some s=>a.tmps[s]? = some v
theorem rB.use {l:List Oper}{Φ:Fb}{H:Hp}{a:Act}{N:Nat}{Rt:Nat→List bR}:∀ {js:List Nat}{L:Env}{R:Nat→List bR}{k:Env→(Nat→List bR)→Prop},rB l Φ H js L R k→Sl N L a →
  (∀ j ∈ js,∃ v,oS a v ((l[j]?).bind (·.dst)) (Av l j)∧Φ j H (Rt j) v) →
  ∃ Y R',k (Y++L) R'∧Sl N (Y++L) a∧(∀ t v,(t,v) ∈ Y→a.tmps[t]? = some v)∧(∀ q,q ∈ js→R' q=Rt q)∧∀ q,q ∉ js→R' q=R q
 | [],L,R,k,h,hs,_=>⟨[],R,h,hs,by simp,by simp,fun q _=>rfl⟩
 | j::js,L,R,k,h,hs,hv=>by
  obtain ⟨v,h1,h2⟩:=hv j (He ..);have fin:∀ {R':Nat→List bR},(∀ q,q ∈ js→R' q=Rt q)→(∀ q,q ∉ js→R' q=wb R j (Rt j) q)→(∀ q,q ∈ j::js→R' q=Rt q)∧∀ q,q ∉ j::js→R' q=R q:=by
   intro R' h6 h7;constructor
   ·intro q hq
    by_cases hqj:q ∈ js
    ·exact h6 q hqj
    ·rcases Ik.1 hq with rfl | hq
     ·rw [h7 _ hqj,uh]
     ·exact absurd hq hqj
   ·intro q hq
    rw [h7 q (fun h=>hq (Ho _ h)),uM _ _ _ _ (fun e=>hq (by rw [e]; exact He ..))]
  unfold rB at h;cases ht:(l[j]?).bind (·.dst) with
  | none=>
   rw [ht] at h h1;cases hk:Av l j with
   | none=>
    rw [hk] at h h1;simp only [oS] at h1;subst h1;obtain ⟨Y,R',h3,h4,h5,h6,h7⟩:=rB.use (h (Rt j) h2) hs (fun i hi=>hv i (Ho _ hi));exact ⟨Y,R',h3,h4,h5,(fin h6 h7).1,(fin h6 h7).2⟩
   | some s=>
    rw [hk] at h h1;simp only [oS] at h1;obtain ⟨Y,R',h3,h4,h5,h6,h7⟩:=rB.use (h v (Rt j) (fun u hu=>by have:=hs.get s u hu; rw [h1] at this; exact G7 this) h2) hs (fun i hi=>hv i (Ho _ hi))
    exact ⟨Y,R',h3,h4,h5,(fin h6 h7).1,(fin h6 h7).2⟩
  | some t=>
   rw [ht] at h h1;simp only [oS] at h1;obtain ⟨Y,R',h3,h4,h5,h6,h7⟩:=rB.use (h v (Rt j) h2) (hs.cons h1) (fun i hi=>hv i (Ho _ hi));refine ⟨Y++[(t,v)],R',by simpa using h3,by simpa using h4,?_,(fin h6 h7).1,(fin h6 h7).2⟩
   intro u w hm;rcases HV.1 hm with hm | hm
   ·exact h5 u w hm
   ·simp at hm; obtain ⟨rfl,rfl⟩:=hm; exact h1
def xb (l:List Oper) (m:Nat) (Es:List Env):Bool:=
 (List.range m).all fun i=>((Es.getD i []).map (·.1)).all fun t=>(List.range m).all fun w=>match (l[w]?).bind (·.dst) with
  | some u=>!Nat.beq u t || ((vE [] l).getD w 0).testBit i
  | none=>true
def tV (l:List Oper) (m:Nat) (L:Env):Bool:=
 (l.take m).all (fun o=>match o.dst with
  | some t=>(lk L t).isNone
  | none=>true)
def tW (l:List Oper) (m:Nat):Bool:=decide (((l.take m).filterMap (·.dst)).Nodup)
def BE (l:List Oper) (m K:Nat) (C U:List (List Nat)) (live:List Nat):Bool:=
 ((List.range m).all fun i=>(U.getD i []).all fun u=>(Nat.ble m u || match l[i]? with
  | some o=>(fK o).contains u
  | none=>false) && Nat.blt u K && (List.range m).all fun i'=>!(C.getD i' []).contains u || ((vE [] l).getD i' 0).testBit i) &&
 Nat.beq C.length m && (List.range m).all (fun i=>(C.getD i []).all fun c=>Nat.ble m c || match l[i]? with
  | some o=>(fK o).contains c
  | none=>false) &&
 (C.flatten++live).all (fun c=>Nat.blt c K) && ((List.range K).all fun k=>Nat.beq ((C.flatten++live).count k) 1) && (List.range m).all fun i=>decide ((U.getD i []).Nodup)
section
variable {x:Cx}{l:List Oper}{m K:Nat}{Φ:Fb}{C U:List (List Nat)}{live:List Nat}{I:List (List bR)}{Es:List Env}{H:Hp}{M:List bR}{L L0:Env}{Q:kF}
structure uj (l:List Oper) (m K:Nat) (C U:List (List Nat)) (live:List Nat):Prop where
 len:C.length=m
 wait:∀ i o,i<m→l[i]? = some o→∀ c ∈ C.getD i [],m≤c∨c ∈ fK o
 lt:∀ c ∈ C.flatten++live,c<K
 nd:(C.flatten++live).Nodup
 all:∀ k,k<K→k ∈ C.flatten++live
 F3:∀ i o,i<m→l[i]? = some o→∀ u ∈ U.getD i [],(m≤u∨u ∈ fK o)∧u<K
 F2:∀ i,i<m→∀ u ∈ U.getD i [],∀ i',i'<m→u ∈ C.getD i' []→((vE [] l).getD i' 0).testBit i=true
 GC:∀ i,i<m→(U.getD i []).Nodup
theorem EE (h:BE l m K C U live=true):uj l m K C U live:=by
 unfold BE at h;simp only [Jn] at h;obtain ⟨⟨⟨⟨⟨h0,h1⟩,h2⟩,h3⟩,h4⟩,h5⟩:=h;rw [IG] at h0 h2 h3 h4 h5;have hU:∀ i,i<m→∀ u ∈ U.getD i [],((Nat.ble m u || match l[i]? with
  | some o=>(fK o).contains u
  | none=>false)=true∧u<K)∧∀ i',i'<m→u ∈ C.getD i' []→((vE [] l).getD i' 0).testBit i=true:=by
  intro i hi u hu;have:=h0 i (Io.2 hi);rw [IG] at this;have:=this u hu;rw [Jn,Jn,IG] at this;refine ⟨⟨this.1.1,by simpa [IE] using this.1.2⟩,fun i' hi' hc=>?_⟩
  have h5:=this.2 i' (Io.2 hi');rw [Jd] at h5;rcases h5 with h5 | h5
  ·have h6:(C.getD i' []).contains u=true:=by rw [Ld]; exact hc
   rw [h6] at h5; cases h5
  ·exact h5
 have hc:∀ k,k<K→(C.flatten++live).count k=1:=fun k hk=>JC (h4 k (Io.2 hk));have hlt:∀ c ∈ C.flatten++live,c<K:=fun c hc=>by simpa [IE] using h3 c hc
 refine ⟨JC h1,?_,hlt,?_,?_,?_,fun i hi u hu=>(hU i hi u hu).2,fun i hi=>Hk (h5 i (Io.2 hi))⟩
 ·intro i o hi ho c hc
  have:=h2 i (Io.2 hi);rw [IG] at this;have:=this c hc;rw [ho] at this;simpa [Jd,Kn,Ld] using this
 ·rw [List.nodup_iff_count]
  intro a
  by_cases ha:a<K
  ·rw [hc a ha]; exact HH _
  ·rw [List.count_eq_zero.2 (fun hm=>ha (hlt a hm))]; omega
 ·intro k hk
  rw [← List.count_pos_iff,hc k hk]; omega
 ·intro i o hi ho u hu
  have:=(hU i hi u hu).1;rw [ho] at this;refine ⟨?_,this.2⟩;have h5:=this.1;rw [Jd] at h5;rcases h5 with h5 | h5
  ·exact .inl (by simpa [Kn] using h5)
  ·exact .inr (by simpa [Ld] using h5)
theorem uj.uniq (h:uj l m K C U live) {i i' k:Nat} (hi:k ∈ C.getD i []) (hi':k ∈ C.getD i' []):i=i':=by
 have hnd:=(IK.1 h.nd).1;unfold List.Nodup at hnd;rw [List.pairwise_flatten] at hnd;have hpw:=Ki.1 hnd.2;have g1:i<C.length:=by
  by_cases e:i<C.length
  ·exact e
  ·rw [HW,Iv (by omega)] at hi; simp at hi
 have g2:i'<C.length:=by
  by_cases e:i'<C.length
  ·exact e
  ·rw [HW,Iv (by omega)] at hi'; simp at hi'
 rw [HW,G9 g1] at hi;rw [HW,G9 g2] at hi';simp only [JA] at hi hi';rcases Ks i i' with q | q | q
 ·exact absurd rfl (hpw i i' g1 g2 q _ hi _ hi')
 ·exact q
 ·exact absurd rfl (hpw i' i g2 g1 q _ hi' _ hi)
theorem uj.mem (h:uj l m K C U live) {i k:Nat} (hi:k ∈ C.getD i []):k ∈ C.flatten:=by
 have g1:i<C.length:=by
  by_cases e:i<C.length
  ·exact e
  ·rw [HW,Iv (by omega)] at hi; simp at hi
 rw [HW,G9 g1] at hi;exact List.mem_flatten.2 ⟨_,Iy g1,hi⟩
theorem uj.GL (h:uj l m K C U live) (i:Nat):(C.getD i []).Nodup:=by
 have hnd:=(IK.1 h.nd).1;unfold List.Nodup at hnd;rw [List.pairwise_flatten] at hnd
 by_cases e:i<C.length
 ·rw [HW,G9 e]; exact hnd.1 _ (Iy e)
 ·rw [HW,Iv (by omega)]; simp
def alive (m:Nat) (C:List (List Nat)) (listed:Array Bool) (k:Nat):Bool:=(Nat.ble m k || listed.getD k false) && !(List.range m).any fun i=>listed.getD i false && (C.getD i []).contains k
theorem nN {listed:Array Bool}{k:Nat}:alive m C listed k=true↔(m≤k∨listed.getD k false=true)∧∀ i,i<m→listed.getD i false=true→k ∉ C.getD i []:=by
 unfold alive;simp only [Jn,Jd,Kn,Bool.not_eq_true',List.any_eq_false,Io,Ld];constructor
 ·rintro ⟨h1,h2⟩; exact ⟨h1,fun i hi hl hm=>h2 i hi ⟨hl,hm⟩⟩
 ·rintro ⟨h1,h2⟩; exact ⟨h1,fun i hi ⟨hl,hm⟩=>h2 i hi hl hm⟩
theorem yQ (hB:qO l m=true):∀ (f i:Nat) (listed:Array Bool) (a:Act) (w:World),m≤i→listed.size=l.length→i≤l.length→l.length≤i+f →
  (∀ j,j<l.length→listed.getD j true=decide (j<i))→wpList x.P l.toArray Q (l.drop i) a w→wpAny x.P .any l.toArray Q f listed a w
 | 0,i,listed,a,w,hm,hsz,hf0,hf,hl,h=>by
  have hi:i=l.length:=by omega
  refine ⟨?_,by rw [hi,KU] at h; exact h⟩
  rw [List.eq_nil_iff_forall_not_mem];intro j hj;obtain ⟨h1,h2,_⟩:=mem_ready.1 hj;rw [hl j (by simpa using h1)] at h2
  simp at h1 h2; omega
 | f+1,i,listed,a,w,hm,hsz,hf0,hf,hl,h=>by
  by_cases e2:i=l.length
  ·have hempty:Region.ready .any l.toArray listed=[]:=by
    rw [List.eq_nil_iff_forall_not_mem];intro j hj;obtain ⟨q1,q2,_⟩:=mem_ready.1 hj;rw [hl j (by simpa using q1)] at q2
    simp at q1 q2; omega
   exact ⟨fun _=>by rw [e2,KU] at h; exact h,fun j hj=>by rw [hempty] at hj; cases hj⟩
  ·have hi:i<l.length:=by omega
   have ho:l[i]? = some l[i]:=G9 hi;have hget:∀ j,j<l.length→listed.getD j false=decide (j<i):=fun j hj=>by
    have:=hl j hj;simp only [Ij] at this ⊢;rw [Kh (by omega)] at this ⊢
    simpa using this
   have hmem:i ∈ Region.ready .any l.toArray listed:=by
    refine mem_ready.2 ⟨by simpa using hi,by rw [hl i hi]; simp,l[i],by simp,fun j hj=>?_⟩
    have hj':=mM hB ho j hj;rw [hget j (by omega)]; simpa using hj'
   have huniq:∀ j ∈ Region.ready .any l.toArray listed,j=i:=by
    intro j hj;obtain ⟨q1,q2,o,ho',hw⟩:=mem_ready.1 hj;have q1':j<l.length:=by simpa using q1
    rw [hl j q1'] at q2;have hji:i≤j:=by simpa using q2
    by_cases e:j=i
    ·exact e
    ·exfalso
     have:=vP hB (listed:=fun q=>q<i) (fun k o hk hki q hq=>by have:=mM hB hk q hq; omega) (i:=j) (o:=o) (by simpa using ho') (by omega)
      (fun q hq=>by
       have h1:=hw q hq;have h2:=mM hB (i:=j) (o:=o) (by simpa using ho') q hq
       rw [hget q (by omega)] at h1
       simpa using h1) i (by omega)
     omega
   refine ⟨fun he=>(by rw [he] at hmem; cases hmem),fun j hj=>?_⟩
   obtain rfl:=huniq j hj;unfold wpOp;rw [show l.toArray[j]? = some l[j] from by simp]
   rw [Il hi] at h;have step:∀ a w,wpList x.P l.toArray Q (l.drop (j+1)) a w→wpAny x.P .any l.toArray Q f (listed.setIfInBounds j true) a w:=fun a w hh=>
    yQ hB f (j+1) _ a w (by omega) (by simpa using hsz) (by omega) (by omega) (fun k hk=>by
     rw [pX _ _ _ _ (by omega),hl k hk]
     by_cases e:k=j
     ·subst e; simp
     ·simp [e]; omega) hh
   unfold wpList at h
   dsimp only
   split
   ·rename_i hw; rw [Hl hw] at h; exact h.imp (Oper.wp_mono step) id
   ·rename_i hw; rw [Hh hw] at h; exact step _ _ h
theorem tH {A B:List Nat} (ha:A.Nodup) (hb:B.Nodup) (h:∀ a,a ∈ A↔a ∈ B) (R:Nat→List bR) (M:List bR):(A.flatMap R++M).Perm (B.flatMap R++M):=
 (((List.perm_ext_iff_of_nodup ha hb).2 h).flatMap_right R).append_right M
theorem pE {A:List Nat}{R R':Nat→List bR} (h:∀ a ∈ A,R a=R' a):A.flatMap R=A.flatMap R':=by
 induction A with
 | nil=>rfl
 | cons a A ih=>rw [LO,LO,h a (He ..),ih fun b hb=>h b (Ho _ hb)]
theorem Eu (hB:qO l m=true) (hml:m≤l.length) (hD:tV l m L0=true) (hX0:xb l m Es=true) (hL0:∀ t v,lk L0 t=some v→lk L t=some v) (hE:∀ i t v,lk (Es.getD i []) t=some v→lk L t=some v) (hNd:tW l m=true) (hT:uj l m K C U live) (hmK:m≤K)
  (hmono:∀ i H1 H2 rs v,H1.le H2→Φ i H1 rs v→Φ i H2 rs v)
  (hop:sH x l Φ C U Es (yW m I) H M L0 0 (l.take m))
  (k:∀ H',H.le H'→rB l Φ H' (List.range m) L0 (yW m I) (fun L' R=>W x l.toArray Q (l.drop m) H' (pB live R M) L')):
  ∀ (fuel:Nat) (listed:Array Bool) (a:Act) (w:World) (H':Hp) (R:Nat→List bR),listed.size=l.length→left l listed≤fuel→(∀ j,m≤j→j<l.length→listed.getD j true=false) →
   (∀ i o,l[i]? = some o→listed.getD i false=true→∀ j ∈ fK o,listed.getD j false=true) →
   H.le H'→St x.B x.w0 H' (((List.range K).filter (alive m C listed)).flatMap R++M) w→Sl x.N [] a→(∀ t v,lk L t=some v→(∀ w o,w<m→l[w]? = some o→o.dst=some t→listed.getD w false=false)→a.tmps[t]? = some v)→(∀ q,m≤q→R q=yW m I q) →
   (∀ i o,i<m→l[i]? = some o→listed.getD i true=true→∃ v,oS a v o.dst (Av l i)∧Φ i H' (R i) v) →
   wpAny x.P .any l.toArray Q fuel listed a w:=by
 have hdst:∀ i o t,i<m→l[i]? = some o→o.dst=some t→lk L0 t=none:=by
  intro i o t him ho hd;have htake:(l.take m)[i]? = some o:=by rw [It,Hl him]; exact ho
  unfold tV at hD;rw [IG] at hD;have:=hD o (Hu htake);rw [hd] at this; simpa using this
 have fin:∀ (fuel:Nat) (listed:Array Bool) (a:Act) (w:World) (H':Hp) (R:Nat→List bR),listed.size=l.length→left l listed≤fuel→(∀ j,m≤j→j<l.length→listed.getD j true=false) →
   H.le H'→St x.B x.w0 H' (((List.range K).filter (alive m C listed)).flatMap R++M) w→Sl x.N [] a→(∀ t v,lk L t=some v→(∀ w o,w<m→l[w]? = some o→o.dst=some t→listed.getD w false=false)→a.tmps[t]? = some v)→(∀ q,m≤q→R q=yW m I q) →
   (∀ i o,i<m→l[i]? = some o→listed.getD i true=true→∃ v,oS a v o.dst (Av l i)∧Φ i H' (R i) v) →
   (∀ j,j<m→listed.getD j true=true)→wpAny x.P .any l.toArray Q fuel listed a w:=by
  intro fuel listed a w H' R hsz hf htl hle ht hs0 hsl rS hv hall;have hs:Sl x.N L0 a:=⟨hs0.size,hs0.ye,fun t v h=>hsl t v (hL0 t v h) (fun w o hw ho hd=>by rw [hdst w o t hw ho hd] at h; cases h)⟩
  have hget:∀ j,j<l.length→listed.getD j false=listed.getD j true:=fun j hj=>by
   simp only [Ij];rw [Kh (by omega)]; rfl
  obtain ⟨Y,R',h1,h2,_,h3,h4⟩:=rB.use (Rt:=R) (k H' hle) hs (fun j hj=>by
   have hj':=Io.1 hj;have ho:l[j]? = some l[j]:=G9 (by omega)
   rw [ho];exact hv j _ hj' ho (hall j hj'))
  have hR:∀ q,R' q=R q:=fun q=>by
   by_cases hq:q<m
   ·exact h3 q (Io.2 hq)
   ·rw [h4 q (fun h=>hq (Io.1 h)),rS q (by omega)]
  have hwl:wpList x.P l.toArray Q (l.drop m) a w:=by
   refine h1 a w h2 (ht.perm ?_);rw [tN,pE (R:=R') (R':=R) (fun q _=>hR q)];refine tH (List.nodup_range.filter _) (IK.1 hT.nd).2.1 ?_ R M;intro q;rw [IX,Io,nN];constructor
   ·rintro ⟨h5,h6,h7⟩
    rcases HV.1 (hT.all q h5) with h8 | h8
    ·exfalso
     obtain ⟨c,hc,hqc⟩:=List.mem_flatten.1 h8;obtain ⟨i,hi,rfl⟩:=IN.1 hc;have him:i<m:=by rw [← hT.len]; exact hi
     refine h7 i him (by rw [hget i (by omega)]; exact hall i him) ?_
     rw [HW,G9 hi]; exact hqc
    ·exact h8
   ·intro hq
    refine ⟨hT.lt q (IH _ hq),?_,?_⟩
    ·by_cases e:m≤q
     ·exact .inl e
     ·exact .inr (by rw [hget q (by omega)]; exact hall q (by omega))
    ·intro i him _ hc
     exact (IK.1 hT.nd).2.2 q (hT.mem hc) q hq rfl
  have hl:∀ j,j<l.length→listed.getD j true=decide (j<m):=by
   intro j hj
   by_cases e:j<m
   ·rw [hall j e]; simp [e]
   ·rw [htl j (by omega) hj]; simp [e]
  have hcount:l.length≤m+fuel:=by
   have:l.length-m≤left l listed:=by
    unfold left;have h1:(List.range l.length).countP (fun i=>!listed.getD i true)=(List.range l.length).countP (fun i=>decide (m≤i)):=by
     refine List.countP_congr fun j hj=>?_;rw [hl j (Io.1 hj)];simp
    rw [h1];have h2:∀ n,(List.range n).countP (fun i=>decide (m≤i))=n-m:=by
     intro n
     induction n with
     | zero=>simp
     | succ n ihn=>
      rw [K1,List.countP_append,ihn];simp only [List.countP_cons,List.countP_nil]
      by_cases e:m≤n
      ·simp [e]; omega
      ·simp [e]; omega
    rw [h2]; exact HH _
   omega
  exact yQ hB fuel m listed a w (HH _) hsz hml hcount hl hwl
 intro fuel
 induction fuel with
 | zero=>
  intro listed a w H' R hsz hf htl hdc hle ht hs0 hsl rS hv;refine fin 0 listed a w H' R hsz hf htl hle ht hs0 hsl rS hv (fun j hj=>?_);have:left l listed=0:=by omega
  unfold left at this;rw [List.countP_eq_zero] at this;have:=this j (Io.2 (by omega))
  simpa using this
 | succ fuel ih=>
  intro listed a w H' R hsz hf htl hdc hle ht hs0 hsl rS hv
  by_cases hall:∀ j,j<m→listed.getD j true=true
  ·exact fin (fuel+1) listed a w H' R hsz hf htl hle ht hs0 hsl rS hv hall
  ·have hs:Sl x.N L0 a:=⟨hs0.size,hs0.ye,fun t v h=>hsl t v (hL0 t v h) (fun w o hw ho hd=>by rw [hdst w o t hw ho hd] at h; cases h)⟩
   have hget:∀ j,j<l.length→listed.getD j false=listed.getD j true:=fun j hj=>by
    simp only [Ij];rw [Kh (by omega)]; rfl
   have hex:∃ j,j<m∧listed.getD j true=false:=by
    refine Classical.byContradiction fun hno=>hall fun j hj=>?_;cases hb:listed.getD j true with
    | true=>rfl
    | false=>exact absurd ⟨j,hj,hb⟩ hno
   obtain ⟨j0,⟨hj0,hf0⟩,hleast⟩:=least (p:=fun j=>j<m∧listed.getD j true=false) hex.choose hex.choose_spec;have hne:Region.ready .any l.toArray listed≠[]:=by
    intro he;have hlt:j0<l.length:=by omega
    have ho:l[j0]? = some l[j0]:=G9 hlt;have:j0 ∈ Region.ready .any l.toArray listed:=by
     refine mem_ready.2 ⟨by simpa using hlt,hf0,l[j0],by simp,fun j hj=>?_⟩
     have hj':=mM hB ho j hj;rw [hget j (by omega)]
     cases hb:listed.getD j true with
     | true=>rfl
     | false=>have:=hleast j ⟨by omega,hb⟩; omega
    rw [he] at this; cases this
   refine ⟨fun he=>absurd he hne,fun i hi=>?_⟩;obtain ⟨h1,h2,o,ho',hw⟩:=mem_ready.1 hi;have h1':i<l.length:=by simpa using h1
   have ho:l[i]? = some o:=by simpa using ho'
   have him:i<m:=by
    by_cases e:i<m
    ·exact e
    ·exfalso
     have:=vP hB (listed:=fun q=>listed.getD q false=true) (fun k o hk hki q hq=>hdc k o hk hki q hq) ho (by omega) hw j0 (by omega)
     rw [hget j0 (by omega),hf0] at this; cases this
   have htake:(l.take m)[i]? = some o:=by rw [It,Hl him]; exact ho
   have hnl:listed.getD i false=false:=by rw [hget i h1']; exact h2
   have hCal:∀ c ∈ C.getD i [],c ∈ (List.range K).filter (alive m C listed):=by
    intro c hc;rw [IX,Io,nN];refine ⟨hT.lt c (Hb _ (hT.mem hc)),?_,?_⟩
    ·rcases hT.wait i o him ho c hc with h | h
     ·exact .inl h
     ·exact .inr (hw c h)
    ·intro i' hi' hl' hc'
     have:=hT.uniq hc hc';subst this;rw [hnl] at hl'; cases hl'
   let A:=(List.range K).filter (alive m C listed)
   let Bs:=A.filter (fun c=>!(C.getD i []).contains c)
   have hAnd:A.Nodup:=List.nodup_range.filter _;have hBnd:Bs.Nodup:=hAnd.filter _;have hperm:(A.flatMap R++M).Perm ((C.getD i []++Bs).flatMap R++M):=by
    refine tH hAnd ?_ ?_ R M
    ·refine IK.2 ⟨hT.GL i,hBnd,?_⟩
     rintro a ha b hb rfl;have:=(IX.1 hb).2;simp at this;exact this (by simpa [HW] using ha)
    ·intro q
     rw [HV];constructor
     ·intro hq
      by_cases hqc:q ∈ C.getD i []
      ·exact .inl hqc
      ·exact .inr (IX.2 ⟨hq,by simpa using hqc⟩)
     ·rintro (hq | hq)
      ·exact hCal q hq
      ·exact (IX.1 hq).1
   have ht1:=ht.perm hperm;rw [Ml,H6] at ht1
   let Rest:=Bs.flatMap R++M
   let X1:Env:=(List.range m).filterMap fun j=>if listed.getD j true then (l[j]?).bind fun o=>o.dst.map fun u=>(u,a.tmps.getD u undef) else none
   let X2:Env:=(L.map (·.1)).filterMap fun t=>if (List.range m).all (fun w=>match (l[w]?).bind (·.dst) with
    | some u=>!Nat.beq u t || !listed.getD w false
    | none=>true) then (lk L t).map fun v=>(t,v) else none
   let X:Env:=X1++X2
   have hX2:∀ u v,(u,v) ∈ X2→a.tmps[u]? = some v:=by
    intro u v hm;obtain ⟨t,ht',hh⟩:=JE.1 hm
    split at hh
    ·rename_i hall2
     rw [K8] at hh;obtain ⟨v',hv',hh⟩:=hh;cases hh;refine hsl _ _ hv' (fun w' o' hw' ho' hd'=>?_);rw [IG] at hall2;have h9:=hall2 w' (Io.2 hw');rw [ho'] at h9;simp only [Ke,hd'] at h9;have h10:Nat.beq u u=true:=Nat.beq_refl u;rw [h10] at h9;simpa using h9
    ·cases hh
   have hX1:∀ u v,(u,v) ∈ X1→a.tmps[u]? = some v:=by
    intro u v hm;obtain ⟨j,hj,hh⟩:=JE.1 hm
    split at hh
    ·rename_i hlj
     rw [LM] at hh;obtain ⟨oj,hoj,hh⟩:=hh;rw [K8] at hh;obtain ⟨u',hu',hh⟩:=hh;cases hh;obtain ⟨v',hv',_⟩:=hv j oj (Io.1 hj) hoj hlj;rw [hu'] at hv';simp only [oS] at hv';simp [Ij,hv']
    ·cases hh
   have hX:∀ u v,(u,v) ∈ X→a.tmps[u]? = some v:=fun u v hm=>(HV.1 hm).elim (hX1 u v) (hX2 u v);have hdep:=(sH.at hop i o htake) H' hle X Rest (fun s hs=>IH _ hs);simp only [H_] at hdep;have hwl:∀ j ∈ fK o,j<m∧listed.getD j true=true:=fun j hj=>by
    have h3:=mM hB ho j hj;refine ⟨by omega,?_⟩
    rw [← hget j (by omega)]; exact hw j hj
   have hEi:∀ t v,lk (Es.getD i []) t=some v→a.tmps[t]? = some v:=by
    intro t v h;refine hsl t v (hE i t v h) (fun w' o' hw' ho' hd'=>?_);cases hlw:listed.getD w' false with
    | false=>rfl
    | true=>
     exfalso;unfold xb at hX0;rw [IG] at hX0;have h1:=hX0 i (Io.2 him);rw [IG] at h1;have h2:=h1 t (II.2 ⟨_,zF h,rfl⟩);rw [IG] at h2;have h3:=h2 w' (Io.2 hw');rw [ho'] at h3;simp only [Ke,hd'] at h3;have h10:Nat.beq t t=true:=Nat.beq_refl t;rw [h10] at h3;simp only [Bool.not_true,Bool.false_or] at h3;have:=r7 (listed:=fun q=>listed.getD q false=true) (fun k o hk hki q hq=>hdc k o hk hki q hq) l [] (fun k q hk=>by simpa using hk) (fun k hk=>by simp at hk) w' (by simp; omega) o' ho' (fun q hq=>hdc w' o' ho' hlw q hq) i h3
     rw [hnl] at this; cases this
   have hsE:Sl x.N (Es.getD i []++(L0++X)) a:=by
    refine ⟨hs.size,hs.ye,fun t v h=>?_⟩;rw [tY] at h;cases hl:lk (Es.getD i []) t with
    | some u=>rw [hl] at h; simp at h; subst h; exact hEi t _ hl
    | none=>rw [hl] at h; simp at h; exact (hs.more hX).get t v h
   obtain ⟨Y,R',hk,hsY,hY,hR1,hR2⟩:=rB.use (Rt:=R) hdep hsE (fun j hj=>by
    have hj':=hwl j hj;have hoj:l[j]? = some l[j]:=G9 (by omega)
    rw [hoj];exact hv j _ hj'.1 hoj hj'.2)
   have hRC:∀ c ∈ C.getD i [],R' c=R c:=by
    intro c hc;rcases hT.wait i o him ho c hc with h | h
    ·rw [hR2 c (fun hcm=>by have:=hwl c hcm; omega),rS c h]
    ·exact hR1 c h
   have hRU:∀ u ∈ U.getD i [],R' u=R u:=by
    intro u hu;have h5:=hT.F3 i o him ho u hu;rcases h5.1 with h | h
    ·rw [hR2 u (fun hcm=>by have:=hwl u hcm; omega),rS u h]
    ·exact hR1 u h
   have hUB:∀ u ∈ U.getD i [],u ∈ Bs:=by
    intro u hu;have h5:=hT.F3 i o him ho u hu;refine IX.2 ⟨IX.2 ⟨Io.2 h5.2,nN.2 ⟨?_,?_⟩⟩,?_⟩
    ·rcases h5.1 with h | h
     ·exact .inl h
     ·exact .inr (hw u h)
    ·intro i' hi' hl' hc'
     have h6:=hT.F2 i him u hu i' hi' hc';have hoi:l[i']? = some l[i']:=G9 (by omega)
     have:=r7 (listed:=fun q=>listed.getD q false=true) (fun k o hk hki q hq=>hdc k o hk hki q hq) l [] (fun k q hk=>by simpa using hk) (fun k hk=>by simp at hk) i' (by simp; omega) _ hoi (fun q hq=>hdc i' _ hoi hl' q hq) i h6
     rw [hnl] at this; cases this
    ·have h7:u ∉ C.getD i []:=by
      intro hc;have h6:=hT.F2 i him u hu i him hc;have hoi:l[i]? = some o:=ho;have:=r7 (listed:=fun q=>q<i) (fun k o hk hki q hq=>by have:=mM hB hk q hq; omega) l [] (fun k q hk=>by simpa using hk) (fun k hk=>by simp at hk) i (by simpa using h1') o hoi (fun q hq=>mM hB ho q hq) i h6
      omega
     simpa using h7
   have hUR:∀ s ∈ pB (U.getD i []) R' [],s ∈ Rest:=by
    rw [tN,Ia];intro s hs;obtain ⟨u,hu,hsu⟩:=List.mem_flatMap.1 hs;rw [hRU u hu] at hsu;exact Hb _ (List.mem_flatMap.2 ⟨u,hUB u hu,hsu⟩)
   have hUP:∃ Rr,(pB (U.getD i []) R' Rr).Perm Rest:=by
    refine ⟨(Bs.filter fun c=>!(U.getD i []).contains c).flatMap R++M,?_⟩;rw [tN,pE (R:=R') (R':=R) hRU,← H6,← Ml];refine tH ?_ hBnd ?_ R M
    ·refine IK.2 ⟨hT.GC i him,hBnd.filter _,?_⟩
     rintro a ha b hb rfl;have:=(IX.1 hb).2;simp at this;exact this (by simpa [HW] using ha)
    ·intro q
     rw [HV];constructor
     ·rintro (hq | hq)
      ·exact hUB q hq
      ·exact (IX.1 hq).1
     ·intro hq
      by_cases hqu:q ∈ U.getD i []
      ·exact .inl hqu
      ·exact .inr (IX.2 ⟨hq,by simpa using hqu⟩)
   have hone:=hk hUR hUP a w hsY (by
    rw [tN,pE (R:=R') (R':=R) hRC];exact ht1)
   have fin2:∀ a' w',wU x H' Rest (Y++(Es.getD i []++(L0++X))) o.dst (Av l i) (Φ i) .normal a' w'→wpAny x.P .any l.toArray Q fuel (listed.setIfInBounds i true) a' w':=by
    rintro a' w' ⟨_,v,H2,rs,hs2,hnv,hle2,ht2,hφ⟩;have hcv:oS a' v o.dst (Av l i):=by
     cases hd:o.dst with
     | none=>
      cases hk:Av l i with
      | none=>rw [hd,hk] at hnv; exact hnv
      | some s=>rw [hd,hk] at hnv; rw [hd] at hs2; exact hs2.get s v hnv
     | some t=>rw [hd] at hs2; exact hs2.get t v (by simp only [Ew]; rw [oT]; simp)
    have hput:∀ u,o.dst≠some u→lk (Ew o.dst v (Y++(Es.getD i []++(L0++X)))) u=lk (Y++(Es.getD i []++(L0++X))) u:=by
     intro u hne;cases hd:o.dst with
     | none=>rfl
     | some t=>
      simp only [Ew];rw [oT,Hh (fun e=>hne (by rw [hd,e]))]
    have hYt:∀ u z,(u,z) ∈ Y++X→o.dst≠some u→a'.tmps[u]? = some z:=by
     intro u z hm hne;have hz:a.tmps[u]? = some z:=by
      rcases HV.1 hm with hm | hm
      ·exact hY u z hm
      ·exact hX u z hm
     have hlk:∃ z',lk (Y++(Es.getD i []++(L0++X))) u=some z':=by
      have hsome:∀ {E:Env}{u:Nat}{z:Value},(u,z) ∈ E→∃ z',lk E u=some z':=by
       intro E u z
       induction E with
       | nil=>simp
       | cons p E ihE=>
        obtain ⟨q,r⟩:=p;intro hm;rw [oT]
        split
        ·exact ⟨_,rfl⟩
        ·rename_i hne
         rcases Ik.1 hm with e | hm
         ·cases e; exact absurd rfl hne
         ·exact ihE hm
      rcases HV.1 hm with hm | hm
      ·exact hsome (Hb _ hm)
      ·exact hsome (IH _ (IH _ (IH _ hm)))
     obtain ⟨z',hz'⟩:=hlk;have e1:=hsY.get u z' hz';rw [hz] at e1;cases e1;exact hs2.get u z (by rw [hput u hne]; exact hz')
    have hset:∀ j,(listed.setIfInBounds i true).getD j false=if j=i then true else listed.getD j false:=fun j=>pX _ _ _ _ (by omega)
    refine ih (listed.setIfInBounds i true) a' w' H2 (wb R i rs) (by simpa using hsz) (by have:=CR (l:=l) hsz h1' h2; omega) (fun j hj hjl=>by rw [pX _ _ _ _ (by omega),Hh (by omega)]; exact htl j hj hjl) ?_ (G4 hle hle2) ?_ ?_ ?_ ?_ ?_
    ·intro j oj hoj hlj q hq
     rw [hset] at hlj ⊢
     split at hlj
     ·rename_i e; subst e
      rw [ho] at hoj; cases hoj
      split
      ·rfl
      ·exact hw q hq
     ·split
      ·rfl
      ·exact hdc j oj hoj hlj q hq
    ·
     have hiB:i ∉ Bs:=by
      intro hmB;have:=(IX.1 hmB).1;rw [IX,nN] at this;rcases this.2.1 with h | h
      ·omega
      ·rw [hnl] at h; cases h
     have e1:rs++Rest=((i::Bs).flatMap (wb R i rs))++M:=by
      rw [LO,uh,pE (A:=Bs) (R:=wb R i rs) (R':=R) (fun q hq=>uM _ _ _ _ (fun e=>hiB (by rw [← e]; exact hq))),H6]
     rw [e1] at ht2;refine ht2.perm (tH (Km.2 ⟨hiB,hBnd⟩) (List.nodup_range.filter _) ?_ _ M);intro q;rw [Ik,IX,IX,IX,Io,nN,nN];constructor
     ·rintro (rfl | ⟨⟨hqK,hq1,hq2⟩,hq3⟩)
      ·refine ⟨by omega,.inr (by rw [hset,Hl rfl]),?_⟩
       intro i' hi' hl' hc';rw [hset] at hl'
       split at hl'
       ·rename_i e; subst e
        rcases hT.wait i' o hi' ho _ hc' with h | h
        ·omega
        ·have:=mM hB ho _ h; omega
       ·have hoi:l[i']? = some l[i']:=G9 (by omega)
        rcases hT.wait i' _ hi' hoi _ hc' with h | h
        ·omega
        ·have:=hdc i' _ hoi hl' _ h
         rw [hnl] at this; cases this
      ·refine ⟨hqK,?_,?_⟩
       ·rcases hq1 with h | h
        ·exact .inl h
        ·exact .inr (by rw [hset]; split <;> simp [h])
       ·intro i' hi' hl' hc'
        rw [hset] at hl'
        split at hl'
        ·rename_i e; subst e
         simp at hq3;exact hq3 (by simpa [HW] using hc')
        ·exact hq2 i' hi' hl' hc'
     ·rintro ⟨hqK,hq1,hq2⟩
      by_cases hqi:q=i
      ·exact .inl hqi
      ·refine .inr ⟨⟨hqK,?_,?_⟩,?_⟩
       ·rcases hq1 with h | h
        ·exact .inl h
        ·rw [hset,Hh hqi] at h; exact .inr h
       ·intro i' hi' hl' hc'
        exact hq2 i' hi' (by rw [hset]; split <;> simp [hl']) hc'
       ·have:=hq2 i him (by rw [hset,Hl rfl])
        simpa using this
    ·exact ⟨hs2.size,hs2.ye,fun u z hu=>by simp [lk] at hu⟩
    ·intro u z hu hun
     have hne:o.dst≠some u:=fun e=>by
      have:=hun i o him ho e;rw [hset,Hl rfl] at this; cases this
     refine hYt u z (IH _ (IH _ (JE.2 ⟨u,II.2 ⟨_,zF hu,rfl⟩,?_⟩))) hne;rw [Hl,hu]
     ·rfl
     ·rw [IG]
      intro w' hw';have hw'':=Io.1 hw';have hoi:l[w']? = some l[w']:=G9 (by omega)
      rw [hoi];simp only [Ke];cases hd':l[w'].dst with
      | none=>rfl
      | some q=>
       by_cases e:q=u
       ·subst e
        have h9:=hun w' _ hw'' hoi hd';rw [hset] at h9
        split at h9
        ·cases h9
        ·simp [h9]
       ·have:Nat.beq q u=false:=by
         cases hb:Nat.beq q u with
         | false=>rfl
         | true=>exact absurd (JC hb) e
        simp [this]
    ·intro q hq
     rw [uM _ _ _ _ (by omega)]; exact rS q hq
    ·intro j oj hjm hoj hlj
     rw [pX _ _ _ _ (by omega)] at hlj
     by_cases e:j=i
     ·subst e
      rw [ho] at hoj; cases hoj
      rw [uh];exact ⟨v,hcv,hφ⟩
     ·rw [Hh e] at hlj
      rw [uM _ _ _ _ e];obtain ⟨z,hz,hφj⟩:=hv j oj hjm hoj hlj;refine ⟨z,?_,hmono _ _ _ _ _ hle2 hφj⟩;have hNd2:∀ (j:Nat) (oj:Oper) (u:Nat),j<m→l[j]? = some oj→j≠i→oj.dst=some u→o.dst≠some u:=by
       intro j oj u hjm hoj e hdj e2;unfold tW at hNd;have hnd:=Hk hNd;have hnd2:(l.take m).Pairwise (fun o1 o2=>∀ u,o1.dst=some u→∀ u',o2.dst=some u'→u≠u'):=by
        unfold List.Nodup at hnd;rw [List.pairwise_filterMap] at hnd;exact hnd.imp fun h u hu u' hu'=>h u hu u' hu'
       have htj:(l.take m)[j]? = some oj:=by rw [It,Hl hjm]; exact hoj
       obtain ⟨hi',p1⟩:=G6.1 htake;obtain ⟨hj',p2⟩:=G6.1 htj;have hpw:=Ki.1 hnd2;rcases Nat.lt_or_gt_of_ne e with q | q
       ·exact hpw j i hj' hi' q u (by rw [p2]; exact hdj) u (by rw [p1]; exact e2) rfl
       ·exact hpw i j hi' hj' q u (by rw [p1]; exact e2) u (by rw [p2]; exact hdj) rfl
      have hkeep:∀ (j:Nat) (oj:Oper) (u:Nat),j<m→l[j]? = some oj→listed.getD j true=true→j≠i→oj.dst=some u→a.tmps[u]? = some z→a'.tmps[u]? = some z:=by
       intro j oj u hjm hoj hlj e hdj hz;refine hYt u z (IH _ (Hb _ (JE.2 ⟨j,Io.2 hjm,?_⟩))) (hNd2 j oj u hjm hoj e hdj);simp [hlj,hoj,hdj,Ij,hz]
      cases hdj:oj.dst with
      | none=>
       rw [hdj] at hz;cases hk:Av l j with
       | none=>rw [hk] at hz; exact hz
       | some s=>
        rw [hk] at hz;simp only [oS] at hz ⊢;obtain ⟨o2,ho2,_,w2,hw2,hd2⟩:=Fx hk;rw [hoj] at ho2; cases ho2
        have hlt2:=mM hB hoj w2 hw2;have hl2:=hdc j oj hoj (by rw [hget j (by omega)]; exact hlj) w2 hw2
        have hne2:w2≠i:=by rintro rfl; rw [hnl] at hl2; cases hl2
        rw [LM] at hd2;obtain ⟨ow,how,hdw⟩:=hd2;exact hkeep w2 ow s (by omega) how (by rw [← hget w2 (by omega)]; exact hl2) hne2 hdw hz
      | some u=>
       rw [hdj] at hz;simp only [oS] at hz ⊢;exact hkeep j oj u hjm hoj hlj e hdj hz
   unfold wpOp;rw [show l.toArray[i]? = some o from by simpa using ho]
   unfold wpList at hone
   dsimp only
   by_cases hwn:Region.wanted o (yielded l.toArray a.tmps)=true
   ·rw [Hl hwn] at hone ⊢
    left
    rcases hone with h | ⟨_,a1,w1,h,_⟩
    ·unfold Oper.wp at h ⊢
     generalize (execOp a.eval o).run x.P w=r at h;have fin':∀ a' w',wpList x.P l.toArray (wU x H' Rest (Y++(Es.getD i []++(L0++X))) o.dst (Av l i) (Φ i)) [] a' w'→wpAny x.P .any l.toArray Q fuel (listed.setIfInBounds i true) a' w':=fun a' w' h=>fin2 a' w' h;cases r with
     | ok n w2=>
      cases n <;> simp only [Oper.upon] at h ⊢ <;> first
       | exact fin' _ _ h
       | exact Calls.mono h (fun e w3 he=>match e,he with
         | .returned v,he=>fin' _ _ he
         | .panicked c,he=>absurd he.1 (by simp)
         | .outgrown,he=>absurd he.choose_spec.choose_spec.1 (by simp))
       | exact Rows.mono h (fun v w3 he=>fin' _ _ he)
     | halt y w2=>
      cases y <;> simp only [Oper.upon] at h ⊢
      exact absurd h.1 (by simp)
    ·cases h
   ·rw [Hh hwn] at hone ⊢
    exact fin2 _ _ hone
def xK (L:Env):List Env→Prop
 | []=>True
 | E::r=>Kept L E∧xK L r
theorem xK.get {L:Env}:∀ {Es:List Env},xK L Es→∀ i t v,lk (Es.getD i []) t=some v→lk L t=some v
 | [],_,i,t,v,h=>by simp [lk] at h
 | E::r,hk,0,t,v,h=>hk.1.lk t v (by simpa using h)
 | E::r,hk,i+1,t,v,h=>xK.get hk.2 i t v (by simpa using h)
theorem s5 {id:Nat} (m:Nat) (Φ:Fb) (C U:List (List Nat)) (I:List (List bR)) (live:List Nat) (L0:Env) (Es:List Env) (hmix:x.P.follows .mixedOrders=true) (hB:qO l m=true) (hml:Nat.ble m l.length=true) (hD:tV l m L0=true) (hX:xb l m Es=true) (hL0:∀ t v,lk L0 t=some v→lk L t=some v) (hE:xK L Es) (hNd:tW l m=true)
  (hT:BE l m (m+I.length) C U live=true)
  (hmono:∀ i H1 H2 rs v,H1.le H2→Φ i H1 rs v→Φ i H2 rs v)
  (hop:sH x l Φ C U Es (yW m I) H M L0 0 (l.take m))
  (k:∀ H',H.le H'→rB l Φ H' (List.range m) L0 (yW m I) (fun L' R=>W x l.toArray Q (l.drop m) H' (pB live R M) L')):Go.Sim.C x (.region id l.toArray true) Q H (I.flatten++M) L:=by
 intro a w hs ht;refine wp_region_any hmix ?_;have hml':m≤l.length:=by simpa [Kn] using hml
 have hlist:∀ j,(Array.replicate l.toArray.size false).getD j true=if j<l.length then false else true:=by
  intro j;simp only [Ij,Array.getElem?_replicate,Kr]
  split <;> simp
 have hlist2:∀ j,(Array.replicate l.toArray.size false).getD j false=false:=by
  intro j;simp only [Ij,Array.getElem?_replicate,Kr]
  split <;> simp
 have hstart:((List.range (m+I.length)).filter (alive m C (Array.replicate l.toArray.size false))).flatMap (yW m I)=I.flatten:=by
  rw [List.range_add,KC];have e1:(List.range m).filter (alive m C (Array.replicate l.toArray.size false))=[]:=by
   rw [List.filter_eq_nil_iff];intro q hq;rw [nN];rintro ⟨h | h,_⟩
   ·have:=Io.1 hq; omega
   ·rw [hlist2] at h; cases h
  have e2:((List.range I.length).map (m+·)).filter (alive m C (Array.replicate l.toArray.size false))=(List.range I.length).map (m+·):=by
   rw [Mk];intro q hq;obtain ⟨r,hr,rfl⟩:=II.1 hq;rw [nN];exact ⟨.inl (by omega),fun i _ h=>by rw [hlist2] at h; cases h⟩
  rw [e1,e2,Jw,List.flatMap_map];have e3:(List.range I.length).flatMap (fun q=>yW m I (m+q))=((List.range I.length).map fun q=>I.getD q []).flatten:=by
   rw [List.flatMap_def]
   congr 1
   refine List.map_congr_left fun q _=>?_;unfold yW;rw [Hh (by omega),JG]
  rw [e3]
  congr 1
  apply Ji;intro q;rw [HZ]
  by_cases hq:q<I.length
  ·rw [JB hq,G9 hq]; simp [HW,hq]
  ·rw [Iv (by simp; omega),Iv (by omega)]; rfl
 refine Eu (Q:=Q) (K:=m+I.length) hB hml' hD hX hL0 (fun i t v h=>hE.get i t v h) hNd (EE hT) (by omega) hmono hop k l.toArray.size _ a _ H (yW m I) (by simp) ?_ (fun j hj hjl=>by rw [hlist,Hl hjl]) (fun i o _ h=>by rw [hlist2] at h; cases h) (G8 _) ?_ ⟨hs.size,hs.ye,fun t v h=>by simp [lk] at h⟩ (fun t v h _=>hs.get t v h) (fun _ _=>rfl) ?_
 ·unfold left
  exact IY (Kf ..) (by simp)
 ·rw [hstart]; exact ht.drewN _
 ·intro i o hi ho hl
  rw [hlist,Hl (by omega)] at hl
  cases hl
theorem mZ {id:Nat} (m:Nat) (Φ:Fb) (C U:List (List Nat)) (I:List (List bR)) (live:List Nat) (hmix:x.P.follows .mixedOrders=true) (hB:qO l m=true) (hml:Nat.ble m l.length=true) (hD:tV l m L=true) (hNd:tW l m=true)
  (hT:BE l m (m+I.length) C U live=true)
  (hmono:∀ i H1 H2 rs v,H1.le H2→Φ i H1 rs v→Φ i H2 rs v)
  (hop:sH x l Φ C U [] (yW m I) H M L 0 (l.take m))
  (k:∀ H',H.le H'→rB l Φ H' (List.range m) L (yW m I) (fun L' R=>W x l.toArray Q (l.drop m) H' (pB live R M) L')):Go.Sim.C x (.region id l.toArray true) Q H (I.flatten++M) L:=
 s5 m Φ C U I live L [] hmix hB hml hD (by unfold xb; simp) (fun _ _ h=>h) G_ hNd hT hmono hop k
end
section
variable {x:Cx}{ops:Array Oper}{Q:kF}{rest:List Oper}{H:Hp}{M M':List bR}{L L':Env}
theorem gI {M'} (h:M=M') (k:W x ops Q rest H M' L):W x ops Q rest H M L:=h▸k
theorem sZ {c:Code}{M'} (h:M=M') (k:C x c Q H M' L):C x c Q H M L:=h▸k
theorem Gc {e:Exit}{M'} (h:M=M') (k:E x e Q H M' L):E x e Q H M L:=h▸k
theorem pd {e:Exit} (hM:M.Perm M') (k:E x e Q H M' L):E x e Q H M L:=fun a w hs ht=>k a w hs (ht.perm hM)
theorem pc {c:Code} (hM:M.Perm M') (k:C x c Q H M' L):C x c Q H M L:=fun a w hs ht=>k a w hs (ht.perm hM)
theorem qS {c:Code}{v:Value}{T:TypeId}{sz n:Nat}{xs:List Value} (hm:bR.row v T sz n xs ∈ M) (k:n≤maxLen→C x c Q H M L):C x c Q H M L:=fun a w hs ht=>by
 have hok:fN w T sz v n xs:=ht.ok _ hm;refine k ?_ a w hs ht;rcases hok.2 with ⟨_,rfl⟩ | ⟨g,off,cap,cur,rfl,hg,hnc,hcm,_⟩
 ·unfold maxLen; omega
 ·omega
theorem aZ {e:Exit}{H0:Hp} (hle:H0.le H) (k:E x e Q H0 M L):E x e Q H M L:=fun a w hs ht=>k a w hs (ht.ES hle)
end
section
variable {P:Program}{N B:Nat}{w0:World}{fn:Func}{Φ:Hp→List bR→Value→Prop}{H:Hp}{M:List bR}{L:Env}
theorem xH (k:E ⟨P,N,B,w0⟩ .ret (bodyPost P fn (fG B w0 Φ)) H M L):E ⟨P,N,B,w0⟩ .normal (bodyPost P fn (fG B w0 Φ)) H M L:=fun a w hs ht=>k a w hs ht
theorem A9 (hr:fn.results=#[]) (h:Φ H M (.tuple #[])):E ⟨P,N,B,w0⟩ .ret (bodyPost P fn (fG B w0 Φ)) H M L:=
 fun a w hs ht=>⟨hs.ye,.tuple #[],by simp [results,hr],H,M,ht,h⟩
theorem Fp {t u s:Nat}{v1 v2 v3:Value} (hr:fn.results=#[.tmp t,.tmp u,.tmp s]) (hl:lk L t=some v1) (hl2:lk L u=some v2) (hl3:lk L s=some v3) (h:Φ H M (.tuple #[v1,v2,v3])):E ⟨P,N,B,w0⟩ .ret (bodyPost P fn (fG B w0 Φ)) H M L:=
 fun a w hs ht=>⟨hs.ye,.tuple #[v1,v2,v3],by simp [results,hr,Ij,hs.get t v1 hl,hs.get u v2 hl2,hs.get s v3 hl3],H,M,ht,h⟩
end
class Flat (α:Type) [aF α]:Prop where
 ind:∀ {H H':Hp}{cs:List Value}{x:α},aF.E H cs x→aF.E H' cs x
instance:Flat Int:=⟨fun h=>h⟩
instance:Flat Bool:=⟨fun h=>h⟩
instance:Flat ByteArray:=⟨fun h=>h⟩
instance:Flat U8:=⟨fun h=>h⟩
instance:Flat Gi:=⟨fun h=>h⟩
instance:Flat bG:=⟨fun h=>h⟩
instance:Flat Gk:=⟨fun h=>h⟩
instance:Flat Ge:=⟨fun h=>h⟩
theorem mC.flat {α:Type}[aF α] [Flat α] {H H':Hp}:∀ {cs:List Value}{ys:List α},mC H cs ys→mC H' cs ys
 | _,[],h=>h
 | _,_::_,⟨c,r,e,h,k⟩=>⟨c,r,e,Flat.ind h,mC.flat k⟩
def qt {α:Type}[aF α] (v:Value) (xs:List Value) (l:List α):Prop:=∀ H,Rw H v xs l
def Gg {α:Type}[aF α] (xs:List Value) (l:List α):Prop:=∀ H,mC H xs l
theorem Rw.nh {α:Type}[aF α] [Flat α] {H:Hp}{v:Value}{xs:List Value}{l:List α} (h:Rw H v xs l):qt v xs l:=fun H'=>⟨h.rd.flat,h.sl⟩
theorem mC.nh {α:Type}[aF α] [Flat α] {H:Hp}{xs:List Value}{l:List α} (h:mC H xs l):Gg xs l:=fun H'=>h.flat
def Bp {α R:Type} (o:Option α) (a:R) (f:α→R):R:=match o with
 | none=>a
 | some s=>f s
theorem Fz {α R:Type}{o:Option α}{a:R}{f:α→R}{r:R} (h:o=none) (k:Bp o a f=r):a=r:=by subst h; exact k
theorem FA {α R:Type}{o:Option α}{a:R}{f:α→R}{s:α}{r:R} (h:o=some s) (k:Bp o a f=r):f s=r:=by subst h; exact k
def uB (l:List (Hp→List bR→Value→Prop)) (i:Nat):Hp→List bR→Value→Prop:=l.getD i (fun _ _ _=>True)
def EW (p:Hp→List bR→Value→Prop):Prop:=∀ H1 H2 rs v,H1.le H2→p H1 rs v→p H2 rs v
def wT:List (Hp→List bR→Value→Prop)→Prop
 | []=>True
 | p::l=>EW p∧wT l
theorem pP {l:List (Hp→List bR→Value→Prop)} (h:wT l):∀ i H1 H2 rs v,H1.le H2→uB l i H1 rs v→uB l i H2 rs v:=by
 induction l with
 | nil=>intro i H1 H2 rs v _ _; exact G_
 | cons p l ih=>
  intro i H1 H2 rs v hle hp;cases i with
  | zero=>exact h.1 H1 H2 rs v hle hp
  | succ i=>exact ih h.2 i H1 H2 rs v hle hp
theorem eQ (rs0:List bR) (c:Value):EW (fun _ rs v=>rs0=rs∧c=v):=fun _ _ _ _ _ h=>h
section
variable {x:Cx}{ops:Array Oper}{Q:kF}{rest:List Oper}{H:Hp}{M M':List bR}{L L':Env}
variable {d:Nat}{ty:TypeId}{pos:String}{aft:Array Edge}{g:Option (Nat×Bool)}
theorem lY {t e m sz:Nat}{y z:Operand}{ad:Addr}{kk:IntKind}{i:Int}
  (hg:gd ops L ⟨some d,.indexAddr t y z,ty,pos,aft,g⟩=some true) (hN:Nat.blt d x.N=true)
  (hT:∀ w,(underlying t).run x.P w=.ok (.array m e) w) (hs:∀ w,(sizeOf e).run x.P w=.ok sz w)
  (hy:ev L y=some (.pointer (some ad))) (hz:ev L z=some (.int kk i)) (h0:0≤i) (h1:i.toNat<m)
  (k:W x ops Q rest H M ((d,.pointer (some (ad.add (i.toNat*sz))))::L)):
  W x ops Q (⟨some d,.indexAddr t y z,ty,pos,aft,g⟩::rest) H M L:=
 dX rfl hg hN (fun c w hsl ht=>by
  have h1':i<(m:Int):=by omega
  simp [execOp,hsl.ev hy,hsl.ev hz,Instr.indexAt,asIntOf,hT,hs,h0,h1',Instr.sureAddr]) k
theorem cX {T E:TypeId}{m sz n n' i:Nat}{y z:Operand}{v u:Value}{ad:Addr}{xs cs:List Value} (hg:gd ops L ⟨none,.store T y z,ty,pos,aft,g⟩=some true)
  (hn:∀ w,(sizeOf T).run x.P w=.ok m w) (hy:ev L y=some (.pointer (some ad))) (had:ad=(Value.base v).add i) (hz:ev L z=some u) (hv:u.cells=cs.toArray) (hl:cs.length=m)
  (hb:i+cs.length≤xs.length) (hpos:Nat.blt 0 cs.length=true) (h1:∀ c ∈ cs,c.oneCell'=true) (hnn:n'=n)
  (k:W x ops Q rest H (.row v E sz n' (over xs i cs)::M) L):
  W x ops Q (⟨none,.store T y z,ty,pos,aft,g⟩::rest) H (.row v E sz n xs::M) L:=by
 subst hnn;exact rN hg hn hy had hz hv hl hb hpos h1 k
theorem uU {T e m sz:Nat}{ps:List (Nat×Operand)}{vs:List Value}{css:List (List Value)}{z:Value}{zs out:List Value}{places:List (Nat×Nat)}
  (hg:gd ops L ⟨some d,.build T ps.toArray,ty,pos,aft,g⟩=some true) (hN:Nat.blt d x.N=true)
  (hv:tX L (ps.map (·.2))=some vs) (hc:tP vs css)
  (hz:∀ w,(zeroValue T).run x.P w=.ok z w) (hzs:z.cells=zs.toArray) (hT:∀ w,(underlying T).run x.P w=.ok (.array m e) w) (hs:∀ w,(sizeOf e).run x.P w=.ok sz w)
  (hpl:places=(List.range m).map fun i=>(i*sz,sz))
  (ho:laid places zs ((ps.map (·.1)).zip css)=some out)
  (k:W x ops Q rest H M ((d,.agg out.toArray)::L)):
  W x ops Q (⟨some d,.build T ps.toArray,ty,pos,aft,g⟩::rest) H M L:=
 dX rfl hg hN (fun a w hsl ht=>by
  have hl:(ps.map (·.1)).length=vs.length:=by rw [← hsl.tX hv]; simp
  have hf:=qW (place:=fun i=>some (i*sz,sz)) (places:=places) (fun i o h=>by
   rw [hpl,HZ] at h;cases hh:(List.range m)[i]? with
   | none=>rw [hh] at h; cases h
   | some j=>
    rw [hh] at h;have:j=i:=by
     have:=G6.1 hh;simpa using this.2.symm
    subst this;simpa using h) (ps.map (·.1)) vs css zs out hc hl ho
  have hps:=uI hsl hv;simp only [execOp,Instr.build,Hx,hz,Hr,hT,hzs,hs];simp only [hps,hf,HL,Hr]) k
theorem dT {α:Type}[aF α] {T e:TypeId}{n:Nat}{ps:List (Nat×Operand)}{vs:List Value}{css:List (List Value)}{z:Value}{zs out:List Value}{places:List (Nat×Nat)}{ys:List α}
  (hg:gd ops L ⟨some d,.buildSlice T n ps.toArray,ty,pos,aft,g⟩=some true) (hN:Nat.blt d x.N=true)
  (hv:tX L (ps.map (·.2))=some vs) (hc:tP vs css)
  (hT:∀ w,(underlying T).run x.P w=.ok (.slice e) w) (hs:∀ w,(sizeOf e).run x.P w=.ok (aF.sz α) w) (hs0:Nat.blt 0 (aF.sz α)=true)
  (hz:∀ w,(zeroValue e).run x.P w=.ok z w) (hzs:(Array.range (n*aF.sz α)).map (z.cells[·%z.cells.size]!)=zs.toArray)
  (hpl:places=(List.range n).map fun i=>(i*aF.sz α,aF.sz α)) (hn:Nat.ble (n*aF.sz α) 16777216=true) (hnn:Nat.blt 0 n=true)
  (ho:laid places zs ((ps.map (·.1)).zip css)=some out) (hr:mC H out ys) (hyn:ys.length=n)
  (k:∀ v' xs',Rw H v' xs' ys→W x ops Q rest H (.row v' e (aF.sz α) ys.length xs'::M) ((d,v')::L)):
  W x ops Q (⟨some d,.buildSlice T n ps.toArray,ty,pos,aft,g⟩::rest) H M L:=by
 refine ot rfl hg hN fun a w hsl ht=>?_;have hl:(ps.map (·.1)).length=vs.length:=by rw [← hsl.tX hv]; simp
 have hs0':0<aF.sz α:=by simpa [IE] using hs0
 have hn':n*aF.sz α≤16777216:=by simpa [Kn] using hn
 have hnn':0<n:=by simpa [IE] using hnn
 have hpos:0<n*aF.sz α:=Nat.mul_pos hnn' hs0';have hf:=qW (place:=fun i=>some (i*aF.sz α,aF.sz α)) (places:=places) (fun i o h=>by
  rw [hpl,HZ] at h;cases hh:(List.range n)[i]? with
  | none=>rw [hh] at h; cases h
  | some j=>
   rw [hh] at h;have:j=i:=by
    have:=G6.1 hh;simpa using this.2.symm
   subst this;simpa using h) (ps.map (·.1)) vs css zs out hc hl ho
 have hps:=uI hsl hv;have hsz:out.length=n*aF.sz α:=by rw [hr.len,hyn]
 have hmax:ys.length≤maxLen:=by
  unfold maxLen;have:n≤n*aF.sz α:=Ku _ hs0';omega
 refine ⟨.slice (some ⟨w.heap.size,0,none⟩) ys.length ys.length,w.alloc (.cells out.toArray e),?_,H,_,St.newRow (e:=e) ht hr hmax,k _ _ ⟨hr,_,_,_,rfl⟩⟩;have h1:¬ (2 ^ 24<n*aF.sz α):=by omega
 have h2:¬ (n*aF.sz α=0):=by omega
 simp only [execOp,Instr.buildSlice,Hx,hT,Hr,hs,gt_iff_lt,h1,h2,JL,hz,HL];simp only [hps];have hf':Instr.fill (fun i=>some (i*aF.sz α,aF.sz α)) ((Array.range (n*aF.sz α)).map (z.cells[·%z.cells.size]!)) ((List.map (fun x=>x.fst) ps).zip vs)=some out.toArray:=by
  rw [hzs]; exact hf
 simp only [hf',newRow,newObj,Hx,HL,Sem.run,Hr,World.alloc,hyn]
end
inductive eT (P:Program) (M:List bR) (L:Env):ResultVar→Value→Prop
 | tmp {t}{v:Value} (h:lk L t=some v):eT P M L (.tmp t) v
 | one {t ty b T}{l:List Value}{fz}{v:Value} (h:lk L t=some (.pointer (some ⟨b,0,none⟩))) (hA:∀ w,(isAgg ty).run P w=.ok false w) (hm:bR.obj b (.cells (v::l).toArray T fz) ∈ M):eT P M L (.cell t ty) v
 | agg {t ty b T}{l:List Value}{fz n} (h:lk L t=some (.pointer (some ⟨b,0,none⟩))) (hA:∀ w,(isAgg ty).run P w=.ok true w) (hn:∀ w,(sizeOf ty).run P w=.ok n w) (hm:bR.obj b (.cells l.toArray T fz) ∈ M) (hl:l.length=n):eT P M L (.cell t ty) (.agg l.toArray)
 | arr {t ty v T sz k}{xs:List Value}{n} (h:lk L t=some (.pointer (some (Value.base v)))) (hA:∀ w,(isAgg ty).run P w=.ok true w) (hn:∀ w,(sizeOf ty).run P w=.ok n w) (hm:bR.row v T sz k xs ∈ M) (hl:xs.length=n):eT P M L (.cell t ty) (.agg xs.toArray)
def Bc (tmps:Array Value):ResultVar→Sem Value
 | .tmp t=>pure (tmps.getD t undef)
 | .cell a t=>do loadVar t (← asAddr (tmps.getD a undef))
theorem r_ (fn:Func) (tmps:Array Value):results fn tmps=(do
  let vs ← fn.results.mapM (Bc tmps)
  pure (if h:vs.size=1 then vs[0] else .tuple vs)):=rfl
theorem eT.run {P:Program}{M:List bR}{L:Env}{N B:Nat}{w0 w:World}{H:Hp}{a:Act}{rv:ResultVar}{v:Value} (h:eT P M L rv v) (hs:Sl N L a) (ht:St B w0 H M w):
  (Bc a.tmps rv).run P w=.ok v w:=by
 cases h with
 | tmp h=>simp [Bc,Ij,hs.get _ _ h]
 | one h hA hm=>
  have hc:=(bV (x:=⟨P,N,B,w0⟩) (H:=H) hm (off:=0) (v:=v) rfl) w ht;simp [Bc,Ij,hs.get _ _ h,asAddr,loadVar,hA,load,Sem.run,hc]
 | agg h hA hn hm hl=>
  rename_i t ty b T l fz n
  have hc:=(eG (x:=⟨P,N,B,w0⟩) (H:=H) hm);have hr:=run_loadCellsFrom (P:=P) (w:=w) (ad:=⟨b,0,none⟩) l 0 #[] (fun j v hv=>by rw [H_]; exact hc j v hv w ht)
  rw [hl] at hr;simp [Bc,Ij,hs.get _ _ h,asAddr,loadVar,hA,hn,loadCells,hr]
 | arr h hA hn hm hl=>
  rename_i t ty v T sz k xs n
  have hr:=run_loadCellsFrom (P:=P) (w:=w) (ad:=Value.base v) xs 0 #[] (fun j u hu=>by rw [H_]; exact (vV (x:=⟨P,N,B,w0⟩) (H:=H) hm hu) w ht)
  rw [hl] at hr;simp [Bc,Ij,hs.get _ _ h,asAddr,loadVar,hA,hn,loadCells,hr]
section
variable {P:Program}{N B:Nat}{w0:World}{fn:Func}{Φ:Hp→List bR→Value→Prop}{H H0:Hp}{M M1 M2:List bR}{L:Env}
theorem iE {r1:ResultVar}{v1:Value} (hle:H0.le H) (hr:fn.results=#[r1]) (h1:eT P M L r1 v1) (hd:M1.Sublist M) (hp:M1.Perm M2) (h:Φ H0 M2 v1):
  E ⟨P,N,B,w0⟩ .ret (bodyPost P fn (fG B w0 Φ)) H M L:=fun a w hs ht=>by
 have q1:=h1.run hs ht;refine ⟨hs.ye,v1,?_,H0,M2,((ht.sub hd).perm hp).ES hle,h⟩;rw [r_,hr];simp [q1]
theorem wD {r1 r2:ResultVar}{v1 v2:Value} (hle:H0.le H) (hr:fn.results=#[r1,r2]) (h1:eT P M L r1 v1) (h2:eT P M L r2 v2) (hd:M1.Sublist M) (hp:M1.Perm M2) (h:Φ H0 M2 (.tuple #[v1,v2])):
  E ⟨P,N,B,w0⟩ .ret (bodyPost P fn (fG B w0 Φ)) H M L:=fun a w hs ht=>by
 have q1:=h1.run hs ht;have q2:=h2.run hs ht;refine ⟨hs.ye,_,?_,H0,M2,((ht.sub hd).perm hp).ES hle,h⟩;rw [r_,hr];simp [q1,q2]
theorem yf {r1 r2 r3:ResultVar}{v1 v2 v3:Value} (hle:H0.le H) (hr:fn.results=#[r1,r2,r3]) (h1:eT P M L r1 v1) (h2:eT P M L r2 v2) (h3:eT P M L r3 v3) (hd:M1.Sublist M) (hp:M1.Perm M2) (h:Φ H0 M2 (.tuple #[v1,v2,v3])):
  E ⟨P,N,B,w0⟩ .ret (bodyPost P fn (fG B w0 Φ)) H M L:=fun a w hs ht=>by
 have q1:=h1.run hs ht;have q2:=h2.run hs ht;have q3:=h3.run hs ht;refine ⟨hs.ye,_,?_,H0,M2,((ht.sub hd).perm hp).ES hle,h⟩;rw [r_,hr];simp [q1,q2,q3]
end
theorem aI.shape {α:Type}[aF α] {H:Hp}{v:Value}{xs:List α} (h:aI H v xs):∃ o n c,v=.slice o n c:=by
 obtain ⟨a,c,rfl,_⟩:=h.len; exact ⟨_,_,_,rfl⟩
theorem aI.isNil {α:Type}[aF α] {H:Hp}{n c:Nat}{xs:List α} (h:aI H (.slice none n c) xs):xs=[]:=by
 rcases h with ⟨_,h⟩ | ⟨b,off,cap,arr,T,fz,h,_⟩
 ·exact h
 ·cases h
def FN {α:Type} (v:Value) (l:List α):Prop:=(∃ n c,v=.slice none n c∧l=[])∨(∃ a n c,v=.slice (some a) n c∧l≠[])
theorem FN.nil {α:Type}:FN (.slice none 0 0) ([]:List α):=.inl ⟨_,_,rfl,rfl⟩
section
variable {x:Cx}{ops:Array Oper}{Q:kF}{rest:List Oper}{H:Hp}{M M':List bR}{L L':Env}
variable {d:Nat}{ty:TypeId}{pos:String}{aft:Array Edge}{g:Option (Nat×Bool)}
theorem ET {α:Type}[aF α] {H:Hp}{zs:List Value}{ze:α} (hE:aF.E H zs ze) (hzl:zs.length=aF.sz α):∀ q,mC H ((List.range (q*aF.sz α)).map (zs.toArray[·%zs.length]!)) (List.replicate q ze):=by
 intro q
 induction q with
 | zero=>rw [Jc]; exact rfl
 | succ q ih=>
  have hsplit:(List.range ((q+1)*aF.sz α)).map (zs.toArray[·%zs.length]!)=zs++(List.range (q*aF.sz α)).map (zs.toArray[·%zs.length]!):=by
   apply Ji;intro j;rw [Jv,HZ]
   by_cases hj:j<zs.length
   ·rw [Hl hj,JB (by rw [HI]; omega)]
    simp [Jr hj,hj]
   ·rw [Hh hj,HZ]
    by_cases hj2:j<(q+1)*aF.sz α
    ·rw [JB hj2,JB (by rw [HI] at hj2; omega)]
     simp only [I7];rw [← Nat.mod_eq_sub_mod (by omega)]
    ·rw [Iv (by simp; omega),Iv (by rw [HI] at hj2; simp; omega)]
  rw [hsplit];exact ⟨zs,_,rfl,hE,ih⟩
end
end Go.Sim
