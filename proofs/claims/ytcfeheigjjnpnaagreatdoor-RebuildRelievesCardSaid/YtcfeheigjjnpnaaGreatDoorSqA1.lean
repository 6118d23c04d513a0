/-
  The proof, part A1.
-/
import Derived.WalkKit
import Derived.WalkSpells
import Derived.WalkLawsBesides
import Derived.Lib.AppendZeros
set_option linter.unusedVariables false
set_option linter.unusedSimpArgs false
set_option linter.unusedSectionVars false
set_option linter.unnecessarySimpa false
namespace Go.Sim
abbrev IL := @Go.Addr.add_lit
abbrev It := @Array.getD_eq_getD_getElem?
abbrev Ks := @Array.getElem?_eq_getElem
abbrev Ja := @Array.getElem?_eq_some_iff
abbrev L_ := @Array.getElem?_modify
abbrev Ll := @Array.getElem?_setIfInBounds
abbrev Mn := @Array.toList_append
abbrev Jp := @Bool.and_eq_true
abbrev Js := @Bool.false_eq_true
abbrev Li := @Bool.not_eq_true'
abbrev Jl := @Bool.or_eq_true
abbrev Iw := @Int.natCast_mul
abbrev Hj := @Int.toNat_natCast
abbrev IT := @List.all_eq_true
abbrev Ia := @List.append_assoc
abbrev Ij := @List.append_nil
abbrev J4 := @List.cons_append
abbrev Ln := @List.contains_iff_mem
abbrev Kq := @List.countP_le_length
abbrev KC := @List.drop_append_of_le_length
abbrev Jt := @List.drop_drop
abbrev Iu := @List.drop_eq_getElem_cons
abbrev KE := @List.drop_length
abbrev Kg := @List.drop_set_of_lt
abbrev J9 := @List.drop_take
abbrev Jb := @List.drop_zero
abbrev H6 := @List.eq_nil_of_length_eq_zero
abbrev Jx := @List.ext_getElem?
abbrev J1 := @List.filterMap_cons
abbrev JS := @List.filter_append
abbrev LA := @List.filter_eq_self
abbrev Mp := @List.flatMap_append
abbrev L1 := @List.flatMap_cons
abbrev H9 := @List.getD_eq_getElem?_getD
abbrev JW := @List.getElem?_append
abbrev IV := @List.getElem?_append_left
abbrev H_ := @List.getElem?_append_right
abbrev Ir := @List.getElem?_drop
abbrev Hi := @List.getElem?_eq_getElem
abbrev IC := @List.getElem?_eq_none
abbrev He := @List.getElem?_eq_some_iff
abbrev Ib := @List.getElem?_map
abbrev JN := @List.getElem?_range
abbrev ID := @List.getElem?_take
abbrev IG := @List.getElem_mem
abbrev HZ := @List.length_append
abbrev HD := @List.length_cons
abbrev JQ := @List.length_map
abbrev I0 := @List.length_replicate
abbrev Iz := @List.length_singleton
abbrev Ic := @List.length_take
abbrev Jc := @List.map_append
abbrev KT := @List.map_cons
abbrev Mj := @List.map_nil
abbrev Ih := @List.mem_append
abbrev Hk := @List.mem_append_left
abbrev IP := @List.mem_append_right
abbrev Ix := @List.mem_cons
abbrev HB := @List.mem_cons_of_mem
abbrev Hm := @List.mem_cons_self
abbrev I6 := @List.mem_filter
abbrev JT := @List.mem_filterMap
abbrev IW := @List.mem_iff_getElem
abbrev IQ := @List.mem_map
abbrev HE := @List.mem_of_getElem?
abbrev IA := @List.mem_range
abbrev IS := @List.mem_singleton
abbrev Ju := @List.nil_append
abbrev I1 := @List.nodup_append
abbrev Kw := @List.nodup_cons
abbrev KX := @List.pairwise_iff_getElem
abbrev K9 := @List.range_succ
abbrev KY := @List.set_eq_take_append_cons_drop
abbrev KB := @List.size_toArray
abbrev K0 := @List.take_left
abbrev JA := @List.take_length
abbrev HR := @List.take_of_length_le
abbrev Ki := @List.take_set_of_le
abbrev Ie := @List.take_succ_eq_append_getElem
abbrev LS := @List.take_take
abbrev Kj := @List.toList_toArray
abbrev J8 := @Nat.add_assoc
abbrev HS := @Nat.add_mul
abbrev JV := @Nat.add_sub_cancel_left
abbrev Jj := @Nat.add_zero
abbrev Kx := @Nat.ble_eq
abbrev IM := @Nat.blt_eq
abbrev JO := @Nat.eq_of_beq_eq_true
abbrev Jw := @Nat.eq_of_mul_eq_mul_right
abbrev KD := @Nat.le_mul_of_pos_right
abbrev HQ := @Nat.le_refl
abbrev I2 := @Nat.le_trans
abbrev KM := @Nat.lt_of_le_of_lt
abbrev Hq := @Nat.lt_succ_self
abbrev KV := @Nat.lt_trichotomy
abbrev IH := @Nat.min_eq_left
abbrev JB := @Nat.mod_eq_of_lt
abbrev HL := @Nat.mul_le_mul_right
abbrev Ku := @Nat.mul_one
abbrev Lx := @Nat.one_mul
abbrev I3 := @Nat.sub_self
abbrev Lp := @Nat.sub_zero
abbrev Ii := @Nat.zero_add
abbrev Jk := @Nat.zero_mul
abbrev LY := @Option.bind_eq_some_iff
abbrev Kp := @Option.bind_some
abbrev JK := @Option.getD_some
abbrev Lf := @Option.map_eq_some_iff
abbrev La := @Option.map_none
abbrev Je := @Option.map_some
abbrev Hc := @Option.some.inj
abbrev Im := @Option.some.injEq
abbrev K7 := @Prod.mk.injEq
abbrev HA := @Go.Result.andThen_ok
abbrev HJ := @Go.Sem.run_bind
abbrev HU := @Go.Sem.run_pure
abbrev HH := @congrArg
abbrev IN := @decide_eq_true_eq
abbrev LK := @decide_false
abbrev Mu := @Go.grownCap_ge
abbrev LL := @Go.grownCap_le_maxLen
abbrev Ms := @Go.growslice_fits
abbrev LX := @Go.heap_alloc_new
abbrev J2 := @if_false
abbrev Hs := @if_neg
abbrev Hv := @if_pos
abbrev Lr := @if_true
abbrev HG := @of_decide_eq_false
abbrev Ht := @of_decide_eq_true
abbrev Mr := @Go.run_firstCells_some
abbrev Jh := @Go.run_underlying
abbrev Hh := @trivial
abbrev Lz := @Go.wpList_step
end Go.Sim
namespace Go.Sim
open Go Go.RowKit
open _root_.Go.IntKind (i64 u64 u32 u8)
abbrev Hp:=Nat→Option Obj
def Hp.le (H H':Hp):Prop:=∀ b o,H b=some o→H' b=some o
theorem Hg (H:Hp):H.le H:=fun _ _ h=>h
theorem Hf {A B C:Hp} (h:A.le B) (k:B.le C):A.le C:=fun b o x=>k b o (h b o x)
def Hp.add (H:Hp) (b:Nat) (o:Obj):Hp:=fun c=>if c=b then some o else H c
theorem Hp.FC {H:Hp}{b:Nat}{o:Obj} (h:H b=none):H.le (H.add b o):=by
 intro c x hx;unfold Hp.add
 split
 ·rename_i e; subst e; rw [h] at hx; cases hx
 ·exact hx
theorem Hp.se (H:Hp) (b:Nat) (o:Obj):H.add b o b=some o:=by simp [Hp.add]
def snap (w:World):Hp:=fun b=>w.heap[b]?
def fY (w:World) (T:TypeId) (sz:Nat) (v:Value) (n:Nat) (xs:List Value):Prop:=
  xs.length=n*sz ∧
  ((v=.slice none 0 0∧n=0) ∨
   ∃ g off cap cur,v=.slice (some ⟨g,off,none⟩) n cap∧w.heap[g]? = some (.cells cur T (0,0))∧n≤cap∧cap≤maxLen∧off+cap*sz≤cur.size∧(cur.toList.drop off).take (n*sz)=xs)
theorem fY.lt {w:World}{T:TypeId}{sz:Nat}{v:Value}{n:Nat}{xs:List Value} (h:fY w T sz v n xs) {k:Nat} (hk:v.ownBlock=some k):k<w.heap.size:=by
 rcases h.2 with ⟨rfl,_⟩ | ⟨g,off,cap,cur,rfl,hg,_⟩
 ·simp [Value.ownBlock] at hk
 ·simp only [Value.ownBlock,Im] at hk
  subst hk;exact (Ja.1 hg).1
theorem fY.kept {w w':World}{T:TypeId}{sz:Nat}{v:Value}{n:Nat}{xs:List Value}{row:Option Nat} (h:fY w T sz v n xs) (hg:w.grownBy w' row)
  (hne:∀ b,v.ownBlock=some b→row≠some b):fY w' T sz v n xs:=by
 refine ⟨h.1,?_⟩;rcases h.2 with hn | ⟨g,off,cap,cur,rfl,hgg,rest⟩
 ·exact .inl hn
 ·refine .inr ⟨g,off,cap,cur,rfl,?_,rest⟩
  rw [hg.block g (Ja.1 hgg).1 (fun e=>hne g rfl e.symm)];exact hgg
theorem fY.nil (w:World) (T:TypeId) (sz:Nat):fY w T sz (.slice none 0 0) 0 []:=⟨by simp,.inl ⟨rfl,rfl⟩⟩
inductive bV where
 | obj (b:Nat) (o:Obj)
 | row (v:Value) (T:TypeId) (sz n:Nat) (xs:List Value)
def bV.qh:bV→Option Nat
 | .obj b _=>some b
 | .row v _ _ _ _=>v.ownBlock
def bV.ok (w:World):bV→Prop
 | .obj b o=>w.heap[b]? = some o
 | .row v T sz n xs=>fY w T sz v n xs
theorem bV.Eb {w:World}{r:bV} (h:r.ok w) {b:Nat} (hb:r.qh=some b):b<w.heap.size:=by
 cases r with
 | obj c o=>
  simp only [bV.qh,Im] at hb;subst hb;simp only [bV.ok] at h;exact (Ja.1 h).1
 | row v T sz n xs=>exact fY.lt h hb
theorem bV.kept {w w':World}{r:bV}{row:Option Nat} (h:r.ok w) (hg:w.grownBy w' row) (hne:∀ b,r.qh=some b→row≠some b):r.ok w':=by
 cases r with
 | obj c o=>
  simp only [bV.ok] at h ⊢;rw [hg.block c (Ja.1 h).1 (fun e=>hne c rfl e.symm)];exact h
 | row v T sz n xs=>
  exact fY.kept h hg hne
structure St (B:Nat) (w0:World) (H:Hp) (M:List bV) (w:World):Prop where
 below:Below B w0 w
 le:B≤w.heap.size
 si:∀ b o,H b=some o→w.heap[b]? = some o
 ok:∀ r ∈ M,r.ok w
 lo:∀ r ∈ M,∀ b,r.qh=some b→B≤b∧H b=none
 nd:(M.filterMap bV.qh).Nodup
section
variable {B:Nat}{w0 w w':World}{H H':Hp}{M M':List bV}
theorem St.lt (h:St B w0 H M w) {b:Nat}{o:Obj} (hb:H b=some o):b<w.heap.size:=(Ja.1 (h.si b o hb)).1
theorem St.perm (h:St B w0 H M w) (p:M.Perm M'):St B w0 H M' w:=
 ⟨h.below,h.le,h.si,fun r hr=>h.ok r (p.mem_iff.2 hr),fun r hr=>h.lo r (p.mem_iff.2 hr),(p.filterMap _).nodup_iff.1 h.nd⟩
theorem St.sub (h:St B w0 H M w) (p:M'.Sublist M):St B w0 H M' w:=
 ⟨h.below,h.le,h.si,fun r hr=>h.ok r (p.subset hr),fun r hr=>h.lo r (p.subset hr),h.nd.sublist (p.filterMap _)⟩
theorem St.tail {r:bV} (h:St B w0 H (r::M) w):St B w0 H M w:=h.sub (List.sublist_cons_self _ _)
theorem St.drewN (h:St B w0 H M w) (n:Nat):St B w0 H M { w with drawn:=n }:=
 ⟨⟨h.below.os,h.below.tape,h.below.output,h.below.size,h.below.block⟩,h.le,h.si,fun r hr=>by
  have:=h.ok r hr;cases r <;> exact this,h.lo,h.nd⟩
theorem St.grow (h:St B w0 H M w) (hg:w.grownBy w' none):St B w0 H M w':=
  ⟨h.below.grown hg h.le (fun _ e=>by cases e),I2 h.le hg.size,
   fun b o hb=>by rw [hg.block b (h.lt hb) (by simp)]; exact h.si b o hb,
   fun r hr=>bV.kept (h.ok r hr) hg (by simp),h.lo,h.nd⟩
theorem St.xM {r r':bV} (h:St B w0 H (r::M) w) (hg:w.grownBy w' r.qh) (hok:r'.ok w')
  (hf:∀ b,r'.qh=some b→r.qh=some b∨w.heap.size≤b):St B w0 H (r'::M) w':=by
 have hnd:=h.nd;refine ⟨h.below.grown hg h.le (fun k e=>(h.lo r (Hm ..) k e).1),I2 h.le hg.size,?_,?_,?_,?_⟩
 ·intro b o hb
  rw [hg.block b (h.lt hb) (fun e=>by have:=(h.lo r (Hm ..) b e.symm).2; rw [this] at hb; cases hb)]
  exact h.si b o hb
 ·intro s hs
  rcases Ix.1 hs with rfl | hs
  ·exact hok
  ·refine bV.kept (h.ok s (HB _ hs)) hg ?_
   intro b hb e;simp only [J1,e,Kw] at hnd;exact hnd.1 (JT.2 ⟨s,hs,hb⟩)
 ·intro s hs b hb
  rcases Ix.1 hs with rfl | hs
  ·rcases hf b hb with e | e
   ·exact h.lo r (Hm ..) b e
   ·refine ⟨I2 h.le e,?_⟩
    cases hh:H b with
    | none=>rfl
    | some o=>exact absurd (h.lt hh) (by omega)
  ·exact h.lo s (HB _ hs) b hb
 ·have hm:(M.filterMap bV.qh).Nodup:=(h.tail).nd
  cases hr':r'.qh with
  | none=>simp only [J1,hr']; exact hm
  | some b=>
   simp only [J1,hr',Kw];refine ⟨fun hmem=>?_,hm⟩;obtain ⟨s,hs,hb⟩:=JT.1 hmem;rcases hf b hr' with e | e
   ·simp only [J1,e,Kw] at hnd
    exact hnd.1 (JT.2 ⟨s,hs,hb⟩)
   ·have:=bV.Eb (h.ok s (HB _ hs)) hb
    omega
theorem St.add {r':bV} (h:St B w0 H M w) (hg:w.grownBy w' none) (hok:r'.ok w') (hf:∀ b,r'.qh=some b→w.heap.size≤b):
  St B w0 H (r'::M) w':=by
 have h1:St B w0 H (.row (.slice none 0 0) 0 1 0 []::M) w:=by
  refine ⟨h.below,h.le,h.si,?_,?_,?_⟩
  ·intro r hr
   rcases Ix.1 hr with rfl | hr
   ·exact fY.nil _ _ _
   ·exact h.ok r hr
  ·intro r hr
   rcases Ix.1 hr with rfl | hr
   ·intro b hb; simp [bV.qh,Value.ownBlock] at hb
   ·exact h.lo r hr
  ·simpa [J1,bV.qh,Value.ownBlock] using h.nd
 exact h1.xM hg hok (fun b hb=>.inr (hf b hb))
theorem St.vV (h:St B w0 H M w) (T:TypeId) (sz:Nat):St B w0 H (.row (.slice none 0 0) T sz 0 []::M) w:=
 h.add ⟨rfl,rfl,rfl,HQ _,fun _ _ _=>rfl⟩ (fY.nil _ _ _) (by intro b hb; simp [bV.qh,Value.ownBlock] at hb)
theorem St.alloc (h:St B w0 H M w) (o:Obj):St B w0 H (.obj w.heap.size o::M) (w.alloc o):=
 h.add (World.grownBy_alloc w o none) (LX w o) (by intro b hb; simp only [bV.qh,Im] at hb; omega)
theorem St.q6 {b:Nat}{o:Obj} (h:St B w0 H M w) (hm:bV.obj b o ∈ M):w.heap[b]? = some o:=h.ok _ hm
theorem St.freeze {b:Nat}{o:Obj} (h:St B w0 H (.obj b o::M) w):H.le (H.add b o)∧St B w0 (H.add b o) M w:=by
 have hb:=h.lo _ (Hm ..) b rfl;refine ⟨Hp.FC hb.2,h.below,h.le,?_,h.tail.ok,?_,h.tail.nd⟩
 ·intro c x hx
  unfold Hp.add at hx
  split at hx
  ·rename_i e; subst e; cases hx; exact h.ok _ (Hm ..)
  ·exact h.si c x hx
 ·intro r hr c hc
  refine ⟨(h.tail.lo r hr c hc).1,?_⟩;unfold Hp.add
  split
  ·rename_i e; subst e
   have hnd:=h.nd;simp only [J1,bV.qh,Kw] at hnd;exact absurd (JT.2 ⟨r,hr,hc⟩) hnd.1
  ·exact (h.tail.lo r hr c hc).2
theorem St.GK {b:Nat}{o:Obj} (h:St B w0 H' M w) (hB:B≤b) (hle:H.le H') (hb:H b=none) (ho:H' b=some o):St B w0 H (.obj b o::M) w:=by
 refine ⟨h.below,h.le,fun c x hx=>h.si c x (hle c x hx),?_,?_,?_⟩
 ·intro r hr
  rcases Ix.1 hr with rfl | hr
  ·exact h.si b o ho
  ·exact h.ok r hr
 ·intro r hr c hc
  rcases Ix.1 hr with rfl | hr
  ·simp only [bV.qh,Im] at hc; subst hc; exact ⟨hB,hb⟩
  ·refine ⟨(h.lo r hr c hc).1,?_⟩
   cases hh:H c with
   | none=>rfl
   | some x=>have:=hle c x hh; rw [(h.lo r hr c hc).2] at this; cases this
 ·simp only [J1,bV.qh,Kw]
  refine ⟨fun hm=>?_,h.nd⟩;obtain ⟨r,hr,hc⟩:=JT.1 hm;have:=(h.lo r hr b hc).2;rw [this] at ho; cases ho
theorem St.E0 (h:St B w0 H' M w) (hle:H.le H'):St B w0 H M w:=
 ⟨h.below,h.le,fun b o hb=>h.si b o (hle b o hb),h.ok,fun r hr b hb=>⟨(h.lo r hr b hb).1,by
  cases hh:H b with
  | none=>rfl
  | some x=>have:=hle b x hh; rw [(h.lo r hr b hb).2] at this; cases this⟩,h.nd⟩
theorem St.begin (w:World):St w.heap.size w (snap w) [] w:=
 ⟨Below.refl _ _,HQ _,fun _ _ h=>h,by simp,by simp,by simp⟩
end
abbrev Env:=List (Nat×Value)
def lk:Env→Nat→Option Value
 | [],_=>none
 | (t,v)::r,u=>bif Nat.beq t u then some v else lk r u
structure Sl (N:Nat) (L:Env) (a:Act):Prop where
 size:a.tmps.size=N
 yh:a.defers=[]
 get:∀ t v,lk L t=some v→a.tmps[t]? = some v
theorem pn (t:Nat) (v:Value) (r:Env) (u:Nat):lk ((t,v)::r) u=if t=u then some v else lk r u:=by
 show (bif Nat.beq t u then some v else lk r u)=_
 by_cases h:t=u
 ·subst h; simp
 ·have:Nat.beq t u=false:=by
   cases hb:Nat.beq t u with
   | false=>rfl
   | true=>exact absurd (JO hb) h
  simp [this,h]
theorem Sl.put {N:Nat}{L:Env}{a:Act}{d:Nat}{v:Value} (h:Sl N L a) (hd:Nat.blt d N=true):Sl N ((d,v)::L) (a.put (some d) v):=by
 have hd':d<N:=by simpa [IM] using hd
 refine ⟨by simp [Act.put,h.size],h.yh,fun t u ht=>?_⟩
 rw [pn] at ht;simp only [Act.put,Ll]
 by_cases e:d=t
 ·subst e
  simp only [Lr,Im] at ht;subst ht;simp [h.size,hd']
 ·simp only [Hs e] at ht ⊢
  exact h.get t u ht
def Kept (L:Env):Env→Prop
 | []=>True
 | (t,v)::r=>lk L t=some v∧Kept L r
theorem Kept.lk {L:Env}:∀ {L':Env},Kept L L'→∀ t v,lk L' t=some v→lk L t=some v
 | [],_,t,v,h=>by simp [Sim.lk] at h
 | (u,x)::r,hk,t,v,h=>by
  rw [pn] at h
  split at h
  ·rename_i e; subst e; cases h; exact hk.1
  ·exact Kept.lk hk.2 t v h
theorem Sl.F3 {N:Nat}{L L':Env}{a:Act} (h:Sl N L a) (hk:Kept L L'):Sl N L' a:=
 ⟨h.size,h.yh,fun t v ht=>h.get t v (hk.lk t v ht)⟩
def ev (L:Env):Operand→Option Value
 | .tmp t=>lk L t
 | .const v=>some v
 | .func f=>some (.func (.func f) #[] #[])
 | .global g=>some (.pointer (some ⟨g,0,none⟩))
theorem Sl.ev {N:Nat}{L:Env}{a:Act} (h:Sl N L a) {x:Operand}{v:Value} (hx:Sim.ev L x=some v):a.eval x=v:=by
 cases x with
 | tmp t=>simp [Act.eval,It,h.get t v hx]
 | const u=>simpa [Sim.ev,Act.eval] using hx
 | func f=>simpa [Sim.ev,Act.eval] using hx
 | global g=>simpa [Sim.ev,Act.eval] using hx
def gd (ops:Array Oper) (L:Env) (o:Oper):Option Bool:=
 match o.guard with
 | none=>some true
 | some (j,want)=>
  match (ops[j]?).bind (·.dst) with
  | none=>none
  | some t=>match lk L t with
   | some (.bool b)=>some (b == want)
   | some (.tuple _)=>some false
   | _=>none
theorem Sl.gd {N:Nat}{L:Env}{a:Act} (h:Sl N L a) {ops:Array Oper}{o:Oper}{c:Bool} (hg:Sim.gd ops L o=some c):Region.wanted o (yielded ops a.tmps)=c:=by
 unfold Sim.gd at hg;unfold Region.wanted;cases ho:o.guard with
 | none=>simp only [ho,Im] at hg; simp [← hg]
 | some p=>
  obtain ⟨j,want⟩:=p;simp only [ho] at hg;cases hd:(ops[j]?).bind (·.dst) with
  | none=>simp [hd] at hg
  | some t=>
   simp only [hd] at hg;cases hl:lk L t with
   | none=>simp [hl] at hg
   | some v=>
    cases v with
    | bool b=>
     simp only [hl,Im] at hg;have:=h.get t _ hl;simp [yielded,hd,this,← hg]
    | tuple vs=>
     simp only [hl,Im] at hg;have:=h.get t _ hl;simp [yielded,hd,this,← hg]
    | _=>simp [hl] at hg
structure Cx where
 P:Program
 N:Nat
 B:Nat
 w0:World
abbrev kZ:=Exit→Act→World→Prop
def W (x:Cx) (ops:Array Oper) (Q:kZ) (rest:List Oper) (H:Hp) (M:List bV) (L:Env):Prop:=
 ∀ a w,Sl x.N L a→St x.B x.w0 H M w→wpList x.P ops Q rest a w
def C (x:Cx) (c:Code) (Q:kZ) (H:Hp) (M:List bV) (L:Env):Prop:=
 ∀ a w,Sl x.N L a→St x.B x.w0 H M w→c.wp x.P Q a w
def E (x:Cx) (e:Exit) (Q:kZ) (H:Hp) (M:List bV) (L:Env):Prop:=
 ∀ a w,Sl x.N L a→St x.B x.w0 H M w→Q e a w
section
variable {x:Cx}{ops:Array Oper}{Q:kZ}{rest:List Oper}{H:Hp}{M M':List bV}{L L':Env}
theorem cH {c d:Code} (k:C x c (Exit.then (d.wp x.P Q) Q) H M L):C x (.seq c d) Q H M L:=
 fun a w hs ht=>wp_seq (k a w hs ht)
theorem eP (k:E x .normal Q H M L):C x .skip Q H M L:=fun a w hs ht=>wp_skip (k a w hs ht)
theorem qa {id:Nat} (k:E x (.exit id) Q H M L):C x (.exit id) Q H M L:=fun a w hs ht=>wp_exit (k a w hs ht)
theorem lY (k:E x .ret Q H M L):C x .ret Q H M L:=fun a w hs ht=>wp_ret (k a w hs ht)
theorem aG {id:Nat}{c:Code} (k:C x c (Exit.inBlock id Q) H M L):C x (.block id c) Q H M L:=
 fun a w hs ht=>wp_block (k a w hs ht)
theorem bS {c:Operand}{p q:Code}{b:Bool} (hb:ev L c=some (.bool b)) (k1:b=true→C x p Q H M L) (k2:b=false→C x q Q H M L):
  C x (.cond c p q) Q H M L:=
 fun a w hs ht=>wp_cond_split (hs.ev hb) (fun e=>k1 e a w hs ht) (fun e=>k2 e a w hs ht)
theorem bB {id:Nat}{l:List Oper} (k:W x l.toArray Q l H M L):C x (.region id l.toArray false) Q H M L:=
 fun a w hs ht=>wp_region_lit (k a w hs ht)
theorem bC (k:E x .normal Q H M L):W x ops Q [] H M L:=fun a w hs ht=>wpList_nil (k a w hs ht)
theorem aP {d:Code}{Q':kZ} (k:C x d Q' H M L):E x .normal (Exit.then (d.wp x.P Q') Q) H M L:=fun a w hs ht=>k a w hs ht
theorem u6 {c:Code} (hL:Kept L L') (hM:M.Perm M') (k:C x c Q H M' L'):C x c Q H M L:=
 fun a w hs ht=>k a w (hs.F3 hL) (ht.perm hM)
theorem y7 {e:Exit} (hL:Kept L L') (hM:M.Perm M') (k:E x e Q H M' L'):E x e Q H M L:=
 fun a w hs ht=>k a w (hs.F3 hL) (ht.perm hM)
theorem oP {c:Code} (hM:M'.Sublist M) (k:C x c Q H M' L):C x c Q H M L:=fun a w hs ht=>k a w hs (ht.sub hM)
theorem aU {e:Exit} (hM:M'.Sublist M) (k:E x e Q H M' L):E x e Q H M L:=fun a w hs ht=>k a w hs (ht.sub hM)
theorem a_ (hM:M.Perm M') (k:W x ops Q rest H M' L):W x ops Q rest H M L:=fun a w hs ht=>k a w hs (ht.perm hM)
theorem oL {o:Oper}{d:Nat} (hd:o.dst=some d) (hg:gd ops L o=some true) (hN:Nat.blt d x.N=true)
  (hrun:∀ a w,Sl x.N L a→St x.B x.w0 H M w→∃ v w',(execOp a.eval o).run x.P w=.ok (.value v) w'∧∃ H' M',St x.B x.w0 H' M' w'∧W x ops Q rest H' M' ((d,v)::L)):
  W x ops Q (o::rest) H M L:=by
 intro a w hs ht;obtain ⟨v,w',hr,H',M',ht',k⟩:=hrun a w hs ht;refine Lz fun K hK=>?_;rw [Hv (hs.gd hg)];unfold Oper.wp;rw [hr];simp only [Oper.upon,hd];exact hK _ _ (k _ _ (hs.put hN) ht')
theorem eK {o:Oper}{d:Nat}{v:Value} (hd:o.dst=some d) (hg:gd ops L o=some true) (hN:Nat.blt d x.N=true)
  (hrun:∀ a w,Sl x.N L a→St x.B x.w0 H M w→(execOp a.eval o).run x.P w=.ok (.value v) w) (k:W x ops Q rest H M ((d,v)::L)):
  W x ops Q (o::rest) H M L:=
 oL hd hg hN fun a w hs ht=>⟨v,w,hrun a w hs ht,H,M,ht,k⟩
theorem A8 {o:Oper}{d:Nat} (hd:o.dst=some d) (hg:gd ops L o=some false) (hN:Nat.blt d x.N=true) (k:W x ops Q rest H M ((d,undef)::L)):
  W x ops Q (o::rest) H M L:=by
 intro a w hs ht;refine Lz fun K hK=>?_;rw [Hs (by rw [hs.gd hg]; simp),hd]
 exact hK _ _ (k _ _ (hs.put hN) ht)
theorem wL {o:Oper} (hd:o.dst=none) (hg:gd ops L o=some false) (k:W x ops Q rest H M L):W x ops Q (o::rest) H M L:=by
 intro a w hs ht;refine Lz fun K hK=>?_;rw [Hs (by rw [hs.gd hg]; simp),hd]
 exact hK _ _ (k _ _ hs ht)
theorem y_ {o:Oper} (hd:o.dst=none) (hg:gd ops L o=some true)
  (hrun:∀ a w,Sl x.N L a→St x.B x.w0 H M w→∃ w',(execOp a.eval o).run x.P w=.ok .skip w'∧∃ H' M',St x.B x.w0 H' M' w'∧W x ops Q rest H' M' L):
  W x ops Q (o::rest) H M L:=by
 intro a w hs ht;obtain ⟨w',hr,H',M',ht',k⟩:=hrun a w hs ht;refine Lz fun K hK=>?_;rw [Hv (hs.gd hg)];unfold Oper.wp;rw [hr];simp only [Oper.upon,hd];exact hK _ _ (k _ _ hs ht')
def fS (B:Nat) (w0:World) (Φ:Hp→List bV→Value→Prop):Ending→World→Prop
 | .returned v,w'=>∃ H' M',St B w0 H' M' w'∧Φ H' M' v
 | _,_=>False
def uk (L:Env):List Operand→Option (List Value)
 | []=>some []
 | y::r=>match ev L y,uk L r with
  | some v,some vs=>some (v::vs)
  | _,_=>none
theorem Sl.uk {L:Env}{a:Act}{N:Nat} (hs:Sl N L a):∀ {l:List Operand}{vs:List Value},Sim.uk L l=some vs→l.map a.eval=vs
 | [],vs,h=>by simp [Sim.uk] at h; simp [h]
 | y::r,vs,h=>by
  simp only [Sim.uk] at h;cases h1:Sim.ev L y with
  | none=>simp [h1] at h
  | some v=>
   cases h2:Sim.uk L r with
   | none=>simp [h1,h2] at h
   | some us=>
    simp only [h1,h2,Im] at h;subst h;simp [hs.ev h1,Sl.uk hs h2]
theorem aF {d:Nat}{f:FuncId}{args:List Operand}{tys:Array TypeId}{ty:TypeId}{pos:String}{aft:Array Edge}{g:Option (Nat×Bool)}{vs:List Value}
  {Φ:Hp→List bV→Value→Prop}
  (hcall:∀ as w,(callFunc f as).run x.P w=.ok (.enter f as) w)
  (hg:gd ops L ⟨some d,.call ⟨.value (.func f),args.toArray,tys⟩,ty,pos,aft,g⟩=some true) (hN:Nat.blt d x.N=true)
  (hv:uk L args=some vs)
  (hc:∀ w,St x.B x.w0 H M w→Calls x.P f vs.toArray w (fS x.B x.w0 Φ))
  (k:∀ v H' M',Φ H' M' v→W x ops Q rest H' M' ((d,v)::L)):
  W x ops Q (⟨some d,.call ⟨.value (.func f),args.toArray,tys⟩,ty,pos,aft,g⟩::rest) H M L:=by
 intro a w hs ht;refine Lz fun K hK=>?_;rw [Hv (hs.gd hg)];have hargs:args.toArray.map a.eval=vs.toArray:=by simp [hs.uk hv]
 have hr:(execOp a.eval ⟨some d,.call ⟨.value (.func f),args.toArray,tys⟩,ty,pos,aft,g⟩).run x.P w=.ok (.enter f vs.toArray) w:=by
  simp only [execOp,resolve,hargs,Act.eval,Deferred.ofValue,HJ,HU,HA,invoke];simp [hcall]
 unfold Oper.wp;rw [hr];simp only [Oper.upon];refine (hc w ht).mono fun e w' he=>?_;cases e with
 | returned v=>
  obtain ⟨H',M',h1,h2⟩:=he;exact hK _ _ (k v H' M' h2 _ _ (hs.put hN) h1)
 | panicked c=>exact he.elim
 | outgrown=>exact he.elim
end
def tc (x:Cx) (H:Hp) (M:List bV) (ad:Addr) (v:Value):Prop:=∀ w,St x.B x.w0 H M w→w.cell? ad=some v
def u9 (H:Hp) (ad:Addr) (v:Value):Prop:=∃ arr T fz,H ad.block=some (.cells arr T fz)∧ad.spot=none∧arr[ad.off]? = some v
theorem Mf {w:World}{ad:Addr}{arr:Array Value}{T:TypeId}{fz:Nat×Nat}{v:Value} (h:w.heap[ad.block]? = some (.cells arr T fz)) (hs:ad.spot=none) (hv:arr[ad.off]? = some v):
  w.cell? ad=some v:=by
 simp [World.cell?,h,hs,hv]
theorem u9.at {x:Cx}{H:Hp}{M:List bV}{ad:Addr}{v:Value} (h:u9 H ad v):tc x H M ad v:=by
 obtain ⟨arr,T,fz,hb,hs,hv⟩:=h;exact fun w ht=>Mf (ht.si _ _ hb) hs hv
theorem u9.mono {H H':Hp}{ad:Addr}{v:Value} (hle:H.le H') (h:u9 H ad v):u9 H' ad v:=by
 obtain ⟨arr,T,fz,hb,hs,hv⟩:=h;exact ⟨arr,T,fz,hle _ _ hb,hs,hv⟩
theorem bZ {x:Cx}{H:Hp}{M:List bV}{b off:Nat}{l:List Value}{T:TypeId}{fz:Nat×Nat}{v:Value}
  (hm:bV.obj b (.cells l.toArray T fz) ∈ M) (hv:l[off]? = some v):tc x H M ⟨b,off,none⟩ v:=by
 intro w ht;exact Mf (ht.q6 hm) rfl (by simpa using hv)
def tt (x:Cx) (H:Hp) (M:List bV) (ad:Addr) (cs:List Value):Prop:=∀ j c,cs[j]? = some c→tc x H M (ad.add j) c
def cD (H:Hp) (ad:Addr) (cs:List Value):Prop:=∀ j c,cs[j]? = some c→u9 H (ad.add j) c
theorem cD.at {x:Cx}{H:Hp}{M:List bV}{ad:Addr}{cs:List Value} (h:cD H ad cs):tt x H M ad cs:=fun j c hc=>(h j c hc).at
theorem cD.mono {H H':Hp}{ad:Addr}{cs:List Value} (hle:H.le H') (h:cD H ad cs):cD H' ad cs:=fun j c hc=>(h j c hc).mono hle
theorem eX {x:Cx}{H:Hp}{M:List bV}{b:Nat}{l:List Value}{T:TypeId}{fz:Nat×Nat}
  (hm:bV.obj b (.cells l.toArray T fz) ∈ M):tt x H M ⟨b,0,none⟩ l:=by
 intro j c hc;rw [IL,Ii];exact bZ hm hc
theorem run_loadCellsFrom {P:Program}{w:World}{ad:Addr}:∀ (cs:List Value) (i:Nat) (acc:Array Value),(∀ j c,cs[j]? = some c→w.cell? (ad.add (i+j))=some c) →
  (loadCellsFrom ad i cs.length acc).run P w=.ok (acc++cs.toArray) w
 | [],i,acc,_=>by simp [loadCellsFrom]
 | c::cs,i,acc,h=>by
  have h0:=h 0 c rfl;simp only [Jj] at h0;have ih:=run_loadCellsFrom (P:=P) (w:=w) (ad:=ad) cs (i+1) (acc.push c) (fun j d hd=>by have:=h (j+1) d (by simpa using hd); rwa [show i+(j+1)=i+1+j from by omega] at this)
  simp only [HD,loadCellsFrom,load,HJ,Sem.run,h0,HA];rw [ih];simp
section
variable {x:Cx}{ops:Array Oper}{Q:kZ}{rest:List Oper}{H:Hp}{M M':List bV}{L L':Env}
variable {d:Nat}{ty:TypeId}{pos:String}{aft:Array Edge}{g:Option (Nat×Bool)}
theorem cA {y:Operand}{v:Value} (hg:gd ops L ⟨some d,.move y,ty,pos,aft,g⟩=some true) (hN:Nat.blt d x.N=true)
  (hy:ev L y=some v) (k:W x ops Q rest H M ((d,v)::L)):W x ops Q (⟨some d,.move y,ty,pos,aft,g⟩::rest) H M L:=
 eK rfl hg hN (fun a w hs _=>by simp [execOp,hs.ev hy]) k
theorem aL {y:Operand}{v:Value} (hg:gd ops L ⟨some d,.assign y,ty,pos,aft,g⟩=some true) (hN:Nat.blt d x.N=true)
  (hy:ev L y=some v) (k:W x ops Q rest H M ((d,v)::L)):W x ops Q (⟨some d,.assign y,ty,pos,aft,g⟩::rest) H M L:=
 eK rfl hg hN (fun a w hs _=>by simp [execOp,hs.ev hy]) k
theorem r8 {c y z:Operand}{b:Bool}{v:Value} (hg:gd ops L ⟨some d,.pick c y z,ty,pos,aft,g⟩=some true) (hN:Nat.blt d x.N=true)
  (hc:ev L c=some (.bool b)) (hy:(if b then ev L y else ev L z)=some v) (k:W x ops Q rest H M ((d,v)::L)):
  W x ops Q (⟨some d,.pick c y z,ty,pos,aft,g⟩::rest) H M L:=
 eK rfl hg hN (fun a w hs _=>by
  cases b
  ·simp only [Js,J2] at hy; simp [execOp,hs.ev hc,hs.ev hy,asBool]
  ·simp only [Lr] at hy; simp [execOp,hs.ev hc,hs.ev hy,asBool]) k
def vm:BinOp→Value→Value→Option Value
 | .add,.int k a,.int k' b=>if k=k' then some (.int k (k.wrap (a+b))) else none
 | .sub,.int k a,.int k' b=>if k=k' then some (.int k (k.wrap (a-b))) else none
 | .mul,.int k a,.int k' b=>if k=k' then some (.int k (k.wrap (a*b))) else none
 | .lss,.int k a,.int k' b=>if k=k' then some (.bool (decide (a<b))) else none
 | .leq,.int k a,.int k' b=>if k=k' then some (.bool (decide (a≤b))) else none
 | .gtr,.int k a,.int k' b=>if k=k' then some (.bool (decide (b<a))) else none
 | .geq,.int k a,.int k' b=>if k=k' then some (.bool (decide (b≤a))) else none
 | .eql,.int k a,.int k' b=>if k=k' then some (.bool (decide (a=b))) else none
 | .neq,.int k a,.int k' b=>if k=k' then some (.bool (!decide (a=b))) else none
 | .and,.int k a,.int k' b=>if k=k' then some (.int k (k.wrap (BitVec.ofInt k.bits a &&& BitVec.ofInt k.bits b).toNat)) else none
 | .or,.int k a,.int k' b=>if k=k' then some (.int k (k.wrap (BitVec.ofInt k.bits a ||| BitVec.ofInt k.bits b).toNat)) else none
 | .xor,.int k a,.int k' b=>if k=k' then some (.int k (k.wrap (BitVec.ofInt k.bits a ^^^ BitVec.ofInt k.bits b).toNat)) else none
 | .eql,.string s,.string t=>some (.bool (decide (s=t)))
 | .neq,.string s,.string t=>some (.bool (!decide (s=t)))
 | .lss,.string s,.string t=>some (.bool (Op.bytesLess s.toList t.toList))
 | _,_,_=>none
theorem Fo (s t:ByteArray):(s.toList == t.toList)=decide (s=t):=by
 rw [Bool.eq_iff_iff];simp only [beq_iff_eq,IN];constructor
 ·intro h
  have hs:∀ u:ByteArray,u.toList=u.data.toList:=ByteArray.toList_eq;rw [hs,hs] at h;exact ByteArray.ext (Array.ext' h)
 ·intro h; rw [h]
theorem Ax (a b:Int):(a == b)=decide (a=b):=by rw [Bool.eq_iff_iff]; simp
theorem CR {p:Prop}[Decidable p] {v w:Value} (h:(if p then some v else none)=some w):p∧v=w:=by
 split at h
 ·exact ⟨‹_›,by simpa using h⟩
 ·cases h
theorem Bb {op:BinOp}{a b v:Value} (t:TypeId) (P:Program) (w:World) (h:vm op a b=some v):(binOp op t a b).run P w=.ok v w:=by
 unfold vm at h
 split at h
 case h_1 | h_2 | h_3 | h_4 | h_5 | h_6 | h_7 | h_8 | h_9 | h_10 | h_11 | h_12=>
  obtain ⟨rfl,rfl⟩:=CR h
  first
   | (simp [binOp,Op.intArith]; done)
   | (simp [binOp,Op.intBits]; done)
   | (simp [binOp,Op.intCmp]; done)
   | (simp [binOp,Op.intCmp,bne,Ax]; done)
 case h_13 | h_14 | h_15=>cases h; simp [binOp,Op.stringOp,← Fo]
 case h_16=>cases h
theorem yl {op:BinOp}{a b v:Value} (t:TypeId) (y z:Operand) (P:Program) (w:World) (h:vm op a b=some v):(eqGuard op t y z a b).run P w=.ok () w:=by
 unfold vm at h
 split at h <;> first
  | (simp [eqGuard]; done)
  | (cases h; done)
theorem pN {op:BinOp}{t u:TypeId}{y z:Operand}{a b v:Value} (hg:gd ops L ⟨some d,.binOp op t y z u,ty,pos,aft,g⟩=some true) (hN:Nat.blt d x.N=true)
  (hy:ev L y=some a) (hz:ev L z=some b) (hv:vm op a b=some v) (k:W x ops Q rest H M ((d,v)::L)):
  W x ops Q (⟨some d,.binOp op t y z u,ty,pos,aft,g⟩::rest) H M L:=
 eK rfl hg hN (fun c w hs _=>by
  simp only [execOp,hs.ev hy,hs.ev hz,HJ,yl t y z x.P w hv,HA,Bb t x.P w hv,HU]) k
theorem E6 {t u:TypeId}{y z:Operand}{kk:IntKind}{m n:Int} (hg:gd ops L ⟨some d,.binOp .quo t y z u,ty,pos,aft,g⟩=some true) (hN:Nat.blt d x.N=true)
  (hy:ev L y=some (.int kk m)) (hz:ev L z=some (.int kk n)) (hn:n≠0) (k:W x ops Q rest H M ((d,.int kk (kk.wrap (m.tdiv n)))::L)):
  W x ops Q (⟨some d,.binOp .quo t y z u,ty,pos,aft,g⟩::rest) H M L:=
 eK rfl hg hN (fun c w hs _=>by
  simp [execOp,hs.ev hy,hs.ev hz,eqGuard,binOp,Op.intDiv,hn]) k
theorem B9 {t u:TypeId}{y z:Operand}{kk:IntKind}{m n:Int} (hg:gd ops L ⟨some d,.binOp .rem t y z u,ty,pos,aft,g⟩=some true) (hN:Nat.blt d x.N=true)
  (hy:ev L y=some (.int kk m)) (hz:ev L z=some (.int kk n)) (hn:n≠0) (k:W x ops Q rest H M ((d,.int kk (m.tmod n))::L)):
  W x ops Q (⟨some d,.binOp .rem t y z u,ty,pos,aft,g⟩::rest) H M L:=
 eK rfl hg hN (fun c w hs _=>by
  simp [execOp,hs.ev hy,hs.ev hz,eqGuard,binOp,Op.intDiv,hn]) k
def Fi:UnOp→Value→Option Value
 | .neg,.int k n=>some (.int k (k.wrap (0-n)))
 | .not,.bool b=>some (.bool !b)
 | .xor,.int k n=>some (.int k (k.wrap (BitVec.ofInt k.bits (if k.signed then -1 else k.max) ^^^ BitVec.ofInt k.bits n).toNat))
 | _,_=>none
theorem nQ {op:UnOp}{t:TypeId}{y:Operand}{a v:Value} (hg:gd ops L ⟨some d,.unOp op t y,ty,pos,aft,g⟩=some true) (hN:Nat.blt d x.N=true)
  (hy:ev L y=some a) (hv:Fi op a=some v) (k:W x ops Q rest H M ((d,v)::L)):
  W x ops Q (⟨some d,.unOp op t y,ty,pos,aft,g⟩::rest) H M L:=
 eK rfl hg hN (fun c w hs _=>by
  simp only [execOp,hs.ev hy];unfold Fi at hv
  split at hv <;> first
   | (cases hv; simp [Op.unary,Op.intArith,Op.intBits]; done)
   | cases hv) k
theorem dY {T:TypeId}{y:Operand}{v:Value}{cs:List Value} (hg:gd ops L ⟨some d,.box T y,ty,pos,aft,g⟩=some true) (hN:Nat.blt d x.N=true)
  (hy:ev L y=some v) (hcs:v.cells=cs.toArray)
  (k:∀ b,W x ops Q rest H (.obj b (.cells cs.toArray T (0,0))::M) ((d,.pointer (some ⟨b,0,none⟩))::L)):
  W x ops Q (⟨some d,.box T y,ty,pos,aft,g⟩::rest) H M L:=
 oL rfl hg hN (fun c w hs ht=>⟨_,w.alloc (.cells cs.toArray T),by
  simp only [execOp,hs.ev hy,Instr.box,newVar,newRow,newObj,HJ,HU,Sem.run,HA,hcs,World.alloc],_,_,ht.alloc _,k _⟩)
theorem bO {T:TypeId}{z:Value}{cs:List Value} (hg:gd ops L ⟨some d,.alloc T,ty,pos,aft,g⟩=some true) (hN:Nat.blt d x.N=true)
  (hz:∀ w,(zeroValue T).run x.P w=.ok z w) (hcs:z.cells=cs.toArray)
  (k:∀ b,W x ops Q rest H (.obj b (.cells cs.toArray T (0,0))::M) ((d,.pointer (some ⟨b,0,none⟩))::L)):
  W x ops Q (⟨some d,.alloc T,ty,pos,aft,g⟩::rest) H M L:=
 oL rfl hg hN (fun c w hs ht=>⟨_,w.alloc (.cells cs.toArray T),by
  simp only [execOp,Instr.alloc,hz,newVar,newRow,newObj,HJ,HU,Sem.run,HA,hcs,World.alloc],_,_,ht.alloc _,k _⟩)
theorem aJ {T:TypeId}{y:Operand}{ad:Addr}{v:Value} (hg:gd ops L ⟨some d,.load T y,ty,pos,aft,g⟩=some true) (hN:Nat.blt d x.N=true)
  (hT:∀ w,(isAgg T).run x.P w=.ok false w) (hy:ev L y=some (.pointer (some ad))) (hc:tc x H M ad v)
  (k:W x ops Q rest H M ((d,v)::L)):W x ops Q (⟨some d,.load T y,ty,pos,aft,g⟩::rest) H M L:=
 eK rfl hg hN (fun c w hs ht=>by
  simp [execOp,hs.ev hy,Instr.loadAt,Instr.sureAddr,loadVar,hT,load,Sem.run,hc w ht]) k
theorem aT {T:TypeId}{n:Nat}{y:Operand}{ad:Addr}{cs:List Value} (hg:gd ops L ⟨some d,.load T y,ty,pos,aft,g⟩=some true) (hN:Nat.blt d x.N=true)
  (hT:∀ w,(isAgg T).run x.P w=.ok true w) (hn:∀ w,(sizeOf T).run x.P w=.ok n w) (hy:ev L y=some (.pointer (some ad))) (hc:tt x H M ad cs) (hl:cs.length=n)
  (k:W x ops Q rest H M ((d,.agg cs.toArray)::L)):W x ops Q (⟨some d,.load T y,ty,pos,aft,g⟩::rest) H M L:=
 eK rfl hg hN (fun c w hs ht=>by
  have h:=run_loadCellsFrom (P:=x.P) (w:=w) (ad:=ad) cs 0 #[] (fun j v hv=>by rw [Ii]; exact hc j v hv w ht)
  rw [hl] at h;simp [execOp,hs.ev hy,Instr.loadAt,Instr.sureAddr,loadVar,hT,hn,loadCells,h]) k
theorem qJ {T:TypeId}{y:Operand}{ad:Addr}{f n o:Nat}{fs:Array Field}{fd:Field} (hg:gd ops L ⟨some d,.fieldAddr T y f,ty,pos,aft,g⟩=some true) (hN:Nat.blt d x.N=true)
  (hT:∀ w,(underlying T).run x.P w=.ok (.struct fs) w) (hf:fs[f]? = some fd) (hn:∀ w,(sizeOf fd.type).run x.P w=.ok n w) (hn0:Nat.beq n 0=false) (ho:fd.offset=o)
  (hy:ev L y=some (.pointer (some ad))) (k:W x ops Q rest H M ((d,.pointer (some (ad.add o)))::L)):
  W x ops Q (⟨some d,.fieldAddr T y f,ty,pos,aft,g⟩::rest) H M L:=
 eK rfl hg hN (fun c w hs ht=>by
  have h0:¬ n=0:=fun e=>by subst e; simp at hn0
  simp [execOp,hs.ev hy,Instr.fieldAt,hT,hf,Instr.sureAddr,fieldPlace,hn,h0,ho]) k
theorem jG {y:Operand}{ad:Addr} (hg:gd ops L ⟨some d,.nilCheck y,ty,pos,aft,g⟩=some true) (hN:Nat.blt d x.N=true)
  (hy:ev L y=some (.pointer (some ad))) (k:W x ops Q rest H M ((d,.pointer (some ad))::L)):
  W x ops Q (⟨some d,.nilCheck y,ty,pos,aft,g⟩::rest) H M L:=
 eK rfl hg hN (fun c w hs ht=>by simp [execOp,hs.ev hy]) k
theorem k5 {y:Operand}{vs:Array Value}{i:Nat}{v:Value} (hg:gd ops L ⟨some d,.extract y i,ty,pos,aft,g⟩=some true) (hN:Nat.blt d x.N=true)
  (hy:ev L y=some (.tuple vs)) (hv:vs[i]? = some v) (k:W x ops Q rest H M ((d,v)::L)):
  W x ops Q (⟨some d,.extract y i,ty,pos,aft,g⟩::rest) H M L:=
 eK rfl hg hN (fun c w hs ht=>by simp [execOp,hs.ev hy,Instr.extract,hv]) k
theorem Ai {y z:Operand}{tys:Array TypeId}{kk:IntKind}{m n:Int} (hg:gd ops L ⟨some d,.call ⟨.builtin .min,#[y,z],tys⟩,ty,pos,aft,g⟩=some true) (hN:Nat.blt d x.N=true)
  (hy:ev L y=some (.int kk m)) (hz:ev L z=some (.int kk n)) (k:W x ops Q rest H M ((d,.int kk (min m n))::L)):
  W x ops Q (⟨some d,.call ⟨.builtin .min,#[y,z],tys⟩,ty,pos,aft,g⟩::rest) H M L:=
 eK rfl hg hN (fun c w hs ht=>by
  have:(if n<m then n else m)=min m n:=by rw [Int.min_def]; split <;> split <;> omega
  simp [execOp,resolve,invoke,builtin,hs.ev hy,hs.ev hz,Builtin.min_,Builtin.min2,this]) k
theorem E5 {y z:Operand}{tys:Array TypeId}{kk:IntKind}{m n:Int} (hg:gd ops L ⟨some d,.call ⟨.builtin .max,#[y,z],tys⟩,ty,pos,aft,g⟩=some true) (hN:Nat.blt d x.N=true)
  (hy:ev L y=some (.int kk m)) (hz:ev L z=some (.int kk n)) (k:W x ops Q rest H M ((d,.int kk (max m n))::L)):
  W x ops Q (⟨some d,.call ⟨.builtin .max,#[y,z],tys⟩,ty,pos,aft,g⟩::rest) H M L:=
 eK rfl hg hN (fun c w hs ht=>by
  have:(if n > m then n else m)=max m n:=by rw [Int.max_def]; split <;> split <;> omega
  simp [execOp,resolve,invoke,builtin,hs.ev hy,hs.ev hz,Builtin.max_,Builtin.max2,this]) k
theorem w8 {t e:TypeId}{y:Operand}{a:Option Addr}{m n:Nat} (hg:gd ops L ⟨some d,.call ⟨.builtin .len,#[y],#[t]⟩,ty,pos,aft,g⟩=some true) (hN:Nat.blt d x.N=true)
  (hT:∀ w,(underlying t).run x.P w=.ok (.slice e) w) (hy:ev L y=some (.slice a n m)) (k:W x ops Q rest H M ((d,.int .i64 n)::L)):
  W x ops Q (⟨some d,.call ⟨.builtin .len,#[y],#[t]⟩,ty,pos,aft,g⟩::rest) H M L:=
 eK rfl hg hN (fun c w hs ht=>by
  simp [execOp,resolve,invoke,builtin,hs.ev hy,Builtin.len_,hT,goInt]) k
theorem lf {t:TypeId}{y:Operand}{s:ByteArray} (hg:gd ops L ⟨some d,.call ⟨.builtin .len,#[y],#[t]⟩,ty,pos,aft,g⟩=some true) (hN:Nat.blt d x.N=true)
  (hT:∀ w,(underlying t).run x.P w=.ok .string w) (hy:ev L y=some (.string s)) (k:W x ops Q rest H M ((d,.int .i64 s.size)::L)):
  W x ops Q (⟨some d,.call ⟨.builtin .len,#[y],#[t]⟩,ty,pos,aft,g⟩::rest) H M L:=
 eK rfl hg hN (fun c w hs ht=>by
  simp [execOp,resolve,invoke,builtin,hs.ev hy,Builtin.len_,hT,goInt]) k
theorem B4 {t e:TypeId}{sz:Nat}{y z:Operand}{ad:Addr}{n m:Nat}{kk:IntKind}{i:Int} (hg:gd ops L ⟨some d,.indexAddr t y z,ty,pos,aft,g⟩=some true) (hN:Nat.blt d x.N=true)
  (hT:∀ w,(underlying t).run x.P w=.ok (.slice e) w) (hs:∀ w,(sizeOf e).run x.P w=.ok sz w)
  (hy:ev L y=some (.slice (some ad) n m)) (hz:ev L z=some (.int kk i)) (h0:0≤i) (h1:i.toNat<n)
  (k:W x ops Q rest H M ((d,.pointer (some (ad.add (i.toNat*sz))))::L)):
  W x ops Q (⟨some d,.indexAddr t y z,ty,pos,aft,g⟩::rest) H M L:=
 eK rfl hg hN (fun c w hsl ht=>by
  have h1':i<(n:Int):=by omega
  simp [execOp,hsl.ev hy,hsl.ev hz,Instr.indexAt,asIntOf,hT,hs,h0,h1']) k
end
class aE (α:Type) where
 sz:Nat
 E:Hp→List Value→α→Prop
 len:∀ {H cs x},E H cs x→cs.length=sz
 mono:∀ {H H' cs x},H.le H'→E H cs x→E H' cs x
 one:∀ {H cs x},E H cs x→∀ c ∈ cs,c.oneCell'=true
instance:aE Int where
 sz:=1
 E _ cs n:=cs=[.int .i64 n]
 len h:=by rw [h]; rfl
 mono _ h:=h
 one h c hc:=by rw [h] at hc; simp at hc; subst hc; rfl
instance:aE Bool where
 sz:=1
 E _ cs b:=cs=[.bool b]
 len h:=by rw [h]; rfl
 mono _ h:=h
 one h c hc:=by rw [h] at hc; simp at hc; subst hc; rfl
instance:aE ByteArray where
 sz:=1
 E _ cs s:=cs=[.string s]
 len h:=by rw [h]; rfl
 mono _ h:=h
 one h c hc:=by rw [h] at hc; simp at hc; subst hc; rfl
instance:aE UInt8 where
 sz:=1
 E _ cs n:=cs=[.int .u8 n.toNat]
 len h:=by rw [h]; rfl
 mono _ h:=h
 one h c hc:=by rw [h] at hc; simp at hc; subst hc; rfl
instance:aE UInt32 where
 sz:=1
 E _ cs n:=cs=[.int .u32 n.toNat]
 len h:=by rw [h]; rfl
 mono _ h:=h
 one h c hc:=by rw [h] at hc; simp at hc; subst hc; rfl
instance:aE UInt64 where
 sz:=1
 E _ cs n:=cs=[.int .u64 n.toNat]
 len h:=by rw [h]; rfl
 mono _ h:=h
 one h c hc:=by rw [h] at hc; simp at hc; subst hc; rfl
def aI {α:Type}[aE α] (H:Hp) (v:Value) (xs:List α):Prop:=
 ((∃ a,v=.slice a 0 0)∧xs=[]) ∨
 ∃ b off cap arr T fz,v=.slice (some ⟨b,off,none⟩) xs.length cap∧xs.length≤cap∧cap≤maxLen∧H b=some (.cells arr T fz)∧off+cap*aE.sz α≤arr.size ∧
  ∀ k e,xs[k]? = some e→∃ cs,aE.E H cs e∧∀ j c,cs[j]? = some c→arr[off+k*aE.sz α+j]? = some c
theorem aI.mono {α:Type}[aE α] {H H':Hp}{v:Value}{xs:List α} (hle:H.le H') (h:aI H v xs):aI H' v xs:=by
 rcases h with h | ⟨b,off,cap,arr,T,fz,h1,h2,h3,h4,h5,h6⟩
 ·exact .inl h
 ·exact .inr ⟨b,off,cap,arr,T,fz,h1,h2,h3,hle _ _ h4,h5,fun k e he=>let ⟨cs,a,b⟩:=h6 k e he; ⟨cs,aE.mono hle a,b⟩⟩
instance {α:Type}[aE α]:aE (List α) where
 sz:=1
 E H cs xs:=∃ v,cs=[v]∧aI H v xs
 len h:=by obtain ⟨v,rfl,_⟩:=h; rfl
 mono hle h:=by obtain ⟨v,e,hv⟩:=h; exact ⟨v,e,hv.mono hle⟩
 one h c hc:=by
  obtain ⟨v,rfl,hv⟩:=h;simp at hc; subst hc
  rcases hv with ⟨⟨a,rfl⟩,_⟩ | ⟨b,off,cap,arr,T,fz,rfl,_⟩ <;> rfl
def Value.base:Value→Addr
 | .slice (some a) _ _=>a
 | _=>⟨0,0,none⟩
def Value.lQ:Value→Nat
 | .slice _ _ c=>c
 | _=>0
theorem aI.len {α:Type}[aE α] {H:Hp}{v:Value}{xs:List α} (h:aI H v xs):∃ a c,v=.slice a xs.length c∧xs.length≤c∧c≤maxLen:=by
 rcases h with ⟨⟨a,rfl⟩,rfl⟩ | ⟨b,off,cap,arr,T,fz,rfl,h2,h3,_⟩
 ·exact ⟨a,0,rfl,HQ _,by unfold maxLen; omega⟩
 ·exact ⟨_,cap,rfl,h2,h3⟩
theorem aI.val {α:Type}[aE α] {H:Hp}{v:Value}{xs:List α} (h:aI H v xs) {k:Nat}{e:α} (he:xs[k]? = some e):v=.slice (some (Value.base v)) xs.length (Value.lQ v):=by
 rcases h with ⟨⟨a,rfl⟩,rfl⟩ | ⟨b,off,cap,arr,T,fz,rfl,_⟩
 ·simp at he
 ·rfl
theorem aI.elem {α:Type}[aE α] {H:Hp}{v:Value}{xs:List α} (h:aI H v xs) {k:Nat}{e:α} (he:xs[k]? = some e):
  ∃ cs,aE.E H cs e∧cD H ((Value.base v).add (k*aE.sz α)) cs:=by
 rcases h with ⟨⟨a,rfl⟩,rfl⟩ | ⟨b,off,cap,arr,T,fz,rfl,h2,h3,h4,h5,h6⟩
 ·simp at he
 ·obtain ⟨cs,h7,h8⟩:=h6 k e he
  refine ⟨cs,h7,fun j c hc=>⟨arr,T,fz,?_,?_,?_⟩⟩
  ·simp only [Value.base,IL]; exact h4
  ·simp only [Value.base,IL]
  ·simp only [Value.base,IL]; exact h8 j c hc
section
variable {x:Cx}{ops:Array Oper}{Q:kZ}{rest:List Oper}{H:Hp}{M M':List bV}{L L':Env}
variable {d:Nat}{ty:TypeId}{pos:String}{aft:Array Edge}{g:Option (Nat×Bool)}
theorem aY {α:Type}[aE α] {t e:TypeId}{y z:Operand}{v:Value}{xs:List α}{el:α}{kk:IntKind}{i:Int} (hg:gd ops L ⟨some d,.indexAddr t y z,ty,pos,aft,g⟩=some true) (hN:Nat.blt d x.N=true)
  (hT:∀ w,(underlying t).run x.P w=.ok (.slice e) w) (hs:∀ w,(sizeOf e).run x.P w=.ok (aE.sz α) w)
  (hy:ev L y=some v) (hR:aI H v xs) (hz:ev L z=some (.int kk i)) (h0:0≤i) (he:xs[i.toNat]? = some el)
  (k:W x ops Q rest H M ((d,.pointer (some ((Value.base v).add (i.toNat*aE.sz α))))::L)):
  W x ops Q (⟨some d,.indexAddr t y z,ty,pos,aft,g⟩::rest) H M L:=
 B4 hg hN hT hs (by rw [hy,← hR.val he]) hz h0 (by rcases He.1 he with ⟨h,_⟩; exact h) k
theorem bD {α:Type}[aE α] {t e:TypeId}{y:Operand}{v:Value}{xs:List α} (hg:gd ops L ⟨some d,.call ⟨.builtin .len,#[y],#[t]⟩,ty,pos,aft,g⟩=some true) (hN:Nat.blt d x.N=true)
  (hT:∀ w,(underlying t).run x.P w=.ok (.slice e) w) (hy:ev L y=some v) (hR:aI H v xs) (k:W x ops Q rest H M ((d,.int .i64 xs.length)::L)):
  W x ops Q (⟨some d,.call ⟨.builtin .len,#[y],#[t]⟩,ty,pos,aft,g⟩::rest) H M L:=by
 obtain ⟨a,c,rfl,_⟩:=hR.len;exact w8 hg hN hT hy k
end
def over (l:List Value) (k:Nat):List Value→List Value
 | []=>l
 | v::vs=>over (l.set k v) (k+1) vs
theorem l9 (vs:List Value):∀ (l:List Value) (k:Nat),(over l k vs).length=l.length:=by
 induction vs with
 | nil=>intro l k; rfl
 | cons v vs ih=>intro l k; simp [over,ih]
theorem iI {P:Program} (b o:Nat) (T:TypeId):∀ (vs:List Value) (i:Nat) (l:List Value) (w:World),w.heap[b]? = some (.cells l.toArray T (0,0)) →
  o+i+vs.length≤l.length→(∀ v ∈ vs,v.oneCell'=true) →
  ∃ w',(storeCells ⟨b,o,none⟩ vs i).run P w=.ok () w'∧w'.heap[b]? = some (.cells (over l (o+i) vs).toArray T (0,0))∧w.grownBy w' (some b)
 | [],i,l,w,h,_,_=>⟨w,rfl,h,⟨rfl,rfl,rfl,HQ _,fun _ _ _=>rfl⟩⟩
 | v::vs,i,l,w,h,hb,h1=>by
  have hlt:o+i<l.length:=by simp at hb; omega
  have hc:w.cell? ⟨b,o+i,none⟩=some l[o+i]:=Mf (w:=w) (ad:=⟨b,o+i,none⟩) h rfl (by simp [hlt])
  have hf:w.frozen? ⟨b,o+i,none⟩=false:=by simp [World.frozen?,h]
  have h':(w.setCell ⟨b,o+i,none⟩ v).heap[b]? = some (.cells (l.set (o+i) v).toArray T (0,0)):=by
   simp [World.setCell,L_,h]
  obtain ⟨w',hr,hh,hg⟩:=iI (P:=P) b o T vs (i+1) (l.set (o+i) v) (w.setCell ⟨b,o+i,none⟩ v) h' (by simp at hb ⊢; omega) (fun u hu=>h1 u (HB _ hu))
  refine ⟨w',?_,?_,?_⟩
  ·have hv:=h1 v (Hm ..)
   simp only [storeCells,HJ,store,IL];have:(Sem.store Mode.plain ⟨b,o+i,none⟩ v (Sem.pure ())).run P w=.ok () (w.setCell ⟨b,o+i,none⟩ v):=by
    cases v <;> first
     | (simp [Sem.run,hc,hf]; done)
     | simp [Value.oneCell'] at hv
   rw [this];simpa using hr
  ·simpa [over,J8] using hh
  ·exact ⟨hg.os,hg.tape,hg.output,by have:=hg.size; simpa [World.setCell] using this,fun k hk hne=>by
    rw [hg.block k (by simpa [World.setCell] using hk) hne]
    exact Below.heap_setCell _ _ _ _ (by intro e; subst e; exact hne rfl)⟩
section
variable {x:Cx}{ops:Array Oper}{Q:kZ}{rest:List Oper}{H:Hp}{M M':List bV}{L L':Env}
variable {ty:TypeId}{pos:String}{aft:Array Edge}{g:Option (Nat×Bool)}
theorem aM {T E:TypeId}{n:Nat}{y z:Operand}{b o:Nat}{l cs out:List Value}{v:Value} (hg:gd ops L ⟨none,.store T y z,ty,pos,aft,g⟩=some true)
  (hn:∀ w,(sizeOf T).run x.P w=.ok n w) (hy:ev L y=some (.pointer (some ⟨b,o,none⟩))) (hz:ev L z=some v) (hv:v.cells=cs.toArray) (hl:cs.length=n)
  (hb:Nat.ble (o+cs.length) l.length=true) (h1:∀ c ∈ cs,c.oneCell'=true) (ho:over l o cs=out)
  (k:W x ops Q rest H (.obj b (.cells out.toArray E (0,0))::M) L):
  W x ops Q (⟨none,.store T y z,ty,pos,aft,g⟩::rest) H (.obj b (.cells l.toArray E (0,0))::M) L:=
 y_ rfl hg (fun a w hs ht=>by
  subst ho;have hob:=ht.q6 (Hm ..);obtain ⟨w',hr,hh,hgr⟩:=iI (P:=x.P) b o E cs 0 l w hob (by simpa [Kx] using hb) h1
  refine ⟨w',?_,H,_,ht.xM (r':=.obj b (.cells (over l o cs).toArray E (0,0))) hgr hh (fun c hc=>.inl hc),k⟩;simp [execOp,hs.ev hy,hs.ev hz,Instr.storeAt,Instr.sureAddr,storeVar,hn,hl,hv,hr])
theorem aQ {l cs:List Value} (h:Nat.beq cs.length l.length=true):over l 0 cs=cs:=by
 have h':cs.length=l.length:=JO h;have key:∀ (vs pre:List Value) (l:List Value),l.length=pre.length+vs.length→l.take pre.length=pre→over l pre.length vs=pre++vs:=by
  intro vs
  induction vs with
  | nil=>intro pre l h1 h2; simp at h1; simp only [over,Ij]; rw [← h2,HR (by omega)]
  | cons v vs ih=>
   intro pre l h1 h2;simp only [HD] at h1;have:=ih (pre++[v]) (l.set pre.length v) (by simp; omega) (by
    simp only [HZ,Iz];rw [Ie (by simp; omega),Ki (HQ _),h2]
    simp)
   simp only [over];simpa using this
 simpa using key cs [] l (by simpa using h'.symm) rfl
end
theorem least {p:Nat→Prop}:∀ n,p n→∃ m,p m∧∀ k,p k→m≤k:=by
 intro n
 induction n using Nat.strongRecOn with
 | _ n ih=>
  intro h
  by_cases hh:∃ m,m<n∧p m
  ·obtain ⟨m,hm,hp⟩:=hh; exact ih m hm hp
  ·exact ⟨n,h,fun k hk=>by
    by_cases e:k<n
    ·exact absurd ⟨k,e,hk⟩ hh
    ·omega⟩
theorem DM {P:Program}{Q:kZ}{c:Code} (J:Nat→Act→World→Prop) {n:Nat}{a:Act}{w:World} (h0:J n a w)
  (round:∀ n a w,J n a w→c.wp P (Exit.then (fun a' w'=>∃ m,m<n∧J m a' w') Q) a w):(Code.loop c).wp P Q a w:=by
 have hex:∀ a w,(∃ n,J n a w)→∃ m,J m a w∧∀ k,J k a w→m≤k:=fun a w ⟨n,h⟩=>least n h
 let μ:Act→World→Nat:=fun a w=>Classical.epsilon (fun m=>J m a w∧∀ k,J k a w→m≤k)
 have hμ:∀ a w,(∃ n,J n a w)→J (μ a w) a w∧∀ k,J k a w→μ a w≤k:=fun a w h=>Classical.epsilon_spec (p:=fun m=>J m a w∧∀ k,J k a w→m≤k) (hex a w h);refine wp_loop (fun a w=>∃ n,J n a w) μ ⟨n,h0⟩ fun a w h=>?_;refine wp_mono (round (μ a w) a w (hμ a w h).1) ?_;intro e a' w' hq;cases e with
 | normal=>
  obtain ⟨m,hm,hJ⟩:=hq;exact ⟨⟨m,hJ⟩,KM ((hμ a' w' ⟨m,hJ⟩).2 m hJ) hm⟩
 | _=>exact hq
abbrev xP:=Nat→Hp→List bV→Env→Prop
def DR (x:Cx) (S:xP) (n:Nat) (a:Act) (w:World):Prop:=
 ∃ m,m<n∧∃ H M L,S m H M L∧Sl x.N L a∧St x.B x.w0 H M w
theorem u7 {x:Cx}{c:Code}{Q:kZ}{H:Hp}{M:List bV}{L:Env} (S:xP) (n:Nat) (h0:S n H M L)
  (step:∀ n H M L,S n H M L→C x c (Exit.then (DR x S n) Q) H M L):C x (.loop c) Q H M L:=by
 intro a w hs ht;refine DM (fun n a w=>∃ H M L,S n H M L∧Sl x.N L a∧St x.B x.w0 H M w) ⟨H,M,L,h0,hs,ht⟩ ?_;intro n a w ⟨H,M,L,h,hs,ht⟩;exact step n H M L h a w hs ht
theorem b_ {x:Cx}{S:xP}{Q:kZ}{H:Hp}{M:List bV}{L:Env}{n m:Nat} (hm:m<n) (h:S m H M L):E x .normal (Exit.then (DR x S n) Q) H M L:=
 fun _ _ hs ht=>⟨m,hm,H,M,L,h,hs,ht⟩
section
variable {x:Cx}{Q:kZ}{H:Hp}{M:List bV}{L:Env}{K:Act→World→Prop}
theorem ke (h:E x .ret Q H M L):E x .ret (Exit.then K Q) H M L:=h
theorem qH {id:Nat} (h:E x .ret Q H M L):E x .ret (Exit.inBlock id Q) H M L:=h
theorem eU {id:Nat} (h:E x (.exit id) Q H M L):E x (.exit id) (Exit.then K Q) H M L:=h
theorem kQ {id:Nat} (h:E x .normal Q H M L):E x (.exit id) (Exit.inBlock id Q) H M L:=fun a w hs ht=>by
 simp only [Exit.inBlock,Lr]; exact h a w hs ht
theorem qG {id id':Nat} (hne:Nat.beq id id'=false) (h:E x (.exit id) Q H M L):E x (.exit id) (Exit.inBlock id' Q) H M L:=fun a w hs ht=>by
 have:¬ id=id':=fun e=>by subst e; simp at hne
 simp only [Exit.inBlock,Hs this]; exact h a w hs ht
theorem aH {id:Nat} (h:E x .normal Q H M L):E x .normal (Exit.inBlock id Q) H M L:=h
end
abbrev Gp:=Hp→List bV→Env→Prop
theorem bL {x:Cx}{c d:Code}{Q:kZ}{H:Hp}{M:List bV}{L:Env} (S:Gp) (rest:∀ H M L,S H M L→C x d Q H M L)
  (k:(∀ H M L,S H M L→E x .normal (Exit.then (d.wp x.P Q) Q) H M L)→C x c (Exit.then (d.wp x.P Q) Q) H M L):C x (.seq c d) Q H M L:=
 cH (k fun H M L h=>aP (rest H M L h))
theorem iE {α:Type}{xs ys:List α}{k:Nat} (h:xs.drop k=ys) (hb:decide ((k:Int)<(xs.length:Int))=true):
  ∃ y zs,ys=y::zs∧xs[k]? = some y∧xs.drop (k+1)=zs:=by
 have hk:k<xs.length:=by have:=Ht hb; omega
 refine ⟨xs[k],xs.drop (k+1),?_,Hi hk,rfl⟩;rw [← h,Iu hk]
theorem iD {α:Type}{xs ys:List α}{k:Nat} (h:xs.drop k=ys) (hb:decide ((k:Int)<(xs.length:Int))=false):ys=[]:=by
 have hk:xs.length≤k:=by have:=HG hb; omega
 rw [← h,List.drop_eq_nil_of_le hk]
theorem sj {n:Int} (h0:-9223372036854775808≤n) (h1:n≤9223372036854775807):i64.wrap n=n:=by
 simp only [IntKind.wrap,IntKind.bits,IntKind.signed,Bool.true_and]
 split <;> rename_i h <;> simp at h <;> omega
theorem cR {α:Type}{xs:List α}{k:Nat}{y:α} (h:xs[k]? = some y) (hl:xs.length≤maxLen):i64.wrap ((k:Int)+1)=((k+1:Nat):Int):=by
 have hk:=(He.1 h).1;unfold maxLen at hl;rw [sj (by omega) (by omega)]; rfl
theorem fZ {k n:Nat} (h:k<n) (hl:n≤maxLen):i64.wrap ((k:Int)+1)=((k+1:Nat):Int):=by
 unfold maxLen at hl;rw [sj (by omega) (by omega)]; rfl
theorem aI.dT {α:Type}[aE α] {H:Hp}{v:Value}{xs:List α} (h:aI H v xs):xs.length≤maxLen:=by
 obtain ⟨a,c,_,h1,h2⟩:=h.len; omega
def yk:Nat→List Value→Env
 | _,[]=>[]
 | i,v::vs=>(i,v)::yk (i+1) vs
theorem Bh (N:Nat):∀ (vs:List Value) (i:Nat) (t:Nat) (v:Value) (pre:List Value),pre.length=i→lk (yk i vs) t=some v →
  ((pre++vs).toArray++Array.replicate (N-(pre++vs).length) undef)[t]? = some v:=by
 intro vs
 induction vs with
 | nil=>intro i t v pre _ h; simp [yk,lk] at h
 | cons u vs ih=>
  intro i t v pre hp h;simp only [yk,pn] at h
  split at h
  ·rename_i e; subst e; cases h
   simp [Array.getElem?_append,← hp]
  ·have:=ih (i+1) t v (pre++[u]) (by simp [hp]) h
   simpa using this
theorem enter {P:Program}{f:FuncId}{fn:Func}{c:Code}{vs:List Value}{N B:Nat}{w0 w:World}{H:Hp}{M:List bV}{Φ:Hp→List bV→Value→Prop}
  (hf:P.funcs[f]? = some fn) (hb:fn.body=some c) (hN:fn.ntmps=N) (hle:Nat.ble vs.length N=true) (ht:St B w0 H M w)
  (k:C ⟨P,N,B,w0⟩ c (bodyPost P fn (fS B w0 Φ)) H M (yk 0 vs)):Calls P f vs.toArray w (fS B w0 Φ):=by
 refine calls_of_wp hf hb (k _ w ⟨?_,rfl,?_⟩ ht)
 ·have:vs.length≤N:=by simpa [Kx] using hle
  simp [hN]; omega
 ·intro t v h
  have:=Bh N vs 0 t v [] rfl h;simpa [hN] using this
section
variable {P:Program}{N B:Nat}{w0:World}{fn:Func}{Φ:Hp→List bV→Value→Prop}{H:Hp}{M:List bV}{L:Env}
theorem cL {t:Nat}{v:Value} (hr:fn.results=#[.tmp t]) (hl:lk L t=some v) (h:Φ H M v):E ⟨P,N,B,w0⟩ .ret (bodyPost P fn (fS B w0 Φ)) H M L:=
 fun a w hs ht=>⟨hs.yh,v,by rw [results_tmp hr]; simp [It,hs.get t v hl],H,M,ht,h⟩
theorem jS {t u:Nat}{v1 v2:Value} (hr:fn.results=#[.tmp t,.tmp u]) (hl:lk L t=some v1) (hl2:lk L u=some v2) (h:Φ H M (.tuple #[v1,v2])):E ⟨P,N,B,w0⟩ .ret (bodyPost P fn (fS B w0 Φ)) H M L:=
 fun a w hs ht=>⟨hs.yh,.tuple #[v1,v2],by rw [results_tmp2 hr]; simp [It,hs.get t v1 hl,hs.get u v2 hl2],H,M,ht,h⟩
end
section
variable {α σ R:Type}
def idx (l:List α) (i:Int) (k:α→Option R):Option R:=
 if 0≤i then match l[i.toNat]? with
  | some y=>k y
  | none=>none
 else none
theorem aD {l:List α}{i:Int}{k:α→Option R}{r:R} (h:idx l i k=some r):∃ y,0≤i∧l[i.toNat]? = some y∧k y=some r:=by
 unfold idx at h
 split at h
 ·cases hl:l[i.toNat]? with
  | none=>rw [hl] at h; cases h
  | some y=>rw [hl] at h; exact ⟨y,‹_›,rfl,h⟩
 ·cases h
def dH (p:Prop) [Decidable p] (k:Option R):Option R:=if p then k else none
theorem aR {p:Prop}[Decidable p] {k:Option R}{r:R} (h:dH p k=some r):p∧k=some r:=by
 unfold dH at h
 split at h
 ·exact ⟨‹_›,h⟩
 ·cases h
theorem bind_some {o:Option α}{k:α→Option R}{r:R} (h:o.bind k=some r):∃ y,o=some y∧k y=some r:=by
 cases o with
 | none=>cases h
 | some y=>exact ⟨y,rfl,h⟩
def eE (body:Nat→α→σ→(σ→Option R)→Option R) (k:σ→Option R):Nat→List α→σ→Option R
 | _,[],s=>k s
 | i,y::ys,s=>body i y s (eE body k (i+1) ys)
def jH (body:Nat→σ→(σ→Option R)→Option R) (k:σ→Option R):Nat→Nat→σ→Option R
 | 0,_,s=>k s
 | n+1,i,s=>body i s (jH body k n (i+1))
def fV (body:σ→(σ→Option R)→Option R):Nat→σ→Option R
 | 0,_=>none
 | n+1,s=>body s (fV body n)
def eT:Nat:=1152921504606846976
end
theorem um (X Y:Env) (t:Nat):lk (X++Y) t=(lk X t).or (lk Y t):=by
 induction X with
 | nil=>simp [lk]
 | cons p X ih=>
  obtain ⟨u,v⟩:=p;simp only [J4,pn]
  split <;> simp [ih]
theorem zM {X:Env}{t:Nat}{v:Value} (h:lk X t=some v):(t,v) ∈ X:=by
 induction X with
 | nil=>simp [lk] at h
 | cons p X ih=>
  obtain ⟨u,w⟩:=p;rw [pn] at h
  split at h
  ·rename_i e; subst e; cases h; exact Hm ..
  ·exact HB _ (ih h)
theorem Sl.more {N:Nat}{L X:Env}{a:Act} (h:Sl N L a) (hX:∀ t v,(t,v) ∈ X→a.tmps[t]? = some v):Sl N (L++X) a:=
 ⟨h.size,h.yh,fun t v ht=>by
  rw [um] at ht;cases hl:lk L t with
  | some u=>rw [hl] at ht; simp at ht; subst ht; exact h.get t _ hl
  | none=>rw [hl] at ht; simp at ht; exact hX t v (zM ht)⟩
theorem Sl.cons {N:Nat}{L:Env}{a:Act}{t:Nat}{v:Value} (h:Sl N L a) (hv:a.tmps[t]? = some v):Sl N ((t,v)::L) a:=
 ⟨h.size,h.yh,fun u w hu=>by
  rw [pn] at hu
  split at hu
  ·rename_i e; subst e; cases hu; exact hv
  ·exact h.get u w hu⟩
theorem Sl.left {N:Nat}{L X:Env}{a:Act} (h:Sl N (L++X) a):Sl N L a:=
 ⟨h.size,h.yh,fun t v ht=>h.get t v (by rw [um,ht]; rfl)⟩
def fX (o:Oper):List Nat:=(o.after.toList.filter fun e=>Region.binds .any e).map (·.on)
def DS (l:List Oper) (Φ:Nat→Hp→Value→Prop) (H:Hp):List Nat→Env→(Env→Prop)→Prop
 | [],L,k=>k L
 | j::js,L,k=>match (l[j]?).bind (·.dst) with
  | some t=>∀ v,Φ j H v→DS l Φ H js ((t,v)::L) k
  | none=>DS l Φ H js L k
def One (x:Cx) (H:Hp) (M:List bV) (L:Env) (t:Nat) (φ:Hp→Value→Prop):kZ:=fun e a w=>
 e=.normal∧∃ v H',Sl x.N ((t,v)::L) a∧H.le H'∧St x.B x.w0 H' M w∧φ H' v
def DT (x:Cx) (l:List Oper) (Φ:Nat→Hp→Value→Prop) (H:Hp) (M:List bV) (L:Env):Nat→List Oper→Prop
 | _,[]=>True
 | i,o::r=>(∀ H',H.le H'→∀ X,DS l Φ H' (fX o) (L++X) (fun L'=>W x l.toArray (One x H' M L' (o.dst.getD 0) (Φ i)) [o] H' M L'))∧DT x l Φ H M L (i+1) r
theorem DT.at {x:Cx}{l:List Oper}{Φ:Nat→Hp→Value→Prop}{H:Hp}{M:List bV}{L:Env}:∀ {r:List Oper}{i:Nat},DT x l Φ H M L i r→∀ j o,r[j]? = some o →
  ∀ H',H.le H'→∀ X,DS l Φ H' (fX o) (L++X) (fun L'=>W x l.toArray (One x H' M L' (o.dst.getD 0) (Φ (i+j))) [o] H' M L')
 | [],_,_,j,o,h=>by simp at h
 | p::r,i,hh,0,o,h=>by simp at h; subst h; exact hh.1
 | p::r,i,hh,j+1,o,h=>by
  have:=DT.at hh.2 j o (by simpa using h)
  rwa [show i+1+j=i+(j+1) from by omega] at this
theorem DS.use {l:List Oper}{Φ:Nat→Hp→Value→Prop}{H:Hp}{a:Act}{N:Nat}:∀ {js:List Nat}{L:Env}{k:Env→Prop},DS l Φ H js L k→Sl N L a →
  (∀ j ∈ js,∀ t,(l[j]?).bind (·.dst)=some t→∃ v,a.tmps[t]? = some v∧Φ j H v)→∃ Y,k (Y++L)∧Sl N (Y++L) a∧∀ t v,(t,v) ∈ Y→a.tmps[t]? = some v
 | [],L,k,h,hs,_=>⟨[],h,hs,by simp⟩
 | j::js,L,k,h,hs,hv=>by
  unfold DS at h;cases hd:(l[j]?).bind (·.dst) with
  | none=>
   rw [hd] at h;exact DS.use h hs (fun i hi=>hv i (HB _ hi))
  | some t=>
   rw [hd] at h;obtain ⟨v,h1,h2⟩:=hv j (Hm ..) t hd;obtain ⟨Y,h3,h4,h5⟩:=DS.use (h v h2) (hs.cons h1) (fun i hi=>hv i (HB _ hi));refine ⟨Y++[(t,v)],by simpa using h3,by simpa using h4,?_⟩
   intro u w hm;rcases Ih.1 hm with hm | hm
   ·exact h5 u w hm
   ·simp at hm; obtain ⟨rfl,rfl⟩:=hm; exact h1
theorem mem_ready {ops:Array Oper}{listed:Array Bool}{i:Nat}:i ∈ Region.ready .any ops listed↔i<ops.size∧listed.getD i true=false∧∃ o,ops[i]? = some o∧∀ j ∈ fX o,listed.getD j false=true:=by
 unfold Region.ready fX;simp only [I6,IA,Jp,Li];refine and_congr_right fun hi=>and_congr_right fun _=>?_;have:ops[i]? = some ops[i]:=Ks hi;simp only [this,Je,JK,Array.all_eq_true',Im,IQ,I6,Array.mem_toList_iff,Jl,Li];constructor
 ·intro h
  refine ⟨_,rfl,?_⟩;rintro j ⟨e,⟨he,hb⟩,rfl⟩;rcases h e he with h | h
  ·rw [h] at hb; cases hb
  ·exact h
 ·rintro ⟨o,rfl,h⟩ e he
  cases hb:Region.binds .any e with
  | false=>exact .inl rfl
  | true=>exact .inr (h _ ⟨e,⟨he,hb⟩,rfl⟩)
section
variable {x:Cx}{l:List Oper}{m:Nat}{Φ:Nat→Hp→Value→Prop}{H:Hp}{M:List bV}{L:Env}{Q:kZ}
theorem qi (b:Array Bool) (i j:Nat) (d:Bool) (hi:i<b.size):(b.setIfInBounds i true).getD j d=if j=i then true else b.getD j d:=by
 simp only [It,Ll]
 by_cases e:i=j
 ·subst e; simp [hi]
 ·simp [e,Ne.symm e]
def left (l:List Oper) (listed:Array Bool):Nat:=(List.range l.length).countP fun i=>!listed.getD i true
theorem CZ {listed:Array Bool}{i:Nat} (hsz:listed.size=l.length) (hi:i<l.length) (hl:listed.getD i true=false):left l (listed.setIfInBounds i true)+1=left l listed:=by
 unfold left;have key:∀ n,i<n→n≤l.length→(List.range n).countP (fun j=>!(listed.setIfInBounds i true).getD j true)+1=(List.range n).countP (fun j=>!listed.getD j true):=by
  intro n
  induction n with
  | zero=>omega
  | succ n ih=>
   intro h1 h2;rw [K9,List.countP_append,List.countP_append]
   by_cases e:i=n
   ·subst e
    have:∀ n,n≤i→(List.range n).countP (fun j=>!(listed.setIfInBounds i true).getD j true)=(List.range n).countP (fun j=>!listed.getD j true):=by
     intro n hn;refine List.countP_congr fun j hj=>?_;have hj':=IA.1 hj;rw [qi _ _ _ _ (by omega),Hs (by omega)]
    rw [this i (HQ _)];simp only [List.countP_cons,List.countP_nil,qi _ _ _ _ (by omega:i<listed.size),hl,Lr]
    simp
   ·have:=ih (by omega) (by omega)
    have h3:(listed.setIfInBounds i true).getD n true=listed.getD n true:=by rw [qi _ _ _ _ (by omega),Hs (by omega)]
    simp only [List.countP_cons,List.countP_nil,h3];omega
 exact key l.length hi (HQ _)
end
structure U8 where
 n:Int
 deriving DecidableEq
structure Gt where
 n:Int
 deriving DecidableEq
structure bI where
 n:Int
 deriving DecidableEq
structure Gu where
 n:Int
 deriving DecidableEq
structure Gn where
 n:Int
 deriving DecidableEq
instance:aE U8 where
 sz:=1
 E _ cs x:=cs=[.int .u8 x.n]
 len h:=by rw [h]; rfl
 mono _ h:=h
 one h c hc:=by rw [h] at hc; simp at hc; subst hc; rfl
instance:aE Gt where
 sz:=1
 E _ cs x:=cs=[.int .u16 x.n]
 len h:=by rw [h]; rfl
 mono _ h:=h
 one h c hc:=by rw [h] at hc; simp at hc; subst hc; rfl
instance:aE bI where
 sz:=1
 E _ cs x:=cs=[.int .u32 x.n]
 len h:=by rw [h]; rfl
 mono _ h:=h
 one h c hc:=by rw [h] at hc; simp at hc; subst hc; rfl
instance:aE Gu where
 sz:=1
 E _ cs x:=cs=[.int .u64 x.n]
 len h:=by rw [h]; rfl
 mono _ h:=h
 one h c hc:=by rw [h] at hc; simp at hc; subst hc; rfl
instance:aE Gn where
 sz:=1
 E _ cs x:=cs=[.int .i32 x.n]
 len h:=by rw [h]; rfl
 mono _ h:=h
 one h c hc:=by rw [h] at hc; simp at hc; subst hc; rfl
theorem aI.nil {α:Type}[aE α] {H:Hp}:aI H (.slice none 0 0) ([]:List α):=.inl ⟨⟨_,rfl⟩,rfl⟩
theorem aI.cells {α:Type}[aE α] {H:Hp}{v:Value}{xs:List α} (h:aI H v xs):v.cells=[v].toArray:=by
 obtain ⟨a,c,rfl,_⟩:=h.len; rfl
theorem aI.cM {α:Type}[aE α] {H:Hp}{v:Value}{xs:List α} (h:aI H v xs):v.oneCell'=true:=by
 obtain ⟨a,c,rfl,_⟩:=h.len; rfl
theorem Hr:∀ c ∈ ([]:List Value),c.oneCell'=true:=by intro c hc; cases hc
theorem Hb {v:Value}{l:List Value} (h:v.oneCell'=true) (k:∀ c ∈ l,c.oneCell'=true):∀ c ∈ v::l,c.oneCell'=true:=by
 intro c hc;rcases Ix.1 hc with rfl | hc
 ·exact h
 ·exact k c hc
theorem cD.one {H:Hp}{ad:Addr}{cs:List Value} (h:cD H ad cs) (j:Nat) {c:Value} (hc:cs[j]? = some c):u9 H (ad.add j) c:=h j c hc
theorem cD.part {H:Hp}{ad:Addr}{cs ds:List Value}{k:Nat} (h:cD H ad cs) (hd:(cs.drop k).take ds.length=ds):cD H (ad.add k) ds:=by
 intro j c hc;have hj:j<ds.length:=(He.1 hc).1;have:cs[k+j]? = some c:=by
  rw [← hd,ID,Hv hj,Ir] at hc; exact hc
 have:=h (k+j) c this;have e:(ad.add k).add j=ad.add (k+j):=by
  unfold Addr.add
  by_cases h1:k=0
  ·subst h1; simp
  ·by_cases h2:j=0
   ·subst h2; simp
   ·simp [h1,h2,J8]
 rw [e]; exact this
theorem gL {x:Cx}{H:Hp}{M:List bV}{b k:Nat}{l ds:List Value}{T:TypeId}{fz:Nat×Nat}
  (hm:bV.obj b (.cells l.toArray T fz) ∈ M) (hd:(l.drop k).take ds.length=ds):tt x H M ⟨b,k,none⟩ ds:=by
 intro j c hc;have hj:j<ds.length:=(He.1 hc).1;rw [IL];refine bZ hm ?_;rw [← hd,ID,Hv hj,Ir] at hc; exact hc
theorem wZ {x:Cx}{e:Exit}{Q:kZ}{H:Hp}{M M':List bV}{L L':Env} (k:E x e Q H M' L') (hM:M.Perm M') (hL:Kept L L'):E x e Q H M L:=y7 hL hM k
theorem gW {α:Type}{b:Bool}{p q r:α} (hb:b=true) (h:(if b=true then p else q)=r):p=r:=by rw [Hv hb] at h; exact h
theorem gV {α:Type}{b:Bool}{p q r:α} (hb:b=false) (h:(if b=true then p else q)=r):q=r:=by rw [Hs (by simp [hb])] at h; exact h
section
variable {P:Program}{N B:Nat}{w0:World}{fn:Func}{H H0:Hp}{M:List bV}{L:Env}
end
def mU {α:Type}[aE α] (H:Hp):List Value→List α→Prop
 | cs,[]=>cs=[]
 | cs,y::ys=>∃ c r,cs=c++r∧aE.E H c y∧mU H r ys
section
variable {α:Type}[aE α] {H H':Hp}
theorem mU.nil:mU H [] ([]:List α):=rfl
theorem mU.cons {c r:List Value}{y:α}{ys:List α} (h:aE.E H c y) (k:mU H r ys):mU H (c++r) (y::ys):=⟨c,r,rfl,h,k⟩
theorem mU.mono (hle:H.le H'):∀ {cs:List Value}{ys:List α},mU H cs ys→mU H' cs ys
 | _,[],h=>h
 | _,_::_,⟨c,r,e,h,k⟩=>⟨c,r,e,aE.mono hle h,mU.mono hle k⟩
theorem mU.len:∀ {cs:List Value}{ys:List α},mU H cs ys→cs.length=ys.length*aE.sz α
 | _,[],h=>by rw [show _=[] from h]; simp
 | _,_::ys,⟨c,r,e,h,k⟩=>by rw [e,HZ,aE.len h,mU.len k,HD,HS]; omega
theorem mU.app:∀ {cs ds:List Value}{ys zs:List α},mU H cs ys→mU H ds zs→mU H (cs++ds) (ys++zs)
 | _,ds,[],zs,h,k=>by rw [show _=[] from h]; simpa using k
 | _,ds,y::ys,zs,⟨c,r,e,h,k⟩,k2=>⟨c,r++ds,by rw [e,Ia],h,mU.app k k2⟩
theorem mU.one:∀ {cs:List Value}{ys:List α},mU H cs ys→∀ c ∈ cs,c.oneCell'=true
 | _,[],h=>by rw [show _=[] from h]; simp
 | _,_::_,⟨c,r,e,h,k⟩=>by
  intro d hd;rw [e] at hd;rcases Ih.1 hd with hd | hd
  ·exact aE.one h d hd
  ·exact mU.one k d hd
theorem mU.get:∀ {cs:List Value}{ys:List α},mU H cs ys→∀ k e,ys[k]? = some e→∃ c,aE.E H c e∧∀ j v,c[j]? = some v→cs[k*aE.sz α+j]? = some v
 | _,[],h,k,e,he=>by simp at he
 | _,y::ys,⟨c,r,e,h,k⟩,0,x,hx=>by
  simp at hx; subst hx
  exact ⟨c,h,fun j v hv=>by rw [e,Jk,Ii,IV (He.1 hv).1]; exact hv⟩
 | _,y::ys,⟨c,r,e,h,k⟩,n+1,x,hx=>by
  obtain ⟨d,h1,h2⟩:=mU.get k n x (by simpa using hx)
  refine ⟨d,h1,fun j v hv=>?_⟩;rw [e,H_ (by rw [aE.len h,HS]; omega),aE.len h]
  rw [show (n+1)*aE.sz α+j-aE.sz α=n*aE.sz α+j from by rw [HS]; omega]
  exact h2 j v hv
theorem mU.split:∀ {cs:List Value}{ys:List α} (k:Nat),mU H cs ys→mU H (cs.take (k*aE.sz α)) (ys.take k)∧mU H (cs.drop (k*aE.sz α)) (ys.drop k)
 | cs,ys,0,h=>by rw [Jk]; exact ⟨rfl,h⟩
 | _,[],k+1,h=>by rw [show _=[] from h,List.take_nil,List.drop_nil,List.take_nil,List.drop_nil]; exact ⟨rfl,rfl⟩
 | _,y::ys,k+1,⟨c,r,e,h,k2⟩=>by
  obtain ⟨h1,h2⟩:=mU.split k k2;have hl:=aE.len h;subst e;have e1:(k+1)*aE.sz α=c.length+k*aE.sz α:=by rw [HS,hl]; omega
  rw [e1,List.take_length_add_append,List.drop_length_add_append];exact ⟨⟨c,_,rfl,h,h1⟩,h2⟩
theorem mU.put {cs c:List Value}{ys:List α}{y:α}{k:Nat} (h:mU H cs ys) (hk:k<ys.length) (hy:aE.E H c y):
  mU H (cs.take (k*aE.sz α)++c++cs.drop ((k+1)*aE.sz α)) (ys.set k y):=by
 obtain ⟨h1,_⟩:=h.split k;obtain ⟨_,h2⟩:=h.split (k+1);have:ys.set k y=ys.take k++y::ys.drop (k+1):=by rw [KY,Hv hk]
 rw [this,Ia];exact h1.app (mU.cons hy h2)
theorem aI.flat {v : Value} {ys : List α} (h : aI H v ys) : ∃ cs, mU H cs ys ∧ ((∃ a, v = .slice a 0 0) ∧ ys = [] ∨ cD H (Value.base v) cs ∧ ∃ b off c, v = .slice (some ⟨b, off, none⟩) ys.length c) := by
  rcases h with ⟨⟨a, rfl⟩, rfl⟩ | ⟨b, off, cap, arr, T, fz, rfl, h2, h3, h4, h5, h6⟩
  · exact ⟨[], mU.nil, .inl ⟨⟨a, rfl⟩, rfl⟩⟩
  · have key : ∀ (zs : List α) (k : Nat), (∀ j e, zs[j]? = some e → ∃ cs, aE.E H cs e ∧ ∀ i c, cs[i]? = some c → arr[off + (k + j) * aE.sz α + i]? = some c) →
        ∃ cs, mU H cs zs ∧ ∀ i c, cs[i]? = some c → arr[off + k * aE.sz α + i]? = some c := by
      intro zs
      induction zs with
      | nil => intro k _; exact ⟨[], mU.nil, by simp⟩
      | cons z zs ih =>
        intro k hz;obtain ⟨c, hc, hcc⟩ := hz 0 z rfl;obtain ⟨r, hr, hrr⟩ := ih (k + 1) (fun j e he => by
          obtain ⟨cs, q1, q2⟩ := hz (j + 1) e (by simpa using he)
          exact ⟨cs, q1, fun i c hc => by rw [show k + 1 + j = k + (j + 1) from by omega]; exact q2 i c hc⟩)
        refine ⟨c ++ r, mU.cons hc hr, fun i d hd => ?_⟩;rw [JW] at hd
        split at hd
        · simpa using hcc i d hd
        · rename_i hn
          have := hrr _ d hd;rw [aE.len hc] at this hn;rw [show off + k * aE.sz α + i = off + (k + 1) * aE.sz α + (i - aE.sz α) from by rw [HS]; omega]
          exact this
    obtain ⟨cs, hcs, hh⟩ := key ys 0 (fun j e he => by simpa using h6 j e he)
    refine ⟨cs, hcs, .inr ⟨fun i c hc => ⟨arr, T, fz, ?_, ?_, ?_⟩, b, off, cap, rfl⟩⟩
    · simp only [Value.base, IL]; exact h4
    · simp only [Value.base, IL]
    · simp only [Value.base, IL]; simpa using hh i c hc
end
structure FT (P:Program) (T:TypeId) (sz bytes:Nat) (z:Value):Prop where
 ex:∃ i,P.info? T=some i∧i.size=sz∧i.bytes=bytes∧i.zero=some z
theorem St.rh {α:Type}[aE α] {B:Nat}{w0 w:World}{H:Hp}{M:List bV}{v:Value}{T:TypeId}{n:Nat}{xs:List Value}{ys:List α}
  (h:St B w0 H (.row v T (aE.sz α) n xs::M) w) (hx:mU H xs ys) (hs:0<aE.sz α):∃ H',H.le H'∧St B w0 H' M w∧aI H' v ys:=by
 have hok:=h.ok _ (Hm ..);obtain ⟨hl,hh⟩:=hok;have hn:n=ys.length:=by
  have:=hx.len;rw [hl] at this;exact Jw hs this
 subst hn;rcases hh with ⟨rfl,h0⟩ | ⟨g,off,cap,cur,rfl,hg,hnc,hcm,hcs,htake⟩
 ·refine ⟨H,Hg _,h.tail,.inl ⟨⟨_,rfl⟩,H6 h0⟩⟩
 ·have h':St B w0 H (.obj g (.cells cur T (0,0))::M) w:=by
   refine ⟨h.below,h.le,h.si,?_,?_,h.nd⟩
   ·intro r hr
    rcases Ix.1 hr with rfl | hr
    ·exact hg
    ·exact h.tail.ok r hr
   ·intro r hr
    rcases Ix.1 hr with rfl | hr
    ·exact h.lo (.row _ T (aE.sz α) ys.length xs) (Hm ..)
    ·exact h.tail.lo r hr
  obtain ⟨hle,hst⟩:=h'.freeze;refine ⟨_,hle,hst,.inr ⟨g,off,cap,cur,T,(0,0),rfl,hnc,hcm,Hp.se _ _ _,hcs,?_⟩⟩;intro k e he;obtain ⟨c,h1,h2⟩:=(hx.mono hle).get k e he;refine ⟨c,h1,fun j d hd=>?_⟩;have:=h2 j d hd;rw [← htake,ID] at this
  split at this
  ·rw [Ir] at this; simpa [J8] using this
  ·cases this
theorem rG:∀ (vs l:List Value) (k:Nat),k+vs.length≤l.length→over l k vs=l.take k++vs++l.drop (k+vs.length)
 | [],l,k,_=>by simp [over]
 | v::vs,l,k,h=>by
  simp only [HD] at h;rw [over,rG vs _ _ (by simp; omega)]
  have hk:k<l.length:=by omega
  rw [Ie (by simpa using hk)]
  simp only [List.getElem_set_self,HD];rw [Ki (by omega),Kg (by omega)]
  simp only [Ia,J4,Ju];rw [show k+1+vs.length=k+(vs.length+1) from by omega]
theorem xC {P:Program}{w:World}{t ty e:TypeId}{i:TypeInfo}{z:Value}{size bytes:Nat} (ht:P.underlying t=some (.slice e)) (hi:P.info? e=some i) (hz:i.zero=some z)
  (hsize:i.size=size) (hby:i.bytes=bytes) (hzs:z.cells.size=size) (hsz:0<size)
  {v:Value}{n:Nat}{xs:List Value} (hown:fY w e size v n xs)
  {a:Addr}{m c:Nat}{news:List Value} (hl:news.length=m*size) (hnews:∀ j u,news[j]? = some u→w.cell? (a.add j)=some u) (h1:∀ u ∈ news,u.oneCell'=true)
  (h63:n+m≤maxLen) (hbytes:(n+m)*bytes≤140737488355328):
  ∃ v' w',(Builtin.append_ #[t,t] ty #[v,.slice (some a) m c]).run P w=.ok v' w'∧fY w' e size v' (n+m) (xs++news)∧w.grownBy w' v.ownBlock ∧
   (∀ b,v'.ownBlock=some b→v.ownBlock=some b∨w.heap.size≤b):=by
 subst hsize;subst hby;have hsmall:n+m≤9223372036854775807:=by simp only [maxLen] at h63; omega
 have hlen:(xs++news).length=(n+m)*i.size:=by rw [HZ,hown.1,hl,HS]
 have grown:∀ (qC:Nat) (row:Option Nat),
   fY (w.drew.alloc (.cells (xs.toArray++news.toArray++Builtin.zeroCells z.cells (grownCap w (n+m) qC e-(n+m))) e)) e i.size
    (.slice (some ⟨w.heap.size,0,none⟩) (n+m) (grownCap w (n+m) qC e)) (n+m) (xs++news) ∧
   w.grownBy (w.drew.alloc (.cells (xs.toArray++news.toArray++Builtin.zeroCells z.cells (grownCap w (n+m) qC e-(n+m))) e)) row:=by
  intro qC row;have hge:=Mu w (n+m) qC e;have hcm:grownCap w (n+m) qC e≤maxLen:=LL w (n+m) qC e h63;refine ⟨⟨hlen,.inr ⟨w.heap.size,0,_,_,rfl,LX w.drew _,hge,hcm,?_,?_⟩⟩,⟨rfl,rfl,rfl,by simp,fun k hk _=>heap_alloc_old w.drew _ (h:=hk)⟩⟩
  ·simp only [Array.size_append,KB,size_zeroCells,hzs,hown.1,hl,← HS,Ii]
   rw [show n+m+(grownCap w (n+m) qC e-(n+m))=grownCap w (n+m) qC e from by omega]
   exact HQ _
  ·simp only [Jb,Mn,Ia]
   rw [← Ia,← hlen];exact K0
 rcases hown.2 with ⟨rfl,rfl⟩ | ⟨g,off,cap,cur,rfl,hg,hnc,hcm,hcs,htake⟩
 ·have hx:xs=[]:=H6 (by simpa using hown.1)
  subst hx
  by_cases hm:m=0
  ·subst hm
   have hn:news=[]:=H6 (by simpa using hl)
   subst hn;refine ⟨.slice none 0 0,w,?_,fY.nil w e i.size,⟨rfl,rfl,rfl,HQ _,fun _ _ _=>rfl⟩,by simp [Value.ownBlock]⟩
   simp [Builtin.append_,Jh ht,sizeOf,typeInfo,hi,Builtin.lenOf,Builtin.firstCells,loadCells,loadCellsFrom]
  ·have hr:=run_append_nil (P:=P) w t ty e i z ht hi hz a m c news hl hnews (by omega) (by omega) (by have hb:=hbytes; simp only [Ii] at hb; omega)
   have hgr:=grown 0 (Value.ownBlock (.slice none 0 0));simp only [Ii,Ju,Array.empty_append] at hgr ⊢;exact ⟨_,_,hr,hgr.1,hgr.2,fun b hb=>.inr (by simp only [Value.ownBlock,Im] at hb; omega)⟩
 ·by_cases hroom:n+m≤cap
  ·have hfit:off+n*i.size+news.length≤cur.size:=by
    have:(n+m)*i.size≤cap*i.size:=HL _ hroom;rw [HS] at this;omega
   have hf:=Mr (P:=P) w i.size m a m c news hl hnews;obtain ⟨w',hst,hh,hgr⟩:=iI (P:=P) g (off+n*i.size) e news 0 cur.toList w (by simpa using hg) (by simpa using hfit) h1
   refine ⟨.slice (some ⟨g,off,none⟩) (n+m) cap,w',?_,⟨hlen,.inr ⟨g,off,cap,_,rfl,hh,hroom,hcm,?_,?_⟩⟩,hgr,fun b hb=>.inl hb⟩
   ·simp [Builtin.append_,Jh ht,sizeOf,typeInfo,hi,Builtin.lenOf,hroom,hf,IL,hst]
   ·simpa [l9] using hcs
   ·rw [Kj,Jj,rG _ _ _ (by simpa using hfit)]
    have hd:(cur.toList.take (off+n*i.size)).drop off=xs:=by rw [J9,JV]; exact htake
    rw [Ia,KC (by simp; omega),hd,← Ia,← hlen]
    exact K0
  ·have holds:∀ j u,xs[j]? = some u→w.cell? ((⟨g,off,none⟩:Addr).add j)=some u:=by
    intro j u hu;rw [IL];refine Mf hg rfl ?_;rw [← htake,ID] at hu
    split at hu
    ·rw [Ir] at hu; simpa using hu
    ·cases hu
   have hr:=run_append_grow (P:=P) w t ty e i z ht hi hz ⟨g,off,none⟩ n cap xs hown.1 holds a m c news hl hnews (by omega) (by omega) (Ms (by omega) hbytes)
   have hgr:=grown cap (Value.ownBlock (.slice (some ⟨g,off,none⟩) n cap));exact ⟨_,_,hr,hgr.1,hgr.2,fun b hb=>.inr (by simp only [Value.ownBlock,Im] at hb; omega)⟩
section
variable {x:Cx}{ops:Array Oper}{Q:kZ}{rest:List Oper}{H:Hp}{M M':List bV}{L L':Env}
variable {d:Nat}{ty:TypeId}{pos:String}{aft:Array Edge}{g:Option (Nat×Bool)}
theorem dR {α:Type}[aE α] {v:Value}{T:TypeId}{n:Nat}{xs:List Value}{ys:List α} (hx:mU H xs ys) (hs:Nat.blt 0 (aE.sz α)=true)
  (k:∀ H',H.le H'→aI H' v ys→W x ops Q rest H' M L):W x ops Q rest H (.row v T (aE.sz α) n xs::M) L:=by
 intro a w hsl ht;obtain ⟨H',h1,h2,h3⟩:=ht.rh hx (by simpa [IM] using hs)
 exact k H' h1 h3 a w hsl h2
theorem tw {α:Type}[aE α] {e:Exit}{v:Value}{T:TypeId}{n:Nat}{xs:List Value}{ys:List α} (hx:mU H xs ys) (hs:Nat.blt 0 (aE.sz α)=true)
  (k:∀ H',H.le H'→aI H' v ys→E x e Q H' M L):E x e Q H (.row v T (aE.sz α) n xs::M) L:=by
 intro a w hsl ht;obtain ⟨H',h1,h2,h3⟩:=ht.rh hx (by simpa [IM] using hs)
 exact k H' h1 h3 a w hsl h2
theorem xN {α:Type}[aE α] {c:Code}{v:Value}{T:TypeId}{n:Nat}{xs:List Value}{ys:List α} (hx:mU H xs ys) (hs:Nat.blt 0 (aE.sz α)=true)
  (k:∀ H',H.le H'→aI H' v ys→C x c Q H' M L):C x c Q H (.row v T (aE.sz α) n xs::M) L:=by
 intro a w hsl ht;obtain ⟨H',h1,h2,h3⟩:=ht.rh hx (by simpa [IM] using hs)
 exact k H' h1 h3 a w hsl h2
theorem tB (T:TypeId) (sz:Nat) (k:W x ops Q rest H (.row (.slice none 0 0) T sz 0 []::M) L):W x ops Q rest H M L:=
 fun a w hsl ht=>k a w hsl (ht.vV T sz)
theorem cQ {e:Exit} (T:TypeId) (sz:Nat) (k:E x e Q H (.row (.slice none 0 0) T sz 0 []::M) L):E x e Q H M L:=
 fun a w hsl ht=>k a w hsl (ht.vV T sz)
theorem iU {c:Code} (T:TypeId) (sz:Nat) (k:C x c Q H (.row (.slice none 0 0) T sz 0 []::M) L):C x c Q H M L:=
 fun a w hsl ht=>k a w hsl (ht.vV T sz)
theorem B1 {α:Type}[aE α] {t e:TypeId}{bytes n:Nat}{z:Value}{y u:Operand}{v vu:Value}{xs:List Value}{l ys:List α}
  (hg:gd ops L ⟨some d,.call ⟨.builtin .append,#[y,u],#[t,t]⟩,ty,pos,aft,g⟩=some true) (hN:Nat.blt d x.N=true)
  (hT:x.P.underlying t=some (.slice e)) (hi:FT x.P e (aE.sz α) bytes z) (hz:z.cells.size=aE.sz α) (hs:Nat.blt 0 (aE.sz α)=true) (hb0:Nat.blt 0 bytes=true)
  (hy:ev L y=some v) (hu:ev L u=some vu) (hx:mU H xs l) (hR:aI H vu ys) (hb:(l.length+ys.length)*bytes≤140737488355328)
  (k:∀ v' n' xs',mU H xs' (l++ys)→W x ops Q rest H (.row v' e (aE.sz α) n' xs'::M) ((d,v')::L)):
  W x ops Q (⟨some d,.call ⟨.builtin .append,#[y,u],#[t,t]⟩,ty,pos,aft,g⟩::rest) H (.row v e (aE.sz α) n xs::M) L:=by
 obtain ⟨i,h1,h2,h3,h4⟩:=hi.ex;have hs':0<aE.sz α:=by simpa [IM] using hs
 have hb0':0<bytes:=by simpa [IM] using hb0
 have hmax:l.length+ys.length≤maxLen:=by
  have:l.length+ys.length≤(l.length+ys.length)*bytes:=KD _ hb0';unfold maxLen; omega
 refine oL rfl hg hN fun a w hsl ht=>?_;have hown:fY w e (aE.sz α) v n xs:=ht.ok _ (Hm ..);have hn:n=l.length:=by
  have:=hx.len;rw [hown.1] at this;exact Jw hs' this
 subst hn;obtain ⟨cs,hcs,hcase⟩:=hR.flat;rcases hcase with ⟨⟨ea,rfl⟩,rfl⟩ | ⟨hc,b,off,c,rfl⟩
 ·have hcs':cs=[]:=hcs
  subst hcs';refine ⟨v,w,?_,H,_,ht,k v _ xs (by simpa using hx)⟩
  rcases hown.2 with ⟨rfl,h0⟩ | ⟨g,off,cap,cur,rfl,hg2,hnc,_⟩ <;> cases ea
  ·simp [execOp,resolve,invoke,builtin,hsl.ev hy,hsl.ev hu,Builtin.append_,Jh hT,sizeOf,typeInfo,h1,Builtin.lenOf,Builtin.firstCells]
  ·simp [execOp,resolve,invoke,builtin,hsl.ev hy,hsl.ev hu,Builtin.append_,Jh hT,sizeOf,typeInfo,h1,Builtin.lenOf,Builtin.firstCells,loadCells,loadCellsFrom]
  ·simp [execOp,resolve,invoke,builtin,hsl.ev hy,hsl.ev hu,Builtin.append_,Jh hT,sizeOf,typeInfo,h1,Builtin.lenOf,Builtin.firstCells,storeCells,hnc]
  ·simp [execOp,resolve,invoke,builtin,hsl.ev hy,hsl.ev hu,Builtin.append_,Jh hT,sizeOf,typeInfo,h1,Builtin.lenOf,Builtin.firstCells,storeCells,hnc,loadCells,loadCellsFrom]
 ·obtain ⟨v',w',hr,ho,hgr,hfr⟩:=xC (P:=x.P) (ty:=ty) hT h1 h4 h2 h3 hz hs' hown (a:=⟨b,off,none⟩) (m:=ys.length) (c:=c) (news:=cs) hcs.len
   (fun j u hu=>((hc j u hu).at (x:=x) (M:=.row v e (aE.sz α) l.length xs::M)) w ht) hcs.one hmax hb
  refine ⟨v',w',?_,H,_,ht.xM (r':=.row v' e (aE.sz α) (l.length+ys.length) (xs++cs)) hgr ho hfr,k v' _ _ (hx.app hcs)⟩;simp [execOp,resolve,invoke,builtin,hsl.ev hy,hsl.ev hu,hr]
end
def ue:List Value→List (List Value)→Prop
 | [],[]=>True
 | v::vs,c::cs=>v.cells=c.toArray∧ue vs cs
 | _,_=>False
def laid (places:List (Nat×Nat)):List Value→List (Nat×List Value)→Option (List Value)
 | z,[]=>some z
 | z,(i,c)::r=>match places[i]? with
  | none=>none
  | some (off,size)=>if Nat.beq c.length size && Nat.ble (off+c.length) z.length then laid places (over z off c) r else none
theorem vD:∀ (c:List Value) (z:List Value) (off k:Nat),(c.zipIdx k).foldl (fun cs (p:Value×Nat)=>cs.setIfInBounds (off+p.2) p.1) z.toArray=(over z (off+k) c).toArray
 | [],z,off,k=>rfl
 | v::c,z,off,k=>by
  rw [List.zipIdx_cons,List.foldl_cons];simp only [List.setIfInBounds_toArray];rw [vD c _ off (k+1),over]
  rfl
theorem rf {place:Nat→Option (Nat×Nat)}{places:List (Nat×Nat)} (hp:∀ i o,places[i]? = some o→place i=some o):
  ∀ (is:List Nat) (vs:List Value) (css:List (List Value)) (z out:List Value),ue vs css→is.length=vs.length→laid places z (is.zip css)=some out →
   Instr.fill place z.toArray (is.zip vs)=some out.toArray
 | [],[],_,z,out,_,_,h=>by simp [laid] at h; simp [Instr.fill,h]
 | [],_::_,_,_,_,_,hl,_=>by simp at hl
 | _::_,[],_,_,_,_,hl,_=>by simp at hl
 | i::is,v::vs,[],_,_,hc,_,_=>hc.elim
 | i::is,v::vs,c::css,z,out,⟨hv,hc⟩,hl,h=>by
  simp only [List.zip_cons_cons,laid] at h;cases hpl:places[i]? with
  | none=>simp [hpl] at h
  | some o=>
   obtain ⟨off,size⟩:=o;simp only [hpl] at h
   split at h
   ·rename_i hb
    simp only [Jp,Kx] at hb;have hsz:c.length=size:=JO hb.1;simp only [List.zip_cons_cons,Instr.fill,hp i _ hpl,hv];have h1:((c.toArray.size≠size || off+c.toArray.size > z.toArray.size:Bool))=false:=by
     simp [hsz]; rw [← hsz]; exact hb.2
    rw [Hs (by simp only [h1]; simp)]
    have h2:=vD c z off 0;have h3:c.toArray.zipIdx.foldl (fun cs (p:Value×Nat)=>cs.setIfInBounds (off+p.2) p.1) z.toArray=(over z off c).toArray:=by
     rw [← Array.foldl_toList];simpa using h2
    have ih:=rf hp is vs css (over z off c) out hc (by simpa using hl) h
    rw [← ih];exact HH (fun q=>Instr.fill place q (is.zip vs)) h3
   ·cases h
theorem lX {k m:Nat}{e:Int} (hd:k+m=e.toNat) (hb:decide ((k:Int)<e)=true):∃ m',m=m'+1∧k+1+m'=e.toNat∧k<e.toNat:=by
 have:=Ht hb;exact ⟨m-1,by omega,by omega,by omega⟩
theorem lW {k m:Nat}{e:Int} (hd:k+m=e.toNat) (hb:decide ((k:Int)<e)=false):m=0:=by
 have:=HG hb;omega
theorem gB {e:Int} (h:e≤9223372036854775807):e.toNat≤maxLen:=by unfold maxLen; omega
theorem mb {α:Type}{xs:List α} (h:xs.length≤maxLen):(xs.length:Int)≤9223372036854775807:=by unfold maxLen at h; omega
section
variable {x:Cx}{ops:Array Oper}{Q:kZ}{rest:List Oper}{H:Hp}{M M':List bV}{L L':Env}
variable {d:Nat}{ty:TypeId}{pos:String}{aft:Array Edge}{g:Option (Nat×Bool)}
theorem uW {N:Nat}{a:Act} (hs:Sl N L a) {ps:List (Nat×Operand)}{vs:List Value} (hv:uk L (ps.map (·.2))=some vs):
  (ps.toArray.map fun (p:Nat×Operand)=>(p.1,a.eval p.2))=((ps.map (·.1)).zip vs).toArray:=by
 have h:=hs.uk hv;subst h;clear hv;simp only [List.map_map,List.map_toArray]
 congr 1
 induction ps with
 | nil=>rfl
 | cons p ps ih=>simp only [KT,List.zip_cons_cons,Function.comp,ih]
theorem eR {T:TypeId}{ps:List (Nat×Operand)}{vs:List Value}{css:List (List Value)}{z:Value}{zs out:List Value}{fs:Array Field}{places:List (Nat×Nat)}
  (hg:gd ops L ⟨some d,.build T ps.toArray,ty,pos,aft,g⟩=some true) (hN:Nat.blt d x.N=true)
  (hv:uk L (ps.map (·.2))=some vs) (hc:ue vs css)
  (hz:∀ w,(zeroValue T).run x.P w=.ok z w) (hzs:z.cells=zs.toArray) (hT:∀ w,(underlying T).run x.P w=.ok (.struct fs) w)
  (hp:∀ w,(fs.mapM fun f=>do pure (f.offset,← sizeOf f.type):Sem (Array (Nat×Nat))).run x.P w=.ok places.toArray w)
  (ho:laid places zs ((ps.map (·.1)).zip css)=some out)
  (k:W x ops Q rest H M ((d,.agg out.toArray)::L)):
  W x ops Q (⟨some d,.build T ps.toArray,ty,pos,aft,g⟩::rest) H M L:=
 eK rfl hg hN (fun a w hs ht=>by
  have hl:(ps.map (·.1)).length=vs.length:=by rw [← hs.uk hv]; simp
  have hf:=rf (place:=fun i:Nat=>places[i]?) (places:=places) (fun _ _ h=>h) (ps.map (·.1)) vs css zs out hc hl ho;have hps:=uW hs hv;simp only [execOp,Instr.build,HJ,hz,HA,hT,hzs];rw [hp];simp only [HA];have e:(fun i:Nat=>places.toArray[i]?)=fun i:Nat=>places[i]? := by funext i; simp
  simp only [hps,e,hf,HU,HA]) k
theorem dJ {α:Type}[aE α] {T e:TypeId}{n:Nat}{ps:List (Nat×Operand)}{vs:List Value}{css:List (List Value)}{z:Value}{zs out:List Value}{places:List (Nat×Nat)}{ys:List α}
  (hg:gd ops L ⟨some d,.buildSlice T n ps.toArray,ty,pos,aft,g⟩=some true) (hN:Nat.blt d x.N=true)
  (hv:uk L (ps.map (·.2))=some vs) (hc:ue vs css)
  (hT:∀ w,(underlying T).run x.P w=.ok (.slice e) w) (hs:∀ w,(sizeOf e).run x.P w=.ok (aE.sz α) w) (hs0:Nat.blt 0 (aE.sz α)=true)
  (hz:∀ w,(zeroValue e).run x.P w=.ok z w) (hzs:(Array.range (n*aE.sz α)).map (z.cells[·%z.cells.size]!)=zs.toArray)
  (hpl:places=(List.range n).map fun i=>(i*aE.sz α,aE.sz α)) (hn:Nat.ble (n*aE.sz α) 16777216=true) (hnn:Nat.blt 0 n=true)
  (ho:laid places zs ((ps.map (·.1)).zip css)=some out) (hr:mU H out ys) (hyn:ys.length=n)
  (k:∀ b v H',v=.slice (some ⟨b,0,none⟩) n n→H.le H'→aI H' v ys→W x ops Q rest H' M ((d,v)::L)):
  W x ops Q (⟨some d,.buildSlice T n ps.toArray,ty,pos,aft,g⟩::rest) H M L:=by
 refine oL rfl hg hN fun a w hsl ht=>?_;have hl:(ps.map (·.1)).length=vs.length:=by rw [← hsl.uk hv]; simp
 have hs0':0<aE.sz α:=by simpa [IM] using hs0
 have hn':n*aE.sz α≤16777216:=by simpa [Kx] using hn
 have hnn':0<n:=by simpa [IM] using hnn
 have hpos:0<n*aE.sz α:=Nat.mul_pos hnn' hs0';have hf:=rf (place:=fun i=>some (i*aE.sz α,aE.sz α)) (places:=places) (fun i o h=>by
  rw [hpl,Ib] at h;cases hh:(List.range n)[i]? with
  | none=>rw [hh] at h; cases h
  | some j=>
   rw [hh] at h;have:j=i:=by
    have:=He.1 hh;simpa using this.2.symm
   subst this;simpa using h) (ps.map (·.1)) vs css zs out hc hl ho
 have hps:=uW hsl hv;have hsz:out.length=n*aE.sz α:=by rw [hr.len,hyn]
 refine ⟨.slice (some ⟨w.heap.size,0,none⟩) n n,w.alloc (.cells out.toArray e),?_,H.add w.heap.size (.cells out.toArray e),M,(ht.alloc _).freeze.2,?_⟩
 ·have h1:¬ (2 ^ 24<n*aE.sz α):=by omega
  have h2:¬ (n*aE.sz α=0):=by omega
  simp only [execOp,Instr.buildSlice,HJ,hT,HA,hs,gt_iff_lt,h1,h2,J2,hz,HU];simp only [hps];have hf':Instr.fill (fun i=>some (i*aE.sz α,aE.sz α)) ((Array.range (n*aE.sz α)).map (z.cells[·%z.cells.size]!)) ((List.map (fun x=>x.fst) ps).zip vs)=some out.toArray:=by
   rw [hzs]; exact hf
  simp only [hf',newRow,newObj,HJ,HU,Sem.run,HA,World.alloc]
 ·refine k w.heap.size _ _ rfl (ht.alloc _).freeze.1 (.inr ⟨w.heap.size,0,n,out.toArray,e,(0,0),by rw [hyn],by omega,?_,Hp.se _ _ _,by simp [hsz],?_⟩)
  ·unfold maxLen
   have:n≤n*aE.sz α:=KD _ hs0';omega
  ·intro j el hel
   obtain ⟨c,q1,q2⟩:=(hr.mono (ht.alloc (.cells out.toArray e)).freeze.1).get j el hel;exact ⟨c,q1,fun i u hu=>by simpa using q2 i u hu⟩
end
structure Rw {α:Type}[aE α] (H:Hp) (v:Value) (xs:List Value) (l:List α):Prop where
 rd:mU H xs l
 sl:∃ a n c,v=.slice a n c
section
variable {α:Type}[aE α] {H H':Hp}{v:Value}{xs:List Value}{l:List α}
theorem Rw.mono (hle:H.le H') (h:Rw H v xs l):Rw H' v xs l:=⟨h.rd.mono hle,h.sl⟩
theorem Rw.one (h:Rw H v xs l):v.oneCell'=true:=by obtain ⟨a,n,c,rfl⟩:=h.sl; rfl
theorem Rw.cells (h:Rw H v xs l):v.cells=[v].toArray:=by obtain ⟨a,n,c,rfl⟩:=h.sl; rfl
theorem Rw.nil:Rw H (.slice none 0 0) [] ([]:List α):=⟨rfl,_,_,_,rfl⟩
theorem Rw.elem (h:Rw H v xs l) {k:Nat}{e:α} (he:l[k]? = some e):∃ c,aE.E H c e∧∀ j u,c[j]? = some u→xs[k*aE.sz α+j]? = some u:=h.rd.get k e he
theorem tV (vs:List Value):∀ (l:List Value) (k j:Nat),k+vs.length≤l.length→(over l k vs)[j]? = if k≤j∧j<k+vs.length then vs[j-k]? else l[j]? := by
 intro l k j h;rw [rG vs l k h,Ia,JW];simp only [Ic,IH (show k≤l.length by omega)]
 by_cases h1:j<k
 ·rw [Hv h1,Hs (by omega),ID,Hv h1]
 ·rw [Hs h1,JW]
  by_cases h2:j-k<vs.length
  ·rw [Hv h2,Hv (by omega)]
  ·rw [Hs h2,Hs (by omega),Ir]
   congr 1; omega
theorem Rw.put {c cs out:List Value}{k o:Nat}{e e2:α} (h:Rw H v xs l) (he:l[k]? = some e) (hc:aE.E H c e) (hg:∀ j u,c[j]? = some u→xs[k*aE.sz α+j]? = some u)
  (hb:Nat.ble (o+cs.length) c.length=true) (ho:over c o cs=out) (hE:aE.E H out e2):
  Rw H v (over xs (k*aE.sz α+o) cs) (l.set k e2)∧(l.set k e2)[k]? = some e2∧∀ j u,out[j]? = some u→(over xs (k*aE.sz α+o) cs)[k*aE.sz α+j]? = some u:=by
 have hk:k<l.length:=(He.1 he).1;have hlen:=h.rd.len;have hcl:=aE.len hc;have hb':o+cs.length≤c.length:=by simpa [Kx] using hb
 have hkk:(k+1)*aE.sz α≤l.length*aE.sz α:=HL _ hk;rw [HS,Lx] at hkk;have si:k*aE.sz α+o+cs.length≤xs.length:=by omega
 have key:over xs (k*aE.sz α+o) cs=xs.take (k*aE.sz α)++out++xs.drop ((k+1)*aE.sz α):=by
  apply Jx;intro j;rw [tV _ _ _ _ si,Ia,JW];simp only [Ic,IH (show k*aE.sz α≤xs.length by omega)]
  have hol:out.length=aE.sz α:=by rw [← ho,l9,hcl]
  by_cases h1:j<k*aE.sz α
  ·rw [Hv h1,Hs (by omega),ID,Hv h1]
  ·rw [Hs h1,JW,hol]
   by_cases h2:j-k*aE.sz α<aE.sz α
   ·rw [Hv h2,← ho,tV _ _ _ _ hb']
    by_cases h3:k*aE.sz α+o≤j∧j<k*aE.sz α+o+cs.length
    ·rw [Hv h3,Hv (by omega)]; congr 1; omega
    ·rw [Hs h3,Hs (by omega)]
     have hj:j-k*aE.sz α<c.length:=by omega
     have:=hg (j-k*aE.sz α) _ (Hi hj);rw [Hi hj,← this]; congr 1; omega
   ·rw [Hs h2,Hs (by omega),Ir]
    congr 1; rw [HS]; omega
 refine ⟨⟨?_,h.sl⟩,by simp [hk],fun j u hu=>?_⟩
 ·rw [key]; exact h.rd.put hk hE
 ·have hj:j<out.length:=(He.1 hu).1
  have hol:out.length=aE.sz α:=by rw [← ho,l9,hcl]
  rw [key,Ia,H_ (by simp; omega),IV (by simp; omega)]
  simp only [Ic,IH (show k*aE.sz α≤xs.length by omega)]
  rw [show k*aE.sz α+j-k*aE.sz α=j by omega]; exact hu
end
section
variable {x:Cx}{ops:Array Oper}{Q:kZ}{rest:List Oper}{H:Hp}{M M':List bV}{L L':Env}
variable {d:Nat}{ty:TypeId}{pos:String}{aft:Array Edge}{g:Option (Nat×Bool)}
theorem wg {v:Value}{T:TypeId}{sz n i:Nat}{xs:List Value}{c:Value} (hm:bV.row v T sz n xs ∈ M) (hc:xs[i]? = some c):tc x H M ((Value.base v).add i) c:=by
 intro w ht;have hok:fY w T sz v n xs:=ht.ok _ hm;have hi:=(He.1 hc).1;rcases hok.2 with ⟨rfl,h0⟩ | ⟨gb,off,cap,cur,rfl,hg,hnc,hcm,hcs,htake⟩
 ·exfalso
  have:=hok.1;subst h0;simp at this; subst this
  simp at hc
 ·rw [show Value.base (Value.slice (some ⟨gb,off,none⟩) n cap)=⟨gb,off,none⟩ from rfl,IL]
  refine Mf hg rfl ?_;rw [← htake,ID] at hc
  split at hc
  ·rw [Ir] at hc; simpa using hc
  ·cases hc
theorem add_add (a:Addr) (i j:Nat):(a.add i).add j=a.add (i+j):=by
 unfold Addr.add
 by_cases h1:i=0 <;> by_cases h2:j=0 <;> simp [h1,h2,J8]
theorem rp {v:Value}{T:TypeId}{sz n i:Nat}{xs cs:List Value} (hm:bV.row v T sz n xs ∈ M) (hc:∀ j u,cs[j]? = some u→xs[i+j]? = some u):tt x H M ((Value.base v).add i) cs:=by
 intro j c hj;rw [add_add];exact wg hm (hc j c hj)
theorem row_one {v:Value}{T:TypeId}{sz n i o:Nat}{xs cs:List Value}{c:Value} (hm:bV.row v T sz n xs ∈ M) (hc:∀ j u,cs[j]? = some u→xs[i+j]? = some u) (hd:cs[o]? = some c):
  tc x H M (((Value.base v).add i).add o) c:=by
 rw [add_add]; exact wg hm (hc o c hd)
theorem cO {v:Value}{T:TypeId}{sz n i:Nat}{xs cs:List Value}{c:Value} (hm:bV.row v T sz n xs ∈ M) (hc:∀ j u,cs[j]? = some u→xs[i+j]? = some u) (hd:cs[0]? = some c):
  tc x H M ((Value.base v).add i) c:=wg hm (hc 0 c hd)
theorem iS {v:Value}{T:TypeId}{sz n:Nat}{xs:List Value}{t e:TypeId}{y:Operand} (hm:bV.row v T sz n xs ∈ M) (hg:gd ops L ⟨some d,.call ⟨.builtin .len,#[y],#[t]⟩,ty,pos,aft,g⟩=some true) (hN:Nat.blt d x.N=true)
  (hT:∀ w,(underlying t).run x.P w=.ok (.slice e) w) (hy:ev L y=some v) (k:W x ops Q rest H M ((d,.int .i64 n)::L)):
  W x ops Q (⟨some d,.call ⟨.builtin .len,#[y],#[t]⟩,ty,pos,aft,g⟩::rest) H M L:=
 eK rfl hg hN (fun c w hs ht=>by
  have hok:fY w T sz v n xs:=ht.ok _ hm;rcases hok.2 with ⟨rfl,rfl⟩ | ⟨gb,off,cap,cur,rfl,_⟩ <;>
   simp [execOp,resolve,invoke,builtin,hs.ev hy,Builtin.len_,hT,goInt]) k
theorem bG {v:Value}{T:TypeId}{sz n:Nat}{xs:List Value}{t e:TypeId}{y z:Operand}{kk:IntKind}{i:Int} (hm:bV.row v T sz n xs ∈ M)
  (hg:gd ops L ⟨some d,.indexAddr t y z,ty,pos,aft,g⟩=some true) (hN:Nat.blt d x.N=true)
  (hT:∀ w,(underlying t).run x.P w=.ok (.slice e) w) (hs:∀ w,(sizeOf e).run x.P w=.ok sz w)
  (hy:ev L y=some v) (hz:ev L z=some (.int kk i)) (h0:0≤i) (h1:i.toNat<n)
  (k:W x ops Q rest H M ((d,.pointer (some ((Value.base v).add (i.toNat*sz))))::L)):
  W x ops Q (⟨some d,.indexAddr t y z,ty,pos,aft,g⟩::rest) H M L:=
 eK rfl hg hN (fun c w hsl ht=>by
  have h1':i<(n:Int):=by omega
  have hok:fY w T sz v n xs:=ht.ok _ hm;rcases hok.2 with ⟨rfl,rfl⟩ | ⟨gb,off,cap,cur,rfl,_⟩
  ·omega
  ·simp [execOp,hsl.ev hy,hsl.ev hz,Instr.indexAt,asIntOf,hT,hs,h0,h1',Value.base]) k
theorem r_ {T E:TypeId}{m sz n i:Nat}{y z:Operand}{v u:Value}{ad:Addr}{xs cs:List Value} (hg:gd ops L ⟨none,.store T y z,ty,pos,aft,g⟩=some true)
  (hn:∀ w,(sizeOf T).run x.P w=.ok m w) (hy:ev L y=some (.pointer (some ad))) (had:ad=(Value.base v).add i) (hz:ev L z=some u) (hv:u.cells=cs.toArray) (hl:cs.length=m)
  (hb:i+cs.length≤xs.length) (hpos:Nat.blt 0 cs.length=true) (h1:∀ c ∈ cs,c.oneCell'=true)
  (k:W x ops Q rest H (.row v E sz n (over xs i cs)::M) L):
  W x ops Q (⟨none,.store T y z,ty,pos,aft,g⟩::rest) H (.row v E sz n xs::M) L:=
 y_ rfl hg (fun a w hs ht=>by
  subst had;have hok:fY w E sz v n xs:=ht.ok _ (Hm ..);have hpos':0<cs.length:=by simpa [IM] using hpos
  rcases hok.2 with ⟨rfl,rfl⟩ | ⟨gb,off,cap,cur,rfl,hgb,hnc,hcm,hcs,htake⟩
  ·have h0:=hok.1; rw [Jk] at h0; omega
  ·have hmul:n*sz≤cap*sz:=HL _ hnc
   have hxl:=hok.1;obtain ⟨w',hr,hh,hgr⟩:=iI (P:=x.P) gb (off+i) E cs 0 cur.toList w (by simpa using hgb) (by simp; omega) h1
   refine ⟨w',?_,H,_,ht.xM (r':=.row (.slice (some ⟨gb,off,none⟩) n cap) E sz n (over xs i cs)) hgr ?_ (fun c hc=>.inl hc),k⟩
   ·simp [execOp,hs.ev hy,hs.ev hz,Instr.storeAt,Instr.sureAddr,storeVar,hn,hl,hv,Value.base,IL,hr]
   ·refine ⟨by rw [l9]; exact hxl,.inr ⟨gb,off,cap,_,rfl,hh,hnc,hcm,by simpa [l9] using hcs,?_⟩⟩
    rw [Kj,Jj];apply Jx;intro j;rw [ID,Ir,tV _ _ _ _ (by simp; omega),tV _ _ _ _ hb,← htake,ID,Ir]
    by_cases hj:j<n*sz
    ·simp only [Hv hj]
     by_cases h3:i≤j∧j<i+cs.length
     ·rw [Hv h3,Hv (by omega)]; congr 1; omega
     ·rw [Hs h3,Hs (by omega)]
    ·simp only [Hs hj]
     rw [Hs (by omega)])
end
section
variable {x:Cx}{ops:Array Oper}{Q:kZ}{rest:List Oper}{H:Hp}{M M':List bV}{L L':Env}
variable {d:Nat}{ty:TypeId}{pos:String}{aft:Array Edge}{g:Option (Nat×Bool)}
theorem fY.shape {w:World}{T:TypeId}{sz n:Nat}{v:Value}{xs:List Value} (h:fY w T sz v n xs):∃ a n c,v=.slice a n c:=by
 rcases h.2 with ⟨rfl,_⟩ | ⟨gb,off,cap,cur,rfl,_⟩ <;> exact ⟨_,_,_,rfl⟩
theorem dN {α:Type}[aE α] {t e:TypeId}{bytes n:Nat}{z:Value}{y u:Operand}{v vu:Value}{xs:List Value}{l ys:List α}
  (hg:gd ops L ⟨some d,.call ⟨.builtin .append,#[y,u],#[t,t]⟩,ty,pos,aft,g⟩=some true) (hN:Nat.blt d x.N=true)
  (hT:x.P.underlying t=some (.slice e)) (hi:FT x.P e (aE.sz α) bytes z) (hz:z.cells.size=aE.sz α) (hs:Nat.blt 0 (aE.sz α)=true) (hb0:Nat.blt 0 bytes=true)
  (hy:ev L y=some v) (hu:ev L u=some vu) (hx:Rw H v xs l) (hR:aI H vu ys) (hb:((l.length+ys.length)*bytes:Nat)≤140737488355328)
  (k:∀ v' xs',Rw H v' xs' (l++ys)→W x ops Q rest H (.row v' e (aE.sz α) (l++ys).length xs'::M) ((d,v')::L)):
  W x ops Q (⟨some d,.call ⟨.builtin .append,#[y,u],#[t,t]⟩,ty,pos,aft,g⟩::rest) H (.row v e (aE.sz α) n xs::M) L:=by
 refine B1 hg hN hT hi hz hs hb0 hy hu hx.rd hR hb fun v' n' xs' hx'=>?_;intro a w hsl ht;have hok:fY w e (aE.sz α) v' n' xs':=ht.ok _ (Hm ..);have hn:n'=(l++ys).length:=by
  have h1:=hx'.len;rw [hok.1] at h1;exact Jw (by simpa [IM] using hs) h1
 subst hn;exact k v' xs' ⟨hx',hok.shape⟩ a w hsl ht
theorem St.newRow {α:Type}[aE α] {B:Nat}{w0 w:World}{cells:List Value}{e:TypeId}{l:List α} (ht:St B w0 H M w) (hr:mU H cells l) (hm:l.length≤maxLen):
  St B w0 H (.row (.slice (some ⟨w.heap.size,0,none⟩) l.length l.length) e (aE.sz α) l.length cells::M) (w.alloc (.cells cells.toArray e)):=by
 have h:=ht.alloc (.cells cells.toArray e);have hl:=hr.len;refine ⟨h.below,h.le,h.si,?_,?_,h.nd⟩
 ·intro r hr'
  rcases Ix.1 hr' with rfl | hr'
  ·refine ⟨hl,.inr ⟨w.heap.size,0,l.length,cells.toArray,rfl,h.ok _ (Hm ..),HQ _,hm,by simp only [KB]; omega,?_⟩⟩
   rw [← hl,Kj,Jb,JA]
  ·exact h.ok r (HB _ hr')
 ·intro r hr'
  rcases Ix.1 hr' with rfl | hr'
  ·exact h.lo (.obj w.heap.size (.cells cells.toArray e)) (Hm ..)
  ·exact h.lo r (HB _ hr')
theorem fT {α:Type}[aE α] {t e:TypeId}{bytes:Nat}{z:Value}{zs:List Value}{ze:α}{y y2:Operand}{n:Int}
  (hg:gd ops L ⟨some d,.makeSlice t y y2,ty,pos,aft,g⟩=some true) (hN:Nat.blt d x.N=true)
  (hT:x.P.underlying t=some (.slice e)) (hi:FT x.P e (aE.sz α) bytes z) (hz:z.cells=zs.toArray) (hs:Nat.blt 0 (aE.sz α)=true) (hb0:Nat.blt 0 bytes=true)
  (hE:aE.E H zs ze) (hy:ev L y=some (.int .i64 n)) (hy2:ev L y2=some (.int .i64 n)) (h0:0≤n) (hb:n*bytes≤140737488355328)
  (k:∀ v' xs',Rw H v' xs' (List.replicate n.toNat ze)→W x ops Q rest H (.row v' e (aE.sz α) (List.replicate n.toNat ze).length xs'::M) ((d,v')::L)):
  W x ops Q (⟨some d,.makeSlice t y y2,ty,pos,aft,g⟩::rest) H M L:=by
 obtain ⟨i,h1,h2,h3,h4⟩:=hi.ex;obtain ⟨m,rfl⟩:∃ m:Nat,n=m:=⟨n.toNat,by omega⟩
 have hs':0<aE.sz α:=by simpa [IM] using hs
 have hb0':0<bytes:=by simpa [IM] using hb0
 have hcast:((m*bytes:Nat):Int)=(m:Int)*(bytes:Int):=Iw m bytes;have hbn:m*bytes≤140737488355328:=by omega
 have hm:m≤m*bytes:=KD _ hb0';have hzl:zs.length=aE.sz α:=aE.len hE;have hmax:m≤maxLen:=by unfold maxLen; omega
 have hw:i64.wrap (m:Int)=m:=sj (by omega) (by omega)
 simp only [Hj] at k;have hrd:∀ q,mU H ((List.range (q*aE.sz α)).map (zs.toArray[·%zs.length]!)) (List.replicate q ze):=by
  intro q
  induction q with
  | zero=>rw [Jk]; exact rfl
  | succ q ih=>
   have hsplit:(List.range ((q+1)*aE.sz α)).map (zs.toArray[·%zs.length]!)=zs++(List.range (q*aE.sz α)).map (zs.toArray[·%zs.length]!):=by
    apply Jx;intro j;rw [JW,Ib]
    by_cases hj:j<zs.length
    ·rw [Hv hj,JN (by rw [HS]; omega)]
     simp [JB hj,hj]
    ·rw [Hs hj,Ib]
     by_cases hj2:j<(q+1)*aE.sz α
     ·rw [JN hj2,JN (by rw [HS] at hj2; omega)]
      simp only [Je];rw [← Nat.mod_eq_sub_mod (by omega)]
     ·rw [IC (by simp; omega),IC (by rw [HS] at hj2; simp; omega)]
   rw [hsplit];exact ⟨zs,_,rfl,hE,ih⟩
 have hlr:(List.replicate m ze).length=m:=I0;refine oL rfl hg hN fun a w hsl ht=>?_;refine ⟨.slice (some ⟨w.heap.size,0,none⟩) (List.replicate m ze).length (List.replicate m ze).length,_,?_,H,_,St.newRow (e:=e) ht (hrd m) (by rw [hlr]; exact hmax),k _ _ ⟨hrd m,_,_,_,rfl⟩⟩
 have e1:¬ ((i.bytes:Int)*(m:Int) > 2 ^ 48):=by
  rw [h3,Int.mul_comm];omega
 have e3:¬ (m*i.bytes > roomBytes):=by rw [h3]; unfold roomBytes; omega
 have e4:¬ ((m:Int)<0):=by omega
 have hti:∀ w,(typeInfo e).run x.P w=.ok i w:=fun w=>by simp [typeInfo,h1]
 have hsz:∀ w,(sizeOf e).run x.P w=.ok (aE.sz α) w:=fun w=>by simp [sizeOf,hti,h2]
 have hzv:∀ w,(zeroValue e).run x.P w=.ok z w:=fun w=>by simp [zeroValue,hti,h4]
 have hun:∀ w,(underlying t).run x.P w=.ok (.slice e) w:=fun w=>Jh hT w;have hnr:∀ c w,(newRow e c).run x.P w=.ok ⟨w.heap.size,0,none⟩ (w.alloc (.cells c e)):=fun c w=>by
  simp only [newRow,newObj,HJ,HU,Sem.run,HA,World.alloc]
 rw [hlr]
 by_cases hm0:m*aE.sz α=0
 ·have:m=0:=by
   rcases Nat.mul_eq_zero.1 hm0 with h | h <;> omega
  subst this;simp only [execOp,hsl.ev hy,hsl.ev hy2,Instr.makeSlice,HJ,hun,HA,asInt,asIntOf,HU,hti,hw,e1,e4,LK,Bool.or_self,Js,J2,Hj,askRoom,hsz,hm0,Lr,hnr,gt_iff_lt,Int.lt_irrefl,Jk,Nat.not_lt_zero];simp [Array.range]
 ·have e6:(Array.range (m*aE.sz α)).map (fun j=>zs.toArray[j%zs.toArray.size]!)=((List.range (m*aE.sz α)).map (zs.toArray[·%zs.length]!)).toArray:=by
   apply Array.ext';simp
  simp only [execOp,hsl.ev hy,hsl.ev hy2,Instr.makeSlice,HJ,hun,HA,asInt,asIntOf,HU,hti,hw,e1,e4,LK,Bool.or_self,Js,J2,Hj,askRoom,e3,hsz,hm0,hzv,hz,e6,hnr,gt_iff_lt,Int.lt_irrefl]
theorem run_sliceBound {P:Program}{w:World}{kk:IntKind}{i:Int}{y:Nat}{c:BoundsCode} (h0:0≤i) (h1:i≤y):(Instr.sliceBound (.int kk i) y c).run P w=.ok i.toNat w:=by
 simp [Instr.sliceBound,asIntOf,h0,h1]
def Bd (o:Option Value) (dflt top r:Nat):Prop:=(o=none∧r=dflt)∨∃ kk i,o=some (.int kk i)∧0≤i∧i≤top∧i.toNat=r
theorem uR {P:Program}{w:World}{len cap:Nat}{lo hi mx:Option Value}{l h m:Nat}
  (hmh:mx=none∨∃ v,hi=some v) (hm:Bd mx cap cap m) (hh:Bd hi len m h) (hl:Bd lo 0 h l):
  (Instr.sliceBounds true len cap lo hi mx).run P w=.ok (l,h,m) w:=by
 rcases hm with ⟨rfl,rfl⟩ | ⟨km,im,rfl,m0,m1,rfl⟩
 ·rcases hh with ⟨rfl,rfl⟩ | ⟨kh,ih,rfl,h0,h1,rfl⟩
  ·rcases hl with ⟨rfl,rfl⟩ | ⟨kl,il,rfl,l0,l1,rfl⟩
   ·simp only [Instr.sliceBounds,HJ,HU,HA]
   ·simp only [Instr.sliceBounds,HJ,HU,HA,run_sliceBound l0 l1]
  ·rcases hl with ⟨rfl,rfl⟩ | ⟨kl,il,rfl,l0,l1,rfl⟩
   ·simp only [Instr.sliceBounds,HJ,HU,HA,run_sliceBound h0 h1]
   ·simp only [Instr.sliceBounds,HJ,HU,HA,run_sliceBound h0 h1,run_sliceBound l0 l1]
 ·rcases hmh with hmh | ⟨v,rfl⟩
  ·cases hmh
  ·rcases hh with ⟨hh,_⟩ | ⟨kh,ih,hh,h0,h1,rfl⟩
   ·cases hh
   ·obtain rfl:=Hc hh
    rcases hl with ⟨rfl,rfl⟩ | ⟨kl,il,rfl,l0,l1,rfl⟩
    ·simp only [Instr.sliceBounds,HJ,HU,HA,run_sliceBound m0 m1,run_sliceBound h0 h1]
    ·simp only [Instr.sliceBounds,HJ,HU,HA,run_sliceBound m0 m1,run_sliceBound h0 h1,run_sliceBound l0 l1]
def Ac (L:Env) (o:Option Operand) (dflt top r:Nat):Prop:=(o=none∧r=dflt)∨∃ o' kk i,o=some o'∧ev L o'=some (.int kk i)∧0≤i∧i≤top∧i.toNat=r
theorem Ac.bd {N:Nat}{a:Act}{o:Option Operand}{dflt top r:Nat} (hs:Sl N L a) (h:Ac L o dflt top r):Bd (o.map a.eval) dflt top r:=by
 rcases h with ⟨rfl,rfl⟩ | ⟨o',kk,i,rfl,he,h0,h1,rfl⟩
 ·exact .inl ⟨rfl,rfl⟩
 ·exact .inr ⟨kk,i,by simp [hs.ev he],h0,h1,rfl⟩
theorem pE {P:Program}{w:World}{t e:TypeId}{sz len cap:Nat}{a:Option Addr}{lo hi mx:Option Value}{l h m:Nat} (hT:∀ w,(underlying t).run P w=.ok (.slice e) w) (hs:∀ w,(sizeOf e).run P w=.ok sz w)
  (hmh:mx=none∨∃ v,hi=some v) (hm:Bd mx cap cap m) (hh:Bd hi len m h) (hl:Bd lo 0 h l):
  (Instr.sliceAt t (.slice a len cap) lo hi mx).run P w=.ok (.slice (if m=l then a else a.map (·.add (l*sz))) (h-l) (m-l)) w:=by
 simp only [Instr.sliceAt,HJ,hT,HA,Instr.slice,uR hmh hm hh hl,hs,HU]
theorem C6 {a:Act}{mx hi:Option Operand} (h:mx=none∨∃ o,hi=some o):mx.map a.eval=none∨∃ v,hi.map a.eval=some v:=by
 rcases h with rfl | ⟨o,rfl⟩
 ·exact .inl rfl
 ·exact .inr ⟨_,rfl⟩
theorem qg {α:Type}[aE α] {t e:TypeId}{y:Operand}{lo hi mx:Option Operand}{v:Value}{xs:List α}{l h:Nat} (hg:gd ops L ⟨some d,.slice t y lo hi mx,ty,pos,aft,g⟩=some true) (hN:Nat.blt d x.N=true)
  (hT:∀ w,(underlying t).run x.P w=.ok (.slice e) w) (hs:∀ w,(sizeOf e).run x.P w=.ok (aE.sz α) w)
  (hy:ev L y=some v) (hR:aI H v xs) (hlh:l≤h) (hhx:h≤xs.length) (hmh:mx=none∨∃ o,hi=some o)
  (hm:∀ cap,h≤cap→Ac L mx cap cap (if mx=none then cap else h)) (hh:∀ m,h≤m→Ac L hi xs.length m h) (hl:Ac L lo 0 h l)
  (k:∀ v',aI H v' ((xs.drop l).take (h-l))→(mx≠none→Value.lQ v'=h-l)→W x ops Q rest H M ((d,v')::L)):
  W x ops Q (⟨some d,.slice t y lo hi mx,ty,pos,aft,g⟩::rest) H M L:=by
 have hlen:((xs.drop l).take (h-l)).length=h-l:=by simp; omega
 rcases hR with ⟨⟨a0,rfl⟩,rfl⟩ | ⟨b,off,cap,arr,T,fz,rfl,h2,h3,h4,h5,h6⟩
 ·have hl0:l=0:=by simp at hhx; omega
  have hh0:h=0:=by simp at hhx; omega
  subst hl0; subst hh0
  have hif:(if mx=none then 0 else 0)=0:=by split <;> rfl
  refine eK (v:=.slice a0 0 0) rfl hg hN (fun c w hsl ht=>?_) (k _ (.inl ⟨⟨_,rfl⟩,by simp⟩) (fun _=>rfl))
  have hm':=(hm 0 (HQ _)).bd hsl;rw [hif] at hm';have hr:=pE (P:=x.P) (w:=w) (len:=0) (cap:=0) (a:=a0) hT hs (C6 hmh) hm' ((hh 0 (HQ _)).bd hsl) (hl.bd hsl);simp only [I3,Lr] at hr;simp only [execOp,hsl.ev hy,HJ,hr,HA,HU]
 ·have hmc:h≤(if mx=none then cap else h)∧(if mx=none then cap else h)≤cap:=by split <;> omega
  generalize hmm:(if mx=none then cap else h)=m at hmc
  refine eK (v:=.slice (if m=l then some ⟨b,off,none⟩ else some ((⟨b,off,none⟩:Addr).add (l*aE.sz α))) (h-l) (m-l)) rfl hg hN (fun c w hsl ht=>?_) (k _ ?_ ?_)
  ·have hm':=(hm cap (by omega)).bd hsl
   rw [hmm] at hm';simp only [execOp,hsl.ev hy,HJ,pE hT hs (C6 hmh) hm' ((hh m hmc.1).bd hsl) (hl.bd hsl),HA,HU]
   split <;> rfl
  ·by_cases hml:m=l
   ·have:h-l=0:=by omega
    have e0:m-l=0:=by omega
    rw [Hv hml,this,e0];exact .inl ⟨⟨_,rfl⟩,by simp⟩
   ·rw [Hs hml,IL]
    have hmul:l*aE.sz α+(m-l)*aE.sz α≤cap*aE.sz α:=by
     rw [← HS]; exact HL _ (by omega)
    refine .inr ⟨b,off+l*aE.sz α,m-l,arr,T,fz,by rw [hlen],by omega,by omega,h4,by omega,fun j el hel=>?_⟩
    rw [ID] at hel
    split at hel
    ·rw [Ir] at hel
     obtain ⟨cs,q1,q2⟩:=h6 (l+j) el hel;refine ⟨cs,q1,fun i c hc=>?_⟩;rw [show off+l*aE.sz α+j*aE.sz α+i=off+(l+j)*aE.sz α+i by rw [HS]; omega]
     exact q2 i c hc
    ·cases hel
  ·intro hne
   rw [Hs hne] at hmm;subst hmm; rfl
theorem A9 {α:Type}[aE α] {t e T:TypeId}{n:Nat}{y:Operand}{lo hi:Option Operand}{v:Value}{cs:List Value}{xs:List α}{l h:Nat} (hg:gd ops L ⟨some d,.slice t y lo hi none,ty,pos,aft,g⟩=some true) (hN:Nat.blt d x.N=true)
  (hT:∀ w,(underlying t).run x.P w=.ok (.slice e) w) (hs:∀ w,(sizeOf e).run x.P w=.ok (aE.sz α) w) (hs0:Nat.blt 0 (aE.sz α)=true)
  (hy:ev L y=some v) (hR:Rw H v cs xs) (hlh:l≤h) (hhx:h≤xs.length)
  (hh:∀ m,h≤m→Ac L hi xs.length m h) (hl:Ac L lo 0 h l)
  (k:∀ v' cs',Rw H v' cs' ((xs.drop l).take (h-l))→Value.lQ v'=Value.lQ v-l→W x ops Q rest H (.row v' T (aE.sz α) ((xs.drop l).take (h-l)).length cs'::M) ((d,v')::L)):
  W x ops Q (⟨some d,.slice t y lo hi none,ty,pos,aft,g⟩::rest) H (.row v T (aE.sz α) n cs::M) L:=by
 have hlen:((xs.drop l).take (h-l)).length=h-l:=by simp; omega
 refine oL rfl hg hN fun a w hsl ht=>?_;have hok:fY w T (aE.sz α) v n cs:=ht.ok _ (Hm ..);have hn:n=xs.length:=by
  have h1:=hR.rd.len;rw [hok.1] at h1;exact Jw (by simpa [IM] using hs0) h1
 subst hn;have hrd:=(hR.rd.split h).1.split l;have hrd2:mU H ((cs.take (h*aE.sz α)).drop (l*aE.sz α)) ((xs.drop l).take (h-l)):=by
  have:=hrd.2
  rwa [J9 (l:=xs)] at this
 have hcl:=hrd2.len;rcases hok.2 with ⟨rfl,h0⟩ | ⟨gb,off,cap,cur,rfl,hgb,hnc,hcm,hcs,htake⟩
 ·have hl0:l=0:=by omega
  have hh0:h=0:=by omega
  subst hl0; subst hh0
  refine ⟨.slice none 0 0,w,?_,H,_,?_,k _ [] (by simpa using (Rw.nil:Rw H (.slice none 0 0) [] ([]:List α))) rfl⟩
  ·have hh':=(hh 0 (HQ _)).bd hsl
   rw [h0] at hh';have hr:=pE (P:=x.P) (w:=w) (len:=0) (cap:=0) (a:=none) (mx:=none) hT hs (.inl rfl) (.inl ⟨rfl,rfl⟩) hh' (hl.bd hsl);simp only [I3,Lr] at hr;simp only [execOp,hsl.ev hy,HJ,La,hr,HA,HU]
  ·have:=ht.tail.vV T (aE.sz α)
   simpa using this
 ·refine ⟨.slice (if cap=l then some ⟨gb,off,none⟩ else some ((⟨gb,off,none⟩:Addr).add (l*aE.sz α))) (h-l) (cap-l),w,?_,H,_,?_,k _ _ ⟨hrd2,_,_,_,rfl⟩ rfl⟩
  ·simp only [execOp,hsl.ev hy,HJ,pE (mx:=none) (m:=cap) hT hs (.inl rfl) (.inl ⟨rfl,rfl⟩) ((hh cap (by omega)).bd hsl) (hl.bd hsl),La,HA,HU]
   split <;> rfl
  ·have hgr:w.grownBy w (bV.qh (.row (.slice (some ⟨gb,off,none⟩) xs.length cap) T (aE.sz α) xs.length cs)):=⟨rfl,rfl,rfl,HQ _,fun _ _ _=>rfl⟩
   rw [hlen];have hmul:l*aE.sz α+(cap-l)*aE.sz α=cap*aE.sz α:=by rw [← HS]; congr 1; omega
   have hmul2:h*aE.sz α=l*aE.sz α+(h-l)*aE.sz α:=by rw [← HS]; congr 1; omega
   have hmul3:h*aE.sz α≤xs.length*aE.sz α:=HL _ hhx;have hxl:cs.length=xs.length*aE.sz α:=hok.1
   by_cases hcl2:cap=l
   ·have e1:h-l=0:=by omega
    have e2:cap-l=0:=by omega
    rw [Hv hcl2,e1,e2];have e3:(cs.take (h*aE.sz α)).drop (l*aE.sz α)=[]:=by
     apply H6; rw [hcl,hlen,e1,Jk]
    rw [e3];exact ht.xM (r':=.row (.slice (some ⟨gb,off,none⟩) 0 0) T (aE.sz α) 0 []) hgr ⟨by simp,.inr ⟨gb,off,0,cur,rfl,hgb,HQ _,by unfold maxLen; omega,by omega,by simp⟩⟩ (fun c hc=>.inl hc)
   ·rw [Hs hcl2,IL]
    refine ht.xM (r':=.row (.slice (some ⟨gb,off+l*aE.sz α,none⟩) (h-l) (cap-l)) T (aE.sz α) (h-l) _) hgr ⟨?_,.inr ⟨gb,off+l*aE.sz α,cap-l,cur,rfl,hgb,by omega,by omega,by omega,?_⟩⟩ (fun c hc=>.inl hc)
    ·rw [hcl,hlen]
    ·rw [← htake,LS,IH hmul3,J9,Jt]
     congr 1; omega
theorem r9 {α:Type}[aE α] {t e T:TypeId}{n:Nat}{y:Operand}{lo hi:Option Operand}{v:Value}{cs:List Value}{xs:List α}{l h:Nat} (hg:gd ops L ⟨some d,.slice t y lo hi none,ty,pos,aft,g⟩=some true) (hN:Nat.blt d x.N=true)
  (hT:∀ w,(underlying t).run x.P w=.ok (.slice e) w) (hs:∀ w,(sizeOf e).run x.P w=.ok (aE.sz α) w) (hs0:Nat.blt 0 (aE.sz α)=true)
  (hy:ev L y=some v) (hR:Rw H v cs xs) (hlh:l≤h) (hhx:h≤xs.length)
  (hh:∀ m,h≤m→Ac L hi xs.length m h) (hl:Ac L lo 0 h l)
  (k:∀ v' cs',Rw H v' cs' ((xs.drop l).take (h-l))→W x ops Q rest H (.row v' T (aE.sz α) ((xs.drop l).take (h-l)).length cs'::M) ((d,v')::L)):
  W x ops Q (⟨some d,.slice t y lo hi none,ty,pos,aft,g⟩::rest) H (.row v T (aE.sz α) n cs::M) L:=
 A9 hg hN hT hs hs0 hy hR hlh hhx hh hl (fun v' cs' h _=>k v' cs' h)
end
def lK {α:Type} (xs:List α) (l h:Nat):List α:=(xs.drop l).take (h-l)
theorem AY {α:Type} (xs:List α) (l h:Nat):(lK xs l h).length=min (h-l) (xs.length-l):=by simp [lK]
theorem Rw.room {α:Type}[aE α] {H:Hp}{v:Value}{xs:List Value}{l:List α} (h:Rw H v xs l) {k:Nat}{e:α} (he:l[k]? = some e) {o m:Nat} (hb:Nat.ble (o+m) (aE.sz α)=true):k*aE.sz α+o+m≤xs.length:=by
 have hk:k<l.length:=(He.1 he).1;have hkk:(k+1)*aE.sz α≤l.length*aE.sz α:=HL _ hk;have hb':o+m≤aE.sz α:=by simpa [Kx] using hb
 rw [h.rd.len];rw [HS,Lx] at hkk;omega
theorem fC (a:Addr) (i:Nat):a.add i=a.add (i+0):=rfl
theorem Ds (a:Addr) (i o:Nat):(a.add i).add o=a.add (i+o):=add_add a i o
section
variable {x:Cx}{ops:Array Oper}{Q:kZ}{rest:List Oper}{H:Hp}{M M':List bV}{L L':Env}
variable {d:Nat}{ty:TypeId}{pos:String}{aft:Array Edge}{g:Option (Nat×Bool)}
theorem wK {α : Type} [aE α] {t e : TypeId} {bytes : Nat} {z : Value} {y u : Operand} {v vu : Value} {l ys : List α}
    (hg : gd ops L ⟨some d, .call ⟨.builtin .append, #[y, u], #[t, t]⟩, ty, pos, aft, g⟩ = some true) (hN : Nat.blt d x.N = true)
    (hT : x.P.underlying t = some (.slice e)) (hi : FT x.P e (aE.sz α) bytes z) (hz : z.cells.size = aE.sz α) (hs : Nat.blt 0 (aE.sz α) = true) (hb0 : Nat.blt 0 bytes = true)
    (hy : ev L y = some v) (hu : ev L u = some vu) (hx : aI H v l) (hc : Value.lQ v = l.length) (hR : aI H vu ys) (hpos : Nat.blt 0 ys.length = true) (hb : ((l.length + ys.length) * bytes : Nat) ≤ 140737488355328)
    (k : ∀ v' xs', Rw H v' xs' (l ++ ys) → W x ops Q rest H (.row v' e (aE.sz α) (l ++ ys).length xs' :: M) ((d, v') :: L)) :
    W x ops Q (⟨some d, .call ⟨.builtin .append, #[y, u], #[t, t]⟩, ty, pos, aft, g⟩ :: rest) H M L := by
  obtain ⟨i, h1, h2, h3, h4⟩ := hi.ex;have hs' : 0 < aE.sz α := by simpa [IM] using hs
  have hb0' : 0 < bytes := by simpa [IM] using hb0
  have hpos' : 0 < ys.length := by simpa [IM] using hpos
  have hmax : l.length + ys.length ≤ maxLen := by
    have : l.length + ys.length ≤ (l.length + ys.length) * bytes := KD _ hb0';unfold maxLen; omega
  have hsmall : l.length + ys.length ≤ 9223372036854775807 := by unfold maxLen at hmax; omega
  refine oL rfl hg hN fun a w hsl ht => ?_;obtain ⟨cs, hcs, hcase⟩ := hx.flat;obtain ⟨ds, hds, hcase2⟩ := hR.flat;rcases hcase2 with ⟨⟨ea, rfl⟩, rfl⟩ | ⟨hd2, b2, off2, c2, rfl⟩
  · simp at hpos'
  have hnews : ∀ j u, ds[j]? = some u → w.cell? ((⟨b2, off2, none⟩ : Addr).add j) = some u := fun j u hu => ((hd2 j u hu).at (x := x) (M := M)) w ht;have hdl := hds.len;have hge := Mu w (l.length + ys.length);have mk : ∀ (qC : Nat), mU H (cs ++ ds) (l ++ ys) → fY (w.drew.alloc (.cells (cs.toArray ++ ds.toArray ++ Builtin.zeroCells z.cells (grownCap w (l.length + ys.length) qC e - (l.length + ys.length))) e)) e (aE.sz α)
        (.slice (some ⟨w.heap.size, 0, none⟩) (l.length + ys.length) (grownCap w (l.length + ys.length) qC e)) (l.length + ys.length) (cs ++ ds) := by
    intro qC hrd;have hge := Mu w (l.length + ys.length) qC e;have hcm : grownCap w (l.length + ys.length) qC e ≤ maxLen := LL w (l.length + ys.length) qC e hmax;have hlen : (cs ++ ds).length = (l.length + ys.length) * aE.sz α := by rw [hrd.len, HZ]
    refine ⟨hlen, .inr ⟨w.heap.size, 0, _, _, rfl, LX w.drew _, hge, hcm, ?_, ?_⟩⟩
    · have hlen' : cs.length + ds.length = (l.length + ys.length) * aE.sz α := by rw [← HZ]; exact hlen
      simp only [Array.size_append, KB, size_zeroCells, hz, Ii];rw [hlen', ← HS];rw [show l.length + ys.length + (grownCap w (l.length + ys.length) qC e - (l.length + ys.length)) = grownCap w (l.length + ys.length) qC e from by omega]
      exact HQ _
    · simp only [Jb, Mn, Ia]
      rw [← Ia, ← hlen];exact K0
  have fin : ∀ (qC : Nat), mU H (cs ++ ds) (l ++ ys) → (Builtin.append_ #[t, t] ty #[v, .slice (some ⟨b2, off2, none⟩) ys.length c2]).run x.P w = .ok (.slice (some ⟨w.heap.size, 0, none⟩) (l.length + ys.length) (grownCap w (l.length + ys.length) qC e))
        (w.drew.alloc (.cells (cs.toArray ++ ds.toArray ++ Builtin.zeroCells z.cells (grownCap w (l.length + ys.length) qC e - (l.length + ys.length))) e)) →
      ∃ v' w', (execOp a.eval ⟨some d, .call ⟨.builtin .append, #[y, u], #[t, t]⟩, ty, pos, aft, g⟩).run x.P w = .ok (.value v') w' ∧ ∃ H' M', St x.B x.w0 H' M' w' ∧ W x ops Q rest H' M' ((d, v') :: L) := by
    intro qC hrd hr;have hown := mk qC hrd;refine ⟨_, (w.drew.alloc (.cells (cs.toArray ++ ds.toArray ++ Builtin.zeroCells z.cells (grownCap w (l.length + ys.length) qC e - (l.length + ys.length))) e)), ?_, H, .row _ e (aE.sz α) (l ++ ys).length (cs ++ ds) :: M, ht.add (r' := .row (.slice (some ⟨w.heap.size, 0, none⟩) (l.length + ys.length) (grownCap w (l.length + ys.length) qC e)) e (aE.sz α) (l ++ ys).length (cs ++ ds)) ?_ ?_ ?_, k _ _ ⟨hrd, _, _, _, rfl⟩⟩
    · simp [execOp, resolve, invoke, builtin, hsl.ev hy, hsl.ev hu, hr]
    · exact ⟨rfl, rfl, rfl, by simp, fun k hk _ => heap_alloc_old w.drew _ (h := hk)⟩
    · show fY _ e (aE.sz α) _ (l ++ ys).length (cs ++ ds)
      rw [HZ]; exact hown
    · intro b hb
      simp only [bV.qh, Value.ownBlock, Im] at hb;omega
  rcases hcase with ⟨⟨ea, rfl⟩, rfl⟩ | ⟨hc1, b1, off1, c1, rfl⟩
  · have hcs' : cs = [] := hcs
    subst hcs';have hl0 : ([] : List α).length + ys.length = ys.length := by simp
    cases ea with
    | none =>
      have hr := run_append_nil (P := x.P) w t ty e i z hT h1 h4 ⟨b2, off2, none⟩ ys.length c2 ds (by rw [h2]; exact hdl) hnews (by omega) (by rw [hl0] at hsmall; omega) (by have hb' := hb; rw [hl0] at hb'; rw [h3]; omega)
      refine fin 0 (hcs.app hds) ?_;simp only [hl0];simpa using hr
    | some ea =>
      have hr := run_append_grow (P := x.P) w t ty e i z hT h1 h4 ea 0 0 [] (by simp) (by simp) ⟨b2, off2, none⟩ ys.length c2 ds (by rw [h2]; exact hdl) hnews (by omega) (by rw [hl0] at hsmall; omega) (Ms (by omega) (by rw [h3]; simpa using hb))
      refine fin 0 (hcs.app hds) ?_;simpa using hr
  · have hc' : c1 = l.length := hc
    subst hc';have hr := run_append_grow (P := x.P) w t ty e i z hT h1 h4 ⟨b1, off1, none⟩ l.length l.length cs (by rw [h2]; exact hcs.len) (fun j u hu => ((hc1 j u hu).at (x := x) (M := M)) w ht) ⟨b2, off2, none⟩ ys.length c2 ds (by rw [h2]; exact hdl) hnews (by omega) (by omega) (Ms (by omega) (by rw [h3]; exact hb))
    exact fin l.length (hcs.app hds) hr
theorem px (α:Type) [aE α] {T e:TypeId}
  (hg:gd ops L ⟨some d,.buildSlice T 0 #[],ty,pos,aft,g⟩=some true) (hN:Nat.blt d x.N=true)
  (hT:∀ w,(underlying T).run x.P w=.ok (.slice e) w) (hs:∀ w,(sizeOf e).run x.P w=.ok (aE.sz α) w)
  (k:∀ v' xs',Rw H v' xs' ([]:List α)→W x ops Q rest H (.row v' e (aE.sz α) ([]:List α).length xs'::M) ((d,v')::L)):
  W x ops Q (⟨some d,.buildSlice T 0 #[],ty,pos,aft,g⟩::rest) H M L:=by
 refine oL rfl hg hN fun a w hsl ht=>?_;have hnr:∀ c w,(newRow e c).run x.P w=.ok ⟨w.heap.size,0,none⟩ (w.alloc (.cells c e)):=fun c w=>by
  simp only [newRow,newObj,HJ,HU,Sem.run,HA,World.alloc]
 refine ⟨.slice (some ⟨w.heap.size,0,none⟩) 0 0,_,?_,H,_,St.newRow (α:=α) (cells:=[]) (l:=[]) (e:=e) ht rfl (by unfold maxLen; simp),k _ _ ⟨rfl,_,_,_,rfl⟩⟩
 simp only [execOp,Instr.buildSlice,HJ,hT,hs,HA,Jk,Nat.not_lt_zero,gt_iff_lt,J2,Lr,HU];simp [Instr.fill,hnr,Array.range]
end
def iH (s:ByteArray):List U8:=s.data.toList.map fun b=>⟨b.toNat⟩
section
variable {x:Cx}{ops:Array Oper}{Q:kZ}{rest:List Oper}{H:Hp}{M M':List bV}{L L':Env}
variable {d:Nat}{ty:TypeId}{pos:String}{aft:Array Edge}{g:Option (Nat×Bool)}
def oS (s:ByteArray) (cap:Nat):Array Value:=s.data.map (fun b:UInt8=>Value.int .u8 b.toNat)++Array.replicate (cap-s.size) (Value.int .u8 0)
theorem xm (w:World) (c:Array Value) (e:TypeId):(w.alloc (.cells c e)).freeze ⟨w.heap.size,c.size,none⟩ 1=w.alloc (.cells c e (c.size,c.size+1)):=by
 have key:∀ (f:Obj→Obj),f (.cells c e)=.cells c e (c.size,c.size+1)→(w.heap.push (.cells c e)).modify w.heap.size f=w.heap.push (.cells c e (c.size,c.size+1)):=by
  intro f hf;apply Array.ext_getElem?;intro i;rw [L_,Array.getElem?_push,Array.getElem?_push]
  by_cases h:w.heap.size=i
  ·subst h; simp [hf]
  ·rw [Hs h,Hs (fun q=>h q.symm),Hs (fun q=>h q.symm)]
 unfold World.freeze;rw [Hs (by omega)]
 show ({ w with heap:=(w.heap.push (.cells c e)).modify w.heap.size _ }:World)={ w with heap:=w.heap.push (.cells c e (c.size,c.size+1)) }
 rw [key _ (by simp)]
theorem tf (s:ByteArray):(iH s).length=s.size:=by unfold iH; rw [JQ,Array.length_toList]; rfl
theorem t_ {P:Program}{w:World}{e:TypeId}{s:ByteArray}:
  (Conv.stringToBytes e s).run P w=.ok (.slice (some ⟨w.heap.size,0,none⟩) s.size (grownCap w s.size 0 e))
   (w.drew.alloc (.cells (oS s (grownCap w s.size 0 e)) e ((oS s (grownCap w s.size 0 e)).size,(oS s (grownCap w s.size 0 e)).size+1))):=by
 have hch:(choose (.appendCap s.size 0 e)).run P w=.ok (grownCap w s.size 0 e) w.drew:=by
  simp only [choose,Sem.run,Question.forced,Js,J2]; rfl
 have hnr:∀ (c:Array Value) (w:World),(newRow e c).run P w=.ok ⟨w.heap.size,0,none⟩ (w.alloc (.cells c e)):=fun c w=>by
  simp only [newRow,newObj,HJ,HU,Sem.run,HA,World.alloc]
 have hms:∀ (c:Array Value) (w:World),(markStringish ⟨w.heap.size,0,none⟩).run P (w.alloc (.cells c e))=.ok () (w.alloc (.cells c e (c.size,c.size+1))):=fun c w=>by
  have hsh:(w.alloc (.cells c e)).shape? w.heap.size=some (e,c.size):=by
   have:(w.alloc (.cells c e)).heap[w.heap.size]? = some (.cells c e):=LX w _;simp only [World.shape?,this]
  simp only [markStringish,shape,HJ,Sem.run,hsh,HA,Go.freeze,xm]
 simp only [Conv.stringToBytes,HJ,hch,HA,hnr];have:=hms (oS s (grownCap w s.size 0 e)) w.drew;simp only [oS] at this ⊢;rw [show (w.drew.heap.size)=w.heap.size from rfl] at this ⊢;rw [this]
 rfl
theorem xU {t u e:TypeId}{y:Operand}{s:ByteArray} (hg:gd ops L ⟨some d,.convert t u y,ty,pos,aft,g⟩=some true) (hN:Nat.blt d x.N=true)
  (ht:∀ w,(underlying t).run x.P w=.ok .string w) (hu:∀ w,(underlying u).run x.P w=.ok (.slice e) w) (he:∀ w,(underlying e).run x.P w=.ok (.int .u8) w)
  (hy:ev L y=some (.string s)) (hs:s.size≤maxLen)
  (k:∀ v H',H.le H'→aI H' v (iH s)→W x ops Q rest H' M ((d,v)::L)):
  W x ops Q (⟨some d,.convert t u y,ty,pos,aft,g⟩::rest) H M L:=by
 refine oL rfl hg hN fun a w hsl h=>?_;have hge:=Mu w s.size 0 e;have hcm:grownCap w s.size 0 e≤maxLen:=LL w s.size 0 e hs;have h':St x.B x.w0 H M w.drew:=h.drewN (w.drawn+1);generalize hcap:grownCap w s.size 0 e=cap at hge hcm;have ha:=(h'.alloc (.cells (oS s cap) e ((oS s cap).size,(oS s cap).size+1))).freeze;refine ⟨.slice (some ⟨w.heap.size,0,none⟩) s.size cap,w.drew.alloc (.cells (oS s cap) e ((oS s cap).size,(oS s cap).size+1)),?_,_,M,ha.2,k _ _ ha.1 (.inr ⟨w.heap.size,0,cap,_,e,_,?_,?_,hcm,Hp.se _ _ _,?_,?_⟩)⟩
 ·have hr:=t_ (P:=x.P) (w:=w) (e:=e) (s:=s)
  rw [hcap] at hr;simp only [execOp,hsl.ev hy,convert,HJ,ht,hu,he,HA,hr,HU]
 ·rw [tf]
 ·rw [tf]; exact hge
 ·have e0:s.size=s.data.size:=rfl
  simp [aE.sz,oS];omega
 ·intro j el hel
  refine ⟨[.int .u8 el.n],rfl,fun i c hc=>?_⟩;have hi:i=0:=by
   have:=(He.1 hc).1;simp at this; omega
  subst hi;simp at hc; subst hc
  have hj:=(He.1 hel).1;simp [iH] at hel hj;obtain ⟨b,hb,rfl⟩:=hel;simp only [aE.sz,Ii,Ku,Jj,oS];rw [Array.getElem?_append_left (by simpa using hj),Array.getElem?_map,hb]
  rfl
theorem xD {P:Program}{w:World}{t e:TypeId}{o:Option Addr}{n c:Nat} (hT:∀ w,(underlying t).run P w=.ok (.slice e) w):(Op.equal t (.slice o n c) (.slice none 0 0)).run P w=.ok o.isNone w:=by
 have key:∀ k,(Op.equalIn (k+1) t (.slice o n c) (.slice none 0 0)).run P w=.ok o.isNone w:=fun k=>by
  unfold Op.equalIn;cases o <;> simp [hT]
 exact key 9999
theorem qI {t e u:TypeId}{y z:Operand}{o:Option Addr}{n c:Nat} (hg:gd ops L ⟨some d,.binOp .eql t y z u,ty,pos,aft,g⟩=some true) (hN:Nat.blt d x.N=true)
  (hT:∀ w,(underlying t).run x.P w=.ok (.slice e) w) (hy:ev L y=some (.slice o n c)) (hz:ev L z=some (.slice none 0 0))
  (k:W x ops Q rest H M ((d,.bool o.isNone)::L)):
  W x ops Q (⟨some d,.binOp .eql t y z u,ty,pos,aft,g⟩::rest) H M L:=
 eK rfl hg hN (fun a w hs _=>by
  simp only [execOp,hs.ev hy,hs.ev hz,HJ,eqGuard,binOp,xD hT,HA,HU]
  rfl) k
end
section
variable {B:Nat}{w0 w:World}{H:Hp}{M:List bV}
theorem St.cZ {α:Type}[aE α] {v:Value}{T:TypeId}{n:Nat}{xs:List Value}{ys:List α}
  (h:St B w0 H (.row v T (aE.sz α) n xs::M) w) (hx:Rw H v xs ys) (hs:Nat.blt 0 (aE.sz α)=true):
  ∃ H',H.le H'∧St B w0 H' M w∧aI H' v ys∧∀ M' w',St B w0 H' M' w'→St B w0 H (.row v T (aE.sz α) n xs::M') w':=by
 have hs':0<aE.sz α:=by simpa [IM] using hs
 have hok:=h.ok _ (Hm ..);have hlo:=h.lo _ (Hm ..);obtain ⟨hl,hh⟩:=hok;have hn:n=ys.length:=by
  have:=hx.rd.len;rw [hl] at this;exact Jw hs' this
 subst hn;rcases hh with ⟨rfl,h0⟩ | ⟨g,off,cap,cur,rfl,hg,hnc,hcm,hcs,htake⟩
 ·refine ⟨H,Hg _,h.tail,.inl ⟨⟨_,rfl⟩,H6 h0⟩,fun M' w' h'=>?_⟩
  have hx0:xs=[]:=H6 (by rw [hl,h0,Jk])
  rw [h0,hx0];exact h'.vV T _
 ·have h':St B w0 H (.obj g (.cells cur T (0,0))::M) w:=by
   refine ⟨h.below,h.le,h.si,?_,?_,h.nd⟩
   ·intro r hr
    rcases Ix.1 hr with rfl | hr
    ·exact hg
    ·exact h.tail.ok r hr
   ·intro r hr
    rcases Ix.1 hr with rfl | hr
    ·exact hlo
    ·exact h.tail.lo r hr
  obtain ⟨hle,hst⟩:=h'.freeze;refine ⟨_,hle,hst,.inr ⟨g,off,cap,cur,T,(0,0),rfl,hnc,hcm,Hp.se _ _ _,hcs,?_⟩,fun M' w' hb=>?_⟩
  ·intro k e he
   obtain ⟨c,h1,h2⟩:=(hx.rd.mono hle).get k e he;refine ⟨c,h1,fun j d hd=>?_⟩;have:=h2 j d hd;rw [← htake,ID] at this
   split at this
   ·rw [Ir] at this; simpa [J8] using this
   ·cases this
  ·have ht:=St.GK (H:=H) hb (hlo g rfl).1 hle (hlo g rfl).2 (Hp.se _ _ _)
   refine ⟨ht.below,ht.le,ht.si,?_,?_,ht.nd⟩
   ·intro r hr
    rcases Ix.1 hr with rfl | hr
    ·exact ⟨hl,.inr ⟨g,off,cap,cur,rfl,ht.ok _ (Hm ..),hnc,hcm,hcs,htake⟩⟩
    ·exact ht.tail.ok r hr
   ·intro r hr
    rcases Ix.1 hr with rfl | hr
    ·exact ht.lo (.obj g _) (Hm ..)
    ·exact ht.tail.lo r hr
theorem bX {P:Program}{f:FuncId}{args:Array Value}{H1:Hp}{r:bV}{φ:List bV→Value→Prop}
  (back:∀ M' w',St B w0 H1 M' w'→St B w0 H (r::M') w') (h:Calls P f args w (fS B w0 fun H' M' v=>H1=H'∧φ M' v)):
  Calls P f args w (fS B w0 fun H' M' v=>H=H'∧∃ M2,r::M2=M'∧φ M2 v):=
 h.mono fun e w' he=>by
  cases e with
  | returned v=>
   obtain ⟨H2,M',h1,h2,h3⟩:=he;subst h2;exact ⟨H,r::M',back M' w' h1,rfl,M',rfl,h3⟩
  | panicked c=>exact he
  | outgrown=>exact he
end
section
variable {x:Cx}{ops:Array Oper}{Q:kZ}{rest:List Oper}{H:Hp}{M M':List bV}{L L':Env}
variable {d:Nat}{ty:TypeId}{pos:String}{aft:Array Edge}{g:Option (Nat×Bool)}
theorem qe {fn:Fn}{first caps:List Operand}{vs cs:List Value} (hg:gd ops L ⟨some d,.makeFunc fn first.toArray caps.toArray,ty,pos,aft,g⟩=some true) (hN:Nat.blt d x.N=true)
  (hv:uk L first=some vs) (hc:uk L caps=some cs) (k:W x ops Q rest H M ((d,.func fn vs.toArray cs.toArray)::L)):
  W x ops Q (⟨some d,.makeFunc fn first.toArray caps.toArray,ty,pos,aft,g⟩::rest) H M L:=
 eK rfl hg hN (fun a w hs _=>by simp [execOp,Instr.makeFunc,hs.uk hv,hs.uk hc]) k
theorem pQ {d:Nat}{y:Operand}{f:FuncId}{args:List Operand}{tys:Array TypeId}{vs fs cs:List Value}
  {Φ:Hp→List bV→Value→Prop}
  (hcall:∀ as w,(callFunc f as).run x.P w=.ok (.enter f as) w)
  (hg:gd ops L ⟨some d,.call ⟨.value y,args.toArray,tys⟩,ty,pos,aft,g⟩=some true) (hN:Nat.blt d x.N=true)
  (hy:ev L y=some (.func (.func f) fs.toArray cs.toArray)) (hv:uk L args=some vs)
  (hc:∀ w,St x.B x.w0 H M w→Calls x.P f (fs++vs++cs).toArray w (fS x.B x.w0 Φ))
  (k:∀ v H' M',Φ H' M' v→W x ops Q rest H' M' ((d,v)::L)):
  W x ops Q (⟨some d,.call ⟨.value y,args.toArray,tys⟩,ty,pos,aft,g⟩::rest) H M L:=by
 intro a w hs ht;refine Lz fun K hK=>?_;rw [Hv (hs.gd hg)];have hargs:args.toArray.map a.eval=vs.toArray:=by simp [hs.uk hv]
 have hr:(execOp a.eval ⟨some d,.call ⟨.value y,args.toArray,tys⟩,ty,pos,aft,g⟩).run x.P w=.ok (.enter f (fs++vs++cs).toArray) w:=by
  simp only [execOp,resolve,hargs,hs.ev hy,Deferred.ofValue,HJ,HU,HA,invoke];simp [hcall]
 unfold Oper.wp;rw [hr];simp only [Oper.upon];refine (hc w ht).mono fun e w' he=>?_;cases e with
 | returned v=>
  obtain ⟨H',M',h1,h2⟩:=he;exact hK _ _ (k v H' M' h2 _ _ (hs.put hN) h1)
 | panicked c=>exact he.elim
 | outgrown=>exact he.elim
def jx (k:IntKind) (a b:Int):Int:=k.wrap (a*2 ^ (min b.toNat k.bits))
def jW (k:IntKind) (a b:Int):Int:=a.fdiv (2 ^ (min b.toNat k.bits))
theorem wM {t u:TypeId}{y z:Operand}{k k2:IntKind}{a b:Int} (hg:gd ops L ⟨some d,.binOp .shl t y z u,ty,pos,aft,g⟩=some true) (hN:Nat.blt d x.N=true)
  (hy:ev L y=some (.int k a)) (hz:ev L z=some (.int k2 b)) (hb:0≤b) (kk:W x ops Q rest H M ((d,.int k (jx k a b))::L)):
  W x ops Q (⟨some d,.binOp .shl t y z u,ty,pos,aft,g⟩::rest) H M L:=
 eK rfl hg hN (fun c w hs _=>by
  have:¬ b<0:=by omega
  simp [execOp,hs.ev hy,hs.ev hz,eqGuard,binOp,Op.shift,this,jx]) kk
theorem py {t u:TypeId}{y z:Operand}{k k2:IntKind}{a b:Int} (hg:gd ops L ⟨some d,.binOp .shr t y z u,ty,pos,aft,g⟩=some true) (hN:Nat.blt d x.N=true)
  (hy:ev L y=some (.int k a)) (hz:ev L z=some (.int k2 b)) (hb:0≤b) (kk:W x ops Q rest H M ((d,.int k (jW k a b))::L)):
  W x ops Q (⟨some d,.binOp .shr t y z u,ty,pos,aft,g⟩::rest) H M L:=
 eK rfl hg hN (fun c w hs _=>by
  have:¬ b<0:=by omega
  simp [execOp,hs.ev hy,hs.ev hz,eqGuard,binOp,Op.shift,this,jW]) kk
theorem bP {t u:TypeId}{y:Operand}{k k2:IntKind}{n:Int} (hg:gd ops L ⟨some d,.convert t u y,ty,pos,aft,g⟩=some true) (hN:Nat.blt d x.N=true)
  (ht:∀ w,(underlying t).run x.P w=.ok (.int k2) w) (hu:∀ w,(underlying u).run x.P w=.ok (.int k) w) (hy:ev L y=some (.int k2 n))
  (kk:W x ops Q rest H M ((d,.int k (k.wrap n))::L)):
  W x ops Q (⟨some d,.convert t u y,ty,pos,aft,g⟩::rest) H M L:=
 eK rfl hg hN (fun c w hs _=>by simp [execOp,hs.ev hy,convert,ht,hu,Conv.intToInt]) kk
theorem va {t u:TypeId}{y z:Operand}{a b:ByteArray} (hg:gd ops L ⟨some d,.binOp .add t y z u,ty,pos,aft,g⟩=some true) (hN:Nat.blt d x.N=true)
  (hy:ev L y=some (.string a)) (hz:ev L z=some (.string b)) (hb:a.size+b.size≤maxLen) (kk:W x ops Q rest H M ((d,.string (a++b))::L)):
  W x ops Q (⟨some d,.binOp .add t y z u,ty,pos,aft,g⟩::rest) H M L:=
 eK rfl hg hN (fun c w hs _=>by
  have:¬ (((a.size+b.size:Nat):Int) > i64.max):=by
   simp only [IntKind.max,IntKind.signed,IntKind.bits]; unfold maxLen at hb; simp; omega
  simp only [execOp,hs.ev hy,hs.ev hz,eqGuard,binOp,Op.stringOp,HJ];simp only [Hs this];simp) kk
theorem zl {s:ByteArray}{k:Nat}{c:U8} (h:(iH s)[k]? = some c):∃ b:UInt8,s[k]? = some b∧c=⟨b.toNat⟩:=by
 simp only [iH,Ib,Lf] at h;obtain ⟨b,hb,rfl⟩:=h;refine ⟨b,?_,rfl⟩;obtain ⟨hk,e⟩:=He.1 hb;have hk':k<s.size:=by simpa using hk
 rw [getElem?_pos s k hk'];rw [← e]; rfl
theorem ve {t:TypeId}{y z:Operand}{s:ByteArray}{kk:IntKind}{i:Int}{c:U8} (hg:gd ops L ⟨some d,.index t y z,ty,pos,aft,g⟩=some true) (hN:Nat.blt d x.N=true)
  (hT:∀ w,(underlying t).run x.P w=.ok .string w) (hy:ev L y=some (.string s)) (hz:ev L z=some (.int kk i)) (h0:0≤i) (he:(iH s)[i.toNat]? = some c)
  (k:W x ops Q rest H M ((d,.int .u8 c.n)::L)):
  W x ops Q (⟨some d,.index t y z,ty,pos,aft,g⟩::rest) H M L:=
 eK rfl hg hN (fun a w hs _=>by
  obtain ⟨b,hb,rfl⟩:=zl he;simp [execOp,hs.ev hy,hs.ev hz,Instr.index,asIntOf,hT,h0,hb]) k
theorem nP {t:TypeId}{y:Operand}{lo hi:Option Operand}{s:ByteArray}{l h:Nat} (hg:gd ops L ⟨some d,.slice t y lo hi none,ty,pos,aft,g⟩=some true) (hN:Nat.blt d x.N=true)
  (hT:∀ w,(underlying t).run x.P w=.ok .string w)
  (hy:ev L y=some (.string s)) (hh:Ac L hi s.size s.size h) (hl:Ac L lo 0 h l)
  (k:W x ops Q rest H M ((d,.string (s.extract l h))::L)):
  W x ops Q (⟨some d,.slice t y lo hi none,ty,pos,aft,g⟩::rest) H M L:=
 eK rfl hg hN (fun a w hs _=>by
  have hb:(Instr.sliceBounds false s.size s.size (lo.map a.eval) (hi.map a.eval) none).run x.P w=.ok (l,h,s.size) w:=by
   rcases hh.bd hs with ⟨e1,rfl⟩ | ⟨kh,ih,e1,h0,h1,rfl⟩
   ·rcases hl.bd hs with ⟨e2,rfl⟩ | ⟨kl,il,e2,l0,l1,rfl⟩
    ·simp only [e1,e2,Instr.sliceBounds,HJ,HU,HA]
    ·simp only [e1,e2,Instr.sliceBounds,HJ,HU,HA,run_sliceBound l0 l1]
   ·rcases hl.bd hs with ⟨e2,rfl⟩ | ⟨kl,il,e2,l0,l1,rfl⟩
    ·simp only [e1,e2,Instr.sliceBounds,HJ,HU,HA,run_sliceBound h0 h1]
    ·simp only [e1,e2,Instr.sliceBounds,HJ,HU,HA,run_sliceBound h0 h1,run_sliceBound l0 l1]
  simp only [execOp,hs.ev hy,Instr.sliceAt,HJ,hT,HA,Instr.slice,La,Option.isSome_none,Js,J2,hb,HU]) k
end
class MV (α:Type) where
 mv:α→Value
instance:MV Int:=⟨fun n=>.int .i64 n⟩
instance:MV Bool:=⟨fun b=>.bool b⟩
instance:MV ByteArray:=⟨fun s=>.string s⟩
class rO (α:Type) [DecidableEq α] extends MV α where
 kind:TypeDesc
 same:∀ a b:α,Instr.sameNow kind (mv a) (mv b)=some (decide (a=b))
 bits:∀ a:α,Instr.sameBits 10000 (mv a) (mv a)=true
 check:∀ (P:Program) (t:TypeId) (e:Bool) (a:α) (w:World),(∀ w,(underlying t).run P w=.ok kind w)→(Instr.checkKey e 10000 t (mv a)).run P w=.ok () w
theorem Ap (s t:ByteArray):(s == t)=decide (s=t):=by
 have h:(s == t)=(s.data == t.data):=rfl;rw [h,Bool.eq_iff_iff];simp only [beq_iff_eq,IN];exact ⟨fun e=>ByteArray.ext e,fun e=>by rw [e]⟩
instance:rO Int where
 kind:=.int .i64
 same a b:=by simp [Instr.sameNow,Ax,MV.mv]
 bits a:=by simp [Instr.sameBits,MV.mv]
 check P t e a w h:=by
  have key:∀ k,(Instr.checkKey e (k+1) t (.int .i64 a)).run P w=.ok () w:=fun k=>by unfold Instr.checkKey; simp [h]
  exact key 9999
instance:rO ByteArray where
 kind:=.string
 same a b:=by simp [Instr.sameNow,Ap,MV.mv]
 bits a:=by simp [Instr.sameBits,MV.mv,Ap]
 check P t e a w h:=by
  have key:∀ k,(Instr.checkKey e (k+1) t (.string a)).run P w=.ok () w:=fun k=>by unfold Instr.checkKey; simp [h]
  exact key 9999
section
variable {κ ν:Type}[DecidableEq κ] [rO κ] [MV ν]
structure ot (es:Array MapEntry) (c:Nat) (l:List (κ×ν)):Prop where
 eq:es.toList.map (fun e=>(e.key,e.val))=l.map fun p=>(MV.mv p.1,MV.mv p.2)
 nd:(es.toList.map (·.born)).Nodup
 lt:∀ e ∈ es.toList,e.born<c
def ru:List (κ×ν)→κ→Nat→Option (Nat×ν)
 | [],_,_=>none
 | (a,v)::r,k,i=>if a=k then some (i,v) else ru r k (i+1)
def nA (l:List (κ×ν)) (k:κ):Option ν:=(ru l k 0).map (·.2)
def qF (l:List (κ×ν)) (k:κ) (v:ν):List (κ×ν):=match ru l k 0 with
 | some (i,_)=>l.set i (k,v)
 | none=>l++[(k,v)]
theorem ot.nil:ot #[] 0 ([]:List (κ×ν)):=⟨rfl,by simp,by simp⟩
theorem vB (k:κ):∀ (es:List MapEntry) (l:List (κ×ν)) (i:Nat),es.map (fun e=>(e.key,e.val))=l.map (fun p=>(MV.mv p.1,MV.mv p.2)) →
  Instr.findNow (rO.kind κ) (MV.mv k) es i=some ((ru l k i).map fun p=>(p.1,MV.mv p.2))
 | [],[],i,_=>rfl
 | [],_::_,i,h=>by simp at h
 | _::_,[],i,h=>by simp at h
 | e::es,(a,v)::l,i,h=>by
  simp only [KT,List.cons.injEq,K7] at h;obtain ⟨⟨h1,h2⟩,h3⟩:=h;unfold Instr.findNow;rw [h1,rO.same]
  by_cases hk:k=a
  ·subst hk; simp [ru,h2]
  ·simp only [hk,LK,ru,Hs (fun e:a=k=>hk e.symm)]
   exact vB k es l (i+1) h3
theorem run_findKey {P:Program}{w:World}{t:TypeId}{k:κ}{es:Array MapEntry}{c:Nat}{l:List (κ×ν)} (h:ot es c l) (hK:∀ w,(underlying t).run P w=.ok (rO.kind κ) w):
  (Instr.findKey t (MV.mv k) es.toList).run P w=.ok ((ru l k 0).map fun p=>(p.1,MV.mv p.2)) w:=by
 simp only [Instr.findKey,HJ,hK,HA,vB k es.toList l 0 h.eq,HU]
theorem zO:∀ {l:List (κ×ν)}{k:κ}{i j:Nat}{v:ν},ru l k i=some (j,v)→i≤j∧j<i+l.length∧l[j-i]? = some (k,v)
 | [],k,i,j,v,h=>by simp [ru] at h
 | (a,u)::l,k,i,j,v,h=>by
  unfold ru at h
  split at h
  ·rename_i e; subst e
   simp only [Im,K7] at h;obtain ⟨rfl,rfl⟩:=h;simp
  ·obtain ⟨h1,h2,h3⟩:=zO h
   refine ⟨by omega,by simp; omega,?_⟩
   rw [show j-i=(j-(i+1))+1 by omega,List.getElem?_cons_succ]; exact h3
end
section
variable {x:Cx}{ops:Array Oper}{Q:kZ}{rest:List Oper}{H:Hp}{M M':List bV}{L L':Env}
variable {d:Nat}{ty:TypeId}{pos:String}{aft:Array Edge}{g:Option (Nat×Bool)}
variable {κ ν:Type}[DecidableEq κ] [rO κ] [MV ν]
theorem uf {t:TypeId} (hg:gd ops L ⟨some d,.makeMap t none,ty,pos,aft,g⟩=some true) (hN:Nat.blt d x.N=true)
  (k:∀ b,W x ops Q rest H (.obj b (.map #[] 0)::M) ((d,.map (some b))::L)):
  W x ops Q (⟨some d,.makeMap t none,ty,pos,aft,g⟩::rest) H M L:=
 oL rfl hg hN (fun c w hs ht=>⟨_,w.alloc (.map #[] 0),by
  simp only [execOp,Instr.makeMap,La,newObj,HJ,HU,Sem.run,HA,World.alloc],_,_,ht.alloc _,k _⟩)
theorem rI {P:Program}{w:World}{b:Nat}{es:Array MapEntry}{c:Nat} (h:w.heap[b]? = some (.map es c)):(getObj b).run P w=.ok (.map es c) w:=by
 simp [getObj,Sem.run,h]
theorem z6 {P:Program}{w:World}{t key e:TypeId}{b c:Nat}{es:Array MapEntry}{l:List (κ×ν)}{k:κ}{z:ν}{ok:Bool} (hb:w.heap[b]? = some (.map es c)) (h:ot es c l)
  (hT:∀ w,(underlying t).run P w=.ok (.map key e) w) (hK:∀ w,(underlying key).run P w=.ok (rO.kind κ) w) (hz:∀ w,(zeroValue e).run P w=.ok (MV.mv z) w):
  (Instr.lookup t (.map (some b)) (MV.mv k) ok).run P w=.ok (if ok then .tuple #[MV.mv ((nA l k).getD z),.bool (nA l k).isSome] else MV.mv ((nA l k).getD z)) w:=by
 simp only [Instr.lookup,HJ,hT,HA,rI hb,HU,rO.check P key _ k w hK,run_findKey h hK];unfold nA;cases hm:ru l k 0 with
 | none=>simp only [La,HJ,hz,HA,HU]; rfl
 | some p=>simp only [Je,HU,HA]; rfl
theorem vf {t key e:TypeId}{b c:Nat}{y u:Operand}{es:Array MapEntry}{l:List (κ×ν)}{k:κ}{z:ν}{vk v:Value} (hm:bV.obj b (.map es c) ∈ M) (h:ot es c l)
  (hg:gd ops L ⟨some d,.lookup t y u false,ty,pos,aft,g⟩=some true) (hN:Nat.blt d x.N=true)
  (hT:∀ w,(underlying t).run x.P w=.ok (.map key e) w) (hK:∀ w,(underlying key).run x.P w=.ok (rO.kind κ) w) (hz:∀ w,(zeroValue e).run x.P w=.ok (MV.mv z) w)
  (hy:ev L y=some (.map (some b))) (hu:ev L u=some vk) (hvk:vk=MV.mv k) (hv:MV.mv ((nA l k).getD z)=v)
  (kk:W x ops Q rest H M ((d,v)::L)):
  W x ops Q (⟨some d,.lookup t y u false,ty,pos,aft,g⟩::rest) H M L:=
 eK rfl hg hN (fun a w hs ht=>by
  subst hvk; subst hv
  simp only [execOp,hs.ev hy,hs.ev hu,HJ,z6 (ok:=false) (ht.q6 hm) h hT hK hz,HA,HU]; rfl) kk
theorem sh (w:World) (b:Nat) (o:Obj):w.grownBy { w with heap:=w.heap.setIfInBounds b o } (some b):=
 ⟨rfl,rfl,rfl,by simp,fun k _ hne=>by
  simp only [Ll];rw [Hs (fun e=>hne (by rw [e]))]⟩
theorem r7 {t key e:TypeId}{b c:Nat}{y u q:Operand}{es:Array MapEntry}{l:List (κ×ν)}{k:κ}{v:ν}{vk vv:Value} (h:ot es c l)
  (hg:gd ops L ⟨none,.mapUpdate t y u q,ty,pos,aft,g⟩=some true)
  (hT:∀ w,(underlying t).run x.P w=.ok (.map key e) w) (hK:∀ w,(underlying key).run x.P w=.ok (rO.kind κ) w)
  (hy:ev L y=some (.map (some b))) (hu:ev L u=some vk) (hvk:vk=MV.mv k) (hq:ev L q=some vv) (hvv:vv=MV.mv v)
  (kk:∀ es' c',ot es' c' (qF l k v)→W x ops Q rest H (.obj b (.map es' c')::M) L):
  W x ops Q (⟨none,.mapUpdate t y u q,ty,pos,aft,g⟩::rest) H (.obj b (.map es c)::M) L:=
 y_ rfl hg (fun a w hs ht=>by
  subst hvk; subst hvv
  have hb:=ht.q6 (Hm ..);have hlt:b<w.heap.size:=(Ja.1 hb).1;have hset:∀ o,(setObj b o).run x.P w=.ok () { w with heap:=w.heap.setIfInBounds b o }:=fun o=>by simp [setObj,Sem.run,hb]
  have fin:∀ es' c',ot es' c' (qF l k v)→∃ H' M',St x.B x.w0 H' M' { w with heap:=w.heap.setIfInBounds b (.map es' c') }∧W x ops Q rest H' M' L:=fun es' c' hr=>
   ⟨H,_,ht.xM (r':=.obj b (.map es' c')) (sh w b _) (by simp [bV.ok,hlt]) (fun _ hc=>.inl hc),kk es' c' hr⟩
  have hlen:es.size=l.length:=by have:=HH List.length h.eq; simpa using this
  cases hm:ru l k 0 with
  | none=>
   refine ⟨_,?_,fin (es.push { key:=MV.mv k,val:=MV.mv v,born:=c }) (c+1) ?_⟩
   ·simp only [execOp,hs.ev hy,hs.ev hu,hs.ev hq,Instr.mapUpdate,HJ,hT,HA,rI hb,rO.check x.P key _ k w hK,run_findKey h hK,hm,La,hset,HU]
   ·refine ⟨?_,?_,fun e he=>?_⟩
    ·unfold qF
     rw [hm];simp only [Array.toList_push,Jc,KT,Mj];rw [show es.toList.map _=_ from h.eq]
    ·simp only [Array.toList_push,Jc,KT,Mj]
     rw [I1];refine ⟨h.nd,by simp,fun a ha b hb e=>?_⟩
     simp at hb; subst hb; subst e
     obtain ⟨y,hy,rfl⟩:=IQ.1 ha;exact Nat.lt_irrefl _ (h.lt y hy)
    ·simp only [Array.toList_push,Ih,IS] at he
     rcases he with he | rfl
     ·exact Nat.lt_succ_of_lt (h.lt e he)
     ·exact Hq _
  | some p=>
   obtain ⟨i,u0⟩:=p;obtain ⟨_,hi,hget⟩:=zO hm;simp only [Ii,Lp] at hi hget;have hi':i<es.size:=by omega
   have hkey:es[i].key=MV.mv k:=by
    have h1:(es.toList.map fun e=>(e.key,e.val))[i]? = some (MV.mv k,MV.mv u0):=by rw [show es.toList.map _=_ from h.eq,Ib,hget]; rfl
    rw [Ib] at h1;simp [hi'] at h1;exact h1.1
   refine ⟨_,?_,fin (es.modify i fun e=>{ e with key:=MV.mv k,val:=MV.mv v }) c ?_⟩
   ·have hg2:((es[i]?).map (·.key)).getD (MV.mv k)=MV.mv k:=by simp [hi',hkey]
    simp only [execOp,hs.ev hy,hs.ev hu,hs.ev hq,Instr.mapUpdate,HJ,hT,HA,rI hb,rO.check x.P key _ k w hK,run_findKey h hK,hm,Je,hg2,Instr.keyThatStays,rO.bits,Lr,hset,HU]
   ·have hbn:(es.modify i fun e=>{ e with key:=MV.mv k,val:=MV.mv v }).toList.map (·.born)=es.toList.map (·.born):=by
     simp only [Array.toList_modify];apply Jx;intro j;rw [Ib,Ib,List.getElem?_modify]
     by_cases e:i=j
     ·subst e; cases es.toList[i]? <;> simp
     ·simp [Hs e]
    refine ⟨?_,by rw [hbn]; exact h.nd,fun e he=>?_⟩
    rotate_left
    ·have h1:e.born ∈ es.toList.map (·.born):=by rw [← hbn]; exact IQ.2 ⟨e,he,rfl⟩
     obtain ⟨y,hy,hyb⟩:=IQ.1 h1;rw [← hyb]; exact h.lt y hy
    unfold qF;rw [hm];simp only [Array.toList_modify];apply Jx;intro j;rw [Ib,Ib,List.getElem?_modify,List.getElem?_set];have hj:(es.toList.map fun e=>(e.key,e.val))[j]? = (l.map fun p=>(MV.mv p.1,MV.mv p.2))[j]? := by rw [show es.toList.map _=_ from h.eq]
    rw [Ib,Ib] at hj
    by_cases e:i=j
    ·subst e
     simp [hi',hi]
    ·simp only [Hs e]
     simpa using hj)
end
section
variable {x:Cx}{ops:Array Oper}{Q:kZ}{rest:List Oper}{H:Hp}{M M':List bV}{L L':Env}
variable {d:Nat}{ty:TypeId}{pos:String}{aft:Array Edge}{g:Option (Nat×Bool)}
theorem xX {t:TypeId}{y:Operand}{f:Nat}{cs:List Value}{v:Value}{fs:Array Field}{fd:Field} (hg:gd ops L ⟨some d,.field t y f,ty,pos,aft,g⟩=some true) (hN:Nat.blt d x.N=true)
  (hT:∀ w,(underlying t).run x.P w=.ok (.struct fs) w) (hf:fs[f]? = some fd) (hA:∀ w,(isAgg fd.type).run x.P w=.ok false w)
  (hy:ev L y=some (.agg cs.toArray)) (hv:cs[fd.offset]? = some v) (k:W x ops Q rest H M ((d,v)::L)):
  W x ops Q (⟨some d,.field t y f,ty,pos,aft,g⟩::rest) H M L:=
 eK rfl hg hN (fun a w hs ht=>by simp [execOp,hs.ev hy,Instr.field,hT,hf,asAgg,part,hA,hv]) k
theorem xZ {t e u:TypeId}{y z:Operand}{a:Option Addr} (hg:gd ops L ⟨some d,.binOp .eql t y z u,ty,pos,aft,g⟩=some true) (hN:Nat.blt d x.N=true)
  (hT:∀ w,(underlying t).run x.P w=.ok (.pointer e) w) (hy:ev L y=some (.pointer a)) (hz:ev L z=some (.pointer none))
  (k:W x ops Q rest H M ((d,.bool a.isNone)::L)):W x ops Q (⟨some d,.binOp .eql t y z u,ty,pos,aft,g⟩::rest) H M L:=
 eK rfl hg hN (fun c w hs _=>by
  have key:∀ k,(Op.equalIn (k+1) t (.pointer a) (.pointer none)).run x.P w=.ok a.isNone w:=fun k=>by
   unfold Op.equalIn;cases a <;> simp [hT]
  have h':(Op.equal t (.pointer a) (.pointer none)).run x.P w=.ok a.isNone w:=key 9999;simp only [execOp,hs.ev hy,hs.ev hz,HJ,eqGuard,binOp];simp [h']) k
theorem xV {t u:TypeId}{y z:Operand}{a b:Bool} (hg:gd ops L ⟨some d,.binOp .eql t y z u,ty,pos,aft,g⟩=some true) (hN:Nat.blt d x.N=true)
  (hT:∀ w,(underlying t).run x.P w=.ok .bool w) (hy:ev L y=some (.bool a)) (hz:ev L z=some (.bool b))
  (k:W x ops Q rest H M ((d,.bool (decide (a=b)))::L)):W x ops Q (⟨some d,.binOp .eql t y z u,ty,pos,aft,g⟩::rest) H M L:=
 eK rfl hg hN (fun c w hs _=>by
  have e:(a == b)=decide (a=b):=by cases a <;> cases b <;> rfl
  have key:∀ k,(Op.equalIn (k+1) t (.bool a) (.bool b)).run x.P w=.ok (decide (a=b)) w:=fun k=>by
   unfold Op.equalIn;simp [hT,e]
  have h':(Op.equal t (.bool a) (.bool b)).run x.P w=.ok (decide (a=b)) w:=key 9999;simp only [execOp,hs.ev hy,hs.ev hz,HJ,eqGuard,binOp];simp [h']) k
theorem B5 {t u:TypeId}{y z:Operand}{a b:Bool} (hg:gd ops L ⟨some d,.binOp .neq t y z u,ty,pos,aft,g⟩=some true) (hN:Nat.blt d x.N=true)
  (hT:∀ w,(underlying t).run x.P w=.ok .bool w) (hy:ev L y=some (.bool a)) (hz:ev L z=some (.bool b))
  (k:W x ops Q rest H M ((d,.bool (!decide (a=b)))::L)):W x ops Q (⟨some d,.binOp .neq t y z u,ty,pos,aft,g⟩::rest) H M L:=
 eK rfl hg hN (fun c w hs _=>by
  have e:(a == b)=decide (a=b):=by cases a <;> cases b <;> rfl
  have key:∀ k,(Op.equalIn (k+1) t (.bool a) (.bool b)).run x.P w=.ok (decide (a=b)) w:=fun k=>by
   unfold Op.equalIn;simp [hT,e]
  have h':(Op.equal t (.bool a) (.bool b)).run x.P w=.ok (decide (a=b)) w:=key 9999;simp only [execOp,hs.ev hy,hs.ev hz,HJ,eqGuard,binOp];simp [h']) k
end
def zN (acc:List Nat) (o:Oper):Nat:=(fX o).foldl (fun m j=>m ||| ((1 <<< j) ||| acc.getD j 0)) 0
def vR:List Nat→List Oper→List Nat
 | acc,[]=>acc
 | acc,o::r=>vR (acc++[zN acc o]) r
theorem vQ {acc:List Nat}{j:Nat}:∀ (ws:List Nat) (z:Nat),(ws.foldl (fun m j=>m ||| ((1 <<< j) ||| acc.getD j 0)) z).testBit j=true →
  z.testBit j=true∨∃ q ∈ ws,j=q∨(acc.getD q 0).testBit j=true
 | [],z,h=>.inl h
 | q::ws,z,h=>by
  rcases vQ ws _ h with h | ⟨r,hr,h⟩
  ·rw [Nat.testBit_or,Nat.testBit_or,Jl,Jl] at h
   rcases h with h | h | h
   ·exact .inl h
   ·refine .inr ⟨q,Hm ..,.inl ?_⟩
    rw [Nat.shiftLeft_eq,Lx,Nat.testBit_two_pow] at h;simpa using (Ht h).symm
   ·exact .inr ⟨q,Hm ..,.inr h⟩
  ·exact .inr ⟨r,HB _ hr,h⟩
theorem sx {l:List Oper}{listed:Nat→Prop} (dc:∀ i o,l[i]? = some o→listed i→∀ j ∈ fX o,listed j):
  ∀ (r:List Oper) (acc:List Nat),(∀ i o,r[i]? = some o→l[acc.length+i]? = some o) →
   (∀ i,i<acc.length→∀ o,l[i]? = some o→(∀ q ∈ fX o,listed q)→∀ j,(acc.getD i 0).testBit j=true→listed j) →
   ∀ i,i<acc.length+r.length→∀ o,l[i]? = some o→(∀ q ∈ fX o,listed q)→∀ j,((vR acc r).getD i 0).testBit j=true→listed j
 | [],acc,_,h,i,hi,o,ho,hw,j,hj=>h i (by simpa using hi) o ho hw j hj
 | p::r,acc,hr,h,i,hi,o,ho,hw,j,hj=>by
  refine sx dc r (acc++[zN acc p]) (fun k q hk=>?_) ?_ i (by simp at hi ⊢; omega) o ho hw j hj
  ·have:=hr (k+1) q (by simpa using hk)
   rw [HZ,Iz]
   rwa [show acc.length+1+k=acc.length+(k+1) by omega]
  ·intro k hk q hq hqw b hb
   by_cases hkl:k<acc.length
   ·refine h k hkl q hq hqw b ?_
    rw [H9,IV hkl] at hb;rw [H9]; exact hb
   ·have hke:k=acc.length:=by simp at hk; omega
    subst hke;have hp:p=q:=by
     have:=hr 0 p rfl;rw [Jj,hq] at this;exact (Hc this).symm
    subst hp;rw [H9,H_ (HQ _),I3] at hb;simp only [List.getElem?_cons_zero,JK] at hb;unfold zN at hb;rcases vQ _ _ hb with h0 | ⟨q,hqm,rfl | hqb⟩
    ·simp at h0
    ·exact hqw b hqm
    ·by_cases hql:q<acc.length
     ·have hlq:=hqw q hqm
      cases hoq:l[q]? with
      | none=>
       have:acc.length<l.length:=(He.1 hq).1;have:=List.getElem?_eq_none_iff.1 hoq;omega
      | some oq=>exact h q hql oq hoq (dc q oq hoq hlq) b hqb
     ·rw [H9,IC (by omega)] at hqb
      simp at hqb
def q7 (l:List Oper) (m:Nat):Bool:=
 l.zipIdx.all (fun p=>(fX p.1).all fun j=>Nat.blt j p.2) &&
 l.zipIdx.all fun p=>Nat.blt p.2 m || (List.range p.2).all fun j=>((vR [] l).getD p.2 0).testBit j
theorem nc {l:List Oper}{m:Nat} (hB:q7 l m=true) {i:Nat}{o:Oper} (ho:l[i]? = some o):∀ j ∈ fX o,j<i:=by
 unfold q7 at hB;rw [Jp,IT] at hB;have:=hB.1 (o,i) (by rw [List.mem_zipIdx_iff_getElem?]; simpa using ho)
 simpa only [IT,IM] using this
theorem wa {l:List Oper}{m:Nat} (hB:q7 l m=true) {listed:Nat→Prop} (dc:∀ i o,l[i]? = some o→listed i→∀ j ∈ fX o,listed j)
  {i:Nat}{o:Oper} (ho:l[i]? = some o) (hm:m≤i) (hw:∀ q ∈ fX o,listed q):∀ j,j<i→listed j:=by
 unfold q7 at hB;rw [Jp,IT,IT] at hB;have h2:=hB.2 (o,i) (by rw [List.mem_zipIdx_iff_getElem?]; simpa using ho)
 simp only [Jl,IM,IT,IA] at h2;have hi:i<l.length:=(He.1 ho).1;intro j hj;rcases h2 with h2 | h2
 ·omega
 ·exact sx dc l [] (fun k q hk=>by simpa using hk) (fun k hk=>by simp at hk) i (by simpa using hi) o ho hw j (h2 j hj)
def pP:List Nat→(Nat→List bV)→List bV→List bV
 | [],_,M=>M
 | c::cs,R,M=>R c++pP cs R M
theorem ub (cs:List Nat) (R:Nat→List bV) (M:List bV):pP cs R M=cs.flatMap R++M:=by
 induction cs with
 | nil=>rfl
 | cons c cs ih=>rw [pP,ih,L1,Ia]
def wx (R:Nat→List bV) (i:Nat) (rs:List bV):Nat→List bV:=fun k=>bif Nat.beq k i then rs else R k
theorem uA (R:Nat→List bV) (i:Nat) (rs:List bV):wx R i rs i=rs:=by simp [wx]
theorem u4 (R:Nat→List bV) (i k:Nat) (rs:List bV) (h:k≠i):wx R i rs k=R k:=by
 unfold wx;cases hb:Nat.beq k i with
 | false=>rfl
 | true=>exact absurd (JO hb) h
abbrev Fj:=Nat→Hp→List bV→Value→Prop
def EE:Option Nat→Value→Env→Env
 | some t,v,L=>(t,v)::L
 | none,_,L=>L
def AF (l:List Oper) (j:Nat):Option Nat:=match l[j]? with
 | none=>none
 | some o=>match o.dst with
  | some _=>none
  | none=>match o.op with
   | .store _ (.tmp s) _=>bif (fX o).any (fun w=>match (l[w]?).bind (·.dst) with
    | some u=>Nat.beq u s
    | none=>false) then some s else none
   | _=>none
theorem FE {l:List Oper}{j s:Nat} (h:AF l j=some s):∃ o,l[j]? = some o∧o.dst=none∧∃ w ∈ fX o,(l[w]?).bind (·.dst)=some s:=by
 unfold AF at h
 split at h
 ·cases h
 ·rename_i o ho
  split at h
  ·cases h
  ·rename_i hd
   split at h
   ·rename_i T s' z hop
    cases hb:(fX o).any (fun w=>match (l[w]?).bind (·.dst) with
     | some u=>Nat.beq u s'
     | none=>false) with
    | false=>rw [hb] at h; cases h
    | true=>
     rw [hb] at h;cases h;rw [List.any_eq_true] at hb;obtain ⟨w,hw,hb⟩:=hb;refine ⟨o,ho,hd,w,hw,?_⟩
     split at hb
     ·rename_i u hu
      rw [hu,JO hb]
     ·cases hb
   ·cases h
def rN (l:List Oper) (Φ:Fj) (H:Hp):List Nat→Env→(Nat→List bV)→(Env→(Nat→List bV)→Prop)→Prop
 | [],L,R,k=>k L R
 | j::js,L,R,k=>match (l[j]?).bind (·.dst) with
  | some t=>∀ v rs,Φ j H rs v→rN l Φ H js ((t,v)::L) (wx R j rs) k
  | none=>match AF l j with
   | none=>∀ rs,Φ j H rs undef→rN l Φ H js L (wx R j rs) k
   | some s=>∀ v rs,(∀ u,lk L s=some u→v=u)→Φ j H rs v→rN l Φ H js L (wx R j rs) k
def GD (L:Env) (v:Value):Option Nat→Option Nat→Prop
 | some _,_=>True
 | none,none=>v=undef
 | none,some s=>lk L s=some v
def w5 (x:Cx) (H:Hp) (M:List bV) (L:Env) (t ps:Option Nat) (φ:Hp→List bV→Value→Prop):kZ:=fun e a w=>
 e=.normal∧∃ v H' rs,Sl x.N (EE t v L) a∧GD L v t ps∧H.le H'∧St x.B x.w0 H' (rs++M) w∧φ H' rs v
theorem eL {x:Cx}{H H':Hp}{M:List bV}{L:Env}{t:Nat}{ps:Option Nat}{v:Value}{φ:Hp→List bV→Value→Prop} (rs:List bV) (hle:H.le H') (h:φ H' rs v):E x .normal (w5 x H M L (some t) ps φ) H' (rs++M) ((t,v)::L):=
 fun _ _ hs ht=>⟨rfl,v,H',rs,hs,Hh,hle,ht,h⟩
theorem A6 {x:Cx}{H H':Hp}{M:List bV}{L:Env}{φ:Hp→List bV→Value→Prop} (rs:List bV) (hle:H.le H') (h:φ H' rs undef):E x .normal (w5 x H M L none none φ) H' (rs++M) L:=
 fun _ _ hs ht=>⟨rfl,undef,H',rs,hs,rfl,hle,ht,h⟩
theorem wJ {x:Cx}{H H':Hp}{M:List bV}{L:Env}{s:Nat}{v:Value}{φ:Hp→List bV→Value→Prop} (hl:lk L s=some v) (rs:List bV) (hle:H.le H') (h:φ H' rs v):E x .normal (w5 x H M L none (some s) φ) H' (rs++M) L:=
 fun _ _ hs ht=>⟨rfl,v,H',rs,hs,hl,hle,ht,h⟩
def y0 (m:Nat) (I:List (List bV)):Nat→List bV:=fun k=>if k<m then [] else I.getD (k-m) []
def sY (x:Cx) (l:List Oper) (Φ:Fj) (C U:List (List Nat)) (Es:List Env) (R0:Nat→List bV) (H:Hp) (M:List bV) (L:Env):Nat→List Oper→Prop
 | _,[]=>True
 | i,o::r=>(∀ H',H.le H'→∀ X Rest,(∀ s ∈ M,s ∈ Rest)→rN l Φ H' (fX o) (Es.getD i []++(L++X)) R0 (fun L' R=>(∀ s ∈ pP (U.getD i []) R [],s ∈ Rest)→(∃ Rr,(pP (U.getD i []) R Rr).Perm Rest)→W x l.toArray (w5 x H' Rest L' o.dst (AF l i) (Φ i)) [o] H' (pP (C.getD i []) R Rest) L')) ∧
   sY x l Φ C U Es R0 H M L (i+1) r
theorem sY.at {x:Cx}{l:List Oper}{Φ:Fj}{C U:List (List Nat)}{Es:List Env}{R0:Nat→List bV}{H:Hp}{M:List bV}{L:Env}:∀ {r:List Oper}{i:Nat},sY x l Φ C U Es R0 H M L i r→∀ j o,r[j]? = some o →
  ∀ H',H.le H'→∀ X Rest,(∀ s ∈ M,s ∈ Rest)→rN l Φ H' (fX o) (Es.getD (i+j) []++(L++X)) R0 (fun L' R=>(∀ s ∈ pP (U.getD (i+j) []) R [],s ∈ Rest)→(∃ Rr,(pP (U.getD (i+j) []) R Rr).Perm Rest)→W x l.toArray (w5 x H' Rest L' o.dst (AF l (i+j)) (Φ (i+j))) [o] H' (pP (C.getD (i+j) []) R Rest) L')
 | [],_,_,j,o,h=>by simp at h
 | p::r,i,hh,0,o,h=>by simp at h; subst h; exact hh.1
 | p::r,i,hh,j+1,o,h=>by
  have:=sY.at hh.2 j o (by simpa using h)
  rwa [show i+1+j=i+(j+1) from by omega] at this
def pk (a:Act) (v:Value):Option Nat→Option Nat→Prop
 | some t,_=>a.tmps[t]? = some v
 | none,none=>v=undef
 | none,some s=>a.tmps[s]? = some v
theorem rN.use {l:List Oper}{Φ:Fj}{H:Hp}{a:Act}{N:Nat}{Rt:Nat→List bV}:∀ {js:List Nat}{L:Env}{R:Nat→List bV}{k:Env→(Nat→List bV)→Prop},rN l Φ H js L R k→Sl N L a →
  (∀ j ∈ js,∃ v,pk a v ((l[j]?).bind (·.dst)) (AF l j)∧Φ j H (Rt j) v) →
  ∃ Y R',k (Y++L) R'∧Sl N (Y++L) a∧(∀ t v,(t,v) ∈ Y→a.tmps[t]? = some v)∧(∀ q,q ∈ js→R' q=Rt q)∧∀ q,q ∉ js→R' q=R q
 | [],L,R,k,h,hs,_=>⟨[],R,h,hs,by simp,by simp,fun q _=>rfl⟩
 | j::js,L,R,k,h,hs,hv=>by
  obtain ⟨v,h1,h2⟩:=hv j (Hm ..);have fin:∀ {R':Nat→List bV},(∀ q,q ∈ js→R' q=Rt q)→(∀ q,q ∉ js→R' q=wx R j (Rt j) q)→(∀ q,q ∈ j::js→R' q=Rt q)∧∀ q,q ∉ j::js→R' q=R q:=by
   intro R' h6 h7;constructor
   ·intro q hq
    by_cases hqj:q ∈ js
    ·exact h6 q hqj
    ·rcases Ix.1 hq with rfl | hq
     ·rw [h7 _ hqj,uA]
     ·exact absurd hq hqj
   ·intro q hq
    rw [h7 q (fun h=>hq (HB _ h)),u4 _ _ _ _ (fun e=>hq (by rw [e]; exact Hm ..))]
  unfold rN at h;cases ht:(l[j]?).bind (·.dst) with
  | none=>
   rw [ht] at h h1;cases hk:AF l j with
   | none=>
    rw [hk] at h h1;simp only [pk] at h1;subst h1;obtain ⟨Y,R',h3,h4,h5,h6,h7⟩:=rN.use (h (Rt j) h2) hs (fun i hi=>hv i (HB _ hi));exact ⟨Y,R',h3,h4,h5,(fin h6 h7).1,(fin h6 h7).2⟩
   | some s=>
    rw [hk] at h h1;simp only [pk] at h1;obtain ⟨Y,R',h3,h4,h5,h6,h7⟩:=rN.use (h v (Rt j) (fun u hu=>by have:=hs.get s u hu; rw [h1] at this; exact Hc this) h2) hs (fun i hi=>hv i (HB _ hi))
    exact ⟨Y,R',h3,h4,h5,(fin h6 h7).1,(fin h6 h7).2⟩
  | some t=>
   rw [ht] at h h1;simp only [pk] at h1;obtain ⟨Y,R',h3,h4,h5,h6,h7⟩:=rN.use (h v (Rt j) h2) (hs.cons h1) (fun i hi=>hv i (HB _ hi));refine ⟨Y++[(t,v)],R',by simpa using h3,by simpa using h4,?_,(fin h6 h7).1,(fin h6 h7).2⟩
   intro u w hm;rcases Ih.1 hm with hm | hm
   ·exact h5 u w hm
   ·simp at hm; obtain ⟨rfl,rfl⟩:=hm; exact h1
def xi (l:List Oper) (m:Nat) (Es:List Env):Bool:=
 (List.range m).all fun i=>((Es.getD i []).map (·.1)).all fun t=>(List.range m).all fun w=>match (l[w]?).bind (·.dst) with
  | some u=>!Nat.beq u t || ((vR [] l).getD w 0).testBit i
  | none=>true
def ui (l:List Oper) (m:Nat) (L:Env):Bool:=
 (l.take m).all (fun o=>match o.dst with
  | some t=>(lk L t).isNone
  | none=>true)
def uj (l:List Oper) (m:Nat):Bool:=decide (((l.take m).filterMap (·.dst)).Nodup)
def BN (l:List Oper) (m K:Nat) (C U:List (List Nat)) (live:List Nat):Bool:=
 ((List.range m).all fun i=>(U.getD i []).all fun u=>(Nat.ble m u || match l[i]? with
  | some o=>(fX o).contains u
  | none=>false) && Nat.blt u K && (List.range m).all fun i'=>!(C.getD i' []).contains u || ((vR [] l).getD i' 0).testBit i) &&
 Nat.beq C.length m && (List.range m).all (fun i=>(C.getD i []).all fun c=>Nat.ble m c || match l[i]? with
  | some o=>(fX o).contains c
  | none=>false) &&
 (C.flatten++live).all (fun c=>Nat.blt c K) && ((List.range K).all fun k=>Nat.beq ((C.flatten++live).count k) 1) && (List.range m).all fun i=>decide ((U.getD i []).Nodup)
section
variable {x:Cx}{l:List Oper}{m K:Nat}{Φ:Fj}{C U:List (List Nat)}{live:List Nat}{I:List (List bV)}{Es:List Env}{H:Hp}{M:List bV}{L L0:Env}{Q:kZ}
structure uD (l:List Oper) (m K:Nat) (C U:List (List Nat)) (live:List Nat):Prop where
 len:C.length=m
 wait:∀ i o,i<m→l[i]? = some o→∀ c ∈ C.getD i [],m≤c∨c ∈ fX o
 lt:∀ c ∈ C.flatten++live,c<K
 nd:(C.flatten++live).Nodup
 all:∀ k,k<K→k ∈ C.flatten++live
 Ga:∀ i o,i<m→l[i]? = some o→∀ u ∈ U.getD i [],(m≤u∨u ∈ fX o)∧u<K
 F_:∀ i,i<m→∀ u ∈ U.getD i [],∀ i',i'<m→u ∈ C.getD i' []→((vR [] l).getD i' 0).testBit i=true
 GL:∀ i,i<m→(U.getD i []).Nodup
theorem EM (h:BN l m K C U live=true):uD l m K C U live:=by
 unfold BN at h;simp only [Jp] at h;obtain ⟨⟨⟨⟨⟨h0,h1⟩,h2⟩,h3⟩,h4⟩,h5⟩:=h;rw [IT] at h0 h2 h3 h4 h5;have hU:∀ i,i<m→∀ u ∈ U.getD i [],((Nat.ble m u || match l[i]? with
  | some o=>(fX o).contains u
  | none=>false)=true∧u<K)∧∀ i',i'<m→u ∈ C.getD i' []→((vR [] l).getD i' 0).testBit i=true:=by
  intro i hi u hu;have:=h0 i (IA.2 hi);rw [IT] at this;have:=this u hu;rw [Jp,Jp,IT] at this;refine ⟨⟨this.1.1,by simpa [IM] using this.1.2⟩,fun i' hi' hc=>?_⟩
  have h5:=this.2 i' (IA.2 hi');rw [Jl] at h5;rcases h5 with h5 | h5
  ·have h6:(C.getD i' []).contains u=true:=by rw [Ln]; exact hc
   rw [h6] at h5; cases h5
  ·exact h5
 have hc:∀ k,k<K→(C.flatten++live).count k=1:=fun k hk=>JO (h4 k (IA.2 hk));have hlt:∀ c ∈ C.flatten++live,c<K:=fun c hc=>by simpa [IM] using h3 c hc
 refine ⟨JO h1,?_,hlt,?_,?_,?_,fun i hi u hu=>(hU i hi u hu).2,fun i hi=>Ht (h5 i (IA.2 hi))⟩
 ·intro i o hi ho c hc
  have:=h2 i (IA.2 hi);rw [IT] at this;have:=this c hc;rw [ho] at this;simpa [Jl,Kx,Ln] using this
 ·rw [List.nodup_iff_count]
  intro a
  by_cases ha:a<K
  ·rw [hc a ha]; exact HQ _
  ·rw [List.count_eq_zero.2 (fun hm=>ha (hlt a hm))]; omega
 ·intro k hk
  rw [← List.count_pos_iff,hc k hk]; omega
 ·intro i o hi ho u hu
  have:=(hU i hi u hu).1;rw [ho] at this;refine ⟨?_,this.2⟩;have h5:=this.1;rw [Jl] at h5;rcases h5 with h5 | h5
  ·exact .inl (by simpa [Kx] using h5)
  ·exact .inr (by simpa [Ln] using h5)
theorem uD.uniq (h:uD l m K C U live) {i i' k:Nat} (hi:k ∈ C.getD i []) (hi':k ∈ C.getD i' []):i=i':=by
 have hnd:=(I1.1 h.nd).1;unfold List.Nodup at hnd;rw [List.pairwise_flatten] at hnd;have hpw:=KX.1 hnd.2;have g1:i<C.length:=by
  by_cases e:i<C.length
  ·exact e
  ·rw [H9,IC (by omega)] at hi; simp at hi
 have g2:i'<C.length:=by
  by_cases e:i'<C.length
  ·exact e
  ·rw [H9,IC (by omega)] at hi'; simp at hi'
 rw [H9,Hi g1] at hi;rw [H9,Hi g2] at hi';simp only [JK] at hi hi';rcases KV i i' with q | q | q
 ·exact absurd rfl (hpw i i' g1 g2 q _ hi _ hi')
 ·exact q
 ·exact absurd rfl (hpw i' i g2 g1 q _ hi' _ hi)
theorem uD.mem (h:uD l m K C U live) {i k:Nat} (hi:k ∈ C.getD i []):k ∈ C.flatten:=by
 have g1:i<C.length:=by
  by_cases e:i<C.length
  ·exact e
  ·rw [H9,IC (by omega)] at hi; simp at hi
 rw [H9,Hi g1] at hi;exact List.mem_flatten.2 ⟨_,IG g1,hi⟩
theorem uD.GU (h:uD l m K C U live) (i:Nat):(C.getD i []).Nodup:=by
 have hnd:=(I1.1 h.nd).1;unfold List.Nodup at hnd;rw [List.pairwise_flatten] at hnd
 by_cases e:i<C.length
 ·rw [H9,Hi e]; exact hnd.1 _ (IG e)
 ·rw [H9,IC (by omega)]; simp
def alive (m:Nat) (C:List (List Nat)) (listed:Array Bool) (k:Nat):Bool:=(Nat.ble m k || listed.getD k false) && !(List.range m).any fun i=>listed.getD i false && (C.getD i []).contains k
theorem n_ {listed:Array Bool}{k:Nat}:alive m C listed k=true↔(m≤k∨listed.getD k false=true)∧∀ i,i<m→listed.getD i false=true→k ∉ C.getD i []:=by
 unfold alive;simp only [Jp,Jl,Kx,Li,List.any_eq_false,IA,Ln];constructor
 ·rintro ⟨h1,h2⟩; exact ⟨h1,fun i hi hl hm=>h2 i hi ⟨hl,hm⟩⟩
 ·rintro ⟨h1,h2⟩; exact ⟨h1,fun i hi ⟨hl,hm⟩=>h2 i hi hl hm⟩
theorem yU (hB:q7 l m=true):∀ (f i:Nat) (listed:Array Bool) (a:Act) (w:World),m≤i→listed.size=l.length→i≤l.length→l.length≤i+f →
  (∀ j,j<l.length→listed.getD j true=decide (j<i))→wpList x.P l.toArray Q (l.drop i) a w→wpAny x.P .any l.toArray Q f listed a w
 | 0,i,listed,a,w,hm,hsz,hf0,hf,hl,h=>by
  have hi:i=l.length:=by omega
  refine ⟨?_,by rw [hi,KE] at h; exact h⟩
  rw [List.eq_nil_iff_forall_not_mem];intro j hj;obtain ⟨h1,h2,_⟩:=mem_ready.1 hj;rw [hl j (by simpa using h1)] at h2
  simp at h1 h2; omega
 | f+1,i,listed,a,w,hm,hsz,hf0,hf,hl,h=>by
  by_cases e2:i=l.length
  ·have hempty:Region.ready .any l.toArray listed=[]:=by
    rw [List.eq_nil_iff_forall_not_mem];intro j hj;obtain ⟨q1,q2,_⟩:=mem_ready.1 hj;rw [hl j (by simpa using q1)] at q2
    simp at q1 q2; omega
   exact ⟨fun _=>by rw [e2,KE] at h; exact h,fun j hj=>by rw [hempty] at hj; cases hj⟩
  ·have hi:i<l.length:=by omega
   have ho:l[i]? = some l[i]:=Hi hi;have hget:∀ j,j<l.length→listed.getD j false=decide (j<i):=fun j hj=>by
    have:=hl j hj;simp only [It] at this ⊢;rw [Ks (by omega)] at this ⊢
    simpa using this
   have hmem:i ∈ Region.ready .any l.toArray listed:=by
    refine mem_ready.2 ⟨by simpa using hi,by rw [hl i hi]; simp,l[i],by simp,fun j hj=>?_⟩
    have hj':=nc hB ho j hj;rw [hget j (by omega)]; simpa using hj'
   have huniq:∀ j ∈ Region.ready .any l.toArray listed,j=i:=by
    intro j hj;obtain ⟨q1,q2,o,ho',hw⟩:=mem_ready.1 hj;have q1':j<l.length:=by simpa using q1
    rw [hl j q1'] at q2;have hji:i≤j:=by simpa using q2
    by_cases e:j=i
    ·exact e
    ·exfalso
     have:=wa hB (listed:=fun q=>q<i) (fun k o hk hki q hq=>by have:=nc hB hk q hq; omega) (i:=j) (o:=o) (by simpa using ho') (by omega)
      (fun q hq=>by
       have h1:=hw q hq;have h2:=nc hB (i:=j) (o:=o) (by simpa using ho') q hq
       rw [hget q (by omega)] at h1
       simpa using h1) i (by omega)
     omega
   refine ⟨fun he=>(by rw [he] at hmem; cases hmem),fun j hj=>?_⟩
   obtain rfl:=huniq j hj;unfold wpOp;rw [show l.toArray[j]? = some l[j] from by simp]
   rw [Iu hi] at h;have step:∀ a w,wpList x.P l.toArray Q (l.drop (j+1)) a w→wpAny x.P .any l.toArray Q f (listed.setIfInBounds j true) a w:=fun a w hh=>
    yU hB f (j+1) _ a w (by omega) (by simpa using hsz) (by omega) (by omega) (fun k hk=>by
     rw [qi _ _ _ _ (by omega),hl k hk]
     by_cases e:k=j
     ·subst e; simp
     ·simp [e]; omega) hh
   unfold wpList at h
   dsimp only
   split
   ·rename_i hw; rw [Hv hw] at h; exact h.imp (Oper.wp_mono step) id
   ·rename_i hw; rw [Hs hw] at h; exact step _ _ h
theorem tW {A B:List Nat} (ha:A.Nodup) (hb:B.Nodup) (h:∀ a,a ∈ A↔a ∈ B) (R:Nat→List bV) (M:List bV):(A.flatMap R++M).Perm (B.flatMap R++M):=
 (((List.perm_ext_iff_of_nodup ha hb).2 h).flatMap_right R).append_right M
theorem pT {A:List Nat}{R R':Nat→List bV} (h:∀ a ∈ A,R a=R' a):A.flatMap R=A.flatMap R':=by
 induction A with
 | nil=>rfl
 | cons a A ih=>rw [L1,L1,h a (Hm ..),ih fun b hb=>h b (HB _ hb)]
theorem EC (hB:q7 l m=true) (hml:m≤l.length) (hD:ui l m L0=true) (hX0:xi l m Es=true) (hL0:∀ t v,lk L0 t=some v→lk L t=some v) (hE:∀ i t v,lk (Es.getD i []) t=some v→lk L t=some v) (hNd:uj l m=true) (hT:uD l m K C U live) (hmK:m≤K)
  (hmono:∀ i H1 H2 rs v,H1.le H2→Φ i H1 rs v→Φ i H2 rs v)
  (hop:sY x l Φ C U Es (y0 m I) H M L0 0 (l.take m))
  (k:∀ H',H.le H'→rN l Φ H' (List.range m) L0 (y0 m I) (fun L' R=>W x l.toArray Q (l.drop m) H' (pP live R M) L')):
  ∀ (fuel:Nat) (listed:Array Bool) (a:Act) (w:World) (H':Hp) (R:Nat→List bV),listed.size=l.length→left l listed≤fuel→(∀ j,m≤j→j<l.length→listed.getD j true=false) →
   (∀ i o,l[i]? = some o→listed.getD i false=true→∀ j ∈ fX o,listed.getD j false=true) →
   H.le H'→St x.B x.w0 H' (((List.range K).filter (alive m C listed)).flatMap R++M) w→Sl x.N [] a→(∀ t v,lk L t=some v→(∀ w o,w<m→l[w]? = some o→o.dst=some t→listed.getD w false=false)→a.tmps[t]? = some v)→(∀ q,m≤q→R q=y0 m I q) →
   (∀ i o,i<m→l[i]? = some o→listed.getD i true=true→∃ v,pk a v o.dst (AF l i)∧Φ i H' (R i) v) →
   wpAny x.P .any l.toArray Q fuel listed a w:=by
 have hdst:∀ i o t,i<m→l[i]? = some o→o.dst=some t→lk L0 t=none:=by
  intro i o t him ho hd;have htake:(l.take m)[i]? = some o:=by rw [ID,Hv him]; exact ho
  unfold ui at hD;rw [IT] at hD;have:=hD o (HE htake);rw [hd] at this; simpa using this
 have fin:∀ (fuel:Nat) (listed:Array Bool) (a:Act) (w:World) (H':Hp) (R:Nat→List bV),listed.size=l.length→left l listed≤fuel→(∀ j,m≤j→j<l.length→listed.getD j true=false) →
   H.le H'→St x.B x.w0 H' (((List.range K).filter (alive m C listed)).flatMap R++M) w→Sl x.N [] a→(∀ t v,lk L t=some v→(∀ w o,w<m→l[w]? = some o→o.dst=some t→listed.getD w false=false)→a.tmps[t]? = some v)→(∀ q,m≤q→R q=y0 m I q) →
   (∀ i o,i<m→l[i]? = some o→listed.getD i true=true→∃ v,pk a v o.dst (AF l i)∧Φ i H' (R i) v) →
   (∀ j,j<m→listed.getD j true=true)→wpAny x.P .any l.toArray Q fuel listed a w:=by
  intro fuel listed a w H' R hsz hf htl hle ht hs0 hsl si hv hall;have hs:Sl x.N L0 a:=⟨hs0.size,hs0.yh,fun t v h=>hsl t v (hL0 t v h) (fun w o hw ho hd=>by rw [hdst w o t hw ho hd] at h; cases h)⟩
  have hget:∀ j,j<l.length→listed.getD j false=listed.getD j true:=fun j hj=>by
   simp only [It];rw [Ks (by omega)]; rfl
  obtain ⟨Y,R',h1,h2,_,h3,h4⟩:=rN.use (Rt:=R) (k H' hle) hs (fun j hj=>by
   have hj':=IA.1 hj;have ho:l[j]? = some l[j]:=Hi (by omega)
   rw [ho];exact hv j _ hj' ho (hall j hj'))
  have hR:∀ q,R' q=R q:=fun q=>by
   by_cases hq:q<m
   ·exact h3 q (IA.2 hq)
   ·rw [h4 q (fun h=>hq (IA.1 h)),si q (by omega)]
  have hwl:wpList x.P l.toArray Q (l.drop m) a w:=by
   refine h1 a w h2 (ht.perm ?_);rw [ub,pT (R:=R') (R':=R) (fun q _=>hR q)];refine tW (List.nodup_range.filter _) (I1.1 hT.nd).2.1 ?_ R M;intro q;rw [I6,IA,n_];constructor
   ·rintro ⟨h5,h6,h7⟩
    rcases Ih.1 (hT.all q h5) with h8 | h8
    ·exfalso
     obtain ⟨c,hc,hqc⟩:=List.mem_flatten.1 h8;obtain ⟨i,hi,rfl⟩:=IW.1 hc;have him:i<m:=by rw [← hT.len]; exact hi
     refine h7 i him (by rw [hget i (by omega)]; exact hall i him) ?_
     rw [H9,Hi hi]; exact hqc
    ·exact h8
   ·intro hq
    refine ⟨hT.lt q (IP _ hq),?_,?_⟩
    ·by_cases e:m≤q
     ·exact .inl e
     ·exact .inr (by rw [hget q (by omega)]; exact hall q (by omega))
    ·intro i him _ hc
     exact (I1.1 hT.nd).2.2 q (hT.mem hc) q hq rfl
  have hl:∀ j,j<l.length→listed.getD j true=decide (j<m):=by
   intro j hj
   by_cases e:j<m
   ·rw [hall j e]; simp [e]
   ·rw [htl j (by omega) hj]; simp [e]
  have hcount:l.length≤m+fuel:=by
   have:l.length-m≤left l listed:=by
    unfold left;have h1:(List.range l.length).countP (fun i=>!listed.getD i true)=(List.range l.length).countP (fun i=>decide (m≤i)):=by
     refine List.countP_congr fun j hj=>?_;rw [hl j (IA.1 hj)];simp
    rw [h1];have h2:∀ n,(List.range n).countP (fun i=>decide (m≤i))=n-m:=by
     intro n
     induction n with
     | zero=>simp
     | succ n ihn=>
      rw [K9,List.countP_append,ihn];simp only [List.countP_cons,List.countP_nil]
      by_cases e:m≤n
      ·simp [e]; omega
      ·simp [e]; omega
    rw [h2]; exact HQ _
   omega
  exact yU hB fuel m listed a w (HQ _) hsz hml hcount hl hwl
 intro fuel
 induction fuel with
 | zero=>
  intro listed a w H' R hsz hf htl hdc hle ht hs0 hsl si hv;refine fin 0 listed a w H' R hsz hf htl hle ht hs0 hsl si hv (fun j hj=>?_);have:left l listed=0:=by omega
  unfold left at this;rw [List.countP_eq_zero] at this;have:=this j (IA.2 (by omega))
  simpa using this
 | succ fuel ih=>
  intro listed a w H' R hsz hf htl hdc hle ht hs0 hsl si hv
  by_cases hall:∀ j,j<m→listed.getD j true=true
  ·exact fin (fuel+1) listed a w H' R hsz hf htl hle ht hs0 hsl si hv hall
  ·have hs:Sl x.N L0 a:=⟨hs0.size,hs0.yh,fun t v h=>hsl t v (hL0 t v h) (fun w o hw ho hd=>by rw [hdst w o t hw ho hd] at h; cases h)⟩
   have hget:∀ j,j<l.length→listed.getD j false=listed.getD j true:=fun j hj=>by
    simp only [It];rw [Ks (by omega)]; rfl
   have hex:∃ j,j<m∧listed.getD j true=false:=by
    refine Classical.byContradiction fun hno=>hall fun j hj=>?_;cases hb:listed.getD j true with
    | true=>rfl
    | false=>exact absurd ⟨j,hj,hb⟩ hno
   obtain ⟨j0,⟨hj0,hf0⟩,hleast⟩:=least (p:=fun j=>j<m∧listed.getD j true=false) hex.choose hex.choose_spec;have hne:Region.ready .any l.toArray listed≠[]:=by
    intro he;have hlt:j0<l.length:=by omega
    have ho:l[j0]? = some l[j0]:=Hi hlt;have:j0 ∈ Region.ready .any l.toArray listed:=by
     refine mem_ready.2 ⟨by simpa using hlt,hf0,l[j0],by simp,fun j hj=>?_⟩
     have hj':=nc hB ho j hj;rw [hget j (by omega)]
     cases hb:listed.getD j true with
     | true=>rfl
     | false=>have:=hleast j ⟨by omega,hb⟩; omega
    rw [he] at this; cases this
   refine ⟨fun he=>absurd he hne,fun i hi=>?_⟩;obtain ⟨h1,h2,o,ho',hw⟩:=mem_ready.1 hi;have h1':i<l.length:=by simpa using h1
   have ho:l[i]? = some o:=by simpa using ho'
   have him:i<m:=by
    by_cases e:i<m
    ·exact e
    ·exfalso
     have:=wa hB (listed:=fun q=>listed.getD q false=true) (fun k o hk hki q hq=>hdc k o hk hki q hq) ho (by omega) hw j0 (by omega)
     rw [hget j0 (by omega),hf0] at this; cases this
   have htake:(l.take m)[i]? = some o:=by rw [ID,Hv him]; exact ho
   have hnl:listed.getD i false=false:=by rw [hget i h1']; exact h2
   have hCal:∀ c ∈ C.getD i [],c ∈ (List.range K).filter (alive m C listed):=by
    intro c hc;rw [I6,IA,n_];refine ⟨hT.lt c (Hk _ (hT.mem hc)),?_,?_⟩
    ·rcases hT.wait i o him ho c hc with h | h
     ·exact .inl h
     ·exact .inr (hw c h)
    ·intro i' hi' hl' hc'
     have:=hT.uniq hc hc';subst this;rw [hnl] at hl'; cases hl'
   let A:=(List.range K).filter (alive m C listed)
   let Bs:=A.filter (fun c=>!(C.getD i []).contains c)
   have hAnd:A.Nodup:=List.nodup_range.filter _;have hBnd:Bs.Nodup:=hAnd.filter _;have hperm:(A.flatMap R++M).Perm ((C.getD i []++Bs).flatMap R++M):=by
    refine tW hAnd ?_ ?_ R M
    ·refine I1.2 ⟨hT.GU i,hBnd,?_⟩
     rintro a ha b hb rfl;have:=(I6.1 hb).2;simp at this;exact this (by simpa [H9] using ha)
    ·intro q
     rw [Ih];constructor
     ·intro hq
      by_cases hqc:q ∈ C.getD i []
      ·exact .inl hqc
      ·exact .inr (I6.2 ⟨hq,by simpa using hqc⟩)
     ·rintro (hq | hq)
      ·exact hCal q hq
      ·exact (I6.1 hq).1
   have ht1:=ht.perm hperm;rw [Mp,Ia] at ht1
   let Rest:=Bs.flatMap R++M
   let X1:Env:=(List.range m).filterMap fun j=>if listed.getD j true then (l[j]?).bind fun o=>o.dst.map fun u=>(u,a.tmps.getD u undef) else none
   let X2:Env:=(L.map (·.1)).filterMap fun t=>if (List.range m).all (fun w=>match (l[w]?).bind (·.dst) with
    | some u=>!Nat.beq u t || !listed.getD w false
    | none=>true) then (lk L t).map fun v=>(t,v) else none
   let X:Env:=X1++X2
   have hX2:∀ u v,(u,v) ∈ X2→a.tmps[u]? = some v:=by
    intro u v hm;obtain ⟨t,ht',hh⟩:=JT.1 hm
    split at hh
    ·rename_i hall2
     rw [Lf] at hh;obtain ⟨v',hv',hh⟩:=hh;cases hh;refine hsl _ _ hv' (fun w' o' hw' ho' hd'=>?_);rw [IT] at hall2;have h9:=hall2 w' (IA.2 hw');rw [ho'] at h9;simp only [Kp,hd'] at h9;have h10:Nat.beq u u=true:=Nat.beq_refl u;rw [h10] at h9;simpa using h9
    ·cases hh
   have hX1:∀ u v,(u,v) ∈ X1→a.tmps[u]? = some v:=by
    intro u v hm;obtain ⟨j,hj,hh⟩:=JT.1 hm
    split at hh
    ·rename_i hlj
     rw [LY] at hh;obtain ⟨oj,hoj,hh⟩:=hh;rw [Lf] at hh;obtain ⟨u',hu',hh⟩:=hh;cases hh;obtain ⟨v',hv',_⟩:=hv j oj (IA.1 hj) hoj hlj;rw [hu'] at hv';simp only [pk] at hv';simp [It,hv']
    ·cases hh
   have hX:∀ u v,(u,v) ∈ X→a.tmps[u]? = some v:=fun u v hm=>(Ih.1 hm).elim (hX1 u v) (hX2 u v);have hdep:=(sY.at hop i o htake) H' hle X Rest (fun s hs=>IP _ hs);simp only [Ii] at hdep;have hwl:∀ j ∈ fX o,j<m∧listed.getD j true=true:=fun j hj=>by
    have h3:=nc hB ho j hj;refine ⟨by omega,?_⟩
    rw [← hget j (by omega)]; exact hw j hj
   have hEi:∀ t v,lk (Es.getD i []) t=some v→a.tmps[t]? = some v:=by
    intro t v h;refine hsl t v (hE i t v h) (fun w' o' hw' ho' hd'=>?_);cases hlw:listed.getD w' false with
    | false=>rfl
    | true=>
     exfalso;unfold xi at hX0;rw [IT] at hX0;have h1:=hX0 i (IA.2 him);rw [IT] at h1;have h2:=h1 t (IQ.2 ⟨_,zM h,rfl⟩);rw [IT] at h2;have h3:=h2 w' (IA.2 hw');rw [ho'] at h3;simp only [Kp,hd'] at h3;have h10:Nat.beq t t=true:=Nat.beq_refl t;rw [h10] at h3;simp only [Bool.not_true,Bool.false_or] at h3;have:=sx (listed:=fun q=>listed.getD q false=true) (fun k o hk hki q hq=>hdc k o hk hki q hq) l [] (fun k q hk=>by simpa using hk) (fun k hk=>by simp at hk) w' (by simp; omega) o' ho' (fun q hq=>hdc w' o' ho' hlw q hq) i h3
     rw [hnl] at this; cases this
   have hsE:Sl x.N (Es.getD i []++(L0++X)) a:=by
    refine ⟨hs.size,hs.yh,fun t v h=>?_⟩;rw [um] at h;cases hl:lk (Es.getD i []) t with
    | some u=>rw [hl] at h; simp at h; subst h; exact hEi t _ hl
    | none=>rw [hl] at h; simp at h; exact (hs.more hX).get t v h
   obtain ⟨Y,R',hk,hsY,hY,hR1,hR2⟩:=rN.use (Rt:=R) hdep hsE (fun j hj=>by
    have hj':=hwl j hj;have hoj:l[j]? = some l[j]:=Hi (by omega)
    rw [hoj];exact hv j _ hj'.1 hoj hj'.2)
   have hRC:∀ c ∈ C.getD i [],R' c=R c:=by
    intro c hc;rcases hT.wait i o him ho c hc with h | h
    ·rw [hR2 c (fun hcm=>by have:=hwl c hcm; omega),si c h]
    ·exact hR1 c h
   have hRU:∀ u ∈ U.getD i [],R' u=R u:=by
    intro u hu;have h5:=hT.Ga i o him ho u hu;rcases h5.1 with h | h
    ·rw [hR2 u (fun hcm=>by have:=hwl u hcm; omega),si u h]
    ·exact hR1 u h
   have hUB:∀ u ∈ U.getD i [],u ∈ Bs:=by
    intro u hu;have h5:=hT.Ga i o him ho u hu;refine I6.2 ⟨I6.2 ⟨IA.2 h5.2,n_.2 ⟨?_,?_⟩⟩,?_⟩
    ·rcases h5.1 with h | h
     ·exact .inl h
     ·exact .inr (hw u h)
    ·intro i' hi' hl' hc'
     have h6:=hT.F_ i him u hu i' hi' hc';have hoi:l[i']? = some l[i']:=Hi (by omega)
     have:=sx (listed:=fun q=>listed.getD q false=true) (fun k o hk hki q hq=>hdc k o hk hki q hq) l [] (fun k q hk=>by simpa using hk) (fun k hk=>by simp at hk) i' (by simp; omega) _ hoi (fun q hq=>hdc i' _ hoi hl' q hq) i h6
     rw [hnl] at this; cases this
    ·have h7:u ∉ C.getD i []:=by
      intro hc;have h6:=hT.F_ i him u hu i him hc;have hoi:l[i]? = some o:=ho;have:=sx (listed:=fun q=>q<i) (fun k o hk hki q hq=>by have:=nc hB hk q hq; omega) l [] (fun k q hk=>by simpa using hk) (fun k hk=>by simp at hk) i (by simpa using h1') o hoi (fun q hq=>nc hB ho q hq) i h6
      omega
     simpa using h7
   have hUR:∀ s ∈ pP (U.getD i []) R' [],s ∈ Rest:=by
    rw [ub,Ij];intro s hs;obtain ⟨u,hu,hsu⟩:=List.mem_flatMap.1 hs;rw [hRU u hu] at hsu;exact Hk _ (List.mem_flatMap.2 ⟨u,hUB u hu,hsu⟩)
   have hUP:∃ Rr,(pP (U.getD i []) R' Rr).Perm Rest:=by
    refine ⟨(Bs.filter fun c=>!(U.getD i []).contains c).flatMap R++M,?_⟩;rw [ub,pT (R:=R') (R':=R) hRU,← Ia,← Mp];refine tW ?_ hBnd ?_ R M
    ·refine I1.2 ⟨hT.GL i him,hBnd.filter _,?_⟩
     rintro a ha b hb rfl;have:=(I6.1 hb).2;simp at this;exact this (by simpa [H9] using ha)
    ·intro q
     rw [Ih];constructor
     ·rintro (hq | hq)
      ·exact hUB q hq
      ·exact (I6.1 hq).1
     ·intro hq
      by_cases hqu:q ∈ U.getD i []
      ·exact .inl hqu
      ·exact .inr (I6.2 ⟨hq,by simpa using hqu⟩)
   have hone:=hk hUR hUP a w hsY (by
    rw [ub,pT (R:=R') (R':=R) hRC];exact ht1)
   have fin2:∀ a' w',w5 x H' Rest (Y++(Es.getD i []++(L0++X))) o.dst (AF l i) (Φ i) .normal a' w'→wpAny x.P .any l.toArray Q fuel (listed.setIfInBounds i true) a' w':=by
    rintro a' w' ⟨_,v,H2,rs,hs2,hnv,hle2,ht2,hφ⟩;have hcv:pk a' v o.dst (AF l i):=by
     cases hd:o.dst with
     | none=>
      cases hk:AF l i with
      | none=>rw [hd,hk] at hnv; exact hnv
      | some s=>rw [hd,hk] at hnv; rw [hd] at hs2; exact hs2.get s v hnv
     | some t=>rw [hd] at hs2; exact hs2.get t v (by simp only [EE]; rw [pn]; simp)
    have hput:∀ u,o.dst≠some u→lk (EE o.dst v (Y++(Es.getD i []++(L0++X)))) u=lk (Y++(Es.getD i []++(L0++X))) u:=by
     intro u hne;cases hd:o.dst with
     | none=>rfl
     | some t=>
      simp only [EE];rw [pn,Hs (fun e=>hne (by rw [hd,e]))]
    have hYt:∀ u z,(u,z) ∈ Y++X→o.dst≠some u→a'.tmps[u]? = some z:=by
     intro u z hm hne;have hz:a.tmps[u]? = some z:=by
      rcases Ih.1 hm with hm | hm
      ·exact hY u z hm
      ·exact hX u z hm
     have hlk:∃ z',lk (Y++(Es.getD i []++(L0++X))) u=some z':=by
      have hsome:∀ {E:Env}{u:Nat}{z:Value},(u,z) ∈ E→∃ z',lk E u=some z':=by
       intro E u z
       induction E with
       | nil=>simp
       | cons p E ihE=>
        obtain ⟨q,r⟩:=p;intro hm;rw [pn]
        split
        ·exact ⟨_,rfl⟩
        ·rename_i hne
         rcases Ix.1 hm with e | hm
         ·cases e; exact absurd rfl hne
         ·exact ihE hm
      rcases Ih.1 hm with hm | hm
      ·exact hsome (Hk _ hm)
      ·exact hsome (IP _ (IP _ (IP _ hm)))
     obtain ⟨z',hz'⟩:=hlk;have e1:=hsY.get u z' hz';rw [hz] at e1;cases e1;exact hs2.get u z (by rw [hput u hne]; exact hz')
    have hset:∀ j,(listed.setIfInBounds i true).getD j false=if j=i then true else listed.getD j false:=fun j=>qi _ _ _ _ (by omega)
    refine ih (listed.setIfInBounds i true) a' w' H2 (wx R i rs) (by simpa using hsz) (by have:=CZ (l:=l) hsz h1' h2; omega) (fun j hj hjl=>by rw [qi _ _ _ _ (by omega),Hs (by omega)]; exact htl j hj hjl) ?_ (Hf hle hle2) ?_ ?_ ?_ ?_ ?_
    ·intro j oj hoj hlj q hq
     rw [hset] at hlj ⊢
     split at hlj
     ·rename_i e; subst e
      rw [ho] at hoj; cases hoj
      split
      ·rfl
      ·exact hw q hq
     ·split
      ·rfl
      ·exact hdc j oj hoj hlj q hq
    ·
     have hiB:i ∉ Bs:=by
      intro hmB;have:=(I6.1 hmB).1;rw [I6,n_] at this;rcases this.2.1 with h | h
      ·omega
      ·rw [hnl] at h; cases h
     have e1:rs++Rest=((i::Bs).flatMap (wx R i rs))++M:=by
      rw [L1,uA,pT (A:=Bs) (R:=wx R i rs) (R':=R) (fun q hq=>u4 _ _ _ _ (fun e=>hiB (by rw [← e]; exact hq))),Ia]
     rw [e1] at ht2;refine ht2.perm (tW (Kw.2 ⟨hiB,hBnd⟩) (List.nodup_range.filter _) ?_ _ M);intro q;rw [Ix,I6,I6,I6,IA,n_,n_];constructor
     ·rintro (rfl | ⟨⟨hqK,hq1,hq2⟩,hq3⟩)
      ·refine ⟨by omega,.inr (by rw [hset,Hv rfl]),?_⟩
       intro i' hi' hl' hc';rw [hset] at hl'
       split at hl'
       ·rename_i e; subst e
        rcases hT.wait i' o hi' ho _ hc' with h | h
        ·omega
        ·have:=nc hB ho _ h; omega
       ·have hoi:l[i']? = some l[i']:=Hi (by omega)
        rcases hT.wait i' _ hi' hoi _ hc' with h | h
        ·omega
        ·have:=hdc i' _ hoi hl' _ h
         rw [hnl] at this; cases this
      ·refine ⟨hqK,?_,?_⟩
       ·rcases hq1 with h | h
        ·exact .inl h
        ·exact .inr (by rw [hset]; split <;> simp [h])
       ·intro i' hi' hl' hc'
        rw [hset] at hl'
        split at hl'
        ·rename_i e; subst e
         simp at hq3;exact hq3 (by simpa [H9] using hc')
        ·exact hq2 i' hi' hl' hc'
     ·rintro ⟨hqK,hq1,hq2⟩
      by_cases hqi:q=i
      ·exact .inl hqi
      ·refine .inr ⟨⟨hqK,?_,?_⟩,?_⟩
       ·rcases hq1 with h | h
        ·exact .inl h
        ·rw [hset,Hs hqi] at h; exact .inr h
       ·intro i' hi' hl' hc'
        exact hq2 i' hi' (by rw [hset]; split <;> simp [hl']) hc'
       ·have:=hq2 i him (by rw [hset,Hv rfl])
        simpa using this
    ·exact ⟨hs2.size,hs2.yh,fun u z hu=>by simp [lk] at hu⟩
    ·intro u z hu hun
     have hne:o.dst≠some u:=fun e=>by
      have:=hun i o him ho e;rw [hset,Hv rfl] at this; cases this
     refine hYt u z (IP _ (IP _ (JT.2 ⟨u,IQ.2 ⟨_,zM hu,rfl⟩,?_⟩))) hne;rw [Hv,hu]
     ·rfl
     ·rw [IT]
      intro w' hw';have hw'':=IA.1 hw';have hoi:l[w']? = some l[w']:=Hi (by omega)
      rw [hoi];simp only [Kp];cases hd':l[w'].dst with
      | none=>rfl
      | some q=>
       by_cases e:q=u
       ·subst e
        have h9:=hun w' _ hw'' hoi hd';rw [hset] at h9
        split at h9
        ·cases h9
        ·simp [h9]
       ·have:Nat.beq q u=false:=by
         cases hb:Nat.beq q u with
         | false=>rfl
         | true=>exact absurd (JO hb) e
        simp [this]
    ·intro q hq
     rw [u4 _ _ _ _ (by omega)]; exact si q hq
    ·intro j oj hjm hoj hlj
     rw [qi _ _ _ _ (by omega)] at hlj
     by_cases e:j=i
     ·subst e
      rw [ho] at hoj; cases hoj
      rw [uA];exact ⟨v,hcv,hφ⟩
     ·rw [Hs e] at hlj
      rw [u4 _ _ _ _ e];obtain ⟨z,hz,hφj⟩:=hv j oj hjm hoj hlj;refine ⟨z,?_,hmono _ _ _ _ _ hle2 hφj⟩;have hNd2:∀ (j:Nat) (oj:Oper) (u:Nat),j<m→l[j]? = some oj→j≠i→oj.dst=some u→o.dst≠some u:=by
       intro j oj u hjm hoj e hdj e2;unfold uj at hNd;have hnd:=Ht hNd;have hnd2:(l.take m).Pairwise (fun o1 o2=>∀ u,o1.dst=some u→∀ u',o2.dst=some u'→u≠u'):=by
        unfold List.Nodup at hnd;rw [List.pairwise_filterMap] at hnd;exact hnd.imp fun h u hu u' hu'=>h u hu u' hu'
       have htj:(l.take m)[j]? = some oj:=by rw [ID,Hv hjm]; exact hoj
       obtain ⟨hi',p1⟩:=He.1 htake;obtain ⟨hj',p2⟩:=He.1 htj;have hpw:=KX.1 hnd2;rcases Nat.lt_or_gt_of_ne e with q | q
       ·exact hpw j i hj' hi' q u (by rw [p2]; exact hdj) u (by rw [p1]; exact e2) rfl
       ·exact hpw i j hi' hj' q u (by rw [p1]; exact e2) u (by rw [p2]; exact hdj) rfl
      have hkeep:∀ (j:Nat) (oj:Oper) (u:Nat),j<m→l[j]? = some oj→listed.getD j true=true→j≠i→oj.dst=some u→a.tmps[u]? = some z→a'.tmps[u]? = some z:=by
       intro j oj u hjm hoj hlj e hdj hz;refine hYt u z (IP _ (Hk _ (JT.2 ⟨j,IA.2 hjm,?_⟩))) (hNd2 j oj u hjm hoj e hdj);simp [hlj,hoj,hdj,It,hz]
      cases hdj:oj.dst with
      | none=>
       rw [hdj] at hz;cases hk:AF l j with
       | none=>rw [hk] at hz; exact hz
       | some s=>
        rw [hk] at hz;simp only [pk] at hz ⊢;obtain ⟨o2,ho2,_,w2,hw2,hd2⟩:=FE hk;rw [hoj] at ho2; cases ho2
        have hlt2:=nc hB hoj w2 hw2;have hl2:=hdc j oj hoj (by rw [hget j (by omega)]; exact hlj) w2 hw2
        have hne2:w2≠i:=by rintro rfl; rw [hnl] at hl2; cases hl2
        rw [LY] at hd2;obtain ⟨ow,how,hdw⟩:=hd2;exact hkeep w2 ow s (by omega) how (by rw [← hget w2 (by omega)]; exact hl2) hne2 hdw hz
      | some u=>
       rw [hdj] at hz;simp only [pk] at hz ⊢;exact hkeep j oj u hjm hoj hlj e hdj hz
   unfold wpOp;rw [show l.toArray[i]? = some o from by simpa using ho]
   unfold wpList at hone
   dsimp only
   by_cases hwn:Region.wanted o (yielded l.toArray a.tmps)=true
   ·rw [Hv hwn] at hone ⊢
    left
    rcases hone with h | ⟨_,a1,w1,h,_⟩
    ·unfold Oper.wp at h ⊢
     generalize (execOp a.eval o).run x.P w=r at h;have fin':∀ a' w',wpList x.P l.toArray (w5 x H' Rest (Y++(Es.getD i []++(L0++X))) o.dst (AF l i) (Φ i)) [] a' w'→wpAny x.P .any l.toArray Q fuel (listed.setIfInBounds i true) a' w':=fun a' w' h=>fin2 a' w' h;cases r with
     | ok n w2=>
      cases n <;> simp only [Oper.upon] at h ⊢ <;> first
       | exact fin' _ _ h
       | exact Calls.mono h (fun e w3 he=>match e,he with
         | .returned v,he=>fin' _ _ he
         | .panicked c,he=>absurd he.1 (by simp)
         | .outgrown,he=>absurd he.choose_spec.choose_spec.1 (by simp))
       | exact Rows.mono h (fun v w3 he=>fin' _ _ he)
     | halt y w2=>
      cases y <;> simp only [Oper.upon] at h ⊢
      exact absurd h.1 (by simp)
    ·cases h
   ·rw [Hs hwn] at hone ⊢
    exact fin2 _ _ hone
def xQ (L:Env):List Env→Prop
 | []=>True
 | E::r=>Kept L E∧xQ L r
theorem xQ.get {L:Env}:∀ {Es:List Env},xQ L Es→∀ i t v,lk (Es.getD i []) t=some v→lk L t=some v
 | [],_,i,t,v,h=>by simp [lk] at h
 | E::r,hk,0,t,v,h=>hk.1.lk t v (by simpa using h)
 | E::r,hk,i+1,t,v,h=>xQ.get hk.2 i t v (by simpa using h)
theorem tr {id:Nat} (m:Nat) (Φ:Fj) (C U:List (List Nat)) (I:List (List bV)) (live:List Nat) (L0:Env) (Es:List Env) (hmix:x.P.follows .mixedOrders=true) (hB:q7 l m=true) (hml:Nat.ble m l.length=true) (hD:ui l m L0=true) (hX:xi l m Es=true) (hL0:∀ t v,lk L0 t=some v→lk L t=some v) (hE:xQ L Es) (hNd:uj l m=true)
  (hT:BN l m (m+I.length) C U live=true)
  (hmono:∀ i H1 H2 rs v,H1.le H2→Φ i H1 rs v→Φ i H2 rs v)
  (hop:sY x l Φ C U Es (y0 m I) H M L0 0 (l.take m))
  (k:∀ H',H.le H'→rN l Φ H' (List.range m) L0 (y0 m I) (fun L' R=>W x l.toArray Q (l.drop m) H' (pP live R M) L')):Go.Sim.C x (.region id l.toArray true) Q H (I.flatten++M) L:=by
 intro a w hs ht;refine wp_region_any hmix ?_;have hml':m≤l.length:=by simpa [Kx] using hml
 have hlist:∀ j,(Array.replicate l.toArray.size false).getD j true=if j<l.length then false else true:=by
  intro j;simp only [It,Array.getElem?_replicate,KB]
  split <;> simp
 have hlist2:∀ j,(Array.replicate l.toArray.size false).getD j false=false:=by
  intro j;simp only [It,Array.getElem?_replicate,KB]
  split <;> simp
 have hstart:((List.range (m+I.length)).filter (alive m C (Array.replicate l.toArray.size false))).flatMap (y0 m I)=I.flatten:=by
  rw [List.range_add,JS];have e1:(List.range m).filter (alive m C (Array.replicate l.toArray.size false))=[]:=by
   rw [List.filter_eq_nil_iff];intro q hq;rw [n_];rintro ⟨h | h,_⟩
   ·have:=IA.1 hq; omega
   ·rw [hlist2] at h; cases h
  have e2:((List.range I.length).map (m+·)).filter (alive m C (Array.replicate l.toArray.size false))=(List.range I.length).map (m+·):=by
   rw [LA];intro q hq;obtain ⟨r,hr,rfl⟩:=IQ.1 hq;rw [n_];exact ⟨.inl (by omega),fun i _ h=>by rw [hlist2] at h; cases h⟩
  rw [e1,e2,Ju,List.flatMap_map];have e3:(List.range I.length).flatMap (fun q=>y0 m I (m+q))=((List.range I.length).map fun q=>I.getD q []).flatten:=by
   rw [List.flatMap_def]
   congr 1
   refine List.map_congr_left fun q _=>?_;unfold y0;rw [Hs (by omega),JV]
  rw [e3]
  congr 1
  apply Jx;intro q;rw [Ib]
  by_cases hq:q<I.length
  ·rw [JN hq,Hi hq]; simp [H9,hq]
  ·rw [IC (by simp; omega),IC (by omega)]; rfl
 refine EC (Q:=Q) (K:=m+I.length) hB hml' hD hX hL0 (fun i t v h=>hE.get i t v h) hNd (EM hT) (by omega) hmono hop k l.toArray.size _ a _ H (y0 m I) (by simp) ?_ (fun j hj hjl=>by rw [hlist,Hv hjl]) (fun i o _ h=>by rw [hlist2] at h; cases h) (Hg _) ?_ ⟨hs.size,hs.yh,fun t v h=>by simp [lk] at h⟩ (fun t v h _=>hs.get t v h) (fun _ _=>rfl) ?_
 ·unfold left
  exact I2 (Kq ..) (by simp)
 ·rw [hstart]; exact ht.drewN _
 ·intro i o hi ho hl
  rw [hlist,Hv (by omega)] at hl
  cases hl
theorem nE {id:Nat} (m:Nat) (Φ:Fj) (C U:List (List Nat)) (I:List (List bV)) (live:List Nat) (hmix:x.P.follows .mixedOrders=true) (hB:q7 l m=true) (hml:Nat.ble m l.length=true) (hD:ui l m L=true) (hNd:uj l m=true)
  (hT:BN l m (m+I.length) C U live=true)
  (hmono:∀ i H1 H2 rs v,H1.le H2→Φ i H1 rs v→Φ i H2 rs v)
  (hop:sY x l Φ C U [] (y0 m I) H M L 0 (l.take m))
  (k:∀ H',H.le H'→rN l Φ H' (List.range m) L (y0 m I) (fun L' R=>W x l.toArray Q (l.drop m) H' (pP live R M) L')):Go.Sim.C x (.region id l.toArray true) Q H (I.flatten++M) L:=
 tr m Φ C U I live L [] hmix hB hml hD (by unfold xi; simp) (fun _ _ h=>h) Hh hNd hT hmono hop k
end
section
variable {x:Cx}{ops:Array Oper}{Q:kZ}{rest:List Oper}{H:Hp}{M M':List bV}{L L':Env}
theorem gP {M'} (h:M=M') (k:W x ops Q rest H M' L):W x ops Q rest H M L:=h▸k
theorem s9 {c:Code}{M'} (h:M=M') (k:C x c Q H M' L):C x c Q H M L:=h▸k
theorem Gm {e:Exit}{M'} (h:M=M') (k:E x e Q H M' L):E x e Q H M L:=h▸k
theorem y8 {e:Exit} (hM:M.Perm M') (k:E x e Q H M' L):E x e Q H M L:=fun a w hs ht=>k a w hs (ht.perm hM)
theorem oQ {c:Code} (hM:M.Perm M') (k:C x c Q H M' L):C x c Q H M L:=fun a w hs ht=>k a w hs (ht.perm hM)
theorem qb {c:Code}{v:Value}{T:TypeId}{sz n:Nat}{xs:List Value} (hm:bV.row v T sz n xs ∈ M) (k:n≤maxLen→C x c Q H M L):C x c Q H M L:=fun a w hs ht=>by
 have hok:fY w T sz v n xs:=ht.ok _ hm;refine k ?_ a w hs ht;rcases hok.2 with ⟨_,rfl⟩ | ⟨g,off,cap,cur,rfl,hg,hnc,hcm,_⟩
 ·unfold maxLen; omega
 ·omega
theorem aZ {e:Exit}{H0:Hp} (hle:H0.le H) (k:E x e Q H0 M L):E x e Q H M L:=fun a w hs ht=>k a w hs (ht.E0 hle)
end
section
variable {P:Program}{N B:Nat}{w0:World}{fn:Func}{Φ:Hp→List bV→Value→Prop}{H:Hp}{M:List bV}{L:Env}
theorem BS (k:E ⟨P,N,B,w0⟩ .ret (bodyPost P fn (fS B w0 Φ)) H M L):E ⟨P,N,B,w0⟩ .normal (bodyPost P fn (fS B w0 Φ)) H M L:=fun a w hs ht=>k a w hs ht
theorem Fw (hr:fn.results=#[]) (h:Φ H M (.tuple #[])):E ⟨P,N,B,w0⟩ .ret (bodyPost P fn (fS B w0 Φ)) H M L:=
 fun a w hs ht=>⟨hs.yh,.tuple #[],by simp [results,hr],H,M,ht,h⟩
theorem Fx {t u s:Nat}{v1 v2 v3:Value} (hr:fn.results=#[.tmp t,.tmp u,.tmp s]) (hl:lk L t=some v1) (hl2:lk L u=some v2) (hl3:lk L s=some v3) (h:Φ H M (.tuple #[v1,v2,v3])):E ⟨P,N,B,w0⟩ .ret (bodyPost P fn (fS B w0 Φ)) H M L:=
 fun a w hs ht=>⟨hs.yh,.tuple #[v1,v2,v3],by simp [results,hr,It,hs.get t v1 hl,hs.get u v2 hl2,hs.get s v3 hl3],H,M,ht,h⟩
end
class Flat (α:Type) [aE α]:Prop where
 ind:∀ {H H':Hp}{cs:List Value}{x:α},aE.E H cs x→aE.E H' cs x
instance:Flat Int:=⟨fun h=>h⟩
instance:Flat Bool:=⟨fun h=>h⟩
instance:Flat ByteArray:=⟨fun h=>h⟩
instance:Flat U8:=⟨fun h=>h⟩
instance:Flat Gt:=⟨fun h=>h⟩
instance:Flat bI:=⟨fun h=>h⟩
instance:Flat Gu:=⟨fun h=>h⟩
instance:Flat Gn:=⟨fun h=>h⟩
theorem mU.flat {α:Type}[aE α] [Flat α] {H H':Hp}:∀ {cs:List Value}{ys:List α},mU H cs ys→mU H' cs ys
 | _,[],h=>h
 | _,_::_,⟨c,r,e,h,k⟩=>⟨c,r,e,Flat.ind h,mU.flat k⟩
def nf {α:Type}[aE α] (v:Value) (xs:List Value) (l:List α):Prop:=∀ H,Rw H v xs l
def Gq {α:Type}[aE α] (xs:List Value) (l:List α):Prop:=∀ H,mU H xs l
theorem Rw.jF {α:Type}[aE α] [Flat α] {H:Hp}{v:Value}{xs:List Value}{l:List α} (h:Rw H v xs l):nf v xs l:=fun H'=>⟨h.rd.flat,h.sl⟩
theorem mU.jF {α:Type}[aE α] [Flat α] {H:Hp}{xs:List Value}{l:List α} (h:mU H xs l):Gq xs l:=fun H'=>h.flat
def Bx {α R:Type} (o:Option α) (a:R) (f:α→R):R:=match o with
 | none=>a
 | some s=>f s
theorem FG {α R:Type}{o:Option α}{a:R}{f:α→R}{r:R} (h:o=none) (k:Bx o a f=r):a=r:=by subst h; exact k
theorem FH {α R:Type}{o:Option α}{a:R}{f:α→R}{s:α}{r:R} (h:o=some s) (k:Bx o a f=r):f s=r:=by subst h; exact k
def uQ (l:List (Hp→List bV→Value→Prop)) (i:Nat):Hp→List bV→Value→Prop:=l.getD i (fun _ _ _=>True)
def E4 (p:Hp→List bV→Value→Prop):Prop:=∀ H1 H2 rs v,H1.le H2→p H1 rs v→p H2 rs v
def w4:List (Hp→List bV→Value→Prop)→Prop
 | []=>True
 | p::l=>E4 p∧w4 l
theorem p9 {l:List (Hp→List bV→Value→Prop)} (h:w4 l):∀ i H1 H2 rs v,H1.le H2→uQ l i H1 rs v→uQ l i H2 rs v:=by
 induction l with
 | nil=>intro i H1 H2 rs v _ _; exact Hh
 | cons p l ih=>
  intro i H1 H2 rs v hle hp;cases i with
  | zero=>exact h.1 H1 H2 rs v hle hp
  | succ i=>exact ih h.2 i H1 H2 rs v hle hp
theorem fE (rs0:List bV) (c:Value):E4 (fun _ rs v=>rs0=rs∧c=v):=fun _ _ _ _ _ h=>h
section
variable {x:Cx}{ops:Array Oper}{Q:kZ}{rest:List Oper}{H:Hp}{M M':List bV}{L L':Env}
variable {d:Nat}{ty:TypeId}{pos:String}{aft:Array Edge}{g:Option (Nat×Bool)}
theorem mw {t e m sz:Nat}{y z:Operand}{ad:Addr}{kk:IntKind}{i:Int}
  (hg:gd ops L ⟨some d,.indexAddr t y z,ty,pos,aft,g⟩=some true) (hN:Nat.blt d x.N=true)
  (hT:∀ w,(underlying t).run x.P w=.ok (.array m e) w) (hs:∀ w,(sizeOf e).run x.P w=.ok sz w)
  (hy:ev L y=some (.pointer (some ad))) (hz:ev L z=some (.int kk i)) (h0:0≤i) (h1:i.toNat<m)
  (k:W x ops Q rest H M ((d,.pointer (some (ad.add (i.toNat*sz))))::L)):
  W x ops Q (⟨some d,.indexAddr t y z,ty,pos,aft,g⟩::rest) H M L:=
 eK rfl hg hN (fun c w hsl ht=>by
  have h1':i<(m:Int):=by omega
  simp [execOp,hsl.ev hy,hsl.ev hz,Instr.indexAt,asIntOf,hT,hs,h0,h1',Instr.sureAddr]) k
theorem dG {T E:TypeId}{m sz n n' i:Nat}{y z:Operand}{v u:Value}{ad:Addr}{xs cs:List Value} (hg:gd ops L ⟨none,.store T y z,ty,pos,aft,g⟩=some true)
  (hn:∀ w,(sizeOf T).run x.P w=.ok m w) (hy:ev L y=some (.pointer (some ad))) (had:ad=(Value.base v).add i) (hz:ev L z=some u) (hv:u.cells=cs.toArray) (hl:cs.length=m)
  (hb:i+cs.length≤xs.length) (hpos:Nat.blt 0 cs.length=true) (h1:∀ c ∈ cs,c.oneCell'=true) (hnn:n'=n)
  (k:W x ops Q rest H (.row v E sz n' (over xs i cs)::M) L):
  W x ops Q (⟨none,.store T y z,ty,pos,aft,g⟩::rest) H (.row v E sz n xs::M) L:=by
 subst hnn;exact r_ hg hn hy had hz hv hl hb hpos h1 k
theorem vc {T e m sz:Nat}{ps:List (Nat×Operand)}{vs:List Value}{css:List (List Value)}{z:Value}{zs out:List Value}{places:List (Nat×Nat)}
  (hg:gd ops L ⟨some d,.build T ps.toArray,ty,pos,aft,g⟩=some true) (hN:Nat.blt d x.N=true)
  (hv:uk L (ps.map (·.2))=some vs) (hc:ue vs css)
  (hz:∀ w,(zeroValue T).run x.P w=.ok z w) (hzs:z.cells=zs.toArray) (hT:∀ w,(underlying T).run x.P w=.ok (.array m e) w) (hs:∀ w,(sizeOf e).run x.P w=.ok sz w)
  (hpl:places=(List.range m).map fun i=>(i*sz,sz))
  (ho:laid places zs ((ps.map (·.1)).zip css)=some out)
  (k:W x ops Q rest H M ((d,.agg out.toArray)::L)):
  W x ops Q (⟨some d,.build T ps.toArray,ty,pos,aft,g⟩::rest) H M L:=
 eK rfl hg hN (fun a w hsl ht=>by
  have hl:(ps.map (·.1)).length=vs.length:=by rw [← hsl.uk hv]; simp
  have hf:=rf (place:=fun i=>some (i*sz,sz)) (places:=places) (fun i o h=>by
   rw [hpl,Ib] at h;cases hh:(List.range m)[i]? with
   | none=>rw [hh] at h; cases h
   | some j=>
    rw [hh] at h;have:j=i:=by
     have:=He.1 hh;simpa using this.2.symm
    subst this;simpa using h) (ps.map (·.1)) vs css zs out hc hl ho
  have hps:=uW hsl hv;simp only [execOp,Instr.build,HJ,hz,HA,hT,hzs,hs];simp only [hps,hf,HU,HA]) k
theorem eD {α:Type}[aE α] {T e:TypeId}{n:Nat}{ps:List (Nat×Operand)}{vs:List Value}{css:List (List Value)}{z:Value}{zs out:List Value}{places:List (Nat×Nat)}{ys:List α}
  (hg:gd ops L ⟨some d,.buildSlice T n ps.toArray,ty,pos,aft,g⟩=some true) (hN:Nat.blt d x.N=true)
  (hv:uk L (ps.map (·.2))=some vs) (hc:ue vs css)
  (hT:∀ w,(underlying T).run x.P w=.ok (.slice e) w) (hs:∀ w,(sizeOf e).run x.P w=.ok (aE.sz α) w) (hs0:Nat.blt 0 (aE.sz α)=true)
  (hz:∀ w,(zeroValue e).run x.P w=.ok z w) (hzs:(Array.range (n*aE.sz α)).map (z.cells[·%z.cells.size]!)=zs.toArray)
  (hpl:places=(List.range n).map fun i=>(i*aE.sz α,aE.sz α)) (hn:Nat.ble (n*aE.sz α) 16777216=true) (hnn:Nat.blt 0 n=true)
  (ho:laid places zs ((ps.map (·.1)).zip css)=some out) (hr:mU H out ys) (hyn:ys.length=n)
  (k:∀ v' xs',Rw H v' xs' ys→W x ops Q rest H (.row v' e (aE.sz α) ys.length xs'::M) ((d,v')::L)):
  W x ops Q (⟨some d,.buildSlice T n ps.toArray,ty,pos,aft,g⟩::rest) H M L:=by
 refine oL rfl hg hN fun a w hsl ht=>?_;have hl:(ps.map (·.1)).length=vs.length:=by rw [← hsl.uk hv]; simp
 have hs0':0<aE.sz α:=by simpa [IM] using hs0
 have hn':n*aE.sz α≤16777216:=by simpa [Kx] using hn
 have hnn':0<n:=by simpa [IM] using hnn
 have hpos:0<n*aE.sz α:=Nat.mul_pos hnn' hs0';have hf:=rf (place:=fun i=>some (i*aE.sz α,aE.sz α)) (places:=places) (fun i o h=>by
  rw [hpl,Ib] at h;cases hh:(List.range n)[i]? with
  | none=>rw [hh] at h; cases h
  | some j=>
   rw [hh] at h;have:j=i:=by
    have:=He.1 hh;simpa using this.2.symm
   subst this;simpa using h) (ps.map (·.1)) vs css zs out hc hl ho
 have hps:=uW hsl hv;have hsz:out.length=n*aE.sz α:=by rw [hr.len,hyn]
 have hmax:ys.length≤maxLen:=by
  unfold maxLen;have:n≤n*aE.sz α:=KD _ hs0';omega
 refine ⟨.slice (some ⟨w.heap.size,0,none⟩) ys.length ys.length,w.alloc (.cells out.toArray e),?_,H,_,St.newRow (e:=e) ht hr hmax,k _ _ ⟨hr,_,_,_,rfl⟩⟩;have h1:¬ (2 ^ 24<n*aE.sz α):=by omega
 have h2:¬ (n*aE.sz α=0):=by omega
 simp only [execOp,Instr.buildSlice,HJ,hT,HA,hs,gt_iff_lt,h1,h2,J2,hz,HU];simp only [hps];have hf':Instr.fill (fun i=>some (i*aE.sz α,aE.sz α)) ((Array.range (n*aE.sz α)).map (z.cells[·%z.cells.size]!)) ((List.map (fun x=>x.fst) ps).zip vs)=some out.toArray:=by
  rw [hzs]; exact hf
 simp only [hf',newRow,newObj,HJ,HU,Sem.run,HA,World.alloc,hyn]
end
inductive fI (P:Program) (M:List bV) (L:Env):ResultVar→Value→Prop
 | tmp {t}{v:Value} (h:lk L t=some v):fI P M L (.tmp t) v
 | one {t ty b T}{l:List Value}{fz}{v:Value} (h:lk L t=some (.pointer (some ⟨b,0,none⟩))) (hA:∀ w,(isAgg ty).run P w=.ok false w) (hm:bV.obj b (.cells (v::l).toArray T fz) ∈ M):fI P M L (.cell t ty) v
 | agg {t ty b T}{l:List Value}{fz n} (h:lk L t=some (.pointer (some ⟨b,0,none⟩))) (hA:∀ w,(isAgg ty).run P w=.ok true w) (hn:∀ w,(sizeOf ty).run P w=.ok n w) (hm:bV.obj b (.cells l.toArray T fz) ∈ M) (hl:l.length=n):fI P M L (.cell t ty) (.agg l.toArray)
 | arr {t ty v T sz k}{xs:List Value}{n} (h:lk L t=some (.pointer (some (Value.base v)))) (hA:∀ w,(isAgg ty).run P w=.ok true w) (hn:∀ w,(sizeOf ty).run P w=.ok n w) (hm:bV.row v T sz k xs ∈ M) (hl:xs.length=n):fI P M L (.cell t ty) (.agg xs.toArray)
def Bk (tmps:Array Value):ResultVar→Sem Value
 | .tmp t=>pure (tmps.getD t undef)
 | .cell a t=>do loadVar t (← asAddr (tmps.getD a undef))
theorem sC (fn:Func) (tmps:Array Value):results fn tmps=(do
  let vs ← fn.results.mapM (Bk tmps)
  pure (if h:vs.size=1 then vs[0] else .tuple vs)):=rfl
theorem fI.run {P:Program}{M:List bV}{L:Env}{N B:Nat}{w0 w:World}{H:Hp}{a:Act}{rv:ResultVar}{v:Value} (h:fI P M L rv v) (hs:Sl N L a) (ht:St B w0 H M w):
  (Bk a.tmps rv).run P w=.ok v w:=by
 cases h with
 | tmp h=>simp [Bk,It,hs.get _ _ h]
 | one h hA hm=>
  have hc:=(bZ (x:=⟨P,N,B,w0⟩) (H:=H) hm (off:=0) (v:=v) rfl) w ht;simp [Bk,It,hs.get _ _ h,asAddr,loadVar,hA,load,Sem.run,hc]
 | agg h hA hn hm hl=>
  rename_i t ty b T l fz n
  have hc:=(eX (x:=⟨P,N,B,w0⟩) (H:=H) hm);have hr:=run_loadCellsFrom (P:=P) (w:=w) (ad:=⟨b,0,none⟩) l 0 #[] (fun j v hv=>by rw [Ii]; exact hc j v hv w ht)
  rw [hl] at hr;simp [Bk,It,hs.get _ _ h,asAddr,loadVar,hA,hn,loadCells,hr]
 | arr h hA hn hm hl=>
  rename_i t ty v T sz k xs n
  have hr:=run_loadCellsFrom (P:=P) (w:=w) (ad:=Value.base v) xs 0 #[] (fun j u hu=>by rw [Ii]; exact (wg (x:=⟨P,N,B,w0⟩) (H:=H) hm hu) w ht)
  rw [hl] at hr;simp [Bk,It,hs.get _ _ h,asAddr,loadVar,hA,hn,loadCells,hr]
section
variable {P:Program}{N B:Nat}{w0:World}{fn:Func}{Φ:Hp→List bV→Value→Prop}{H H0:Hp}{M M1 M2:List bV}{L:Env}
theorem iT {r1:ResultVar}{v1:Value} (hle:H0.le H) (hr:fn.results=#[r1]) (h1:fI P M L r1 v1) (hd:M1.Sublist M) (hp:M1.Perm M2) (h:Φ H0 M2 v1):
  E ⟨P,N,B,w0⟩ .ret (bodyPost P fn (fS B w0 Φ)) H M L:=fun a w hs ht=>by
 have q1:=h1.run hs ht;refine ⟨hs.yh,v1,?_,H0,M2,((ht.sub hd).perm hp).E0 hle,h⟩;rw [sC,hr];simp [q1]
theorem wP {r1 r2:ResultVar}{v1 v2:Value} (hle:H0.le H) (hr:fn.results=#[r1,r2]) (h1:fI P M L r1 v1) (h2:fI P M L r2 v2) (hd:M1.Sublist M) (hp:M1.Perm M2) (h:Φ H0 M2 (.tuple #[v1,v2])):
  E ⟨P,N,B,w0⟩ .ret (bodyPost P fn (fS B w0 Φ)) H M L:=fun a w hs ht=>by
 have q1:=h1.run hs ht;have q2:=h2.run hs ht;refine ⟨hs.yh,_,?_,H0,M2,((ht.sub hd).perm hp).E0 hle,h⟩;rw [sC,hr];simp [q1,q2]
theorem yj {r1 r2 r3:ResultVar}{v1 v2 v3:Value} (hle:H0.le H) (hr:fn.results=#[r1,r2,r3]) (h1:fI P M L r1 v1) (h2:fI P M L r2 v2) (h3:fI P M L r3 v3) (hd:M1.Sublist M) (hp:M1.Perm M2) (h:Φ H0 M2 (.tuple #[v1,v2,v3])):
  E ⟨P,N,B,w0⟩ .ret (bodyPost P fn (fS B w0 Φ)) H M L:=fun a w hs ht=>by
 have q1:=h1.run hs ht;have q2:=h2.run hs ht;have q3:=h3.run hs ht;refine ⟨hs.yh,_,?_,H0,M2,((ht.sub hd).perm hp).E0 hle,h⟩;rw [sC,hr];simp [q1,q2,q3]
end
theorem aI.shape {α:Type}[aE α] {H:Hp}{v:Value}{xs:List α} (h:aI H v xs):∃ o n c,v=.slice o n c:=by
 obtain ⟨a,c,rfl,_⟩:=h.len; exact ⟨_,_,_,rfl⟩
theorem aI.isNil {α:Type}[aE α] {H:Hp}{n c:Nat}{xs:List α} (h:aI H (.slice none n c) xs):xs=[]:=by
 rcases h with ⟨_,h⟩ | ⟨b,off,cap,arr,T,fz,h,_⟩
 ·exact h
 ·cases h
def FX {α:Type} (v:Value) (l:List α):Prop:=(∃ n c,v=.slice none n c∧l=[])∨(∃ a n c,v=.slice (some a) n c∧l≠[])
theorem FX.nil {α:Type}:FX (.slice none 0 0) ([]:List α):=.inl ⟨_,_,rfl,rfl⟩
section
variable {x:Cx}{ops:Array Oper}{Q:kZ}{rest:List Oper}{H:Hp}{M M':List bV}{L L':Env}
variable {d:Nat}{ty:TypeId}{pos:String}{aft:Array Edge}{g:Option (Nat×Bool)}
theorem E1 {α:Type}[aE α] {H:Hp}{zs:List Value}{ze:α} (hE:aE.E H zs ze) (hzl:zs.length=aE.sz α):∀ q,mU H ((List.range (q*aE.sz α)).map (zs.toArray[·%zs.length]!)) (List.replicate q ze):=by
 intro q
 induction q with
 | zero=>rw [Jk]; exact rfl
 | succ q ih=>
  have hsplit:(List.range ((q+1)*aE.sz α)).map (zs.toArray[·%zs.length]!)=zs++(List.range (q*aE.sz α)).map (zs.toArray[·%zs.length]!):=by
   apply Jx;intro j;rw [JW,Ib]
   by_cases hj:j<zs.length
   ·rw [Hv hj,JN (by rw [HS]; omega)]
    simp [JB hj,hj]
   ·rw [Hs hj,Ib]
    by_cases hj2:j<(q+1)*aE.sz α
    ·rw [JN hj2,JN (by rw [HS] at hj2; omega)]
     simp only [Je];rw [← Nat.mod_eq_sub_mod (by omega)]
    ·rw [IC (by simp; omega),IC (by rw [HS] at hj2; simp; omega)]
  rw [hsplit];exact ⟨zs,_,rfl,hE,ih⟩
end
end Go.Sim
