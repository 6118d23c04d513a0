/-
  The proof, part C5.
-/
import Derived.ProofKit
import Derived.OpenShut
import Derived.HandedShaped
import Derived.Handed
import Derived.Lay
import Derived.LaidByTextLater
import Derived.Stop.LaidErr
import Derived.Test.YtcfeheigjjnpnaaGreatDoorSqC4
set_option linter.unusedVariables false
set_option linter.unusedSimpArgs false
set_option linter.unusedSectionVars false
set_option linter.unnecessarySimpa false
namespace Go.Sim
abbrev KU := @Go.DataW.trod_struct
abbrev IZ := @Go.Proofs.Tryz.underlying3
abbrev LZ := @Go.Proofs.Tryz.underlying4
abbrev II := @Go.Proofs.Tryz.underlying9
end Go.Sim
namespace Go.Sim
open Go Go.RowKit Go.ChangeShapes Go.WideShapes Go.ChangeAt
open _root_.Go.IntKind (i64 u64 u32 u8)
class Ok (α:Type) where
 ok:α→Prop
abbrev ok {α:Type}[Ok α] (x:α):Prop:=Ok.ok x
def E9 (n:Int):Prop:=-9223372036854775808≤n∧n≤9223372036854775807
instance:Ok Int:=⟨E9⟩
instance:Ok Bool:=⟨fun _=>True⟩
instance:Ok ByteArray:=⟨fun s=>s.size≤maxLen⟩
instance:Ok U8:=⟨fun x=>0≤x.n∧x.n≤255⟩
instance:Ok Gt:=⟨fun x=>0≤x.n∧x.n≤65535⟩
instance:Ok bI:=⟨fun x=>0≤x.n∧x.n≤4294967295⟩
instance:Ok Gu:=⟨fun x=>0≤x.n∧x.n≤18446744073709551615⟩
instance:Ok Gn:=⟨fun x=>-2147483648≤x.n∧x.n≤2147483647⟩
instance {α:Type}[Ok α]:Ok (List α):=⟨fun xs=>xs.length≤maxLen∧∀ x ∈ xs,ok x⟩
theorem wf_i64 {n:Int} (h:(Lit.int .i64 n).wf=true):E9 n:=by
 simp [Lit.wf,IntKind.min,IntKind.max,IntKind.signed,IntKind.bits] at h; exact ⟨by omega,by omega⟩
def n9 (P:Program) (T:TypeId) (α:Type) [aE α] [Ok α]:Prop:=
 ∀ (Hd:Type) (enc:TypeId×Value→Hd) (w:World) (fuel:Nat) (cs:List Value) (d:DataW Hd×List MemPlace),
  DataW.trod enc P w 0 (fun _=>true) true fuel T cs=some d→∃ x:α,aE.E (snap w) cs x∧ok x
section
variable {P:Program}{T:TypeId}
theorem kP (ht:P.underlying T=some (.int .i64)):n9 P T Int:=fun _ _ _ _ _ _ h=>by
 obtain ⟨n,rfl,rfl,hw⟩:=DataW.trod_int ht h; exact ⟨n,rfl,wf_i64 hw⟩
theorem wv (ht:P.underlying T=some .bool):n9 P T Bool:=fun _ _ _ _ _ _ h=>by
 obtain ⟨b,rfl,rfl⟩:=DataW.trod_bool ht h; exact ⟨b,rfl,Hh⟩
theorem gU (ht:P.underlying T=some .string):n9 P T ByteArray:=fun _ _ _ _ _ _ h=>by
 obtain ⟨s,rfl,rfl,hs⟩:=DataW.trod_string ht h; exact ⟨s,rfl,hs⟩
theorem ye {α:Type}{p:Nat→α→Prop}:∀ n,(∀ i,i<n→∃ x,p i x)→∃ xs:List α,xs.length=n∧∀ i x,xs[i]? = some x→p i x:=by
 intro n
 induction n with
 | zero=>exact fun _=>⟨[],rfl,by simp⟩
 | succ n ih=>
  intro h;obtain ⟨xs,hl,hx⟩:=ih fun i hi=>h i (by omega)
  obtain ⟨y,hy⟩:=h n (by omega)
  refine ⟨xs++[y],by simp [hl],fun i x hi=>?_⟩
  rw [JW] at hi
  split at hi
  ·exact hx i x hi
  ·have:i-xs.length=0:=by
    have:=(He.1 hi).1;simp at this; omega
   rw [this] at hi;simp at hi; subst hi
   rw [show i=n from by omega]; exact hy
theorem oc {e:TypeId}{α:Type}[aE α] [Ok α] (ht:P.underlying T=some (.slice e)) (hs:P.cellsOf e=aE.sz α) (h0:Nat.blt 0 (aE.sz α)=true) (he:n9 P e α):n9 P T (List α):=fun Hd enc w fuel cs d h=>by
 have h0':0<aE.sz α:=by simpa [IM] using h0
 rcases DataW.trod_slice ht h with ⟨rfl,rfl⟩ | ⟨a,len,cap,elems,rest,n,rfl,rfl,rfl,_,hl,hm,hel,hE,hR,_⟩
 ·exact ⟨[],⟨_,rfl,.inl ⟨⟨_,rfl⟩,rfl⟩⟩,⟨Nat.zero_le _,fun _ h=>by cases h⟩⟩
 ·by_cases hc:cap=0
  ·subst hc
   obtain rfl:len=0:=by omega
   exact ⟨[],⟨_,rfl,.inl ⟨⟨_,rfl⟩,rfl⟩⟩,⟨Nat.zero_le _,fun _ h=>by cases h⟩⟩
  ·have hall:∀ i,i<cap→∃ cs' d,w.cells? 0 (a.add (i*P.cellsOf e)) (P.cellsOf e)=some cs'∧DataW.trod enc P w 0 (fun _=>true) true n e cs'=some d:=by
    intro i hi;have:∃ d,(w.cells? 0 (a.add (i*P.cellsOf e)) (P.cellsOf e)).bind (DataW.trod enc P w 0 (fun _=>true) true n e)=some d:=by
     by_cases hil:i<len
     ·exact ⟨elems[i]'(by omega),by rw [hE i hil]; exact Hi _⟩
     ·have:=(hR rfl).2 (i-len) (by omega)
      rw [show len+(i-len)=i from by omega] at this
      exact ⟨rest[i-len]'(by have:=(hR rfl).1; omega),by rw [this]; exact Hi _⟩
    obtain ⟨d,hd⟩:=this;obtain ⟨cs',h1,h2⟩:=LY.1 hd;exact ⟨cs',d,h1,h2⟩
   have hcell:∀ i,i<cap→∀ j,j<aE.sz α→∃ c,w.cell? ((a.add (i*aE.sz α)).add j)=some c:=by
    intro i hi j hj;obtain ⟨cs',d,h1,_⟩:=hall i hi;rw [hs] at h1;obtain ⟨_,h2,h3⟩:=World.cells?_some h1;exact ⟨cs'[j]'(by omega),by rw [h3 j hj]; exact Hi _⟩
   obtain ⟨ab,ao,asp⟩:=a;have hb:asp=none∧∃ arr T fz,w.heap[ab]? = some (.cells arr T fz):=by
    obtain ⟨c,hc'⟩:=hcell 0 (by omega) 0 h0'
    rw [Jk] at hc';simp only [Addr.add,Lr,World.cell?] at hc'
    split at hc'
    ·rename_i arr T fz hh
     refine ⟨?_,arr,T,fz,hh⟩
     split at hc'
     ·cases hc'
     ·rename_i hn; cases asp <;> simp_all
    ·cases hc'
   obtain ⟨rfl,arr,T',fz,hh⟩:=hb;have hat:∀ i,i<cap→∀ j,j<aE.sz α→w.cell? (((⟨ab,ao,none⟩:Addr).add (i*aE.sz α)).add j)=arr[ao+i*aE.sz α+j]? := by
    intro i hi j hj;rw [IL,IL];simp [World.cell?,hh]
   have hsz:ao+cap*aE.sz α≤arr.size:=by
    obtain ⟨c,hc'⟩:=hcell (cap-1) (by omega) (aE.sz α-1) (by omega)
    rw [hat (cap-1) (by omega) _ (by omega)] at hc'
    have:=(Ja.1 hc').1;have e1:cap*aE.sz α=(cap-1)*aE.sz α+aE.sz α:=by
     have:cap=(cap-1)+1:=by omega
     rw [this,HS,Lx]; simp
    omega
   obtain ⟨xs,hxl,hxs⟩:=ye (p:=fun i (x:α)=>ok x∧∃ cs,aE.E (snap w) cs x∧∀ j c,cs[j]? = some c→arr[ao+i*aE.sz α+j]? = some c) len (by
    intro i hi;obtain ⟨cs',d,h1,h2⟩:=hall i (by omega)
    obtain ⟨x,hx,hok⟩:=he _ _ _ _ _ _ h2;refine ⟨x,hok,cs',hx,fun j c hj=>?_⟩;rw [hs] at h1;obtain ⟨_,h3,h4⟩:=World.cells?_some h1;have hjl:=(He.1 hj).1;rw [← hat i (by omega) j (by omega),h4 j (by omega),hj])
   subst hxl;refine ⟨xs,⟨_,rfl,.inr ⟨ab,ao,cap,arr,T',fz,rfl,hl,hm,hh,hsz,fun k x hk=>(hxs k x hk).2⟩⟩,by omega,fun x hx=>?_⟩
   obtain ⟨k,hk⟩:=List.mem_iff_getElem?.1 hx;exact (hxs k x hk).1
theorem cI {Hd:Type}{enc:TypeId×Value→Hd}{w:World}{n:Nat}{cs:List Value}{fs:Array Field}{xs:List (DataW Hd×List MemPlace)}{α:Type}[aE α] [Ok α]
  (hlen:xs.length=fs.size) (hf:∀ (i:Nat) (f:Field),fs[i]? = some f→DataW.trod enc P w 0 (fun _=>true) true n f.type ((cs.drop f.offset).take (P.cellsOf f.type))=xs[i]?)
  (i:Nat) {f:Field}{o:Nat} (hi:fs[i]? = some f) (ho:f.offset=o) (hn:P.cellsOf f.type=aE.sz α) (ht:n9 P f.type α):∃ x:α,aE.E (snap w) ((cs.drop o).take (aE.sz α)) x∧ok x:=by
 have h:=hf i f hi;have hlt:i<xs.length:=by rw [hlen]; exact (Ja.1 hi).1
 rw [Hi hlt] at h;obtain ⟨x,hx,hok⟩:=ht _ _ _ _ _ _ h;subst ho;rw [hn] at hx;exact ⟨x,hx,hok⟩
theorem piece {cs r s:List Value}{o n m:Nat} (h:(cs.drop o).take n=r) (hm:o+n=m) (k:cs.drop m=s):cs.drop o=r++s:=by
 subst hm;rw [← h,← k,← Jt,Ji]
theorem p_ {cs:List Value}{n m:Nat} (h:cs.length=n) (hm:n=m):cs.drop m=[]:=by subst hm; rw [← h]; exact KE
end
section
variable {Hd:Type}{enc:TypeId×Value→Hd}{P:Program}{W:World}{T:TypeId}{v:Value}{d:DataW Hd}{p:List MemPlace}{base:Nat}
theorem Cb {α:Type}[aE α] [Ok α] (ht:n9 P T α) (h:DataW.Trod enc P W 0 (fun _=>true) true T v d p):∃ x:α,aE.E (snap W) v.cells.toList x∧ok x:=by
 obtain ⟨n,h⟩:=h; exact ht _ _ _ _ _ _ h
theorem zf {fs:Array Field}{α:Type}[aE α] [Ok α] (hu:P.underlying T=some (.struct fs)) (ht:n9 P T α) (hv:Value.okWide P W .any base T v) (h:DataW.Trod enc P W 0 (fun _=>true) true T v d p):
  ∃ (x:α) (cs:List Value),v=.agg cs.toArray∧aE.E (snap W) cs x∧ok x:=by
 obtain ⟨cs,rfl,_⟩:=okWide_struct hu hv;obtain ⟨x,hx,hok⟩:=Cb ht h;exact ⟨x,cs.toList,by simp,hx,hok⟩
end
theorem s8 {Hd:Type}{enc:TypeId×Value→Hd}{P:Program} (hl:laidOutB P=true) {W W':World} (hb:Below W.heap.size W W'):∀ {ts:List TypeId}{vs:List Value}{ds:List (DataW Hd)}{ps:List MemPlace},
  (ts.all fun t=>P.readableRec t && Nat.blt t P.types.size)=true→DataW.TrodAll enc P W 0 (fun _=>true) true ts vs ds ps→DataW.TrodAll enc P W' 0 (fun b=>decide (b<W.heap.size)) true ts vs ds ps
 | [],[],[],_,_,h=>h
 | t::ts,v::vs,d::ds,ps,ht,h=>by
  obtain ⟨p,q,h1,h2,rfl⟩:=h;simp only [List.all_cons,Jp,IM] at ht;have hlt:∀ x ∈ p,x.block<W.heap.size:=by obtain ⟨m,hm⟩:=h1; exact DataW.trod_lt m _ _ _ hm
  exact ⟨p,q,Below.trod hl ht.1.1 ht.1.2 h1 hb hlt,s8 hl hb ht.2 h2,rfl⟩
 | [],_::_,_,_,_,h=>absurd h (by simp [DataW.TrodAll])
 | [],[],_::_,_,_,h=>absurd h (by simp [DataW.TrodAll])
 | _::_,[],_,_,_,h=>absurd h (by simp [DataW.TrodAll])
 | _::_,_::_,[],_,_,h=>absurd h (by simp [DataW.TrodAll])
theorem sF {Hd:Type}{enc:TypeId×Value→Hd}{P:Program}{W:World}{base:Nat}{spare:Nat→Bool}{held:Bool}:∀ {ts:List TypeId}{vs:List Value}{ds:List (DataW Hd)}{ps:List MemPlace},
  DataW.TrodAll enc P W base spare held ts vs ds ps→ds.length=ts.length
 | [],[],[],_,_=>rfl
 | t::ts,v::vs,d::ds,ps,h=>by
  obtain ⟨p,q,h1,h2,rfl⟩:=h;simp [sF h2]
 | [],_::_,_,_,h=>absurd h (by simp [DataW.TrodAll])
 | [],[],_::_,_,h=>absurd h (by simp [DataW.TrodAll])
 | _::_,[],_,_,h=>absurd h (by simp [DataW.TrodAll])
 | _::_,_::_,[],_,h=>absurd h (by simp [DataW.TrodAll])
theorem CV {Hd:Type}{enc:TypeId×Value→Hd}{P:Program}{fn:Func}{s:ChangeSpec}{W W':World}{args:Array Value}{ds gs:List (DataW Hd)}{before:List MemPlace}{tb:TypeId}
  (hl:laidOutB P=true) (hs:s.vars=[]) (hr:fn.resultTypes=#[tb]) (hb:P.underlying tb=some .bool) (hp:(fn.params.toList.all fun t=>P.readableRec t && Nat.blt t P.types.size)=true)
  (hW:DataW.Whole enc P fn.params.toList s.vars false W args.toList ds gs before)
  (hfn:ds.length=fn.params.toList.length→s.fn Hd (ds++[])={ results:=[.lit (.bool true)],args:=ds })
  (bel:Below W.heap.size W W'):s.post enc P fn false true false false W args (.bool true) W':=by
 have hW':=hW;obtain ⟨p,q,hA,hV,rfl,hfz,hnd⟩:=hW;rw [hs] at hV;obtain ⟨rfl,rfl⟩:=trodVars_none hV;have hlen:ds.length=fn.params.toList.length:=by
  exact sF hA
 have e:=hfn hlen;have hA':=s8 hl bel hp hA;refine ⟨ds,[],_,[],p,[],hW',?_,?_,?_,bel.frame _,fun h=>by cases h⟩
 ·rw [hr,e]; exact trodAll_mk1 (shut_bool hb _)
 ·rw [e]; exact hA'
 ·rw [hs,e]; rfl
theorem Ej:ownKnob Proofs.Tryz.prog.godebug=none:=by kernel_rfl
theorem CU:laidOutB Proofs.Tryz.prog=true:=by kernel_rfl
instance:Ok cE:=⟨fun x=>ok x.Name∧ok x.A∧ok x.B_∧ok x.sH∧ok x.Open⟩
instance:Ok bH:=⟨fun x=>ok x.Name∧ok x.jB∧ok x.To∧ok x.X∧ok x.rL∧ok x.Shift∧ok x.kr∧ok x.mF∧ok x.qc⟩
instance:Ok cP:=⟨fun x=>ok x.Name∧ok x.Node∧ok x.dI∧ok x.g_∧ok x.tz⟩
instance:Ok aK:=⟨fun x=>ok x.Name∧ok x.Node∧ok x.bN⟩
instance:Ok dC:=⟨fun x=>ok x.Name∧ok x.Node∧ok x.lF∧ok x.Discharge∧ok x.nF⟩
instance:Ok aC:=⟨fun x=>ok x.bJ∧ok x.bF∧ok x.aN∧ok x.dM∧ok x.bK∧ok x.bQ⟩
theorem EO:n9 Proofs.Tryz.prog 22 (List ByteArray):=oc Proofs.Tryz.underlying22 (by kernel_rfl) rfl (gU II)
theorem EY:n9 Proofs.Tryz.prog 80 cE:=by
 intro Hd enc w fuel cs d h;obtain ⟨xs,n,rfl,rfl,hl,hlen,hf⟩:=KU Proofs.Tryz.underlying80 h;obtain ⟨x0,e0,o0⟩:=cI (α:=ByteArray) hlen hf 0 (o:=0) rfl rfl (by kernel_rfl) (gU II)
 obtain ⟨x1,e1,o1⟩:=cI (α:=ByteArray) hlen hf 1 (o:=1) rfl rfl (by kernel_rfl) (gU II)
 obtain ⟨x2,e2,o2⟩:=cI (α:=ByteArray) hlen hf 2 (o:=2) rfl rfl (by kernel_rfl) (gU II)
 obtain ⟨x3,e3,o3⟩:=cI (α:=Bool) hlen hf 3 (o:=3) rfl rfl (by kernel_rfl) (wv LZ)
 obtain ⟨x4,e4,o4⟩:=cI (α:=Bool) hlen hf 4 (o:=4) rfl rfl (by kernel_rfl) (wv LZ)
 exact ⟨⟨x0,x1,x2,x3,x4⟩,piece (o:=0) e0 (by rfl) (piece (o:=1) e1 (by rfl) (piece (o:=2) e2 (by rfl) (piece (o:=3) e3 (by rfl) (piece (o:=4) e4 (by rfl) (p_ hl (by kernel_rfl)))))),⟨o0,o1,o2,o3,o4⟩⟩
theorem EP:n9 Proofs.Tryz.prog 23 (List cE):=oc Proofs.Tryz.underlying23 (by kernel_rfl) rfl EY
theorem EX:n9 Proofs.Tryz.prog 56 bH:=by
 intro Hd enc w fuel cs d h;obtain ⟨xs,n,rfl,rfl,hl,hlen,hf⟩:=KU Proofs.Tryz.underlying56 h;obtain ⟨x0,e0,o0⟩:=cI (α:=ByteArray) hlen hf 0 (o:=0) rfl rfl (by kernel_rfl) (gU II)
 obtain ⟨x1,e1,o1⟩:=cI (α:=ByteArray) hlen hf 1 (o:=1) rfl rfl (by kernel_rfl) (gU II)
 obtain ⟨x2,e2,o2⟩:=cI (α:=ByteArray) hlen hf 2 (o:=2) rfl rfl (by kernel_rfl) (gU II)
 obtain ⟨x3,e3,o3⟩:=cI (α:=Int) hlen hf 3 (o:=3) rfl rfl (by kernel_rfl) (kP IZ)
 obtain ⟨x4,e4,o4⟩:=cI (α:=Int) hlen hf 4 (o:=4) rfl rfl (by kernel_rfl) (kP IZ)
 obtain ⟨x5,e5,o5⟩:=cI (α:=Int) hlen hf 5 (o:=5) rfl rfl (by kernel_rfl) (kP IZ)
 obtain ⟨x6,e6,o6⟩:=cI (α:=Int) hlen hf 6 (o:=6) rfl rfl (by kernel_rfl) (kP IZ)
 obtain ⟨x7,e7,o7⟩:=cI (α:=Int) hlen hf 7 (o:=7) rfl rfl (by kernel_rfl) (kP IZ)
 obtain ⟨x8,e8,o8⟩:=cI (α:=Int) hlen hf 8 (o:=8) rfl rfl (by kernel_rfl) (kP IZ)
 exact ⟨⟨x0,x1,x2,x3,x4,x5,x6,x7,x8⟩,piece (o:=0) e0 (by rfl) (piece (o:=1) e1 (by rfl) (piece (o:=2) e2 (by rfl) (piece (o:=3) e3 (by rfl) (piece (o:=4) e4 (by rfl) (piece (o:=5) e5 (by rfl) (piece (o:=6) e6 (by rfl) (piece (o:=7) e7 (by rfl) (piece (o:=8) e8 (by rfl) (p_ hl (by kernel_rfl)))))))))),⟨o0,o1,o2,o3,o4,o5,o6,o7,o8⟩⟩
theorem ER:n9 Proofs.Tryz.prog 24 (List bH):=oc Proofs.Tryz.underlying24 (by kernel_rfl) rfl EX
theorem DH:n9 Proofs.Tryz.prog 117 cP:=by
 intro Hd enc w fuel cs d h;obtain ⟨xs,n,rfl,rfl,hl,hlen,hf⟩:=KU Proofs.Tryz.underlying117 h;obtain ⟨x0,e0,o0⟩:=cI (α:=ByteArray) hlen hf 0 (o:=0) rfl rfl (by kernel_rfl) (gU II)
 obtain ⟨x1,e1,o1⟩:=cI (α:=ByteArray) hlen hf 1 (o:=1) rfl rfl (by kernel_rfl) (gU II)
 obtain ⟨x2,e2,o2⟩:=cI (α:=Int) hlen hf 2 (o:=2) rfl rfl (by kernel_rfl) (kP IZ)
 obtain ⟨x3,e3,o3⟩:=cI (α:=Int) hlen hf 3 (o:=3) rfl rfl (by kernel_rfl) (kP IZ)
 obtain ⟨x4,e4,o4⟩:=cI (α:=Int) hlen hf 4 (o:=4) rfl rfl (by kernel_rfl) (kP IZ)
 exact ⟨⟨x0,x1,x2,x3,x4⟩,piece (o:=0) e0 (by rfl) (piece (o:=1) e1 (by rfl) (piece (o:=2) e2 (by rfl) (piece (o:=3) e3 (by rfl) (piece (o:=4) e4 (by rfl) (p_ hl (by kernel_rfl)))))),⟨o0,o1,o2,o3,o4⟩⟩
theorem ES:n9 Proofs.Tryz.prog 25 (List cP):=oc Proofs.Tryz.underlying25 (by kernel_rfl) rfl DH
theorem EW:n9 Proofs.Tryz.prog 32 aK:=by
 intro Hd enc w fuel cs d h;obtain ⟨xs,n,rfl,rfl,hl,hlen,hf⟩:=KU Proofs.Tryz.underlying32 h;obtain ⟨x0,e0,o0⟩:=cI (α:=ByteArray) hlen hf 0 (o:=0) rfl rfl (by kernel_rfl) (gU II)
 obtain ⟨x1,e1,o1⟩:=cI (α:=ByteArray) hlen hf 1 (o:=1) rfl rfl (by kernel_rfl) (gU II)
 obtain ⟨x2,e2,o2⟩:=cI (α:=Int) hlen hf 2 (o:=2) rfl rfl (by kernel_rfl) (kP IZ)
 exact ⟨⟨x0,x1,x2⟩,piece (o:=0) e0 (by rfl) (piece (o:=1) e1 (by rfl) (piece (o:=2) e2 (by rfl) (p_ hl (by kernel_rfl)))),⟨o0,o1,o2⟩⟩
theorem ET:n9 Proofs.Tryz.prog 26 (List aK):=oc Proofs.Tryz.underlying26 (by kernel_rfl) rfl EW
theorem DI:n9 Proofs.Tryz.prog 121 dC:=by
 intro Hd enc w fuel cs d h;obtain ⟨xs,n,rfl,rfl,hl,hlen,hf⟩:=KU Proofs.Tryz.underlying121 h;obtain ⟨x0,e0,o0⟩:=cI (α:=ByteArray) hlen hf 0 (o:=0) rfl rfl (by kernel_rfl) (gU II)
 obtain ⟨x1,e1,o1⟩:=cI (α:=ByteArray) hlen hf 1 (o:=1) rfl rfl (by kernel_rfl) (gU II)
 obtain ⟨x2,e2,o2⟩:=cI (α:=Int) hlen hf 2 (o:=2) rfl rfl (by kernel_rfl) (kP IZ)
 obtain ⟨x3,e3,o3⟩:=cI (α:=Int) hlen hf 3 (o:=3) rfl rfl (by kernel_rfl) (kP IZ)
 obtain ⟨x4,e4,o4⟩:=cI (α:=Int) hlen hf 4 (o:=4) rfl rfl (by kernel_rfl) (kP IZ)
 exact ⟨⟨x0,x1,x2,x3,x4⟩,piece (o:=0) e0 (by rfl) (piece (o:=1) e1 (by rfl) (piece (o:=2) e2 (by rfl) (piece (o:=3) e3 (by rfl) (piece (o:=4) e4 (by rfl) (p_ hl (by kernel_rfl)))))),⟨o0,o1,o2,o3,o4⟩⟩
theorem EU:n9 Proofs.Tryz.prog 27 (List dC):=oc Proofs.Tryz.underlying27 (by kernel_rfl) rfl DI
theorem EV:n9 Proofs.Tryz.prog 29 aC:=by
 intro Hd enc w fuel cs d h;obtain ⟨xs,n,rfl,rfl,hl,hlen,hf⟩:=KU Proofs.Tryz.underlying29 h;obtain ⟨x0,⟨v0_0,e0,h0_0⟩,o0⟩:=cI (α:=(List ByteArray)) hlen hf 0 (o:=0) rfl rfl (by kernel_rfl) EO
 obtain ⟨x1,⟨v1_0,e1,h1_0⟩,o1⟩:=cI (α:=(List cE)) hlen hf 1 (o:=1) rfl rfl (by kernel_rfl) EP
 obtain ⟨x2,⟨v2_0,e2,h2_0⟩,o2⟩:=cI (α:=(List bH)) hlen hf 2 (o:=2) rfl rfl (by kernel_rfl) ER
 obtain ⟨x3,⟨v3_0,e3,h3_0⟩,o3⟩:=cI (α:=(List cP)) hlen hf 3 (o:=3) rfl rfl (by kernel_rfl) ES
 obtain ⟨x4,⟨v4_0,e4,h4_0⟩,o4⟩:=cI (α:=(List aK)) hlen hf 4 (o:=4) rfl rfl (by kernel_rfl) ET
 obtain ⟨x5,⟨v5_0,e5,h5_0⟩,o5⟩:=cI (α:=(List dC)) hlen hf 5 (o:=5) rfl rfl (by kernel_rfl) EU
 exact ⟨⟨x0,x1,x2,x3,x4,x5⟩,⟨v0_0,v1_0,v2_0,v3_0,v4_0,v5_0,piece (o:=0) e0 (by rfl) (piece (o:=1) e1 (by rfl) (piece (o:=2) e2 (by rfl) (piece (o:=3) e3 (by rfl) (piece (o:=4) e4 (by rfl) (piece (o:=5) e5 (by rfl) (p_ hl (by kernel_rfl))))))),h0_0,h1_0,h2_0,h3_0,h4_0,h5_0⟩,⟨o0,o1,o2,o3,o4,o5⟩⟩
theorem rX {W:World} (h0:laidMetH Proofs.Tryz.prog Proofs.YtcfeheigjjnpnaaGreatDoor.Rows.rebuildRelievesRow.laid W):cW W.heap.size W:=by
 rw [MakeChecks.laidMetH_plain _ _ _ (by kernel_rfl)] at h0
 have t4:Lib.TabIs Proofs.Tryz.prog W "math/bits.deBruijn32tab" .u8 GB:=Lib.tabIs_of_head GS (by kernel_rfl:(Proofs.Tryz.prog.globals[4]?).map (·.type)=some 275) Proofs.Tryz.underlying275 Proofs.Tryz.underlying5 (by kernel_rfl) (by kernel_rfl) (show laidMet Proofs.Tryz.prog (("math/bits.deBruijn32tab", Lib.tabData .u8 GB)::_) W from h0)
 have h1:=laidMet.tail h0;have t5:Lib.TabIs Proofs.Tryz.prog W "math/bits.deBruijn64tab" .u8 GC:=Lib.tabIs_of_head GP (by kernel_rfl:(Proofs.Tryz.prog.globals[5]?).map (·.type)=some 276) Proofs.Tryz.underlying276 Proofs.Tryz.underlying5 (by kernel_rfl) (by kernel_rfl) (show laidMet Proofs.Tryz.prog (("math/bits.deBruijn64tab", Lib.tabData .u8 GC)::_) W from h1)
 have h2:=laidMet.tail h1;have t3:Lib.TabIs Proofs.Tryz.prog W "internal/strconv.uint64pow10" .u64 Gg:=Lib.tabIs_of_head GO (by kernel_rfl:(Proofs.Tryz.prog.globals[3]?).map (·.type)=some 269) Proofs.Tryz.underlying269 Proofs.Tryz.underlying168 (by kernel_rfl) (by kernel_rfl) (show laidMet Proofs.Tryz.prog (("internal/strconv.uint64pow10", Lib.tabData .u64 Gg)::_) W from h2)
 have h3:=laidMet.tail h2;have star: "*" ++ "errors.errorString" = "*errors.errorString" := by decide
 have rowe:∀ u,Proofs.Tryz.prog.typeName? 3 u=some "*errors.errorString" → u=271:=fun u h=>typeName_ptr_named (nm:= "errors.errorString") (by rw [star]; kernel_rfl) (by kernel_rfl) (by decide) u (by rw [star]; exact h)
 obtain ⟨a2,s2,e2,-⟩:=laid_sentinel h3 GR (by kernel_rfl:(Proofs.Tryz.prog.globals[2]?).map (·.type)=some 200) Proofs.Tryz.underlying200 rowe Proofs.Tryz.underlying271 Proofs.Tryz.underlying273 rfl rfl II (by kernel_rfl) (by kernel_rfl)
 have h4:=laidMet.tail h3;obtain ⟨a1,s1,e1,-⟩:=laid_sentinel h4 GQ (by kernel_rfl:(Proofs.Tryz.prog.globals[1]?).map (·.type)=some 200) Proofs.Tryz.underlying200 rowe Proofs.Tryz.underlying271 Proofs.Tryz.underlying273 rfl rfl II (by kernel_rfl) (by kernel_rfl)
 exact { lt:=FR GP t5,t4:=t4,t5:=t5,t3:=t3,e2:=⟨_,_,e2⟩,e1:=⟨_,_,e1⟩ }
set_option maxRecDepth 100000 in
theorem ry (hp:∀ (x0:aC),ok x0→dZ x0=some true) (os:Os) (started:os.Started) (Hd:Type) (enc:TypeId×Value→Hd):
  ReturnsInHanded {} Proofs.Tryz.checked os 3 .any (fun w args=>(Proofs.YtcfeheigjjnpnaaGreatDoor.Rows.rebuildRelievesSpec.pre enc Proofs.Tryz.prog Proofs.Tryz.f3 Proofs.YtcfeheigjjnpnaaGreatDoor.Rows.rebuildRelievesRow.domain false w args∧laidMetH Proofs.Tryz.prog Proofs.YtcfeheigjjnpnaaGreatDoor.Rows.rebuildRelievesRow.laid w)∧sizedMet enc Proofs.Tryz.prog Proofs.Tryz.f3 (OpenSpec.ofChange Proofs.YtcfeheigjjnpnaaGreatDoor.Rows.rebuildRelievesSpec) false w args) (Proofs.YtcfeheigjjnpnaaGreatDoor.Rows.rebuildRelievesSpec.post enc Proofs.Tryz.prog Proofs.Tryz.f3 false true false false):=by
 refine returnsInHanded_of_change_and (C:=Proofs.Tryz.checked) (X:=fun w _=>laidMetH Proofs.Tryz.prog Proofs.YtcfeheigjjnpnaaGreatDoor.Rows.rebuildRelievesRow.laid w) (fun _ _ _ hh h=>h.of_heap hh) Ej started (by kernel_rfl) Proofs.Tryz.func3
  (ChangeSpec.witness_shaped (enc:=enc) (C:=Proofs.Tryz.checked) (os:=os) (X:=fun w _=>laidMetH Proofs.Tryz.prog Proofs.YtcfeheigjjnpnaaGreatDoor.Rows.rebuildRelievesRow.laid w) false (World.laidAll Proofs.Tryz.prog os Proofs.YtcfeheigjjnpnaaGreatDoor.Rows.rebuildRelievesRow.laid) #[.agg #[.slice none 0 0,.slice none 0 0,.slice none 0 0,.slice none 0 0,.slice none 0 0,.slice none 0 0]] 8 (World.laidAll_os _ _ _)
   (World.shaped_of_ZipB (by kernel_rfl) (by kernel_rfl)) (by kernel_rfl) (by kernel_rfl) (by kernel_rfl)
   (by rw [MakeChecks.laidMetH_plain _ _ _ (by kernel_rfl)]; exact laidMet_laidAll _ (by kernel_rfl) (by kernel_rfl))) ?_
 intro W base args ds gs before hval0 hW hcnd _ hL _;have hval:∀ (j:Nat) t v,Proofs.Tryz.f3.params[j]? = some t→args[j]? = some v→Value.okWide Proofs.Tryz.prog W .any base t v:=hval0
 haveI:cW W.heap.size W:=rX hL
 have hW2:DataW.Whole enc Proofs.Tryz.prog Proofs.Tryz.f3.params.toList Proofs.YtcfeheigjjnpnaaGreatDoor.Rows.rebuildRelievesSpec.vars false W args.toList ds gs before:=hW;obtain ⟨p,q,hA0,hV,rfl,hfz,hnd⟩:=hW;have hA:DataW.TrodAll enc Proofs.Tryz.prog W 0 (fun _=>true) true Proofs.Tryz.f3.params.toList args.toList ds p:=hA0;rw [Proofs.Tryz.params3] at hA hval;obtain ⟨v0,vs0,d0,ds0,p0,q0,hargs,rfl,rfl,h0,r0⟩:=trodAll_cons hA;obtain ⟨rfl,rfl,rfl⟩:=trodAll_nil r0;obtain rfl:args=#[v0]:=by cases args; simp_all
 obtain ⟨x0,cs0,rfl,⟨v0_0,v0_1,v0_2,v0_3,v0_4,v0_5,rfl,e0_0,e0_1,e0_2,e0_3,e0_4,e0_5⟩,ok0⟩:=zf Proofs.Tryz.underlying29 EV (hval 0 29 v0 rfl rfl) h0;have hc:=og (hp x0 ok0) e0_0 e0_1 e0_2 e0_3 e0_4 e0_5 (St.begin W);refine hc.mono fun e W' h=>?_;cases e with
 | returned v=>
  obtain ⟨H',M',hst,hphi⟩:=h;obtain ⟨_,_,rfl⟩:=hphi;exact ⟨_,rfl,CV CU rfl rfl LZ (by kernel_rfl) hW2 (fun _=>rfl) hst.below⟩
 | _=>exact h.elim
theorem sP (hp:∀ (x0:aC),ok x0→dZ x0=some true):Proofs.YtcfeheigjjnpnaaGreatDoor.Rows.RebuildRelievesSaid:=
 OpenClaim.holds_of_wide 3 Proofs.Tryz.f3 rfl rfl rfl rfl rfl rfl rfl ⟨rfl,rfl,rfl,rfl,rfl⟩ rfl rfl rfl rfl rfl (by kernel_rfl) Proofs.Tryz.func3 (by kernel_rfl)
  (Ht (by kernel_rfl)) (by unfold Func.isWrapper; first | (rw [Hv (by decide +kernel)]; kernel_rfl) | (rw [Hs (by decide +kernel)]; exact ⟨rfl,rfl⟩))
  (fun os started H enc _=>ry hp os started H enc)
end Go.Sim
