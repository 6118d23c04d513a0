/-
  The proof, part C4.
-/
import Derived.ProofKit
import Derived.Test.YthomhaphclgbcaaGreatDoorSqC3
set_option linter.unusedVariables false
set_option linter.unusedSimpArgs false
set_option linter.unusedSectionVars false
set_option linter.unnecessarySimpa false
namespace Go.Sim
open Go Go.RowKit Go.ChangeShapes Go.WideShapes Go.ChangeAt
open _root_.Go.IntKind (i64 u64 u32 u8)
class Ok (α:Type) where
 ok:α->Prop
abbrev ok {α:Type}[Ok α] (x:α):Prop:=Ok.ok x
def Lq (n:Int):Prop:=-9223372036854775808<=n/\n<=9223372036854775807
instance:Ok Int:=⟨Lq⟩
instance:Ok Bool:=⟨λ_=>True⟩
instance:Ok OX:=⟨λs=>s.size<=maxLen⟩
instance:Ok U8:=⟨λx=>0<=x.n/\x.n<=255⟩
instance:Ok NA:=⟨λx=>0<=x.n/\x.n<=65535⟩
instance:Ok bO:=⟨λx=>0<=x.n/\x.n<=4294967295⟩
instance:Ok NB:=⟨λx=>0<=x.n/\x.n<=18446744073709551615⟩
instance:Ok Ny:=⟨λx=>-2147483648<=x.n/\x.n<=2147483647⟩
instance {α:Type}[Ok α]:Ok (List α):=⟨λxs=>xs.length<=maxLen/\∀ x ∈ xs,ok x⟩
theorem wf_i64 {n:Int} (h:(Lit.int .i64 n).wf=true):Lq n:=by
 simp [Lit.wf,IntKind.min,IntKind.max,IntKind.signed,IntKind.bits] at h; exact ⟨by omega,by omega⟩
def og (P:Program) (T:TypeId) (α:Type) [aE α] [Ok α]:Prop:=
 ∀ (Hd:Type) (enc:TypeId×OY->Hd) (w:World) (I:Nat) (cs:List OY) (d:DataW Hd×List MemPlace),
  DataW.trod enc P w 0 (λ_=>true) true I T cs=some d->∃ x:α,aE.E (snap w) cs x/\ok x
section
variable {P:Program}{T:TypeId}
theorem jI (ht:P.underlying T=some (.int .i64)):og P T Int:=λ_ _ _ _ _ _ h=>by
 obtain ⟨n,rfl,rfl,I⟩:=DataW.trod_int ht h; exact ⟨n,rfl,wf_i64 I⟩
theorem xV (ht:P.underlying T=some .bool):og P T Bool:=λ_ _ _ _ _ _ h=>by
 obtain ⟨b,rfl,rfl⟩:=DataW.trod_bool ht h; exact ⟨b,rfl,O0⟩
theorem e_ (ht:P.underlying T=some .string):og P T OX:=λ_ _ _ _ _ _ h=>by
 obtain ⟨s,rfl,rfl,hs⟩:=DataW.trod_string ht h; exact ⟨s,rfl,hs⟩
theorem Df {α:Type}{p:Nat->α->Prop}:∀ n,(∀ i,i<n->∃ x,p i x)->∃ xs:List α,xs.length=n/\∀ i x,xs[i]? = some x->p i x:=by
 intro n
 induction n with
 | zero=>exact λ_=>⟨[],rfl,by simp⟩
 | succ n ih=>
  intro h;obtain ⟨xs,hl,I⟩:=ih λi hi=>h i (by omega)
  obtain ⟨y,J⟩:=h n (by omega)
  refine ⟨xs++[y],by simp [hl],λi x hi=>?_⟩
  rw [Q3] at hi
  split at hi
  ·exact I i x hi
  ·have:i-xs.length=0:=by
    have:=(O3.1 hi).1;simp at this; omega
   rw [this] at hi;simp at hi; subst hi
   rw [show i=n from by omega]; exact J
theorem oa {e:TypeId}{α:Type}[aE α] [Ok α] (ht:P.underlying T=some (.slice e)) (hs:P.cellsOf e=aE.sz α) (h0:Nat.blt 0 (aE.sz α)=true) (he:og P e α):og P T (List α):=λHd enc w fuel cs d h=>by
 have h0':0<aE.sz α:=by simpa [P9] using h0
 rcases DataW.trod_slice ht h with ⟨rfl,rfl⟩ | ⟨a,len,cap,Z,rest,n,rfl,rfl,rfl,_,hl,hm,hel,hE,hR,_⟩
 ·exact ⟨[],⟨_,rfl,.inl ⟨⟨_,rfl⟩,rfl⟩⟩,⟨Nat.zero_le _,λ_ h=>by cases h⟩⟩
 ·by_cases hc:cap=0
  ·subst hc
   obtain rfl:len=0:=by omega
   exact ⟨[],⟨_,rfl,.inl ⟨⟨_,rfl⟩,rfl⟩⟩,⟨Nat.zero_le _,λ_ h=>by cases h⟩⟩
  ·have Y:∀ i,i<cap->∃ J d,w.cells? 0 (a.add (i*P.cellsOf e)) (P.cellsOf e)=some J/\DataW.trod enc P w 0 (λ_=>true) true n e J=some d:=by
    intro i hi;have:∃ d,(w.cells? 0 (a.add (i*P.cellsOf e)) (P.cellsOf e)).bind (DataW.trod enc P w 0 (λ_=>true) true n e)=some d:=by
     by_cases hil:i<len
     ·exact ⟨Z[i]'(by omega),by rw [hE i hil]; exact OZ _⟩
     ·have:=(hR rfl).2 (i-len) (by omega)
      rw [show len+(i-len)=i from by omega] at this
      exact ⟨rest[i-len]'(by have:=(hR rfl).1; omega),by rw [this]; exact OZ _⟩
    obtain ⟨d,hd⟩:=this;obtain ⟨J,h1,h2⟩:=S2.1 hd;exact ⟨J,d,h1,h2⟩
   have O:∀ i,i<cap->∀ j,j<aE.sz α->∃ c,w.cell? ((a.add (i*aE.sz α)).add j)=some c:=by
    intro i hi j hj;obtain ⟨J,d,h1,_⟩:=Y i hi;rw [hs] at h1;obtain ⟨_,h2,h3⟩:=World.cells?_some h1;exact ⟨J[j]'(by omega),by rw [h3 j hj]; exact OZ _⟩
   obtain ⟨ab,ao,asp⟩:=a;have hb:asp=none/\∃ arr T fz,w.heap[ab]? = some (.cells arr T fz):=by
    obtain ⟨c,I⟩:=O 0 (by omega) 0 h0'
    rw [Qu] at I;simp only [Addr.add,SH,World.cell?] at I
    split at I
    ·rename_i arr T fz hh
     refine ⟨?_,arr,T,fz,hh⟩
     split at I
     ·cases I
     ·rename_i hn; cases asp <;> simp_all
    ·cases I
   obtain ⟨rfl,arr,T',fz,hh⟩:=hb;have hat:∀ i,i<cap->∀ j,j<aE.sz α->w.cell? (((⟨ab,ao,none⟩:Addr).add (i*aE.sz α)).add j)=arr[ao+i*aE.sz α+j]? := by
    intro i hi j hj;rw [P8,P8];simp [World.cell?,hh]
   have hsz:ao+cap*aE.sz α<=arr.size:=by
    obtain ⟨c,I⟩:=O (cap-1) (by omega) (aE.sz α-1) (by omega)
    rw [hat (cap-1) (by omega) _ (by omega)] at I
    have:=(Ql.1 I).1;have e1:cap*aE.sz α=(cap-1)*aE.sz α+aE.sz α:=by
     have:cap=(cap-1)+1:=by omega
     rw [this,Pm,SG]; simp
    omega
   obtain ⟨xs,hxl,hxs⟩:=Df (p:=λi (x:α)=>ok x/\∃ cs,aE.E (snap w) cs x/\∀ j c,cs[j]? = some c->arr[ao+i*aE.sz α+j]? = some c) len (by
    intro i hi;obtain ⟨J,d,h1,h2⟩:=Y i (by omega)
    obtain ⟨x,hx,hok⟩:=he _ _ _ _ _ _ h2;refine ⟨x,hok,J,hx,λj c hj=>?_⟩;rw [hs] at h1;obtain ⟨_,h3,h4⟩:=World.cells?_some h1;have hjl:=(O3.1 hj).1;rw [<- hat i (by omega) j (by omega),h4 j (by omega),hj])
   subst hxl;refine ⟨xs,⟨_,rfl,.inr ⟨ab,ao,cap,arr,T',fz,rfl,hl,hm,hh,hsz,λk x hk=>(hxs k x hk).2⟩⟩,by omega,λx hx=>?_⟩
   obtain ⟨k,hk⟩:=List.mem_iff_getElem?.1 hx;exact (hxs k x hk).1
theorem bM {Hd:Type}{enc:TypeId×OY->Hd}{w:World}{n:Nat}{cs:List OY}{fs:Array Field}{xs:List (DataW Hd×List MemPlace)}{α:Type}[aE α] [Ok α]
  (I:xs.length=fs.size) (Z:∀ (i:Nat) (f:Field),fs[i]? = some f->DataW.trod enc P w 0 (λ_=>true) true n f.type ((cs.drop f.offset).take (P.cellsOf f.type))=xs[i]?)
  (i:Nat) {f:Field}{o:Nat} (hi:fs[i]? = some f) (ho:f.offset=o) (hn:P.cellsOf f.type=aE.sz α) (ht:og P f.type α):∃ x:α,aE.E (snap w) ((cs.drop o).take (aE.sz α)) x/\ok x:=by
 have h:=Z i f hi;have J:i<xs.length:=by rw [I]; exact (Ql.1 hi).1
 rw [OZ J] at h;obtain ⟨x,Y,O⟩:=ht _ _ _ _ _ _ h;subst ho;rw [hn] at Y;exact ⟨x,Y,O⟩
theorem piece {cs r s:List OY}{o n m:Nat} (h:(cs.drop o).take n=r) (hm:o+n=m) (k:cs.drop m=s):cs.drop o=r++s:=by
 subst hm;rw [<- h,<- k,<- QG,Qn]
theorem pK {cs:List OY}{n m:Nat} (h:cs.length=n) (hm:n=m):cs.drop m=[]:=by subst hm; rw [<- h]; exact RN
end
section
variable {Hd:Type}{enc:TypeId×OY->Hd}{P:Program}{W:World}{T:TypeId}{v:OY}{d:DataW Hd}{p:List MemPlace}{base:Nat}
theorem Da {α:Type}[aE α] [Ok α] (ht:og P T α) (h:DataW.Trod enc P W 0 (λ_=>true) true T v d p):∃ x:α,aE.E (snap W) v.cells.toList x/\ok x:=by
 obtain ⟨n,h⟩:=h; exact ht _ _ _ _ _ _ h
theorem Gp {e:TypeId}{α:Type}[aE α] [Ok α] (Y:P.underlying T=some (.slice e)) (ht:og P T (List α)) (Z:Value.okWide P W .any base T v) (h:DataW.Trod enc P W 0 (λ_=>true) true T v d p):
  ∃ x:List α,aN (snap W) v x/\ok x:=by
 obtain ⟨a,l,c,rfl⟩:=okWide_slice Y Z;obtain ⟨x,⟨u,J,O⟩,I⟩:=Da ht h;simp [Value.cells] at J; subst J; exact ⟨x,O,I⟩
theorem Ee {fs:Array Field}{α:Type}[aE α] [Ok α] (J:P.underlying T=some (.struct fs)) (ht:og P T α) (O:Value.okWide P W .any base T v) (h:DataW.Trod enc P W 0 (λ_=>true) true T v d p):
  ∃ (x:α) (cs:List OY),v=.agg cs.toArray/\aE.E (snap W) cs x/\ok x:=by
 obtain ⟨cs,rfl,_⟩:=okWide_struct J O;obtain ⟨x,Y,I⟩:=Da ht h;exact ⟨x,cs.toList,by simp,Y,I⟩
end
theorem xz {Hd:Type}{enc:TypeId×OY->Hd}{P:Program} (hl:laidOutB P=true) {W Z:World} (hb:Below W.heap.size W Z):∀ {I:List TypeId}{vs:List OY}{J:List (DataW Hd)}{Y:List MemPlace},
  (I.all λt=>P.readableRec t && Nat.blt t P.types.size)=true->DataW.TrodAll enc P W 0 (λ_=>true) true I vs J Y->DataW.TrodAll enc P Z 0 (λb=>decide (b<W.heap.size)) true I vs J Y
 | [],[],[],_,_,h=>h
 | t::I,v::vs,d::J,Y,ht,h=>by
  obtain ⟨p,q,h1,h2,rfl⟩:=h;simp only [List.all_cons,QC,P9] at ht;have O:∀ x ∈ p,x.block<W.heap.size:=by obtain ⟨m,hm⟩:=h1; exact DataW.trod_lt m _ _ _ hm
  exact ⟨p,q,Below.trod hl ht.1.1 ht.1.2 h1 hb O,xz hl hb ht.2 h2,rfl⟩
 | [],_::_,_,_,_,h=>absurd h (by simp [DataW.TrodAll])
 | [],[],_::_,_,_,h=>absurd h (by simp [DataW.TrodAll])
 | _::_,[],_,_,_,h=>absurd h (by simp [DataW.TrodAll])
 | _::_,_::_,[],_,_,h=>absurd h (by simp [DataW.TrodAll])
theorem w5 {Hd:Type}{enc:TypeId×OY->Hd}{P:Program}{W:World}{base:Nat}{I:Nat->Bool}{held:Bool}:∀ {O:List TypeId}{vs:List OY}{J:List (DataW Hd)}{Y:List MemPlace},
  DataW.TrodAll enc P W base I held O vs J Y->J.length=O.length
 | [],[],[],_,_=>rfl
 | t::O,v::vs,d::J,Y,h=>by
  obtain ⟨p,q,h1,Z,rfl⟩:=h;simp [w5 Z]
 | [],_::_,_,_,h=>absurd h (by simp [DataW.TrodAll])
 | [],[],_::_,_,h=>absurd h (by simp [DataW.TrodAll])
 | _::_,[],_,_,h=>absurd h (by simp [DataW.TrodAll])
 | _::_,_::_,[],_,h=>absurd h (by simp [DataW.TrodAll])
theorem IE {Hd:Type}{enc:TypeId×OY->Hd}{P:Program}{O:Func}{s:ChangeSpec}{W W':World}{args:Array OY}{J gs:List (DataW Hd)}{I:List MemPlace}{tb:TypeId}
  (hl:laidOutB P=true) (hs:s.vars=[]) (hr:O.resultTypes=#[tb]) (hb:P.underlying tb=some .bool) (hp:(O.params.toList.all λt=>P.readableRec t && Nat.blt t P.types.size)=true)
  (hW:DataW.Whole enc P O.params.toList s.vars false W args.toList J gs I)
  (hfn:J.length=O.params.toList.length->s.fn Hd (J++[])={ results:=[.lit (.bool true)],args:=J })
  (Y:Below W.heap.size W W'):s.post enc P O false true false false W args (.bool true) W':=by
 have hW':=hW;obtain ⟨p,q,hA,hV,rfl,hfz,hnd⟩:=hW;rw [hs] at hV;obtain ⟨rfl,rfl⟩:=trodVars_none hV;have Z:J.length=O.params.toList.length:=by
  exact w5 hA
 have e:=hfn Z;have hA':=xz hl Y hp hA;refine ⟨J,[],_,[],p,[],hW',?_,?_,?_,Y.frame _,λh=>by cases h⟩
 ·rw [hr,e]; exact trodAll_mk1 (shut_bool hb _)
 ·rw [e]; exact hA'
 ·rw [hs,e]; rfl
end Go.Sim
