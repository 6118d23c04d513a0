/-
  The proof, part A2.
-/
import Derived.Lib.Bytealg
import Derived.Laws.Externs
import Derived.Lib.LaidTab
import Derived.Lib.AppendIntMem
import Derived.Lib.ItoaNum
import Derived.Lib.AtoiAll
import Derived.Lib.SmallJoins
import Derived.Laws.BytesString
import Derived.Laws.IdiomStrings
import Derived.Lib.ParseIntBMem
import Derived.Laws.IdiomRangeMap
import Derived.Lib.UnsafeStr
import Derived.Lib.Builder
import Derived.Lib.AppendStr
import Derived.Laws.Bits64b
import Derived.Test.YtkpbgofhndmbnaaGreatDoorSqA1
set_option linter.unusedVariables false
set_option linter.unusedSimpArgs false
set_option linter.unusedSectionVars false
set_option linter.unnecessarySimpa false
namespace Go.Sim
abbrev Rs := @Int.fdiv_eq_ediv_of_nonneg
abbrev Rk := @Int.le_refl
abbrev R7 := @Int.toNat_of_nonneg
abbrev R8 := @Go.Lib.strCells_length
abbrev Tk := @List.drop_succ_cons
abbrev Rf := @List.getElem?_replicate
abbrev Pj := @List.getElem?_set_ne
abbrev Pq := @List.getElem?_set_self
abbrev QR := @List.getElem_map
abbrev Qv := @List.length_drop
abbrev Qg := @List.length_set
abbrev Rd := @List.mem_of_mem_take
abbrev Ri := @List.replicate_succ
abbrev S_ := @List.set_getElem_self
abbrev Qm := @List.take_append_drop
abbrev Pb := @List.take_of_length_le
abbrev SV := @List.take_zero
abbrev R_ := @List.zipWith_append
abbrev Rn := @Nat.add_comm
abbrev QP := @Nat.lt_or_ge
abbrev RQ := @Nat.mod_lt
end Go.Sim
namespace Go.Sim
open Go Go.RowKit
open _root_.Go.IntKind (i64 u64 u32 u8)
def Nu (H:Hp) (v:Value) (n sz:Nat) (xs:List Value):Prop:=
 xs.length=n*sz/\(∀ u ∈ xs,u.oneCell'=true) /\
 (((∃ a,v=.slice a 0 0)/\n=0)\/∃ b off cap arr T fz,v=.slice (some ⟨b,off,none⟩) n cap/\H b=some (.cells arr T fz)/\∀ j u,xs[j]? = some u->arr[off+j]? = some u)
theorem Nu.shape {H:Hp}{v:Value}{n sz:Nat}{xs:List Value} (h:Nu H v n sz xs):∃ o c,v=.slice o n c:=by
 rcases h.2.2 with ⟨⟨a,rfl⟩,rfl⟩ | ⟨b,off,cap,arr,T,fz,rfl,_⟩ <;> exact ⟨_,_,rfl⟩
theorem Nu.isNil {H:Hp}{n m c sz:Nat}{xs:List Value} (h:Nu H (.slice none m c) n sz xs):n=0/\xs=[]:=by
 rcases h.2.2 with ⟨_,h0⟩ | ⟨b,off,cap,arr,T,fz,h0,_⟩
 ·subst h0; exact ⟨rfl,Pw (by rw [h.1,Qt])⟩
 ·cases h0
section
variable {B:Nat}{w0 w:World}{H:Hp}{M:List bL}
end
section
variable {x:Cx}{ops:Array Oper}{Q:lC}{rest:List Oper}{H:Hp}{M M':List bL}{L L':Env}
variable {d:Nat}{ty:TypeId}{pos:String}{aft:Array Edge}{g:Option (Nat×Bool)}
theorem Fp {o:Oper} (hd:o.dst=none) (hg:gd ops L o=some true)
  (hrun:∀ a w,Sl x.N L a->St x.B x.w0 H M w->∃ v w',(execOp a.eval o).run x.P w=.ok (.value v) w'/\∃ H' M',St x.B x.w0 H' M' w'/\W x ops Q rest H' M' L):
  W x ops Q (o::rest) H M L:=by
 intro a w hs ht;obtain ⟨v,w',hr,H',M',ht',k⟩:=hrun a w hs ht;refine SG λK hK=>?_;rw [O3 (hs.gd hg)];unfold Oper.wp;rw [hr];simp only [Oper.upon,hd];exact hK _ _ (k _ _ hs ht')
theorem sN {t e:TypeId}{sz len cap l h m:Nat}{y:Operand}{lo hi mx:Option Operand}{ad:Option Addr}
  (hg:gd ops L ⟨some d,.slice t y lo hi mx,ty,pos,aft,g⟩=some true) (hN:Nat.blt d x.N=true)
  (hT:∀ w,(underlying t).run x.P w=.ok (.slice e) w) (hs:∀ w,(sizeOf e).run x.P w=.ok sz w) (hy:ev L y=some (.slice ad len cap)) (hmh:mx=none\/∃ o,hi=some o)
  (hm:Ff L mx cap cap m) (hh:Ff L hi len m h) (hl:Ff L lo 0 h l)
  {v':Value} (hv:Value.slice (if m=l then ad else ad.map (·.add (l*sz))) (h-l) (m-l)=v')
  (k:W x ops Q rest H M ((d,v')::L)):
  W x ops Q (⟨some d,.slice t y lo hi mx,ty,pos,aft,g⟩::rest) H M L:=
 eO rfl hg hN (λc w hsl ht=>by
  rw [<- hv];simp only [execOp,hsl.ev hy,O8,sT hT hs (IP hmh) (hm.bd hsl) (hh.bd hsl) (hl.bd hsl),O4,Pc]) k
theorem Bk {zs:List Value} (h:∀ u ∈ zs,u.oneCell'=true) (h0:0<zs.length) (n:Nat):∀ u ∈ (Builtin.zeroCells zs.toArray n).toList,u.oneCell'=true:=by
 intro u hu;unfold Builtin.zeroCells at hu;simp only [Array.toList_map,RF,Array.toList_range,PL] at hu;obtain ⟨q,_,rfl⟩:=hu;have hlt:q%zs.length<zs.length:=RQ _ h0;have:zs.toArray[q%zs.length]! = zs[q%zs.length]:=by simp [hlt]
 rw [this];exact h _ (Pt _)
end
theorem DQ {P:Program}{w:World}{t tu ty e:TypeId}{sz n gb off cap a dl dc sl sc:Nat}{b:Addr}{xs news:List Value} (hT:P.underlying t=some (.slice e)) (hs:∀ w,(sizeOf e).run P w=.ok sz w)
  (hown:iB w e sz (.slice (some ⟨gb,off,none⟩) n cap) n xs) (ha:a+dl<=n)
  (hl:news.length=min sl dl*sz) (hnews:∀ j u,news[j]? = some u->w.cell? (b.add j)=some u) (h1:∀ u ∈ news,u.oneCell'=true):
  ∃ w',(Builtin.copy_ #[t,tu] ty #[.slice (some ⟨gb,off+a*sz,none⟩) dl dc,.slice (some b) sl sc]).run P w=.ok (.int .i64 (min sl dl:Nat)) w' /\
   iB w' e sz (.slice (some ⟨gb,off,none⟩) n cap) n (xs.take (a*sz)++news++xs.drop ((a+min sl dl)*sz))/\w.grownBy w' (some gb):=by
 rcases hown.2 with ⟨h0,_⟩ | ⟨gb2,off2,cap2,cur,he,hgb,hnc,hcm,hcs,htake⟩
 ·cases h0
 cases he;have hxl:xs.length=n*sz:=hown.1;have hm:(a+min sl dl)*sz<=n*sz:=Pe _ (by omega)
 have hmc:n*sz<=cap*sz:=Pe _ hnc;have hadd:(a+min sl dl)*sz=a*sz+min sl dl*sz:=Pk ..;have hf:=Tn (P:=P) w sz (min sl dl) b sl sc news hl hnews;obtain ⟨w',hst,hh,hgr⟩:=jV (P:=P) gb (off+a*sz) e news 0 cur.toList w (by simpa using hgb) (by simp; omega) h1
 refine ⟨w',?_,⟨?_,.inr ⟨gb,off,cap,_,rfl,hh,hnc,hcm,?_,?_⟩⟩,hgr⟩
 ·simp [Builtin.copy_,Qr hT,hs,Builtin.lenOf,hf,hst,goInt]
 ·simp only [Pg,Pn,Qv,hl,hxl]; omega
 ·simpa [oR] using hcs
 ·rw [Rj,Qs,vH _ _ _ (by simp; omega)]
  have hx1:xs.take (a*sz)=(cur.toList.take (off+a*sz)).drop off:=by
   rw [<- htake,SU,P2 (by omega),Rc,Q0]
  have hx2:xs.drop ((a+min sl dl)*sz)=(cur.toList.drop (off+a*sz+news.length)).take (n*sz-(a+min sl dl)*sz):=by
   rw [<- htake,Rc,QF]; congr 2; omega
  rw [hx1,hx2,Pr,RI (by simp; omega),<- Pr]
  have hlen:((cur.toList.take (off+a*sz)).drop off++news).length=a*sz+min sl dl*sz:=by
   rw [Pg,Qv,Pn,hl]; simp; omega
  have e:n*sz=((cur.toList.take (off+a*sz)).drop off++news).length+(n*sz-(a+min sl dl)*sz):=by rw [hlen]; omega
  conv=>lhs; rw [e]
  rw [List.take_length_add_append]
section
variable {x:Cx}{ops:Array Oper}{Q:lC}{rest:List Oper}{H:Hp}{M M':List bL}{L L':Env}
variable {d:Nat}{ty:TypeId}{pos:String}{aft:Array Edge}{g:Option (Nat×Bool)}
theorem yD {c:Code}{v:Value}{e:TypeId}{sz n:Nat}{xs:List Value} (h0:0<n)
  (k:∀ gb off cap,v=.slice (some ⟨gb,off,none⟩) n cap->n<=cap->Go.Sim.C x c Q H (.row v e sz n xs::M) L):Go.Sim.C x c Q H (.row v e sz n xs::M) L:=by
 intro a w hs ht;have hok:iB w e sz v n xs:=ht.ok _ (O0 ..);rcases hok.2 with ⟨_,h⟩ | ⟨gb,off,cap,cur,he,_,hnc,_⟩
 ·omega
 ·exact k gb off cap he hnc a w hs ht
theorem Fl {α:Type}[aF α] {t tu e:TypeId}{y u:Operand}{v vu:Value}{xs:List Value}{l ys:List α}
  (hg:gd ops L ⟨some d,.call ⟨.builtin .copy,#[y,u],#[t,tu]⟩,ty,pos,aft,g⟩=some true) (hN:Nat.blt d x.N=true)
  (hT:x.P.underlying t=some (.slice e)) (hsz:∀ w,(sizeOf e).run x.P w=.ok (aF.sz α) w) (hs:Nat.blt 0 (aF.sz α)=true)
  (hy:ev L y=some v) (hu:ev L u=some vu) (hx:Rw H v xs l) (hR:aP H vu ys) (h0:0<ys.length)
  (k:∀ xs',Rw H v xs' (ys.take (min ys.length l.length)++l.drop (min ys.length l.length))->W x ops Q rest H (.row v e (aF.sz α) l.length xs'::M) ((d,.int .i64 (min ys.length l.length:Nat))::L)):
  W x ops Q (⟨some d,.call ⟨.builtin .copy,#[y,u],#[t,tu]⟩,ty,pos,aft,g⟩::rest) H (.row v e (aF.sz α) l.length xs::M) L:=by
 refine rY rfl hg hN λa w hsl ht=>?_;have hown:iB w e (aF.sz α) v l.length xs:=ht.ok _ (O0 ..);obtain ⟨cs,hcs,hcase⟩:=hR.flat;rcases hcase with ⟨_,rfl⟩ | ⟨hc,b,off2,c,rfl⟩
 ·simp at h0
 by_cases hl0:l.length=0
 ·have hm0:min ys.length l.length=0:=by omega
  refine ⟨.int .i64 (min ys.length l.length:Nat),w,?_,H,_,ht,k xs (by rw [hm0]; simpa using hx)⟩
  have hf:(Builtin.firstCells (aF.sz α) 0 (.slice (some ⟨b,off2,none⟩) ys.length c)).run x.P w=.ok #[] w:=
   Tn (P:=x.P) w (aF.sz α) 0 ⟨b,off2,none⟩ ys.length c [] (by simp) (by simp)
  rw [hm0];rcases hown.2 with ⟨rfl,_⟩ | ⟨gb,off,cap,cur,rfl,_⟩
  ·simp [execOp,resolve,invoke,builtin,hsl.ev hy,hsl.ev hu,Builtin.copy_,Qr hT,hsz,Builtin.lenOf,hf,goInt]
  ·simp [execOp,resolve,invoke,builtin,hsl.ev hy,hsl.ev hu,Builtin.copy_,Qr hT,hsz,Builtin.lenOf,hf,goInt,hl0,storeCells]
 rcases hown.2 with ⟨_,h⟩ | ⟨gb,off,cap,cur,rfl,_⟩
 ·exact absurd h hl0
 obtain ⟨w',hr,ho,hgr⟩:=DQ (P:=x.P) (tu:=tu) (ty:=ty) (a:=0) (dl:=l.length) (dc:=cap) (b:=⟨b,off2,none⟩) (sl:=ys.length) (sc:=c) (news:=cs.take (min ys.length l.length*aF.sz α)) hT hsz hown (by omega)
  (by rw [Pn,hcs.len]; exact P2 (Pe _ (by omega)))
  (λj u hu=>by
   rw [PN] at hu
   split at hu
   ·exact ((hc j u hu).at (x:=x) (M:=.row (.slice (some ⟨gb,off,none⟩) l.length cap) e (aF.sz α) l.length xs::M)) w ht
   ·cases hu) (λu hu=>hcs.one u (Rd hu))
 rw [Qt,SV,Qy,Pm] at ho;rw [Qt,Qs] at hr;refine ⟨.int .i64 (min ys.length l.length:Nat),w',?_,H,_,ht.CS (r':=.row (.slice (some ⟨gb,off,none⟩) l.length cap) e (aF.sz α) l.length _) hgr ho (λb hb=>.inl hb),k _ ⟨(hcs.split _).1.app (hx.rd.split _).2,_,_,_,rfl⟩⟩;simp [execOp,resolve,invoke,builtin,hsl.ev hy,hsl.ev hu,hr]
theorem zM {α:Type}[aF α] {t tu e:TypeId}{gb off cap q dc sc:Nat}{y u:Operand}{xs:List Value}{l:List α}
  (hg:gd ops L ⟨some d,.call ⟨.builtin .copy,#[y,u],#[t,tu]⟩,ty,pos,aft,g⟩=some true) (hN:Nat.blt d x.N=true)
  (hT:x.P.underlying t=some (.slice e)) (hsz:∀ w,(sizeOf e).run x.P w=.ok (aF.sz α) w) (hs:Nat.blt 0 (aF.sz α)=true)
  (hx:Rw H (.slice (some ⟨gb,off,none⟩) l.length cap) xs l) (hq:q<=l.length)
  (hy:ev L y=some (.slice (some ⟨gb,off+q*aF.sz α,none⟩) (l.length-q) dc)) (hu:ev L u=some (.slice (some ⟨gb,off,none⟩) q sc))
  (k:∀ xs',Rw H (.slice (some ⟨gb,off,none⟩) l.length cap) xs' (l.take q++l.take (min q (l.length-q))++l.drop (q+min q (l.length-q))) ->
   W x ops Q rest H (.row (.slice (some ⟨gb,off,none⟩) l.length cap) e (aF.sz α) l.length xs'::M) ((d,.int .i64 (min q (l.length-q):Nat))::L)):
  W x ops Q (⟨some d,.call ⟨.builtin .copy,#[y,u],#[t,tu]⟩,ty,pos,aft,g⟩::rest) H (.row (.slice (some ⟨gb,off,none⟩) l.length cap) e (aF.sz α) l.length xs::M) L:=by
 refine rY rfl hg hN λa w hsl ht=>?_;have hown:iB w e (aF.sz α) (.slice (some ⟨gb,off,none⟩) l.length cap) l.length xs:=ht.ok _ (O0 ..);have hlen:=hx.rd.len;have hone:=hx.rd.one;have hmm:min q (l.length-q)*aF.sz α<=l.length*aF.sz α:=Pe _ (by omega)
 have hcell:∀ j u,(xs.take (min q (l.length-q)*aF.sz α))[j]? = some u->w.cell? ((⟨gb,off,none⟩:Addr).add j)=some u:=by
  intro j u hj;rcases hown.2 with ⟨h0,_⟩ | ⟨gb2,off2,cap2,cur,he,hgb,hnc,hcm,hcs,htake⟩
  ·cases h0
  cases he;rw [P5];refine Tc hgb rfl ?_;rw [PN] at hj
  split at hj
  ·rw [<- htake,PN] at hj
   split at hj
   ·rw [PG] at hj; simpa using hj
   ·cases hj
  ·cases hj
 obtain ⟨w',hr,ho,hgr⟩:=DQ (P:=x.P) (tu:=tu) (ty:=ty) (a:=q) (dl:=l.length-q) (dc:=dc) (b:=⟨gb,off,none⟩) (sl:=q) (sc:=sc) (news:=xs.take (min q (l.length-q)*aF.sz α)) hT hsz hown (by omega)
  (by rw [Pn,hlen]; omega) hcell (λu hu=>hone u (Rd hu))
 refine ⟨.int .i64 (min q (l.length-q):Nat),w',?_,H,_,ht.CS (r':=.row (.slice (some ⟨gb,off,none⟩) l.length cap) e (aF.sz α) l.length _) hgr ho (λb hb=>.inl hb),k _ ⟨?_,_,_,_,rfl⟩⟩
 ·simp [execOp,resolve,invoke,builtin,hsl.ev hy,hsl.ev hu,hr]
 ·exact ((hx.rd.split q).1.app (hx.rd.split (min q (l.length-q))).1).app (hx.rd.split (q+min q (l.length-q))).2
end
theorem C0 {x:Cx}{ops:Array Oper}{Q:lC}{rest:List Oper}{H:Hp}{M:List bL}{L:Env}{d:Nat}{f:FuncId}{args:List Operand}{tys:Array TypeId}{ty:TypeId}{pos:String}{aft:Array Edge}{g:Option (Nat×Bool)}{vs:List Value}{v:Value}
  (hx:∀ w,(callFunc f vs.toArray).run x.P w=.ok (.value v) w)
  (hg:gd ops L ⟨some d,.call ⟨.value (.func f),args.toArray,tys⟩,ty,pos,aft,g⟩=some true) (hN:Nat.blt d x.N=true)
  (hv:xH L args=some vs) (k:W x ops Q rest H M ((d,v)::L)):
  W x ops Q (⟨some d,.call ⟨.value (.func f),args.toArray,tys⟩,ty,pos,aft,g⟩::rest) H M L:=
 eO rfl hg hN (λa w hs ht=>by
  have hargs:args.toArray.map a.eval=vs.toArray:=by simp [hs.xH hv]
  simp only [execOp,resolve,hargs,Act.eval,Deferred.ofValue,O8,Pc,O4,invoke];simp [hx]) k
def LN (s:ByteArray) (c:Int):Int:=Go.Lib.indexByte s.data.toList c.toNat.toUInt8
theorem Dp {P:Program}{f:FuncId}{fn:Func} (hf:P.funcs[f]? = some fn) (h1:(fn.name == "runtime.NumGoroutine")=false) (h2:fn.body.isNone=true) (h3:Extern.findNext fn=none) (h4:Extern.find fn=some Extern.BytealgIndexByte.indexByte) (s:ByteArray) (c:Int):
  ∀ w,(callFunc f [.string s,.int .u8 c].toArray).run P w=.ok (.value (.int .i64 (LN s c))) w:=λw=>by
 rw [run_callFunc_extern hf h1 h2 h3 h4,show [Value.string s,.int .u8 c].toArray=#[.string s,.int .u8 c] from rfl,Go.Lib.run_indexByteString]
 rfl
section
variable {x:Cx}{ops:Array Oper}{Q:lC}{rest:List Oper}{H:Hp}{M M':List bL}{L L':Env}
variable {d:Nat}{ty:TypeId}{pos:String}{aft:Array Edge}{g:Option (Nat×Bool)}
theorem HC {t e:TypeId}{y:Operand}{ad:Option Addr}{c2:Nat}
  (hg:gd ops L ⟨none,.call ⟨.builtin .clear,#[y],#[t]⟩,ty,pos,aft,g⟩=some true)
  (hT:x.P.underlying t=some (.slice e)) (hy:ev L y=some (.slice ad 0 c2)) (k:W x ops Q rest H M L):
  W x ops Q (⟨none,.call ⟨.builtin .clear,#[y],#[t]⟩,ty,pos,aft,g⟩::rest) H M L:=
 Fp rfl hg λa w hsl ht=>⟨.tuple #[],w,by
  cases ad <;> simp [execOp,resolve,invoke,builtin,hsl.ev hy,Builtin.clear_,Qr hT],H,M,ht,k⟩
theorem CZ {t e:TypeId}{sz m n gb off cap i c2:Nat}{y:Operand}{z:Value}{zs xs:List Value}
  (hg:gd ops L ⟨none,.call ⟨.builtin .clear,#[y],#[t]⟩,ty,pos,aft,g⟩=some true)
  (hT:x.P.underlying t=some (.slice e)) (hz:∀ w,(zeroValue e).run x.P w=.ok z w) (hzs:z.cells=zs.toArray) (hzl:zs.length=sz) (h1:zs.all Value.oneCell'=true) (hs:Nat.blt 0 sz=true)
  (hi:i<m) (hy:ev L y=some (.slice (some ⟨gb,off+i*sz,none⟩) (m-i) c2))
  (k:W x ops Q rest H (.row (.slice (some ⟨gb,off,none⟩) m cap) e sz m (xs.take (i*sz)++(Builtin.zeroCells z.cells (m-i)).toList)::M) L):
  W x ops Q (⟨none,.call ⟨.builtin .clear,#[y],#[t]⟩,ty,pos,aft,g⟩::rest) H (.row (.slice (some ⟨gb,off,none⟩) m cap) e sz n xs::M) L:=by
 have hs':0<sz:=by simpa [P7] using hs
 refine Fp rfl hg λa w hsl ht=>?_;have hown:iB w e sz (.slice (some ⟨gb,off,none⟩) m cap) n xs:=ht.ok _ (O0 ..);rcases hown.2 with ⟨h0,_⟩ | ⟨gb2,off2,cap2,cur,he,hgb,hnc,hcm,hcs,htake⟩
 ·cases h0
 cases he;obtain ⟨q,hq⟩:∃ q,m-i=q+1:=⟨m-i-1,by omega⟩
 have hzlen:(Builtin.zeroCells z.cells (m-i)).toList.length=(m-i)*sz:=by
  unfold Builtin.zeroCells; rw [hzs]; simp [hzl]
 have hmul:m*sz<=cap*sz:=Pe _ hnc;have hsplit:i*sz+(m-i)*sz=m*sz:=by rw [<- Pk]; congr 1; omega
 have hone:∀ u ∈ (Builtin.zeroCells z.cells (m-i)).toList,u.oneCell'=true:=by
  rw [hzs]; exact Bk (λu hu=>P_.1 h1 u hu) (by omega) _
 obtain ⟨w',hst,hh,hgr⟩:=jV (P:=x.P) gb (off+i*sz) e (Builtin.zeroCells z.cells (m-i)).toList 0 cur.toList w (by simpa using hgb) (by rw [hzlen]; simp; omega) hone
 refine ⟨.tuple #[],w',?_,H,_,ht.CS (r':=.row (.slice (some ⟨gb,off,none⟩) m cap) e sz m (xs.take (i*sz)++(Builtin.zeroCells z.cells (m-i)).toList)) hgr ⟨?_,.inr ⟨gb,off,cap,_,rfl,hh,hnc,hcm,?_,?_⟩⟩ (λb hb=>.inl hb),k⟩
 ·rw [hq] at hst hy
  simp [execOp,resolve,invoke,builtin,hsl.ev hy,Builtin.clear_,Qr hT,hz,hst]
 ·rw [Pg,Pn,hzlen,hown.1]
  omega
 ·simpa [oR] using hcs
 ·rw [Rj,Qs,vH _ _ _ (by rw [hzlen]; simp; omega)]
  have hd:(cur.toList.take (off+i*sz)).drop off=xs.take (i*sz):=by
   rw [Rc,Q0,<- htake,SU,P2 (by omega)]
  have hlen2:((cur.toList.take (off+i*sz)).drop off++(Builtin.zeroCells z.cells (m-i)).toList).length=m*sz:=by
   rw [Pg,hd,Pn,hzlen,hown.1]; omega
  rw [Pr,RI (by simp; omega),<- Pr,<- hlen2]
  rw [R4,hd]
theorem sL {α:Type}[aF α] {t e:TypeId}{n:Nat}{y lo:Operand}{v:Value}{z:Value}{zs xs:List Value}{l:List α}{ze:α}{kk:IntKind}{i:Int}{ty2:TypeId}{pos2:String}{aft2:Array Edge}{g2:Option (Nat×Bool)}
  (hg:gd ops L ⟨some d,.slice t y (some lo) none none,ty,pos,aft,g⟩=some true) (hN:Nat.blt d x.N=true)
  (hg2:∀ u,gd ops ((d,u)::L) ⟨none,.call ⟨.builtin .clear,#[.tmp d],#[t]⟩,ty2,pos2,aft2,g2⟩=some true)
  (hT:x.P.underlying t=some (.slice e)) (hT2:∀ w,(underlying t).run x.P w=.ok (.slice e) w) (hsz:∀ w,(sizeOf e).run x.P w=.ok (aF.sz α) w)
  (hz:∀ w,(zeroValue e).run x.P w=.ok z w) (hzs:z.cells=zs.toArray) (h1:zs.all Value.oneCell'=true) (hs:Nat.blt 0 (aF.sz α)=true) (hE:aF.E H zs ze)
  (hy:ev L y=some v) (hlo:ev L lo=some (.int kk i)) (hx:Rw H v xs l) (hb:0<=i/\i<=(l.length:Int))
  (k:∀ u xs',Rw H v xs' (l.take i.toNat++List.replicate (l.length-i.toNat) ze)->W x ops Q rest H (.row v e (aF.sz α) (l.take i.toNat++List.replicate (l.length-i.toNat) ze).length xs'::M) ((d,u)::L)):
  W x ops Q (⟨some d,.slice t y (some lo) none none,ty,pos,aft,g⟩::⟨none,.call ⟨.builtin .clear,#[.tmp d],#[t]⟩,ty2,pos2,aft2,g2⟩::rest) H (.row v e (aF.sz α) n xs::M) L:=by
 obtain ⟨hb0,hb1⟩:=hb;obtain ⟨q,rfl⟩:∃ q:Nat,i=q:=⟨i.toNat,by omega⟩
 have hql:q<=l.length:=by omega
 rw [OX] at k;have hs':0<aF.sz α:=by simpa [P7] using hs
 have hlen:(l.take q++List.replicate (l.length-q) ze).length=l.length:=by simp; omega
 have hlk:∀ u,ev ((d,u)::L) (.tmp d)=some u:=λu=>by simp [ev,sD]
 have hn:∀ {a:Act}{w:World},St x.B x.w0 H (.row v e (aF.sz α) n xs::M) w->n=l.length:=λ{a w} ht=>by
  have hok:iB w e (aF.sz α) v n xs:=ht.ok _ (O0 ..);have h1:=hx.rd.len;rw [hok.1] at h1;exact QC hs' h1
 have same:l.length=q->∀ {L2:Env},(∀ xs',Rw H v xs' (l.take q++List.replicate (l.length-q) ze)->W x ops Q rest H (.row v e (aF.sz α) (l.take q++List.replicate (l.length-q) ze).length xs'::M) L2)->W x ops Q rest H (.row v e (aF.sz α) n xs::M) L2:=by
  intro hq L2 kk a w hsl ht;have hnn:=hn (a:=a) ht;subst hnn;have e:l.take q++List.replicate (l.length-q) ze=l:=by rw [hq,Qf,<- hq,QH]; simp
  have:=kk xs (by rw [e]; exact hx)
  rw [e] at this;exact this a w hsl ht
 intro a w hsl ht;have hnn:=hn (a:=a) ht;subst hnn;have hok:iB w e (aF.sz α) v l.length xs:=ht.ok _ (O0 ..)
 revert a w
 suffices hh:∀ (oo:Option Addr) (cap:Nat),v=.slice oo l.length cap->l.length<=cap->(q<l.length->∃ gb off,oo=some ⟨gb,off,none⟩) ->
   W x ops Q (⟨some d,.slice t y (some lo) none none,ty,pos,aft,g⟩::⟨none,.call ⟨.builtin .clear,#[.tmp d],#[t]⟩,ty2,pos2,aft2,g2⟩::rest) H (.row v e (aF.sz α) l.length xs::M) L by
  intro a w hsl ht hok;rcases hok.2 with ⟨e0,h0⟩ | ⟨gb,off,cap,cur,e0,_,hnc,_⟩
  ·exact hh none 0 (by rw [h0]; exact e0) (by omega) (λh=>by omega) a w hsl ht
  ·exact hh (some ⟨gb,off,none⟩) cap e0 hnc (λ_=>⟨gb,off,rfl⟩) a w hsl ht
 intro oo cap hv hnc hsome;subst hv
 by_cases hq:l.length=q
 ·refine sN (m:=cap) (h:=l.length) (l:=q) hg hN hT2 hsz hy (.inl rfl) (.inl ⟨rfl,rfl⟩) (.inl ⟨rfl,rfl⟩) (.inr ⟨_,_,_,rfl,hlo,by omega,by omega,by omega⟩) (v':=.slice (if cap=q then oo else oo.map (·.add (q*aF.sz α))) 0 (cap-q)) (by rw [hq,Qf]) ?_
  exact HC (hg2 _) hT (hlk _) (same hq (λxs' hx'=>k _ xs' hx'))
 ·obtain ⟨gb,off,rfl⟩:=hsome (by omega)
  refine sN (m:=cap) (h:=l.length) (l:=q) hg hN hT2 hsz hy (.inl rfl) (.inl ⟨rfl,rfl⟩) (.inl ⟨rfl,rfl⟩) (.inr ⟨_,_,_,rfl,hlo,by omega,by omega,by omega⟩) (v':=.slice (some ⟨gb,off+q*aF.sz α,none⟩) (l.length-q) (cap-q)) (by rw [O2 (by omega),Qo,P5]) ?_
  have hzl:zs.length=aF.sz α:=aF.len hE;refine CZ (i:=q) (sz:=aF.sz α) (hg2 _) hT hz hzs hzl h1 hs (by omega) (hlk _) ?_
  have hcells:(Builtin.zeroCells z.cells (l.length-q)).toList=(List.range ((l.length-q)*aF.sz α)).map (zs.toArray[·%zs.length]!):=by
   unfold Builtin.zeroCells;rw [hzs];simp [hzl]
  have hrw:Rw H (.slice (some ⟨gb,off,none⟩) l.length cap) (xs.take (q*aF.sz α)++(Builtin.zeroCells z.cells (l.length-q)).toList) (l.take q++List.replicate (l.length-q) ze):=
   ⟨(hx.rd.split q).1.app (by rw [hcells]; exact K6 hE hzl _),_,_,_,rfl⟩
  have:=k (.slice (some ⟨gb,off+q*aF.sz α,none⟩) (l.length-q) (cap-q)) _ hrw;rw [hlen] at this;exact this
end
theorem E_ (k:Nat):nJ .u64 (k:Int) 32=((k / 4294967296:Nat):Int):=by
 unfold nJ;rw [show (2:Int) ^ (min (32:Int).toNat u64.bits)=4294967296 from rfl];rw [Rs _ (by decide)]
 omega
def E5 {α:Type} (s:List α) (n:Int):List α:=(List.replicate n.toNat s).flatten
theorem wW {α:Type} (a:α) (m:Nat):E5 [a] (m:Int)=List.replicate m a:=by
 unfold E5;rw [OX]
 induction m with
 | zero=>rfl
 | succ m ih=>rw [Ri,Ri,List.flatten_cons,ih]; rfl
theorem DN {α:Type}{a:α}{l:List α}{q:Nat} (h:l.take q=List.replicate q a) (hq:q<=l.length):
  (l.take q++l.take (min q (l.length-q))++l.drop (q+min q (l.length-q))).take (q+min q (l.length-q))=List.replicate (q+min q (l.length-q)) a:=by
 have h2:l.take (min q (l.length-q))=List.replicate (min q (l.length-q)) a:=by
  have:=P3 (List.take (min q (l.length-q))) h
  rwa [SU,List.take_replicate,show min (min q (l.length-q)) q=min q (l.length-q) by omega] at this
 rw [h,h2,List.replicate_append_replicate];rw [List.take_append_of_le_length (by simp),Pb (by simp)]
section
variable {B:Nat}{w0 w w':World}{H:Hp}{M:List bL}
theorem St.var? (ht:St B w0 H M w) {P:Program}{n:String}{g:Nat} (hg:P.globalNamed n=some g) (hlt:g<B):w.var? P n=w0.var? P n:=by
 unfold World.var?;rw [hg];simp only [Rv];rw [ht.below.block g hlt]
theorem St.under (ht:St B w0 H M w) (hb:Below w.heap.size w w'):St B w0 H M w':=
 ht.grow ⟨hb.os,hb.tape,hb.output,hb.size,λi hi _=>hb.block i hi⟩
theorem St.OB (ht:St B w0 H M w) {P:Program}{n:String}{g:Nat}{k:IntKind}{zs:List Int} (hT:Lib.TabIs P w0 n k zs) (hg:P.globalNamed n=some g) (hlt:g<B):Lib.TabIs P w n k zs:=
 (ht.var? hg hlt).trans hT
end
theorem Ma {P:Program}{W:World}{n:String}{g:Nat}{cs:Array Value} (hg:P.globalNamed n=some g) (h:W.var? P n=some cs):g<W.heap.size:=by
 unfold World.var? at h;rw [hg] at h;simp only [Rv] at h
 split at h
 ·rename_i o _ _ ho
  exact (Qk.1 ho).1
 ·cases h
def K8 (v:Value) (b:Bool):Prop:=(b=false/\v=.nilIface)\/(b=true/\∃ T p,v=.iface T p)
section
variable {x:Cx}{ops:Array Oper}{Q:lC}{rest:List Oper}{H:Hp}{M:List bL}{L:Env}
variable {d:Nat}{ty:TypeId}{pos:String}{aft:Array Edge}{g:Option (Nat×Bool)}
theorem JC {t u:TypeId}{y:Operand}{v:Value}{b:Bool}{ms:Array (String×TypeId)} (hT:∀ w,(underlying t).run x.P w=.ok (.interface ms) w) (he:K8 v b) (hg:gd ops L ⟨some d,.binOp .neq t y (.const .nilIface) u,ty,pos,aft,g⟩=some true) (hN:Nat.blt d x.N=true)
  (hy:ev L y=some v) (k:W x ops Q rest H M ((d,.bool b)::L)):W x ops Q (⟨some d,.binOp .neq t y (.const .nilIface) u,ty,pos,aft,g⟩::rest) H M L:=
 eO rfl hg hN (λc w hs _=>by
  have hz:c.eval (.const .nilIface)=.nilIface:=rfl;rcases he with ⟨rfl,rfl⟩ | ⟨rfl,T,p,rfl⟩
  ·have key:∀ k,(Op.equalIn (k+1) t .nilIface .nilIface).run x.P w=.ok true w:=λk=>by
    unfold Op.equalIn;simp [hT]
   have h':(Op.equal t .nilIface .nilIface).run x.P w=.ok true w:=key 9999;simp only [execOp,hs.ev hy,hz,O8,eqGuard,binOp];simp [h']
  ·have key:∀ k,(Op.equalIn (k+1) t (.iface T p) .nilIface).run x.P w=.ok false w:=λk=>by
    unfold Op.equalIn;simp [hT]
   have h':(Op.equal t (.iface T p) .nilIface).run x.P w=.ok false w:=key 9999;simp only [execOp,hs.ev hy,hz,O8,eqGuard,binOp];simp [h']) k
def x_ (l:List U8):ByteArray:=⟨(l.map λy=>UInt8.ofNat y.n.toNat).toArray⟩
theorem Aj:∀ (ns:List Int) (r:ByteArray),ns.foldl (λr n=>r.push (UInt8.ofNat n.toNat)) r=⟨r.data++(ns.map λn=>UInt8.ofNat n.toNat).toArray⟩
 | [],r=>by simp
 | n::ns,r=>by
  rw [List.foldl_cons,Aj ns];simp [ByteArray.push]
theorem aP.bytes {H:Hp}{v:Value}{l:List U8} (hR:aP H v l) {B:Nat}{w0 w:World}{M:List bL}{P:Program} (ht:St B w0 H M w):(Conv.bytesToString v).run P w=.ok (.string (x_ l)) w:=by
 rcases hR with ⟨⟨a,rfl⟩,rfl⟩ | ⟨b,off,cap,arr,T,fz,rfl,h2,h3,h4,h5,h6⟩
 ·cases a with
  | none=>rfl
  | some a=>
   rw [run_bytesToString w a 0 0 [] (by simp [loadCells,loadCellsFrom,Pc])]
   rfl
 ·have hl:=run_loadCells_list (P:=P) w ⟨b,off,none⟩ ((l.map λy=>y.n).map (Value.int .u8)) (λj v hj=>by
   rw [Ps,Ps,Option.map_map,Sp] at hj;obtain ⟨y,hy,rfl⟩:=hj;obtain ⟨cs,q1,q2⟩:=h6 j y hy;have q1:cs=[.int .u8 y.n]:=q1;have:=q2 0 (.int .u8 y.n) (by rw [q1]; rfl)
   have hb:=ht.tG b _ h4;rw [P5];simp only [World.cell?,hb];simpa [aF.sz] using this)
  simp only [QN] at hl;rw [run_bytesToString w ⟨b,off,none⟩ l.length cap _ hl,Aj];have he0:ByteArray.empty.data=#[]:=rfl;rw [he0];simp [x_,List.map_map,Function.comp_def]
end
def r7 (n:Int):ByteArray:=⟨(Lib.itoa n).toArray⟩
def Kh (s:ByteArray):Int×Bool:=match Lib.parseUintM 4294967295 0 s.data.toList with
 | .ok v=>((v:Int),false)
 | .range=>(4294967295,true)
 | _=>(0,true)
end Go.Sim
namespace Go.Sim
open Go
open _root_.Go.IntKind (i64 u64 u32 u8)
abbrev u4 (b c:Nat) (seen:Array Nat):Obj:=.mapIter (some b) c seen c
theorem G6 {P:Program}{w:World}{ty:TypeId}{b c it:Nat}{seen:Array Nat}{es:Array MapEntry} (hi:w.heap[it]? = some (u4 b c seen)) (hb:w.heap[b]? = some (.map es c)) (hold:∀ e ∈ es.toList,e.born<c):
  ((∀ e ∈ es.toList,seen.contains e.born=true)/\(Instr.next (.pointer (some ⟨it,0,none⟩)) false ty).run P w=.ok (.tuple #[.bool false]) w) \/
  ∃ e ∈ es.toList,seen.contains e.born=false/\∃ n,(Instr.next (.pointer (some ⟨it,0,none⟩)) false ty).run P w=.ok (.tuple #[.bool true,e.key,e.val]) { w with drawn:=n,heap:=w.heap.setIfInBounds it (u4 b c (seen.push e.born)) }:=by
 simp only [Instr.next,getObj,O8,Sem.run,hi,hb,Result.andThen,next_test_false seen es c c hold (Pl _),PZ,Qw];have hmem:∀ x ∈ (Array.filter (λe=>!seen.contains e.born) es).toList,x ∈ es.toList/\seen.contains x.born=false:=λx hx=>by simpa using hx
 have hall:Array.filter (λe=>!seen.contains e.born) es=#[]->∀ e ∈ es.toList,seen.contains e.born=true:=λh e he=>by
  rw [Array.filter_eq_empty_iff] at h;have:=h e (by simpa using he)
  simpa using this
 generalize Array.filter (λe=>!seen.contains e.born) es=K at hmem hall ⊢;have e1:K.filter (λx=>decide (x.born<c))=K:=Array.filter_eq_self.2 (λx hx=>by
  have:=hold x (hmem x (by simpa using hx)).1
  simpa using this)
 have e2:K.filter (λx=>decide (x.born≥c))=#[]:=by
  rw [Array.filter_eq_empty_iff];intro x hx;have:=hold x (hmem x (by simpa using hx)).1
  simp;omega
 simp only [e1,e2,Array.append_empty]
 by_cases h0:K.size=0
 ·left
  have:K=#[]:=Array.eq_empty_of_size_eq_zero h0;subst this;refine ⟨hall rfl,?_⟩;simp [choose,Sem.run,Question.forced]
 ·right
  have hne:K.isEmpty=false:=by simp [Array.isEmpty,h0]
  simp only [hne,PZ,Qw,Array.empty_append,Array.size_map];have hch:∃ (j n:Nat),j<K.size/\(choose (Question.mapNext K.size)).run P w=.ok j { w with drawn:=n }:=by
   by_cases hf:K.size<=1
   ·exact ⟨0,w.drawn,by omega,by simp [choose,Sem.run,Question.forced,hf]⟩
   ·exact ⟨_,w.drawn+1,RQ _ (by omega),by
     simp only [choose,Sem.run,Question.forced,PF,hf,Qw,Question.cut]
     rfl⟩
  obtain ⟨j,n,hj,hrun⟩:=hch;obtain ⟨m1,m2⟩:=hmem K[j] (by simp)
  refine ⟨K[j],m1,m2,n,?_⟩;have hset:∀ o,(setObj it o).run P { w with drawn:=n }=.ok () { w with drawn:=n,heap:=w.heap.setIfInBounds it o }:=λo=>by simp [setObj,Sem.run,hi]
  simp only [hrun,Array.getElem?_map,RC hj,Qo,O8,hset,Result.andThen]
  rfl
theorem E6 {P:Program}{w:World}{b c it:Nat}{seen:Array Nat}{es:Array MapEntry}{e:MapEntry} (hi:w.heap[it]? = some (u4 b c (seen.push e.born))) (hb:w.heap[b]? = some (.map es c)) (he:e ∈ es.toList) (hn:(es.toList.map (·.born)).Nodup):
  (Instr.entry (.pointer (some ⟨it,0,none⟩))).run P w=.ok (.tuple #[e.key,e.val]) w:=by
 have hf:es.find? (·.born == e.born)=some e:=by rw [<- Array.find?_toList]; exact find_born e es.toList hn he
 simp only [Instr.entry,getObj,O8,Sem.run,hi,hb,Result.andThen,Array.back?_push,bne_self_eq_false,PZ,Qw,hf]
 rfl
section
variable {x:Cx}{ops:Array Oper}{Q:lC}{rest:List Oper}{H:Hp}{M M':List bL}{L L':Env}
variable {d:Nat}{ty:TypeId}{pos:String}{aft:Array Edge}{g:Option (Nat×Bool)}
variable {κ ν:Type}[DecidableEq κ] [vV κ] [MV ν]
theorem HJ {t key e:TypeId}{b c:Nat}{y:Operand}{es:Array MapEntry} (hm:bL.obj b (.map es c) ∈ M)
  (hg:gd ops L ⟨some d,.range t y,ty,pos,aft,g⟩=some true) (hN:Nat.blt d x.N=true)
  (hT:∀ w,(underlying t).run x.P w=.ok (.map key e) w) (hy:ev L y=some (.map (some b)))
  (k:∀ it,W x ops Q rest H (.obj it (u4 b c #[])::M) ((d,.pointer (some ⟨it,0,none⟩))::L)):
  W x ops Q (⟨some d,.range t y,ty,pos,aft,g⟩::rest) H M L:=
 rY rfl hg hN (λa w hs ht=>⟨_,w.alloc (u4 b c #[]),by
  have hb:=ht.uO hm;simp only [execOp,hs.ev hy,Instr.range,O8,hT,O4,vK hb,Pc,newObj,Sem.run,World.alloc],_,_,ht.alloc _,k _⟩)
theorem JD {b c it:Nat}{y:Operand}{seen:Array Nat}{es:Array MapEntry}{l:List (κ×ν)} (hm:bL.obj b (.map es c) ∈ M) (h:rB es c l)
  (hg:gd ops L ⟨some d,.next y false,ty,pos,aft,g⟩=some true) (hN:Nat.blt d x.N=true) (hy:ev L y=some (.pointer (some ⟨it,0,none⟩)))
  (k1:(∀ e ∈ es.toList,seen.contains e.born=true)->W x ops Q rest H (.obj it (u4 b c seen)::M) ((d,.tuple #[.bool false])::L))
  (k2:∀ e ∈ es.toList,seen.contains e.born=false->W x ops Q rest H (.obj it (u4 b c (seen.push e.born))::M) ((d,.tuple #[.bool true,e.key,e.val])::L)):
  W x ops Q (⟨some d,.next y false,ty,pos,aft,g⟩::rest) H (.obj it (u4 b c seen)::M) L:=
 rY rfl hg hN (λa w hs ht=>by
  have hi:=ht.uO (O0 ..);have hb:=ht.uO (O5 _ hm);have hlt:it<w.heap.size:=(Qk.1 hi).1;rcases G6 (P:=x.P) (ty:=ty) hi hb h.lt with ⟨hall,hr⟩ | ⟨e,he,hne,n,hr⟩
  ·exact ⟨_,w,by simp only [execOp,hs.ev hy,O8,hr,O4,Pc],_,_,ht,k1 hall⟩
  ·refine ⟨_,{ w with drawn:=n,heap:=w.heap.setIfInBounds it (u4 b c (seen.push e.born)) },by simp only [execOp,hs.ev hy,O8,hr,O4,Pc],_,_,?_,k2 e he hne⟩
   have h1:=ht.CS (r':=.obj it (u4 b c (seen.push e.born))) (wL w it (u4 b c (seen.push e.born))) (by simp [bL.ok,hlt]) (λ_ hc=>.inl hc)
   exact h1.drewN n)
theorem HD {b c it:Nat}{y:Operand}{seen:Array Nat}{es:Array MapEntry}{l:List (κ×ν)}{e:MapEntry} (hi:bL.obj it (u4 b c (seen.push e.born)) ∈ M) (hm:bL.obj b (.map es c) ∈ M) (h:rB es c l) (he:e ∈ es.toList) {vk vv:Value} (hk:e.key=vk) (hv:e.val=vv)
  (hg:gd ops L ⟨some d,.entry y,ty,pos,aft,g⟩=some true) (hN:Nat.blt d x.N=true) (hy:ev L y=some (.pointer (some ⟨it,0,none⟩)))
  (k:W x ops Q rest H M ((d,.tuple #[vk,vv])::L)):
  W x ops Q (⟨some d,.entry y,ty,pos,aft,g⟩::rest) H M L:=
 eO rfl hg hN (λa w hs ht=>by
  subst hk; subst hv
  simp only [execOp,hs.ev hy,O8,E6 (P:=x.P) (ht.uO hi) (ht.uO hm) he h.nd,O4,Pc]) k
end
theorem rB.pick {κ ν:Type}[DecidableEq κ] [vV κ] [MV ν] {es:Array MapEntry}{c:Nat}{l:List (κ×ν)} (h:rB es c l) {e:MapEntry} (he:e ∈ es.toList):∃ (i:Nat) (p:κ×ν),es.toList[i]? = some e/\l[i]? = some p/\e.key=MV.mv p.1/\e.val=MV.mv p.2:=by
 obtain ⟨i,hi,rfl⟩:=Qb.1 he;have h1:(es.toList.map λe=>(e.key,e.val))[i]? = (l.map λp=>(MV.mv p.1,MV.mv p.2))[i]? := by rw [h.eq]
 rw [Ps,Ps,OU hi] at h1;cases hp:l[i]? with
 | none=>rw [hp] at h1; simp at h1
 | some p=>
  rw [hp] at h1;simp only [Qo,Pf,Ra] at h1;exact ⟨i,p,OU hi,hp,h1.1,h1.2⟩
def xX {α:Type} (es:Array MapEntry) (seen:Array Nat) (l:List α) (P:α->Bool):Prop:=∀ (i:Nat) (p:α),l[i]? = some p->∀ e,es.toList[i]? = some e->seen.contains e.born=true->P p=false
theorem xX.nil {α:Type}{es:Array MapEntry}{l:List α}{P:α->Bool}:xX es #[] l P:=λi p hp e he h=>by simp at h
theorem xX.push {κ ν:Type}[DecidableEq κ] [vV κ] [MV ν] {es:Array MapEntry}{c:Nat}{seen:Array Nat}{l:List (κ×ν)}{P:κ×ν->Bool} (hs:xX es seen l P) (h:rB es c l) {i:Nat}{p:κ×ν}{e:MapEntry}
  (hi:es.toList[i]? = some e) (hp:l[i]? = some p) (hP:P p=false):xX es (seen.push e.born) l P:=λj q hq e' he' hc=>by
 by_cases hj:i=j
 ·subst hj
  rw [hp] at hq;obtain rfl:=OZ hq;exact hP
 ·refine hs j q hq e' he' ?_
  have hne:e'.born≠e.born:=λhb=>by
   obtain ⟨h1,h2⟩:=OY.1 hi;obtain ⟨h3,h4⟩:=OY.1 he';have hpw:=RZ.1 h.nd;have h1':i<(es.toList.map (·.born)).length:=by simpa using h1
   have h3':j<(es.toList.map (·.born)).length:=by simpa using h3
   rcases Nat.lt_or_gt_of_ne hj with hlt | hlt
   ·exact hpw i j h1' h3' hlt (by rw [QR,QR,h2,h4]; exact hb.symm)
   ·exact hpw j i h3' h1' hlt (by rw [QR,QR,h2,h4]; exact hb)
  simp at hc ⊢;rcases hc with hc | hc
  ·exact hc
  ·exact absurd hc hne
theorem xX.none {κ ν:Type}[DecidableEq κ] [vV κ] [MV ν] {es:Array MapEntry}{c:Nat}{seen:Array Nat}{l:List (κ×ν)}{P:κ×ν->Bool} (hs:xX es seen l P) (h:rB es c l) (hall:∀ e ∈ es.toList,seen.contains e.born=true):l.any P=false:=by
 rw [List.any_eq_false];intro p hp;obtain ⟨i,hi,rfl⟩:=Qb.1 hp;have hlen:es.toList.length=l.length:=by have:=P3 List.length h.eq; simpa using this
 have hi':i<es.toList.length:=by omega
 have:=hs i l[i] (OU hi) es.toList[i] (OU hi') (hall _ (Pt hi'));simp [this]
theorem Ly {α:Type}{l:List α}{P:α->Bool}{i:Nat}{p:α} (hp:l[i]? = some p) (hP:P p=true):l.any P=true:=
 List.any_eq_true.2 ⟨p,O7 hp,hP⟩
def CL (es:Array MapEntry) (seen:Array Nat):Nat:=(es.toList.filter λe=>!seen.contains e.born).length
theorem Hf {es:Array MapEntry}{seen:Array Nat}{e:MapEntry} (he:e ∈ es.toList) (h:seen.contains e.born=false):CL es (seen.push e.born)<CL es seen:=by
 unfold CL;refine filter_lt (λe=>!seen.contains e.born) (λe'=>!(seen.push e.born).contains e'.born) (λy hy=>?_) e (by simp only [h]; rfl) (by simp) es.toList he
 simp at hy ⊢;exact hy.1
end Go.Sim
namespace Go.Sim
open Go Go.RowKit
open _root_.Go.IntKind (i64 u64 u32 u8)
def Np (b:Nat) (p:Value):Prop:=p=.pointer none\/p=.pointer (some ⟨b,0,none⟩)
theorem zp (s:ByteArray):Lib.strCells s=(jM s).map (λy=>Value.int .u8 y.n):=by
 simp [Lib.strCells,jM,Function.comp_def]
theorem pD.u8 (H:Hp) (l:List U8):pD H (l.map λy=>Value.int .u8 y.n) l:=by
 induction l with
 | nil=>exact pD.nil
 | cons y l ih=>exact ⟨[.int .u8 y.n],_,rfl,rfl,ih⟩
theorem yW {P:Program}{w:World}{t u ty e:TypeId}{i:TypeInfo} (ht:P.underlying t=some (.slice e)) (hu:P.underlying u=some .string) (hi:P.info? e=some i) (hz:i.zero=some (.int .u8 0))
  (hsize:i.size=1) (hby:i.bytes=1) {v:Value}{n:Nat}{xs:List Value} (hown:iB w e 1 v n xs) (s:ByteArray) (h63:n+s.size<=maxLen) (hbytes:n+s.size<=140737488355328):
  ∃ v' w',(Builtin.append_ #[t,u] ty #[v,.string s]).run P w=.ok v' w'/\iB w' e 1 v' (n+s.size) (xs++Lib.strCells s)/\w.grownBy w' v.ownBlock /\
   (∀ b,v'.ownBlock=some b->v.ownBlock=some b\/w.heap.size<=b):=by
 have hsmall:n+s.size<=9223372036854775807:=by simp only [maxLen] at h63; omega
 have hxl:xs.length=n:=by simpa using hown.1
 have hlen:(xs++Lib.strCells s).length=(n+s.size)*1:=by rw [Pg,hxl,R8,Ro]
 have grown:∀ (uh:Nat) (row:Option Nat),
   iB (w.drew.alloc (.cells (xs.toArray++(Lib.strCells s).toArray++Builtin.zeroCells (Value.int .u8 0).cells (grownCap w (n+s.size) uh e-(n+s.size))) e)) e 1
    (.slice (some ⟨w.heap.size,0,none⟩) (n+s.size) (grownCap w (n+s.size) uh e)) (n+s.size) (xs++Lib.strCells s) /\
   w.grownBy (w.drew.alloc (.cells (xs.toArray++(Lib.strCells s).toArray++Builtin.zeroCells (Value.int .u8 0).cells (grownCap w (n+s.size) uh e-(n+s.size))) e)) row:=by
  intro uh row;have hge:=Tr w (n+s.size) uh e;have hcm:grownCap w (n+s.size) uh e<=maxLen:=SR w (n+s.size) uh e h63;refine ⟨⟨hlen,.inr ⟨w.heap.size,0,_,_,rfl,SX w.drew _,hge,hcm,?_,?_⟩⟩,⟨rfl,rfl,rfl,by simp,λk hk _=>heap_alloc_old w.drew _ (h:=hk)⟩⟩
  ·have hz1:(Value.int u8 0).cells.size=1:=rfl
   simp only [Array.size_append,RF,size_zeroCells,hz1,hxl,R8];omega
  ·simp only [Qh,Tj,Pr]
   rw [<- Pr,<- hlen];exact R4
 rcases hown.2 with ⟨rfl,rfl⟩ | ⟨g,off,cap,cur,rfl,hg,hnc,hcm,hcs,htake⟩
 ·have hx:xs=[]:=Pw hxl
  subst hx
  by_cases hm:s.size=0
  ·have hn:Lib.strCells s=[]:=Pw (by rw [R8]; exact hm)
   refine ⟨.slice none 0 0,w,?_,by rw [hm,hn]; exact iB.nil w e 1,⟨rfl,rfl,rfl,Pl _,λ_ _ _=>rfl⟩,by simp [Value.ownBlock]⟩
   have hf:=Lib.run_firstCells_string (P:=P) w 1 s;rw [hm] at hf;simp [Builtin.append_,Qr ht,Qr hu,sizeOf,typeInfo,hi,hsize,Builtin.lenOf,hm,hf]
  ·have hr:=run_append_nil_string (P:=P) w t u ty e i (.int .u8 0) ht hu hi hz s (by omega) (by omega) (by rw [hby]; omega)
   have hgr:=grown 0 (Value.ownBlock (.slice none 0 0));simp only [Pm,Qy,Array.empty_append] at hgr ⊢;have e1:(s.data.map λb=>Value.int .u8 b.toNat)=(Lib.strCells s).toArray:=by
    apply Array.ext';simp [Lib.strCells]
   rw [e1] at hr;exact ⟨_,_,hr,hgr.1,hgr.2,λb hb=>.inr (by simp only [Value.ownBlock,Pf] at hb; omega)⟩
 ·have hcs':off+cap<=cur.size:=by simpa using hcs
  by_cases hroom:n+s.size<=cap
  ·have hf:=Lib.run_firstCells_string (P:=P) w 1 s
   obtain ⟨w',hst,hh,hgr⟩:=jV (P:=P) g (off+n) e (Lib.strCells s) 0 cur.toList w (by simpa using hg) (by rw [R8]; simp; omega) (Lib.strCells_oneCell s)
   refine ⟨.slice (some ⟨g,off,none⟩) (n+s.size) cap,w',?_,⟨hlen,.inr ⟨g,off,cap,_,rfl,hh,hroom,hcm,?_,?_⟩⟩,hgr,λb hb=>.inl hb⟩
   ·simp [Builtin.append_,Qr ht,Qr hu,sizeOf,typeInfo,hi,hsize,Builtin.lenOf,hroom,hf,P5,hst]
   ·simpa [oR] using hcs
   ·rw [Rj,Qs,vH _ _ _ (by rw [R8]; simp; omega)]
    have hd:(cur.toList.take (off+n)).drop off=xs:=by rw [Rc,Q0]; simpa using htake
    rw [Pr,RI (by simp; omega),hd,<- Pr,<- hlen]
    exact R4
  ·have holds:∀ j u,xs[j]? = some u->w.cell? ((⟨g,off,none⟩:Addr).add j)=some u:=by
    intro j u hu;rw [P5];refine Tc hg rfl ?_;rw [<- htake,PN] at hu
    split at hu
    ·rw [PG] at hu; simpa using hu
    ·cases hu
   have hr:=Lib.run_append_grow_string (P:=P) w t u ty e i (.int .u8 0) ht hu hi hz ⟨g,off,none⟩ n cap xs (by rw [hsize]; simpa using hxl) holds s (by omega) (by omega) (by rw [hby]; exact Tp (by omega) (by omega))
   have hgr:=grown cap (Value.ownBlock (.slice (some ⟨g,off,none⟩) n cap));exact ⟨_,_,hr,hgr.1,hgr.2,λb hb=>.inr (by simp only [Value.ownBlock,Pf] at hb; omega)⟩
section
variable {x:Cx}{ops:Array Oper}{Q:lC}{rest:List Oper}{H:Hp}{M M':List bL}{L L':Env}
variable {d:Nat}{ty:TypeId}{pos:String}{aft:Array Edge}{g:Option (Nat×Bool)}
theorem CY {t u e:TypeId}{n:Nat}{y z:Operand}{v:Value}{xs:List Value}{l:List U8}{s:ByteArray}
  (hg:gd ops L ⟨some d,.call ⟨.builtin .append,#[y,z],#[t,u]⟩,ty,pos,aft,g⟩=some true) (hN:Nat.blt d x.N=true)
  (hT:x.P.underlying t=some (.slice e)) (hU:x.P.underlying u=some .string) (hi:Mp x.P e 1 1 (.int .u8 0))
  (hy:ev L y=some v) (hz:ev L z=some (.string s)) (hx:Rw H v xs l) (hb:l.length+s.size<=140737488355328)
  (k:∀ v' xs',Rw H v' xs' (l++jM s)->W x ops Q rest H (.row v' e (aF.sz U8) (l++jM s).length xs'::M) ((d,v')::L)):
  W x ops Q (⟨some d,.call ⟨.builtin .append,#[y,z],#[t,u]⟩,ty,pos,aft,g⟩::rest) H (.row v e (aF.sz U8) n xs::M) L:=by
 obtain ⟨i,h1,h2,h3,h4⟩:=hi.ex;refine rY rfl hg hN λa w hsl ht=>?_;have hown:iB w e 1 v n xs:=ht.ok _ (O0 ..);have hn:n=l.length:=by
  have:=hx.rd.len;rw [hown.1] at this;exact QC (Nat.zero_lt_one) this
 subst hn;obtain ⟨v',w',hr,ho,hgr,hfr⟩:=yW (P:=x.P) (ty:=ty) hT hU h1 h4 h2 h3 hown s (by unfold maxLen; omega) hb
 have hlen:(l++jM s).length=l.length+s.size:=by rw [Pg,xD]
 have hok:bL.ok w' (.row v' e (aF.sz U8) (l++jM s).length (xs++Lib.strCells s)):=by rw [hlen]; exact ho
 refine ⟨v',w',?_,H,_,ht.CS (r':=.row v' e (aF.sz U8) (l++jM s).length (xs++Lib.strCells s)) hgr hok hfr,k v' _ ⟨?_,ho.shape⟩⟩
 ·simp [execOp,resolve,invoke,builtin,hsl.ev hy,hsl.ev hz,hr]
 ·rw [zp]
  exact hx.rd.app (pD.u8 H _)
theorem C4 {t e u:TypeId}{y z:Operand}{a:Addr} (hi:∃ j,x.P.info? e=some j) (hg:gd ops L ⟨some d,.binOp .neq t y z u,ty,pos,aft,g⟩=some true) (hN:Nat.blt d x.N=true)
  (hT:x.P.underlying t=some (.pointer e)) (hy:ev L y=some (.pointer (some a))) (hz:ev L z=some (.pointer (some a)))
  (k:W x ops Q rest H M ((d,.bool false)::L)):W x ops Q (⟨some d,.binOp .neq t y z u,ty,pos,aft,g⟩::rest) H M L:=
 eO rfl hg hN (λc w hs _=>by
  obtain ⟨j,hj⟩:=hi;have h:=Lib.run_neq_ptr_same (P:=x.P) w a hT hj;simp only [execOp,hs.ev hy,hs.ev hz,O8,eqGuard];simp [h]) k
theorem BC {B:Nat}{w0 w:World}{b:Nat}{cs:List Value}{T:TypeId} (ht:St B w0 H M w) (hm:bL.obj b (.cells cs.toArray T (0,0)) ∈ M):w.shape? b=some (T,cs.length):=by
 have h:=ht.uO hm;simp [World.shape?,h]
theorem Ec {src dst T e:TypeId}{y:Operand}{b o:Nat}{cs:List Value} (hm:bL.obj b (.cells cs.toArray e (0,0)) ∈ M) (ho:Nat.blt o cs.length=true)
  (hi:∃ j,x.P.info? T=some j/\Nat.beq j.size 0=false) (hg:gd ops L ⟨some d,.convert src dst y,ty,pos,aft,g⟩=some true) (hN:Nat.blt d x.N=true)
  (hs:x.P.underlying src=some (.pointer T)) (hd:x.P.underlying dst=some .unsafePointer) (hy:ev L y=some (.pointer (some ⟨b,o,none⟩)))
  (k:W x ops Q rest H M ((d,.pointer (some ⟨b,o,none⟩))::L)):W x ops Q (⟨some d,.convert src dst y,ty,pos,aft,g⟩::rest) H M L:=
 eO rfl hg hN (λc w hsl ht=>by
  obtain ⟨j,hj,hj0⟩:=hi;have h:=Lib.run_to_unsafe (P:=x.P) w ⟨b,o,none⟩ hs hd hj (λe=>by rw [e] at hj0; cases hj0) (BC ht hm) (by simpa [P7] using ho)
  simp only [execOp,hsl.ev hy,O8,h,O4,Pc]) k
theorem BS {src dst T e:TypeId}{y:Operand}{b o:Nat}{cs:List Value} (hm:bL.obj b (.cells cs.toArray e (0,0)) ∈ M)
  (hi:∃ j,x.P.info? T=some j) (hl:liesAt x.P x.P.depth e (cs.length / x.P.cellsOf e) o T 1=true) (hg:gd ops L ⟨some d,.convert src dst y,ty,pos,aft,g⟩=some true) (hN:Nat.blt d x.N=true)
  (hs:x.P.underlying src=some .unsafePointer) (hd:x.P.underlying dst=some (.pointer T)) (hy:ev L y=some (.pointer (some ⟨b,o,none⟩)))
  (k:W x ops Q rest H M ((d,.pointer (some ⟨b,o,none⟩))::L)):W x ops Q (⟨some d,.convert src dst y,ty,pos,aft,g⟩::rest) H M L:=
 eO rfl hg hN (λc w hsl ht=>by
  obtain ⟨j,hj⟩:=hi;have h:=Lib.run_from_unsafe (P:=x.P) w ⟨b,o,none⟩ hs hd hj (BC ht hm) hl;simp only [execOp,hsl.ev hy,O8,h,O4,Pc]) k
theorem Cs {P:Program}{f:FuncId}{fn:Func} (hf:P.funcs[f]? = some fn) (h1:(fn.name == "runtime.NumGoroutine")=false) (h2:fn.body.isNone=true) (h3:Extern.findNext fn=none) (h4:Extern.find fn=some Extern.AbiNoEscape.same) (v:Value):
  ∀ w,(callFunc f [v].toArray).run P w=.ok (.value v) w:=λw=>by
 rw [run_callFunc_extern hf h1 h2 h3 h4,show [v].toArray=#[v] from rfl,Lib.run_noEscape]
 rfl
theorem C6 {ts:Array TypeId}{y:Operand}{a:Addr}{n c:Nat} (hg:gd ops L ⟨some d,.call ⟨.builtin .unsafeSliceData,#[y],ts⟩,ty,pos,aft,g⟩=some true) (hN:Nat.blt d x.N=true)
  (hy:ev L y=some (.slice (some a) n c)) (hc:c≠0) (k:W x ops Q rest H M ((d,.pointer (some a))::L)):
  W x ops Q (⟨some d,.call ⟨.builtin .unsafeSliceData,#[y],ts⟩,ty,pos,aft,g⟩::rest) H M L:=
 eO rfl hg hN (λs w hsl ht=>by
  have h:=Lib.run_unsafeSliceData_row (P:=x.P) w ts ty a n c hc;simp [execOp,resolve,invoke,builtin,hsl.ev hy,h]) k
theorem wY {P:Program} (w:World):∀ (l:List U8) (a:Addr) (acc:ByteArray),(∀ j y,l[j]? = some y->w.cell? (a.add j)=some (.int .u8 y.n)) ->
  (loadBytes a acc l.length).run P w=.ok ⟨acc.data++(l.map λy=>UInt8.ofNat y.n.toNat).toArray⟩ w
 | [],a,acc,_=>by simp [loadBytes]
 | y::l,a,acc,h=>by
  have h0:w.cell? a=some (.int .u8 y.n):=by
   have:=h 0 y rfl;simpa [Addr.add] using this
  have ih:=wY (P:=P) w l (a.add 1) (acc.push (UInt8.ofNat y.n.toNat)) (λj z hz=>by
   have:=h (j+1) z (by simpa using hz)
   have e:(a.add 1).add j=a.add (j+1):=by
    unfold Addr.add
    by_cases hj:j=0
    ·subst hj; simp
    ·simp [hj]; omega
   rw [e]; exact this)
  have hx:(y.n.toNat).toUInt8=UInt8.ofNat y.n.toNat:=rfl;simp only [O6,loadBytes,O8,run_load,h0,Result.andThen,hx];rw [ih]
  congr 1
  apply ByteArray.ext;simp [ByteArray.push]
theorem Be {P:Program}{e:TypeId} (hc:P.cellsOf e=1) (count off n:Nat) (hn:off+n<=count):liesAt P P.depth e count off e n=true:=by
 have hd:P.depth=(2*(P.types.size+Made.depth)+1)+1:=rfl;rw [hd];simp only [liesAt,Qu]
 left
 rw [hd];simp [rowAt,hc,hn,sameLayout,Nat.mod_one]
theorem C7 {pt it e:TypeId}{y z:Operand}{gb off n cap:Nat}{xs:List Value}{l:List U8}
  (hg:gd ops L ⟨some d,.call ⟨.builtin .unsafeString,#[y,z],#[pt,it]⟩,ty,pos,aft,g⟩=some true) (hN:Nat.blt d x.N=true)
  (hp:x.P.underlying pt=some (.pointer e)) (hc:x.P.cellsOf e=1)
  (hy:ev L y=some (.pointer (some ⟨gb,off,none⟩))) (hz:ev L z=some (.int .i64 (l.length:Int))) (h0:0<l.length)
  (hx:Rw H (.slice (some ⟨gb,off,none⟩) n cap) xs l)
  (k:W x ops Q rest H M ((d,.string (x_ l))::L)):
  W x ops Q (⟨some d,.call ⟨.builtin .unsafeString,#[y,z],#[pt,it]⟩,ty,pos,aft,g⟩::rest) H (.row (.slice (some ⟨gb,off,none⟩) n cap) e (aF.sz U8) n xs::M) L:=by
 refine rY rfl hg hN λa w hsl ht=>?_;have hown:iB w e 1 (.slice (some ⟨gb,off,none⟩) n cap) n xs:=ht.ok _ (O0 ..);have hn:n=l.length:=by
  have:=hx.rd.len;rw [hown.1] at this;exact QC (Nat.zero_lt_one) this
 rcases hown.2 with ⟨h,_⟩ | ⟨g',off',nF,cur,he,hgc,hnc,hcm,hcs,htake⟩
 ·cases h
 cases he;have hcs':off+cap<=cur.size:=by simpa using hcs
 have hsh:w.shape? gb=some (e,cur.size):=by simp [World.shape?,hgc]
 have hcell:∀ j y,l[j]? = some y->w.cell? ((⟨gb,off,none⟩:Addr).add j)=some (.int .u8 y.n):=by
  intro j y hj;obtain ⟨cs,h1,h2⟩:=hx.rd.get j y hj;have h1:cs=[.int .u8 y.n]:=h1;have h3:=h2 0 (.int .u8 y.n) (by rw [h1]; rfl)
  rw [P5];refine Tc hgc rfl ?_;rw [<- htake,PN] at h3
  split at h3
  ·rw [PG] at h3
   simpa [aF.sz] using h3
  ·cases h3
 have hlb:=wY (P:=x.P) w l ⟨gb,off,none⟩ .empty hcell;have hlies:=Be (P:=x.P) hc (cur.size / x.P.cellsOf e) off l.length (by rw [hc,Nat.div_one]; omega)
 have hmax:i64.max=9223372036854775807:=rfl;have hl0:l.length≠0:=by omega
 have h63':¬ (9223372036854775807:Int)<(l.length:Int):=by unfold maxLen at hcm; omega
 have hneg:¬ (l.length:Int)<0:=by omega
 have hrun:(Builtin.unsafeString_ #[pt,it] ty #[.pointer (some ⟨gb,off,none⟩),.int .i64 l.length]).run x.P w=.ok (.string (x_ l)) (w.freeze ⟨gb,off,none⟩ l.length):=by
  have hdef:Builtin.unsafeString_ #[pt,it] ty #[.pointer (some ⟨gb,off,none⟩),.int .i64 l.length] =
    (do
     let n <- asInt (.int .i64 l.length)
     if n<0 then runtimePanic (.error "unsafe.String: len out of range")
     if n > i64.max then unsupported (.unsafePointer "String: a length above the largest int")
     if n=0 then pure (.string .empty)
     else if <- variablesAt ⟨gb,off,none⟩ (<- elemOf pt) n.toNat then do
      let s <- loadBytes ⟨gb,off,none⟩ .empty n.toNat
      freeze ⟨gb,off,none⟩ n.toNat
      pure (.string s)
     else unsupported (.unsafePointer "String: not so many bytes at ptr")):=rfl
  rw [hdef];have he0:ByteArray.empty.data=#[]:=rfl;simp [asInt,asIntOf,hmax,h63',hneg,hl0,variablesAt,hsh,elemOf,Qr hp,hlies,hlb,x_]
 have hgr:w.grownBy (w.freeze ⟨gb,off,none⟩ l.length) (some gb):=by
  unfold World.freeze
  split
  ·exact ⟨rfl,rfl,rfl,Pl _,λ_ _ _=>rfl⟩
  ·exact ⟨rfl,rfl,rfl,by simp,λq hq hne=>by
    simp only [S7];rw [O2 (by intro e; exact hne (by rw [e]))]⟩
 have h1:=ht.CS (r':=.row (.slice none 0 0) 0 1 0 []) hgr (iB.nil _ _ _) (by intro b hb; simp [bL.ye,Value.ownBlock] at hb)
 refine ⟨.string (x_ l),w.freeze ⟨gb,off,none⟩ l.length,?_,H,M,h1.tail,k⟩;simp [execOp,resolve,invoke,builtin,hsl.ev hy,hsl.ev hz,hrun]
end
end Go.Sim
namespace Go.Sim
open Go
open _root_.Go.IntKind (i64 u64 u32 u8)
def rowsOf (T:TypeId) (sz:Nat) {α:Type} (ws:List (Value×List Value)) (ls:List (List α)):List bL:=List.zipWith (λw l=>bL.row w.1 T sz l.length w.2) ws ls
structure Mx {α:Type}[aF α] (T1 T2:TypeId) (H:Hp) (v:Value) (hs:List Value) (mx:List bL) (sg:List Nat) (ls:List (List α)):Prop where
 ex:∃ (xs:List Value) (ws:List (Value×List Value)),mx=.row v T1 1 sg.length xs::rowsOf T2 (aF.sz α) ws ls/\ws.length=ls.length/\ws.map (·.1)=hs/\(∀ (k:Nat) (w:Value×List Value) (l:List α),ws[k]? = some w->ls[k]? = some l->Rw H w.1 w.2 l) /\
  xs.length=sg.length/\(∀ (i k:Nat),sg[i]? = some k->∃ w:Value×List Value,ws[k]? = some w/\xs[i]? = some w.1)
 sl:∃ a n c,v=.slice a n c
section
variable {α:Type}[aF α] {T1 T2:TypeId}{H H':Hp}{v:Value}{hs:List Value}{mx:List bL}{sg:List Nat}{ls:List (List α)}
theorem Mx.mono (h:Mx T1 T2 H v hs mx sg ls) (hle:H.le H'):Mx T1 T2 H' v hs mx sg ls:=by
 obtain ⟨xs,ws,h1,h2,h2',h3,h4,h5⟩:=h.ex;exact ⟨⟨xs,ws,h1,h2,h2',λk w l a b=>(h3 k w l a b).mono hle,h4,h5⟩,h.sl⟩
theorem EH {ws:List (Value×List Value)}{k:Nat}{w:Value} (hh:ws.map (·.1)=hs) (hw:hs[k]? = some w):∃ u,ws[k]? = some u/\u.1=w:=by
 rw [<- hh,Ps] at hw;cases e:ws[k]? with
 | none=>rw [e] at hw; simp at hw
 | some u=>rw [e] at hw; exact ⟨u,rfl,OZ hw⟩
theorem Mx.row (h:Mx T1 T2 H v hs mx sg ls) {k:Nat}{w:Value} (hw:hs[k]? = some w):∃ (xs:List Value) (m1 m2:List bL),k<ls.length/\mx=m1++.row w T2 (aF.sz α) ((ls[k]?).getD []).length xs::m2/\Rw H w xs ((ls[k]?).getD []) /\
  ∀ (H':Hp) (xs':List Value) (l':List α),H.le H'->Rw H' w xs' l'->Mx T1 T2 H' v hs (m1++.row w T2 (aF.sz α) l'.length xs'::m2) sg (ls.set k l'):=by
 obtain ⟨oxs,ws,rfl,h2,h2',h3,h4,h5⟩:=h.ex;have hh:=hw;clear hw;obtain ⟨w,hw,rfl⟩:=EH h2' hh;have hkw:k<ws.length:=(OY.1 hw).1;have hk:k<ls.length:=by omega
 have hl:=OU hk;have hwe:ws[k]=w:=by rw [OU hkw] at hw; exact OZ hw
 have hsp:∀ (ws:List (Value×List Value)) (ls:List (List α)) (h1:k<ws.length) (h2:k<ls.length),rowsOf T2 (aF.sz α) ws ls=rowsOf T2 (aF.sz α) (ws.take k) (ls.take k)++.row ws[k].1 T2 (aF.sz α) ls[k].length ws[k].2::rowsOf T2 (aF.sz α) (ws.drop (k+1)) (ls.drop (k+1)):=λws ls h1 h2=>by
  have e1:ws=ws.take k++ws[k]::ws.drop (k+1):=by rw [<- Px h1,Qm]
  have e2:ls=ls.take k++ls[k]::ls.drop (k+1):=by rw [<- Px h2,Qm]
  have e3:rowsOf T2 (aF.sz α) ws ls=rowsOf T2 (aF.sz α) (ws.take k++ws[k]::ws.drop (k+1)) (ls.take k++ls[k]::ls.drop (k+1)):=by rw [<- e1,<- e2]
  rw [e3];unfold rowsOf;rw [R_ (by simp; omega)]
  rfl
 have hg:(ls[k]?).getD []=ls[k]:=by rw [hl]; rfl
 rw [hg];refine ⟨w.2,.row v T1 1 sg.length oxs::rowsOf T2 (aF.sz α) (ws.take k) (ls.take k),rowsOf T2 (aF.sz α) (ws.drop (k+1)) (ls.drop (k+1)),hk,?_,h3 k w _ hw hl,λH' xs' l' hle hr=>⟨⟨oxs,ws.set k (w.1,xs'),?_,by simp [h2],?_,λj u l hu hl'=>?_,h4,λi' j hj=>?_⟩,h.sl⟩⟩
 ·rw [hsp ws ls hkw hk,hwe]; rfl
 ·rw [hsp (ws.set k (w.1,xs')) (ls.set k l') (by simpa using hkw) (by simpa using hk)]
  have t1:(ws.set k (w.1,xs')).take k=ws.take k:=RM (Pl k);have t2:(ls.set k l').take k=ls.take k:=RM (Pl k);have t3:(ws.set k (w.1,xs')).drop (k+1)=ws.drop (k+1):=Rh (Q3 k);have t4:(ls.set k l').drop (k+1)=ls.drop (k+1):=Rh (Q3 k);rw [t1,t2,t3,t4];simp
 ·rw [List.map_set,h2']
  obtain ⟨e1,e2⟩:=OY.1 hh;rw [<- e2,S_]
 ·by_cases e:k=j
  ·subst e
   rw [Pq hkw] at hu;rw [Pq hk] at hl';obtain rfl:=OZ hu;obtain rfl:=OZ hl';exact hr
  ·rw [Pj e] at hu hl'
   exact (h3 j u l hu hl').mono hle
 ·obtain ⟨u,hu,hx'⟩:=h5 i' j hj
  by_cases e:k=j
  ·subst e
   rw [hw] at hu;obtain rfl:=OZ hu;exact ⟨(w.1,xs'),by rw [Pq hkw],hx'⟩
  ·exact ⟨u,by rw [Pj e]; exact hu,hx'⟩
theorem Mx.outer (h:Mx T1 T2 H v hs mx sg ls):∃ oxs m2,mx=.row v T1 1 sg.length oxs::m2/\oxs.length=sg.length/\(∀ (i k:Nat),sg[i]? = some k->∃ w,hs[k]? = some w/\oxs[i]? = some w) /\
  (∀ (i k:Nat) (w:Value),i<sg.length->hs[k]? = some w->Mx T1 T2 H v hs (.row v T1 1 (sg.set i k).length (oxs.set i w)::m2) (sg.set i k) ls) /\
  (∀ (i:Nat) (w:Value) (xs:List Value) (l:List α),i<sg.length->Rw H w xs l->Mx T1 T2 H v (hs++[w]) (.row v T1 1 (sg.set i ls.length).length (oxs.set i w)::(m2++[.row w T2 (aF.sz α) l.length xs])) (sg.set i ls.length) (ls++[l])):=by
 obtain ⟨oxs,ws,rfl,h2,h2',h3,h4,h5⟩:=h.ex;refine ⟨oxs,_,rfl,h4,λi k hk=>?_,λi k w hi hw=>?_,λi w xs l hi hr=>?_⟩
 ·obtain ⟨u,hu,hx⟩:=h5 i k hk
  exact ⟨u.1,by rw [<- h2',Ps,hu]; rfl,hx⟩
 ·obtain ⟨u,hu,rfl⟩:=EH h2' hw
  refine ⟨⟨oxs.set i u.1,ws,rfl,h2,h2',h3,by simp [h4],λi' k' hk'=>?_⟩,h.sl⟩
  by_cases e:i=i'
  ·subst e
   rw [Pq hi] at hk';obtain rfl:=OZ hk';exact ⟨u,hu,by rw [Pq (by omega)]⟩
  ·rw [Pj e] at hk'
   obtain ⟨u',hu',hx'⟩:=h5 i' k' hk';exact ⟨u',hu',by rw [Pj e]; exact hx'⟩
 ·refine ⟨⟨oxs.set i w,ws++[(w,xs)],?_,by simp [h2],by simp [h2'],λj u l' hu hl'=>?_,by simp [h4],λi' k' hk'=>?_⟩,h.sl⟩
  ·unfold rowsOf
   rw [R_ h2]
   rfl
  ·rcases QP j ls.length with hj | hj
   ·rw [Qa (by omega)] at hu hl'
    exact h3 j u l' hu hl'
   ·rw [Pz (by omega)] at hu hl'
    rw [h2] at hu;cases e:j-ls.length with
    | zero=>
     rw [e] at hu hl';obtain rfl:=OZ hu;obtain rfl:=OZ hl';exact hr
    | succ m=>rw [e] at hu; simp at hu
  ·by_cases e:i=i'
   ·subst e
    rw [Pq hi] at hk';obtain rfl:=OZ hk';exact ⟨(w,xs),by rw [Pz (by omega),h2,Qf]; rfl,by rw [Pq (by omega)]⟩
   ·rw [Pj e] at hk'
    obtain ⟨u',hu',hx'⟩:=h5 i' k' hk';exact ⟨u',by rw [Qa (OY.1 hu').1]; exact hu',by rw [Pj e]; exact hx'⟩
end
structure Gc where
 mk ::
instance:aF Gc where
 sz:=1
 E _ cs _:=cs=[.slice none 0 0]
 len h:=by rw [h]; rfl
 mono _ h:=h
 one h c hc:=by rw [h] at hc; simp at hc; subst hc; rfl
theorem AG {H:Hp}:∀ {n:Nat}{xs:List Value},pD H xs (List.replicate n Gc.mk)->xs=List.replicate n (.slice none 0 0)
 | 0,xs,h=>h
 | n+1,xs,h=>by
  obtain ⟨cs,r,rfl,he,hr⟩:=h;have he:cs=[.slice none 0 0]:=he;rw [he,AG hr]; rfl
section
variable {α:Type}[aF α] {T1 T2:TypeId}{H H':Hp}{v:Value}{hs:List Value}{mx:List bL}{sg:List Nat}{ls:List (List α)}
theorem Mx.make {n:Nat}{oxs:List Value} (h:Rw H v oxs (List.replicate n Gc.mk)):Mx T1 T2 H v [.slice none 0 0] (.row v T1 1 (List.replicate n 0).length oxs::[.row (.slice none 0 0) T2 (aF.sz α) 0 []]) (List.replicate n 0) ([[]]:List (List α)):=by
 have hx:=AG h.rd;refine ⟨⟨oxs,[(.slice none 0 0,[])],rfl,rfl,rfl,λk w l hw hl=>?_,by rw [hx]; simp,λi k hk=>?_⟩,h.sl⟩
 ·cases k with
  | zero=>
   obtain rfl:=OZ hw;obtain rfl:=OZ hl;exact Rw.nil
  | succ k=>simp at hw
 ·obtain ⟨hi,he⟩:=OY.1 hk
  rw [List.getElem_replicate] at he;subst he;refine ⟨_,rfl,?_⟩;rw [hx,Rf,O3 (by simpa using hi)]
theorem Al {B:Nat}{w0 w:World}{M:List bL} (hs:0<aF.sz α):∀ (ws:List (Value×List Value)) (ls:List (List α)) (H:Hp),ws.length=ls.length ->
  (∀ (k:Nat) (u:Value×List Value) (l:List α),ws[k]? = some u->ls[k]? = some l->Rw H u.1 u.2 l)->St B w0 H (rowsOf T2 (aF.sz α) ws ls++M) w ->
  ∃ H',H.le H'/\St B w0 H' M w/\∀ (k:Nat) (u:Value×List Value) (l:List α),ws[k]? = some u->ls[k]? = some l->aP H' u.1 l
 | [],[],H,_,_,ht=>⟨H,PT _,ht,λk u l hu _=>by simp at hu⟩
 | [],_::_,H,hl,_,_=>by simp at hl
 | _::_,[],H,hl,_,_=>by simp at hl
 | u::ws,l::ls,H,hl,hr,ht=>by
  have ht:St B w0 H (.row u.1 T2 (aF.sz α) l.length u.2::(rowsOf T2 (aF.sz α) ws ls++M)) w:=ht;obtain ⟨H1,h1,h2,h3⟩:=ht.uZ (hr 0 u l rfl rfl).rd hs;obtain ⟨H2,g1,g2,g3⟩:=Al hs ws ls H1 (by simpa using hl) (λk u' l' hu hl'=>(hr (k+1) u' l' (by simpa using hu) (by simpa using hl')).mono h1) h2
  refine ⟨H2,SD h1 g1,g2,λk u' l' hu hl'=>?_⟩;cases k with
  | zero=>
   obtain rfl:=OZ hu;obtain rfl:=OZ hl';exact h3.mono g1
  | succ k=>exact g3 k u' l' (by simpa using hu) (by simpa using hl')
theorem BE {H:Hp}:∀ (xs:List Value) (l:List (List α)),xs.length=l.length->(∀ (i:Nat) (y:Value) (e:List α),xs[i]? = some y->l[i]? = some e->aP H y e)->pD H xs l
 | [],[],_,_=>rfl
 | [],_::_,h,_=>by simp at h
 | _::_,[],h,_=>by simp at h
 | y::xs,e::l,h,hr=>⟨[y],xs,rfl,⟨y,rfl,hr 0 y e rfl rfl⟩,BE xs l (by simpa using h) (λi y' e' hy he=>hr (i+1) y' e' (by simpa using hy) (by simpa using he))⟩
def qL (sg:List Nat) (ls:List (List α)):List (List α):=sg.map λk=>(ls[k]?).getD []
theorem St.Dj {B:Nat}{w0 w:World}{M:List bL} (ht:St B w0 H (mx++M) w) (h:Mx T1 T2 H v hs mx sg ls) (h0:0<aF.sz α):∃ H',H.le H'/\St B w0 H' M w/\aP H' v (qL sg ls):=by
 obtain ⟨oxs,ws,rfl,h2,_,h3,h4,h5⟩:=h.ex;have ht1:St B w0 H (rowsOf T2 (aF.sz α) ws ls++(.row v T1 1 sg.length oxs::M)) w:=ht.perm (by
  rw [Q8];exact List.perm_middle.symm)
 obtain ⟨H1,g1,g2,g3⟩:=Al h0 ws ls H h2 h3 ht1;have hv:(qL sg ls).length=sg.length:=by unfold qL; simp
 have hrd:pD H1 oxs (qL sg ls):=BE oxs _ (by rw [hv]; exact h4) (λi y e hy he=>by
  unfold qL at he;rw [Ps] at he;cases hk:sg[i]? with
  | none=>rw [hk] at he; simp at he
  | some k=>
   rw [hk] at he;obtain ⟨u,hu,hx⟩:=h5 i k hk;rw [hy] at hx;obtain rfl:=OZ hx;have hkl:k<ls.length:=by rw [<- h2]; exact (OY.1 hu).1
   have hl:=OU hkl;simp only [Qo,Pf] at he;rw [hl,QT] at he;rw [<- he];exact g3 k u _ hu hl)
 have g2':St B w0 H1 (.row v T1 (aF.sz (List α)) sg.length oxs::M) w:=g2;obtain ⟨H2,k1,k2,k3⟩:=g2'.uZ hrd Nat.one_pos;exact ⟨H2,SD g1 k1,k2,k3⟩
end
section
variable {x:Cx}{ops:Array Oper}{Q:lC}{rest:List Oper}{H:Hp}{M:List bL}{L:Env}
theorem Eb {α:Type}[aF α] {T1 T2:TypeId}{v:Value}{hs:List Value}{mx:List bL}{sg:List Nat}{ls:List (List α)} (h:Mx T1 T2 H v hs mx sg ls) (h0:Nat.blt 0 (aF.sz α)=true)
  (k:∀ H',H.le H'->aP H' v (qL sg ls)->W x ops Q rest H' M L):W x ops Q rest H (mx++M) L:=by
 intro a w hsl ht;obtain ⟨H',h1,h2,h3⟩:=St.Dj ht h (by simpa [P7] using h0)
 exact k H' h1 h3 a w hsl h2
variable {d:Nat}{ty:TypeId}{pos:String}{aft:Array Edge}{g:Option (Nat×Bool)}
theorem rT (pre m1 m2 M0:List bL) (r:bL):(pre++((m1++r::m2)++M0)).Perm (r::(pre++((m1++m2)++M0))):=by
 have h1:(pre++((m1++r::m2)++M0))=(pre++m1)++r::(m2++M0):=by simp
 have h2:(r::(pre++((m1++m2)++M0)))=r::((pre++m1)++(m2++M0)):=by simp
 rw [h1,h2];exact List.perm_middle
theorem Mx.get {α:Type}[aF α] {T1 T2:TypeId}{v:Value}{hs:List Value}{mx:List bL}{sg:List Nat}{ls:List (List α)} (h:Mx T1 T2 H v hs mx sg ls) {k:Nat}{w:Value} (hw:hs[k]? = some w):
  ∃ xs:List Value,bL.row w T2 (aF.sz α) ((ls[k]?).getD []).length xs ∈ mx/\Rw H w xs ((ls[k]?).getD []):=by
 obtain ⟨xs,m1,m2,_,he,hr,_⟩:=h.row hw;exact ⟨xs,by rw [he]; exact P1 _ (O0 ..),hr⟩
theorem r_ {α:Type}[aF α] {T1 T2 T:TypeId}{m:Nat}{y z:Operand}{v u w:Value}{ad:Addr}{hs cs:List Value}{pre mx:List bL}{sg:List Nat}{ls:List (List α)}{k j:Nat}{e2:α}
  (h:Mx T1 T2 H v hs mx sg ls) (hx:hs[k]? = some w) (hj:j<((ls[k]?).getD []).length) (hE:aF.E H cs e2)
  (hg:gd ops L ⟨none,.store T y z,ty,pos,aft,g⟩=some true) (hn:∀ w,(sizeOf T).run x.P w=.ok m w) (hm:m=aF.sz α) (h0:Nat.blt 0 (aF.sz α)=true)
  (hy:ev L y=some (.pointer (some ad))) (had:ad=(Value.base w).add (j*aF.sz α)) (hz:ev L z=some u) (hv:u.cells=cs.toArray)
  (kk:∀ mx',Mx T1 T2 H v hs mx' sg (ls.set k (((ls[k]?).getD []).set j e2))->W x ops Q rest H (pre++(mx'++M)) L):
  W x ops Q (⟨none,.store T y z,ty,pos,aft,g⟩::rest) H (pre++(mx++M)) L:=by
 obtain ⟨xs,m1,m2,hk,rfl,hr,hup⟩:=h.row hx;have hcl:=aF.len hE;have hs':0<aF.sz α:=by simpa [P7] using h0
 have he:=OU hj;obtain ⟨c,hc,hgc⟩:=hr.elem he;have hccl:=aF.len hc;have ho:over c 0 cs=cs:=by
  rw [vH cs c 0 (by omega),SV,Qy,List.drop_eq_nil_of_le (by omega),PE]
 obtain ⟨p1,_,_⟩:=Rw.put (k:=j) (o:=0) (e2:=e2) hr he hc hgc (by simp [Ru]; omega) ho hE
 have hroom:j*aF.sz α+cs.length<=xs.length:=by
  have hlen:=hr.rd.len;have:(j+1)*aF.sz α<=((ls[k]?).getD []).length*aF.sz α:=Pe _ hj;rw [Pk,SE] at this;omega
 refine nE (rT pre m1 m2 M _) ?_;refine wE (i:=j*aF.sz α) (cs:=cs) hg hn hy had hz hv (by omega) hroom (by simp [P7]; omega) (aF.one hE) ?_
 have h2:=hup H _ _ (PT _) p1;rw [Qg,Qs] at h2;refine nE (rT pre m1 m2 M _).symm ?_;exact kk _ h2
theorem Fq {α:Type}[aF α] {T1 T2 T:TypeId}{y z:Operand}{v w:Value}{ad:Addr}{hs:List Value}{pre mx:List bL}{sg:List Nat}{ls:List (List α)}{i k:Nat}
  (h:Mx T1 T2 H v hs mx sg ls) (hi:i<sg.length) (hx:hs[k]? = some w)
  (hg:gd ops L ⟨none,.store T y z,ty,pos,aft,g⟩=some true) (hn:∀ w,(sizeOf T).run x.P w=.ok 1 w)
  (hy:ev L y=some (.pointer (some ad))) (had:ad=(Value.base v).add (i*1)) (hz:ev L z=some w)
  (kk:∀ mx',Mx T1 T2 H v hs mx' (sg.set i k) ls->W x ops Q rest H (pre++(mx'++M)) L):
  W x ops Q (⟨none,.store T y z,ty,pos,aft,g⟩::rest) H (pre++(mx++M)) L:=by
 obtain ⟨_,_,_,_,_,hr,_⟩:=h.row hx;obtain ⟨oxs,m2,rfl,hl,_,hput,_⟩:=h.outer;refine nE (rT pre [] m2 M _) ?_;refine wE (i:=i*1) (cs:=[w]) hg hn hy had hz hr.cells rfl (by simp; omega) rfl (λc hc=>by simp at hc; subst hc; exact hr.one) ?_
 have h2:=hput i k w hi hx;rw [Qg] at h2;have e:over oxs (i*1) [w]=oxs.set i w:=by rw [Ro]; rfl
 rw [e];refine nE (rT pre [] m2 M _).symm ?_;exact kk _ h2
theorem BR {α:Type}[aF α] {T1 T2 T:TypeId}{y z:Operand}{v w:Value}{ad:Addr}{hs xs:List Value}{pre mx:List bL}{sg:List Nat}{ls:List (List α)}{l:List α}{i:Nat}
  (h:Mx T1 T2 H v hs mx sg ls) (hi:i<sg.length) (hr:Rw H w xs l)
  (hg:gd ops L ⟨none,.store T y z,ty,pos,aft,g⟩=some true) (hn:∀ w,(sizeOf T).run x.P w=.ok 1 w)
  (hy:ev L y=some (.pointer (some ad))) (had:ad=(Value.base v).add (i*1)) (hz:ev L z=some w)
  (kk:∀ mx',Mx T1 T2 H v (hs++[w]) mx' (sg.set i ls.length) (ls++[l])->W x ops Q rest H (pre++(mx'++M)) L):
  W x ops Q (⟨none,.store T y z,ty,pos,aft,g⟩::rest) H (.row w T2 (aF.sz α) l.length xs::(pre++(mx++M))) L:=by
 obtain ⟨oxs,m2,rfl,hl,_,_,hadd⟩:=h.outer;have p1:(bL.row w T2 (aF.sz α) l.length xs::(pre++((.row v T1 1 sg.length oxs::m2)++M))).Perm (.row v T1 1 sg.length oxs::(.row w T2 (aF.sz α) l.length xs::(pre++(m2++M)))):=
  ((rT pre [] m2 M _).cons _).trans (List.Perm.swap _ _ _)
 refine nE p1 ?_;refine wE (i:=i*1) (cs:=[w]) hg hn hy had hz hr.cells rfl (by simp; omega) rfl (λc hc=>by simp at hc; subst hc; exact hr.one) ?_
 have h2:=hadd i w xs l hi hr;rw [Qg] at h2;have e:over oxs (i*1) [w]=oxs.set i w:=by rw [Ro]; rfl
 rw [e];have p2:(bL.row v T1 1 sg.length (oxs.set i w)::(.row w T2 (aF.sz α) l.length xs::(pre++(m2++M)))).Perm (pre++((.row v T1 1 sg.length (oxs.set i w)::(m2++[.row w T2 (aF.sz α) l.length xs]))++M)):=by
  refine (rT pre [] (m2++[.row w T2 (aF.sz α) l.length xs]) M _).trans ?_ |>.symm;refine List.Perm.cons _ ?_;have:=rT pre m2 [] M (.row w T2 (aF.sz α) l.length xs);simpa using this
 refine nE p2 ?_;exact kk _ h2
def tf (sz n:Nat):Value->Value
 | .slice (some ⟨b,off,sp⟩) len cap=>.slice (some ⟨b,if cap=n then off else off+n*sz,sp⟩) (len-n) (cap-n)
 | y=>y
theorem iB.sub {w:World}{T:TypeId}{sz n m:Nat}{v:Value}{xs:List Value} (h:iB w T sz v n xs) (hm:m<=n):iB w T sz (tf sz m v) (n-m) (xs.drop (m*sz)):=by
 obtain ⟨hl,hh⟩:=h;refine ⟨by rw [Qv,hl,Nat.sub_mul],?_⟩
 rcases hh with ⟨rfl,h0⟩ | ⟨gb,off,cap,cur,rfl,hg,hnc,hcm,hcs,htake⟩
 ·exact .inl ⟨rfl,by omega⟩
 ·have h1:m*sz+(cap-m)*sz=cap*sz:=by rw [<- Pk,Nat.add_sub_cancel' (by omega)]
  have h2:m*sz+(n-m)*sz=n*sz:=by rw [<- Pk,Nat.add_sub_cancel' hm]
  by_cases hc:cap=m
  ·have hnm:n=m:=by omega
   refine .inr ⟨gb,off,cap-m,cur,by show Value.slice (some ⟨gb,if cap=m then off else off+m*sz,none⟩) _ _=_; rw [O3 hc],hg,by omega,by omega,by omega,?_⟩
   rw [<- htake,Rc,hnm,Qf,Qf,Qt,SV,SV]
  ·refine .inr ⟨gb,off+m*sz,cap-m,cur,by show Value.slice (some ⟨gb,if cap=m then off else off+m*sz,none⟩) _ _=_; rw [O2 hc],hg,by omega,by omega,by omega,?_⟩
   rw [<- htake,Rc,QF]
   congr 1
   omega
theorem He {sz m:Nat} (v:Value):(tf sz m v).ownBlock=v.ownBlock:=by
 unfold tf
 split
 ·rename_i b off sp len cap
  cases sp <;> rfl
 ·rfl
theorem St.same {B:Nat}{w0 w:World}{r r':bL} (h:St B w0 H (r::M) w) (hok:r'.ok w) (hf:r'.tP=r.tP):St B w0 H (r'::M) w:=by
 refine ⟨h.below,h.le,h.tG,λs hs=>?_,λs hs b hb=>?_,?_⟩
 ·rcases PH.1 hs with rfl | hs
  ·exact hok
  ·exact h.ok s (O5 _ hs)
 ·rcases PH.1 hs with rfl | hs
  ·exact h.lo r (O0 ..) b (by rw [<- hf]; exact hb)
  ·exact h.lo s (O5 _ hs) b hb
 ·have:=h.nd
  simp only [Qe,hf] at this ⊢;exact this
theorem Rw.sub {α:Type}[aF α] {v:Value}{xs:List Value}{l:List α} (h:Rw H v xs l) {m:Nat} (hm:m<=l.length):Rw H (tf (aF.sz α) m v) (xs.drop (m*aF.sz α)) (l.drop m):=by
 refine ⟨?_,?_⟩
 ·have key:∀ (m:Nat) (xs:List Value) (l:List α),pD H xs l->m<=l.length->pD H (xs.drop (m*aF.sz α)) (l.drop m):=by
   intro m
   induction m with
   | zero=>intro xs l h _; simpa using h
   | succ m ih=>
    intro xs l h hm;cases l with
    | nil=>simp at hm
    | cons e l=>
     obtain ⟨c,r,rfl,he,hr⟩:=h;have hc:=aF.len he;rw [Tk,Pk,SE,Rn,<- QF,<- hc,List.drop_left,hc];exact ih r l hr (by simpa using hm)
  exact key m xs l h.rd hm
 ·obtain ⟨a,n,c,rfl⟩:=h.sl
  cases a with
  | none=>exact ⟨_,_,_,rfl⟩
  | some ad=>obtain ⟨b,off,sp⟩:=ad; exact ⟨_,_,_,rfl⟩
theorem JE {α:Type}[aF α] {T1 T2 T:TypeId}{y z:Operand}{v w:Value}{ad:Addr}{hs:List Value}{pre mx:List bL}{sg:List Nat}{ls:List (List α)}{i k n:Nat}
  (h:Mx T1 T2 H v hs mx sg ls) (hi:i<sg.length) (hx:hs[k]? = some w) (hn':n<=((ls[k]?).getD []).length) (hone:∀ j:Nat,sg[j]? = some k->j=i)
  (hg:gd ops L ⟨none,.store T y z,ty,pos,aft,g⟩=some true) (hn:∀ w,(sizeOf T).run x.P w=.ok 1 w)
  (hy:ev L y=some (.pointer (some ad))) (had:ad=(Value.base v).add (i*1)) (hz:ev L z=some (tf (aF.sz α) n w))
  (kk:∀ mx',Mx T1 T2 H v (hs.set k (tf (aF.sz α) n w)) mx' (sg.set i k) (ls.set k (((ls[k]?).getD []).drop n))->W x ops Q rest H (pre++(mx'++M)) L):
  W x ops Q (⟨none,.store T y z,ty,pos,aft,g⟩::rest) H (pre++(mx++M)) L:=by
 obtain ⟨oxs,ws,rfl,h2,h2',h3,h4,h5⟩:=h.ex;obtain ⟨u,hu,rfl⟩:=EH h2' hx;have hkw:k<ws.length:=(OY.1 hu).1;have hk:k<ls.length:=by omega
 have hl:=OU hk;have hwe:ws[k]=u:=by rw [OU hkw] at hu; exact OZ hu
 have hgd:(ls[k]?).getD []=ls[k]:=by rw [hl]; rfl
 rw [hgd] at hn' kk;have hr:=h3 k u _ hu hl;have hrs:=hr.sub hn';have hsp:∀ (ws:List (Value×List Value)) (ls:List (List α)) (h1:k<ws.length) (h2:k<ls.length),rowsOf T2 (aF.sz α) ws ls=rowsOf T2 (aF.sz α) (ws.take k) (ls.take k)++.row ws[k].1 T2 (aF.sz α) ls[k].length ws[k].2::rowsOf T2 (aF.sz α) (ws.drop (k+1)) (ls.drop (k+1)):=λws ls h1 h2=>by
  have e1:ws=ws.take k++ws[k]::ws.drop (k+1):=by rw [<- Px h1,Qm]
  have e2:ls=ls.take k++ls[k]::ls.drop (k+1):=by rw [<- Px h2,Qm]
  have e3:rowsOf T2 (aF.sz α) ws ls=rowsOf T2 (aF.sz α) (ws.take k++ws[k]::ws.drop (k+1)) (ls.take k++ls[k]::ls.drop (k+1)):=by rw [<- e1,<- e2]
  rw [e3];unfold rowsOf;rw [R_ (by simp; omega)]
  rfl
 generalize hA:rowsOf T2 (aF.sz α) (ws.take k) (ls.take k)=A at hsp;generalize hB:rowsOf T2 (aF.sz α) (ws.drop (k+1)) (ls.drop (k+1))=Bq at hsp;have hrows:rowsOf T2 (aF.sz α) ws ls=A++.row u.1 T2 (aF.sz α) ls[k].length u.2::Bq:=by
  rw [<- hA,<- hB];have e1:ws=ws.take k++ws[k]::ws.drop (k+1):=by rw [<- Px hkw,Qm]
  have e2:ls=ls.take k++ls[k]::ls.drop (k+1):=by rw [<- Px hk,Qm]
  have e3:rowsOf T2 (aF.sz α) ws ls=rowsOf T2 (aF.sz α) (ws.take k++ws[k]::ws.drop (k+1)) (ls.take k++ls[k]::ls.drop (k+1)):=by rw [<- e1,<- e2]
  rw [e3];unfold rowsOf;rw [R_ (by simp; omega),<- hwe]
  rfl
 have hrows2:rowsOf T2 (aF.sz α) (ws.set k (tf (aF.sz α) n u.1,u.2.drop (n*aF.sz α))) (ls.set k (ls[k].drop n))=A++.row (tf (aF.sz α) n u.1) T2 (aF.sz α) (ls[k].drop n).length (u.2.drop (n*aF.sz α))::Bq:=by
  rw [<- hA,<- hB];have e1:ws.set k (tf (aF.sz α) n u.1,u.2.drop (n*aF.sz α))=ws.take k++(tf (aF.sz α) n u.1,u.2.drop (n*aF.sz α))::ws.drop (k+1):=by rw [R2,O3 hkw]
  have e2:ls.set k (ls[k].drop n)=ls.take k++ls[k].drop n::ls.drop (k+1):=by rw [R2,O3 hk]
  rw [e1,e2];unfold rowsOf;rw [R_ (by simp; omega)]
  rfl
 have hnew:Mx T1 T2 H v (hs.set k (tf (aF.sz α) n u.1)) (.row v T1 1 (sg.set i k).length (oxs.set i (tf (aF.sz α) n u.1))::rowsOf T2 (aF.sz α) (ws.set k (tf (aF.sz α) n u.1,u.2.drop (n*aF.sz α))) (ls.set k (ls[k].drop n))) (sg.set i k) (ls.set k (ls[k].drop n)):=by
  refine ⟨⟨_,_,rfl,by simp [h2],by rw [List.map_set,h2'],λj u' l' hu' hl'=>?_,by simp [h4],λi' k' hk'=>?_⟩,h.sl⟩
  ·by_cases e:k=j
   ·subst e
    rw [Pq hkw] at hu';rw [Pq hk] at hl';obtain rfl:=OZ hu';obtain rfl:=OZ hl';exact hrs
   ·rw [Pj e] at hu' hl'
    exact h3 j u' l' hu' hl'
  ·by_cases e:i=i'
   ·subst e
    rw [Pq hi] at hk';obtain rfl:=OZ hk';exact ⟨_,by rw [Pq hkw],by rw [Pq (by omega)]⟩
   ·rw [Pj e] at hk'
    obtain ⟨u',hu',hx'⟩:=h5 i' k' hk';have hne:k≠k':=λe2=>by subst e2; exact e (hone i' hk').symm
    exact ⟨u',by rw [Pj hne]; exact hu',by rw [Pj e]; exact hx'⟩
 refine nE (rT pre [] (rowsOf T2 (aF.sz α) ws ls) M _) ?_;refine wE (i:=i*1) (cs:=[tf (aF.sz α) n u.1]) hg hn hy had hz hrs.cells rfl (by simp; omega) rfl (λc hc=>by simp at hc; subst hc; exact hrs.one) ?_
 have e:over oxs (i*1) [tf (aF.sz α) n u.1]=oxs.set i (tf (aF.sz α) n u.1):=by rw [Ro]; rfl
 rw [e];refine nE (rT pre [] (rowsOf T2 (aF.sz α) ws ls) M _).symm ?_;rw [Qy,hrows];have p1:(pre++((.row v T1 1 sg.length (oxs.set i (tf (aF.sz α) n u.1))::(A++.row u.1 T2 (aF.sz α) ls[k].length u.2::Bq))++M)).Perm (.row u.1 T2 (aF.sz α) ls[k].length u.2::(pre++(((.row v T1 1 sg.length (oxs.set i (tf (aF.sz α) n u.1))::A)++Bq)++M))):=
  rT pre (.row v T1 1 sg.length (oxs.set i (tf (aF.sz α) n u.1))::A) Bq M _
 refine nE p1 ?_;intro a w0' hsl ht;have hok:=ht.ok _ (O0 ..);have hs2:St x.B x.w0 H (.row (tf (aF.sz α) n u.1) T2 (aF.sz α) (ls[k].drop n).length (u.2.drop (n*aF.sz α))::(pre++(((.row v T1 1 sg.length (oxs.set i (tf (aF.sz α) n u.1))::A)++Bq)++M))) w0':=by
  refine ht.same ?_ (P3 Option.toList (He u.1));have h1:iB w0' T2 (aF.sz α) u.1 ls[k].length u.2:=hok;have:=h1.sub hn';rw [<- Qv] at this;exact this
 have p2:=(rT pre (.row v T1 1 sg.length (oxs.set i (tf (aF.sz α) n u.1))::A) Bq M (.row (tf (aF.sz α) n u.1) T2 (aF.sz α) (ls[k].drop n).length (u.2.drop (n*aF.sz α)))).symm;refine kk _ hnew a w0' hsl ?_;rw [hrows2,Qg];exact hs2.perm p2
theorem HI {α:Type}[aF α] {T2 t e:TypeId}{y lo:Operand}{w:Value}{xs:List Value}{l:List α}{n:Nat}{kk:IntKind}
  (hm:bL.row w T2 (aF.sz α) l.length xs ∈ M) (hn:n<=l.length)
  (hg:gd ops L ⟨some d,.slice t y (some lo) none none,ty,pos,aft,g⟩=some true) (hN:Nat.blt d x.N=true)
  (hT:∀ w,(underlying t).run x.P w=.ok (.slice e) w) (hs:∀ w,(sizeOf e).run x.P w=.ok (aF.sz α) w) (hy:ev L y=some w) (hlo:ev L lo=some (.int kk (n:Int)))
  (k:W x ops Q rest H M ((d,tf (aF.sz α) n w)::L)):
  W x ops Q (⟨some d,.slice t y (some lo) none none,ty,pos,aft,g⟩::rest) H M L:=by
 intro a w0' hsl ht;have hok:iB w0' T2 (aF.sz α) w l.length xs:=ht.ok _ hm;rcases hok.2 with ⟨rfl,h0⟩ | ⟨gb,off,cap,cur,rfl,_,hnc,_⟩
 ·obtain rfl:n=0:=by omega
  exact sN (m:=0) (h:=0) (l:=0) hg hN hT hs hy (.inl rfl) (.inl ⟨rfl,rfl⟩) (.inl ⟨rfl,rfl⟩) (.inr ⟨lo,kk,_,rfl,hlo,Rk _,Rk _,rfl⟩) rfl k a w0' hsl ht
 ·refine sN (m:=cap) (h:=l.length) (l:=n) hg hN hT hs hy (.inl rfl) (.inl ⟨rfl,rfl⟩) (.inl ⟨rfl,rfl⟩) (.inr ⟨lo,kk,_,rfl,hlo,by omega,by omega,by omega⟩) ?_ k a w0' hsl ht
  show _=Value.slice (some ⟨gb,if cap=n then off else off+n*aF.sz α,none⟩) (l.length-n) (cap-n)
  by_cases hc:cap=n
  ·rw [O3 hc,O3 hc]
  ·rw [O2 hc,O2 hc]
   rw [Qo,P5]
end
theorem Cq (pre os mx M:List bL):(pre++(mx++(os++M))).Perm (pre++(os++(mx++M))):=
 List.Perm.append_left pre (List.perm_append_comm_assoc mx os M)
theorem AE (pre mx M:List bL):(pre++(mx++M)).Perm (mx++(pre++M)):=List.perm_append_comm_assoc pre mx M
def lone (sg:List Nat) (i k:Nat):Bool:=(List.range sg.length).all λj=>sg[j]? != some k || j == i
theorem GV {sg:List Nat}{i k:Nat} (h:lone sg i k=true) (j:Nat) (hj:sg[j]? = some k):j=i:=by
 unfold lone at h;rw [P_] at h;have hl:=(OY.1 hj).1;have:=h j (by simpa using hl)
 rw [hj] at this;simpa using this
theorem J6 {sg:List Nat}{i k:Nat} (h:∀ j,sg[j]? = some k->j=i):lone sg i k=true:=by
 unfold lone;rw [P_];intro j hj
 by_cases e:sg[j]? = some k
 ·simp [h j e]
 ·simp [e]
section
variable {x:Cx}{ops:Array Oper}{Q:lC}{rest:List Oper}{H:Hp}{M:List bL}{L:Env}{d:Nat}{ty:TypeId}{pos:String}{aft:Array Edge}{g:Option (Nat×Bool)}
variable {α:Type}[aF α] {T1 T2:TypeId}{v:Value}{hs:List Value}{mx:List bL}{sg:List Nat}{ls:List (List α)}
theorem w5 {t e:TypeId}{y:Operand} (h:Mx T1 T2 H v hs mx sg ls) (hsub:∀ s ∈ mx,s ∈ M) (hg:gd ops L ⟨some d,.call ⟨.builtin .len,#[y],#[t]⟩,ty,pos,aft,g⟩=some true) (hN:Nat.blt d x.N=true)
  (hT:∀ w,(underlying t).run x.P w=.ok (.slice e) w) (hy:ev L y=some v) (k:W x ops Q rest H M ((d,.int .i64 (sg.length:Int))::L)):
  W x ops Q (⟨some d,.call ⟨.builtin .len,#[y],#[t]⟩,ty,pos,aft,g⟩::rest) H M L:=by
 obtain ⟨oxs,m2,he,_⟩:=h.outer;exact zN (hsub _ (by rw [he]; exact O0 ..)) hg hN hT hy k
theorem d_ {t e:TypeId}{y z:Operand}{kk:IntKind}{i:Int}{p:Nat} (h:Mx T1 T2 H v hs mx sg ls) (hsub:∀ s ∈ mx,s ∈ M)
  (hg:gd ops L ⟨some d,.indexAddr t y z,ty,pos,aft,g⟩=some true) (hN:Nat.blt d x.N=true)
  (hT:∀ w,(underlying t).run x.P w=.ok (.slice e) w) (hsz:∀ w,(sizeOf e).run x.P w=.ok 1 w)
  (hy:ev L y=some v) (hz:ev L z=some (.int kk i)) (h0:0<=i) (h1:sg[i.toNat]? = some p)
  (k:W x ops Q rest H M ((d,.pointer (some ((Value.base v).add (i.toNat*1))))::L)):
  W x ops Q (⟨some d,.indexAddr t y z,ty,pos,aft,g⟩::rest) H M L:=by
 obtain ⟨oxs,m2,he,_⟩:=h.outer;exact xY (hsub _ (by rw [he]; exact O0 ..)) hg hN hT hsz hy hz h0 (OY.1 h1).1 k
theorem gV {T:TypeId}{y:Operand}{ad:Addr}{i p:Nat} (h:Mx T1 T2 H v hs mx sg ls) (hsub:∀ s ∈ mx,s ∈ M) (h1:sg[i]? = some p)
  (hg:gd ops L ⟨some d,.load T y,ty,pos,aft,g⟩=some true) (hN:Nat.blt d x.N=true)
  (hT:∀ w,(isAgg T).run x.P w=.ok false w) (hy:ev L y=some (.pointer (some ad))) (had:ad=(Value.base v).add (i*1))
  (k:∀ w,hs[p]? = some w->W x ops Q rest H M ((d,w)::L)):W x ops Q (⟨some d,.load T y,ty,pos,aft,g⟩::rest) H M L:=by
 obtain ⟨oxs,m2,he,_,hget,_⟩:=h.outer;obtain ⟨w,hw,hx⟩:=hget i p h1;subst had;refine pJ hg hN hT hy (AU (hsub _ (by rw [he]; exact O0 ..)) ?_) (k w hw)
 rw [Ro]; exact hx
theorem Fo {t e:TypeId}{y:Operand}{w:Value}{p:Nat} (h:Mx T1 T2 H v hs mx sg ls) (hsub:∀ s ∈ mx,s ∈ M) (hw:hs[p]? = some w) (hg:gd ops L ⟨some d,.call ⟨.builtin .len,#[y],#[t]⟩,ty,pos,aft,g⟩=some true) (hN:Nat.blt d x.N=true)
  (hT:∀ w,(underlying t).run x.P w=.ok (.slice e) w) (hy:ev L y=some w) (k:W x ops Q rest H M ((d,.int .i64 (((ls[p]?).getD []).length:Int))::L)):
  W x ops Q (⟨some d,.call ⟨.builtin .len,#[y],#[t]⟩,ty,pos,aft,g⟩::rest) H M L:=by
 obtain ⟨xs,hm,_⟩:=h.get hw;exact zN (hsub _ hm) hg hN hT hy k
theorem iX {t e:TypeId}{y z:Operand}{kk:IntKind}{j:Int}{w:Value}{p n:Nat}{a:α} (h:Mx T1 T2 H v hs mx sg ls) (hsub:∀ s ∈ mx,s ∈ M) (hw:hs[p]? = some w)
  (hg:gd ops L ⟨some d,.indexAddr t y z,ty,pos,aft,g⟩=some true) (hN:Nat.blt d x.N=true)
  (hT:∀ w,(underlying t).run x.P w=.ok (.slice e) w) (hsz:∀ w,(sizeOf e).run x.P w=.ok n w) (hn:n=aF.sz α)
  (hy:ev L y=some w) (hz:ev L z=some (.int kk j)) (h0:0<=j) (h1:((ls[p]?).getD [])[j.toNat]? = some a)
  (k:W x ops Q rest H M ((d,.pointer (some ((Value.base w).add (j.toNat*aF.sz α))))::L)):
  W x ops Q (⟨some d,.indexAddr t y z,ty,pos,aft,g⟩::rest) H M L:=by
 subst hn;obtain ⟨xs,hm,_⟩:=h.get hw;exact xY (hsub _ hm) hg hN hT hsz hy hz h0 (OY.1 h1).1 k
theorem py {T:TypeId}{y:Operand}{ad:Addr}{w:Value}{p j n:Nat}{a:α} (h:Mx T1 T2 H v hs mx sg ls) (hsub:∀ s ∈ mx,s ∈ M) (hw:hs[p]? = some w) (h1:((ls[p]?).getD [])[j]? = some a)
  (hg:gd ops L ⟨some d,.load T y,ty,pos,aft,g⟩=some true) (hN:Nat.blt d x.N=true)
  (hT:∀ w,(isAgg T).run x.P w=.ok true w) (hn:∀ w,(sizeOf T).run x.P w=.ok n w) (hn':n=aF.sz α) (hy:ev L y=some (.pointer (some ad))) (had:ad=(Value.base w).add (j*aF.sz α))
  (k:∀ cs,aF.E H cs a->W x ops Q rest H M ((d,.agg cs.toArray)::L)):W x ops Q (⟨some d,.load T y,ty,pos,aft,g⟩::rest) H M L:=by
 subst hn';subst had;obtain ⟨xs,hm,hr⟩:=h.get hw;obtain ⟨c,hE,hc⟩:=hr.elem h1;exact cA hg hN hT hn hy (xa (hsub _ hm) hc) (aF.len hE) (k c hE)
theorem HH {t e:TypeId}{y lo:Operand}{w:Value}{p n:Nat}{j:Int}{kk:IntKind} (h:Mx T1 T2 H v hs mx sg ls) (hsub:∀ s ∈ mx,s ∈ M) (hw:hs[p]? = some w) (h0:0<=j) (h1:j<=(((ls[p]?).getD []).length:Int))
  (hg:gd ops L ⟨some d,.slice t y (some lo) none none,ty,pos,aft,g⟩=some true) (hN:Nat.blt d x.N=true)
  (hT:∀ w,(underlying t).run x.P w=.ok (.slice e) w) (hsz:∀ w,(sizeOf e).run x.P w=.ok n w) (hn:n=aF.sz α) (hy:ev L y=some w) (hlo:ev L lo=some (.int kk j))
  (k:W x ops Q rest H M ((d,tf (aF.sz α) j.toNat w)::L)):
  W x ops Q (⟨some d,.slice t y (some lo) none none,ty,pos,aft,g⟩::rest) H M L:=by
 subst hn;obtain ⟨xs,hm,hr⟩:=h.get hw;exact HI (l:=(ls[p]?).getD []) (n:=j.toNat) (hsub _ hm) (by omega) hg hN hT hsz hy (by rw [hlo,R7 h0]) k
theorem y7 {pre:List bL} (h:Mx T1 T2 H v hs mx sg ls) (h0:Nat.blt 0 (aF.sz α)=true)
  (k:∀ H',H.le H'->aP H' v (qL sg ls)->W x ops Q rest H' (pre++M) L):W x ops Q rest H (pre++(mx++M)) L:=
 nE (AE pre mx M) (Eb h h0 k)
theorem y0 {e:Exit}{pre:List bL} (h:Mx T1 T2 H v hs mx sg ls) (h0:Nat.blt 0 (aF.sz α)=true)
  (k:∀ H',H.le H'->aP H' v (qL sg ls)->E x e Q H' (pre++M) L):E x e Q H (pre++(mx++M)) L:=by
 refine D8 (AE pre mx M) ?_;intro a w hsl ht;obtain ⟨H',h1,h2,h3⟩:=St.Dj ht h (by simpa [P7] using h0)
 exact k H' h1 h3 a w hsl h2
theorem zQ {t e:TypeId}{bytes:Nat}{y y2:Operand}{n:Int}{pre:List bL} (T2:TypeId) (α:Type) [aF α]
  (hg:gd ops L ⟨some d,.makeSlice t y y2,ty,pos,aft,g⟩=some true) (hN:Nat.blt d x.N=true)
  (hT:x.P.underlying t=some (.slice e)) (hi:Mp x.P e 1 bytes (.slice none 0 0)) (hb0:Nat.blt 0 bytes=true)
  (hy:ev L y=some (.int .i64 n)) (hy2:ev L y2=some (.int .i64 n)) (h0:0<=n) (hb:n*bytes<=140737488355328)
  (k:∀ v' mx',Mx e T2 H v' [.slice none 0 0] mx' (List.replicate n.toNat 0) ([[]]:List (List α))->W x ops Q rest H (pre++(mx'++M)) ((d,v')::L)):
  W x ops Q (⟨some d,.makeSlice t y y2,ty,pos,aft,g⟩::rest) H (pre++M) L:=by
 refine eS (α:=Gc) (zs:=[.slice none 0 0]) (ze:=Gc.mk) hg hN hT hi rfl rfl hb0 rfl hy hy2 h0 hb ?_;intro v' xs' hr;refine xZ T2 (aF.sz α) ?_;have hm:=Mx.make (α:=α) (T1:=e) (T2:=T2) hr;refine nE (M':=pre++((.row v' e 1 (List.replicate n.toNat 0).length xs'::[.row (.slice none 0 0) T2 (aF.sz α) 0 []])++M)) ?_ (k v' _ hm);have e1:(List.replicate n.toNat Gc.mk).length=(List.replicate n.toNat 0).length:=by simp
 rw [e1];refine (List.Perm.swap _ _ _).trans ?_;exact (AE pre [.row v' e 1 (List.replicate n.toNat 0).length xs',.row (.slice none 0 0) T2 (aF.sz α) 0 []] M).symm
end
def Nx:List Int:=[1,10,100,1000,10000,100000,1000000,10000000,100000000,1000000000,10000000000,100000000000,1000000000000,10000000000000,100000000000000,1000000000000000,10000000000000000,100000000000000000,1000000000000000000,10000000000000000000]
def NO:List Int:=[0,1,28,2,29,14,24,3,30,22,20,15,25,17,4,8,31,27,13,23,21,19,16,7,26,12,18,6,11,5,10,9]
def NP:List Int:=[0,1,56,2,57,49,28,3,61,58,42,50,38,29,17,4,62,47,59,36,45,43,51,22,53,39,33,30,24,18,12,5,63,55,48,27,60,41,37,16,46,35,44,21,52,32,23,11,54,26,40,15,34,20,31,10,25,14,19,9,13,8,7,6]
structure aK where
 Name:ByteArray
 A:ByteArray
 B_:ByteArray
 lZ:Bool
 Open:Bool
 deriving DecidableEq
instance:aF aK where
 sz:=5
 E H cs x:=cs=[.string (x.Name),.string (x.A),.string (x.B_),.bool (x.lZ),.bool (x.Open)]
 len h:=by obtain rfl:=h; rfl
 mono hle h:=by obtain rfl:=h; exact rfl
 one h:=by obtain rfl:=h; exact (O_ rfl (O_ rfl (O_ rfl (O_ rfl (O_ rfl QG)))))
instance:Flat aK:=⟨λh=>h⟩
structure aO where
 Name:ByteArray
 oS:ByteArray
 To:ByteArray
 X:Int
 A5:Int
 Shift:Int
 sK:Int
 wz:Int
 BN:Int
 deriving DecidableEq
instance:aF aO where
 sz:=9
 E H cs x:=cs=[.string (x.Name),.string (x.oS),.string (x.To),.int .i64 (x.X),.int .i64 (x.A5),.int .i64 (x.Shift),.int .i64 (x.sK),.int .i64 (x.wz),.int .i64 (x.BN)]
 len h:=by obtain rfl:=h; rfl
 mono hle h:=by obtain rfl:=h; exact rfl
 one h:=by obtain rfl:=h; exact (O_ rfl (O_ rfl (O_ rfl (O_ rfl (O_ rfl (O_ rfl (O_ rfl (O_ rfl (O_ rfl QG)))))))))
instance:Flat aO:=⟨λh=>h⟩
structure bB where
 Name:ByteArray
 Node:ByteArray
 iH:Int
 pX:Int
 A9:Int
 deriving DecidableEq
instance:aF bB where
 sz:=5
 E H cs x:=cs=[.string (x.Name),.string (x.Node),.int .i64 (x.iH),.int .i64 (x.pX),.int .i64 (x.A9)]
 len h:=by obtain rfl:=h; rfl
 mono hle h:=by obtain rfl:=h; exact rfl
 one h:=by obtain rfl:=h; exact (O_ rfl (O_ rfl (O_ rfl (O_ rfl (O_ rfl QG)))))
instance:Flat bB:=⟨λh=>h⟩
structure aE where
 Name:ByteArray
 Node:ByteArray
 cV:Int
 deriving DecidableEq
instance:aF aE where
 sz:=3
 E H cs x:=cs=[.string (x.Name),.string (x.Node),.int .i64 (x.cV)]
 len h:=by obtain rfl:=h; rfl
 mono hle h:=by obtain rfl:=h; exact rfl
 one h:=by obtain rfl:=h; exact (O_ rfl (O_ rfl (O_ rfl QG)))
instance:Flat aE:=⟨λh=>h⟩
structure bS where
 Name:ByteArray
 Node:ByteArray
 rA:Int
 Discharge:Int
 tM:Int
 deriving DecidableEq
instance:aF bS where
 sz:=5
 E H cs x:=cs=[.string (x.Name),.string (x.Node),.int .i64 (x.rA),.int .i64 (x.Discharge),.int .i64 (x.tM)]
 len h:=by obtain rfl:=h; rfl
 mono hle h:=by obtain rfl:=h; exact rfl
 one h:=by obtain rfl:=h; exact (O_ rfl (O_ rfl (O_ rfl (O_ rfl (O_ rfl QG)))))
instance:Flat bS:=⟨λh=>h⟩
structure aD where
 a_:(List ByteArray)
 aH:(List aK)
 aG:(List aO)
 cR:(List bB)
 aY:(List aE)
 bM:(List bS)
 deriving DecidableEq
instance:aF aD where
 sz:=6
 E H cs x:=∃ v0 v1 v2 v3 v4 v5:Value,cs=[v0,v1,v2,v3,v4,v5]/\aP H v0 x.a_/\aP H v1 x.aH/\aP H v2 x.aG/\aP H v3 x.cR/\aP H v4 x.aY/\aP H v5 x.bM
 len h:=by obtain ⟨v0,v1,v2,v3,v4,v5,rfl,h0,h1,h2,h3,h4,h5⟩:=h; rfl
 mono hle h:=by obtain ⟨v0,v1,v2,v3,v4,v5,rfl,h0,h1,h2,h3,h4,h5⟩:=h; exact ⟨v0,v1,v2,v3,v4,v5,rfl,h0.mono hle,h1.mono hle,h2.mono hle,h3.mono hle,h4.mono hle,h5.mono hle⟩
 one h:=by obtain ⟨v0,v1,v2,v3,v4,v5,rfl,h0,h1,h2,h3,h4,h5⟩:=h; exact (O_ (aP.og h0) (O_ (aP.og h1) (O_ (aP.og h2) (O_ (aP.og h3) (O_ (aP.og h4) (O_ (aP.og h5) QG))))))
structure bH where
 Kind:Int
 Name:ByteArray
 A:Int
 B_:Int
 deriving DecidableEq
instance:aF bH where
 sz:=4
 E H cs x:=cs=[.int .i64 (x.Kind),.string (x.Name),.int .i64 (x.A),.int .i64 (x.B_)]
 len h:=by obtain rfl:=h; rfl
 mono hle h:=by obtain rfl:=h; exact rfl
 one h:=by obtain rfl:=h; exact (O_ rfl (O_ rfl (O_ rfl (O_ rfl QG))))
instance:Flat bH:=⟨λh=>h⟩
structure aX where
 Close:Bool
 Switch:ByteArray
 vU:(List bH)
 deriving DecidableEq
instance:aF aX where
 sz:=3
 E H cs x:=∃ v2:Value,cs=[.bool (x.Close),.string (x.Switch),v2]/\aP H v2 x.vU
 len h:=by obtain ⟨v2,rfl,h0⟩:=h; rfl
 mono hle h:=by obtain ⟨v2,rfl,h0⟩:=h; exact ⟨v2,rfl,h0.mono hle⟩
 one h:=by obtain ⟨v2,rfl,h0⟩:=h; exact (O_ rfl (O_ rfl (O_ (aP.og h0) QG)))
structure cI where
 bZ:aD
 oM:(List aX)
 deriving DecidableEq
instance:aF cI where
 sz:=7
 E H cs x:=∃ v0 v1 v2 v3 v4 v5 v6:Value,cs=[v0,v1,v2,v3,v4,v5,v6]/\aP H v0 x.bZ.a_/\aP H v1 x.bZ.aH/\aP H v2 x.bZ.aG/\aP H v3 x.bZ.cR/\aP H v4 x.bZ.aY/\aP H v5 x.bZ.bM/\aP H v6 x.oM
 len h:=by obtain ⟨v0,v1,v2,v3,v4,v5,v6,rfl,h0,h1,h2,h3,h4,h5,h6⟩:=h; rfl
 mono hle h:=by obtain ⟨v0,v1,v2,v3,v4,v5,v6,rfl,h0,h1,h2,h3,h4,h5,h6⟩:=h; exact ⟨v0,v1,v2,v3,v4,v5,v6,rfl,h0.mono hle,h1.mono hle,h2.mono hle,h3.mono hle,h4.mono hle,h5.mono hle,h6.mono hle⟩
 one h:=by obtain ⟨v0,v1,v2,v3,v4,v5,v6,rfl,h0,h1,h2,h3,h4,h5,h6⟩:=h; exact (O_ (aP.og h0) (O_ (aP.og h1) (O_ (aP.og h2) (O_ (aP.og h3) (O_ (aP.og h4) (O_ (aP.og h5) (O_ (aP.og h6) QG)))))))
structure aI where
 Time:Int
 Kind:ByteArray
 Name:ByteArray
 Value:Int
 deriving DecidableEq
instance:aF aI where
 sz:=4
 E H cs x:=cs=[.int .i64 (x.Time),.string (x.Kind),.string (x.Name),.int .i64 (x.Value)]
 len h:=by obtain rfl:=h; rfl
 mono hle h:=by obtain rfl:=h; exact rfl
 one h:=by obtain rfl:=h; exact (O_ rfl (O_ rfl (O_ rfl (O_ rfl QG))))
instance:Flat aI:=⟨λh=>h⟩
structure aC where
 minus:Bool
 words:(List bP)
 deriving DecidableEq
instance:aF aC where
 sz:=2
 E H cs x:=∃ v1:Value,cs=[.bool (x.minus),v1]/\aP H v1 x.words
 len h:=by obtain ⟨v1,rfl,h0⟩:=h; rfl
 mono hle h:=by obtain ⟨v1,rfl,h0⟩:=h; exact ⟨v1,rfl,h0.mono hle⟩
 one h:=by obtain ⟨v1,rfl,h0⟩:=h; exact (O_ rfl (O_ (aP.og h0) QG))
structure aA where
 N:aC
 D:aC
 deriving DecidableEq
instance:aF aA where
 sz:=4
 E H cs x:=∃ v1 v3:Value,cs=[.bool (x.N.minus),v1,.bool (x.D.minus),v3]/\aP H v1 x.N.words/\aP H v3 x.D.words
 len h:=by obtain ⟨v1,v3,rfl,h0,h1⟩:=h; rfl
 mono hle h:=by obtain ⟨v1,v3,rfl,h0,h1⟩:=h; exact ⟨v1,v3,rfl,h0.mono hle,h1.mono hle⟩
 one h:=by obtain ⟨v1,v3,rfl,h0,h1⟩:=h; exact (O_ rfl (O_ (aP.og h0) (O_ rfl (O_ (aP.og h1) QG))))
structure bO where
 kE:(List aO)
 lO:(List aA)
 rq:(List Int)
 over:(List Bool)
 time:Int
 deriving DecidableEq
instance:aF bO where
 sz:=5
 E H cs x:=∃ v0 v1 v2 v3:Value,cs=[v0,v1,v2,v3,.int .i64 (x.time)]/\aP H v0 x.kE/\aP H v1 x.lO/\aP H v2 x.rq/\aP H v3 x.over
 len h:=by obtain ⟨v0,v1,v2,v3,rfl,h0,h1,h2,h3⟩:=h; rfl
 mono hle h:=by obtain ⟨v0,v1,v2,v3,rfl,h0,h1,h2,h3⟩:=h; exact ⟨v0,v1,v2,v3,rfl,h0.mono hle,h1.mono hle,h2.mono hle,h3.mono hle⟩
 one h:=by obtain ⟨v0,v1,v2,v3,rfl,h0,h1,h2,h3⟩:=h; exact (O_ (aP.og h0) (O_ (aP.og h1) (O_ (aP.og h2) (O_ (aP.og h3) (O_ rfl QG)))))
structure cE where
 f_:(List ByteArray)
 iW:(List ByteArray)
 deriving DecidableEq
instance:aF cE where
 sz:=2
 E H cs x:=∃ v0 v1:Value,cs=[v0,v1]/\aP H v0 x.f_/\aP H v1 x.iW
 len h:=by obtain ⟨v0,v1,rfl,h0,h1⟩:=h; rfl
 mono hle h:=by obtain ⟨v0,v1,rfl,h0,h1⟩:=h; exact ⟨v0,v1,rfl,h0.mono hle,h1.mono hle⟩
 one h:=by obtain ⟨v0,v1,rfl,h0,h1⟩:=h; exact (O_ (aP.og h0) (O_ (aP.og h1) QG))
structure bD where
 jL:(List aI)
 deriving DecidableEq
instance:aF bD where
 sz:=1
 E H cs x:=∃ v0:Value,cs=[v0]/\aP H v0 x.jL
 len h:=by obtain ⟨v0,rfl,h0⟩:=h; rfl
 mono hle h:=by obtain ⟨v0,rfl,h0⟩:=h; exact ⟨v0,rfl,h0.mono hle⟩
 one h:=by obtain ⟨v0,rfl,h0⟩:=h; exact (O_ (aP.og h0) QG)
structure aQ where
 bX:aD
 rules:(List aX)
 on:(List ByteArray)
 held:(List ByteArray)
 watch:bO
 state:cE
 time:Int
 log:bD
 over:(List ByteArray)
 deriving DecidableEq
structure aR where
 seen:(List (ByteArray×Bool))
 nodes:(List ByteArray)
 deriving DecidableEq
structure aV where
 px:(List Int)
 bK:(List Int)
 deriving DecidableEq
instance:aF aV where
 sz:=2
 E H cs x:=∃ v0 v1:Value,cs=[v0,v1]/\aP H v0 x.px/\aP H v1 x.bK
 len h:=by obtain ⟨v0,v1,rfl,h0,h1⟩:=h; rfl
 mono hle h:=by obtain ⟨v0,v1,rfl,h0,h1⟩:=h; exact ⟨v0,v1,rfl,h0.mono hle,h1.mono hle⟩
 one h:=by obtain ⟨v0,v1,rfl,h0,h1⟩:=h; exact (O_ (aP.og h0) (O_ (aP.og h1) QG))
structure bU where
 a0:Int
 a1:Int
 deriving DecidableEq
instance:aF bU where
 sz:=2
 E H cs x:=cs=[.int .i64 (x.a0),.int .i64 (x.a1)]
 len h:=by obtain rfl:=h; rfl
 mono hle h:=by obtain rfl:=h; exact rfl
 one h:=by obtain rfl:=h; exact (O_ rfl (O_ rfl QG))
instance:Flat bU:=⟨λh=>h⟩
structure bG where
 iH:Int
 pX:Int
 cV:Int
 deriving DecidableEq
instance:aF bG where
 sz:=3
 E H cs x:=cs=[.int .i64 (x.iH),.int .i64 (x.pX),.int .i64 (x.cV)]
 len h:=by obtain rfl:=h; rfl
 mono hle h:=by obtain rfl:=h; exact rfl
 one h:=by obtain rfl:=h; exact (O_ rfl (O_ rfl (O_ rfl QG)))
instance:Flat bG:=⟨λh=>h⟩
structure aW where
 uF:aV
 oS:(List Int)
 To:(List Int)
 B_:(List aA)
 C:(List aA)
 pU:(List Int)
 ql:(List (List aA))
 deriving DecidableEq
instance:aF aW where
 sz:=8
 E H cs x:=∃ v0 v1 v2 v3 v4 v5 v6 v7:Value,cs=[v0,v1,v2,v3,v4,v5,v6,v7]/\aP H v0 x.uF.px/\aP H v1 x.uF.bK/\aP H v2 x.oS/\aP H v3 x.To/\aP H v4 x.B_/\aP H v5 x.C/\aP H v6 x.pU/\aP H v7 x.ql
 len h:=by obtain ⟨v0,v1,v2,v3,v4,v5,v6,v7,rfl,h0,h1,h2,h3,h4,h5,h6,h7⟩:=h; rfl
 mono hle h:=by obtain ⟨v0,v1,v2,v3,v4,v5,v6,v7,rfl,h0,h1,h2,h3,h4,h5,h6,h7⟩:=h; exact ⟨v0,v1,v2,v3,v4,v5,v6,v7,rfl,h0.mono hle,h1.mono hle,h2.mono hle,h3.mono hle,h4.mono hle,h5.mono hle,h6.mono hle,h7.mono hle⟩
 one h:=by obtain ⟨v0,v1,v2,v3,v4,v5,v6,v7,rfl,h0,h1,h2,h3,h4,h5,h6,h7⟩:=h; exact (O_ (aP.og h0) (O_ (aP.og h1) (O_ (aP.og h2) (O_ (aP.og h3) (O_ (aP.og h4) (O_ (aP.og h5) (O_ (aP.og h6) (O_ (aP.og h7) QG))))))))
structure cN where
 n:aD
 on:(List ByteArray)
 deriving DecidableEq
instance:aF cN where
 sz:=7
 E H cs x:=∃ v0 v1 v2 v3 v4 v5 v6:Value,cs=[v0,v1,v2,v3,v4,v5,v6]/\aP H v0 x.n.a_/\aP H v1 x.n.aH/\aP H v2 x.n.aG/\aP H v3 x.n.cR/\aP H v4 x.n.aY/\aP H v5 x.n.bM/\aP H v6 x.on
 len h:=by obtain ⟨v0,v1,v2,v3,v4,v5,v6,rfl,h0,h1,h2,h3,h4,h5,h6⟩:=h; rfl
 mono hle h:=by obtain ⟨v0,v1,v2,v3,v4,v5,v6,rfl,h0,h1,h2,h3,h4,h5,h6⟩:=h; exact ⟨v0,v1,v2,v3,v4,v5,v6,rfl,h0.mono hle,h1.mono hle,h2.mono hle,h3.mono hle,h4.mono hle,h5.mono hle,h6.mono hle⟩
 one h:=by obtain ⟨v0,v1,v2,v3,v4,v5,v6,rfl,h0,h1,h2,h3,h4,h5,h6⟩:=h; exact (O_ (aP.og h0) (O_ (aP.og h1) (O_ (aP.og h2) (O_ (aP.og h3) (O_ (aP.og h4) (O_ (aP.og h5) (O_ (aP.og h6) QG)))))))
structure aM where
 Name:ByteArray
 xz:Bool
 deriving DecidableEq
instance:aF aM where
 sz:=2
 E H cs x:=cs=[.string (x.Name),.bool (x.xz)]
 len h:=by obtain rfl:=h; rfl
 mono hle h:=by obtain rfl:=h; exact rfl
 one h:=by obtain rfl:=h; exact (O_ rfl (O_ rfl QG))
instance:Flat aM:=⟨λh=>h⟩
def oD (j:aD):Option (aD):=dG (0<=(min (j.aY.length:Int) 4)/\(min (j.aY.length:Int) 4)<=(j.aY.length:Int)) (dG (0<=(min (j.cR.length:Int) 4)/\(min (j.cR.length:Int) 4)<=(j.cR.length:Int)) (some (aD.mk j.a_ j.aH j.aG (rV j.cR 0 ((min (j.cR.length:Int) 4:Int).toNat)) (rV j.aY 0 ((min (j.aY.length:Int) 4:Int).toNat)) j.bM)))
def kP (o:cI):Option (cI):=(oD o.bZ).bind λj=>dG (0<=(min (j.aY.length:Int) 3)/\(min (j.aY.length:Int) 3)<=(j.aY.length:Int)) (some (cI.mk (aD.mk j.a_ j.aH j.aG j.cR (rV j.aY 0 ((min (j.aY.length:Int) 3:Int).toNat)) j.bM) o.oM))
def oZ (I:Nat) (j:U8) (o:Unit->Option (Bool)):Option (Bool):=if !(((decide (65<=j.n)) && (decide (j.n<=90))) || (((decide (0<(I:Int))) && (decide (48<=j.n))) && (decide (j.n<=57)))) then (some false) else (o ())
def bQ (j:ByteArray):Option (Bool):=dG (j.size<=maxLen) (dR (λk y o n=>oZ k y n) (λ_=>some ((decide (1<=(j.size:Int))) && (decide ((j.size:Int)<=8)))) 0 (jM j) ())
def lq (I:(List ByteArray)) (J:ByteArray) (j:Nat) (o:Unit->Option (Int)):Option (Int):=idx I (j:Int) λR=>if decide (J=R) then (some (j:Int)) else (o ())
def bA (j:(List ByteArray)) (o:ByteArray):Option (Int):=jN (λk I n=>lq j o k n) (λ_=>some (-1)) ((j.length:Int):Int).toNat 0 ()
def bF (j:(List ByteArray)) (o:ByteArray):Option (Bool):=(bA j o).bind λI=>some (decide (0<=I))
def gK (j:aR) (name:ByteArray) (nodes:(List ByteArray)) (R:Nat) (I:ByteArray) (o:Unit->Option (Int×aR)):Option (Int×aR):=(bF j.nodes I).bind λJ=>if !J then (some (6,(aR.mk (ur j.seen name true) j.nodes))) else (o ())
def b_ (j:aR) (name:ByteArray) (nodes:(List ByteArray)):Option (Int×aR):=(bQ name).bind λo=>if !o then (some (5,j)) else (if (qK j.seen name).getD false then (some (7,j)) else (dR (λk y R n=>gK j name nodes k y n) (λ_=>if decide ((nodes.length:Int)=2) then (idx nodes 0 λI=>idx nodes 1 λJ=>if decide (I=J) then (some (3,(aR.mk (ur j.seen name true) j.nodes))) else (some (0,(aR.mk (ur j.seen name true) j.nodes)))) else (some (0,(aR.mk (ur j.seen name true) j.nodes)))) 0 nodes ()))
def bE (I:Int) (o:Int) (j:Int):Bool:=((decide (I<o)) || (decide (j<I)))
def gX (j:aO):Int:=if (((((bE j.X 1 10000) || (bE j.A5 500 1500)) || (bE j.Shift (-1000) 1000)) || (bE j.sK 0 100000)) || (bE j.wz j.sK 100000)) || (bE j.BN 0 200000) then 4 else 0
def aU (j:Int):Bool:=(!(bE j 0 100000))
def iP (I:aR) (U:Nat) (j:bS) (R:(List (ByteArray×Bool))) (J:(List (ByteArray×Bool))->Option (Int×aR)):Option (Int×aR):=(b_ (aR.mk R I.nodes) j.Name ([j.Node])).bind λo=>if !decide (o.1=0) then (some (o.1,(aR.mk o.2.seen I.nodes))) else (if ((!(aU j.rA)) || (!(aU j.Discharge))) || (!(aU j.tM)) then (some (4,(aR.mk o.2.seen I.nodes))) else (J o.2.seen))
def iN (o:aR) (U:Nat) (I:aE) (R:(List (ByteArray×Bool))) (J:(List (ByteArray×Bool))->Option (Int×aR)):Option (Int×aR):=(b_ (aR.mk R o.nodes) I.Name ([I.Node])).bind λj=>if !decide (j.1=0) then (some (j.1,(aR.mk j.2.seen o.nodes))) else (if !(aU I.cV) then (some (4,(aR.mk j.2.seen o.nodes))) else (J j.2.seen))
def iM (I:aR) (U:Nat) (j:bB) (R:(List (ByteArray×Bool))) (J:(List (ByteArray×Bool))->Option (Int×aR)):Option (Int×aR):=(b_ (aR.mk R I.nodes) j.Name ([j.Node])).bind λo=>if !decide (o.1=0) then (some (o.1,(aR.mk o.2.seen I.nodes))) else (if ((!(aU j.iH)) || (bE j.pX j.iH 100000)) || (!(aU j.A9)) then (some (4,(aR.mk o.2.seen I.nodes))) else (J o.2.seen))
def fN (j:aR) (o:aD):Option (Int×aR):=dR (λk y I n=>iM j k y I n) (λI=>dR (λk y J n=>iN j k y J n) (λJ=>dR (λk y R n=>iP j k y R n) (λR=>some (0,(aR.mk R j.nodes))) 0 o.bM J) 0 o.aY I) 0 o.cR j.seen
def mC (J:aD) (U:Nat) (j:aO) (R:(List (ByteArray×Bool))) (I:(List (ByteArray×Bool))->Option (Int)):Option (Int):=(b_ (aR.mk R J.a_) j.Name ([j.oS,j.To])).bind λo=>if !decide (o.1=0) then (some o.1) else (if !decide ((gX j)=0) then (some (gX j)) else (I o.2.seen))
def mB (J:aD) (U:Nat) (j:aK) (R:(List (ByteArray×Bool))) (I:(List (ByteArray×Bool))->Option (Int)):Option (Int):=(b_ (aR.mk R J.a_) j.Name ([j.A,j.B_])).bind λo=>if !decide (o.1=0) then (some o.1) else (I o.2.seen)
def mz (I:aD) (U:Nat) (J:ByteArray) (R:(List (ByteArray×Bool))) (o:(List (ByteArray×Bool))->Option (Int)):Option (Int):=(b_ (aR.mk R I.a_) J []).bind λj=>if !decide (j.1=0) then (some j.1) else (o j.2.seen)
def bT (j:aD):Option (Int):=if (((((decide (24<(j.a_.length:Int))) || (decide (32<(j.aH.length:Int)))) || (decide (24<(j.aG.length:Int)))) || (decide (10<(j.cR.length:Int)))) || (decide (12<(j.aY.length:Int)))) || (decide (4<(j.bM.length:Int))) then (some 2) else (dR (λk y o n=>mz j k y o n) (λo=>dR (λk y I n=>mB j k y I n) (λI=>dR (λk y J n=>mC j k y J n) (λJ=>(fN (aR.mk J j.a_) j).bind λR=>some R.1) 0 j.aG I) 0 j.aH o) 0 j.a_ ([]:(List (ByteArray×Bool))))
def dM (j:List Int->Option (Int)) (o:List Int):Option (Int):=j o
def dX (o:List Int) (J:List Int->Option (Int)) (I:bH) (j:Nat) (R:Bool):Option (Int):=if R then (if decide ((j:Int)=0) then (some 3) else (if decide (I.B_=(i64.wrap ((j:Int)-1))) then (idx (o.set (((j:Int):Int).toNat) ((j:Int))) (i64.wrap ((j:Int)-1)) λU=>if decide (U=0) then (some 3) else (idx (o.set (((j:Int):Int).toNat) ((j:Int))) (i64.wrap ((j:Int)-1)) λOE=>if !decide (I.A=(i64.wrap (OE-1))) then (some 3) else (idx (o.set (((j:Int):Int).toNat) ((j:Int))) I.A λOF=>idx (o.set (((j:Int):Int).toNat) ((j:Int))) (j:Int) λOG=>dM J ((o.set (((j:Int):Int).toNat) ((j:Int))).set (((j:Int):Int).toNat) OF)))) else (some 3))) else (if (!decide (I.A=0)) || (!decide (I.B_=0)) then (some 3) else (dM J (o.set (((j:Int):Int).toNat) ((j:Int)))))
def jA (o:List Int) (J:List Int->Option (Int)) (I:bH) (j:Nat) (R:Bool):Option (Int):=if R then (if decide ((j:Int)=0) then (some 3) else (if decide (I.B_=(i64.wrap ((j:Int)-1))) then (idx (o.set (((j:Int):Int).toNat) ((j:Int))) (i64.wrap ((j:Int)-1)) λU=>if decide (U=0) then (some 3) else (idx (o.set (((j:Int):Int).toNat) ((j:Int))) (i64.wrap ((j:Int)-1)) λOE=>if !decide (I.A=(i64.wrap (OE-1))) then (some 3) else (idx (o.set (((j:Int):Int).toNat) ((j:Int))) I.A λOF=>idx (o.set (((j:Int):Int).toNat) ((j:Int))) (j:Int) λOG=>dM J ((o.set (((j:Int):Int).toNat) ((j:Int))).set (((j:Int):Int).toNat) OF)))) else (some 3))) else (if (!decide (I.A=0)) || (!decide (I.B_=0)) then (some 3) else (dM J (o.set (((j:Int):Int).toNat) ((j:Int)))))
def nG (j:Nat) (o:bH) (I:List Int) (J:List Int->Option (Int)):Option (Int):=if (decide (o.Kind<0)) || (decide (6<o.Kind)) then (some 1) else (if (decide (o.Kind=2)) || (decide (o.Kind=3)) then ((bQ o.Name).bind λU=>if !U then (some 6) else (idx I (j:Int) λOG=>if decide (o.Kind=4) then (if ((decide ((j:Int)=0)) || (!decide (o.A=(i64.wrap ((j:Int)-1))))) || (!decide (o.B_=0)) then (some 3) else (idx (I.set (((j:Int):Int).toNat) ((j:Int))) o.A λR=>idx (I.set (((j:Int):Int).toNat) ((j:Int))) (j:Int) λOF=>dM J ((I.set (((j:Int):Int).toNat) ((j:Int))).set (((j:Int):Int).toNat) R))) else (if decide (o.Kind=5) then (jA I J o j (decide (o.Kind=5))) else (jA I J o j (decide (o.Kind=6)))))) else (if !decide (o.Name=(⟨#[]⟩)) then (some 3) else (idx I (j:Int) λOH=>if decide (o.Kind=4) then (if ((decide ((j:Int)=0)) || (!decide (o.A=(i64.wrap ((j:Int)-1))))) || (!decide (o.B_=0)) then (some 3) else (idx (I.set (((j:Int):Int).toNat) ((j:Int))) o.A λOE=>idx (I.set (((j:Int):Int).toNat) ((j:Int))) (j:Int) λOI=>dM J ((I.set (((j:Int):Int).toNat) ((j:Int))).set (((j:Int):Int).toNat) OE))) else (if decide (o.Kind=5) then (dX I J o j (decide (o.Kind=5))) else (dX I J o j (decide (o.Kind=6)))))))
def jH (j:(List bH)):Option (Int):=if decide (40<(j.length:Int)) then (some 2) else (if decide ((j.length:Int)=0) then (some 3) else (dG (0<=(j.length:Int)/\(j.length:Int)*8<=140737488355328) (dR (λk y o n=>nG k y o n) (λo=>idx o (i64.wrap ((j.length:Int)-1)) λI=>if !decide (I=0) then (some 3) else (some 0)) 0 j (List.replicate ((j.length:Int):Int).toNat (0:Int)))))
def qa (R:Nat) (j:aX) (I:Unit->Option (Int)):Option (Int):=(bQ j.Switch).bind λJ=>if !J then (some 6) else ((jH j.vU).bind λo=>if !decide (o=0) then (some o) else (I ()))
def l7 (j:(List aX)):Option (Int):=if decide (24<(j.length:Int)) then (some 2) else (dR (λk y o n=>qa k y n) (λ_=>some 0) 0 j ())
def te (J:Nat) (j:aE) (o:List ByteArray) (I:List ByteArray->Option ((List ByteArray))):Option ((List ByteArray)):=dG ((o.length+([j.Name]).length)*16<=140737488355328) (I (o++([j.Name])))
def pw (o:aD):Option ((List ByteArray)):=dR (λk y j n=>te k y j n) (λj=>some j) 0 o.aY ([]:List ByteArray)
def oa (o:aE) (j:ByteArray):Bool:=(decide (o.Name=j))
def dC (J:(List aE)) (j:ByteArray) (o:Nat) (I:Unit->Option (Int)):Option (Int):=idx J (o:Int) λR=>if (oa R j) then (some (o:Int)) else (I ())
def cJ (o:(List aE)) (j:ByteArray):Option (Int):=jN (λk I n=>dC o j k n) (λ_=>some (-1)) ((o.length:Int):Int).toNat 0 ()
def cG (o:(List aE)) (j:ByteArray):Option (Bool):=(cJ o j).bind λI=>some (decide (0<=I))
def pf (J:aD) (on:(List ByteArray)) (j:Nat) (o:ByteArray) (I:Unit->Option (Int)):Option (Int):=(cG J.aY o).bind λR=>if !R then (some 6) else (dG (0<=(j:Int)/\(j:Int)<=(on.length:Int)) ((bF (rV on 0 (((j:Int):Int).toNat)) o).bind λU=>if U then (some 7) else (I ())))
def dV (j:aD) (on:(List ByteArray)):Option (Int):=(bT j).bind λo=>if !decide (o=0) then (some o) else (dR (λk y I n=>pf j on k y n) (λ_=>some 0) 0 on ())
def iV (j:aD):Option (aD):=dG (j.a_.length*16<=140737488355328) (dG (j.aH.length*56<=140737488355328) (dG (j.aG.length*96<=140737488355328) (dG (j.cR.length*56<=140737488355328) (dG (j.aY.length*40<=140737488355328) (dG (j.bM.length*56<=140737488355328) (some j))))))
def lK (o:aE) (j:(List ByteArray)):Option (Bool):=(bF j o.Name).bind λI=>some (!I)
def gF (J:(List aE)) (j:(List ByteArray)) (o:Nat) (I:Unit->Option (Int)):Option (Int):=idx J (o:Int) λR=>(lK R j).bind λU=>if U then (some (o:Int)) else (I ())
def eL (o:(List aE)) (j:(List ByteArray)):Option (Int):=jN (λk I n=>gF o j k n) (λ_=>some (-1)) ((o.length:Int):Int).toNat 0 ()
def dA (n199:Int) (j:(List aE×Int×Int)->Option ((List aE))) (o:List aE) (n232:Int):Option ((List aE)):=j (o,n232,i64.wrap (n199+1))
def fX (del_0:(List ByteArray)) (j:List aE) (n198:Int) (n199:Int) (o:(List aE×Int×Int)->Option ((List aE))):Option ((List aE)):=if decide (n199<(j.length:Int)) then (idx j n199 λI=>(lK I del_0).bind λJ=>if !J then (idx j n198 λR=>dA n199 o (j.set ((n198:Int).toNat) I) (i64.wrap (n198+1))) else (dA n199 o j n198)) else (dG (0<=n198/\n198<=(j.length:Int)) (dG (0<=n198/\n198<=((j.take (n198).toNat++List.replicate (j.length-(n198).toNat) ((aE.mk (⟨#[]⟩) (⟨#[]⟩) 0):aE)).length:Int)) (some (rV (j.take (n198).toNat++List.replicate (j.length-(n198).toNat) ((aE.mk (⟨#[]⟩) (⟨#[]⟩) 0):aE)) 0 ((n198:Int).toNat)))))
def dK (j:(List aE)) (del_0:(List ByteArray)):Option ((List aE)):=(eL j del_0).bind λo=>if decide (o=(-1)) then (some j) else (gH (λI n=>fX del_0 I.1 I.2.1 I.2.2 n) fC (j,o,i64.wrap (o+1)))
def oJ (o:aD) (on:(List ByteArray)):Option (aD):=(iV o).bind λj=>(dK j.aY on).bind λI=>some (aD.mk j.a_ j.aH j.aG j.cR I j.bM)
def np (j:aD) (on:(List ByteArray)):Option (aD×Int):=(dV j on).bind λo=>if !decide (o=0) then (some ((aD.mk ([]:List ByteArray) ([]:List aK) ([]:List aO) ([]:List bB) ([]:List aE) ([]:List bS)),o)) else ((oJ j on).bind λI=>some (I,0))
def ny (j:(List bU×List Int)->Option ((List bU)×(List Int))) (o:List bU) (I:List Int):Option ((List bU)×(List Int)):=j (o,I)
def rk (U:aD) (j:Bool) (OE:Nat) (o:aK) (I:List bU) (J:List Int) (R:(List bU×List Int)->Option ((List bU)×(List Int))):Option ((List bU)×(List Int)):=if decide (o.Open=j) then ((bA U.a_ o.A).bind λOF=>(bA U.a_ o.B_).bind λOG=>dG ((I.length+([(bU.mk OF OG)]).length)*16<=140737488355328) (dG ((J.length+([((OE:Int))]:List Int).length)*8<=140737488355328) (ny R (I++([(bU.mk OF OG)])) (J++([((OE:Int))]:List Int))))) else (ny R I J)
def pC (I:aD) (o:Bool):Option ((List bU)×(List Int)):=dR (λk y j n=>rk I o k y j.1 j.2 n) (λj=>some (j.1,j.2)) 0 I.aH (([]:List bU),([]:List Int))
def sn (o:Int) (J:Nat) (j:bU) (I:Unit->Option (Int)):Option (Int):=if decide (j.a0<0) then (some 4) else (if decide (o<=j.a0) then (some 4) else (if decide (j.a1<0) then (some 4) else (if decide (o<=j.a1) then (some 4) else (I ()))))
def qR (j:Int) (o:(List bU)):Option (Int):=if ((decide (j<0)) || (decide (24<j))) || (decide (64<(o.length:Int))) then (some 2) else (dR (λk y I n=>sn j k y n) (λ_=>some 0) 0 o ())
def mc (j:Int) (o:Int):Int×Int:=((u64.wrap ((u64.wrap ((u64.wrap ((nJ .u64 j 32)*(nJ .u64 o 32)))+(nJ .u64 (u64.wrap ((u64.wrap ((nJ .u64 j 32)*(u64.wrap ((BitVec.ofInt (u64).bits o &&& BitVec.ofInt (u64).bits 4294967295).toNat))))+(nJ .u64 (u64.wrap ((u64.wrap ((BitVec.ofInt (u64).bits j &&& BitVec.ofInt (u64).bits 4294967295).toNat))*(u64.wrap ((BitVec.ofInt (u64).bits o &&& BitVec.ofInt (u64).bits 4294967295).toNat)))) 32))) 32)))+(nJ .u64 (u64.wrap ((u64.wrap ((BitVec.ofInt (u64).bits (u64.wrap ((u64.wrap ((nJ .u64 j 32)*(u64.wrap ((BitVec.ofInt (u64).bits o &&& BitVec.ofInt (u64).bits 4294967295).toNat))))+(nJ .u64 (u64.wrap ((u64.wrap ((BitVec.ofInt (u64).bits j &&& BitVec.ofInt (u64).bits 4294967295).toNat))*(u64.wrap ((BitVec.ofInt (u64).bits o &&& BitVec.ofInt (u64).bits 4294967295).toNat)))) 32))) &&& BitVec.ofInt (u64).bits 4294967295).toNat))+(u64.wrap ((u64.wrap ((BitVec.ofInt (u64).bits j &&& BitVec.ofInt (u64).bits 4294967295).toNat))*(nJ .u64 o 32))))) 32))),(u64.wrap (j*o)))
def qX (j:Int) (o:Int):Int×Int:=((((mc j o)).1),(((mc j o)).2))
def jE (j:(List Int×Int)->Option ((List Int))) (o:List Int) (I:Int):Option ((List Int)):=j (o,I)
def dZ (j:(List Int×List Int)->Option ((List Int))) (o:List Int) (I:List Int):Option ((List Int)):=j (o,I)
def pO (without:Int) (U:Int) (o:Int) (OE:Nat) (j:bU) (I:List Int) (J:List Int) (R:(List Int×List Int)->Option ((List Int))):Option ((List Int)):=if decide ((OE:Int)=without) then (dZ R I J) else (if decide (j.a0=o) then (idx I (i64.wrap ((i64.wrap (j.a0+j.a1))-o)) λOF=>if decide (OF<0) then (idx I (i64.wrap ((i64.wrap (j.a0+j.a1))-o)) λOH=>dG ((J.length+([(i64.wrap ((i64.wrap (j.a0+j.a1))-o))]:List Int).length)*8<=140737488355328) (dZ R (I.set ((i64.wrap ((i64.wrap (j.a0+j.a1))-o):Int).toNat) U) (J++([(i64.wrap ((i64.wrap (j.a0+j.a1))-o))]:List Int)))) else (dZ R I J)) else (if !decide (j.a1=o) then (dZ R I J) else (idx I (i64.wrap ((i64.wrap (j.a0+j.a1))-o)) λOG=>if decide (OG<0) then (idx I (i64.wrap ((i64.wrap (j.a0+j.a1))-o)) λOI=>dG ((J.length+([(i64.wrap ((i64.wrap (j.a0+j.a1))-o))]:List Int).length)*8<=140737488355328) (dZ R (I.set ((i64.wrap ((i64.wrap (j.a0+j.a1))-o):Int).toNat) U) (J++([(i64.wrap ((i64.wrap (j.a0+j.a1))-o))]:List Int)))) else (dZ R I J))))
def pN (OF:(List bU)) (without:Int) (I:Int) (R:(List Int×Int)->Option ((List Int))) (J:List Int) (j:List Int) (U:(List Int×List Int)->Option ((List Int))):Option ((List Int)):=if decide (0<(j.length:Int)) then (idx j 0 λOE=>dG (0<=1/\1<=(j.length:Int)) (dR (λk y o n=>pO without I OE k y o.1 o.2 n) (λo=>U (o.1,o.2)) 0 OF (J,(rV j (1:Int).toNat j.length)))) else (jE R J (i64.wrap (I+1)))
def pM (OE:(List bU)) (without:Int) (I:Nat) (j:List Int) (o:Int) (J:(List Int×Int)->Option ((List Int))):Option ((List Int)):=idx j (I:Int) λU=>if decide (0<=U) then (jE J j o) else (idx j (I:Int) λOF=>gH (λR n=>pN OE without o J R.1 R.2 n) fC ((j.set (((I:Int):Int).toNat) o),([((I:Int))]:List Int)))
def ox (o:Int) (I:(List bU)) (without:Int):Option ((List Int)):=dG (([((-1))]:List Int).length=1/\0<=o/\o*8<=140737488355328) (dG (o<=9223372036854775807) (jN (λk j n=>pM I without k j.1 j.2 n) (λj=>some j.1) (o:Int).toNat 0 ((E5 ([((-1))]:List Int) o),0)))
def iI (j:Int) (o:(List bU)):Option ((List Int)×Int):=(qR j o).bind λI=>if !decide (I=0) then (some (([]:List Int),I)) else ((ox j o (-1)).bind λJ=>some (J,0))
def nP (j:aD):Option ((List Int)):=(pC j false).bind λo=>(iI (j.a_.length:Int) o.1).bind λI=>some I.1
def rR (j:aD) (o:((List Int))) (OH:Nat) (I:aO) (J:List bU) (OE:List bU->Option (aV)):Option (aV):=(bA j.a_ I.oS).bind λOF=>idx o OF λR=>(bA j.a_ I.To).bind λOG=>idx o OG λU=>dG ((J.length+([(bU.mk R U)]).length)*16<=140737488355328) (OE (J++([(bU.mk R U)])))
def rQ (I:Nat) (o:Int) (n114:Int) (j:Int->Option (aV)):Option (aV):=j (max n114 (i64.wrap (o+1)))
def dN (j:aD):Option (aV):=(nP j).bind λo=>dR (λk y I n=>rQ k y I n) (λI=>dR (λk y J n=>rR j o k y J n) (λJ=>(iI I J).bind λR=>some (aV.mk o R.1)) 0 j.aG ([]:List bU)) 0 o 0
def qC (I:Nat) (o:Int) (n115:Int) (j:Int->Option (Int)):Option (Int):=j (max n115 (i64.wrap (o+1)))
def lF (o:aD):Option (Int):=(dN o).bind λI=>dR (λk y j n=>qC k y j n) (λj=>some j) 0 I.bK 0
def mh (o:aD) (j:aV) (node:ByteArray):Option (Int):=(bA o.a_ node).bind λI=>idx j.px I λJ=>idx j.bK J λR=>some R
def rH (U:aD) (OE:(aV)) (OG:Nat) (I:aE) (j:List bG) (R:List bG->Option ((List bG))):Option ((List bG)):=(mh U OE I.Node).bind λo=>idx j o λOF=>idx j o λJ=>R (j.set ((o:Int).toNat) (bG.mk J.iH J.pX (i64.wrap (OF.cV+I.cV))))
def rG (U:aD) (OE:(aV)) (OF:Nat) (o:bB) (J:List bG) (R:List bG->Option ((List bG))):Option ((List bG)):=(mh U OE o.Node).bind λI=>idx J I λj=>R ((J.set ((I:Int).toNat) (bG.mk (i64.wrap (j.iH+o.iH)) j.pX j.cV)).set ((I:Int).toNat) (bG.mk (i64.wrap (j.iH+o.iH)) (i64.wrap (j.pX+o.pX)) j.cV))
def qc (j:aD):Option ((List bG)):=(dN j).bind λR=>(lF j).bind λo=>dG (0<=o/\o*24<=140737488355328) (dR (λk y I n=>rG j R k y I n) (λI=>dR (λk y J n=>rH j R k y J n) (λJ=>some J) 0 j.aY I) 0 j.cR (List.replicate (o:Int).toNat ((bG.mk 0 0 0):bG)))
def nR (j:Int):Bool:=(decide (0<j))
def fE (I:(List Int)) (j:Nat) (o:Unit->Option (Int)):Option (Int):=idx I (j:Int) λJ=>if (nR J) then (some (j:Int)) else (o ())
def eE (j:(List Int)):Option (Int):=jN (λk o n=>fE j k n) (λ_=>some (-1)) ((j.length:Int):Int).toNat 0 ()
def dF (j:(List Int)):Option (Bool):=(eE j).bind λo=>some (decide (0<=o))
def lG (I:List Int) (j:List Int) (o:(List Int×List Int)->Option ((List Int)×Int)) (J:(Int)) (R:Int) (n316:Int):Option ((List Int)×Int):=dG ((j.length+([n316]:List Int).length)*8<=140737488355328) (o ((I.set ((J:Int).toNat) (i64.wrap (R-n316))),(j++([n316]:List Int))))
def q_ (OE:aD) (OF:(aV)) (OG:Nat) (o:bB) (I:List Int) (U:List Int) (J:(List Int×List Int)->Option ((List Int)×Int)):Option ((List Int)×Int):=(mh OE OF o.Node).bind λR=>idx I R λj=>if decide (o.iH<=j) then (lG I U J R j (min o.pX j)) else (lG I U J R j 0)
def q9 (J:Nat) (j:bG) (o:List Int) (I:List Int->Option ((List Int)×Int)):Option ((List Int)×Int):=dG ((o.length+([j.cV]:List Int).length)*8<=140737488355328) (I (o++([j.cV]:List Int)))
def mg (j:aD):Option ((List Int)×Int):=(bT j).bind λJ=>if !decide (J=0) then (some (([]:List Int),J)) else ((dN j).bind λR=>(qc j).bind λU=>dR (λk y I n=>q9 k y I n) (λI=>dR (λk y o n=>q_ j R k y o.1 o.2 n) (λo=>(dF o.1).bind λOE=>if OE then (some (([]:List Int),14)) else (some (o.2,0))) 0 j.cR (I,([]:List Int))) 0 U ([]:List Int))
def sk (I:Nat) (j:Int) (o:Unit->Option ((List Int)×Int)):Option ((List Int)×Int):=if (decide (j<(-100000))) || (decide (100000<j)) then (some (([]:List Int),4)) else (o ())
def sj (R:aD) (OE:Nat) (I:aE) (j:List Int) (J:List Int->Option ((List Int)×Int)):Option ((List Int)×Int):=(bA R.a_ I.Node).bind λo=>idx j o λU=>idx j o λOF=>J (j.set ((o:Int).toNat) (i64.wrap (U-I.cV)))
def si (U:aD) (stores:(List Int)) (j:Nat) (o:bS) (I:List Int) (R:List Int->Option ((List Int)×Int)):Option ((List Int)×Int):=idx stores (j:Int) λOE=>if decide (OE<(i64.wrap (0-o.rA))) then (some (([]:List Int),17)) else (idx stores (j:Int) λOF=>if decide (o.Discharge<OF) then (some (([]:List Int),17)) else ((bA U.a_ o.Node).bind λJ=>idx I J λOG=>idx stores (j:Int) λOH=>idx I J λOI=>R (I.set ((J:Int).toNat) (i64.wrap (OG+OH)))))
def sh (OE:aD) (gens:(List Int)) (o:Nat) (I:bB) (j:List Int) (J:List Int->Option ((List Int)×Int)):Option ((List Int)×Int):=idx gens (o:Int) λOF=>if decide (OF=0) then ((bA OE.a_ I.Node).bind λR=>idx j R λOG=>idx gens (o:Int) λOH=>idx j R λOM=>J (j.set ((R:Int).toNat) (i64.wrap (OG+OH)))) else (idx gens (o:Int) λOI=>if decide (OI<I.iH) then (some (([]:List Int),17)) else (idx gens (o:Int) λOJ=>if decide (I.pX<OJ) then (some (([]:List Int),17)) else ((bA OE.a_ I.Node).bind λU=>idx j U λOK=>idx gens (o:Int) λOL=>idx j U λON=>J (j.set ((U:Int).toNat) (i64.wrap (OK+OL))))))
def qQ (j:aD) (gens:(List Int)) (stores:(List Int)):Option ((List Int)×Int):=(bT j).bind λR=>if !decide (R=0) then (some (([]:List Int),R)) else (if (!decide ((gens.length:Int)=(j.cR.length:Int))) || (!decide ((stores.length:Int)=(j.bM.length:Int))) then (some (([]:List Int),3)) else (dG (0<=(j.a_.length:Int)/\(j.a_.length:Int)*8<=140737488355328) (dR (λk y I n=>sh j gens k y I n) (λI=>dR (λk y J n=>si j stores k y J n) (λJ=>dR (λk y o n=>sj j k y o n) (λo=>dR (λk y U n=>sk k y n) (λ_=>some (o,0)) 0 o ()) 0 j.aY J) 0 j.bM I) 0 j.cR (List.replicate ((j.a_.length:Int):Int).toNat (0:Int)))))
def fM (j:aD):Option ((List Int)×Int):=(mg j).bind λo=>if !decide (o.2=0) then (some (([]:List Int),o.2)) else (dG (0<=(j.bM.length:Int)/\(j.bM.length:Int)*8<=140737488355328) ((qQ j o.1 (List.replicate ((j.bM.length:Int):Int).toNat (0:Int))).bind λI=>some (I.1,I.2)))
def s5 (o:(aV)) (U:Nat) (j:Int) (I:(List (Int×Int))) (R:(List (Int×Int))->Option (Int)):Option (Int):=if (decide (j<(-100000))) || (decide (100000<j)) then (some 4) else (idx o.px (U:Int) λOE=>idx o.bK OE λJ=>R (ur I J (i64.wrap (((qK I J).getD (0:Int))+j))))
def mL (j:aD) (inject:(List Int)):Option (Int):=(bT j).bind λI=>if !decide (I=0) then (some I) else (if !decide ((inject.length:Int)=(j.a_.length:Int)) then (some 3) else ((dN j).bind λJ=>dR (λk y o n=>s5 J k y o n) (λo=>if (o.any (λR=>!decide (R.2=0))) then (some 14) else (some 0)) 0 inject ([]:(List (Int×Int)))))
def nN (minus:Bool) (j:(List bP)):Option (aC):=if minus then (some (aC.mk (decide (0<(j.length:Int))) j)) else (some (aC.mk false j))
def s9 (minus:Bool) (j:(List bP)) (o:(List bP)->Option (aC)):Option (aC):=if decide (0<(j.length:Int)) then (idx j (i64.wrap ((j.length:Int)-1)) λI=>if decide (I.n=0) then (dG (0<=(i64.wrap ((j.length:Int)-1))/\(i64.wrap ((j.length:Int)-1))<=(j.length:Int)) (o (rV j 0 ((i64.wrap ((j.length:Int)-1):Int).toNat)))) else (nN minus j)) else (nN minus j)
def gW (minus:Bool) (j:(List bP)):Option (aC):=gH (λo n=>s9 minus o n) fC j
def pF (j:Int) (n103:Int):Option (aC):=(gW (decide (j<0)) ([⟨u32.wrap (n103)⟩,⟨u32.wrap (nJ .u64 n103 32)⟩]:List bP)).bind λo=>some o
def mi (j:Int):Option (aC):=if decide (j<0) then (pF j (u64.wrap (0-(u64.wrap (j))))) else (pF j (u64.wrap (j)))
def k_ (j:aC):Option (aC):=(gW (!j.minus) j.words).bind λo=>some o
def eP (j:aC):Int:=if decide ((j.words.length:Int)=0) then 0 else (if j.minus then (-1) else 1)
def qF (j:(List bP)) (o:(List bP)) (n154:Int) (I:Int->Option (Int)):Option (Int):=if decide (0<=n154) then (idx j n154 λJ=>idx o n154 λR=>if !decide (J.n=R.n) then (idx j n154 λU=>idx o n154 λOE=>if decide (U.n<OE.n) then (some (-1)) else (some 1)) else (I (i64.wrap (n154-1)))) else (some 0)
def mW (j:(List bP)) (o:(List bP)):Option (Int):=if !decide ((j.length:Int)=(o.length:Int)) then (some (i64.wrap ((j.length:Int)-(o.length:Int)))) else (gH (λI n=>qF j o I n) fC (i64.wrap ((j.length:Int)-1)))
def qG (R:(List bP)) (j:Int) (o:List bP) (n151:Int) (n152:Int) (J:(List bP×Int×Int)->Option ((List bP)×Int)):Option ((List bP)×Int):=if decide (0<=n152) then (idx R n152 λI=>dG ((u64.wrap (j))≠0) (idx o n152 λU=>dG ((u64.wrap (j))≠0) (J ((o.set ((n152:Int).toNat) ⟨u32.wrap (u64.wrap (Int.tdiv (u64.wrap ((BitVec.ofInt (u64).bits (sU .u64 n151 32) ||| BitVec.ofInt (u64).bits (u64.wrap (I.n))).toNat)) (u64.wrap (j))))⟩),Int.tmod (u64.wrap ((BitVec.ofInt (u64).bits (sU .u64 n151 32) ||| BitVec.ofInt (u64).bits (u64.wrap (I.n))).toNat)) (u64.wrap (j)),i64.wrap (n152-1))))) else (some (o,(u32.wrap (n151))))
def mY (j:(List bP)) (I:Int):Option ((List bP)×Int):=dG (0<=(j.length:Int)/\(j.length:Int)*4<=140737488355328) (gH (λo n=>qG j I o.1 o.2.1 o.2.2 n) fC ((List.replicate ((j.length:Int):Int).toNat (⟨0⟩:bP)),0,i64.wrap ((j.length:Int)-1)))
def ky (n106:Int) (n107:Int):Option (Int):=idx (jM (⟨#[0,1,2,2,3,3,3,3,4,4,4,4,4,4,4,4,5,5,5,5,5,5,5,5,5,5,5,5,5,5,5,5,6,6,6,6,6,6,6,6,6,6,6,6,6,6,6,6,6,6,6,6,6,6,6,6,6,6,6,6,6,6,6,6,7,7,7,7,7,7,7,7,7,7,7,7,7,7,7,7,7,7,7,7,7,7,7,7,7,7,7,7,7,7,7,7,7,7,7,7,7,7,7,7,7,7,7,7,7,7,7,7,7,7,7,7,7,7,7,7,7,7,7,7,7,7,7,7,8,8,8,8,8,8,8,8,8,8,8,8,8,8,8,8,8,8,8,8,8,8,8,8,8,8,8,8,8,8,8,8,8,8,8,8,8,8,8,8,8,8,8,8,8,8,8,8,8,8,8,8,8,8,8,8,8,8,8,8,8,8,8,8,8,8,8,8,8,8,8,8,8,8,8,8,8,8,8,8,8,8,8,8,8,8,8,8,8,8,8,8,8,8,8,8,8,8,8,8,8,8,8,8,8,8,8,8,8,8,8,8,8,8,8,8,8,8,8,8,8,8,8,8,8,8,8,8]⟩)) (u8.wrap (n106)) λj=>some (i64.wrap (n107+(i64.wrap (j.n))))
def kz (n102:Int) (n103:Int):Option (Int):=if decide (256<=n102) then (ky (nJ .u32 n102 8) (i64.wrap (n103+8))) else (ky n102 n103)
def pT (j:Int):Option (Int):=if decide (65536<=j) then (kz (nJ .u32 j 16) 16) else (kz j 0)
def iL (j:Int):Option (Int):=(pT j).bind λo=>some (i64.wrap (32-o))
def ri (j:Int) (o:Nat) (I:bP) (J:List bP) (n140:Int) (R:(List bP×Int)->Option ((List bP))):Option ((List bP)):=dG (0<=j) (idx J (o:Int) λU=>R ((J.set (((o:Int):Int).toNat) ⟨u32.wrap (u64.wrap ((BitVec.ofInt (u64).bits n140 ||| BitVec.ofInt (u64).bits (sU .u64 (u64.wrap (I.n)) j)).toNat))⟩),nJ .u64 (u64.wrap ((BitVec.ofInt (u64).bits n140 ||| BitVec.ofInt (u64).bits (sU .u64 (u64.wrap (I.n)) j)).toNat)) 32))
def nO (j:(List bP)) (I:Int):Option ((List bP)):=dG (0<=(i64.wrap ((j.length:Int)+1))/\(i64.wrap ((j.length:Int)+1))*4<=140737488355328) (dR (λk y o n=>ri I k y o.1 o.2 n) (λo=>idx o.1 (j.length:Int) λJ=>some (o.1.set (((j.length:Int):Int).toNat) ⟨u32.wrap (o.2)⟩)) 0 j ((List.replicate (i64.wrap ((j.length:Int)+1):Int).toNat (⟨0⟩:bP)),0))
def kv (o:List bP) (j:Int) (I:(List bP×List bP×Int)->Option ((List bP)×(List bP))) (J:List bP) (R:Int):Option ((List bP)×(List bP)):=idx o j λU=>I ((o.set ((j:Int).toNat) ⟨u32.wrap (R)⟩),J,i64.wrap (j-1))
def nW (OF:(List bP)) (OG:((List bP))) (o:Int) (j:Nat) (I:List bP) (J:Int) (OE:(List bP×Int)->Option ((List bP)×(List bP))):Option ((List bP)×(List bP)):=idx I (i64.wrap ((j:Int)+o)) λR=>idx (rV OG 0 (((OF.length:Int):Int).toNat)) (j:Int) λU=>idx I (i64.wrap ((j:Int)+o)) λOH=>OE ((I.set ((i64.wrap ((j:Int)+o):Int).toNat) ⟨u32.wrap (u64.wrap (J+(u64.wrap ((u64.wrap (R.n))+(u64.wrap (U.n))))))⟩),nJ .u64 (u64.wrap (J+(u64.wrap ((u64.wrap (R.n))+(u64.wrap (U.n)))))) 32)
def nV (OH:(List bP)) (OI:((List bP))) (o:Int) (I:Int) (j:Nat) (J:List bP) (OE:Int) (R:Int) (OG:(List bP×Int×Int)->Option ((List bP)×(List bP))):Option ((List bP)×(List bP)):=idx (rV OI 0 (((OH.length:Int):Int).toNat)) (j:Int) λU=>idx J (i64.wrap ((j:Int)+o)) λOF=>idx J (i64.wrap ((j:Int)+o)) λOJ=>OG ((J.set ((i64.wrap ((j:Int)+o):Int).toNat) ⟨u32.wrap (i64.wrap (OE+(i64.wrap ((i64.wrap (OF.n))-(i64.wrap (u64.wrap ((BitVec.ofInt (u64).bits (u64.wrap (R+(u64.wrap (I*(u64.wrap (U.n)))))) &&& BitVec.ofInt (u64).bits 4294967295).toNat)))))))⟩),nJ .i64 (i64.wrap (OE+(i64.wrap ((i64.wrap (OF.n))-(i64.wrap (u64.wrap ((BitVec.ofInt (u64).bits (u64.wrap (R+(u64.wrap (I*(u64.wrap (U.n)))))) &&& BitVec.ofInt (u64).bits 4294967295).toNat))))))) 32,nJ .u64 (u64.wrap (R+(u64.wrap (I*(u64.wrap (U.n)))))) 32)
def fA (I:(List bP)) (OG:((List bP))) (OF:List bP) (OH:List bP) (o:Int) (OE:(List bP×List bP×Int)->Option ((List bP)×(List bP))) (R:Int):Option ((List bP)×(List bP)):=jN (λk j n=>nV I OG o R k j.1 j.2.1 j.2.2 n) (λj=>idx j.1 (i64.wrap (o+(I.length:Int))) λU=>idx j.1 (i64.wrap (o+(I.length:Int))) λOJ=>if decide ((i64.wrap (j.2.1+(i64.wrap ((i64.wrap (U.n))-(i64.wrap (j.2.2))))))<0) then (jN (λk J n=>nW I OG o k J.1 J.2 n) (λJ=>idx J.1 (i64.wrap (o+(I.length:Int))) λOI=>idx J.1 (i64.wrap (o+(I.length:Int))) λOK=>kv OF o OE (J.1.set ((i64.wrap (o+(I.length:Int)):Int).toNat) ⟨u32.wrap (OI.n+(u32.wrap (J.2)))⟩) (u64.wrap (R-1))) ((I.length:Int):Int).toNat 0 ((j.1.set ((i64.wrap (o+(I.length:Int)):Int).toNat) ⟨u32.wrap (i64.wrap (j.2.1+(i64.wrap ((i64.wrap (U.n))-(i64.wrap (j.2.2))))))⟩),0)) else (kv OF o OE (j.1.set ((i64.wrap (o+(I.length:Int)):Int).toNat) ⟨u32.wrap (i64.wrap (j.2.1+(i64.wrap ((i64.wrap (U.n))-(i64.wrap (j.2.2))))))⟩) R)) ((I.length:Int):Int).toNat 0 (OH,0,0)
def nX (j:(List bP)) (J:((List bP))) (OF:List bP) (R:List bP) (U:Int) (OE:(List bP×List bP×Int)->Option ((List bP)×(List bP))) (o:Int) (I:Int) (OG:(Int×Int)->Option ((List bP)×(List bP))):Option ((List bP)×(List bP)):=if decide (4294967296<=o) then (idx (rV J 0 (((j.length:Int):Int).toNat)) (i64.wrap ((j.length:Int)-1)) λOH=>if decide (4294967296<=(u64.wrap (I+(u64.wrap (OH.n))))) then (fA j J OF R U OE (u64.wrap (o-1))) else (OG (u64.wrap (o-1),u64.wrap (I+(u64.wrap (OH.n)))))) else (idx (rV J 0 (((j.length:Int):Int).toNat)) (i64.wrap ((j.length:Int)-2)) λOJ=>idx R (i64.wrap ((i64.wrap (U+(j.length:Int)))-2)) λOK=>if decide ((u64.wrap ((BitVec.ofInt (u64).bits (sU .u64 I 32) ||| BitVec.ofInt (u64).bits (u64.wrap (OK.n))).toNat))<(u64.wrap (o*(u64.wrap (OJ.n))))) then (idx (rV J 0 (((j.length:Int):Int).toNat)) (i64.wrap ((j.length:Int)-1)) λOI=>if decide (4294967296<=(u64.wrap (I+(u64.wrap (OI.n))))) then (fA j J OF R U OE (u64.wrap (o-1))) else (OG (u64.wrap (o-1),u64.wrap (I+(u64.wrap (OI.n)))))) else (fA j J OF R U OE o))
def lR (R:(Int)) (o:List bP) (j:Nat) (I:List bP) (J:List bP->Option ((List bP)×(List bP))):Option ((List bP)×(List bP)):=idx o (i64.wrap ((j:Int)+1)) λU=>idx o (j:Int) λOE=>dG (0<=R) (idx I (j:Int) λOF=>J (I.set (((j:Int):Int).toNat) ⟨u32.wrap (nJ .u64 (u64.wrap ((BitVec.ofInt (u64).bits (sU .u64 (u64.wrap (U.n)) 32) ||| BitVec.ofInt (u64).bits (u64.wrap (OE.n))).toNat)) R)⟩))
def nU (j:(List bP)) (OK:(Int)) (R:((List bP))) (U:List bP) (o:List bP) (I:Int) (OJ:(List bP×List bP×Int)->Option ((List bP)×(List bP))):Option ((List bP)×(List bP)):=if decide (0<=I) then (idx o (i64.wrap (I+(j.length:Int))) λOE=>idx o (i64.wrap ((i64.wrap (I+(j.length:Int)))-1)) λOF=>idx (rV R 0 (((j.length:Int):Int).toNat)) (i64.wrap ((j.length:Int)-1)) λOG=>dG ((u64.wrap (OG.n))≠0) (idx (rV R 0 (((j.length:Int):Int).toNat)) (i64.wrap ((j.length:Int)-1)) λOH=>dG ((u64.wrap (OH.n))≠0) (gH (λOI n=>nX j R U o I OJ OI.1 OI.2 n) fC (u64.wrap (Int.tdiv (u64.wrap ((BitVec.ofInt (u64).bits (sU .u64 (u64.wrap (OE.n)) 32) ||| BitVec.ofInt (u64).bits (u64.wrap (OF.n))).toNat)) (u64.wrap (OG.n))),Int.tmod (u64.wrap ((BitVec.ofInt (u64).bits (sU .u64 (u64.wrap (OE.n)) 32) ||| BitVec.ofInt (u64).bits (u64.wrap (OF.n))).toNat)) (u64.wrap (OH.n)))))) else (dG (0<=(j.length:Int)/\(j.length:Int)*4<=140737488355328) (jN (λk J n=>lR OK o k J n) (λJ=>some (U,J)) ((j.length:Int):Int).toNat 0 (List.replicate ((j.length:Int):Int).toNat (⟨0⟩:bP))))
def mX (o:(List bP)) (j:(List bP)):Option ((List bP)×(List bP)):=(mW o j).bind λOE=>if decide (OE<0) then (some ([],o)) else (if decide ((j.length:Int)=1) then (idx j 0 λOF=>(mY o OF.n).bind λR=>some (R.1,([⟨R.2⟩]:List bP))) else (idx j (i64.wrap ((j.length:Int)-1)) λOG=>(iL OG.n).bind λJ=>(nO o J).bind λOH=>(nO j J).bind λU=>dG (0<=(j.length:Int)/\(j.length:Int)<=(U.length:Int)) (dG (0<=(i64.wrap ((i64.wrap ((o.length:Int)-(j.length:Int)))+1))/\(i64.wrap ((i64.wrap ((o.length:Int)-(j.length:Int)))+1))*4<=140737488355328) (gH (λI n=>nU j J U I.1 I.2.1 I.2.2 n) fC ((List.replicate (i64.wrap ((i64.wrap ((o.length:Int)-(j.length:Int)))+1):Int).toNat (⟨0⟩:bP)),OH,i64.wrap ((o.length:Int)-(j.length:Int)))))))
def rI (j:Bool) (o:(List bP)):Option (aC):=some (aC.mk j o)
def tU (o:Bool) (j:(List bP)) (OE:Bool) (I:(List bP)) (U:(Bool×(List bP)×Bool×(List bP))->Option (aC)):Option (aC):=if !decide ((eP (aC.mk o j))=0) then ((mX I j).bind λJ=>dG (J.2.length*4<=140737488355328) ((gW false J.2).bind λR=>U (R.minus,R.words,o,j))) else (rI OE I)
def oO (o:aC) (I:aC):Option (aC):=gH (λj n=>tU j.1 j.2.1 j.2.2.1 j.2.2.2 n) fC (false,I.words,false,o.words)
def kU (j:List bP) (I:(List bP×Int)->Option ((List bP))) (o:Nat) (n198:Int):Option ((List bP)):=idx j (o:Int) λJ=>I ((j.set (((o:Int):Int).toNat) ⟨u32.wrap (n198)⟩),nJ .u64 n198 32)
def qE (U:(List bP)) (I:(List bP)) (j:Nat) (J:List bP) (n176:Int) (o:(List bP×Int)->Option ((List bP))):Option ((List bP)):=idx U (j:Int) λR=>if decide ((j:Int)<(I.length:Int)) then (idx I (j:Int) λOE=>kU J o j (u64.wrap ((u64.wrap (n176+(u64.wrap (R.n))))+(u64.wrap (OE.n))))) else (kU J o j (u64.wrap (n176+(u64.wrap (R.n)))))
def kV (j:(List bP)) (I:(List bP)):Option ((List bP)):=dG (0<=(i64.wrap ((j.length:Int)+1))/\(i64.wrap ((j.length:Int)+1))*4<=140737488355328) (jN (λk o n=>qE j I k o.1 o.2 n) (λo=>idx o.1 (j.length:Int) λJ=>some (o.1.set (((j.length:Int):Int).toNat) ⟨u32.wrap (o.2)⟩)) ((j.length:Int):Int).toNat 0 ((List.replicate (i64.wrap ((j.length:Int)+1):Int).toNat (⟨0⟩:bP)),0))
def oI (j:(List bP)) (o:(List bP)):Option ((List bP)):=if decide ((j.length:Int)<(o.length:Int)) then (kV o j) else (kV j o)
def kW (j:List bP) (I:(List bP×Int)->Option ((List bP))) (o:Nat) (n190:Int):Option ((List bP)):=idx j (o:Int) λJ=>I ((j.set (((o:Int):Int).toNat) ⟨u32.wrap (n190)⟩),nJ .i64 n190 32)
def qH (U:(List bP)) (I:(List bP)) (j:Nat) (J:List bP) (n168:Int) (o:(List bP×Int)->Option ((List bP))):Option ((List bP)):=idx U (j:Int) λR=>if decide ((j:Int)<(I.length:Int)) then (idx I (j:Int) λOE=>kW J o j (i64.wrap ((i64.wrap (n168+(i64.wrap (R.n))))-(i64.wrap (OE.n))))) else (kW J o j (i64.wrap (n168+(i64.wrap (R.n)))))
def mZ (j:(List bP)) (I:(List bP)):Option ((List bP)):=dG (0<=(j.length:Int)/\(j.length:Int)*4<=140737488355328) (jN (λk o n=>qH j I k o.1 o.2 n) (λo=>some o.1) ((j.length:Int):Int).toNat 0 ((List.replicate ((j.length:Int):Int).toNat (⟨0⟩:bP)),0))
def kZ (j:aC) (o:aC):Option (aC):=if decide (j.minus=o.minus) then ((oI j.words o.words).bind λI=>(gW j.minus I).bind λJ=>some J) else ((mW j.words o.words).bind λR=>if decide (0<=R) then ((mZ j.words o.words).bind λU=>(gW j.minus U).bind λOE=>some OE) else ((mZ o.words j.words).bind λOF=>(gW o.minus OF).bind λOG=>some OG))
def nK (j:aC) (o:aC):Option (aC):=(k_ o).bind λI=>(kZ j I).bind λJ=>some J
def lA (c194:Bool) (j:(List bP)) (c198:Bool) (o:(List bP)):Option (aC×aC):=some ((aC.mk c198 o),(aC.mk c194 j))
def cK (I:aC) (R:aC):Option (aC×aC):=(mX I.words R.words).bind λj=>dG (j.1.length*4<=140737488355328) ((gW I.minus j.1).bind λJ=>dG (j.2.length*4<=140737488355328) ((gW I.minus j.2).bind λo=>if o.minus then ((mi 1).bind λOF=>(nK J OF).bind λU=>(kZ o R).bind λOE=>lA OE.minus OE.words U.minus U.words) else (lA o.minus o.words J.minus J.words)))
def mV (o:Bool) (j:(List bP)) (c127:Bool) (I:(List bP)):Option (aA):=if decide ((j.length:Int)=1) then (idx j 0 λOL=>if decide (OL.n=1) then (some (aA.mk (aC.mk c127 I) (aC.mk o j))) else ((oO (aC.mk c127 I) (aC.mk o j)).bind λJ=>if decide ((J.words.length:Int)=1) then (idx J.words 0 λOM=>if decide (OM.n=1) then (some (aA.mk (aC.mk c127 I) (aC.mk o j))) else ((cK (aC.mk false I) J).bind λU=>(cK (aC.mk o j) J).bind λOH=>if c127 then (some (aA.mk (aC.mk (decide (0<(U.1.words.length:Int))) U.1.words) OH.1)) else (some (aA.mk (aC.mk false U.1.words) OH.1)))) else ((cK (aC.mk false I) J).bind λOE=>(cK (aC.mk o j) J).bind λOI=>if c127 then (some (aA.mk (aC.mk (decide (0<(OE.1.words.length:Int))) OE.1.words) OI.1)) else (some (aA.mk (aC.mk false OE.1.words) OI.1))))) else ((oO (aC.mk c127 I) (aC.mk o j)).bind λR=>if decide ((R.words.length:Int)=1) then (idx R.words 0 λON=>if decide (ON.n=1) then (some (aA.mk (aC.mk c127 I) (aC.mk o j))) else ((cK (aC.mk false I) R).bind λOF=>(cK (aC.mk o j) R).bind λOJ=>if c127 then (some (aA.mk (aC.mk (decide (0<(OF.1.words.length:Int))) OF.1.words) OJ.1)) else (some (aA.mk (aC.mk false OF.1.words) OJ.1)))) else ((cK (aC.mk false I) R).bind λOG=>(cK (aC.mk o j) R).bind λOK=>if c127 then (some (aA.mk (aC.mk (decide (0<(OG.1.words.length:Int))) OG.1.words) OK.1)) else (some (aA.mk (aC.mk false OG.1.words) OK.1))))
def mR (o:aC) (j:aC):Option (aA):=if j.minus then ((k_ o).bind λI=>(k_ j).bind λJ=>mV J.minus J.words I.minus I.words) else (mV j.minus j.words o.minus o.words)
def qq (j:Int) (o:Int):Option (aA):=(mi j).bind λI=>(mi o).bind λJ=>(mR I J).bind λR=>some R
def re (J:bP) (j:Nat) (o:Nat) (R:bP) (I:List bP) (n337:Int) (OE:(List bP×Int)->Option (aC)):Option (aC):=idx I (i64.wrap ((j:Int)+(o:Int))) λU=>idx I (i64.wrap ((j:Int)+(o:Int))) λOF=>OE ((I.set ((i64.wrap ((j:Int)+(o:Int)):Int).toNat) ⟨u32.wrap (u64.wrap (n337+(u64.wrap ((u64.wrap (U.n))+(u64.wrap ((u64.wrap (J.n))*(u64.wrap (R.n))))))))⟩),nJ .u64 (u64.wrap (n337+(u64.wrap ((u64.wrap (U.n))+(u64.wrap ((u64.wrap (J.n))*(u64.wrap (R.n)))))))) 32)
def ra (o:aC) (I:Nat) (R:bP) (U:List bP) (J:List bP->Option (aC)):Option (aC):=dR (λk y j n=>re R I k y j.1 j.2 n) (λj=>idx j.1 (i64.wrap ((I:Int)+(o.words.length:Int))) λOE=>J (j.1.set ((i64.wrap ((I:Int)+(o.words.length:Int)):Int).toNat) ⟨u32.wrap (j.2)⟩)) 0 o.words (U,0)
def eQ (j:aC) (o:aC):Option (aC):=dG (0<=(i64.wrap ((j.words.length:Int)+(o.words.length:Int)))/\(i64.wrap ((j.words.length:Int)+(o.words.length:Int)))*4<=140737488355328) (dR (λk y I n=>ra o k y I n) (λI=>(gW (!decide (j.minus=o.minus)) I).bind λJ=>some J) 0 j.words (List.replicate (i64.wrap ((j.words.length:Int)+(o.words.length:Int)):Int).toNat (⟨0⟩:bP)))
def lf (j:aA) (o:aA):Option (aA):=(eQ j.N o.N).bind λI=>(eQ j.D o.D).bind λJ=>(mR I J).bind λR=>some R
def jP (j:Int):Option (aA):=(mi j).bind λo=>(mi 1).bind λI=>some (aA.mk o I)
def mS (j:Int):Option ((List aA)):=(jP 0).bind λo=>dG (([o]).length=1/\0<=j/\j*64<=140737488355328) (some (E5 ([o]) j))
def nI (I:(List Int)) (J:Int) (j:Nat) (o:Unit->Option (Int)):Option (Int):=idx I (j:Int) λR=>if decide (J=R) then (some (j:Int)) else (o ())
def kO (j:(List Int)) (o:Int):Option (Int):=jN (λk I n=>nI j o k n) (λ_=>some (-1)) ((j.length:Int):Int).toNat 0 ()
def lD (j:aW) (bus:Int):Option (Int):=(kO j.pU bus).bind λo=>some o
def gJ (j:aA) (o:aA):Option (aA):=(eQ j.N o.D).bind λI=>(eQ o.N j.D).bind λJ=>(kZ I J).bind λR=>(eQ j.D o.D).bind λU=>(mR R U).bind λOE=>some OE
def nM (j:aA):Option (aA):=(k_ j.N).bind λo=>some (aA.mk o j.D)
def iU (j:aA) (o:aA):Option (aA):=(nM o).bind λI=>(gJ j I).bind λJ=>some J
def uI (I:Nat) (J:(List aA)) (j:List Nat) (o:List (List aA)) (R:(List Nat×List (List aA))->Option ((List Nat×List (List aA)))):Option ((List Nat×List (List aA))):=dG ((([]:List aA).length+J.length)*64<=140737488355328) (idx j (I:Int) λU=>R ((j.set (((I:Int):Int).toNat) o.length),(o++[([]:List aA)++J])))
def tZ (o:(List (List aA))):Option ((List Nat×List (List aA))):=dG (0<=(o.length:Int)/\(o.length:Int)*24<=140737488355328) (dR (λk y j n=>uI k y j.1 j.2 n) (λj=>some (j.1,j.2)) 0 o ((List.replicate ((o.length:Int):Int).toNat 0),([[]])))
def cP (j:aA):Int:=(eP j.N)
def pB (j:aA) (o:aA):Option (aA):=(eQ j.N o.D).bind λI=>(eQ j.D o.N).bind λJ=>(mR I J).bind λR=>some R
def nY (J:Int) (j:(List Int×Int×List Nat×List (List aA))->Option ((List Nat×List (List aA))×(List Int))) (R:List Int) (o:List Nat) (I:List (List aA)):Option ((List Nat×List (List aA))×(List Int)):=j (R,i64.wrap (J+1),o,I)
def jF (j:List (List aA)->Option ((List Nat×List (List aA))×(List Int))) (o:List (List aA)):Option ((List Nat×List (List aA))×(List Int)):=j o
def mb (I:Int) (j:(Int×List (List aA))->Option ((List Nat×List (List aA))×(List Int))) (o:List (List aA)):Option ((List Nat×List (List aA))×(List Int)):=j (i64.wrap (I+1),o)
def n6 (I:List Int) (J:List Nat) (R:Int) (U:Nat) (OE:Nat) (OI:List (List aA)->Option ((List Nat×List (List aA))×(List Int))) (OF:Nat) (OJ:aA) (o:Int) (j:List (List aA)) (OH:(Int×List (List aA))->Option ((List Nat×List (List aA))×(List Int))):Option ((List Nat×List (List aA))×(List Int)):=idx ((J.set (((I.length:Int):Int).toNat) U).set ((R:Int).toNat) OE) (OF:Int) λOK=>if decide (o<(((j[OK]?).getD []).length:Int)) then (idx ((J.set (((I.length:Int):Int).toNat) U).set ((R:Int).toNat) OE) (I.length:Int) λOL=>idx ((j[OL]?).getD []) o λOM=>if !decide ((cP OM)=0) then (idx ((J.set (((I.length:Int):Int).toNat) U).set ((R:Int).toNat) OE) (OF:Int) λOG=>idx ((J.set (((I.length:Int):Int).toNat) U).set ((R:Int).toNat) OE) (OF:Int) λON=>idx ((j[ON]?).getD []) o λOO=>idx ((J.set (((I.length:Int):Int).toNat) U).set ((R:Int).toNat) OE) (I.length:Int) λOP=>idx ((j[OP]?).getD []) o λOQ=>(lf OJ OQ).bind λOR=>(iU OO OR).bind λOS=>idx ((j[OG]?).getD []) o λOT=>mb o OH (j.set OG (((j[OG]?).getD []).set ((o:Int).toNat) OS))) else (mb o OH j)) else (jF OI j)
def pS (o:List Int) (U:Int) (J:List Nat) (OE:Int) (OF:Nat) (OG:Nat) (I:Nat) (j:List (List aA)) (R:List (List aA)->Option ((List Nat×List (List aA))×(List Int))):Option ((List Nat×List (List aA))×(List Int)):=if decide ((I:Int)=(o.length:Int)) then (jF R j) else (idx ((J.set (((o.length:Int):Int).toNat) OF).set ((OE:Int).toNat) OG) (I:Int) λOI=>idx ((j[OI]?).getD []) U λOJ=>if decide ((cP OJ)=0) then (jF R j) else (idx ((J.set (((o.length:Int):Int).toNat) OF).set ((OE:Int).toNat) OG) (I:Int) λOK=>idx ((j[OK]?).getD []) U λOL=>gH (λOH n=>n6 o J OE OF OG R I OL OH.1 OH.2 n) fC (U,j)))
def nZ (j:List Int) (OF:Int) (o:List Nat) (OI:(List Int×Int×List Nat×List (List aA))->Option ((List Nat×List (List aA))×(List Int))) (J:Int) (R:Nat) (U:Nat) (OK:aA) (OE:Int) (I:List (List aA)) (OJ:(Int×List (List aA))->Option ((List Nat×List (List aA))×(List Int))):Option ((List Nat×List (List aA))×(List Int)):=idx ((o.set (((j.length:Int):Int).toNat) R).set ((J:Int).toNat) U) (j.length:Int) λOL=>if decide (OE<(((I[OL]?).getD []).length:Int)) then (idx ((o.set (((j.length:Int):Int).toNat) R).set ((J:Int).toNat) U) (j.length:Int) λOG=>idx ((o.set (((j.length:Int):Int).toNat) R).set ((J:Int).toNat) U) (j.length:Int) λOM=>idx ((I[OM]?).getD []) OE λON=>(pB ON OK).bind λOO=>idx ((I[OG]?).getD []) OE λOP=>OJ (i64.wrap (OE+1),(I.set OG (((I[OG]?).getD []).set ((OE:Int).toNat) OO)))) else (dG ((((o.set (((j.length:Int):Int).toNat) R).set ((J:Int).toNat) U).length:Int)<=9223372036854775807) (jN (λk OH n=>pS j OF o J R U k OH n) (λOH=>dG ((j.length+([OF]:List Int).length)*8<=140737488355328) (nY OF OI (j++([OF]:List Int)) ((o.set (((j.length:Int):Int).toNat) R).set ((J:Int).toNat) U) OH)) ((((o.set (((j.length:Int):Int).toNat) R).set ((J:Int).toNat) U).length:Int):Int).toNat 0 I))
def n7 (o:List Int) (J:Int) (j:List Nat) (R:List (List aA)) (OE:(List Int×Int×List Nat×List (List aA))->Option ((List Nat×List (List aA))×(List Int))) (I:Int):Option ((List Nat×List (List aA))×(List Int)):=if decide (I=(j.length:Int)) then (nY J OE o j R) else (idx j I λU=>idx j (o.length:Int) λOF=>idx j (o.length:Int) λOJ=>idx (j.set (((o.length:Int):Int).toNat) U) I λOK=>idx ((j.set (((o.length:Int):Int).toNat) U).set ((I:Int).toNat) OF) (o.length:Int) λOH=>idx ((R[OH]?).getD []) J λOI=>gH (λOG n=>nZ o J j OE I U OF OI OG.1 OG.2 n) fC (J,R))
def rK (U:List Int) (J:Int) (j:List Nat) (I:List (List aA)) (R:(List Int×Int×List Nat×List (List aA))->Option ((List Nat×List (List aA))×(List Int))) (o:Int) (OE:Int->Option ((List Nat×List (List aA))×(List Int))):Option ((List Nat×List (List aA))×(List Int)):=if decide (o<(j.length:Int)) then (idx j o λOF=>idx ((I[OF]?).getD []) J λOG=>if decide ((cP OG)=0) then (OE (i64.wrap (o+1))) else (n7 U J j I R o)) else (n7 U J j I R o)
def l_ (cols:Int) (j:List Int) (J:Int) (o:List Nat) (I:List (List aA)) (R:(List Int×Int×List Nat×List (List aA))->Option ((List Nat×List (List aA))×(List Int))):Option ((List Nat×List (List aA))×(List Int)):=if (decide (J<cols)) && (decide ((j.length:Int)<(o.length:Int))) then (gH (λU n=>rK j J o I R U n) fC (j.length:Int)) else (some ((o,I),j))
def qu (I:(List (List aA))) (cols:Int):Option ((List Nat×List (List aA))×(List Int)):=(tZ I).bind λo=>gH (λj n=>l_ cols j.1 j.2.1 j.2.2.1 j.2.2.2 n) fC (([]:List Int),0,o.1,o.2)
def ss (R:(List (List aA))) (J:Nat) (j:List Nat) (I:List (List aA)) (U:(List Nat×List (List aA))->Option ((List (List aA))×Bool)):Option ((List (List aA))×Bool):=idx j (J:Int) λo=>dG (0<=(R.length:Int)/\(R.length:Int)<=(((I[o]?).getD []).length:Int)) (idx j (J:Int) λOE=>dG (lone j (((J:Int):Int).toNat) o=true) (U ((j.set (((J:Int):Int).toNat) o),(I.set o (((I[o]?).getD []).drop ((R.length:Int):Int).toNat)))))
def sr (R:(List (List aA))) (j:Nat) (J:List Nat) (o:List (List aA)) (OF:(List Nat×List (List aA))->Option ((List (List aA))×Bool)):Option ((List (List aA))×Bool):=idx R (j:Int) λI=>dG ((([]:List aA).length+I.length)*64<=140737488355328) ((mS (R.length:Int)).bind λU=>dG (((([]:List aA)++I).length+U.length)*64<=140737488355328) (idx J (j:Int) λOH=>idx (J.set (((j:Int):Int).toNat) o.length) (j:Int) λOE=>(jP 1).bind λOG=>idx (((o++[(([]:List aA)++I)++U])[OE]?).getD []) (i64.wrap ((R.length:Int)+(j:Int))) λOI=>OF ((J.set (((j:Int):Int).toNat) o.length),((o++[(([]:List aA)++I)++U]).set OE ((((o++[(([]:List aA)++I)++U])[OE]?).getD []).set ((i64.wrap ((R.length:Int)+(j:Int)):Int).toNat) OG)))))
def pH (j:(List (List aA))):Option ((List (List aA))×Bool):=dG (0<=(j.length:Int)/\(j.length:Int)*24<=140737488355328) (jN (λk o n=>sr j k o.1 o.2 n) (λo=>(qu (qL o.1 o.2) (j.length:Int)).bind λI=>if decide ((I.2.length:Int)<(j.length:Int)) then (some ([],false)) else (dG ((I.1.1.length:Int)<=9223372036854775807) (jN (λk J n=>ss j k J.1 J.2 n) (λJ=>some (qL J.1 J.2,true)) ((I.1.1.length:Int):Int).toNat 0 (I.1.1,I.1.2)))) ((j.length:Int):Int).toNat 0 ((List.replicate ((j.length:Int):Int).toNat 0),([[]])))
def fL (j:List (List aA)->Option (aW)) (o:List (List aA)):Option (aW):=j o
def iD (R:List Nat) (OF:List (List aA)->Option (aW)) (OG:aA) (J:(Int)) (o:(Int)) (j:List (List aA)):Option (aW):=if (decide (0<=J)) && (decide (0<=o)) then (idx R J λI=>idx R o λU=>idx R J λOH=>idx ((j[OH]?).getD []) o λOI=>(iU OI OG).bind λOE=>idx R o λOJ=>idx ((j[OJ]?).getD []) J λOK=>(iU OK OG).bind λOL=>idx ((j[I]?).getD []) o λOM=>idx (((j.set I (((j[I]?).getD []).set ((o:Int).toNat) OE))[U]?).getD []) J λON=>fL OF ((j.set I (((j[I]?).getD []).set ((o:Int).toNat) OE)).set U ((((j.set I (((j[I]?).getD []).set ((o:Int).toNat) OE))[U]?).getD []).set ((J:Int).toNat) OL))) else (fL OF j)
def iE (I:List Nat) (U:List (List aA)->Option (aW)) (J:aA) (OE:(Int)) (j:(Int)) (o:List (List aA)):Option (aW):=if decide (0<=j) then (idx I j λR=>idx I j λOF=>idx ((o[OF]?).getD []) j λOG=>(gJ OG J).bind λOH=>idx ((o[R]?).getD []) j λOI=>iD I U J OE j (o.set R (((o[R]?).getD []).set ((j:Int).toNat) OH))) else (iD I U J OE j o)
def jX (I:aW) (J:List Nat) (OF:Nat) (U:aA) (o:List (List aA)) (R:List (List aA)->Option (aW)):Option (aW):=idx I.oS (OF:Int) λOH=>(lD I OH).bind λj=>idx I.To (OF:Int) λOI=>(lD I OI).bind λOG=>idx I.oS (OF:Int) λOJ=>idx I.To (OF:Int) λOK=>if decide (OJ=OK) then (fL R o) else (if decide (0<=j) then (idx J j λOE=>idx J j λOL=>idx ((o[OL]?).getD []) j λOM=>(gJ OM U).bind λON=>idx ((o[OE]?).getD []) j λOO=>iE J R U j OG (o.set OE (((o[OE]?).getD []).set ((j:Int).toNat) ON))) else (iE J R U j OG o))
def oX (R:aW) (I:Nat) (j:List Nat) (o:List (List aA)) (J:(List Nat×List (List aA))->Option (aW)):Option (aW):=(mS (R.pU.length:Int)).bind λU=>idx j (I:Int) λOE=>J ((j.set (((I:Int):Int).toNat) o.length),(o++[U]))
def mw (j:aW):Option (aW):=dG (0<=(j.pU.length:Int)/\(j.pU.length:Int)*24<=140737488355328) (dG (((List.replicate ((j.pU.length:Int):Int).toNat 0).length:Int)<=9223372036854775807) (jN (λk o n=>oX j k o.1 o.2 n) (λo=>dR (λk y I n=>jX j o.1 k y I n) (λI=>(pH (qL o.1 I)).bind λJ=>some (aW.mk j.uF j.oS j.To j.B_ j.C j.pU J.1)) 0 j.B_ o.2) (((List.replicate ((j.pU.length:Int):Int).toNat 0).length:Int):Int).toNat 0 ((List.replicate ((j.pU.length:Int):Int).toNat 0),([[]]))))
def qp (o:(List (Int×Bool))) (j:((List (Int×Bool))×List Int)->Option ((Option aW))) (I:Int) (J:List Int):Option ((Option aW)):=j ((ur o I true),J)
def vy (R:Nat) (j:Int) (o:(List (Int×Bool))) (I:List Int) (J:((List (Int×Bool))×List Int)->Option ((Option aW))):Option ((Option aW)):=if (qK o j).getD false then (dG ((I.length+([((R:Int))]:List Int).length)*8<=140737488355328) (qp o J j (I++([((R:Int))]:List Int)))) else (qp o J j I)
def vx (I:aD) (J:(aV)) (ON:Nat) (j:aO) (R:List Int) (U:List Int) (OE:List aA) (OF:List aA) (OJ:(List Int×List Int×List aA×List aA)->Option ((Option aW))):Option ((Option aW)):=(bA I.a_ j.oS).bind λOK=>idx J.px OK λOG=>dG ((R.length+([OG]:List Int).length)*8<=140737488355328) ((bA I.a_ j.To).bind λOL=>idx J.px OL λOH=>dG ((U.length+([OH]:List Int).length)*8<=140737488355328) ((qq 1000000 (i64.wrap (j.X*j.A5))).bind λo=>dG ((OE.length+([o]).length)*64<=140737488355328) ((qq (i64.wrap (0-j.Shift)) 1000).bind λOM=>(lf o OM).bind λOI=>dG ((OF.length+([OI]).length)*64<=140737488355328) (OJ ((R++([OG]:List Int)),(U++([OH]:List Int)),(OE++([o])),(OF++([OI])))))))
def tI (I:aD):Option ((Option aW)):=(dN I).bind λJ=>dR (λk y j n=>vx I J k y j.1 j.2.1 j.2.2.1 j.2.2.2 n) (λj=>dR (λk y o n=>vy k y o.1 o.2 n) (λo=>(mw (aW.mk J j.1 j.2.1 j.2.2.1 j.2.2.2 o.2 [])).bind λR=>some (some R)) 0 J.bK (([]:(List (Int×Bool))),([]:List Int))) 0 I.aG (([]:List Int),([]:List Int),([]:List aA),([]:List aA))
def eD (j:aW):Int:=(j.uF.bK.length:Int)
def p_ (R:Nat) (J:Int) (j:List aA) (I:List aA->Option ((List aA))):Option ((List aA)):=(jP J).bind λo=>dG ((j.length+([o]).length)*64<=140737488355328) (I (j++([o])))
def pZ (J:aW) (R:Nat) (U:Int) (j:List Int) (I:List Int->Option ((List aA))):Option ((List aA)):=idx J.uF.px (R:Int) λo=>idx j o λOE=>idx j o λOF=>I (j.set ((o:Int).toNat) (i64.wrap (OE+U)))
def nQ (j:aW) (inject:(List Int)):Option ((List aA)):=dG (0<=(eD j)/\(eD j)*8<=140737488355328) (dR (λk y o n=>pZ j k y o n) (λo=>dR (λk y I n=>p_ k y I n) (λI=>some I) 0 o ([]:List aA)) 0 inject (List.replicate ((eD j):Int).toNat (0:Int)))
def lQ (j:(Bool×(List bP)×Bool×(List bP))->Option (aA)) (o:Bool) (I:(List bP)) (J:Bool) (R:(List bP)):Option (aA):=j (o,I,J,R)
def tT (OF:(List aA)) (OG:(List aA)) (o:Nat) (J:Bool) (R:(List bP)) (U:Bool) (OE:(List bP)) (j:(Bool×(List bP)×Bool×(List bP))->Option (aA)):Option (aA):=idx OF (o:Int) λOH=>if decide ((cP OH)=0) then (lQ j J R U OE) else (idx OG (o:Int) λOI=>if !decide ((cP OI)=0) then (idx OF (o:Int) λOJ=>idx OG (o:Int) λOK=>(lf OJ OK).bind λOL=>(gJ (aA.mk (aC.mk J R) (aC.mk U OE)) OL).bind λI=>lQ j I.N.minus I.N.words I.D.minus I.D.words) else (lQ j J R U OE))
def sR (I:(List aA)) (J:(List aA)):Option (aA):=(jP 0).bind λo=>jN (λk j n=>tT I J k j.1 j.2.1 j.2.2.1 j.2.2.2 n) (λj=>some (aA.mk (aC.mk j.1 j.2.1) (aC.mk j.2.2.1 j.2.2.2))) ((I.length:Int):Int).toNat 0 (o.N.minus,o.N.words,o.D.minus,o.D.words)
def oW (J:aW) (R:List aA) (U:Nat) (j:Int) (o:List aA) (I:List aA->Option ((List aA))):Option ((List aA)):=idx J.ql (U:Int) λOE=>(sR OE R).bind λOF=>idx o j λOG=>I (o.set ((j:Int).toNat) OF)
def oV (J:(List aA)) (j:Nat) (R:Int) (o:List aA) (I:List aA->Option ((List aA))):Option ((List aA)):=idx J R λU=>idx o (j:Int) λOE=>I (o.set (((j:Int):Int).toNat) U)
def mu (j:aW) (J:(List aA)):Option ((List aA)):=dG (0<=(j.pU.length:Int)/\(j.pU.length:Int)*64<=140737488355328) (dR (λk y o n=>oV J k y o n) (λo=>(mS (eD j)).bind λR=>dR (λk y I n=>oW j o k y I n) (λI=>some I) 0 j.pU R) 0 j.pU (List.replicate ((j.pU.length:Int):Int).toNat ((aA.mk (aC.mk false []) (aC.mk false [])):aA)))
def mM (o:aW) (I:Nat) (U:aA) (j:List aA) (OF:List aA->Option ((List aA))):Option ((List aA)):=idx o.oS (I:Int) λJ=>idx o.oS (I:Int) λOG=>idx j OG λOH=>(iU OH U).bind λR=>idx j J λOL=>idx o.To (I:Int) λOE=>idx o.To (I:Int) λOI=>idx (j.set ((J:Int).toNat) R) OI λOJ=>(gJ OJ U).bind λOK=>idx (j.set ((J:Int).toNat) R) OE λOM=>OF ((j.set ((J:Int).toNat) R).set ((OE:Int).toNat) OK)
def mr (j:aW) (I:(List aA)):Option ((List aA)):=dG (I.length*64<=140737488355328) (dR (λk y o n=>mM j k y o n) (λo=>(mu j o).bind λJ=>some J) 0 j.C I)
def kR (n291:Int) (I:(Int×List U8)->Option (ByteArray×Bool)) (j:bP) (o:List U8):Option (ByteArray×Bool):=dG (o.length+(r7 (u64.wrap (j.n))).size<=140737488355328) (I (i64.wrap (n291-1),(o++jM (r7 (u64.wrap (j.n))))))
def kT (j:List U8) (o:ByteArray):Option (ByteArray×Bool):=some (o,(decide (((x_ j).size:Int)<=2000)))
def oE (R:aC) (J:List bP) (n291:Int) (j:List U8) (I:(Int×List U8)->Option (ByteArray×Bool)):Option (ByteArray×Bool):=if decide (0<=n291) then (idx J n291 λo=>dG (0<=(u64.wrap (o.n))/\(u64.wrap (o.n))<=18446744073709551615) (if decide (n291<(i64.wrap ((J.length:Int)-1))) then (dG (0<=((r7 (u64.wrap (o.n))).size:Int)/\((r7 (u64.wrap (o.n))).size:Int)<=((⟨#[48,48,48,48,48,48,48,48,48]⟩:ByteArray).size:Int)) (dG (j.length+((⟨#[48,48,48,48,48,48,48,48,48]⟩:ByteArray).extract ((((r7 (u64.wrap (o.n))).size:Int):Int).toNat) ((⟨#[48,48,48,48,48,48,48,48,48]⟩:ByteArray).size)).size<=140737488355328) (kR n291 I o (j++jM ((⟨#[48,48,48,48,48,48,48,48,48]⟩:ByteArray).extract ((((r7 (u64.wrap (o.n))).size:Int):Int).toNat) ((⟨#[48,48,48,48,48,48,48,48,48]⟩:ByteArray).size)))))) else (kR n291 I o j))) else (dG (0<j.length) (if R.minus then (dG ((⟨#[45]⟩:ByteArray).size+(x_ j).size<=maxLen) (kT j ((⟨#[45]⟩:ByteArray)++(x_ j)))) else (kT j (x_ j))))
def qD (U:aC) (j:List bP) (I:(List bP)) (R:(List bP×(List bP))->Option (ByteArray×Bool)):Option (ByteArray×Bool):=if decide (0<(I.length:Int)) then ((mY I 1000000000).bind λo=>dG ((j.length+([⟨o.2⟩]:List bP).length)*4<=140737488355328) ((gW false o.1).bind λOE=>R ((j++([⟨o.2⟩]:List bP)),OE.words))) else (gH (λJ n=>oE U j J.1 J.2 n) fC (i64.wrap ((j.length:Int)-1),([]:List U8)))
def jZ (j:aC):Option (ByteArray×Bool):=if decide ((j.words.length:Int)=0) then (some ((⟨#[48]⟩),true)) else (if decide (210<(j.words.length:Int)) then (some ((⟨#[]⟩),false)) else (gH (λo n=>qD j o.1 o.2 n) fC (([]:List bP),j.words)))
def oH (I:aA):Option (ByteArray×Bool):=(jZ I.N).bind λj=>if !j.2 then (some ((⟨#[]⟩),false)) else ((jZ I.D).bind λo=>if decide (o.1=(⟨#[49]⟩)) then (some (j.1,o.2)) else (dG (j.1.size+(⟨#[47]⟩:ByteArray).size<=maxLen) (dG ((j.1++(⟨#[47]⟩)).size+o.1.size<=maxLen) (some (((j.1++(⟨#[47]⟩))++o.1),o.2)))))
def sq (j:Nat) (R:aA) (o:List ByteArray) (J:List ByteArray->Option ((List ByteArray)×Bool)):Option ((List ByteArray)×Bool):=(oH R).bind λI=>if !I.2 then (some (([]:List ByteArray),false)) else (idx o (j:Int) λU=>J (o.set (((j:Int):Int).toNat) I.1))
def sF (j:(List aA)):Option ((List ByteArray)×Bool):=dG (0<=(j.length:Int)/\(j.length:Int)*16<=140737488355328) (dR (λk y o n=>sq k y o n) (λo=>some (o,true)) 0 j (List.replicate ((j.length:Int):Int).toNat ((⟨#[]⟩):ByteArray)))
def m_ (o:(List aA)):Option ((List ByteArray)×Int):=(sF o).bind λj=>if !j.2 then (some (([]:List ByteArray),2)) else (some (j.1,0))
def pK (j:aW) (I:(List aA)) (o:Nat) (OE:aA) (J:List aA) (U:List aA->Option ((List aA))):Option ((List aA)):=idx j.B_ (o:Int) λOF=>idx j.oS (o:Int) λOG=>idx I OG λOH=>idx j.To (o:Int) λOI=>idx I OI λOJ=>(iU OH OJ).bind λOK=>(lf OF OK).bind λOL=>(gJ OL OE).bind λR=>dG ((J.length+([R]).length)*64<=140737488355328) (U (J++([R])))
def ng (o:aW) (I:(List aA)):Option ((List aA)):=dR (λk y j n=>pK o I k y j n) (λj=>some j) 0 o.C ([]:List aA)
def mO (j:aD) (inject:(List Int)):Option (cE×Int):=(mL j inject).bind λo=>if !decide (o=0) then (some ((cE.mk ([]:List ByteArray) ([]:List ByteArray)),o)) else ((tI j).bind λU=>Bh U none (λsp108=>(nQ sp108 inject).bind λOE=>(mr sp108 OE).bind λI=>(m_ I).bind λJ=>(ng sp108 I).bind λOF=>(m_ OF).bind λR=>if (!decide (J.2=0)) || (!decide (R.2=0)) then (some ((cE.mk ([]:List ByteArray) ([]:List ByteArray)),2)) else (some ((cE.mk J.1 R.1),0))))
def e_ (j:ByteArray) (o:Int):Int:=(LN j o)
def gI (j:ByteArray) (substr:ByteArray):Option (Int):=if (decide ((substr.size:Int)=0)) || (decide (substr=j)) then (some 0) else (if decide ((substr.size:Int)=1) then (idx (jM substr) 0 λo=>some (e_ j o.n)) else (if decide ((j.size:Int)<=(substr.size:Int)) then (some (-1)) else none))
def iK (j:ByteArray) (sep:ByteArray):Option (ByteArray×ByteArray×Bool):=(gI j sep).bind λo=>if decide (0<=o) then (dG (0<=o/\o<=(j.size:Int)) (dG (0<=(i64.wrap (o+(sep.size:Int)))/\(i64.wrap (o+(sep.size:Int)))<=(j.size:Int)) (some ((j.extract 0 ((o:Int).toNat)),(j.extract ((i64.wrap (o+(sep.size:Int)):Int).toNat) j.size),true)))) else (some (j,(⟨#[]⟩),false))
def mT (o:ByteArray) (sep:ByteArray):Option (ByteArray×ByteArray×Bool):=(iK o sep).bind λj=>some (j.1,j.2.1,j.2.2)
def eB (o:ByteArray) (j:ByteArray):Option (Bool):=if decide ((j.size:Int)<=(o.size:Int)) then (dG (0<=(j.size:Int)/\(j.size:Int)<=(o.size:Int)) (some (decide ((o.extract 0 (((j.size:Int):Int).toNat))=j)))) else (some false)
def mI (o:ByteArray) (j:ByteArray):Option (Bool):=(eB o j).bind λI=>some I
def gO (o:ByteArray) (j:ByteArray):Option (ByteArray):=(eB o j).bind λI=>if I then (dG (0<=(j.size:Int)/\(j.size:Int)<=(o.size:Int)) (some (o.extract (((j.size:Int):Int).toNat) o.size))) else (some o)
def kB (o:ByteArray) (j:ByteArray):Option (ByteArray):=(gO o j).bind λI=>some I
def qV (o:(Bool)) (I:Bool) (j:(List bP)):Option (aC):=if o then (some (aC.mk (decide (0<(j.length:Int))) j)) else (some (aC.mk false j))
def s8 (U:(Bool)) (j:ByteArray) (o:Bool) (I:(List bP)) (R:(ByteArray×Bool×(List bP))->Option (aC)):Option (aC):=if decide (0<(j.size:Int)) then (dG (0<=(i64.wrap ((Int.tmod (i64.wrap ((j.size:Int)-1)) 9)+1))/\(i64.wrap ((Int.tmod (i64.wrap ((j.size:Int)-1)) 9)+1))<=(j.size:Int)) (dG ((j.extract 0 ((i64.wrap ((Int.tmod (i64.wrap ((j.size:Int)-1)) 9)+1):Int).toNat)).size≠0/\(j.extract 0 ((i64.wrap ((Int.tmod (i64.wrap ((j.size:Int)-1)) 9)+1):Int).toNat)).size<=281474976710656/\(Kh (j.extract 0 ((i64.wrap ((Int.tmod (i64.wrap ((j.size:Int)-1)) 9)+1):Int).toNat))).2=false) ((mi 1000000000).bind λOE=>(eQ (aC.mk o I) OE).bind λOF=>(mi (i64.wrap ((Kh (j.extract 0 ((i64.wrap ((Int.tmod (i64.wrap ((j.size:Int)-1)) 9)+1):Int).toNat))).1))).bind λOG=>(kZ OF OG).bind λJ=>dG (0<=(i64.wrap ((Int.tmod (i64.wrap ((j.size:Int)-1)) 9)+1))/\(i64.wrap ((Int.tmod (i64.wrap ((j.size:Int)-1)) 9)+1))<=(j.size:Int)) (R (j.extract ((i64.wrap ((Int.tmod (i64.wrap ((j.size:Int)-1)) 9)+1):Int).toNat) j.size,J.minus,J.words))))) else (qV U o I)
def kJ (o:ByteArray):Option (aC):=(mI o (⟨#[45]⟩)).bind λI=>(kB o (⟨#[45]⟩)).bind λJ=>gH (λj n=>s8 I j.1 j.2.1 j.2.2 n) fC (J,false,[])
def pG (o:ByteArray):Option (aA):=(mT o (⟨#[47]⟩)).bind λj=>if !j.2.2 then ((kJ j.1).bind λI=>(mi 1).bind λJ=>some (aA.mk I J)) else ((kJ j.1).bind λR=>(kJ j.2.1).bind λU=>some (aA.mk R U))
def nL (j:aA):Option (aA):=if decide ((cP j)<0) then ((nM j).bind λo=>some o) else (some j)
def qT (j:aC) (o:aC):Option (Int):=(nK j o).bind λI=>some (eP I)
def mj (j:aA) (o:aA):Option (Int):=(eQ j.N o.D).bind λI=>(eQ o.N j.D).bind λJ=>(qT I J).bind λR=>some R
def ob (j:List ByteArray->Option ((List ByteArray))) (o:List ByteArray):Option ((List ByteArray)):=j o
def rO (lO:(List ByteArray)) (J:Nat) (j:aO) (o:List ByteArray) (I:List ByteArray->Option ((List ByteArray))):Option ((List ByteArray)):=idx lO (J:Int) λR=>(pG R).bind λU=>(nL U).bind λOE=>(jP j.sK).bind λOF=>(mj OE OF).bind λOG=>if decide (0<OG) then (dG ((o.length+([j.Name]).length)*16<=140737488355328) (ob I (o++([j.Name])))) else (ob I o)
def nq (o:aD) (lO:(List ByteArray)):Option ((List ByteArray)):=dR (λk y j n=>rO lO k y j n) (λj=>some j) 0 o.aG ([]:List ByteArray)
def fI (o:aD):Option (cE×(List ByteArray)×Int):=(fM o).bind λI=>if !decide (I.2=0) then (some ((cE.mk ([]:List ByteArray) ([]:List ByteArray)),([]:List ByteArray),I.2)) else ((mO o I.1).bind λj=>if !decide (j.2=0) then (some ((cE.mk ([]:List ByteArray) ([]:List ByteArray)),([]:List ByteArray),j.2)) else ((nq o j.1.iW).bind λJ=>some (j.1,J,0)))
def dP (I:aD) (on:(List ByteArray)):Option (cE×(List ByteArray)×Int):=(np I on).bind λj=>if !decide (j.2=0) then (some ((cE.mk ([]:List ByteArray) ([]:List ByteArray)),([]:List ByteArray),j.2)) else ((fI j.1).bind λo=>some (o.1,o.2.1,o.2.2))
def qw (j:cI):Option (Int):=(bT j.bZ).bind λo=>if !decide (o=0) then (some o) else ((l7 j.oM).bind λI=>if !decide (I=0) then (some I) else (if decide (5<(j.bZ.aY.length:Int)) then (some 2) else ((pw j.bZ).bind λJ=>(dP j.bZ J).bind λR=>some R.2.2)))
def kD:bD:=(bD.mk ([]:List aI))
def o9 (j:aD):Option ((Option bO)×Int):=(bT j).bind λo=>if !decide (o=0) then (some (none,o)) else ((iV j).bind λI=>(mS (j.aG.length:Int)).bind λJ=>dG (0<=(j.aG.length:Int)/\(j.aG.length:Int)*8<=140737488355328) (dG (0<=(j.aG.length:Int)/\(j.aG.length:Int)*1<=140737488355328) (some ((some (bO.mk I.aG J (List.replicate ((j.aG.length:Int):Int).toNat (0:Int)) (List.replicate ((j.aG.length:Int):Int).toNat (false:Bool)) 0)),0))))
def uK (j:Nat) (o:List aX) (R:List aX->Option ((Option aQ)×Int)):Option ((Option aQ)×Int):=idx o (j:Int) λI=>dG (I.vU.length*40<=140737488355328) (idx o (j:Int) λJ=>R (o.set (((j:Int):Int).toNat) (aX.mk J.Close J.Switch I.vU)))
def su (j:cI):Option ((Option aQ)×Int):=(qw j).bind λR=>if !decide (R=0) then (some (none,R)) else ((iV j.bZ).bind λo=>dG (j.oM.length*48<=140737488355328) ((pw j.bZ).bind λI=>jN (λk J n=>uK k J n) (λJ=>(o9 o).bind λU=>Bh U.1 ((dP o I).bind λOF=>none) (λsp298=>(dP o I).bind λOE=>some ((some (aQ.mk o J I [] sp298 OE.1 0 ((kD)) [])),0))) ((j.oM.length:Int):Int).toNat 0 j.oM))
def eV:aD:=(aD.mk ([(⟨#[65]⟩),(⟨#[66]⟩)]) ([(aK.mk (⟨#[83]⟩) (⟨#[65]⟩) (⟨#[66]⟩) false true)]) ([(aO.mk (⟨#[76]⟩) (⟨#[65]⟩) (⟨#[66]⟩) 1000 1000 0 40 60 10)]) ([(bB.mk (⟨#[71]⟩) (⟨#[65]⟩) 10 50 0)]) ([(aE.mk (⟨#[68]⟩) (⟨#[66]⟩) 30)]) ([]:List bS))
def rE (I:Nat) (j:U8) (o:Unit->Option (Bool)):Option (Bool):=if (decide (j.n<97)) || (decide (122<j.n)) then (some false) else (o ())
def lP (j:ByteArray):Option (Bool):=dG (j.size<=maxLen) (dR (λk y o n=>rE k y n) (λ_=>some ((decide (1<=(j.size:Int))) && (decide ((j.size:Int)<=8)))) 0 (jM j) ())
def dU (j:aI):Option (Int):=if (decide (j.Time<0)) || (decide (200000<j.Time)) then (some 12) else ((lP j.Kind).bind λo=>if o then ((bQ j.Name).bind λI=>if !I then (some 6) else (if (decide (j.Value<(-1000000))) || (decide (1000000<j.Value)) then (some 4) else (some 0))) else (some 6))
def ly (j:bD):Option ((List aI)):=dG (j.jL.length*48<=140737488355328) (some j.jL)
def oc (o:aE) (j:aI):Bool:=(decide (o.Name=j.Name))
def fH (J:(List aE)) (j:aI) (o:Nat) (I:Unit->Option (Int)):Option (Int):=idx J (o:Int) λR=>if (oc R j) then (some (o:Int)) else (I ())
def dD (o:(List aE)) (j:aI):Option (Int):=jN (λk I n=>fH o j k n) (λ_=>some (-1)) ((o.length:Int):Int).toNat 0 ()
def od (o:bB) (j:aI):Bool:=(decide (o.Name=j.Name))
def fS (J:(List bB)) (j:aI) (o:Nat) (I:Unit->Option (Int)):Option (Int):=idx J (o:Int) λR=>if (od R j) then (some (o:Int)) else (I ())
def dJ (o:(List bB)) (j:aI):Option (Int):=jN (λk I n=>fS o j k n) (λ_=>some (-1)) ((o.length:Int):Int).toNat 0 ()
def nB (o:aK) (j:aI):Bool:=(decide (o.Name=j.Name))
def eX (J:(List aK)) (j:aI) (o:Nat) (I:Unit->Option (Int)):Option (Int):=idx J (o:Int) λR=>if (nB R j) then (some (o:Int)) else (I ())
def cO (o:(List aK)) (j:aI):Option (Int):=jN (λk I n=>eX o j k n) (λ_=>some (-1)) ((o.length:Int):Int).toNat 0 ()
def kQ (o:aM) (j:ByteArray):Bool:=(decide (o.Name=j))
def cL (J:(List aM)) (j:ByteArray) (o:Nat) (I:Unit->Option (Int)):Option (Int):=idx J (o:Int) λR=>if (kQ R j) then (some (o:Int)) else (I ())
def bW (o:(List aM)) (j:ByteArray):Option (Int):=jN (λk I n=>cL o j k n) (λ_=>some (-1)) ((o.length:Int):Int).toNat 0 ()
def kI (j:(List aM)) (name:ByteArray):Option (Int):=(bW j name).bind λo=>some o
def ni (o:(List aM)) (j:Nat) (I:aM) (J:Unit->Option (Int)):Option (Int):=(bQ I.Name).bind λR=>if !R then (some 6) else (dG (0<=(j:Int)/\(j:Int)<=(o.length:Int)) ((kI (rV o 0 (((j:Int):Int).toNat)) I.Name).bind λU=>if decide (0<=U) then (some 7) else (J ())))
def jY (j:(List aM)):Option (Int):=if decide (32<(j.length:Int)) then (some 2) else (dR (λk y o n=>ni j k y n) (λ_=>some 0) 0 j ())
def c_ (j:List Bool->Option (Bool)) (o:List Bool):Option (Bool):=j o
def qb (states:(List aM)) (o:Nat) (J:bH) (j:List Bool) (I:List Bool->Option (Bool)):Option (Bool):=(kI states J.Name).bind λR=>if decide (J.Kind=0) then (idx j (o:Int) λOK=>c_ I (j.set (((o:Int):Int).toNat) true)) else (if decide (J.Kind=2) then (if decide (0<=R) then (idx states R λU=>idx j (o:Int) λOL=>c_ I (j.set (((o:Int):Int).toNat) (!U.xz))) else (idx j (o:Int) λOM=>c_ I (j.set (((o:Int):Int).toNat) false))) else (if decide (J.Kind=3) then (if decide (0<=R) then (idx states R λOE=>idx j (o:Int) λON=>c_ I (j.set (((o:Int):Int).toNat) OE.xz)) else (idx j (o:Int) λOO=>c_ I (j.set (((o:Int):Int).toNat) false))) else (if decide (J.Kind=4) then (idx j J.A λOF=>idx j (o:Int) λOP=>c_ I (j.set (((o:Int):Int).toNat) (!OF))) else (if decide (J.Kind=5) then (idx j J.A λOG=>if OG then (idx j J.B_ λOH=>idx j (o:Int) λOQ=>c_ I (j.set (((o:Int):Int).toNat) OH)) else (idx j (o:Int) λOR=>c_ I (j.set (((o:Int):Int).toNat) false))) else (if decide (J.Kind=6) then (idx j J.A λOI=>if OI then (idx j (o:Int) λOS=>c_ I (j.set (((o:Int):Int).toNat) true)) else (idx j J.B_ λOJ=>idx j (o:Int) λOT=>c_ I (j.set (((o:Int):Int).toNat) OJ))) else (c_ I j))))))
def l8 (j:(List bH)) (states:(List aM)):Option (Bool):=dG (0<=(j.length:Int)/\(j.length:Int)*1<=140737488355328) (dR (λk y o n=>qb states k y o n) (λo=>idx o (i64.wrap ((j.length:Int)-1)) λI=>some I) 0 j (List.replicate ((j.length:Int):Int).toNat (false:Bool)))
def gB (j:List Int->Option ((List Int)×Int)) (o:List Int):Option ((List Int)×Int):=j o
def oY (states:(List aM)) (closing:Bool) (name:ByteArray) (J:Nat) (I:aX) (o:List Int) (j:List Int->Option ((List Int)×Int)):Option ((List Int)×Int):=if decide (I.Close=closing) then (if decide (I.Switch=name) then ((l8 I.vU states).bind λR=>if !R then (dG ((o.length+([((J:Int))]:List Int).length)*8<=140737488355328) (gB j (o++([((J:Int))]:List Int)))) else (gB j o)) else (gB j o)) else (gB j o)
def my (o:(List aX)) (states:(List aM)) (closing:Bool) (name:ByteArray):Option ((List Int)×Int):=(l7 o).bind λI=>if !decide (I=0) then (some (([]:List Int),I)) else ((jY states).bind λJ=>if !decide (J=0) then (some (([]:List Int),J)) else ((kI states name).bind λR=>if decide (R<0) then (some (([]:List Int),8)) else (dR (λk y j n=>oY states closing name k y j n) (λj=>some (j,0)) 0 o ([]:List Int))))
def lz (o:(List aX)) (states:(List aM)) (closing:Bool) (name:ByteArray):Option (Bool×Int):=(my o states closing name).bind λj=>some (((decide (j.2=0)) && (decide ((j.1.length:Int)=0))),j.2)
def pn (J:Nat) (j:aK) (o:List aM) (I:List aM->Option (Int×cN)):Option (Int×cN):=dG ((o.length+([(aM.mk j.Name (!j.Open))]).length)*24<=140737488355328) (I (o++([(aM.mk j.Name (!j.Open))])))
def mF (U:aQ) (j:cN) (o:aI):Option (Int×cN):=(cO j.n.aH o).bind λI=>if decide (I<0) then (some (8,j)) else (if !decide (o.Value=0) then (some (1,j)) else (idx j.n.aH I λOE=>if !decide (OE.Open=(decide (o.Kind=(⟨#[99,108,111,115,101]⟩)))) then (some (11,j)) else ((bF U.held o.Name).bind λOF=>if OF then (some (18,j)) else (dR (λk y R n=>pn k y R n) (λR=>(lz U.rules R (decide (o.Kind=(⟨#[99,108,111,115,101]⟩))) o.Name).bind λOG=>if !OG.1 then (some (19,j)) else (idx j.n.aH I λJ=>some (0,(cN.mk (aD.mk j.n.a_ (j.n.aH.set ((I:Int).toNat) (aK.mk J.Name J.A J.B_ J.lZ (!(decide (o.Kind=(⟨#[99,108,111,115,101]⟩)))))) j.n.aG j.n.cR j.n.aY j.n.bM) j.on)))) 0 j.n.aH ([]:List aM)))))
def gT (j:cN) (o:List bB) (I:List aE) (J:List ByteArray):Option (Int×cN):=some (0,(cN.mk (aD.mk j.n.a_ j.n.aH j.n.aG o I j.n.bM) J))
def jI (OF:aQ) (j:cN) (o:aI) (I:(Int)) (J:(Int)) (OG:Bool):Option (Int×cN):=if OG then ((mF OF j o).bind λU=>some (U.1,U.2)) else (if decide (o.Kind=(⟨#[108,111,97,100]⟩)) then (if decide (I<0) then (some (8,j)) else (if (decide (o.Value<0)) || (decide (100000<o.Value)) then (some (4,j)) else (idx j.n.aY I λOE=>gT j j.n.cR (j.n.aY.set ((I:Int).toNat) (aE.mk OE.Name OE.Node o.Value)) j.on))) else (if decide (o.Kind=(⟨#[103,101,110]⟩)) then (if decide (J<0) then (some (8,j)) else (idx j.n.cR J λOH=>if (decide (o.Value<OH.iH)) || (decide (100000<o.Value)) then (some (4,j)) else (idx j.n.cR J λR=>gT j (j.n.cR.set ((J:Int).toNat) (bB.mk R.Name R.Node R.iH o.Value R.A9)) j.n.aY j.on))) else (if decide (o.Kind=(⟨#[98,97,99,107]⟩)) then (if decide (I<0) then (some (8,j)) else ((bF j.on o.Name).bind λOI=>if OI then (some (11,j)) else (idx j.n.aY I λOJ=>if !decide (o.Value=OJ.cV) then (some (1,j)) else (dG ((j.on.length+([o.Name]).length)*16<=140737488355328) (gT j j.n.cR j.n.aY (j.on++([o.Name]))))))) else (if decide (o.Kind=(⟨#[119,97,105,116]⟩)) then (if !decide (o.Value=0) then (some (1,j)) else (gT j j.n.cR j.n.aY j.on)) else (some (1,j))))))
def nr (I:aQ) (o:cN) (j:aI):Option (Int×cN):=(dD o.n.aY j).bind λJ=>(dJ o.n.cR j).bind λR=>if decide (j.Kind=(⟨#[111,112,101,110]⟩)) then (jI I o j J R (decide (j.Kind=(⟨#[111,112,101,110]⟩)))) else (jI I o j J R (decide (j.Kind=(⟨#[99,108,111,115,101]⟩))))
def ua (I:Nat) (j:U8) (o:Unit->Option (Int)):Option (Int):=if (decide (j.n<48)) || (decide (57<j.n)) then (some 5) else (o ())
def oP (j:ByteArray):Option (Int):=dG (j.size<=maxLen) (dR (λk y I n=>ua k y n) (λ_=>if decide (j=(⟨#[]⟩)) then (some 5) else (if decide (1<(j.size:Int)) then (idx (jM j) 0 λo=>if decide (o.n=48) then (some 5) else (if decide (2000<(j.size:Int)) then (some 2) else (some 0))) else (if decide (2000<(j.size:Int)) then (some 2) else (some 0)))) 0 (jM j) ())
def vA (I:ByteArray) (J:ByteArray) (R:Nat) (o:Unit->Option (aC×aC×Int)):Option (aC×aC×Int):=idx [I,J] (R:Int) λU=>(oP U).bind λj=>if !decide (j=0) then (some ((aC.mk false []),(aC.mk false []),j)) else (o ())
def u_ (j:ByteArray) (o:ByteArray):Option (aC×aC×Int):=jN (λk R n=>vA j o k n) (λ_=>(kJ j).bind λI=>(kJ o).bind λJ=>some (I,J,0)) (2:Int).toNat 0 ()
def vz (o:aC):Option (ByteArray×Int):=(jZ o).bind λj=>if !j.2 then (some ((⟨#[]⟩),2)) else (some (j.1,0))
def u9 (I:ByteArray) (J:ByteArray):Option (ByteArray×Int):=(u_ I J).bind λj=>if !decide (j.2.2=0) then (some ((⟨#[]⟩),j.2.2)) else ((oO j.1 j.2.1).bind λR=>(vz R).bind λo=>some (o.1,o.2))
def rM:Option (Int):=some 0
def lS (I:ByteArray) (J:(ByteArray)) (j:(ByteArray×ByteArray×Bool)) (o:(Int)) (n110:Int):Option (Int):=if ((decide (o=5)) || (decide (n110=5))) || ((decide (j.1=(⟨#[48]⟩))) && (decide ((J.size:Int)<(I.size:Int)))) then (some 5) else (if (!decide (o=0)) || (!decide (n110=0)) then (some 2) else (if j.2.2 then ((u9 j.1 j.2.1).bind λR=>if ((decide (j.2.1=(⟨#[48]⟩))) || (decide (j.2.1=(⟨#[49]⟩)))) || (!decide (R.1=(⟨#[49]⟩))) then (some 3) else rM) else rM))
def oQ (o:ByteArray):Option (Int):=(kB o (⟨#[45]⟩)).bind λI=>(mT I (⟨#[47]⟩)).bind λj=>(oP j.1).bind λJ=>if j.2.2 then ((oP j.2.1).bind λR=>lS o I j J R) else (lS o I j J 0)
def rL (J:Nat) (I:ByteArray) (o:Unit->Option (Int)):Option (Int):=(oQ I).bind λj=>if !decide (j=0) then (some j) else (o ())
def qe (j:(List ByteArray)):Option (Int):=dR (λk y o n=>rL k y n) (λ_=>some 0) 0 j ()
def kL (j:(List ByteArray)):Option (Int):=if decide (40<(j.length:Int)) then (some 2) else ((qe j).bind λo=>some o)
def kM (j:List ByteArray->Option ((List ByteArray))) (o:List ByteArray):Option ((List ByteArray)):=j o
def o_ (J:bO) (R:Nat) (I:aO) (j:List ByteArray) (o:List ByteArray->Option ((List ByteArray))):Option ((List ByteArray)):=idx J.over (R:Int) λU=>if U then (dG ((j.length+([I.Name]).length)*16<=140737488355328) (kM o (j++([I.Name])))) else (kM o j)
def jC (o:bO):Option ((List ByteArray)):=dR (λk y j n=>o_ o k y j n) (λj=>some j) 0 o.kE ([]:List ByteArray)
def gC (j:(List aA×List Int×List Bool)->Option ((List ByteArray)×Int×bO)) (o:List aA) (I:List Int) (J:List Bool):Option ((List ByteArray)×Int×bO):=j (o,I,J)
def pd (lO:(List ByteArray)) (seconds:Int) (j:Nat) (OF:aO) (U:List aA) (o:List Int) (I:List Bool) (R:(List aA×List Int×List Bool)->Option ((List ByteArray)×Int×bO)):Option ((List ByteArray)×Int×bO):=idx lO (j:Int) λOG=>(pG OG).bind λOH=>(nL OH).bind λJ=>idx U (j:Int) λON=>(jP OF.sK).bind λOI=>(mj J OI).bind λOJ=>if decide (OJ<=0) then (idx o (j:Int) λOO=>idx I (j:Int) λOP=>gC R (U.set (((j:Int):Int).toNat) J) (o.set (((j:Int):Int).toNat) 0) (I.set (((j:Int):Int).toNat) false)) else (idx o (j:Int) λOE=>idx o (j:Int) λOQ=>idx (o.set (((j:Int):Int).toNat) (i64.wrap (OE+seconds))) (j:Int) λOK=>if decide (OF.BN<OK) then (idx I (j:Int) λOR=>gC R (U.set (((j:Int):Int).toNat) J) (o.set (((j:Int):Int).toNat) (i64.wrap (OE+seconds))) (I.set (((j:Int):Int).toNat) true)) else ((jP OF.wz).bind λOL=>(mj J OL).bind λOM=>if decide (0<OM) then (idx I (j:Int) λOS=>gC R (U.set (((j:Int):Int).toNat) J) (o.set (((j:Int):Int).toNat) (i64.wrap (OE+seconds))) (I.set (((j:Int):Int).toNat) true)) else (gC R (U.set (((j:Int):Int).toNat) J) (o.set (((j:Int):Int).toNat) (i64.wrap (OE+seconds))) I)))
def kX (j:bO) (lO:(List ByteArray)) (seconds:Int):Option ((List ByteArray)×Int×bO):=(kL lO).bind λI=>if !decide (I=0) then (some (([]:List ByteArray),I,j)) else (if !decide ((lO.length:Int)=(j.kE.length:Int)) then (some (([]:List ByteArray),3,j)) else (if (decide (seconds<1)) || (decide ((i64.wrap (200000-j.time))<seconds)) then (some (([]:List ByteArray),12,j)) else (dR (λk y o n=>pd lO seconds k y o.1 o.2.1 o.2.2 n) (λo=>(jC (bO.mk j.kE o.1 o.2.1 o.2.2 (i64.wrap (j.time+seconds)))).bind λJ=>some (J,0,(bO.mk j.kE o.1 o.2.1 o.2.2 (i64.wrap (j.time+seconds))))) 0 j.kE (j.lO,j.rq,j.over))))
def eN (j:bD) (o:aI):Option (Int×Int×bD):=(dU o).bind λI=>if !decide (I=0) then (some (0,I,j)) else (if decide (0<(j.jL.length:Int)) then (idx j.jL (i64.wrap ((j.jL.length:Int)-1)) λJ=>if decide (o.Time<J.Time) then (some (0,12,j)) else (if decide ((j.jL.length:Int)=300) then (some (0,9,j)) else (dG ((j.jL.length+([o]).length)*48<=140737488355328) (some ((i64.wrap ((j.jL.length:Int)+1)),0,(bD.mk (j.jL++([o])))))))) else (if decide ((j.jL.length:Int)=300) then (some (0,9,j)) else (dG ((j.jL.length+([o]).length)*48<=140737488355328) (some ((i64.wrap ((j.jL.length:Int)+1)),0,(bD.mk (j.jL++([o]))))))))
def jU (o:ByteArray) (j:(List ByteArray)):Option (Bool):=(bF j o).bind λI=>some (!I)
def gR (J:(List ByteArray)) (j:(List ByteArray)) (o:Nat) (I:Unit->Option (Int)):Option (Int):=idx J (o:Int) λR=>(jU R j).bind λU=>if U then (some (o:Int)) else (I ())
def eR (o:(List ByteArray)) (j:(List ByteArray)):Option (Int):=jN (λk I n=>gR o j k n) (λ_=>some (-1)) ((o.length:Int):Int).toNat 0 ()
def dH (n195:Int) (j:(List ByteArray×Int×Int)->Option ((List ByteArray))) (o:List ByteArray) (n227:Int):Option ((List ByteArray)):=j (o,n227,i64.wrap (n195+1))
def gL (del_0:(List ByteArray)) (j:List ByteArray) (n194:Int) (n195:Int) (o:(List ByteArray×Int×Int)->Option ((List ByteArray))):Option ((List ByteArray)):=if decide (n195<(j.length:Int)) then (idx j n195 λI=>(jU I del_0).bind λJ=>if !J then (idx j n194 λR=>dH n195 o (j.set ((n194:Int).toNat) I) (i64.wrap (n194+1))) else (dH n195 o j n194)) else (dG (0<=n194/\n194<=(j.length:Int)) (dG (0<=n194/\n194<=((j.take (n194).toNat++List.replicate (j.length-(n194).toNat) ((⟨#[]⟩):ByteArray)).length:Int)) (some (rV (j.take (n194).toNat++List.replicate (j.length-(n194).toNat) ((⟨#[]⟩):ByteArray)) 0 ((n194:Int).toNat)))))
def dQ (j:(List ByteArray)) (del_0:(List ByteArray)):Option ((List ByteArray)):=(eR j del_0).bind λo=>if decide (o=(-1)) then (some j) else (gH (λI n=>gL del_0 I.1 I.2.1 I.2.2 n) fC (j,o,i64.wrap (o+1)))
def iQ (o:ByteArray) (j:(List ByteArray)):Option (Bool):=(bF j o).bind λI=>some I
def gG (J:(List ByteArray)) (j:(List ByteArray)) (o:Nat) (I:Unit->Option (Int)):Option (Int):=idx J (o:Int) λR=>(iQ R j).bind λU=>if U then (some (o:Int)) else (I ())
def eM (o:(List ByteArray)) (j:(List ByteArray)):Option (Int):=jN (λk I n=>gG o j k n) (λ_=>some (-1)) ((o.length:Int):Int).toNat 0 ()
def dB (n195:Int) (j:(List ByteArray×Int×Int)->Option ((List ByteArray))) (o:List ByteArray) (n227:Int):Option ((List ByteArray)):=j (o,n227,i64.wrap (n195+1))
def fY (del_0:(List ByteArray)) (j:List ByteArray) (n194:Int) (n195:Int) (o:(List ByteArray×Int×Int)->Option ((List ByteArray))):Option ((List ByteArray)):=if decide (n195<(j.length:Int)) then (idx j n195 λI=>(iQ I del_0).bind λJ=>if !J then (idx j n194 λR=>dB n195 o (j.set ((n194:Int).toNat) I) (i64.wrap (n194+1))) else (dB n195 o j n194)) else (dG (0<=n194/\n194<=(j.length:Int)) (dG (0<=n194/\n194<=((j.take (n194).toNat++List.replicate (j.length-(n194).toNat) ((⟨#[]⟩):ByteArray)).length:Int)) (some (rV (j.take (n194).toNat++List.replicate (j.length-(n194).toNat) ((⟨#[]⟩):ByteArray)) 0 ((n194:Int).toNat)))))
def dL (j:(List ByteArray)) (del_0:(List ByteArray)):Option ((List ByteArray)):=(eM j del_0).bind λo=>if decide (o=(-1)) then (some j) else (gH (λI n=>fY del_0 I.1 I.2.1 I.2.2 n) fC (j,o,i64.wrap (o+1)))
def lg (o:aD):Option (Int):=(fI o).bind λj=>if (decide (j.2.2=0)) && (decide (0<(j.2.1.length:Int))) then (some 17) else (some j.2.2)
def nk (off:(List ByteArray)) (j:(List ByteArray)) (o:aD):Option (Bool):=dG (j.length*16<=140737488355328) ((dL j off).bind λI=>(oJ o I).bind λJ=>(lg J).bind λR=>some (decide (R=0)))
def iS (self:(List ByteArray)->(List ByteArray)->Int->Int->(List ByteArray)->aD->Option ((List ByteArray)×Bool)) (names:(List ByteArray)) (off:(List ByteArray)) (many:Int) (accept_0:(List ByteArray)) (accept_1:aD) (n257:Int) (I:Int->Option ((List ByteArray)×Bool)):Option ((List ByteArray)×Bool):=if decide (n257<(names.length:Int)) then (dG (0<=(off.length:Int)/\(off.length:Int)<=(off.length:Int)) (idx names n257 λj=>dG (((rV off 0 (((off.length:Int):Int).toNat)).length+([j]).length)*16<=140737488355328) ((self names ((rV off 0 (((off.length:Int):Int).toNat))++([j])) (i64.wrap (n257+1)) (i64.wrap (many-1)) accept_0 accept_1).bind λo=>if o.2 then (some (o.1,true)) else (I (i64.wrap (n257+1)))))) else (some (([]:List ByteArray),false))
def dY (self:(List ByteArray)->(List ByteArray)->Int->Int->(List ByteArray)->aD->Option ((List ByteArray)×Bool)) (names:(List ByteArray)) (off:(List ByteArray)) (j:Int) (many:Int) (accept_0:(List ByteArray)) (accept_1:aD):Option ((List ByteArray)×Bool):=if decide (many=0) then ((nk off accept_0 accept_1).bind λo=>some (off,o)) else (gH (λI n=>iS self names off many accept_0 accept_1 I n) fC j)
def dE:Nat->(List ByteArray)->(List ByteArray)->Int->Int->(List ByteArray)->aD->Option ((List ByteArray)×Bool)
 | 0=>λ_ _ _ _ _ _=>none
 | n+1=>dY (dE n)
def jR (names:(List ByteArray)) (off:(List ByteArray)) (j:Int) (many:Int) (accept_0:(List ByteArray)) (accept_1:aD):Option ((List ByteArray)×Bool):=dE fC names off j many accept_0 accept_1
def mD (j:List ByteArray->Option ((List ByteArray)×Int)) (o:List ByteArray):Option ((List ByteArray)×Int):=j o
def qJ (J:aD) (j:List ByteArray) (n272:Int) (I:Int->Option ((List ByteArray)×Int)):Option ((List ByteArray)×Int):=if decide (n272<=(j.length:Int)) then ((jR j ([]:List ByteArray) 0 n272 j J).bind λo=>if o.2 then (some (o.1,0)) else (I (i64.wrap (n272+1)))) else (some (([]:List ByteArray),8))
def qI (on:(List ByteArray)) (R:Nat) (j:aE) (o:List ByteArray) (I:List ByteArray->Option ((List ByteArray)×Int)):Option ((List ByteArray)×Int):=(bF on j.Name).bind λJ=>if J then (dG ((o.length+([j.Name]).length)*16<=140737488355328) (mD I (o++([j.Name])))) else (mD I o)
def lJ (j:aD) (on:(List ByteArray)):Option ((List ByteArray)×Int):=(dV j on).bind λI=>if !decide (I=0) then (some (([]:List ByteArray),I)) else (if decide (5<(on.length:Int)) then (some (([]:List ByteArray),2)) else (dR (λk y o n=>qI on k y o n) (λo=>gH (λJ n=>qJ j o J n) fC 0) 0 j.aY ([]:List ByteArray)))
def nC (o:aE) (j:ByteArray):Bool:=(decide (o.Name=j))
def fG (J:(List aE)) (j:ByteArray) (o:Nat) (I:Unit->Option (Int)):Option (Int):=idx J (o:Int) λR=>if (nC R j) then (some (o:Int)) else (I ())
def cX (o:(List aE)) (j:ByteArray):Option (Int):=jN (λk I n=>fG o j k n) (λ_=>some (-1)) ((o.length:Int):Int).toNat 0 ()
def gU (o:ByteArray) (j:(List ByteArray)):Option (Bool):=(bF j o).bind λI=>some I
def fZ (J:(List ByteArray)) (j:(List ByteArray)) (o:Nat) (I:Unit->Option (Int)):Option (Int):=idx J (o:Int) λR=>(gU R j).bind λU=>if U then (some (o:Int)) else (I ())
def eH (o:(List ByteArray)) (j:(List ByteArray)):Option (Int):=jN (λk I n=>fZ o j k n) (λ_=>some (-1)) ((o.length:Int):Int).toNat 0 ()
def cW (n195:Int) (j:(List ByteArray×Int×Int)->Option ((List ByteArray))) (o:List ByteArray) (n227:Int):Option ((List ByteArray)):=j (o,n227,i64.wrap (n195+1))
def fR (del_0:(List ByteArray)) (j:List ByteArray) (n194:Int) (n195:Int) (o:(List ByteArray×Int×Int)->Option ((List ByteArray))):Option ((List ByteArray)):=if decide (n195<(j.length:Int)) then (idx j n195 λI=>(gU I del_0).bind λJ=>if !J then (idx j n194 λR=>cW n195 o (j.set ((n194:Int).toNat) I) (i64.wrap (n194+1))) else (cW n195 o j n194)) else (dG (0<=n194/\n194<=(j.length:Int)) (dG (0<=n194/\n194<=((j.take (n194).toNat++List.replicate (j.length-(n194).toNat) ((⟨#[]⟩):ByteArray)).length:Int)) (some (rV (j.take (n194).toNat++List.replicate (j.length-(n194).toNat) ((⟨#[]⟩):ByteArray)) 0 ((n194:Int).toNat)))))
def dI (j:(List ByteArray)) (del_0:(List ByteArray)):Option ((List ByteArray)):=(eH j del_0).bind λo=>if decide (o=(-1)) then (some j) else (gH (λI n=>fR del_0 I.1 I.2.1 I.2.2 n) fC (j,o,i64.wrap (o+1)))
def po (o:aQ) (U:Nat) (I:ByteArray) (J:List aI) (j:List aI->Option (aQ)):Option (aQ):=(eN (bD.mk J) (aI.mk o.time (⟨#[112,114,111,111,102]⟩) I 0)).bind λR=>j R.2.2.jL
def pq (j:aQ) (OF:Nat) (o:ByteArray) (J:List aI) (I:List aI->Option (aQ)):Option (aQ):=(cX j.bX.aY o).bind λR=>idx j.bX.aY R λU=>(eN (bD.mk J) (aI.mk j.time (⟨#[115,104,101,100]⟩) o U.cV)).bind λOE=>I OE.2.2.jL
def mG (j:aQ) (over:(List ByteArray)):Option (aQ):=(lJ j.bX j.on).bind λo=>if !decide (o.2=0) then (dR (λk y I n=>po j k y I n) (λI=>some (aQ.mk j.bX j.rules j.on j.held j.watch j.state j.time (bD.mk I) over)) 0 over j.log.jL) else (dR (λk y J n=>pq j k y J n) (λJ=>(dI j.on o.1).bind λR=>(dP j.bX R).bind λU=>some (aQ.mk j.bX j.rules R j.held j.watch U.1 j.time (bD.mk J) j.over)) 0 o.1 j.log.jL)
def mE (j:(List aO)) (o:List aA) (I:List Int) (J:List Bool) (R:Int) (U:List aI) (OE:(List ByteArray)) (OF:(List aK)) (OG:(List aO)) (OH:(List bB)) (OI:(List aE)) (OJ:(List bS)) (OK:(List aX)) (OL:List ByteArray) (OM:(List ByteArray)) (ON:(List ByteArray)) (OO:(List ByteArray)) (OP:Int) (OQ:(List ByteArray)):Option (Int×aQ):=some (0,(aQ.mk (aD.mk OE OF OG OH OI OJ) OK OL OM (bO.mk j o I J R) (cE.mk ON OO) OP (bD.mk U) OQ))
def jD (I:aQ) (R:aI) (o:(Int×cN)) (J:(cE×(List ByteArray)×Int)) (U:(List aO)) (OE:List aA) (OF:List Int) (OG:List Bool) (n313:Int):Option (Int×aQ):=(eN I.log R).bind λOH=>(jC (bO.mk U OE OF OG n313)).bind λOJ=>(dQ J.2.1 OJ).bind λOI=>if decide (0<(OI.length:Int)) then ((mG (aQ.mk o.2.n I.rules o.2.on I.held (bO.mk U OE OF OG n313) J.1 R.Time OH.2.2 []) OI).bind λj=>mE j.watch.kE j.watch.lO j.watch.rq j.watch.over j.watch.time j.log.jL j.bX.a_ j.bX.aH j.bX.aG j.bX.cR j.bX.aY j.bX.bM j.rules j.on j.held j.state.f_ j.state.iW j.time j.over) else (mE U OE OF OG n313 OH.2.2.jL o.2.n.a_ o.2.n.aH o.2.n.aG o.2.n.cR o.2.n.aY o.2.n.bM I.rules o.2.on I.held J.1.f_ J.1.iW R.Time ([]))
def lL (j:aQ) (o:aI):Option (Int×aQ):=(dU o).bind λU=>if !decide (U=0) then (some (U,j)) else (if decide (o.Time<j.time) then (some (12,j)) else ((ly j.log).bind λOE=>if decide (200<=(OE.length:Int)) then (some (9,j)) else ((iV j.bX).bind λOF=>dG (j.on.length*16<=140737488355328) ((nr j (cN.mk OF j.on) o).bind λI=>if !decide (I.1=0) then (some (I.1,j)) else ((dP I.2.n I.2.on).bind λJ=>if !decide (J.2.2=0) then (some (J.2.2,j)) else (if (decide (o.Kind=(⟨#[98,97,99,107]⟩))) && (decide (0<(J.2.1.length:Int))) then (some (17,j)) else (if decide (1<=(i64.wrap (o.Time-j.time))) then ((kX j.watch j.state.iW (i64.wrap (o.Time-j.time))).bind λR=>jD j o I J R.2.2.kE R.2.2.lO R.2.2.rq R.2.2.over R.2.2.time) else (jD j o I J j.watch.kE j.watch.lO j.watch.rq j.watch.over j.watch.time))))))))
def qy (o:ByteArray) (j:aQ):Option (Bool):=(bF j.on o).bind λI=>some (!I)
def iF (J:(List ByteArray)) (j:aQ) (o:Nat) (I:Unit->Option (Int)):Option (Int):=idx J (o:Int) λR=>(qy R j).bind λU=>if U then (some (o:Int)) else (I ())
def eY (o:(List ByteArray)) (j:aQ):Option (Int):=jN (λk I n=>iF o j k n) (λ_=>some (-1)) ((o.length:Int):Int).toNat 0 ()
def dO (n195:Int) (j:(List ByteArray×Int×Int)->Option ((List ByteArray))) (o:List ByteArray) (n227:Int):Option ((List ByteArray)):=j (o,n227,i64.wrap (n195+1))
def gY (del_0:aQ) (j:List ByteArray) (n194:Int) (n195:Int) (o:(List ByteArray×Int×Int)->Option ((List ByteArray))):Option ((List ByteArray)):=if decide (n195<(j.length:Int)) then (idx j n195 λI=>(qy I del_0).bind λJ=>if !J then (idx j n194 λR=>dO n195 o (j.set ((n194:Int).toNat) I) (i64.wrap (n194+1))) else (dO n195 o j n194)) else (dG (0<=n194/\n194<=(j.length:Int)) (dG (0<=n194/\n194<=((j.take (n194).toNat++List.replicate (j.length-(n194).toNat) ((⟨#[]⟩):ByteArray)).length:Int)) (some (rV (j.take (n194).toNat++List.replicate (j.length-(n194).toNat) ((⟨#[]⟩):ByteArray)) 0 ((n194:Int).toNat)))))
def eT (j:(List ByteArray)) (del_0:aQ):Option ((List ByteArray)):=(eY j del_0).bind λo=>if decide (o=(-1)) then (some j) else (gH (λI n=>gY del_0 I.1 I.2.1 I.2.2 n) fC (j,o,i64.wrap (o+1)))
def uc (j:aQ):Option ((List ByteArray)):=(pw j.bX).bind λo=>(eT o j).bind λI=>some I
def qY (j:aQ):Option ((List aI)):=(ly j.log).bind λo=>some o
def gQ:Option (Bool):=idx (((eV)).aY) 0 λI=>(su (cI.mk (aD.mk (((eV)).a_) (((eV)).aH) (((eV)).aG) (((eV)).cR) ((((eV)).aY).set ((0:Int).toNat) (aE.mk I.Name I.Node 45)) (((eV)).bM)) [])).bind λJ=>Bh J.1 (some false) (λsp148=>if !decide (J.2=0) then (some false) else ((lL sp148 (aI.mk 10 (⟨#[119,97,105,116]⟩) (⟨#[88]⟩) 0)).bind λR=>(lL R.2 (aI.mk 11 (⟨#[119,97,105,116]⟩) (⟨#[88]⟩) 0)).bind λj=>if decide (R.1=0) then (if decide (j.1=0) then ((uc j.2).bind λU=>if decide ((U.length:Int)=0) then ((qY j.2).bind λOE=>if decide ((OE.length:Int)=3) then ((qY j.2).bind λOF=>idx OF 2 λo=>some (decide (o.Time=11) && (decide (o.Kind=(⟨#[115,104,101,100]⟩)) && (decide (o.Name=(⟨#[68]⟩)) && (decide (o.Value=45) && true))))) else (some false)) else (some false)) else (some false)) else (some false)))
def jG (j:Int) (n103:Int):Option (Int):=some (i64.wrap (j+n103))
def nh (I:Int) (j:Int) (o:Int):Option (Int):=dG ((i64.wrap ((i64.wrap (o-j))+1))≠0) (if decide ((Int.tmod I (i64.wrap ((i64.wrap (o-j))+1)))<0) then (jG j (i64.wrap ((Int.tmod I (i64.wrap ((i64.wrap (o-j))+1)))+(i64.wrap ((i64.wrap (o-j))+1))))) else (jG j (Int.tmod I (i64.wrap ((i64.wrap (o-j))+1)))))
def qx (j:aQ) (o:(List ByteArray)):Option (Int×aQ):=if decide (256<(o.length:Int)) then (some (2,j)) else (dG (o.length*16<=140737488355328) (some (0,(aQ.mk j.bX j.rules j.on o j.watch j.state j.time j.log j.over))))
def kY (j:aQ):Option (aD):=(iV j.bX).bind λo=>some o
def kH (o:aK) (j:aK):Bool:=(decide (o.Name=j.Name))
def eK (J:(List aK)) (j:aK) (o:Nat) (I:Unit->Option (Int)):Option (Int):=idx J (o:Int) λR=>if (kH R j) then (some (o:Int)) else (I ())
def cH (o:(List aK)) (j:aK):Option (Int):=jN (λk I n=>eK o j k n) (λ_=>some (-1)) ((o.length:Int):Int).toNat 0 ()
def mP (J:aK) (U:Nat) (j:aI) (R:aQ) (I:aQ->Option (Bool)):Option (Bool):=(lL R j).bind λo=>if ((decide (o.1=0)) && (decide (j.Name=J.Name))) && ((decide (j.Kind=(⟨#[111,112,101,110]⟩))) || (decide (j.Kind=(⟨#[99,108,111,115,101]⟩)))) then (some false) else (I o.2)
def gP (OG:cI) (o:(List aI)) (OH:Int):Option (Bool):=(kP OG).bind λJ=>(su J).bind λR=>Bh R.1 ((gQ).bind λOI=>some (OI && (decide ((decide (R.2=0))=false)))) (λsp122=>if (!decide (R.2=0)) || (decide ((J.bZ.aH.length:Int)=0)) then ((gQ).bind λOJ=>some (OJ && (decide ((decide (R.2=0))=true)))) else ((nh OH 0 (i64.wrap ((J.bZ.aH.length:Int)-1))).bind λOK=>idx J.bZ.aH OK λj=>(qx sp122 ([j.Name])).bind λOE=>if !decide (OE.1=0) then (some false) else (dG (0<=(min (o.length:Int) 8)/\(min (o.length:Int) 8)<=(o.length:Int)) (dR (λk y U n=>mP j k y U n) (λU=>(kY U).bind λOL=>(cH OL.aH j).bind λOF=>(gQ).bind λOM=>if OM then (if decide (0<=OF) then ((kY U).bind λON=>idx ON.aH OF λI=>some (decide (I.Name=j.Name) && (decide (I.A=j.A) && (decide (I.B_=j.B_) && (decide (I.lZ=j.lZ) && (decide (I.Open=j.Open) && true)))))) else (some false)) else (some false)) 0 (rV o 0 ((min (o.length:Int) 8:Int).toNat)) OE.2))))
def nD (o:(List ByteArray)) (I:(List ByteArray)) (j:Nat) (J:Unit->Option (Bool)):Option (Bool):=idx o (j:Int) λR=>idx I (j:Int) λU=>if !decide (R=U) then (some false) else (J ())
def iZ (j:(List ByteArray)) (o:(List ByteArray)):Option (Bool):=if !decide ((j.length:Int)=(o.length:Int)) then (some false) else (jN (λk I n=>nD j o k n) (λ_=>some true) ((j.length:Int):Int).toNat 0 ())
def u5 (J:Nat) (I:(List ByteArray)) (o:Unit->Option (Int)):Option (Int):=(kL I).bind λj=>if !decide (j=0) then (some j) else (o ())
def sE (o:aD) (inject:(List Int)) (j:cE):Option (Int):=(mL o inject).bind λJ=>if !decide (J=0) then (some J) else ((tI o).bind λR=>Bh R none (λsp108=>if decide ((j.f_.length:Int)=(eD sp108)) then (if !decide ((j.iW.length:Int)=(o.aG.length:Int)) then (some 3) else (dR (λk y OF n=>u5 k y n) (λ_=>(mO o inject).bind λI=>if decide (I.2=0) then ((iZ I.1.f_ j.f_).bind λU=>if U then ((iZ I.1.iW j.iW).bind λOE=>if !OE then (some 21) else (some 0)) else (some 21)) else (some 21)) 0 ([j.f_,j.iW]) ())) else (some 3)))
end Go.Sim
namespace Go.Sim
open Go Go.RowKit
open _root_.Go.IntKind (i64 u64 u32 u8)
def Gd {R:Type} (o:Option R) (Q:R->Prop):Prop:=∃ r,o=some r/\Q r
section
variable {R α β σ:Type}{Q Q':R->Prop}
theorem Gd.mono {o:Option R} (h:Gd o Q) (k:∀ r,Q r->Q' r):Gd o Q':=by
 obtain ⟨r,e,q⟩:=h; exact ⟨r,e,k r q⟩
theorem Gd.ret {r:R} (h:Q r):Gd (some r) Q:=⟨r,rfl,h⟩
theorem Gd.nd {p:Prop}[Decidable p] {k:Option R} (h:p) (hk:Gd k Q):Gd (dG p k) Q:=by
 unfold Sim.dG; rw [O3 h]; exact hk
theorem Gd.eC {o:Option α}{k:α->Option R}{P:α->Prop} (h:Gd o P) (hk:∀ a,P a->Gd (k a) Q):Gd (o.bind k) Q:=by
 obtain ⟨a,rfl,q⟩:=h; exact hk a q
theorem Gd.bind_eq {o:Option α}{a:α}{k:α->Option R} (h:o=some a) (hk:Gd (k a) Q):Gd (o.bind k) Q:=by
 subst h; exact hk
theorem Gd.ite {b:Bool}{p q:Option R} (h1:b=true->Gd p Q) (h2:b=false->Gd q Q):Gd (if b=true then p else q) Q:=by
 cases b
 ·simpa using h2 rfl
 ·simpa using h1 rfl
theorem Gd.ix {l:List α}{i:Int}{k:α->Option R}{y:α} (h0:0<=i) (hy:l[i.toNat]? = some y) (hk:Gd (k y) Q):Gd (idx l i k) Q:=by
 unfold Sim.idx; rw [O3 h0,hy]; exact hk
theorem Gd.gA {l:List α}{i:Nat}{k:α->Option R} (h:i<l.length) (hk:Gd (k l[i]) Q):Gd (Sim.idx l (i:Int) k) Q:=
 Gd.ix (by omega) (OU (by simpa using h)) hk
theorem Gd.opt {o:Option α}{a:Option R}{f:α->Option R} (h1:o=none->Gd a Q) (h2:∀ s,o=some s->Gd (f s) Q):Gd (Bh o a f) Q:=by
 cases o with
 | none=>exact h1 rfl
 | some s=>exact h2 s rfl
theorem Gd.dR {body:Nat->α->σ->(σ->Option R)->Option R}{k:σ->Option R} (I:Nat->List α->σ->Prop)
  (hb:∀ i y ys s n,I i (y::ys) s->(∀ s',I (i+1) ys s'->Gd (n s') Q)->Gd (body i y s n) Q) (hk:∀ i s,I i [] s->Gd (k s) Q):
  ∀ (l:List α) (i:Nat) (s:σ),I i l s->Gd (dR body k i l s) Q
 | [],i,s,h=>hk i s h
 | y::ys,i,s,h=>hb i y ys s _ h (λs' h'=>Gd.dR I hb hk ys (i+1) s' h')
theorem Gd.jN {body:Nat->σ->(σ->Option R)->Option R}{k:σ->Option R} (I:Nat->Nat->σ->Prop)
  (hb:∀ m i s n,I (m+1) i s->(∀ s',I m (i+1) s'->Gd (n s') Q)->Gd (body i s n) Q) (hk:∀ i s,I 0 i s->Gd (k s) Q):
  ∀ (m i:Nat) (s:σ),I m i s->Gd (jN body k m i s) Q
 | 0,i,s,h=>hk i s h
 | m+1,i,s,h=>hb m i s _ h (λs' h'=>Gd.jN I hb hk m (i+1) s' h')
theorem Gd.gH {body:σ->(σ->Option R)->Option R} (I:σ->Prop) (μ:σ->Nat)
  (hb:∀ s n,I s->(∀ s',I s'->μ s'<μ s->Gd (n s') Q)->Gd (body s n) Q):
  ∀ (m:Nat) (s:σ),I s->μ s<m->Gd (gH body m s) Q
 | 0,s,_,h=>by omega
 | m+1,s,hI,h=>hb s _ hI (λs' h' hlt=>Gd.gH I μ hb m s' h' (by omega))
theorem Gd.eq {o:Option R}{r:R}:Gd o (λx=>x=r)↔o=Option.some r:=by
 constructor
 ·rintro ⟨x,h,rfl⟩; exact h
 ·intro h; exact ⟨r,h,rfl⟩
end
theorem bJ {n:Int} (h:-9223372036854775808<=n/\n<=9223372036854775807):i64.wrap n=n:=wM h.1 h.2
theorem Gd.seen {R α σ:Type}{Q:R->Prop}{body:Nat->α->σ->(σ->Option R)->Option R}{k:σ->Option R}{l:List α} (I:List α->σ->Prop)
  (hb:∀ i y s n pre,(∃ post,l=pre++y::post)->I pre s->(∀ s',I (pre++[y]) s'->Gd (n s') Q)->Gd (body i y s n) Q) (hk:∀ s,I l s->Gd (k s) Q) (s:σ) (hs:I [] s):Gd (Sim.dR body k 0 l s) Q:=by
 have key:∀ (ys pre:List α) (i:Nat) (s:σ),l=pre++ys->I pre s->Gd (Sim.dR body k i ys s) Q:=by
  intro ys
  induction ys with
  | nil=>intro pre i s hl hs; rw [PE] at hl; subst hl; exact hk s hs
  | cons y ys ih=>
   intro pre i s hl hs;exact hb i y s _ pre ⟨ys,hl⟩ hs (λs' hs'=>ih (pre++[y]) (i+1) s' (by rw [hl]; simp) hs')
 exact key l [] 0 s rfl hs
theorem uQ {α:Type}{l pre:List α}{y:α} (h:∃ post,l=pre++y::post):pre.length<l.length/\y ∈ l/\∀ x ∈ pre,x ∈ l:=by
 obtain ⟨post,rfl⟩:=h;exact ⟨by simp,by simp,λx hx=>OW _ hx⟩
theorem DI {α:Type}[DecidableEq α]:∀ (a b:List α),a.Nodup->(∀ x ∈ a,x ∈ b)->a.length<=b.length
 | [],_,_,_=>Nat.zero_le _
 | x::xs,b,hn,h=>by
  rw [Sc] at hn;have hx:=h x (O0 ..);have h1:=DI xs (b.erase x) hn.2 (λy hy=>(List.mem_erase_of_ne (λe:y=x=>hn.1 (by rw [<- e]; exact hy))).2 (h y (O5 _ hy)))
  rw [List.length_erase_of_mem hx] at h1;have:0<b.length:=List.length_pos_of_mem hx;simp only [O6]; omega
end Go.Sim
