/-
  The proof, part A2.
-/
import Derived.Lib.Bytealg
import Derived.Laws.Externs
import Derived.Lib.LaidTab
import Derived.Lib.AppendIntMem
import Derived.Lib.ItoaNum
import Derived.Lib.AtoiAll
import Derived.Lib.SmallJoins
import Derived.Laws.BytesString
import Derived.Laws.IdiomStrings
import Derived.Lib.ParseIntBMem
import Derived.Laws.IdiomRangeMap
import Derived.Lib.UnsafeStr
import Derived.Lib.Builder
import Derived.Lib.AppendStr
import Derived.Laws.Bits64b
import Derived.Test.YtkpbgofhndmbnaaGreatDoorSqA1
set_option linter.unusedVariables false
set_option linter.unusedSimpArgs false
set_option linter.unusedSectionVars false
set_option linter.unnecessarySimpa false
namespace Go.Sim
abbrev Ta := @Int.fdiv_eq_ediv_of_nonneg
abbrev S6 := @Int.le_refl
abbrev TL := @Int.toNat_of_nonneg
abbrev TM := @Go.Lib.strCells_length
abbrev SI := @List.Perm.append_left
abbrev Vq := @List.drop_succ_cons
abbrev SZ := @List.getElem?_replicate
abbrev QM := @List.getElem?_set_ne
abbrev QQ := @List.getElem?_set_self
abbrev SA := @List.getElem_map
abbrev RX := @List.length_drop
abbrev RH := @List.length_set
abbrev SX := @List.mem_of_mem_take
abbrev S4 := @List.replicate_succ
abbrev Vd := @List.set_getElem_self
abbrev RP := @List.take_append_drop
abbrev QD := @List.take_of_length_le
abbrev UX := @List.take_zero
abbrev TP := @List.zipWith_append
abbrev S8 := @Nat.add_comm
abbrev Sm := @Nat.lt_or_ge
abbrev Ts := @Nat.mod_lt
end Go.Sim
namespace Go.Sim
open Go Go.RowKit
open _root_.Go.IntKind (i64 u64 u32 u8)
def O1 (H:Hp) (v:Qj) (n sz:Nat) (xs:List Qj):Prop:=
 xs.length=n*sz/\(∀ u ∈ xs,u.oneCell'=true) /\
 (((∃ a,v=.slice a 0 0)/\n=0)\/∃ b off cap arr T fz,v=.slice (some ⟨b,off,none⟩) n cap/\H b=some (.cells arr T fz)/\∀ j u,xs[j]? = some u->arr[off+j]? = some u)
theorem O1.shape {H:Hp}{v:Qj}{n sz:Nat}{xs:List Qj} (h:O1 H v n sz xs):∃ o c,v=.slice o n c:=by
 rcases h.2.2 with ⟨⟨a,rfl⟩,rfl⟩ | ⟨b,off,cap,arr,T,fz,rfl,_⟩ <;> exact ⟨_,_,rfl⟩
theorem O1.isNil {H:Hp}{n m c sz:Nat}{xs:List Qj} (h:O1 H (.slice none m c) n sz xs):n=0/\xs=[]:=by
 rcases h.2.2 with ⟨_,h0⟩ | ⟨b,off,cap,arr,T,fz,h0,_⟩
 ·subst h0; exact ⟨rfl,QU (by rw [h.1,RW])⟩
 ·cases h0
section
variable {B:Nat}{w0 w:World}{H:Hp}{M:List bQ}
end
section
variable {x:Cx}{ops:Array Oper}{Q:lZ}{rest:List Oper}{H:Hp}{M M':List bQ}{L L':Env}
variable {d:Nat}{ty:TypeId}{pos:String}{aft:Array Edge}{g:Option (Nat×Bool)}
theorem GY {o:Oper} (hd:o.dst=none) (hg:gd ops L o=some true)
  (hrun:∀ a w,Sl x.N L a->St x.B x.w0 H M w->∃ v w',(execOp a.eval o).run x.P w=.ok (.value v) w'/\∃ H' M',St x.B x.w0 H' M' w'/\W x ops Q rest H' M' L):
  W x ops Q (o::rest) H M L:=by
 intro a w hs ht;obtain ⟨v,w',hr,H',M',ht',k⟩:=hrun a w hs ht;refine Ui λK hK=>?_;rw [Qu (hs.gd hg)];unfold Oper.wp;rw [hr];simp only [Oper.upon,hd];exact hK _ _ (k _ _ hs ht')
theorem tN {t e:TypeId}{sz len cap l h m:Nat}{y:Operand}{lo hi mx:Option Operand}{ad:Option Addr}
  (hg:gd ops L ⟨some d,.slice t y lo hi mx,ty,pos,aft,g⟩=some true) (hN:Nat.blt d x.N=true)
  (hT:∀ w,(underlying t).run x.P w=.ok (.slice e) w) (hs:∀ w,(sizeOf e).run x.P w=.ok sz w) (hy:ev L y=some (.slice ad len cap)) (hmh:mx=none\/∃ o,hi=some o)
  (hm:GQ L mx cap cap m) (hh:GQ L hi len m h) (hl:GQ L lo 0 h l)
  {v':Qj} (hv:Value.slice (if m=l then ad else ad.map (·.add (l*sz))) (h-l) (m-l)=v')
  (k:W x ops Q rest H M ((d,v')::L)):
  W x ops Q (⟨some d,.slice t y lo hi mx,ty,pos,aft,g⟩::rest) H M L:=
 fG rfl hg hN (λc w hsl ht=>by
  rw [<- hv];simp only [execOp,hsl.ev hy,QA,tV hT hs (Km hmh) (hm.bd hsl) (hh.bd hsl) (hl.bd hsl),Qx,QG]) k
theorem CU {zs:List Qj} (h:∀ u ∈ zs,u.oneCell'=true) (h0:0<zs.length) (n:Nat):∀ u ∈ (Builtin.zeroCells zs.toArray n).toList,u.oneCell'=true:=by
 intro u hu;unfold Builtin.zeroCells at hu;simp only [Array.toList_map,S1,Array.toList_range,Ra] at hu;obtain ⟨q,_,rfl⟩:=hu;have hlt:q%zs.length<zs.length:=Ts _ h0;have:zs.toArray[q%zs.length]! = zs[q%zs.length]:=by simp [hlt]
 rw [this];exact h _ (QY _)
end
theorem Ft {P:Program}{w:World}{t tu ty e:TypeId}{sz n gb off cap a dl dc sl sc:Nat}{b:Addr}{xs news:List Qj} (hT:P.underlying t=some (.slice e)) (hs:∀ w,(sizeOf e).run P w=.ok sz w)
  (hown:jM w e sz (.slice (some ⟨gb,off,none⟩) n cap) n xs) (ha:a+dl<=n)
  (hl:news.length=min sl dl*sz) (hnews:∀ j u,news[j]? = some u->w.cell? (b.add j)=some u) (h1:∀ u ∈ news,u.oneCell'=true):
  ∃ w',(Builtin.copy_ #[t,tu] ty #[.slice (some ⟨gb,off+a*sz,none⟩) dl dc,.slice (some b) sl sc]).run P w=.ok (.int .i64 (min sl dl:Nat)) w' /\
   jM w' e sz (.slice (some ⟨gb,off,none⟩) n cap) n (xs.take (a*sz)++news++xs.drop ((a+min sl dl)*sz))/\w.grownBy w' (some gb):=by
 rcases hown.2 with ⟨h0,_⟩ | ⟨gb2,off2,cap2,cur,he,hgb,hnc,hcm,hcs,htake⟩
 ·cases h0
 cases he;have hxl:xs.length=n*sz:=hown.1;have hm:(a+min sl dl)*sz<=n*sz:=QF _ (by omega)
 have hmc:n*sz<=cap*sz:=QF _ hnc;have hadd:(a+min sl dl)*sz=a*sz+min sl dl*sz:=QK ..;have hf:=Vt (P:=P) w sz (min sl dl) b sl sc news hl hnews;obtain ⟨w',hst,hh,hgr⟩:=kY (P:=P) gb (off+a*sz) e news 0 cur.toList w (by simpa using hgb) (by simp; omega) h1
 refine ⟨w',?_,⟨?_,.inr ⟨gb,off,cap,_,rfl,hh,hnc,hcm,?_,?_⟩⟩,hgr⟩
 ·simp [Builtin.copy_,RU hT,hs,Builtin.lenOf,hf,hst,goInt]
 ·simp only [QE,QN,RX,hl,hxl]; omega
 ·simpa [pU] using hcs
 ·rw [S5,RV,wX _ _ _ (by simp; omega)]
  have hx1:xs.take (a*sz)=(cur.toList.take (off+a*sz)).drop off:=by
   rw [<- htake,UW,Rq (by omega),SW,Sy]
  have hx2:xs.drop ((a+min sl dl)*sz)=(cur.toList.drop (off+a*sz+news.length)).take (n*sz-(a+min sl dl)*sz):=by
   rw [<- htake,SW,Sa]; congr 2; omega
  rw [hx1,hx2,QR,Tl (by simp; omega),<- QR]
  have hlen:((cur.toList.take (off+a*sz)).drop off++news).length=a*sz+min sl dl*sz:=by
   rw [QE,RX,QN,hl]; simp; omega
  have e:n*sz=((cur.toList.take (off+a*sz)).drop off++news).length+(n*sz-(a+min sl dl)*sz):=by rw [hlen]; omega
  conv=>lhs; rw [e]
  rw [List.take_length_add_append]
section
variable {x:Cx}{ops:Array Oper}{Q:lZ}{rest:List Oper}{H:Hp}{M M':List bQ}{L L':Env}
variable {d:Nat}{ty:TypeId}{pos:String}{aft:Array Edge}{g:Option (Nat×Bool)}
theorem zU {c:Code}{v:Qj}{e:TypeId}{sz n:Nat}{xs:List Qj} (h0:0<n)
  (k:∀ gb off cap,v=.slice (some ⟨gb,off,none⟩) n cap->n<=cap->Go.Sim.C x c Q H (.row v e sz n xs::M) L):Go.Sim.C x c Q H (.row v e sz n xs::M) L:=by
 intro a w hs ht;have hok:jM w e sz v n xs:=ht.ok _ (Qq ..);rcases hok.2 with ⟨_,h⟩ | ⟨gb,off,cap,cur,he,_,hnc,_⟩
 ·omega
 ·exact k gb off cap he hnc a w hs ht
theorem GW {α:Type}[aH α] {t tu e:TypeId}{y u:Operand}{v vu:Qj}{xs:List Qj}{l ys:List α}
  (hg:gd ops L ⟨some d,.call ⟨.builtin .copy,#[y,u],#[t,tu]⟩,ty,pos,aft,g⟩=some true) (hN:Nat.blt d x.N=true)
  (hT:x.P.underlying t=some (.slice e)) (hsz:∀ w,(sizeOf e).run x.P w=.ok (aH.sz α) w) (hs:Nat.blt 0 (aH.sz α)=true)
  (hy:ev L y=some v) (hu:ev L u=some vu) (hx:Rw H v xs l) (hR:aQ H vu ys) (h0:0<ys.length)
  (k:∀ xs',Rw H v xs' (ys.take (min ys.length l.length)++l.drop (min ys.length l.length))->W x ops Q rest H (.row v e (aH.sz α) l.length xs'::M) ((d,.int .i64 (min ys.length l.length:Nat))::L)):
  W x ops Q (⟨some d,.call ⟨.builtin .copy,#[y,u],#[t,tu]⟩,ty,pos,aft,g⟩::rest) H (.row v e (aH.sz α) l.length xs::M) L:=by
 refine s5 rfl hg hN λa w hsl ht=>?_;have hown:jM w e (aH.sz α) v l.length xs:=ht.ok _ (Qq ..);obtain ⟨cs,hcs,hcase⟩:=hR.flat;rcases hcase with ⟨_,rfl⟩ | ⟨hc,b,off2,c,rfl⟩
 ·simp at h0
 by_cases hl0:l.length=0
 ·have hm0:min ys.length l.length=0:=by omega
  refine ⟨.int .i64 (min ys.length l.length:Nat),w,?_,H,_,ht,k xs (by rw [hm0]; simpa using hx)⟩
  have hf:(Builtin.firstCells (aH.sz α) 0 (.slice (some ⟨b,off2,none⟩) ys.length c)).run x.P w=.ok #[] w:=
   Vt (P:=x.P) w (aH.sz α) 0 ⟨b,off2,none⟩ ys.length c [] (by simp) (by simp)
  rw [hm0];rcases hown.2 with ⟨rfl,_⟩ | ⟨gb,off,cap,cur,rfl,_⟩
  ·simp [execOp,resolve,invoke,builtin,hsl.ev hy,hsl.ev hu,Builtin.copy_,RU hT,hsz,Builtin.lenOf,hf,goInt]
  ·simp [execOp,resolve,invoke,builtin,hsl.ev hy,hsl.ev hu,Builtin.copy_,RU hT,hsz,Builtin.lenOf,hf,goInt,hl0,storeCells]
 rcases hown.2 with ⟨_,h⟩ | ⟨gb,off,cap,cur,rfl,_⟩
 ·exact absurd h hl0
 obtain ⟨w',hr,ho,hgr⟩:=Ft (P:=x.P) (tu:=tu) (ty:=ty) (a:=0) (dl:=l.length) (dc:=cap) (b:=⟨b,off2,none⟩) (sl:=ys.length) (sc:=c) (news:=cs.take (min ys.length l.length*aH.sz α)) hT hsz hown (by omega)
  (by rw [QN,hcs.len]; exact Rq (QF _ (by omega)))
  (λj u hu=>by
   rw [Rc] at hu
   split at hu
   ·exact ((hc j u hu).at (x:=x) (M:=.row (.slice (some ⟨gb,off,none⟩) l.length cap) e (aH.sz α) l.length xs::M)) w ht
   ·cases hu) (λu hu=>hcs.one u (SX hu))
 rw [RW,UX,R2,QL] at ho;rw [RW,RV] at hr;refine ⟨.int .i64 (min ys.length l.length:Nat),w',?_,H,_,ht.Eu (r':=.row (.slice (some ⟨gb,off,none⟩) l.length cap) e (aH.sz α) l.length _) hgr ho (λb hb=>.inl hb),k _ ⟨(hcs.split _).1.app (hx.rd.split _).2,_,_,_,rfl⟩⟩;simp [execOp,resolve,invoke,builtin,hsl.ev hy,hsl.ev hu,hr]
theorem Bt {α:Type}[aH α] {t tu e:TypeId}{gb off cap q dc sc:Nat}{y u:Operand}{xs:List Qj}{l:List α}
  (hg:gd ops L ⟨some d,.call ⟨.builtin .copy,#[y,u],#[t,tu]⟩,ty,pos,aft,g⟩=some true) (hN:Nat.blt d x.N=true)
  (hT:x.P.underlying t=some (.slice e)) (hsz:∀ w,(sizeOf e).run x.P w=.ok (aH.sz α) w) (hs:Nat.blt 0 (aH.sz α)=true)
  (hx:Rw H (.slice (some ⟨gb,off,none⟩) l.length cap) xs l) (hq:q<=l.length)
  (hy:ev L y=some (.slice (some ⟨gb,off+q*aH.sz α,none⟩) (l.length-q) dc)) (hu:ev L u=some (.slice (some ⟨gb,off,none⟩) q sc))
  (k:∀ xs',Rw H (.slice (some ⟨gb,off,none⟩) l.length cap) xs' (l.take q++l.take (min q (l.length-q))++l.drop (q+min q (l.length-q))) ->
   W x ops Q rest H (.row (.slice (some ⟨gb,off,none⟩) l.length cap) e (aH.sz α) l.length xs'::M) ((d,.int .i64 (min q (l.length-q):Nat))::L)):
  W x ops Q (⟨some d,.call ⟨.builtin .copy,#[y,u],#[t,tu]⟩,ty,pos,aft,g⟩::rest) H (.row (.slice (some ⟨gb,off,none⟩) l.length cap) e (aH.sz α) l.length xs::M) L:=by
 refine s5 rfl hg hN λa w hsl ht=>?_;have hown:jM w e (aH.sz α) (.slice (some ⟨gb,off,none⟩) l.length cap) l.length xs:=ht.ok _ (Qq ..);have hlen:=hx.rd.len;have hone:=hx.rd.one;have hmm:min q (l.length-q)*aH.sz α<=l.length*aH.sz α:=QF _ (by omega)
 have hcell:∀ j u,(xs.take (min q (l.length-q)*aH.sz α))[j]? = some u->w.cell? ((⟨gb,off,none⟩:Addr).add j)=some u:=by
  intro j u hj;rcases hown.2 with ⟨h0,_⟩ | ⟨gb2,off2,cap2,cur,he,hgb,hnc,hcm,hcs,htake⟩
  ·cases h0
  cases he;rw [Ru];refine Vg hgb rfl ?_;rw [Rc] at hj
  split at hj
  ·rw [<- htake,Rc] at hj
   split at hj
   ·rw [Q7] at hj; simpa using hj
   ·cases hj
  ·cases hj
 obtain ⟨w',hr,ho,hgr⟩:=Ft (P:=x.P) (tu:=tu) (ty:=ty) (a:=q) (dl:=l.length-q) (dc:=dc) (b:=⟨gb,off,none⟩) (sl:=q) (sc:=sc) (news:=xs.take (min q (l.length-q)*aH.sz α)) hT hsz hown (by omega)
  (by rw [QN,hlen]; omega) hcell (λu hu=>hone u (SX hu))
 refine ⟨.int .i64 (min q (l.length-q):Nat),w',?_,H,_,ht.Eu (r':=.row (.slice (some ⟨gb,off,none⟩) l.length cap) e (aH.sz α) l.length _) hgr ho (λb hb=>.inl hb),k _ ⟨?_,_,_,_,rfl⟩⟩
 ·simp [execOp,resolve,invoke,builtin,hsl.ev hy,hsl.ev hu,hr]
 ·exact ((hx.rd.split q).1.app (hx.rd.split (min q (l.length-q))).1).app (hx.rd.split (q+min q (l.length-q))).2
end
theorem EE {x:Cx}{ops:Array Oper}{Q:lZ}{rest:List Oper}{H:Hp}{M:List bQ}{L:Env}{d:Nat}{f:FuncId}{args:List Operand}{tys:Array TypeId}{ty:TypeId}{pos:String}{aft:Array Edge}{g:Option (Nat×Bool)}{vs:List Qj}{v:Qj}
  (hx:∀ w,(callFunc f vs.toArray).run x.P w=.ok (.value v) w)
  (hg:gd ops L ⟨some d,.call ⟨.value (.func f),args.toArray,tys⟩,ty,pos,aft,g⟩=some true) (hN:Nat.blt d x.N=true)
  (hv:yK L args=some vs) (k:W x ops Q rest H M ((d,v)::L)):
  W x ops Q (⟨some d,.call ⟨.value (.func f),args.toArray,tys⟩,ty,pos,aft,g⟩::rest) H M L:=
 fG rfl hg hN (λa w hs ht=>by
  have hargs:args.toArray.map a.eval=vs.toArray:=by simp [hs.yK hv]
  simp only [execOp,resolve,hargs,Act.eval,Deferred.ofValue,QA,QG,Qx,invoke];simp [hx]) k
def Nl (s:Qi) (c:Int):Int:=Go.Lib.indexByte s.data.toList c.toNat.toUInt8
theorem E0 {P:Program}{f:FuncId}{fn:Func} (hf:P.funcs[f]? = some fn) (h1:(fn.name == "runtime.NumGoroutine")=false) (h2:fn.body.isNone=true) (h3:Extern.findNext fn=none) (h4:Extern.find fn=some Extern.BytealgIndexByte.indexByte) (s:Qi) (c:Int):
  ∀ w,(callFunc f [.string s,.int .u8 c].toArray).run P w=.ok (.value (.int .i64 (Nl s c))) w:=λw=>by
 rw [run_callFunc_extern hf h1 h2 h3 h4,show [Value.string s,.int .u8 c].toArray=#[.string s,.int .u8 c] from rfl,Go.Lib.run_indexByteString]
 rfl
section
variable {x:Cx}{ops:Array Oper}{Q:lZ}{rest:List Oper}{H:Hp}{M M':List bQ}{L L':Env}
variable {d:Nat}{ty:TypeId}{pos:String}{aft:Array Edge}{g:Option (Nat×Bool)}
theorem Jh {t e:TypeId}{y:Operand}{ad:Option Addr}{c2:Nat}
  (hg:gd ops L ⟨none,.call ⟨.builtin .clear,#[y],#[t]⟩,ty,pos,aft,g⟩=some true)
  (hT:x.P.underlying t=some (.slice e)) (hy:ev L y=some (.slice ad 0 c2)) (k:W x ops Q rest H M L):
  W x ops Q (⟨none,.call ⟨.builtin .clear,#[y],#[t]⟩,ty,pos,aft,g⟩::rest) H M L:=
 GY rfl hg λa w hsl ht=>⟨.tuple #[],w,by
  cases ad <;> simp [execOp,resolve,invoke,builtin,hsl.ev hy,Builtin.clear_,RU hT],H,M,ht,k⟩
theorem ED {t e:TypeId}{sz m n gb off cap i c2:Nat}{y:Operand}{z:Qj}{zs xs:List Qj}
  (hg:gd ops L ⟨none,.call ⟨.builtin .clear,#[y],#[t]⟩,ty,pos,aft,g⟩=some true)
  (hT:x.P.underlying t=some (.slice e)) (hz:∀ w,(zeroValue e).run x.P w=.ok z w) (hzs:z.cells=zs.toArray) (hzl:zs.length=sz) (h1:zs.all Value.oneCell'=true) (hs:Nat.blt 0 sz=true)
  (hi:i<m) (hy:ev L y=some (.slice (some ⟨gb,off+i*sz,none⟩) (m-i) c2))
  (k:W x ops Q rest H (.row (.slice (some ⟨gb,off,none⟩) m cap) e sz m (xs.take (i*sz)++(Builtin.zeroCells z.cells (m-i)).toList)::M) L):
  W x ops Q (⟨none,.call ⟨.builtin .clear,#[y],#[t]⟩,ty,pos,aft,g⟩::rest) H (.row (.slice (some ⟨gb,off,none⟩) m cap) e sz n xs::M) L:=by
 have hs':0<sz:=by simpa [Rv] using hs
 refine GY rfl hg λa w hsl ht=>?_;have hown:jM w e sz (.slice (some ⟨gb,off,none⟩) m cap) n xs:=ht.ok _ (Qq ..);rcases hown.2 with ⟨h0,_⟩ | ⟨gb2,off2,cap2,cur,he,hgb,hnc,hcm,hcs,htake⟩
 ·cases h0
 cases he;obtain ⟨q,hq⟩:∃ q,m-i=q+1:=⟨m-i-1,by omega⟩
 have hzlen:(Builtin.zeroCells z.cells (m-i)).toList.length=(m-i)*sz:=by
  unfold Builtin.zeroCells; rw [hzs]; simp [hzl]
 have hmul:m*sz<=cap*sz:=QF _ hnc;have hsplit:i*sz+(m-i)*sz=m*sz:=by rw [<- QK]; congr 1; omega
 have hone:∀ u ∈ (Builtin.zeroCells z.cells (m-i)).toList,u.oneCell'=true:=by
  rw [hzs]; exact CU (λu hu=>Rz.1 h1 u hu) (by omega) _
 obtain ⟨w',hst,hh,hgr⟩:=kY (P:=x.P) gb (off+i*sz) e (Builtin.zeroCells z.cells (m-i)).toList 0 cur.toList w (by simpa using hgb) (by rw [hzlen]; simp; omega) hone
 refine ⟨.tuple #[],w',?_,H,_,ht.Eu (r':=.row (.slice (some ⟨gb,off,none⟩) m cap) e sz m (xs.take (i*sz)++(Builtin.zeroCells z.cells (m-i)).toList)) hgr ⟨?_,.inr ⟨gb,off,cap,_,rfl,hh,hnc,hcm,?_,?_⟩⟩ (λb hb=>.inl hb),k⟩
 ·rw [hq] at hst hy
  simp [execOp,resolve,invoke,builtin,hsl.ev hy,Builtin.clear_,RU hT,hz,hst]
 ·rw [QE,QN,hzlen,hown.1]
  omega
 ·simpa [pU] using hcs
 ·rw [S5,RV,wX _ _ _ (by rw [hzlen]; simp; omega)]
  have hd:(cur.toList.take (off+i*sz)).drop off=xs.take (i*sz):=by
   rw [SW,Sy,<- htake,UW,Rq (by omega)]
  have hlen2:((cur.toList.take (off+i*sz)).drop off++(Builtin.zeroCells z.cells (m-i)).toList).length=m*sz:=by
   rw [QE,hd,QN,hzlen,hown.1]; omega
  rw [QR,Tl (by simp; omega),<- QR,<- hlen2]
  rw [TI,hd]
theorem tM {α:Type}[aH α] {t e:TypeId}{n:Nat}{y lo:Operand}{v:Qj}{z:Qj}{zs xs:List Qj}{l:List α}{ze:α}{kk:IntKind}{i:Int}{ty2:TypeId}{pos2:String}{aft2:Array Edge}{g2:Option (Nat×Bool)}
  (hg:gd ops L ⟨some d,.slice t y (some lo) none none,ty,pos,aft,g⟩=some true) (hN:Nat.blt d x.N=true)
  (hg2:∀ u,gd ops ((d,u)::L) ⟨none,.call ⟨.builtin .clear,#[.tmp d],#[t]⟩,ty2,pos2,aft2,g2⟩=some true)
  (hT:x.P.underlying t=some (.slice e)) (hT2:∀ w,(underlying t).run x.P w=.ok (.slice e) w) (hsz:∀ w,(sizeOf e).run x.P w=.ok (aH.sz α) w)
  (hz:∀ w,(zeroValue e).run x.P w=.ok z w) (hzs:z.cells=zs.toArray) (h1:zs.all Value.oneCell'=true) (hs:Nat.blt 0 (aH.sz α)=true) (hE:aH.E H zs ze)
  (hy:ev L y=some v) (hlo:ev L lo=some (.int kk i)) (hx:Rw H v xs l) (hb:0<=i/\i<=(l.length:Int))
  (k:∀ u xs',Rw H v xs' (l.take i.toNat++List.replicate (l.length-i.toNat) ze)->W x ops Q rest H (.row v e (aH.sz α) (l.take i.toNat++List.replicate (l.length-i.toNat) ze).length xs'::M) ((d,u)::L)):
  W x ops Q (⟨some d,.slice t y (some lo) none none,ty,pos,aft,g⟩::⟨none,.call ⟨.builtin .clear,#[.tmp d],#[t]⟩,ty2,pos2,aft2,g2⟩::rest) H (.row v e (aH.sz α) n xs::M) L:=by
 obtain ⟨hb0,hb1⟩:=hb;obtain ⟨q,rfl⟩:∃ q:Nat,i=q:=⟨i.toNat,by omega⟩
 have hql:q<=l.length:=by omega
 rw [Qn] at k;have hs':0<aH.sz α:=by simpa [Rv] using hs
 have hlen:(l.take q++List.replicate (l.length-q) ze).length=l.length:=by simp; omega
 have hlk:∀ u,ev ((d,u)::L) (.tmp d)=some u:=λu=>by simp [ev,tH]
 have hn:∀ {a:Act}{w:World},St x.B x.w0 H (.row v e (aH.sz α) n xs::M) w->n=l.length:=λ{a w} ht=>by
  have hok:jM w e (aH.sz α) v n xs:=ht.ok _ (Qq ..);have h1:=hx.rd.len;rw [hok.1] at h1;exact R7 hs' h1
 have same:l.length=q->∀ {L2:Env},(∀ xs',Rw H v xs' (l.take q++List.replicate (l.length-q) ze)->W x ops Q rest H (.row v e (aH.sz α) (l.take q++List.replicate (l.length-q) ze).length xs'::M) L2)->W x ops Q rest H (.row v e (aH.sz α) n xs::M) L2:=by
  intro hq L2 kk a w hsl ht;have hnn:=hn (a:=a) ht;subst hnn;have e:l.take q++List.replicate (l.length-q) ze=l:=by rw [hq,RG,<- hq,Sc]; simp
  have:=kk xs (by rw [e]; exact hx)
  rw [e] at this;exact this a w hsl ht
 intro a w hsl ht;have hnn:=hn (a:=a) ht;subst hnn;have hok:jM w e (aH.sz α) v l.length xs:=ht.ok _ (Qq ..)
 revert a w
 suffices hh:∀ (oo:Option Addr) (cap:Nat),v=.slice oo l.length cap->l.length<=cap->(q<l.length->∃ gb off,oo=some ⟨gb,off,none⟩) ->
   W x ops Q (⟨some d,.slice t y (some lo) none none,ty,pos,aft,g⟩::⟨none,.call ⟨.builtin .clear,#[.tmp d],#[t]⟩,ty2,pos2,aft2,g2⟩::rest) H (.row v e (aH.sz α) l.length xs::M) L by
  intro a w hsl ht hok;rcases hok.2 with ⟨e0,h0⟩ | ⟨gb,off,cap,cur,e0,_,hnc,_⟩
  ·exact hh none 0 (by rw [h0]; exact e0) (by omega) (λh=>by omega) a w hsl ht
  ·exact hh (some ⟨gb,off,none⟩) cap e0 hnc (λ_=>⟨gb,off,rfl⟩) a w hsl ht
 intro oo cap hv hnc hsome;subst hv
 by_cases hq:l.length=q
 ·refine tN (m:=cap) (h:=l.length) (l:=q) hg hN hT2 hsz hy (.inl rfl) (.inl ⟨rfl,rfl⟩) (.inl ⟨rfl,rfl⟩) (.inr ⟨_,_,_,rfl,hlo,by omega,by omega,by omega⟩) (v':=.slice (if cap=q then oo else oo.map (·.add (q*aH.sz α))) 0 (cap-q)) (by rw [hq,RG]) ?_
  exact Jh (hg2 _) hT (hlk _) (same hq (λxs' hx'=>k _ xs' hx'))
 ·obtain ⟨gb,off,rfl⟩:=hsome (by omega)
  refine tN (m:=cap) (h:=l.length) (l:=q) hg hN hT2 hsz hy (.inl rfl) (.inl ⟨rfl,rfl⟩) (.inl ⟨rfl,rfl⟩) (.inr ⟨_,_,_,rfl,hlo,by omega,by omega,by omega⟩) (v':=.slice (some ⟨gb,off+q*aH.sz α,none⟩) (l.length-q) (cap-q)) (by rw [Qs (by omega),RR,Ru]) ?_
  have hzl:zs.length=aH.sz α:=aH.len hE;refine ED (i:=q) (sz:=aH.sz α) (hg2 _) hT hz hzs hzl h1 hs (by omega) (hlk _) ?_
  have hcells:(Builtin.zeroCells z.cells (l.length-q)).toList=(List.range ((l.length-q)*aH.sz α)).map (zs.toArray[·%zs.length]!):=by
   unfold Builtin.zeroCells;rw [hzs];simp [hzl]
  have hrw:Rw H (.slice (some ⟨gb,off,none⟩) l.length cap) (xs.take (q*aH.sz α)++(Builtin.zeroCells z.cells (l.length-q)).toList) (l.take q++List.replicate (l.length-q) ze):=
   ⟨(hx.rd.split q).1.app (by rw [hcells]; exact Mw hE hzl _),_,_,_,rfl⟩
  have:=k (.slice (some ⟨gb,off+q*aH.sz α,none⟩) (l.length-q) (cap-q)) _ hrw;rw [hlen] at this;exact this
end
theorem GK (k:Nat):oF .u64 (k:Int) 32=((k / 4294967296:Nat):Int):=by
 unfold oF;rw [show (2:Int) ^ (min (32:Int).toNat u64.bits)=4294967296 from rfl];rw [Ta _ (by decide)]
 omega
def GD {α:Type} (s:List α) (n:Int):List α:=(List.replicate n.toNat s).flatten
theorem xN {α:Type} (a:α) (m:Nat):GD [a] (m:Int)=List.replicate m a:=by
 unfold GD;rw [Qn]
 induction m with
 | zero=>rfl
 | succ m ih=>rw [S4,S4,List.flatten_cons,ih]; rfl
theorem Fp {α:Type}{a:α}{l:List α}{q:Nat} (h:l.take q=List.replicate q a) (hq:q<=l.length):
  (l.take q++l.take (min q (l.length-q))++l.drop (q+min q (l.length-q))).take (q+min q (l.length-q))=List.replicate (q+min q (l.length-q)) a:=by
 have h2:l.take (min q (l.length-q))=List.replicate (min q (l.length-q)) a:=by
  have:=Q6 (List.take (min q (l.length-q))) h
  rwa [UW,List.take_replicate,show min (min q (l.length-q)) q=min q (l.length-q) by omega] at this
 rw [h,h2,List.replicate_append_replicate];rw [List.take_append_of_le_length (by simp),QD (by simp)]
section
variable {B:Nat}{w0 w w':World}{H:Hp}{M:List bQ}
theorem St.var? (ht:St B w0 H M w) {P:Program}{n:String}{g:Nat} (hg:P.globalNamed n=some g) (hlt:g<B):w.var? P n=w0.var? P n:=by
 unfold World.var?;rw [hg];simp only [Tc];rw [ht.below.block g hlt]
theorem St.under (ht:St B w0 H M w) (hb:Below w.heap.size w w'):St B w0 H M w':=
 ht.grow ⟨hb.os,hb.tape,hb.output,hb.size,λi hi _=>hb.block i hi⟩
theorem St.PJ (ht:St B w0 H M w) {P:Program}{n:String}{g:Nat}{k:IntKind}{zs:List Int} (hT:Lib.TabIs P w0 n k zs) (hg:P.globalNamed n=some g) (hlt:g<B):Lib.TabIs P w n k zs:=
 (ht.var? hg hlt).trans hT
end
theorem GO {P:Program}{W:World}{n:String}{g:Nat}{cs:Array Qj} (hg:P.globalNamed n=some g) (h:W.var? P n=some cs):g<W.heap.size:=by
 unfold World.var? at h;rw [hg] at h;simp only [Tc] at h
 split at h
 ·rename_i o _ _ ho
  exact (RN.1 ho).1
 ·cases h
def Mz (v:Qj) (b:Bool):Prop:=(b=false/\v=.nilIface)\/(b=true/\∃ T p,v=.iface T p)
section
variable {x:Cx}{ops:Array Oper}{Q:lZ}{rest:List Oper}{H:Hp}{M:List bQ}{L:Env}
variable {d:Nat}{ty:TypeId}{pos:String}{aft:Array Edge}{g:Option (Nat×Bool)}
theorem La {t u:TypeId}{y:Operand}{v:Qj}{b:Bool}{ms:Array (String×TypeId)} (hT:∀ w,(underlying t).run x.P w=.ok (.interface ms) w) (he:Mz v b) (hg:gd ops L ⟨some d,.binOp .neq t y (.const .nilIface) u,ty,pos,aft,g⟩=some true) (hN:Nat.blt d x.N=true)
  (hy:ev L y=some v) (k:W x ops Q rest H M ((d,.bool b)::L)):W x ops Q (⟨some d,.binOp .neq t y (.const .nilIface) u,ty,pos,aft,g⟩::rest) H M L:=
 fG rfl hg hN (λc w hs _=>by
  have hz:c.eval (.const .nilIface)=.nilIface:=rfl;rcases he with ⟨rfl,rfl⟩ | ⟨rfl,T,p,rfl⟩
  ·have key:∀ k,(Op.equalIn (k+1) t .nilIface .nilIface).run x.P w=.ok true w:=λk=>by
    unfold Op.equalIn;simp [hT]
   have h':(Op.equal t .nilIface .nilIface).run x.P w=.ok true w:=key 9999;simp only [execOp,hs.ev hy,hz,QA,eqGuard,binOp];simp [h']
  ·have key:∀ k,(Op.equalIn (k+1) t (.iface T p) .nilIface).run x.P w=.ok false w:=λk=>by
    unfold Op.equalIn;simp [hT]
   have h':(Op.equal t (.iface T p) .nilIface).run x.P w=.ok false w:=key 9999;simp only [execOp,hs.ev hy,hz,QA,eqGuard,binOp];simp [h']) k
def y_ (l:List U8):Qi:=⟨(l.map λy=>UInt8.ofNat y.n.toNat).toArray⟩
theorem BS:∀ (ns:List Int) (r:Qi),ns.foldl (λr n=>r.push (UInt8.ofNat n.toNat)) r=⟨r.data++(ns.map λn=>UInt8.ofNat n.toNat).toArray⟩
 | [],r=>by simp
 | n::ns,r=>by
  rw [Um,BS ns];simp [ByteArray.push]
theorem aQ.bytes {H:Hp}{v:Qj}{l:List U8} (hR:aQ H v l) {B:Nat}{w0 w:World}{M:List bQ}{P:Program} (ht:St B w0 H M w):(Conv.bytesToString v).run P w=.ok (.string (y_ l)) w:=by
 rcases hR with ⟨⟨a,rfl⟩,rfl⟩ | ⟨b,off,cap,arr,T,fz,rfl,h2,h3,h4,h5,h6⟩
 ·cases a with
  | none=>rfl
  | some a=>
   rw [run_bytesToString w a 0 0 [] (by simp [loadCells,loadCellsFrom,QG])]
   rfl
 ·have hl:=run_loadCells_list (P:=P) w ⟨b,off,none⟩ ((l.map λy=>y.n).map (Value.int .u8)) (λj v hj=>by
   rw [QS,QS,Option.map_map,T0] at hj;obtain ⟨y,hy,rfl⟩:=hj;obtain ⟨cs,q1,q2⟩:=h6 j y hy;have q1:cs=[.int .u8 y.n]:=q1;have:=q2 0 (.int .u8 y.n) (by rw [q1]; rfl)
   have hb:=ht.uJ b _ h4;rw [Ru];simp only [World.cell?,hb];simpa [aH.sz] using this)
  simp only [Sj] at hl;rw [run_bytesToString w ⟨b,off,none⟩ l.length cap _ hl,BS];have he0:ByteArray.empty.data=#[]:=rfl;rw [he0];simp [y_,List.map_map,Function.comp_def]
end
def my (n:Int):Qi:=⟨(Lib.itoa n).toArray⟩
def LW (s:Qi):Int×Bool:=match Lib.parseUintM 4294967295 0 s.data.toList with
 | .ok v=>((v:Int),false)
 | .range=>(4294967295,true)
 | _=>(0,true)
end Go.Sim
namespace Go.Sim
open Go
open _root_.Go.IntKind (i64 u64 u32 u8)
abbrev wg (b c:Nat) (seen:Array Nat):Obj:=.mapIter (some b) c seen c
theorem II {P:Program}{w:World}{ty:TypeId}{b c it:Nat}{seen:Array Nat}{es:Array MapEntry} (hi:w.heap[it]? = some (wg b c seen)) (hb:w.heap[b]? = some (.map es c)) (hold:∀ e ∈ es.toList,e.born<c):
  ((∀ e ∈ es.toList,seen.contains e.born=true)/\(Instr.next (.pointer (some ⟨it,0,none⟩)) false ty).run P w=.ok (.tuple #[.bool false]) w) \/
  ∃ e ∈ es.toList,seen.contains e.born=false/\∃ n,(Instr.next (.pointer (some ⟨it,0,none⟩)) false ty).run P w=.ok (.tuple #[.bool true,e.key,e.val]) { w with drawn:=n,heap:=w.heap.setIfInBounds it (wg b c (seen.push e.born)) }:=by
 simp only [Instr.next,getObj,QA,Sem.run,hi,hb,Result.andThen,next_test_false seen es c c hold (QI _),Rx,R_];have hmem:∀ x ∈ (Array.filter (λe=>!seen.contains e.born) es).toList,x ∈ es.toList/\seen.contains x.born=false:=λx hx=>by simpa using hx
 have hall:Array.filter (λe=>!seen.contains e.born) es=#[]->∀ e ∈ es.toList,seen.contains e.born=true:=λh e he=>by
  rw [Array.filter_eq_empty_iff] at h;have:=h e (by simpa using he)
  simpa using this
 generalize Array.filter (λe=>!seen.contains e.born) es=K at hmem hall ⊢;have e1:K.filter (λx=>decide (x.born<c))=K:=Array.filter_eq_self.2 (λx hx=>by
  have:=hold x (hmem x (by simpa using hx)).1
  simpa using this)
 have e2:K.filter (λx=>decide (x.born≥c))=#[]:=by
  rw [Array.filter_eq_empty_iff];intro x hx;have:=hold x (hmem x (by simpa using hx)).1
  simp;omega
 simp only [e1,e2,Array.append_empty]
 by_cases h0:K.size=0
 ·left
  have:K=#[]:=Array.eq_empty_of_size_eq_zero h0;subst this;refine ⟨hall rfl,?_⟩;simp [choose,Sem.run,Question.forced]
 ·right
  have hne:K.isEmpty=false:=by simp [Array.isEmpty,h0]
  simp only [hne,Rx,R_,Array.empty_append,Array.size_map];have hch:∃ (j n:Nat),j<K.size/\(choose (Question.mapNext K.size)).run P w=.ok j { w with drawn:=n }:=by
   by_cases hf:K.size<=1
   ·exact ⟨0,w.drawn,by omega,by simp [choose,Sem.run,Question.forced,hf]⟩
   ·exact ⟨_,w.drawn+1,Ts _ (by omega),by
     simp only [choose,Sem.run,Question.forced,Q9,hf,R_,Question.cut]
     rfl⟩
  obtain ⟨j,n,hj,hrun⟩:=hch;obtain ⟨m1,m2⟩:=hmem K[j] (by simp)
  refine ⟨K[j],m1,m2,n,?_⟩;have hset:∀ o,(setObj it o).run P { w with drawn:=n }=.ok () { w with drawn:=n,heap:=w.heap.setIfInBounds it o }:=λo=>by simp [setObj,Sem.run,hi]
  simp only [hrun,Array.getElem?_map,Tg hj,RR,QA,hset,Result.andThen]
  rfl
theorem GF {P:Program}{w:World}{b c it:Nat}{seen:Array Nat}{es:Array MapEntry}{e:MapEntry} (hi:w.heap[it]? = some (wg b c (seen.push e.born))) (hb:w.heap[b]? = some (.map es c)) (he:e ∈ es.toList) (hn:(es.toList.map (·.born)).Nodup):
  (Instr.entry (.pointer (some ⟨it,0,none⟩))).run P w=.ok (.tuple #[e.key,e.val]) w:=by
 have hf:es.find? (·.born == e.born)=some e:=by rw [<- Array.find?_toList]; exact find_born e es.toList hn he
 simp only [Instr.entry,getObj,QA,Sem.run,hi,hb,Result.andThen,Array.back?_push,bne_self_eq_false,Rx,R_,hf]
 rfl
section
variable {x:Cx}{ops:Array Oper}{Q:lZ}{rest:List Oper}{H:Hp}{M M':List bQ}{L L':Env}
variable {d:Nat}{ty:TypeId}{pos:String}{aft:Array Edge}{g:Option (Nat×Bool)}
variable {κ ν:Type}[DecidableEq κ] [xc κ] [MV ν]
theorem Jo {t key e:TypeId}{b c:Nat}{y:Operand}{es:Array MapEntry} (hm:bQ.obj b (.map es c) ∈ M)
  (hg:gd ops L ⟨some d,.range t y,ty,pos,aft,g⟩=some true) (hN:Nat.blt d x.N=true)
  (hT:∀ w,(underlying t).run x.P w=.ok (.map key e) w) (hy:ev L y=some (.map (some b)))
  (k:∀ it,W x ops Q rest H (.obj it (wg b c #[])::M) ((d,.pointer (some ⟨it,0,none⟩))::L)):
  W x ops Q (⟨some d,.range t y,ty,pos,aft,g⟩::rest) H M L:=
 s5 rfl hg hN (λa w hs ht=>⟨_,w.alloc (wg b c #[]),by
  have hb:=ht.vS hm;simp only [execOp,hs.ev hy,Instr.range,QA,hT,Qx,w4 hb,QG,newObj,Sem.run,World.alloc],_,_,ht.alloc _,k _⟩)
theorem Lb {b c it:Nat}{y:Operand}{seen:Array Nat}{es:Array MapEntry}{l:List (κ×ν)} (hm:bQ.obj b (.map es c) ∈ M) (h:sD es c l)
  (hg:gd ops L ⟨some d,.next y false,ty,pos,aft,g⟩=some true) (hN:Nat.blt d x.N=true) (hy:ev L y=some (.pointer (some ⟨it,0,none⟩)))
  (k1:(∀ e ∈ es.toList,seen.contains e.born=true)->W x ops Q rest H (.obj it (wg b c seen)::M) ((d,.tuple #[.bool false])::L))
  (k2:∀ e ∈ es.toList,seen.contains e.born=false->W x ops Q rest H (.obj it (wg b c (seen.push e.born))::M) ((d,.tuple #[.bool true,e.key,e.val])::L)):
  W x ops Q (⟨some d,.next y false,ty,pos,aft,g⟩::rest) H (.obj it (wg b c seen)::M) L:=
 s5 rfl hg hN (λa w hs ht=>by
  have hi:=ht.vS (Qq ..);have hb:=ht.vS (Qw _ hm);have hlt:it<w.heap.size:=(RN.1 hi).1;rcases II (P:=x.P) (ty:=ty) hi hb h.lt with ⟨hall,hr⟩ | ⟨e,he,hne,n,hr⟩
  ·exact ⟨_,w,by simp only [execOp,hs.ev hy,QA,hr,Qx,QG],_,_,ht,k1 hall⟩
  ·refine ⟨_,{ w with drawn:=n,heap:=w.heap.setIfInBounds it (wg b c (seen.push e.born)) },by simp only [execOp,hs.ev hy,QA,hr,Qx,QG],_,_,?_,k2 e he hne⟩
   have h1:=ht.Eu (r':=.obj it (wg b c (seen.push e.born))) (xA w it (wg b c (seen.push e.born))) (by simp [bQ.ok,hlt]) (λ_ hc=>.inl hc)
   exact h1.drewN n)
theorem Ji {b c it:Nat}{y:Operand}{seen:Array Nat}{es:Array MapEntry}{l:List (κ×ν)}{e:MapEntry} (hi:bQ.obj it (wg b c (seen.push e.born)) ∈ M) (hm:bQ.obj b (.map es c) ∈ M) (h:sD es c l) (he:e ∈ es.toList) {vk vv:Qj} (hk:e.key=vk) (hv:e.val=vv)
  (hg:gd ops L ⟨some d,.entry y,ty,pos,aft,g⟩=some true) (hN:Nat.blt d x.N=true) (hy:ev L y=some (.pointer (some ⟨it,0,none⟩)))
  (k:W x ops Q rest H M ((d,.tuple #[vk,vv])::L)):
  W x ops Q (⟨some d,.entry y,ty,pos,aft,g⟩::rest) H M L:=
 fG rfl hg hN (λa w hs ht=>by
  subst hk; subst hv
  simp only [execOp,hs.ev hy,QA,GF (P:=x.P) (ht.vS hi) (ht.vS hm) he h.nd,Qx,QG]) k
end
theorem sD.pick {κ ν:Type}[DecidableEq κ] [xc κ] [MV ν] {es:Array MapEntry}{c:Nat}{l:List (κ×ν)} (h:sD es c l) {e:MapEntry} (he:e ∈ es.toList):∃ (i:Nat) (p:κ×ν),es.toList[i]? = some e/\l[i]? = some p/\e.key=MV.mv p.1/\e.val=MV.mv p.2:=by
 obtain ⟨i,hi,rfl⟩:=RC.1 he;have h1:(es.toList.map λe=>(e.key,e.val))[i]? = (l.map λp=>(MV.mv p.1,MV.mv p.2))[i]? := by rw [h.eq]
 rw [QS,QS,Ql hi] at h1;cases hp:l[i]? with
 | none=>rw [hp] at h1; simp at h1
 | some p=>
  rw [hp] at h1;simp only [RR,QH,SU] at h1;exact ⟨i,p,Ql hi,hp,h1.1,h1.2⟩
def y0 {α:Type} (es:Array MapEntry) (seen:Array Nat) (l:List α) (P:α->Bool):Prop:=∀ (i:Nat) (p:α),l[i]? = some p->∀ e,es.toList[i]? = some e->seen.contains e.born=true->P p=false
theorem y0.nil {α:Type}{es:Array MapEntry}{l:List α}{P:α->Bool}:y0 es #[] l P:=λi p hp e he h=>by simp at h
theorem y0.push {κ ν:Type}[DecidableEq κ] [xc κ] [MV ν] {es:Array MapEntry}{c:Nat}{seen:Array Nat}{l:List (κ×ν)}{P:κ×ν->Bool} (hs:y0 es seen l P) (h:sD es c l) {i:Nat}{p:κ×ν}{e:MapEntry}
  (hi:es.toList[i]? = some e) (hp:l[i]? = some p) (hP:P p=false):y0 es (seen.push e.born) l P:=λj q hq e' he' hc=>by
 by_cases hj:i=j
 ·subst hj
  rw [hp] at hq;obtain rfl:=Qp hq;exact hP
 ·refine hs j q hq e' he' ?_
  have hne:e'.born≠e.born:=λhb=>by
   obtain ⟨h1,h2⟩:=Qo.1 hi;obtain ⟨h3,h4⟩:=Qo.1 he';have hpw:=TF.1 h.nd;have h1':i<(es.toList.map (·.born)).length:=by simpa using h1
   have h3':j<(es.toList.map (·.born)).length:=by simpa using h3
   rcases Nat.lt_or_gt_of_ne hj with hlt | hlt
   ·exact hpw i j h1' h3' hlt (by rw [SA,SA,h2,h4]; exact hb.symm)
   ·exact hpw j i h3' h1' hlt (by rw [SA,SA,h2,h4]; exact hb)
  simp at hc ⊢;rcases hc with hc | hc
  ·exact hc
  ·exact absurd hc hne
theorem y0.none {κ ν:Type}[DecidableEq κ] [xc κ] [MV ν] {es:Array MapEntry}{c:Nat}{seen:Array Nat}{l:List (κ×ν)}{P:κ×ν->Bool} (hs:y0 es seen l P) (h:sD es c l) (hall:∀ e ∈ es.toList,seen.contains e.born=true):l.any P=false:=by
 rw [List.any_eq_false];intro p hp;obtain ⟨i,hi,rfl⟩:=RC.1 hp;have hlen:es.toList.length=l.length:=by have:=Q6 List.length h.eq; simpa using this
 have hi':i<es.toList.length:=by omega
 have:=hs i l[i] (Ql hi) es.toList[i] (Ql hi') (hall _ (QY hi'));simp [this]
theorem M3 {α:Type}{l:List α}{P:α->Bool}{i:Nat}{p:α} (hp:l[i]? = some p) (hP:P p=true):l.any P=true:=
 List.any_eq_true.2 ⟨p,Qz hp,hP⟩
def Ej (es:Array MapEntry) (seen:Array Nat):Nat:=(es.toList.filter λe=>!seen.contains e.born).length
theorem IT {es:Array MapEntry}{seen:Array Nat}{e:MapEntry} (he:e ∈ es.toList) (h:seen.contains e.born=false):Ej es (seen.push e.born)<Ej es seen:=by
 unfold Ej;refine filter_lt (λe=>!seen.contains e.born) (λe'=>!(seen.push e.born).contains e'.born) (λy hy=>?_) e (by simp only [h]; rfl) (by simp) es.toList he
 simp at hy ⊢;exact hy.1
end Go.Sim
namespace Go.Sim
open Go Go.RowKit
open _root_.Go.IntKind (i64 u64 u32 u8)
def OW (b:Nat) (p:Qj):Prop:=p=.pointer none\/p=.pointer (some ⟨b,0,none⟩)
theorem AX (s:Qi):Lib.strCells s=(kB s).map (λy=>Value.int .u8 y.n):=by
 simp [Lib.strCells,kB,Function.comp_def]
theorem qC.u8 (H:Hp) (l:List U8):qC H (l.map λy=>Value.int .u8 y.n) l:=by
 induction l with
 | nil=>exact qC.nil
 | cons y l ih=>exact ⟨[.int .u8 y.n],_,rfl,rfl,ih⟩
theorem Au {P:Program}{w:World}{t u ty e:TypeId}{i:TypeInfo} (ht:P.underlying t=some (.slice e)) (hu:P.underlying u=some .string) (hi:P.info? e=some i) (hz:i.zero=some (.int .u8 0))
  (hsize:i.size=1) (hby:i.bytes=1) {v:Qj}{n:Nat}{xs:List Qj} (hown:jM w e 1 v n xs) (s:Qi) (h63:n+s.size<=maxLen) (hbytes:n+s.size<=140737488355328):
  ∃ v' w',(Builtin.append_ #[t,u] ty #[v,.string s]).run P w=.ok v' w'/\jM w' e 1 v' (n+s.size) (xs++Lib.strCells s)/\w.grownBy w' v.ownBlock /\
   (∀ b,v'.ownBlock=some b->v.ownBlock=some b\/w.heap.size<=b):=by
 have hsmall:n+s.size<=9223372036854775807:=by simp only [maxLen] at h63; omega
 have hxl:xs.length=n:=by simpa using hown.1
 have hlen:(xs++Lib.strCells s).length=(n+s.size)*1:=by rw [QE,hxl,TM,S9]
 have grown:∀ (vi:Nat) (row:Option Nat),
   jM (w.drew.alloc (.cells (xs.toArray++(Lib.strCells s).toArray++Builtin.zeroCells (Value.int .u8 0).cells (grownCap w (n+s.size) vi e-(n+s.size))) e)) e 1
    (.slice (some ⟨w.heap.size,0,none⟩) (n+s.size) (grownCap w (n+s.size) vi e)) (n+s.size) (xs++Lib.strCells s) /\
   w.grownBy (w.drew.alloc (.cells (xs.toArray++(Lib.strCells s).toArray++Builtin.zeroCells (Value.int .u8 0).cells (grownCap w (n+s.size) vi e-(n+s.size))) e)) row:=by
  intro vi row;have hge:=Vw w (n+s.size) vi e;have hcm:grownCap w (n+s.size) vi e<=maxLen:=US w (n+s.size) vi e h63;refine ⟨⟨hlen,.inr ⟨w.heap.size,0,_,_,rfl,UZ w.drew _,hge,hcm,?_,?_⟩⟩,⟨rfl,rfl,rfl,by simp,λk hk _=>heap_alloc_old w.drew _ (h:=hk)⟩⟩
  ·have hz1:(Value.int u8 0).cells.size=1:=rfl
   simp only [Array.size_append,S1,size_zeroCells,hz1,hxl,TM];omega
  ·simp only [RI,Vp,QR]
   rw [<- QR,<- hlen];exact TI
 rcases hown.2 with ⟨rfl,rfl⟩ | ⟨g,off,cap,cur,rfl,hg,hnc,hcm,hcs,htake⟩
 ·have hx:xs=[]:=QU hxl
  subst hx
  by_cases hm:s.size=0
  ·have hn:Lib.strCells s=[]:=QU (by rw [TM]; exact hm)
   refine ⟨.slice none 0 0,w,?_,by rw [hm,hn]; exact jM.nil w e 1,⟨rfl,rfl,rfl,QI _,λ_ _ _=>rfl⟩,by simp [Value.ownBlock]⟩
   have hf:=Lib.run_firstCells_string (P:=P) w 1 s;rw [hm] at hf;simp [Builtin.append_,RU ht,RU hu,sizeOf,typeInfo,hi,hsize,Builtin.lenOf,hm,hf]
  ·have hr:=run_append_nil_string (P:=P) w t u ty e i (.int .u8 0) ht hu hi hz s (by omega) (by omega) (by rw [hby]; omega)
   have hgr:=grown 0 (Value.ownBlock (.slice none 0 0));simp only [QL,R2,Array.empty_append] at hgr ⊢;have e1:(s.data.map λb=>Value.int .u8 b.toNat)=(Lib.strCells s).toArray:=by
    apply Array.ext';simp [Lib.strCells]
   rw [e1] at hr;exact ⟨_,_,hr,hgr.1,hgr.2,λb hb=>.inr (by simp only [Value.ownBlock,QH] at hb; omega)⟩
 ·have hcs':off+cap<=cur.size:=by simpa using hcs
  by_cases hroom:n+s.size<=cap
  ·have hf:=Lib.run_firstCells_string (P:=P) w 1 s
   obtain ⟨w',hst,hh,hgr⟩:=kY (P:=P) g (off+n) e (Lib.strCells s) 0 cur.toList w (by simpa using hg) (by rw [TM]; simp; omega) (Lib.strCells_oneCell s)
   refine ⟨.slice (some ⟨g,off,none⟩) (n+s.size) cap,w',?_,⟨hlen,.inr ⟨g,off,cap,_,rfl,hh,hroom,hcm,?_,?_⟩⟩,hgr,λb hb=>.inl hb⟩
   ·simp [Builtin.append_,RU ht,RU hu,sizeOf,typeInfo,hi,hsize,Builtin.lenOf,hroom,hf,Ru,hst]
   ·simpa [pU] using hcs
   ·rw [S5,RV,wX _ _ _ (by rw [TM]; simp; omega)]
    have hd:(cur.toList.take (off+n)).drop off=xs:=by rw [SW,Sy]; simpa using htake
    rw [QR,Tl (by simp; omega),hd,<- QR,<- hlen]
    exact TI
  ·have holds:∀ j u,xs[j]? = some u->w.cell? ((⟨g,off,none⟩:Addr).add j)=some u:=by
    intro j u hu;rw [Ru];refine Vg hg rfl ?_;rw [<- htake,Rc] at hu
    split at hu
    ·rw [Q7] at hu; simpa using hu
    ·cases hu
   have hr:=Lib.run_append_grow_string (P:=P) w t u ty e i (.int .u8 0) ht hu hi hz ⟨g,off,none⟩ n cap xs (by rw [hsize]; simpa using hxl) holds s (by omega) (by omega) (by rw [hby]; exact Vu (by omega) (by omega))
   have hgr:=grown cap (Value.ownBlock (.slice (some ⟨g,off,none⟩) n cap));exact ⟨_,_,hr,hgr.1,hgr.2,λb hb=>.inr (by simp only [Value.ownBlock,QH] at hb; omega)⟩
section
variable {x:Cx}{ops:Array Oper}{Q:lZ}{rest:List Oper}{H:Hp}{M M':List bQ}{L L':Env}
variable {d:Nat}{ty:TypeId}{pos:String}{aft:Array Edge}{g:Option (Nat×Bool)}
theorem EC {t u e:TypeId}{n:Nat}{y z:Operand}{v:Qj}{xs:List Qj}{l:List U8}{s:Qi}
  (hg:gd ops L ⟨some d,.call ⟨.builtin .append,#[y,z],#[t,u]⟩,ty,pos,aft,g⟩=some true) (hN:Nat.blt d x.N=true)
  (hT:x.P.underlying t=some (.slice e)) (hU:x.P.underlying u=some .string) (hi:NZ x.P e 1 1 (.int .u8 0))
  (hy:ev L y=some v) (hz:ev L z=some (.string s)) (hx:Rw H v xs l) (hb:l.length+s.size<=140737488355328)
  (k:∀ v' xs',Rw H v' xs' (l++kB s)->W x ops Q rest H (.row v' e (aH.sz U8) (l++kB s).length xs'::M) ((d,v')::L)):
  W x ops Q (⟨some d,.call ⟨.builtin .append,#[y,z],#[t,u]⟩,ty,pos,aft,g⟩::rest) H (.row v e (aH.sz U8) n xs::M) L:=by
 obtain ⟨i,h1,h2,h3,h4⟩:=hi.ex;refine s5 rfl hg hN λa w hsl ht=>?_;have hown:jM w e 1 v n xs:=ht.ok _ (Qq ..);have hn:n=l.length:=by
  have:=hx.rd.len;rw [hown.1] at this;exact R7 (Nat.zero_lt_one) this
 subst hn;obtain ⟨v',w',hr,ho,hgr,hfr⟩:=Au (P:=x.P) (ty:=ty) hT hU h1 h4 h2 h3 hown s (by unfold maxLen; omega) hb
 have hlen:(l++kB s).length=l.length+s.size:=by rw [QE,yG]
 have hok:bQ.ok w' (.row v' e (aH.sz U8) (l++kB s).length (xs++Lib.strCells s)):=by rw [hlen]; exact ho
 refine ⟨v',w',?_,H,_,ht.Eu (r':=.row v' e (aH.sz U8) (l++kB s).length (xs++Lib.strCells s)) hgr hok hfr,k v' _ ⟨?_,ho.shape⟩⟩
 ·simp [execOp,resolve,invoke,builtin,hsl.ev hy,hsl.ev hz,hr]
 ·rw [AX]
  exact hx.rd.app (qC.u8 H _)
theorem EH {t e u:TypeId}{y z:Operand}{a:Addr} (hi:∃ j,x.P.info? e=some j) (hg:gd ops L ⟨some d,.binOp .neq t y z u,ty,pos,aft,g⟩=some true) (hN:Nat.blt d x.N=true)
  (hT:x.P.underlying t=some (.pointer e)) (hy:ev L y=some (.pointer (some a))) (hz:ev L z=some (.pointer (some a)))
  (k:W x ops Q rest H M ((d,.bool false)::L)):W x ops Q (⟨some d,.binOp .neq t y z u,ty,pos,aft,g⟩::rest) H M L:=
 fG rfl hg hN (λc w hs _=>by
  obtain ⟨j,hj⟩:=hi;have h:=Lib.run_neq_ptr_same (P:=x.P) w a hT hj;simp only [execOp,hs.ev hy,hs.ev hz,QA,eqGuard];simp [h]) k
theorem Dh {B:Nat}{w0 w:World}{b:Nat}{cs:List Qj}{T:TypeId} (ht:St B w0 H M w) (hm:bQ.obj b (.cells cs.toArray T (0,0)) ∈ M):w.shape? b=some (T,cs.length):=by
 have h:=ht.vS hm;simp [World.shape?,h]
theorem FO {src dst T e:TypeId}{y:Operand}{b o:Nat}{cs:List Qj} (hm:bQ.obj b (.cells cs.toArray e (0,0)) ∈ M) (ho:Nat.blt o cs.length=true)
  (hi:∃ j,x.P.info? T=some j/\Nat.beq j.size 0=false) (hg:gd ops L ⟨some d,.convert src dst y,ty,pos,aft,g⟩=some true) (hN:Nat.blt d x.N=true)
  (hs:x.P.underlying src=some (.pointer T)) (hd:x.P.underlying dst=some .unsafePointer) (hy:ev L y=some (.pointer (some ⟨b,o,none⟩)))
  (k:W x ops Q rest H M ((d,.pointer (some ⟨b,o,none⟩))::L)):W x ops Q (⟨some d,.convert src dst y,ty,pos,aft,g⟩::rest) H M L:=
 fG rfl hg hN (λc w hsl ht=>by
  obtain ⟨j,hj,hj0⟩:=hi;have h:=Lib.run_to_unsafe (P:=x.P) w ⟨b,o,none⟩ hs hd hj (λe=>by rw [e] at hj0; cases hj0) (Dh ht hm) (by simpa [Rv] using ho)
  simp only [execOp,hsl.ev hy,QA,h,Qx,QG]) k
theorem Dx {src dst T e:TypeId}{y:Operand}{b o:Nat}{cs:List Qj} (hm:bQ.obj b (.cells cs.toArray e (0,0)) ∈ M)
  (hi:∃ j,x.P.info? T=some j) (hl:liesAt x.P x.P.depth e (cs.length / x.P.cellsOf e) o T 1=true) (hg:gd ops L ⟨some d,.convert src dst y,ty,pos,aft,g⟩=some true) (hN:Nat.blt d x.N=true)
  (hs:x.P.underlying src=some .unsafePointer) (hd:x.P.underlying dst=some (.pointer T)) (hy:ev L y=some (.pointer (some ⟨b,o,none⟩)))
  (k:W x ops Q rest H M ((d,.pointer (some ⟨b,o,none⟩))::L)):W x ops Q (⟨some d,.convert src dst y,ty,pos,aft,g⟩::rest) H M L:=
 fG rfl hg hN (λc w hsl ht=>by
  obtain ⟨j,hj⟩:=hi;have h:=Lib.run_from_unsafe (P:=x.P) w ⟨b,o,none⟩ hs hd hj (Dh ht hm) hl;simp only [execOp,hsl.ev hy,QA,h,Qx,QG]) k
theorem D5 {P:Program}{f:FuncId}{fn:Func} (hf:P.funcs[f]? = some fn) (h1:(fn.name == "runtime.NumGoroutine")=false) (h2:fn.body.isNone=true) (h3:Extern.findNext fn=none) (h4:Extern.find fn=some Extern.AbiNoEscape.same) (v:Qj):
  ∀ w,(callFunc f [v].toArray).run P w=.ok (.value v) w:=λw=>by
 rw [run_callFunc_extern hf h1 h2 h3 h4,show [v].toArray=#[v] from rfl,Lib.run_noEscape]
 rfl
theorem EJ {ts:Array TypeId}{y:Operand}{a:Addr}{n c:Nat} (hg:gd ops L ⟨some d,.call ⟨.builtin .unsafeSliceData,#[y],ts⟩,ty,pos,aft,g⟩=some true) (hN:Nat.blt d x.N=true)
  (hy:ev L y=some (.slice (some a) n c)) (hc:c≠0) (k:W x ops Q rest H M ((d,.pointer (some a))::L)):
  W x ops Q (⟨some d,.call ⟨.builtin .unsafeSliceData,#[y],ts⟩,ty,pos,aft,g⟩::rest) H M L:=
 fG rfl hg hN (λs w hsl ht=>by
  have h:=Lib.run_unsafeSliceData_row (P:=x.P) w ts ty a n c hc;simp [execOp,resolve,invoke,builtin,hsl.ev hy,h]) k
theorem xP {P:Program} (w:World):∀ (l:List U8) (a:Addr) (acc:Qi),(∀ j y,l[j]? = some y->w.cell? (a.add j)=some (.int .u8 y.n)) ->
  (loadBytes a acc l.length).run P w=.ok ⟨acc.data++(l.map λy=>UInt8.ofNat y.n.toNat).toArray⟩ w
 | [],a,acc,_=>by simp [loadBytes]
 | y::l,a,acc,h=>by
  have h0:w.cell? a=some (.int .u8 y.n):=by
   have:=h 0 y rfl;simpa [Addr.add] using this
  have ih:=xP (P:=P) w l (a.add 1) (acc.push (UInt8.ofNat y.n.toNat)) (λj z hz=>by
   have:=h (j+1) z (by simpa using hz)
   have e:(a.add 1).add j=a.add (j+1):=by
    unfold Addr.add
    by_cases hj:j=0
    ·subst hj; simp
    ·simp [hj]; omega
   rw [e]; exact this)
  have hx:(y.n.toNat).toUInt8=UInt8.ofNat y.n.toNat:=rfl;simp only [Qy,loadBytes,QA,run_load,h0,Result.andThen,hx];rw [ih]
  congr 1
  apply ByteArray.ext;simp [ByteArray.push]
theorem CN {P:Program}{e:TypeId} (hc:P.cellsOf e=1) (count off n:Nat) (hn:off+n<=count):liesAt P P.depth e count off e n=true:=by
 have hd:P.depth=(2*(P.types.size+Made.depth)+1)+1:=rfl;rw [hd];simp only [liesAt,RZ]
 left
 rw [hd];simp [rowAt,hc,hn,sameLayout,Nat.mod_one]
theorem EK {pt it e:TypeId}{y z:Operand}{gb off n cap:Nat}{xs:List Qj}{l:List U8}
  (hg:gd ops L ⟨some d,.call ⟨.builtin .unsafeString,#[y,z],#[pt,it]⟩,ty,pos,aft,g⟩=some true) (hN:Nat.blt d x.N=true)
  (hp:x.P.underlying pt=some (.pointer e)) (hc:x.P.cellsOf e=1)
  (hy:ev L y=some (.pointer (some ⟨gb,off,none⟩))) (hz:ev L z=some (.int .i64 (l.length:Int))) (h0:0<l.length)
  (hx:Rw H (.slice (some ⟨gb,off,none⟩) n cap) xs l)
  (k:W x ops Q rest H M ((d,.string (y_ l))::L)):
  W x ops Q (⟨some d,.call ⟨.builtin .unsafeString,#[y,z],#[pt,it]⟩,ty,pos,aft,g⟩::rest) H (.row (.slice (some ⟨gb,off,none⟩) n cap) e (aH.sz U8) n xs::M) L:=by
 refine s5 rfl hg hN λa w hsl ht=>?_;have hown:jM w e 1 (.slice (some ⟨gb,off,none⟩) n cap) n xs:=ht.ok _ (Qq ..);have hn:n=l.length:=by
  have:=hx.rd.len;rw [hown.1] at this;exact R7 (Nat.zero_lt_one) this
 rcases hown.2 with ⟨h,_⟩ | ⟨g',off',oz,cur,he,hgc,hnc,hcm,hcs,htake⟩
 ·cases h
 cases he;have hcs':off+cap<=cur.size:=by simpa using hcs
 have hsh:w.shape? gb=some (e,cur.size):=by simp [World.shape?,hgc]
 have hcell:∀ j y,l[j]? = some y->w.cell? ((⟨gb,off,none⟩:Addr).add j)=some (.int .u8 y.n):=by
  intro j y hj;obtain ⟨cs,h1,h2⟩:=hx.rd.get j y hj;have h1:cs=[.int .u8 y.n]:=h1;have h3:=h2 0 (.int .u8 y.n) (by rw [h1]; rfl)
  rw [Ru];refine Vg hgc rfl ?_;rw [<- htake,Rc] at h3
  split at h3
  ·rw [Q7] at h3
   simpa [aH.sz] using h3
  ·cases h3
 have hlb:=xP (P:=x.P) w l ⟨gb,off,none⟩ .empty hcell;have hlies:=CN (P:=x.P) hc (cur.size / x.P.cellsOf e) off l.length (by rw [hc,Nat.div_one]; omega)
 have hmax:i64.max=9223372036854775807:=rfl;have hl0:l.length≠0:=by omega
 have h63':¬ (9223372036854775807:Int)<(l.length:Int):=by unfold maxLen at hcm; omega
 have hneg:¬ (l.length:Int)<0:=by omega
 have hrun:(Builtin.unsafeString_ #[pt,it] ty #[.pointer (some ⟨gb,off,none⟩),.int .i64 l.length]).run x.P w=.ok (.string (y_ l)) (w.freeze ⟨gb,off,none⟩ l.length):=by
  have hdef:Builtin.unsafeString_ #[pt,it] ty #[.pointer (some ⟨gb,off,none⟩),.int .i64 l.length] =
    (do
     let n <- asInt (.int .i64 l.length)
     if n<0 then runtimePanic (.error "unsafe.String: len out of range")
     if n > i64.max then unsupported (.unsafePointer "String: a length above the largest int")
     if n=0 then pure (.string .empty)
     else if <- variablesAt ⟨gb,off,none⟩ (<- elemOf pt) n.toNat then do
      let s <- loadBytes ⟨gb,off,none⟩ .empty n.toNat
      freeze ⟨gb,off,none⟩ n.toNat
      pure (.string s)
     else unsupported (.unsafePointer "String: not so many bytes at ptr")):=rfl
  rw [hdef];have he0:ByteArray.empty.data=#[]:=rfl;simp [asInt,asIntOf,hmax,h63',hneg,hl0,variablesAt,hsh,elemOf,RU hp,hlies,hlb,y_]
 have hgr:w.grownBy (w.freeze ⟨gb,off,none⟩ l.length) (some gb):=by
  unfold World.freeze
  split
  ·exact ⟨rfl,rfl,rfl,QI _,λ_ _ _=>rfl⟩
  ·exact ⟨rfl,rfl,rfl,by simp,λq hq hne=>by
    simp only [Va];rw [Qs (by intro e; exact hne (by rw [e]))]⟩
 have h1:=ht.Eu (r':=.row (.slice none 0 0) 0 1 0 []) hgr (jM.nil _ _ _) (by intro b hb; simp [bQ.zh,Value.ownBlock] at hb)
 refine ⟨.string (y_ l),w.freeze ⟨gb,off,none⟩ l.length,?_,H,M,h1.tail,k⟩;simp [execOp,resolve,invoke,builtin,hsl.ev hy,hsl.ev hz,hrun]
end
end Go.Sim
namespace Go.Sim
open Go
open _root_.Go.IntKind (i64 u64 u32 u8)
def rowsOf (T:TypeId) (sz:Nat) {α:Type} (ws:List (Qj×List Qj)) (ls:List (List α)):List bQ:=List.zipWith (λw l=>bQ.row w.1 T sz l.length w.2) ws ls
structure Mx {α:Type}[aH α] (T1 T2:TypeId) (H:Hp) (v:Qj) (hs:List Qj) (mx:List bQ) (sg:List Nat) (ls:List (List α)):Prop where
 ex:∃ (xs:List Qj) (ws:List (Qj×List Qj)),mx=.row v T1 1 sg.length xs::rowsOf T2 (aH.sz α) ws ls/\ws.length=ls.length/\ws.map (·.1)=hs/\(∀ (k:Nat) (w:Qj×List Qj) (l:List α),ws[k]? = some w->ls[k]? = some l->Rw H w.1 w.2 l) /\
  xs.length=sg.length/\(∀ (i k:Nat),sg[i]? = some k->∃ w:Qj×List Qj,ws[k]? = some w/\xs[i]? = some w.1)
 sl:∃ a n c,v=.slice a n c
section
variable {α:Type}[aH α] {T1 T2:TypeId}{H H':Hp}{v:Qj}{hs:List Qj}{mx:List bQ}{sg:List Nat}{ls:List (List α)}
theorem Mx.mono (h:Mx T1 T2 H v hs mx sg ls) (hle:H.le H'):Mx T1 T2 H' v hs mx sg ls:=by
 obtain ⟨xs,ws,h1,h2,h2',h3,h4,h5⟩:=h.ex;exact ⟨⟨xs,ws,h1,h2,h2',λk w l a b=>(h3 k w l a b).mono hle,h4,h5⟩,h.sl⟩
theorem Gb {ws:List (Qj×List Qj)}{k:Nat}{w:Qj} (hh:ws.map (·.1)=hs) (hw:hs[k]? = some w):∃ u,ws[k]? = some u/\u.1=w:=by
 rw [<- hh,QS] at hw;cases e:ws[k]? with
 | none=>rw [e] at hw; simp at hw
 | some u=>rw [e] at hw; exact ⟨u,rfl,Qp hw⟩
theorem Mx.row (h:Mx T1 T2 H v hs mx sg ls) {k:Nat}{w:Qj} (hw:hs[k]? = some w):∃ (xs:List Qj) (m1 m2:List bQ),k<ls.length/\mx=m1++.row w T2 (aH.sz α) ((ls[k]?).getD []).length xs::m2/\Rw H w xs ((ls[k]?).getD []) /\
  ∀ (H':Hp) (xs':List Qj) (l':List α),H.le H'->Rw H' w xs' l'->Mx T1 T2 H' v hs (m1++.row w T2 (aH.sz α) l'.length xs'::m2) sg (ls.set k l'):=by
 obtain ⟨oxs,ws,rfl,h2,h2',h3,h4,h5⟩:=h.ex;have hh:=hw;clear hw;obtain ⟨w,hw,rfl⟩:=Gb h2' hh;have hkw:k<ws.length:=(Qo.1 hw).1;have hk:k<ls.length:=by omega
 have hl:=Ql hk;have hwe:ws[k]=w:=by rw [Ql hkw] at hw; exact Qp hw
 have hsp:∀ (ws:List (Qj×List Qj)) (ls:List (List α)) (h1:k<ws.length) (h2:k<ls.length),rowsOf T2 (aH.sz α) ws ls=rowsOf T2 (aH.sz α) (ws.take k) (ls.take k)++.row ws[k].1 T2 (aH.sz α) ls[k].length ws[k].2::rowsOf T2 (aH.sz α) (ws.drop (k+1)) (ls.drop (k+1)):=λws ls h1 h2=>by
  have e1:ws=ws.take k++ws[k]::ws.drop (k+1):=by rw [<- QV h1,RP]
  have e2:ls=ls.take k++ls[k]::ls.drop (k+1):=by rw [<- QV h2,RP]
  have e3:rowsOf T2 (aH.sz α) ws ls=rowsOf T2 (aH.sz α) (ws.take k++ws[k]::ws.drop (k+1)) (ls.take k++ls[k]::ls.drop (k+1)):=by rw [<- e1,<- e2]
  rw [e3];unfold rowsOf;rw [TP (by simp; omega)]
  rfl
 have hg:(ls[k]?).getD []=ls[k]:=by rw [hl]; rfl
 rw [hg];refine ⟨w.2,.row v T1 1 sg.length oxs::rowsOf T2 (aH.sz α) (ws.take k) (ls.take k),rowsOf T2 (aH.sz α) (ws.drop (k+1)) (ls.drop (k+1)),hk,?_,h3 k w _ hw hl,λH' xs' l' hle hr=>⟨⟨oxs,ws.set k (w.1,xs'),?_,by simp [h2],?_,λj u l hu hl'=>?_,h4,λi' j hj=>?_⟩,h.sl⟩⟩
 ·rw [hsp ws ls hkw hk,hwe]; rfl
 ·rw [hsp (ws.set k (w.1,xs')) (ls.set k l') (by simpa using hkw) (by simpa using hk)]
  have t1:(ws.set k (w.1,xs')).take k=ws.take k:=Tn (QI k);have t2:(ls.set k l').take k=ls.take k:=Tn (QI k);have t3:(ws.set k (w.1,xs')).drop (k+1)=ws.drop (k+1):=S3 (Sd k);have t4:(ls.set k l').drop (k+1)=ls.drop (k+1):=S3 (Sd k);rw [t1,t2,t3,t4];simp
 ·rw [List.map_set,h2']
  obtain ⟨e1,e2⟩:=Qo.1 hh;rw [<- e2,Vd]
 ·by_cases e:k=j
  ·subst e
   rw [QQ hkw] at hu;rw [QQ hk] at hl';obtain rfl:=Qp hu;obtain rfl:=Qp hl';exact hr
  ·rw [QM e] at hu hl'
   exact (h3 j u l hu hl').mono hle
 ·obtain ⟨u,hu,hx'⟩:=h5 i' j hj
  by_cases e:k=j
  ·subst e
   rw [hw] at hu;obtain rfl:=Qp hu;exact ⟨(w.1,xs'),by rw [QQ hkw],hx'⟩
  ·exact ⟨u,by rw [QM e]; exact hu,hx'⟩
theorem Mx.outer (h:Mx T1 T2 H v hs mx sg ls):∃ oxs m2,mx=.row v T1 1 sg.length oxs::m2/\oxs.length=sg.length/\(∀ (i k:Nat),sg[i]? = some k->∃ w,hs[k]? = some w/\oxs[i]? = some w) /\
  (∀ (i k:Nat) (w:Qj),i<sg.length->hs[k]? = some w->Mx T1 T2 H v hs (.row v T1 1 (sg.set i k).length (oxs.set i w)::m2) (sg.set i k) ls) /\
  (∀ (i:Nat) (w:Qj) (xs:List Qj) (l:List α),i<sg.length->Rw H w xs l->Mx T1 T2 H v (hs++[w]) (.row v T1 1 (sg.set i ls.length).length (oxs.set i w)::(m2++[.row w T2 (aH.sz α) l.length xs])) (sg.set i ls.length) (ls++[l])):=by
 obtain ⟨oxs,ws,rfl,h2,h2',h3,h4,h5⟩:=h.ex;refine ⟨oxs,_,rfl,h4,λi k hk=>?_,λi k w hi hw=>?_,λi w xs l hi hr=>?_⟩
 ·obtain ⟨u,hu,hx⟩:=h5 i k hk
  exact ⟨u.1,by rw [<- h2',QS,hu]; rfl,hx⟩
 ·obtain ⟨u,hu,rfl⟩:=Gb h2' hw
  refine ⟨⟨oxs.set i u.1,ws,rfl,h2,h2',h3,by simp [h4],λi' k' hk'=>?_⟩,h.sl⟩
  by_cases e:i=i'
  ·subst e
   rw [QQ hi] at hk';obtain rfl:=Qp hk';exact ⟨u,hu,by rw [QQ (by omega)]⟩
  ·rw [QM e] at hk'
   obtain ⟨u',hu',hx'⟩:=h5 i' k' hk';exact ⟨u',hu',by rw [QM e]; exact hx'⟩
 ·refine ⟨⟨oxs.set i w,ws++[(w,xs)],?_,by simp [h2],by simp [h2'],λj u l' hu hl'=>?_,by simp [h4],λi' k' hk'=>?_⟩,h.sl⟩
  ·unfold rowsOf
   rw [TP h2]
   rfl
  ·rcases Sm j ls.length with hj | hj
   ·rw [RA (by omega)] at hu hl'
    exact h3 j u l' hu hl'
   ·rw [QX (by omega)] at hu hl'
    rw [h2] at hu;cases e:j-ls.length with
    | zero=>
     rw [e] at hu hl';obtain rfl:=Qp hu;obtain rfl:=Qp hl';exact hr
    | succ m=>rw [e] at hu; simp at hu
  ·by_cases e:i=i'
   ·subst e
    rw [QQ hi] at hk';obtain rfl:=Qp hk';exact ⟨(w,xs),by rw [QX (by omega),h2,RG]; rfl,by rw [QQ (by omega)]⟩
   ·rw [QM e] at hk'
    obtain ⟨u',hu',hx'⟩:=h5 i' k' hk';exact ⟨u',by rw [RA (Qo.1 hu').1]; exact hu',by rw [QM e]; exact hx'⟩
end
structure HL where
 mk ::
instance:aH HL where
 sz:=1
 E _ cs _:=cs=[.slice none 0 0]
 len h:=by rw [h]; rfl
 mono _ h:=h
 one h c hc:=by rw [h] at hc; simp at hc; subst hc; rfl
theorem Cc {H:Hp}:∀ {n:Nat}{xs:List Qj},qC H xs (List.replicate n HL.mk)->xs=List.replicate n (.slice none 0 0)
 | 0,xs,h=>h
 | n+1,xs,h=>by
  obtain ⟨cs,r,rfl,he,hr⟩:=h;have he:cs=[.slice none 0 0]:=he;rw [he,Cc hr]; rfl
section
variable {α:Type}[aH α] {T1 T2:TypeId}{H H':Hp}{v:Qj}{hs:List Qj}{mx:List bQ}{sg:List Nat}{ls:List (List α)}
theorem Mx.make {n:Nat}{oxs:List Qj} (h:Rw H v oxs (List.replicate n HL.mk)):Mx T1 T2 H v [.slice none 0 0] (.row v T1 1 (List.replicate n 0).length oxs::[.row (.slice none 0 0) T2 (aH.sz α) 0 []]) (List.replicate n 0) ([[]]:List (List α)):=by
 have hx:=Cc h.rd;refine ⟨⟨oxs,[(.slice none 0 0,[])],rfl,rfl,rfl,λk w l hw hl=>?_,by rw [hx]; simp,λi k hk=>?_⟩,h.sl⟩
 ·cases k with
  | zero=>
   obtain rfl:=Qp hw;obtain rfl:=Qp hl;exact Rw.nil
  | succ k=>simp at hw
 ·obtain ⟨hi,he⟩:=Qo.1 hk
  rw [List.getElem_replicate] at he;subst he;refine ⟨_,rfl,?_⟩;rw [hx,SZ,Qu (by simpa using hi)]
theorem BV {B:Nat}{w0 w:World}{M:List bQ} (hs:0<aH.sz α):∀ (ws:List (Qj×List Qj)) (ls:List (List α)) (H:Hp),ws.length=ls.length ->
  (∀ (k:Nat) (u:Qj×List Qj) (l:List α),ws[k]? = some u->ls[k]? = some l->Rw H u.1 u.2 l)->St B w0 H (rowsOf T2 (aH.sz α) ws ls++M) w ->
  ∃ H',H.le H'/\St B w0 H' M w/\∀ (k:Nat) (u:Qj×List Qj) (l:List α),ws[k]? = some u->ls[k]? = some l->aQ H' u.1 l
 | [],[],H,_,_,ht=>⟨H,Rh _,ht,λk u l hu _=>by simp at hu⟩
 | [],_::_,H,hl,_,_=>by simp at hl
 | _::_,[],H,hl,_,_=>by simp at hl
 | u::ws,l::ls,H,hl,hr,ht=>by
  have ht:St B w0 H (.row u.1 T2 (aH.sz α) l.length u.2::(rowsOf T2 (aH.sz α) ws ls++M)) w:=ht;obtain ⟨H1,h1,h2,h3⟩:=ht.we (hr 0 u l rfl rfl).rd hs;obtain ⟨H2,g1,g2,g3⟩:=BV hs ws ls H1 (by simpa using hl) (λk u' l' hu hl'=>(hr (k+1) u' l' (by simpa using hu) (by simpa using hl')).mono h1) h2
  refine ⟨H2,Uf h1 g1,g2,λk u' l' hu hl'=>?_⟩;cases k with
  | zero=>
   obtain rfl:=Qp hu;obtain rfl:=Qp hl';exact h3.mono g1
  | succ k=>exact g3 k u' l' (by simpa using hu) (by simpa using hl')
theorem Dj {H:Hp}:∀ (xs:List Qj) (l:List (List α)),xs.length=l.length->(∀ (i:Nat) (y:Qj) (e:List α),xs[i]? = some y->l[i]? = some e->aQ H y e)->qC H xs l
 | [],[],_,_=>rfl
 | [],_::_,h,_=>by simp at h
 | _::_,[],h,_=>by simp at h
 | y::xs,e::l,h,hr=>⟨[y],xs,rfl,⟨y,rfl,hr 0 y e rfl rfl⟩,Dj xs l (by simpa using h) (λi y' e' hy he=>hr (i+1) y' e' (by simpa using hy) (by simpa using he))⟩
def rM (sg:List Nat) (ls:List (List α)):List (List α):=sg.map λk=>(ls[k]?).getD []
theorem St.EX {B:Nat}{w0 w:World}{M:List bQ} (ht:St B w0 H (mx++M) w) (h:Mx T1 T2 H v hs mx sg ls) (h0:0<aH.sz α):∃ H',H.le H'/\St B w0 H' M w/\aQ H' v (rM sg ls):=by
 obtain ⟨oxs,ws,rfl,h2,_,h3,h4,h5⟩:=h.ex;have ht1:St B w0 H (rowsOf T2 (aH.sz α) ws ls++(.row v T1 1 sg.length oxs::M)) w:=ht.perm (by
  rw [SL];exact List.perm_middle.symm)
 obtain ⟨H1,g1,g2,g3⟩:=BV h0 ws ls H h2 h3 ht1;have hv:(rM sg ls).length=sg.length:=by unfold rM; simp
 have hrd:qC H1 oxs (rM sg ls):=Dj oxs _ (by rw [hv]; exact h4) (λi y e hy he=>by
  unfold rM at he;rw [QS] at he;cases hk:sg[i]? with
  | none=>rw [hk] at he; simp at he
  | some k=>
   rw [hk] at he;obtain ⟨u,hu,hx⟩:=h5 i k hk;rw [hy] at hx;obtain rfl:=Qp hx;have hkl:k<ls.length:=by rw [<- h2]; exact (Qo.1 hu).1
   have hl:=Ql hkl;simp only [RR,QH] at he;rw [hl,Sp] at he;rw [<- he];exact g3 k u _ hu hl)
 have g2':St B w0 H1 (.row v T1 (aH.sz (List α)) sg.length oxs::M) w:=g2;obtain ⟨H2,k1,k2,k3⟩:=g2'.we hrd Nat.one_pos;exact ⟨H2,Uf g1 k1,k2,k3⟩
end
section
variable {x:Cx}{ops:Array Oper}{Q:lZ}{rest:List Oper}{H:Hp}{M:List bQ}{L:Env}
theorem FN {α:Type}[aH α] {T1 T2:TypeId}{v:Qj}{hs:List Qj}{mx:List bQ}{sg:List Nat}{ls:List (List α)} (h:Mx T1 T2 H v hs mx sg ls) (h0:Nat.blt 0 (aH.sz α)=true)
  (k:∀ H',H.le H'->aQ H' v (rM sg ls)->W x ops Q rest H' M L):W x ops Q rest H (mx++M) L:=by
 intro a w hsl ht;obtain ⟨H',h1,h2,h3⟩:=St.EX ht h (by simpa [Rv] using h0)
 exact k H' h1 h3 a w hsl h2
variable {d:Nat}{ty:TypeId}{pos:String}{aft:Array Edge}{g:Option (Nat×Bool)}
theorem sV (pre m1 m2 M0:List bQ) (r:bQ):(pre++((m1++r::m2)++M0)).Perm (r::(pre++((m1++m2)++M0))):=by
 have h1:(pre++((m1++r::m2)++M0))=(pre++m1)++r::(m2++M0):=by simp
 have h2:(r::(pre++((m1++m2)++M0)))=r::((pre++m1)++(m2++M0)):=by simp
 rw [h1,h2];exact List.perm_middle
theorem Mx.get {α:Type}[aH α] {T1 T2:TypeId}{v:Qj}{hs:List Qj}{mx:List bQ}{sg:List Nat}{ls:List (List α)} (h:Mx T1 T2 H v hs mx sg ls) {k:Nat}{w:Qj} (hw:hs[k]? = some w):
  ∃ xs:List Qj,bQ.row w T2 (aH.sz α) ((ls[k]?).getD []).length xs ∈ mx/\Rw H w xs ((ls[k]?).getD []):=by
 obtain ⟨xs,m1,m2,_,he,hr,_⟩:=h.row hw;exact ⟨xs,by rw [he]; exact Rp _ (Qq ..),hr⟩
theorem tc {α:Type}[aH α] {T1 T2 T:TypeId}{m:Nat}{y z:Operand}{v u w:Qj}{ad:Addr}{hs cs:List Qj}{pre mx:List bQ}{sg:List Nat}{ls:List (List α)}{k j:Nat}{e2:α}
  (h:Mx T1 T2 H v hs mx sg ls) (hx:hs[k]? = some w) (hj:j<((ls[k]?).getD []).length) (hE:aH.E H cs e2)
  (hg:gd ops L ⟨none,.store T y z,ty,pos,aft,g⟩=some true) (hn:∀ w,(sizeOf T).run x.P w=.ok m w) (hm:m=aH.sz α) (h0:Nat.blt 0 (aH.sz α)=true)
  (hy:ev L y=some (.pointer (some ad))) (had:ad=(Value.base w).add (j*aH.sz α)) (hz:ev L z=some u) (hv:u.cells=cs.toArray)
  (kk:∀ mx',Mx T1 T2 H v hs mx' sg (ls.set k (((ls[k]?).getD []).set j e2))->W x ops Q rest H (pre++(mx'++M)) L):
  W x ops Q (⟨none,.store T y z,ty,pos,aft,g⟩::rest) H (pre++(mx++M)) L:=by
 obtain ⟨xs,m1,m2,hk,rfl,hr,hup⟩:=h.row hx;have hcl:=aH.len hE;have hs':0<aH.sz α:=by simpa [Rv] using h0
 have he:=Ql hj;obtain ⟨c,hc,hgc⟩:=hr.elem he;have hccl:=aH.len hc;have ho:over c 0 cs=cs:=by
  rw [wX cs c 0 (by omega),UX,R2,List.drop_eq_nil_of_le (by omega),Q5]
 obtain ⟨p1,_,_⟩:=Rw.put (k:=j) (o:=0) (e2:=e2) hr he hc hgc (by simp [Tb]; omega) ho hE
 have hroom:j*aH.sz α+cs.length<=xs.length:=by
  have hlen:=hr.rd.len;have:(j+1)*aH.sz α<=((ls[k]?).getD []).length*aH.sz α:=QF _ hj;rw [QK,Ug] at this;omega
 refine kQ (sV pre m1 m2 M _) ?_;refine xu (i:=j*aH.sz α) (cs:=cs) hg hn hy had hz hv (by omega) hroom (by simp [Rv]; omega) (aH.one hE) ?_
 have h2:=hup H _ _ (Rh _) p1;rw [RH,RV] at h2;refine kQ (sV pre m1 m2 M _).symm ?_;exact kk _ h2
theorem GZ {α:Type}[aH α] {T1 T2 T:TypeId}{y z:Operand}{v w:Qj}{ad:Addr}{hs:List Qj}{pre mx:List bQ}{sg:List Nat}{ls:List (List α)}{i k:Nat}
  (h:Mx T1 T2 H v hs mx sg ls) (hi:i<sg.length) (hx:hs[k]? = some w)
  (hg:gd ops L ⟨none,.store T y z,ty,pos,aft,g⟩=some true) (hn:∀ w,(sizeOf T).run x.P w=.ok 1 w)
  (hy:ev L y=some (.pointer (some ad))) (had:ad=(Value.base v).add (i*1)) (hz:ev L z=some w)
  (kk:∀ mx',Mx T1 T2 H v hs mx' (sg.set i k) ls->W x ops Q rest H (pre++(mx'++M)) L):
  W x ops Q (⟨none,.store T y z,ty,pos,aft,g⟩::rest) H (pre++(mx++M)) L:=by
 obtain ⟨_,_,_,_,_,hr,_⟩:=h.row hx;obtain ⟨oxs,m2,rfl,hl,_,hput,_⟩:=h.outer;refine kQ (sV pre [] m2 M _) ?_;refine xu (i:=i*1) (cs:=[w]) hg hn hy had hz hr.cells rfl (by simp; omega) rfl (λc hc=>by simp at hc; subst hc; exact hr.one) ?_
 have h2:=hput i k w hi hx;rw [RH] at h2;have e:over oxs (i*1) [w]=oxs.set i w:=by rw [S9]; rfl
 rw [e];refine kQ (sV pre [] m2 M _).symm ?_;exact kk _ h2
theorem Dw {α:Type}[aH α] {T1 T2 T:TypeId}{y z:Operand}{v w:Qj}{ad:Addr}{hs xs:List Qj}{pre mx:List bQ}{sg:List Nat}{ls:List (List α)}{l:List α}{i:Nat}
  (h:Mx T1 T2 H v hs mx sg ls) (hi:i<sg.length) (hr:Rw H w xs l)
  (hg:gd ops L ⟨none,.store T y z,ty,pos,aft,g⟩=some true) (hn:∀ w,(sizeOf T).run x.P w=.ok 1 w)
  (hy:ev L y=some (.pointer (some ad))) (had:ad=(Value.base v).add (i*1)) (hz:ev L z=some w)
  (kk:∀ mx',Mx T1 T2 H v (hs++[w]) mx' (sg.set i ls.length) (ls++[l])->W x ops Q rest H (pre++(mx'++M)) L):
  W x ops Q (⟨none,.store T y z,ty,pos,aft,g⟩::rest) H (.row w T2 (aH.sz α) l.length xs::(pre++(mx++M))) L:=by
 obtain ⟨oxs,m2,rfl,hl,_,_,hadd⟩:=h.outer;have p1:(bQ.row w T2 (aH.sz α) l.length xs::(pre++((.row v T1 1 sg.length oxs::m2)++M))).Perm (.row v T1 1 sg.length oxs::(.row w T2 (aH.sz α) l.length xs::(pre++(m2++M)))):=
  ((sV pre [] m2 M _).cons _).trans (List.Perm.swap _ _ _)
 refine kQ p1 ?_;refine xu (i:=i*1) (cs:=[w]) hg hn hy had hz hr.cells rfl (by simp; omega) rfl (λc hc=>by simp at hc; subst hc; exact hr.one) ?_
 have h2:=hadd i w xs l hi hr;rw [RH] at h2;have e:over oxs (i*1) [w]=oxs.set i w:=by rw [S9]; rfl
 rw [e];have p2:(bQ.row v T1 1 sg.length (oxs.set i w)::(.row w T2 (aH.sz α) l.length xs::(pre++(m2++M)))).Perm (pre++((.row v T1 1 sg.length (oxs.set i w)::(m2++[.row w T2 (aH.sz α) l.length xs]))++M)):=by
  refine (sV pre [] (m2++[.row w T2 (aH.sz α) l.length xs]) M _).trans ?_ |>.symm;refine List.Perm.cons _ ?_;have:=sV pre m2 [] M (.row w T2 (aH.sz α) l.length xs);simpa using this
 refine kQ p2 ?_;exact kk _ h2
def uf (sz n:Nat):Qj->Qj
 | .slice (some ⟨b,off,sp⟩) len cap=>.slice (some ⟨b,if cap=n then off else off+n*sz,sp⟩) (len-n) (cap-n)
 | y=>y
theorem jM.sub {w:World}{T:TypeId}{sz n m:Nat}{v:Qj}{xs:List Qj} (h:jM w T sz v n xs) (hm:m<=n):jM w T sz (uf sz m v) (n-m) (xs.drop (m*sz)):=by
 obtain ⟨hl,hh⟩:=h;refine ⟨by rw [RX,hl,Nat.sub_mul],?_⟩
 rcases hh with ⟨rfl,h0⟩ | ⟨gb,off,cap,cur,rfl,hg,hnc,hcm,hcs,htake⟩
 ·exact .inl ⟨rfl,by omega⟩
 ·have h1:m*sz+(cap-m)*sz=cap*sz:=by rw [<- QK,Nat.add_sub_cancel' (by omega)]
  have h2:m*sz+(n-m)*sz=n*sz:=by rw [<- QK,Nat.add_sub_cancel' hm]
  by_cases hc:cap=m
  ·have hnm:n=m:=by omega
   refine .inr ⟨gb,off,cap-m,cur,by show Value.slice (some ⟨gb,if cap=m then off else off+m*sz,none⟩) _ _=_; rw [Qu hc],hg,by omega,by omega,by omega,?_⟩
   rw [<- htake,SW,hnm,RG,RG,RW,UX,UX]
  ·refine .inr ⟨gb,off+m*sz,cap-m,cur,by show Value.slice (some ⟨gb,if cap=m then off else off+m*sz,none⟩) _ _=_; rw [Qs hc],hg,by omega,by omega,by omega,?_⟩
   rw [<- htake,SW,Sa]
   congr 1
   omega
theorem IS {sz m:Nat} (v:Qj):(uf sz m v).ownBlock=v.ownBlock:=by
 unfold uf
 split
 ·rename_i b off sp len cap
  cases sp <;> rfl
 ·rfl
theorem St.same {B:Nat}{w0 w:World}{r r':bQ} (h:St B w0 H (r::M) w) (hok:r'.ok w) (hf:r'.uT=r.uT):St B w0 H (r'::M) w:=by
 refine ⟨h.below,h.le,h.uJ,λs hs=>?_,λs hs b hb=>?_,?_⟩
 ·rcases Q8.1 hs with rfl | hs
  ·exact hok
  ·exact h.ok s (Qw _ hs)
 ·rcases Q8.1 hs with rfl | hs
  ·exact h.lo r (Qq ..) b (by rw [<- hf]; exact hb)
  ·exact h.lo s (Qw _ hs) b hb
 ·have:=h.nd
  simp only [RF,hf] at this ⊢;exact this
theorem Rw.sub {α:Type}[aH α] {v:Qj}{xs:List Qj}{l:List α} (h:Rw H v xs l) {m:Nat} (hm:m<=l.length):Rw H (uf (aH.sz α) m v) (xs.drop (m*aH.sz α)) (l.drop m):=by
 refine ⟨?_,?_⟩
 ·have key:∀ (m:Nat) (xs:List Qj) (l:List α),qC H xs l->m<=l.length->qC H (xs.drop (m*aH.sz α)) (l.drop m):=by
   intro m
   induction m with
   | zero=>intro xs l h _; simpa using h
   | succ m ih=>
    intro xs l h hm;cases l with
    | nil=>simp at hm
    | cons e l=>
     obtain ⟨c,r,rfl,he,hr⟩:=h;have hc:=aH.len he;rw [Vq,QK,Ug,S8,<- Sa,<- hc,List.drop_left,hc];exact ih r l hr (by simpa using hm)
  exact key m xs l h.rd hm
 ·obtain ⟨a,n,c,rfl⟩:=h.sl
  cases a with
  | none=>exact ⟨_,_,_,rfl⟩
  | some ad=>obtain ⟨b,off,sp⟩:=ad; exact ⟨_,_,_,rfl⟩
theorem Lc {α:Type}[aH α] {T1 T2 T:TypeId}{y z:Operand}{v w:Qj}{ad:Addr}{hs:List Qj}{pre mx:List bQ}{sg:List Nat}{ls:List (List α)}{i k n:Nat}
  (h:Mx T1 T2 H v hs mx sg ls) (hi:i<sg.length) (hx:hs[k]? = some w) (hn':n<=((ls[k]?).getD []).length) (hone:∀ j:Nat,sg[j]? = some k->j=i)
  (hg:gd ops L ⟨none,.store T y z,ty,pos,aft,g⟩=some true) (hn:∀ w,(sizeOf T).run x.P w=.ok 1 w)
  (hy:ev L y=some (.pointer (some ad))) (had:ad=(Value.base v).add (i*1)) (hz:ev L z=some (uf (aH.sz α) n w))
  (kk:∀ mx',Mx T1 T2 H v (hs.set k (uf (aH.sz α) n w)) mx' (sg.set i k) (ls.set k (((ls[k]?).getD []).drop n))->W x ops Q rest H (pre++(mx'++M)) L):
  W x ops Q (⟨none,.store T y z,ty,pos,aft,g⟩::rest) H (pre++(mx++M)) L:=by
 obtain ⟨oxs,ws,rfl,h2,h2',h3,h4,h5⟩:=h.ex;obtain ⟨u,hu,rfl⟩:=Gb h2' hx;have hkw:k<ws.length:=(Qo.1 hu).1;have hk:k<ls.length:=by omega
 have hl:=Ql hk;have hwe:ws[k]=u:=by rw [Ql hkw] at hu; exact Qp hu
 have hgd:(ls[k]?).getD []=ls[k]:=by rw [hl]; rfl
 rw [hgd] at hn' kk;have hr:=h3 k u _ hu hl;have hrs:=hr.sub hn';have hsp:∀ (ws:List (Qj×List Qj)) (ls:List (List α)) (h1:k<ws.length) (h2:k<ls.length),rowsOf T2 (aH.sz α) ws ls=rowsOf T2 (aH.sz α) (ws.take k) (ls.take k)++.row ws[k].1 T2 (aH.sz α) ls[k].length ws[k].2::rowsOf T2 (aH.sz α) (ws.drop (k+1)) (ls.drop (k+1)):=λws ls h1 h2=>by
  have e1:ws=ws.take k++ws[k]::ws.drop (k+1):=by rw [<- QV h1,RP]
  have e2:ls=ls.take k++ls[k]::ls.drop (k+1):=by rw [<- QV h2,RP]
  have e3:rowsOf T2 (aH.sz α) ws ls=rowsOf T2 (aH.sz α) (ws.take k++ws[k]::ws.drop (k+1)) (ls.take k++ls[k]::ls.drop (k+1)):=by rw [<- e1,<- e2]
  rw [e3];unfold rowsOf;rw [TP (by simp; omega)]
  rfl
 generalize hA:rowsOf T2 (aH.sz α) (ws.take k) (ls.take k)=A at hsp;generalize hB:rowsOf T2 (aH.sz α) (ws.drop (k+1)) (ls.drop (k+1))=Bq at hsp;have hrows:rowsOf T2 (aH.sz α) ws ls=A++.row u.1 T2 (aH.sz α) ls[k].length u.2::Bq:=by
  rw [<- hA,<- hB];have e1:ws=ws.take k++ws[k]::ws.drop (k+1):=by rw [<- QV hkw,RP]
  have e2:ls=ls.take k++ls[k]::ls.drop (k+1):=by rw [<- QV hk,RP]
  have e3:rowsOf T2 (aH.sz α) ws ls=rowsOf T2 (aH.sz α) (ws.take k++ws[k]::ws.drop (k+1)) (ls.take k++ls[k]::ls.drop (k+1)):=by rw [<- e1,<- e2]
  rw [e3];unfold rowsOf;rw [TP (by simp; omega),<- hwe]
  rfl
 have hrows2:rowsOf T2 (aH.sz α) (ws.set k (uf (aH.sz α) n u.1,u.2.drop (n*aH.sz α))) (ls.set k (ls[k].drop n))=A++.row (uf (aH.sz α) n u.1) T2 (aH.sz α) (ls[k].drop n).length (u.2.drop (n*aH.sz α))::Bq:=by
  rw [<- hA,<- hB];have e1:ws.set k (uf (aH.sz α) n u.1,u.2.drop (n*aH.sz α))=ws.take k++(uf (aH.sz α) n u.1,u.2.drop (n*aH.sz α))::ws.drop (k+1):=by rw [TG,Qu hkw]
  have e2:ls.set k (ls[k].drop n)=ls.take k++ls[k].drop n::ls.drop (k+1):=by rw [TG,Qu hk]
  rw [e1,e2];unfold rowsOf;rw [TP (by simp; omega)]
  rfl
 have hnew:Mx T1 T2 H v (hs.set k (uf (aH.sz α) n u.1)) (.row v T1 1 (sg.set i k).length (oxs.set i (uf (aH.sz α) n u.1))::rowsOf T2 (aH.sz α) (ws.set k (uf (aH.sz α) n u.1,u.2.drop (n*aH.sz α))) (ls.set k (ls[k].drop n))) (sg.set i k) (ls.set k (ls[k].drop n)):=by
  refine ⟨⟨_,_,rfl,by simp [h2],by rw [List.map_set,h2'],λj u' l' hu' hl'=>?_,by simp [h4],λi' k' hk'=>?_⟩,h.sl⟩
  ·by_cases e:k=j
   ·subst e
    rw [QQ hkw] at hu';rw [QQ hk] at hl';obtain rfl:=Qp hu';obtain rfl:=Qp hl';exact hrs
   ·rw [QM e] at hu' hl'
    exact h3 j u' l' hu' hl'
  ·by_cases e:i=i'
   ·subst e
    rw [QQ hi] at hk';obtain rfl:=Qp hk';exact ⟨_,by rw [QQ hkw],by rw [QQ (by omega)]⟩
   ·rw [QM e] at hk'
    obtain ⟨u',hu',hx'⟩:=h5 i' k' hk';have hne:k≠k':=λe2=>by subst e2; exact e (hone i' hk').symm
    exact ⟨u',by rw [QM hne]; exact hu',by rw [QM e]; exact hx'⟩
 refine kQ (sV pre [] (rowsOf T2 (aH.sz α) ws ls) M _) ?_;refine xu (i:=i*1) (cs:=[uf (aH.sz α) n u.1]) hg hn hy had hz hrs.cells rfl (by simp; omega) rfl (λc hc=>by simp at hc; subst hc; exact hrs.one) ?_
 have e:over oxs (i*1) [uf (aH.sz α) n u.1]=oxs.set i (uf (aH.sz α) n u.1):=by rw [S9]; rfl
 rw [e];refine kQ (sV pre [] (rowsOf T2 (aH.sz α) ws ls) M _).symm ?_;rw [R2,hrows];have p1:(pre++((.row v T1 1 sg.length (oxs.set i (uf (aH.sz α) n u.1))::(A++.row u.1 T2 (aH.sz α) ls[k].length u.2::Bq))++M)).Perm (.row u.1 T2 (aH.sz α) ls[k].length u.2::(pre++(((.row v T1 1 sg.length (oxs.set i (uf (aH.sz α) n u.1))::A)++Bq)++M))):=
  sV pre (.row v T1 1 sg.length (oxs.set i (uf (aH.sz α) n u.1))::A) Bq M _
 refine kQ p1 ?_;intro a w0' hsl ht;have hok:=ht.ok _ (Qq ..);have hs2:St x.B x.w0 H (.row (uf (aH.sz α) n u.1) T2 (aH.sz α) (ls[k].drop n).length (u.2.drop (n*aH.sz α))::(pre++(((.row v T1 1 sg.length (oxs.set i (uf (aH.sz α) n u.1))::A)++Bq)++M))) w0':=by
  refine ht.same ?_ (Q6 Option.toList (IS u.1));have h1:jM w0' T2 (aH.sz α) u.1 ls[k].length u.2:=hok;have:=h1.sub hn';rw [<- RX] at this;exact this
 have p2:=(sV pre (.row v T1 1 sg.length (oxs.set i (uf (aH.sz α) n u.1))::A) Bq M (.row (uf (aH.sz α) n u.1) T2 (aH.sz α) (ls[k].drop n).length (u.2.drop (n*aH.sz α)))).symm;refine kk _ hnew a w0' hsl ?_;rw [hrows2,RH];exact hs2.perm p2
theorem Jn {α:Type}[aH α] {T2 t e:TypeId}{y lo:Operand}{w:Qj}{xs:List Qj}{l:List α}{n:Nat}{kk:IntKind}
  (hm:bQ.row w T2 (aH.sz α) l.length xs ∈ M) (hn:n<=l.length)
  (hg:gd ops L ⟨some d,.slice t y (some lo) none none,ty,pos,aft,g⟩=some true) (hN:Nat.blt d x.N=true)
  (hT:∀ w,(underlying t).run x.P w=.ok (.slice e) w) (hs:∀ w,(sizeOf e).run x.P w=.ok (aH.sz α) w) (hy:ev L y=some w) (hlo:ev L lo=some (.int kk (n:Int)))
  (k:W x ops Q rest H M ((d,uf (aH.sz α) n w)::L)):
  W x ops Q (⟨some d,.slice t y (some lo) none none,ty,pos,aft,g⟩::rest) H M L:=by
 intro a w0' hsl ht;have hok:jM w0' T2 (aH.sz α) w l.length xs:=ht.ok _ hm;rcases hok.2 with ⟨rfl,h0⟩ | ⟨gb,off,cap,cur,rfl,_,hnc,_⟩
 ·obtain rfl:n=0:=by omega
  exact tN (m:=0) (h:=0) (l:=0) hg hN hT hs hy (.inl rfl) (.inl ⟨rfl,rfl⟩) (.inl ⟨rfl,rfl⟩) (.inr ⟨lo,kk,_,rfl,hlo,S6 _,S6 _,rfl⟩) rfl k a w0' hsl ht
 ·refine tN (m:=cap) (h:=l.length) (l:=n) hg hN hT hs hy (.inl rfl) (.inl ⟨rfl,rfl⟩) (.inl ⟨rfl,rfl⟩) (.inr ⟨lo,kk,_,rfl,hlo,by omega,by omega,by omega⟩) ?_ k a w0' hsl ht
  show _=Value.slice (some ⟨gb,if cap=n then off else off+n*aH.sz α,none⟩) (l.length-n) (cap-n)
  by_cases hc:cap=n
  ·rw [Qu hc,Qu hc]
  ·rw [Qs hc,Qs hc]
   rw [RR,Ru]
end
theorem D3 (pre os mx M:List bQ):(pre++(mx++(os++M))).Perm (pre++(os++(mx++M))):=
 SI pre (List.perm_append_comm_assoc mx os M)
theorem Ca (pre mx M:List bQ):(pre++(mx++M)).Perm (mx++(pre++M)):=List.perm_append_comm_assoc pre mx M
def lone (sg:List Nat) (i k:Nat):Bool:=(List.range sg.length).all λj=>sg[j]? != some k || j == i
theorem Iv {sg:List Nat}{i k:Nat} (h:lone sg i k=true) (j:Nat) (hj:sg[j]? = some k):j=i:=by
 unfold lone at h;rw [Rz] at h;have hl:=(Qo.1 hj).1;have:=h j (by simpa using hl)
 rw [hj] at this;simpa using this
theorem LH {sg:List Nat}{i k:Nat} (h:∀ j,sg[j]? = some k->j=i):lone sg i k=true:=by
 unfold lone;rw [Rz];intro j hj
 by_cases e:sg[j]? = some k
 ·simp [h j e]
 ·simp [e]
section
variable {x:Cx}{ops:Array Oper}{Q:lZ}{rest:List Oper}{H:Hp}{M:List bQ}{L:Env}{d:Nat}{ty:TypeId}{pos:String}{aft:Array Edge}{g:Option (Nat×Bool)}
variable {α:Type}[aH α] {T1 T2:TypeId}{v:Qj}{hs:List Qj}{mx:List bQ}{sg:List Nat}{ls:List (List α)}
theorem xW {t e:TypeId}{y:Operand} (h:Mx T1 T2 H v hs mx sg ls) (hsub:∀ s ∈ mx,s ∈ M) (hg:gd ops L ⟨some d,.call ⟨.builtin .len,#[y],#[t]⟩,ty,pos,aft,g⟩=some true) (hN:Nat.blt d x.N=true)
  (hT:∀ w,(underlying t).run x.P w=.ok (.slice e) w) (hy:ev L y=some v) (k:W x ops Q rest H M ((d,.int .i64 (sg.length:Int))::L)):
  W x ops Q (⟨some d,.call ⟨.builtin .len,#[y],#[t]⟩,ty,pos,aft,g⟩::rest) H M L:=by
 obtain ⟨oxs,m2,he,_⟩:=h.outer;exact Bv (hsub _ (by rw [he]; exact Qq ..)) hg hN hT hy k
theorem eN {t e:TypeId}{y z:Operand}{kk:IntKind}{i:Int}{p:Nat} (h:Mx T1 T2 H v hs mx sg ls) (hsub:∀ s ∈ mx,s ∈ M)
  (hg:gd ops L ⟨some d,.indexAddr t y z,ty,pos,aft,g⟩=some true) (hN:Nat.blt d x.N=true)
  (hT:∀ w,(underlying t).run x.P w=.ok (.slice e) w) (hsz:∀ w,(sizeOf e).run x.P w=.ok 1 w)
  (hy:ev L y=some v) (hz:ev L z=some (.int kk i)) (h0:0<=i) (h1:sg[i.toNat]? = some p)
  (k:W x ops Q rest H M ((d,.pointer (some ((Value.base v).add (i.toNat*1))))::L)):
  W x ops Q (⟨some d,.indexAddr t y z,ty,pos,aft,g⟩::rest) H M L:=by
 obtain ⟨oxs,m2,he,_⟩:=h.outer;exact y7 (hsub _ (by rw [he]; exact Qq ..)) hg hN hT hsz hy hz h0 (Qo.1 h1).1 k
theorem jD {T:TypeId}{y:Operand}{ad:Addr}{i p:Nat} (h:Mx T1 T2 H v hs mx sg ls) (hsub:∀ s ∈ mx,s ∈ M) (h1:sg[i]? = some p)
  (hg:gd ops L ⟨some d,.load T y,ty,pos,aft,g⟩=some true) (hN:Nat.blt d x.N=true)
  (hT:∀ w,(isAgg T).run x.P w=.ok false w) (hy:ev L y=some (.pointer (some ad))) (had:ad=(Value.base v).add (i*1))
  (k:∀ w,hs[p]? = some w->W x ops Q rest H M ((d,w)::L)):W x ops Q (⟨some d,.load T y,ty,pos,aft,g⟩::rest) H M L:=by
 obtain ⟨oxs,m2,he,_,hget,_⟩:=h.outer;obtain ⟨w,hw,hx⟩:=hget i p h1;subst had;refine qI hg hN hT hy (Cs (hsub _ (by rw [he]; exact Qq ..)) ?_) (k w hw)
 rw [S9]; exact hx
theorem GX {t e:TypeId}{y:Operand}{w:Qj}{p:Nat} (h:Mx T1 T2 H v hs mx sg ls) (hsub:∀ s ∈ mx,s ∈ M) (hw:hs[p]? = some w) (hg:gd ops L ⟨some d,.call ⟨.builtin .len,#[y],#[t]⟩,ty,pos,aft,g⟩=some true) (hN:Nat.blt d x.N=true)
  (hT:∀ w,(underlying t).run x.P w=.ok (.slice e) w) (hy:ev L y=some w) (k:W x ops Q rest H M ((d,.int .i64 (((ls[p]?).getD []).length:Int))::L)):
  W x ops Q (⟨some d,.call ⟨.builtin .len,#[y],#[t]⟩,ty,pos,aft,g⟩::rest) H M L:=by
 obtain ⟨xs,hm,_⟩:=h.get hw;exact Bv (hsub _ hm) hg hN hT hy k
theorem kA {t e:TypeId}{y z:Operand}{kk:IntKind}{j:Int}{w:Qj}{p n:Nat}{a:α} (h:Mx T1 T2 H v hs mx sg ls) (hsub:∀ s ∈ mx,s ∈ M) (hw:hs[p]? = some w)
  (hg:gd ops L ⟨some d,.indexAddr t y z,ty,pos,aft,g⟩=some true) (hN:Nat.blt d x.N=true)
  (hT:∀ w,(underlying t).run x.P w=.ok (.slice e) w) (hsz:∀ w,(sizeOf e).run x.P w=.ok n w) (hn:n=aH.sz α)
  (hy:ev L y=some w) (hz:ev L z=some (.int kk j)) (h0:0<=j) (h1:((ls[p]?).getD [])[j.toNat]? = some a)
  (k:W x ops Q rest H M ((d,.pointer (some ((Value.base w).add (j.toNat*aH.sz α))))::L)):
  W x ops Q (⟨some d,.indexAddr t y z,ty,pos,aft,g⟩::rest) H M L:=by
 subst hn;obtain ⟨xs,hm,_⟩:=h.get hw;exact y7 (hsub _ hm) hg hN hT hsz hy hz h0 (Qo.1 h1).1 k
theorem qw {T:TypeId}{y:Operand}{ad:Addr}{w:Qj}{p j n:Nat}{a:α} (h:Mx T1 T2 H v hs mx sg ls) (hsub:∀ s ∈ mx,s ∈ M) (hw:hs[p]? = some w) (h1:((ls[p]?).getD [])[j]? = some a)
  (hg:gd ops L ⟨some d,.load T y,ty,pos,aft,g⟩=some true) (hN:Nat.blt d x.N=true)
  (hT:∀ w,(isAgg T).run x.P w=.ok true w) (hn:∀ w,(sizeOf T).run x.P w=.ok n w) (hn':n=aH.sz α) (hy:ev L y=some (.pointer (some ad))) (had:ad=(Value.base w).add (j*aH.sz α))
  (k:∀ cs,aH.E H cs a->W x ops Q rest H M ((d,.agg cs.toArray)::L)):W x ops Q (⟨some d,.load T y,ty,pos,aft,g⟩::rest) H M L:=by
 subst hn';subst had;obtain ⟨xs,hm,hr⟩:=h.get hw;obtain ⟨c,hE,hc⟩:=hr.elem h1;exact iW hg hN hT hn hy (x_ (hsub _ hm) hc) (aH.len hE) (k c hE)
theorem Jm {t e:TypeId}{y lo:Operand}{w:Qj}{p n:Nat}{j:Int}{kk:IntKind} (h:Mx T1 T2 H v hs mx sg ls) (hsub:∀ s ∈ mx,s ∈ M) (hw:hs[p]? = some w) (h0:0<=j) (h1:j<=(((ls[p]?).getD []).length:Int))
  (hg:gd ops L ⟨some d,.slice t y (some lo) none none,ty,pos,aft,g⟩=some true) (hN:Nat.blt d x.N=true)
  (hT:∀ w,(underlying t).run x.P w=.ok (.slice e) w) (hsz:∀ w,(sizeOf e).run x.P w=.ok n w) (hn:n=aH.sz α) (hy:ev L y=some w) (hlo:ev L lo=some (.int kk j))
  (k:W x ops Q rest H M ((d,uf (aH.sz α) j.toNat w)::L)):
  W x ops Q (⟨some d,.slice t y (some lo) none none,ty,pos,aft,g⟩::rest) H M L:=by
 subst hn;obtain ⟨xs,hm,hr⟩:=h.get hw;exact Jn (l:=(ls[p]?).getD []) (n:=j.toNat) (hsub _ hm) (by omega) hg hN hT hsz hy (by rw [hlo,TL h0]) k
theorem AB {pre:List bQ} (h:Mx T1 T2 H v hs mx sg ls) (h0:Nat.blt 0 (aH.sz α)=true)
  (k:∀ H',H.le H'->aQ H' v (rM sg ls)->W x ops Q rest H' (pre++M) L):W x ops Q rest H (pre++(mx++M)) L:=
 kQ (Ca pre mx M) (FN h h0 k)
theorem Az {e:Exit}{pre:List bQ} (h:Mx T1 T2 H v hs mx sg ls) (h0:Nat.blt 0 (aH.sz α)=true)
  (k:∀ H',H.le H'->aQ H' v (rM sg ls)->E x e Q H' (pre++M) L):E x e Q H (pre++(mx++M)) L:=by
 refine FJ (Ca pre mx M) ?_;intro a w hsl ht;obtain ⟨H',h1,h2,h3⟩:=St.EX ht h (by simpa [Rv] using h0)
 exact k H' h1 h3 a w hsl h2
theorem By {t e:TypeId}{bytes:Nat}{y y2:Operand}{n:Int}{pre:List bQ} (T2:TypeId) (α:Type) [aH α]
  (hg:gd ops L ⟨some d,.makeSlice t y y2,ty,pos,aft,g⟩=some true) (hN:Nat.blt d x.N=true)
  (hT:x.P.underlying t=some (.slice e)) (hi:NZ x.P e 1 bytes (.slice none 0 0)) (hb0:Nat.blt 0 bytes=true)
  (hy:ev L y=some (.int .i64 n)) (hy2:ev L y2=some (.int .i64 n)) (h0:0<=n) (hb:n*bytes<=140737488355328)
  (k:∀ v' mx',Mx e T2 H v' [.slice none 0 0] mx' (List.replicate n.toNat 0) ([[]]:List (List α))->W x ops Q rest H (pre++(mx'++M)) ((d,v')::L)):
  W x ops Q (⟨some d,.makeSlice t y y2,ty,pos,aft,g⟩::rest) H (pre++M) L:=by
 refine fJ (α:=HL) (zs:=[.slice none 0 0]) (ze:=HL.mk) hg hN hT hi rfl rfl hb0 rfl hy hy2 h0 hb ?_;intro v' xs' hr;refine y8 T2 (aH.sz α) ?_;have hm:=Mx.make (α:=α) (T1:=e) (T2:=T2) hr;refine kQ (M':=pre++((.row v' e 1 (List.replicate n.toNat 0).length xs'::[.row (.slice none 0 0) T2 (aH.sz α) 0 []])++M)) ?_ (k v' _ hm);have e1:(List.replicate n.toNat HL.mk).length=(List.replicate n.toNat 0).length:=by simp
 rw [e1];refine (List.Perm.swap _ _ _).trans ?_;exact (Ca pre [.row v' e 1 (List.replicate n.toNat 0).length xs',.row (.slice none 0 0) T2 (aH.sz α) 0 []] M).symm
end
def Lt:List Int:=[1,10,100,1000,10000,100000,1000000,10000000,100000000,1000000000,10000000000,100000000000,1000000000000,10000000000000,100000000000000,1000000000000000,10000000000000000,100000000000000000,1000000000000000000,10000000000000000000]
def Ni:List Int:=[0,1,28,2,29,14,24,3,30,22,20,15,25,17,4,8,31,27,13,23,21,19,16,7,26,12,18,6,11,5,10,9]
def Nj:List Int:=[0,1,56,2,57,49,28,3,61,58,42,50,38,29,17,4,62,47,59,36,45,43,51,22,53,39,33,30,24,18,12,5,63,55,48,27,60,41,37,16,46,35,44,21,52,32,23,11,54,26,40,15,34,20,31,10,25,14,19,9,13,8,7,6]
structure aV where
 Name:Qi
 A:Qi
 B_:Qi
 um:Bool
 Open:Bool
 deriving DecidableEq
instance:aH aV where
 sz:=5
 E H cs x:=cs=[.string (x.Name),.string (x.A),.string (x.B_),.bool (x.um),.bool (x.Open)]
 len h:=by obtain rfl:=h; rfl
 mono hle h:=by obtain rfl:=h; exact rfl
 one h:=by obtain rfl:=h; exact (cO rfl (cO rfl (cO rfl (cO rfl (cO rfl Sb)))))
instance:Flat aV:=⟨λh=>h⟩
structure aP where
 Name:Qi
 pI:Qi
 To:Qi
 X:Int
 AZ:Int
 Shift:Int
 sC:Int
 vZ:Int
 Bh:Int
 deriving DecidableEq
instance:aH aP where
 sz:=9
 E H cs x:=cs=[.string (x.Name),.string (x.pI),.string (x.To),.int .i64 (x.X),.int .i64 (x.AZ),.int .i64 (x.Shift),.int .i64 (x.sC),.int .i64 (x.vZ),.int .i64 (x.Bh)]
 len h:=by obtain rfl:=h; rfl
 mono hle h:=by obtain rfl:=h; exact rfl
 one h:=by obtain rfl:=h; exact (cO rfl (cO rfl (cO rfl (cO rfl (cO rfl (cO rfl (cO rfl (cO rfl (cO rfl Sb)))))))))
instance:Flat aP:=⟨λh=>h⟩
structure bD where
 Name:Qi
 Node:Qi
 jC:Int
 qH:Int
 AL:Int
 deriving DecidableEq
instance:aH bD where
 sz:=5
 E H cs x:=cs=[.string (x.Name),.string (x.Node),.int .i64 (x.jC),.int .i64 (x.qH),.int .i64 (x.AL)]
 len h:=by obtain rfl:=h; rfl
 mono hle h:=by obtain rfl:=h; exact rfl
 one h:=by obtain rfl:=h; exact (cO rfl (cO rfl (cO rfl (cO rfl (cO rfl Sb)))))
instance:Flat bD:=⟨λh=>h⟩
structure aG where
 Name:Qi
 Node:Qi
 dA:Int
 deriving DecidableEq
instance:aH aG where
 sz:=3
 E H cs x:=cs=[.string (x.Name),.string (x.Node),.int .i64 (x.dA)]
 len h:=by obtain rfl:=h; rfl
 mono hle h:=by obtain rfl:=h; exact rfl
 one h:=by obtain rfl:=h; exact (cO rfl (cO rfl (cO rfl Sb)))
instance:Flat aG:=⟨λh=>h⟩
structure bW where
 Name:Qi
 Node:Qi
 rB:Int
 Discharge:Int
 sB:Int
 deriving DecidableEq
instance:aH bW where
 sz:=5
 E H cs x:=cs=[.string (x.Name),.string (x.Node),.int .i64 (x.rB),.int .i64 (x.Discharge),.int .i64 (x.sB)]
 len h:=by obtain rfl:=h; rfl
 mono hle h:=by obtain rfl:=h; exact rfl
 one h:=by obtain rfl:=h; exact (cO rfl (cO rfl (cO rfl (cO rfl (cO rfl Sb)))))
instance:Flat bW:=⟨λh=>h⟩
structure aD where
 bF:(List Qi)
 aN:(List aV)
 aI:(List aP)
 dB:(List bD)
 bC:(List aG)
 bS:(List bW)
 deriving DecidableEq
instance:aH aD where
 sz:=6
 E H cs x:=∃ v0 v1 v2 v3 v4 v5:Qj,cs=[v0,v1,v2,v3,v4,v5]/\aQ H v0 x.bF/\aQ H v1 x.aN/\aQ H v2 x.aI/\aQ H v3 x.dB/\aQ H v4 x.bC/\aQ H v5 x.bS
 len h:=by obtain ⟨v0,v1,v2,v3,v4,v5,rfl,h0,h1,h2,h3,h4,h5⟩:=h; rfl
 mono hle h:=by obtain ⟨v0,v1,v2,v3,v4,v5,rfl,h0,h1,h2,h3,h4,h5⟩:=h; exact ⟨v0,v1,v2,v3,v4,v5,rfl,h0.mono hle,h1.mono hle,h2.mono hle,h3.mono hle,h4.mono hle,h5.mono hle⟩
 one h:=by obtain ⟨v0,v1,v2,v3,v4,v5,rfl,h0,h1,h2,h3,h4,h5⟩:=h; exact (cO (aQ.pw h0) (cO (aQ.pw h1) (cO (aQ.pw h2) (cO (aQ.pw h3) (cO (aQ.pw h4) (cO (aQ.pw h5) Sb))))))
structure bB where
 Kind:Int
 Name:Qi
 A:Int
 B_:Int
 deriving DecidableEq
instance:aH bB where
 sz:=4
 E H cs x:=cs=[.int .i64 (x.Kind),.string (x.Name),.int .i64 (x.A),.int .i64 (x.B_)]
 len h:=by obtain rfl:=h; rfl
 mono hle h:=by obtain rfl:=h; exact rfl
 one h:=by obtain rfl:=h; exact (cO rfl (cO rfl (cO rfl (cO rfl Sb))))
instance:Flat bB:=⟨λh=>h⟩
structure aT where
 Close:Bool
 Switch:Qi
 vY:(List bB)
 deriving DecidableEq
instance:aH aT where
 sz:=3
 E H cs x:=∃ v2:Qj,cs=[.bool (x.Close),.string (x.Switch),v2]/\aQ H v2 x.vY
 len h:=by obtain ⟨v2,rfl,h0⟩:=h; rfl
 mono hle h:=by obtain ⟨v2,rfl,h0⟩:=h; exact ⟨v2,rfl,h0.mono hle⟩
 one h:=by obtain ⟨v2,rfl,h0⟩:=h; exact (cO rfl (cO rfl (cO (aQ.pw h0) Sb)))
structure aX where
 bN:aD
 nf:(List aT)
 deriving DecidableEq
instance:aH aX where
 sz:=7
 E H cs x:=∃ v0 v1 v2 v3 v4 v5 v6:Qj,cs=[v0,v1,v2,v3,v4,v5,v6]/\aQ H v0 x.bN.bF/\aQ H v1 x.bN.aN/\aQ H v2 x.bN.aI/\aQ H v3 x.bN.dB/\aQ H v4 x.bN.bC/\aQ H v5 x.bN.bS/\aQ H v6 x.nf
 len h:=by obtain ⟨v0,v1,v2,v3,v4,v5,v6,rfl,h0,h1,h2,h3,h4,h5,h6⟩:=h; rfl
 mono hle h:=by obtain ⟨v0,v1,v2,v3,v4,v5,v6,rfl,h0,h1,h2,h3,h4,h5,h6⟩:=h; exact ⟨v0,v1,v2,v3,v4,v5,v6,rfl,h0.mono hle,h1.mono hle,h2.mono hle,h3.mono hle,h4.mono hle,h5.mono hle,h6.mono hle⟩
 one h:=by obtain ⟨v0,v1,v2,v3,v4,v5,v6,rfl,h0,h1,h2,h3,h4,h5,h6⟩:=h; exact (cO (aQ.pw h0) (cO (aQ.pw h1) (cO (aQ.pw h2) (cO (aQ.pw h3) (cO (aQ.pw h4) (cO (aQ.pw h5) (cO (aQ.pw h6) Sb)))))))
structure aE where
 Time:Int
 Kind:Qi
 Name:Qi
 Value:Int
 deriving DecidableEq
instance:aH aE where
 sz:=4
 E H cs x:=cs=[.int .i64 (x.Time),.string (x.Kind),.string (x.Name),.int .i64 (x.Value)]
 len h:=by obtain rfl:=h; rfl
 mono hle h:=by obtain rfl:=h; exact rfl
 one h:=by obtain rfl:=h; exact (cO rfl (cO rfl (cO rfl (cO rfl Sb))))
instance:Flat aE:=⟨λh=>h⟩
structure aC where
 minus:Bool
 words:(List bU)
 deriving DecidableEq
instance:aH aC where
 sz:=2
 E H cs x:=∃ v1:Qj,cs=[.bool (x.minus),v1]/\aQ H v1 x.words
 len h:=by obtain ⟨v1,rfl,h0⟩:=h; rfl
 mono hle h:=by obtain ⟨v1,rfl,h0⟩:=h; exact ⟨v1,rfl,h0.mono hle⟩
 one h:=by obtain ⟨v1,rfl,h0⟩:=h; exact (cO rfl (cO (aQ.pw h0) Sb))
structure aA where
 N:aC
 D:aC
 deriving DecidableEq
instance:aH aA where
 sz:=4
 E H cs x:=∃ v1 v3:Qj,cs=[.bool (x.N.minus),v1,.bool (x.D.minus),v3]/\aQ H v1 x.N.words/\aQ H v3 x.D.words
 len h:=by obtain ⟨v1,v3,rfl,h0,h1⟩:=h; rfl
 mono hle h:=by obtain ⟨v1,v3,rfl,h0,h1⟩:=h; exact ⟨v1,v3,rfl,h0.mono hle,h1.mono hle⟩
 one h:=by obtain ⟨v1,v3,rfl,h0,h1⟩:=h; exact (cO rfl (cO (aQ.pw h0) (cO rfl (cO (aQ.pw h1) Sb))))
structure bT where
 lC:(List aP)
 mw:(List aA)
 su:(List Int)
 over:(List Bool)
 time:Int
 deriving DecidableEq
instance:aH bT where
 sz:=5
 E H cs x:=∃ v0 v1 v2 v3:Qj,cs=[v0,v1,v2,v3,.int .i64 (x.time)]/\aQ H v0 x.lC/\aQ H v1 x.mw/\aQ H v2 x.su/\aQ H v3 x.over
 len h:=by obtain ⟨v0,v1,v2,v3,rfl,h0,h1,h2,h3⟩:=h; rfl
 mono hle h:=by obtain ⟨v0,v1,v2,v3,rfl,h0,h1,h2,h3⟩:=h; exact ⟨v0,v1,v2,v3,rfl,h0.mono hle,h1.mono hle,h2.mono hle,h3.mono hle⟩
 one h:=by obtain ⟨v0,v1,v2,v3,rfl,h0,h1,h2,h3⟩:=h; exact (cO (aQ.pw h0) (cO (aQ.pw h1) (cO (aQ.pw h2) (cO (aQ.pw h3) (cO rfl Sb)))))
structure cG where
 eP:(List Qi)
 gK:(List Qi)
 deriving DecidableEq
instance:aH cG where
 sz:=2
 E H cs x:=∃ v0 v1:Qj,cs=[v0,v1]/\aQ H v0 x.eP/\aQ H v1 x.gK
 len h:=by obtain ⟨v0,v1,rfl,h0,h1⟩:=h; rfl
 mono hle h:=by obtain ⟨v0,v1,rfl,h0,h1⟩:=h; exact ⟨v0,v1,rfl,h0.mono hle,h1.mono hle⟩
 one h:=by obtain ⟨v0,v1,rfl,h0,h1⟩:=h; exact (cO (aQ.pw h0) (cO (aQ.pw h1) Sb))
structure bI where
 gO:(List aE)
 deriving DecidableEq
instance:aH bI where
 sz:=1
 E H cs x:=∃ v0:Qj,cs=[v0]/\aQ H v0 x.gO
 len h:=by obtain ⟨v0,rfl,h0⟩:=h; rfl
 mono hle h:=by obtain ⟨v0,rfl,h0⟩:=h; exact ⟨v0,rfl,h0.mono hle⟩
 one h:=by obtain ⟨v0,rfl,h0⟩:=h; exact (cO (aQ.pw h0) Sb)
structure aO where
 bY:aD
 rules:(List aT)
 on:(List Qi)
 held:(List Qi)
 watch:bT
 state:cG
 time:Int
 log:bI
 over:(List Qi)
 deriving DecidableEq
structure aW where
 seen:(List (Qi×Bool))
 nodes:(List Qi)
 deriving DecidableEq
structure aZ where
 qq:(List Int)
 bR:(List Int)
 deriving DecidableEq
instance:aH aZ where
 sz:=2
 E H cs x:=∃ v0 v1:Qj,cs=[v0,v1]/\aQ H v0 x.qq/\aQ H v1 x.bR
 len h:=by obtain ⟨v0,v1,rfl,h0,h1⟩:=h; rfl
 mono hle h:=by obtain ⟨v0,v1,rfl,h0,h1⟩:=h; exact ⟨v0,v1,rfl,h0.mono hle,h1.mono hle⟩
 one h:=by obtain ⟨v0,v1,rfl,h0,h1⟩:=h; exact (cO (aQ.pw h0) (cO (aQ.pw h1) Sb))
structure cB where
 a0:Int
 a1:Int
 deriving DecidableEq
instance:aH cB where
 sz:=2
 E H cs x:=cs=[.int .i64 (x.a0),.int .i64 (x.a1)]
 len h:=by obtain rfl:=h; rfl
 mono hle h:=by obtain rfl:=h; exact rfl
 one h:=by obtain rfl:=h; exact (cO rfl (cO rfl Sb))
instance:Flat cB:=⟨λh=>h⟩
structure bP where
 jC:Int
 qH:Int
 dA:Int
 deriving DecidableEq
instance:aH bP where
 sz:=3
 E H cs x:=cs=[.int .i64 (x.jC),.int .i64 (x.qH),.int .i64 (x.dA)]
 len h:=by obtain rfl:=h; rfl
 mono hle h:=by obtain rfl:=h; exact rfl
 one h:=by obtain rfl:=h; exact (cO rfl (cO rfl (cO rfl Sb)))
instance:Flat bP:=⟨λh=>h⟩
structure bA where
 vJ:aZ
 pI:(List Int)
 To:(List Int)
 B_:(List aA)
 C:(List aA)
 qX:(List Int)
 rl:(List (List aA))
 deriving DecidableEq
instance:aH bA where
 sz:=8
 E H cs x:=∃ v0 v1 v2 v3 v4 v5 v6 v7:Qj,cs=[v0,v1,v2,v3,v4,v5,v6,v7]/\aQ H v0 x.vJ.qq/\aQ H v1 x.vJ.bR/\aQ H v2 x.pI/\aQ H v3 x.To/\aQ H v4 x.B_/\aQ H v5 x.C/\aQ H v6 x.qX/\aQ H v7 x.rl
 len h:=by obtain ⟨v0,v1,v2,v3,v4,v5,v6,v7,rfl,h0,h1,h2,h3,h4,h5,h6,h7⟩:=h; rfl
 mono hle h:=by obtain ⟨v0,v1,v2,v3,v4,v5,v6,v7,rfl,h0,h1,h2,h3,h4,h5,h6,h7⟩:=h; exact ⟨v0,v1,v2,v3,v4,v5,v6,v7,rfl,h0.mono hle,h1.mono hle,h2.mono hle,h3.mono hle,h4.mono hle,h5.mono hle,h6.mono hle,h7.mono hle⟩
 one h:=by obtain ⟨v0,v1,v2,v3,v4,v5,v6,v7,rfl,h0,h1,h2,h3,h4,h5,h6,h7⟩:=h; exact (cO (aQ.pw h0) (cO (aQ.pw h1) (cO (aQ.pw h2) (cO (aQ.pw h3) (cO (aQ.pw h4) (cO (aQ.pw h5) (cO (aQ.pw h6) (cO (aQ.pw h7) Sb))))))))
structure cU where
 n:aD
 on:(List Qi)
 deriving DecidableEq
instance:aH cU where
 sz:=7
 E H cs x:=∃ v0 v1 v2 v3 v4 v5 v6:Qj,cs=[v0,v1,v2,v3,v4,v5,v6]/\aQ H v0 x.n.bF/\aQ H v1 x.n.aN/\aQ H v2 x.n.aI/\aQ H v3 x.n.dB/\aQ H v4 x.n.bC/\aQ H v5 x.n.bS/\aQ H v6 x.on
 len h:=by obtain ⟨v0,v1,v2,v3,v4,v5,v6,rfl,h0,h1,h2,h3,h4,h5,h6⟩:=h; rfl
 mono hle h:=by obtain ⟨v0,v1,v2,v3,v4,v5,v6,rfl,h0,h1,h2,h3,h4,h5,h6⟩:=h; exact ⟨v0,v1,v2,v3,v4,v5,v6,rfl,h0.mono hle,h1.mono hle,h2.mono hle,h3.mono hle,h4.mono hle,h5.mono hle,h6.mono hle⟩
 one h:=by obtain ⟨v0,v1,v2,v3,v4,v5,v6,rfl,h0,h1,h2,h3,h4,h5,h6⟩:=h; exact (cO (aQ.pw h0) (cO (aQ.pw h1) (cO (aQ.pw h2) (cO (aQ.pw h3) (cO (aQ.pw h4) (cO (aQ.pw h5) (cO (aQ.pw h6) Sb)))))))
structure aR where
 Name:Qi
 yA:Bool
 deriving DecidableEq
instance:aH aR where
 sz:=2
 E H cs x:=cs=[.string (x.Name),.bool (x.yA)]
 len h:=by obtain rfl:=h; rfl
 mono hle h:=by obtain rfl:=h; exact rfl
 one h:=by obtain rfl:=h; exact (cO rfl (cO rfl Sb))
instance:Flat aR:=⟨λh=>h⟩
def pG (j:aD):Option (aD):=cZ (0<=(min (j.bC.length:Int) 4)/\(min (j.bC.length:Int) 4)<=(j.bC.length:Int)) (cZ (0<=(min (j.dB.length:Int) 4)/\(min (j.dB.length:Int) 4)<=(j.dB.length:Int)) (some (aD.mk j.bF j.aN j.aI (r8 j.dB 0 ((min (j.dB.length:Int) 4:Int).toNat)) (r8 j.bC 0 ((min (j.bC.length:Int) 4:Int).toNat)) j.bS)))
def eX (o:aX):Option (aX):=(pG o.bN).bind λj=>cZ (0<=(min (j.bC.length:Int) 3)/\(min (j.bC.length:Int) 3)<=(j.bC.length:Int)) (some (aX.mk (aD.mk j.bF j.aN j.aI j.dB (r8 j.bC 0 ((min (j.bC.length:Int) 3:Int).toNat)) j.bS) o.nf))
def n_ (I:Nat) (j:U8) (o:Unit->Option (Bool)):Option (Bool):=if !(((decide (65<=j.n)) && (decide (j.n<=90))) || (((decide (0<(I:Int))) && (decide (48<=j.n))) && (decide (j.n<=57)))) then (some false) else (o ())
def bK (j:Qi):Option (Bool):=cZ (j.size<=maxLen) (dI (λk y o n=>n_ k y n) (λ_=>some ((decide (1<=(j.size:Int))) && (decide ((j.size:Int)<=8)))) 0 (kB j) ())
def l_ (I:(List Qi)) (J:Qi) (j:Nat) (o:Unit->Option (Int)):Option (Int):=idx I (j:Int) λR=>if decide (J=R) then (some (j:Int)) else (o ())
def bG (j:(List Qi)) (o:Qi):Option (Int):=kL (λk I n=>l_ j o k n) (λ_=>some (-1)) ((j.length:Int):Int).toNat 0 ()
def bO (j:(List Qi)) (o:Qi):Option (Bool):=(bG j o).bind λI=>some (decide (0<=I))
def iS (j:aW) (name:Qi) (nodes:(List Qi)) (R:Nat) (I:Qi) (o:Unit->Option (Int×aW)):Option (Int×aW):=(bO j.nodes I).bind λJ=>if !J then (some (6,(aW.mk (vr j.seen name true) j.nodes))) else (o ())
def cI (j:aW) (name:Qi) (nodes:(List Qi)):Option (Int×aW):=(bK name).bind λo=>if !o then (some (5,j)) else (if (rL j.seen name).getD false then (some (7,j)) else (dI (λk y R n=>iS j name nodes k y n) (λ_=>if decide ((nodes.length:Int)=2) then (idx nodes 0 λI=>idx nodes 1 λJ=>if decide (I=J) then (some (3,(aW.mk (vr j.seen name true) j.nodes))) else (some (0,(aW.mk (vr j.seen name true) j.nodes)))) else (some (0,(aW.mk (vr j.seen name true) j.nodes)))) 0 nodes ()))
def bM (I:Int) (o:Int) (j:Int):Bool:=((decide (I<o)) || (decide (j<I)))
def jI (j:aP):Int:=if (((((bM j.X 1 10000) || (bM j.AZ 500 1500)) || (bM j.Shift (-1000) 1000)) || (bM j.sC 0 100000)) || (bM j.vZ j.sC 100000)) || (bM j.Bh 0 200000) then 4 else 0
def aY (j:Int):Bool:=(!(bM j 0 100000))
def jW (I:aW) (U:Nat) (j:bW) (R:(List (Qi×Bool))) (J:(List (Qi×Bool))->Option (Int×aW)):Option (Int×aW):=(cI (aW.mk R I.nodes) j.Name ([j.Node])).bind λo=>if !decide (o.1=0) then (some (o.1,(aW.mk o.2.seen I.nodes))) else (if ((!(aY j.rB)) || (!(aY j.Discharge))) || (!(aY j.sB)) then (some (4,(aW.mk o.2.seen I.nodes))) else (J o.2.seen))
def jV (o:aW) (U:Nat) (I:aG) (R:(List (Qi×Bool))) (J:(List (Qi×Bool))->Option (Int×aW)):Option (Int×aW):=(cI (aW.mk R o.nodes) I.Name ([I.Node])).bind λj=>if !decide (j.1=0) then (some (j.1,(aW.mk j.2.seen o.nodes))) else (if !(aY I.dA) then (some (4,(aW.mk j.2.seen o.nodes))) else (J j.2.seen))
def jU (I:aW) (U:Nat) (j:bD) (R:(List (Qi×Bool))) (J:(List (Qi×Bool))->Option (Int×aW)):Option (Int×aW):=(cI (aW.mk R I.nodes) j.Name ([j.Node])).bind λo=>if !decide (o.1=0) then (some (o.1,(aW.mk o.2.seen I.nodes))) else (if ((!(aY j.jC)) || (bM j.qH j.jC 100000)) || (!(aY j.AL)) then (some (4,(aW.mk o.2.seen I.nodes))) else (J o.2.seen))
def gS (j:aW) (o:aD):Option (Int×aW):=dI (λk y I n=>jU j k y I n) (λI=>dI (λk y J n=>jV j k y J n) (λJ=>dI (λk y R n=>jW j k y R n) (λR=>some (0,(aW.mk R j.nodes))) 0 o.bS J) 0 o.bC I) 0 o.dB j.seen
def nr (J:aD) (U:Nat) (j:aP) (R:(List (Qi×Bool))) (I:(List (Qi×Bool))->Option (Int)):Option (Int):=(cI (aW.mk R J.bF) j.Name ([j.pI,j.To])).bind λo=>if !decide (o.1=0) then (some o.1) else (if !decide ((jI j)=0) then (some (jI j)) else (I o.2.seen))
def nq (J:aD) (U:Nat) (j:aV) (R:(List (Qi×Bool))) (I:(List (Qi×Bool))->Option (Int)):Option (Int):=(cI (aW.mk R J.bF) j.Name ([j.A,j.B_])).bind λo=>if !decide (o.1=0) then (some o.1) else (I o.2.seen)
def np (I:aD) (U:Nat) (J:Qi) (R:(List (Qi×Bool))) (o:(List (Qi×Bool))->Option (Int)):Option (Int):=(cI (aW.mk R I.bF) J []).bind λj=>if !decide (j.1=0) then (some j.1) else (o j.2.seen)
def cA (j:aD):Option (Int):=if (((((decide (24<(j.bF.length:Int))) || (decide (32<(j.aN.length:Int)))) || (decide (24<(j.aI.length:Int)))) || (decide (10<(j.dB.length:Int)))) || (decide (12<(j.bC.length:Int)))) || (decide (4<(j.bS.length:Int))) then (some 2) else (dI (λk y o n=>np j k y o n) (λo=>dI (λk y I n=>nq j k y I n) (λI=>dI (λk y J n=>nr j k y J n) (λJ=>(gS (aW.mk J j.bF) j).bind λR=>some R.1) 0 j.aI I) 0 j.aN o) 0 j.bF ([]:(List (Qi×Bool))))
def dY (j:List Int->Option (Int)) (o:List Int):Option (Int):=j o
def eI (o:List Int) (J:List Int->Option (Int)) (I:bB) (j:Nat) (R:Bool):Option (Int):=if R then (if decide ((j:Int)=0) then (some 3) else (if decide (I.B_=(i64.wrap ((j:Int)-1))) then (idx (o.set (((j:Int):Int).toNat) ((j:Int))) (i64.wrap ((j:Int)-1)) λU=>if decide (U=0) then (some 3) else (idx (o.set (((j:Int):Int).toNat) ((j:Int))) (i64.wrap ((j:Int)-1)) λP3=>if !decide (I.A=(i64.wrap (P3-1))) then (some 3) else (idx (o.set (((j:Int):Int).toNat) ((j:Int))) I.A λP4=>idx (o.set (((j:Int):Int).toNat) ((j:Int))) (j:Int) λP5=>dY J ((o.set (((j:Int):Int).toNat) ((j:Int))).set (((j:Int):Int).toNat) P4)))) else (some 3))) else (if (!decide (I.A=0)) || (!decide (I.B_=0)) then (some 3) else (dY J (o.set (((j:Int):Int).toNat) ((j:Int)))))
def kF (o:List Int) (J:List Int->Option (Int)) (I:bB) (j:Nat) (R:Bool):Option (Int):=if R then (if decide ((j:Int)=0) then (some 3) else (if decide (I.B_=(i64.wrap ((j:Int)-1))) then (idx (o.set (((j:Int):Int).toNat) ((j:Int))) (i64.wrap ((j:Int)-1)) λU=>if decide (U=0) then (some 3) else (idx (o.set (((j:Int):Int).toNat) ((j:Int))) (i64.wrap ((j:Int)-1)) λP3=>if !decide (I.A=(i64.wrap (P3-1))) then (some 3) else (idx (o.set (((j:Int):Int).toNat) ((j:Int))) I.A λP4=>idx (o.set (((j:Int):Int).toNat) ((j:Int))) (j:Int) λP5=>dY J ((o.set (((j:Int):Int).toNat) ((j:Int))).set (((j:Int):Int).toNat) P4)))) else (some 3))) else (if (!decide (I.A=0)) || (!decide (I.B_=0)) then (some 3) else (dY J (o.set (((j:Int):Int).toNat) ((j:Int)))))
def oC (j:Nat) (o:bB) (I:List Int) (J:List Int->Option (Int)):Option (Int):=if (decide (o.Kind<0)) || (decide (6<o.Kind)) then (some 1) else (if (decide (o.Kind=2)) || (decide (o.Kind=3)) then ((bK o.Name).bind λU=>if !U then (some 6) else (idx I (j:Int) λP5=>if decide (o.Kind=4) then (if ((decide ((j:Int)=0)) || (!decide (o.A=(i64.wrap ((j:Int)-1))))) || (!decide (o.B_=0)) then (some 3) else (idx (I.set (((j:Int):Int).toNat) ((j:Int))) o.A λR=>idx (I.set (((j:Int):Int).toNat) ((j:Int))) (j:Int) λP4=>dY J ((I.set (((j:Int):Int).toNat) ((j:Int))).set (((j:Int):Int).toNat) R))) else (if decide (o.Kind=5) then (kF I J o j (decide (o.Kind=5))) else (kF I J o j (decide (o.Kind=6)))))) else (if !decide (o.Name=(⟨#[]⟩)) then (some 3) else (idx I (j:Int) λP6=>if decide (o.Kind=4) then (if ((decide ((j:Int)=0)) || (!decide (o.A=(i64.wrap ((j:Int)-1))))) || (!decide (o.B_=0)) then (some 3) else (idx (I.set (((j:Int):Int).toNat) ((j:Int))) o.A λP3=>idx (I.set (((j:Int):Int).toNat) ((j:Int))) (j:Int) λP7=>dY J ((I.set (((j:Int):Int).toNat) ((j:Int))).set (((j:Int):Int).toNat) P3))) else (if decide (o.Kind=5) then (eI I J o j (decide (o.Kind=5))) else (eI I J o j (decide (o.Kind=6)))))))
def kN (j:(List bB)):Option (Int):=if decide (40<(j.length:Int)) then (some 2) else (if decide ((j.length:Int)=0) then (some 3) else (cZ (0<=(j.length:Int)/\(j.length:Int)*8<=140737488355328) (dI (λk y o n=>oC k y o n) (λo=>idx o (i64.wrap ((j.length:Int)-1)) λI=>if !decide (I=0) then (some 3) else (some 0)) 0 j (List.replicate ((j.length:Int):Int).toNat (0:Int)))))
def q9 (R:Nat) (j:aT) (I:Unit->Option (Int)):Option (Int):=(bK j.Switch).bind λJ=>if !J then (some 6) else ((kN j.vY).bind λo=>if !decide (o=0) then (some o) else (I ()))
def mP (j:(List aT)):Option (Int):=if decide (24<(j.length:Int)) then (some 2) else (dI (λk y o n=>q9 k y n) (λ_=>some 0) 0 j ())
def ue (J:Nat) (j:aG) (o:List Qi) (I:List Qi->Option ((List Qi))):Option ((List Qi)):=cZ ((o.length+([j.Name]).length)*16<=140737488355328) (I (o++([j.Name])))
def ql (o:aD):Option ((List Qi)):=dI (λk y j n=>ue k y j n) (λj=>some j) 0 o.bC ([]:List Qi)
def pd (o:aG) (j:Qi):Bool:=(decide (o.Name=j))
def dM (J:(List aG)) (j:Qi) (o:Nat) (I:Unit->Option (Int)):Option (Int):=idx J (o:Int) λR=>if (pd R j) then (some (o:Int)) else (I ())
def cP (o:(List aG)) (j:Qi):Option (Int):=kL (λk I n=>dM o j k n) (λ_=>some (-1)) ((o.length:Int):Int).toNat 0 ()
def cL (o:(List aG)) (j:Qi):Option (Bool):=(cP o j).bind λI=>some (decide (0<=I))
def qd (J:aD) (on:(List Qi)) (j:Nat) (o:Qi) (I:Unit->Option (Int)):Option (Int):=(cL J.bC o).bind λR=>if !R then (some 6) else (cZ (0<=(j:Int)/\(j:Int)<=(on.length:Int)) ((bO (r8 on 0 (((j:Int):Int).toNat)) o).bind λU=>if U then (some 7) else (I ())))
def eF (j:aD) (on:(List Qi)):Option (Int):=(cA j).bind λo=>if !decide (o=0) then (some o) else (dI (λk y I n=>qd j on k y n) (λ_=>some 0) 0 on ())
def kz (j:aD):Option (aD):=cZ (j.bF.length*16<=140737488355328) (cZ (j.aN.length*56<=140737488355328) (cZ (j.aI.length*96<=140737488355328) (cZ (j.dB.length*56<=140737488355328) (cZ (j.bC.length*40<=140737488355328) (cZ (j.bS.length*56<=140737488355328) (some j))))))
def mo (o:aG) (j:(List Qi)):Option (Bool):=(bO j o.Name).bind λI=>some (!I)
def iL (J:(List aG)) (j:(List Qi)) (o:Nat) (I:Unit->Option (Int)):Option (Int):=idx J (o:Int) λR=>(mo R j).bind λU=>if U then (some (o:Int)) else (I ())
def e_ (o:(List aG)) (j:(List Qi)):Option (Int):=kL (λk I n=>iL o j k n) (λ_=>some (-1)) ((o.length:Int):Int).toNat 0 ()
def dK (n199:Int) (j:(List aG×Int×Int)->Option ((List aG))) (o:List aG) (n232:Int):Option ((List aG)):=j (o,n232,i64.wrap (n199+1))
def iB (del_0:(List Qi)) (j:List aG) (n198:Int) (n199:Int) (o:(List aG×Int×Int)->Option ((List aG))):Option ((List aG)):=if decide (n199<(j.length:Int)) then (idx j n199 λI=>(mo I del_0).bind λJ=>if !J then (idx j n198 λR=>dK n199 o (j.set ((n198:Int).toNat) I) (i64.wrap (n198+1))) else (dK n199 o j n198)) else (cZ (0<=n198/\n198<=(j.length:Int)) (cZ (0<=n198/\n198<=((j.take (n198).toNat++List.replicate (j.length-(n198).toNat) ((aG.mk (⟨#[]⟩) (⟨#[]⟩) 0):aG)).length:Int)) (some (r8 (j.take (n198).toNat++List.replicate (j.length-(n198).toNat) ((aG.mk (⟨#[]⟩) (⟨#[]⟩) 0):aG)) 0 ((n198:Int).toNat)))))
def dW (j:(List aG)) (del_0:(List Qi)):Option ((List aG)):=(e_ j del_0).bind λo=>if decide (o=(-1)) then (some j) else (iN (λI n=>iB del_0 I.1 I.2.1 I.2.2 n) fY (j,o,i64.wrap (o+1)))
def pN (o:aD) (on:(List Qi)):Option (aD):=(kz o).bind λj=>(dW j.bC on).bind λI=>some (aD.mk j.bF j.aN j.aI j.dB I j.bS)
def lI (j:aD) (on:(List Qi)):Option (aD×Int):=(eF j on).bind λo=>if !decide (o=0) then (some ((aD.mk ([]:List Qi) ([]:List aV) ([]:List aP) ([]:List bD) ([]:List aG) ([]:List bW)),o)) else ((pN j on).bind λI=>some (I,0))
def ot (j:(List cB×List Int)->Option ((List cB)×(List Int))) (o:List cB) (I:List Int):Option ((List cB)×(List Int)):=j (o,I)
def sq (U:aD) (j:Bool) (P3:Nat) (o:aV) (I:List cB) (J:List Int) (R:(List cB×List Int)->Option ((List cB)×(List Int))):Option ((List cB)×(List Int)):=if decide (o.Open=j) then ((bG U.bF o.A).bind λP4=>(bG U.bF o.B_).bind λP5=>cZ ((I.length+([(cB.mk P4 P5)]).length)*16<=140737488355328) (cZ ((J.length+([((P3:Int))]:List Int).length)*8<=140737488355328) (ot R (I++([(cB.mk P4 P5)])) (J++([((P3:Int))]:List Int))))) else (ot R I J)
def qA (I:aD) (o:Bool):Option ((List cB)×(List Int)):=dI (λk y j n=>sq I o k y j.1 j.2 n) (λj=>some (j.1,j.2)) 0 I.aN (([]:List cB),([]:List Int))
def tw (o:Int) (J:Nat) (j:cB) (I:Unit->Option (Int)):Option (Int):=if decide (j.a0<0) then (some 4) else (if decide (o<=j.a0) then (some 4) else (if decide (j.a1<0) then (some 4) else (if decide (o<=j.a1) then (some 4) else (I ()))))
def rS (j:Int) (o:(List cB)):Option (Int):=if ((decide (j<0)) || (decide (24<j))) || (decide (64<(o.length:Int))) then (some 2) else (dI (λk y I n=>tw j k y n) (λ_=>some 0) 0 o ())
def mU (j:Int) (o:Int):Int×Int:=((u64.wrap ((u64.wrap ((u64.wrap ((oF .u64 j 32)*(oF .u64 o 32)))+(oF .u64 (u64.wrap ((u64.wrap ((oF .u64 j 32)*(u64.wrap ((BitVec.ofInt (u64).bits o &&& BitVec.ofInt (u64).bits 4294967295).toNat))))+(oF .u64 (u64.wrap ((u64.wrap ((BitVec.ofInt (u64).bits j &&& BitVec.ofInt (u64).bits 4294967295).toNat))*(u64.wrap ((BitVec.ofInt (u64).bits o &&& BitVec.ofInt (u64).bits 4294967295).toNat)))) 32))) 32)))+(oF .u64 (u64.wrap ((u64.wrap ((BitVec.ofInt (u64).bits (u64.wrap ((u64.wrap ((oF .u64 j 32)*(u64.wrap ((BitVec.ofInt (u64).bits o &&& BitVec.ofInt (u64).bits 4294967295).toNat))))+(oF .u64 (u64.wrap ((u64.wrap ((BitVec.ofInt (u64).bits j &&& BitVec.ofInt (u64).bits 4294967295).toNat))*(u64.wrap ((BitVec.ofInt (u64).bits o &&& BitVec.ofInt (u64).bits 4294967295).toNat)))) 32))) &&& BitVec.ofInt (u64).bits 4294967295).toNat))+(u64.wrap ((u64.wrap ((BitVec.ofInt (u64).bits j &&& BitVec.ofInt (u64).bits 4294967295).toNat))*(oF .u64 o 32))))) 32))),(u64.wrap (j*o)))
def r7 (j:Int) (o:Int):Int×Int:=((((mU j o)).1),(((mU j o)).2))
def kI (j:(List Int×Int)->Option ((List Int))) (o:List Int) (I:Int):Option ((List Int)):=j (o,I)
def eK (j:(List Int×List Int)->Option ((List Int))) (o:List Int) (I:List Int):Option ((List Int)):=j (o,I)
def qQ (without:Int) (U:Int) (o:Int) (P3:Nat) (j:cB) (I:List Int) (J:List Int) (R:(List Int×List Int)->Option ((List Int))):Option ((List Int)):=if decide ((P3:Int)=without) then (eK R I J) else (if decide (j.a0=o) then (idx I (i64.wrap ((i64.wrap (j.a0+j.a1))-o)) λP4=>if decide (P4<0) then (idx I (i64.wrap ((i64.wrap (j.a0+j.a1))-o)) λP6=>cZ ((J.length+([(i64.wrap ((i64.wrap (j.a0+j.a1))-o))]:List Int).length)*8<=140737488355328) (eK R (I.set ((i64.wrap ((i64.wrap (j.a0+j.a1))-o):Int).toNat) U) (J++([(i64.wrap ((i64.wrap (j.a0+j.a1))-o))]:List Int)))) else (eK R I J)) else (if !decide (j.a1=o) then (eK R I J) else (idx I (i64.wrap ((i64.wrap (j.a0+j.a1))-o)) λP5=>if decide (P5<0) then (idx I (i64.wrap ((i64.wrap (j.a0+j.a1))-o)) λP7=>cZ ((J.length+([(i64.wrap ((i64.wrap (j.a0+j.a1))-o))]:List Int).length)*8<=140737488355328) (eK R (I.set ((i64.wrap ((i64.wrap (j.a0+j.a1))-o):Int).toNat) U) (J++([(i64.wrap ((i64.wrap (j.a0+j.a1))-o))]:List Int)))) else (eK R I J))))
def qP (P4:(List cB)) (without:Int) (I:Int) (R:(List Int×Int)->Option ((List Int))) (J:List Int) (j:List Int) (U:(List Int×List Int)->Option ((List Int))):Option ((List Int)):=if decide (0<(j.length:Int)) then (idx j 0 λP3=>cZ (0<=1/\1<=(j.length:Int)) (dI (λk y o n=>qQ without I P3 k y o.1 o.2 n) (λo=>U (o.1,o.2)) 0 P4 (J,(r8 j (1:Int).toNat j.length)))) else (kI R J (i64.wrap (I+1)))
def qO (P3:(List cB)) (without:Int) (I:Nat) (j:List Int) (o:Int) (J:(List Int×Int)->Option ((List Int))):Option ((List Int)):=idx j (I:Int) λU=>if decide (0<=U) then (kI J j o) else (idx j (I:Int) λP4=>iN (λR n=>qP P3 without o J R.1 R.2 n) fY ((j.set (((I:Int):Int).toNat) o),([((I:Int))]:List Int)))
def pC (o:Int) (I:(List cB)) (without:Int):Option ((List Int)):=cZ (([((-1))]:List Int).length=1/\0<=o/\o*8<=140737488355328) (cZ (o<=9223372036854775807) (kL (λk j n=>qO I without k j.1 j.2 n) (λj=>some j.1) (o:Int).toNat 0 ((GD ([((-1))]:List Int) o),0)))
def jR (j:Int) (o:(List cB)):Option ((List Int)×Int):=(rS j o).bind λI=>if !decide (I=0) then (some (([]:List Int),I)) else ((pC j o (-1)).bind λJ=>some (J,0))
def oL (j:aD):Option ((List Int)):=(qA j false).bind λo=>(jR (j.bF.length:Int) o.1).bind λI=>some I.1
def sT (j:aD) (o:((List Int))) (P6:Nat) (I:aP) (J:List cB) (P3:List cB->Option (aZ)):Option (aZ):=(bG j.bF I.pI).bind λP4=>idx o P4 λR=>(bG j.bF I.To).bind λP5=>idx o P5 λU=>cZ ((J.length+([(cB.mk R U)]).length)*16<=140737488355328) (P3 (J++([(cB.mk R U)])))
def sS (I:Nat) (o:Int) (n114:Int) (j:Int->Option (aZ)):Option (aZ):=j (max n114 (i64.wrap (o+1)))
def dZ (j:aD):Option (aZ):=(oL j).bind λo=>dI (λk y I n=>sS k y I n) (λI=>dI (λk y J n=>sT j o k y J n) (λJ=>(jR I J).bind λR=>some (aZ.mk o R.1)) 0 j.aI ([]:List cB)) 0 o 0
def rD (I:Nat) (o:Int) (n115:Int) (j:Int->Option (Int)):Option (Int):=j (max n115 (i64.wrap (o+1)))
def mh (o:aD):Option (Int):=(dZ o).bind λI=>dI (λk y j n=>rD k y j n) (λj=>some j) 0 I.bR 0
def mX (o:aD) (j:aZ) (node:Qi):Option (Int):=(bG o.bF node).bind λI=>idx j.qq I λJ=>idx j.bR J λR=>some R
def sH (U:aD) (P3:(aZ)) (P5:Nat) (I:aG) (j:List bP) (R:List bP->Option ((List bP))):Option ((List bP)):=(mX U P3 I.Node).bind λo=>idx j o λP4=>idx j o λJ=>R (j.set ((o:Int).toNat) (bP.mk J.jC J.qH (i64.wrap (P4.dA+I.dA))))
def sG (U:aD) (P3:(aZ)) (P4:Nat) (o:bD) (J:List bP) (R:List bP->Option ((List bP))):Option ((List bP)):=(mX U P3 o.Node).bind λI=>idx J I λj=>R ((J.set ((I:Int).toNat) (bP.mk (i64.wrap (j.jC+o.jC)) j.qH j.dA)).set ((I:Int).toNat) (bP.mk (i64.wrap (j.jC+o.jC)) (i64.wrap (j.qH+o.qH)) j.dA))
def ra (j:aD):Option ((List bP)):=(dZ j).bind λR=>(mh j).bind λo=>cZ (0<=o/\o*24<=140737488355328) (dI (λk y I n=>sG j R k y I n) (λI=>dI (λk y J n=>sH j R k y J n) (λJ=>some J) 0 j.bC I) 0 j.dB (List.replicate (o:Int).toNat ((bP.mk 0 0 0):bP)))
def oO (j:Int):Bool:=(decide (0<j))
def gA (I:(List Int)) (j:Nat) (o:Unit->Option (Int)):Option (Int):=idx I (j:Int) λJ=>if (oO J) then (some (j:Int)) else (o ())
def eV (j:(List Int)):Option (Int):=kL (λk o n=>gA j k n) (λ_=>some (-1)) ((j.length:Int):Int).toNat 0 ()
def dP (j:(List Int)):Option (Bool):=(eV j).bind λo=>some (decide (0<=o))
def mi (I:List Int) (j:List Int) (o:(List Int×List Int)->Option ((List Int)×Int)) (J:(Int)) (R:Int) (n316:Int):Option ((List Int)×Int):=cZ ((j.length+([n316]:List Int).length)*8<=140737488355328) (o ((I.set ((J:Int).toNat) (i64.wrap (R-n316))),(j++([n316]:List Int))))
def sh (P3:aD) (P4:(aZ)) (P5:Nat) (o:bD) (I:List Int) (U:List Int) (J:(List Int×List Int)->Option ((List Int)×Int)):Option ((List Int)×Int):=(mX P3 P4 o.Node).bind λR=>idx I R λj=>if decide (o.jC<=j) then (mi I U J R j (min o.qH j)) else (mi I U J R j 0)
def sf (J:Nat) (j:bP) (o:List Int) (I:List Int->Option ((List Int)×Int)):Option ((List Int)×Int):=cZ ((o.length+([j.dA]:List Int).length)*8<=140737488355328) (I (o++([j.dA]:List Int)))
def mW (j:aD):Option ((List Int)×Int):=(cA j).bind λJ=>if !decide (J=0) then (some (([]:List Int),J)) else ((dZ j).bind λR=>(ra j).bind λU=>dI (λk y I n=>sf k y I n) (λI=>dI (λk y o n=>sh j R k y o.1 o.2 n) (λo=>(dP o.1).bind λP3=>if P3 then (some (([]:List Int),14)) else (some (o.2,0))) 0 j.dB (I,([]:List Int))) 0 U ([]:List Int))
def tn (I:Nat) (j:Int) (o:Unit->Option ((List Int)×Int)):Option ((List Int)×Int):=if (decide (j<(-100000))) || (decide (100000<j)) then (some (([]:List Int),4)) else (o ())
def tl (R:aD) (P3:Nat) (I:aG) (j:List Int) (J:List Int->Option ((List Int)×Int)):Option ((List Int)×Int):=(bG R.bF I.Node).bind λo=>idx j o λU=>idx j o λP4=>J (j.set ((o:Int).toNat) (i64.wrap (U-I.dA)))
def tk (U:aD) (stores:(List Int)) (j:Nat) (o:bW) (I:List Int) (R:List Int->Option ((List Int)×Int)):Option ((List Int)×Int):=idx stores (j:Int) λP3=>if decide (P3<(i64.wrap (0-o.rB))) then (some (([]:List Int),17)) else (idx stores (j:Int) λP4=>if decide (o.Discharge<P4) then (some (([]:List Int),17)) else ((bG U.bF o.Node).bind λJ=>idx I J λP5=>idx stores (j:Int) λP6=>idx I J λP7=>R (I.set ((J:Int).toNat) (i64.wrap (P5+P6)))))
def tj (P3:aD) (gens:(List Int)) (o:Nat) (I:bD) (j:List Int) (J:List Int->Option ((List Int)×Int)):Option ((List Int)×Int):=idx gens (o:Int) λP4=>if decide (P4=0) then ((bG P3.bF I.Node).bind λR=>idx j R λP5=>idx gens (o:Int) λP6=>idx j R λQa=>J (j.set ((R:Int).toNat) (i64.wrap (P5+P6)))) else (idx gens (o:Int) λP7=>if decide (P7<I.jC) then (some (([]:List Int),17)) else (idx gens (o:Int) λP8=>if decide (I.qH<P8) then (some (([]:List Int),17)) else ((bG P3.bF I.Node).bind λU=>idx j U λP9=>idx gens (o:Int) λP_=>idx j U λQb=>J (j.set ((U:Int).toNat) (i64.wrap (P9+P_))))))
def rR (j:aD) (gens:(List Int)) (stores:(List Int)):Option ((List Int)×Int):=(cA j).bind λR=>if !decide (R=0) then (some (([]:List Int),R)) else (if (!decide ((gens.length:Int)=(j.dB.length:Int))) || (!decide ((stores.length:Int)=(j.bS.length:Int))) then (some (([]:List Int),3)) else (cZ (0<=(j.bF.length:Int)/\(j.bF.length:Int)*8<=140737488355328) (dI (λk y I n=>tj j gens k y I n) (λI=>dI (λk y J n=>tk j stores k y J n) (λJ=>dI (λk y o n=>tl j k y o n) (λo=>dI (λk y U n=>tn k y n) (λ_=>some (o,0)) 0 o ()) 0 j.bC J) 0 j.bS I) 0 j.dB (List.replicate ((j.bF.length:Int):Int).toNat (0:Int)))))
def fS (j:aD):Option ((List Int)×Int):=(mW j).bind λo=>if !decide (o.2=0) then (some (([]:List Int),o.2)) else (cZ (0<=(j.bS.length:Int)/\(j.bS.length:Int)*8<=140737488355328) ((rR j o.1 (List.replicate ((j.bS.length:Int):Int).toNat (0:Int))).bind λI=>some (I.1,I.2)))
def t_ (o:(aZ)) (U:Nat) (j:Int) (I:(List (Int×Int))) (R:(List (Int×Int))->Option (Int)):Option (Int):=if (decide (j<(-100000))) || (decide (100000<j)) then (some 4) else (idx o.qq (U:Int) λP3=>idx o.bR P3 λJ=>R (vr I J (i64.wrap (((rL I J).getD (0:Int))+j))))
def nH (j:aD) (inject:(List Int)):Option (Int):=(cA j).bind λI=>if !decide (I=0) then (some I) else (if !decide ((inject.length:Int)=(j.bF.length:Int)) then (some 3) else ((dZ j).bind λJ=>dI (λk y o n=>t_ J k y o n) (λo=>if (o.any (λR=>!decide (R.2=0))) then (some 14) else (some 0)) 0 inject ([]:(List (Int×Int)))))
def oJ (minus:Bool) (j:(List bU)):Option (aC):=if minus then (some (aC.mk (decide (0<(j.length:Int))) j)) else (some (aC.mk false j))
def uc (minus:Bool) (j:(List bU)) (o:(List bU)->Option (aC)):Option (aC):=if decide (0<(j.length:Int)) then (idx j (i64.wrap ((j.length:Int)-1)) λI=>if decide (I.n=0) then (cZ (0<=(i64.wrap ((j.length:Int)-1))/\(i64.wrap ((j.length:Int)-1))<=(j.length:Int)) (o (r8 j 0 ((i64.wrap ((j.length:Int)-1):Int).toNat)))) else (oJ minus j)) else (oJ minus j)
def jH (minus:Bool) (j:(List bU)):Option (aC):=iN (λo n=>uc minus o n) fY j
def qE (j:Int) (n103:Int):Option (aC):=(jH (decide (j<0)) ([⟨u32.wrap (n103)⟩,⟨u32.wrap (oF .u64 n103 32)⟩]:List bU)).bind λo=>some o
def mY (j:Int):Option (aC):=if decide (j<0) then (qE j (u64.wrap (0-(u64.wrap (j))))) else (qE j (u64.wrap (j)))
def lW (j:aC):Option (aC):=(jH (!j.minus) j.words).bind λo=>some o
def fD (j:aC):Int:=if decide ((j.words.length:Int)=0) then 0 else (if j.minus then (-1) else 1)
def rG (j:(List bU)) (o:(List bU)) (n154:Int) (I:Int->Option (Int)):Option (Int):=if decide (0<=n154) then (idx j n154 λJ=>idx o n154 λR=>if !decide (J.n=R.n) then (idx j n154 λU=>idx o n154 λP3=>if decide (U.n<P3.n) then (some (-1)) else (some 1)) else (I (i64.wrap (n154-1)))) else (some 0)
def nQ (j:(List bU)) (o:(List bU)):Option (Int):=if !decide ((j.length:Int)=(o.length:Int)) then (some (i64.wrap ((j.length:Int)-(o.length:Int)))) else (iN (λI n=>rG j o I n) fY (i64.wrap ((j.length:Int)-1)))
def rH (R:(List bU)) (j:Int) (o:List bU) (n151:Int) (n152:Int) (J:(List bU×Int×Int)->Option ((List bU)×Int)):Option ((List bU)×Int):=if decide (0<=n152) then (idx R n152 λI=>cZ ((u64.wrap (j))≠0) (idx o n152 λU=>cZ ((u64.wrap (j))≠0) (J ((o.set ((n152:Int).toNat) ⟨u32.wrap (u64.wrap (Int.tdiv (u64.wrap ((BitVec.ofInt (u64).bits (tW .u64 n151 32) ||| BitVec.ofInt (u64).bits (u64.wrap (I.n))).toNat)) (u64.wrap (j))))⟩),Int.tmod (u64.wrap ((BitVec.ofInt (u64).bits (tW .u64 n151 32) ||| BitVec.ofInt (u64).bits (u64.wrap (I.n))).toNat)) (u64.wrap (j)),i64.wrap (n152-1))))) else (some (o,(u32.wrap (n151))))
def nS (j:(List bU)) (I:Int):Option ((List bU)×Int):=cZ (0<=(j.length:Int)/\(j.length:Int)*4<=140737488355328) (iN (λo n=>rH j I o.1 o.2.1 o.2.2 n) fY ((List.replicate ((j.length:Int):Int).toNat (⟨0⟩:bU)),0,i64.wrap ((j.length:Int)-1)))
def lq (n106:Int) (n107:Int):Option (Int):=idx (kB (⟨#[0,1,2,2,3,3,3,3,4,4,4,4,4,4,4,4,5,5,5,5,5,5,5,5,5,5,5,5,5,5,5,5,6,6,6,6,6,6,6,6,6,6,6,6,6,6,6,6,6,6,6,6,6,6,6,6,6,6,6,6,6,6,6,6,7,7,7,7,7,7,7,7,7,7,7,7,7,7,7,7,7,7,7,7,7,7,7,7,7,7,7,7,7,7,7,7,7,7,7,7,7,7,7,7,7,7,7,7,7,7,7,7,7,7,7,7,7,7,7,7,7,7,7,7,7,7,7,7,8,8,8,8,8,8,8,8,8,8,8,8,8,8,8,8,8,8,8,8,8,8,8,8,8,8,8,8,8,8,8,8,8,8,8,8,8,8,8,8,8,8,8,8,8,8,8,8,8,8,8,8,8,8,8,8,8,8,8,8,8,8,8,8,8,8,8,8,8,8,8,8,8,8,8,8,8,8,8,8,8,8,8,8,8,8,8,8,8,8,8,8,8,8,8,8,8,8,8,8,8,8,8,8,8,8,8,8,8,8,8,8,8,8,8,8,8,8,8,8,8,8,8,8,8,8,8,8]⟩)) (u8.wrap (n106)) λj=>some (i64.wrap (n107+(i64.wrap (j.n))))
def lu (n102:Int) (n103:Int):Option (Int):=if decide (256<=n102) then (lq (oF .u32 n102 8) (i64.wrap (n103+8))) else (lq n102 n103)
def qV (j:Int):Option (Int):=if decide (65536<=j) then (lu (oF .u32 j 16) 16) else (lu j 0)
def jT (j:Int):Option (Int):=(qV j).bind λo=>some (i64.wrap (32-o))
def so (j:Int) (o:Nat) (I:bU) (J:List bU) (n140:Int) (R:(List bU×Int)->Option ((List bU))):Option ((List bU)):=cZ (0<=j) (idx J (o:Int) λU=>R ((J.set (((o:Int):Int).toNat) ⟨u32.wrap (u64.wrap ((BitVec.ofInt (u64).bits n140 ||| BitVec.ofInt (u64).bits (tW .u64 (u64.wrap (I.n)) j)).toNat))⟩),oF .u64 (u64.wrap ((BitVec.ofInt (u64).bits n140 ||| BitVec.ofInt (u64).bits (tW .u64 (u64.wrap (I.n)) j)).toNat)) 32))
def oK (j:(List bU)) (I:Int):Option ((List bU)):=cZ (0<=(i64.wrap ((j.length:Int)+1))/\(i64.wrap ((j.length:Int)+1))*4<=140737488355328) (dI (λk y o n=>so I k y o.1 o.2 n) (λo=>idx o.1 (j.length:Int) λJ=>some (o.1.set (((j.length:Int):Int).toNat) ⟨u32.wrap (o.2)⟩)) 0 j ((List.replicate (i64.wrap ((j.length:Int)+1):Int).toNat (⟨0⟩:bU)),0))
def lj (o:List bU) (j:Int) (I:(List bU×List bU×Int)->Option ((List bU)×(List bU))) (J:List bU) (R:Int):Option ((List bU)×(List bU)):=idx o j λU=>I ((o.set ((j:Int).toNat) ⟨u32.wrap (R)⟩),J,i64.wrap (j-1))
def oT (P4:(List bU)) (P5:((List bU))) (o:Int) (j:Nat) (I:List bU) (J:Int) (P3:(List bU×Int)->Option ((List bU)×(List bU))):Option ((List bU)×(List bU)):=idx I (i64.wrap ((j:Int)+o)) λR=>idx (r8 P5 0 (((P4.length:Int):Int).toNat)) (j:Int) λU=>idx I (i64.wrap ((j:Int)+o)) λP6=>P3 ((I.set ((i64.wrap ((j:Int)+o):Int).toNat) ⟨u32.wrap (u64.wrap (J+(u64.wrap ((u64.wrap (R.n))+(u64.wrap (U.n))))))⟩),oF .u64 (u64.wrap (J+(u64.wrap ((u64.wrap (R.n))+(u64.wrap (U.n)))))) 32)
def oS (P6:(List bU)) (P7:((List bU))) (o:Int) (I:Int) (j:Nat) (J:List bU) (P3:Int) (R:Int) (P5:(List bU×Int×Int)->Option ((List bU)×(List bU))):Option ((List bU)×(List bU)):=idx (r8 P7 0 (((P6.length:Int):Int).toNat)) (j:Int) λU=>idx J (i64.wrap ((j:Int)+o)) λP4=>idx J (i64.wrap ((j:Int)+o)) λP8=>P5 ((J.set ((i64.wrap ((j:Int)+o):Int).toNat) ⟨u32.wrap (i64.wrap (P3+(i64.wrap ((i64.wrap (P4.n))-(i64.wrap (u64.wrap ((BitVec.ofInt (u64).bits (u64.wrap (R+(u64.wrap (I*(u64.wrap (U.n)))))) &&& BitVec.ofInt (u64).bits 4294967295).toNat)))))))⟩),oF .i64 (i64.wrap (P3+(i64.wrap ((i64.wrap (P4.n))-(i64.wrap (u64.wrap ((BitVec.ofInt (u64).bits (u64.wrap (R+(u64.wrap (I*(u64.wrap (U.n)))))) &&& BitVec.ofInt (u64).bits 4294967295).toNat))))))) 32,oF .u64 (u64.wrap (R+(u64.wrap (I*(u64.wrap (U.n)))))) 32)
def fW (I:(List bU)) (P5:((List bU))) (P4:List bU) (P6:List bU) (o:Int) (P3:(List bU×List bU×Int)->Option ((List bU)×(List bU))) (R:Int):Option ((List bU)×(List bU)):=kL (λk j n=>oS I P5 o R k j.1 j.2.1 j.2.2 n) (λj=>idx j.1 (i64.wrap (o+(I.length:Int))) λU=>idx j.1 (i64.wrap (o+(I.length:Int))) λP8=>if decide ((i64.wrap (j.2.1+(i64.wrap ((i64.wrap (U.n))-(i64.wrap (j.2.2))))))<0) then (kL (λk J n=>oT I P5 o k J.1 J.2 n) (λJ=>idx J.1 (i64.wrap (o+(I.length:Int))) λP7=>idx J.1 (i64.wrap (o+(I.length:Int))) λP9=>lj P4 o P3 (J.1.set ((i64.wrap (o+(I.length:Int)):Int).toNat) ⟨u32.wrap (P7.n+(u32.wrap (J.2)))⟩) (u64.wrap (R-1))) ((I.length:Int):Int).toNat 0 ((j.1.set ((i64.wrap (o+(I.length:Int)):Int).toNat) ⟨u32.wrap (i64.wrap (j.2.1+(i64.wrap ((i64.wrap (U.n))-(i64.wrap (j.2.2))))))⟩),0)) else (lj P4 o P3 (j.1.set ((i64.wrap (o+(I.length:Int)):Int).toNat) ⟨u32.wrap (i64.wrap (j.2.1+(i64.wrap ((i64.wrap (U.n))-(i64.wrap (j.2.2))))))⟩) R)) ((I.length:Int):Int).toNat 0 (P6,0,0)
def oU (j:(List bU)) (J:((List bU))) (P4:List bU) (R:List bU) (U:Int) (P3:(List bU×List bU×Int)->Option ((List bU)×(List bU))) (o:Int) (I:Int) (P5:(Int×Int)->Option ((List bU)×(List bU))):Option ((List bU)×(List bU)):=if decide (4294967296<=o) then (idx (r8 J 0 (((j.length:Int):Int).toNat)) (i64.wrap ((j.length:Int)-1)) λP6=>if decide (4294967296<=(u64.wrap (I+(u64.wrap (P6.n))))) then (fW j J P4 R U P3 (u64.wrap (o-1))) else (P5 (u64.wrap (o-1),u64.wrap (I+(u64.wrap (P6.n)))))) else (idx (r8 J 0 (((j.length:Int):Int).toNat)) (i64.wrap ((j.length:Int)-2)) λP8=>idx R (i64.wrap ((i64.wrap (U+(j.length:Int)))-2)) λP9=>if decide ((u64.wrap ((BitVec.ofInt (u64).bits (tW .u64 I 32) ||| BitVec.ofInt (u64).bits (u64.wrap (P9.n))).toNat))<(u64.wrap (o*(u64.wrap (P8.n))))) then (idx (r8 J 0 (((j.length:Int):Int).toNat)) (i64.wrap ((j.length:Int)-1)) λP7=>if decide (4294967296<=(u64.wrap (I+(u64.wrap (P7.n))))) then (fW j J P4 R U P3 (u64.wrap (o-1))) else (P5 (u64.wrap (o-1),u64.wrap (I+(u64.wrap (P7.n)))))) else (fW j J P4 R U P3 o))
def mG (R:(Int)) (o:List bU) (j:Nat) (I:List bU) (J:List bU->Option ((List bU)×(List bU))):Option ((List bU)×(List bU)):=idx o (i64.wrap ((j:Int)+1)) λU=>idx o (j:Int) λP3=>cZ (0<=R) (idx I (j:Int) λP4=>J (I.set (((j:Int):Int).toNat) ⟨u32.wrap (oF .u64 (u64.wrap ((BitVec.ofInt (u64).bits (tW .u64 (u64.wrap (U.n)) 32) ||| BitVec.ofInt (u64).bits (u64.wrap (P3.n))).toNat)) R)⟩))
def oR (j:(List bU)) (P9:(Int)) (R:((List bU))) (U:List bU) (o:List bU) (I:Int) (P8:(List bU×List bU×Int)->Option ((List bU)×(List bU))):Option ((List bU)×(List bU)):=if decide (0<=I) then (idx o (i64.wrap (I+(j.length:Int))) λP3=>idx o (i64.wrap ((i64.wrap (I+(j.length:Int)))-1)) λP4=>idx (r8 R 0 (((j.length:Int):Int).toNat)) (i64.wrap ((j.length:Int)-1)) λP5=>cZ ((u64.wrap (P5.n))≠0) (idx (r8 R 0 (((j.length:Int):Int).toNat)) (i64.wrap ((j.length:Int)-1)) λP6=>cZ ((u64.wrap (P6.n))≠0) (iN (λP7 n=>oU j R U o I P8 P7.1 P7.2 n) fY (u64.wrap (Int.tdiv (u64.wrap ((BitVec.ofInt (u64).bits (tW .u64 (u64.wrap (P3.n)) 32) ||| BitVec.ofInt (u64).bits (u64.wrap (P4.n))).toNat)) (u64.wrap (P5.n))),Int.tmod (u64.wrap ((BitVec.ofInt (u64).bits (tW .u64 (u64.wrap (P3.n)) 32) ||| BitVec.ofInt (u64).bits (u64.wrap (P4.n))).toNat)) (u64.wrap (P6.n)))))) else (cZ (0<=(j.length:Int)/\(j.length:Int)*4<=140737488355328) (kL (λk J n=>mG P9 o k J n) (λJ=>some (U,J)) ((j.length:Int):Int).toNat 0 (List.replicate ((j.length:Int):Int).toNat (⟨0⟩:bU))))
def nR (o:(List bU)) (j:(List bU)):Option ((List bU)×(List bU)):=(nQ o j).bind λP3=>if decide (P3<0) then (some ([],o)) else (if decide ((j.length:Int)=1) then (idx j 0 λP4=>(nS o P4.n).bind λR=>some (R.1,([⟨R.2⟩]:List bU))) else (idx j (i64.wrap ((j.length:Int)-1)) λP5=>(jT P5.n).bind λJ=>(oK o J).bind λP6=>(oK j J).bind λU=>cZ (0<=(j.length:Int)/\(j.length:Int)<=(U.length:Int)) (cZ (0<=(i64.wrap ((i64.wrap ((o.length:Int)-(j.length:Int)))+1))/\(i64.wrap ((i64.wrap ((o.length:Int)-(j.length:Int)))+1))*4<=140737488355328) (iN (λI n=>oR j J U I.1 I.2.1 I.2.2 n) fY ((List.replicate (i64.wrap ((i64.wrap ((o.length:Int)-(j.length:Int)))+1):Int).toNat (⟨0⟩:bU)),P6,i64.wrap ((o.length:Int)-(j.length:Int)))))))
def sI (j:Bool) (o:(List bU)):Option (aC):=some (aC.mk j o)
def uZ (o:Bool) (j:(List bU)) (P3:Bool) (I:(List bU)) (U:(Bool×(List bU)×Bool×(List bU))->Option (aC)):Option (aC):=if !decide ((fD (aC.mk o j))=0) then ((nR I j).bind λJ=>cZ (J.2.length*4<=140737488355328) ((jH false J.2).bind λR=>U (R.minus,R.words,o,j))) else (sI P3 I)
def pR (o:aC) (I:aC):Option (aC):=iN (λj n=>uZ j.1 j.2.1 j.2.2.1 j.2.2.2 n) fY (false,I.words,false,o.words)
def lQ (j:List bU) (I:(List bU×Int)->Option ((List bU))) (o:Nat) (n198:Int):Option ((List bU)):=idx j (o:Int) λJ=>I ((j.set (((o:Int):Int).toNat) ⟨u32.wrap (n198)⟩),oF .u64 n198 32)
def rF (U:(List bU)) (I:(List bU)) (j:Nat) (J:List bU) (n176:Int) (o:(List bU×Int)->Option ((List bU))):Option ((List bU)):=idx U (j:Int) λR=>if decide ((j:Int)<(I.length:Int)) then (idx I (j:Int) λP3=>lQ J o j (u64.wrap ((u64.wrap (n176+(u64.wrap (R.n))))+(u64.wrap (P3.n))))) else (lQ J o j (u64.wrap (n176+(u64.wrap (R.n)))))
def lR (j:(List bU)) (I:(List bU)):Option ((List bU)):=cZ (0<=(i64.wrap ((j.length:Int)+1))/\(i64.wrap ((j.length:Int)+1))*4<=140737488355328) (kL (λk o n=>rF j I k o.1 o.2 n) (λo=>idx o.1 (j.length:Int) λJ=>some (o.1.set (((j.length:Int):Int).toNat) ⟨u32.wrap (o.2)⟩)) ((j.length:Int):Int).toNat 0 ((List.replicate (i64.wrap ((j.length:Int)+1):Int).toNat (⟨0⟩:bU)),0))
def pM (j:(List bU)) (o:(List bU)):Option ((List bU)):=if decide ((j.length:Int)<(o.length:Int)) then (lR o j) else (lR j o)
def lS (j:List bU) (I:(List bU×Int)->Option ((List bU))) (o:Nat) (n190:Int):Option ((List bU)):=idx j (o:Int) λJ=>I ((j.set (((o:Int):Int).toNat) ⟨u32.wrap (n190)⟩),oF .i64 n190 32)
def rI (U:(List bU)) (I:(List bU)) (j:Nat) (J:List bU) (n168:Int) (o:(List bU×Int)->Option ((List bU))):Option ((List bU)):=idx U (j:Int) λR=>if decide ((j:Int)<(I.length:Int)) then (idx I (j:Int) λP3=>lS J o j (i64.wrap ((i64.wrap (n168+(i64.wrap (R.n))))-(i64.wrap (P3.n))))) else (lS J o j (i64.wrap (n168+(i64.wrap (R.n)))))
def nT (j:(List bU)) (I:(List bU)):Option ((List bU)):=cZ (0<=(j.length:Int)/\(j.length:Int)*4<=140737488355328) (kL (λk o n=>rI j I k o.1 o.2 n) (λo=>some o.1) ((j.length:Int):Int).toNat 0 ((List.replicate ((j.length:Int):Int).toNat (⟨0⟩:bU)),0))
def lV (j:aC) (o:aC):Option (aC):=if decide (j.minus=o.minus) then ((pM j.words o.words).bind λI=>(jH j.minus I).bind λJ=>some J) else ((nQ j.words o.words).bind λR=>if decide (0<=R) then ((nT j.words o.words).bind λU=>(jH j.minus U).bind λP3=>some P3) else ((nT o.words j.words).bind λP4=>(jH o.minus P4).bind λP5=>some P5))
def oG (j:aC) (o:aC):Option (aC):=(lW o).bind λI=>(lV j I).bind λJ=>some J
def me (c194:Bool) (j:(List bU)) (c198:Bool) (o:(List bU)):Option (aC×aC):=some ((aC.mk c198 o),(aC.mk c194 j))
def cR (I:aC) (R:aC):Option (aC×aC):=(nR I.words R.words).bind λj=>cZ (j.1.length*4<=140737488355328) ((jH I.minus j.1).bind λJ=>cZ (j.2.length*4<=140737488355328) ((jH I.minus j.2).bind λo=>if o.minus then ((mY 1).bind λP4=>(oG J P4).bind λU=>(lV o R).bind λP3=>me P3.minus P3.words U.minus U.words) else (me o.minus o.words J.minus J.words)))
def nP (o:Bool) (j:(List bU)) (c127:Bool) (I:(List bU)):Option (aA):=if decide ((j.length:Int)=1) then (idx j 0 λP_=>if decide (P_.n=1) then (some (aA.mk (aC.mk c127 I) (aC.mk o j))) else ((pR (aC.mk c127 I) (aC.mk o j)).bind λJ=>if decide ((J.words.length:Int)=1) then (idx J.words 0 λQa=>if decide (Qa.n=1) then (some (aA.mk (aC.mk c127 I) (aC.mk o j))) else ((cR (aC.mk false I) J).bind λU=>(cR (aC.mk o j) J).bind λP6=>if c127 then (some (aA.mk (aC.mk (decide (0<(U.1.words.length:Int))) U.1.words) P6.1)) else (some (aA.mk (aC.mk false U.1.words) P6.1)))) else ((cR (aC.mk false I) J).bind λP3=>(cR (aC.mk o j) J).bind λP7=>if c127 then (some (aA.mk (aC.mk (decide (0<(P3.1.words.length:Int))) P3.1.words) P7.1)) else (some (aA.mk (aC.mk false P3.1.words) P7.1))))) else ((pR (aC.mk c127 I) (aC.mk o j)).bind λR=>if decide ((R.words.length:Int)=1) then (idx R.words 0 λQb=>if decide (Qb.n=1) then (some (aA.mk (aC.mk c127 I) (aC.mk o j))) else ((cR (aC.mk false I) R).bind λP4=>(cR (aC.mk o j) R).bind λP8=>if c127 then (some (aA.mk (aC.mk (decide (0<(P4.1.words.length:Int))) P4.1.words) P8.1)) else (some (aA.mk (aC.mk false P4.1.words) P8.1)))) else ((cR (aC.mk false I) R).bind λP5=>(cR (aC.mk o j) R).bind λP9=>if c127 then (some (aA.mk (aC.mk (decide (0<(P5.1.words.length:Int))) P5.1.words) P9.1)) else (some (aA.mk (aC.mk false P5.1.words) P9.1))))
def nL (o:aC) (j:aC):Option (aA):=if j.minus then ((lW o).bind λI=>(lW j).bind λJ=>nP J.minus J.words I.minus I.words) else (nP j.minus j.words o.minus o.words)
def rp (j:Int) (o:Int):Option (aA):=(mY j).bind λI=>(mY o).bind λJ=>(nL I J).bind λR=>some R
def sj (J:bU) (j:Nat) (o:Nat) (R:bU) (I:List bU) (n337:Int) (P3:(List bU×Int)->Option (aC)):Option (aC):=idx I (i64.wrap ((j:Int)+(o:Int))) λU=>idx I (i64.wrap ((j:Int)+(o:Int))) λP4=>P3 ((I.set ((i64.wrap ((j:Int)+(o:Int)):Int).toNat) ⟨u32.wrap (u64.wrap (n337+(u64.wrap ((u64.wrap (U.n))+(u64.wrap ((u64.wrap (J.n))*(u64.wrap (R.n))))))))⟩),oF .u64 (u64.wrap (n337+(u64.wrap ((u64.wrap (U.n))+(u64.wrap ((u64.wrap (J.n))*(u64.wrap (R.n)))))))) 32)
def si (o:aC) (I:Nat) (R:bU) (U:List bU) (J:List bU->Option (aC)):Option (aC):=dI (λk y j n=>sj R I k y j.1 j.2 n) (λj=>idx j.1 (i64.wrap ((I:Int)+(o.words.length:Int))) λP3=>J (j.1.set ((i64.wrap ((I:Int)+(o.words.length:Int)):Int).toNat) ⟨u32.wrap (j.2)⟩)) 0 o.words (U,0)
def fF (j:aC) (o:aC):Option (aC):=cZ (0<=(i64.wrap ((j.words.length:Int)+(o.words.length:Int)))/\(i64.wrap ((j.words.length:Int)+(o.words.length:Int)))*4<=140737488355328) (dI (λk y I n=>si o k y I n) (λI=>(jH (!decide (j.minus=o.minus)) I).bind λJ=>some J) 0 j.words (List.replicate (i64.wrap ((j.words.length:Int)+(o.words.length:Int)):Int).toNat (⟨0⟩:bU)))
def lX (j:aA) (o:aA):Option (aA):=(fF j.N o.N).bind λI=>(fF j.D o.D).bind λJ=>(nL I J).bind λR=>some R
def kU (j:Int):Option (aA):=(mY j).bind λo=>(mY 1).bind λI=>some (aA.mk o I)
def nM (j:Int):Option ((List aA)):=(kU 0).bind λo=>cZ (([o]).length=1/\0<=j/\j*64<=140737488355328) (some (GD ([o]) j))
def oE (I:(List Int)) (J:Int) (j:Nat) (o:Unit->Option (Int)):Option (Int):=idx I (j:Int) λR=>if decide (J=R) then (some (j:Int)) else (o ())
def lK (j:(List Int)) (o:Int):Option (Int):=kL (λk I n=>oE j o k n) (λ_=>some (-1)) ((j.length:Int):Int).toNat 0 ()
def mg (j:bA) (bus:Int):Option (Int):=(lK j.qX bus).bind λo=>some o
def iQ (j:aA) (o:aA):Option (aA):=(fF j.N o.D).bind λI=>(fF o.N j.D).bind λJ=>(lV I J).bind λR=>(fF j.D o.D).bind λU=>(nL R U).bind λP3=>some P3
def oI (j:aA):Option (aA):=(lW j.N).bind λo=>some (aA.mk o j.D)
def jZ (j:aA) (o:aA):Option (aA):=(oI o).bind λI=>(iQ j I).bind λJ=>some J
def vM (I:Nat) (J:(List aA)) (j:List Nat) (o:List (List aA)) (R:(List Nat×List (List aA))->Option ((List Nat×List (List aA)))):Option ((List Nat×List (List aA))):=cZ ((([]:List aA).length+J.length)*64<=140737488355328) (idx j (I:Int) λU=>R ((j.set (((I:Int):Int).toNat) o.length),(o++[([]:List aA)++J])))
def u9 (o:(List (List aA))):Option ((List Nat×List (List aA))):=cZ (0<=(o.length:Int)/\(o.length:Int)*24<=140737488355328) (dI (λk y j n=>vM k y j.1 j.2 n) (λj=>some (j.1,j.2)) 0 o ((List.replicate ((o.length:Int):Int).toNat 0),([[]])))
def cX (j:aA):Int:=(fD j.N)
def qz (j:aA) (o:aA):Option (aA):=(fF j.N o.D).bind λI=>(fF j.D o.N).bind λJ=>(nL I J).bind λR=>some R
def oV (J:Int) (j:(List Int×Int×List Nat×List (List aA))->Option ((List Nat×List (List aA))×(List Int))) (R:List Int) (o:List Nat) (I:List (List aA)):Option ((List Nat×List (List aA))×(List Int)):=j (R,i64.wrap (J+1),o,I)
def kJ (j:List (List aA)->Option ((List Nat×List (List aA))×(List Int))) (o:List (List aA)):Option ((List Nat×List (List aA))×(List Int)):=j o
def mT (I:Int) (j:(Int×List (List aA))->Option ((List Nat×List (List aA))×(List Int))) (o:List (List aA)):Option ((List Nat×List (List aA))×(List Int)):=j (i64.wrap (I+1),o)
def oX (I:List Int) (J:List Nat) (R:Int) (U:Nat) (P3:Nat) (P7:List (List aA)->Option ((List Nat×List (List aA))×(List Int))) (P4:Nat) (P8:aA) (o:Int) (j:List (List aA)) (P6:(Int×List (List aA))->Option ((List Nat×List (List aA))×(List Int))):Option ((List Nat×List (List aA))×(List Int)):=idx ((J.set (((I.length:Int):Int).toNat) U).set ((R:Int).toNat) P3) (P4:Int) λP9=>if decide (o<(((j[P9]?).getD []).length:Int)) then (idx ((J.set (((I.length:Int):Int).toNat) U).set ((R:Int).toNat) P3) (I.length:Int) λP_=>idx ((j[P_]?).getD []) o λQa=>if !decide ((cX Qa)=0) then (idx ((J.set (((I.length:Int):Int).toNat) U).set ((R:Int).toNat) P3) (P4:Int) λP5=>idx ((J.set (((I.length:Int):Int).toNat) U).set ((R:Int).toNat) P3) (P4:Int) λQb=>idx ((j[Qb]?).getD []) o λQc=>idx ((J.set (((I.length:Int):Int).toNat) U).set ((R:Int).toNat) P3) (I.length:Int) λQd=>idx ((j[Qd]?).getD []) o λQe=>(lX P8 Qe).bind λQf=>(jZ Qc Qf).bind λQg=>idx ((j[P5]?).getD []) o λQh=>mT o P6 (j.set P5 (((j[P5]?).getD []).set ((o:Int).toNat) Qg))) else (mT o P6 j)) else (kJ P7 j)
def qU (o:List Int) (U:Int) (J:List Nat) (P3:Int) (P4:Nat) (P5:Nat) (I:Nat) (j:List (List aA)) (R:List (List aA)->Option ((List Nat×List (List aA))×(List Int))):Option ((List Nat×List (List aA))×(List Int)):=if decide ((I:Int)=(o.length:Int)) then (kJ R j) else (idx ((J.set (((o.length:Int):Int).toNat) P4).set ((P3:Int).toNat) P5) (I:Int) λP7=>idx ((j[P7]?).getD []) U λP8=>if decide ((cX P8)=0) then (kJ R j) else (idx ((J.set (((o.length:Int):Int).toNat) P4).set ((P3:Int).toNat) P5) (I:Int) λP9=>idx ((j[P9]?).getD []) U λP_=>iN (λP6 n=>oX o J P3 P4 P5 R I P_ P6.1 P6.2 n) fY (U,j)))
def oW (j:List Int) (P4:Int) (o:List Nat) (P7:(List Int×Int×List Nat×List (List aA))->Option ((List Nat×List (List aA))×(List Int))) (J:Int) (R:Nat) (U:Nat) (P9:aA) (P3:Int) (I:List (List aA)) (P8:(Int×List (List aA))->Option ((List Nat×List (List aA))×(List Int))):Option ((List Nat×List (List aA))×(List Int)):=idx ((o.set (((j.length:Int):Int).toNat) R).set ((J:Int).toNat) U) (j.length:Int) λP_=>if decide (P3<(((I[P_]?).getD []).length:Int)) then (idx ((o.set (((j.length:Int):Int).toNat) R).set ((J:Int).toNat) U) (j.length:Int) λP5=>idx ((o.set (((j.length:Int):Int).toNat) R).set ((J:Int).toNat) U) (j.length:Int) λQa=>idx ((I[Qa]?).getD []) P3 λQb=>(qz Qb P9).bind λQc=>idx ((I[P5]?).getD []) P3 λQd=>P8 (i64.wrap (P3+1),(I.set P5 (((I[P5]?).getD []).set ((P3:Int).toNat) Qc)))) else (cZ ((((o.set (((j.length:Int):Int).toNat) R).set ((J:Int).toNat) U).length:Int)<=9223372036854775807) (kL (λk P6 n=>qU j P4 o J R U k P6 n) (λP6=>cZ ((j.length+([P4]:List Int).length)*8<=140737488355328) (oV P4 P7 (j++([P4]:List Int)) ((o.set (((j.length:Int):Int).toNat) R).set ((J:Int).toNat) U) P6)) ((((o.set (((j.length:Int):Int).toNat) R).set ((J:Int).toNat) U).length:Int):Int).toNat 0 I))
def oY (o:List Int) (J:Int) (j:List Nat) (R:List (List aA)) (P3:(List Int×Int×List Nat×List (List aA))->Option ((List Nat×List (List aA))×(List Int))) (I:Int):Option ((List Nat×List (List aA))×(List Int)):=if decide (I=(j.length:Int)) then (oV J P3 o j R) else (idx j I λU=>idx j (o.length:Int) λP4=>idx j (o.length:Int) λP8=>idx (j.set (((o.length:Int):Int).toNat) U) I λP9=>idx ((j.set (((o.length:Int):Int).toNat) U).set ((I:Int).toNat) P4) (o.length:Int) λP6=>idx ((R[P6]?).getD []) J λP7=>iN (λP5 n=>oW o J j P3 I U P4 P7 P5.1 P5.2 n) fY (J,R))
def sK (U:List Int) (J:Int) (j:List Nat) (I:List (List aA)) (R:(List Int×Int×List Nat×List (List aA))->Option ((List Nat×List (List aA))×(List Int))) (o:Int) (P3:Int->Option ((List Nat×List (List aA))×(List Int))):Option ((List Nat×List (List aA))×(List Int)):=if decide (o<(j.length:Int)) then (idx j o λP4=>idx ((I[P4]?).getD []) J λP5=>if decide ((cX P5)=0) then (P3 (i64.wrap (o+1))) else (oY U J j I R o)) else (oY U J j I R o)
def mS (cols:Int) (j:List Int) (J:Int) (o:List Nat) (I:List (List aA)) (R:(List Int×Int×List Nat×List (List aA))->Option ((List Nat×List (List aA))×(List Int))):Option ((List Nat×List (List aA))×(List Int)):=if (decide (J<cols)) && (decide ((j.length:Int)<(o.length:Int))) then (iN (λU n=>sK j J o I R U n) fY (j.length:Int)) else (some ((o,I),j))
def rq (I:(List (List aA))) (cols:Int):Option ((List Nat×List (List aA))×(List Int)):=(u9 I).bind λo=>iN (λj n=>mS cols j.1 j.2.1 j.2.2.1 j.2.2.2 n) fY (([]:List Int),0,o.1,o.2)
def tB (R:(List (List aA))) (J:Nat) (j:List Nat) (I:List (List aA)) (U:(List Nat×List (List aA))->Option ((List (List aA))×Bool)):Option ((List (List aA))×Bool):=idx j (J:Int) λo=>cZ (0<=(R.length:Int)/\(R.length:Int)<=(((I[o]?).getD []).length:Int)) (idx j (J:Int) λP3=>cZ (lone j (((J:Int):Int).toNat) o=true) (U ((j.set (((J:Int):Int).toNat) o),(I.set o (((I[o]?).getD []).drop ((R.length:Int):Int).toNat)))))
def tA (R:(List (List aA))) (j:Nat) (J:List Nat) (o:List (List aA)) (P4:(List Nat×List (List aA))->Option ((List (List aA))×Bool)):Option ((List (List aA))×Bool):=idx R (j:Int) λI=>cZ ((([]:List aA).length+I.length)*64<=140737488355328) ((nM (R.length:Int)).bind λU=>cZ (((([]:List aA)++I).length+U.length)*64<=140737488355328) (idx J (j:Int) λP6=>idx (J.set (((j:Int):Int).toNat) o.length) (j:Int) λP3=>(kU 1).bind λP5=>idx (((o++[(([]:List aA)++I)++U])[P3]?).getD []) (i64.wrap ((R.length:Int)+(j:Int))) λP7=>P4 ((J.set (((j:Int):Int).toNat) o.length),((o++[(([]:List aA)++I)++U]).set P3 ((((o++[(([]:List aA)++I)++U])[P3]?).getD []).set ((i64.wrap ((R.length:Int)+(j:Int)):Int).toNat) P5)))))
def qG (j:(List (List aA))):Option ((List (List aA))×Bool):=cZ (0<=(j.length:Int)/\(j.length:Int)*24<=140737488355328) (kL (λk o n=>tA j k o.1 o.2 n) (λo=>(rq (rM o.1 o.2) (j.length:Int)).bind λI=>if decide ((I.2.length:Int)<(j.length:Int)) then (some ([],false)) else (cZ ((I.1.1.length:Int)<=9223372036854775807) (kL (λk J n=>tB j k J.1 J.2 n) (λJ=>some (rM J.1 J.2,true)) ((I.1.1.length:Int):Int).toNat 0 (I.1.1,I.1.2)))) ((j.length:Int):Int).toNat 0 ((List.replicate ((j.length:Int):Int).toNat 0),([[]])))
def gR (j:List (List aA)->Option (bA)) (o:List (List aA)):Option (bA):=j o
def jN (R:List Nat) (P4:List (List aA)->Option (bA)) (P5:aA) (J:(Int)) (o:(Int)) (j:List (List aA)):Option (bA):=if (decide (0<=J)) && (decide (0<=o)) then (idx R J λI=>idx R o λU=>idx R J λP6=>idx ((j[P6]?).getD []) o λP7=>(jZ P7 P5).bind λP3=>idx R o λP8=>idx ((j[P8]?).getD []) J λP9=>(jZ P9 P5).bind λP_=>idx ((j[I]?).getD []) o λQa=>idx (((j.set I (((j[I]?).getD []).set ((o:Int).toNat) P3))[U]?).getD []) J λQb=>gR P4 ((j.set I (((j[I]?).getD []).set ((o:Int).toNat) P3)).set U ((((j.set I (((j[I]?).getD []).set ((o:Int).toNat) P3))[U]?).getD []).set ((J:Int).toNat) P_))) else (gR P4 j)
def jO (I:List Nat) (U:List (List aA)->Option (bA)) (J:aA) (P3:(Int)) (j:(Int)) (o:List (List aA)):Option (bA):=if decide (0<=j) then (idx I j λR=>idx I j λP4=>idx ((o[P4]?).getD []) j λP5=>(iQ P5 J).bind λP6=>idx ((o[R]?).getD []) j λP7=>jN I U J P3 j (o.set R (((o[R]?).getD []).set ((j:Int).toNat) P6))) else (jN I U J P3 j o)
def k_ (I:bA) (J:List Nat) (P4:Nat) (U:aA) (o:List (List aA)) (R:List (List aA)->Option (bA)):Option (bA):=idx I.pI (P4:Int) λP6=>(mg I P6).bind λj=>idx I.To (P4:Int) λP7=>(mg I P7).bind λP5=>idx I.pI (P4:Int) λP8=>idx I.To (P4:Int) λP9=>if decide (P8=P9) then (gR R o) else (if decide (0<=j) then (idx J j λP3=>idx J j λP_=>idx ((o[P_]?).getD []) j λQa=>(iQ Qa U).bind λQb=>idx ((o[P3]?).getD []) j λQc=>jO J R U j P5 (o.set P3 (((o[P3]?).getD []).set ((j:Int).toNat) Qb))) else (jO J R U j P5 o))
def pZ (R:bA) (I:Nat) (j:List Nat) (o:List (List aA)) (J:(List Nat×List (List aA))->Option (bA)):Option (bA):=(nM (R.qX.length:Int)).bind λU=>idx j (I:Int) λP3=>J ((j.set (((I:Int):Int).toNat) o.length),(o++[U]))
def nj (j:bA):Option (bA):=cZ (0<=(j.qX.length:Int)/\(j.qX.length:Int)*24<=140737488355328) (cZ (((List.replicate ((j.qX.length:Int):Int).toNat 0).length:Int)<=9223372036854775807) (kL (λk o n=>pZ j k o.1 o.2 n) (λo=>dI (λk y I n=>k_ j o.1 k y I n) (λI=>(qG (rM o.1 I)).bind λJ=>some (bA.mk j.vJ j.pI j.To j.B_ j.C j.qX J.1)) 0 j.B_ o.2) (((List.replicate ((j.qX.length:Int):Int).toNat 0).length:Int):Int).toNat 0 ((List.replicate ((j.qX.length:Int):Int).toNat 0),([[]]))))
def rm (o:(List (Int×Bool))) (j:((List (Int×Bool))×List Int)->Option ((Option bA))) (I:Int) (J:List Int):Option ((Option bA)):=j ((vr o I true),J)
def wP (R:Nat) (j:Int) (o:(List (Int×Bool))) (I:List Int) (J:((List (Int×Bool))×List Int)->Option ((Option bA))):Option ((Option bA)):=if (rL o j).getD false then (cZ ((I.length+([((R:Int))]:List Int).length)*8<=140737488355328) (rm o J j (I++([((R:Int))]:List Int)))) else (rm o J j I)
def wO (I:aD) (J:(aZ)) (Qb:Nat) (j:aP) (R:List Int) (U:List Int) (P3:List aA) (P4:List aA) (P8:(List Int×List Int×List aA×List aA)->Option ((Option bA))):Option ((Option bA)):=(bG I.bF j.pI).bind λP9=>idx J.qq P9 λP5=>cZ ((R.length+([P5]:List Int).length)*8<=140737488355328) ((bG I.bF j.To).bind λP_=>idx J.qq P_ λP6=>cZ ((U.length+([P6]:List Int).length)*8<=140737488355328) ((rp 1000000 (i64.wrap (j.X*j.AZ))).bind λo=>cZ ((P3.length+([o]).length)*64<=140737488355328) ((rp (i64.wrap (0-j.Shift)) 1000).bind λQa=>(lX o Qa).bind λP7=>cZ ((P4.length+([P7]).length)*64<=140737488355328) (P8 ((R++([P5]:List Int)),(U++([P6]:List Int)),(P3++([o])),(P4++([P7])))))))
def uM (I:aD):Option ((Option bA)):=(dZ I).bind λJ=>dI (λk y j n=>wO I J k y j.1 j.2.1 j.2.2.1 j.2.2.2 n) (λj=>dI (λk y o n=>wP k y o.1 o.2 n) (λo=>(nj (bA.mk J j.1 j.2.1 j.2.2.1 j.2.2.2 o.2 [])).bind λR=>some (some R)) 0 J.bR (([]:(List (Int×Bool))),([]:List Int))) 0 I.aI (([]:List Int),([]:List Int),([]:List aA),([]:List aA))
def c_ (j:bA):Int:=(j.vJ.bR.length:Int)
def q8 (R:Nat) (J:Int) (j:List aA) (I:List aA->Option ((List aA))):Option ((List aA)):=(kU J).bind λo=>cZ ((j.length+([o]).length)*64<=140737488355328) (I (j++([o])))
def q7 (J:bA) (R:Nat) (U:Int) (j:List Int) (I:List Int->Option ((List aA))):Option ((List aA)):=idx J.vJ.qq (R:Int) λo=>idx j o λP3=>idx j o λP4=>I (j.set ((o:Int).toNat) (i64.wrap (P3+U)))
def oN (j:bA) (inject:(List Int)):Option ((List aA)):=cZ (0<=(c_ j)/\(c_ j)*8<=140737488355328) (dI (λk y o n=>q7 j k y o n) (λo=>dI (λk y I n=>q8 k y I n) (λI=>some I) 0 o ([]:List aA)) 0 inject (List.replicate ((c_ j):Int).toNat (0:Int)))
def mF (j:(Bool×(List bU)×Bool×(List bU))->Option (aA)) (o:Bool) (I:(List bU)) (J:Bool) (R:(List bU)):Option (aA):=j (o,I,J,R)
def uY (P4:(List aA)) (P5:(List aA)) (o:Nat) (J:Bool) (R:(List bU)) (U:Bool) (P3:(List bU)) (j:(Bool×(List bU)×Bool×(List bU))->Option (aA)):Option (aA):=idx P4 (o:Int) λP6=>if decide ((cX P6)=0) then (mF j J R U P3) else (idx P5 (o:Int) λP7=>if !decide ((cX P7)=0) then (idx P4 (o:Int) λP8=>idx P5 (o:Int) λP9=>(lX P8 P9).bind λP_=>(iQ (aA.mk (aC.mk J R) (aC.mk U P3)) P_).bind λI=>mF j I.N.minus I.N.words I.D.minus I.D.words) else (mF j J R U P3))
def tT (I:(List aA)) (J:(List aA)):Option (aA):=(kU 0).bind λo=>kL (λk j n=>uY I J k j.1 j.2.1 j.2.2.1 j.2.2.2 n) (λj=>some (aA.mk (aC.mk j.1 j.2.1) (aC.mk j.2.2.1 j.2.2.2))) ((I.length:Int):Int).toNat 0 (o.N.minus,o.N.words,o.D.minus,o.D.words)
def pY (J:bA) (R:List aA) (U:Nat) (j:Int) (o:List aA) (I:List aA->Option ((List aA))):Option ((List aA)):=idx J.rl (U:Int) λP3=>(tT P3 R).bind λP4=>idx o j λP5=>I (o.set ((j:Int).toNat) P4)
def pX (J:(List aA)) (j:Nat) (R:Int) (o:List aA) (I:List aA->Option ((List aA))):Option ((List aA)):=idx J R λU=>idx o (j:Int) λP3=>I (o.set (((j:Int):Int).toNat) U)
def ni (j:bA) (J:(List aA)):Option ((List aA)):=cZ (0<=(j.qX.length:Int)/\(j.qX.length:Int)*64<=140737488355328) (dI (λk y o n=>pX J k y o n) (λo=>(nM (c_ j)).bind λR=>dI (λk y I n=>pY j o k y I n) (λI=>some I) 0 j.qX R) 0 j.qX (List.replicate ((j.qX.length:Int):Int).toNat ((aA.mk (aC.mk false []) (aC.mk false [])):aA)))
def nI (o:bA) (I:Nat) (U:aA) (j:List aA) (P4:List aA->Option ((List aA))):Option ((List aA)):=idx o.pI (I:Int) λJ=>idx o.pI (I:Int) λP5=>idx j P5 λP6=>(jZ P6 U).bind λR=>idx j J λP_=>idx o.To (I:Int) λP3=>idx o.To (I:Int) λP7=>idx (j.set ((J:Int).toNat) R) P7 λP8=>(iQ P8 U).bind λP9=>idx (j.set ((J:Int).toNat) R) P3 λQa=>P4 ((j.set ((J:Int).toNat) R).set ((P3:Int).toNat) P9)
def nh (j:bA) (I:(List aA)):Option ((List aA)):=cZ (I.length*64<=140737488355328) (dI (λk y o n=>nI j k y o n) (λo=>(ni j o).bind λJ=>some J) 0 j.C I)
def lO (n291:Int) (I:(Int×List U8)->Option (Qi×Bool)) (j:bU) (o:List U8):Option (Qi×Bool):=cZ (o.length+(my (u64.wrap (j.n))).size<=140737488355328) (I (i64.wrap (n291-1),(o++kB (my (u64.wrap (j.n))))))
def lP (j:List U8) (o:Qi):Option (Qi×Bool):=some (o,(decide (((y_ j).size:Int)<=2000)))
def pH (R:aC) (J:List bU) (n291:Int) (j:List U8) (I:(Int×List U8)->Option (Qi×Bool)):Option (Qi×Bool):=if decide (0<=n291) then (idx J n291 λo=>cZ (0<=(u64.wrap (o.n))/\(u64.wrap (o.n))<=18446744073709551615) (if decide (n291<(i64.wrap ((J.length:Int)-1))) then (cZ (0<=((my (u64.wrap (o.n))).size:Int)/\((my (u64.wrap (o.n))).size:Int)<=((⟨#[48,48,48,48,48,48,48,48,48]⟩:Qi).size:Int)) (cZ (j.length+((⟨#[48,48,48,48,48,48,48,48,48]⟩:Qi).extract ((((my (u64.wrap (o.n))).size:Int):Int).toNat) ((⟨#[48,48,48,48,48,48,48,48,48]⟩:Qi).size)).size<=140737488355328) (lO n291 I o (j++kB ((⟨#[48,48,48,48,48,48,48,48,48]⟩:Qi).extract ((((my (u64.wrap (o.n))).size:Int):Int).toNat) ((⟨#[48,48,48,48,48,48,48,48,48]⟩:Qi).size)))))) else (lO n291 I o j))) else (cZ (0<j.length) (if R.minus then (cZ ((⟨#[45]⟩:Qi).size+(y_ j).size<=maxLen) (lP j ((⟨#[45]⟩:Qi)++(y_ j)))) else (lP j (y_ j))))
def rE (U:aC) (j:List bU) (I:(List bU)) (R:(List bU×(List bU))->Option (Qi×Bool)):Option (Qi×Bool):=if decide (0<(I.length:Int)) then ((nS I 1000000000).bind λo=>cZ ((j.length+([⟨o.2⟩]:List bU).length)*4<=140737488355328) ((jH false o.1).bind λP3=>R ((j++([⟨o.2⟩]:List bU)),P3.words))) else (iN (λJ n=>pH U j J.1 J.2 n) fY (i64.wrap ((j.length:Int)-1),([]:List U8)))
def lg (j:aC):Option (Qi×Bool):=if decide ((j.words.length:Int)=0) then (some ((⟨#[48]⟩),true)) else (if decide (210<(j.words.length:Int)) then (some ((⟨#[]⟩),false)) else (iN (λo n=>rE j o.1 o.2 n) fY (([]:List bU),j.words)))
def pL (I:aA):Option (Qi×Bool):=(lg I.N).bind λj=>if !j.2 then (some ((⟨#[]⟩),false)) else ((lg I.D).bind λo=>if decide (o.1=(⟨#[49]⟩)) then (some (j.1,o.2)) else (cZ (j.1.size+(⟨#[47]⟩:Qi).size<=maxLen) (cZ ((j.1++(⟨#[47]⟩)).size+o.1.size<=maxLen) (some (((j.1++(⟨#[47]⟩))++o.1),o.2)))))
def tz (j:Nat) (R:aA) (o:List Qi) (J:List Qi->Option ((List Qi)×Bool)):Option ((List Qi)×Bool):=(pL R).bind λI=>if !I.2 then (some (([]:List Qi),false)) else (idx o (j:Int) λU=>J (o.set (((j:Int):Int).toNat) I.1))
def tI (j:(List aA)):Option ((List Qi)×Bool):=cZ (0<=(j.length:Int)/\(j.length:Int)*16<=140737488355328) (dI (λk y o n=>tz k y o n) (λo=>some (o,true)) 0 j (List.replicate ((j.length:Int):Int).toNat ((⟨#[]⟩):Qi)))
def nU (o:(List aA)):Option ((List Qi)×Int):=(tI o).bind λj=>if !j.2 then (some (([]:List Qi),2)) else (some (j.1,0))
def qJ (j:bA) (I:(List aA)) (o:Nat) (P3:aA) (J:List aA) (U:List aA->Option ((List aA))):Option ((List aA)):=idx j.B_ (o:Int) λP4=>idx j.pI (o:Int) λP5=>idx I P5 λP6=>idx j.To (o:Int) λP7=>idx I P7 λP8=>(jZ P6 P8).bind λP9=>(lX P4 P9).bind λP_=>(iQ P_ P3).bind λR=>cZ ((J.length+([R]).length)*64<=140737488355328) (U (J++([R])))
def nZ (o:bA) (I:(List aA)):Option ((List aA)):=dI (λk y j n=>qJ o I k y j n) (λj=>some j) 0 o.C ([]:List aA)
def nJ (j:aD) (inject:(List Int)):Option (cG×Int):=(nH j inject).bind λo=>if !decide (o=0) then (some ((cG.mk ([]:List Qi) ([]:List Qi)),o)) else ((uM j).bind λU=>Am U none (λsp108=>(oN sp108 inject).bind λP3=>(nh sp108 P3).bind λI=>(nU I).bind λJ=>(nZ sp108 I).bind λP4=>(nU P4).bind λR=>if (!decide (J.2=0)) || (!decide (R.2=0)) then (some ((cG.mk ([]:List Qi) ([]:List Qi)),2)) else (some ((cG.mk J.1 R.1),0))))
def fV (j:Qi) (o:Int):Int:=(Nl j o)
def iP (j:Qi) (substr:Qi):Option (Int):=if (decide ((substr.size:Int)=0)) || (decide (substr=j)) then (some 0) else (if decide ((substr.size:Int)=1) then (idx (kB substr) 0 λo=>some (fV j o.n)) else (if decide ((j.size:Int)<=(substr.size:Int)) then (some (-1)) else none))
def jS (j:Qi) (sep:Qi):Option (Qi×Qi×Bool):=(iP j sep).bind λo=>if decide (0<=o) then (cZ (0<=o/\o<=(j.size:Int)) (cZ (0<=(i64.wrap (o+(sep.size:Int)))/\(i64.wrap (o+(sep.size:Int)))<=(j.size:Int)) (some ((j.extract 0 ((o:Int).toNat)),(j.extract ((i64.wrap (o+(sep.size:Int)):Int).toNat) j.size),true)))) else (some (j,(⟨#[]⟩),false))
def nN (o:Qi) (sep:Qi):Option (Qi×Qi×Bool):=(jS o sep).bind λj=>some (j.1,j.2.1,j.2.2)
def eT (o:Qi) (j:Qi):Option (Bool):=if decide ((j.size:Int)<=(o.size:Int)) then (cZ (0<=(j.size:Int)/\(j.size:Int)<=(o.size:Int)) (some (decide ((o.extract 0 (((j.size:Int):Int).toNat))=j)))) else (some false)
def nE (o:Qi) (j:Qi):Option (Bool):=(eT o j).bind λI=>some I
def iV (o:Qi) (j:Qi):Option (Qi):=(eT o j).bind λI=>if I then (cZ (0<=(j.size:Int)/\(j.size:Int)<=(o.size:Int)) (some (o.extract (((j.size:Int):Int).toNat) o.size))) else (some o)
def lx (o:Qi) (j:Qi):Option (Qi):=(iV o j).bind λI=>some I
def rY (o:(Bool)) (I:Bool) (j:(List bU)):Option (aC):=if o then (some (aC.mk (decide (0<(j.length:Int))) j)) else (some (aC.mk false j))
def ub (U:(Bool)) (j:Qi) (o:Bool) (I:(List bU)) (R:(Qi×Bool×(List bU))->Option (aC)):Option (aC):=if decide (0<(j.size:Int)) then (cZ (0<=(i64.wrap ((Int.tmod (i64.wrap ((j.size:Int)-1)) 9)+1))/\(i64.wrap ((Int.tmod (i64.wrap ((j.size:Int)-1)) 9)+1))<=(j.size:Int)) (cZ ((j.extract 0 ((i64.wrap ((Int.tmod (i64.wrap ((j.size:Int)-1)) 9)+1):Int).toNat)).size≠0/\(j.extract 0 ((i64.wrap ((Int.tmod (i64.wrap ((j.size:Int)-1)) 9)+1):Int).toNat)).size<=281474976710656/\(LW (j.extract 0 ((i64.wrap ((Int.tmod (i64.wrap ((j.size:Int)-1)) 9)+1):Int).toNat))).2=false) ((mY 1000000000).bind λP3=>(fF (aC.mk o I) P3).bind λP4=>(mY (i64.wrap ((LW (j.extract 0 ((i64.wrap ((Int.tmod (i64.wrap ((j.size:Int)-1)) 9)+1):Int).toNat))).1))).bind λP5=>(lV P4 P5).bind λJ=>cZ (0<=(i64.wrap ((Int.tmod (i64.wrap ((j.size:Int)-1)) 9)+1))/\(i64.wrap ((Int.tmod (i64.wrap ((j.size:Int)-1)) 9)+1))<=(j.size:Int)) (R (j.extract ((i64.wrap ((Int.tmod (i64.wrap ((j.size:Int)-1)) 9)+1):Int).toNat) j.size,J.minus,J.words))))) else (rY U o I)
def lF (o:Qi):Option (aC):=(nE o (⟨#[45]⟩)).bind λI=>(lx o (⟨#[45]⟩)).bind λJ=>iN (λj n=>ub I j.1 j.2.1 j.2.2 n) fY (J,false,[])
def qF (o:Qi):Option (aA):=(nN o (⟨#[47]⟩)).bind λj=>if !j.2.2 then ((lF j.1).bind λI=>(mY 1).bind λJ=>some (aA.mk I J)) else ((lF j.1).bind λR=>(lF j.2.1).bind λU=>some (aA.mk R U))
def oH (j:aA):Option (aA):=if decide ((cX j)<0) then ((oI j).bind λo=>some o) else (some j)
def rW (j:aC) (o:aC):Option (Int):=(oG j o).bind λI=>some (fD I)
def mZ (j:aA) (o:aA):Option (Int):=(fF j.N o.D).bind λI=>(fF o.N j.D).bind λJ=>(rW I J).bind λR=>some R
def pf (j:List Qi->Option ((List Qi))) (o:List Qi):Option ((List Qi)):=j o
def sO (mw:(List Qi)) (J:Nat) (j:aP) (o:List Qi) (I:List Qi->Option ((List Qi))):Option ((List Qi)):=idx mw (J:Int) λR=>(qF R).bind λU=>(oH U).bind λP3=>(kU j.sC).bind λP4=>(mZ P3 P4).bind λP5=>if decide (0<P5) then (cZ ((o.length+([j.Name]).length)*16<=140737488355328) (pf I (o++([j.Name])))) else (pf I o)
def ob (o:aD) (mw:(List Qi)):Option ((List Qi)):=dI (λk y j n=>sO mw k y j n) (λj=>some j) 0 o.aI ([]:List Qi)
def gM (o:aD):Option (cG×(List Qi)×Int):=(fS o).bind λI=>if !decide (I.2=0) then (some ((cG.mk ([]:List Qi) ([]:List Qi)),([]:List Qi),I.2)) else ((nJ o I.1).bind λj=>if !decide (j.2=0) then (some ((cG.mk ([]:List Qi) ([]:List Qi)),([]:List Qi),j.2)) else ((ob o j.1.gK).bind λJ=>some (j.1,J,0)))
def eB (I:aD) (on:(List Qi)):Option (cG×(List Qi)×Int):=(lI I on).bind λj=>if !decide (j.2=0) then (some ((cG.mk ([]:List Qi) ([]:List Qi)),([]:List Qi),j.2)) else ((gM j.1).bind λo=>some (o.1,o.2.1,o.2.2))
def kD (j:aX):Option (Int):=(cA j.bN).bind λo=>if !decide (o=0) then (some o) else ((mP j.nf).bind λI=>if !decide (I=0) then (some I) else (if decide (5<(j.bN.bC.length:Int)) then (some 2) else ((ql j.bN).bind λJ=>(eB j.bN J).bind λR=>some R.2.2)))
def lB:bI:=(bI.mk ([]:List aE))
def qa (j:aD):Option ((Option bT)×Int):=(cA j).bind λo=>if !decide (o=0) then (some (none,o)) else ((kz j).bind λI=>(nM (j.aI.length:Int)).bind λJ=>cZ (0<=(j.aI.length:Int)/\(j.aI.length:Int)*8<=140737488355328) (cZ (0<=(j.aI.length:Int)/\(j.aI.length:Int)*1<=140737488355328) (some ((some (bT.mk I.aI J (List.replicate ((j.aI.length:Int):Int).toNat (0:Int)) (List.replicate ((j.aI.length:Int):Int).toNat (false:Bool)) 0)),0))))
def vP (j:Nat) (o:List aT) (R:List aT->Option ((Option aO)×Int)):Option ((Option aO)×Int):=idx o (j:Int) λI=>cZ (I.vY.length*40<=140737488355328) (idx o (j:Int) λJ=>R (o.set (((j:Int):Int).toNat) (aT.mk J.Close J.Switch I.vY)))
def oc (j:aX):Option ((Option aO)×Int):=(kD j).bind λR=>if !decide (R=0) then (some (none,R)) else ((kz j.bN).bind λo=>cZ (j.nf.length*48<=140737488355328) ((ql j.bN).bind λI=>kL (λk J n=>vP k J n) (λJ=>(qa o).bind λU=>Am U.1 ((eB o I).bind λP4=>none) (λsp298=>(eB o I).bind λP3=>some ((some (aO.mk o J I [] sp298 P3.1 0 ((lB)) [])),0))) ((j.nf.length:Int):Int).toNat 0 j.nf))
def fP:aD:=(aD.mk ([(⟨#[65]⟩),(⟨#[66]⟩)]) ([(aV.mk (⟨#[83]⟩) (⟨#[65]⟩) (⟨#[66]⟩) false true)]) ([(aP.mk (⟨#[76]⟩) (⟨#[65]⟩) (⟨#[66]⟩) 1000 1000 0 40 60 10)]) ([(bD.mk (⟨#[71]⟩) (⟨#[65]⟩) 10 50 0)]) ([(aG.mk (⟨#[68]⟩) (⟨#[66]⟩) 30)]) ([]:List bW))
def qM (I:Nat) (j:U8) (o:Unit->Option (Bool)):Option (Bool):=if (decide (j.n<97)) || (decide (122<j.n)) then (some false) else (o ())
def gQ (j:Qi):Option (Bool):=cZ (j.size<=maxLen) (dI (λk y o n=>qM k y n) (λ_=>some ((decide (1<=(j.size:Int))) && (decide ((j.size:Int)<=8)))) 0 (kB j) ())
def dG (j:aE):Option (Int):=if (decide (j.Time<0)) || (decide (200000<j.Time)) then (some 12) else ((gQ j.Kind).bind λo=>if o then ((bK j.Name).bind λI=>if !I then (some 6) else (if (decide (j.Value<(-1000000))) || (decide (1000000<j.Value)) then (some 4) else (some 0))) else (some 6))
def kM (j:bI):Option ((List aE)):=cZ (j.gO.length*48<=140737488355328) (some j.gO)
def pn (o:aG) (j:aE):Bool:=(decide (o.Name=j.Name))
def gL (J:(List aG)) (j:aE) (o:Nat) (I:Unit->Option (Int)):Option (Int):=idx J (o:Int) λR=>if (pn R j) then (some (o:Int)) else (I ())
def dN (o:(List aG)) (j:aE):Option (Int):=kL (λk I n=>gL o j k n) (λ_=>some (-1)) ((o.length:Int):Int).toNat 0 ()
def po (o:bD) (j:aE):Bool:=(decide (o.Name=j.Name))
def gW (J:(List bD)) (j:aE) (o:Nat) (I:Unit->Option (Int)):Option (Int):=idx J (o:Int) λR=>if (po R j) then (some (o:Int)) else (I ())
def dT (o:(List bD)) (j:aE):Option (Int):=kL (λk I n=>gW o j k n) (λ_=>some (-1)) ((o.length:Int):Int).toNat 0 ()
def ou (o:aV) (j:aE):Bool:=(decide (o.Name=j.Name))
def fQ (J:(List aV)) (j:aE) (o:Nat) (I:Unit->Option (Int)):Option (Int):=idx J (o:Int) λR=>if (ou R j) then (some (o:Int)) else (I ())
def cV (o:(List aV)) (j:aE):Option (Int):=kL (λk I n=>fQ o j k n) (λ_=>some (-1)) ((o.length:Int):Int).toNat 0 ()
def lN (o:aR) (j:Qi):Bool:=(decide (o.Name=j))
def cS (J:(List aR)) (j:Qi) (o:Nat) (I:Unit->Option (Int)):Option (Int):=idx J (o:Int) λR=>if (lN R j) then (some (o:Int)) else (I ())
def cC (o:(List aR)) (j:Qi):Option (Int):=kL (λk I n=>cS o j k n) (λ_=>some (-1)) ((o.length:Int):Int).toNat 0 ()
def lD (j:(List aR)) (name:Qi):Option (Int):=(cC j name).bind λo=>some o
def n8 (o:(List aR)) (j:Nat) (I:aR) (J:Unit->Option (Int)):Option (Int):=(bK I.Name).bind λR=>if !R then (some 6) else (cZ (0<=(j:Int)/\(j:Int)<=(o.length:Int)) ((lD (r8 o 0 (((j:Int):Int).toNat)) I.Name).bind λU=>if decide (0<=U) then (some 7) else (J ())))
def lf (j:(List aR)):Option (Int):=if decide (32<(j.length:Int)) then (some 2) else (dI (λk y o n=>n8 j k y n) (λ_=>some 0) 0 j ())
def dJ (j:List Bool->Option (Bool)) (o:List Bool):Option (Bool):=j o
def q_ (states:(List aR)) (o:Nat) (J:bB) (j:List Bool) (I:List Bool->Option (Bool)):Option (Bool):=(lD states J.Name).bind λR=>if decide (J.Kind=0) then (idx j (o:Int) λP9=>dJ I (j.set (((o:Int):Int).toNat) true)) else (if decide (J.Kind=2) then (if decide (0<=R) then (idx states R λU=>idx j (o:Int) λP_=>dJ I (j.set (((o:Int):Int).toNat) (!U.yA))) else (idx j (o:Int) λQa=>dJ I (j.set (((o:Int):Int).toNat) false))) else (if decide (J.Kind=3) then (if decide (0<=R) then (idx states R λP3=>idx j (o:Int) λQb=>dJ I (j.set (((o:Int):Int).toNat) P3.yA)) else (idx j (o:Int) λQc=>dJ I (j.set (((o:Int):Int).toNat) false))) else (if decide (J.Kind=4) then (idx j J.A λP4=>idx j (o:Int) λQd=>dJ I (j.set (((o:Int):Int).toNat) (!P4))) else (if decide (J.Kind=5) then (idx j J.A λP5=>if P5 then (idx j J.B_ λP6=>idx j (o:Int) λQe=>dJ I (j.set (((o:Int):Int).toNat) P6)) else (idx j (o:Int) λQf=>dJ I (j.set (((o:Int):Int).toNat) false))) else (if decide (J.Kind=6) then (idx j J.A λP7=>if P7 then (idx j (o:Int) λQg=>dJ I (j.set (((o:Int):Int).toNat) true)) else (idx j J.B_ λP8=>idx j (o:Int) λQh=>dJ I (j.set (((o:Int):Int).toNat) P8))) else (dJ I j))))))
def mQ (j:(List bB)) (states:(List aR)):Option (Bool):=cZ (0<=(j.length:Int)/\(j.length:Int)*1<=140737488355328) (dI (λk y o n=>q_ states k y o n) (λo=>idx o (i64.wrap ((j.length:Int)-1)) λI=>some I) 0 j (List.replicate ((j.length:Int):Int).toNat (false:Bool)))
def iI (j:List Int->Option ((List Int)×Int)) (o:List Int):Option ((List Int)×Int):=j o
def p_ (states:(List aR)) (closing:Bool) (name:Qi) (J:Nat) (I:aT) (o:List Int) (j:List Int->Option ((List Int)×Int)):Option ((List Int)×Int):=if decide (I.Close=closing) then (if decide (I.Switch=name) then ((mQ I.vY states).bind λR=>if !R then (cZ ((o.length+([((J:Int))]:List Int).length)*8<=140737488355328) (iI j (o++([((J:Int))]:List Int)))) else (iI j o)) else (iI j o)) else (iI j o)
def nk (o:(List aT)) (states:(List aR)) (closing:Bool) (name:Qi):Option ((List Int)×Int):=(mP o).bind λI=>if !decide (I=0) then (some (([]:List Int),I)) else ((lf states).bind λJ=>if !decide (J=0) then (some (([]:List Int),J)) else ((lD states name).bind λR=>if decide (R<0) then (some (([]:List Int),8)) else (dI (λk y j n=>p_ states closing name k y j n) (λj=>some (j,0)) 0 o ([]:List Int))))
def mc (o:(List aT)) (states:(List aR)) (closing:Bool) (name:Qi):Option (Bool×Int):=(nk o states closing name).bind λj=>some (((decide (j.2=0)) && (decide ((j.1.length:Int)=0))),j.2)
def qh (J:Nat) (j:aV) (o:List aR) (I:List aR->Option (Int×cU)):Option (Int×cU):=cZ ((o.length+([(aR.mk j.Name (!j.Open))]).length)*24<=140737488355328) (I (o++([(aR.mk j.Name (!j.Open))])))
def nB (U:aO) (j:cU) (o:aE):Option (Int×cU):=(cV j.n.aN o).bind λI=>if decide (I<0) then (some (8,j)) else (if !decide (o.Value=0) then (some (1,j)) else (idx j.n.aN I λP3=>if !decide (P3.Open=(decide (o.Kind=(⟨#[99,108,111,115,101]⟩)))) then (some (11,j)) else ((bO U.held o.Name).bind λP4=>if P4 then (some (18,j)) else (dI (λk y R n=>qh k y R n) (λR=>(mc U.rules R (decide (o.Kind=(⟨#[99,108,111,115,101]⟩))) o.Name).bind λP5=>if !P5.1 then (some (19,j)) else (idx j.n.aN I λJ=>some (0,(cU.mk (aD.mk j.n.bF (j.n.aN.set ((I:Int).toNat) (aV.mk J.Name J.A J.B_ J.um (!(decide (o.Kind=(⟨#[99,108,111,115,101]⟩)))))) j.n.aI j.n.dB j.n.bC j.n.bS) j.on)))) 0 j.n.aN ([]:List aR)))))
def jA (j:cU) (o:List bD) (I:List aG) (J:List Qi):Option (Int×cU):=some (0,(cU.mk (aD.mk j.n.bF j.n.aN j.n.aI o I j.n.bS) J))
def kO (P4:aO) (j:cU) (o:aE) (I:(Int)) (J:(Int)) (P5:Bool):Option (Int×cU):=if P5 then ((nB P4 j o).bind λU=>some (U.1,U.2)) else (if decide (o.Kind=(⟨#[108,111,97,100]⟩)) then (if decide (I<0) then (some (8,j)) else (if (decide (o.Value<0)) || (decide (100000<o.Value)) then (some (4,j)) else (idx j.n.bC I λP3=>jA j j.n.dB (j.n.bC.set ((I:Int).toNat) (aG.mk P3.Name P3.Node o.Value)) j.on))) else (if decide (o.Kind=(⟨#[103,101,110]⟩)) then (if decide (J<0) then (some (8,j)) else (idx j.n.dB J λP6=>if (decide (o.Value<P6.jC)) || (decide (100000<o.Value)) then (some (4,j)) else (idx j.n.dB J λR=>jA j (j.n.dB.set ((J:Int).toNat) (bD.mk R.Name R.Node R.jC o.Value R.AL)) j.n.bC j.on))) else (if decide (o.Kind=(⟨#[98,97,99,107]⟩)) then (if decide (I<0) then (some (8,j)) else ((bO j.on o.Name).bind λP7=>if P7 then (some (11,j)) else (idx j.n.bC I λP8=>if !decide (o.Value=P8.dA) then (some (1,j)) else (cZ ((j.on.length+([o.Name]).length)*16<=140737488355328) (jA j j.n.dB j.n.bC (j.on++([o.Name]))))))) else (if decide (o.Kind=(⟨#[119,97,105,116]⟩)) then (if !decide (o.Value=0) then (some (1,j)) else (jA j j.n.dB j.n.bC j.on)) else (some (1,j))))))
def og (I:aO) (o:cU) (j:aE):Option (Int×cU):=(dN o.n.bC j).bind λJ=>(dT o.n.dB j).bind λR=>if decide (j.Kind=(⟨#[111,112,101,110]⟩)) then (kO I o j J R (decide (j.Kind=(⟨#[111,112,101,110]⟩)))) else (kO I o j J R (decide (j.Kind=(⟨#[99,108,111,115,101]⟩))))
def va (I:Nat) (j:U8) (o:Unit->Option (Int)):Option (Int):=if (decide (j.n<48)) || (decide (57<j.n)) then (some 5) else (o ())
def pS (j:Qi):Option (Int):=cZ (j.size<=maxLen) (dI (λk y I n=>va k y n) (λ_=>if decide (j=(⟨#[]⟩)) then (some 5) else (if decide (1<(j.size:Int)) then (idx (kB j) 0 λo=>if decide (o.n=48) then (some 5) else (if decide (2000<(j.size:Int)) then (some 2) else (some 0))) else (if decide (2000<(j.size:Int)) then (some 2) else (some 0)))) 0 (kB j) ())
def wR (I:Qi) (J:Qi) (R:Nat) (o:Unit->Option (aC×aC×Int)):Option (aC×aC×Int):=idx [I,J] (R:Int) λU=>(pS U).bind λj=>if !decide (j=0) then (some ((aC.mk false []),(aC.mk false []),j)) else (o ())
def wu (j:Qi) (o:Qi):Option (aC×aC×Int):=kL (λk R n=>wR j o k n) (λ_=>(lF j).bind λI=>(lF o).bind λJ=>some (I,J,0)) (2:Int).toNat 0 ()
def wQ (o:aC):Option (Qi×Int):=(lg o).bind λj=>if !j.2 then (some ((⟨#[]⟩),2)) else (some (j.1,0))
def wm (I:Qi) (J:Qi):Option (Qi×Int):=(wu I J).bind λj=>if !decide (j.2.2=0) then (some ((⟨#[]⟩),j.2.2)) else ((pR j.1 j.2.1).bind λR=>(wQ R).bind λo=>some (o.1,o.2))
def sM:Option (Int):=some 0
def mH (I:Qi) (J:(Qi)) (j:(Qi×Qi×Bool)) (o:(Int)) (n110:Int):Option (Int):=if ((decide (o=5)) || (decide (n110=5))) || ((decide (j.1=(⟨#[48]⟩))) && (decide ((J.size:Int)<(I.size:Int)))) then (some 5) else (if (!decide (o=0)) || (!decide (n110=0)) then (some 2) else (if j.2.2 then ((wm j.1 j.2.1).bind λR=>if ((decide (j.2.1=(⟨#[48]⟩))) || (decide (j.2.1=(⟨#[49]⟩)))) || (!decide (R.1=(⟨#[49]⟩))) then (some 3) else sM) else sM))
def pT (o:Qi):Option (Int):=(lx o (⟨#[45]⟩)).bind λI=>(nN I (⟨#[47]⟩)).bind λj=>(pS j.1).bind λJ=>if j.2.2 then ((pS j.2.1).bind λR=>mH o I j J R) else (mH o I j J 0)
def sL (J:Nat) (I:Qi) (o:Unit->Option (Int)):Option (Int):=(pT I).bind λj=>if !decide (j=0) then (some j) else (o ())
def rf (j:(List Qi)):Option (Int):=dI (λk y o n=>sL k y n) (λ_=>some 0) 0 j ()
def lG (j:(List Qi)):Option (Int):=if decide (40<(j.length:Int)) then (some 2) else ((rf j).bind λo=>some o)
def lH (j:List Qi->Option ((List Qi))) (o:List Qi):Option ((List Qi)):=j o
def qb (J:bT) (R:Nat) (I:aP) (j:List Qi) (o:List Qi->Option ((List Qi))):Option ((List Qi)):=idx J.over (R:Int) λU=>if U then (cZ ((j.length+([I.Name]).length)*16<=140737488355328) (lH o (j++([I.Name])))) else (lH o j)
def kG (o:bT):Option ((List Qi)):=dI (λk y j n=>qb o k y j n) (λj=>some j) 0 o.lC ([]:List Qi)
def iJ (j:(List aA×List Int×List Bool)->Option ((List Qi)×Int×bT)) (o:List aA) (I:List Int) (J:List Bool):Option ((List Qi)×Int×bT):=j (o,I,J)
def qc (mw:(List Qi)) (seconds:Int) (j:Nat) (P4:aP) (U:List aA) (o:List Int) (I:List Bool) (R:(List aA×List Int×List Bool)->Option ((List Qi)×Int×bT)):Option ((List Qi)×Int×bT):=idx mw (j:Int) λP5=>(qF P5).bind λP6=>(oH P6).bind λJ=>idx U (j:Int) λQb=>(kU P4.sC).bind λP7=>(mZ J P7).bind λP8=>if decide (P8<=0) then (idx o (j:Int) λQc=>idx I (j:Int) λQd=>iJ R (U.set (((j:Int):Int).toNat) J) (o.set (((j:Int):Int).toNat) 0) (I.set (((j:Int):Int).toNat) false)) else (idx o (j:Int) λP3=>idx o (j:Int) λQe=>idx (o.set (((j:Int):Int).toNat) (i64.wrap (P3+seconds))) (j:Int) λP9=>if decide (P4.Bh<P9) then (idx I (j:Int) λQf=>iJ R (U.set (((j:Int):Int).toNat) J) (o.set (((j:Int):Int).toNat) (i64.wrap (P3+seconds))) (I.set (((j:Int):Int).toNat) true)) else ((kU P4.vZ).bind λP_=>(mZ J P_).bind λQa=>if decide (0<Qa) then (idx I (j:Int) λQg=>iJ R (U.set (((j:Int):Int).toNat) J) (o.set (((j:Int):Int).toNat) (i64.wrap (P3+seconds))) (I.set (((j:Int):Int).toNat) true)) else (iJ R (U.set (((j:Int):Int).toNat) J) (o.set (((j:Int):Int).toNat) (i64.wrap (P3+seconds))) I)))
def lT (j:bT) (mw:(List Qi)) (seconds:Int):Option ((List Qi)×Int×bT):=(lG mw).bind λI=>if !decide (I=0) then (some (([]:List Qi),I,j)) else (if !decide ((mw.length:Int)=(j.lC.length:Int)) then (some (([]:List Qi),3,j)) else (if (decide (seconds<1)) || (decide ((i64.wrap (200000-j.time))<seconds)) then (some (([]:List Qi),12,j)) else (dI (λk y o n=>qc mw seconds k y o.1 o.2.1 o.2.2 n) (λo=>(kG (bT.mk j.lC o.1 o.2.1 o.2.2 (i64.wrap (j.time+seconds)))).bind λJ=>some (J,0,(bT.mk j.lC o.1 o.2.1 o.2.2 (i64.wrap (j.time+seconds))))) 0 j.lC (j.mw,j.su,j.over))))
def fB (j:bI) (o:aE):Option (Int×Int×bI):=(dG o).bind λI=>if !decide (I=0) then (some (0,I,j)) else (if decide (0<(j.gO.length:Int)) then (idx j.gO (i64.wrap ((j.gO.length:Int)-1)) λJ=>if decide (o.Time<J.Time) then (some (0,12,j)) else (if decide ((j.gO.length:Int)=300) then (some (0,9,j)) else (cZ ((j.gO.length+([o]).length)*48<=140737488355328) (some ((i64.wrap ((j.gO.length:Int)+1)),0,(bI.mk (j.gO++([o])))))))) else (if decide ((j.gO.length:Int)=300) then (some (0,9,j)) else (cZ ((j.gO.length+([o]).length)*48<=140737488355328) (some ((i64.wrap ((j.gO.length:Int)+1)),0,(bI.mk (j.gO++([o]))))))))
def kX (o:Qi) (j:(List Qi)):Option (Bool):=(bO j o).bind λI=>some (!I)
def iZ (J:(List Qi)) (j:(List Qi)) (o:Nat) (I:Unit->Option (Int)):Option (Int):=idx J (o:Int) λR=>(kX R j).bind λU=>if U then (some (o:Int)) else (I ())
def fI (o:(List Qi)) (j:(List Qi)):Option (Int):=kL (λk I n=>iZ o j k n) (λ_=>some (-1)) ((o.length:Int):Int).toNat 0 ()
def dR (n195:Int) (j:(List Qi×Int×Int)->Option ((List Qi))) (o:List Qi) (n227:Int):Option ((List Qi)):=j (o,n227,i64.wrap (n195+1))
def iT (del_0:(List Qi)) (j:List Qi) (n194:Int) (n195:Int) (o:(List Qi×Int×Int)->Option ((List Qi))):Option ((List Qi)):=if decide (n195<(j.length:Int)) then (idx j n195 λI=>(kX I del_0).bind λJ=>if !J then (idx j n194 λR=>dR n195 o (j.set ((n194:Int).toNat) I) (i64.wrap (n194+1))) else (dR n195 o j n194)) else (cZ (0<=n194/\n194<=(j.length:Int)) (cZ (0<=n194/\n194<=((j.take (n194).toNat++List.replicate (j.length-(n194).toNat) ((⟨#[]⟩):Qi)).length:Int)) (some (r8 (j.take (n194).toNat++List.replicate (j.length-(n194).toNat) ((⟨#[]⟩):Qi)) 0 ((n194:Int).toNat)))))
def eD (j:(List Qi)) (del_0:(List Qi)):Option ((List Qi)):=(fI j del_0).bind λo=>if decide (o=(-1)) then (some j) else (iN (λI n=>iT del_0 I.1 I.2.1 I.2.2 n) fY (j,o,i64.wrap (o+1)))
def jX (o:Qi) (j:(List Qi)):Option (Bool):=(bO j o).bind λI=>some I
def iM (J:(List Qi)) (j:(List Qi)) (o:Nat) (I:Unit->Option (Int)):Option (Int):=idx J (o:Int) λR=>(jX R j).bind λU=>if U then (some (o:Int)) else (I ())
def fA (o:(List Qi)) (j:(List Qi)):Option (Int):=kL (λk I n=>iM o j k n) (λ_=>some (-1)) ((o.length:Int):Int).toNat 0 ()
def dL (n195:Int) (j:(List Qi×Int×Int)->Option ((List Qi))) (o:List Qi) (n227:Int):Option ((List Qi)):=j (o,n227,i64.wrap (n195+1))
def iD (del_0:(List Qi)) (j:List Qi) (n194:Int) (n195:Int) (o:(List Qi×Int×Int)->Option ((List Qi))):Option ((List Qi)):=if decide (n195<(j.length:Int)) then (idx j n195 λI=>(jX I del_0).bind λJ=>if !J then (idx j n194 λR=>dL n195 o (j.set ((n194:Int).toNat) I) (i64.wrap (n194+1))) else (dL n195 o j n194)) else (cZ (0<=n194/\n194<=(j.length:Int)) (cZ (0<=n194/\n194<=((j.take (n194).toNat++List.replicate (j.length-(n194).toNat) ((⟨#[]⟩):Qi)).length:Int)) (some (r8 (j.take (n194).toNat++List.replicate (j.length-(n194).toNat) ((⟨#[]⟩):Qi)) 0 ((n194:Int).toNat)))))
def dX (j:(List Qi)) (del_0:(List Qi)):Option ((List Qi)):=(fA j del_0).bind λo=>if decide (o=(-1)) then (some j) else (iN (λI n=>iD del_0 I.1 I.2.1 I.2.2 n) fY (j,o,i64.wrap (o+1)))
def lY (o:aD):Option (Int):=(gM o).bind λj=>if (decide (j.2.2=0)) && (decide (0<(j.2.1.length:Int))) then (some 17) else (some j.2.2)
def oa (off:(List Qi)) (j:(List Qi)) (o:aD):Option (Bool):=cZ (j.length*16<=140737488355328) ((dX j off).bind λI=>(pN o I).bind λJ=>(lY J).bind λR=>some (decide (R=0)))
def jY (self:(List Qi)->(List Qi)->Int->Int->(List Qi)->aD->Option ((List Qi)×Bool)) (names:(List Qi)) (off:(List Qi)) (many:Int) (accept_0:(List Qi)) (accept_1:aD) (n257:Int) (I:Int->Option ((List Qi)×Bool)):Option ((List Qi)×Bool):=if decide (n257<(names.length:Int)) then (cZ (0<=(off.length:Int)/\(off.length:Int)<=(off.length:Int)) (idx names n257 λj=>cZ (((r8 off 0 (((off.length:Int):Int).toNat)).length+([j]).length)*16<=140737488355328) ((self names ((r8 off 0 (((off.length:Int):Int).toNat))++([j])) (i64.wrap (n257+1)) (i64.wrap (many-1)) accept_0 accept_1).bind λo=>if o.2 then (some (o.1,true)) else (I (i64.wrap (n257+1)))))) else (some (([]:List Qi),false))
def eJ (self:(List Qi)->(List Qi)->Int->Int->(List Qi)->aD->Option ((List Qi)×Bool)) (names:(List Qi)) (off:(List Qi)) (j:Int) (many:Int) (accept_0:(List Qi)) (accept_1:aD):Option ((List Qi)×Bool):=if decide (many=0) then ((oa off accept_0 accept_1).bind λo=>some (off,o)) else (iN (λI n=>jY self names off many accept_0 accept_1 I n) fY j)
def dO:Nat->(List Qi)->(List Qi)->Int->Int->(List Qi)->aD->Option ((List Qi)×Bool)
 | 0=>λ_ _ _ _ _ _=>none
 | n+1=>eJ (dO n)
def kW (names:(List Qi)) (off:(List Qi)) (j:Int) (many:Int) (accept_0:(List Qi)) (accept_1:aD):Option ((List Qi)×Bool):=dO fY names off j many accept_0 accept_1
def nt (j:List Qi->Option ((List Qi)×Int)) (o:List Qi):Option ((List Qi)×Int):=j o
def rK (J:aD) (j:List Qi) (n272:Int) (I:Int->Option ((List Qi)×Int)):Option ((List Qi)×Int):=if decide (n272<=(j.length:Int)) then ((kW j ([]:List Qi) 0 n272 j J).bind λo=>if o.2 then (some (o.1,0)) else (I (i64.wrap (n272+1)))) else (some (([]:List Qi),8))
def rJ (on:(List Qi)) (R:Nat) (j:aG) (o:List Qi) (I:List Qi->Option ((List Qi)×Int)):Option ((List Qi)×Int):=(bO on j.Name).bind λJ=>if J then (cZ ((o.length+([j.Name]).length)*16<=140737488355328) (nt I (o++([j.Name])))) else (nt I o)
def mn (j:aD) (on:(List Qi)):Option ((List Qi)×Int):=(eF j on).bind λI=>if !decide (I=0) then (some (([]:List Qi),I)) else (if decide (5<(on.length:Int)) then (some (([]:List Qi),2)) else (dI (λk y o n=>rJ on k y o n) (λo=>iN (λJ n=>rK j o J n) fY 0) 0 j.bC ([]:List Qi)))
def ox (o:aG) (j:Qi):Bool:=(decide (o.Name=j))
def gI (J:(List aG)) (j:Qi) (o:Nat) (I:Unit->Option (Int)):Option (Int):=idx J (o:Int) λR=>if (ox R j) then (some (o:Int)) else (I ())
def dF (o:(List aG)) (j:Qi):Option (Int):=kL (λk I n=>gI o j k n) (λ_=>some (-1)) ((o.length:Int):Int).toNat 0 ()
def jB (o:Qi) (j:(List Qi)):Option (Bool):=(bO j o).bind λI=>some I
def iE (J:(List Qi)) (j:(List Qi)) (o:Nat) (I:Unit->Option (Int)):Option (Int):=idx J (o:Int) λR=>(jB R j).bind λU=>if U then (some (o:Int)) else (I ())
def eY (o:(List Qi)) (j:(List Qi)):Option (Int):=kL (λk I n=>iE o j k n) (λ_=>some (-1)) ((o.length:Int):Int).toNat 0 ()
def dE (n195:Int) (j:(List Qi×Int×Int)->Option ((List Qi))) (o:List Qi) (n227:Int):Option ((List Qi)):=j (o,n227,i64.wrap (n195+1))
def gV (del_0:(List Qi)) (j:List Qi) (n194:Int) (n195:Int) (o:(List Qi×Int×Int)->Option ((List Qi))):Option ((List Qi)):=if decide (n195<(j.length:Int)) then (idx j n195 λI=>(jB I del_0).bind λJ=>if !J then (idx j n194 λR=>dE n195 o (j.set ((n194:Int).toNat) I) (i64.wrap (n194+1))) else (dE n195 o j n194)) else (cZ (0<=n194/\n194<=(j.length:Int)) (cZ (0<=n194/\n194<=((j.take (n194).toNat++List.replicate (j.length-(n194).toNat) ((⟨#[]⟩):Qi)).length:Int)) (some (r8 (j.take (n194).toNat++List.replicate (j.length-(n194).toNat) ((⟨#[]⟩):Qi)) 0 ((n194:Int).toNat)))))
def dS (j:(List Qi)) (del_0:(List Qi)):Option ((List Qi)):=(eY j del_0).bind λo=>if decide (o=(-1)) then (some j) else (iN (λI n=>gV del_0 I.1 I.2.1 I.2.2 n) fY (j,o,i64.wrap (o+1)))
def qi (o:aO) (U:Nat) (I:Qi) (J:List aE) (j:List aE->Option (aO)):Option (aO):=(fB (bI.mk J) (aE.mk o.time (⟨#[112,114,111,111,102]⟩) I 0)).bind λR=>j R.2.2.gO
def qk (j:aO) (P4:Nat) (o:Qi) (J:List aE) (I:List aE->Option (aO)):Option (aO):=(dF j.bY.bC o).bind λR=>idx j.bY.bC R λU=>(fB (bI.mk J) (aE.mk j.time (⟨#[115,104,101,100]⟩) o U.dA)).bind λP3=>I P3.2.2.gO
def nC (j:aO) (over:(List Qi)):Option (aO):=(mn j.bY j.on).bind λo=>if !decide (o.2=0) then (dI (λk y I n=>qi j k y I n) (λI=>some (aO.mk j.bY j.rules j.on j.held j.watch j.state j.time (bI.mk I) over)) 0 over j.log.gO) else (dI (λk y J n=>qk j k y J n) (λJ=>(dS j.on o.1).bind λR=>(eB j.bY R).bind λU=>some (aO.mk j.bY j.rules R j.held j.watch U.1 j.time (bI.mk J) j.over)) 0 o.1 j.log.gO)
def ny (j:(List aP)) (o:List aA) (I:List Int) (J:List Bool) (R:Int) (U:List aE) (P3:(List Qi)) (P4:(List aV)) (P5:(List aP)) (P6:(List bD)) (P7:(List aG)) (P8:(List bW)) (P9:(List aT)) (P_:List Qi) (Qa:(List Qi)) (Qb:(List Qi)) (Qc:(List Qi)) (Qd:Int) (Qe:(List Qi)):Option (Int×aO):=some (0,(aO.mk (aD.mk P3 P4 P5 P6 P7 P8) P9 P_ Qa (bT.mk j o I J R) (cG.mk Qb Qc) Qd (bI.mk U) Qe))
def kH (I:aO) (R:aE) (o:(Int×cU)) (J:(cG×(List Qi)×Int)) (U:(List aP)) (P3:List aA) (P4:List Int) (P5:List Bool) (n313:Int):Option (Int×aO):=(fB I.log R).bind λP6=>(kG (bT.mk U P3 P4 P5 n313)).bind λP8=>(eD J.2.1 P8).bind λP7=>if decide (0<(P7.length:Int)) then ((nC (aO.mk o.2.n I.rules o.2.on I.held (bT.mk U P3 P4 P5 n313) J.1 R.Time P6.2.2 []) P7).bind λj=>ny j.watch.lC j.watch.mw j.watch.su j.watch.over j.watch.time j.log.gO j.bY.bF j.bY.aN j.bY.aI j.bY.dB j.bY.bC j.bY.bS j.rules j.on j.held j.state.eP j.state.gK j.time j.over) else (ny U P3 P4 P5 n313 P6.2.2.gO o.2.n.bF o.2.n.aN o.2.n.aI o.2.n.dB o.2.n.bC o.2.n.bS I.rules o.2.on I.held J.1.eP J.1.gK R.Time ([]))
def gT (j:aO) (o:aE):Option (Int×aO):=(dG o).bind λU=>if !decide (U=0) then (some (U,j)) else (if decide (o.Time<j.time) then (some (12,j)) else ((kM j.log).bind λP3=>if decide (200<=(P3.length:Int)) then (some (9,j)) else ((kz j.bY).bind λP4=>cZ (j.on.length*16<=140737488355328) ((og j (cU.mk P4 j.on) o).bind λI=>if !decide (I.1=0) then (some (I.1,j)) else ((eB I.2.n I.2.on).bind λJ=>if !decide (J.2.2=0) then (some (J.2.2,j)) else (if (decide (o.Kind=(⟨#[98,97,99,107]⟩))) && (decide (0<(J.2.1.length:Int))) then (some (17,j)) else (if decide (1<=(i64.wrap (o.Time-j.time))) then ((lT j.watch j.state.gK (i64.wrap (o.Time-j.time))).bind λR=>kH j o I J R.2.2.lC R.2.2.mw R.2.2.su R.2.2.over R.2.2.time) else (kH j o I J j.watch.lC j.watch.mw j.watch.su j.watch.over j.watch.time))))))))
def mq (o:Qi) (j:aO):Option (Bool):=(bO j.on o).bind λI=>some (!I)
def jP (J:(List Qi)) (j:aO) (o:Nat) (I:Unit->Option (Int)):Option (Int):=idx J (o:Int) λR=>(mq R j).bind λU=>if U then (some (o:Int)) else (I ())
def fR (o:(List Qi)) (j:aO):Option (Int):=kL (λk I n=>jP o j k n) (λ_=>some (-1)) ((o.length:Int):Int).toNat 0 ()
def eA (n195:Int) (j:(List Qi×Int×Int)->Option ((List Qi))) (o:List Qi) (n227:Int):Option ((List Qi)):=j (o,n227,i64.wrap (n195+1))
def jJ (del_0:aO) (j:List Qi) (n194:Int) (n195:Int) (o:(List Qi×Int×Int)->Option ((List Qi))):Option ((List Qi)):=if decide (n195<(j.length:Int)) then (idx j n195 λI=>(mq I del_0).bind λJ=>if !J then (idx j n194 λR=>eA n195 o (j.set ((n194:Int).toNat) I) (i64.wrap (n194+1))) else (eA n195 o j n194)) else (cZ (0<=n194/\n194<=(j.length:Int)) (cZ (0<=n194/\n194<=((j.take (n194).toNat++List.replicate (j.length-(n194).toNat) ((⟨#[]⟩):Qi)).length:Int)) (some (r8 (j.take (n194).toNat++List.replicate (j.length-(n194).toNat) ((⟨#[]⟩):Qi)) 0 ((n194:Int).toNat)))))
def eE (j:(List Qi)) (del_0:aO):Option ((List Qi)):=(fR j del_0).bind λo=>if decide (o=(-1)) then (some j) else (iN (λI n=>jJ del_0 I.1 I.2.1 I.2.2 n) fY (j,o,i64.wrap (o+1)))
def eR (j:aO):Option ((List Qi)):=(ql j.bY).bind λo=>(eE o j).bind λI=>some I
def na (j:aO):Option ((List aE)):=(kM j.log).bind λo=>some o
def iX:Option (Bool):=idx (((fP)).bC) 0 λI=>(oc (aX.mk (aD.mk (((fP)).bF) (((fP)).aN) (((fP)).aI) (((fP)).dB) ((((fP)).bC).set ((0:Int).toNat) (aG.mk I.Name I.Node 45)) (((fP)).bS)) [])).bind λJ=>Am J.1 (some false) (λsp148=>if !decide (J.2=0) then (some false) else ((gT sp148 (aE.mk 10 (⟨#[119,97,105,116]⟩) (⟨#[88]⟩) 0)).bind λR=>(gT R.2 (aE.mk 11 (⟨#[119,97,105,116]⟩) (⟨#[88]⟩) 0)).bind λj=>if decide (R.1=0) then (if decide (j.1=0) then ((eR j.2).bind λU=>if decide ((U.length:Int)=0) then ((na j.2).bind λP3=>if decide ((P3.length:Int)=3) then ((na j.2).bind λP4=>idx P4 2 λo=>some (decide (o.Time=11) && (decide (o.Kind=(⟨#[115,104,101,100]⟩)) && (decide (o.Name=(⟨#[68]⟩)) && (decide (o.Value=45) && true))))) else (some false)) else (some false)) else (some false)) else (some false)))
def lU (j:aO):Option (aD):=(kz j.bY).bind λo=>some o
def l9 (o:(List Qi)) (I:(List Qi)) (j:Nat) (J:Unit->Option (Bool)):Option (Bool):=idx o (j:Int) λR=>idx I (j:Int) λU=>if !decide (R=U) then (some false) else (J ())
def fT (j:(List Qi)) (o:(List Qi)):Option (Bool):=if !decide ((j.length:Int)=(o.length:Int)) then (some false) else (kL (λk I n=>l9 j o k n) (λ_=>some true) ((j.length:Int):Int).toNat 0 ())
def gE (j:List Qi->Option (Bool)) (o:List Qi):Option (Bool):=j o
def gG (j:Bool->Option (Bool)) (o:Bool):Option (Bool):=j o
def gH (I:aG) (j:Bool->Option (Bool)) (o:aE) (J:Bool):Option (Bool):=if (decide (o.Name=I.Name)) && (decide (o.Kind=(⟨#[98,97,99,107]⟩))) then (gG j true) else (gG j J)
def gF (o:aG) (R:Nat) (j:aE) (J:Bool) (I:Bool->Option (Bool)):Option (Bool):=if (decide (j.Name=o.Name)) && (decide (j.Kind=(⟨#[115,104,101,100]⟩))) then (gH o I j false) else (gH o I j J)
def l8 (R:((List aE))) (U:Nat) (j:aG) (o:List Qi) (I:List Qi->Option (Bool)):Option (Bool):=dI (λk y J n=>gF j k y J n) (λJ=>if J then (cZ ((o.length+([j.Name]).length)*16<=140737488355328) (gE I (o++([j.Name])))) else (gE I o)) 0 R true
def jG (j:aO) (p1_:aE) (p2_:Int):Option (Bool):=(eR j).bind λI=>(na j).bind λJ=>(lU j).bind λR=>dI (λk y o n=>l8 J k y o n) (λo=>(fT I o).bind λU=>some U) 0 R.bC ([]:List Qi)
def fN (U:Nat) (o:aE) (J:aO) (I:aO->Option (Bool)):Option (Bool):=(gT J o).bind λj=>(jG j.2 o j.1).bind λR=>if !R then (some false) else (I j.2)
def eM (R:aX) (j:(List aE)):Option (Bool):=(eX R).bind λI=>(oc I).bind λo=>Am o.1 (if !decide (o.2=0) then ((kD I).bind λU=>some (decide (U=o.2))) else (some false)) (λsp122=>if !decide (o.2=0) then (some false) else (cZ (0<=(min (j.length:Int) 8)/\(min (j.length:Int) 8)<=(j.length:Int)) (dI (λk y J n=>fN k y J n) (λJ=>some true) 0 (r8 j 0 ((min (j.length:Int) 8:Int).toNat)) sp122)))
def iG (j:aX) (o:(List aE)):Option (Bool):=(iX).bind λI=>if I then ((eM j o).bind λJ=>some J) else (some false)
def pj (j:aO):Option (cG):=cZ (j.state.eP.length*16<=140737488355328) (cZ (j.state.gK.length*16<=140737488355328) (some j.state))
def q6 (j:aE):Option (Qi):=cZ (-9223372036854775808<=j.Time/\j.Time<=9223372036854775807) (cZ ((my j.Time).size+(⟨#[32]⟩:Qi).size<=maxLen) (cZ (((my j.Time)++(⟨#[32]⟩)).size+j.Kind.size<=maxLen) (cZ ((((my j.Time)++(⟨#[32]⟩))++j.Kind).size+(⟨#[32]⟩:Qi).size<=maxLen) (cZ (((((my j.Time)++(⟨#[32]⟩))++j.Kind)++(⟨#[32]⟩)).size+j.Name.size<=maxLen) (cZ ((((((my j.Time)++(⟨#[32]⟩))++j.Kind)++(⟨#[32]⟩))++j.Name).size+(⟨#[32]⟩:Qi).size<=maxLen) (cZ (-9223372036854775808<=j.Value/\j.Value<=9223372036854775807) (cZ (((((((my j.Time)++(⟨#[32]⟩))++j.Kind)++(⟨#[32]⟩))++j.Name)++(⟨#[32]⟩)).size+(my j.Value).size<=maxLen) (some (((((((my j.Time)++(⟨#[32]⟩))++j.Kind)++(⟨#[32]⟩))++j.Name)++(⟨#[32]⟩))++(my j.Value))))))))))
def uh (I:Nat) (o:U8) (n112:Int) (j:Int->Option (Int)):Option (Int):=j (u64.wrap ((u64.wrap ((BitVec.ofInt (u64).bits n112 ^^^ BitVec.ofInt (u64).bits (u64.wrap (o.n))).toNat))*1099511628211))
def pK (o:Int) (line:Qi):Option (Int):=cZ (line.size+(⟨#[10]⟩:Qi).size<=maxLen) (cZ ((line++(⟨#[10]⟩)).size<=maxLen) (dI (λk y j n=>uh k y j n) (λj=>some j) 0 (kB (line++(⟨#[10]⟩))) o))
def nG (R:Nat) (o:aE) (n116:Int) (j:Int->Option (Int)):Option (Int):=(q6 o).bind λI=>(pK n116 I).bind λJ=>j J
def mB (o:bI):Option (Int):=dI (λk y j n=>nG k y j n) (λj=>some j) 0 o.gO 14695981039346656037
def dH (j:aO):Option (Int):=(mB j.log).bind λo=>some o
def bJ (j:aO):Int:=j.time
def g_ (j:aO) (U:aE) (got:Int) (o:Bool) (I:Du) (J:Int) (R:(List Qi)):Option (Bool×Bool×Du×Int×(List Qi)):=if decide (got=0) then (if decide (got=0) then (if !decide ((bJ j)=U.Time) then (some (false,o,I,J,R)) else ((dH j).bind λP3=>(eR j).bind λP4=>some (true,false,⟨P3⟩,((bJ j)),P4))) else ((dH j).bind λP5=>(eR j).bind λP6=>some (true,false,⟨P5⟩,((bJ j)),P6))) else (if o then (if decide (got=0) then (if !decide ((bJ j)=U.Time) then (some (false,o,I,J,R)) else ((dH j).bind λP7=>(eR j).bind λP8=>some (true,false,⟨P7⟩,((bJ j)),P8))) else ((dH j).bind λP9=>(eR j).bind λP_=>some (true,false,⟨P9⟩,((bJ j)),P_))) else ((dH j).bind λQa=>if decide (Qa=I.n) then (if decide ((bJ j)=J) then ((eR j).bind λQb=>(fT Qb R).bind λQc=>if !Qc then (some (false,o,I,J,R)) else (if decide (got=0) then (if !decide ((bJ j)=U.Time) then (some (false,o,I,J,R)) else ((dH j).bind λQd=>(eR j).bind λQe=>some (true,false,⟨Qd⟩,((bJ j)),Qe))) else ((dH j).bind λQf=>(eR j).bind λQg=>some (true,false,⟨Qf⟩,((bJ j)),Qg)))) else (some (false,o,I,J,R))) else (some (false,o,I,J,R))))
def fC (P3:Nat) (I:aE) (R:aO) (c213:Bool) (n214:Int) (n215:Int) (U:(List Qi)) (J:(aO×Bool×Int×Int×(List Qi))->Option (Bool×Bool×Du×Int×(List Qi))):Option (Bool×Bool×Du×Int×(List Qi)):=(gT R I).bind λo=>(g_ o.2 I o.1 c213 ⟨n214⟩ n215 U).bind λj=>if !j.1 then (some (false,j.2.1,j.2.2.1,j.2.2.2.1,j.2.2.2.2)) else (J (o.2,j.2.1,j.2.2.1.n,j.2.2.2.1,j.2.2.2.2))
def eH (P5:aX) (U:(List aE)) (o:Bool) (I:Du) (J:Int) (R:(List Qi)):Option (Bool×Bool×Du×Int×(List Qi)):=(eX P5).bind λP4=>(oc P4).bind λP3=>Am P3.1 (if !decide (P3.2=0) then ((kD P4).bind λP6=>some ((decide (P6=P3.2)),o,I,J,R)) else (some (false,o,I,J,R))) (λsp122=>if !decide (P3.2=0) then (some (false,o,I,J,R)) else (cZ (0<=(min (U.length:Int) 8)/\(min (U.length:Int) 8)<=(U.length:Int)) (dI (λk y j n=>fC k y j.1 j.2.1 j.2.2.1 j.2.2.2.1 j.2.2.2.2 n) (λj=>some (true,j.2.1,⟨j.2.2.1⟩,j.2.2.2.1,j.2.2.2.2)) 0 (r8 U 0 ((min (U.length:Int) 8:Int).toNat)) (sp122,o,I.n,J,R))))
def gB (j:aX) (o:(List aE)):Option (Bool):=(iX).bind λI=>if I then ((eH j o true ⟨0⟩ 0 []).bind λJ=>some J.1) else (some false)
def lz (o:(List Qi)) (I:(List Qi)) (j:Nat) (J:Unit->Option (Bool)):Option (Bool):=idx o (j:Int) λR=>idx I (j:Int) λU=>if !decide (R=U) then (some false) else (J ())
def fE (j:(List Qi)) (o:(List Qi)):Option (Bool):=if !decide ((j.length:Int)=(o.length:Int)) then (some false) else (kL (λk I n=>lz j o k n) (λ_=>some true) ((j.length:Int):Int).toNat 0 ())
def tr (J:Nat) (I:(List Qi)) (o:Unit->Option (Int)):Option (Int):=(lG I).bind λj=>if !decide (j=0) then (some j) else (o ())
def pB (o:aD) (inject:(List Int)) (j:cG):Option (Int):=(nH o inject).bind λJ=>if !decide (J=0) then (some J) else ((uM o).bind λR=>Am R none (λsp108=>if decide ((j.eP.length:Int)=(c_ sp108)) then (if !decide ((j.gK.length:Int)=(o.aI.length:Int)) then (some 3) else (dI (λk y P4 n=>tr k y n) (λ_=>(nJ o inject).bind λI=>if decide (I.2=0) then ((fE I.1.eP j.eP).bind λU=>if U then ((fE I.1.gK j.gK).bind λP3=>if !P3 then (some 21) else (some 0)) else (some 21)) else (some 21)) 0 ([j.eP,j.gK]) ())) else (some 3)))
def jF (j:aO) (p1_:aE) (got:Int):Option (Bool):=if !decide (got=0) then (some true) else ((lU j).bind λJ=>(eR j).bind λR=>(lI J R).bind λo=>(fS o.1).bind λI=>if decide (o.2=0) then (if decide (I.2=0) then ((pj j).bind λU=>(pB o.1 I.1 U).bind λP3=>some (decide (P3=0))) else (some false)) else (some false))
def fM (U:Nat) (o:aE) (J:aO) (I:aO->Option (Bool)):Option (Bool):=(gT J o).bind λj=>(jF j.2 o j.1).bind λR=>if !R then (some false) else (I j.2)
def eL (R:aX) (j:(List aE)):Option (Bool):=(eX R).bind λI=>(oc I).bind λo=>Am o.1 (if !decide (o.2=0) then ((kD I).bind λU=>some (decide (U=o.2))) else (some false)) (λsp122=>if !decide (o.2=0) then (some false) else (cZ (0<=(min (j.length:Int) 8)/\(min (j.length:Int) 8)<=(j.length:Int)) (dI (λk y J n=>fM k y J n) (λJ=>some true) 0 (r8 j 0 ((min (j.length:Int) 8:Int).toNat)) sp122)))
def iF (j:aX) (o:(List aE)):Option (Bool):=(iX).bind λI=>if I then ((eL j o).bind λJ=>some J) else (some false)
end Go.Sim
namespace Go.Sim
open Go Go.RowKit
open _root_.Go.IntKind (i64 u64 u32 u8)
def Gd {R:Type} (o:Option R) (Q:R->Prop):Prop:=∃ r,o=some r/\Q r
section
variable {R α β σ:Type}{Q Q':R->Prop}
theorem Gd.mono {o:Option R} (h:Gd o Q) (k:∀ r,Q r->Q' r):Gd o Q':=by
 obtain ⟨r,e,q⟩:=h; exact ⟨r,e,k r q⟩
theorem Gd.ret {r:R} (h:Q r):Gd (some r) Q:=⟨r,rfl,h⟩
theorem Gd.nd {p:Prop}[Decidable p] {k:Option R} (h:p) (hk:Gd k Q):Gd (cZ p k) Q:=by
 unfold Sim.cZ; rw [Qu h]; exact hk
theorem Gd.eQ {o:Option α}{k:α->Option R}{P:α->Prop} (h:Gd o P) (hk:∀ a,P a->Gd (k a) Q):Gd (o.bind k) Q:=by
 obtain ⟨a,rfl,q⟩:=h; exact hk a q
theorem Gd.bind_eq {o:Option α}{a:α}{k:α->Option R} (h:o=some a) (hk:Gd (k a) Q):Gd (o.bind k) Q:=by
 subst h; exact hk
theorem Gd.ite {b:Bool}{p q:Option R} (h1:b=true->Gd p Q) (h2:b=false->Gd q Q):Gd (if b=true then p else q) Q:=by
 cases b
 ·simpa using h2 rfl
 ·simpa using h1 rfl
theorem Gd.ix {l:List α}{i:Int}{k:α->Option R}{y:α} (h0:0<=i) (hy:l[i.toNat]? = some y) (hk:Gd (k y) Q):Gd (idx l i k) Q:=by
 unfold Sim.idx; rw [Qu h0,hy]; exact hk
theorem Gd.iH {l:List α}{i:Nat}{k:α->Option R} (h:i<l.length) (hk:Gd (k l[i]) Q):Gd (Sim.idx l (i:Int) k) Q:=
 Gd.ix (by omega) (Ql (by simpa using h)) hk
theorem Gd.opt {o:Option α}{a:Option R}{f:α->Option R} (h1:o=none->Gd a Q) (h2:∀ s,o=some s->Gd (f s) Q):Gd (Am o a f) Q:=by
 cases o with
 | none=>exact h1 rfl
 | some s=>exact h2 s rfl
theorem Gd.dI {body:Nat->α->σ->(σ->Option R)->Option R}{k:σ->Option R} (I:Nat->List α->σ->Prop)
  (hb:∀ i y ys s n,I i (y::ys) s->(∀ s',I (i+1) ys s'->Gd (n s') Q)->Gd (body i y s n) Q) (hk:∀ i s,I i [] s->Gd (k s) Q):
  ∀ (l:List α) (i:Nat) (s:σ),I i l s->Gd (dI body k i l s) Q
 | [],i,s,h=>hk i s h
 | y::ys,i,s,h=>hb i y ys s _ h (λs' h'=>Gd.dI I hb hk ys (i+1) s' h')
theorem Gd.kL {body:Nat->σ->(σ->Option R)->Option R}{k:σ->Option R} (I:Nat->Nat->σ->Prop)
  (hb:∀ m i s n,I (m+1) i s->(∀ s',I m (i+1) s'->Gd (n s') Q)->Gd (body i s n) Q) (hk:∀ i s,I 0 i s->Gd (k s) Q):
  ∀ (m i:Nat) (s:σ),I m i s->Gd (kL body k m i s) Q
 | 0,i,s,h=>hk i s h
 | m+1,i,s,h=>hb m i s _ h (λs' h'=>Gd.kL I hb hk m (i+1) s' h')
theorem Gd.iN {body:σ->(σ->Option R)->Option R} (I:σ->Prop) (μ:σ->Nat)
  (hb:∀ s n,I s->(∀ s',I s'->μ s'<μ s->Gd (n s') Q)->Gd (body s n) Q):
  ∀ (m:Nat) (s:σ),I s->μ s<m->Gd (iN body m s) Q
 | 0,s,_,h=>by omega
 | m+1,s,hI,h=>hb s _ hI (λs' h' hlt=>Gd.iN I μ hb m s' h' (by omega))
theorem Gd.eq {o:Option R}{r:R}:Gd o (λx=>x=r)↔o=Option.some r:=by
 constructor
 ·rintro ⟨x,h,rfl⟩; exact h
 ·intro h; exact ⟨r,h,rfl⟩
end
theorem bV {n:Int} (h:-9223372036854775808<=n/\n<=9223372036854775807):i64.wrap n=n:=xB h.1 h.2
theorem Gd.seen {R α σ:Type}{Q:R->Prop}{body:Nat->α->σ->(σ->Option R)->Option R}{k:σ->Option R}{l:List α} (I:List α->σ->Prop)
  (hb:∀ i y s n pre,(∃ post,l=pre++y::post)->I pre s->(∀ s',I (pre++[y]) s'->Gd (n s') Q)->Gd (body i y s n) Q) (hk:∀ s,I l s->Gd (k s) Q) (s:σ) (hs:I [] s):Gd (Sim.dI body k 0 l s) Q:=by
 have key:∀ (ys pre:List α) (i:Nat) (s:σ),l=pre++ys->I pre s->Gd (Sim.dI body k i ys s) Q:=by
  intro ys
  induction ys with
  | nil=>intro pre i s hl hs; rw [Q5] at hl; subst hl; exact hk s hs
  | cons y ys ih=>
   intro pre i s hl hs;exact hb i y s _ pre ⟨ys,hl⟩ hs (λs' hs'=>ih (pre++[y]) (i+1) s' (by rw [hl]; simp) hs')
 exact key l [] 0 s rfl hs
theorem vU {α:Type}{l pre:List α}{y:α} (h:∃ post,l=pre++y::post):pre.length<l.length/\y ∈ l/\∀ x ∈ pre,x ∈ l:=by
 obtain ⟨post,rfl⟩:=h;exact ⟨by simp,by simp,λx hx=>Qm _ hx⟩
theorem Fi {α:Type}[DecidableEq α]:∀ (a b:List α),a.Nodup->(∀ x ∈ a,x ∈ b)->a.length<=b.length
 | [],_,_,_=>Nat.zero_le _
 | x::xs,b,hn,h=>by
  rw [TR] at hn;have hx:=h x (Qq ..);have h1:=Fi xs (b.erase x) hn.2 (λy hy=>(List.mem_erase_of_ne (λe:y=x=>hn.1 (by rw [<- e]; exact hy))).2 (h y (Qw _ hy)))
  rw [List.length_erase_of_mem hx] at h1;have:0<b.length:=List.length_pos_of_mem hx;simp only [Qy]; omega
end Go.Sim
