/-
  The proof, part A2.
-/
import Derived.Lib.Bytealg
import Derived.Laws.Externs
import Derived.Lib.LaidTab
import Derived.Lib.AppendIntMem
import Derived.Lib.ItoaNum
import Derived.Lib.AtoiAll
import Derived.Lib.SmallJoins
import Derived.Laws.BytesString
import Derived.Laws.IdiomStrings
import Derived.Lib.ParseIntBMem
import Derived.Laws.IdiomRangeMap
import Derived.Lib.UnsafeStr
import Derived.Lib.Builder
import Derived.Lib.AppendStr
import Derived.Laws.Bits64b
import Derived.Test.YtcfeheigjjnpnaaGreatDoorSqA1
set_option linter.unusedVariables false
set_option linter.unusedSimpArgs false
set_option linter.unusedSectionVars false
set_option linter.unnecessarySimpa false
namespace Go.Sim
abbrev Kn := @Int.fdiv_eq_ediv_of_nonneg
abbrev Kt := @Int.le_refl
abbrev K3 := @Int.toNat_of_nonneg
abbrev K4 := @Go.Lib.strCells_length
abbrev Mo := @List.drop_succ_cons
abbrev J_ := @List.getElem?_replicate
abbrev HV := @List.getElem?_set_ne
abbrev H7 := @List.getElem?_set_self
abbrev JX := @List.getElem_map
abbrev Jq := @List.length_drop
abbrev HI := @List.length_set
abbrev JY := @List.mem_of_mem_take
abbrev Kh := @List.replicate_succ
abbrev Ji := @List.take_append_drop
abbrev LU := @List.take_zero
abbrev K6 := @List.zipWith_append
abbrev Kl := @Nat.add_comm
abbrev JG := @Nat.lt_or_ge
abbrev KJ := @Nat.mod_lt
end Go.Sim
namespace Go.Sim
open Go Go.RowKit
open _root_.Go.IntKind (i64 u64 u32 u8)
def Gf (H:Hp) (v:Value) (n sz:Nat) (xs:List Value):Prop:=
 xs.length=n*sz∧(∀ u ∈ xs,u.oneCell'=true) ∧
 (((∃ a,v=.slice a 0 0)∧n=0)∨∃ b off cap arr T fz,v=.slice (some ⟨b,off,none⟩) n cap∧H b=some (.cells arr T fz)∧∀ j u,xs[j]? = some u→arr[off+j]? = some u)
theorem Gf.shape {H:Hp}{v:Value}{n sz:Nat}{xs:List Value} (h:Gf H v n sz xs):∃ o c,v=.slice o n c:=by
 rcases h.2.2 with ⟨⟨a,rfl⟩,rfl⟩ | ⟨b,off,cap,arr,T,fz,rfl,_⟩ <;> exact ⟨_,_,rfl⟩
theorem Gf.isNil {H:Hp}{n m c sz:Nat}{xs:List Value} (h:Gf H (.slice none m c) n sz xs):n=0∧xs=[]:=by
 rcases h.2.2 with ⟨_,h0⟩ | ⟨b,off,cap,arr,T,fz,h0,_⟩
 ·subst h0; exact ⟨rfl,H6 (by rw [h.1,Jk])⟩
 ·cases h0
section
variable {B:Nat}{w0 w:World}{H:Hp}{M:List bV}
end
section
variable {x:Cx}{ops:Array Oper}{Q:kZ}{rest:List Oper}{H:Hp}{M M':List bV}{L L':Env}
variable {d:Nat}{ty:TypeId}{pos:String}{aft:Array Edge}{g:Option (Nat×Bool)}
theorem Ah {o:Oper} (hd:o.dst=none) (hg:gd ops L o=some true)
  (hrun:∀ a w,Sl x.N L a→St x.B x.w0 H M w→∃ v w',(execOp a.eval o).run x.P w=.ok (.value v) w'∧∃ H' M',St x.B x.w0 H' M' w'∧W x ops Q rest H' M' L):
  W x ops Q (o::rest) H M L:=by
 intro a w hs ht;obtain ⟨v,w',hr,H',M',ht',k⟩:=hrun a w hs ht;refine Lz fun K hK=>?_;rw [Hv (hs.gd hg)];unfold Oper.wp;rw [hr];simp only [Oper.upon,hd];exact hK _ _ (k _ _ hs ht')
theorem pz {t e:TypeId}{sz len cap l h m:Nat}{y:Operand}{lo hi mx:Option Operand}{ad:Option Addr}
  (hg:gd ops L ⟨some d,.slice t y lo hi mx,ty,pos,aft,g⟩=some true) (hN:Nat.blt d x.N=true)
  (hT:∀ w,(underlying t).run x.P w=.ok (.slice e) w) (hs:∀ w,(sizeOf e).run x.P w=.ok sz w) (hy:ev L y=some (.slice ad len cap)) (hmh:mx=none∨∃ o,hi=some o)
  (hm:Ac L mx cap cap m) (hh:Ac L hi len m h) (hl:Ac L lo 0 h l)
  {v':Value} (hv:Value.slice (if m=l then ad else ad.map (·.add (l*sz))) (h-l) (m-l)=v')
  (k:W x ops Q rest H M ((d,v')::L)):
  W x ops Q (⟨some d,.slice t y lo hi mx,ty,pos,aft,g⟩::rest) H M L:=
 eK rfl hg hN (fun c w hsl ht=>by
  rw [← hv];simp only [execOp,hsl.ev hy,HJ,pE hT hs (C6 hmh) (hm.bd hsl) (hh.bd hsl) (hl.bd hsl),HA,HU]) k
theorem wH {zs:List Value} (h:∀ u ∈ zs,u.oneCell'=true) (h0:0<zs.length) (n:Nat):∀ u ∈ (Builtin.zeroCells zs.toArray n).toList,u.oneCell'=true:=by
 intro u hu;unfold Builtin.zeroCells at hu;simp only [Array.toList_map,KB,Array.toList_range,IQ] at hu;obtain ⟨q,_,rfl⟩:=hu;have hlt:q%zs.length<zs.length:=KJ _ h0;have:zs.toArray[q%zs.length]! = zs[q%zs.length]:=by simp [hlt]
 rw [this];exact h _ (IG _)
end
theorem yO {P:Program}{w:World}{t tu ty e:TypeId}{sz n gb off cap a dl dc sl sc:Nat}{b:Addr}{xs news:List Value} (hT:P.underlying t=some (.slice e)) (hs:∀ w,(sizeOf e).run P w=.ok sz w)
  (hown:fY w e sz (.slice (some ⟨gb,off,none⟩) n cap) n xs) (ha:a+dl≤n)
  (hl:news.length=min sl dl*sz) (hnews:∀ j u,news[j]? = some u→w.cell? (b.add j)=some u) (h1:∀ u ∈ news,u.oneCell'=true):
  ∃ w',(Builtin.copy_ #[t,tu] ty #[.slice (some ⟨gb,off+a*sz,none⟩) dl dc,.slice (some b) sl sc]).run P w=.ok (.int .i64 (min sl dl:Nat)) w' ∧
   fY w' e sz (.slice (some ⟨gb,off,none⟩) n cap) n (xs.take (a*sz)++news++xs.drop ((a+min sl dl)*sz))∧w.grownBy w' (some gb):=by
 rcases hown.2 with ⟨h0,_⟩ | ⟨gb2,off2,cap2,cur,he,hgb,hnc,hcm,hcs,htake⟩
 ·cases h0
 cases he;have hxl:xs.length=n*sz:=hown.1;have hm:(a+min sl dl)*sz≤n*sz:=HL _ (by omega)
 have hmc:n*sz≤cap*sz:=HL _ hnc;have hadd:(a+min sl dl)*sz=a*sz+min sl dl*sz:=HS ..;have hf:=Mr (P:=P) w sz (min sl dl) b sl sc news hl hnews;obtain ⟨w',hst,hh,hgr⟩:=iI (P:=P) gb (off+a*sz) e news 0 cur.toList w (by simpa using hgb) (by simp; omega) h1
 refine ⟨w',?_,⟨?_,.inr ⟨gb,off,cap,_,rfl,hh,hnc,hcm,?_,?_⟩⟩,hgr⟩
 ·simp [Builtin.copy_,Jh hT,hs,Builtin.lenOf,hf,hst,goInt]
 ·simp only [HZ,Ic,Jq,hl,hxl]; omega
 ·simpa [l9] using hcs
 ·rw [Kj,Jj,rG _ _ _ (by simp; omega)]
  have hx1:xs.take (a*sz)=(cur.toList.take (off+a*sz)).drop off:=by
   rw [← htake,LS,IH (by omega),J9,JV]
  have hx2:xs.drop ((a+min sl dl)*sz)=(cur.toList.drop (off+a*sz+news.length)).take (n*sz-(a+min sl dl)*sz):=by
   rw [← htake,J9,Jt]; congr 2; omega
  rw [hx1,hx2,Ia,KC (by simp; omega),← Ia]
  have hlen:((cur.toList.take (off+a*sz)).drop off++news).length=a*sz+min sl dl*sz:=by
   rw [HZ,Jq,Ic,hl]; simp; omega
  have e:n*sz=((cur.toList.take (off+a*sz)).drop off++news).length+(n*sz-(a+min sl dl)*sz):=by rw [hlen]; omega
  conv=>lhs; rw [e]
  rw [List.take_length_add_append]
section
variable {x:Cx}{ops:Array Oper}{Q:kZ}{rest:List Oper}{H:Hp}{M M':List bV}{L L':Env}
variable {d:Nat}{ty:TypeId}{pos:String}{aft:Array Edge}{g:Option (Nat×Bool)}
theorem ud {c:Code}{v:Value}{e:TypeId}{sz n:Nat}{xs:List Value} (h0:0<n)
  (k:∀ gb off cap,v=.slice (some ⟨gb,off,none⟩) n cap→n≤cap→Go.Sim.C x c Q H (.row v e sz n xs::M) L):Go.Sim.C x c Q H (.row v e sz n xs::M) L:=by
 intro a w hs ht;have hok:fY w e sz v n xs:=ht.ok _ (Hm ..);rcases hok.2 with ⟨_,h⟩ | ⟨gb,off,cap,cur,he,_,hnc,_⟩
 ·omega
 ·exact k gb off cap he hnc a w hs ht
theorem Af {α:Type}[aE α] {t tu e:TypeId}{y u:Operand}{v vu:Value}{xs:List Value}{l ys:List α}
  (hg:gd ops L ⟨some d,.call ⟨.builtin .copy,#[y,u],#[t,tu]⟩,ty,pos,aft,g⟩=some true) (hN:Nat.blt d x.N=true)
  (hT:x.P.underlying t=some (.slice e)) (hsz:∀ w,(sizeOf e).run x.P w=.ok (aE.sz α) w) (hs:Nat.blt 0 (aE.sz α)=true)
  (hy:ev L y=some v) (hu:ev L u=some vu) (hx:Rw H v xs l) (hR:aI H vu ys) (h0:0<ys.length)
  (k:∀ xs',Rw H v xs' (ys.take (min ys.length l.length)++l.drop (min ys.length l.length))→W x ops Q rest H (.row v e (aE.sz α) l.length xs'::M) ((d,.int .i64 (min ys.length l.length:Nat))::L)):
  W x ops Q (⟨some d,.call ⟨.builtin .copy,#[y,u],#[t,tu]⟩,ty,pos,aft,g⟩::rest) H (.row v e (aE.sz α) l.length xs::M) L:=by
 refine oL rfl hg hN fun a w hsl ht=>?_;have hown:fY w e (aE.sz α) v l.length xs:=ht.ok _ (Hm ..);obtain ⟨cs,hcs,hcase⟩:=hR.flat;rcases hcase with ⟨_,rfl⟩ | ⟨hc,b,off2,c,rfl⟩
 ·simp at h0
 by_cases hl0:l.length=0
 ·have hm0:min ys.length l.length=0:=by omega
  refine ⟨.int .i64 (min ys.length l.length:Nat),w,?_,H,_,ht,k xs (by rw [hm0]; simpa using hx)⟩
  have hf:(Builtin.firstCells (aE.sz α) 0 (.slice (some ⟨b,off2,none⟩) ys.length c)).run x.P w=.ok #[] w:=
   Mr (P:=x.P) w (aE.sz α) 0 ⟨b,off2,none⟩ ys.length c [] (by simp) (by simp)
  rw [hm0];rcases hown.2 with ⟨rfl,_⟩ | ⟨gb,off,cap,cur,rfl,_⟩
  ·simp [execOp,resolve,invoke,builtin,hsl.ev hy,hsl.ev hu,Builtin.copy_,Jh hT,hsz,Builtin.lenOf,hf,goInt]
  ·simp [execOp,resolve,invoke,builtin,hsl.ev hy,hsl.ev hu,Builtin.copy_,Jh hT,hsz,Builtin.lenOf,hf,goInt,hl0,storeCells]
 rcases hown.2 with ⟨_,h⟩ | ⟨gb,off,cap,cur,rfl,_⟩
 ·exact absurd h hl0
 obtain ⟨w',hr,ho,hgr⟩:=yO (P:=x.P) (tu:=tu) (ty:=ty) (a:=0) (dl:=l.length) (dc:=cap) (b:=⟨b,off2,none⟩) (sl:=ys.length) (sc:=c) (news:=cs.take (min ys.length l.length*aE.sz α)) hT hsz hown (by omega)
  (by rw [Ic,hcs.len]; exact IH (HL _ (by omega)))
  (fun j u hu=>by
   rw [ID] at hu
   split at hu
   ·exact ((hc j u hu).at (x:=x) (M:=.row (.slice (some ⟨gb,off,none⟩) l.length cap) e (aE.sz α) l.length xs::M)) w ht
   ·cases hu) (fun u hu=>hcs.one u (JY hu))
 rw [Jk,LU,Ju,Ii] at ho;rw [Jk,Jj] at hr;refine ⟨.int .i64 (min ys.length l.length:Nat),w',?_,H,_,ht.xM (r':=.row (.slice (some ⟨gb,off,none⟩) l.length cap) e (aE.sz α) l.length _) hgr ho (fun b hb=>.inl hb),k _ ⟨(hcs.split _).1.app (hx.rd.split _).2,_,_,_,rfl⟩⟩;simp [execOp,resolve,invoke,builtin,hsl.ev hy,hsl.ev hu,hr]
theorem vd {α:Type}[aE α] {t tu e:TypeId}{gb off cap q dc sc:Nat}{y u:Operand}{xs:List Value}{l:List α}
  (hg:gd ops L ⟨some d,.call ⟨.builtin .copy,#[y,u],#[t,tu]⟩,ty,pos,aft,g⟩=some true) (hN:Nat.blt d x.N=true)
  (hT:x.P.underlying t=some (.slice e)) (hsz:∀ w,(sizeOf e).run x.P w=.ok (aE.sz α) w) (hs:Nat.blt 0 (aE.sz α)=true)
  (hx:Rw H (.slice (some ⟨gb,off,none⟩) l.length cap) xs l) (hq:q≤l.length)
  (hy:ev L y=some (.slice (some ⟨gb,off+q*aE.sz α,none⟩) (l.length-q) dc)) (hu:ev L u=some (.slice (some ⟨gb,off,none⟩) q sc))
  (k:∀ xs',Rw H (.slice (some ⟨gb,off,none⟩) l.length cap) xs' (l.take q++l.take (min q (l.length-q))++l.drop (q+min q (l.length-q))) →
   W x ops Q rest H (.row (.slice (some ⟨gb,off,none⟩) l.length cap) e (aE.sz α) l.length xs'::M) ((d,.int .i64 (min q (l.length-q):Nat))::L)):
  W x ops Q (⟨some d,.call ⟨.builtin .copy,#[y,u],#[t,tu]⟩,ty,pos,aft,g⟩::rest) H (.row (.slice (some ⟨gb,off,none⟩) l.length cap) e (aE.sz α) l.length xs::M) L:=by
 refine oL rfl hg hN fun a w hsl ht=>?_;have hown:fY w e (aE.sz α) (.slice (some ⟨gb,off,none⟩) l.length cap) l.length xs:=ht.ok _ (Hm ..);have hlen:=hx.rd.len;have hone:=hx.rd.one;have hmm:min q (l.length-q)*aE.sz α≤l.length*aE.sz α:=HL _ (by omega)
 have hcell:∀ j u,(xs.take (min q (l.length-q)*aE.sz α))[j]? = some u→w.cell? ((⟨gb,off,none⟩:Addr).add j)=some u:=by
  intro j u hj;rcases hown.2 with ⟨h0,_⟩ | ⟨gb2,off2,cap2,cur,he,hgb,hnc,hcm,hcs,htake⟩
  ·cases h0
  cases he;rw [IL];refine Mf hgb rfl ?_;rw [ID] at hj
  split at hj
  ·rw [← htake,ID] at hj
   split at hj
   ·rw [Ir] at hj; simpa using hj
   ·cases hj
  ·cases hj
 obtain ⟨w',hr,ho,hgr⟩:=yO (P:=x.P) (tu:=tu) (ty:=ty) (a:=q) (dl:=l.length-q) (dc:=dc) (b:=⟨gb,off,none⟩) (sl:=q) (sc:=sc) (news:=xs.take (min q (l.length-q)*aE.sz α)) hT hsz hown (by omega)
  (by rw [Ic,hlen]; omega) hcell (fun u hu=>hone u (JY hu))
 refine ⟨.int .i64 (min q (l.length-q):Nat),w',?_,H,_,ht.xM (r':=.row (.slice (some ⟨gb,off,none⟩) l.length cap) e (aE.sz α) l.length _) hgr ho (fun b hb=>.inl hb),k _ ⟨?_,_,_,_,rfl⟩⟩
 ·simp [execOp,resolve,invoke,builtin,hsl.ev hy,hsl.ev hu,hr]
 ·exact ((hx.rd.split q).1.app (hx.rd.split (min q (l.length-q))).1).app (hx.rd.split (q+min q (l.length-q))).2
end
theorem xW {x:Cx}{ops:Array Oper}{Q:kZ}{rest:List Oper}{H:Hp}{M:List bV}{L:Env}{d:Nat}{f:FuncId}{args:List Operand}{tys:Array TypeId}{ty:TypeId}{pos:String}{aft:Array Edge}{g:Option (Nat×Bool)}{vs:List Value}{v:Value}
  (hx:∀ w,(callFunc f vs.toArray).run x.P w=.ok (.value v) w)
  (hg:gd ops L ⟨some d,.call ⟨.value (.func f),args.toArray,tys⟩,ty,pos,aft,g⟩=some true) (hN:Nat.blt d x.N=true)
  (hv:uk L args=some vs) (k:W x ops Q rest H M ((d,v)::L)):
  W x ops Q (⟨some d,.call ⟨.value (.func f),args.toArray,tys⟩,ty,pos,aft,g⟩::rest) H M L:=
 eK rfl hg hN (fun a w hs ht=>by
  have hargs:args.toArray.map a.eval=vs.toArray:=by simp [hs.uk hv]
  simp only [execOp,resolve,hargs,Act.eval,Deferred.ofValue,HJ,HU,HA,invoke];simp [hx]) k
def FA (s:ByteArray) (c:Int):Int:=Go.Lib.indexByte s.data.toList c.toNat.toUInt8
theorem yp {P:Program}{f:FuncId}{fn:Func} (hf:P.funcs[f]? = some fn) (h1:(fn.name == "runtime.NumGoroutine")=false) (h2:fn.body.isNone=true) (h3:Extern.findNext fn=none) (h4:Extern.find fn=some Extern.BytealgIndexByte.indexByte) (s:ByteArray) (c:Int):
  ∀ w,(callFunc f [.string s,.int .u8 c].toArray).run P w=.ok (.value (.int .i64 (FA s c))) w:=fun w=>by
 rw [run_callFunc_extern hf h1 h2 h3 h4,show [Value.string s,.int .u8 c].toArray=#[.string s,.int .u8 c] from rfl,Go.Lib.run_indexByteString]
 rfl
section
variable {x:Cx}{ops:Array Oper}{Q:kZ}{rest:List Oper}{H:Hp}{M M':List bV}{L L':Env}
variable {d:Nat}{ty:TypeId}{pos:String}{aft:Array Edge}{g:Option (Nat×Bool)}
theorem B2 {t e:TypeId}{y:Operand}{ad:Option Addr}{c2:Nat}
  (hg:gd ops L ⟨none,.call ⟨.builtin .clear,#[y],#[t]⟩,ty,pos,aft,g⟩=some true)
  (hT:x.P.underlying t=some (.slice e)) (hy:ev L y=some (.slice ad 0 c2)) (k:W x ops Q rest H M L):
  W x ops Q (⟨none,.call ⟨.builtin .clear,#[y],#[t]⟩,ty,pos,aft,g⟩::rest) H M L:=
 Ah rfl hg fun a w hsl ht=>⟨.tuple #[],w,by
  cases ad <;> simp [execOp,resolve,invoke,builtin,hsl.ev hy,Builtin.clear_,Jh hT],H,M,ht,k⟩
theorem xT {t e:TypeId}{sz m n gb off cap i c2:Nat}{y:Operand}{z:Value}{zs xs:List Value}
  (hg:gd ops L ⟨none,.call ⟨.builtin .clear,#[y],#[t]⟩,ty,pos,aft,g⟩=some true)
  (hT:x.P.underlying t=some (.slice e)) (hz:∀ w,(zeroValue e).run x.P w=.ok z w) (hzs:z.cells=zs.toArray) (hzl:zs.length=sz) (h1:zs.all Value.oneCell'=true) (hs:Nat.blt 0 sz=true)
  (hi:i<m) (hy:ev L y=some (.slice (some ⟨gb,off+i*sz,none⟩) (m-i) c2))
  (k:W x ops Q rest H (.row (.slice (some ⟨gb,off,none⟩) m cap) e sz m (xs.take (i*sz)++(Builtin.zeroCells z.cells (m-i)).toList)::M) L):
  W x ops Q (⟨none,.call ⟨.builtin .clear,#[y],#[t]⟩,ty,pos,aft,g⟩::rest) H (.row (.slice (some ⟨gb,off,none⟩) m cap) e sz n xs::M) L:=by
 have hs':0<sz:=by simpa [IM] using hs
 refine Ah rfl hg fun a w hsl ht=>?_;have hown:fY w e sz (.slice (some ⟨gb,off,none⟩) m cap) n xs:=ht.ok _ (Hm ..);rcases hown.2 with ⟨h0,_⟩ | ⟨gb2,off2,cap2,cur,he,hgb,hnc,hcm,hcs,htake⟩
 ·cases h0
 cases he;obtain ⟨q,hq⟩:∃ q,m-i=q+1:=⟨m-i-1,by omega⟩
 have hzlen:(Builtin.zeroCells z.cells (m-i)).toList.length=(m-i)*sz:=by
  unfold Builtin.zeroCells; rw [hzs]; simp [hzl]
 have hmul:m*sz≤cap*sz:=HL _ hnc;have hsplit:i*sz+(m-i)*sz=m*sz:=by rw [← HS]; congr 1; omega
 have hone:∀ u ∈ (Builtin.zeroCells z.cells (m-i)).toList,u.oneCell'=true:=by
  rw [hzs]; exact wH (fun u hu=>IT.1 h1 u hu) (by omega) _
 obtain ⟨w',hst,hh,hgr⟩:=iI (P:=x.P) gb (off+i*sz) e (Builtin.zeroCells z.cells (m-i)).toList 0 cur.toList w (by simpa using hgb) (by rw [hzlen]; simp; omega) hone
 refine ⟨.tuple #[],w',?_,H,_,ht.xM (r':=.row (.slice (some ⟨gb,off,none⟩) m cap) e sz m (xs.take (i*sz)++(Builtin.zeroCells z.cells (m-i)).toList)) hgr ⟨?_,.inr ⟨gb,off,cap,_,rfl,hh,hnc,hcm,?_,?_⟩⟩ (fun b hb=>.inl hb),k⟩
 ·rw [hq] at hst hy
  simp [execOp,resolve,invoke,builtin,hsl.ev hy,Builtin.clear_,Jh hT,hz,hst]
 ·rw [HZ,Ic,hzlen,hown.1]
  omega
 ·simpa [l9] using hcs
 ·rw [Kj,Jj,rG _ _ _ (by rw [hzlen]; simp; omega)]
  have hd:(cur.toList.take (off+i*sz)).drop off=xs.take (i*sz):=by
   rw [J9,JV,← htake,LS,IH (by omega)]
  have hlen2:((cur.toList.take (off+i*sz)).drop off++(Builtin.zeroCells z.cells (m-i)).toList).length=m*sz:=by
   rw [HZ,hd,Ic,hzlen,hown.1]; omega
  rw [Ia,KC (by simp; omega),← Ia,← hlen2]
  rw [K0,hd]
theorem rZ {α:Type}[aE α] {t e:TypeId}{n:Nat}{y lo:Operand}{v:Value}{z:Value}{zs xs:List Value}{l:List α}{ze:α}{kk:IntKind}{i:Int}{ty2:TypeId}{pos2:String}{aft2:Array Edge}{g2:Option (Nat×Bool)}
  (hg:gd ops L ⟨some d,.slice t y (some lo) none none,ty,pos,aft,g⟩=some true) (hN:Nat.blt d x.N=true)
  (hg2:∀ u,gd ops ((d,u)::L) ⟨none,.call ⟨.builtin .clear,#[.tmp d],#[t]⟩,ty2,pos2,aft2,g2⟩=some true)
  (hT:x.P.underlying t=some (.slice e)) (hT2:∀ w,(underlying t).run x.P w=.ok (.slice e) w) (hsz:∀ w,(sizeOf e).run x.P w=.ok (aE.sz α) w)
  (hz:∀ w,(zeroValue e).run x.P w=.ok z w) (hzs:z.cells=zs.toArray) (h1:zs.all Value.oneCell'=true) (hs:Nat.blt 0 (aE.sz α)=true) (hE:aE.E H zs ze)
  (hy:ev L y=some v) (hlo:ev L lo=some (.int kk i)) (hx:Rw H v xs l) (hb:0≤i∧i≤(l.length:Int))
  (k:∀ u xs',Rw H v xs' (l.take i.toNat++List.replicate (l.length-i.toNat) ze)→W x ops Q rest H (.row v e (aE.sz α) (l.take i.toNat++List.replicate (l.length-i.toNat) ze).length xs'::M) ((d,u)::L)):
  W x ops Q (⟨some d,.slice t y (some lo) none none,ty,pos,aft,g⟩::⟨none,.call ⟨.builtin .clear,#[.tmp d],#[t]⟩,ty2,pos2,aft2,g2⟩::rest) H (.row v e (aE.sz α) n xs::M) L:=by
 obtain ⟨hb0,hb1⟩:=hb;obtain ⟨q,rfl⟩:∃ q:Nat,i=q:=⟨i.toNat,by omega⟩
 have hql:q≤l.length:=by omega
 rw [Hj] at k;have hs':0<aE.sz α:=by simpa [IM] using hs
 have hlen:(l.take q++List.replicate (l.length-q) ze).length=l.length:=by simp; omega
 have hlk:∀ u,ev ((d,u)::L) (.tmp d)=some u:=fun u=>by simp [ev,pn]
 have hn:∀ {a:Act}{w:World},St x.B x.w0 H (.row v e (aE.sz α) n xs::M) w→n=l.length:=fun {a w} ht=>by
  have hok:fY w e (aE.sz α) v n xs:=ht.ok _ (Hm ..);have h1:=hx.rd.len;rw [hok.1] at h1;exact Jw hs' h1
 have same:l.length=q→∀ {L2:Env},(∀ xs',Rw H v xs' (l.take q++List.replicate (l.length-q) ze)→W x ops Q rest H (.row v e (aE.sz α) (l.take q++List.replicate (l.length-q) ze).length xs'::M) L2)→W x ops Q rest H (.row v e (aE.sz α) n xs::M) L2:=by
  intro hq L2 kk a w hsl ht;have hnn:=hn (a:=a) ht;subst hnn;have e:l.take q++List.replicate (l.length-q) ze=l:=by rw [hq,I3,← hq,JA]; simp
  have:=kk xs (by rw [e]; exact hx)
  rw [e] at this;exact this a w hsl ht
 intro a w hsl ht;have hnn:=hn (a:=a) ht;subst hnn;have hok:fY w e (aE.sz α) v l.length xs:=ht.ok _ (Hm ..)
 revert a w
 suffices hh:∀ (oo:Option Addr) (cap:Nat),v=.slice oo l.length cap→l.length≤cap→(q<l.length→∃ gb off,oo=some ⟨gb,off,none⟩) →
   W x ops Q (⟨some d,.slice t y (some lo) none none,ty,pos,aft,g⟩::⟨none,.call ⟨.builtin .clear,#[.tmp d],#[t]⟩,ty2,pos2,aft2,g2⟩::rest) H (.row v e (aE.sz α) l.length xs::M) L by
  intro a w hsl ht hok;rcases hok.2 with ⟨e0,h0⟩ | ⟨gb,off,cap,cur,e0,_,hnc,_⟩
  ·exact hh none 0 (by rw [h0]; exact e0) (by omega) (fun h=>by omega) a w hsl ht
  ·exact hh (some ⟨gb,off,none⟩) cap e0 hnc (fun _=>⟨gb,off,rfl⟩) a w hsl ht
 intro oo cap hv hnc hsome;subst hv
 by_cases hq:l.length=q
 ·refine pz (m:=cap) (h:=l.length) (l:=q) hg hN hT2 hsz hy (.inl rfl) (.inl ⟨rfl,rfl⟩) (.inl ⟨rfl,rfl⟩) (.inr ⟨_,_,_,rfl,hlo,by omega,by omega,by omega⟩) (v':=.slice (if cap=q then oo else oo.map (·.add (q*aE.sz α))) 0 (cap-q)) (by rw [hq,I3]) ?_
  exact B2 (hg2 _) hT (hlk _) (same hq (fun xs' hx'=>k _ xs' hx'))
 ·obtain ⟨gb,off,rfl⟩:=hsome (by omega)
  refine pz (m:=cap) (h:=l.length) (l:=q) hg hN hT2 hsz hy (.inl rfl) (.inl ⟨rfl,rfl⟩) (.inl ⟨rfl,rfl⟩) (.inr ⟨_,_,_,rfl,hlo,by omega,by omega,by omega⟩) (v':=.slice (some ⟨gb,off+q*aE.sz α,none⟩) (l.length-q) (cap-q)) (by rw [Hs (by omega),Je,IL]) ?_
  have hzl:zs.length=aE.sz α:=aE.len hE;refine xT (i:=q) (sz:=aE.sz α) (hg2 _) hT hz hzs hzl h1 hs (by omega) (hlk _) ?_
  have hcells:(Builtin.zeroCells z.cells (l.length-q)).toList=(List.range ((l.length-q)*aE.sz α)).map (zs.toArray[·%zs.length]!):=by
   unfold Builtin.zeroCells;rw [hzs];simp [hzl]
  have hrw:Rw H (.slice (some ⟨gb,off,none⟩) l.length cap) (xs.take (q*aE.sz α)++(Builtin.zeroCells z.cells (l.length-q)).toList) (l.take q++List.replicate (l.length-q) ze):=
   ⟨(hx.rd.split q).1.app (by rw [hcells]; exact E1 hE hzl _),_,_,_,rfl⟩
  have:=k (.slice (some ⟨gb,off+q*aE.sz α,none⟩) (l.length-q) (cap-q)) _ hrw;rw [hlen] at this;exact this
end
theorem z_ (k:Nat):jW .u64 (k:Int) 32=((k / 4294967296:Nat):Int):=by
 unfold jW;rw [show (2:Int) ^ (min (32:Int).toNat u64.bits)=4294967296 from rfl];rw [Kn _ (by decide)]
 omega
def yK {α:Type} (s:List α) (n:Int):List α:=(List.replicate n.toNat s).flatten
theorem sB {α:Type} (a:α) (m:Nat):yK [a] (m:Int)=List.replicate m a:=by
 unfold yK;rw [Hj]
 induction m with
 | zero=>rfl
 | succ m ih=>rw [Kh,Kh,List.flatten_cons,ih]; rfl
theorem yL {α:Type}{a:α}{l:List α}{q:Nat} (h:l.take q=List.replicate q a) (hq:q≤l.length):
  (l.take q++l.take (min q (l.length-q))++l.drop (q+min q (l.length-q))).take (q+min q (l.length-q))=List.replicate (q+min q (l.length-q)) a:=by
 have h2:l.take (min q (l.length-q))=List.replicate (min q (l.length-q)) a:=by
  have:=HH (List.take (min q (l.length-q))) h
  rwa [LS,List.take_replicate,show min (min q (l.length-q)) q=min q (l.length-q) by omega] at this
 rw [h,h2,List.replicate_append_replicate];rw [List.take_append_of_le_length (by simp),HR (by simp)]
section
variable {B:Nat}{w0 w w':World}{H:Hp}{M:List bV}
theorem St.var? (ht:St B w0 H M w) {P:Program}{n:String}{g:Nat} (hg:P.globalNamed n=some g) (hlt:g<B):w.var? P n=w0.var? P n:=by
 unfold World.var?;rw [hg];simp only [Kp];rw [ht.below.block g hlt]
theorem St.under (ht:St B w0 H M w) (hb:Below w.heap.size w w'):St B w0 H M w':=
 ht.grow ⟨hb.os,hb.tape,hb.output,hb.size,fun i hi _=>hb.block i hi⟩
theorem St.GV (ht:St B w0 H M w) {P:Program}{n:String}{g:Nat}{k:IntKind}{zs:List Int} (hT:Lib.TabIs P w0 n k zs) (hg:P.globalNamed n=some g) (hlt:g<B):Lib.TabIs P w n k zs:=
 (ht.var? hg hlt).trans hT
end
theorem FR {P:Program}{W:World}{n:String}{g:Nat}{cs:Array Value} (hg:P.globalNamed n=some g) (h:W.var? P n=some cs):g<W.heap.size:=by
 unfold World.var? at h;rw [hg] at h;simp only [Kp] at h
 split at h
 ·rename_i o _ _ ho
  exact (Ja.1 ho).1
 ·cases h
def E3 (v:Value) (b:Bool):Prop:=(b=false∧v=.nilIface)∨(b=true∧∃ T p,v=.iface T p)
section
variable {x:Cx}{ops:Array Oper}{Q:kZ}{rest:List Oper}{H:Hp}{M:List bV}{L:Env}
variable {d:Nat}{ty:TypeId}{pos:String}{aft:Array Edge}{g:Option (Nat×Bool)}
theorem DU {t u:TypeId}{y:Operand}{v:Value}{b:Bool}{ms:Array (String×TypeId)} (hT:∀ w,(underlying t).run x.P w=.ok (.interface ms) w) (he:E3 v b) (hg:gd ops L ⟨some d,.binOp .neq t y (.const .nilIface) u,ty,pos,aft,g⟩=some true) (hN:Nat.blt d x.N=true)
  (hy:ev L y=some v) (k:W x ops Q rest H M ((d,.bool b)::L)):W x ops Q (⟨some d,.binOp .neq t y (.const .nilIface) u,ty,pos,aft,g⟩::rest) H M L:=
 eK rfl hg hN (fun c w hs _=>by
  have hz:c.eval (.const .nilIface)=.nilIface:=rfl;rcases he with ⟨rfl,rfl⟩ | ⟨rfl,T,p,rfl⟩
  ·have key:∀ k,(Op.equalIn (k+1) t .nilIface .nilIface).run x.P w=.ok true w:=fun k=>by
    unfold Op.equalIn;simp [hT]
   have h':(Op.equal t .nilIface .nilIface).run x.P w=.ok true w:=key 9999;simp only [execOp,hs.ev hy,hz,HJ,eqGuard,binOp];simp [h']
  ·have key:∀ k,(Op.equalIn (k+1) t (.iface T p) .nilIface).run x.P w=.ok false w:=fun k=>by
    unfold Op.equalIn;simp [hT]
   have h':(Op.equal t (.iface T p) .nilIface).run x.P w=.ok false w:=key 9999;simp only [execOp,hs.ev hy,hz,HJ,eqGuard,binOp];simp [h']) k
def te (l:List U8):ByteArray:=⟨(l.map fun y=>UInt8.ofNat y.n.toNat).toArray⟩
theorem vC:∀ (ns:List Int) (r:ByteArray),ns.foldl (fun r n=>r.push (UInt8.ofNat n.toNat)) r=⟨r.data++(ns.map fun n=>UInt8.ofNat n.toNat).toArray⟩
 | [],r=>by simp
 | n::ns,r=>by
  rw [List.foldl_cons,vC ns];simp [ByteArray.push]
theorem aI.bytes {H:Hp}{v:Value}{l:List U8} (hR:aI H v l) {B:Nat}{w0 w:World}{M:List bV}{P:Program} (ht:St B w0 H M w):(Conv.bytesToString v).run P w=.ok (.string (te l)) w:=by
 rcases hR with ⟨⟨a,rfl⟩,rfl⟩ | ⟨b,off,cap,arr,T,fz,rfl,h2,h3,h4,h5,h6⟩
 ·cases a with
  | none=>rfl
  | some a=>
   rw [run_bytesToString w a 0 0 [] (by simp [loadCells,loadCellsFrom,HU])]
   rfl
 ·have hl:=run_loadCells_list (P:=P) w ⟨b,off,none⟩ ((l.map fun y=>y.n).map (Value.int .u8)) (fun j v hj=>by
   rw [Ib,Ib,Option.map_map,Lf] at hj;obtain ⟨y,hy,rfl⟩:=hj;obtain ⟨cs,q1,q2⟩:=h6 j y hy;have q1:cs=[.int .u8 y.n]:=q1;have:=q2 0 (.int .u8 y.n) (by rw [q1]; rfl)
   have hb:=ht.si b _ h4;rw [IL];simp only [World.cell?,hb];simpa [aE.sz] using this)
  simp only [JQ] at hl;rw [run_bytesToString w ⟨b,off,none⟩ l.length cap _ hl,vC];have he0:ByteArray.empty.data=#[]:=rfl;rw [he0];simp [te,List.map_map,Function.comp_def]
end
def ov (n:Int):ByteArray:=⟨(Lib.itoa n).toArray⟩
def Dj (s:ByteArray):Int×Bool:=match Lib.parseUintM 4294967295 0 s.data.toList with
 | .ok v=>((v:Int),false)
 | .range=>(4294967295,true)
 | _=>(0,true)
end Go.Sim
namespace Go.Sim
open Go
open _root_.Go.IntKind (i64 u64 u32 u8)
abbrev ri (b c:Nat) (seen:Array Nat):Obj:=.mapIter (some b) c seen c
theorem BH {P:Program}{w:World}{ty:TypeId}{b c it:Nat}{seen:Array Nat}{es:Array MapEntry} (hi:w.heap[it]? = some (ri b c seen)) (hb:w.heap[b]? = some (.map es c)) (hold:∀ e ∈ es.toList,e.born<c):
  ((∀ e ∈ es.toList,seen.contains e.born=true)∧(Instr.next (.pointer (some ⟨it,0,none⟩)) false ty).run P w=.ok (.tuple #[.bool false]) w) ∨
  ∃ e ∈ es.toList,seen.contains e.born=false∧∃ n,(Instr.next (.pointer (some ⟨it,0,none⟩)) false ty).run P w=.ok (.tuple #[.bool true,e.key,e.val]) { w with drawn:=n,heap:=w.heap.setIfInBounds it (ri b c (seen.push e.born)) }:=by
 simp only [Instr.next,getObj,HJ,Sem.run,hi,hb,Result.andThen,next_test_false seen es c c hold (HQ _),Js,J2];have hmem:∀ x ∈ (Array.filter (fun e=>!seen.contains e.born) es).toList,x ∈ es.toList∧seen.contains x.born=false:=fun x hx=>by simpa using hx
 have hall:Array.filter (fun e=>!seen.contains e.born) es=#[]→∀ e ∈ es.toList,seen.contains e.born=true:=fun h e he=>by
  rw [Array.filter_eq_empty_iff] at h;have:=h e (by simpa using he)
  simpa using this
 generalize Array.filter (fun e=>!seen.contains e.born) es=K at hmem hall ⊢;have e1:K.filter (fun x=>decide (x.born<c))=K:=Array.filter_eq_self.2 (fun x hx=>by
  have:=hold x (hmem x (by simpa using hx)).1
  simpa using this)
 have e2:K.filter (fun x=>decide (x.born≥c))=#[]:=by
  rw [Array.filter_eq_empty_iff];intro x hx;have:=hold x (hmem x (by simpa using hx)).1
  simp;omega
 simp only [e1,e2,Array.append_empty]
 by_cases h0:K.size=0
 ·left
  have:K=#[]:=Array.eq_empty_of_size_eq_zero h0;subst this;refine ⟨hall rfl,?_⟩;simp [choose,Sem.run,Question.forced]
 ·right
  have hne:K.isEmpty=false:=by simp [Array.isEmpty,h0]
  simp only [hne,Js,J2,Array.empty_append,Array.size_map];have hch:∃ (j n:Nat),j<K.size∧(choose (Question.mapNext K.size)).run P w=.ok j { w with drawn:=n }:=by
   by_cases hf:K.size≤1
   ·exact ⟨0,w.drawn,by omega,by simp [choose,Sem.run,Question.forced,hf]⟩
   ·exact ⟨_,w.drawn+1,KJ _ (by omega),by
     simp only [choose,Sem.run,Question.forced,IN,hf,J2,Question.cut]
     rfl⟩
  obtain ⟨j,n,hj,hrun⟩:=hch;obtain ⟨m1,m2⟩:=hmem K[j] (by simp)
  refine ⟨K[j],m1,m2,n,?_⟩;have hset:∀ o,(setObj it o).run P { w with drawn:=n }=.ok () { w with drawn:=n,heap:=w.heap.setIfInBounds it o }:=fun o=>by simp [setObj,Sem.run,hi]
  simp only [hrun,Array.getElem?_map,Ks hj,Je,HJ,hset,Result.andThen]
  rfl
theorem zZ {P:Program}{w:World}{b c it:Nat}{seen:Array Nat}{es:Array MapEntry}{e:MapEntry} (hi:w.heap[it]? = some (ri b c (seen.push e.born))) (hb:w.heap[b]? = some (.map es c)) (he:e ∈ es.toList) (hn:(es.toList.map (·.born)).Nodup):
  (Instr.entry (.pointer (some ⟨it,0,none⟩))).run P w=.ok (.tuple #[e.key,e.val]) w:=by
 have hf:es.find? (·.born == e.born)=some e:=by rw [← Array.find?_toList]; exact find_born e es.toList hn he
 simp only [Instr.entry,getObj,HJ,Sem.run,hi,hb,Result.andThen,Array.back?_push,bne_self_eq_false,Js,J2,hf]
 rfl
section
variable {x:Cx}{ops:Array Oper}{Q:kZ}{rest:List Oper}{H:Hp}{M M':List bV}{L L':Env}
variable {d:Nat}{ty:TypeId}{pos:String}{aft:Array Edge}{g:Option (Nat×Bool)}
variable {κ ν:Type}[DecidableEq κ] [rO κ] [MV ν]
theorem B8 {t key e:TypeId}{b c:Nat}{y:Operand}{es:Array MapEntry} (hm:bV.obj b (.map es c) ∈ M)
  (hg:gd ops L ⟨some d,.range t y,ty,pos,aft,g⟩=some true) (hN:Nat.blt d x.N=true)
  (hT:∀ w,(underlying t).run x.P w=.ok (.map key e) w) (hy:ev L y=some (.map (some b)))
  (k:∀ it,W x ops Q rest H (.obj it (ri b c #[])::M) ((d,.pointer (some ⟨it,0,none⟩))::L)):
  W x ops Q (⟨some d,.range t y,ty,pos,aft,g⟩::rest) H M L:=
 oL rfl hg hN (fun a w hs ht=>⟨_,w.alloc (ri b c #[]),by
  have hb:=ht.q6 hm;simp only [execOp,hs.ev hy,Instr.range,HJ,hT,HA,rI hb,HU,newObj,Sem.run,World.alloc],_,_,ht.alloc _,k _⟩)
theorem DV {b c it:Nat}{y:Operand}{seen:Array Nat}{es:Array MapEntry}{l:List (κ×ν)} (hm:bV.obj b (.map es c) ∈ M) (h:ot es c l)
  (hg:gd ops L ⟨some d,.next y false,ty,pos,aft,g⟩=some true) (hN:Nat.blt d x.N=true) (hy:ev L y=some (.pointer (some ⟨it,0,none⟩)))
  (k1:(∀ e ∈ es.toList,seen.contains e.born=true)→W x ops Q rest H (.obj it (ri b c seen)::M) ((d,.tuple #[.bool false])::L))
  (k2:∀ e ∈ es.toList,seen.contains e.born=false→W x ops Q rest H (.obj it (ri b c (seen.push e.born))::M) ((d,.tuple #[.bool true,e.key,e.val])::L)):
  W x ops Q (⟨some d,.next y false,ty,pos,aft,g⟩::rest) H (.obj it (ri b c seen)::M) L:=
 oL rfl hg hN (fun a w hs ht=>by
  have hi:=ht.q6 (Hm ..);have hb:=ht.q6 (HB _ hm);have hlt:it<w.heap.size:=(Ja.1 hi).1;rcases BH (P:=x.P) (ty:=ty) hi hb h.lt with ⟨hall,hr⟩ | ⟨e,he,hne,n,hr⟩
  ·exact ⟨_,w,by simp only [execOp,hs.ev hy,HJ,hr,HA,HU],_,_,ht,k1 hall⟩
  ·refine ⟨_,{ w with drawn:=n,heap:=w.heap.setIfInBounds it (ri b c (seen.push e.born)) },by simp only [execOp,hs.ev hy,HJ,hr,HA,HU],_,_,?_,k2 e he hne⟩
   have h1:=ht.xM (r':=.obj it (ri b c (seen.push e.born))) (sh w it (ri b c (seen.push e.born))) (by simp [bV.ok,hlt]) (fun _ hc=>.inl hc)
   exact h1.drewN n)
theorem B3 {b c it:Nat}{y:Operand}{seen:Array Nat}{es:Array MapEntry}{l:List (κ×ν)}{e:MapEntry} (hi:bV.obj it (ri b c (seen.push e.born)) ∈ M) (hm:bV.obj b (.map es c) ∈ M) (h:ot es c l) (he:e ∈ es.toList) {vk vv:Value} (hk:e.key=vk) (hv:e.val=vv)
  (hg:gd ops L ⟨some d,.entry y,ty,pos,aft,g⟩=some true) (hN:Nat.blt d x.N=true) (hy:ev L y=some (.pointer (some ⟨it,0,none⟩)))
  (k:W x ops Q rest H M ((d,.tuple #[vk,vv])::L)):
  W x ops Q (⟨some d,.entry y,ty,pos,aft,g⟩::rest) H M L:=
 eK rfl hg hN (fun a w hs ht=>by
  subst hk; subst hv
  simp only [execOp,hs.ev hy,HJ,zZ (P:=x.P) (ht.q6 hi) (ht.q6 hm) he h.nd,HA,HU]) k
end
theorem ot.pick {κ ν:Type}[DecidableEq κ] [rO κ] [MV ν] {es:Array MapEntry}{c:Nat}{l:List (κ×ν)} (h:ot es c l) {e:MapEntry} (he:e ∈ es.toList):∃ (i:Nat) (p:κ×ν),es.toList[i]? = some e∧l[i]? = some p∧e.key=MV.mv p.1∧e.val=MV.mv p.2:=by
 obtain ⟨i,hi,rfl⟩:=IW.1 he;have h1:(es.toList.map fun e=>(e.key,e.val))[i]? = (l.map fun p=>(MV.mv p.1,MV.mv p.2))[i]? := by rw [h.eq]
 rw [Ib,Ib,Hi hi] at h1;cases hp:l[i]? with
 | none=>rw [hp] at h1; simp at h1
 | some p=>
  rw [hp] at h1;simp only [Je,Im,K7] at h1;exact ⟨i,p,Hi hi,hp,h1.1,h1.2⟩
def tA {α:Type} (es:Array MapEntry) (seen:Array Nat) (l:List α) (P:α→Bool):Prop:=∀ (i:Nat) (p:α),l[i]? = some p→∀ e,es.toList[i]? = some e→seen.contains e.born=true→P p=false
theorem tA.nil {α:Type}{es:Array MapEntry}{l:List α}{P:α→Bool}:tA es #[] l P:=fun i p hp e he h=>by simp at h
theorem tA.push {κ ν:Type}[DecidableEq κ] [rO κ] [MV ν] {es:Array MapEntry}{c:Nat}{seen:Array Nat}{l:List (κ×ν)}{P:κ×ν→Bool} (hs:tA es seen l P) (h:ot es c l) {i:Nat}{p:κ×ν}{e:MapEntry}
  (hi:es.toList[i]? = some e) (hp:l[i]? = some p) (hP:P p=false):tA es (seen.push e.born) l P:=fun j q hq e' he' hc=>by
 by_cases hj:i=j
 ·subst hj
  rw [hp] at hq;obtain rfl:=Hc hq;exact hP
 ·refine hs j q hq e' he' ?_
  have hne:e'.born≠e.born:=fun hb=>by
   obtain ⟨h1,h2⟩:=He.1 hi;obtain ⟨h3,h4⟩:=He.1 he';have hpw:=KX.1 h.nd;have h1':i<(es.toList.map (·.born)).length:=by simpa using h1
   have h3':j<(es.toList.map (·.born)).length:=by simpa using h3
   rcases Nat.lt_or_gt_of_ne hj with hlt | hlt
   ·exact hpw i j h1' h3' hlt (by rw [JX,JX,h2,h4]; exact hb.symm)
   ·exact hpw j i h3' h1' hlt (by rw [JX,JX,h2,h4]; exact hb)
  simp at hc ⊢;rcases hc with hc | hc
  ·exact hc
  ·exact absurd hc hne
theorem tA.none {κ ν:Type}[DecidableEq κ] [rO κ] [MV ν] {es:Array MapEntry}{c:Nat}{seen:Array Nat}{l:List (κ×ν)}{P:κ×ν→Bool} (hs:tA es seen l P) (h:ot es c l) (hall:∀ e ∈ es.toList,seen.contains e.born=true):l.any P=false:=by
 rw [List.any_eq_false];intro p hp;obtain ⟨i,hi,rfl⟩:=IW.1 hp;have hlen:es.toList.length=l.length:=by have:=HH List.length h.eq; simpa using this
 have hi':i<es.toList.length:=by omega
 have:=hs i l[i] (Hi hi) es.toList[i] (Hi hi') (hall _ (IG hi'));simp [this]
theorem Fm {α:Type}{l:List α}{P:α→Bool}{i:Nat}{p:α} (hp:l[i]? = some p) (hP:P p=true):l.any P=true:=
 List.any_eq_true.2 ⟨p,HE hp,hP⟩
def xG (es:Array MapEntry) (seen:Array Nat):Nat:=(es.toList.filter fun e=>!seen.contains e.born).length
theorem BM {es:Array MapEntry}{seen:Array Nat}{e:MapEntry} (he:e ∈ es.toList) (h:seen.contains e.born=false):xG es (seen.push e.born)<xG es seen:=by
 unfold xG;refine filter_lt (fun e=>!seen.contains e.born) (fun e'=>!(seen.push e.born).contains e'.born) (fun y hy=>?_) e (by simp only [h]; rfl) (by simp) es.toList he
 simp at hy ⊢;exact hy.1
end Go.Sim
namespace Go.Sim
open Go Go.RowKit
open _root_.Go.IntKind (i64 u64 u32 u8)
def Gb (b:Nat) (p:Value):Prop:=p=.pointer none∨p=.pointer (some ⟨b,0,none⟩)
theorem uS (s:ByteArray):Lib.strCells s=(iH s).map (fun y=>Value.int .u8 y.n):=by
 simp [Lib.strCells,iH,Function.comp_def]
theorem mU.u8 (H:Hp) (l:List U8):mU H (l.map fun y=>Value.int .u8 y.n) l:=by
 induction l with
 | nil=>exact mU.nil
 | cons y l ih=>exact ⟨[.int .u8 y.n],_,rfl,rfl,ih⟩
theorem uz {P:Program}{w:World}{t u ty e:TypeId}{i:TypeInfo} (ht:P.underlying t=some (.slice e)) (hu:P.underlying u=some .string) (hi:P.info? e=some i) (hz:i.zero=some (.int .u8 0))
  (hsize:i.size=1) (hby:i.bytes=1) {v:Value}{n:Nat}{xs:List Value} (hown:fY w e 1 v n xs) (s:ByteArray) (h63:n+s.size≤maxLen) (hbytes:n+s.size≤140737488355328):
  ∃ v' w',(Builtin.append_ #[t,u] ty #[v,.string s]).run P w=.ok v' w'∧fY w' e 1 v' (n+s.size) (xs++Lib.strCells s)∧w.grownBy w' v.ownBlock ∧
   (∀ b,v'.ownBlock=some b→v.ownBlock=some b∨w.heap.size≤b):=by
 have hsmall:n+s.size≤9223372036854775807:=by simp only [maxLen] at h63; omega
 have hxl:xs.length=n:=by simpa using hown.1
 have hlen:(xs++Lib.strCells s).length=(n+s.size)*1:=by rw [HZ,hxl,K4,Ku]
 have grown:∀ (qC:Nat) (row:Option Nat),
   fY (w.drew.alloc (.cells (xs.toArray++(Lib.strCells s).toArray++Builtin.zeroCells (Value.int .u8 0).cells (grownCap w (n+s.size) qC e-(n+s.size))) e)) e 1
    (.slice (some ⟨w.heap.size,0,none⟩) (n+s.size) (grownCap w (n+s.size) qC e)) (n+s.size) (xs++Lib.strCells s) ∧
   w.grownBy (w.drew.alloc (.cells (xs.toArray++(Lib.strCells s).toArray++Builtin.zeroCells (Value.int .u8 0).cells (grownCap w (n+s.size) qC e-(n+s.size))) e)) row:=by
  intro qC row;have hge:=Mu w (n+s.size) qC e;have hcm:grownCap w (n+s.size) qC e≤maxLen:=LL w (n+s.size) qC e h63;refine ⟨⟨hlen,.inr ⟨w.heap.size,0,_,_,rfl,LX w.drew _,hge,hcm,?_,?_⟩⟩,⟨rfl,rfl,rfl,by simp,fun k hk _=>heap_alloc_old w.drew _ (h:=hk)⟩⟩
  ·have hz1:(Value.int u8 0).cells.size=1:=rfl
   simp only [Array.size_append,KB,size_zeroCells,hz1,hxl,K4];omega
  ·simp only [Jb,Mn,Ia]
   rw [← Ia,← hlen];exact K0
 rcases hown.2 with ⟨rfl,rfl⟩ | ⟨g,off,cap,cur,rfl,hg,hnc,hcm,hcs,htake⟩
 ·have hx:xs=[]:=H6 hxl
  subst hx
  by_cases hm:s.size=0
  ·have hn:Lib.strCells s=[]:=H6 (by rw [K4]; exact hm)
   refine ⟨.slice none 0 0,w,?_,by rw [hm,hn]; exact fY.nil w e 1,⟨rfl,rfl,rfl,HQ _,fun _ _ _=>rfl⟩,by simp [Value.ownBlock]⟩
   have hf:=Lib.run_firstCells_string (P:=P) w 1 s;rw [hm] at hf;simp [Builtin.append_,Jh ht,Jh hu,sizeOf,typeInfo,hi,hsize,Builtin.lenOf,hm,hf]
  ·have hr:=run_append_nil_string (P:=P) w t u ty e i (.int .u8 0) ht hu hi hz s (by omega) (by omega) (by rw [hby]; omega)
   have hgr:=grown 0 (Value.ownBlock (.slice none 0 0));simp only [Ii,Ju,Array.empty_append] at hgr ⊢;have e1:(s.data.map fun b=>Value.int .u8 b.toNat)=(Lib.strCells s).toArray:=by
    apply Array.ext';simp [Lib.strCells]
   rw [e1] at hr;exact ⟨_,_,hr,hgr.1,hgr.2,fun b hb=>.inr (by simp only [Value.ownBlock,Im] at hb; omega)⟩
 ·have hcs':off+cap≤cur.size:=by simpa using hcs
  by_cases hroom:n+s.size≤cap
  ·have hf:=Lib.run_firstCells_string (P:=P) w 1 s
   obtain ⟨w',hst,hh,hgr⟩:=iI (P:=P) g (off+n) e (Lib.strCells s) 0 cur.toList w (by simpa using hg) (by rw [K4]; simp; omega) (Lib.strCells_oneCell s)
   refine ⟨.slice (some ⟨g,off,none⟩) (n+s.size) cap,w',?_,⟨hlen,.inr ⟨g,off,cap,_,rfl,hh,hroom,hcm,?_,?_⟩⟩,hgr,fun b hb=>.inl hb⟩
   ·simp [Builtin.append_,Jh ht,Jh hu,sizeOf,typeInfo,hi,hsize,Builtin.lenOf,hroom,hf,IL,hst]
   ·simpa [l9] using hcs
   ·rw [Kj,Jj,rG _ _ _ (by rw [K4]; simp; omega)]
    have hd:(cur.toList.take (off+n)).drop off=xs:=by rw [J9,JV]; simpa using htake
    rw [Ia,KC (by simp; omega),hd,← Ia,← hlen]
    exact K0
  ·have holds:∀ j u,xs[j]? = some u→w.cell? ((⟨g,off,none⟩:Addr).add j)=some u:=by
    intro j u hu;rw [IL];refine Mf hg rfl ?_;rw [← htake,ID] at hu
    split at hu
    ·rw [Ir] at hu; simpa using hu
    ·cases hu
   have hr:=Lib.run_append_grow_string (P:=P) w t u ty e i (.int .u8 0) ht hu hi hz ⟨g,off,none⟩ n cap xs (by rw [hsize]; simpa using hxl) holds s (by omega) (by omega) (by rw [hby]; exact Ms (by omega) (by omega))
   have hgr:=grown cap (Value.ownBlock (.slice (some ⟨g,off,none⟩) n cap));exact ⟨_,_,hr,hgr.1,hgr.2,fun b hb=>.inr (by simp only [Value.ownBlock,Im] at hb; omega)⟩
section
variable {x:Cx}{ops:Array Oper}{Q:kZ}{rest:List Oper}{H:Hp}{M M':List bV}{L L':Env}
variable {d:Nat}{ty:TypeId}{pos:String}{aft:Array Edge}{g:Option (Nat×Bool)}
theorem xS {t u e:TypeId}{n:Nat}{y z:Operand}{v:Value}{xs:List Value}{l:List U8}{s:ByteArray}
  (hg:gd ops L ⟨some d,.call ⟨.builtin .append,#[y,z],#[t,u]⟩,ty,pos,aft,g⟩=some true) (hN:Nat.blt d x.N=true)
  (hT:x.P.underlying t=some (.slice e)) (hU:x.P.underlying u=some .string) (hi:FT x.P e 1 1 (.int .u8 0))
  (hy:ev L y=some v) (hz:ev L z=some (.string s)) (hx:Rw H v xs l) (hb:l.length+s.size≤140737488355328)
  (k:∀ v' xs',Rw H v' xs' (l++iH s)→W x ops Q rest H (.row v' e (aE.sz U8) (l++iH s).length xs'::M) ((d,v')::L)):
  W x ops Q (⟨some d,.call ⟨.builtin .append,#[y,z],#[t,u]⟩,ty,pos,aft,g⟩::rest) H (.row v e (aE.sz U8) n xs::M) L:=by
 obtain ⟨i,h1,h2,h3,h4⟩:=hi.ex;refine oL rfl hg hN fun a w hsl ht=>?_;have hown:fY w e 1 v n xs:=ht.ok _ (Hm ..);have hn:n=l.length:=by
  have:=hx.rd.len;rw [hown.1] at this;exact Jw (Nat.zero_lt_one) this
 subst hn;obtain ⟨v',w',hr,ho,hgr,hfr⟩:=uz (P:=x.P) (ty:=ty) hT hU h1 h4 h2 h3 hown s (by unfold maxLen; omega) hb
 have hlen:(l++iH s).length=l.length+s.size:=by rw [HZ,tf]
 have hok:bV.ok w' (.row v' e (aE.sz U8) (l++iH s).length (xs++Lib.strCells s)):=by rw [hlen]; exact ho
 refine ⟨v',w',?_,H,_,ht.xM (r':=.row v' e (aE.sz U8) (l++iH s).length (xs++Lib.strCells s)) hgr hok hfr,k v' _ ⟨?_,ho.shape⟩⟩
 ·simp [execOp,resolve,invoke,builtin,hsl.ev hy,hsl.ev hz,hr]
 ·rw [uS]
  exact hx.rd.app (mU.u8 H _)
theorem xY {t e u:TypeId}{y z:Operand}{a:Addr} (hi:∃ j,x.P.info? e=some j) (hg:gd ops L ⟨some d,.binOp .neq t y z u,ty,pos,aft,g⟩=some true) (hN:Nat.blt d x.N=true)
  (hT:x.P.underlying t=some (.pointer e)) (hy:ev L y=some (.pointer (some a))) (hz:ev L z=some (.pointer (some a)))
  (k:W x ops Q rest H M ((d,.bool false)::L)):W x ops Q (⟨some d,.binOp .neq t y z u,ty,pos,aft,g⟩::rest) H M L:=
 eK rfl hg hN (fun c w hs _=>by
  obtain ⟨j,hj⟩:=hi;have h:=Lib.run_neq_ptr_same (P:=x.P) w a hT hj;simp only [execOp,hs.ev hy,hs.ev hz,HJ,eqGuard];simp [h]) k
theorem wT {B:Nat}{w0 w:World}{b:Nat}{cs:List Value}{T:TypeId} (ht:St B w0 H M w) (hm:bV.obj b (.cells cs.toArray T (0,0)) ∈ M):w.shape? b=some (T,cs.length):=by
 have h:=ht.q6 hm;simp [World.shape?,h]
theorem zc {src dst T e:TypeId}{y:Operand}{b o:Nat}{cs:List Value} (hm:bV.obj b (.cells cs.toArray e (0,0)) ∈ M) (ho:Nat.blt o cs.length=true)
  (hi:∃ j,x.P.info? T=some j∧Nat.beq j.size 0=false) (hg:gd ops L ⟨some d,.convert src dst y,ty,pos,aft,g⟩=some true) (hN:Nat.blt d x.N=true)
  (hs:x.P.underlying src=some (.pointer T)) (hd:x.P.underlying dst=some .unsafePointer) (hy:ev L y=some (.pointer (some ⟨b,o,none⟩)))
  (k:W x ops Q rest H M ((d,.pointer (some ⟨b,o,none⟩))::L)):W x ops Q (⟨some d,.convert src dst y,ty,pos,aft,g⟩::rest) H M L:=
 eK rfl hg hN (fun c w hsl ht=>by
  obtain ⟨j,hj,hj0⟩:=hi;have h:=Lib.run_to_unsafe (P:=x.P) w ⟨b,o,none⟩ hs hd hj (fun e=>by rw [e] at hj0; cases hj0) (wT ht hm) (by simpa [IM] using ho)
  simp only [execOp,hsl.ev hy,HJ,h,HA,HU]) k
theorem w7 {src dst T e:TypeId}{y:Operand}{b o:Nat}{cs:List Value} (hm:bV.obj b (.cells cs.toArray e (0,0)) ∈ M)
  (hi:∃ j,x.P.info? T=some j) (hl:liesAt x.P x.P.depth e (cs.length / x.P.cellsOf e) o T 1=true) (hg:gd ops L ⟨some d,.convert src dst y,ty,pos,aft,g⟩=some true) (hN:Nat.blt d x.N=true)
  (hs:x.P.underlying src=some .unsafePointer) (hd:x.P.underlying dst=some (.pointer T)) (hy:ev L y=some (.pointer (some ⟨b,o,none⟩)))
  (k:W x ops Q rest H M ((d,.pointer (some ⟨b,o,none⟩))::L)):W x ops Q (⟨some d,.convert src dst y,ty,pos,aft,g⟩::rest) H M L:=
 eK rfl hg hN (fun c w hsl ht=>by
  obtain ⟨j,hj⟩:=hi;have h:=Lib.run_from_unsafe (P:=x.P) w ⟨b,o,none⟩ hs hd hj (wT ht hm) hl;simp only [execOp,hsl.ev hy,HJ,h,HA,HU]) k
theorem xx {P:Program}{f:FuncId}{fn:Func} (hf:P.funcs[f]? = some fn) (h1:(fn.name == "runtime.NumGoroutine")=false) (h2:fn.body.isNone=true) (h3:Extern.findNext fn=none) (h4:Extern.find fn=some Extern.AbiNoEscape.same) (v:Value):
  ∀ w,(callFunc f [v].toArray).run P w=.ok (.value v) w:=fun w=>by
 rw [run_callFunc_extern hf h1 h2 h3 h4,show [v].toArray=#[v] from rfl,Lib.run_noEscape]
 rfl
theorem x9 {ts:Array TypeId}{y:Operand}{a:Addr}{n c:Nat} (hg:gd ops L ⟨some d,.call ⟨.builtin .unsafeSliceData,#[y],ts⟩,ty,pos,aft,g⟩=some true) (hN:Nat.blt d x.N=true)
  (hy:ev L y=some (.slice (some a) n c)) (hc:c≠0) (k:W x ops Q rest H M ((d,.pointer (some a))::L)):
  W x ops Q (⟨some d,.call ⟨.builtin .unsafeSliceData,#[y],ts⟩,ty,pos,aft,g⟩::rest) H M L:=
 eK rfl hg hN (fun s w hsl ht=>by
  have h:=Lib.run_unsafeSliceData_row (P:=x.P) w ts ty a n c hc;simp [execOp,resolve,invoke,builtin,hsl.ev hy,h]) k
theorem sD {P:Program} (w:World):∀ (l:List U8) (a:Addr) (acc:ByteArray),(∀ j y,l[j]? = some y→w.cell? (a.add j)=some (.int .u8 y.n)) →
  (loadBytes a acc l.length).run P w=.ok ⟨acc.data++(l.map fun y=>UInt8.ofNat y.n.toNat).toArray⟩ w
 | [],a,acc,_=>by simp [loadBytes]
 | y::l,a,acc,h=>by
  have h0:w.cell? a=some (.int .u8 y.n):=by
   have:=h 0 y rfl;simpa [Addr.add] using this
  have ih:=sD (P:=P) w l (a.add 1) (acc.push (UInt8.ofNat y.n.toNat)) (fun j z hz=>by
   have:=h (j+1) z (by simpa using hz)
   have e:(a.add 1).add j=a.add (j+1):=by
    unfold Addr.add
    by_cases hj:j=0
    ·subst hj; simp
    ·simp [hj]; omega
   rw [e]; exact this)
  have hx:(y.n.toNat).toUInt8=UInt8.ofNat y.n.toNat:=rfl;simp only [HD,loadBytes,HJ,run_load,h0,Result.andThen,hx];rw [ih]
  congr 1
  apply ByteArray.ext;simp [ByteArray.push]
theorem wE {P:Program}{e:TypeId} (hc:P.cellsOf e=1) (count off n:Nat) (hn:off+n≤count):liesAt P P.depth e count off e n=true:=by
 have hd:P.depth=(2*(P.types.size+Made.depth)+1)+1:=rfl;rw [hd];simp only [liesAt,Jl]
 left
 rw [hd];simp [rowAt,hc,hn,sameLayout,Nat.mod_one]
theorem x_ {pt it e:TypeId}{y z:Operand}{gb off n cap:Nat}{xs:List Value}{l:List U8}
  (hg:gd ops L ⟨some d,.call ⟨.builtin .unsafeString,#[y,z],#[pt,it]⟩,ty,pos,aft,g⟩=some true) (hN:Nat.blt d x.N=true)
  (hp:x.P.underlying pt=some (.pointer e)) (hc:x.P.cellsOf e=1)
  (hy:ev L y=some (.pointer (some ⟨gb,off,none⟩))) (hz:ev L z=some (.int .i64 (l.length:Int))) (h0:0<l.length)
  (hx:Rw H (.slice (some ⟨gb,off,none⟩) n cap) xs l)
  (k:W x ops Q rest H M ((d,.string (te l))::L)):
  W x ops Q (⟨some d,.call ⟨.builtin .unsafeString,#[y,z],#[pt,it]⟩,ty,pos,aft,g⟩::rest) H (.row (.slice (some ⟨gb,off,none⟩) n cap) e (aE.sz U8) n xs::M) L:=by
 refine oL rfl hg hN fun a w hsl ht=>?_;have hown:fY w e 1 (.slice (some ⟨gb,off,none⟩) n cap) n xs:=ht.ok _ (Hm ..);have hn:n=l.length:=by
  have:=hx.rd.len;rw [hown.1] at this;exact Jw (Nat.zero_lt_one) this
 rcases hown.2 with ⟨h,_⟩ | ⟨g',off',lQ,cur,he,hgc,hnc,hcm,hcs,htake⟩
 ·cases h
 cases he;have hcs':off+cap≤cur.size:=by simpa using hcs
 have hsh:w.shape? gb=some (e,cur.size):=by simp [World.shape?,hgc]
 have hcell:∀ j y,l[j]? = some y→w.cell? ((⟨gb,off,none⟩:Addr).add j)=some (.int .u8 y.n):=by
  intro j y hj;obtain ⟨cs,h1,h2⟩:=hx.rd.get j y hj;have h1:cs=[.int .u8 y.n]:=h1;have h3:=h2 0 (.int .u8 y.n) (by rw [h1]; rfl)
  rw [IL];refine Mf hgc rfl ?_;rw [← htake,ID] at h3
  split at h3
  ·rw [Ir] at h3
   simpa [aE.sz] using h3
  ·cases h3
 have hlb:=sD (P:=x.P) w l ⟨gb,off,none⟩ .empty hcell;have hlies:=wE (P:=x.P) hc (cur.size / x.P.cellsOf e) off l.length (by rw [hc,Nat.div_one]; omega)
 have hmax:i64.max=9223372036854775807:=rfl;have hl0:l.length≠0:=by omega
 have h63':¬ (9223372036854775807:Int)<(l.length:Int):=by unfold maxLen at hcm; omega
 have hneg:¬ (l.length:Int)<0:=by omega
 have hrun:(Builtin.unsafeString_ #[pt,it] ty #[.pointer (some ⟨gb,off,none⟩),.int .i64 l.length]).run x.P w=.ok (.string (te l)) (w.freeze ⟨gb,off,none⟩ l.length):=by
  have hdef:Builtin.unsafeString_ #[pt,it] ty #[.pointer (some ⟨gb,off,none⟩),.int .i64 l.length] =
    (do
     let n ← asInt (.int .i64 l.length)
     if n<0 then runtimePanic (.error "unsafe.String: len out of range")
     if n > i64.max then unsupported (.unsafePointer "String: a length above the largest int")
     if n=0 then pure (.string .empty)
     else if ← variablesAt ⟨gb,off,none⟩ (← elemOf pt) n.toNat then do
      let s ← loadBytes ⟨gb,off,none⟩ .empty n.toNat
      freeze ⟨gb,off,none⟩ n.toNat
      pure (.string s)
     else unsupported (.unsafePointer "String: not so many bytes at ptr")):=rfl
  rw [hdef];have he0:ByteArray.empty.data=#[]:=rfl;simp [asInt,asIntOf,hmax,h63',hneg,hl0,variablesAt,hsh,elemOf,Jh hp,hlies,hlb,te]
 have hgr:w.grownBy (w.freeze ⟨gb,off,none⟩ l.length) (some gb):=by
  unfold World.freeze
  split
  ·exact ⟨rfl,rfl,rfl,HQ _,fun _ _ _=>rfl⟩
  ·exact ⟨rfl,rfl,rfl,by simp,fun q hq hne=>by
    simp only [L_];rw [Hs (by intro e; exact hne (by rw [e]))]⟩
 have h1:=ht.xM (r':=.row (.slice none 0 0) 0 1 0 []) hgr (fY.nil _ _ _) (by intro b hb; simp [bV.qh,Value.ownBlock] at hb)
 refine ⟨.string (te l),w.freeze ⟨gb,off,none⟩ l.length,?_,H,M,h1.tail,k⟩;simp [execOp,resolve,invoke,builtin,hsl.ev hy,hsl.ev hz,hrun]
end
end Go.Sim
namespace Go.Sim
open Go
open _root_.Go.IntKind (i64 u64 u32 u8)
def rowsOf (T:TypeId) (sz:Nat) {α:Type} (ws:List (Value×List Value)) (ls:List (List α)):List bV:=List.zipWith (fun w l=>bV.row w.1 T sz l.length w.2) ws ls
structure Mx {α:Type}[aE α] (T1 T2:TypeId) (H:Hp) (v:Value) (hs:List Value) (mx:List bV) (sg:List Nat) (ls:List (List α)):Prop where
 ex:∃ (xs:List Value) (ws:List (Value×List Value)),mx=.row v T1 1 sg.length xs::rowsOf T2 (aE.sz α) ws ls∧ws.length=ls.length∧ws.map (·.1)=hs∧(∀ (k:Nat) (w:Value×List Value) (l:List α),ws[k]? = some w→ls[k]? = some l→Rw H w.1 w.2 l) ∧
  xs.length=sg.length∧(∀ (i k:Nat),sg[i]? = some k→∃ w:Value×List Value,ws[k]? = some w∧xs[i]? = some w.1)
 sl:∃ a n c,v=.slice a n c
section
variable {α:Type}[aE α] {T1 T2:TypeId}{H H':Hp}{v:Value}{hs:List Value}{mx:List bV}{sg:List Nat}{ls:List (List α)}
theorem Mx.mono (h:Mx T1 T2 H v hs mx sg ls) (hle:H.le H'):Mx T1 T2 H' v hs mx sg ls:=by
 obtain ⟨xs,ws,h1,h2,h2',h3,h4,h5⟩:=h.ex;exact ⟨⟨xs,ws,h1,h2,h2',fun k w l a b=>(h3 k w l a b).mono hle,h4,h5⟩,h.sl⟩
theorem zG {ws:List (Value×List Value)}{k:Nat}{w:Value} (hh:ws.map (·.1)=hs) (hw:hs[k]? = some w):∃ u,ws[k]? = some u∧u.1=w:=by
 rw [← hh,Ib] at hw;cases e:ws[k]? with
 | none=>rw [e] at hw; simp at hw
 | some u=>rw [e] at hw; exact ⟨u,rfl,Hc hw⟩
theorem Mx.row (h:Mx T1 T2 H v hs mx sg ls) {k:Nat}{w:Value} (hw:hs[k]? = some w):∃ (xs:List Value) (m1 m2:List bV),k<ls.length∧mx=m1++.row w T2 (aE.sz α) ((ls[k]?).getD []).length xs::m2∧Rw H w xs ((ls[k]?).getD []) ∧
  ∀ (H':Hp) (xs':List Value) (l':List α),H.le H'→Rw H' w xs' l'→Mx T1 T2 H' v hs (m1++.row w T2 (aE.sz α) l'.length xs'::m2) sg (ls.set k l'):=by
 obtain ⟨oxs,ws,rfl,h2,h2',h3,h4,h5⟩:=h.ex;have hh:=hw;clear hw;obtain ⟨w,hw,rfl⟩:=zG h2' hh;have hkw:k<ws.length:=(He.1 hw).1;have hk:k<ls.length:=by omega
 have hl:=Hi hk;have hwe:ws[k]=w:=by rw [Hi hkw] at hw; exact Hc hw
 have hsp:∀ (ws:List (Value×List Value)) (ls:List (List α)) (h1:k<ws.length) (h2:k<ls.length),rowsOf T2 (aE.sz α) ws ls=rowsOf T2 (aE.sz α) (ws.take k) (ls.take k)++.row ws[k].1 T2 (aE.sz α) ls[k].length ws[k].2::rowsOf T2 (aE.sz α) (ws.drop (k+1)) (ls.drop (k+1)):=fun ws ls h1 h2=>by
  have e1:ws=ws.take k++ws[k]::ws.drop (k+1):=by rw [← Iu h1,Ji]
  have e2:ls=ls.take k++ls[k]::ls.drop (k+1):=by rw [← Iu h2,Ji]
  have e3:rowsOf T2 (aE.sz α) ws ls=rowsOf T2 (aE.sz α) (ws.take k++ws[k]::ws.drop (k+1)) (ls.take k++ls[k]::ls.drop (k+1)):=by rw [← e1,← e2]
  rw [e3];unfold rowsOf;rw [K6 (by simp; omega)]
  rfl
 have hg:(ls[k]?).getD []=ls[k]:=by rw [hl]; rfl
 rw [hg];refine ⟨w.2,.row v T1 1 sg.length oxs::rowsOf T2 (aE.sz α) (ws.take k) (ls.take k),rowsOf T2 (aE.sz α) (ws.drop (k+1)) (ls.drop (k+1)),hk,?_,h3 k w _ hw hl,fun H' xs' l' hle hr=>⟨⟨oxs,ws.set k (w.1,xs'),?_,by simp [h2],?_,fun j u l hu hl'=>?_,h4,fun i' j hj=>?_⟩,h.sl⟩⟩
 ·rw [hsp ws ls hkw hk,hwe]; rfl
 ·rw [hsp (ws.set k (w.1,xs')) (ls.set k l') (by simpa using hkw) (by simpa using hk)]
  have t1:(ws.set k (w.1,xs')).take k=ws.take k:=Ki (HQ k);have t2:(ls.set k l').take k=ls.take k:=Ki (HQ k);have t3:(ws.set k (w.1,xs')).drop (k+1)=ws.drop (k+1):=Kg (Hq k);have t4:(ls.set k l').drop (k+1)=ls.drop (k+1):=Kg (Hq k);rw [t1,t2,t3,t4];simp
 ·rw [List.map_set,h2']
  obtain ⟨e1,e2⟩:=He.1 hh;rw [← e2,List.set_getElem_self]
 ·by_cases e:k=j
  ·subst e
   rw [H7 hkw] at hu;rw [H7 hk] at hl';obtain rfl:=Hc hu;obtain rfl:=Hc hl';exact hr
  ·rw [HV e] at hu hl'
   exact (h3 j u l hu hl').mono hle
 ·obtain ⟨u,hu,hx'⟩:=h5 i' j hj
  by_cases e:k=j
  ·subst e
   rw [hw] at hu;obtain rfl:=Hc hu;exact ⟨(w.1,xs'),by rw [H7 hkw],hx'⟩
  ·exact ⟨u,by rw [HV e]; exact hu,hx'⟩
theorem Mx.outer (h:Mx T1 T2 H v hs mx sg ls):∃ oxs m2,mx=.row v T1 1 sg.length oxs::m2∧oxs.length=sg.length∧(∀ (i k:Nat),sg[i]? = some k→∃ w,hs[k]? = some w∧oxs[i]? = some w) ∧
  (∀ (i k:Nat) (w:Value),i<sg.length→hs[k]? = some w→Mx T1 T2 H v hs (.row v T1 1 (sg.set i k).length (oxs.set i w)::m2) (sg.set i k) ls) ∧
  (∀ (i:Nat) (w:Value) (xs:List Value) (l:List α),i<sg.length→Rw H w xs l→Mx T1 T2 H v (hs++[w]) (.row v T1 1 (sg.set i ls.length).length (oxs.set i w)::(m2++[.row w T2 (aE.sz α) l.length xs])) (sg.set i ls.length) (ls++[l])):=by
 obtain ⟨oxs,ws,rfl,h2,h2',h3,h4,h5⟩:=h.ex;refine ⟨oxs,_,rfl,h4,fun i k hk=>?_,fun i k w hi hw=>?_,fun i w xs l hi hr=>?_⟩
 ·obtain ⟨u,hu,hx⟩:=h5 i k hk
  exact ⟨u.1,by rw [← h2',Ib,hu]; rfl,hx⟩
 ·obtain ⟨u,hu,rfl⟩:=zG h2' hw
  refine ⟨⟨oxs.set i u.1,ws,rfl,h2,h2',h3,by simp [h4],fun i' k' hk'=>?_⟩,h.sl⟩
  by_cases e:i=i'
  ·subst e
   rw [H7 hi] at hk';obtain rfl:=Hc hk';exact ⟨u,hu,by rw [H7 (by omega)]⟩
  ·rw [HV e] at hk'
   obtain ⟨u',hu',hx'⟩:=h5 i' k' hk';exact ⟨u',hu',by rw [HV e]; exact hx'⟩
 ·refine ⟨⟨oxs.set i w,ws++[(w,xs)],?_,by simp [h2],by simp [h2'],fun j u l' hu hl'=>?_,by simp [h4],fun i' k' hk'=>?_⟩,h.sl⟩
  ·unfold rowsOf
   rw [K6 h2]
   rfl
  ·rcases JG j ls.length with hj | hj
   ·rw [IV (by omega)] at hu hl'
    exact h3 j u l' hu hl'
   ·rw [H_ (by omega)] at hu hl'
    rw [h2] at hu;cases e:j-ls.length with
    | zero=>
     rw [e] at hu hl';obtain rfl:=Hc hu;obtain rfl:=Hc hl';exact hr
    | succ m=>rw [e] at hu; simp at hu
  ·by_cases e:i=i'
   ·subst e
    rw [H7 hi] at hk';obtain rfl:=Hc hk';exact ⟨(w,xs),by rw [H_ (by omega),h2,I3]; rfl,by rw [H7 (by omega)]⟩
   ·rw [HV e] at hk'
    obtain ⟨u',hu',hx'⟩:=h5 i' k' hk';exact ⟨u',by rw [IV (He.1 hu').1]; exact hu',by rw [HV e]; exact hx'⟩
end
structure A5 where
 mk ::
instance:aE A5 where
 sz:=1
 E _ cs _:=cs=[.slice none 0 0]
 len h:=by rw [h]; rfl
 mono _ h:=h
 one h c hc:=by rw [h] at hc; simp at hc; subst hc; rfl
theorem vU {H:Hp}:∀ {n:Nat}{xs:List Value},mU H xs (List.replicate n A5.mk)→xs=List.replicate n (.slice none 0 0)
 | 0,xs,h=>h
 | n+1,xs,h=>by
  obtain ⟨cs,r,rfl,he,hr⟩:=h;have he:cs=[.slice none 0 0]:=he;rw [he,vU hr]; rfl
section
variable {α:Type}[aE α] {T1 T2:TypeId}{H H':Hp}{v:Value}{hs:List Value}{mx:List bV}{sg:List Nat}{ls:List (List α)}
theorem Mx.make {n:Nat}{oxs:List Value} (h:Rw H v oxs (List.replicate n A5.mk)):Mx T1 T2 H v [.slice none 0 0] (.row v T1 1 (List.replicate n 0).length oxs::[.row (.slice none 0 0) T2 (aE.sz α) 0 []]) (List.replicate n 0) ([[]]:List (List α)):=by
 have hx:=vU h.rd;refine ⟨⟨oxs,[(.slice none 0 0,[])],rfl,rfl,rfl,fun k w l hw hl=>?_,by rw [hx]; simp,fun i k hk=>?_⟩,h.sl⟩
 ·cases k with
  | zero=>
   obtain rfl:=Hc hw;obtain rfl:=Hc hl;exact Rw.nil
  | succ k=>simp at hw
 ·obtain ⟨hi,he⟩:=He.1 hk
  rw [List.getElem_replicate] at he;subst he;refine ⟨_,rfl,?_⟩;rw [hx,J_,Hv (by simpa using hi)]
theorem vE {B:Nat}{w0 w:World}{M:List bV} (hs:0<aE.sz α):∀ (ws:List (Value×List Value)) (ls:List (List α)) (H:Hp),ws.length=ls.length →
  (∀ (k:Nat) (u:Value×List Value) (l:List α),ws[k]? = some u→ls[k]? = some l→Rw H u.1 u.2 l)→St B w0 H (rowsOf T2 (aE.sz α) ws ls++M) w →
  ∃ H',H.le H'∧St B w0 H' M w∧∀ (k:Nat) (u:Value×List Value) (l:List α),ws[k]? = some u→ls[k]? = some l→aI H' u.1 l
 | [],[],H,_,_,ht=>⟨H,Hg _,ht,fun k u l hu _=>by simp at hu⟩
 | [],_::_,H,hl,_,_=>by simp at hl
 | _::_,[],H,hl,_,_=>by simp at hl
 | u::ws,l::ls,H,hl,hr,ht=>by
  have ht:St B w0 H (.row u.1 T2 (aE.sz α) l.length u.2::(rowsOf T2 (aE.sz α) ws ls++M)) w:=ht;obtain ⟨H1,h1,h2,h3⟩:=ht.rh (hr 0 u l rfl rfl).rd hs;obtain ⟨H2,g1,g2,g3⟩:=vE hs ws ls H1 (by simpa using hl) (fun k u' l' hu hl'=>(hr (k+1) u' l' (by simpa using hu) (by simpa using hl')).mono h1) h2
  refine ⟨H2,Hf h1 g1,g2,fun k u' l' hu hl'=>?_⟩;cases k with
  | zero=>
   obtain rfl:=Hc hu;obtain rfl:=Hc hl';exact h3.mono g1
  | succ k=>exact g3 k u' l' (by simpa using hu) (by simpa using hl')
theorem wV {H:Hp}:∀ (xs:List Value) (l:List (List α)),xs.length=l.length→(∀ (i:Nat) (y:Value) (e:List α),xs[i]? = some y→l[i]? = some e→aI H y e)→mU H xs l
 | [],[],_,_=>rfl
 | [],_::_,h,_=>by simp at h
 | _::_,[],h,_=>by simp at h
 | y::xs,e::l,h,hr=>⟨[y],xs,rfl,⟨y,rfl,hr 0 y e rfl rfl⟩,wV xs l (by simpa using h) (fun i y' e' hy he=>hr (i+1) y' e' (by simpa using hy) (by simpa using he))⟩
def nB (sg:List Nat) (ls:List (List α)):List (List α):=sg.map fun k=>(ls[k]?).getD []
theorem St.ym {B:Nat}{w0 w:World}{M:List bV} (ht:St B w0 H (mx++M) w) (h:Mx T1 T2 H v hs mx sg ls) (h0:0<aE.sz α):∃ H',H.le H'∧St B w0 H' M w∧aI H' v (nB sg ls):=by
 obtain ⟨oxs,ws,rfl,h2,_,h3,h4,h5⟩:=h.ex;have ht1:St B w0 H (rowsOf T2 (aE.sz α) ws ls++(.row v T1 1 sg.length oxs::M)) w:=ht.perm (by
  rw [J4];exact List.perm_middle.symm)
 obtain ⟨H1,g1,g2,g3⟩:=vE h0 ws ls H h2 h3 ht1;have hv:(nB sg ls).length=sg.length:=by unfold nB; simp
 have hrd:mU H1 oxs (nB sg ls):=wV oxs _ (by rw [hv]; exact h4) (fun i y e hy he=>by
  unfold nB at he;rw [Ib] at he;cases hk:sg[i]? with
  | none=>rw [hk] at he; simp at he
  | some k=>
   rw [hk] at he;obtain ⟨u,hu,hx⟩:=h5 i k hk;rw [hy] at hx;obtain rfl:=Hc hx;have hkl:k<ls.length:=by rw [← h2]; exact (He.1 hu).1
   have hl:=Hi hkl;simp only [Je,Im] at he;rw [hl,JK] at he;rw [← he];exact g3 k u _ hu hl)
 have g2':St B w0 H1 (.row v T1 (aE.sz (List α)) sg.length oxs::M) w:=g2;obtain ⟨H2,k1,k2,k3⟩:=g2'.rh hrd Nat.one_pos;exact ⟨H2,Hf g1 k1,k2,k3⟩
end
section
variable {x:Cx}{ops:Array Oper}{Q:kZ}{rest:List Oper}{H:Hp}{M:List bV}{L:Env}
theorem y9 {α:Type}[aE α] {T1 T2:TypeId}{v:Value}{hs:List Value}{mx:List bV}{sg:List Nat}{ls:List (List α)} (h:Mx T1 T2 H v hs mx sg ls) (h0:Nat.blt 0 (aE.sz α)=true)
  (k:∀ H',H.le H'→aI H' v (nB sg ls)→W x ops Q rest H' M L):W x ops Q rest H (mx++M) L:=by
 intro a w hsl ht;obtain ⟨H',h1,h2,h3⟩:=St.ym ht h (by simpa [IM] using h0)
 exact k H' h1 h3 a w hsl h2
variable {d:Nat}{ty:TypeId}{pos:String}{aft:Array Edge}{g:Option (Nat×Bool)}
theorem oJ (pre m1 m2 M0:List bV) (r:bV):(pre++((m1++r::m2)++M0)).Perm (r::(pre++((m1++m2)++M0))):=by
 have h1:(pre++((m1++r::m2)++M0))=(pre++m1)++r::(m2++M0):=by simp
 have h2:(r::(pre++((m1++m2)++M0)))=r::((pre++m1)++(m2++M0)):=by simp
 rw [h1,h2];exact List.perm_middle
theorem Mx.get {α:Type}[aE α] {T1 T2:TypeId}{v:Value}{hs:List Value}{mx:List bV}{sg:List Nat}{ls:List (List α)} (h:Mx T1 T2 H v hs mx sg ls) {k:Nat}{w:Value} (hw:hs[k]? = some w):
  ∃ xs:List Value,bV.row w T2 (aE.sz α) ((ls[k]?).getD []).length xs ∈ mx∧Rw H w xs ((ls[k]?).getD []):=by
 obtain ⟨xs,m1,m2,_,he,hr,_⟩:=h.row hw;exact ⟨xs,by rw [he]; exact IP _ (Hm ..),hr⟩
theorem oR {α:Type}[aE α] {T1 T2 T:TypeId}{m:Nat}{y z:Operand}{v u w:Value}{ad:Addr}{hs cs:List Value}{pre mx:List bV}{sg:List Nat}{ls:List (List α)}{k j:Nat}{e2:α}
  (h:Mx T1 T2 H v hs mx sg ls) (hx:hs[k]? = some w) (hj:j<((ls[k]?).getD []).length) (hE:aE.E H cs e2)
  (hg:gd ops L ⟨none,.store T y z,ty,pos,aft,g⟩=some true) (hn:∀ w,(sizeOf T).run x.P w=.ok m w) (hm:m=aE.sz α) (h0:Nat.blt 0 (aE.sz α)=true)
  (hy:ev L y=some (.pointer (some ad))) (had:ad=(Value.base w).add (j*aE.sz α)) (hz:ev L z=some u) (hv:u.cells=cs.toArray)
  (kk:∀ mx',Mx T1 T2 H v hs mx' sg (ls.set k (((ls[k]?).getD []).set j e2))→W x ops Q rest H (pre++(mx'++M)) L):
  W x ops Q (⟨none,.store T y z,ty,pos,aft,g⟩::rest) H (pre++(mx++M)) L:=by
 obtain ⟨xs,m1,m2,hk,rfl,hr,hup⟩:=h.row hx;have hcl:=aE.len hE;have hs':0<aE.sz α:=by simpa [IM] using h0
 have he:=Hi hj;obtain ⟨c,hc,hgc⟩:=hr.elem he;have hccl:=aE.len hc;have ho:over c 0 cs=cs:=by
  rw [rG cs c 0 (by omega),LU,Ju,List.drop_eq_nil_of_le (by omega),Ij]
 obtain ⟨p1,_,_⟩:=Rw.put (k:=j) (o:=0) (e2:=e2) hr he hc hgc (by simp [Kx]; omega) ho hE
 have hroom:j*aE.sz α+cs.length≤xs.length:=by
  have hlen:=hr.rd.len;have:(j+1)*aE.sz α≤((ls[k]?).getD []).length*aE.sz α:=HL _ hj;rw [HS,Lx] at this;omega
 refine a_ (oJ pre m1 m2 M _) ?_;refine r_ (i:=j*aE.sz α) (cs:=cs) hg hn hy had hz hv (by omega) hroom (by simp [IM]; omega) (aE.one hE) ?_
 have h2:=hup H _ _ (Hg _) p1;rw [HI,Jj] at h2;refine a_ (oJ pre m1 m2 M _).symm ?_;exact kk _ h2
theorem Aj {α:Type}[aE α] {T1 T2 T:TypeId}{y z:Operand}{v w:Value}{ad:Addr}{hs:List Value}{pre mx:List bV}{sg:List Nat}{ls:List (List α)}{i k:Nat}
  (h:Mx T1 T2 H v hs mx sg ls) (hi:i<sg.length) (hx:hs[k]? = some w)
  (hg:gd ops L ⟨none,.store T y z,ty,pos,aft,g⟩=some true) (hn:∀ w,(sizeOf T).run x.P w=.ok 1 w)
  (hy:ev L y=some (.pointer (some ad))) (had:ad=(Value.base v).add (i*1)) (hz:ev L z=some w)
  (kk:∀ mx',Mx T1 T2 H v hs mx' (sg.set i k) ls→W x ops Q rest H (pre++(mx'++M)) L):
  W x ops Q (⟨none,.store T y z,ty,pos,aft,g⟩::rest) H (pre++(mx++M)) L:=by
 obtain ⟨_,_,_,_,_,hr,_⟩:=h.row hx;obtain ⟨oxs,m2,rfl,hl,_,hput,_⟩:=h.outer;refine a_ (oJ pre [] m2 M _) ?_;refine r_ (i:=i*1) (cs:=[w]) hg hn hy had hz hr.cells rfl (by simp; omega) rfl (fun c hc=>by simp at hc; subst hc; exact hr.one) ?_
 have h2:=hput i k w hi hx;rw [HI] at h2;have e:over oxs (i*1) [w]=oxs.set i w:=by rw [Ku]; rfl
 rw [e];refine a_ (oJ pre [] m2 M _).symm ?_;exact kk _ h2
theorem w6 {α:Type}[aE α] {T1 T2 T:TypeId}{y z:Operand}{v w:Value}{ad:Addr}{hs xs:List Value}{pre mx:List bV}{sg:List Nat}{ls:List (List α)}{l:List α}{i:Nat}
  (h:Mx T1 T2 H v hs mx sg ls) (hi:i<sg.length) (hr:Rw H w xs l)
  (hg:gd ops L ⟨none,.store T y z,ty,pos,aft,g⟩=some true) (hn:∀ w,(sizeOf T).run x.P w=.ok 1 w)
  (hy:ev L y=some (.pointer (some ad))) (had:ad=(Value.base v).add (i*1)) (hz:ev L z=some w)
  (kk:∀ mx',Mx T1 T2 H v (hs++[w]) mx' (sg.set i ls.length) (ls++[l])→W x ops Q rest H (pre++(mx'++M)) L):
  W x ops Q (⟨none,.store T y z,ty,pos,aft,g⟩::rest) H (.row w T2 (aE.sz α) l.length xs::(pre++(mx++M))) L:=by
 obtain ⟨oxs,m2,rfl,hl,_,_,hadd⟩:=h.outer;have p1:(bV.row w T2 (aE.sz α) l.length xs::(pre++((.row v T1 1 sg.length oxs::m2)++M))).Perm (.row v T1 1 sg.length oxs::(.row w T2 (aE.sz α) l.length xs::(pre++(m2++M)))):=
  ((oJ pre [] m2 M _).cons _).trans (List.Perm.swap _ _ _)
 refine a_ p1 ?_;refine r_ (i:=i*1) (cs:=[w]) hg hn hy had hz hr.cells rfl (by simp; omega) rfl (fun c hc=>by simp at hc; subst hc; exact hr.one) ?_
 have h2:=hadd i w xs l hi hr;rw [HI] at h2;have e:over oxs (i*1) [w]=oxs.set i w:=by rw [Ku]; rfl
 rw [e];have p2:(bV.row v T1 1 sg.length (oxs.set i w)::(.row w T2 (aE.sz α) l.length xs::(pre++(m2++M)))).Perm (pre++((.row v T1 1 sg.length (oxs.set i w)::(m2++[.row w T2 (aE.sz α) l.length xs]))++M)):=by
  refine (oJ pre [] (m2++[.row w T2 (aE.sz α) l.length xs]) M _).trans ?_ |>.symm;refine List.Perm.cons _ ?_;have:=oJ pre m2 [] M (.row w T2 (aE.sz α) l.length xs);simpa using this
 refine a_ p2 ?_;exact kk _ h2
def pM (sz n:Nat):Value→Value
 | .slice (some ⟨b,off,sp⟩) len cap=>.slice (some ⟨b,if cap=n then off else off+n*sz,sp⟩) (len-n) (cap-n)
 | y=>y
theorem fY.sub {w:World}{T:TypeId}{sz n m:Nat}{v:Value}{xs:List Value} (h:fY w T sz v n xs) (hm:m≤n):fY w T sz (pM sz m v) (n-m) (xs.drop (m*sz)):=by
 obtain ⟨hl,hh⟩:=h;refine ⟨by rw [Jq,hl,Nat.sub_mul],?_⟩
 rcases hh with ⟨rfl,h0⟩ | ⟨gb,off,cap,cur,rfl,hg,hnc,hcm,hcs,htake⟩
 ·exact .inl ⟨rfl,by omega⟩
 ·have h1:m*sz+(cap-m)*sz=cap*sz:=by rw [← HS,Nat.add_sub_cancel' (by omega)]
  have h2:m*sz+(n-m)*sz=n*sz:=by rw [← HS,Nat.add_sub_cancel' hm]
  by_cases hc:cap=m
  ·have hnm:n=m:=by omega
   refine .inr ⟨gb,off,cap-m,cur,by show Value.slice (some ⟨gb,if cap=m then off else off+m*sz,none⟩) _ _=_; rw [Hv hc],hg,by omega,by omega,by omega,?_⟩
   rw [← htake,J9,hnm,I3,I3,Jk,LU,LU]
  ·refine .inr ⟨gb,off+m*sz,cap-m,cur,by show Value.slice (some ⟨gb,if cap=m then off else off+m*sz,none⟩) _ _=_; rw [Hs hc],hg,by omega,by omega,by omega,?_⟩
   rw [← htake,J9,Jt]
   congr 1
   omega
theorem BL {sz m:Nat} (v:Value):(pM sz m v).ownBlock=v.ownBlock:=by
 unfold pM
 split
 ·rename_i b off sp len cap
  cases sp <;> rfl
 ·rfl
theorem St.same {B:Nat}{w0 w:World}{r r':bV} (h:St B w0 H (r::M) w) (hok:r'.ok w) (hf:r'.qh=r.qh):St B w0 H (r'::M) w:=by
 refine ⟨h.below,h.le,h.si,fun s hs=>?_,fun s hs b hb=>?_,?_⟩
 ·rcases Ix.1 hs with rfl | hs
  ·exact hok
  ·exact h.ok s (HB _ hs)
 ·rcases Ix.1 hs with rfl | hs
  ·exact h.lo r (Hm ..) b (by rw [← hf]; exact hb)
  ·exact h.lo s (HB _ hs) b hb
 ·have:=h.nd
  simp only [J1,hf] at this ⊢;exact this
theorem Rw.sub {α:Type}[aE α] {v:Value}{xs:List Value}{l:List α} (h:Rw H v xs l) {m:Nat} (hm:m≤l.length):Rw H (pM (aE.sz α) m v) (xs.drop (m*aE.sz α)) (l.drop m):=by
 refine ⟨?_,?_⟩
 ·have key:∀ (m:Nat) (xs:List Value) (l:List α),mU H xs l→m≤l.length→mU H (xs.drop (m*aE.sz α)) (l.drop m):=by
   intro m
   induction m with
   | zero=>intro xs l h _; simpa using h
   | succ m ih=>
    intro xs l h hm;cases l with
    | nil=>simp at hm
    | cons e l=>
     obtain ⟨c,r,rfl,he,hr⟩:=h;have hc:=aE.len he;rw [Mo,HS,Lx,Kl,← Jt,← hc,List.drop_left,hc];exact ih r l hr (by simpa using hm)
  exact key m xs l h.rd hm
 ·obtain ⟨a,n,c,rfl⟩:=h.sl
  cases a with
  | none=>exact ⟨_,_,_,rfl⟩
  | some ad=>obtain ⟨b,off,sp⟩:=ad; exact ⟨_,_,_,rfl⟩
theorem DW {α:Type}[aE α] {T1 T2 T:TypeId}{y z:Operand}{v w:Value}{ad:Addr}{hs:List Value}{pre mx:List bV}{sg:List Nat}{ls:List (List α)}{i k n:Nat}
  (h:Mx T1 T2 H v hs mx sg ls) (hi:i<sg.length) (hx:hs[k]? = some w) (hn':n≤((ls[k]?).getD []).length) (hone:∀ j:Nat,sg[j]? = some k→j=i)
  (hg:gd ops L ⟨none,.store T y z,ty,pos,aft,g⟩=some true) (hn:∀ w,(sizeOf T).run x.P w=.ok 1 w)
  (hy:ev L y=some (.pointer (some ad))) (had:ad=(Value.base v).add (i*1)) (hz:ev L z=some (pM (aE.sz α) n w))
  (kk:∀ mx',Mx T1 T2 H v (hs.set k (pM (aE.sz α) n w)) mx' (sg.set i k) (ls.set k (((ls[k]?).getD []).drop n))→W x ops Q rest H (pre++(mx'++M)) L):
  W x ops Q (⟨none,.store T y z,ty,pos,aft,g⟩::rest) H (pre++(mx++M)) L:=by
 obtain ⟨oxs,ws,rfl,h2,h2',h3,h4,h5⟩:=h.ex;obtain ⟨u,hu,rfl⟩:=zG h2' hx;have hkw:k<ws.length:=(He.1 hu).1;have hk:k<ls.length:=by omega
 have hl:=Hi hk;have hwe:ws[k]=u:=by rw [Hi hkw] at hu; exact Hc hu
 have hgd:(ls[k]?).getD []=ls[k]:=by rw [hl]; rfl
 rw [hgd] at hn' kk;have hr:=h3 k u _ hu hl;have hrs:=hr.sub hn';have hsp:∀ (ws:List (Value×List Value)) (ls:List (List α)) (h1:k<ws.length) (h2:k<ls.length),rowsOf T2 (aE.sz α) ws ls=rowsOf T2 (aE.sz α) (ws.take k) (ls.take k)++.row ws[k].1 T2 (aE.sz α) ls[k].length ws[k].2::rowsOf T2 (aE.sz α) (ws.drop (k+1)) (ls.drop (k+1)):=fun ws ls h1 h2=>by
  have e1:ws=ws.take k++ws[k]::ws.drop (k+1):=by rw [← Iu h1,Ji]
  have e2:ls=ls.take k++ls[k]::ls.drop (k+1):=by rw [← Iu h2,Ji]
  have e3:rowsOf T2 (aE.sz α) ws ls=rowsOf T2 (aE.sz α) (ws.take k++ws[k]::ws.drop (k+1)) (ls.take k++ls[k]::ls.drop (k+1)):=by rw [← e1,← e2]
  rw [e3];unfold rowsOf;rw [K6 (by simp; omega)]
  rfl
 generalize hA:rowsOf T2 (aE.sz α) (ws.take k) (ls.take k)=A at hsp;generalize hB:rowsOf T2 (aE.sz α) (ws.drop (k+1)) (ls.drop (k+1))=Bq at hsp;have hrows:rowsOf T2 (aE.sz α) ws ls=A++.row u.1 T2 (aE.sz α) ls[k].length u.2::Bq:=by
  rw [← hA,← hB];have e1:ws=ws.take k++ws[k]::ws.drop (k+1):=by rw [← Iu hkw,Ji]
  have e2:ls=ls.take k++ls[k]::ls.drop (k+1):=by rw [← Iu hk,Ji]
  have e3:rowsOf T2 (aE.sz α) ws ls=rowsOf T2 (aE.sz α) (ws.take k++ws[k]::ws.drop (k+1)) (ls.take k++ls[k]::ls.drop (k+1)):=by rw [← e1,← e2]
  rw [e3];unfold rowsOf;rw [K6 (by simp; omega),← hwe]
  rfl
 have hrows2:rowsOf T2 (aE.sz α) (ws.set k (pM (aE.sz α) n u.1,u.2.drop (n*aE.sz α))) (ls.set k (ls[k].drop n))=A++.row (pM (aE.sz α) n u.1) T2 (aE.sz α) (ls[k].drop n).length (u.2.drop (n*aE.sz α))::Bq:=by
  rw [← hA,← hB];have e1:ws.set k (pM (aE.sz α) n u.1,u.2.drop (n*aE.sz α))=ws.take k++(pM (aE.sz α) n u.1,u.2.drop (n*aE.sz α))::ws.drop (k+1):=by rw [KY,Hv hkw]
  have e2:ls.set k (ls[k].drop n)=ls.take k++ls[k].drop n::ls.drop (k+1):=by rw [KY,Hv hk]
  rw [e1,e2];unfold rowsOf;rw [K6 (by simp; omega)]
  rfl
 have hnew:Mx T1 T2 H v (hs.set k (pM (aE.sz α) n u.1)) (.row v T1 1 (sg.set i k).length (oxs.set i (pM (aE.sz α) n u.1))::rowsOf T2 (aE.sz α) (ws.set k (pM (aE.sz α) n u.1,u.2.drop (n*aE.sz α))) (ls.set k (ls[k].drop n))) (sg.set i k) (ls.set k (ls[k].drop n)):=by
  refine ⟨⟨_,_,rfl,by simp [h2],by rw [List.map_set,h2'],fun j u' l' hu' hl'=>?_,by simp [h4],fun i' k' hk'=>?_⟩,h.sl⟩
  ·by_cases e:k=j
   ·subst e
    rw [H7 hkw] at hu';rw [H7 hk] at hl';obtain rfl:=Hc hu';obtain rfl:=Hc hl';exact hrs
   ·rw [HV e] at hu' hl'
    exact h3 j u' l' hu' hl'
  ·by_cases e:i=i'
   ·subst e
    rw [H7 hi] at hk';obtain rfl:=Hc hk';exact ⟨_,by rw [H7 hkw],by rw [H7 (by omega)]⟩
   ·rw [HV e] at hk'
    obtain ⟨u',hu',hx'⟩:=h5 i' k' hk';have hne:k≠k':=fun e2=>by subst e2; exact e (hone i' hk').symm
    exact ⟨u',by rw [HV hne]; exact hu',by rw [HV e]; exact hx'⟩
 refine a_ (oJ pre [] (rowsOf T2 (aE.sz α) ws ls) M _) ?_;refine r_ (i:=i*1) (cs:=[pM (aE.sz α) n u.1]) hg hn hy had hz hrs.cells rfl (by simp; omega) rfl (fun c hc=>by simp at hc; subst hc; exact hrs.one) ?_
 have e:over oxs (i*1) [pM (aE.sz α) n u.1]=oxs.set i (pM (aE.sz α) n u.1):=by rw [Ku]; rfl
 rw [e];refine a_ (oJ pre [] (rowsOf T2 (aE.sz α) ws ls) M _).symm ?_;rw [Ju,hrows];have p1:(pre++((.row v T1 1 sg.length (oxs.set i (pM (aE.sz α) n u.1))::(A++.row u.1 T2 (aE.sz α) ls[k].length u.2::Bq))++M)).Perm (.row u.1 T2 (aE.sz α) ls[k].length u.2::(pre++(((.row v T1 1 sg.length (oxs.set i (pM (aE.sz α) n u.1))::A)++Bq)++M))):=
  oJ pre (.row v T1 1 sg.length (oxs.set i (pM (aE.sz α) n u.1))::A) Bq M _
 refine a_ p1 ?_;intro a w0' hsl ht;have hok:=ht.ok _ (Hm ..);have hs2:St x.B x.w0 H (.row (pM (aE.sz α) n u.1) T2 (aE.sz α) (ls[k].drop n).length (u.2.drop (n*aE.sz α))::(pre++(((.row v T1 1 sg.length (oxs.set i (pM (aE.sz α) n u.1))::A)++Bq)++M))) w0':=by
  refine ht.same ?_ (BL u.1);have h1:fY w0' T2 (aE.sz α) u.1 ls[k].length u.2:=hok;have:=h1.sub hn';rw [← Jq] at this;exact this
 have p2:=(oJ pre (.row v T1 1 sg.length (oxs.set i (pM (aE.sz α) n u.1))::A) Bq M (.row (pM (aE.sz α) n u.1) T2 (aE.sz α) (ls[k].drop n).length (u.2.drop (n*aE.sz α)))).symm;refine kk _ hnew a w0' hsl ?_;rw [hrows2,HI];exact hs2.perm p2
theorem B7 {α:Type}[aE α] {T2 t e:TypeId}{y lo:Operand}{w:Value}{xs:List Value}{l:List α}{n:Nat}{kk:IntKind}
  (hm:bV.row w T2 (aE.sz α) l.length xs ∈ M) (hn:n≤l.length)
  (hg:gd ops L ⟨some d,.slice t y (some lo) none none,ty,pos,aft,g⟩=some true) (hN:Nat.blt d x.N=true)
  (hT:∀ w,(underlying t).run x.P w=.ok (.slice e) w) (hs:∀ w,(sizeOf e).run x.P w=.ok (aE.sz α) w) (hy:ev L y=some w) (hlo:ev L lo=some (.int kk (n:Int)))
  (k:W x ops Q rest H M ((d,pM (aE.sz α) n w)::L)):
  W x ops Q (⟨some d,.slice t y (some lo) none none,ty,pos,aft,g⟩::rest) H M L:=by
 intro a w0' hsl ht;have hok:fY w0' T2 (aE.sz α) w l.length xs:=ht.ok _ hm;rcases hok.2 with ⟨rfl,h0⟩ | ⟨gb,off,cap,cur,rfl,_,hnc,_⟩
 ·obtain rfl:n=0:=by omega
  exact pz (m:=0) (h:=0) (l:=0) hg hN hT hs hy (.inl rfl) (.inl ⟨rfl,rfl⟩) (.inl ⟨rfl,rfl⟩) (.inr ⟨lo,kk,_,rfl,hlo,Kt _,Kt _,rfl⟩) rfl k a w0' hsl ht
 ·refine pz (m:=cap) (h:=l.length) (l:=n) hg hN hT hs hy (.inl rfl) (.inl ⟨rfl,rfl⟩) (.inl ⟨rfl,rfl⟩) (.inr ⟨lo,kk,_,rfl,hlo,by omega,by omega,by omega⟩) ?_ k a w0' hsl ht
  show _=Value.slice (some ⟨gb,if cap=n then off else off+n*aE.sz α,none⟩) (l.length-n) (cap-n)
  by_cases hc:cap=n
  ·rw [Hv hc,Hv hc]
  ·rw [Hs hc,Hs hc]
   rw [Je,IL]
end
theorem xu (pre os mx M:List bV):(pre++(mx++(os++M))).Perm (pre++(os++(mx++M))):=
 List.Perm.append_left pre (List.perm_append_comm_assoc mx os M)
theorem vS (pre mx M:List bV):(pre++(mx++M)).Perm (mx++(pre++M)):=List.perm_append_comm_assoc pre mx M
def lone (sg:List Nat) (i k:Nat):Bool:=(List.range sg.length).all fun j=>sg[j]? != some k || j == i
theorem Bu {sg:List Nat}{i k:Nat} (h:lone sg i k=true) (j:Nat) (hj:sg[j]? = some k):j=i:=by
 unfold lone at h;rw [IT] at h;have hl:=(He.1 hj).1;have:=h j (by simpa using hl)
 rw [hj] at this;simpa using this
theorem Ep {sg:List Nat}{i k:Nat} (h:∀ j,sg[j]? = some k→j=i):lone sg i k=true:=by
 unfold lone;rw [IT];intro j hj
 by_cases e:sg[j]? = some k
 ·simp [h j e]
 ·simp [e]
section
variable {x:Cx}{ops:Array Oper}{Q:kZ}{rest:List Oper}{H:Hp}{M:List bV}{L:Env}{d:Nat}{ty:TypeId}{pos:String}{aft:Array Edge}{g:Option (Nat×Bool)}
variable {α:Type}[aE α] {T1 T2:TypeId}{v:Value}{hs:List Value}{mx:List bV}{sg:List Nat}{ls:List (List α)}
theorem sI {t e:TypeId}{y:Operand} (h:Mx T1 T2 H v hs mx sg ls) (hsub:∀ s ∈ mx,s ∈ M) (hg:gd ops L ⟨some d,.call ⟨.builtin .len,#[y],#[t]⟩,ty,pos,aft,g⟩=some true) (hN:Nat.blt d x.N=true)
  (hT:∀ w,(underlying t).run x.P w=.ok (.slice e) w) (hy:ev L y=some v) (k:W x ops Q rest H M ((d,.int .i64 (sg.length:Int))::L)):
  W x ops Q (⟨some d,.call ⟨.builtin .len,#[y],#[t]⟩,ty,pos,aft,g⟩::rest) H M L:=by
 obtain ⟨oxs,m2,he,_⟩:=h.outer;exact iS (hsub _ (by rw [he]; exact Hm ..)) hg hN hT hy k
theorem dP {t e:TypeId}{y z:Operand}{kk:IntKind}{i:Int}{p:Nat} (h:Mx T1 T2 H v hs mx sg ls) (hsub:∀ s ∈ mx,s ∈ M)
  (hg:gd ops L ⟨some d,.indexAddr t y z,ty,pos,aft,g⟩=some true) (hN:Nat.blt d x.N=true)
  (hT:∀ w,(underlying t).run x.P w=.ok (.slice e) w) (hsz:∀ w,(sizeOf e).run x.P w=.ok 1 w)
  (hy:ev L y=some v) (hz:ev L z=some (.int kk i)) (h0:0≤i) (h1:sg[i.toNat]? = some p)
  (k:W x ops Q rest H M ((d,.pointer (some ((Value.base v).add (i.toNat*1))))::L)):
  W x ops Q (⟨some d,.indexAddr t y z,ty,pos,aft,g⟩::rest) H M L:=by
 obtain ⟨oxs,m2,he,_⟩:=h.outer;exact bG (hsub _ (by rw [he]; exact Hm ..)) hg hN hT hsz hy hz h0 (He.1 h1).1 k
theorem fU {T:TypeId}{y:Operand}{ad:Addr}{i p:Nat} (h:Mx T1 T2 H v hs mx sg ls) (hsub:∀ s ∈ mx,s ∈ M) (h1:sg[i]? = some p)
  (hg:gd ops L ⟨some d,.load T y,ty,pos,aft,g⟩=some true) (hN:Nat.blt d x.N=true)
  (hT:∀ w,(isAgg T).run x.P w=.ok false w) (hy:ev L y=some (.pointer (some ad))) (had:ad=(Value.base v).add (i*1))
  (k:∀ w,hs[p]? = some w→W x ops Q rest H M ((d,w)::L)):W x ops Q (⟨some d,.load T y,ty,pos,aft,g⟩::rest) H M L:=by
 obtain ⟨oxs,m2,he,_,hget,_⟩:=h.outer;obtain ⟨w,hw,hx⟩:=hget i p h1;subst had;refine aJ hg hN hT hy (wg (hsub _ (by rw [he]; exact Hm ..)) ?_) (k w hw)
 rw [Ku]; exact hx
theorem Ag {t e:TypeId}{y:Operand}{w:Value}{p:Nat} (h:Mx T1 T2 H v hs mx sg ls) (hsub:∀ s ∈ mx,s ∈ M) (hw:hs[p]? = some w) (hg:gd ops L ⟨some d,.call ⟨.builtin .len,#[y],#[t]⟩,ty,pos,aft,g⟩=some true) (hN:Nat.blt d x.N=true)
  (hT:∀ w,(underlying t).run x.P w=.ok (.slice e) w) (hy:ev L y=some w) (k:W x ops Q rest H M ((d,.int .i64 (((ls[p]?).getD []).length:Int))::L)):
  W x ops Q (⟨some d,.call ⟨.builtin .len,#[y],#[t]⟩,ty,pos,aft,g⟩::rest) H M L:=by
 obtain ⟨xs,hm,_⟩:=h.get hw;exact iS (hsub _ hm) hg hN hT hy k
theorem gQ {t e:TypeId}{y z:Operand}{kk:IntKind}{j:Int}{w:Value}{p n:Nat}{a:α} (h:Mx T1 T2 H v hs mx sg ls) (hsub:∀ s ∈ mx,s ∈ M) (hw:hs[p]? = some w)
  (hg:gd ops L ⟨some d,.indexAddr t y z,ty,pos,aft,g⟩=some true) (hN:Nat.blt d x.N=true)
  (hT:∀ w,(underlying t).run x.P w=.ok (.slice e) w) (hsz:∀ w,(sizeOf e).run x.P w=.ok n w) (hn:n=aE.sz α)
  (hy:ev L y=some w) (hz:ev L z=some (.int kk j)) (h0:0≤j) (h1:((ls[p]?).getD [])[j.toNat]? = some a)
  (k:W x ops Q rest H M ((d,.pointer (some ((Value.base w).add (j.toNat*aE.sz α))))::L)):
  W x ops Q (⟨some d,.indexAddr t y z,ty,pos,aft,g⟩::rest) H M L:=by
 subst hn;obtain ⟨xs,hm,_⟩:=h.get hw;exact bG (hsub _ hm) hg hN hT hsz hy hz h0 (He.1 h1).1 k
theorem mi {T:TypeId}{y:Operand}{ad:Addr}{w:Value}{p j n:Nat}{a:α} (h:Mx T1 T2 H v hs mx sg ls) (hsub:∀ s ∈ mx,s ∈ M) (hw:hs[p]? = some w) (h1:((ls[p]?).getD [])[j]? = some a)
  (hg:gd ops L ⟨some d,.load T y,ty,pos,aft,g⟩=some true) (hN:Nat.blt d x.N=true)
  (hT:∀ w,(isAgg T).run x.P w=.ok true w) (hn:∀ w,(sizeOf T).run x.P w=.ok n w) (hn':n=aE.sz α) (hy:ev L y=some (.pointer (some ad))) (had:ad=(Value.base w).add (j*aE.sz α))
  (k:∀ cs,aE.E H cs a→W x ops Q rest H M ((d,.agg cs.toArray)::L)):W x ops Q (⟨some d,.load T y,ty,pos,aft,g⟩::rest) H M L:=by
 subst hn';subst had;obtain ⟨xs,hm,hr⟩:=h.get hw;obtain ⟨c,hE,hc⟩:=hr.elem h1;exact aT hg hN hT hn hy (rp (hsub _ hm) hc) (aE.len hE) (k c hE)
theorem B6 {t e:TypeId}{y lo:Operand}{w:Value}{p n:Nat}{j:Int}{kk:IntKind} (h:Mx T1 T2 H v hs mx sg ls) (hsub:∀ s ∈ mx,s ∈ M) (hw:hs[p]? = some w) (h0:0≤j) (h1:j≤(((ls[p]?).getD []).length:Int))
  (hg:gd ops L ⟨some d,.slice t y (some lo) none none,ty,pos,aft,g⟩=some true) (hN:Nat.blt d x.N=true)
  (hT:∀ w,(underlying t).run x.P w=.ok (.slice e) w) (hsz:∀ w,(sizeOf e).run x.P w=.ok n w) (hn:n=aE.sz α) (hy:ev L y=some w) (hlo:ev L lo=some (.int kk j))
  (k:W x ops Q rest H M ((d,pM (aE.sz α) j.toNat w)::L)):
  W x ops Q (⟨some d,.slice t y (some lo) none none,ty,pos,aft,g⟩::rest) H M L:=by
 subst hn;obtain ⟨xs,hm,hr⟩:=h.get hw;exact B7 (l:=(ls[p]?).getD []) (n:=j.toNat) (hsub _ hm) (by omega) hg hN hT hsz hy (by rw [hlo,K3 h0]) k
theorem uE {pre:List bV} (h:Mx T1 T2 H v hs mx sg ls) (h0:Nat.blt 0 (aE.sz α)=true)
  (k:∀ H',H.le H'→aI H' v (nB sg ls)→W x ops Q rest H' (pre++M) L):W x ops Q rest H (pre++(mx++M)) L:=
 a_ (vS pre mx M) (y9 h h0 k)
theorem uB {e:Exit}{pre:List bV} (h:Mx T1 T2 H v hs mx sg ls) (h0:Nat.blt 0 (aE.sz α)=true)
  (k:∀ H',H.le H'→aI H' v (nB sg ls)→E x e Q H' (pre++M) L):E x e Q H (pre++(mx++M)) L:=by
 refine y8 (vS pre mx M) ?_;intro a w hsl ht;obtain ⟨H',h1,h2,h3⟩:=St.ym ht h (by simpa [IM] using h0)
 exact k H' h1 h3 a w hsl h2
theorem vh {t e:TypeId}{bytes:Nat}{y y2:Operand}{n:Int}{pre:List bV} (T2:TypeId) (α:Type) [aE α]
  (hg:gd ops L ⟨some d,.makeSlice t y y2,ty,pos,aft,g⟩=some true) (hN:Nat.blt d x.N=true)
  (hT:x.P.underlying t=some (.slice e)) (hi:FT x.P e 1 bytes (.slice none 0 0)) (hb0:Nat.blt 0 bytes=true)
  (hy:ev L y=some (.int .i64 n)) (hy2:ev L y2=some (.int .i64 n)) (h0:0≤n) (hb:n*bytes≤140737488355328)
  (k:∀ v' mx',Mx e T2 H v' [.slice none 0 0] mx' (List.replicate n.toNat 0) ([[]]:List (List α))→W x ops Q rest H (pre++(mx'++M)) ((d,v')::L)):
  W x ops Q (⟨some d,.makeSlice t y y2,ty,pos,aft,g⟩::rest) H (pre++M) L:=by
 refine fT (α:=A5) (zs:=[.slice none 0 0]) (ze:=A5.mk) hg hN hT hi rfl rfl hb0 rfl hy hy2 h0 hb ?_;intro v' xs' hr;refine tB T2 (aE.sz α) ?_;have hm:=Mx.make (α:=α) (T1:=e) (T2:=T2) hr;refine a_ (M':=pre++((.row v' e 1 (List.replicate n.toNat 0).length xs'::[.row (.slice none 0 0) T2 (aE.sz α) 0 []])++M)) ?_ (k v' _ hm);have e1:(List.replicate n.toNat A5.mk).length=(List.replicate n.toNat 0).length:=by simp
 rw [e1];refine (List.Perm.swap _ _ _).trans ?_;exact (vS pre [.row v' e 1 (List.replicate n.toNat 0).length xs',.row (.slice none 0 0) T2 (aE.sz α) 0 []] M).symm
end
def Gg:List Int:=[1,10,100,1000,10000,100000,1000000,10000000,100000000,1000000000,10000000000,100000000000,1000000000000,10000000000000,100000000000000,1000000000000000,10000000000000000,100000000000000000,1000000000000000000,10000000000000000000]
def GB:List Int:=[0,1,28,2,29,14,24,3,30,22,20,15,25,17,4,8,31,27,13,23,21,19,16,7,26,12,18,6,11,5,10,9]
def GC:List Int:=[0,1,56,2,57,49,28,3,61,58,42,50,38,29,17,4,62,47,59,36,45,43,51,22,53,39,33,30,24,18,12,5,63,55,48,27,60,41,37,16,46,35,44,21,52,32,23,11,54,26,40,15,34,20,31,10,25,14,19,9,13,8,7,6]
structure cE where
 Name:ByteArray
 A:ByteArray
 B_:ByteArray
 sH:Bool
 Open:Bool
 deriving DecidableEq
instance:aE cE where
 sz:=5
 E H cs x:=cs=[.string (x.Name),.string (x.A),.string (x.B_),.bool (x.sH),.bool (x.Open)]
 len h:=by obtain rfl:=h; rfl
 mono hle h:=by obtain rfl:=h; exact rfl
 one h:=by obtain rfl:=h; exact (Hb rfl (Hb rfl (Hb rfl (Hb rfl (Hb rfl Hr)))))
instance:Flat cE:=⟨fun h=>h⟩
structure bH where
 Name:ByteArray
 jB:ByteArray
 To:ByteArray
 X:Int
 rL:Int
 Shift:Int
 kr:Int
 mF:Int
 qc:Int
 deriving DecidableEq
instance:aE bH where
 sz:=9
 E H cs x:=cs=[.string (x.Name),.string (x.jB),.string (x.To),.int .i64 (x.X),.int .i64 (x.rL),.int .i64 (x.Shift),.int .i64 (x.kr),.int .i64 (x.mF),.int .i64 (x.qc)]
 len h:=by obtain rfl:=h; rfl
 mono hle h:=by obtain rfl:=h; exact rfl
 one h:=by obtain rfl:=h; exact (Hb rfl (Hb rfl (Hb rfl (Hb rfl (Hb rfl (Hb rfl (Hb rfl (Hb rfl (Hb rfl Hr)))))))))
instance:Flat bH:=⟨fun h=>h⟩
structure cP where
 Name:ByteArray
 Node:ByteArray
 dI:Int
 g_:Int
 tz:Int
 deriving DecidableEq
instance:aE cP where
 sz:=5
 E H cs x:=cs=[.string (x.Name),.string (x.Node),.int .i64 (x.dI),.int .i64 (x.g_),.int .i64 (x.tz)]
 len h:=by obtain rfl:=h; rfl
 mono hle h:=by obtain rfl:=h; exact rfl
 one h:=by obtain rfl:=h; exact (Hb rfl (Hb rfl (Hb rfl (Hb rfl (Hb rfl Hr)))))
instance:Flat cP:=⟨fun h=>h⟩
structure aK where
 Name:ByteArray
 Node:ByteArray
 bN:Int
 deriving DecidableEq
instance:aE aK where
 sz:=3
 E H cs x:=cs=[.string (x.Name),.string (x.Node),.int .i64 (x.bN)]
 len h:=by obtain rfl:=h; rfl
 mono hle h:=by obtain rfl:=h; exact rfl
 one h:=by obtain rfl:=h; exact (Hb rfl (Hb rfl (Hb rfl Hr)))
instance:Flat aK:=⟨fun h=>h⟩
structure dC where
 Name:ByteArray
 Node:ByteArray
 lF:Int
 Discharge:Int
 nF:Int
 deriving DecidableEq
instance:aE dC where
 sz:=5
 E H cs x:=cs=[.string (x.Name),.string (x.Node),.int .i64 (x.lF),.int .i64 (x.Discharge),.int .i64 (x.nF)]
 len h:=by obtain rfl:=h; rfl
 mono hle h:=by obtain rfl:=h; exact rfl
 one h:=by obtain rfl:=h; exact (Hb rfl (Hb rfl (Hb rfl (Hb rfl (Hb rfl Hr)))))
instance:Flat dC:=⟨fun h=>h⟩
structure aC where
 bJ:(List ByteArray)
 bF:(List cE)
 aN:(List bH)
 dM:(List cP)
 bK:(List aK)
 bQ:(List dC)
 deriving DecidableEq
instance:aE aC where
 sz:=6
 E H cs x:=∃ v0 v1 v2 v3 v4 v5:Value,cs=[v0,v1,v2,v3,v4,v5]∧aI H v0 x.bJ∧aI H v1 x.bF∧aI H v2 x.aN∧aI H v3 x.dM∧aI H v4 x.bK∧aI H v5 x.bQ
 len h:=by obtain ⟨v0,v1,v2,v3,v4,v5,rfl,h0,h1,h2,h3,h4,h5⟩:=h; rfl
 mono hle h:=by obtain ⟨v0,v1,v2,v3,v4,v5,rfl,h0,h1,h2,h3,h4,h5⟩:=h; exact ⟨v0,v1,v2,v3,v4,v5,rfl,h0.mono hle,h1.mono hle,h2.mono hle,h3.mono hle,h4.mono hle,h5.mono hle⟩
 one h:=by obtain ⟨v0,v1,v2,v3,v4,v5,rfl,h0,h1,h2,h3,h4,h5⟩:=h; exact (Hb (aI.cM h0) (Hb (aI.cM h1) (Hb (aI.cM h2) (Hb (aI.cM h3) (Hb (aI.cM h4) (Hb (aI.cM h5) Hr))))))
structure eM where
 nh:(List ByteArray)
 mD:(List ByteArray)
 deriving DecidableEq
instance:aE eM where
 sz:=2
 E H cs x:=∃ v0 v1:Value,cs=[v0,v1]∧aI H v0 x.nh∧aI H v1 x.mD
 len h:=by obtain ⟨v0,v1,rfl,h0,h1⟩:=h; rfl
 mono hle h:=by obtain ⟨v0,v1,rfl,h0,h1⟩:=h; exact ⟨v0,v1,rfl,h0.mono hle,h1.mono hle⟩
 one h:=by obtain ⟨v0,v1,rfl,h0,h1⟩:=h; exact (Hb (aI.cM h0) (Hb (aI.cM h1) Hr))
structure aS where
 seen:(List (ByteArray×Bool))
 nodes:(List ByteArray)
 deriving DecidableEq
structure aV where
 kC:(List Int)
 bA:(List Int)
 deriving DecidableEq
instance:aE aV where
 sz:=2
 E H cs x:=∃ v0 v1:Value,cs=[v0,v1]∧aI H v0 x.kC∧aI H v1 x.bA
 len h:=by obtain ⟨v0,v1,rfl,h0,h1⟩:=h; rfl
 mono hle h:=by obtain ⟨v0,v1,rfl,h0,h1⟩:=h; exact ⟨v0,v1,rfl,h0.mono hle,h1.mono hle⟩
 one h:=by obtain ⟨v0,v1,rfl,h0,h1⟩:=h; exact (Hb (aI.cM h0) (Hb (aI.cM h1) Hr))
structure bW where
 a0:Int
 a1:Int
 deriving DecidableEq
instance:aE bW where
 sz:=2
 E H cs x:=cs=[.int .i64 (x.a0),.int .i64 (x.a1)]
 len h:=by obtain rfl:=h; rfl
 mono hle h:=by obtain rfl:=h; exact rfl
 one h:=by obtain rfl:=h; exact (Hb rfl (Hb rfl Hr))
instance:Flat bW:=⟨fun h=>h⟩
structure aO where
 dI:Int
 g_:Int
 bN:Int
 deriving DecidableEq
instance:aE aO where
 sz:=3
 E H cs x:=cs=[.int .i64 (x.dI),.int .i64 (x.g_),.int .i64 (x.bN)]
 len h:=by obtain rfl:=h; rfl
 mono hle h:=by obtain rfl:=h; exact rfl
 one h:=by obtain rfl:=h; exact (Hb rfl (Hb rfl (Hb rfl Hr)))
instance:Flat aO:=⟨fun h=>h⟩
structure aB where
 minus:Bool
 words:(List bI)
 deriving DecidableEq
instance:aE aB where
 sz:=2
 E H cs x:=∃ v1:Value,cs=[.bool (x.minus),v1]∧aI H v1 x.words
 len h:=by obtain ⟨v1,rfl,h0⟩:=h; rfl
 mono hle h:=by obtain ⟨v1,rfl,h0⟩:=h; exact ⟨v1,rfl,h0.mono hle⟩
 one h:=by obtain ⟨v1,rfl,h0⟩:=h; exact (Hb rfl (Hb (aI.cM h0) Hr))
structure aA where
 N:aB
 D:aB
 deriving DecidableEq
instance:aE aA where
 sz:=4
 E H cs x:=∃ v1 v3:Value,cs=[.bool (x.N.minus),v1,.bool (x.D.minus),v3]∧aI H v1 x.N.words∧aI H v3 x.D.words
 len h:=by obtain ⟨v1,v3,rfl,h0,h1⟩:=h; rfl
 mono hle h:=by obtain ⟨v1,v3,rfl,h0,h1⟩:=h; exact ⟨v1,v3,rfl,h0.mono hle,h1.mono hle⟩
 one h:=by obtain ⟨v1,v3,rfl,h0,h1⟩:=h; exact (Hb rfl (Hb (aI.cM h0) (Hb rfl (Hb (aI.cM h1) Hr))))
structure aW where
 qV:aV
 jB:(List Int)
 To:(List Int)
 B_:(List aA)
 C:(List aA)
 mh:(List Int)
 mX:(List (List aA))
 deriving DecidableEq
instance:aE aW where
 sz:=8
 E H cs x:=∃ v0 v1 v2 v3 v4 v5 v6 v7:Value,cs=[v0,v1,v2,v3,v4,v5,v6,v7]∧aI H v0 x.qV.kC∧aI H v1 x.qV.bA∧aI H v2 x.jB∧aI H v3 x.To∧aI H v4 x.B_∧aI H v5 x.C∧aI H v6 x.mh∧aI H v7 x.mX
 len h:=by obtain ⟨v0,v1,v2,v3,v4,v5,v6,v7,rfl,h0,h1,h2,h3,h4,h5,h6,h7⟩:=h; rfl
 mono hle h:=by obtain ⟨v0,v1,v2,v3,v4,v5,v6,v7,rfl,h0,h1,h2,h3,h4,h5,h6,h7⟩:=h; exact ⟨v0,v1,v2,v3,v4,v5,v6,v7,rfl,h0.mono hle,h1.mono hle,h2.mono hle,h3.mono hle,h4.mono hle,h5.mono hle,h6.mono hle,h7.mono hle⟩
 one h:=by obtain ⟨v0,v1,v2,v3,v4,v5,v6,v7,rfl,h0,h1,h2,h3,h4,h5,h6,h7⟩:=h; exact (Hb (aI.cM h0) (Hb (aI.cM h1) (Hb (aI.cM h2) (Hb (aI.cM h3) (Hb (aI.cM h4) (Hb (aI.cM h5) (Hb (aI.cM h6) (Hb (aI.cM h7) Hr))))))))
def lN (j:aC):Option (aC):=dH (0≤(min (j.bK.length:Int) 4)∧(min (j.bK.length:Int) 4)≤(j.bK.length:Int)) (dH (0≤(min (j.dM.length:Int) 4)∧(min (j.dM.length:Int) 4)≤(j.dM.length:Int)) (some (aC.mk j.bJ j.bF j.aN (lK j.dM 0 ((min (j.dM.length:Int) 4:Int).toNat)) (lK j.bK 0 ((min (j.bK.length:Int) 4:Int).toNat)) j.bQ)))
def nZ (I:Nat) (j:U8) (o:Unit→Option (Bool)):Option (Bool):=if !(((decide (65≤j.n)) && (decide (j.n≤90))) || (((decide (0<(I:Int))) && (decide (48≤j.n))) && (decide (j.n≤57)))) then (some false) else (o ())
def cN (j:ByteArray):Option (Bool):=dH (j.size≤maxLen) (eE (fun k y o n=>nZ k y n) (fun _=>some ((decide (1≤(j.size:Int))) && (decide ((j.size:Int)≤8)))) 0 (iH j) ())
def jC (I:(List ByteArray)) (J:ByteArray) (j:Nat) (o:Unit→Option (Int)):Option (Int):=idx I (j:Int) fun R=>if decide (J=R) then (some (j:Int)) else (o ())
def bE (j:(List ByteArray)) (o:ByteArray):Option (Int):=jH (fun k I n=>jC j o k n) (fun _=>some (-1)) ((j.length:Int):Int).toNat 0 ()
def bU (j:(List ByteArray)) (o:ByteArray):Option (Bool):=(bE j o).bind fun I=>some (decide (0≤I))
def fP (j:aS) (name:ByteArray) (nodes:(List ByteArray)) (R:Nat) (I:ByteArray) (o:Unit→Option (Int×aS)):Option (Int×aS):=(bU j.nodes I).bind fun J=>if !J then (some (6,(aS.mk (qF j.seen name true) j.nodes))) else (o ())
def cB (j:aS) (name:ByteArray) (nodes:(List ByteArray)):Option (Int×aS):=(cN name).bind fun o=>if !o then (some (5,j)) else (if (nA j.seen name).getD false then (some (7,j)) else (eE (fun k y R n=>fP j name nodes k y n) (fun _=>if decide ((nodes.length:Int)=2) then (idx nodes 0 fun I=>idx nodes 1 fun J=>if decide (I=J) then (some (3,(aS.mk (qF j.seen name true) j.nodes))) else (some (0,(aS.mk (qF j.seen name true) j.nodes)))) else (some (0,(aS.mk (qF j.seen name true) j.nodes)))) 0 nodes ()))
def bM (I:Int) (o:Int) (j:Int):Bool:=((decide (I<o)) || (decide (j<I)))
def gZ (j:bH):Int:=if (((((bM j.X 1 10000) || (bM j.rL 500 1500)) || (bM j.Shift (-1000) 1000)) || (bM j.kr 0 100000)) || (bM j.mF j.kr 100000)) || (bM j.qc 0 200000) then 4 else 0
def aX (j:Int):Bool:=(!(bM j 0 100000))
def gI (I:aS) (U:Nat) (j:dC) (R:(List (ByteArray×Bool))) (J:(List (ByteArray×Bool))→Option (Int×aS)):Option (Int×aS):=(cB (aS.mk R I.nodes) j.Name ([j.Node])).bind fun o=>if !decide (o.1=0) then (some (o.1,(aS.mk o.2.seen I.nodes))) else (if ((!(aX j.lF)) || (!(aX j.Discharge))) || (!(aX j.nF)) then (some (4,(aS.mk o.2.seen I.nodes))) else (J o.2.seen))
def gH (o:aS) (U:Nat) (I:aK) (R:(List (ByteArray×Bool))) (J:(List (ByteArray×Bool))→Option (Int×aS)):Option (Int×aS):=(cB (aS.mk R o.nodes) I.Name ([I.Node])).bind fun j=>if !decide (j.1=0) then (some (j.1,(aS.mk j.2.seen o.nodes))) else (if !(aX I.bN) then (some (4,(aS.mk j.2.seen o.nodes))) else (J j.2.seen))
def gG (I:aS) (U:Nat) (j:cP) (R:(List (ByteArray×Bool))) (J:(List (ByteArray×Bool))→Option (Int×aS)):Option (Int×aS):=(cB (aS.mk R I.nodes) j.Name ([j.Node])).bind fun o=>if !decide (o.1=0) then (some (o.1,(aS.mk o.2.seen I.nodes))) else (if ((!(aX j.dI)) || (bM j.g_ j.dI 100000)) || (!(aX j.tz)) then (some (4,(aS.mk o.2.seen I.nodes))) else (J o.2.seen))
def e_ (j:aS) (o:aC):Option (Int×aS):=eE (fun k y I n=>gG j k y I n) (fun I=>eE (fun k y J n=>gH j k y J n) (fun J=>eE (fun k y R n=>gI j k y R n) (fun R=>some (0,(aS.mk R j.nodes))) 0 o.bQ J) 0 o.bK I) 0 o.dM j.seen
def kz (J:aC) (U:Nat) (j:bH) (R:(List (ByteArray×Bool))) (I:(List (ByteArray×Bool))→Option (Int)):Option (Int):=(cB (aS.mk R J.bJ) j.Name ([j.jB,j.To])).bind fun o=>if !decide (o.1=0) then (some o.1) else (if !decide ((gZ j)=0) then (some (gZ j)) else (I o.2.seen))
def ky (J:aC) (U:Nat) (j:cE) (R:(List (ByteArray×Bool))) (I:(List (ByteArray×Bool))→Option (Int)):Option (Int):=(cB (aS.mk R J.bJ) j.Name ([j.A,j.B_])).bind fun o=>if !decide (o.1=0) then (some o.1) else (I o.2.seen)
def kx (I:aC) (U:Nat) (J:ByteArray) (R:(List (ByteArray×Bool))) (o:(List (ByteArray×Bool))→Option (Int)):Option (Int):=(cB (aS.mk R I.bJ) J []).bind fun j=>if !decide (j.1=0) then (some j.1) else (o j.2.seen)
def cG (j:aC):Option (Int):=if (((((decide (24<(j.bJ.length:Int))) || (decide (32<(j.bF.length:Int)))) || (decide (24<(j.aN.length:Int)))) || (decide (10<(j.dM.length:Int)))) || (decide (12<(j.bK.length:Int)))) || (decide (4<(j.bQ.length:Int))) then (some 2) else (eE (fun k y o n=>kx j k y o n) (fun o=>eE (fun k y I n=>ky j k y I n) (fun I=>eE (fun k y J n=>kz j k y J n) (fun J=>(e_ (aS.mk J j.bJ) j).bind fun R=>some R.1) 0 j.aN I) 0 j.bF o) 0 j.bJ ([]:(List (ByteArray×Bool))))
def lC (o:aK) (j:ByteArray):Bool:=(decide (o.Name=j))
def dS (J:(List aK)) (j:ByteArray) (o:Nat) (I:Unit→Option (Int)):Option (Int):=idx J (o:Int) fun R=>if (lC R j) then (some (o:Int)) else (I ())
def dB (o:(List aK)) (j:ByteArray):Option (Int):=jH (fun k I n=>dS o j k n) (fun _=>some (-1)) ((o.length:Int):Int).toNat 0 ()
def cS (o:(List aK)) (j:ByteArray):Option (Bool):=(dB o j).bind fun I=>some (decide (0≤I))
def n6 (J:aC) (on:(List ByteArray)) (j:Nat) (o:ByteArray) (I:Unit→Option (Int)):Option (Int):=(cS J.bK o).bind fun R=>if !R then (some 6) else (dH (0≤(j:Int)∧(j:Int)≤(on.length:Int)) ((bU (lK on 0 (((j:Int):Int).toNat)) o).bind fun U=>if U then (some 7) else (I ())))
def dW (j:aC) (on:(List ByteArray)):Option (Int):=(cG j).bind fun o=>if !decide (o=0) then (some o) else (eE (fun k y I n=>n6 j on k y n) (fun _=>some 0) 0 on ())
def nO (j:aC):Option (aC):=dH (j.bJ.length*16≤140737488355328) (dH (j.bF.length*56≤140737488355328) (dH (j.aN.length*96≤140737488355328) (dH (j.dM.length*56≤140737488355328) (dH (j.bK.length*40≤140737488355328) (dH (j.bQ.length*56≤140737488355328) (some j))))))
def jN (o:aK) (j:(List ByteArray)):Option (Bool):=(bU j o.Name).bind fun I=>some (!I)
def fL (J:(List aK)) (j:(List ByteArray)) (o:Nat) (I:Unit→Option (Int)):Option (Int):=idx J (o:Int) fun R=>(jN R j).bind fun U=>if U then (some (o:Int)) else (I ())
def eB (o:(List aK)) (j:(List ByteArray)):Option (Int):=jH (fun k I n=>fL o j k n) (fun _=>some (-1)) ((o.length:Int):Int).toNat 0 ()
def cU (n199:Int) (j:(List aK×Int×Int)→Option ((List aK))) (o:List aK) (n232:Int):Option ((List aK)):=j (o,n232,i64.wrap (n199+1))
def fG (del_0:(List ByteArray)) (j:List aK) (n198:Int) (n199:Int) (o:(List aK×Int×Int)→Option ((List aK))):Option ((List aK)):=if decide (n199<(j.length:Int)) then (idx j n199 fun I=>(jN I del_0).bind fun J=>if !J then (idx j n198 fun R=>cU n199 o (j.set ((n198:Int).toNat) I) (i64.wrap (n198+1))) else (cU n199 o j n198)) else (dH (0≤n198∧n198≤(j.length:Int)) (dH (0≤n198∧n198≤((j.take (n198).toNat++List.replicate (j.length-(n198).toNat) ((aK.mk (⟨#[]⟩) (⟨#[]⟩) 0):aK)).length:Int)) (some (lK (j.take (n198).toNat++List.replicate (j.length-(n198).toNat) ((aK.mk (⟨#[]⟩) (⟨#[]⟩) 0):aK)) 0 ((n198:Int).toNat)))))
def c_ (j:(List aK)) (del_0:(List ByteArray)):Option ((List aK)):=(eB j del_0).bind fun o=>if decide (o=(-1)) then (some j) else (fV (fun I n=>fG del_0 I.1 I.2.1 I.2.2 n) eT (j,o,i64.wrap (o+1)))
def kV (o:aC) (on:(List ByteArray)):Option (aC):=(nO o).bind fun j=>(c_ j.bK on).bind fun I=>some (aC.mk j.bJ j.bF j.aN j.dM I j.bQ)
def kU (j:aC) (on:(List ByteArray)):Option (aC×Int):=(dW j on).bind fun o=>if !decide (o=0) then (some ((aC.mk ([]:List ByteArray) ([]:List cE) ([]:List bH) ([]:List cP) ([]:List aK) ([]:List dC)),o)) else ((kV j on).bind fun I=>some (I,0))
def kW (j:(List bW×List Int)→Option ((List bW)×(List Int))) (o:List bW) (I:List Int):Option ((List bW)×(List Int)):=j (o,I)
def n7 (U:aC) (j:Bool) (GW:Nat) (o:cE) (I:List bW) (J:List Int) (R:(List bW×List Int)→Option ((List bW)×(List Int))):Option ((List bW)×(List Int)):=if decide (o.Open=j) then ((bE U.bJ o.A).bind fun GX=>(bE U.bJ o.B_).bind fun GY=>dH ((I.length+([(bW.mk GX GY)]).length)*16≤140737488355328) (dH ((J.length+([((GW:Int))]:List Int).length)*8≤140737488355328) (kW R (I++([(bW.mk GX GY)])) (J++([((GW:Int))]:List Int))))) else (kW R I J)
def mu (I:aC) (o:Bool):Option ((List bW)×(List Int)):=eE (fun k y j n=>n7 I o k y j.1 j.2 n) (fun j=>some (j.1,j.2)) 0 I.bF (([]:List bW),([]:List Int))
def oZ (o:Int) (J:Nat) (j:bW) (I:Unit→Option (Int)):Option (Int):=if decide (j.a0<0) then (some 4) else (if decide (o≤j.a0) then (some 4) else (if decide (j.a1<0) then (some 4) else (if decide (o≤j.a1) then (some 4) else (I ()))))
def nH (j:Int) (o:(List bW)):Option (Int):=if ((decide (j<0)) || (decide (24<j))) || (decide (64<(o.length:Int))) then (some 2) else (eE (fun k y I n=>oZ j k y n) (fun _=>some 0) 0 o ())
def kb (j:Int) (o:Int):Int×Int:=((u64.wrap ((u64.wrap ((u64.wrap ((jW .u64 j 32)*(jW .u64 o 32)))+(jW .u64 (u64.wrap ((u64.wrap ((jW .u64 j 32)*(u64.wrap ((BitVec.ofInt (u64).bits o &&& BitVec.ofInt (u64).bits 4294967295).toNat))))+(jW .u64 (u64.wrap ((u64.wrap ((BitVec.ofInt (u64).bits j &&& BitVec.ofInt (u64).bits 4294967295).toNat))*(u64.wrap ((BitVec.ofInt (u64).bits o &&& BitVec.ofInt (u64).bits 4294967295).toNat)))) 32))) 32)))+(jW .u64 (u64.wrap ((u64.wrap ((BitVec.ofInt (u64).bits (u64.wrap ((u64.wrap ((jW .u64 j 32)*(u64.wrap ((BitVec.ofInt (u64).bits o &&& BitVec.ofInt (u64).bits 4294967295).toNat))))+(jW .u64 (u64.wrap ((u64.wrap ((BitVec.ofInt (u64).bits j &&& BitVec.ofInt (u64).bits 4294967295).toNat))*(u64.wrap ((BitVec.ofInt (u64).bits o &&& BitVec.ofInt (u64).bits 4294967295).toNat)))) 32))) &&& BitVec.ofInt (u64).bits 4294967295).toNat))+(u64.wrap ((u64.wrap ((BitVec.ofInt (u64).bits j &&& BitVec.ofInt (u64).bits 4294967295).toNat))*(jW .u64 o 32))))) 32))),(u64.wrap (j*o)))
def nN (j:Int) (o:Int):Int×Int:=((((kb j o)).1),(((kb j o)).2))
def gX (j:(List Int×Int)→Option ((List Int))) (o:List Int) (I:Int):Option ((List Int)):=j (o,I)
def dL (j:(List Int×List Int)→Option ((List Int))) (o:List Int) (I:List Int):Option ((List Int)):=j (o,I)
def mI (without:Int) (U:Int) (o:Int) (GW:Nat) (j:bW) (I:List Int) (J:List Int) (R:(List Int×List Int)→Option ((List Int))):Option ((List Int)):=if decide ((GW:Int)=without) then (dL R I J) else (if decide (j.a0=o) then (idx I (i64.wrap ((i64.wrap (j.a0+j.a1))-o)) fun GX=>if decide (GX<0) then (idx I (i64.wrap ((i64.wrap (j.a0+j.a1))-o)) fun GZ=>dH ((J.length+([(i64.wrap ((i64.wrap (j.a0+j.a1))-o))]:List Int).length)*8≤140737488355328) (dL R (I.set ((i64.wrap ((i64.wrap (j.a0+j.a1))-o):Int).toNat) U) (J++([(i64.wrap ((i64.wrap (j.a0+j.a1))-o))]:List Int)))) else (dL R I J)) else (if !decide (j.a1=o) then (dL R I J) else (idx I (i64.wrap ((i64.wrap (j.a0+j.a1))-o)) fun GY=>if decide (GY<0) then (idx I (i64.wrap ((i64.wrap (j.a0+j.a1))-o)) fun G0=>dH ((J.length+([(i64.wrap ((i64.wrap (j.a0+j.a1))-o))]:List Int).length)*8≤140737488355328) (dL R (I.set ((i64.wrap ((i64.wrap (j.a0+j.a1))-o):Int).toNat) U) (J++([(i64.wrap ((i64.wrap (j.a0+j.a1))-o))]:List Int)))) else (dL R I J))))
def mH (GX:(List bW)) (without:Int) (I:Int) (R:(List Int×Int)→Option ((List Int))) (J:List Int) (j:List Int) (U:(List Int×List Int)→Option ((List Int))):Option ((List Int)):=if decide (0<(j.length:Int)) then (idx j 0 fun GW=>dH (0≤1∧1≤(j.length:Int)) (eE (fun k y o n=>mI without I GW k y o.1 o.2 n) (fun o=>U (o.1,o.2)) 0 GX (J,(lK j (1:Int).toNat j.length)))) else (gX R J (i64.wrap (I+1)))
def mG (GW:(List bW)) (without:Int) (I:Nat) (j:List Int) (o:Int) (J:(List Int×Int)→Option ((List Int))):Option ((List Int)):=idx j (I:Int) fun U=>if decide (0≤U) then (gX J j o) else (idx j (I:Int) fun GX=>fV (fun R n=>mH GW without o J R.1 R.2 n) eT ((j.set (((I:Int):Int).toNat) o),([((I:Int))]:List Int)))
def lH (o:Int) (I:(List bW)) (without:Int):Option ((List Int)):=dH (([((-1))]:List Int).length=1∧0≤o∧o*8≤140737488355328) (dH (o≤9223372036854775807) (jH (fun k j n=>mG I without k j.1 j.2 n) (fun j=>some j.1) (o:Int).toNat 0 ((yK ([((-1))]:List Int) o),0)))
def gC (j:Int) (o:(List bW)):Option ((List Int)×Int):=(nH j o).bind fun I=>if !decide (I=0) then (some (([]:List Int),I)) else ((lH j o (-1)).bind fun J=>some (J,0))
def k_ (j:aC):Option ((List Int)):=(mu j false).bind fun o=>(gC (j.bJ.length:Int) o.1).bind fun I=>some I.1
def oH (j:aC) (o:((List Int))) (GZ:Nat) (I:bH) (J:List bW) (GW:List bW→Option (aV)):Option (aV):=(bE j.bJ I.jB).bind fun GX=>idx o GX fun R=>(bE j.bJ I.To).bind fun GY=>idx o GY fun U=>dH ((J.length+([(bW.mk R U)]).length)*16≤140737488355328) (GW (J++([(bW.mk R U)])))
def oG (I:Nat) (o:Int) (n114:Int) (j:Int→Option (aV)):Option (aV):=j (max n114 (i64.wrap (o+1)))
def dE (j:aC):Option (aV):=(k_ j).bind fun o=>eE (fun k y I n=>oG k y I n) (fun I=>eE (fun k y J n=>oH j o k y J n) (fun J=>(gC I J).bind fun R=>some (aV.mk o R.1)) 0 j.aN ([]:List bW)) 0 o 0
def ni (I:Nat) (o:Int) (n115:Int) (j:Int→Option (Int)):Option (Int):=j (max n115 (i64.wrap (o+1)))
def jJ (o:aC):Option (Int):=(dE o).bind fun I=>eE (fun k y j n=>ni k y j n) (fun j=>some j) 0 I.bA 0
def kg (o:aC) (j:aV) (node:ByteArray):Option (Int):=(bE o.bJ node).bind fun I=>idx j.kC I fun J=>idx j.bA J fun R=>some R
def oz (U:aC) (GW:(aV)) (GY:Nat) (I:aK) (j:List aO) (R:List aO→Option ((List aO))):Option ((List aO)):=(kg U GW I.Node).bind fun o=>idx j o fun GX=>idx j o fun J=>R (j.set ((o:Int).toNat) (aO.mk J.dI J.g_ (i64.wrap (GX.bN+I.bN))))
def oy (U:aC) (GW:(aV)) (GX:Nat) (o:cP) (J:List aO) (R:List aO→Option ((List aO))):Option ((List aO)):=(kg U GW o.Node).bind fun I=>idx J I fun j=>R ((J.set ((I:Int).toNat) (aO.mk (i64.wrap (j.dI+o.dI)) j.g_ j.bN)).set ((I:Int).toNat) (aO.mk (i64.wrap (j.dI+o.dI)) (i64.wrap (j.g_+o.g_)) j.bN))
def mS (j:aC):Option ((List aO)):=(dE j).bind fun R=>(jJ j).bind fun o=>dH (0≤o∧o*24≤140737488355328) (eE (fun k y I n=>oy j R k y I n) (fun I=>eE (fun k y J n=>oz j R k y J n) (fun J=>some J) 0 j.bK I) 0 j.dM (List.replicate (o:Int).toNat ((aO.mk 0 0 0):aO)))
def lj (j:Int):Bool:=(decide (0<j))
def eQ (I:(List Int)) (j:Nat) (o:Unit→Option (Int)):Option (Int):=idx I (j:Int) fun J=>if (lj J) then (some (j:Int)) else (o ())
def dX (j:(List Int)):Option (Int):=jH (fun k o n=>eQ j k n) (fun _=>some (-1)) ((j.length:Int):Int).toNat 0 ()
def cY (j:(List Int)):Option (Bool):=(dX j).bind fun o=>some (decide (0≤o))
def jK (I:List Int) (j:List Int) (o:(List Int×List Int)→Option ((List Int)×Int)) (J:(Int)) (R:Int) (n316:Int):Option ((List Int)×Int):=dH ((j.length+([n316]:List Int).length)*8≤140737488355328) (o ((I.set ((J:Int).toNat) (i64.wrap (R-n316))),(j++([n316]:List Int))))
def nU (GW:aC) (GX:(aV)) (GY:Nat) (o:cP) (I:List Int) (U:List Int) (J:(List Int×List Int)→Option ((List Int)×Int)):Option ((List Int)×Int):=(kg GW GX o.Node).bind fun R=>idx I R fun j=>if decide (o.dI≤j) then (jK I U J R j (min o.g_ j)) else (jK I U J R j 0)
def nT (J:Nat) (j:aO) (o:List Int) (I:List Int→Option ((List Int)×Int)):Option ((List Int)×Int):=dH ((o.length+([j.bN]:List Int).length)*8≤140737488355328) (I (o++([j.bN]:List Int)))
def kf (j:aC):Option ((List Int)×Int):=(cG j).bind fun J=>if !decide (J=0) then (some (([]:List Int),J)) else ((dE j).bind fun R=>(mS j).bind fun U=>eE (fun k y I n=>nT k y I n) (fun I=>eE (fun k y o n=>nU j R k y o.1 o.2 n) (fun o=>(cY o.1).bind fun GW=>if GW then (some (([]:List Int),14)) else (some (o.2,0))) 0 j.dM (I,([]:List Int))) 0 U ([]:List Int))
def oY (I:Nat) (j:Int) (o:Unit→Option ((List Int)×Int)):Option ((List Int)×Int):=if (decide (j<(-100000))) || (decide (100000<j)) then (some (([]:List Int),4)) else (o ())
def oX (R:aC) (GW:Nat) (I:aK) (j:List Int) (J:List Int→Option ((List Int)×Int)):Option ((List Int)×Int):=(bE R.bJ I.Node).bind fun o=>idx j o fun U=>idx j o fun GX=>J (j.set ((o:Int).toNat) (i64.wrap (U-I.bN)))
def oW (U:aC) (stores:(List Int)) (j:Nat) (o:dC) (I:List Int) (R:List Int→Option ((List Int)×Int)):Option ((List Int)×Int):=idx stores (j:Int) fun GW=>if decide (GW<(i64.wrap (0-o.lF))) then (some (([]:List Int),17)) else (idx stores (j:Int) fun GX=>if decide (o.Discharge<GX) then (some (([]:List Int),17)) else ((bE U.bJ o.Node).bind fun J=>idx I J fun GY=>idx stores (j:Int) fun GZ=>idx I J fun G0=>R (I.set ((J:Int).toNat) (i64.wrap (GY+GZ)))))
def oV (GW:aC) (gens:(List Int)) (o:Nat) (I:cP) (j:List Int) (J:List Int→Option ((List Int)×Int)):Option ((List Int)×Int):=idx gens (o:Int) fun GX=>if decide (GX=0) then ((bE GW.bJ I.Node).bind fun R=>idx j R fun GY=>idx gens (o:Int) fun GZ=>idx j R fun G4=>J (j.set ((R:Int).toNat) (i64.wrap (GY+GZ)))) else (idx gens (o:Int) fun G0=>if decide (G0<I.dI) then (some (([]:List Int),17)) else (idx gens (o:Int) fun G1=>if decide (I.g_<G1) then (some (([]:List Int),17)) else ((bE GW.bJ I.Node).bind fun U=>idx j U fun G2=>idx gens (o:Int) fun G3=>idx j U fun G5=>J (j.set ((U:Int).toNat) (i64.wrap (G2+G3))))))
def nG (j:aC) (gens:(List Int)) (stores:(List Int)):Option ((List Int)×Int):=(cG j).bind fun R=>if !decide (R=0) then (some (([]:List Int),R)) else (if (!decide ((gens.length:Int)=(j.dM.length:Int))) || (!decide ((stores.length:Int)=(j.bQ.length:Int))) then (some (([]:List Int),3)) else (dH (0≤(j.bJ.length:Int)∧(j.bJ.length:Int)*8≤140737488355328) (eE (fun k y I n=>oV j gens k y I n) (fun I=>eE (fun k y J n=>oW j stores k y J n) (fun J=>eE (fun k y o n=>oX j k y o n) (fun o=>eE (fun k y U n=>oY k y n) (fun _=>some (o,0)) 0 o ()) 0 j.bK J) 0 j.bQ I) 0 j.dM (List.replicate ((j.bJ.length:Int):Int).toNat (0:Int)))))
def iL (j:aC):Option ((List Int)×Int):=(kf j).bind fun o=>if !decide (o.2=0) then (some (([]:List Int),o.2)) else (dH (0≤(j.bQ.length:Int)∧(j.bQ.length:Int)*8≤140737488355328) ((nG j o.1 (List.replicate ((j.bQ.length:Int):Int).toNat (0:Int))).bind fun I=>some (I.1,I.2)))
def pG (o:(aV)) (U:Nat) (j:Int) (I:(List (Int×Int))) (R:(List (Int×Int))→Option (Int)):Option (Int):=if (decide (j<(-100000))) || (decide (100000<j)) then (some 4) else (idx o.kC (U:Int) fun GW=>idx o.bA GW fun J=>R (qF I J (i64.wrap (((nA I J).getD (0:Int))+j))))
def kE (j:aC) (inject:(List Int)):Option (Int):=(cG j).bind fun I=>if !decide (I=0) then (some I) else (if !decide ((inject.length:Int)=(j.bJ.length:Int)) then (some 3) else ((dE j).bind fun J=>eE (fun k y o n=>pG J k y o n) (fun o=>if (o.any (fun R=>!decide (R.2=0))) then (some 14) else (some 0)) 0 inject ([]:(List (Int×Int)))))
def k8 (minus:Bool) (j:(List bI)):Option (aB):=if minus then (some (aB.mk (decide (0<(j.length:Int))) j)) else (some (aB.mk false j))
def pK (minus:Bool) (j:(List bI)) (o:(List bI)→Option (aB)):Option (aB):=if decide (0<(j.length:Int)) then (idx j (i64.wrap ((j.length:Int)-1)) fun I=>if decide (I.n=0) then (dH (0≤(i64.wrap ((j.length:Int)-1))∧(i64.wrap ((j.length:Int)-1))≤(j.length:Int)) (o (lK j 0 ((i64.wrap ((j.length:Int)-1):Int).toNat)))) else (k8 minus j)) else (k8 minus j)
def fW (minus:Bool) (j:(List bI)):Option (aB):=fV (fun o n=>pK minus o n) eT j
def my (j:Int) (n103:Int):Option (aB):=(fW (decide (j<0)) ([⟨u32.wrap (n103)⟩,⟨u32.wrap (jW .u64 n103 32)⟩]:List bI)).bind fun o=>some o
def ki (j:Int):Option (aB):=if decide (j<0) then (my j (u64.wrap (0-(u64.wrap (j))))) else (my j (u64.wrap (j)))
def jz (j:aB):Option (aB):=(fW (!j.minus) j.words).bind fun o=>some o
def eH (j:aB):Int:=if decide ((j.words.length:Int)=0) then 0 else (if j.minus then (-1) else 1)
def np (j:(List bI)) (o:(List bI)) (n154:Int) (I:Int→Option (Int)):Option (Int):=if decide (0≤n154) then (idx j n154 fun J=>idx o n154 fun R=>if !decide (J.n=R.n) then (idx j n154 fun U=>idx o n154 fun GW=>if decide (U.n<GW.n) then (some (-1)) else (some 1)) else (I (i64.wrap (n154-1)))) else (some 0)
def kK (j:(List bI)) (o:(List bI)):Option (Int):=if !decide ((j.length:Int)=(o.length:Int)) then (some (i64.wrap ((j.length:Int)-(o.length:Int)))) else (fV (fun I n=>np j o I n) eT (i64.wrap ((j.length:Int)-1)))
def nq (R:(List bI)) (j:Int) (o:List bI) (n151:Int) (n152:Int) (J:(List bI×Int×Int)→Option ((List bI)×Int)):Option ((List bI)×Int):=if decide (0≤n152) then (idx R n152 fun I=>dH ((u64.wrap (j))≠0) (idx o n152 fun U=>dH ((u64.wrap (j))≠0) (J ((o.set ((n152:Int).toNat) ⟨u32.wrap (u64.wrap (Int.tdiv (u64.wrap ((BitVec.ofInt (u64).bits (jx .u64 n151 32) ||| BitVec.ofInt (u64).bits (u64.wrap (I.n))).toNat)) (u64.wrap (j))))⟩),Int.tmod (u64.wrap ((BitVec.ofInt (u64).bits (jx .u64 n151 32) ||| BitVec.ofInt (u64).bits (u64.wrap (I.n))).toNat)) (u64.wrap (j)),i64.wrap (n152-1))))) else (some (o,(u32.wrap (n151))))
def kM (j:(List bI)) (I:Int):Option ((List bI)×Int):=dH (0≤(j.length:Int)∧(j.length:Int)*4≤140737488355328) (fV (fun o n=>nq j I o.1 o.2.1 o.2.2 n) eT ((List.replicate ((j.length:Int):Int).toNat (⟨0⟩:bI)),0,i64.wrap ((j.length:Int)-1)))
def iO (n106:Int) (n107:Int):Option (Int):=idx (iH (⟨#[0,1,2,2,3,3,3,3,4,4,4,4,4,4,4,4,5,5,5,5,5,5,5,5,5,5,5,5,5,5,5,5,6,6,6,6,6,6,6,6,6,6,6,6,6,6,6,6,6,6,6,6,6,6,6,6,6,6,6,6,6,6,6,6,7,7,7,7,7,7,7,7,7,7,7,7,7,7,7,7,7,7,7,7,7,7,7,7,7,7,7,7,7,7,7,7,7,7,7,7,7,7,7,7,7,7,7,7,7,7,7,7,7,7,7,7,7,7,7,7,7,7,7,7,7,7,7,7,8,8,8,8,8,8,8,8,8,8,8,8,8,8,8,8,8,8,8,8,8,8,8,8,8,8,8,8,8,8,8,8,8,8,8,8,8,8,8,8,8,8,8,8,8,8,8,8,8,8,8,8,8,8,8,8,8,8,8,8,8,8,8,8,8,8,8,8,8,8,8,8,8,8,8,8,8,8,8,8,8,8,8,8,8,8,8,8,8,8,8,8,8,8,8,8,8,8,8,8,8,8,8,8,8,8,8,8,8,8,8,8,8,8,8,8,8,8,8,8,8,8,8,8,8,8,8,8]⟩)) (u8.wrap (n106)) fun j=>some (i64.wrap (n107+(i64.wrap (j.n))))
def iP (n102:Int) (n103:Int):Option (Int):=if decide (256≤n102) then (iO (jW .u32 n102 8) (i64.wrap (n103+8))) else (iO n102 n103)
def mO (j:Int):Option (Int):=if decide (65536≤j) then (iP (jW .u32 j 16) 16) else (iP j 0)
def gF (j:Int):Option (Int):=(mO j).bind fun o=>some (i64.wrap (32-o))
def nY (j:Int) (o:Nat) (I:bI) (J:List bI) (n140:Int) (R:(List bI×Int)→Option ((List bI))):Option ((List bI)):=dH (0≤j) (idx J (o:Int) fun U=>R ((J.set (((o:Int):Int).toNat) ⟨u32.wrap (u64.wrap ((BitVec.ofInt (u64).bits n140 ||| BitVec.ofInt (u64).bits (jx .u64 (u64.wrap (I.n)) j)).toNat))⟩),jW .u64 (u64.wrap ((BitVec.ofInt (u64).bits n140 ||| BitVec.ofInt (u64).bits (jx .u64 (u64.wrap (I.n)) j)).toNat)) 32))
def k9 (j:(List bI)) (I:Int):Option ((List bI)):=dH (0≤(i64.wrap ((j.length:Int)+1))∧(i64.wrap ((j.length:Int)+1))*4≤140737488355328) (eE (fun k y o n=>nY I k y o.1 o.2 n) (fun o=>idx o.1 (j.length:Int) fun J=>some (o.1.set (((j.length:Int):Int).toNat) ⟨u32.wrap (o.2)⟩)) 0 j ((List.replicate (i64.wrap ((j.length:Int)+1):Int).toNat (⟨0⟩:bI)),0))
def iN (o:List bI) (j:Int) (I:(List bI×List bI×Int)→Option ((List bI)×(List bI))) (J:List bI) (R:Int):Option ((List bI)×(List bI)):=idx o j fun U=>I ((o.set ((j:Int).toNat) ⟨u32.wrap (R)⟩),J,i64.wrap (j-1))
def lv (GX:(List bI)) (GY:((List bI))) (o:Int) (j:Nat) (I:List bI) (J:Int) (GW:(List bI×Int)→Option ((List bI)×(List bI))):Option ((List bI)×(List bI)):=idx I (i64.wrap ((j:Int)+o)) fun R=>idx (lK GY 0 (((GX.length:Int):Int).toNat)) (j:Int) fun U=>idx I (i64.wrap ((j:Int)+o)) fun GZ=>GW ((I.set ((i64.wrap ((j:Int)+o):Int).toNat) ⟨u32.wrap (u64.wrap (J+(u64.wrap ((u64.wrap (R.n))+(u64.wrap (U.n))))))⟩),jW .u64 (u64.wrap (J+(u64.wrap ((u64.wrap (R.n))+(u64.wrap (U.n)))))) 32)
def lu (GZ:(List bI)) (G0:((List bI))) (o:Int) (I:Int) (j:Nat) (J:List bI) (GW:Int) (R:Int) (GY:(List bI×Int×Int)→Option ((List bI)×(List bI))):Option ((List bI)×(List bI)):=idx (lK G0 0 (((GZ.length:Int):Int).toNat)) (j:Int) fun U=>idx J (i64.wrap ((j:Int)+o)) fun GX=>idx J (i64.wrap ((j:Int)+o)) fun G1=>GY ((J.set ((i64.wrap ((j:Int)+o):Int).toNat) ⟨u32.wrap (i64.wrap (GW+(i64.wrap ((i64.wrap (GX.n))-(i64.wrap (u64.wrap ((BitVec.ofInt (u64).bits (u64.wrap (R+(u64.wrap (I*(u64.wrap (U.n)))))) &&& BitVec.ofInt (u64).bits 4294967295).toNat)))))))⟩),jW .i64 (i64.wrap (GW+(i64.wrap ((i64.wrap (GX.n))-(i64.wrap (u64.wrap ((BitVec.ofInt (u64).bits (u64.wrap (R+(u64.wrap (I*(u64.wrap (U.n)))))) &&& BitVec.ofInt (u64).bits 4294967295).toNat))))))) 32,jW .u64 (u64.wrap (R+(u64.wrap (I*(u64.wrap (U.n)))))) 32)
def eO (I:(List bI)) (GY:((List bI))) (GX:List bI) (GZ:List bI) (o:Int) (GW:(List bI×List bI×Int)→Option ((List bI)×(List bI))) (R:Int):Option ((List bI)×(List bI)):=jH (fun k j n=>lu I GY o R k j.1 j.2.1 j.2.2 n) (fun j=>idx j.1 (i64.wrap (o+(I.length:Int))) fun U=>idx j.1 (i64.wrap (o+(I.length:Int))) fun G1=>if decide ((i64.wrap (j.2.1+(i64.wrap ((i64.wrap (U.n))-(i64.wrap (j.2.2))))))<0) then (jH (fun k J n=>lv I GY o k J.1 J.2 n) (fun J=>idx J.1 (i64.wrap (o+(I.length:Int))) fun G0=>idx J.1 (i64.wrap (o+(I.length:Int))) fun G2=>iN GX o GW (J.1.set ((i64.wrap (o+(I.length:Int)):Int).toNat) ⟨u32.wrap (G0.n+(u32.wrap (J.2)))⟩) (u64.wrap (R-1))) ((I.length:Int):Int).toNat 0 ((j.1.set ((i64.wrap (o+(I.length:Int)):Int).toNat) ⟨u32.wrap (i64.wrap (j.2.1+(i64.wrap ((i64.wrap (U.n))-(i64.wrap (j.2.2))))))⟩),0)) else (iN GX o GW (j.1.set ((i64.wrap (o+(I.length:Int)):Int).toNat) ⟨u32.wrap (i64.wrap (j.2.1+(i64.wrap ((i64.wrap (U.n))-(i64.wrap (j.2.2))))))⟩) R)) ((I.length:Int):Int).toNat 0 (GZ,0,0)
def lx (j:(List bI)) (J:((List bI))) (GX:List bI) (R:List bI) (U:Int) (GW:(List bI×List bI×Int)→Option ((List bI)×(List bI))) (o:Int) (I:Int) (GY:(Int×Int)→Option ((List bI)×(List bI))):Option ((List bI)×(List bI)):=if decide (4294967296≤o) then (idx (lK J 0 (((j.length:Int):Int).toNat)) (i64.wrap ((j.length:Int)-1)) fun GZ=>if decide (4294967296≤(u64.wrap (I+(u64.wrap (GZ.n))))) then (eO j J GX R U GW (u64.wrap (o-1))) else (GY (u64.wrap (o-1),u64.wrap (I+(u64.wrap (GZ.n)))))) else (idx (lK J 0 (((j.length:Int):Int).toNat)) (i64.wrap ((j.length:Int)-2)) fun G1=>idx R (i64.wrap ((i64.wrap (U+(j.length:Int)))-2)) fun G2=>if decide ((u64.wrap ((BitVec.ofInt (u64).bits (jx .u64 I 32) ||| BitVec.ofInt (u64).bits (u64.wrap (G2.n))).toNat))<(u64.wrap (o*(u64.wrap (G1.n))))) then (idx (lK J 0 (((j.length:Int):Int).toNat)) (i64.wrap ((j.length:Int)-1)) fun G0=>if decide (4294967296≤(u64.wrap (I+(u64.wrap (G0.n))))) then (eO j J GX R U GW (u64.wrap (o-1))) else (GY (u64.wrap (o-1),u64.wrap (I+(u64.wrap (G0.n)))))) else (eO j J GX R U GW o))
def jR (R:(Int)) (o:List bI) (j:Nat) (I:List bI) (J:List bI→Option ((List bI)×(List bI))):Option ((List bI)×(List bI)):=idx o (i64.wrap ((j:Int)+1)) fun U=>idx o (j:Int) fun GW=>dH (0≤R) (idx I (j:Int) fun GX=>J (I.set (((j:Int):Int).toNat) ⟨u32.wrap (jW .u64 (u64.wrap ((BitVec.ofInt (u64).bits (jx .u64 (u64.wrap (U.n)) 32) ||| BitVec.ofInt (u64).bits (u64.wrap (GW.n))).toNat)) R)⟩))
def lr (j:(List bI)) (G2:(Int)) (R:((List bI))) (U:List bI) (o:List bI) (I:Int) (G1:(List bI×List bI×Int)→Option ((List bI)×(List bI))):Option ((List bI)×(List bI)):=if decide (0≤I) then (idx o (i64.wrap (I+(j.length:Int))) fun GW=>idx o (i64.wrap ((i64.wrap (I+(j.length:Int)))-1)) fun GX=>idx (lK R 0 (((j.length:Int):Int).toNat)) (i64.wrap ((j.length:Int)-1)) fun GY=>dH ((u64.wrap (GY.n))≠0) (idx (lK R 0 (((j.length:Int):Int).toNat)) (i64.wrap ((j.length:Int)-1)) fun GZ=>dH ((u64.wrap (GZ.n))≠0) (fV (fun G0 n=>lx j R U o I G1 G0.1 G0.2 n) eT (u64.wrap (Int.tdiv (u64.wrap ((BitVec.ofInt (u64).bits (jx .u64 (u64.wrap (GW.n)) 32) ||| BitVec.ofInt (u64).bits (u64.wrap (GX.n))).toNat)) (u64.wrap (GY.n))),Int.tmod (u64.wrap ((BitVec.ofInt (u64).bits (jx .u64 (u64.wrap (GW.n)) 32) ||| BitVec.ofInt (u64).bits (u64.wrap (GX.n))).toNat)) (u64.wrap (GZ.n)))))) else (dH (0≤(j.length:Int)∧(j.length:Int)*4≤140737488355328) (jH (fun k J n=>jR G2 o k J n) (fun J=>some (U,J)) ((j.length:Int):Int).toNat 0 (List.replicate ((j.length:Int):Int).toNat (⟨0⟩:bI))))
def kL (o:(List bI)) (j:(List bI)):Option ((List bI)×(List bI)):=(kK o j).bind fun GW=>if decide (GW<0) then (some ([],o)) else (if decide ((j.length:Int)=1) then (idx j 0 fun GX=>(kM o GX.n).bind fun R=>some (R.1,([⟨R.2⟩]:List bI))) else (idx j (i64.wrap ((j.length:Int)-1)) fun GY=>(gF GY.n).bind fun J=>(k9 o J).bind fun GZ=>(k9 j J).bind fun U=>dH (0≤(j.length:Int)∧(j.length:Int)≤(U.length:Int)) (dH (0≤(i64.wrap ((i64.wrap ((o.length:Int)-(j.length:Int)))+1))∧(i64.wrap ((i64.wrap ((o.length:Int)-(j.length:Int)))+1))*4≤140737488355328) (fV (fun I n=>lr j J U I.1 I.2.1 I.2.2 n) eT ((List.replicate (i64.wrap ((i64.wrap ((o.length:Int)-(j.length:Int)))+1):Int).toNat (⟨0⟩:bI)),GZ,i64.wrap ((o.length:Int)-(j.length:Int)))))))
def oA (j:Bool) (o:(List bI)):Option (aB):=some (aB.mk j o)
def ql (o:Bool) (j:(List bI)) (GW:Bool) (I:(List bI)) (U:(Bool×(List bI)×Bool×(List bI))→Option (aB)):Option (aB):=if !decide ((eH (aB.mk o j))=0) then ((kL I j).bind fun J=>dH (J.2.length*4≤140737488355328) ((fW false J.2).bind fun R=>U (R.minus,R.words,o,j))) else (oA GW I)
def l8 (o:aB) (I:aB):Option (aB):=fV (fun j n=>ql j.1 j.2.1 j.2.2.1 j.2.2.2 n) eT (false,I.words,false,o.words)
def ju (j:List bI) (I:(List bI×Int)→Option ((List bI))) (o:Nat) (n198:Int):Option ((List bI)):=idx j (o:Int) fun J=>I ((j.set (((o:Int):Int).toNat) ⟨u32.wrap (n198)⟩),jW .u64 n198 32)
def nk (U:(List bI)) (I:(List bI)) (j:Nat) (J:List bI) (n176:Int) (o:(List bI×Int)→Option ((List bI))):Option ((List bI)):=idx U (j:Int) fun R=>if decide ((j:Int)<(I.length:Int)) then (idx I (j:Int) fun GW=>ju J o j (u64.wrap ((u64.wrap (n176+(u64.wrap (R.n))))+(u64.wrap (GW.n))))) else (ju J o j (u64.wrap (n176+(u64.wrap (R.n)))))
def jv (j:(List bI)) (I:(List bI)):Option ((List bI)):=dH (0≤(i64.wrap ((j.length:Int)+1))∧(i64.wrap ((j.length:Int)+1))*4≤140737488355328) (jH (fun k o n=>nk j I k o.1 o.2 n) (fun o=>idx o.1 (j.length:Int) fun J=>some (o.1.set (((j.length:Int):Int).toNat) ⟨u32.wrap (o.2)⟩)) ((j.length:Int):Int).toNat 0 ((List.replicate (i64.wrap ((j.length:Int)+1):Int).toNat (⟨0⟩:bI)),0))
def lS (j:(List bI)) (o:(List bI)):Option ((List bI)):=if decide ((j.length:Int)<(o.length:Int)) then (jv o j) else (jv j o)
def jw (j:List bI) (I:(List bI×Int)→Option ((List bI))) (o:Nat) (n190:Int):Option ((List bI)):=idx j (o:Int) fun J=>I ((j.set (((o:Int):Int).toNat) ⟨u32.wrap (n190)⟩),jW .i64 n190 32)
def nr (U:(List bI)) (I:(List bI)) (j:Nat) (J:List bI) (n168:Int) (o:(List bI×Int)→Option ((List bI))):Option ((List bI)):=idx U (j:Int) fun R=>if decide ((j:Int)<(I.length:Int)) then (idx I (j:Int) fun GW=>jw J o j (i64.wrap ((i64.wrap (n168+(i64.wrap (R.n))))-(i64.wrap (GW.n))))) else (jw J o j (i64.wrap (n168+(i64.wrap (R.n)))))
def kN (j:(List bI)) (I:(List bI)):Option ((List bI)):=dH (0≤(j.length:Int)∧(j.length:Int)*4≤140737488355328) (jH (fun k o n=>nr j I k o.1 o.2 n) (fun o=>some o.1) ((j.length:Int):Int).toNat 0 ((List.replicate ((j.length:Int):Int).toNat (⟨0⟩:bI)),0))
def jy (j:aB) (o:aB):Option (aB):=if decide (j.minus=o.minus) then ((lS j.words o.words).bind fun I=>(fW j.minus I).bind fun J=>some J) else ((kK j.words o.words).bind fun R=>if decide (0≤R) then ((kN j.words o.words).bind fun U=>(fW j.minus U).bind fun GW=>some GW) else ((kN o.words j.words).bind fun GX=>(fW o.minus GX).bind fun GY=>some GY))
def k6 (j:aB) (o:aB):Option (aB):=(jz o).bind fun I=>(jy j I).bind fun J=>some J
def jE (c194:Bool) (j:(List bI)) (c198:Bool) (o:(List bI)):Option (aB×aB):=some ((aB.mk c198 o),(aB.mk c194 j))
def cJ (I:aB) (R:aB):Option (aB×aB):=(kL I.words R.words).bind fun j=>dH (j.1.length*4≤140737488355328) ((fW I.minus j.1).bind fun J=>dH (j.2.length*4≤140737488355328) ((fW I.minus j.2).bind fun o=>if o.minus then ((ki 1).bind fun GX=>(k6 J GX).bind fun U=>(jy o R).bind fun GW=>jE GW.minus GW.words U.minus U.words) else (jE o.minus o.words J.minus J.words)))
def kJ (o:Bool) (j:(List bI)) (c127:Bool) (I:(List bI)):Option (aA):=if decide ((j.length:Int)=1) then (idx j 0 fun G3=>if decide (G3.n=1) then (some (aA.mk (aB.mk c127 I) (aB.mk o j))) else ((l8 (aB.mk c127 I) (aB.mk o j)).bind fun J=>if decide ((J.words.length:Int)=1) then (idx J.words 0 fun G4=>if decide (G4.n=1) then (some (aA.mk (aB.mk c127 I) (aB.mk o j))) else ((cJ (aB.mk false I) J).bind fun U=>(cJ (aB.mk o j) J).bind fun GZ=>if c127 then (some (aA.mk (aB.mk (decide (0<(U.1.words.length:Int))) U.1.words) GZ.1)) else (some (aA.mk (aB.mk false U.1.words) GZ.1)))) else ((cJ (aB.mk false I) J).bind fun GW=>(cJ (aB.mk o j) J).bind fun G0=>if c127 then (some (aA.mk (aB.mk (decide (0<(GW.1.words.length:Int))) GW.1.words) G0.1)) else (some (aA.mk (aB.mk false GW.1.words) G0.1))))) else ((l8 (aB.mk c127 I) (aB.mk o j)).bind fun R=>if decide ((R.words.length:Int)=1) then (idx R.words 0 fun G5=>if decide (G5.n=1) then (some (aA.mk (aB.mk c127 I) (aB.mk o j))) else ((cJ (aB.mk false I) R).bind fun GX=>(cJ (aB.mk o j) R).bind fun G1=>if c127 then (some (aA.mk (aB.mk (decide (0<(GX.1.words.length:Int))) GX.1.words) G1.1)) else (some (aA.mk (aB.mk false GX.1.words) G1.1)))) else ((cJ (aB.mk false I) R).bind fun GY=>(cJ (aB.mk o j) R).bind fun G2=>if c127 then (some (aA.mk (aB.mk (decide (0<(GY.1.words.length:Int))) GY.1.words) G2.1)) else (some (aA.mk (aB.mk false GY.1.words) G2.1))))
def kH (o:aB) (j:aB):Option (aA):=if j.minus then ((jz o).bind fun I=>(jz j).bind fun J=>kJ J.minus J.words I.minus I.words) else (kJ j.minus j.words o.minus o.words)
def mZ (j:Int) (o:Int):Option (aA):=(ki j).bind fun I=>(ki o).bind fun J=>(kH I J).bind fun R=>some R
def nW (J:bI) (j:Nat) (o:Nat) (R:bI) (I:List bI) (n337:Int) (GW:(List bI×Int)→Option (aB)):Option (aB):=idx I (i64.wrap ((j:Int)+(o:Int))) fun U=>idx I (i64.wrap ((j:Int)+(o:Int))) fun GX=>GW ((I.set ((i64.wrap ((j:Int)+(o:Int)):Int).toNat) ⟨u32.wrap (u64.wrap (n337+(u64.wrap ((u64.wrap (U.n))+(u64.wrap ((u64.wrap (J.n))*(u64.wrap (R.n))))))))⟩),jW .u64 (u64.wrap (n337+(u64.wrap ((u64.wrap (U.n))+(u64.wrap ((u64.wrap (J.n))*(u64.wrap (R.n)))))))) 32)
def nV (o:aB) (I:Nat) (R:bI) (U:List bI) (J:List bI→Option (aB)):Option (aB):=eE (fun k y j n=>nW R I k y j.1 j.2 n) (fun j=>idx j.1 (i64.wrap ((I:Int)+(o.words.length:Int))) fun GW=>J (j.1.set ((i64.wrap ((I:Int)+(o.words.length:Int)):Int).toNat) ⟨u32.wrap (j.2)⟩)) 0 o.words (U,0)
def eI (j:aB) (o:aB):Option (aB):=dH (0≤(i64.wrap ((j.words.length:Int)+(o.words.length:Int)))∧(i64.wrap ((j.words.length:Int)+(o.words.length:Int)))*4≤140737488355328) (eE (fun k y I n=>nV o k y I n) (fun I=>(fW (!decide (j.minus=o.minus)) I).bind fun J=>some J) 0 j.words (List.replicate (i64.wrap ((j.words.length:Int)+(o.words.length:Int)):Int).toNat (⟨0⟩:bI)))
def jA (j:aA) (o:aA):Option (aA):=(eI j.N o.N).bind fun I=>(eI j.D o.D).bind fun J=>(kH I J).bind fun R=>some R
def jP (j:Int):Option (aA):=(ki j).bind fun o=>(ki 1).bind fun I=>some (aA.mk o I)
def lI (j:Int):Option ((List aA)):=(jP 0).bind fun o=>dH (([o]).length=1∧0≤j∧j*64≤140737488355328) (some (yK ([o]) j))
def k4 (I:(List Int)) (J:Int) (j:Nat) (o:Unit→Option (Int)):Option (Int):=idx I (j:Int) fun R=>if decide (J=R) then (some (j:Int)) else (o ())
def iY (j:(List Int)) (o:Int):Option (Int):=jH (fun k I n=>k4 j o k n) (fun _=>some (-1)) ((j.length:Int):Int).toNat 0 ()
def jI (j:aW) (bus:Int):Option (Int):=(iY j.mh bus).bind fun o=>some o
def fO (j:aA) (o:aA):Option (aA):=(eI j.N o.D).bind fun I=>(eI o.N j.D).bind fun J=>(jy I J).bind fun R=>(eI j.D o.D).bind fun U=>(kH R U).bind fun GW=>some GW
def k7 (j:aA):Option (aA):=(jz j.N).bind fun o=>some (aA.mk o j.D)
def gM (j:aA) (o:aA):Option (aA):=(k7 o).bind fun I=>(fO j I).bind fun J=>some J
def qX (I:Nat) (J:(List aA)) (j:List Nat) (o:List (List aA)) (R:(List Nat×List (List aA))→Option ((List Nat×List (List aA)))):Option ((List Nat×List (List aA))):=dH ((([]:List aA).length+J.length)*64≤140737488355328) (idx j (I:Int) fun U=>R ((j.set (((I:Int):Int).toNat) o.length),(o++[([]:List aA)++J])))
def qu (o:(List (List aA))):Option ((List Nat×List (List aA))):=dH (0≤(o.length:Int)∧(o.length:Int)*24≤140737488355328) (eE (fun k y j n=>qX k y j.1 j.2 n) (fun j=>some (j.1,j.2)) 0 o ((List.replicate ((o.length:Int):Int).toNat 0),([[]])))
def cK (j:aA):Int:=(eH j.N)
def mq (j:aA) (o:aA):Option (aA):=(eI j.N o.D).bind fun I=>(eI j.D o.N).bind fun J=>(kH I J).bind fun R=>some R
def ly (J:Int) (j:(List Int×Int×List Nat×List (List aA))→Option ((List Nat×List (List aA))×(List Int))) (R:List Int) (o:List Nat) (I:List (List aA)):Option ((List Nat×List (List aA))×(List Int)):=j (R,i64.wrap (J+1),o,I)
def gY (j:List (List aA)→Option ((List Nat×List (List aA))×(List Int))) (o:List (List aA)):Option ((List Nat×List (List aA))×(List Int)):=j o
def ka (I:Int) (j:(Int×List (List aA))→Option ((List Nat×List (List aA))×(List Int))) (o:List (List aA)):Option ((List Nat×List (List aA))×(List Int)):=j (i64.wrap (I+1),o)
def lA (I:List Int) (J:List Nat) (R:Int) (U:Nat) (GW:Nat) (G0:List (List aA)→Option ((List Nat×List (List aA))×(List Int))) (GX:Nat) (G1:aA) (o:Int) (j:List (List aA)) (GZ:(Int×List (List aA))→Option ((List Nat×List (List aA))×(List Int))):Option ((List Nat×List (List aA))×(List Int)):=idx ((J.set (((I.length:Int):Int).toNat) U).set ((R:Int).toNat) GW) (GX:Int) fun G2=>if decide (o<(((j[G2]?).getD []).length:Int)) then (idx ((J.set (((I.length:Int):Int).toNat) U).set ((R:Int).toNat) GW) (I.length:Int) fun G3=>idx ((j[G3]?).getD []) o fun G4=>if !decide ((cK G4)=0) then (idx ((J.set (((I.length:Int):Int).toNat) U).set ((R:Int).toNat) GW) (GX:Int) fun GY=>idx ((J.set (((I.length:Int):Int).toNat) U).set ((R:Int).toNat) GW) (GX:Int) fun G5=>idx ((j[G5]?).getD []) o fun G6=>idx ((J.set (((I.length:Int):Int).toNat) U).set ((R:Int).toNat) GW) (I.length:Int) fun G7=>idx ((j[G7]?).getD []) o fun G8=>(jA G1 G8).bind fun G9=>(gM G6 G9).bind fun G_=>idx ((j[GY]?).getD []) o fun Ha=>ka o GZ (j.set GY (((j[GY]?).getD []).set ((o:Int).toNat) G_))) else (ka o GZ j)) else (gY G0 j)
def mM (o:List Int) (U:Int) (J:List Nat) (GW:Int) (GX:Nat) (GY:Nat) (I:Nat) (j:List (List aA)) (R:List (List aA)→Option ((List Nat×List (List aA))×(List Int))):Option ((List Nat×List (List aA))×(List Int)):=if decide ((I:Int)=(o.length:Int)) then (gY R j) else (idx ((J.set (((o.length:Int):Int).toNat) GX).set ((GW:Int).toNat) GY) (I:Int) fun G0=>idx ((j[G0]?).getD []) U fun G1=>if decide ((cK G1)=0) then (gY R j) else (idx ((J.set (((o.length:Int):Int).toNat) GX).set ((GW:Int).toNat) GY) (I:Int) fun G2=>idx ((j[G2]?).getD []) U fun G3=>fV (fun GZ n=>lA o J GW GX GY R I G3 GZ.1 GZ.2 n) eT (U,j)))
def lz (j:List Int) (GX:Int) (o:List Nat) (G0:(List Int×Int×List Nat×List (List aA))→Option ((List Nat×List (List aA))×(List Int))) (J:Int) (R:Nat) (U:Nat) (G2:aA) (GW:Int) (I:List (List aA)) (G1:(Int×List (List aA))→Option ((List Nat×List (List aA))×(List Int))):Option ((List Nat×List (List aA))×(List Int)):=idx ((o.set (((j.length:Int):Int).toNat) R).set ((J:Int).toNat) U) (j.length:Int) fun G3=>if decide (GW<(((I[G3]?).getD []).length:Int)) then (idx ((o.set (((j.length:Int):Int).toNat) R).set ((J:Int).toNat) U) (j.length:Int) fun GY=>idx ((o.set (((j.length:Int):Int).toNat) R).set ((J:Int).toNat) U) (j.length:Int) fun G4=>idx ((I[G4]?).getD []) GW fun G5=>(mq G5 G2).bind fun G6=>idx ((I[GY]?).getD []) GW fun G7=>G1 (i64.wrap (GW+1),(I.set GY (((I[GY]?).getD []).set ((GW:Int).toNat) G6)))) else (dH ((((o.set (((j.length:Int):Int).toNat) R).set ((J:Int).toNat) U).length:Int)≤9223372036854775807) (jH (fun k GZ n=>mM j GX o J R U k GZ n) (fun GZ=>dH ((j.length+([GX]:List Int).length)*8≤140737488355328) (ly GX G0 (j++([GX]:List Int)) ((o.set (((j.length:Int):Int).toNat) R).set ((J:Int).toNat) U) GZ)) ((((o.set (((j.length:Int):Int).toNat) R).set ((J:Int).toNat) U).length:Int):Int).toNat 0 I))
def lB (o:List Int) (J:Int) (j:List Nat) (R:List (List aA)) (GW:(List Int×Int×List Nat×List (List aA))→Option ((List Nat×List (List aA))×(List Int))) (I:Int):Option ((List Nat×List (List aA))×(List Int)):=if decide (I=(j.length:Int)) then (ly J GW o j R) else (idx j I fun U=>idx j (o.length:Int) fun GX=>idx j (o.length:Int) fun G1=>idx (j.set (((o.length:Int):Int).toNat) U) I fun G2=>idx ((j.set (((o.length:Int):Int).toNat) U).set ((I:Int).toNat) GX) (o.length:Int) fun GZ=>idx ((R[GZ]?).getD []) J fun G0=>fV (fun GY n=>lz o J j GW I U GX G0 GY.1 GY.2 n) eT (J,R))
def oB (U:List Int) (J:Int) (j:List Nat) (I:List (List aA)) (R:(List Int×Int×List Nat×List (List aA))→Option ((List Nat×List (List aA))×(List Int))) (o:Int) (GW:Int→Option ((List Nat×List (List aA))×(List Int))):Option ((List Nat×List (List aA))×(List Int)):=if decide (o<(j.length:Int)) then (idx j o fun GX=>idx ((I[GX]?).getD []) J fun GY=>if decide ((cK GY)=0) then (GW (i64.wrap (o+1))) else (lB U J j I R o)) else (lB U J j I R o)
def jZ (cols:Int) (j:List Int) (J:Int) (o:List Nat) (I:List (List aA)) (R:(List Int×Int×List Nat×List (List aA))→Option ((List Nat×List (List aA))×(List Int))):Option ((List Nat×List (List aA))×(List Int)):=if (decide (J<cols)) && (decide ((j.length:Int)<(o.length:Int))) then (fV (fun U n=>oB j J o I R U n) eT (j.length:Int)) else (some ((o,I),j))
def m_ (I:(List (List aA))) (cols:Int):Option ((List Nat×List (List aA))×(List Int)):=(qu I).bind fun o=>fV (fun j n=>jZ cols j.1 j.2.1 j.2.2.1 j.2.2.2 n) eT (([]:List Int),0,o.1,o.2)
def pb (R:(List (List aA))) (J:Nat) (j:List Nat) (I:List (List aA)) (U:(List Nat×List (List aA))→Option ((List (List aA))×Bool)):Option ((List (List aA))×Bool):=idx j (J:Int) fun o=>dH (0≤(R.length:Int)∧(R.length:Int)≤(((I[o]?).getD []).length:Int)) (idx j (J:Int) fun GW=>dH (lone j (((J:Int):Int).toNat) o=true) (U ((j.set (((J:Int):Int).toNat) o),(I.set o (((I[o]?).getD []).drop ((R.length:Int):Int).toNat)))))
def pa (R:(List (List aA))) (j:Nat) (J:List Nat) (o:List (List aA)) (GX:(List Nat×List (List aA))→Option ((List (List aA))×Bool)):Option ((List (List aA))×Bool):=idx R (j:Int) fun I=>dH ((([]:List aA).length+I.length)*64≤140737488355328) ((lI (R.length:Int)).bind fun U=>dH (((([]:List aA)++I).length+U.length)*64≤140737488355328) (idx J (j:Int) fun GZ=>idx (J.set (((j:Int):Int).toNat) o.length) (j:Int) fun GW=>(jP 1).bind fun GY=>idx (((o++[(([]:List aA)++I)++U])[GW]?).getD []) (i64.wrap ((R.length:Int)+(j:Int))) fun G0=>GX ((J.set (((j:Int):Int).toNat) o.length),((o++[(([]:List aA)++I)++U]).set GW ((((o++[(([]:List aA)++I)++U])[GW]?).getD []).set ((i64.wrap ((R.length:Int)+(j:Int)):Int).toNat) GY)))))
def mz (j:(List (List aA))):Option ((List (List aA))×Bool):=dH (0≤(j.length:Int)∧(j.length:Int)*24≤140737488355328) (jH (fun k o n=>pa j k o.1 o.2 n) (fun o=>(m_ (nB o.1 o.2) (j.length:Int)).bind fun I=>if decide ((I.2.length:Int)<(j.length:Int)) then (some ([],false)) else (dH ((I.1.1.length:Int)≤9223372036854775807) (jH (fun k J n=>pb j k J.1 J.2 n) (fun J=>some (nB J.1 J.2,true)) ((I.1.1.length:Int):Int).toNat 0 (I.1.1,I.1.2)))) ((j.length:Int):Int).toNat 0 ((List.replicate ((j.length:Int):Int).toNat 0),([[]])))
def eZ (j:List (List aA)→Option (aW)) (o:List (List aA)):Option (aW):=j o
def f_ (R:List Nat) (GX:List (List aA)→Option (aW)) (GY:aA) (J:(Int)) (o:(Int)) (j:List (List aA)):Option (aW):=if (decide (0≤J)) && (decide (0≤o)) then (idx R J fun I=>idx R o fun U=>idx R J fun GZ=>idx ((j[GZ]?).getD []) o fun G0=>(gM G0 GY).bind fun GW=>idx R o fun G1=>idx ((j[G1]?).getD []) J fun G2=>(gM G2 GY).bind fun G3=>idx ((j[I]?).getD []) o fun G4=>idx (((j.set I (((j[I]?).getD []).set ((o:Int).toNat) GW))[U]?).getD []) J fun G5=>eZ GX ((j.set I (((j[I]?).getD []).set ((o:Int).toNat) GW)).set U ((((j.set I (((j[I]?).getD []).set ((o:Int).toNat) GW))[U]?).getD []).set ((J:Int).toNat) G3))) else (eZ GX j)
def gA (I:List Nat) (U:List (List aA)→Option (aW)) (J:aA) (GW:(Int)) (j:(Int)) (o:List (List aA)):Option (aW):=if decide (0≤j) then (idx I j fun R=>idx I j fun GX=>idx ((o[GX]?).getD []) j fun GY=>(fO GY J).bind fun GZ=>idx ((o[R]?).getD []) j fun G0=>f_ I U J GW j (o.set R (((o[R]?).getD []).set ((j:Int).toNat) GZ))) else (f_ I U J GW j o)
def iK (I:aW) (J:List Nat) (GX:Nat) (U:aA) (o:List (List aA)) (R:List (List aA)→Option (aW)):Option (aW):=idx I.jB (GX:Int) fun GZ=>(jI I GZ).bind fun j=>idx I.To (GX:Int) fun G0=>(jI I G0).bind fun GY=>idx I.jB (GX:Int) fun G1=>idx I.To (GX:Int) fun G2=>if decide (G1=G2) then (eZ R o) else (if decide (0≤j) then (idx J j fun GW=>idx J j fun G3=>idx ((o[G3]?).getD []) j fun G4=>(fO G4 U).bind fun G5=>idx ((o[GW]?).getD []) j fun G6=>gA J R U j GY (o.set GW (((o[GW]?).getD []).set ((j:Int).toNat) G5))) else (gA J R U j GY o))
def mf (R:aW) (I:Nat) (j:List Nat) (o:List (List aA)) (J:(List Nat×List (List aA))→Option (aW)):Option (aW):=(lI (R.mh.length:Int)).bind fun U=>idx j (I:Int) fun GW=>J ((j.set (((I:Int):Int).toNat) o.length),(o++[U]))
def kv (j:aW):Option (aW):=dH (0≤(j.mh.length:Int)∧(j.mh.length:Int)*24≤140737488355328) (dH (((List.replicate ((j.mh.length:Int):Int).toNat 0).length:Int)≤9223372036854775807) (jH (fun k o n=>mf j k o.1 o.2 n) (fun o=>eE (fun k y I n=>iK j o.1 k y I n) (fun I=>(mz (nB o.1 I)).bind fun J=>some (aW.mk j.qV j.jB j.To j.B_ j.C j.mh J.1)) 0 j.B_ o.2) (((List.replicate ((j.mh.length:Int):Int).toNat 0).length:Int):Int).toNat 0 ((List.replicate ((j.mh.length:Int):Int).toNat 0),([[]]))))
def mY (o:(List (Int×Bool))) (j:((List (Int×Bool))×List Int)→Option ((Option aW))) (I:Int) (J:List Int):Option ((Option aW)):=j ((qF o I true),J)
def rB (R:Nat) (j:Int) (o:(List (Int×Bool))) (I:List Int) (J:((List (Int×Bool))×List Int)→Option ((Option aW))):Option ((Option aW)):=if (nA o j).getD false then (dH ((I.length+([((R:Int))]:List Int).length)*8≤140737488355328) (mY o J j (I++([((R:Int))]:List Int)))) else (mY o J j I)
def rA (I:aC) (J:(aV)) (G5:Nat) (j:bH) (R:List Int) (U:List Int) (GW:List aA) (GX:List aA) (G1:(List Int×List Int×List aA×List aA)→Option ((Option aW))):Option ((Option aW)):=(bE I.bJ j.jB).bind fun G2=>idx J.kC G2 fun GY=>dH ((R.length+([GY]:List Int).length)*8≤140737488355328) ((bE I.bJ j.To).bind fun G3=>idx J.kC G3 fun GZ=>dH ((U.length+([GZ]:List Int).length)*8≤140737488355328) ((mZ 1000000 (i64.wrap (j.X*j.rL))).bind fun o=>dH ((GW.length+([o]).length)*64≤140737488355328) ((mZ (i64.wrap (0-j.Shift)) 1000).bind fun G4=>(jA o G4).bind fun G0=>dH ((GX.length+([G0]).length)*64≤140737488355328) (G1 ((R++([GY]:List Int)),(U++([GZ]:List Int)),(GW++([o])),(GX++([G0])))))))
def p8 (I:aC):Option ((Option aW)):=(dE I).bind fun J=>eE (fun k y j n=>rA I J k y j.1 j.2.1 j.2.2.1 j.2.2.2 n) (fun j=>eE (fun k y o n=>rB k y o.1 o.2 n) (fun o=>(kv (aW.mk J j.1 j.2.1 j.2.2.1 j.2.2.2 o.2 [])).bind fun R=>some (some R)) 0 J.bA (([]:(List (Int×Bool))),([]:List Int))) 0 I.aN (([]:List Int),([]:List Int),([]:List aA),([]:List aA))
def dV (j:aW):Int:=(j.qV.bA.length:Int)
def mR (R:Nat) (J:Int) (j:List aA) (I:List aA→Option ((List aA))):Option ((List aA)):=(jP J).bind fun o=>dH ((j.length+([o]).length)*64≤140737488355328) (I (j++([o])))
def mQ (J:aW) (R:Nat) (U:Int) (j:List Int) (I:List Int→Option ((List aA))):Option ((List aA)):=idx J.qV.kC (R:Int) fun o=>idx j o fun GW=>idx j o fun GX=>I (j.set ((o:Int).toNat) (i64.wrap (GW+U)))
def lg (j:aW) (inject:(List Int)):Option ((List aA)):=dH (0≤(dV j)∧(dV j)*8≤140737488355328) (eE (fun k y o n=>mQ j k y o n) (fun o=>eE (fun k y I n=>mR k y I n) (fun I=>some I) 0 o ([]:List aA)) 0 inject (List.replicate ((dV j):Int).toNat (0:Int)))
def jQ (j:(Bool×(List bI)×Bool×(List bI))→Option (aA)) (o:Bool) (I:(List bI)) (J:Bool) (R:(List bI)):Option (aA):=j (o,I,J,R)
def qk (GX:(List aA)) (GY:(List aA)) (o:Nat) (J:Bool) (R:(List bI)) (U:Bool) (GW:(List bI)) (j:(Bool×(List bI)×Bool×(List bI))→Option (aA)):Option (aA):=idx GX (o:Int) fun GZ=>if decide ((cK GZ)=0) then (jQ j J R U GW) else (idx GY (o:Int) fun G0=>if !decide ((cK G0)=0) then (idx GX (o:Int) fun G1=>idx GY (o:Int) fun G2=>(jA G1 G2).bind fun G3=>(fO (aA.mk (aB.mk J R) (aB.mk U GW)) G3).bind fun I=>jQ j I.N.minus I.N.words I.D.minus I.D.words) else (jQ j J R U GW))
def pD (I:(List aA)) (J:(List aA)):Option (aA):=(jP 0).bind fun o=>jH (fun k j n=>qk I J k j.1 j.2.1 j.2.2.1 j.2.2.2 n) (fun j=>some (aA.mk (aB.mk j.1 j.2.1) (aB.mk j.2.2.1 j.2.2.2))) ((I.length:Int):Int).toNat 0 (o.N.minus,o.N.words,o.D.minus,o.D.words)
def me (J:aW) (R:List aA) (U:Nat) (j:Int) (o:List aA) (I:List aA→Option ((List aA))):Option ((List aA)):=idx J.mX (U:Int) fun GW=>(pD GW R).bind fun GX=>idx o j fun GY=>I (o.set ((j:Int).toNat) GX)
def mc (J:(List aA)) (j:Nat) (R:Int) (o:List aA) (I:List aA→Option ((List aA))):Option ((List aA)):=idx J R fun U=>idx o (j:Int) fun GW=>I (o.set (((j:Int):Int).toNat) U)
def ku (j:aW) (J:(List aA)):Option ((List aA)):=dH (0≤(j.mh.length:Int)∧(j.mh.length:Int)*64≤140737488355328) (eE (fun k y o n=>mc J k y o n) (fun o=>(lI (dV j)).bind fun R=>eE (fun k y I n=>me j o k y I n) (fun I=>some I) 0 j.mh R) 0 j.mh (List.replicate ((j.mh.length:Int):Int).toNat ((aA.mk (aB.mk false []) (aB.mk false [])):aA)))
def kF (o:aW) (I:Nat) (U:aA) (j:List aA) (GX:List aA→Option ((List aA))):Option ((List aA)):=idx o.jB (I:Int) fun J=>idx o.jB (I:Int) fun GY=>idx j GY fun GZ=>(gM GZ U).bind fun R=>idx j J fun G3=>idx o.To (I:Int) fun GW=>idx o.To (I:Int) fun G0=>idx (j.set ((J:Int).toNat) R) G0 fun G1=>(fO G1 U).bind fun G2=>idx (j.set ((J:Int).toNat) R) GW fun G4=>GX ((j.set ((J:Int).toNat) R).set ((GW:Int).toNat) G2)
def kt (j:aW) (I:(List aA)):Option ((List aA)):=dH (I.length*64≤140737488355328) (eE (fun k y o n=>kF j k y o n) (fun o=>(ku j o).bind fun J=>some J) 0 j.C I)
def i_ (n291:Int) (I:(Int×List U8)→Option (ByteArray×Bool)) (j:bI) (o:List U8):Option (ByteArray×Bool):=dH (o.length+(ov (u64.wrap (j.n))).size≤140737488355328) (I (i64.wrap (n291-1),(o++iH (ov (u64.wrap (j.n))))))
def jt (j:List U8) (o:ByteArray):Option (ByteArray×Bool):=some (o,(decide (((te j).size:Int)≤2000)))
def lO (R:aB) (J:List bI) (n291:Int) (j:List U8) (I:(Int×List U8)→Option (ByteArray×Bool)):Option (ByteArray×Bool):=if decide (0≤n291) then (idx J n291 fun o=>dH (0≤(u64.wrap (o.n))∧(u64.wrap (o.n))≤18446744073709551615) (if decide (n291<(i64.wrap ((J.length:Int)-1))) then (dH (0≤((ov (u64.wrap (o.n))).size:Int)∧((ov (u64.wrap (o.n))).size:Int)≤((⟨#[48,48,48,48,48,48,48,48,48]⟩:ByteArray).size:Int)) (dH (j.length+((⟨#[48,48,48,48,48,48,48,48,48]⟩:ByteArray).extract ((((ov (u64.wrap (o.n))).size:Int):Int).toNat) ((⟨#[48,48,48,48,48,48,48,48,48]⟩:ByteArray).size)).size≤140737488355328) (i_ n291 I o (j++iH ((⟨#[48,48,48,48,48,48,48,48,48]⟩:ByteArray).extract ((((ov (u64.wrap (o.n))).size:Int):Int).toNat) ((⟨#[48,48,48,48,48,48,48,48,48]⟩:ByteArray).size)))))) else (i_ n291 I o j))) else (dH (0<j.length) (if R.minus then (dH ((⟨#[45]⟩:ByteArray).size+(te j).size≤maxLen) (jt j ((⟨#[45]⟩:ByteArray)++(te j)))) else (jt j (te j))))
def nj (U:aB) (j:List bI) (I:(List bI)) (R:(List bI×(List bI))→Option (ByteArray×Bool)):Option (ByteArray×Bool):=if decide (0<(I.length:Int)) then ((kM I 1000000000).bind fun o=>dH ((j.length+([⟨o.2⟩]:List bI).length)*4≤140737488355328) ((fW false o.1).bind fun GW=>R ((j++([⟨o.2⟩]:List bI)),GW.words))) else (fV (fun J n=>lO U j J.1 J.2 n) eT (i64.wrap ((j.length:Int)-1),([]:List U8)))
def iM (j:aB):Option (ByteArray×Bool):=if decide ((j.words.length:Int)=0) then (some ((⟨#[48]⟩),true)) else (if decide (210<(j.words.length:Int)) then (some ((⟨#[]⟩),false)) else (fV (fun o n=>nj j o.1 o.2 n) eT (([]:List bI),j.words)))
def lR (I:aA):Option (ByteArray×Bool):=(iM I.N).bind fun j=>if !j.2 then (some ((⟨#[]⟩),false)) else ((iM I.D).bind fun o=>if decide (o.1=(⟨#[49]⟩)) then (some (j.1,o.2)) else (dH (j.1.size+(⟨#[47]⟩:ByteArray).size≤maxLen) (dH ((j.1++(⟨#[47]⟩)).size+o.1.size≤maxLen) (some (((j.1++(⟨#[47]⟩))++o.1),o.2)))))
def o_ (j:Nat) (R:aA) (o:List ByteArray) (J:List ByteArray→Option ((List ByteArray)×Bool)):Option ((List ByteArray)×Bool):=(lR R).bind fun I=>if !I.2 then (some (([]:List ByteArray),false)) else (idx o (j:Int) fun U=>J (o.set (((j:Int):Int).toNat) I.1))
def po (j:(List aA)):Option ((List ByteArray)×Bool):=dH (0≤(j.length:Int)∧(j.length:Int)*16≤140737488355328) (eE (fun k y o n=>o_ k y o n) (fun o=>some (o,true)) 0 j (List.replicate ((j.length:Int):Int).toNat ((⟨#[]⟩):ByteArray)))
def kO (o:(List aA)):Option ((List ByteArray)×Int):=(po o).bind fun j=>if !j.2 then (some (([]:List ByteArray),2)) else (some (j.1,0))
def mB (j:aW) (I:(List aA)) (o:Nat) (GW:aA) (J:List aA) (U:List aA→Option ((List aA))):Option ((List aA)):=idx j.B_ (o:Int) fun GX=>idx j.jB (o:Int) fun GY=>idx I GY fun GZ=>idx j.To (o:Int) fun G0=>idx I G0 fun G1=>(gM GZ G1).bind fun G2=>(jA GX G2).bind fun G3=>(fO G3 GW).bind fun R=>dH ((J.length+([R]).length)*64≤140737488355328) (U (J++([R])))
def kR (o:aW) (I:(List aA)):Option ((List aA)):=eE (fun k y j n=>mB o I k y j n) (fun j=>some j) 0 o.C ([]:List aA)
def lh (j:aC) (inject:(List Int)):Option (eM×Int):=(kE j inject).bind fun o=>if !decide (o=0) then (some ((eM.mk ([]:List ByteArray) ([]:List ByteArray)),o)) else ((p8 j).bind fun U=>Bx U none (fun sp108=>(lg sp108 inject).bind fun GW=>(kt sp108 GW).bind fun I=>(kO I).bind fun J=>(kR sp108 I).bind fun GX=>(kO GX).bind fun R=>if (!decide (J.2=0)) || (!decide (R.2=0)) then (some ((eM.mk ([]:List ByteArray) ([]:List ByteArray)),2)) else (some ((eM.mk J.1 R.1),0))))
def eN (j:ByteArray) (o:Int):Int:=(FA j o)
def fN (j:ByteArray) (substr:ByteArray):Option (Int):=if (decide ((substr.size:Int)=0)) || (decide (substr=j)) then (some 0) else (if decide ((substr.size:Int)=1) then (idx (iH substr) 0 fun o=>some (eN j o.n)) else (if decide ((j.size:Int)≤(substr.size:Int)) then (some (-1)) else none))
def gE (j:ByteArray) (sep:ByteArray):Option (ByteArray×ByteArray×Bool):=(fN j sep).bind fun o=>if decide (0≤o) then (dH (0≤o∧o≤(j.size:Int)) (dH (0≤(i64.wrap (o+(sep.size:Int)))∧(i64.wrap (o+(sep.size:Int)))≤(j.size:Int)) (some ((j.extract 0 ((o:Int).toNat)),(j.extract ((i64.wrap (o+(sep.size:Int)):Int).toNat) j.size),true)))) else (some (j,(⟨#[]⟩),false))
def kI (o:ByteArray) (sep:ByteArray):Option (ByteArray×ByteArray×Bool):=(gE o sep).bind fun j=>some (j.1,j.2.1,j.2.2)
def dU (o:ByteArray) (j:ByteArray):Option (Bool):=if decide ((j.size:Int)≤(o.size:Int)) then (dH (0≤(j.size:Int)∧(j.size:Int)≤(o.size:Int)) (some (decide ((o.extract 0 (((j.size:Int):Int).toNat))=j)))) else (some false)
def kB (o:ByteArray) (j:ByteArray):Option (Bool):=(dU o j).bind fun I=>some I
def fR (o:ByteArray) (j:ByteArray):Option (ByteArray):=(dU o j).bind fun I=>if I then (dH (0≤(j.size:Int)∧(j.size:Int)≤(o.size:Int)) (some (o.extract (((j.size:Int):Int).toNat) o.size))) else (some o)
def iR (o:ByteArray) (j:ByteArray):Option (ByteArray):=(fR o j).bind fun I=>some I
def nM (o:(Bool)) (I:Bool) (j:(List bI)):Option (aB):=if o then (some (aB.mk (decide (0<(j.length:Int))) j)) else (some (aB.mk false j))
def pI (U:(Bool)) (j:ByteArray) (o:Bool) (I:(List bI)) (R:(ByteArray×Bool×(List bI))→Option (aB)):Option (aB):=if decide (0<(j.size:Int)) then (dH (0≤(i64.wrap ((Int.tmod (i64.wrap ((j.size:Int)-1)) 9)+1))∧(i64.wrap ((Int.tmod (i64.wrap ((j.size:Int)-1)) 9)+1))≤(j.size:Int)) (dH ((j.extract 0 ((i64.wrap ((Int.tmod (i64.wrap ((j.size:Int)-1)) 9)+1):Int).toNat)).size≠0∧(j.extract 0 ((i64.wrap ((Int.tmod (i64.wrap ((j.size:Int)-1)) 9)+1):Int).toNat)).size≤281474976710656∧(Dj (j.extract 0 ((i64.wrap ((Int.tmod (i64.wrap ((j.size:Int)-1)) 9)+1):Int).toNat))).2=false) ((ki 1000000000).bind fun GW=>(eI (aB.mk o I) GW).bind fun GX=>(ki (i64.wrap ((Dj (j.extract 0 ((i64.wrap ((Int.tmod (i64.wrap ((j.size:Int)-1)) 9)+1):Int).toNat))).1))).bind fun GY=>(jy GX GY).bind fun J=>dH (0≤(i64.wrap ((Int.tmod (i64.wrap ((j.size:Int)-1)) 9)+1))∧(i64.wrap ((Int.tmod (i64.wrap ((j.size:Int)-1)) 9)+1))≤(j.size:Int)) (R (j.extract ((i64.wrap ((Int.tmod (i64.wrap ((j.size:Int)-1)) 9)+1):Int).toNat) j.size,J.minus,J.words))))) else (nM U o I)
def iW (o:ByteArray):Option (aB):=(kB o (⟨#[45]⟩)).bind fun I=>(iR o (⟨#[45]⟩)).bind fun J=>fV (fun j n=>pI I j.1 j.2.1 j.2.2 n) eT (J,false,[])
def nJ (o:ByteArray):Option (aA):=(kI o (⟨#[47]⟩)).bind fun j=>if !j.2.2 then ((iW j.1).bind fun I=>(ki 1).bind fun J=>some (aA.mk I J)) else ((iW j.1).bind fun R=>(iW j.2.1).bind fun U=>some (aA.mk R U))
def mn (j:aA):Option (aA):=if decide ((cK j)<0) then ((k7 j).bind fun o=>some o) else (some j)
def nK (j:aB) (o:aB):Option (Int):=(k6 j o).bind fun I=>some (eH I)
def mo (j:aA) (o:aA):Option (Int):=(eI j.N o.D).bind fun I=>(eI o.N j.D).bind fun J=>(nK I J).bind fun R=>some R
def lD (j:List ByteArray→Option ((List ByteArray))) (o:List ByteArray):Option ((List ByteArray)):=j o
def oF (flows:(List ByteArray)) (J:Nat) (j:bH) (o:List ByteArray) (I:List ByteArray→Option ((List ByteArray))):Option ((List ByteArray)):=idx flows (J:Int) fun R=>(nJ R).bind fun U=>(mn U).bind fun GW=>(jP j.kr).bind fun GX=>(mo GW GX).bind fun GY=>if decide (0<GY) then (dH ((o.length+([j.Name]).length)*16≤140737488355328) (lD I (o++([j.Name])))) else (lD I o)
def mT (o:aC) (flows:(List ByteArray)):Option ((List ByteArray)):=eE (fun k y j n=>oF flows k y j n) (fun j=>some j) 0 o.aN ([]:List ByteArray)
def gO (o:aC):Option (eM×(List ByteArray)×Int):=(iL o).bind fun I=>if !decide (I.2=0) then (some ((eM.mk ([]:List ByteArray) ([]:List ByteArray)),([]:List ByteArray),I.2)) else ((lh o I.1).bind fun j=>if !decide (j.2=0) then (some ((eM.mk ([]:List ByteArray) ([]:List ByteArray)),([]:List ByteArray),j.2)) else ((mT o j.1.mD).bind fun J=>some (j.1,J,0)))
def eJ (I:aC) (on:(List ByteArray)):Option (eM×(List ByteArray)×Int):=(kU I on).bind fun j=>if !decide (j.2=0) then (some ((eM.mk ([]:List ByteArray) ([]:List ByteArray)),([]:List ByteArray),j.2)) else ((gO j.1).bind fun o=>some (o.1,o.2.1,o.2.2))
def iZ:aC:=(aC.mk ([(⟨#[65]⟩),(⟨#[66]⟩)]) ([(cE.mk (⟨#[83]⟩) (⟨#[65]⟩) (⟨#[66]⟩) false true)]) ([(bH.mk (⟨#[76]⟩) (⟨#[65]⟩) (⟨#[66]⟩) 1000 1000 0 40 60 10)]) ([(cP.mk (⟨#[71]⟩) (⟨#[65]⟩) 10 50 0)]) ([(aK.mk (⟨#[68]⟩) (⟨#[66]⟩) 30)]) ([]:List dC))
def iF (o:aC):Option (Int):=(gO o).bind fun j=>if (decide (j.2.2=0)) && (decide (0<(j.2.1.length:Int))) then (some 17) else (some j.2.2)
def kX (j:Unit→Option ((List ByteArray)×Bool)):Option ((List ByteArray)×Bool):=j ()
def oO (self:aC→(List ByteArray)→Option ((List ByteArray)×Bool)) (R:aC) (j:(List ByteArray)) (GW:Nat) (o:aK) (I:Unit→Option ((List ByteArray)×Bool)):Option ((List ByteArray)×Bool):=(bU j o.Name).bind fun U=>if U then (kX I) else (dH (0≤(j.length:Int)∧(j.length:Int)≤(j.length:Int)) (dH (((lK j 0 (((j.length:Int):Int).toNat)).length+([o.Name]).length)*16≤140737488355328) ((self R ((lK j 0 (((j.length:Int):Int).toNat))++([o.Name]))).bind fun J=>if J.2 then (some (J.1,true)) else (kX I))))
def lU (self:aC→(List ByteArray)→Option ((List ByteArray)×Bool)) (j:aC) (o:(List ByteArray)):Option ((List ByteArray)×Bool):=(kV j o).bind fun I=>(iF I).bind fun J=>if !decide (J=0) then (some ([],false)) else (if decide ((o.length:Int)=(j.bK.length:Int)) then (some (o,true)) else (eE (fun k y R n=>oO self j o k y n) (fun _=>some ([],false)) 0 j.bK ()))
def kc:Nat→aC→(List ByteArray)→Option ((List ByteArray)×Bool)
 | 0=>fun _ _=>none
 | n+1=>lU (kc n)
def qy (j:aC) (o:(List ByteArray)):Option ((List ByteArray)×Bool):=kc eT j o
def qx (j:aC):Option ((List ByteArray)×Int):=(cG j).bind fun o=>if !decide (o=0) then (some ([],o)) else (if decide (5<(j.bK.length:Int)) then (some ([],2)) else ((qy j []).bind fun I=>if !I.2 then (some ([],8)) else (some (I.1,0))))
def lJ (o:(List ByteArray)) (I:(List ByteArray)) (j:Nat) (J:Unit→Option (Bool)):Option (Bool):=idx o (j:Int) fun R=>idx I (j:Int) fun U=>if !decide (R=U) then (some false) else (J ())
def kn (j:(List ByteArray)) (o:(List ByteArray)):Option (Bool):=if !decide ((j.length:Int)=(o.length:Int)) then (some false) else (jH (fun k I n=>lJ j o k n) (fun _=>some true) ((j.length:Int):Int).toNat 0 ())
def eA:Option (Bool):=(eJ ((iZ)) ([(⟨#[68]⟩)])).bind fun j=>(qx ((iZ))).bind fun o=>if decide (j.2.2=0) then (if decide (o.2=0) then (if decide ((j.2.1.length:Int)=0) then (if decide ((j.1.mD.length:Int)=1) then (idx j.1.mD 0 fun I=>if decide (I=(⟨#[51,48]⟩)) then ((kn o.1 ([(⟨#[68]⟩)])).bind fun J=>some J) else (some false)) else (some false)) else (some false)) else (some false)) else (some false)
def sq (I:Nat) (j:U8) (o:Unit→Option (Int)):Option (Int):=if (decide (j.n<48)) || (decide (57<j.n)) then (some 5) else (o ())
def oa (j:ByteArray):Option (Int):=dH (j.size≤maxLen) (eE (fun k y I n=>sq k y n) (fun _=>if decide (j=(⟨#[]⟩)) then (some 5) else (if decide (1<(j.size:Int)) then (idx (iH j) 0 fun o=>if decide (o.n=48) then (some 5) else (if decide (2000<(j.size:Int)) then (some 2) else (some 0))) else (if decide (2000<(j.size:Int)) then (some 2) else (some 0)))) 0 (iH j) ())
def tP (I:ByteArray) (J:ByteArray) (R:Nat) (o:Unit→Option (aB×aB×Int)):Option (aB×aB×Int):=idx [I,J] (R:Int) fun U=>(oa U).bind fun j=>if !decide (j=0) then (some ((aB.mk false []),(aB.mk false []),j)) else (o ())
def ur (j:ByteArray) (o:ByteArray):Option (aB×aB×Int):=jH (fun k R n=>tP j o k n) (fun _=>(iW j).bind fun I=>(iW o).bind fun J=>some (I,J,0)) (2:Int).toNat 0 ()
def vP (o:aB):Option (ByteArray×Int):=(iM o).bind fun j=>if !j.2 then (some ((⟨#[]⟩),2)) else (some (j.1,0))
def uq (I:ByteArray) (J:ByteArray):Option (ByteArray×Int):=(ur I J).bind fun j=>if !decide (j.2.2=0) then (some ((⟨#[]⟩),j.2.2)) else ((l8 j.1 j.2.1).bind fun R=>(vP R).bind fun o=>some (o.1,o.2))
def sr:Option (Int):=some 0
def lT (I:ByteArray) (J:(ByteArray)) (j:(ByteArray×ByteArray×Bool)) (o:(Int)) (n110:Int):Option (Int):=if ((decide (o=5)) || (decide (n110=5))) || ((decide (j.1=(⟨#[48]⟩))) && (decide ((J.size:Int)<(I.size:Int)))) then (some 5) else (if (!decide (o=0)) || (!decide (n110=0)) then (some 2) else (if j.2.2 then ((uq j.1 j.2.1).bind fun R=>if ((decide (j.2.1=(⟨#[48]⟩))) || (decide (j.2.1=(⟨#[49]⟩)))) || (!decide (R.1=(⟨#[49]⟩))) then (some 3) else sr) else sr))
def ob (o:ByteArray):Option (Int):=(iR o (⟨#[45]⟩)).bind fun I=>(kI I (⟨#[47]⟩)).bind fun j=>(oa j.1).bind fun J=>if j.2.2 then ((oa j.2.1).bind fun R=>lT o I j J R) else (lT o I j J 0)
def qQ (J:Nat) (I:ByteArray) (o:Unit→Option (Int)):Option (Int):=(ob I).bind fun j=>if !decide (j=0) then (some j) else (o ())
def qw (j:(List ByteArray)):Option (Int):=eE (fun k y o n=>qQ k y n) (fun _=>some 0) 0 j ()
def oC (j:(List ByteArray)):Option (Int):=if decide (40<(j.length:Int)) then (some 2) else ((qw j).bind fun o=>some o)
def kY (o:(List ByteArray)) (I:(List ByteArray)) (j:Nat) (J:Unit→Option (Bool)):Option (Bool):=idx o (j:Int) fun R=>idx I (j:Int) fun U=>if !decide (R=U) then (some false) else (J ())
def gT (j:(List ByteArray)) (o:(List ByteArray)):Option (Bool):=if !decide ((j.length:Int)=(o.length:Int)) then (some false) else (jH (fun k I n=>kY j o k n) (fun _=>some true) ((j.length:Int):Int).toNat 0 ())
def rj (J:Nat) (I:(List ByteArray)) (o:Unit→Option (Int)):Option (Int):=(oC I).bind fun j=>if !decide (j=0) then (some j) else (o ())
def qW (o:aC) (inject:(List Int)) (j:eM):Option (Int):=(kE o inject).bind fun J=>if !decide (J=0) then (some J) else ((p8 o).bind fun R=>Bx R none (fun sp108=>if decide ((j.nh.length:Int)=(dV sp108)) then (if !decide ((j.mD.length:Int)=(o.aN.length:Int)) then (some 3) else (eE (fun k y GX n=>rj k y n) (fun _=>(lh o inject).bind fun I=>if decide (I.2=0) then ((gT I.1.nh j.nh).bind fun U=>if U then ((gT I.1.mD j.mD).bind fun GW=>if !GW then (some 21) else (some 0)) else (some 21)) else (some 21)) 0 ([j.nh,j.mD]) ())) else (some 3)))
def gJ (o:ByteArray) (j:(List ByteArray)):Option (Bool):=(bU j o).bind fun I=>some I
def fM (J:(List ByteArray)) (j:(List ByteArray)) (o:Nat) (I:Unit→Option (Int)):Option (Int):=idx J (o:Int) fun R=>(gJ R j).bind fun U=>if U then (some (o:Int)) else (I ())
def eC (o:(List ByteArray)) (j:(List ByteArray)):Option (Int):=jH (fun k I n=>fM o j k n) (fun _=>some (-1)) ((o.length:Int):Int).toNat 0 ()
def cV (n195:Int) (j:(List ByteArray×Int×Int)→Option ((List ByteArray))) (o:List ByteArray) (n227:Int):Option ((List ByteArray)):=j (o,n227,i64.wrap (n195+1))
def fH (del_0:(List ByteArray)) (j:List ByteArray) (n194:Int) (n195:Int) (o:(List ByteArray×Int×Int)→Option ((List ByteArray))):Option ((List ByteArray)):=if decide (n195<(j.length:Int)) then (idx j n195 fun I=>(gJ I del_0).bind fun J=>if !J then (idx j n194 fun R=>cV n195 o (j.set ((n194:Int).toNat) I) (i64.wrap (n194+1))) else (cV n195 o j n194)) else (dH (0≤n194∧n194≤(j.length:Int)) (dH (0≤n194∧n194≤((j.take (n194).toNat++List.replicate (j.length-(n194).toNat) ((⟨#[]⟩):ByteArray)).length:Int)) (some (lK (j.take (n194).toNat++List.replicate (j.length-(n194).toNat) ((⟨#[]⟩):ByteArray)) 0 ((n194:Int).toNat)))))
def dA (j:(List ByteArray)) (del_0:(List ByteArray)):Option ((List ByteArray)):=(eC j del_0).bind fun o=>if decide (o=(-1)) then (some j) else (fV (fun I n=>fH del_0 I.1 I.2.1 I.2.2 n) eT (j,o,i64.wrap (o+1)))
def kT (off:(List ByteArray)) (j:(List ByteArray)) (o:aC):Option (Bool):=dH (j.length*16≤140737488355328) ((dA j off).bind fun I=>(kV o I).bind fun J=>(iF J).bind fun R=>some (decide (R=0)))
def gK (self:(List ByteArray)→(List ByteArray)→Int→Int→(List ByteArray)→aC→Option ((List ByteArray)×Bool)) (names:(List ByteArray)) (off:(List ByteArray)) (many:Int) (accept_0:(List ByteArray)) (accept_1:aC) (n257:Int) (I:Int→Option ((List ByteArray)×Bool)):Option ((List ByteArray)×Bool):=if decide (n257<(names.length:Int)) then (dH (0≤(off.length:Int)∧(off.length:Int)≤(off.length:Int)) (idx names n257 fun j=>dH (((lK off 0 (((off.length:Int):Int).toNat)).length+([j]).length)*16≤140737488355328) ((self names ((lK off 0 (((off.length:Int):Int).toNat))++([j])) (i64.wrap (n257+1)) (i64.wrap (many-1)) accept_0 accept_1).bind fun o=>if o.2 then (some (o.1,true)) else (I (i64.wrap (n257+1)))))) else (some (([]:List ByteArray),false))
def dK (self:(List ByteArray)→(List ByteArray)→Int→Int→(List ByteArray)→aC→Option ((List ByteArray)×Bool)) (names:(List ByteArray)) (off:(List ByteArray)) (j:Int) (many:Int) (accept_0:(List ByteArray)) (accept_1:aC):Option ((List ByteArray)×Bool):=if decide (many=0) then ((kT off accept_0 accept_1).bind fun o=>some (off,o)) else (fV (fun I n=>gK self names off many accept_0 accept_1 I n) eT j)
def cX:Nat→(List ByteArray)→(List ByteArray)→Int→Int→(List ByteArray)→aC→Option ((List ByteArray)×Bool)
 | 0=>fun _ _ _ _ _ _=>none
 | n+1=>dK (cX n)
def iB (names:(List ByteArray)) (off:(List ByteArray)) (j:Int) (many:Int) (accept_0:(List ByteArray)) (accept_1:aC):Option ((List ByteArray)×Bool):=cX eT names off j many accept_0 accept_1
def kA (j:List ByteArray→Option ((List ByteArray)×Int)) (o:List ByteArray):Option ((List ByteArray)×Int):=j o
def ny (J:aC) (j:List ByteArray) (n272:Int) (I:Int→Option ((List ByteArray)×Int)):Option ((List ByteArray)×Int):=if decide (n272≤(j.length:Int)) then ((iB j ([]:List ByteArray) 0 n272 j J).bind fun o=>if o.2 then (some (o.1,0)) else (I (i64.wrap (n272+1)))) else (some (([]:List ByteArray),8))
def nt (on:(List ByteArray)) (R:Nat) (j:aK) (o:List ByteArray) (I:List ByteArray→Option ((List ByteArray)×Int)):Option ((List ByteArray)×Int):=(bU on j.Name).bind fun J=>if J then (dH ((o.length+([j.Name]).length)*16≤140737488355328) (kA I (o++([j.Name])))) else (kA I o)
def gS (j:aC) (on:(List ByteArray)):Option ((List ByteArray)×Int):=(dW j on).bind fun I=>if !decide (I=0) then (some (([]:List ByteArray),I)) else (if decide (5<(on.length:Int)) then (some (([]:List ByteArray),2)) else (eE (fun k y o n=>nt on k y o n) (fun o=>fV (fun J n=>ny j o J n) eT 0) 0 j.bK ([]:List ByteArray)))
def dQ (o:ByteArray) (j:(List ByteArray)):Option (Bool):=(bU j o).bind fun I=>some I
def eG (J:(List ByteArray)) (j:(List ByteArray)) (o:Nat) (I:Unit→Option (Int)):Option (Int):=idx J (o:Int) fun R=>(dQ R j).bind fun U=>if U then (some (o:Int)) else (I ())
def dD (o:(List ByteArray)) (j:(List ByteArray)):Option (Int):=jH (fun k I n=>eG o j k n) (fun _=>some (-1)) ((o.length:Int):Int).toNat 0 ()
def cC (n195:Int) (j:(List ByteArray×Int×Int)→Option ((List ByteArray))) (o:List ByteArray) (n227:Int):Option ((List ByteArray)):=j (o,n227,i64.wrap (n195+1))
def d_ (del_0:(List ByteArray)) (j:List ByteArray) (n194:Int) (n195:Int) (o:(List ByteArray×Int×Int)→Option ((List ByteArray))):Option ((List ByteArray)):=if decide (n195<(j.length:Int)) then (idx j n195 fun I=>(dQ I del_0).bind fun J=>if !J then (idx j n194 fun R=>cC n195 o (j.set ((n194:Int).toNat) I) (i64.wrap (n194+1))) else (cC n195 o j n194)) else (dH (0≤n194∧n194≤(j.length:Int)) (dH (0≤n194∧n194≤((j.take (n194).toNat++List.replicate (j.length-(n194).toNat) ((⟨#[]⟩):ByteArray)).length:Int)) (some (lK (j.take (n194).toNat++List.replicate (j.length-(n194).toNat) ((⟨#[]⟩):ByteArray)) 0 ((n194:Int).toNat)))))
def bT (j:(List ByteArray)) (del_0:(List ByteArray)):Option ((List ByteArray)):=(dD j del_0).bind fun o=>if decide (o=(-1)) then (some j) else (fV (fun I n=>d_ del_0 I.1 I.2.1 I.2.2 n) eT (j,o,i64.wrap (o+1)))
def eF (j:(List ByteArray×Int)→Option (Bool)) (o:List ByteArray) (I:Int):Option (Bool):=j (o,I)
def hO (U:Nat) (I:Nat) (J:ByteArray) (j:List ByteArray) (R:Int) (o:(List ByteArray×Int)→Option (Bool)):Option (Bool):=dH (0≤(I:Int)) (if decide ((i64.wrap ((BitVec.ofInt (i64).bits (jW .i64 (U:Int) (I:Int)) &&& BitVec.ofInt (i64).bits 1).toNat))=0) then (dH ((j.length+([J]).length)*16≤140737488355328) (eF o (j++([J])) R)) else (eF o j (i64.wrap (R+1))))
def fA (j:(aC)) (U:List ByteArray) (I:((List ByteArray)×Int)) (GW:Nat) (R:Unit→Option (Bool)):Option (Bool):=eE (fun k y o n=>hO GW k y o.1 o.2 n) (fun o=>(eJ (aC.mk j.bJ j.bF j.aN j.dM (lK j.bK 0 ((min (j.bK.length:Int) 3:Int).toNat)) j.bQ) o.1).bind fun J=>if ((decide (J.2.2=0)) && (decide ((J.2.1.length:Int)=0))) && ((!decide (I.2=0)) || (decide (o.2<(I.1.length:Int)))) then (some false) else (R ())) 0 U (([]:List ByteArray),0)
def fJ (J:Nat) (j:aK) (o:List ByteArray) (I:List ByteArray→Option (Bool)):Option (Bool):=dH ((o.length+([j.Name]).length)*16≤140737488355328) (I (o++([j.Name])))
def dZ (U:aC):Option (Bool):=(lN U).bind fun j=>dH (0≤(min (j.bK.length:Int) 3)∧(min (j.bK.length:Int) 3)≤(j.bK.length:Int)) (eE (fun k y o n=>fJ k y o n) (fun o=>(gS (aC.mk j.bJ j.bF j.aN j.dM (lK j.bK 0 ((min (j.bK.length:Int) 3:Int).toNat)) j.bQ) o).bind fun I=>if (!decide (I.2=0)) && (!decide (I.2=8)) then ((eA).bind fun GW=>if GW then (if decide ((I.1.length:Int)=0) then ((cG (aC.mk j.bJ j.bF j.aN j.dM (lK j.bK 0 ((min (j.bK.length:Int) 3:Int).toNat)) j.bQ)).bind fun GX=>some (decide (GX=I.2))) else (some false)) else (some false)) else (dH (0≤(o.length:Int)) (dH ((jx .i64 1 (o.length:Int))≤9223372036854775807) (jH (fun k GZ n=>fA j o I k n) (fun _=>dH (o.length*16≤140737488355328) ((bT o I.1).bind fun J=>(eJ (aC.mk j.bJ j.bF j.aN j.dM (lK j.bK 0 ((min (j.bK.length:Int) 3:Int).toNat)) j.bQ) J).bind fun R=>(eA).bind fun GY=>some (GY && ((!decide (I.2=0)) || (((decide (R.2.2=0)) && (decide ((R.2.1.length:Int)=0))) && (decide ((i64.wrap ((J.length:Int)+(I.1.length:Int)))=(o.length:Int)))))))) (jx .i64 1 (o.length:Int):Int).toNat 0 ())))) 0 (lK j.bK 0 ((min (j.bK.length:Int) 3:Int).toNat)) ([]:List ByteArray))
end Go.Sim
namespace Go.Sim
open Go Go.RowKit
open _root_.Go.IntKind (i64 u64 u32 u8)
def Gd {R:Type} (o:Option R) (Q:R→Prop):Prop:=∃ r,o=some r∧Q r
section
variable {R α β σ:Type}{Q Q':R→Prop}
theorem Gd.mono {o:Option R} (h:Gd o Q) (k:∀ r,Q r→Q' r):Gd o Q':=by
 obtain ⟨r,e,q⟩:=h; exact ⟨r,e,k r q⟩
theorem Gd.ret {r:R} (h:Q r):Gd (some r) Q:=⟨r,rfl,h⟩
theorem Gd.nd {p:Prop}[Decidable p] {k:Option R} (h:p) (hk:Gd k Q):Gd (dH p k) Q:=by
 unfold Sim.dH; rw [Hv h]; exact hk
theorem Gd.eV {o:Option α}{k:α→Option R}{P:α→Prop} (h:Gd o P) (hk:∀ a,P a→Gd (k a) Q):Gd (o.bind k) Q:=by
 obtain ⟨a,rfl,q⟩:=h; exact hk a q
theorem Gd.bind_eq {o:Option α}{a:α}{k:α→Option R} (h:o=some a) (hk:Gd (k a) Q):Gd (o.bind k) Q:=by
 subst h; exact hk
theorem Gd.ite {b:Bool}{p q:Option R} (h1:b=true→Gd p Q) (h2:b=false→Gd q Q):Gd (if b=true then p else q) Q:=by
 cases b
 ·simpa using h2 rfl
 ·simpa using h1 rfl
theorem Gd.ix {l:List α}{i:Int}{k:α→Option R}{y:α} (h0:0≤i) (hy:l[i.toNat]? = some y) (hk:Gd (k y) Q):Gd (idx l i k) Q:=by
 unfold Sim.idx; rw [Hv h0,hy]; exact hk
theorem Gd.ks {l:List α}{i:Nat}{k:α→Option R} (h:i<l.length) (hk:Gd (k l[i]) Q):Gd (Sim.idx l (i:Int) k) Q:=
 Gd.ix (by omega) (Hi (by simpa using h)) hk
theorem Gd.eE {body:Nat→α→σ→(σ→Option R)→Option R}{k:σ→Option R} (I:Nat→List α→σ→Prop)
  (hb:∀ i y ys s n,I i (y::ys) s→(∀ s',I (i+1) ys s'→Gd (n s') Q)→Gd (body i y s n) Q) (hk:∀ i s,I i [] s→Gd (k s) Q):
  ∀ (l:List α) (i:Nat) (s:σ),I i l s→Gd (eE body k i l s) Q
 | [],i,s,h=>hk i s h
 | y::ys,i,s,h=>hb i y ys s _ h (fun s' h'=>Gd.eE I hb hk ys (i+1) s' h')
theorem Gd.jH {body:Nat→σ→(σ→Option R)→Option R}{k:σ→Option R} (I:Nat→Nat→σ→Prop)
  (hb:∀ m i s n,I (m+1) i s→(∀ s',I m (i+1) s'→Gd (n s') Q)→Gd (body i s n) Q) (hk:∀ i s,I 0 i s→Gd (k s) Q):
  ∀ (m i:Nat) (s:σ),I m i s→Gd (jH body k m i s) Q
 | 0,i,s,h=>hk i s h
 | m+1,i,s,h=>hb m i s _ h (fun s' h'=>Gd.jH I hb hk m (i+1) s' h')
theorem Gd.fV {body:σ→(σ→Option R)→Option R} (I:σ→Prop) (μ:σ→Nat)
  (hb:∀ s n,I s→(∀ s',I s'→μ s'<μ s→Gd (n s') Q)→Gd (body s n) Q):
  ∀ (m:Nat) (s:σ),I s→μ s<m→Gd (fV body m s) Q
 | 0,s,_,h=>by omega
 | m+1,s,hI,h=>hb s _ hI (fun s' h' hlt=>Gd.fV I μ hb m s' h' (by omega))
theorem Gd.eq {o:Option R}{r:R}:Gd o (fun x=>x=r)↔o=Option.some r:=by
 constructor
 ·rintro ⟨x,h,rfl⟩; exact h
 ·intro h; exact ⟨r,h,rfl⟩
end
theorem bR {n:Int} (h:-9223372036854775808≤n∧n≤9223372036854775807):i64.wrap n=n:=sj h.1 h.2
theorem Gd.seen {R α σ:Type}{Q:R→Prop}{body:Nat→α→σ→(σ→Option R)→Option R}{k:σ→Option R}{l:List α} (I:List α→σ→Prop)
  (hb:∀ i y s n pre,(∃ post,l=pre++y::post)→I pre s→(∀ s',I (pre++[y]) s'→Gd (n s') Q)→Gd (body i y s n) Q) (hk:∀ s,I l s→Gd (k s) Q) (s:σ) (hs:I [] s):Gd (Sim.eE body k 0 l s) Q:=by
 have key:∀ (ys pre:List α) (i:Nat) (s:σ),l=pre++ys→I pre s→Gd (Sim.eE body k i ys s) Q:=by
  intro ys
  induction ys with
  | nil=>intro pre i s hl hs; rw [Ij] at hl; subst hl; exact hk s hs
  | cons y ys ih=>
   intro pre i s hl hs;exact hb i y s _ pre ⟨ys,hl⟩ hs (fun s' hs'=>ih (pre++[y]) (i+1) s' (by rw [hl]; simp) hs')
 exact key l [] 0 s rfl hs
theorem q8 {α:Type}{l pre:List α}{y:α} (h:∃ post,l=pre++y::post):pre.length<l.length∧y ∈ l∧∀ x ∈ pre,x ∈ l:=by
 obtain ⟨post,rfl⟩:=h;exact ⟨by simp,by simp,fun x hx=>Hk _ hx⟩
end Go.Sim
