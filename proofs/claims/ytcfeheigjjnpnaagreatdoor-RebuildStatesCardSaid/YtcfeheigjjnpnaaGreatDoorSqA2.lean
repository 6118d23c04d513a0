/-
  The proof, part A2.
-/
import Derived.Lib.Bytealg
import Derived.Laws.Externs
import Derived.Lib.LaidTab
import Derived.Lib.AppendIntMem
import Derived.Lib.ItoaNum
import Derived.Lib.AtoiAll
import Derived.Lib.SmallJoins
import Derived.Laws.BytesString
import Derived.Laws.IdiomStrings
import Derived.Lib.ParseIntBMem
import Derived.Laws.IdiomRangeMap
import Derived.Lib.UnsafeStr
import Derived.Lib.Builder
import Derived.Lib.AppendStr
import Derived.Laws.Bits64b
import Derived.Test.YtcfeheigjjnpnaaGreatDoorSqA1
set_option linter.unusedVariables false
set_option linter.unusedSimpArgs false
set_option linter.unusedSectionVars false
set_option linter.unnecessarySimpa false
namespace Go.Sim
abbrev Kd := @Int.fdiv_eq_ediv_of_nonneg
abbrev Kk := @Int.le_refl
abbrev KT := @Int.toNat_of_nonneg
abbrev KU := @Go.Lib.strCells_length
abbrev Me := @List.drop_succ_cons
abbrev JZ := @List.getElem?_replicate
abbrev HJ := @List.getElem?_set_ne
abbrev HP := @List.getElem?_set_self
abbrev Jy := @List.getElem_map
abbrev Jg := @List.length_drop
abbrev Hx := @List.length_set
abbrev JW := @List.mem_of_mem_take
abbrev J7 := @List.replicate_succ
abbrev I_ := @List.take_append_drop
abbrev LH := @List.take_zero
abbrev KV := @List.zipWith_append
abbrev Ka := @Nat.add_comm
abbrev Jw := @Nat.lt_or_ge
abbrev Kx := @Nat.mod_lt
end Go.Sim
namespace Go.Sim
open Go Go.RowKit
open _root_.Go.IntKind (i64 u64 u32 u8)
def F2 (H:Hp) (v:Value) (n sz:Nat) (xs:List Value):Prop:=
 xs.length=n*sz∧(∀ u ∈ xs,u.oneCell'=true) ∧
 (((∃ a,v=.slice a 0 0)∧n=0)∨∃ b off cap arr T fz,v=.slice (some ⟨b,off,none⟩) n cap∧H b=some (.cells arr T fz)∧∀ j u,xs[j]? = some u→arr[off+j]? = some u)
theorem F2.shape {H:Hp}{v:Value}{n sz:Nat}{xs:List Value} (h:F2 H v n sz xs):∃ o c,v=.slice o n c:=by
 rcases h.2.2 with ⟨⟨a,rfl⟩,rfl⟩ | ⟨b,off,cap,arr,T,fz,rfl,_⟩ <;> exact ⟨_,_,rfl⟩
theorem F2.isNil {H:Hp}{n m c sz:Nat}{xs:List Value} (h:F2 H (.slice none m c) n sz xs):n=0∧xs=[]:=by
 rcases h.2.2 with ⟨_,h0⟩ | ⟨b,off,cap,arr,T,fz,h0,_⟩
 ·subst h0; exact ⟨rfl,HZ (by rw [h.1,Jc])⟩
 ·cases h0
section
variable {B:Nat}{w0 w:World}{H:Hp}{M:List bQ}
end
section
variable {x:Cx}{ops:Array Oper}{Q:kF}{rest:List Oper}{H:Hp}{M M':List bQ}{L L':Env}
variable {d:Nat}{ty:TypeId}{pos:String}{aft:Array Edge}{g:Option (Nat×Bool)}
theorem Ad {o:Oper} (hd:o.dst=none) (hg:gd ops L o=some true)
  (hrun:∀ a w,Sl x.N L a→St x.B x.w0 H M w→∃ v w',(execOp a.eval o).run x.P w=.ok (.value v) w'∧∃ H' M',St x.B x.w0 H' M' w'∧W x ops Q rest H' M' L):
  W x ops Q (o::rest) H M L:=by
 intro a w hs ht;obtain ⟨v,w',hr,H',M',ht',k⟩:=hrun a w hs ht;refine Lo fun K hK=>?_;rw [Hi (hs.gd hg)];unfold Oper.wp;rw [hr];simp only [Oper.upon,hd];exact hK _ _ (k _ _ hs ht')
theorem o_ {t e:TypeId}{sz len cap l h m:Nat}{y:Operand}{lo hi mx:Option Operand}{ad:Option Addr}
  (hg:gd ops L ⟨some d,.slice t y lo hi mx,ty,pos,aft,g⟩=some true) (hN:Nat.blt d x.N=true)
  (hT:∀ w,(underlying t).run x.P w=.ok (.slice e) w) (hs:∀ w,(sizeOf e).run x.P w=.ok sz w) (hy:ev L y=some (.slice ad len cap)) (hmh:mx=none∨∃ o,hi=some o)
  (hm:z8 L mx cap cap m) (hh:z8 L hi len m h) (hl:z8 L lo 0 h l)
  {v':Value} (hv:Value.slice (if m=l then ad else ad.map (·.add (l*sz))) (h-l) (m-l)=v')
  (k:W x ops Q rest H M ((d,v')::L)):
  W x ops Q (⟨some d,.slice t y lo hi mx,ty,pos,aft,g⟩::rest) H M L:=
 dY rfl hg hN (fun c w hsl ht=>by
  rw [← hv];simp only [execOp,hsl.ev hy,Hu,pd hT hs (CZ hmh) (hm.bd hsl) (hh.bd hsl) (hl.bd hsl),Hn,HI]) k
theorem wx {zs:List Value} (h:∀ u ∈ zs,u.oneCell'=true) (h0:0<zs.length) (n:Nat):∀ u ∈ (Builtin.zeroCells zs.toArray n).toList,u.oneCell'=true:=by
 intro u hu;unfold Builtin.zeroCells at hu;simp only [Array.toList_map,Kq,Array.toList_range,IH] at hu;obtain ⟨q,_,rfl⟩:=hu;have hlt:q%zs.length<zs.length:=Kx _ h0;have:zs.toArray[q%zs.length]! = zs[q%zs.length]:=by simp [hlt]
 rw [this];exact h _ (Iu _)
end
theorem yN {P:Program}{w:World}{t tu ty e:TypeId}{sz n gb off cap a dl dc sl sc:Nat}{b:Addr}{xs news:List Value} (hT:P.underlying t=some (.slice e)) (hs:∀ w,(sizeOf e).run P w=.ok sz w)
  (hown:fJ w e sz (.slice (some ⟨gb,off,none⟩) n cap) n xs) (ha:a+dl≤n)
  (hl:news.length=min sl dl*sz) (hnews:∀ j u,news[j]? = some u→w.cell? (b.add j)=some u) (h1:∀ u ∈ news,u.oneCell'=true):
  ∃ w',(Builtin.copy_ #[t,tu] ty #[.slice (some ⟨gb,off+a*sz,none⟩) dl dc,.slice (some b) sl sc]).run P w=.ok (.int .i64 (min sl dl:Nat)) w' ∧
   fJ w' e sz (.slice (some ⟨gb,off,none⟩) n cap) n (xs.take (a*sz)++news++xs.drop ((a+min sl dl)*sz))∧w.grownBy w' (some gb):=by
 rcases hown.2 with ⟨h0,_⟩ | ⟨gb2,off2,cap2,cur,he,hgb,hnc,hcm,hcs,htake⟩
 ·cases h0
 cases he;have hxl:xs.length=n*sz:=hown.1;have hm:(a+min sl dl)*sz≤n*sz:=HA _ (by omega)
 have hmc:n*sz≤cap*sz:=HA _ hnc;have hadd:(a+min sl dl)*sz=a*sz+min sl dl*sz:=HF ..;have hf:=Mi (P:=P) w sz (min sl dl) b sl sc news hl hnews;obtain ⟨w',hst,hh,hgr⟩:=gP (P:=P) gb (off+a*sz) e news 0 cur.toList w (by simpa using hgb) (by simp; omega) h1
 refine ⟨w',?_,⟨?_,.inr ⟨gb,off,cap,_,rfl,hh,hnc,hcm,?_,?_⟩⟩,hgr⟩
 ·simp [Builtin.copy_,I9 hT,hs,Builtin.lenOf,hf,hst,goInt]
 ·simp only [HN,HV,Jg,hl,hxl]; omega
 ·simpa [lI] using hcs
 ·rw [J9,Jb,ry _ _ _ (by simp; omega)]
  have hx1:xs.take (a*sz)=(cur.toList.take (off+a*sz)).drop off:=by
   rw [← htake,LG,Ix (by omega),JV,JG]
  have hx2:xs.drop ((a+min sl dl)*sz)=(cur.toList.drop (off+a*sz+news.length)).take (n*sz-(a+min sl dl)*sz):=by
   rw [← htake,JV,JB]; congr 2; omega
  rw [hx1,hx2,HY,Kr (by simp; omega),← HY]
  have hlen:((cur.toList.take (off+a*sz)).drop off++news).length=a*sz+min sl dl*sz:=by
   rw [HN,Jg,HV,hl]; simp; omega
  have e:n*sz=((cur.toList.take (off+a*sz)).drop off++news).length+(n*sz-(a+min sl dl)*sz):=by rw [hlen]; omega
  conv=>lhs; rw [e]
  rw [List.take_length_add_append]
section
variable {x:Cx}{ops:Array Oper}{Q:kF}{rest:List Oper}{H:Hp}{M M':List bQ}{L L':Env}
variable {d:Nat}{ty:TypeId}{pos:String}{aft:Array Edge}{g:Option (Nat×Bool)}
theorem tZ {c:Code}{v:Value}{e:TypeId}{sz n:Nat}{xs:List Value} (h0:0<n)
  (k:∀ gb off cap,v=.slice (some ⟨gb,off,none⟩) n cap→n≤cap→Go.Sim.C x c Q H (.row v e sz n xs::M) L):Go.Sim.C x c Q H (.row v e sz n xs::M) L:=by
 intro a w hs ht;have hok:fJ w e sz v n xs:=ht.ok _ (Ha ..);rcases hok.2 with ⟨_,h⟩ | ⟨gb,off,cap,cur,he,_,hnc,_⟩
 ·omega
 ·exact k gb off cap he hnc a w hs ht
theorem Ab {α:Type}[aF α] {t tu e:TypeId}{y u:Operand}{v vu:Value}{xs:List Value}{l ys:List α}
  (hg:gd ops L ⟨some d,.call ⟨.builtin .copy,#[y,u],#[t,tu]⟩,ty,pos,aft,g⟩=some true) (hN:Nat.blt d x.N=true)
  (hT:x.P.underlying t=some (.slice e)) (hsz:∀ w,(sizeOf e).run x.P w=.ok (aF.sz α) w) (hs:Nat.blt 0 (aF.sz α)=true)
  (hy:ev L y=some v) (hu:ev L u=some vu) (hx:Rw H v xs l) (hR:aH H vu ys) (h0:0<ys.length)
  (k:∀ xs',Rw H v xs' (ys.take (min ys.length l.length)++l.drop (min ys.length l.length))→W x ops Q rest H (.row v e (aF.sz α) l.length xs'::M) ((d,.int .i64 (min ys.length l.length:Nat))::L)):
  W x ops Q (⟨some d,.call ⟨.builtin .copy,#[y,u],#[t,tu]⟩,ty,pos,aft,g⟩::rest) H (.row v e (aF.sz α) l.length xs::M) L:=by
 refine ot rfl hg hN fun a w hsl ht=>?_;have hown:fJ w e (aF.sz α) v l.length xs:=ht.ok _ (Ha ..);obtain ⟨cs,hcs,hcase⟩:=hR.flat;rcases hcase with ⟨_,rfl⟩ | ⟨hc,b,off2,c,rfl⟩
 ·simp at h0
 by_cases hl0:l.length=0
 ·have hm0:min ys.length l.length=0:=by omega
  refine ⟨.int .i64 (min ys.length l.length:Nat),w,?_,H,_,ht,k xs (by rw [hm0]; simpa using hx)⟩
  have hf:(Builtin.firstCells (aF.sz α) 0 (.slice (some ⟨b,off2,none⟩) ys.length c)).run x.P w=.ok #[] w:=
   Mi (P:=x.P) w (aF.sz α) 0 ⟨b,off2,none⟩ ys.length c [] (by simp) (by simp)
  rw [hm0];rcases hown.2 with ⟨rfl,_⟩ | ⟨gb,off,cap,cur,rfl,_⟩
  ·simp [execOp,resolve,invoke,builtin,hsl.ev hy,hsl.ev hu,Builtin.copy_,I9 hT,hsz,Builtin.lenOf,hf,goInt]
  ·simp [execOp,resolve,invoke,builtin,hsl.ev hy,hsl.ev hu,Builtin.copy_,I9 hT,hsz,Builtin.lenOf,hf,goInt,hl0,storeCells]
 rcases hown.2 with ⟨_,h⟩ | ⟨gb,off,cap,cur,rfl,_⟩
 ·exact absurd h hl0
 obtain ⟨w',hr,ho,hgr⟩:=yN (P:=x.P) (tu:=tu) (ty:=ty) (a:=0) (dl:=l.length) (dc:=cap) (b:=⟨b,off2,none⟩) (sl:=ys.length) (sc:=c) (news:=cs.take (min ys.length l.length*aF.sz α)) hT hsz hown (by omega)
  (by rw [HV,hcs.len]; exact Ix (HA _ (by omega)))
  (fun j u hu=>by
   rw [Is] at hu
   split at hu
   ·exact ((hc j u hu).at (x:=x) (M:=.row (.slice (some ⟨gb,off,none⟩) l.length cap) e (aF.sz α) l.length xs::M)) w ht
   ·cases hu) (fun u hu=>hcs.one u (JW hu))
 rw [Jc,LH,Jv,H4] at ho;rw [Jc,Jb] at hr;refine ⟨.int .i64 (min ys.length l.length:Nat),w',?_,H,_,ht.xG (r':=.row (.slice (some ⟨gb,off,none⟩) l.length cap) e (aF.sz α) l.length _) hgr ho (fun b hb=>.inl hb),k _ ⟨(hcs.split _).1.app (hx.rd.split _).2,_,_,_,rfl⟩⟩;simp [execOp,resolve,invoke,builtin,hsl.ev hy,hsl.ev hu,hr]
theorem uZ {α:Type}[aF α] {t tu e:TypeId}{gb off cap q dc sc:Nat}{y u:Operand}{xs:List Value}{l:List α}
  (hg:gd ops L ⟨some d,.call ⟨.builtin .copy,#[y,u],#[t,tu]⟩,ty,pos,aft,g⟩=some true) (hN:Nat.blt d x.N=true)
  (hT:x.P.underlying t=some (.slice e)) (hsz:∀ w,(sizeOf e).run x.P w=.ok (aF.sz α) w) (hs:Nat.blt 0 (aF.sz α)=true)
  (hx:Rw H (.slice (some ⟨gb,off,none⟩) l.length cap) xs l) (hq:q≤l.length)
  (hy:ev L y=some (.slice (some ⟨gb,off+q*aF.sz α,none⟩) (l.length-q) dc)) (hu:ev L u=some (.slice (some ⟨gb,off,none⟩) q sc))
  (k:∀ xs',Rw H (.slice (some ⟨gb,off,none⟩) l.length cap) xs' (l.take q++l.take (min q (l.length-q))++l.drop (q+min q (l.length-q))) →
   W x ops Q rest H (.row (.slice (some ⟨gb,off,none⟩) l.length cap) e (aF.sz α) l.length xs'::M) ((d,.int .i64 (min q (l.length-q):Nat))::L)):
  W x ops Q (⟨some d,.call ⟨.builtin .copy,#[y,u],#[t,tu]⟩,ty,pos,aft,g⟩::rest) H (.row (.slice (some ⟨gb,off,none⟩) l.length cap) e (aF.sz α) l.length xs::M) L:=by
 refine ot rfl hg hN fun a w hsl ht=>?_;have hown:fJ w e (aF.sz α) (.slice (some ⟨gb,off,none⟩) l.length cap) l.length xs:=ht.ok _ (Ha ..);have hlen:=hx.rd.len;have hone:=hx.rd.one;have hmm:min q (l.length-q)*aF.sz α≤l.length*aF.sz α:=HA _ (by omega)
 have hcell:∀ j u,(xs.take (min q (l.length-q)*aF.sz α))[j]? = some u→w.cell? ((⟨gb,off,none⟩:Addr).add j)=some u:=by
  intro j u hj;rcases hown.2 with ⟨h0,_⟩ | ⟨gb2,off2,cap2,cur,he,hgb,hnc,hcm,hcs,htake⟩
  ·cases h0
  cases he;rw [IC];refine L5 hgb rfl ?_;rw [Is] at hj
  split at hj
  ·rw [← htake,Is] at hj
   split at hj
   ·rw [Ia] at hj; simpa using hj
   ·cases hj
  ·cases hj
 obtain ⟨w',hr,ho,hgr⟩:=yN (P:=x.P) (tu:=tu) (ty:=ty) (a:=q) (dl:=l.length-q) (dc:=dc) (b:=⟨gb,off,none⟩) (sl:=q) (sc:=sc) (news:=xs.take (min q (l.length-q)*aF.sz α)) hT hsz hown (by omega)
  (by rw [HV,hlen]; omega) hcell (fun u hu=>hone u (JW hu))
 refine ⟨.int .i64 (min q (l.length-q):Nat),w',?_,H,_,ht.xG (r':=.row (.slice (some ⟨gb,off,none⟩) l.length cap) e (aF.sz α) l.length _) hgr ho (fun b hb=>.inl hb),k _ ⟨?_,_,_,_,rfl⟩⟩
 ·simp [execOp,resolve,invoke,builtin,hsl.ev hy,hsl.ev hu,hr]
 ·exact ((hx.rd.split q).1.app (hx.rd.split (min q (l.length-q))).1).app (hx.rd.split (q+min q (l.length-q))).2
end
theorem xP {x:Cx}{ops:Array Oper}{Q:kF}{rest:List Oper}{H:Hp}{M:List bQ}{L:Env}{d:Nat}{f:FuncId}{args:List Operand}{tys:Array TypeId}{ty:TypeId}{pos:String}{aft:Array Edge}{g:Option (Nat×Bool)}{vs:List Value}{v:Value}
  (hx:∀ w,(callFunc f vs.toArray).run x.P w=.ok (.value v) w)
  (hg:gd ops L ⟨some d,.call ⟨.value (.func f),args.toArray,tys⟩,ty,pos,aft,g⟩=some true) (hN:Nat.blt d x.N=true)
  (hv:ue L args=some vs) (k:W x ops Q rest H M ((d,v)::L)):
  W x ops Q (⟨some d,.call ⟨.value (.func f),args.toArray,tys⟩,ty,pos,aft,g⟩::rest) H M L:=
 dY rfl hg hN (fun a w hs ht=>by
  have hargs:args.toArray.map a.eval=vs.toArray:=by simp [hs.ue hv]
  simp only [execOp,resolve,hargs,Act.eval,Deferred.ofValue,Hu,HI,Hn,invoke];simp [hx]) k
def Fp (s:ByteArray) (c:Int):Int:=Go.Lib.indexByte s.data.toList c.toNat.toUInt8
theorem yk {P:Program}{f:FuncId}{fn:Func} (hf:P.funcs[f]? = some fn) (h1:(fn.name == "runtime.NumGoroutine")=false) (h2:fn.body.isNone=true) (h3:Extern.findNext fn=none) (h4:Extern.find fn=some Extern.BytealgIndexByte.indexByte) (s:ByteArray) (c:Int):
  ∀ w,(callFunc f [.string s,.int .u8 c].toArray).run P w=.ok (.value (.int .i64 (Fp s c))) w:=fun w=>by
 rw [run_callFunc_extern hf h1 h2 h3 h4,show [Value.string s,.int .u8 c].toArray=#[.string s,.int .u8 c] from rfl,Go.Lib.run_indexByteString]
 rfl
section
variable {x:Cx}{ops:Array Oper}{Q:kF}{rest:List Oper}{H:Hp}{M M':List bQ}{L L':Env}
variable {d:Nat}{ty:TypeId}{pos:String}{aft:Array Edge}{g:Option (Nat×Bool)}
theorem BV {t e:TypeId}{y:Operand}{ad:Option Addr}{c2:Nat}
  (hg:gd ops L ⟨none,.call ⟨.builtin .clear,#[y],#[t]⟩,ty,pos,aft,g⟩=some true)
  (hT:x.P.underlying t=some (.slice e)) (hy:ev L y=some (.slice ad 0 c2)) (k:W x ops Q rest H M L):
  W x ops Q (⟨none,.call ⟨.builtin .clear,#[y],#[t]⟩,ty,pos,aft,g⟩::rest) H M L:=
 Ad rfl hg fun a w hsl ht=>⟨.tuple #[],w,by
  cases ad <;> simp [execOp,resolve,invoke,builtin,hsl.ev hy,Builtin.clear_,I9 hT],H,M,ht,k⟩
theorem xN {t e:TypeId}{sz m n gb off cap i c2:Nat}{y:Operand}{z:Value}{zs xs:List Value}
  (hg:gd ops L ⟨none,.call ⟨.builtin .clear,#[y],#[t]⟩,ty,pos,aft,g⟩=some true)
  (hT:x.P.underlying t=some (.slice e)) (hz:∀ w,(zeroValue e).run x.P w=.ok z w) (hzs:z.cells=zs.toArray) (hzl:zs.length=sz) (h1:zs.all Value.oneCell'=true) (hs:Nat.blt 0 sz=true)
  (hi:i<m) (hy:ev L y=some (.slice (some ⟨gb,off+i*sz,none⟩) (m-i) c2))
  (k:W x ops Q rest H (.row (.slice (some ⟨gb,off,none⟩) m cap) e sz m (xs.take (i*sz)++(Builtin.zeroCells z.cells (m-i)).toList)::M) L):
  W x ops Q (⟨none,.call ⟨.builtin .clear,#[y],#[t]⟩,ty,pos,aft,g⟩::rest) H (.row (.slice (some ⟨gb,off,none⟩) m cap) e sz n xs::M) L:=by
 have hs':0<sz:=by simpa [ID] using hs
 refine Ad rfl hg fun a w hsl ht=>?_;have hown:fJ w e sz (.slice (some ⟨gb,off,none⟩) m cap) n xs:=ht.ok _ (Ha ..);rcases hown.2 with ⟨h0,_⟩ | ⟨gb2,off2,cap2,cur,he,hgb,hnc,hcm,hcs,htake⟩
 ·cases h0
 cases he;obtain ⟨q,hq⟩:∃ q,m-i=q+1:=⟨m-i-1,by omega⟩
 have hzlen:(Builtin.zeroCells z.cells (m-i)).toList.length=(m-i)*sz:=by
  unfold Builtin.zeroCells; rw [hzs]; simp [hzl]
 have hmul:m*sz≤cap*sz:=HA _ hnc;have hsplit:i*sz+(m-i)*sz=m*sz:=by rw [← HF]; congr 1; omega
 have hone:∀ u ∈ (Builtin.zeroCells z.cells (m-i)).toList,u.oneCell'=true:=by
  rw [hzs]; exact wx (fun u hu=>IJ.1 h1 u hu) (by omega) _
 obtain ⟨w',hst,hh,hgr⟩:=gP (P:=x.P) gb (off+i*sz) e (Builtin.zeroCells z.cells (m-i)).toList 0 cur.toList w (by simpa using hgb) (by rw [hzlen]; simp; omega) hone
 refine ⟨.tuple #[],w',?_,H,_,ht.xG (r':=.row (.slice (some ⟨gb,off,none⟩) m cap) e sz m (xs.take (i*sz)++(Builtin.zeroCells z.cells (m-i)).toList)) hgr ⟨?_,.inr ⟨gb,off,cap,_,rfl,hh,hnc,hcm,?_,?_⟩⟩ (fun b hb=>.inl hb),k⟩
 ·rw [hq] at hst hy
  simp [execOp,resolve,invoke,builtin,hsl.ev hy,Builtin.clear_,I9 hT,hz,hst]
 ·rw [HN,HV,hzlen,hown.1]
  omega
 ·simpa [lI] using hcs
 ·rw [J9,Jb,ry _ _ _ (by rw [hzlen]; simp; omega)]
  have hd:(cur.toList.take (off+i*sz)).drop off=xs.take (i*sz):=by
   rw [JV,JG,← htake,LG,Ix (by omega)]
  have hlen2:((cur.toList.take (off+i*sz)).drop off++(Builtin.zeroCells z.cells (m-i)).toList).length=m*sz:=by
   rw [HN,hd,HV,hzlen,hown.1]; omega
  rw [HY,Kr (by simp; omega),← HY,← hlen2]
  rw [KP,hd]
theorem xM {α:Type}[aF α] {t e:TypeId}{n:Nat}{y lo:Operand}{v:Value}{z:Value}{zs xs:List Value}{l:List α}{ze:α}{kk:IntKind}{i:Int}{ty2:TypeId}{pos2:String}{aft2:Array Edge}{g2:Option (Nat×Bool)}
  (hg:gd ops L ⟨some d,.slice t y (some lo) none none,ty,pos,aft,g⟩=some true) (hN:Nat.blt d x.N=true)
  (hg2:∀ u,gd ops ((d,u)::L) ⟨none,.call ⟨.builtin .clear,#[.tmp d],#[t]⟩,ty2,pos2,aft2,g2⟩=some true)
  (hT:x.P.underlying t=some (.slice e)) (hT2:∀ w,(underlying t).run x.P w=.ok (.slice e) w) (hsz:∀ w,(sizeOf e).run x.P w=.ok (aF.sz α) w)
  (hz:∀ w,(zeroValue e).run x.P w=.ok z w) (hzs:z.cells=zs.toArray) (h1:zs.all Value.oneCell'=true) (hs:Nat.blt 0 (aF.sz α)=true) (hE:aF.E H zs ze)
  (hy:ev L y=some v) (hlo:ev L lo=some (.int kk i)) (hx:Rw H v xs l) (hb:0≤i∧i≤(l.length:Int))
  (k:∀ u xs',Rw H v xs' (l.take i.toNat++List.replicate (l.length-i.toNat) ze)→W x ops Q rest H (.row v e (aF.sz α) (l.take i.toNat++List.replicate (l.length-i.toNat) ze).length xs'::M) ((d,u)::L)):
  W x ops Q (⟨some d,.slice t y (some lo) none none,ty,pos,aft,g⟩::⟨none,.call ⟨.builtin .clear,#[.tmp d],#[t]⟩,ty2,pos2,aft2,g2⟩::rest) H (.row v e (aF.sz α) n xs::M) L:=by
 obtain ⟨hb0,hb1⟩:=hb;obtain ⟨q,rfl⟩:∃ q:Nat,i=q:=⟨i.toNat,by omega⟩
 have hql:q≤l.length:=by omega
 rw [G9] at k;have hs':0<aF.sz α:=by simpa [ID] using hs
 have hlen:(l.take q++List.replicate (l.length-q) ze).length=l.length:=by simp; omega
 have hlk:∀ u,ev ((d,u)::L) (.tmp d)=some u:=fun u=>by simp [ev,oW]
 have hn:∀ {a:Act}{w:World},St x.B x.w0 H (.row v e (aF.sz α) n xs::M) w→n=l.length:=fun {a w} ht=>by
  have hok:fJ w e (aF.sz α) v n xs:=ht.ok _ (Ha ..);have h1:=hx.rd.len;rw [hok.1] at h1;exact Jl hs' h1
 have same:l.length=q→∀ {L2:Env},(∀ xs',Rw H v xs' (l.take q++List.replicate (l.length-q) ze)→W x ops Q rest H (.row v e (aF.sz α) (l.take q++List.replicate (l.length-q) ze).length xs'::M) L2)→W x ops Q rest H (.row v e (aF.sz α) n xs::M) L2:=by
  intro hq L2 kk a w hsl ht;have hnn:=hn (a:=a) ht;subst hnn;have e:l.take q++List.replicate (l.length-q) ze=l:=by rw [hq,IN,← hq,Jp]; simp
  have:=kk xs (by rw [e]; exact hx)
  rw [e] at this;exact this a w hsl ht
 intro a w hsl ht;have hnn:=hn (a:=a) ht;subst hnn;have hok:fJ w e (aF.sz α) v l.length xs:=ht.ok _ (Ha ..)
 revert a w
 suffices hh:∀ (oo:Option Addr) (cap:Nat),v=.slice oo l.length cap→l.length≤cap→(q<l.length→∃ gb off,oo=some ⟨gb,off,none⟩) →
   W x ops Q (⟨some d,.slice t y (some lo) none none,ty,pos,aft,g⟩::⟨none,.call ⟨.builtin .clear,#[.tmp d],#[t]⟩,ty2,pos2,aft2,g2⟩::rest) H (.row v e (aF.sz α) l.length xs::M) L by
  intro a w hsl ht hok;rcases hok.2 with ⟨e0,h0⟩ | ⟨gb,off,cap,cur,e0,_,hnc,_⟩
  ·exact hh none 0 (by rw [h0]; exact e0) (by omega) (fun h=>by omega) a w hsl ht
  ·exact hh (some ⟨gb,off,none⟩) cap e0 hnc (fun _=>⟨gb,off,rfl⟩) a w hsl ht
 intro oo cap hv hnc hsome;subst hv
 by_cases hq:l.length=q
 ·refine o_ (m:=cap) (h:=l.length) (l:=q) hg hN hT2 hsz hy (.inl rfl) (.inl ⟨rfl,rfl⟩) (.inl ⟨rfl,rfl⟩) (.inr ⟨_,_,_,rfl,hlo,by omega,by omega,by omega⟩) (v':=.slice (if cap=q then oo else oo.map (·.add (q*aF.sz α))) 0 (cap-q)) (by rw [hq,IN]) ?_
  exact BV (hg2 _) hT (hlk _) (same hq (fun xs' hx'=>k _ xs' hx'))
 ·obtain ⟨gb,off,rfl⟩:=hsome (by omega)
  refine o_ (m:=cap) (h:=l.length) (l:=q) hg hN hT2 hsz hy (.inl rfl) (.inl ⟨rfl,rfl⟩) (.inl ⟨rfl,rfl⟩) (.inr ⟨_,_,_,rfl,hlo,by omega,by omega,by omega⟩) (v':=.slice (some ⟨gb,off+q*aF.sz α,none⟩) (l.length-q) (cap-q)) (by rw [Hh (by omega),I6,IC]) ?_
  have hzl:zs.length=aF.sz α:=aF.len hE;refine xN (i:=q) (sz:=aF.sz α) (hg2 _) hT hz hzs hzl h1 hs (by omega) (hlk _) ?_
  have hcells:(Builtin.zeroCells z.cells (l.length-q)).toList=(List.range ((l.length-q)*aF.sz α)).map (zs.toArray[·%zs.length]!):=by
   unfold Builtin.zeroCells;rw [hzs];simp [hzl]
  have hrw:Rw H (.slice (some ⟨gb,off,none⟩) l.length cap) (xs.take (q*aF.sz α)++(Builtin.zeroCells z.cells (l.length-q)).toList) (l.take q++List.replicate (l.length-q) ze):=
   ⟨(hx.rd.split q).1.app (by rw [hcells]; exact ES hE hzl _),_,_,_,rfl⟩
  have:=k (.slice (some ⟨gb,off+q*aF.sz α,none⟩) (l.length-q) (cap-q)) _ hrw;rw [hlen] at this;exact this
end
theorem z6 (k:Nat):jG .u64 (k:Int) 32=((k / 4294967296:Nat):Int):=by
 unfold jG;rw [show (2:Int) ^ (min (32:Int).toNat u64.bits)=4294967296 from rfl];rw [Kd _ (by decide)]
 omega
def yI {α:Type} (s:List α) (n:Int):List α:=(List.replicate n.toNat s).flatten
theorem sk {α:Type} (a:α) (m:Nat):yI [a] (m:Int)=List.replicate m a:=by
 unfold yI;rw [G9]
 induction m with
 | zero=>rfl
 | succ m ih=>rw [J7,J7,List.flatten_cons,ih]; rfl
theorem yJ {α:Type}{a:α}{l:List α}{q:Nat} (h:l.take q=List.replicate q a) (hq:q≤l.length):
  (l.take q++l.take (min q (l.length-q))++l.drop (q+min q (l.length-q))).take (q+min q (l.length-q))=List.replicate (q+min q (l.length-q)) a:=by
 have h2:l.take (min q (l.length-q))=List.replicate (min q (l.length-q)) a:=by
  have:=Ht (List.take (min q (l.length-q))) h
  rwa [LG,List.take_replicate,show min (min q (l.length-q)) q=min q (l.length-q) by omega] at this
 rw [h,h2,List.replicate_append_replicate];rw [List.take_append_of_le_length (by simp),HK (by simp)]
section
variable {B:Nat}{w0 w w':World}{H:Hp}{M:List bQ}
theorem St.var? (ht:St B w0 H M w) {P:Program}{n:String}{g:Nat} (hg:P.globalNamed n=some g) (hlt:g<B):w.var? P n=w0.var? P n:=by
 unfold World.var?;rw [hg];simp only [Kf];rw [ht.below.block g hlt]
theorem St.under (ht:St B w0 H M w) (hb:Below w.heap.size w w'):St B w0 H M w':=
 ht.grow ⟨hb.os,hb.tape,hb.output,hb.size,fun i hi _=>hb.block i hi⟩
theorem St.GJ (ht:St B w0 H M w) {P:Program}{n:String}{g:Nat}{k:IntKind}{zs:List Int} (hT:Lib.TabIs P w0 n k zs) (hg:P.globalNamed n=some g) (hlt:g<B):Lib.TabIs P w n k zs:=
 (ht.var? hg hlt).trans hT
end
theorem FC {P:Program}{W:World}{n:String}{g:Nat}{cs:Array Value} (hg:P.globalNamed n=some g) (h:W.var? P n=some cs):g<W.heap.size:=by
 unfold World.var? at h;rw [hg] at h;simp only [Kf] at h
 split at h
 ·rename_i o _ _ ho
  exact (IZ.1 ho).1
 ·cases h
def EU (v:Value) (b:Bool):Prop:=(b=false∧v=.nilIface)∨(b=true∧∃ T p,v=.iface T p)
section
variable {x:Cx}{ops:Array Oper}{Q:kF}{rest:List Oper}{H:Hp}{M:List bQ}{L:Env}
variable {d:Nat}{ty:TypeId}{pos:String}{aft:Array Edge}{g:Option (Nat×Bool)}
theorem DL {t u:TypeId}{y:Operand}{v:Value}{b:Bool}{ms:Array (String×TypeId)} (hT:∀ w,(underlying t).run x.P w=.ok (.interface ms) w) (he:EU v b) (hg:gd ops L ⟨some d,.binOp .neq t y (.const .nilIface) u,ty,pos,aft,g⟩=some true) (hN:Nat.blt d x.N=true)
  (hy:ev L y=some v) (k:W x ops Q rest H M ((d,.bool b)::L)):W x ops Q (⟨some d,.binOp .neq t y (.const .nilIface) u,ty,pos,aft,g⟩::rest) H M L:=
 dY rfl hg hN (fun c w hs _=>by
  have hz:c.eval (.const .nilIface)=.nilIface:=rfl;rcases he with ⟨rfl,rfl⟩ | ⟨rfl,T,p,rfl⟩
  ·have key:∀ k,(Op.equalIn (k+1) t .nilIface .nilIface).run x.P w=.ok true w:=fun k=>by
    unfold Op.equalIn;simp [hT]
   have h':(Op.equal t .nilIface .nilIface).run x.P w=.ok true w:=key 9999;simp only [execOp,hs.ev hy,hz,Hu,eqGuard,binOp];simp [h']
  ·have key:∀ k,(Op.equalIn (k+1) t (.iface T p) .nilIface).run x.P w=.ok false w:=fun k=>by
    unfold Op.equalIn;simp [hT]
   have h':(Op.equal t (.iface T p) .nilIface).run x.P w=.ok false w:=key 9999;simp only [execOp,hs.ev hy,hz,Hu,eqGuard,binOp];simp [h']) k
def s5 (l:List U8):ByteArray:=⟨(l.map fun y=>UInt8.ofNat y.n.toNat).toArray⟩
theorem vr:∀ (ns:List Int) (r:ByteArray),ns.foldl (fun r n=>r.push (UInt8.ofNat n.toNat)) r=⟨r.data++(ns.map fun n=>UInt8.ofNat n.toNat).toArray⟩
 | [],r=>by simp
 | n::ns,r=>by
  rw [List.foldl_cons,vr ns];simp [ByteArray.push]
theorem aH.bytes {H:Hp}{v:Value}{l:List U8} (hR:aH H v l) {B:Nat}{w0 w:World}{M:List bQ}{P:Program} (ht:St B w0 H M w):(Conv.bytesToString v).run P w=.ok (.string (s5 l)) w:=by
 rcases hR with ⟨⟨a,rfl⟩,rfl⟩ | ⟨b,off,cap,arr,T,fz,rfl,h2,h3,h4,h5,h6⟩
 ·cases a with
  | none=>rfl
  | some a=>
   rw [run_bytesToString w a 0 0 [] (by simp [loadCells,loadCellsFrom,HI])]
   rfl
 ·have hl:=run_loadCells_list (P:=P) w ⟨b,off,none⟩ ((l.map fun y=>y.n).map (Value.int .u8)) (fun j v hj=>by
   rw [HR,HR,Option.map_map,K6] at hj;obtain ⟨y,hy,rfl⟩:=hj;obtain ⟨cs,q1,q2⟩:=h6 j y hy;have q1:cs=[.int .u8 y.n]:=q1;have:=q2 0 (.int .u8 y.n) (by rw [q1]; rfl)
   have hb:=ht.sF b _ h4;rw [IC];simp only [World.cell?,hb];simpa [aF.sz] using this)
  simp only [JO] at hl;rw [run_bytesToString w ⟨b,off,none⟩ l.length cap _ hl,vr];have he0:ByteArray.empty.data=#[]:=rfl;rw [he0];simp [s5,List.map_map,Function.comp_def]
end
def nS (n:Int):ByteArray:=⟨(Lib.itoa n).toArray⟩
def Dc (s:ByteArray):Int×Bool:=match Lib.parseUintM 4294967295 0 s.data.toList with
 | .ok v=>((v:Int),false)
 | .range=>(4294967295,true)
 | _=>(0,true)
end Go.Sim
namespace Go.Sim
open Go
open _root_.Go.IntKind (i64 u64 u32 u8)
abbrev qW (b c:Nat) (seen:Array Nat):Obj:=.mapIter (some b) c seen c
theorem Bx {P:Program}{w:World}{ty:TypeId}{b c it:Nat}{seen:Array Nat}{es:Array MapEntry} (hi:w.heap[it]? = some (qW b c seen)) (hb:w.heap[b]? = some (.map es c)) (hold:∀ e ∈ es.toList,e.born<c):
  ((∀ e ∈ es.toList,seen.contains e.born=true)∧(Instr.next (.pointer (some ⟨it,0,none⟩)) false ty).run P w=.ok (.tuple #[.bool false]) w) ∨
  ∃ e ∈ es.toList,seen.contains e.born=false∧∃ n,(Instr.next (.pointer (some ⟨it,0,none⟩)) false ty).run P w=.ok (.tuple #[.bool true,e.key,e.val]) { w with drawn:=n,heap:=w.heap.setIfInBounds it (qW b c (seen.push e.born)) }:=by
 simp only [Instr.next,getObj,Hu,Sem.run,hi,hb,Result.andThen,next_test_false seen es c c hold (HH _),Ji,JL];have hmem:∀ x ∈ (Array.filter (fun e=>!seen.contains e.born) es).toList,x ∈ es.toList∧seen.contains x.born=false:=fun x hx=>by simpa using hx
 have hall:Array.filter (fun e=>!seen.contains e.born) es=#[]→∀ e ∈ es.toList,seen.contains e.born=true:=fun h e he=>by
  rw [Array.filter_eq_empty_iff] at h;have:=h e (by simpa using he)
  simpa using this
 generalize Array.filter (fun e=>!seen.contains e.born) es=K at hmem hall ⊢;have e1:K.filter (fun x=>decide (x.born<c))=K:=Array.filter_eq_self.2 (fun x hx=>by
  have:=hold x (hmem x (by simpa using hx)).1
  simpa using this)
 have e2:K.filter (fun x=>decide (x.born≥c))=#[]:=by
  rw [Array.filter_eq_empty_iff];intro x hx;have:=hold x (hmem x (by simpa using hx)).1
  simp;omega
 simp only [e1,e2,Array.append_empty]
 by_cases h0:K.size=0
 ·left
  have:K=#[]:=Array.eq_empty_of_size_eq_zero h0;subst this;refine ⟨hall rfl,?_⟩;simp [choose,Sem.run,Question.forced]
 ·right
  have hne:K.isEmpty=false:=by simp [Array.isEmpty,h0]
  simp only [hne,Ji,JL,Array.empty_append,Array.size_map];have hch:∃ (j n:Nat),j<K.size∧(choose (Question.mapNext K.size)).run P w=.ok j { w with drawn:=n }:=by
   by_cases hf:K.size≤1
   ·exact ⟨0,w.drawn,by omega,by simp [choose,Sem.run,Question.forced,hf]⟩
   ·exact ⟨_,w.drawn+1,Kx _ (by omega),by
     simp only [choose,Sem.run,Question.forced,II,hf,JL,Question.cut]
     rfl⟩
  obtain ⟨j,n,hj,hrun⟩:=hch;obtain ⟨m1,m2⟩:=hmem K[j] (by simp)
  refine ⟨K[j],m1,m2,n,?_⟩;have hset:∀ o,(setObj it o).run P { w with drawn:=n }=.ok () { w with drawn:=n,heap:=w.heap.setIfInBounds it o }:=fun o=>by simp [setObj,Sem.run,hi]
  simp only [hrun,Array.getElem?_map,Kj hj,I6,Hu,hset,Result.andThen]
  rfl
theorem zW {P:Program}{w:World}{b c it:Nat}{seen:Array Nat}{es:Array MapEntry}{e:MapEntry} (hi:w.heap[it]? = some (qW b c (seen.push e.born))) (hb:w.heap[b]? = some (.map es c)) (he:e ∈ es.toList) (hn:(es.toList.map (·.born)).Nodup):
  (Instr.entry (.pointer (some ⟨it,0,none⟩))).run P w=.ok (.tuple #[e.key,e.val]) w:=by
 have hf:es.find? (·.born == e.born)=some e:=by rw [← Array.find?_toList]; exact find_born e es.toList hn he
 simp only [Instr.entry,getObj,Hu,Sem.run,hi,hb,Result.andThen,Array.back?_push,bne_self_eq_false,Ji,JL,hf]
 rfl
section
variable {x:Cx}{ops:Array Oper}{Q:kF}{rest:List Oper}{H:Hp}{M M':List bQ}{L L':Env}
variable {d:Nat}{ty:TypeId}{pos:String}{aft:Array Edge}{g:Option (Nat×Bool)}
variable {κ ν:Type}[DecidableEq κ] [rH κ] [MV ν]
theorem B3 {t key e:TypeId}{b c:Nat}{y:Operand}{es:Array MapEntry} (hm:bQ.obj b (.map es c) ∈ M)
  (hg:gd ops L ⟨some d,.range t y,ty,pos,aft,g⟩=some true) (hN:Nat.blt d x.N=true)
  (hT:∀ w,(underlying t).run x.P w=.ok (.map key e) w) (hy:ev L y=some (.map (some b)))
  (k:∀ it,W x ops Q rest H (.obj it (qW b c #[])::M) ((d,.pointer (some ⟨it,0,none⟩))::L)):
  W x ops Q (⟨some d,.range t y,ty,pos,aft,g⟩::rest) H M L:=
 ot rfl hg hN (fun a w hs ht=>⟨_,w.alloc (qW b c #[]),by
  have hb:=ht.qK hm;simp only [execOp,hs.ev hy,Instr.range,Hu,hT,Hn,rA hb,HI,newObj,Sem.run,World.alloc],_,_,ht.alloc _,k _⟩)
theorem DM {b c it:Nat}{y:Operand}{seen:Array Nat}{es:Array MapEntry}{l:List (κ×ν)} (hm:bQ.obj b (.map es c) ∈ M) (h:nQ es c l)
  (hg:gd ops L ⟨some d,.next y false,ty,pos,aft,g⟩=some true) (hN:Nat.blt d x.N=true) (hy:ev L y=some (.pointer (some ⟨it,0,none⟩)))
  (k1:(∀ e ∈ es.toList,seen.contains e.born=true)→W x ops Q rest H (.obj it (qW b c seen)::M) ((d,.tuple #[.bool false])::L))
  (k2:∀ e ∈ es.toList,seen.contains e.born=false→W x ops Q rest H (.obj it (qW b c (seen.push e.born))::M) ((d,.tuple #[.bool true,e.key,e.val])::L)):
  W x ops Q (⟨some d,.next y false,ty,pos,aft,g⟩::rest) H (.obj it (qW b c seen)::M) L:=
 ot rfl hg hN (fun a w hs ht=>by
  have hi:=ht.qK (Ha ..);have hb:=ht.qK (Ho _ hm);have hlt:it<w.heap.size:=(IZ.1 hi).1;rcases Bx (P:=x.P) (ty:=ty) hi hb h.lt with ⟨hall,hr⟩ | ⟨e,he,hne,n,hr⟩
  ·exact ⟨_,w,by simp only [execOp,hs.ev hy,Hu,hr,Hn,HI],_,_,ht,k1 hall⟩
  ·refine ⟨_,{ w with drawn:=n,heap:=w.heap.setIfInBounds it (qW b c (seen.push e.born)) },by simp only [execOp,hs.ev hy,Hu,hr,Hn,HI],_,_,?_,k2 e he hne⟩
   have h1:=ht.xG (r':=.obj it (qW b c (seen.push e.born))) (rZ w it (qW b c (seen.push e.born))) (by simp [bQ.ok,hlt]) (fun _ hc=>.inl hc)
   exact h1.drewN n)
theorem BW {b c it:Nat}{y:Operand}{seen:Array Nat}{es:Array MapEntry}{l:List (κ×ν)}{e:MapEntry} (hi:bQ.obj it (qW b c (seen.push e.born)) ∈ M) (hm:bQ.obj b (.map es c) ∈ M) (h:nQ es c l) (he:e ∈ es.toList) {vk vv:Value} (hk:e.key=vk) (hv:e.val=vv)
  (hg:gd ops L ⟨some d,.entry y,ty,pos,aft,g⟩=some true) (hN:Nat.blt d x.N=true) (hy:ev L y=some (.pointer (some ⟨it,0,none⟩)))
  (k:W x ops Q rest H M ((d,.tuple #[vk,vv])::L)):
  W x ops Q (⟨some d,.entry y,ty,pos,aft,g⟩::rest) H M L:=
 dY rfl hg hN (fun a w hs ht=>by
  subst hk; subst hv
  simp only [execOp,hs.ev hy,Hu,zW (P:=x.P) (ht.qK hi) (ht.qK hm) he h.nd,Hn,HI]) k
end
theorem nQ.pick {κ ν:Type}[DecidableEq κ] [rH κ] [MV ν] {es:Array MapEntry}{c:Nat}{l:List (κ×ν)} (h:nQ es c l) {e:MapEntry} (he:e ∈ es.toList):∃ (i:Nat) (p:κ×ν),es.toList[i]? = some e∧l[i]? = some p∧e.key=MV.mv p.1∧e.val=MV.mv p.2:=by
 obtain ⟨i,hi,rfl⟩:=IS.1 he;have h1:(es.toList.map fun e=>(e.key,e.val))[i]? = (l.map fun p=>(MV.mv p.1,MV.mv p.2))[i]? := by rw [h.eq]
 rw [HR,HR,G7 hi] at h1;cases hp:l[i]? with
 | none=>rw [hp] at h1; simp at h1
 | some p=>
  rw [hp] at h1;simp only [I6,H8,KW] at h1;exact ⟨i,p,G7 hi,hp,h1.1,h1.2⟩
def tl {α:Type} (es:Array MapEntry) (seen:Array Nat) (l:List α) (P:α→Bool):Prop:=∀ (i:Nat) (p:α),l[i]? = some p→∀ e,es.toList[i]? = some e→seen.contains e.born=true→P p=false
theorem tl.nil {α:Type}{es:Array MapEntry}{l:List α}{P:α→Bool}:tl es #[] l P:=fun i p hp e he h=>by simp at h
theorem tl.push {κ ν:Type}[DecidableEq κ] [rH κ] [MV ν] {es:Array MapEntry}{c:Nat}{seen:Array Nat}{l:List (κ×ν)}{P:κ×ν→Bool} (hs:tl es seen l P) (h:nQ es c l) {i:Nat}{p:κ×ν}{e:MapEntry}
  (hi:es.toList[i]? = some e) (hp:l[i]? = some p) (hP:P p=false):tl es (seen.push e.born) l P:=fun j q hq e' he' hc=>by
 by_cases hj:i=j
 ·subst hj
  rw [hp] at hq;obtain rfl:=G3 hq;exact hP
 ·refine hs j q hq e' he' ?_
  have hne:e'.born≠e.born:=fun hb=>by
   obtain ⟨h1,h2⟩:=G4.1 hi;obtain ⟨h3,h4⟩:=G4.1 he';have hpw:=KL.1 h.nd;have h1':i<(es.toList.map (·.born)).length:=by simpa using h1
   have h3':j<(es.toList.map (·.born)).length:=by simpa using h3
   rcases Nat.lt_or_gt_of_ne hj with hlt | hlt
   ·exact hpw i j h1' h3' hlt (by rw [Jy,Jy,h2,h4]; exact hb.symm)
   ·exact hpw j i h3' h1' hlt (by rw [Jy,Jy,h2,h4]; exact hb)
  simp at hc ⊢;rcases hc with hc | hc
  ·exact hc
  ·exact absurd hc hne
theorem tl.none {κ ν:Type}[DecidableEq κ] [rH κ] [MV ν] {es:Array MapEntry}{c:Nat}{seen:Array Nat}{l:List (κ×ν)}{P:κ×ν→Bool} (hs:tl es seen l P) (h:nQ es c l) (hall:∀ e ∈ es.toList,seen.contains e.born=true):l.any P=false:=by
 rw [List.any_eq_false];intro p hp;obtain ⟨i,hi,rfl⟩:=IS.1 hp;have hlen:es.toList.length=l.length:=by have:=Ht List.length h.eq; simpa using this
 have hi':i<es.toList.length:=by omega
 have:=hs i l[i] (G7 hi) es.toList[i] (G7 hi') (hall _ (Iu hi'));simp [this]
theorem Fb {α:Type}{l:List α}{P:α→Bool}{i:Nat}{p:α} (hp:l[i]? = some p) (hP:P p=true):l.any P=true:=
 List.any_eq_true.2 ⟨p,Hs hp,hP⟩
def xA (es:Array MapEntry) (seen:Array Nat):Nat:=(es.toList.filter fun e=>!seen.contains e.born).length
theorem BD {es:Array MapEntry}{seen:Array Nat}{e:MapEntry} (he:e ∈ es.toList) (h:seen.contains e.born=false):xA es (seen.push e.born)<xA es seen:=by
 unfold xA;refine filter_lt (fun e=>!seen.contains e.born) (fun e'=>!(seen.push e.born).contains e'.born) (fun y hy=>?_) e (by simp only [h]; rfl) (by simp) es.toList he
 simp at hy ⊢;exact hy.1
end Go.Sim
namespace Go.Sim
open Go Go.RowKit
open _root_.Go.IntKind (i64 u64 u32 u8)
def FZ (b:Nat) (p:Value):Prop:=p=.pointer none∨p=.pointer (some ⟨b,0,none⟩)
theorem uJ (s:ByteArray):Lib.strCells s=(fZ s).map (fun y=>Value.int .u8 y.n):=by
 simp [Lib.strCells,fZ,Function.comp_def]
theorem mG.u8 (H:Hp) (l:List U8):mG H (l.map fun y=>Value.int .u8 y.n) l:=by
 induction l with
 | nil=>exact mG.nil
 | cons y l ih=>exact ⟨[.int .u8 y.n],_,rfl,rfl,ih⟩
theorem uo {P:Program}{w:World}{t u ty e:TypeId}{i:TypeInfo} (ht:P.underlying t=some (.slice e)) (hu:P.underlying u=some .string) (hi:P.info? e=some i) (hz:i.zero=some (.int .u8 0))
  (hsize:i.size=1) (hby:i.bytes=1) {v:Value}{n:Nat}{xs:List Value} (hown:fJ w e 1 v n xs) (s:ByteArray) (h63:n+s.size≤maxLen) (hbytes:n+s.size≤140737488355328):
  ∃ v' w',(Builtin.append_ #[t,u] ty #[v,.string s]).run P w=.ok v' w'∧fJ w' e 1 v' (n+s.size) (xs++Lib.strCells s)∧w.grownBy w' v.ownBlock ∧
   (∀ b,v'.ownBlock=some b→v.ownBlock=some b∨w.heap.size≤b):=by
 have hsmall:n+s.size≤9223372036854775807:=by simp only [maxLen] at h63; omega
 have hxl:xs.length=n:=by simpa using hown.1
 have hlen:(xs++Lib.strCells s).length=(n+s.size)*1:=by rw [HN,hxl,KU,Kb]
 have grown:∀ (qk:Nat) (row:Option Nat),
   fJ (w.drew.alloc (.cells (xs.toArray++(Lib.strCells s).toArray++Builtin.zeroCells (Value.int .u8 0).cells (grownCap w (n+s.size) qk e-(n+s.size))) e)) e 1
    (.slice (some ⟨w.heap.size,0,none⟩) (n+s.size) (grownCap w (n+s.size) qk e)) (n+s.size) (xs++Lib.strCells s) ∧
   w.grownBy (w.drew.alloc (.cells (xs.toArray++(Lib.strCells s).toArray++Builtin.zeroCells (Value.int .u8 0).cells (grownCap w (n+s.size) qk e-(n+s.size))) e)) row:=by
  intro qk row;have hge:=Ml w (n+s.size) qk e;have hcm:grownCap w (n+s.size) qk e≤maxLen:=Lz w (n+s.size) qk e h63;refine ⟨⟨hlen,.inr ⟨w.heap.size,0,_,_,rfl,LK w.drew _,hge,hcm,?_,?_⟩⟩,⟨rfl,rfl,rfl,by simp,fun k hk _=>heap_alloc_old w.drew _ (h:=hk)⟩⟩
  ·have hz1:(Value.int u8 0).cells.size=1:=rfl
   simp only [Array.size_append,Kq,size_zeroCells,hz1,hxl,KU];omega
  ·simp only [Jf,Mc,HY]
   rw [← HY,← hlen];exact KP
 rcases hown.2 with ⟨rfl,rfl⟩ | ⟨g,off,cap,cur,rfl,hg,hnc,hcm,hcs,htake⟩
 ·have hx:xs=[]:=HZ hxl
  subst hx
  by_cases hm:s.size=0
  ·have hn:Lib.strCells s=[]:=HZ (by rw [KU]; exact hm)
   refine ⟨.slice none 0 0,w,?_,by rw [hm,hn]; exact fJ.nil w e 1,⟨rfl,rfl,rfl,HH _,fun _ _ _=>rfl⟩,by simp [Value.ownBlock]⟩
   have hf:=Lib.run_firstCells_string (P:=P) w 1 s;rw [hm] at hf;simp [Builtin.append_,I9 ht,I9 hu,sizeOf,typeInfo,hi,hsize,Builtin.lenOf,hm,hf]
  ·have hr:=run_append_nil_string (P:=P) w t u ty e i (.int .u8 0) ht hu hi hz s (by omega) (by omega) (by rw [hby]; omega)
   have hgr:=grown 0 (Value.ownBlock (.slice none 0 0));simp only [H4,Jv,Array.empty_append] at hgr ⊢;have e1:(s.data.map fun b=>Value.int .u8 b.toNat)=(Lib.strCells s).toArray:=by
    apply Array.ext';simp [Lib.strCells]
   rw [e1] at hr;exact ⟨_,_,hr,hgr.1,hgr.2,fun b hb=>.inr (by simp only [Value.ownBlock,H8] at hb; omega)⟩
 ·have hcs':off+cap≤cur.size:=by simpa using hcs
  by_cases hroom:n+s.size≤cap
  ·have hf:=Lib.run_firstCells_string (P:=P) w 1 s
   obtain ⟨w',hst,hh,hgr⟩:=gP (P:=P) g (off+n) e (Lib.strCells s) 0 cur.toList w (by simpa using hg) (by rw [KU]; simp; omega) (Lib.strCells_oneCell s)
   refine ⟨.slice (some ⟨g,off,none⟩) (n+s.size) cap,w',?_,⟨hlen,.inr ⟨g,off,cap,_,rfl,hh,hroom,hcm,?_,?_⟩⟩,hgr,fun b hb=>.inl hb⟩
   ·simp [Builtin.append_,I9 ht,I9 hu,sizeOf,typeInfo,hi,hsize,Builtin.lenOf,hroom,hf,IC,hst]
   ·simpa [lI] using hcs
   ·rw [J9,Jb,ry _ _ _ (by rw [KU]; simp; omega)]
    have hd:(cur.toList.take (off+n)).drop off=xs:=by rw [JV,JG]; simpa using htake
    rw [HY,Kr (by simp; omega),hd,← HY,← hlen]
    exact KP
  ·have holds:∀ j u,xs[j]? = some u→w.cell? ((⟨g,off,none⟩:Addr).add j)=some u:=by
    intro j u hu;rw [IC];refine L5 hg rfl ?_;rw [← htake,Is] at hu
    split at hu
    ·rw [Ia] at hu; simpa using hu
    ·cases hu
   have hr:=Lib.run_append_grow_string (P:=P) w t u ty e i (.int .u8 0) ht hu hi hz ⟨g,off,none⟩ n cap xs (by rw [hsize]; simpa using hxl) holds s (by omega) (by omega) (by rw [hby]; exact Mj (by omega) (by omega))
   have hgr:=grown cap (Value.ownBlock (.slice (some ⟨g,off,none⟩) n cap));exact ⟨_,_,hr,hgr.1,hgr.2,fun b hb=>.inr (by simp only [Value.ownBlock,H8] at hb; omega)⟩
section
variable {x:Cx}{ops:Array Oper}{Q:kF}{rest:List Oper}{H:Hp}{M M':List bQ}{L L':Env}
variable {d:Nat}{ty:TypeId}{pos:String}{aft:Array Edge}{g:Option (Nat×Bool)}
theorem xL {t u e:TypeId}{n:Nat}{y z:Operand}{v:Value}{xs:List Value}{l:List U8}{s:ByteArray}
  (hg:gd ops L ⟨some d,.call ⟨.builtin .append,#[y,z],#[t,u]⟩,ty,pos,aft,g⟩=some true) (hN:Nat.blt d x.N=true)
  (hT:x.P.underlying t=some (.slice e)) (hU:x.P.underlying u=some .string) (hi:FD x.P e 1 1 (.int .u8 0))
  (hy:ev L y=some v) (hz:ev L z=some (.string s)) (hx:Rw H v xs l) (hb:l.length+s.size≤140737488355328)
  (k:∀ v' xs',Rw H v' xs' (l++fZ s)→W x ops Q rest H (.row v' e (aF.sz U8) (l++fZ s).length xs'::M) ((d,v')::L)):
  W x ops Q (⟨some d,.call ⟨.builtin .append,#[y,z],#[t,u]⟩,ty,pos,aft,g⟩::rest) H (.row v e (aF.sz U8) n xs::M) L:=by
 obtain ⟨i,h1,h2,h3,h4⟩:=hi.ex;refine ot rfl hg hN fun a w hsl ht=>?_;have hown:fJ w e 1 v n xs:=ht.ok _ (Ha ..);have hn:n=l.length:=by
  have:=hx.rd.len;rw [hown.1] at this;exact Jl (Nat.zero_lt_one) this
 subst hn;obtain ⟨v',w',hr,ho,hgr,hfr⟩:=uo (P:=x.P) (ty:=ty) hT hU h1 h4 h2 h3 hown s (by unfold maxLen; omega) hb
 have hlen:(l++fZ s).length=l.length+s.size:=by rw [HN,s6]
 have hok:bQ.ok w' (.row v' e (aF.sz U8) (l++fZ s).length (xs++Lib.strCells s)):=by rw [hlen]; exact ho
 refine ⟨v',w',?_,H,_,ht.xG (r':=.row v' e (aF.sz U8) (l++fZ s).length (xs++Lib.strCells s)) hgr hok hfr,k v' _ ⟨?_,ho.shape⟩⟩
 ·simp [execOp,resolve,invoke,builtin,hsl.ev hy,hsl.ev hz,hr]
 ·rw [uJ]
  exact hx.rd.app (mG.u8 H _)
theorem xR {t e u:TypeId}{y z:Operand}{a:Addr} (hi:∃ j,x.P.info? e=some j) (hg:gd ops L ⟨some d,.binOp .neq t y z u,ty,pos,aft,g⟩=some true) (hN:Nat.blt d x.N=true)
  (hT:x.P.underlying t=some (.pointer e)) (hy:ev L y=some (.pointer (some a))) (hz:ev L z=some (.pointer (some a)))
  (k:W x ops Q rest H M ((d,.bool false)::L)):W x ops Q (⟨some d,.binOp .neq t y z u,ty,pos,aft,g⟩::rest) H M L:=
 dY rfl hg hN (fun c w hs _=>by
  obtain ⟨j,hj⟩:=hi;have h:=Lib.run_neq_ptr_same (P:=x.P) w a hT hj;simp only [execOp,hs.ev hy,hs.ev hz,Hu,eqGuard];simp [h]) k
theorem wJ {B:Nat}{w0 w:World}{b:Nat}{cs:List Value}{T:TypeId} (ht:St B w0 H M w) (hm:bQ.obj b (.cells cs.toArray T (0,0)) ∈ M):w.shape? b=some (T,cs.length):=by
 have h:=ht.qK hm;simp [World.shape?,h]
theorem y_ {src dst T e:TypeId}{y:Operand}{b o:Nat}{cs:List Value} (hm:bQ.obj b (.cells cs.toArray e (0,0)) ∈ M) (ho:Nat.blt o cs.length=true)
  (hi:∃ j,x.P.info? T=some j∧Nat.beq j.size 0=false) (hg:gd ops L ⟨some d,.convert src dst y,ty,pos,aft,g⟩=some true) (hN:Nat.blt d x.N=true)
  (hs:x.P.underlying src=some (.pointer T)) (hd:x.P.underlying dst=some .unsafePointer) (hy:ev L y=some (.pointer (some ⟨b,o,none⟩)))
  (k:W x ops Q rest H M ((d,.pointer (some ⟨b,o,none⟩))::L)):W x ops Q (⟨some d,.convert src dst y,ty,pos,aft,g⟩::rest) H M L:=
 dY rfl hg hN (fun c w hsl ht=>by
  obtain ⟨j,hj,hj0⟩:=hi;have h:=Lib.run_to_unsafe (P:=x.P) w ⟨b,o,none⟩ hs hd hj (fun e=>by rw [e] at hj0; cases hj0) (wJ ht hm) (by simpa [ID] using ho)
  simp only [execOp,hsl.ev hy,Hu,h,Hn,HI]) k
theorem wU {src dst T e:TypeId}{y:Operand}{b o:Nat}{cs:List Value} (hm:bQ.obj b (.cells cs.toArray e (0,0)) ∈ M)
  (hi:∃ j,x.P.info? T=some j) (hl:liesAt x.P x.P.depth e (cs.length / x.P.cellsOf e) o T 1=true) (hg:gd ops L ⟨some d,.convert src dst y,ty,pos,aft,g⟩=some true) (hN:Nat.blt d x.N=true)
  (hs:x.P.underlying src=some .unsafePointer) (hd:x.P.underlying dst=some (.pointer T)) (hy:ev L y=some (.pointer (some ⟨b,o,none⟩)))
  (k:W x ops Q rest H M ((d,.pointer (some ⟨b,o,none⟩))::L)):W x ops Q (⟨some d,.convert src dst y,ty,pos,aft,g⟩::rest) H M L:=
 dY rfl hg hN (fun c w hsl ht=>by
  obtain ⟨j,hj⟩:=hi;have h:=Lib.run_from_unsafe (P:=x.P) w ⟨b,o,none⟩ hs hd hj (wJ ht hm) hl;simp only [execOp,hsl.ev hy,Hu,h,Hn,HI]) k
theorem xp {P:Program}{f:FuncId}{fn:Func} (hf:P.funcs[f]? = some fn) (h1:(fn.name == "runtime.NumGoroutine")=false) (h2:fn.body.isNone=true) (h3:Extern.findNext fn=none) (h4:Extern.find fn=some Extern.AbiNoEscape.same) (v:Value):
  ∀ w,(callFunc f [v].toArray).run P w=.ok (.value v) w:=fun w=>by
 rw [run_callFunc_extern hf h1 h2 h3 h4,show [v].toArray=#[v] from rfl,Lib.run_noEscape]
 rfl
theorem xU {ts:Array TypeId}{y:Operand}{a:Addr}{n c:Nat} (hg:gd ops L ⟨some d,.call ⟨.builtin .unsafeSliceData,#[y],ts⟩,ty,pos,aft,g⟩=some true) (hN:Nat.blt d x.N=true)
  (hy:ev L y=some (.slice (some a) n c)) (hc:c≠0) (k:W x ops Q rest H M ((d,.pointer (some a))::L)):
  W x ops Q (⟨some d,.call ⟨.builtin .unsafeSliceData,#[y],ts⟩,ty,pos,aft,g⟩::rest) H M L:=
 dY rfl hg hN (fun s w hsl ht=>by
  have h:=Lib.run_unsafeSliceData_row (P:=x.P) w ts ty a n c hc;simp [execOp,resolve,invoke,builtin,hsl.ev hy,h]) k
theorem so {P:Program} (w:World):∀ (l:List U8) (a:Addr) (acc:ByteArray),(∀ j y,l[j]? = some y→w.cell? (a.add j)=some (.int .u8 y.n)) →
  (loadBytes a acc l.length).run P w=.ok ⟨acc.data++(l.map fun y=>UInt8.ofNat y.n.toNat).toArray⟩ w
 | [],a,acc,_=>by simp [loadBytes]
 | y::l,a,acc,h=>by
  have h0:w.cell? a=some (.int .u8 y.n):=by
   have:=h 0 y rfl;simpa [Addr.add] using this
  have ih:=so (P:=P) w l (a.add 1) (acc.push (UInt8.ofNat y.n.toNat)) (fun j z hz=>by
   have:=h (j+1) z (by simpa using hz)
   have e:(a.add 1).add j=a.add (j+1):=by
    unfold Addr.add
    by_cases hj:j=0
    ·subst hj; simp
    ·simp [hj]; omega
   rw [e]; exact this)
  have hx:(y.n.toNat).toUInt8=UInt8.ofNat y.n.toNat:=rfl;simp only [Hw,loadBytes,Hu,run_load,h0,Result.andThen,hx];rw [ih]
  congr 1
  apply ByteArray.ext;simp [ByteArray.push]
theorem wh {P:Program}{e:TypeId} (hc:P.cellsOf e=1) (count off n:Nat) (hn:off+n≤count):liesAt P P.depth e count off e n=true:=by
 have hd:P.depth=(2*(P.types.size+Made.depth)+1)+1:=rfl;rw [hd];simp only [liesAt,Jj]
 left
 rw [hd];simp [rowAt,hc,hn,sameLayout,Nat.mod_one]
theorem xV {pt it e:TypeId}{y z:Operand}{gb off n cap:Nat}{xs:List Value}{l:List U8}
  (hg:gd ops L ⟨some d,.call ⟨.builtin .unsafeString,#[y,z],#[pt,it]⟩,ty,pos,aft,g⟩=some true) (hN:Nat.blt d x.N=true)
  (hp:x.P.underlying pt=some (.pointer e)) (hc:x.P.cellsOf e=1)
  (hy:ev L y=some (.pointer (some ⟨gb,off,none⟩))) (hz:ev L z=some (.int .i64 (l.length:Int))) (h0:0<l.length)
  (hx:Rw H (.slice (some ⟨gb,off,none⟩) n cap) xs l)
  (k:W x ops Q rest H M ((d,.string (s5 l))::L)):
  W x ops Q (⟨some d,.call ⟨.builtin .unsafeString,#[y,z],#[pt,it]⟩,ty,pos,aft,g⟩::rest) H (.row (.slice (some ⟨gb,off,none⟩) n cap) e (aF.sz U8) n xs::M) L:=by
 refine ot rfl hg hN fun a w hsl ht=>?_;have hown:fJ w e 1 (.slice (some ⟨gb,off,none⟩) n cap) n xs:=ht.ok _ (Ha ..);have hn:n=l.length:=by
  have:=hx.rd.len;rw [hown.1] at this;exact Jl (Nat.zero_lt_one) this
 rcases hown.2 with ⟨h,_⟩ | ⟨g',off',my,cur,he,hgc,hnc,hcm,hcs,htake⟩
 ·cases h
 cases he;have hcs':off+cap≤cur.size:=by simpa using hcs
 have hsh:w.shape? gb=some (e,cur.size):=by simp [World.shape?,hgc]
 have hcell:∀ j y,l[j]? = some y→w.cell? ((⟨gb,off,none⟩:Addr).add j)=some (.int .u8 y.n):=by
  intro j y hj;obtain ⟨cs,h1,h2⟩:=hx.rd.get j y hj;have h1:cs=[.int .u8 y.n]:=h1;have h3:=h2 0 (.int .u8 y.n) (by rw [h1]; rfl)
  rw [IC];refine L5 hgc rfl ?_;rw [← htake,Is] at h3
  split at h3
  ·rw [Ia] at h3
   simpa [aF.sz] using h3
  ·cases h3
 have hlb:=so (P:=x.P) w l ⟨gb,off,none⟩ .empty hcell;have hlies:=wh (P:=x.P) hc (cur.size / x.P.cellsOf e) off l.length (by rw [hc,Nat.div_one]; omega)
 have hmax:i64.max=9223372036854775807:=rfl;have hl0:l.length≠0:=by omega
 have h63':¬ (9223372036854775807:Int)<(l.length:Int):=by unfold maxLen at hcm; omega
 have hneg:¬ (l.length:Int)<0:=by omega
 have hrun:(Builtin.unsafeString_ #[pt,it] ty #[.pointer (some ⟨gb,off,none⟩),.int .i64 l.length]).run x.P w=.ok (.string (s5 l)) (w.freeze ⟨gb,off,none⟩ l.length):=by
  have hdef:Builtin.unsafeString_ #[pt,it] ty #[.pointer (some ⟨gb,off,none⟩),.int .i64 l.length] =
    (do
     let n ← asInt (.int .i64 l.length)
     if n<0 then runtimePanic (.error "unsafe.String: len out of range")
     if n > i64.max then unsupported (.unsafePointer "String: a length above the largest int")
     if n=0 then pure (.string .empty)
     else if ← variablesAt ⟨gb,off,none⟩ (← elemOf pt) n.toNat then do
      let s ← loadBytes ⟨gb,off,none⟩ .empty n.toNat
      freeze ⟨gb,off,none⟩ n.toNat
      pure (.string s)
     else unsupported (.unsafePointer "String: not so many bytes at ptr")):=rfl
  rw [hdef];have he0:ByteArray.empty.data=#[]:=rfl;simp [asInt,asIntOf,hmax,h63',hneg,hl0,variablesAt,hsh,elemOf,I9 hp,hlies,hlb,s5]
 have hgr:w.grownBy (w.freeze ⟨gb,off,none⟩ l.length) (some gb):=by
  unfold World.freeze
  split
  ·exact ⟨rfl,rfl,rfl,HH _,fun _ _ _=>rfl⟩
  ·exact ⟨rfl,rfl,rfl,by simp,fun q hq hne=>by
    simp only [LZ];rw [Hh (by intro e; exact hne (by rw [e]))]⟩
 have h1:=ht.xG (r':=.row (.slice none 0 0) 0 1 0 []) hgr (fJ.nil _ _ _) (by intro b hb; simp [bQ.pU,Value.ownBlock] at hb)
 refine ⟨.string (s5 l),w.freeze ⟨gb,off,none⟩ l.length,?_,H,M,h1.tail,k⟩;simp [execOp,resolve,invoke,builtin,hsl.ev hy,hsl.ev hz,hrun]
end
end Go.Sim
namespace Go.Sim
open Go
open _root_.Go.IntKind (i64 u64 u32 u8)
def rowsOf (T:TypeId) (sz:Nat) {α:Type} (ws:List (Value×List Value)) (ls:List (List α)):List bQ:=List.zipWith (fun w l=>bQ.row w.1 T sz l.length w.2) ws ls
structure Mx {α:Type}[aF α] (T1 T2:TypeId) (H:Hp) (v:Value) (hs:List Value) (mx:List bQ) (sg:List Nat) (ls:List (List α)):Prop where
 ex:∃ (xs:List Value) (ws:List (Value×List Value)),mx=.row v T1 1 sg.length xs::rowsOf T2 (aF.sz α) ws ls∧ws.length=ls.length∧ws.map (·.1)=hs∧(∀ (k:Nat) (w:Value×List Value) (l:List α),ws[k]? = some w→ls[k]? = some l→Rw H w.1 w.2 l) ∧
  xs.length=sg.length∧(∀ (i k:Nat),sg[i]? = some k→∃ w:Value×List Value,ws[k]? = some w∧xs[i]? = some w.1)
 sl:∃ a n c,v=.slice a n c
section
variable {α:Type}[aF α] {T1 T2:TypeId}{H H':Hp}{v:Value}{hs:List Value}{mx:List bQ}{sg:List Nat}{ls:List (List α)}
theorem Mx.mono (h:Mx T1 T2 H v hs mx sg ls) (hle:H.le H'):Mx T1 T2 H' v hs mx sg ls:=by
 obtain ⟨xs,ws,h1,h2,h2',h3,h4,h5⟩:=h.ex;exact ⟨⟨xs,ws,h1,h2,h2',fun k w l a b=>(h3 k w l a b).mono hle,h4,h5⟩,h.sl⟩
theorem zD {ws:List (Value×List Value)}{k:Nat}{w:Value} (hh:ws.map (·.1)=hs) (hw:hs[k]? = some w):∃ u,ws[k]? = some u∧u.1=w:=by
 rw [← hh,HR] at hw;cases e:ws[k]? with
 | none=>rw [e] at hw; simp at hw
 | some u=>rw [e] at hw; exact ⟨u,rfl,G3 hw⟩
theorem Mx.row (h:Mx T1 T2 H v hs mx sg ls) {k:Nat}{w:Value} (hw:hs[k]? = some w):∃ (xs:List Value) (m1 m2:List bQ),k<ls.length∧mx=m1++.row w T2 (aF.sz α) ((ls[k]?).getD []).length xs::m2∧Rw H w xs ((ls[k]?).getD []) ∧
  ∀ (H':Hp) (xs':List Value) (l':List α),H.le H'→Rw H' w xs' l'→Mx T1 T2 H' v hs (m1++.row w T2 (aF.sz α) l'.length xs'::m2) sg (ls.set k l'):=by
 obtain ⟨oxs,ws,rfl,h2,h2',h3,h4,h5⟩:=h.ex;have hh:=hw;clear hw;obtain ⟨w,hw,rfl⟩:=zD h2' hh;have hkw:k<ws.length:=(G4.1 hw).1;have hk:k<ls.length:=by omega
 have hl:=G7 hk;have hwe:ws[k]=w:=by rw [G7 hkw] at hw; exact G3 hw
 have hsp:∀ (ws:List (Value×List Value)) (ls:List (List α)) (h1:k<ws.length) (h2:k<ls.length),rowsOf T2 (aF.sz α) ws ls=rowsOf T2 (aF.sz α) (ws.take k) (ls.take k)++.row ws[k].1 T2 (aF.sz α) ls[k].length ws[k].2::rowsOf T2 (aF.sz α) (ws.drop (k+1)) (ls.drop (k+1)):=fun ws ls h1 h2=>by
  have e1:ws=ws.take k++ws[k]::ws.drop (k+1):=by rw [← Iw h1,I_]
  have e2:ls=ls.take k++ls[k]::ls.drop (k+1):=by rw [← Iw h2,I_]
  have e3:rowsOf T2 (aF.sz α) ws ls=rowsOf T2 (aF.sz α) (ws.take k++ws[k]::ws.drop (k+1)) (ls.take k++ls[k]::ls.drop (k+1)):=by rw [← e1,← e2]
  rw [e3];unfold rowsOf;rw [KV (by simp; omega)]
  rfl
 have hg:(ls[k]?).getD []=ls[k]:=by rw [hl]; rfl
 rw [hg];refine ⟨w.2,.row v T1 1 sg.length oxs::rowsOf T2 (aF.sz α) (ws.take k) (ls.take k),rowsOf T2 (aF.sz α) (ws.drop (k+1)) (ls.drop (k+1)),hk,?_,h3 k w _ hw hl,fun H' xs' l' hle hr=>⟨⟨oxs,ws.set k (w.1,xs'),?_,by simp [h2],?_,fun j u l hu hl'=>?_,h4,fun i' j hj=>?_⟩,h.sl⟩⟩
 ·rw [hsp ws ls hkw hk,hwe]; rfl
 ·rw [hsp (ws.set k (w.1,xs')) (ls.set k l') (by simpa using hkw) (by simpa using hk)]
  have t1:(ws.set k (w.1,xs')).take k=ws.take k:=J8 (HH k);have t2:(ls.set k l').take k=ls.take k:=J8 (HH k);have t3:(ws.set k (w.1,xs')).drop (k+1)=ws.drop (k+1):=J6 (Hf k);have t4:(ls.set k l').drop (k+1)=ls.drop (k+1):=J6 (Hf k);rw [t1,t2,t3,t4];simp
 ·rw [List.map_set,h2']
  obtain ⟨e1,e2⟩:=G4.1 hh;rw [← e2,List.set_getElem_self]
 ·by_cases e:k=j
  ·subst e
   rw [HP hkw] at hu;rw [HP hk] at hl';obtain rfl:=G3 hu;obtain rfl:=G3 hl';exact hr
  ·rw [HJ e] at hu hl'
   exact (h3 j u l hu hl').mono hle
 ·obtain ⟨u,hu,hx'⟩:=h5 i' j hj
  by_cases e:k=j
  ·subst e
   rw [hw] at hu;obtain rfl:=G3 hu;exact ⟨(w.1,xs'),by rw [HP hkw],hx'⟩
  ·exact ⟨u,by rw [HJ e]; exact hu,hx'⟩
theorem Mx.outer (h:Mx T1 T2 H v hs mx sg ls):∃ oxs m2,mx=.row v T1 1 sg.length oxs::m2∧oxs.length=sg.length∧(∀ (i k:Nat),sg[i]? = some k→∃ w,hs[k]? = some w∧oxs[i]? = some w) ∧
  (∀ (i k:Nat) (w:Value),i<sg.length→hs[k]? = some w→Mx T1 T2 H v hs (.row v T1 1 (sg.set i k).length (oxs.set i w)::m2) (sg.set i k) ls) ∧
  (∀ (i:Nat) (w:Value) (xs:List Value) (l:List α),i<sg.length→Rw H w xs l→Mx T1 T2 H v (hs++[w]) (.row v T1 1 (sg.set i ls.length).length (oxs.set i w)::(m2++[.row w T2 (aF.sz α) l.length xs])) (sg.set i ls.length) (ls++[l])):=by
 obtain ⟨oxs,ws,rfl,h2,h2',h3,h4,h5⟩:=h.ex;refine ⟨oxs,_,rfl,h4,fun i k hk=>?_,fun i k w hi hw=>?_,fun i w xs l hi hr=>?_⟩
 ·obtain ⟨u,hu,hx⟩:=h5 i k hk
  exact ⟨u.1,by rw [← h2',HR,hu]; rfl,hx⟩
 ·obtain ⟨u,hu,rfl⟩:=zD h2' hw
  refine ⟨⟨oxs.set i u.1,ws,rfl,h2,h2',h3,by simp [h4],fun i' k' hk'=>?_⟩,h.sl⟩
  by_cases e:i=i'
  ·subst e
   rw [HP hi] at hk';obtain rfl:=G3 hk';exact ⟨u,hu,by rw [HP (by omega)]⟩
  ·rw [HJ e] at hk'
   obtain ⟨u',hu',hx'⟩:=h5 i' k' hk';exact ⟨u',hu',by rw [HJ e]; exact hx'⟩
 ·refine ⟨⟨oxs.set i w,ws++[(w,xs)],?_,by simp [h2],by simp [h2'],fun j u l' hu hl'=>?_,by simp [h4],fun i' k' hk'=>?_⟩,h.sl⟩
  ·unfold rowsOf
   rw [KV h2]
   rfl
  ·rcases Jw j ls.length with hj | hj
   ·rw [IL (by omega)] at hu hl'
    exact h3 j u l' hu hl'
   ·rw [HU (by omega)] at hu hl'
    rw [h2] at hu;cases e:j-ls.length with
    | zero=>
     rw [e] at hu hl';obtain rfl:=G3 hu;obtain rfl:=G3 hl';exact hr
    | succ m=>rw [e] at hu; simp at hu
  ·by_cases e:i=i'
   ·subst e
    rw [HP hi] at hk';obtain rfl:=G3 hk';exact ⟨(w,xs),by rw [HU (by omega),h2,IN]; rfl,by rw [HP (by omega)]⟩
   ·rw [HJ e] at hk'
    obtain ⟨u',hu',hx'⟩:=h5 i' k' hk';exact ⟨u',by rw [IL (G4.1 hu').1]; exact hu',by rw [HJ e]; exact hx'⟩
end
structure AX where
 mk ::
instance:aF AX where
 sz:=1
 E _ cs _:=cs=[.slice none 0 0]
 len h:=by rw [h]; rfl
 mono _ h:=h
 one h c hc:=by rw [h] at hc; simp at hc; subst hc; rfl
theorem vJ {H:Hp}:∀ {n:Nat}{xs:List Value},mG H xs (List.replicate n AX.mk)→xs=List.replicate n (.slice none 0 0)
 | 0,xs,h=>h
 | n+1,xs,h=>by
  obtain ⟨cs,r,rfl,he,hr⟩:=h;have he:cs=[.slice none 0 0]:=he;rw [he,vJ hr]; rfl
section
variable {α:Type}[aF α] {T1 T2:TypeId}{H H':Hp}{v:Value}{hs:List Value}{mx:List bQ}{sg:List Nat}{ls:List (List α)}
theorem Mx.make {n:Nat}{oxs:List Value} (h:Rw H v oxs (List.replicate n AX.mk)):Mx T1 T2 H v [.slice none 0 0] (.row v T1 1 (List.replicate n 0).length oxs::[.row (.slice none 0 0) T2 (aF.sz α) 0 []]) (List.replicate n 0) ([[]]:List (List α)):=by
 have hx:=vJ h.rd;refine ⟨⟨oxs,[(.slice none 0 0,[])],rfl,rfl,rfl,fun k w l hw hl=>?_,by rw [hx]; simp,fun i k hk=>?_⟩,h.sl⟩
 ·cases k with
  | zero=>
   obtain rfl:=G3 hw;obtain rfl:=G3 hl;exact Rw.nil
  | succ k=>simp at hw
 ·obtain ⟨hi,he⟩:=G4.1 hk
  rw [List.getElem_replicate] at he;subst he;refine ⟨_,rfl,?_⟩;rw [hx,JZ,Hi (by simpa using hi)]
theorem vx {B:Nat}{w0 w:World}{M:List bQ} (hs:0<aF.sz α):∀ (ws:List (Value×List Value)) (ls:List (List α)) (H:Hp),ws.length=ls.length →
  (∀ (k:Nat) (u:Value×List Value) (l:List α),ws[k]? = some u→ls[k]? = some l→Rw H u.1 u.2 l)→St B w0 H (rowsOf T2 (aF.sz α) ws ls++M) w →
  ∃ H',H.le H'∧St B w0 H' M w∧∀ (k:Nat) (u:Value×List Value) (l:List α),ws[k]? = some u→ls[k]? = some l→aH H' u.1 l
 | [],[],H,_,_,ht=>⟨H,G5 _,ht,fun k u l hu _=>by simp at hu⟩
 | [],_::_,H,hl,_,_=>by simp at hl
 | _::_,[],H,hl,_,_=>by simp at hl
 | u::ws,l::ls,H,hl,hr,ht=>by
  have ht:St B w0 H (.row u.1 T2 (aF.sz α) l.length u.2::(rowsOf T2 (aF.sz α) ws ls++M)) w:=ht;obtain ⟨H1,h1,h2,h3⟩:=ht.qV (hr 0 u l rfl rfl).rd hs;obtain ⟨H2,g1,g2,g3⟩:=vx hs ws ls H1 (by simpa using hl) (fun k u' l' hu hl'=>(hr (k+1) u' l' (by simpa using hu) (by simpa using hl')).mono h1) h2
  refine ⟨H2,G1 h1 g1,g2,fun k u' l' hu hl'=>?_⟩;cases k with
  | zero=>
   obtain rfl:=G3 hu;obtain rfl:=G3 hl';exact h3.mono g1
  | succ k=>exact g3 k u' l' (by simpa using hu) (by simpa using hl')
theorem wL {H:Hp}:∀ (xs:List Value) (l:List (List α)),xs.length=l.length→(∀ (i:Nat) (y:Value) (e:List α),xs[i]? = some y→l[i]? = some e→aH H y e)→mG H xs l
 | [],[],_,_=>rfl
 | [],_::_,h,_=>by simp at h
 | _::_,[],h,_=>by simp at h
 | y::xs,e::l,h,hr=>⟨[y],xs,rfl,⟨y,rfl,hr 0 y e rfl rfl⟩,wL xs l (by simpa using h) (fun i y' e' hy he=>hr (i+1) y' e' (by simpa using hy) (by simpa using he))⟩
def m_ (sg:List Nat) (ls:List (List α)):List (List α):=sg.map fun k=>(ls[k]?).getD []
theorem St.yf {B:Nat}{w0 w:World}{M:List bQ} (ht:St B w0 H (mx++M) w) (h:Mx T1 T2 H v hs mx sg ls) (h0:0<aF.sz α):∃ H',H.le H'∧St B w0 H' M w∧aH H' v (m_ sg ls):=by
 obtain ⟨oxs,ws,rfl,h2,_,h3,h4,h5⟩:=h.ex;have ht1:St B w0 H (rowsOf T2 (aF.sz α) ws ls++(.row v T1 1 sg.length oxs::M)) w:=ht.perm (by
  rw [JQ];exact List.perm_middle.symm)
 obtain ⟨H1,g1,g2,g3⟩:=vx h0 ws ls H h2 h3 ht1;have hv:(m_ sg ls).length=sg.length:=by unfold m_; simp
 have hrd:mG H1 oxs (m_ sg ls):=wL oxs _ (by rw [hv]; exact h4) (fun i y e hy he=>by
  unfold m_ at he;rw [HR] at he;cases hk:sg[i]? with
  | none=>rw [hk] at he; simp at he
  | some k=>
   rw [hk] at he;obtain ⟨u,hu,hx⟩:=h5 i k hk;rw [hy] at hx;obtain rfl:=G3 hx;have hkl:k<ls.length:=by rw [← h2]; exact (G4.1 hu).1
   have hl:=G7 hkl;simp only [I6,H8] at he;rw [hl,Jz] at he;rw [← he];exact g3 k u _ hu hl)
 have g2':St B w0 H1 (.row v T1 (aF.sz (List α)) sg.length oxs::M) w:=g2;obtain ⟨H2,k1,k2,k3⟩:=g2'.qV hrd Nat.one_pos;exact ⟨H2,G1 g1 k1,k2,k3⟩
end
section
variable {x:Cx}{ops:Array Oper}{Q:kF}{rest:List Oper}{H:Hp}{M:List bQ}{L:Env}
theorem y8 {α:Type}[aF α] {T1 T2:TypeId}{v:Value}{hs:List Value}{mx:List bQ}{sg:List Nat}{ls:List (List α)} (h:Mx T1 T2 H v hs mx sg ls) (h0:Nat.blt 0 (aF.sz α)=true)
  (k:∀ H',H.le H'→aH H' v (m_ sg ls)→W x ops Q rest H' M L):W x ops Q rest H (mx++M) L:=by
 intro a w hsl ht;obtain ⟨H',h1,h2,h3⟩:=St.yf ht h (by simpa [ID] using h0)
 exact k H' h1 h3 a w hsl h2
variable {d:Nat}{ty:TypeId}{pos:String}{aft:Array Edge}{g:Option (Nat×Bool)}
theorem ob (pre m1 m2 M0:List bQ) (r:bQ):(pre++((m1++r::m2)++M0)).Perm (r::(pre++((m1++m2)++M0))):=by
 have h1:(pre++((m1++r::m2)++M0))=(pre++m1)++r::(m2++M0):=by simp
 have h2:(r::(pre++((m1++m2)++M0)))=r::((pre++m1)++(m2++M0)):=by simp
 rw [h1,h2];exact List.perm_middle
theorem Mx.get {α:Type}[aF α] {T1 T2:TypeId}{v:Value}{hs:List Value}{mx:List bQ}{sg:List Nat}{ls:List (List α)} (h:Mx T1 T2 H v hs mx sg ls) {k:Nat}{w:Value} (hw:hs[k]? = some w):
  ∃ xs:List Value,bQ.row w T2 (aF.sz α) ((ls[k]?).getD []).length xs ∈ mx∧Rw H w xs ((ls[k]?).getD []):=by
 obtain ⟨xs,m1,m2,_,he,hr,_⟩:=h.row hw;exact ⟨xs,by rw [he]; exact IG _ (Ha ..),hr⟩
theorem oD {α:Type}[aF α] {T1 T2 T:TypeId}{m:Nat}{y z:Operand}{v u w:Value}{ad:Addr}{hs cs:List Value}{pre mx:List bQ}{sg:List Nat}{ls:List (List α)}{k j:Nat}{e2:α}
  (h:Mx T1 T2 H v hs mx sg ls) (hx:hs[k]? = some w) (hj:j<((ls[k]?).getD []).length) (hE:aF.E H cs e2)
  (hg:gd ops L ⟨none,.store T y z,ty,pos,aft,g⟩=some true) (hn:∀ w,(sizeOf T).run x.P w=.ok m w) (hm:m=aF.sz α) (h0:Nat.blt 0 (aF.sz α)=true)
  (hy:ev L y=some (.pointer (some ad))) (had:ad=(Value.base w).add (j*aF.sz α)) (hz:ev L z=some u) (hv:u.cells=cs.toArray)
  (kk:∀ mx',Mx T1 T2 H v hs mx' sg (ls.set k (((ls[k]?).getD []).set j e2))→W x ops Q rest H (pre++(mx'++M)) L):
  W x ops Q (⟨none,.store T y z,ty,pos,aft,g⟩::rest) H (pre++(mx++M)) L:=by
 obtain ⟨xs,m1,m2,hk,rfl,hr,hup⟩:=h.row hx;have hcl:=aF.len hE;have hs':0<aF.sz α:=by simpa [ID] using h0
 have he:=G7 hj;obtain ⟨c,hc,hgc⟩:=hr.elem he;have hccl:=aF.len hc;have ho:over c 0 cs=cs:=by
  rw [ry cs c 0 (by omega),LH,Jv,List.drop_eq_nil_of_le (by omega),H9]
 obtain ⟨p1,_,_⟩:=Rw.put (k:=j) (o:=0) (e2:=e2) hr he hc hgc (by simp [Kn]; omega) ho hE
 have hroom:j*aF.sz α+cs.length≤xs.length:=by
  have hlen:=hr.rd.len;have:(j+1)*aF.sz α≤((ls[k]?).getD []).length*aF.sz α:=HA _ hj;rw [HF,Lm] at this;omega
 refine a_ (ob pre m1 m2 M _) ?_;refine rU (i:=j*aF.sz α) (cs:=cs) hg hn hy had hz hv (by omega) hroom (by simp [ID]; omega) (aF.one hE) ?_
 have h2:=hup H _ _ (G5 _) p1;rw [Hx,Jb] at h2;refine a_ (ob pre m1 m2 M _).symm ?_;exact kk _ h2
theorem Ae {α:Type}[aF α] {T1 T2 T:TypeId}{y z:Operand}{v w:Value}{ad:Addr}{hs:List Value}{pre mx:List bQ}{sg:List Nat}{ls:List (List α)}{i k:Nat}
  (h:Mx T1 T2 H v hs mx sg ls) (hi:i<sg.length) (hx:hs[k]? = some w)
  (hg:gd ops L ⟨none,.store T y z,ty,pos,aft,g⟩=some true) (hn:∀ w,(sizeOf T).run x.P w=.ok 1 w)
  (hy:ev L y=some (.pointer (some ad))) (had:ad=(Value.base v).add (i*1)) (hz:ev L z=some w)
  (kk:∀ mx',Mx T1 T2 H v hs mx' (sg.set i k) ls→W x ops Q rest H (pre++(mx'++M)) L):
  W x ops Q (⟨none,.store T y z,ty,pos,aft,g⟩::rest) H (pre++(mx++M)) L:=by
 obtain ⟨_,_,_,_,_,hr,_⟩:=h.row hx;obtain ⟨oxs,m2,rfl,hl,_,hput,_⟩:=h.outer;refine a_ (ob pre [] m2 M _) ?_;refine rU (i:=i*1) (cs:=[w]) hg hn hy had hz hr.cells rfl (by simp; omega) rfl (fun c hc=>by simp at hc; subst hc; exact hr.one) ?_
 have h2:=hput i k w hi hx;rw [Hx] at h2;have e:over oxs (i*1) [w]=oxs.set i w:=by rw [Kb]; rfl
 rw [e];refine a_ (ob pre [] m2 M _).symm ?_;exact kk _ h2
theorem wT {α:Type}[aF α] {T1 T2 T:TypeId}{y z:Operand}{v w:Value}{ad:Addr}{hs xs:List Value}{pre mx:List bQ}{sg:List Nat}{ls:List (List α)}{l:List α}{i:Nat}
  (h:Mx T1 T2 H v hs mx sg ls) (hi:i<sg.length) (hr:Rw H w xs l)
  (hg:gd ops L ⟨none,.store T y z,ty,pos,aft,g⟩=some true) (hn:∀ w,(sizeOf T).run x.P w=.ok 1 w)
  (hy:ev L y=some (.pointer (some ad))) (had:ad=(Value.base v).add (i*1)) (hz:ev L z=some w)
  (kk:∀ mx',Mx T1 T2 H v (hs++[w]) mx' (sg.set i ls.length) (ls++[l])→W x ops Q rest H (pre++(mx'++M)) L):
  W x ops Q (⟨none,.store T y z,ty,pos,aft,g⟩::rest) H (.row w T2 (aF.sz α) l.length xs::(pre++(mx++M))) L:=by
 obtain ⟨oxs,m2,rfl,hl,_,_,hadd⟩:=h.outer;have p1:(bQ.row w T2 (aF.sz α) l.length xs::(pre++((.row v T1 1 sg.length oxs::m2)++M))).Perm (.row v T1 1 sg.length oxs::(.row w T2 (aF.sz α) l.length xs::(pre++(m2++M)))):=
  ((ob pre [] m2 M _).cons _).trans (List.Perm.swap _ _ _)
 refine a_ p1 ?_;refine rU (i:=i*1) (cs:=[w]) hg hn hy had hz hr.cells rfl (by simp; omega) rfl (fun c hc=>by simp at hc; subst hc; exact hr.one) ?_
 have h2:=hadd i w xs l hi hr;rw [Hx] at h2;have e:over oxs (i*1) [w]=oxs.set i w:=by rw [Kb]; rfl
 rw [e];have p2:(bQ.row v T1 1 sg.length (oxs.set i w)::(.row w T2 (aF.sz α) l.length xs::(pre++(m2++M)))).Perm (pre++((.row v T1 1 sg.length (oxs.set i w)::(m2++[.row w T2 (aF.sz α) l.length xs]))++M)):=by
  refine (ob pre [] (m2++[.row w T2 (aF.sz α) l.length xs]) M _).trans ?_ |>.symm;refine List.Perm.cons _ ?_;have:=ob pre m2 [] M (.row w T2 (aF.sz α) l.length xs);simpa using this
 refine a_ p2 ?_;exact kk _ h2
def py (sz n:Nat):Value→Value
 | .slice (some ⟨b,off,sp⟩) len cap=>.slice (some ⟨b,if cap=n then off else off+n*sz,sp⟩) (len-n) (cap-n)
 | y=>y
theorem fJ.sub {w:World}{T:TypeId}{sz n m:Nat}{v:Value}{xs:List Value} (h:fJ w T sz v n xs) (hm:m≤n):fJ w T sz (py sz m v) (n-m) (xs.drop (m*sz)):=by
 obtain ⟨hl,hh⟩:=h;refine ⟨by rw [Jg,hl,Nat.sub_mul],?_⟩
 rcases hh with ⟨rfl,h0⟩ | ⟨gb,off,cap,cur,rfl,hg,hnc,hcm,hcs,htake⟩
 ·exact .inl ⟨rfl,by omega⟩
 ·have h1:m*sz+(cap-m)*sz=cap*sz:=by rw [← HF,Nat.add_sub_cancel' (by omega)]
  have h2:m*sz+(n-m)*sz=n*sz:=by rw [← HF,Nat.add_sub_cancel' hm]
  by_cases hc:cap=m
  ·have hnm:n=m:=by omega
   refine .inr ⟨gb,off,cap-m,cur,by show Value.slice (some ⟨gb,if cap=m then off else off+m*sz,none⟩) _ _=_; rw [Hi hc],hg,by omega,by omega,by omega,?_⟩
   rw [← htake,JV,hnm,IN,IN,Jc,LH,LH]
  ·refine .inr ⟨gb,off+m*sz,cap-m,cur,by show Value.slice (some ⟨gb,if cap=m then off else off+m*sz,none⟩) _ _=_; rw [Hh hc],hg,by omega,by omega,by omega,?_⟩
   rw [← htake,JV,JB]
   congr 1
   omega
theorem BB {sz m:Nat} (v:Value):(py sz m v).ownBlock=v.ownBlock:=by
 unfold py
 split
 ·rename_i b off sp len cap
  cases sp <;> rfl
 ·rfl
theorem St.same {B:Nat}{w0 w:World}{r r':bQ} (h:St B w0 H (r::M) w) (hok:r'.ok w) (hf:r'.pU=r.pU):St B w0 H (r'::M) w:=by
 refine ⟨h.below,h.le,h.sF,fun s hs=>?_,fun s hs b hb=>?_,?_⟩
 ·rcases Ig.1 hs with rfl | hs
  ·exact hok
  ·exact h.ok s (Ho _ hs)
 ·rcases Ig.1 hs with rfl | hs
  ·exact h.lo r (Ha ..) b (by rw [← hf]; exact hb)
  ·exact h.lo s (Ho _ hs) b hb
 ·have:=h.nd
  simp only [JK,hf] at this ⊢;exact this
theorem Rw.sub {α:Type}[aF α] {v:Value}{xs:List Value}{l:List α} (h:Rw H v xs l) {m:Nat} (hm:m≤l.length):Rw H (py (aF.sz α) m v) (xs.drop (m*aF.sz α)) (l.drop m):=by
 refine ⟨?_,?_⟩
 ·have key:∀ (m:Nat) (xs:List Value) (l:List α),mG H xs l→m≤l.length→mG H (xs.drop (m*aF.sz α)) (l.drop m):=by
   intro m
   induction m with
   | zero=>intro xs l h _; simpa using h
   | succ m ih=>
    intro xs l h hm;cases l with
    | nil=>simp at hm
    | cons e l=>
     obtain ⟨c,r,rfl,he,hr⟩:=h;have hc:=aF.len he;rw [Me,HF,Lm,Ka,← JB,← hc,List.drop_left,hc];exact ih r l hr (by simpa using hm)
  exact key m xs l h.rd hm
 ·obtain ⟨a,n,c,rfl⟩:=h.sl
  cases a with
  | none=>exact ⟨_,_,_,rfl⟩
  | some ad=>obtain ⟨b,off,sp⟩:=ad; exact ⟨_,_,_,rfl⟩
theorem DN {α:Type}[aF α] {T1 T2 T:TypeId}{y z:Operand}{v w:Value}{ad:Addr}{hs:List Value}{pre mx:List bQ}{sg:List Nat}{ls:List (List α)}{i k n:Nat}
  (h:Mx T1 T2 H v hs mx sg ls) (hi:i<sg.length) (hx:hs[k]? = some w) (hn':n≤((ls[k]?).getD []).length) (hone:∀ j:Nat,sg[j]? = some k→j=i)
  (hg:gd ops L ⟨none,.store T y z,ty,pos,aft,g⟩=some true) (hn:∀ w,(sizeOf T).run x.P w=.ok 1 w)
  (hy:ev L y=some (.pointer (some ad))) (had:ad=(Value.base v).add (i*1)) (hz:ev L z=some (py (aF.sz α) n w))
  (kk:∀ mx',Mx T1 T2 H v (hs.set k (py (aF.sz α) n w)) mx' (sg.set i k) (ls.set k (((ls[k]?).getD []).drop n))→W x ops Q rest H (pre++(mx'++M)) L):
  W x ops Q (⟨none,.store T y z,ty,pos,aft,g⟩::rest) H (pre++(mx++M)) L:=by
 obtain ⟨oxs,ws,rfl,h2,h2',h3,h4,h5⟩:=h.ex;obtain ⟨u,hu,rfl⟩:=zD h2' hx;have hkw:k<ws.length:=(G4.1 hu).1;have hk:k<ls.length:=by omega
 have hl:=G7 hk;have hwe:ws[k]=u:=by rw [G7 hkw] at hu; exact G3 hu
 have hgd:(ls[k]?).getD []=ls[k]:=by rw [hl]; rfl
 rw [hgd] at hn' kk;have hr:=h3 k u _ hu hl;have hrs:=hr.sub hn';have hsp:∀ (ws:List (Value×List Value)) (ls:List (List α)) (h1:k<ws.length) (h2:k<ls.length),rowsOf T2 (aF.sz α) ws ls=rowsOf T2 (aF.sz α) (ws.take k) (ls.take k)++.row ws[k].1 T2 (aF.sz α) ls[k].length ws[k].2::rowsOf T2 (aF.sz α) (ws.drop (k+1)) (ls.drop (k+1)):=fun ws ls h1 h2=>by
  have e1:ws=ws.take k++ws[k]::ws.drop (k+1):=by rw [← Iw h1,I_]
  have e2:ls=ls.take k++ls[k]::ls.drop (k+1):=by rw [← Iw h2,I_]
  have e3:rowsOf T2 (aF.sz α) ws ls=rowsOf T2 (aF.sz α) (ws.take k++ws[k]::ws.drop (k+1)) (ls.take k++ls[k]::ls.drop (k+1)):=by rw [← e1,← e2]
  rw [e3];unfold rowsOf;rw [KV (by simp; omega)]
  rfl
 generalize hA:rowsOf T2 (aF.sz α) (ws.take k) (ls.take k)=A at hsp;generalize hB:rowsOf T2 (aF.sz α) (ws.drop (k+1)) (ls.drop (k+1))=Bq at hsp;have hrows:rowsOf T2 (aF.sz α) ws ls=A++.row u.1 T2 (aF.sz α) ls[k].length u.2::Bq:=by
  rw [← hA,← hB];have e1:ws=ws.take k++ws[k]::ws.drop (k+1):=by rw [← Iw hkw,I_]
  have e2:ls=ls.take k++ls[k]::ls.drop (k+1):=by rw [← Iw hk,I_]
  have e3:rowsOf T2 (aF.sz α) ws ls=rowsOf T2 (aF.sz α) (ws.take k++ws[k]::ws.drop (k+1)) (ls.take k++ls[k]::ls.drop (k+1)):=by rw [← e1,← e2]
  rw [e3];unfold rowsOf;rw [KV (by simp; omega),← hwe]
  rfl
 have hrows2:rowsOf T2 (aF.sz α) (ws.set k (py (aF.sz α) n u.1,u.2.drop (n*aF.sz α))) (ls.set k (ls[k].drop n))=A++.row (py (aF.sz α) n u.1) T2 (aF.sz α) (ls[k].drop n).length (u.2.drop (n*aF.sz α))::Bq:=by
  rw [← hA,← hB];have e1:ws.set k (py (aF.sz α) n u.1,u.2.drop (n*aF.sz α))=ws.take k++(py (aF.sz α) n u.1,u.2.drop (n*aF.sz α))::ws.drop (k+1):=by rw [KM,Hi hkw]
  have e2:ls.set k (ls[k].drop n)=ls.take k++ls[k].drop n::ls.drop (k+1):=by rw [KM,Hi hk]
  rw [e1,e2];unfold rowsOf;rw [KV (by simp; omega)]
  rfl
 have hnew:Mx T1 T2 H v (hs.set k (py (aF.sz α) n u.1)) (.row v T1 1 (sg.set i k).length (oxs.set i (py (aF.sz α) n u.1))::rowsOf T2 (aF.sz α) (ws.set k (py (aF.sz α) n u.1,u.2.drop (n*aF.sz α))) (ls.set k (ls[k].drop n))) (sg.set i k) (ls.set k (ls[k].drop n)):=by
  refine ⟨⟨_,_,rfl,by simp [h2],by rw [List.map_set,h2'],fun j u' l' hu' hl'=>?_,by simp [h4],fun i' k' hk'=>?_⟩,h.sl⟩
  ·by_cases e:k=j
   ·subst e
    rw [HP hkw] at hu';rw [HP hk] at hl';obtain rfl:=G3 hu';obtain rfl:=G3 hl';exact hrs
   ·rw [HJ e] at hu' hl'
    exact h3 j u' l' hu' hl'
  ·by_cases e:i=i'
   ·subst e
    rw [HP hi] at hk';obtain rfl:=G3 hk';exact ⟨_,by rw [HP hkw],by rw [HP (by omega)]⟩
   ·rw [HJ e] at hk'
    obtain ⟨u',hu',hx'⟩:=h5 i' k' hk';have hne:k≠k':=fun e2=>by subst e2; exact e (hone i' hk').symm
    exact ⟨u',by rw [HJ hne]; exact hu',by rw [HJ e]; exact hx'⟩
 refine a_ (ob pre [] (rowsOf T2 (aF.sz α) ws ls) M _) ?_;refine rU (i:=i*1) (cs:=[py (aF.sz α) n u.1]) hg hn hy had hz hrs.cells rfl (by simp; omega) rfl (fun c hc=>by simp at hc; subst hc; exact hrs.one) ?_
 have e:over oxs (i*1) [py (aF.sz α) n u.1]=oxs.set i (py (aF.sz α) n u.1):=by rw [Kb]; rfl
 rw [e];refine a_ (ob pre [] (rowsOf T2 (aF.sz α) ws ls) M _).symm ?_;rw [Jv,hrows];have p1:(pre++((.row v T1 1 sg.length (oxs.set i (py (aF.sz α) n u.1))::(A++.row u.1 T2 (aF.sz α) ls[k].length u.2::Bq))++M)).Perm (.row u.1 T2 (aF.sz α) ls[k].length u.2::(pre++(((.row v T1 1 sg.length (oxs.set i (py (aF.sz α) n u.1))::A)++Bq)++M))):=
  ob pre (.row v T1 1 sg.length (oxs.set i (py (aF.sz α) n u.1))::A) Bq M _
 refine a_ p1 ?_;intro a w0' hsl ht;have hok:=ht.ok _ (Ha ..);have hs2:St x.B x.w0 H (.row (py (aF.sz α) n u.1) T2 (aF.sz α) (ls[k].drop n).length (u.2.drop (n*aF.sz α))::(pre++(((.row v T1 1 sg.length (oxs.set i (py (aF.sz α) n u.1))::A)++Bq)++M))) w0':=by
  refine ht.same ?_ (BB u.1);have h1:fJ w0' T2 (aF.sz α) u.1 ls[k].length u.2:=hok;have:=h1.sub hn';rw [← Jg] at this;exact this
 have p2:=(ob pre (.row v T1 1 sg.length (oxs.set i (py (aF.sz α) n u.1))::A) Bq M (.row (py (aF.sz α) n u.1) T2 (aF.sz α) (ls[k].drop n).length (u.2.drop (n*aF.sz α)))).symm;refine kk _ hnew a w0' hsl ?_;rw [hrows2,Hx];exact hs2.perm p2
theorem B2 {α:Type}[aF α] {T2 t e:TypeId}{y lo:Operand}{w:Value}{xs:List Value}{l:List α}{n:Nat}{kk:IntKind}
  (hm:bQ.row w T2 (aF.sz α) l.length xs ∈ M) (hn:n≤l.length)
  (hg:gd ops L ⟨some d,.slice t y (some lo) none none,ty,pos,aft,g⟩=some true) (hN:Nat.blt d x.N=true)
  (hT:∀ w,(underlying t).run x.P w=.ok (.slice e) w) (hs:∀ w,(sizeOf e).run x.P w=.ok (aF.sz α) w) (hy:ev L y=some w) (hlo:ev L lo=some (.int kk (n:Int)))
  (k:W x ops Q rest H M ((d,py (aF.sz α) n w)::L)):
  W x ops Q (⟨some d,.slice t y (some lo) none none,ty,pos,aft,g⟩::rest) H M L:=by
 intro a w0' hsl ht;have hok:fJ w0' T2 (aF.sz α) w l.length xs:=ht.ok _ hm;rcases hok.2 with ⟨rfl,h0⟩ | ⟨gb,off,cap,cur,rfl,_,hnc,_⟩
 ·obtain rfl:n=0:=by omega
  exact o_ (m:=0) (h:=0) (l:=0) hg hN hT hs hy (.inl rfl) (.inl ⟨rfl,rfl⟩) (.inl ⟨rfl,rfl⟩) (.inr ⟨lo,kk,_,rfl,hlo,Kk _,Kk _,rfl⟩) rfl k a w0' hsl ht
 ·refine o_ (m:=cap) (h:=l.length) (l:=n) hg hN hT hs hy (.inl rfl) (.inl ⟨rfl,rfl⟩) (.inl ⟨rfl,rfl⟩) (.inr ⟨lo,kk,_,rfl,hlo,by omega,by omega,by omega⟩) ?_ k a w0' hsl ht
  show _=Value.slice (some ⟨gb,if cap=n then off else off+n*aF.sz α,none⟩) (l.length-n) (cap-n)
  by_cases hc:cap=n
  ·rw [Hi hc,Hi hc]
  ·rw [Hh hc,Hh hc]
   rw [I6,IC]
end
theorem xn (pre os mx M:List bQ):(pre++(mx++(os++M))).Perm (pre++(os++(mx++M))):=
 List.Perm.append_left pre (List.perm_append_comm_assoc mx os M)
theorem vH (pre mx M:List bQ):(pre++(mx++M)).Perm (mx++(pre++M)):=List.perm_append_comm_assoc pre mx M
def lone (sg:List Nat) (i k:Nat):Bool:=(List.range sg.length).all fun j=>sg[j]? != some k || j == i
theorem Bm {sg:List Nat}{i k:Nat} (h:lone sg i k=true) (j:Nat) (hj:sg[j]? = some k):j=i:=by
 unfold lone at h;rw [IJ] at h;have hl:=(G4.1 hj).1;have:=h j (by simpa using hl)
 rw [hj] at this;simpa using this
theorem Ef {sg:List Nat}{i k:Nat} (h:∀ j,sg[j]? = some k→j=i):lone sg i k=true:=by
 unfold lone;rw [IJ];intro j hj
 by_cases e:sg[j]? = some k
 ·simp [h j e]
 ·simp [e]
section
variable {x:Cx}{ops:Array Oper}{Q:kF}{rest:List Oper}{H:Hp}{M:List bQ}{L:Env}{d:Nat}{ty:TypeId}{pos:String}{aft:Array Edge}{g:Option (Nat×Bool)}
variable {α:Type}[aF α] {T1 T2:TypeId}{v:Value}{hs:List Value}{mx:List bQ}{sg:List Nat}{ls:List (List α)}
theorem sx {t e:TypeId}{y:Operand} (h:Mx T1 T2 H v hs mx sg ls) (hsub:∀ s ∈ mx,s ∈ M) (hg:gd ops L ⟨some d,.call ⟨.builtin .len,#[y],#[t]⟩,ty,pos,aft,g⟩=some true) (hN:Nat.blt d x.N=true)
  (hT:∀ w,(underlying t).run x.P w=.ok (.slice e) w) (hy:ev L y=some v) (k:W x ops Q rest H M ((d,.int .i64 (sg.length:Int))::L)):
  W x ops Q (⟨some d,.call ⟨.builtin .len,#[y],#[t]⟩,ty,pos,aft,g⟩::rest) H M L:=by
 obtain ⟨oxs,m2,he,_⟩:=h.outer;exact me (hsub _ (by rw [he]; exact Ha ..)) hg hN hT hy k
theorem dF {t e:TypeId}{y z:Operand}{kk:IntKind}{i:Int}{p:Nat} (h:Mx T1 T2 H v hs mx sg ls) (hsub:∀ s ∈ mx,s ∈ M)
  (hg:gd ops L ⟨some d,.indexAddr t y z,ty,pos,aft,g⟩=some true) (hN:Nat.blt d x.N=true)
  (hT:∀ w,(underlying t).run x.P w=.ok (.slice e) w) (hsz:∀ w,(sizeOf e).run x.P w=.ok 1 w)
  (hy:ev L y=some v) (hz:ev L z=some (.int kk i)) (h0:0≤i) (h1:sg[i.toNat]? = some p)
  (k:W x ops Q rest H M ((d,.pointer (some ((Value.base v).add (i.toNat*1))))::L)):
  W x ops Q (⟨some d,.indexAddr t y z,ty,pos,aft,g⟩::rest) H M L:=by
 obtain ⟨oxs,m2,he,_⟩:=h.outer;exact bI (hsub _ (by rw [he]; exact Ha ..)) hg hN hT hsz hy hz h0 (G4.1 h1).1 k
theorem fF {T:TypeId}{y:Operand}{ad:Addr}{i p:Nat} (h:Mx T1 T2 H v hs mx sg ls) (hsub:∀ s ∈ mx,s ∈ M) (h1:sg[i]? = some p)
  (hg:gd ops L ⟨some d,.load T y,ty,pos,aft,g⟩=some true) (hN:Nat.blt d x.N=true)
  (hT:∀ w,(isAgg T).run x.P w=.ok false w) (hy:ev L y=some (.pointer (some ad))) (had:ad=(Value.base v).add (i*1))
  (k:∀ w,hs[p]? = some w→W x ops Q rest H M ((d,w)::L)):W x ops Q (⟨some d,.load T y,ty,pos,aft,g⟩::rest) H M L:=by
 obtain ⟨oxs,m2,he,_,hget,_⟩:=h.outer;obtain ⟨w,hw,hx⟩:=hget i p h1;subst had;refine aI hg hN hT hy (vU (hsub _ (by rw [he]; exact Ha ..)) ?_) (k w hw)
 rw [Kb]; exact hx
theorem Ac {t e:TypeId}{y:Operand}{w:Value}{p:Nat} (h:Mx T1 T2 H v hs mx sg ls) (hsub:∀ s ∈ mx,s ∈ M) (hw:hs[p]? = some w) (hg:gd ops L ⟨some d,.call ⟨.builtin .len,#[y],#[t]⟩,ty,pos,aft,g⟩=some true) (hN:Nat.blt d x.N=true)
  (hT:∀ w,(underlying t).run x.P w=.ok (.slice e) w) (hy:ev L y=some w) (k:W x ops Q rest H M ((d,.int .i64 (((ls[p]?).getD []).length:Int))::L)):
  W x ops Q (⟨some d,.call ⟨.builtin .len,#[y],#[t]⟩,ty,pos,aft,g⟩::rest) H M L:=by
 obtain ⟨xs,hm,_⟩:=h.get hw;exact me (hsub _ hm) hg hN hT hy k
theorem fY {t e:TypeId}{y z:Operand}{kk:IntKind}{j:Int}{w:Value}{p n:Nat}{a:α} (h:Mx T1 T2 H v hs mx sg ls) (hsub:∀ s ∈ mx,s ∈ M) (hw:hs[p]? = some w)
  (hg:gd ops L ⟨some d,.indexAddr t y z,ty,pos,aft,g⟩=some true) (hN:Nat.blt d x.N=true)
  (hT:∀ w,(underlying t).run x.P w=.ok (.slice e) w) (hsz:∀ w,(sizeOf e).run x.P w=.ok n w) (hn:n=aF.sz α)
  (hy:ev L y=some w) (hz:ev L z=some (.int kk j)) (h0:0≤j) (h1:((ls[p]?).getD [])[j.toNat]? = some a)
  (k:W x ops Q rest H M ((d,.pointer (some ((Value.base w).add (j.toNat*aF.sz α))))::L)):
  W x ops Q (⟨some d,.indexAddr t y z,ty,pos,aft,g⟩::rest) H M L:=by
 subst hn;obtain ⟨xs,hm,_⟩:=h.get hw;exact bI (hsub _ hm) hg hN hT hsz hy hz h0 (G4.1 h1).1 k
theorem lT {T:TypeId}{y:Operand}{ad:Addr}{w:Value}{p j n:Nat}{a:α} (h:Mx T1 T2 H v hs mx sg ls) (hsub:∀ s ∈ mx,s ∈ M) (hw:hs[p]? = some w) (h1:((ls[p]?).getD [])[j]? = some a)
  (hg:gd ops L ⟨some d,.load T y,ty,pos,aft,g⟩=some true) (hN:Nat.blt d x.N=true)
  (hT:∀ w,(isAgg T).run x.P w=.ok true w) (hn:∀ w,(sizeOf T).run x.P w=.ok n w) (hn':n=aF.sz α) (hy:ev L y=some (.pointer (some ad))) (had:ad=(Value.base w).add (j*aF.sz α))
  (k:∀ cs,aF.E H cs a→W x ops Q rest H M ((d,.agg cs.toArray)::L)):W x ops Q (⟨some d,.load T y,ty,pos,aft,g⟩::rest) H M L:=by
 subst hn';subst had;obtain ⟨xs,hm,hr⟩:=h.get hw;obtain ⟨c,hE,hc⟩:=hr.elem h1;exact aU hg hN hT hn hy (ra (hsub _ hm) hc) (aF.len hE) (k c hE)
theorem B1 {t e:TypeId}{y lo:Operand}{w:Value}{p n:Nat}{j:Int}{kk:IntKind} (h:Mx T1 T2 H v hs mx sg ls) (hsub:∀ s ∈ mx,s ∈ M) (hw:hs[p]? = some w) (h0:0≤j) (h1:j≤(((ls[p]?).getD []).length:Int))
  (hg:gd ops L ⟨some d,.slice t y (some lo) none none,ty,pos,aft,g⟩=some true) (hN:Nat.blt d x.N=true)
  (hT:∀ w,(underlying t).run x.P w=.ok (.slice e) w) (hsz:∀ w,(sizeOf e).run x.P w=.ok n w) (hn:n=aF.sz α) (hy:ev L y=some w) (hlo:ev L lo=some (.int kk j))
  (k:W x ops Q rest H M ((d,py (aF.sz α) j.toNat w)::L)):
  W x ops Q (⟨some d,.slice t y (some lo) none none,ty,pos,aft,g⟩::rest) H M L:=by
 subst hn;obtain ⟨xs,hm,hr⟩:=h.get hw;exact B2 (l:=(ls[p]?).getD []) (n:=j.toNat) (hsub _ hm) (by omega) hg hN hT hsz hy (by rw [hlo,KT h0]) k
theorem uw {pre:List bQ} (h:Mx T1 T2 H v hs mx sg ls) (h0:Nat.blt 0 (aF.sz α)=true)
  (k:∀ H',H.le H'→aH H' v (m_ sg ls)→W x ops Q rest H' (pre++M) L):W x ops Q rest H (pre++(mx++M)) L:=
 a_ (vH pre mx M) (y8 h h0 k)
theorem ur {e:Exit}{pre:List bQ} (h:Mx T1 T2 H v hs mx sg ls) (h0:Nat.blt 0 (aF.sz α)=true)
  (k:∀ H',H.le H'→aH H' v (m_ sg ls)→E x e Q H' (pre++M) L):E x e Q H (pre++(mx++M)) L:=by
 refine pf (vH pre mx M) ?_;intro a w hsl ht;obtain ⟨H',h1,h2,h3⟩:=St.yf ht h (by simpa [ID] using h0)
 exact k H' h1 h3 a w hsl h2
theorem u6 {t e:TypeId}{bytes:Nat}{y y2:Operand}{n:Int}{pre:List bQ} (T2:TypeId) (α:Type) [aF α]
  (hg:gd ops L ⟨some d,.makeSlice t y y2,ty,pos,aft,g⟩=some true) (hN:Nat.blt d x.N=true)
  (hT:x.P.underlying t=some (.slice e)) (hi:FD x.P e 1 bytes (.slice none 0 0)) (hb0:Nat.blt 0 bytes=true)
  (hy:ev L y=some (.int .i64 n)) (hy2:ev L y2=some (.int .i64 n)) (h0:0≤n) (hb:n*bytes≤140737488355328)
  (k:∀ v' mx',Mx e T2 H v' [.slice none 0 0] mx' (List.replicate n.toNat 0) ([[]]:List (List α))→W x ops Q rest H (pre++(mx'++M)) ((d,v')::L)):
  W x ops Q (⟨some d,.makeSlice t y y2,ty,pos,aft,g⟩::rest) H (pre++M) L:=by
 refine fD (α:=AX) (zs:=[.slice none 0 0]) (ze:=AX.mk) hg hN hT hi rfl rfl hb0 rfl hy hy2 h0 hb ?_;intro v' xs' hr;refine u7 T2 (aF.sz α) ?_;have hm:=Mx.make (α:=α) (T1:=e) (T2:=T2) hr;refine a_ (M':=pre++((.row v' e 1 (List.replicate n.toNat 0).length xs'::[.row (.slice none 0 0) T2 (aF.sz α) 0 []])++M)) ?_ (k v' _ hm);have e1:(List.replicate n.toNat AX.mk).length=(List.replicate n.toNat 0).length:=by simp
 rw [e1];refine (List.Perm.swap _ _ _).trans ?_;exact (vH pre [.row v' e 1 (List.replicate n.toNat 0).length xs',.row (.slice none 0 0) T2 (aF.sz α) 0 []] M).symm
end
def F3:List Int:=[1,10,100,1000,10000,100000,1000000,10000000,100000000,1000000000,10000000000,100000000000,1000000000000,10000000000000,100000000000000,1000000000000000,10000000000000000,100000000000000000,1000000000000000000,10000000000000000000]
def Gn:List Int:=[0,1,28,2,29,14,24,3,30,22,20,15,25,17,4,8,31,27,13,23,21,19,16,7,26,12,18,6,11,5,10,9]
def Gp:List Int:=[0,1,56,2,57,49,28,3,61,58,42,50,38,29,17,4,62,47,59,36,45,43,51,22,53,39,33,30,24,18,12,5,63,55,48,27,60,41,37,16,46,35,44,21,52,32,23,11,54,26,40,15,34,20,31,10,25,14,19,9,13,8,7,6]
structure cO where
 Name:ByteArray
 A:ByteArray
 B_:ByteArray
 su:Bool
 Open:Bool
 deriving DecidableEq
instance:aF cO where
 sz:=5
 E H cs x:=cs=[.string (x.Name),.string (x.A),.string (x.B_),.bool (x.su),.bool (x.Open)]
 len h:=by obtain rfl:=h; rfl
 mono hle h:=by obtain rfl:=h; exact rfl
 one h:=by obtain rfl:=h; exact (G2 rfl (G2 rfl (G2 rfl (G2 rfl (G2 rfl He)))))
instance:Flat cO:=⟨fun h=>h⟩
structure bF where
 Name:ByteArray
 g_:ByteArray
 To:ByteArray
 X:Int
 qR:Int
 Shift:Int
 iA:Int
 lh:Int
 oC:Int
 deriving DecidableEq
instance:aF bF where
 sz:=9
 E H cs x:=cs=[.string (x.Name),.string (x.g_),.string (x.To),.int .i64 (x.X),.int .i64 (x.qR),.int .i64 (x.Shift),.int .i64 (x.iA),.int .i64 (x.lh),.int .i64 (x.oC)]
 len h:=by obtain rfl:=h; rfl
 mono hle h:=by obtain rfl:=h; exact rfl
 one h:=by obtain rfl:=h; exact (G2 rfl (G2 rfl (G2 rfl (G2 rfl (G2 rfl (G2 rfl (G2 rfl (G2 rfl (G2 rfl He)))))))))
instance:Flat bF:=⟨fun h=>h⟩
structure cU where
 Name:ByteArray
 Node:ByteArray
 cZ:Int
 gL:Int
 tj:Int
 deriving DecidableEq
instance:aF cU where
 sz:=5
 E H cs x:=cs=[.string (x.Name),.string (x.Node),.int .i64 (x.cZ),.int .i64 (x.gL),.int .i64 (x.tj)]
 len h:=by obtain rfl:=h; rfl
 mono hle h:=by obtain rfl:=h; exact rfl
 one h:=by obtain rfl:=h; exact (G2 rfl (G2 rfl (G2 rfl (G2 rfl (G2 rfl He)))))
instance:Flat cU:=⟨fun h=>h⟩
structure aN where
 Name:ByteArray
 Node:ByteArray
 bN:Int
 deriving DecidableEq
instance:aF aN where
 sz:=3
 E H cs x:=cs=[.string (x.Name),.string (x.Node),.int .i64 (x.bN)]
 len h:=by obtain rfl:=h; rfl
 mono hle h:=by obtain rfl:=h; exact rfl
 one h:=by obtain rfl:=h; exact (G2 rfl (G2 rfl (G2 rfl He)))
instance:Flat aN:=⟨fun h=>h⟩
structure dS where
 Name:ByteArray
 Node:ByteArray
 k_:Int
 Discharge:Int
 nf:Int
 deriving DecidableEq
instance:aF dS where
 sz:=5
 E H cs x:=cs=[.string (x.Name),.string (x.Node),.int .i64 (x.k_),.int .i64 (x.Discharge),.int .i64 (x.nf)]
 len h:=by obtain rfl:=h; rfl
 mono hle h:=by obtain rfl:=h; exact rfl
 one h:=by obtain rfl:=h; exact (G2 rfl (G2 rfl (G2 rfl (G2 rfl (G2 rfl He)))))
instance:Flat dS:=⟨fun h=>h⟩
structure aD where
 bJ:(List ByteArray)
 bM:(List cO)
 aK:(List bF)
 dR:(List cU)
 cC:(List aN)
 bZ:(List dS)
 deriving DecidableEq
instance:aF aD where
 sz:=6
 E H cs x:=∃ v0 v1 v2 v3 v4 v5:Value,cs=[v0,v1,v2,v3,v4,v5]∧aH H v0 x.bJ∧aH H v1 x.bM∧aH H v2 x.aK∧aH H v3 x.dR∧aH H v4 x.cC∧aH H v5 x.bZ
 len h:=by obtain ⟨v0,v1,v2,v3,v4,v5,rfl,h0,h1,h2,h3,h4,h5⟩:=h; rfl
 mono hle h:=by obtain ⟨v0,v1,v2,v3,v4,v5,rfl,h0,h1,h2,h3,h4,h5⟩:=h; exact ⟨v0,v1,v2,v3,v4,v5,rfl,h0.mono hle,h1.mono hle,h2.mono hle,h3.mono hle,h4.mono hle,h5.mono hle⟩
 one h:=by obtain ⟨v0,v1,v2,v3,v4,v5,rfl,h0,h1,h2,h3,h4,h5⟩:=h; exact (G2 (aH.bW h0) (G2 (aH.bW h1) (G2 (aH.bW h2) (G2 (aH.bW h3) (G2 (aH.bW h4) (G2 (aH.bW h5) He))))))
structure dN where
 lJ:(List ByteArray)
 kn:(List ByteArray)
 deriving DecidableEq
instance:aF dN where
 sz:=2
 E H cs x:=∃ v0 v1:Value,cs=[v0,v1]∧aH H v0 x.lJ∧aH H v1 x.kn
 len h:=by obtain ⟨v0,v1,rfl,h0,h1⟩:=h; rfl
 mono hle h:=by obtain ⟨v0,v1,rfl,h0,h1⟩:=h; exact ⟨v0,v1,rfl,h0.mono hle,h1.mono hle⟩
 one h:=by obtain ⟨v0,v1,rfl,h0,h1⟩:=h; exact (G2 (aH.bW h0) (G2 (aH.bW h1) He))
structure aT where
 seen:(List (ByteArray×Bool))
 nodes:(List ByteArray)
 deriving DecidableEq
structure aW where
 kc:(List Int)
 bB:(List Int)
 deriving DecidableEq
instance:aF aW where
 sz:=2
 E H cs x:=∃ v0 v1:Value,cs=[v0,v1]∧aH H v0 x.kc∧aH H v1 x.bB
 len h:=by obtain ⟨v0,v1,rfl,h0,h1⟩:=h; rfl
 mono hle h:=by obtain ⟨v0,v1,rfl,h0,h1⟩:=h; exact ⟨v0,v1,rfl,h0.mono hle,h1.mono hle⟩
 one h:=by obtain ⟨v0,v1,rfl,h0,h1⟩:=h; exact (G2 (aH.bW h0) (G2 (aH.bW h1) He))
structure bS where
 a0:Int
 a1:Int
 deriving DecidableEq
instance:aF bS where
 sz:=2
 E H cs x:=cs=[.int .i64 (x.a0),.int .i64 (x.a1)]
 len h:=by obtain rfl:=h; rfl
 mono hle h:=by obtain rfl:=h; exact rfl
 one h:=by obtain rfl:=h; exact (G2 rfl (G2 rfl He))
instance:Flat bS:=⟨fun h=>h⟩
structure aO where
 cZ:Int
 gL:Int
 bN:Int
 deriving DecidableEq
instance:aF aO where
 sz:=3
 E H cs x:=cs=[.int .i64 (x.cZ),.int .i64 (x.gL),.int .i64 (x.bN)]
 len h:=by obtain rfl:=h; rfl
 mono hle h:=by obtain rfl:=h; exact rfl
 one h:=by obtain rfl:=h; exact (G2 rfl (G2 rfl (G2 rfl He)))
instance:Flat aO:=⟨fun h=>h⟩
structure aB where
 minus:Bool
 words:(List bG)
 deriving DecidableEq
instance:aF aB where
 sz:=2
 E H cs x:=∃ v1:Value,cs=[.bool (x.minus),v1]∧aH H v1 x.words
 len h:=by obtain ⟨v1,rfl,h0⟩:=h; rfl
 mono hle h:=by obtain ⟨v1,rfl,h0⟩:=h; exact ⟨v1,rfl,h0.mono hle⟩
 one h:=by obtain ⟨v1,rfl,h0⟩:=h; exact (G2 rfl (G2 (aH.bW h0) He))
structure aA where
 N:aB
 D:aB
 deriving DecidableEq
instance:aF aA where
 sz:=4
 E H cs x:=∃ v1 v3:Value,cs=[.bool (x.N.minus),v1,.bool (x.D.minus),v3]∧aH H v1 x.N.words∧aH H v3 x.D.words
 len h:=by obtain ⟨v1,v3,rfl,h0,h1⟩:=h; rfl
 mono hle h:=by obtain ⟨v1,v3,rfl,h0,h1⟩:=h; exact ⟨v1,v3,rfl,h0.mono hle,h1.mono hle⟩
 one h:=by obtain ⟨v1,v3,rfl,h0,h1⟩:=h; exact (G2 rfl (G2 (aH.bW h0) (G2 rfl (G2 (aH.bW h1) He))))
structure aY where
 qE:aW
 g_:(List Int)
 To:(List Int)
 B_:(List aA)
 C:(List aA)
 lS:(List Int)
 mJ:(List (List aA))
 deriving DecidableEq
instance:aF aY where
 sz:=8
 E H cs x:=∃ v0 v1 v2 v3 v4 v5 v6 v7:Value,cs=[v0,v1,v2,v3,v4,v5,v6,v7]∧aH H v0 x.qE.kc∧aH H v1 x.qE.bB∧aH H v2 x.g_∧aH H v3 x.To∧aH H v4 x.B_∧aH H v5 x.C∧aH H v6 x.lS∧aH H v7 x.mJ
 len h:=by obtain ⟨v0,v1,v2,v3,v4,v5,v6,v7,rfl,h0,h1,h2,h3,h4,h5,h6,h7⟩:=h; rfl
 mono hle h:=by obtain ⟨v0,v1,v2,v3,v4,v5,v6,v7,rfl,h0,h1,h2,h3,h4,h5,h6,h7⟩:=h; exact ⟨v0,v1,v2,v3,v4,v5,v6,v7,rfl,h0.mono hle,h1.mono hle,h2.mono hle,h3.mono hle,h4.mono hle,h5.mono hle,h6.mono hle,h7.mono hle⟩
 one h:=by obtain ⟨v0,v1,v2,v3,v4,v5,v6,v7,rfl,h0,h1,h2,h3,h4,h5,h6,h7⟩:=h; exact (G2 (aH.bW h0) (G2 (aH.bW h1) (G2 (aH.bW h2) (G2 (aH.bW h3) (G2 (aH.bW h4) (G2 (aH.bW h5) (G2 (aH.bW h6) (G2 (aH.bW h7) He))))))))
def lq (j:aD):Option (aD):=dQ (0≤(min (j.cC.length:Int) 4)∧(min (j.cC.length:Int) 4)≤(j.cC.length:Int)) (dQ (0≤(min (j.dR.length:Int) 4)∧(min (j.dR.length:Int) 4)≤(j.dR.length:Int)) (some (aD.mk j.bJ j.bM j.aK (oA j.dR 0 ((min (j.dR.length:Int) 4:Int).toNat)) (oA j.cC 0 ((min (j.cC.length:Int) 4:Int).toNat)) j.bZ)))
def nJ (I:Nat) (j:U8) (o:Unit→Option (Bool)):Option (Bool):=if !(((decide (65≤j.n)) && (decide (j.n≤90))) || (((decide (0<(I:Int))) && (decide (48≤j.n))) && (decide (j.n≤57)))) then (some false) else (o ())
def cM (j:ByteArray):Option (Bool):=dQ (j.size≤maxLen) (dW (fun k y o n=>nJ k y n) (fun _=>some ((decide (1≤(j.size:Int))) && (decide ((j.size:Int)≤8)))) 0 (fZ j) ())
def iS (I:(List ByteArray)) (J:ByteArray) (j:Nat) (o:Unit→Option (Int)):Option (Int):=idx I (j:Int) fun R=>if decide (J=R) then (some (j:Int)) else (o ())
def bC (j:(List ByteArray)) (o:ByteArray):Option (Int):=jU (fun k I n=>iS j o k n) (fun _=>some (-1)) ((j.length:Int):Int).toNat 0 ()
def cK (j:(List ByteArray)) (o:ByteArray):Option (Bool):=(bC j o).bind fun I=>some (decide (0≤I))
def eZ (j:aT) (name:ByteArray) (nodes:(List ByteArray)) (R:Nat) (I:ByteArray) (o:Unit→Option (Int×aT)):Option (Int×aT):=(cK j.nodes I).bind fun J=>if !J then (some (6,(aT.mk (qn j.seen name true) j.nodes))) else (o ())
def bX (j:aT) (name:ByteArray) (nodes:(List ByteArray)):Option (Int×aT):=(cM name).bind fun o=>if !o then (some (5,j)) else (if (mZ j.seen name).getD false then (some (7,j)) else (dW (fun k y R n=>eZ j name nodes k y n) (fun _=>if decide ((nodes.length:Int)=2) then (idx nodes 0 fun I=>idx nodes 1 fun J=>if decide (I=J) then (some (3,(aT.mk (qn j.seen name true) j.nodes))) else (some (0,(aT.mk (qn j.seen name true) j.nodes)))) else (some (0,(aT.mk (qn j.seen name true) j.nodes)))) 0 nodes ()))
def bK (I:Int) (o:Int) (j:Int):Bool:=((decide (I<o)) || (decide (j<I)))
def gK (j:bF):Int:=if (((((bK j.X 1 10000) || (bK j.qR 500 1500)) || (bK j.Shift (-1000) 1000)) || (bK j.iA 0 100000)) || (bK j.lh j.iA 100000)) || (bK j.oC 0 200000) then 4 else 0
def aZ (j:Int):Bool:=(!(bK j 0 100000))
def fS (I:aT) (U:Nat) (j:dS) (R:(List (ByteArray×Bool))) (J:(List (ByteArray×Bool))→Option (Int×aT)):Option (Int×aT):=(bX (aT.mk R I.nodes) j.Name ([j.Node])).bind fun o=>if !decide (o.1=0) then (some (o.1,(aT.mk o.2.seen I.nodes))) else (if ((!(aZ j.k_)) || (!(aZ j.Discharge))) || (!(aZ j.nf)) then (some (4,(aT.mk o.2.seen I.nodes))) else (J o.2.seen))
def fR (o:aT) (U:Nat) (I:aN) (R:(List (ByteArray×Bool))) (J:(List (ByteArray×Bool))→Option (Int×aT)):Option (Int×aT):=(bX (aT.mk R o.nodes) I.Name ([I.Node])).bind fun j=>if !decide (j.1=0) then (some (j.1,(aT.mk j.2.seen o.nodes))) else (if !(aZ I.bN) then (some (4,(aT.mk j.2.seen o.nodes))) else (J j.2.seen))
def fQ (I:aT) (U:Nat) (j:cU) (R:(List (ByteArray×Bool))) (J:(List (ByteArray×Bool))→Option (Int×aT)):Option (Int×aT):=(bX (aT.mk R I.nodes) j.Name ([j.Node])).bind fun o=>if !decide (o.1=0) then (some (o.1,(aT.mk o.2.seen I.nodes))) else (if ((!(aZ j.cZ)) || (bK j.gL j.cZ 100000)) || (!(aZ j.tj)) then (some (4,(aT.mk o.2.seen I.nodes))) else (J o.2.seen))
def eP (j:aT) (o:aD):Option (Int×aT):=dW (fun k y I n=>fQ j k y I n) (fun I=>dW (fun k y J n=>fR j k y J n) (fun J=>dW (fun k y R n=>fS j k y R n) (fun R=>some (0,(aT.mk R j.nodes))) 0 o.bZ J) 0 o.cC I) 0 o.dR j.seen
def ka (J:aD) (U:Nat) (j:bF) (R:(List (ByteArray×Bool))) (I:(List (ByteArray×Bool))→Option (Int)):Option (Int):=(bX (aT.mk R J.bJ) j.Name ([j.g_,j.To])).bind fun o=>if !decide (o.1=0) then (some o.1) else (if !decide ((gK j)=0) then (some (gK j)) else (I o.2.seen))
def jZ (J:aD) (U:Nat) (j:cO) (R:(List (ByteArray×Bool))) (I:(List (ByteArray×Bool))→Option (Int)):Option (Int):=(bX (aT.mk R J.bJ) j.Name ([j.A,j.B_])).bind fun o=>if !decide (o.1=0) then (some o.1) else (I o.2.seen)
def jY (I:aD) (U:Nat) (J:ByteArray) (R:(List (ByteArray×Bool))) (o:(List (ByteArray×Bool))→Option (Int)):Option (Int):=(bX (aT.mk R I.bJ) J []).bind fun j=>if !decide (j.1=0) then (some j.1) else (o j.2.seen)
def cD (j:aD):Option (Int):=if (((((decide (24<(j.bJ.length:Int))) || (decide (32<(j.bM.length:Int)))) || (decide (24<(j.aK.length:Int)))) || (decide (10<(j.dR.length:Int)))) || (decide (12<(j.cC.length:Int)))) || (decide (4<(j.bZ.length:Int))) then (some 2) else (dW (fun k y o n=>jY j k y o n) (fun o=>dW (fun k y I n=>jZ j k y I n) (fun I=>dW (fun k y J n=>ka j k y J n) (fun J=>(eP (aT.mk J j.bJ) j).bind fun R=>some R.1) 0 j.aK I) 0 j.bM o) 0 j.bJ ([]:(List (ByteArray×Bool))))
def mw (o:aN) (j:ByteArray):Bool:=(decide (o.Name=j))
def dI (J:(List aN)) (j:ByteArray) (o:Nat) (I:Unit→Option (Int)):Option (Int):=idx J (o:Int) fun R=>if (mw R j) then (some (o:Int)) else (I ())
def cV (o:(List aN)) (j:ByteArray):Option (Int):=jU (fun k I n=>dI o j k n) (fun _=>some (-1)) ((o.length:Int):Int).toNat 0 ()
def cQ (o:(List aN)) (j:ByteArray):Option (Bool):=(cV o j).bind fun I=>some (decide (0≤I))
def nK (J:aD) (on:(List ByteArray)) (j:Nat) (o:ByteArray) (I:Unit→Option (Int)):Option (Int):=(cQ J.cC o).bind fun R=>if !R then (some 6) else (dQ (0≤(j:Int)∧(j:Int)≤(on.length:Int)) ((cK (oA on 0 (((j:Int):Int).toNat)) o).bind fun U=>if U then (some 7) else (I ())))
def fW (j:aD) (on:(List ByteArray)):Option (Int):=(cD j).bind fun o=>if !decide (o=0) then (some o) else (dW (fun k y I n=>nK j on k y n) (fun _=>some 0) 0 on ())
def nr (j:aD):Option (aD):=dQ (j.bJ.length*16≤140737488355328) (dQ (j.bM.length*56≤140737488355328) (dQ (j.aK.length*96≤140737488355328) (dQ (j.dR.length*56≤140737488355328) (dQ (j.cC.length*40≤140737488355328) (dQ (j.bZ.length*56≤140737488355328) (some j))))))
def ky (o:aN) (j:(List ByteArray)):Option (Bool):=(cK j o.Name).bind fun I=>some (!I)
def dJ (J:(List aN)) (j:(List ByteArray)) (o:Nat) (I:Unit→Option (Int)):Option (Int):=idx J (o:Int) fun R=>(ky R j).bind fun U=>if U then (some (o:Int)) else (I ())
def cX (o:(List aN)) (j:(List ByteArray)):Option (Int):=jU (fun k I n=>dJ o j k n) (fun _=>some (-1)) ((o.length:Int):Int).toNat 0 ()
def cB (n199:Int) (j:(List aN×Int×Int)→Option ((List aN))) (o:List aN) (n232:Int):Option ((List aN)):=j (o,n232,i64.wrap (n199+1))
def dH (del_0:(List ByteArray)) (j:List aN) (n198:Int) (n199:Int) (o:(List aN×Int×Int)→Option ((List aN))):Option ((List aN)):=if decide (n199<(j.length:Int)) then (idx j n199 fun I=>(ky I del_0).bind fun J=>if !J then (idx j n198 fun R=>cB n199 o (j.set ((n198:Int).toNat) I) (i64.wrap (n198+1))) else (cB n199 o j n198)) else (dQ (0≤n198∧n198≤(j.length:Int)) (dQ (0≤n198∧n198≤((j.take (n198).toNat++List.replicate (j.length-(n198).toNat) ((aN.mk (⟨#[]⟩) (⟨#[]⟩) 0):aN)).length:Int)) (some (oA (j.take (n198).toNat++List.replicate (j.length-(n198).toNat) ((aN.mk (⟨#[]⟩) (⟨#[]⟩) 0):aN)) 0 ((n198:Int).toNat)))))
def cG (j:(List aN)) (del_0:(List ByteArray)):Option ((List aN)):=(cX j del_0).bind fun o=>if decide (o=(-1)) then (some j) else (gO (fun I n=>dH del_0 I.1 I.2.1 I.2.2 n) fX (j,o,i64.wrap (o+1)))
def lA (o:aD) (on:(List ByteArray)):Option (aD):=(nr o).bind fun j=>(cG j.cC on).bind fun I=>some (aD.mk j.bJ j.bM j.aK j.dR I j.bZ)
def jD (j:aD) (on:(List ByteArray)):Option (aD×Int):=(fW j on).bind fun o=>if !decide (o=0) then (some ((aD.mk [] [] [] [] [] []),o)) else ((lA j on).bind fun I=>some (I,0))
def kC (j:(List bS×List Int)→Option ((List bS)×(List Int))) (o:List bS) (I:List Int):Option ((List bS)×(List Int)):=j (o,I)
def nL (U:aD) (j:Bool) (GK:Nat) (o:cO) (I:List bS) (J:List Int) (R:(List bS×List Int)→Option ((List bS)×(List Int))):Option ((List bS)×(List Int)):=if decide (o.Open=j) then ((bC U.bJ o.A).bind fun GL=>(bC U.bJ o.B_).bind fun GM=>dQ ((I.length+([(bS.mk GL GM)]).length)*16≤140737488355328) (dQ ((J.length+([((GK:Int))]:List Int).length)*8≤140737488355328) (kC R (I++([(bS.mk GL GM)])) (J++([((GK:Int))]:List Int))))) else (kC R I J)
def l7 (I:aD) (o:Bool):Option ((List bS)×(List Int)):=dW (fun k y j n=>nL I o k y j.1 j.2 n) (fun j=>some (j.1,j.2)) 0 I.bM (([]:List bS),([]:List Int))
def oM (o:Int) (J:Nat) (j:bS) (I:Unit→Option (Int)):Option (Int):=if decide (j.a0<0) then (some 4) else (if decide (o≤j.a0) then (some 4) else (if decide (j.a1<0) then (some 4) else (if decide (o≤j.a1) then (some 4) else (I ()))))
def nh (j:Int) (o:(List bS)):Option (Int):=if ((decide (j<0)) || (decide (24<j))) || (decide (64<(o.length:Int))) then (some 2) else (dW (fun k y I n=>oM j k y n) (fun _=>some 0) 0 o ())
def jK (j:Int) (o:Int):Int×Int:=((u64.wrap ((u64.wrap ((u64.wrap ((jG .u64 j 32)*(jG .u64 o 32)))+(jG .u64 (u64.wrap ((u64.wrap ((jG .u64 j 32)*(u64.wrap ((BitVec.ofInt (u64).bits o &&& BitVec.ofInt (u64).bits 4294967295).toNat))))+(jG .u64 (u64.wrap ((u64.wrap ((BitVec.ofInt (u64).bits j &&& BitVec.ofInt (u64).bits 4294967295).toNat))*(u64.wrap ((BitVec.ofInt (u64).bits o &&& BitVec.ofInt (u64).bits 4294967295).toNat)))) 32))) 32)))+(jG .u64 (u64.wrap ((u64.wrap ((BitVec.ofInt (u64).bits (u64.wrap ((u64.wrap ((jG .u64 j 32)*(u64.wrap ((BitVec.ofInt (u64).bits o &&& BitVec.ofInt (u64).bits 4294967295).toNat))))+(jG .u64 (u64.wrap ((u64.wrap ((BitVec.ofInt (u64).bits j &&& BitVec.ofInt (u64).bits 4294967295).toNat))*(u64.wrap ((BitVec.ofInt (u64).bits o &&& BitVec.ofInt (u64).bits 4294967295).toNat)))) 32))) &&& BitVec.ofInt (u64).bits 4294967295).toNat))+(u64.wrap ((u64.wrap ((BitVec.ofInt (u64).bits j &&& BitVec.ofInt (u64).bits 4294967295).toNat))*(jG .u64 o 32))))) 32))),(u64.wrap (j*o)))
def nq (j:Int) (o:Int):Int×Int:=((((jK j o)).1),(((jK j o)).2))
def gI (j:(List Int×Int)→Option ((List Int))) (o:List Int) (I:Int):Option ((List Int)):=j (o,I)
def dC (j:(List Int×List Int)→Option ((List Int))) (o:List Int) (I:List Int):Option ((List Int)):=j (o,I)
def ml (without:Int) (U:Int) (o:Int) (GK:Nat) (j:bS) (I:List Int) (J:List Int) (R:(List Int×List Int)→Option ((List Int))):Option ((List Int)):=if decide ((GK:Int)=without) then (dC R I J) else (if decide (j.a0=o) then (idx I (i64.wrap ((i64.wrap (j.a0+j.a1))-o)) fun GL=>if decide (GL<0) then (idx I (i64.wrap ((i64.wrap (j.a0+j.a1))-o)) fun GN=>dQ ((J.length+([(i64.wrap ((i64.wrap (j.a0+j.a1))-o))]:List Int).length)*8≤140737488355328) (dC R (I.set ((i64.wrap ((i64.wrap (j.a0+j.a1))-o):Int).toNat) U) (J++([(i64.wrap ((i64.wrap (j.a0+j.a1))-o))]:List Int)))) else (dC R I J)) else (if !decide (j.a1=o) then (dC R I J) else (idx I (i64.wrap ((i64.wrap (j.a0+j.a1))-o)) fun GM=>if decide (GM<0) then (idx I (i64.wrap ((i64.wrap (j.a0+j.a1))-o)) fun GO=>dQ ((J.length+([(i64.wrap ((i64.wrap (j.a0+j.a1))-o))]:List Int).length)*8≤140737488355328) (dC R (I.set ((i64.wrap ((i64.wrap (j.a0+j.a1))-o):Int).toNat) U) (J++([(i64.wrap ((i64.wrap (j.a0+j.a1))-o))]:List Int)))) else (dC R I J))))
def mj (GL:(List bS)) (without:Int) (I:Int) (R:(List Int×Int)→Option ((List Int))) (J:List Int) (j:List Int) (U:(List Int×List Int)→Option ((List Int))):Option ((List Int)):=if decide (0<(j.length:Int)) then (idx j 0 fun GK=>dQ (0≤1∧1≤(j.length:Int)) (dW (fun k y o n=>ml without I GK k y o.1 o.2 n) (fun o=>U (o.1,o.2)) 0 GL (J,(oA j (1:Int).toNat j.length)))) else (gI R J (i64.wrap (I+1)))
def mi (GK:(List bS)) (without:Int) (I:Nat) (j:List Int) (o:Int) (J:(List Int×Int)→Option ((List Int))):Option ((List Int)):=idx j (I:Int) fun U=>if decide (0≤U) then (gI J j o) else (idx j (I:Int) fun GL=>gO (fun R n=>mj GK without o J R.1 R.2 n) fX ((j.set (((I:Int):Int).toNat) o),([((I:Int))]:List Int)))
def lf (o:Int) (I:(List bS)) (without:Int):Option ((List Int)):=dQ (([((-1))]:List Int).length=1∧0≤o∧o*8≤140737488355328) (dQ (o≤9223372036854775807) (jU (fun k j n=>mi I without k j.1 j.2 n) (fun j=>some j.1) (o:Int).toNat 0 ((yI ([((-1))]:List Int) o),0)))
def fN (j:Int) (o:(List bS)):Option ((List Int)×Int):=(nh j o).bind fun I=>if !decide (I=0) then (some (([]:List Int),I)) else ((lf j o (-1)).bind fun J=>some (J,0))
def kP (j:aD):Option ((List Int)):=(l7 j false).bind fun o=>(fN (j.bJ.length:Int) o.1).bind fun I=>some I.1
def n_ (j:aD) (o:((List Int))) (GN:Nat) (I:bF) (J:List bS) (GK:List bS→Option (aW)):Option (aW):=(bC j.bJ I.g_).bind fun GL=>idx o GL fun R=>(bC j.bJ I.To).bind fun GM=>idx o GM fun U=>dQ ((J.length+([(bS.mk R U)]).length)*16≤140737488355328) (GK (J++([(bS.mk R U)])))
def n9 (I:Nat) (o:Int) (n114:Int) (j:Int→Option (aW)):Option (aW):=j (max n114 (i64.wrap (o+1)))
def cW (j:aD):Option (aW):=(kP j).bind fun o=>dW (fun k y I n=>n9 k y I n) (fun I=>dW (fun k y J n=>n_ j o k y J n) (fun J=>(fN I J).bind fun R=>some (aW.mk o R.1)) 0 j.aK ([]:List bS)) 0 o 0
def mT (I:Nat) (o:Int) (n115:Int) (j:Int→Option (Int)):Option (Int):=j (max n115 (i64.wrap (o+1)))
def iY (o:aD):Option (Int):=(cW o).bind fun I=>dW (fun k y j n=>mT k y j n) (fun j=>some j) 0 I.bB 0
def jQ (o:aD) (j:aW) (node:ByteArray):Option (Int):=(bC o.bJ node).bind fun I=>idx j.kc I fun J=>idx j.bB J fun R=>some R
def nV (U:aD) (GK:(aW)) (GM:Nat) (I:aN) (j:List aO) (R:List aO→Option ((List aO))):Option ((List aO)):=(jQ U GK I.Node).bind fun o=>idx j o fun GL=>idx j o fun J=>R (j.set ((o:Int).toNat) (aO.mk J.cZ J.gL (i64.wrap (GL.bN+I.bN))))
def nU (U:aD) (GK:(aW)) (GL:Nat) (o:cU) (J:List aO) (R:List aO→Option ((List aO))):Option ((List aO)):=(jQ U GK o.Node).bind fun I=>idx J I fun j=>R ((J.set ((I:Int).toNat) (aO.mk (i64.wrap (j.cZ+o.cZ)) j.gL j.bN)).set ((I:Int).toNat) (aO.mk (i64.wrap (j.cZ+o.cZ)) (i64.wrap (j.gL+o.gL)) j.bN))
def mD (j:aD):Option ((List aO)):=(cW j).bind fun R=>(iY j).bind fun o=>dQ (0≤o∧o*24≤140737488355328) (dW (fun k y I n=>nU j R k y I n) (fun I=>dW (fun k y J n=>nV j R k y J n) (fun J=>some J) 0 j.cC I) 0 j.dR (List.replicate (o:Int).toNat ((aO.mk 0 0 0):aO)))
def kS (j:Int):Bool:=(decide (0<j))
def eG (I:(List Int)) (j:Nat) (o:Unit→Option (Int)):Option (Int):=idx I (j:Int) fun J=>if (kS J) then (some (j:Int)) else (o ())
def dO (j:(List Int)):Option (Int):=jU (fun k o n=>eG j k n) (fun _=>some (-1)) ((j.length:Int):Int).toNat 0 ()
def cR (j:(List Int)):Option (Bool):=(dO j).bind fun o=>some (decide (0≤o))
def iZ (I:List Int) (j:List Int) (o:(List Int×List Int)→Option ((List Int)×Int)) (J:(Int)) (R:Int) (n316:Int):Option ((List Int)×Int):=dQ ((j.length+([n316]:List Int).length)*8≤140737488355328) (o ((I.set ((J:Int).toNat) (i64.wrap (R-n316))),(j++([n316]:List Int))))
def nD (GK:aD) (GL:(aW)) (GM:Nat) (o:cU) (I:List Int) (U:List Int) (J:(List Int×List Int)→Option ((List Int)×Int)):Option ((List Int)×Int):=(jQ GK GL o.Node).bind fun R=>idx I R fun j=>if decide (o.cZ≤j) then (iZ I U J R j (min o.gL j)) else (iZ I U J R j 0)
def nC (J:Nat) (j:aO) (o:List Int) (I:List Int→Option ((List Int)×Int)):Option ((List Int)×Int):=dQ ((o.length+([j.bN]:List Int).length)*8≤140737488355328) (I (o++([j.bN]:List Int)))
def jP (j:aD):Option ((List Int)×Int):=(cD j).bind fun J=>if !decide (J=0) then (some (([]:List Int),J)) else ((cW j).bind fun R=>(mD j).bind fun U=>dW (fun k y I n=>nC k y I n) (fun I=>dW (fun k y o n=>nD j R k y o.1 o.2 n) (fun o=>(cR o.1).bind fun GK=>if GK then (some (([]:List Int),14)) else (some (o.2,0))) 0 j.dR (I,([]:List Int))) 0 U ([]:List Int))
def oK (I:Nat) (j:Int) (o:Unit→Option ((List Int)×Int)):Option ((List Int)×Int):=if (decide (j<(-100000))) || (decide (100000<j)) then (some (([]:List Int),4)) else (o ())
def oJ (R:aD) (GK:Nat) (I:aN) (j:List Int) (J:List Int→Option ((List Int)×Int)):Option ((List Int)×Int):=(bC R.bJ I.Node).bind fun o=>idx j o fun U=>idx j o fun GL=>J (j.set ((o:Int).toNat) (i64.wrap (U-I.bN)))
def oI (U:aD) (stores:(List Int)) (j:Nat) (o:dS) (I:List Int) (R:List Int→Option ((List Int)×Int)):Option ((List Int)×Int):=idx stores (j:Int) fun GK=>if decide (GK<(i64.wrap (0-o.k_))) then (some (([]:List Int),17)) else (idx stores (j:Int) fun GL=>if decide (o.Discharge<GL) then (some (([]:List Int),17)) else ((bC U.bJ o.Node).bind fun J=>idx I J fun GM=>idx stores (j:Int) fun GN=>idx I J fun GO=>R (I.set ((J:Int).toNat) (i64.wrap (GM+GN)))))
def oH (GK:aD) (gens:(List Int)) (o:Nat) (I:cU) (j:List Int) (J:List Int→Option ((List Int)×Int)):Option ((List Int)×Int):=idx gens (o:Int) fun GL=>if decide (GL=0) then ((bC GK.bJ I.Node).bind fun R=>idx j R fun GM=>idx gens (o:Int) fun GN=>idx j R fun GS=>J (j.set ((R:Int).toNat) (i64.wrap (GM+GN)))) else (idx gens (o:Int) fun GO=>if decide (GO<I.cZ) then (some (([]:List Int),17)) else (idx gens (o:Int) fun GP=>if decide (I.gL<GP) then (some (([]:List Int),17)) else ((bC GK.bJ I.Node).bind fun U=>idx j U fun GQ=>idx gens (o:Int) fun GR=>idx j U fun GU=>J (j.set ((U:Int).toNat) (i64.wrap (GQ+GR))))))
def ng (j:aD) (gens:(List Int)) (stores:(List Int)):Option ((List Int)×Int):=(cD j).bind fun R=>if !decide (R=0) then (some (([]:List Int),R)) else (if (!decide ((gens.length:Int)=(j.dR.length:Int))) || (!decide ((stores.length:Int)=(j.bZ.length:Int))) then (some (([]:List Int),3)) else (dQ (0≤(j.bJ.length:Int)∧(j.bJ.length:Int)*8≤140737488355328) (dW (fun k y I n=>oH j gens k y I n) (fun I=>dW (fun k y J n=>oI j stores k y J n) (fun J=>dW (fun k y o n=>oJ j k y o n) (fun o=>dW (fun k y U n=>oK k y n) (fun _=>some (o,0)) 0 o ()) 0 j.cC J) 0 j.bZ I) 0 j.dR (List.replicate ((j.bJ.length:Int):Int).toNat (0:Int)))))
def eO (j:aD):Option ((List Int)×Int):=(jP j).bind fun o=>if !decide (o.2=0) then (some (([]:List Int),o.2)) else (dQ (0≤(j.bZ.length:Int)∧(j.bZ.length:Int)*8≤140737488355328) ((ng j o.1 (List.replicate ((j.bZ.length:Int):Int).toNat (0:Int))).bind fun I=>some (I.1,I.2)))
def pj (o:(aW)) (U:Nat) (j:Int) (I:(List (Int×Int))) (R:(List (Int×Int))→Option (Int)):Option (Int):=if (decide (j<(-100000))) || (decide (100000<j)) then (some 4) else (idx o.kc (U:Int) fun GK=>idx o.bB GK fun J=>R (qn I J (i64.wrap (((mZ I J).getD (0:Int))+j))))
def kf (j:aD) (inject:(List Int)):Option (Int):=(cD j).bind fun I=>if !decide (I=0) then (some I) else (if !decide ((inject.length:Int)=(j.bJ.length:Int)) then (some 3) else ((cW j).bind fun J=>dW (fun k y o n=>pj J k y o n) (fun o=>if (o.any (fun R=>!decide (R.2=0))) then (some 14) else (some 0)) 0 inject ([]:(List (Int×Int)))))
def kM (minus:Bool) (j:(List bG)):Option (aB):=if minus then (some (aB.mk (decide (0<(j.length:Int))) j)) else (some (aB.mk false j))
def pq (minus:Bool) (j:(List bG)) (o:(List bG)→Option (aB)):Option (aB):=if decide (0<(j.length:Int)) then (idx j (i64.wrap ((j.length:Int)-1)) fun I=>if decide (I.n=0) then (dQ (0≤(i64.wrap ((j.length:Int)-1))∧(i64.wrap ((j.length:Int)-1))≤(j.length:Int)) (o (oA j 0 ((i64.wrap ((j.length:Int)-1):Int).toNat)))) else (kM minus j)) else (kM minus j)
def fH (minus:Bool) (j:(List bG)):Option (aB):=gO (fun o n=>pq minus o n) fX j
def l_ (j:Int) (n103:Int):Option (aB):=(fH (decide (j<0)) ([⟨u32.wrap (n103)⟩,⟨u32.wrap (jG .u64 n103 32)⟩]:List bG)).bind fun o=>some o
def jR (j:Int):Option (aB):=if decide (j<0) then (l_ j (u64.wrap (0-(u64.wrap (j))))) else (l_ j (u64.wrap (j)))
def iP (j:aB):Option (aB):=(fH (!j.minus) j.words).bind fun o=>some o
def dT (j:aB):Int:=if decide ((j.words.length:Int)=0) then 0 else (if j.minus then (-1) else 1)
def mW (j:(List bG)) (o:(List bG)) (n154:Int) (I:Int→Option (Int)):Option (Int):=if decide (0≤n154) then (idx j n154 fun J=>idx o n154 fun R=>if !decide (J.n=R.n) then (idx j n154 fun U=>idx o n154 fun GK=>if decide (U.n<GK.n) then (some (-1)) else (some 1)) else (I (i64.wrap (n154-1)))) else (some 0)
def ks (j:(List bG)) (o:(List bG)):Option (Int):=if !decide ((j.length:Int)=(o.length:Int)) then (some (i64.wrap ((j.length:Int)-(o.length:Int)))) else (gO (fun I n=>mW j o I n) fX (i64.wrap ((j.length:Int)-1)))
def mX (R:(List bG)) (j:Int) (o:List bG) (n151:Int) (n152:Int) (J:(List bG×Int×Int)→Option ((List bG)×Int)):Option ((List bG)×Int):=if decide (0≤n152) then (idx R n152 fun I=>dQ ((u64.wrap (j))≠0) (idx o n152 fun U=>dQ ((u64.wrap (j))≠0) (J ((o.set ((n152:Int).toNat) ⟨u32.wrap (u64.wrap (Int.tdiv (u64.wrap ((BitVec.ofInt (u64).bits (kD .u64 n151 32) ||| BitVec.ofInt (u64).bits (u64.wrap (I.n))).toNat)) (u64.wrap (j))))⟩),Int.tmod (u64.wrap ((BitVec.ofInt (u64).bits (kD .u64 n151 32) ||| BitVec.ofInt (u64).bits (u64.wrap (I.n))).toNat)) (u64.wrap (j)),i64.wrap (n152-1))))) else (some (o,(u32.wrap (n151))))
def ku (j:(List bG)) (I:Int):Option ((List bG)×Int):=dQ (0≤(j.length:Int)∧(j.length:Int)*4≤140737488355328) (gO (fun o n=>mX j I o.1 o.2.1 o.2.2 n) fX ((List.replicate ((j.length:Int):Int).toNat (⟨0⟩:bG)),0,i64.wrap ((j.length:Int)-1)))
def gW (n106:Int) (n107:Int):Option (Int):=idx (fZ (⟨#[0,1,2,2,3,3,3,3,4,4,4,4,4,4,4,4,5,5,5,5,5,5,5,5,5,5,5,5,5,5,5,5,6,6,6,6,6,6,6,6,6,6,6,6,6,6,6,6,6,6,6,6,6,6,6,6,6,6,6,6,6,6,6,6,7,7,7,7,7,7,7,7,7,7,7,7,7,7,7,7,7,7,7,7,7,7,7,7,7,7,7,7,7,7,7,7,7,7,7,7,7,7,7,7,7,7,7,7,7,7,7,7,7,7,7,7,7,7,7,7,7,7,7,7,7,7,7,7,8,8,8,8,8,8,8,8,8,8,8,8,8,8,8,8,8,8,8,8,8,8,8,8,8,8,8,8,8,8,8,8,8,8,8,8,8,8,8,8,8,8,8,8,8,8,8,8,8,8,8,8,8,8,8,8,8,8,8,8,8,8,8,8,8,8,8,8,8,8,8,8,8,8,8,8,8,8,8,8,8,8,8,8,8,8,8,8,8,8,8,8,8,8,8,8,8,8,8,8,8,8,8,8,8,8,8,8,8,8,8,8,8,8,8,8,8,8,8,8,8,8,8,8,8,8,8,8]⟩)) (u8.wrap (n106)) fun j=>some (i64.wrap (n107+(i64.wrap (j.n))))
def gX (n102:Int) (n103:Int):Option (Int):=if decide (256≤n102) then (gW (jG .u32 n102 8) (i64.wrap (n103+8))) else (gW n102 n103)
def mu (j:Int):Option (Int):=if decide (65536≤j) then (gX (jG .u32 j 16) 16) else (gX j 0)
def fP (j:Int):Option (Int):=(mu j).bind fun o=>some (i64.wrap (32-o))
def nI (j:Int) (o:Nat) (I:bG) (J:List bG) (n140:Int) (R:(List bG×Int)→Option ((List bG))):Option ((List bG)):=dQ (0≤j) (idx J (o:Int) fun U=>R ((J.set (((o:Int):Int).toNat) ⟨u32.wrap (u64.wrap ((BitVec.ofInt (u64).bits n140 ||| BitVec.ofInt (u64).bits (kD .u64 (u64.wrap (I.n)) j)).toNat))⟩),jG .u64 (u64.wrap ((BitVec.ofInt (u64).bits n140 ||| BitVec.ofInt (u64).bits (kD .u64 (u64.wrap (I.n)) j)).toNat)) 32))
def kN (j:(List bG)) (I:Int):Option ((List bG)):=dQ (0≤(i64.wrap ((j.length:Int)+1))∧(i64.wrap ((j.length:Int)+1))*4≤140737488355328) (dW (fun k y o n=>nI I k y o.1 o.2 n) (fun o=>idx o.1 (j.length:Int) fun J=>some (o.1.set (((j.length:Int):Int).toNat) ⟨u32.wrap (o.2)⟩)) 0 j ((List.replicate (i64.wrap ((j.length:Int)+1):Int).toNat (⟨0⟩:bG)),0))
def gV (o:List bG) (j:Int) (I:(List bG×List bG×Int)→Option ((List bG)×(List bG))) (J:List bG) (R:Int):Option ((List bG)×(List bG)):=idx o j fun U=>I ((o.set ((j:Int).toNat) ⟨u32.wrap (R)⟩),J,i64.wrap (j-1))
def kX (GL:(List bG)) (GM:((List bG))) (o:Int) (j:Nat) (I:List bG) (J:Int) (GK:(List bG×Int)→Option ((List bG)×(List bG))):Option ((List bG)×(List bG)):=idx I (i64.wrap ((j:Int)+o)) fun R=>idx (oA GM 0 (((GL.length:Int):Int).toNat)) (j:Int) fun U=>idx I (i64.wrap ((j:Int)+o)) fun GN=>GK ((I.set ((i64.wrap ((j:Int)+o):Int).toNat) ⟨u32.wrap (u64.wrap (J+(u64.wrap ((u64.wrap (R.n))+(u64.wrap (U.n))))))⟩),jG .u64 (u64.wrap (J+(u64.wrap ((u64.wrap (R.n))+(u64.wrap (U.n)))))) 32)
def kW (GN:(List bG)) (GO:((List bG))) (o:Int) (I:Int) (j:Nat) (J:List bG) (GK:Int) (R:Int) (GM:(List bG×Int×Int)→Option ((List bG)×(List bG))):Option ((List bG)×(List bG)):=idx (oA GO 0 (((GN.length:Int):Int).toNat)) (j:Int) fun U=>idx J (i64.wrap ((j:Int)+o)) fun GL=>idx J (i64.wrap ((j:Int)+o)) fun GP=>GM ((J.set ((i64.wrap ((j:Int)+o):Int).toNat) ⟨u32.wrap (i64.wrap (GK+(i64.wrap ((i64.wrap (GL.n))-(i64.wrap (u64.wrap ((BitVec.ofInt (u64).bits (u64.wrap (R+(u64.wrap (I*(u64.wrap (U.n)))))) &&& BitVec.ofInt (u64).bits 4294967295).toNat)))))))⟩),jG .i64 (i64.wrap (GK+(i64.wrap ((i64.wrap (GL.n))-(i64.wrap (u64.wrap ((BitVec.ofInt (u64).bits (u64.wrap (R+(u64.wrap (I*(u64.wrap (U.n)))))) &&& BitVec.ofInt (u64).bits 4294967295).toNat))))))) 32,jG .u64 (u64.wrap (R+(u64.wrap (I*(u64.wrap (U.n)))))) 32)
def eE (I:(List bG)) (GM:((List bG))) (GL:List bG) (GN:List bG) (o:Int) (GK:(List bG×List bG×Int)→Option ((List bG)×(List bG))) (R:Int):Option ((List bG)×(List bG)):=jU (fun k j n=>kW I GM o R k j.1 j.2.1 j.2.2 n) (fun j=>idx j.1 (i64.wrap (o+(I.length:Int))) fun U=>idx j.1 (i64.wrap (o+(I.length:Int))) fun GP=>if decide ((i64.wrap (j.2.1+(i64.wrap ((i64.wrap (U.n))-(i64.wrap (j.2.2))))))<0) then (jU (fun k J n=>kX I GM o k J.1 J.2 n) (fun J=>idx J.1 (i64.wrap (o+(I.length:Int))) fun GO=>idx J.1 (i64.wrap (o+(I.length:Int))) fun GQ=>gV GL o GK (J.1.set ((i64.wrap (o+(I.length:Int)):Int).toNat) ⟨u32.wrap (GO.n+(u32.wrap (J.2)))⟩) (u64.wrap (R-1))) ((I.length:Int):Int).toNat 0 ((j.1.set ((i64.wrap (o+(I.length:Int)):Int).toNat) ⟨u32.wrap (i64.wrap (j.2.1+(i64.wrap ((i64.wrap (U.n))-(i64.wrap (j.2.2))))))⟩),0)) else (gV GL o GK (j.1.set ((i64.wrap (o+(I.length:Int)):Int).toNat) ⟨u32.wrap (i64.wrap (j.2.1+(i64.wrap ((i64.wrap (U.n))-(i64.wrap (j.2.2))))))⟩) R)) ((I.length:Int):Int).toNat 0 (GN,0,0)
def kY (j:(List bG)) (J:((List bG))) (GL:List bG) (R:List bG) (U:Int) (GK:(List bG×List bG×Int)→Option ((List bG)×(List bG))) (o:Int) (I:Int) (GM:(Int×Int)→Option ((List bG)×(List bG))):Option ((List bG)×(List bG)):=if decide (4294967296≤o) then (idx (oA J 0 (((j.length:Int):Int).toNat)) (i64.wrap ((j.length:Int)-1)) fun GN=>if decide (4294967296≤(u64.wrap (I+(u64.wrap (GN.n))))) then (eE j J GL R U GK (u64.wrap (o-1))) else (GM (u64.wrap (o-1),u64.wrap (I+(u64.wrap (GN.n)))))) else (idx (oA J 0 (((j.length:Int):Int).toNat)) (i64.wrap ((j.length:Int)-2)) fun GP=>idx R (i64.wrap ((i64.wrap (U+(j.length:Int)))-2)) fun GQ=>if decide ((u64.wrap ((BitVec.ofInt (u64).bits (kD .u64 I 32) ||| BitVec.ofInt (u64).bits (u64.wrap (GQ.n))).toNat))<(u64.wrap (o*(u64.wrap (GP.n))))) then (idx (oA J 0 (((j.length:Int):Int).toNat)) (i64.wrap ((j.length:Int)-1)) fun GO=>if decide (4294967296≤(u64.wrap (I+(u64.wrap (GO.n))))) then (eE j J GL R U GK (u64.wrap (o-1))) else (GM (u64.wrap (o-1),u64.wrap (I+(u64.wrap (GO.n)))))) else (eE j J GL R U GK o))
def jB (R:(Int)) (o:List bG) (j:Nat) (I:List bG) (J:List bG→Option ((List bG)×(List bG))):Option ((List bG)×(List bG)):=idx o (i64.wrap ((j:Int)+1)) fun U=>idx o (j:Int) fun GK=>dQ (0≤R) (idx I (j:Int) fun GL=>J (I.set (((j:Int):Int).toNat) ⟨u32.wrap (jG .u64 (u64.wrap ((BitVec.ofInt (u64).bits (kD .u64 (u64.wrap (U.n)) 32) ||| BitVec.ofInt (u64).bits (u64.wrap (GK.n))).toNat)) R)⟩))
def kV (j:(List bG)) (GQ:(Int)) (R:((List bG))) (U:List bG) (o:List bG) (I:Int) (GP:(List bG×List bG×Int)→Option ((List bG)×(List bG))):Option ((List bG)×(List bG)):=if decide (0≤I) then (idx o (i64.wrap (I+(j.length:Int))) fun GK=>idx o (i64.wrap ((i64.wrap (I+(j.length:Int)))-1)) fun GL=>idx (oA R 0 (((j.length:Int):Int).toNat)) (i64.wrap ((j.length:Int)-1)) fun GM=>dQ ((u64.wrap (GM.n))≠0) (idx (oA R 0 (((j.length:Int):Int).toNat)) (i64.wrap ((j.length:Int)-1)) fun GN=>dQ ((u64.wrap (GN.n))≠0) (gO (fun GO n=>kY j R U o I GP GO.1 GO.2 n) fX (u64.wrap (Int.tdiv (u64.wrap ((BitVec.ofInt (u64).bits (kD .u64 (u64.wrap (GK.n)) 32) ||| BitVec.ofInt (u64).bits (u64.wrap (GL.n))).toNat)) (u64.wrap (GM.n))),Int.tmod (u64.wrap ((BitVec.ofInt (u64).bits (kD .u64 (u64.wrap (GK.n)) 32) ||| BitVec.ofInt (u64).bits (u64.wrap (GL.n))).toNat)) (u64.wrap (GN.n)))))) else (dQ (0≤(j.length:Int)∧(j.length:Int)*4≤140737488355328) (jU (fun k J n=>jB GQ o k J n) (fun J=>some (U,J)) ((j.length:Int):Int).toNat 0 (List.replicate ((j.length:Int):Int).toNat (⟨0⟩:bG))))
def kt (o:(List bG)) (j:(List bG)):Option ((List bG)×(List bG)):=(ks o j).bind fun GK=>if decide (GK<0) then (some ([],o)) else (if decide ((j.length:Int)=1) then (idx j 0 fun GL=>(ku o GL.n).bind fun R=>some (R.1,([⟨R.2⟩]:List bG))) else (idx j (i64.wrap ((j.length:Int)-1)) fun GM=>(fP GM.n).bind fun J=>(kN o J).bind fun GN=>(kN j J).bind fun U=>dQ (0≤(j.length:Int)∧(j.length:Int)≤(U.length:Int)) (dQ (0≤(i64.wrap ((i64.wrap ((o.length:Int)-(j.length:Int)))+1))∧(i64.wrap ((i64.wrap ((o.length:Int)-(j.length:Int)))+1))*4≤140737488355328) (gO (fun I n=>kV j J U I.1 I.2.1 I.2.2 n) fX ((List.replicate (i64.wrap ((i64.wrap ((o.length:Int)-(j.length:Int)))+1):Int).toNat (⟨0⟩:bG)),GN,i64.wrap ((o.length:Int)-(j.length:Int)))))))
def nW (j:Bool) (o:(List bG)):Option (aB):=some (aB.mk j o)
def p5 (o:Bool) (j:(List bG)) (GK:Bool) (I:(List bG)) (U:(Bool×(List bG)×Bool×(List bG))→Option (aB)):Option (aB):=if !decide ((dT (aB.mk o j))=0) then ((kt I j).bind fun J=>dQ (J.2.length*4≤140737488355328) ((fH false J.2).bind fun R=>U (R.minus,R.words,o,j))) else (nW GK I)
def lF (o:aB) (I:aB):Option (aB):=gO (fun j n=>p5 j.1 j.2.1 j.2.2.1 j.2.2.2 n) fX (false,I.words,false,o.words)
def iL (j:List bG) (I:(List bG×Int)→Option ((List bG))) (o:Nat) (n198:Int):Option ((List bG)):=idx j (o:Int) fun J=>I ((j.set (((o:Int):Int).toNat) ⟨u32.wrap (n198)⟩),jG .u64 n198 32)
def mV (U:(List bG)) (I:(List bG)) (j:Nat) (J:List bG) (n176:Int) (o:(List bG×Int)→Option ((List bG))):Option ((List bG)):=idx U (j:Int) fun R=>if decide ((j:Int)<(I.length:Int)) then (idx I (j:Int) fun GK=>iL J o j (u64.wrap ((u64.wrap (n176+(u64.wrap (R.n))))+(u64.wrap (GK.n))))) else (iL J o j (u64.wrap (n176+(u64.wrap (R.n)))))
def iM (j:(List bG)) (I:(List bG)):Option ((List bG)):=dQ (0≤(i64.wrap ((j.length:Int)+1))∧(i64.wrap ((j.length:Int)+1))*4≤140737488355328) (jU (fun k o n=>mV j I k o.1 o.2 n) (fun o=>idx o.1 (j.length:Int) fun J=>some (o.1.set (((j.length:Int):Int).toNat) ⟨u32.wrap (o.2)⟩)) ((j.length:Int):Int).toNat 0 ((List.replicate (i64.wrap ((j.length:Int)+1):Int).toNat (⟨0⟩:bG)),0))
def ly (j:(List bG)) (o:(List bG)):Option ((List bG)):=if decide ((j.length:Int)<(o.length:Int)) then (iM o j) else (iM j o)
def iN (j:List bG) (I:(List bG×Int)→Option ((List bG))) (o:Nat) (n190:Int):Option ((List bG)):=idx j (o:Int) fun J=>I ((j.set (((o:Int):Int).toNat) ⟨u32.wrap (n190)⟩),jG .i64 n190 32)
def mY (U:(List bG)) (I:(List bG)) (j:Nat) (J:List bG) (n168:Int) (o:(List bG×Int)→Option ((List bG))):Option ((List bG)):=idx U (j:Int) fun R=>if decide ((j:Int)<(I.length:Int)) then (idx I (j:Int) fun GK=>iN J o j (i64.wrap ((i64.wrap (n168+(i64.wrap (R.n))))-(i64.wrap (GK.n))))) else (iN J o j (i64.wrap (n168+(i64.wrap (R.n)))))
def kv (j:(List bG)) (I:(List bG)):Option ((List bG)):=dQ (0≤(j.length:Int)∧(j.length:Int)*4≤140737488355328) (jU (fun k o n=>mY j I k o.1 o.2 n) (fun o=>some o.1) ((j.length:Int):Int).toNat 0 ((List.replicate ((j.length:Int):Int).toNat (⟨0⟩:bG)),0))
def iO (j:aB) (o:aB):Option (aB):=if decide (j.minus=o.minus) then ((ly j.words o.words).bind fun I=>(fH j.minus I).bind fun J=>some J) else ((ks j.words o.words).bind fun R=>if decide (0≤R) then ((kv j.words o.words).bind fun U=>(fH j.minus U).bind fun GK=>some GK) else ((kv o.words j.words).bind fun GL=>(fH o.minus GL).bind fun GM=>some GM))
def kK (j:aB) (o:aB):Option (aB):=(iP o).bind fun I=>(iO j I).bind fun J=>some J
def iV (c194:Bool) (j:(List bG)) (c198:Bool) (o:(List bG)):Option (aB×aB):=some ((aB.mk c198 o),(aB.mk c194 j))
def cH (I:aB) (R:aB):Option (aB×aB):=(kt I.words R.words).bind fun j=>dQ (j.1.length*4≤140737488355328) ((fH I.minus j.1).bind fun J=>dQ (j.2.length*4≤140737488355328) ((fH I.minus j.2).bind fun o=>if o.minus then ((jR 1).bind fun GL=>(kK J GL).bind fun U=>(iO o R).bind fun GK=>iV GK.minus GK.words U.minus U.words) else (iV o.minus o.words J.minus J.words)))
def kr (o:Bool) (j:(List bG)) (c127:Bool) (I:(List bG)):Option (aA):=if decide ((j.length:Int)=1) then (idx j 0 fun GR=>if decide (GR.n=1) then (some (aA.mk (aB.mk c127 I) (aB.mk o j))) else ((lF (aB.mk c127 I) (aB.mk o j)).bind fun J=>if decide ((J.words.length:Int)=1) then (idx J.words 0 fun GS=>if decide (GS.n=1) then (some (aA.mk (aB.mk c127 I) (aB.mk o j))) else ((cH (aB.mk false I) J).bind fun U=>(cH (aB.mk o j) J).bind fun GN=>if c127 then (some (aA.mk (aB.mk (decide (0<(U.1.words.length:Int))) U.1.words) GN.1)) else (some (aA.mk (aB.mk false U.1.words) GN.1)))) else ((cH (aB.mk false I) J).bind fun GK=>(cH (aB.mk o j) J).bind fun GO=>if c127 then (some (aA.mk (aB.mk (decide (0<(GK.1.words.length:Int))) GK.1.words) GO.1)) else (some (aA.mk (aB.mk false GK.1.words) GO.1))))) else ((lF (aB.mk c127 I) (aB.mk o j)).bind fun R=>if decide ((R.words.length:Int)=1) then (idx R.words 0 fun GU=>if decide (GU.n=1) then (some (aA.mk (aB.mk c127 I) (aB.mk o j))) else ((cH (aB.mk false I) R).bind fun GL=>(cH (aB.mk o j) R).bind fun GP=>if c127 then (some (aA.mk (aB.mk (decide (0<(GL.1.words.length:Int))) GL.1.words) GP.1)) else (some (aA.mk (aB.mk false GL.1.words) GP.1)))) else ((cH (aB.mk false I) R).bind fun GM=>(cH (aB.mk o j) R).bind fun GQ=>if c127 then (some (aA.mk (aB.mk (decide (0<(GM.1.words.length:Int))) GM.1.words) GQ.1)) else (some (aA.mk (aB.mk false GM.1.words) GQ.1))))
def ko (o:aB) (j:aB):Option (aA):=if j.minus then ((iP o).bind fun I=>(iP j).bind fun J=>kr J.minus J.words I.minus I.words) else (kr j.minus j.words o.minus o.words)
def lP (j:Int) (o:Int):Option (aA):=(jR j).bind fun I=>(jR o).bind fun J=>(ko I J).bind fun R=>some R
def nF (J:bG) (j:Nat) (o:Nat) (R:bG) (I:List bG) (n337:Int) (GK:(List bG×Int)→Option (aB)):Option (aB):=idx I (i64.wrap ((j:Int)+(o:Int))) fun U=>idx I (i64.wrap ((j:Int)+(o:Int))) fun GL=>GK ((I.set ((i64.wrap ((j:Int)+(o:Int)):Int).toNat) ⟨u32.wrap (u64.wrap (n337+(u64.wrap ((u64.wrap (U.n))+(u64.wrap ((u64.wrap (J.n))*(u64.wrap (R.n))))))))⟩),jG .u64 (u64.wrap (n337+(u64.wrap ((u64.wrap (U.n))+(u64.wrap ((u64.wrap (J.n))*(u64.wrap (R.n)))))))) 32)
def nE (o:aB) (I:Nat) (R:bG) (U:List bG) (J:List bG→Option (aB)):Option (aB):=dW (fun k y j n=>nF R I k y j.1 j.2 n) (fun j=>idx j.1 (i64.wrap ((I:Int)+(o.words.length:Int))) fun GK=>J (j.1.set ((i64.wrap ((I:Int)+(o.words.length:Int)):Int).toNat) ⟨u32.wrap (j.2)⟩)) 0 o.words (U,0)
def dV (j:aB) (o:aB):Option (aB):=dQ (0≤(i64.wrap ((j.words.length:Int)+(o.words.length:Int)))∧(i64.wrap ((j.words.length:Int)+(o.words.length:Int)))*4≤140737488355328) (dW (fun k y I n=>nE o k y I n) (fun I=>(fH (!decide (j.minus=o.minus)) I).bind fun J=>some J) 0 j.words (List.replicate (i64.wrap ((j.words.length:Int)+(o.words.length:Int)):Int).toNat (⟨0⟩:bG)))
def iQ (j:aA) (o:aA):Option (aA):=(dV j.N o.N).bind fun I=>(dV j.D o.D).bind fun J=>(ko I J).bind fun R=>some R
def jy (j:Int):Option (aA):=(jR j).bind fun o=>(jR 1).bind fun I=>some (aA.mk o I)
def lg (j:Int):Option ((List aA)):=(jy 0).bind fun o=>dQ (([o]).length=1∧0≤j∧j*64≤140737488355328) (some (yI ([o]) j))
def kH (I:(List Int)) (J:Int) (j:Nat) (o:Unit→Option (Int)):Option (Int):=idx I (j:Int) fun R=>if decide (J=R) then (some (j:Int)) else (o ())
def iH (j:(List Int)) (o:Int):Option (Int):=jU (fun k I n=>kH j o k n) (fun _=>some (-1)) ((j.length:Int):Int).toNat 0 ()
def iX (j:aY) (bus:Int):Option (Int):=(iH j.lS bus).bind fun o=>some o
def eY (j:aA) (o:aA):Option (aA):=(dV j.N o.D).bind fun I=>(dV o.N j.D).bind fun J=>(iO I J).bind fun R=>(dV j.D o.D).bind fun U=>(ko R U).bind fun GK=>some GK
def jS (j:aA):Option (aA):=(iP j.N).bind fun o=>some (aA.mk o j.D)
def fU (j:aA) (o:aA):Option (aA):=(jS o).bind fun I=>(eY j I).bind fun J=>some J
def qG (I:Nat) (J:(List aA)) (j:List Nat) (o:List (List aA)) (R:(List Nat×List (List aA))→Option ((List Nat×List (List aA)))):Option ((List Nat×List (List aA))):=dQ ((([]:List aA).length+J.length)*64≤140737488355328) (idx j (I:Int) fun U=>R ((j.set (((I:Int):Int).toNat) o.length),(o++[([]:List aA)++J])))
def qa (o:(List (List aA))):Option ((List Nat×List (List aA))):=dQ (0≤(o.length:Int)∧(o.length:Int)*24≤140737488355328) (dW (fun k y j n=>qG k y j.1 j.2 n) (fun j=>some (j.1,j.2)) 0 o ((List.replicate ((o.length:Int):Int).toNat 0),([[]])))
def cJ (j:aA):Int:=(dT j.N)
def lY (j:aA) (o:aA):Option (aA):=(dV j.N o.D).bind fun I=>(dV j.D o.N).bind fun J=>(ko I J).bind fun R=>some R
def kZ (J:Int) (j:(List Int×Int×List Nat×List (List aA))→Option ((List Nat×List (List aA))×(List Int))) (R:List Int) (o:List Nat) (I:List (List aA)):Option ((List Nat×List (List aA))×(List Int)):=j (R,i64.wrap (J+1),o,I)
def gJ (j:List (List aA)→Option ((List Nat×List (List aA))×(List Int))) (o:List (List aA)):Option ((List Nat×List (List aA))×(List Int)):=j o
def jJ (I:Int) (j:(Int×List (List aA))→Option ((List Nat×List (List aA))×(List Int))) (o:List (List aA)):Option ((List Nat×List (List aA))×(List Int)):=j (i64.wrap (I+1),o)
def k4 (I:List Int) (J:List Nat) (R:Int) (U:Nat) (GK:Nat) (GO:List (List aA)→Option ((List Nat×List (List aA))×(List Int))) (GL:Nat) (GP:aA) (o:Int) (j:List (List aA)) (GN:(Int×List (List aA))→Option ((List Nat×List (List aA))×(List Int))):Option ((List Nat×List (List aA))×(List Int)):=idx ((J.set (((I.length:Int):Int).toNat) U).set ((R:Int).toNat) GK) (GL:Int) fun GQ=>if decide (o<(((j[GQ]?).getD []).length:Int)) then (idx ((J.set (((I.length:Int):Int).toNat) U).set ((R:Int).toNat) GK) (I.length:Int) fun GR=>idx ((j[GR]?).getD []) o fun GS=>if !decide ((cJ GS)=0) then (idx ((J.set (((I.length:Int):Int).toNat) U).set ((R:Int).toNat) GK) (GL:Int) fun GM=>idx ((J.set (((I.length:Int):Int).toNat) U).set ((R:Int).toNat) GK) (GL:Int) fun GU=>idx ((j[GU]?).getD []) o fun GV=>idx ((J.set (((I.length:Int):Int).toNat) U).set ((R:Int).toNat) GK) (I.length:Int) fun GW=>idx ((j[GW]?).getD []) o fun GX=>(iQ GP GX).bind fun GY=>(fU GV GY).bind fun GZ=>idx ((j[GM]?).getD []) o fun G0=>jJ o GN (j.set GM (((j[GM]?).getD []).set ((o:Int).toNat) GZ))) else (jJ o GN j)) else (gJ GO j)
def mr (o:List Int) (U:Int) (J:List Nat) (GK:Int) (GL:Nat) (GM:Nat) (I:Nat) (j:List (List aA)) (R:List (List aA)→Option ((List Nat×List (List aA))×(List Int))):Option ((List Nat×List (List aA))×(List Int)):=if decide ((I:Int)=(o.length:Int)) then (gJ R j) else (idx ((J.set (((o.length:Int):Int).toNat) GL).set ((GK:Int).toNat) GM) (I:Int) fun GO=>idx ((j[GO]?).getD []) U fun GP=>if decide ((cJ GP)=0) then (gJ R j) else (idx ((J.set (((o.length:Int):Int).toNat) GL).set ((GK:Int).toNat) GM) (I:Int) fun GQ=>idx ((j[GQ]?).getD []) U fun GR=>gO (fun GN n=>k4 o J GK GL GM R I GR GN.1 GN.2 n) fX (U,j)))
def k0 (j:List Int) (GL:Int) (o:List Nat) (GO:(List Int×Int×List Nat×List (List aA))→Option ((List Nat×List (List aA))×(List Int))) (J:Int) (R:Nat) (U:Nat) (GQ:aA) (GK:Int) (I:List (List aA)) (GP:(Int×List (List aA))→Option ((List Nat×List (List aA))×(List Int))):Option ((List Nat×List (List aA))×(List Int)):=idx ((o.set (((j.length:Int):Int).toNat) R).set ((J:Int).toNat) U) (j.length:Int) fun GR=>if decide (GK<(((I[GR]?).getD []).length:Int)) then (idx ((o.set (((j.length:Int):Int).toNat) R).set ((J:Int).toNat) U) (j.length:Int) fun GM=>idx ((o.set (((j.length:Int):Int).toNat) R).set ((J:Int).toNat) U) (j.length:Int) fun GS=>idx ((I[GS]?).getD []) GK fun GU=>(lY GU GQ).bind fun GV=>idx ((I[GM]?).getD []) GK fun GW=>GP (i64.wrap (GK+1),(I.set GM (((I[GM]?).getD []).set ((GK:Int).toNat) GV)))) else (dQ ((((o.set (((j.length:Int):Int).toNat) R).set ((J:Int).toNat) U).length:Int)≤9223372036854775807) (jU (fun k GN n=>mr j GL o J R U k GN n) (fun GN=>dQ ((j.length+([GL]:List Int).length)*8≤140737488355328) (kZ GL GO (j++([GL]:List Int)) ((o.set (((j.length:Int):Int).toNat) R).set ((J:Int).toNat) U) GN)) ((((o.set (((j.length:Int):Int).toNat) R).set ((J:Int).toNat) U).length:Int):Int).toNat 0 I))
def k5 (o:List Int) (J:Int) (j:List Nat) (R:List (List aA)) (GK:(List Int×Int×List Nat×List (List aA))→Option ((List Nat×List (List aA))×(List Int))) (I:Int):Option ((List Nat×List (List aA))×(List Int)):=if decide (I=(j.length:Int)) then (kZ J GK o j R) else (idx j I fun U=>idx j (o.length:Int) fun GL=>idx j (o.length:Int) fun GP=>idx (j.set (((o.length:Int):Int).toNat) U) I fun GQ=>idx ((j.set (((o.length:Int):Int).toNat) U).set ((I:Int).toNat) GL) (o.length:Int) fun GN=>idx ((R[GN]?).getD []) J fun GO=>gO (fun GM n=>k0 o J j GK I U GL GO GM.1 GM.2 n) fX (J,R))
def nY (U:List Int) (J:Int) (j:List Nat) (I:List (List aA)) (R:(List Int×Int×List Nat×List (List aA))→Option ((List Nat×List (List aA))×(List Int))) (o:Int) (GK:Int→Option ((List Nat×List (List aA))×(List Int))):Option ((List Nat×List (List aA))×(List Int)):=if decide (o<(j.length:Int)) then (idx j o fun GL=>idx ((I[GL]?).getD []) J fun GM=>if decide ((cJ GM)=0) then (GK (i64.wrap (o+1))) else (k5 U J j I R o)) else (k5 U J j I R o)
def jI (cols:Int) (j:List Int) (J:Int) (o:List Nat) (I:List (List aA)) (R:(List Int×Int×List Nat×List (List aA))→Option ((List Nat×List (List aA))×(List Int))):Option ((List Nat×List (List aA))×(List Int)):=if (decide (J<cols)) && (decide ((j.length:Int)<(o.length:Int))) then (gO (fun U n=>nY j J o I R U n) fX (j.length:Int)) else (some ((o,I),j))
def mL (I:(List (List aA))) (cols:Int):Option ((List Nat×List (List aA))×(List Int)):=(qa I).bind fun o=>gO (fun j n=>jI cols j.1 j.2.1 j.2.2.1 j.2.2.2 n) fX (([]:List Int),0,o.1,o.2)
def oQ (R:(List (List aA))) (J:Nat) (j:List Nat) (I:List (List aA)) (U:(List Nat×List (List aA))→Option ((List (List aA))×Bool)):Option ((List (List aA))×Bool):=idx j (J:Int) fun o=>dQ (0≤(R.length:Int)∧(R.length:Int)≤(((I[o]?).getD []).length:Int)) (idx j (J:Int) fun GK=>dQ (lone j (((J:Int):Int).toNat) o=true) (U ((j.set (((J:Int):Int).toNat) o),(I.set o (((I[o]?).getD []).drop ((R.length:Int):Int).toNat)))))
def oP (R:(List (List aA))) (j:Nat) (J:List Nat) (o:List (List aA)) (GL:(List Nat×List (List aA))→Option ((List (List aA))×Bool)):Option ((List (List aA))×Bool):=idx R (j:Int) fun I=>dQ ((([]:List aA).length+I.length)*64≤140737488355328) ((lg (R.length:Int)).bind fun U=>dQ (((([]:List aA)++I).length+U.length)*64≤140737488355328) (idx J (j:Int) fun GN=>idx (J.set (((j:Int):Int).toNat) o.length) (j:Int) fun GK=>(jy 1).bind fun GM=>idx (((o++[(([]:List aA)++I)++U])[GK]?).getD []) (i64.wrap ((R.length:Int)+(j:Int))) fun GO=>GL ((J.set (((j:Int):Int).toNat) o.length),((o++[(([]:List aA)++I)++U]).set GK ((((o++[(([]:List aA)++I)++U])[GK]?).getD []).set ((i64.wrap ((R.length:Int)+(j:Int)):Int).toNat) GM)))))
def mb (j:(List (List aA))):Option ((List (List aA))×Bool):=dQ (0≤(j.length:Int)∧(j.length:Int)*24≤140737488355328) (jU (fun k o n=>oP j k o.1 o.2 n) (fun o=>(mL (m_ o.1 o.2) (j.length:Int)).bind fun I=>if decide ((I.2.length:Int)<(j.length:Int)) then (some ([],false)) else (dQ ((I.1.1.length:Int)≤9223372036854775807) (jU (fun k J n=>oQ j k J.1 J.2 n) (fun J=>some (m_ J.1 J.2,true)) ((I.1.1.length:Int):Int).toNat 0 (I.1.1,I.1.2)))) ((j.length:Int):Int).toNat 0 ((List.replicate ((j.length:Int):Int).toNat 0),([[]])))
def eN (j:List (List aA)→Option (aY)) (o:List (List aA)):Option (aY):=j o
def fK (R:List Nat) (GL:List (List aA)→Option (aY)) (GM:aA) (J:(Int)) (o:(Int)) (j:List (List aA)):Option (aY):=if (decide (0≤J)) && (decide (0≤o)) then (idx R J fun I=>idx R o fun U=>idx R J fun GN=>idx ((j[GN]?).getD []) o fun GO=>(fU GO GM).bind fun GK=>idx R o fun GP=>idx ((j[GP]?).getD []) J fun GQ=>(fU GQ GM).bind fun GR=>idx ((j[I]?).getD []) o fun GS=>idx (((j.set I (((j[I]?).getD []).set ((o:Int).toNat) GK))[U]?).getD []) J fun GU=>eN GL ((j.set I (((j[I]?).getD []).set ((o:Int).toNat) GK)).set U ((((j.set I (((j[I]?).getD []).set ((o:Int).toNat) GK))[U]?).getD []).set ((J:Int).toNat) GR))) else (eN GL j)
def fL (I:List Nat) (U:List (List aA)→Option (aY)) (J:aA) (GK:(Int)) (j:(Int)) (o:List (List aA)):Option (aY):=if decide (0≤j) then (idx I j fun R=>idx I j fun GL=>idx ((o[GL]?).getD []) j fun GM=>(eY GM J).bind fun GN=>idx ((o[R]?).getD []) j fun GO=>fK I U J GK j (o.set R (((o[R]?).getD []).set ((j:Int).toNat) GN))) else (fK I U J GK j o)
def gT (I:aY) (J:List Nat) (GL:Nat) (U:aA) (o:List (List aA)) (R:List (List aA)→Option (aY)):Option (aY):=idx I.g_ (GL:Int) fun GN=>(iX I GN).bind fun j=>idx I.To (GL:Int) fun GO=>(iX I GO).bind fun GM=>idx I.g_ (GL:Int) fun GP=>idx I.To (GL:Int) fun GQ=>if decide (GP=GQ) then (eN R o) else (if decide (0≤j) then (idx J j fun GK=>idx J j fun GR=>idx ((o[GR]?).getD []) j fun GS=>(eY GS U).bind fun GU=>idx ((o[GK]?).getD []) j fun GV=>fL J R U j GM (o.set GK (((o[GK]?).getD []).set ((j:Int).toNat) GU))) else (fL J R U j GM o))
def lO (R:aY) (I:Nat) (j:List Nat) (o:List (List aA)) (J:(List Nat×List (List aA))→Option (aY)):Option (aY):=(lg (R.lS.length:Int)).bind fun U=>idx j (I:Int) fun GK=>J ((j.set (((I:Int):Int).toNat) o.length),(o++[U]))
def jX (j:aY):Option (aY):=dQ (0≤(j.lS.length:Int)∧(j.lS.length:Int)*24≤140737488355328) (dQ (((List.replicate ((j.lS.length:Int):Int).toNat 0).length:Int)≤9223372036854775807) (jU (fun k o n=>lO j k o.1 o.2 n) (fun o=>dW (fun k y I n=>gT j o.1 k y I n) (fun I=>(mb (m_ o.1 I)).bind fun J=>some (aY.mk j.qE j.g_ j.To j.B_ j.C j.lS J.1)) 0 j.B_ o.2) (((List.replicate ((j.lS.length:Int):Int).toNat 0).length:Int):Int).toNat 0 ((List.replicate ((j.lS.length:Int):Int).toNat 0),([[]]))))
def mK (o:(List (Int×Bool))) (j:((List (Int×Bool))×List Int)→Option ((Option aY))) (I:Int) (J:List Int):Option ((Option aY)):=j ((qn o I true),J)
def rl (R:Nat) (j:Int) (o:(List (Int×Bool))) (I:List Int) (J:((List (Int×Bool))×List Int)→Option ((Option aY))):Option ((Option aY)):=if (mZ o j).getD false then (dQ ((I.length+([((R:Int))]:List Int).length)*8≤140737488355328) (mK o J j (I++([((R:Int))]:List Int)))) else (mK o J j I)
def rk (I:aD) (J:(aW)) (GU:Nat) (j:bF) (R:List Int) (U:List Int) (GK:List aA) (GL:List aA) (GP:(List Int×List Int×List aA×List aA)→Option ((Option aY))):Option ((Option aY)):=(bC I.bJ j.g_).bind fun GQ=>idx J.kc GQ fun GM=>dQ ((R.length+([GM]:List Int).length)*8≤140737488355328) ((bC I.bJ j.To).bind fun GR=>idx J.kc GR fun GN=>dQ ((U.length+([GN]:List Int).length)*8≤140737488355328) ((lP 1000000 (i64.wrap (j.X*j.qR))).bind fun o=>dQ ((GK.length+([o]).length)*64≤140737488355328) ((lP (i64.wrap (0-j.Shift)) 1000).bind fun GS=>(iQ o GS).bind fun GO=>dQ ((GL.length+([GO]).length)*64≤140737488355328) (GP ((R++([GM]:List Int)),(U++([GN]:List Int)),(GK++([o])),(GL++([GO])))))))
def pO (I:aD):Option ((Option aY)):=(cW I).bind fun J=>dW (fun k y j n=>rk I J k y j.1 j.2.1 j.2.2.1 j.2.2.2 n) (fun j=>dW (fun k y o n=>rl k y o.1 o.2 n) (fun o=>(jX (aY.mk J j.1 j.2.1 j.2.2.1 j.2.2.2 o.2 [])).bind fun R=>some (some R)) 0 J.bB (([]:(List (Int×Bool))),([]:List Int))) 0 I.aK (([]:List Int),([]:List Int),([]:List aA),([]:List aA))
def cL (j:aY):Int:=(j.qE.bB.length:Int)
def mC (R:Nat) (J:Int) (j:List aA) (I:List aA→Option ((List aA))):Option ((List aA)):=(jy J).bind fun o=>dQ ((j.length+([o]).length)*64≤140737488355328) (I (j++([o])))
def mB (J:aY) (R:Nat) (U:Int) (j:List Int) (I:List Int→Option ((List aA))):Option ((List aA)):=idx J.qE.kc (R:Int) fun o=>idx j o fun GK=>idx j o fun GL=>I (j.set ((o:Int).toNat) (i64.wrap (GK+U)))
def kR (j:aY) (inject:(List Int)):Option ((List aA)):=dQ (0≤(cL j)∧(cL j)*8≤140737488355328) (dW (fun k y o n=>mB j k y o n) (fun o=>dW (fun k y I n=>mC k y I n) (fun I=>some I) 0 o ([]:List aA)) 0 inject (List.replicate ((cL j):Int).toNat (0:Int)))
def jA (j:(Bool×(List bG)×Bool×(List bG))→Option (aA)) (o:Bool) (I:(List bG)) (J:Bool) (R:(List bG)):Option (aA):=j (o,I,J,R)
def pY (GL:(List aA)) (GM:(List aA)) (o:Nat) (J:Bool) (R:(List bG)) (U:Bool) (GK:(List bG)) (j:(Bool×(List bG)×Bool×(List bG))→Option (aA)):Option (aA):=idx GL (o:Int) fun GN=>if decide ((cJ GN)=0) then (jA j J R U GK) else (idx GM (o:Int) fun GO=>if !decide ((cJ GO)=0) then (idx GL (o:Int) fun GP=>idx GM (o:Int) fun GQ=>(iQ GP GQ).bind fun GR=>(eY (aA.mk (aB.mk J R) (aB.mk U GK)) GR).bind fun I=>jA j I.N.minus I.N.words I.D.minus I.D.words) else (jA j J R U GK))
def pc (I:(List aA)) (J:(List aA)):Option (aA):=(jy 0).bind fun o=>jU (fun k j n=>pY I J k j.1 j.2.1 j.2.2.1 j.2.2.2 n) (fun j=>some (aA.mk (aB.mk j.1 j.2.1) (aB.mk j.2.2.1 j.2.2.2))) ((I.length:Int):Int).toNat 0 (o.N.minus,o.N.words,o.D.minus,o.D.words)
def lN (J:aY) (R:List aA) (U:Nat) (j:Int) (o:List aA) (I:List aA→Option ((List aA))):Option ((List aA)):=idx J.mJ (U:Int) fun GK=>(pc GK R).bind fun GL=>idx o j fun GM=>I (o.set ((j:Int).toNat) GL)
def lM (J:(List aA)) (j:Nat) (R:Int) (o:List aA) (I:List aA→Option ((List aA))):Option ((List aA)):=idx J R fun U=>idx o (j:Int) fun GK=>I (o.set (((j:Int):Int).toNat) U)
def jW (j:aY) (J:(List aA)):Option ((List aA)):=dQ (0≤(j.lS.length:Int)∧(j.lS.length:Int)*64≤140737488355328) (dW (fun k y o n=>lM J k y o n) (fun o=>(lg (cL j)).bind fun R=>dW (fun k y I n=>lN j o k y I n) (fun I=>some I) 0 j.lS R) 0 j.lS (List.replicate ((j.lS.length:Int):Int).toNat ((aA.mk (aB.mk false []) (aB.mk false [])):aA)))
def kg (o:aY) (I:Nat) (U:aA) (j:List aA) (GL:List aA→Option ((List aA))):Option ((List aA)):=idx o.g_ (I:Int) fun J=>idx o.g_ (I:Int) fun GM=>idx j GM fun GN=>(fU GN U).bind fun R=>idx j J fun GR=>idx o.To (I:Int) fun GK=>idx o.To (I:Int) fun GO=>idx (j.set ((J:Int).toNat) R) GO fun GP=>(eY GP U).bind fun GQ=>idx (j.set ((J:Int).toNat) R) GK fun GS=>GL ((j.set ((J:Int).toNat) R).set ((GK:Int).toNat) GQ)
def jV (j:aY) (I:(List aA)):Option ((List aA)):=dQ (I.length*64≤140737488355328) (dW (fun k y o n=>kg j k y o n) (fun o=>(jW j o).bind fun J=>some J) 0 j.C I)
def iJ (n291:Int) (I:(Int×List U8)→Option (ByteArray×Bool)) (j:bG) (o:List U8):Option (ByteArray×Bool):=dQ (o.length+(nS (u64.wrap (j.n))).size≤140737488355328) (I (i64.wrap (n291-1),(o++fZ (nS (u64.wrap (j.n))))))
def iK (j:List U8) (o:ByteArray):Option (ByteArray×Bool):=some (o,(decide (((s5 j).size:Int)≤2000)))
def lr (R:aB) (J:List bG) (n291:Int) (j:List U8) (I:(Int×List U8)→Option (ByteArray×Bool)):Option (ByteArray×Bool):=if decide (0≤n291) then (idx J n291 fun o=>dQ (0≤(u64.wrap (o.n))∧(u64.wrap (o.n))≤18446744073709551615) (if decide (n291<(i64.wrap ((J.length:Int)-1))) then (dQ (0≤((nS (u64.wrap (o.n))).size:Int)∧((nS (u64.wrap (o.n))).size:Int)≤((⟨#[48,48,48,48,48,48,48,48,48]⟩:ByteArray).size:Int)) (dQ (j.length+((⟨#[48,48,48,48,48,48,48,48,48]⟩:ByteArray).extract ((((nS (u64.wrap (o.n))).size:Int):Int).toNat) ((⟨#[48,48,48,48,48,48,48,48,48]⟩:ByteArray).size)).size≤140737488355328) (iJ n291 I o (j++fZ ((⟨#[48,48,48,48,48,48,48,48,48]⟩:ByteArray).extract ((((nS (u64.wrap (o.n))).size:Int):Int).toNat) ((⟨#[48,48,48,48,48,48,48,48,48]⟩:ByteArray).size)))))) else (iJ n291 I o j))) else (dQ (0<j.length) (if R.minus then (dQ ((⟨#[45]⟩:ByteArray).size+(s5 j).size≤maxLen) (iK j ((⟨#[45]⟩:ByteArray)++(s5 j)))) else (iK j (s5 j))))
def mU (U:aB) (j:List bG) (I:(List bG)) (R:(List bG×(List bG))→Option (ByteArray×Bool)):Option (ByteArray×Bool):=if decide (0<(I.length:Int)) then ((ku I 1000000000).bind fun o=>dQ ((j.length+([⟨o.2⟩]:List bG).length)*4≤140737488355328) ((fH false o.1).bind fun GK=>R ((j++([⟨o.2⟩]:List bG)),GK.words))) else (gO (fun J n=>lr U j J.1 J.2 n) fX (i64.wrap ((j.length:Int)-1),([]:List U8)))
def gU (j:aB):Option (ByteArray×Bool):=if decide ((j.words.length:Int)=0) then (some ((⟨#[48]⟩),true)) else (if decide (210<(j.words.length:Int)) then (some ((⟨#[]⟩),false)) else (gO (fun o n=>mU j o.1 o.2 n) fX (([]:List bG),j.words)))
def jt (I:aA):Option (ByteArray×Bool):=(gU I.N).bind fun j=>if !j.2 then (some ((⟨#[]⟩),false)) else ((gU I.D).bind fun o=>if decide (o.1=(⟨#[49]⟩)) then (some (j.1,o.2)) else (dQ (j.1.size+(⟨#[47]⟩:ByteArray).size≤maxLen) (dQ ((j.1++(⟨#[47]⟩)).size+o.1.size≤maxLen) (some (((j.1++(⟨#[47]⟩))++o.1),o.2)))))
def oO (j:Nat) (R:aA) (o:List ByteArray) (J:List ByteArray→Option ((List ByteArray)×Bool)):Option ((List ByteArray)×Bool):=(jt R).bind fun I=>if !I.2 then (some (([]:List ByteArray),false)) else (idx o (j:Int) fun U=>J (o.set (((j:Int):Int).toNat) I.1))
def oX (j:(List aA)):Option ((List ByteArray)×Bool):=dQ (0≤(j.length:Int)∧(j.length:Int)*16≤140737488355328) (dW (fun k y o n=>oO k y o n) (fun o=>some (o,true)) 0 j (List.replicate ((j.length:Int):Int).toNat ((⟨#[]⟩):ByteArray)))
def kx (o:(List aA)):Option ((List ByteArray)×Int):=(oX o).bind fun j=>if !j.2 then (some (([]:List ByteArray),2)) else (some (j.1,0))
def mf (j:aY) (I:(List aA)) (o:Nat) (GK:aA) (J:List aA) (U:List aA→Option ((List aA))):Option ((List aA)):=idx j.B_ (o:Int) fun GL=>idx j.g_ (o:Int) fun GM=>idx I GM fun GN=>idx j.To (o:Int) fun GO=>idx I GO fun GP=>(fU GN GP).bind fun GQ=>(iQ GL GQ).bind fun GR=>(eY GR GK).bind fun R=>dQ ((J.length+([R]).length)*64≤140737488355328) (U (J++([R])))
def kA (o:aY) (I:(List aA)):Option ((List aA)):=dW (fun k y j n=>mf o I k y j n) (fun j=>some j) 0 o.C ([]:List aA)
def ki (j:aD) (inject:(List Int)):Option (dN×Int):=(kf j inject).bind fun o=>if !decide (o=0) then (some ((dN.mk [] []),o)) else ((pO j).bind fun U=>Bp U none (fun sp108=>(kR sp108 inject).bind fun GK=>(jV sp108 GK).bind fun I=>(kx I).bind fun J=>(kA sp108 I).bind fun GL=>(kx GL).bind fun R=>if (!decide (J.2=0)) || (!decide (R.2=0)) then (some ((dN.mk [] []),2)) else (some ((dN.mk J.1 R.1),0))))
def eD (j:ByteArray) (o:Int):Int:=(Fp j o)
def eX (j:ByteArray) (substr:ByteArray):Option (Int):=if (decide ((substr.size:Int)=0)) || (decide (substr=j)) then (some 0) else (if decide ((substr.size:Int)=1) then (idx (fZ substr) 0 fun o=>some (eD j o.n)) else (if decide ((j.size:Int)≤(substr.size:Int)) then (some (-1)) else none))
def fO (j:ByteArray) (sep:ByteArray):Option (ByteArray×ByteArray×Bool):=(eX j sep).bind fun o=>if decide (0≤o) then (dQ (0≤o∧o≤(j.size:Int)) (dQ (0≤(i64.wrap (o+(sep.size:Int)))∧(i64.wrap (o+(sep.size:Int)))≤(j.size:Int)) (some ((j.extract 0 ((o:Int).toNat)),(j.extract ((i64.wrap (o+(sep.size:Int)):Int).toNat) j.size),true)))) else (some (j,(⟨#[]⟩),false))
def kq (o:ByteArray) (sep:ByteArray):Option (ByteArray×ByteArray×Bool):=(fO o sep).bind fun j=>some (j.1,j.2.1,j.2.2)
def dL (o:ByteArray) (j:ByteArray):Option (Bool):=if decide ((j.size:Int)≤(o.size:Int)) then (dQ (0≤(j.size:Int)∧(j.size:Int)≤(o.size:Int)) (some (decide ((o.extract 0 (((j.size:Int):Int).toNat))=j)))) else (some false)
def kb (o:ByteArray) (j:ByteArray):Option (Bool):=(dL o j).bind fun I=>some I
def fA (o:ByteArray) (j:ByteArray):Option (ByteArray):=(dL o j).bind fun I=>if I then (dQ (0≤(j.size:Int)∧(j.size:Int)≤(o.size:Int)) (some (o.extract (((j.size:Int):Int).toNat) o.size))) else (some o)
def gZ (o:ByteArray) (j:ByteArray):Option (ByteArray):=(fA o j).bind fun I=>some I
def np (o:(Bool)) (I:Bool) (j:(List bG)):Option (aB):=if o then (some (aB.mk (decide (0<(j.length:Int))) j)) else (some (aB.mk false j))
def pn (U:(Bool)) (j:ByteArray) (o:Bool) (I:(List bG)) (R:(ByteArray×Bool×(List bG))→Option (aB)):Option (aB):=if decide (0<(j.size:Int)) then (dQ (0≤(i64.wrap ((Int.tmod (i64.wrap ((j.size:Int)-1)) 9)+1))∧(i64.wrap ((Int.tmod (i64.wrap ((j.size:Int)-1)) 9)+1))≤(j.size:Int)) (dQ ((j.extract 0 ((i64.wrap ((Int.tmod (i64.wrap ((j.size:Int)-1)) 9)+1):Int).toNat)).size≠0∧(j.extract 0 ((i64.wrap ((Int.tmod (i64.wrap ((j.size:Int)-1)) 9)+1):Int).toNat)).size≤281474976710656∧(Dc (j.extract 0 ((i64.wrap ((Int.tmod (i64.wrap ((j.size:Int)-1)) 9)+1):Int).toNat))).2=false) ((jR 1000000000).bind fun GK=>(dV (aB.mk o I) GK).bind fun GL=>(jR (i64.wrap ((Dc (j.extract 0 ((i64.wrap ((Int.tmod (i64.wrap ((j.size:Int)-1)) 9)+1):Int).toNat))).1))).bind fun GM=>(iO GL GM).bind fun J=>dQ (0≤(i64.wrap ((Int.tmod (i64.wrap ((j.size:Int)-1)) 9)+1))∧(i64.wrap ((Int.tmod (i64.wrap ((j.size:Int)-1)) 9)+1))≤(j.size:Int)) (R (j.extract ((i64.wrap ((Int.tmod (i64.wrap ((j.size:Int)-1)) 9)+1):Int).toNat) j.size,J.minus,J.words))))) else (np U o I)
def iE (o:ByteArray):Option (aB):=(kb o (⟨#[45]⟩)).bind fun I=>(gZ o (⟨#[45]⟩)).bind fun J=>gO (fun j n=>pn I j.1 j.2.1 j.2.2 n) fX (J,false,[])
def jx (o:ByteArray):Option (aA):=(kq o (⟨#[47]⟩)).bind fun j=>if !j.2.2 then ((iE j.1).bind fun I=>(jR 1).bind fun J=>some (aA.mk I J)) else ((iE j.1).bind fun R=>(iE j.2.1).bind fun U=>some (aA.mk R U))
def lX (j:aA):Option (aA):=if decide ((cJ j)<0) then ((jS j).bind fun o=>some o) else (some j)
def nj (j:aB) (o:aB):Option (Int):=(kK j o).bind fun I=>some (dT I)
def kL (j:aA) (o:aA):Option (Int):=(dV j.N o.D).bind fun I=>(dV o.N j.D).bind fun J=>(nj I J).bind fun R=>some R
def k7 (j:List ByteArray→Option ((List ByteArray))) (o:List ByteArray):Option ((List ByteArray)):=j o
def n7 (flows:(List ByteArray)) (J:Nat) (j:bF) (o:List ByteArray) (I:List ByteArray→Option ((List ByteArray))):Option ((List ByteArray)):=idx flows (J:Int) fun R=>(jx R).bind fun U=>(lX U).bind fun GK=>(jy j.iA).bind fun GL=>(kL GK GL).bind fun GM=>if decide (0<GM) then (dQ ((o.length+([j.Name]).length)*16≤140737488355328) (k7 I (o++([j.Name])))) else (k7 I o)
def iG (o:aD) (flows:(List ByteArray)):Option ((List ByteArray)):=dW (fun k y j n=>n7 flows k y j n) (fun j=>some j) 0 o.aK ([]:List ByteArray)
def kO (o:aD):Option (dN×(List ByteArray)×Int):=(eO o).bind fun I=>if !decide (I.2=0) then (some ((dN.mk [] []),[],I.2)) else ((ki o I.1).bind fun j=>if !decide (j.2=0) then (some ((dN.mk [] []),[],j.2)) else ((iG o j.1.kn).bind fun J=>some (j.1,J,0)))
def fV (I:aD) (on:(List ByteArray)):Option (dN×(List ByteArray)×Int):=(jD I on).bind fun j=>if !decide (j.2=0) then (some ((dN.mk [] []),[],j.2)) else ((kO j.1).bind fun o=>some (o.1,o.2.1,o.2.2))
def iI:aD:=(aD.mk ([(⟨#[65]⟩),(⟨#[66]⟩)]) ([(cO.mk (⟨#[83]⟩) (⟨#[65]⟩) (⟨#[66]⟩) false true)]) ([(bF.mk (⟨#[76]⟩) (⟨#[65]⟩) (⟨#[66]⟩) 1000 1000 0 40 60 10)]) ([(cU.mk (⟨#[71]⟩) (⟨#[65]⟩) 10 50 0)]) ([(aN.mk (⟨#[68]⟩) (⟨#[66]⟩) 30)]) [])
def px (o:aD):Option (Int):=(kO o).bind fun j=>if (decide (j.2.2=0)) && (decide (0<(j.2.1.length:Int))) then (some 17) else (some j.2.2)
def kE (j:Unit→Option ((List ByteArray)×Bool)):Option ((List ByteArray)×Bool):=j ()
def oy (self:aD→(List ByteArray)→Option ((List ByteArray)×Bool)) (R:aD) (j:(List ByteArray)) (GK:Nat) (o:aN) (I:Unit→Option ((List ByteArray)×Bool)):Option ((List ByteArray)×Bool):=(cK j o.Name).bind fun U=>if U then (kE I) else (dQ (0≤(j.length:Int)∧(j.length:Int)≤(j.length:Int)) (dQ (((oA j 0 (((j.length:Int):Int).toNat)).length+([o.Name]).length)*16≤140737488355328) ((self R ((oA j 0 (((j.length:Int):Int).toNat))++([o.Name]))).bind fun J=>if J.2 then (some (J.1,true)) else (kE I))))
def lz (self:aD→(List ByteArray)→Option ((List ByteArray)×Bool)) (j:aD) (o:(List ByteArray)):Option ((List ByteArray)×Bool):=(lA j o).bind fun I=>(px I).bind fun J=>if !decide (J=0) then (some ([],false)) else (if decide ((o.length:Int)=(j.cC.length:Int)) then (some (o,true)) else (dW (fun k y R n=>oy self j o k y n) (fun _=>some ([],false)) 0 j.cC ()))
def jL:Nat→aD→(List ByteArray)→Option ((List ByteArray)×Bool)
 | 0=>fun _ _=>none
 | n+1=>lz (jL n)
def qg (j:aD) (o:(List ByteArray)):Option ((List ByteArray)×Bool):=jL fX j o
def qe (j:aD):Option ((List ByteArray)×Int):=(cD j).bind fun o=>if !decide (o=0) then (some ([],o)) else (if decide (5<(j.cC.length:Int)) then (some ([],2)) else ((qg j []).bind fun I=>if !I.2 then (some ([],8)) else (some (I.1,0))))
def iR (o:(List ByteArray)) (I:(List ByteArray)) (j:Nat) (J:Unit→Option (Bool)):Option (Bool):=idx o (j:Int) fun R=>idx I (j:Int) fun U=>if !decide (R=U) then (some false) else (J ())
def dM (j:(List ByteArray)) (o:(List ByteArray)):Option (Bool):=if !decide ((j.length:Int)=(o.length:Int)) then (some false) else (jU (fun k I n=>iR j o k n) (fun _=>some true) ((j.length:Int):Int).toNat 0 ())
def fG:Option (Bool):=(fV ((iI)) ([(⟨#[68]⟩)])).bind fun j=>(qe ((iI))).bind fun o=>if decide (j.2.2=0) then (if decide (o.2=0) then (if decide ((j.2.1.length:Int)=0) then (if decide ((j.1.kn.length:Int)=1) then (idx j.1.kn 0 fun I=>if decide (I=(⟨#[51,48]⟩)) then ((dM o.1 ([(⟨#[68]⟩)])).bind fun J=>some J) else (some false)) else (some false)) else (some false)) else (some false)) else (some false)
def qc (I:Nat) (j:U8) (o:Unit→Option (Int)):Option (Int):=if (decide (j.n<48)) || (decide (57<j.n)) then (some 5) else (o ())
def lG (j:ByteArray):Option (Int):=dQ (j.size≤maxLen) (dW (fun k y I n=>qc k y n) (fun _=>if decide (j=(⟨#[]⟩)) then (some 5) else (if decide (1<(j.size:Int)) then (idx (fZ j) 0 fun o=>if decide (o.n=48) then (some 5) else (if decide (2000<(j.size:Int)) then (some 2) else (some 0))) else (if decide (2000<(j.size:Int)) then (some 2) else (some 0)))) 0 (fZ j) ())
def rp (I:ByteArray) (J:ByteArray) (R:Nat) (o:Unit→Option (aB×aB×Int)):Option (aB×aB×Int):=idx [I,J] (R:Int) fun U=>(lG U).bind fun j=>if !decide (j=0) then (some ((aB.mk false []),(aB.mk false []),j)) else (o ())
def qY (j:ByteArray) (o:ByteArray):Option (aB×aB×Int):=jU (fun k R n=>rp j o k n) (fun _=>(iE j).bind fun I=>(iE o).bind fun J=>some (I,J,0)) (2:Int).toNat 0 ()
def rm (o:aB):Option (ByteArray×Int):=(gU o).bind fun j=>if !j.2 then (some ((⟨#[]⟩),2)) else (some (j.1,0))
def qX (I:ByteArray) (J:ByteArray):Option (ByteArray×Int):=(qY I J).bind fun j=>if !decide (j.2.2=0) then (some ((⟨#[]⟩),j.2.2)) else ((lF j.1 j.2.1).bind fun R=>(rm R).bind fun o=>some (o.1,o.2))
def n6:Option (Int):=some 0
def jC (I:ByteArray) (J:(ByteArray)) (j:(ByteArray×ByteArray×Bool)) (o:(Int)) (n110:Int):Option (Int):=if ((decide (o=5)) || (decide (n110=5))) || ((decide (j.1=(⟨#[48]⟩))) && (decide ((J.size:Int)<(I.size:Int)))) then (some 5) else (if (!decide (o=0)) || (!decide (n110=0)) then (some 2) else (if j.2.2 then ((qX j.1 j.2.1).bind fun R=>if ((decide (j.2.1=(⟨#[48]⟩))) || (decide (j.2.1=(⟨#[49]⟩)))) || (!decide (R.1=(⟨#[49]⟩))) then (some 3) else n6) else n6))
def lH (o:ByteArray):Option (Int):=(gZ o (⟨#[45]⟩)).bind fun I=>(kq I (⟨#[47]⟩)).bind fun j=>(lG j.1).bind fun J=>if j.2.2 then ((lG j.2.1).bind fun R=>jC o I j J R) else (jC o I j J 0)
def nZ (J:Nat) (I:ByteArray) (o:Unit→Option (Int)):Option (Int):=(lH I).bind fun j=>if !decide (j=0) then (some j) else (o ())
def iF (j:(List ByteArray)):Option (Int):=dW (fun k y o n=>nZ k y n) (fun _=>some 0) 0 j ()
def k6 (j:(List ByteArray)):Option (Int):=if decide (40<(j.length:Int)) then (some 2) else ((iF j).bind fun o=>some o)
def hO (o:(List ByteArray)) (I:(List ByteArray)) (j:Nat) (J:Unit→Option (Bool)):Option (Bool):=idx o (j:Int) fun R=>idx I (j:Int) fun U=>if !decide (R=U) then (some false) else (J ())
def dU (j:(List ByteArray)) (o:(List ByteArray)):Option (Bool):=if !decide ((j.length:Int)=(o.length:Int)) then (some false) else (jU (fun k I n=>hO j o k n) (fun _=>some true) ((j.length:Int):Int).toNat 0 ())
def oL (J:Nat) (I:(List ByteArray)) (o:Unit→Option (Int)):Option (Int):=(k6 I).bind fun j=>if !decide (j=0) then (some j) else (o ())
def l9 (o:aD) (inject:(List Int)) (j:dN):Option (Int):=(kf o inject).bind fun J=>if !decide (J=0) then (some J) else ((pO o).bind fun R=>Bp R none (fun sp108=>if decide ((j.lJ.length:Int)=(cL sp108)) then (if !decide ((j.kn.length:Int)=(o.aK.length:Int)) then (some 3) else (dW (fun k y GL n=>oL k y n) (fun _=>(ki o inject).bind fun I=>if decide (I.2=0) then ((dU I.1.lJ j.lJ).bind fun U=>if U then ((dU I.1.kn j.kn).bind fun GK=>if !GK then (some 21) else (some 0)) else (some 21)) else (some 21)) 0 ([j.lJ,j.kn]) ())) else (some 3)))
def qd (o:aA):Option (ByteArray×Int):=(jt o).bind fun j=>if !j.2 then (some ((⟨#[]⟩),2)) else (some (j.1,0))
def qZ (I:Int) (j:Int):Option (ByteArray×Int):=if decide (j=0) then (some ((⟨#[]⟩),10)) else ((lP I j).bind fun J=>(qd J).bind fun o=>some (o.1,o.2))
def qA (j:aA) (I:aA):Option (aA):=(jS j).bind fun o=>some o
def lu (j:ByteArray) (o:ByteArray):Option (ByteArray×Int):=(iF ([j,o])).bind fun I=>if !decide (I=0) then (some ((⟨#[]⟩),I)) else ((jx j).bind fun R=>(jx o).bind fun U=>(qA R U).bind fun GK=>(qd GK).bind fun J=>some (J.1,J.2))
def pP (o:ByteArray):Option (ByteArray×Int):=(lu o (⟨#[48]⟩)).bind fun j=>some (j.1,j.2)
def mc (j:ByteArray) (o:ByteArray):Option (Int×Int):=(iF ([j,o])).bind fun I=>if !decide (I=0) then (some (0,I)) else ((jx j).bind fun J=>(jx o).bind fun R=>(kL J R).bind fun U=>some (U,0))
def mF (j:aD) (flows:(List ByteArray)):Option ((List ByteArray)×Int):=(cD j).bind fun o=>if !decide (o=0) then (some (([]:List ByteArray),o)) else ((iF flows).bind fun I=>if !decide (I=0) then (some (([]:List ByteArray),I)) else (if !decide ((flows.length:Int)=(j.aK.length:Int)) then (some (([]:List ByteArray),3)) else ((iG j flows).bind fun J=>some (J,0))))
def eB (j:List ByteArray→Option (Bool)) (o:List ByteArray):Option (Bool):=j o
def eC (j:List ByteArray→Option (Bool)) (o:List ByteArray):Option (Bool):=j o
def iD (R:(dN×(List ByteArray)×Int)) (U:Nat) (j:bF) (o:List ByteArray) (I:List ByteArray→Option (Bool)):Option (Bool):=(qZ j.iA 1).bind fun J=>(pP J.1).bind fun GK=>idx R.1.kn (U:Int) fun GN=>(mc GN J.1).bind fun GL=>idx R.1.kn (U:Int) fun GO=>(mc GO GK.1).bind fun GM=>if (((!decide (J.2=0)) || (!decide (GK.2=0))) || (!decide (GL.2=0))) || (!decide (GM.2=0)) then (some false) else (if (decide (0<GL.1)) || (decide (GM.1<0)) then (dQ ((o.length+([j.Name]).length)*16≤140737488355328) (eC I (o++([j.Name])))) else (eC I o))
def iC (I:Int) (J:Nat) (R:aN) (j:List ByteArray) (o:List ByteArray→Option (Bool)):Option (Bool):=dQ (0≤(J:Int)) (if decide ((i64.wrap ((BitVec.ofInt (i64).bits (jG .i64 I (J:Int)) &&& BitVec.ofInt (i64).bits 1).toNat))=1) then (dQ ((j.length+([R.Name]).length)*16≤140737488355328) (eB o (j++([R.Name])))) else (eB o j))
def dX (GM:aD) (U:Int):Option (Bool):=(lq GM).bind fun o=>dW (fun k y I n=>iC U k y I n) (fun I=>(fV o I).bind fun j=>if !decide (j.2.2=0) then ((fG).bind fun GN=>some ((GN && (decide ((j.2.1.length:Int)=0))) && (decide ((j.1.kn.length:Int)=0)))) else ((jD o I).bind fun R=>(eO R.1).bind fun GK=>if decide (R.2=0) then (if decide (GK.2=0) then ((l9 R.1 GK.1 j.1).bind fun GO=>if decide (GO=0) then (if !decide ((j.1.kn.length:Int)=(o.aK.length:Int)) then (some false) else (dW (fun k y J n=>iD j k y J n) (fun J=>(mF o j.1.kn).bind fun GL=>(fG).bind fun GP=>if GP then (if decide (GL.2=0) then ((dM j.2.1 J).bind fun GQ=>if GQ then ((dM GL.1 J).bind fun GR=>some GR) else (some false)) else (some false)) else (some false)) 0 o.aK ([]:List ByteArray))) else (some false)) else (some false)) else (some false))) 0 o.cC ([]:List ByteArray)
end Go.Sim
namespace Go.Sim
open Go Go.RowKit
open _root_.Go.IntKind (i64 u64 u32 u8)
def Gd {R:Type} (o:Option R) (Q:R→Prop):Prop:=∃ r,o=some r∧Q r
section
variable {R α β σ:Type}{Q Q':R→Prop}
theorem Gd.mono {o:Option R} (h:Gd o Q) (k:∀ r,Q r→Q' r):Gd o Q':=by
 obtain ⟨r,e,q⟩:=h; exact ⟨r,e,k r q⟩
theorem Gd.ret {r:R} (h:Q r):Gd (some r) Q:=⟨r,rfl,h⟩
theorem Gd.nd {p:Prop}[Decidable p] {k:Option R} (h:p) (hk:Gd k Q):Gd (dQ p k) Q:=by
 unfold Sim.dQ; rw [Hi h]; exact hk
theorem Gd.eA {o:Option α}{k:α→Option R}{P:α→Prop} (h:Gd o P) (hk:∀ a,P a→Gd (k a) Q):Gd (o.bind k) Q:=by
 obtain ⟨a,rfl,q⟩:=h; exact hk a q
theorem Gd.bind_eq {o:Option α}{a:α}{k:α→Option R} (h:o=some a) (hk:Gd (k a) Q):Gd (o.bind k) Q:=by
 subst h; exact hk
theorem Gd.ite {b:Bool}{p q:Option R} (h1:b=true→Gd p Q) (h2:b=false→Gd q Q):Gd (if b=true then p else q) Q:=by
 cases b
 ·simpa using h2 rfl
 ·simpa using h1 rfl
theorem Gd.ix {l:List α}{i:Int}{k:α→Option R}{y:α} (h0:0≤i) (hy:l[i.toNat]? = some y) (hk:Gd (k y) Q):Gd (idx l i k) Q:=by
 unfold Sim.idx; rw [Hi h0,hy]; exact hk
theorem Gd.jz {l:List α}{i:Nat}{k:α→Option R} (h:i<l.length) (hk:Gd (k l[i]) Q):Gd (Sim.idx l (i:Int) k) Q:=
 Gd.ix (by omega) (G7 (by simpa using h)) hk
theorem Gd.dW {body:Nat→α→σ→(σ→Option R)→Option R}{k:σ→Option R} (I:Nat→List α→σ→Prop)
  (hb:∀ i y ys s n,I i (y::ys) s→(∀ s',I (i+1) ys s'→Gd (n s') Q)→Gd (body i y s n) Q) (hk:∀ i s,I i [] s→Gd (k s) Q):
  ∀ (l:List α) (i:Nat) (s:σ),I i l s→Gd (dW body k i l s) Q
 | [],i,s,h=>hk i s h
 | y::ys,i,s,h=>hb i y ys s _ h (fun s' h'=>Gd.dW I hb hk ys (i+1) s' h')
theorem Gd.jU {body:Nat→σ→(σ→Option R)→Option R}{k:σ→Option R} (I:Nat→Nat→σ→Prop)
  (hb:∀ m i s n,I (m+1) i s→(∀ s',I m (i+1) s'→Gd (n s') Q)→Gd (body i s n) Q) (hk:∀ i s,I 0 i s→Gd (k s) Q):
  ∀ (m i:Nat) (s:σ),I m i s→Gd (jU body k m i s) Q
 | 0,i,s,h=>hk i s h
 | m+1,i,s,h=>hb m i s _ h (fun s' h'=>Gd.jU I hb hk m (i+1) s' h')
theorem Gd.gO {body:σ→(σ→Option R)→Option R} (I:σ→Prop) (μ:σ→Nat)
  (hb:∀ s n,I s→(∀ s',I s'→μ s'<μ s→Gd (n s') Q)→Gd (body s n) Q):
  ∀ (m:Nat) (s:σ),I s→μ s<m→Gd (gO body m s) Q
 | 0,s,_,h=>by omega
 | m+1,s,hI,h=>hb s _ hI (fun s' h' hlt=>Gd.gO I μ hb m s' h' (by omega))
theorem Gd.eq {o:Option R}{r:R}:Gd o (fun x=>x=r)↔o=Option.some r:=by
 constructor
 ·rintro ⟨x,h,rfl⟩; exact h
 ·intro h; exact ⟨r,h,rfl⟩
end
theorem bT {n:Int} (h:-9223372036854775808≤n∧n≤9223372036854775807):i64.wrap n=n:=r7 h.1 h.2
theorem Gd.seen {R α σ:Type}{Q:R→Prop}{body:Nat→α→σ→(σ→Option R)→Option R}{k:σ→Option R}{l:List α} (I:List α→σ→Prop)
  (hb:∀ i y s n pre,(∃ post,l=pre++y::post)→I pre s→(∀ s',I (pre++[y]) s'→Gd (n s') Q)→Gd (body i y s n) Q) (hk:∀ s,I l s→Gd (k s) Q) (s:σ) (hs:I [] s):Gd (Sim.dW body k 0 l s) Q:=by
 have key:∀ (ys pre:List α) (i:Nat) (s:σ),l=pre++ys→I pre s→Gd (Sim.dW body k i ys s) Q:=by
  intro ys
  induction ys with
  | nil=>intro pre i s hl hs; rw [H9] at hl; subst hl; exact hk s hs
  | cons y ys ih=>
   intro pre i s hl hs;exact hb i y s _ pre ⟨ys,hl⟩ hs (fun s' hs'=>ih (pre++[y]) (i+1) s' (by rw [hl]; simp) hs')
 exact key l [] 0 s rfl hs
theorem qM {α:Type}{l pre:List α}{y:α} (h:∃ post,l=pre++y::post):pre.length<l.length∧y ∈ l∧∀ x ∈ pre,x ∈ l:=by
 obtain ⟨post,rfl⟩:=h;exact ⟨by simp,by simp,fun x hx=>G8 _ hx⟩
end Go.Sim
