/-
  The proof, part A2.
-/
import Derived.Lib.Bytealg
import Derived.Laws.Externs
import Derived.Lib.LaidTab
import Derived.Lib.AppendIntMem
import Derived.Lib.ItoaNum
import Derived.Lib.AtoiAll
import Derived.Lib.SmallJoins
import Derived.Laws.BytesString
import Derived.Laws.IdiomStrings
import Derived.Lib.ParseIntBMem
import Derived.Laws.IdiomRangeMap
import Derived.Lib.UnsafeStr
import Derived.Lib.Builder
import Derived.Lib.AppendStr
import Derived.Laws.Bits64b
import Derived.Test.YtcfeheigjjnpnaaGreatDoorSqA1
set_option linter.unusedVariables false
set_option linter.unusedSimpArgs false
set_option linter.unusedSectionVars false
set_option linter.unnecessarySimpa false
namespace Go.Sim
abbrev Kb := @Int.fdiv_eq_ediv_of_nonneg
abbrev Kj := @Int.le_refl
abbrev KV := @Int.toNat_of_nonneg
abbrev KW := @Go.Lib.strCells_length
abbrev L3 := @List.Perm.append_left
abbrev Mj := @List.drop_succ_cons
abbrev JX := @List.getElem?_replicate
abbrev HM := @List.getElem?_set_ne
abbrev HS := @List.getElem?_set_self
abbrev JH := @List.getElem_map
abbrev Jh := @List.length_drop
abbrev Hw := @List.length_set
abbrev JV := @List.mem_of_mem_take
abbrev J5 := @List.replicate_succ
abbrev I2 := @List.take_append_drop
abbrev K_ := @List.take_append_of_le_length
abbrev LG := @List.take_zero
abbrev KX := @List.zipWith_append
abbrev J9 := @Nat.add_comm
abbrev Jx := @Nat.lt_or_ge
abbrev KA := @Nat.mod_lt
end Go.Sim
namespace Go.Sim
open Go Go.RowKit
open _root_.Go.IntKind (i64 u64 u32 u8)
def F7 (H:Hp) (v:Value) (n sz:Nat) (xs:List Value):Prop:=
 xs.length=n*sz∧(∀ u ∈ xs,u.oneCell'=true) ∧
 (((∃ a,v=.slice a 0 0)∧n=0)∨∃ b off cap arr T fz,v=.slice (some ⟨b,off,none⟩) n cap∧H b=some (.cells arr T fz)∧∀ j u,xs[j]? = some u→arr[off+j]? = some u)
theorem F7.shape {H:Hp}{v:Value}{n sz:Nat}{xs:List Value} (h:F7 H v n sz xs):∃ o c,v=.slice o n c:=by
 rcases h.2.2 with ⟨⟨a,rfl⟩,rfl⟩ | ⟨b,off,cap,arr,T,fz,rfl,_⟩ <;> exact ⟨_,_,rfl⟩
theorem F7.isNil {H:Hp}{n m c sz:Nat}{xs:List Value} (h:F7 H (.slice none m c) n sz xs):n=0∧xs=[]:=by
 rcases h.2.2 with ⟨_,h0⟩ | ⟨b,off,cap,arr,T,fz,h0,_⟩
 ·subst h0; exact ⟨rfl,H7 (by rw [h.1,Jc])⟩
 ·cases h0
section
variable {B:Nat}{w0 w:World}{H:Hp}{M:List bR}
end
section
variable {x:Cx}{ops:Array Oper}{Q:kF}{rest:List Oper}{H:Hp}{M M':List bR}{L L':Env}
variable {d:Nat}{ty:TypeId}{pos:String}{aft:Array Edge}{g:Option (Nat×Bool)}
theorem Aa {o:Oper} (hd:o.dst=none) (hg:gd ops L o=some true)
  (hrun:∀ a w,Sl x.N L a→St x.B x.w0 H M w→∃ v w',(execOp a.eval o).run x.P w=.ok (.value v) w'∧∃ H' M',St x.B x.w0 H' M' w'∧W x ops Q rest H' M' L):
  W x ops Q (o::rest) H M L:=by
 intro a w hs ht;obtain ⟨v,w',hr,H',M',ht',k⟩:=hrun a w hs ht;refine Lq fun K hK=>?_;rw [Hl (hs.gd hg)];unfold Oper.wp;rw [hr];simp only [Oper.upon,hd];exact hK _ _ (k _ _ hs ht')
theorem oX {t e:TypeId}{sz len cap l h m:Nat}{y:Operand}{lo hi mx:Option Operand}{ad:Option Addr}
  (hg:gd ops L ⟨some d,.slice t y lo hi mx,ty,pos,aft,g⟩=some true) (hN:Nat.blt d x.N=true)
  (hT:∀ w,(underlying t).run x.P w=.ok (.slice e) w) (hs:∀ w,(sizeOf e).run x.P w=.ok sz w) (hy:ev L y=some (.slice ad len cap)) (hmh:mx=none∨∃ o,hi=some o)
  (hm:zZ L mx cap cap m) (hh:zZ L hi len m h) (hl:zZ L lo 0 h l)
  {v':Value} (hv:Value.slice (if m=l then ad else ad.map (·.add (l*sz))) (h-l) (m-l)=v')
  (k:W x ops Q rest H M ((d,v')::L)):
  W x ops Q (⟨some d,.slice t y lo hi mx,ty,pos,aft,g⟩::rest) H M L:=
 dX rfl hg hN (fun c w hsl ht=>by
  rw [← hv];simp only [execOp,hsl.ev hy,Hx,pb hT hs (C0 hmh) (hm.bd hsl) (hh.bd hsl) (hl.bd hsl),Hr,HL]) k
theorem wx {zs:List Value} (h:∀ u ∈ zs,u.oneCell'=true) (h0:0<zs.length) (n:Nat):∀ u ∈ (Builtin.zeroCells zs.toArray n).toList,u.oneCell'=true:=by
 intro u hu;unfold Builtin.zeroCells at hu;simp only [Array.toList_map,Kr,Array.toList_range,II] at hu;obtain ⟨q,_,rfl⟩:=hu;have hlt:q%zs.length<zs.length:=KA _ h0;have:zs.toArray[q%zs.length]! = zs[q%zs.length]:=by simp [hlt]
 rw [this];exact h _ (Iy _)
end
theorem yK {P:Program}{w:World}{t tu ty e:TypeId}{sz n gb off cap a dl dc sl sc:Nat}{b:Addr}{xs news:List Value} (hT:P.underlying t=some (.slice e)) (hs:∀ w,(sizeOf e).run P w=.ok sz w)
  (hown:fN w e sz (.slice (some ⟨gb,off,none⟩) n cap) n xs) (ha:a+dl≤n)
  (hl:news.length=min sl dl*sz) (hnews:∀ j u,news[j]? = some u→w.cell? (b.add j)=some u) (h1:∀ u ∈ news,u.oneCell'=true):
  ∃ w',(Builtin.copy_ #[t,tu] ty #[.slice (some ⟨gb,off+a*sz,none⟩) dl dc,.slice (some b) sl sc]).run P w=.ok (.int .i64 (min sl dl:Nat)) w' ∧
   fN w' e sz (.slice (some ⟨gb,off,none⟩) n cap) n (xs.take (a*sz)++news++xs.drop ((a+min sl dl)*sz))∧w.grownBy w' (some gb):=by
 rcases hown.2 with ⟨h0,_⟩ | ⟨gb2,off2,cap2,cur,he,hgb,hnc,hcm,hcs,htake⟩
 ·cases h0
 cases he;have hxl:xs.length=n*sz:=hown.1;have hm:(a+min sl dl)*sz≤n*sz:=HD _ (by omega)
 have hmc:n*sz≤cap*sz:=HD _ hnc;have hadd:(a+min sl dl)*sz=a*sz+min sl dl*sz:=HI ..;have hf:=Mn (P:=P) w sz (min sl dl) b sl sc news hl hnews;obtain ⟨w',hst,hh,hgr⟩:=gO (P:=P) gb (off+a*sz) e news 0 cur.toList w (by simpa using hgb) (by simp; omega) h1
 refine ⟨w',?_,⟨?_,.inr ⟨gb,off,cap,_,rfl,hh,hnc,hcm,?_,?_⟩⟩,hgr⟩
 ·simp [Builtin.copy_,I_ hT,hs,Builtin.lenOf,hf,hst,goInt]
 ·simp only [HQ,HT,Jh,hl,hxl]; omega
 ·simpa [lI] using hcs
 ·rw [J7,Jb,rp _ _ _ (by simp; omega)]
  have hx1:xs.take (a*sz)=(cur.toList.take (off+a*sz)).drop off:=by
   rw [← htake,Le,Ix (by omega),JU,JG]
  have hx2:xs.drop ((a+min sl dl)*sz)=(cur.toList.drop (off+a*sz+news.length)).take (n*sz-(a+min sl dl)*sz):=by
   rw [← htake,JU,Jt]; congr 2; omega
  rw [hx1,hx2,H6,Kt (by simp; omega),← H6]
  have hlen:((cur.toList.take (off+a*sz)).drop off++news).length=a*sz+min sl dl*sz:=by
   rw [HQ,Jh,HT,hl]; simp; omega
  have e:n*sz=((cur.toList.take (off+a*sz)).drop off++news).length+(n*sz-(a+min sl dl)*sz):=by rw [hlen]; omega
  conv=>lhs; rw [e]
  rw [List.take_length_add_append]
section
variable {x:Cx}{ops:Array Oper}{Q:kF}{rest:List Oper}{H:Hp}{M M':List bR}{L L':Env}
variable {d:Nat}{ty:TypeId}{pos:String}{aft:Array Edge}{g:Option (Nat×Bool)}
theorem tO {c:Code}{v:Value}{e:TypeId}{sz n:Nat}{xs:List Value} (h0:0<n)
  (k:∀ gb off cap,v=.slice (some ⟨gb,off,none⟩) n cap→n≤cap→Go.Sim.C x c Q H (.row v e sz n xs::M) L):Go.Sim.C x c Q H (.row v e sz n xs::M) L:=by
 intro a w hs ht;have hok:fN w e sz v n xs:=ht.ok _ (He ..);rcases hok.2 with ⟨_,h⟩ | ⟨gb,off,cap,cur,he,_,hnc,_⟩
 ·omega
 ·exact k gb off cap he hnc a w hs ht
theorem z8 {α:Type}[aF α] {t tu e:TypeId}{y u:Operand}{v vu:Value}{xs:List Value}{l ys:List α}
  (hg:gd ops L ⟨some d,.call ⟨.builtin .copy,#[y,u],#[t,tu]⟩,ty,pos,aft,g⟩=some true) (hN:Nat.blt d x.N=true)
  (hT:x.P.underlying t=some (.slice e)) (hsz:∀ w,(sizeOf e).run x.P w=.ok (aF.sz α) w) (hs:Nat.blt 0 (aF.sz α)=true)
  (hy:ev L y=some v) (hu:ev L u=some vu) (hx:Rw H v xs l) (hR:aI H vu ys) (h0:0<ys.length)
  (k:∀ xs',Rw H v xs' (ys.take (min ys.length l.length)++l.drop (min ys.length l.length))→W x ops Q rest H (.row v e (aF.sz α) l.length xs'::M) ((d,.int .i64 (min ys.length l.length:Nat))::L)):
  W x ops Q (⟨some d,.call ⟨.builtin .copy,#[y,u],#[t,tu]⟩,ty,pos,aft,g⟩::rest) H (.row v e (aF.sz α) l.length xs::M) L:=by
 refine ot rfl hg hN fun a w hsl ht=>?_;have hown:fN w e (aF.sz α) v l.length xs:=ht.ok _ (He ..);obtain ⟨cs,hcs,hcase⟩:=hR.flat;rcases hcase with ⟨_,rfl⟩ | ⟨hc,b,off2,c,rfl⟩
 ·simp at h0
 by_cases hl0:l.length=0
 ·have hm0:min ys.length l.length=0:=by omega
  refine ⟨.int .i64 (min ys.length l.length:Nat),w,?_,H,_,ht,k xs (by rw [hm0]; simpa using hx)⟩
  have hf:(Builtin.firstCells (aF.sz α) 0 (.slice (some ⟨b,off2,none⟩) ys.length c)).run x.P w=.ok #[] w:=
   Mn (P:=x.P) w (aF.sz α) 0 ⟨b,off2,none⟩ ys.length c [] (by simp) (by simp)
  rw [hm0];rcases hown.2 with ⟨rfl,_⟩ | ⟨gb,off,cap,cur,rfl,_⟩
  ·simp [execOp,resolve,invoke,builtin,hsl.ev hy,hsl.ev hu,Builtin.copy_,I_ hT,hsz,Builtin.lenOf,hf,goInt]
  ·simp [execOp,resolve,invoke,builtin,hsl.ev hy,hsl.ev hu,Builtin.copy_,I_ hT,hsz,Builtin.lenOf,hf,goInt,hl0,storeCells]
 rcases hown.2 with ⟨_,h⟩ | ⟨gb,off,cap,cur,rfl,_⟩
 ·exact absurd h hl0
 obtain ⟨w',hr,ho,hgr⟩:=yK (P:=x.P) (tu:=tu) (ty:=ty) (a:=0) (dl:=l.length) (dc:=cap) (b:=⟨b,off2,none⟩) (sl:=ys.length) (sc:=c) (news:=cs.take (min ys.length l.length*aF.sz α)) hT hsz hown (by omega)
  (by rw [HT,hcs.len]; exact Ix (HD _ (by omega)))
  (fun j u hu=>by
   rw [It] at hu
   split at hu
   ·exact ((hc j u hu).at (x:=x) (M:=.row (.slice (some ⟨gb,off,none⟩) l.length cap) e (aF.sz α) l.length xs::M)) w ht
   ·cases hu) (fun u hu=>hcs.one u (JV hu))
 rw [Jc,LG,Jw,H_] at ho;rw [Jc,Jb] at hr;refine ⟨.int .i64 (min ys.length l.length:Nat),w',?_,H,_,ht.xG (r':=.row (.slice (some ⟨gb,off,none⟩) l.length cap) e (aF.sz α) l.length _) hgr ho (fun b hb=>.inl hb),k _ ⟨(hcs.split _).1.app (hx.rd.split _).2,_,_,_,rfl⟩⟩;simp [execOp,resolve,invoke,builtin,hsl.ev hy,hsl.ev hu,hr]
theorem uV {α:Type}[aF α] {t tu e:TypeId}{gb off cap q dc sc:Nat}{y u:Operand}{xs:List Value}{l:List α}
  (hg:gd ops L ⟨some d,.call ⟨.builtin .copy,#[y,u],#[t,tu]⟩,ty,pos,aft,g⟩=some true) (hN:Nat.blt d x.N=true)
  (hT:x.P.underlying t=some (.slice e)) (hsz:∀ w,(sizeOf e).run x.P w=.ok (aF.sz α) w) (hs:Nat.blt 0 (aF.sz α)=true)
  (hx:Rw H (.slice (some ⟨gb,off,none⟩) l.length cap) xs l) (hq:q≤l.length)
  (hy:ev L y=some (.slice (some ⟨gb,off+q*aF.sz α,none⟩) (l.length-q) dc)) (hu:ev L u=some (.slice (some ⟨gb,off,none⟩) q sc))
  (k:∀ xs',Rw H (.slice (some ⟨gb,off,none⟩) l.length cap) xs' (l.take q++l.take (min q (l.length-q))++l.drop (q+min q (l.length-q))) →
   W x ops Q rest H (.row (.slice (some ⟨gb,off,none⟩) l.length cap) e (aF.sz α) l.length xs'::M) ((d,.int .i64 (min q (l.length-q):Nat))::L)):
  W x ops Q (⟨some d,.call ⟨.builtin .copy,#[y,u],#[t,tu]⟩,ty,pos,aft,g⟩::rest) H (.row (.slice (some ⟨gb,off,none⟩) l.length cap) e (aF.sz α) l.length xs::M) L:=by
 refine ot rfl hg hN fun a w hsl ht=>?_;have hown:fN w e (aF.sz α) (.slice (some ⟨gb,off,none⟩) l.length cap) l.length xs:=ht.ok _ (He ..);have hlen:=hx.rd.len;have hone:=hx.rd.one;have hmm:min q (l.length-q)*aF.sz α≤l.length*aF.sz α:=HD _ (by omega)
 have hcell:∀ j u,(xs.take (min q (l.length-q)*aF.sz α))[j]? = some u→w.cell? ((⟨gb,off,none⟩:Addr).add j)=some u:=by
  intro j u hj;rcases hown.2 with ⟨h0,_⟩ | ⟨gb2,off2,cap2,cur,he,hgb,hnc,hcm,hcs,htake⟩
  ·cases h0
  cases he;rw [IC];refine L7 hgb rfl ?_;rw [It] at hj
  split at hj
  ·rw [← htake,It] at hj
   split at hj
   ·rw [Ib] at hj; simpa using hj
   ·cases hj
  ·cases hj
 obtain ⟨w',hr,ho,hgr⟩:=yK (P:=x.P) (tu:=tu) (ty:=ty) (a:=q) (dl:=l.length-q) (dc:=dc) (b:=⟨gb,off,none⟩) (sl:=q) (sc:=sc) (news:=xs.take (min q (l.length-q)*aF.sz α)) hT hsz hown (by omega)
  (by rw [HT,hlen]; omega) hcell (fun u hu=>hone u (JV hu))
 refine ⟨.int .i64 (min q (l.length-q):Nat),w',?_,H,_,ht.xG (r':=.row (.slice (some ⟨gb,off,none⟩) l.length cap) e (aF.sz α) l.length _) hgr ho (fun b hb=>.inl hb),k _ ⟨?_,_,_,_,rfl⟩⟩
 ·simp [execOp,resolve,invoke,builtin,hsl.ev hy,hsl.ev hu,hr]
 ·exact ((hx.rd.split q).1.app (hx.rd.split (min q (l.length-q))).1).app (hx.rd.split (q+min q (l.length-q))).2
end
theorem xR {x:Cx}{ops:Array Oper}{Q:kF}{rest:List Oper}{H:Hp}{M:List bR}{L:Env}{d:Nat}{f:FuncId}{args:List Operand}{tys:Array TypeId}{ty:TypeId}{pos:String}{aft:Array Edge}{g:Option (Nat×Bool)}{vs:List Value}{v:Value}
  (hx:∀ w,(callFunc f vs.toArray).run x.P w=.ok (.value v) w)
  (hg:gd ops L ⟨some d,.call ⟨.value (.func f),args.toArray,tys⟩,ty,pos,aft,g⟩=some true) (hN:Nat.blt d x.N=true)
  (hv:tX L args=some vs) (k:W x ops Q rest H M ((d,v)::L)):
  W x ops Q (⟨some d,.call ⟨.value (.func f),args.toArray,tys⟩,ty,pos,aft,g⟩::rest) H M L:=
 dX rfl hg hN (fun a w hs ht=>by
  have hargs:args.toArray.map a.eval=vs.toArray:=by simp [hs.tX hv]
  simp only [execOp,resolve,hargs,Act.eval,Deferred.ofValue,Hx,HL,Hr,invoke];simp [hx]) k
def Ft (s:ByteArray) (c:Int):Int:=Go.Lib.indexByte s.data.toList c.toNat.toUInt8
theorem ym {P:Program}{f:FuncId}{fn:Func} (hf:P.funcs[f]? = some fn) (h1:(fn.name == "runtime.NumGoroutine")=false) (h2:fn.body.isNone=true) (h3:Extern.findNext fn=none) (h4:Extern.find fn=some Extern.BytealgIndexByte.indexByte) (s:ByteArray) (c:Int):
  ∀ w,(callFunc f [.string s,.int .u8 c].toArray).run P w=.ok (.value (.int .i64 (Ft s c))) w:=fun w=>by
 rw [run_callFunc_extern hf h1 h2 h3 h4,show [Value.string s,.int .u8 c].toArray=#[.string s,.int .u8 c] from rfl,Go.Lib.run_indexByteString]
 rfl
section
variable {x:Cx}{ops:Array Oper}{Q:kF}{rest:List Oper}{H:Hp}{M M':List bR}{L L':Env}
variable {d:Nat}{ty:TypeId}{pos:String}{aft:Array Edge}{g:Option (Nat×Bool)}
theorem BP {t e:TypeId}{y:Operand}{ad:Option Addr}{c2:Nat}
  (hg:gd ops L ⟨none,.call ⟨.builtin .clear,#[y],#[t]⟩,ty,pos,aft,g⟩=some true)
  (hT:x.P.underlying t=some (.slice e)) (hy:ev L y=some (.slice ad 0 c2)) (k:W x ops Q rest H M L):
  W x ops Q (⟨none,.call ⟨.builtin .clear,#[y],#[t]⟩,ty,pos,aft,g⟩::rest) H M L:=
 Aa rfl hg fun a w hsl ht=>⟨.tuple #[],w,by
  cases ad <;> simp [execOp,resolve,invoke,builtin,hsl.ev hy,Builtin.clear_,I_ hT],H,M,ht,k⟩
theorem xO {t e:TypeId}{sz m n gb off cap i c2:Nat}{y:Operand}{z:Value}{zs xs:List Value}
  (hg:gd ops L ⟨none,.call ⟨.builtin .clear,#[y],#[t]⟩,ty,pos,aft,g⟩=some true)
  (hT:x.P.underlying t=some (.slice e)) (hz:∀ w,(zeroValue e).run x.P w=.ok z w) (hzs:z.cells=zs.toArray) (hzl:zs.length=sz) (h1:zs.all Value.oneCell'=true) (hs:Nat.blt 0 sz=true)
  (hi:i<m) (hy:ev L y=some (.slice (some ⟨gb,off+i*sz,none⟩) (m-i) c2))
  (k:W x ops Q rest H (.row (.slice (some ⟨gb,off,none⟩) m cap) e sz m (xs.take (i*sz)++(Builtin.zeroCells z.cells (m-i)).toList)::M) L):
  W x ops Q (⟨none,.call ⟨.builtin .clear,#[y],#[t]⟩,ty,pos,aft,g⟩::rest) H (.row (.slice (some ⟨gb,off,none⟩) m cap) e sz n xs::M) L:=by
 have hs':0<sz:=by simpa [IE] using hs
 refine Aa rfl hg fun a w hsl ht=>?_;have hown:fN w e sz (.slice (some ⟨gb,off,none⟩) m cap) n xs:=ht.ok _ (He ..);rcases hown.2 with ⟨h0,_⟩ | ⟨gb2,off2,cap2,cur,he,hgb,hnc,hcm,hcs,htake⟩
 ·cases h0
 cases he;obtain ⟨q,hq⟩:∃ q,m-i=q+1:=⟨m-i-1,by omega⟩
 have hzlen:(Builtin.zeroCells z.cells (m-i)).toList.length=(m-i)*sz:=by
  unfold Builtin.zeroCells; rw [hzs]; simp [hzl]
 have hmul:m*sz≤cap*sz:=HD _ hnc;have hsplit:i*sz+(m-i)*sz=m*sz:=by rw [← HI]; congr 1; omega
 have hone:∀ u ∈ (Builtin.zeroCells z.cells (m-i)).toList,u.oneCell'=true:=by
  rw [hzs]; exact wx (fun u hu=>IG.1 h1 u hu) (by omega) _
 obtain ⟨w',hst,hh,hgr⟩:=gO (P:=x.P) gb (off+i*sz) e (Builtin.zeroCells z.cells (m-i)).toList 0 cur.toList w (by simpa using hgb) (by rw [hzlen]; simp; omega) hone
 refine ⟨.tuple #[],w',?_,H,_,ht.xG (r':=.row (.slice (some ⟨gb,off,none⟩) m cap) e sz m (xs.take (i*sz)++(Builtin.zeroCells z.cells (m-i)).toList)) hgr ⟨?_,.inr ⟨gb,off,cap,_,rfl,hh,hnc,hcm,?_,?_⟩⟩ (fun b hb=>.inl hb),k⟩
 ·rw [hq] at hst hy
  simp [execOp,resolve,invoke,builtin,hsl.ev hy,Builtin.clear_,I_ hT,hz,hst]
 ·rw [HQ,HT,hzlen,hown.1]
  omega
 ·simpa [lI] using hcs
 ·rw [J7,Jb,rp _ _ _ (by rw [hzlen]; simp; omega)]
  have hd:(cur.toList.take (off+i*sz)).drop off=xs.take (i*sz):=by
   rw [JU,JG,← htake,Le,Ix (by omega)]
  have hlen2:((cur.toList.take (off+i*sz)).drop off++(Builtin.zeroCells z.cells (m-i)).toList).length=m*sz:=by
   rw [HQ,hd,HT,hzlen,hown.1]; omega
  rw [H6,Kt (by simp; omega),← H6,← hlen2]
  rw [KS,hd]
theorem xN {α:Type}[aF α] {t e:TypeId}{n:Nat}{y lo:Operand}{v:Value}{z:Value}{zs xs:List Value}{l:List α}{ze:α}{kk:IntKind}{i:Int}{ty2:TypeId}{pos2:String}{aft2:Array Edge}{g2:Option (Nat×Bool)}
  (hg:gd ops L ⟨some d,.slice t y (some lo) none none,ty,pos,aft,g⟩=some true) (hN:Nat.blt d x.N=true)
  (hg2:∀ u,gd ops ((d,u)::L) ⟨none,.call ⟨.builtin .clear,#[.tmp d],#[t]⟩,ty2,pos2,aft2,g2⟩=some true)
  (hT:x.P.underlying t=some (.slice e)) (hT2:∀ w,(underlying t).run x.P w=.ok (.slice e) w) (hsz:∀ w,(sizeOf e).run x.P w=.ok (aF.sz α) w)
  (hz:∀ w,(zeroValue e).run x.P w=.ok z w) (hzs:z.cells=zs.toArray) (h1:zs.all Value.oneCell'=true) (hs:Nat.blt 0 (aF.sz α)=true) (hE:aF.E H zs ze)
  (hy:ev L y=some v) (hlo:ev L lo=some (.int kk i)) (hx:Rw H v xs l) (hb:0≤i∧i≤(l.length:Int))
  (k:∀ u xs',Rw H v xs' (l.take i.toNat++List.replicate (l.length-i.toNat) ze)→W x ops Q rest H (.row v e (aF.sz α) (l.take i.toNat++List.replicate (l.length-i.toNat) ze).length xs'::M) ((d,u)::L)):
  W x ops Q (⟨some d,.slice t y (some lo) none none,ty,pos,aft,g⟩::⟨none,.call ⟨.builtin .clear,#[.tmp d],#[t]⟩,ty2,pos2,aft2,g2⟩::rest) H (.row v e (aF.sz α) n xs::M) L:=by
 obtain ⟨hb0,hb1⟩:=hb;obtain ⟨q,rfl⟩:∃ q:Nat,i=q:=⟨i.toNat,by omega⟩
 have hql:q≤l.length:=by omega
 rw [Ha] at k;have hs':0<aF.sz α:=by simpa [IE] using hs
 have hlen:(l.take q++List.replicate (l.length-q) ze).length=l.length:=by simp; omega
 have hlk:∀ u,ev ((d,u)::L) (.tmp d)=some u:=fun u=>by simp [ev,oT]
 have hn:∀ {a:Act}{w:World},St x.B x.w0 H (.row v e (aF.sz α) n xs::M) w→n=l.length:=fun {a w} ht=>by
  have hok:fN w e (aF.sz α) v n xs:=ht.ok _ (He ..);have h1:=hx.rd.len;rw [hok.1] at h1;exact Jo hs' h1
 have same:l.length=q→∀ {L2:Env},(∀ xs',Rw H v xs' (l.take q++List.replicate (l.length-q) ze)→W x ops Q rest H (.row v e (aF.sz α) (l.take q++List.replicate (l.length-q) ze).length xs'::M) L2)→W x ops Q rest H (.row v e (aF.sz α) n xs::M) L2:=by
  intro hq L2 kk a w hsl ht;have hnn:=hn (a:=a) ht;subst hnn;have e:l.take q++List.replicate (l.length-q) ze=l:=by rw [hq,IT,← hq,I5]; simp
  have:=kk xs (by rw [e]; exact hx)
  rw [e] at this;exact this a w hsl ht
 intro a w hsl ht;have hnn:=hn (a:=a) ht;subst hnn;have hok:fN w e (aF.sz α) v l.length xs:=ht.ok _ (He ..)
 revert a w
 suffices hh:∀ (oo:Option Addr) (cap:Nat),v=.slice oo l.length cap→l.length≤cap→(q<l.length→∃ gb off,oo=some ⟨gb,off,none⟩) →
   W x ops Q (⟨some d,.slice t y (some lo) none none,ty,pos,aft,g⟩::⟨none,.call ⟨.builtin .clear,#[.tmp d],#[t]⟩,ty2,pos2,aft2,g2⟩::rest) H (.row v e (aF.sz α) l.length xs::M) L by
  intro a w hsl ht hok;rcases hok.2 with ⟨e0,h0⟩ | ⟨gb,off,cap,cur,e0,_,hnc,_⟩
  ·exact hh none 0 (by rw [h0]; exact e0) (by omega) (fun h=>by omega) a w hsl ht
  ·exact hh (some ⟨gb,off,none⟩) cap e0 hnc (fun _=>⟨gb,off,rfl⟩) a w hsl ht
 intro oo cap hv hnc hsome;subst hv
 by_cases hq:l.length=q
 ·refine oX (m:=cap) (h:=l.length) (l:=q) hg hN hT2 hsz hy (.inl rfl) (.inl ⟨rfl,rfl⟩) (.inl ⟨rfl,rfl⟩) (.inr ⟨_,_,_,rfl,hlo,by omega,by omega,by omega⟩) (v':=.slice (if cap=q then oo else oo.map (·.add (q*aF.sz α))) 0 (cap-q)) (by rw [hq,IT]) ?_
  exact BP (hg2 _) hT (hlk _) (same hq (fun xs' hx'=>k _ xs' hx'))
 ·obtain ⟨gb,off,rfl⟩:=hsome (by omega)
  refine oX (m:=cap) (h:=l.length) (l:=q) hg hN hT2 hsz hy (.inl rfl) (.inl ⟨rfl,rfl⟩) (.inl ⟨rfl,rfl⟩) (.inr ⟨_,_,_,rfl,hlo,by omega,by omega,by omega⟩) (v':=.slice (some ⟨gb,off+q*aF.sz α,none⟩) (l.length-q) (cap-q)) (by rw [Hh (by omega),I7,IC]) ?_
  have hzl:zs.length=aF.sz α:=aF.len hE;refine xO (i:=q) (sz:=aF.sz α) (hg2 _) hT hz hzs hzl h1 hs (by omega) (hlk _) ?_
  have hcells:(Builtin.zeroCells z.cells (l.length-q)).toList=(List.range ((l.length-q)*aF.sz α)).map (zs.toArray[·%zs.length]!):=by
   unfold Builtin.zeroCells;rw [hzs];simp [hzl]
  have hrw:Rw H (.slice (some ⟨gb,off,none⟩) l.length cap) (xs.take (q*aF.sz α)++(Builtin.zeroCells z.cells (l.length-q)).toList) (l.take q++List.replicate (l.length-q) ze):=
   ⟨(hx.rd.split q).1.app (by rw [hcells]; exact ET hE hzl _),_,_,_,rfl⟩
  have:=k (.slice (some ⟨gb,off+q*aF.sz α,none⟩) (l.length-q) (cap-q)) _ hrw;rw [hlen] at this;exact this
end
theorem zX (k:Nat):jA .u64 (k:Int) 32=((k / 4294967296:Nat):Int):=by
 unfold jA;rw [show (2:Int) ^ (min (32:Int).toNat u64.bits)=4294967296 from rfl];rw [Kb _ (by decide)]
 omega
def yG {α:Type} (s:List α) (n:Int):List α:=(List.replicate n.toNat s).flatten
theorem r9 {α:Type} (a:α) (m:Nat):yG [a] (m:Int)=List.replicate m a:=by
 unfold yG;rw [Ha]
 induction m with
 | zero=>rfl
 | succ m ih=>rw [J5,J5,List.flatten_cons,ih]; rfl
theorem yH {α:Type}{a:α}{l:List α}{q:Nat} (h:l.take q=List.replicate q a) (hq:q≤l.length):
  (l.take q++l.take (min q (l.length-q))++l.drop (q+min q (l.length-q))).take (q+min q (l.length-q))=List.replicate (q+min q (l.length-q)) a:=by
 have h2:l.take (min q (l.length-q))=List.replicate (min q (l.length-q)) a:=by
  have:=HB (List.take (min q (l.length-q))) h
  rwa [Le,List.take_replicate,show min (min q (l.length-q)) q=min q (l.length-q) by omega] at this
 rw [h,h2,List.replicate_append_replicate];rw [K_ (by simp),HN (by simp)]
section
variable {B:Nat}{w0 w w':World}{H:Hp}{M:List bR}
theorem St.var? (ht:St B w0 H M w) {P:Program}{n:String}{g:Nat} (hg:P.globalNamed n=some g) (hlt:g<B):w.var? P n=w0.var? P n:=by
 unfold World.var?;rw [hg];simp only [Ke];rw [ht.below.block g hlt]
theorem St.under (ht:St B w0 H M w) (hb:Below w.heap.size w w'):St B w0 H M w':=
 ht.grow ⟨hb.os,hb.tape,hb.output,hb.size,fun i hi _=>hb.block i hi⟩
theorem St.GM (ht:St B w0 H M w) {P:Program}{n:String}{g:Nat}{k:IntKind}{zs:List Int} (hT:Lib.TabIs P w0 n k zs) (hg:P.globalNamed n=some g) (hlt:g<B):Lib.TabIs P w n k zs:=
 (ht.var? hg hlt).trans hT
end
theorem FI {P:Program}{W:World}{n:String}{g:Nat}{cs:Array Value} (hg:P.globalNamed n=some g) (h:W.var? P n=some cs):g<W.heap.size:=by
 unfold World.var? at h;rw [hg] at h;simp only [Ke] at h
 split at h
 ·rename_i o _ _ ho
  exact (I1.1 ho).1
 ·cases h
def EV (v:Value) (b:Bool):Prop:=(b=false∧v=.nilIface)∨(b=true∧∃ T p,v=.iface T p)
section
variable {x:Cx}{ops:Array Oper}{Q:kF}{rest:List Oper}{H:Hp}{M:List bR}{L:Env}
variable {d:Nat}{ty:TypeId}{pos:String}{aft:Array Edge}{g:Option (Nat×Bool)}
theorem DN {t u:TypeId}{y:Operand}{v:Value}{b:Bool}{ms:Array (String×TypeId)} (hT:∀ w,(underlying t).run x.P w=.ok (.interface ms) w) (he:EV v b) (hg:gd ops L ⟨some d,.binOp .neq t y (.const .nilIface) u,ty,pos,aft,g⟩=some true) (hN:Nat.blt d x.N=true)
  (hy:ev L y=some v) (k:W x ops Q rest H M ((d,.bool b)::L)):W x ops Q (⟨some d,.binOp .neq t y (.const .nilIface) u,ty,pos,aft,g⟩::rest) H M L:=
 dX rfl hg hN (fun c w hs _=>by
  have hz:c.eval (.const .nilIface)=.nilIface:=rfl;rcases he with ⟨rfl,rfl⟩ | ⟨rfl,T,p,rfl⟩
  ·have key:∀ k,(Op.equalIn (k+1) t .nilIface .nilIface).run x.P w=.ok true w:=fun k=>by
    unfold Op.equalIn;simp [hT]
   have h':(Op.equal t .nilIface .nilIface).run x.P w=.ok true w:=key 9999;simp only [execOp,hs.ev hy,hz,Hx,eqGuard,binOp];simp [h']
  ·have key:∀ k,(Op.equalIn (k+1) t (.iface T p) .nilIface).run x.P w=.ok false w:=fun k=>by
    unfold Op.equalIn;simp [hT]
   have h':(Op.equal t (.iface T p) .nilIface).run x.P w=.ok false w:=key 9999;simp only [execOp,hs.ev hy,hz,Hx,eqGuard,binOp];simp [h']) k
def sQ (l:List U8):ByteArray:=⟨(l.map fun y=>UInt8.ofNat y.n.toNat).toArray⟩
theorem vj:∀ (ns:List Int) (r:ByteArray),ns.foldl (fun r n=>r.push (UInt8.ofNat n.toNat)) r=⟨r.data++(ns.map fun n=>UInt8.ofNat n.toNat).toArray⟩
 | [],r=>by simp
 | n::ns,r=>by
  rw [List.foldl_cons,vj ns];simp [ByteArray.push]
theorem aI.bytes {H:Hp}{v:Value}{l:List U8} (hR:aI H v l) {B:Nat}{w0 w:World}{M:List bR}{P:Program} (ht:St B w0 H M w):(Conv.bytesToString v).run P w=.ok (.string (sQ l)) w:=by
 rcases hR with ⟨⟨a,rfl⟩,rfl⟩ | ⟨b,off,cap,arr,T,fz,rfl,h2,h3,h4,h5,h6⟩
 ·cases a with
  | none=>rfl
  | some a=>
   rw [run_bytesToString w a 0 0 [] (by simp [loadCells,loadCellsFrom,HL])]
   rfl
 ·have hl:=run_loadCells_list (P:=P) w ⟨b,off,none⟩ ((l.map fun y=>y.n).map (Value.int .u8)) (fun j v hj=>by
   rw [HZ,HZ,Option.map_map,K8] at hj;obtain ⟨y,hy,rfl⟩:=hj;obtain ⟨cs,q1,q2⟩:=h6 j y hy;have q1:cs=[.int .u8 y.n]:=q1;have:=q2 0 (.int .u8 y.n) (by rw [q1]; rfl)
   have hb:=ht.rS b _ h4;rw [IC];simp only [World.cell?,hb];simpa [aF.sz] using this)
  simp only [JN] at hl;rw [run_bytesToString w ⟨b,off,none⟩ l.length cap _ hl,vj];have he0:ByteArray.empty.data=#[]:=rfl;rw [he0];simp [sQ,List.map_map,Function.comp_def]
end
def nU (n:Int):ByteArray:=⟨(Lib.itoa n).toArray⟩
def Dc (s:ByteArray):Int×Bool:=match Lib.parseUintM 4294967295 0 s.data.toList with
 | .ok v=>((v:Int),false)
 | .range=>(4294967295,true)
 | _=>(0,true)
end Go.Sim
namespace Go.Sim
open Go
open _root_.Go.IntKind (i64 u64 u32 u8)
abbrev qY (b c:Nat) (seen:Array Nat):Obj:=.mapIter (some b) c seen c
theorem By {P:Program}{w:World}{ty:TypeId}{b c it:Nat}{seen:Array Nat}{es:Array MapEntry} (hi:w.heap[it]? = some (qY b c seen)) (hb:w.heap[b]? = some (.map es c)) (hold:∀ e ∈ es.toList,e.born<c):
  ((∀ e ∈ es.toList,seen.contains e.born=true)∧(Instr.next (.pointer (some ⟨it,0,none⟩)) false ty).run P w=.ok (.tuple #[.bool false]) w) ∨
  ∃ e ∈ es.toList,seen.contains e.born=false∧∃ n,(Instr.next (.pointer (some ⟨it,0,none⟩)) false ty).run P w=.ok (.tuple #[.bool true,e.key,e.val]) { w with drawn:=n,heap:=w.heap.setIfInBounds it (qY b c (seen.push e.born)) }:=by
 simp only [Instr.next,getObj,Hx,Sem.run,hi,hb,Result.andThen,next_test_false seen es c c hold (HH _),Jk,JL];have hmem:∀ x ∈ (Array.filter (fun e=>!seen.contains e.born) es).toList,x ∈ es.toList∧seen.contains x.born=false:=fun x hx=>by simpa using hx
 have hall:Array.filter (fun e=>!seen.contains e.born) es=#[]→∀ e ∈ es.toList,seen.contains e.born=true:=fun h e he=>by
  rw [Array.filter_eq_empty_iff] at h;have:=h e (by simpa using he)
  simpa using this
 generalize Array.filter (fun e=>!seen.contains e.born) es=K at hmem hall ⊢;have e1:K.filter (fun x=>decide (x.born<c))=K:=Array.filter_eq_self.2 (fun x hx=>by
  have:=hold x (hmem x (by simpa using hx)).1
  simpa using this)
 have e2:K.filter (fun x=>decide (x.born≥c))=#[]:=by
  rw [Array.filter_eq_empty_iff];intro x hx;have:=hold x (hmem x (by simpa using hx)).1
  simp;omega
 simp only [e1,e2,Array.append_empty]
 by_cases h0:K.size=0
 ·left
  have:K=#[]:=Array.eq_empty_of_size_eq_zero h0;subst this;refine ⟨hall rfl,?_⟩;simp [choose,Sem.run,Question.forced]
 ·right
  have hne:K.isEmpty=false:=by simp [Array.isEmpty,h0]
  simp only [hne,Jk,JL,Array.empty_append,Array.size_map];have hch:∃ (j n:Nat),j<K.size∧(choose (Question.mapNext K.size)).run P w=.ok j { w with drawn:=n }:=by
   by_cases hf:K.size≤1
   ·exact ⟨0,w.drawn,by omega,by simp [choose,Sem.run,Question.forced,hf]⟩
   ·exact ⟨_,w.drawn+1,KA _ (by omega),by
     simp only [choose,Sem.run,Question.forced,IF,hf,JL,Question.cut]
     rfl⟩
  obtain ⟨j,n,hj,hrun⟩:=hch;obtain ⟨m1,m2⟩:=hmem K[j] (by simp)
  refine ⟨K[j],m1,m2,n,?_⟩;have hset:∀ o,(setObj it o).run P { w with drawn:=n }=.ok () { w with drawn:=n,heap:=w.heap.setIfInBounds it o }:=fun o=>by simp [setObj,Sem.run,hi]
  simp only [hrun,Array.getElem?_map,Kh hj,I7,Hx,hset,Result.andThen]
  rfl
theorem zT {P:Program}{w:World}{b c it:Nat}{seen:Array Nat}{es:Array MapEntry}{e:MapEntry} (hi:w.heap[it]? = some (qY b c (seen.push e.born))) (hb:w.heap[b]? = some (.map es c)) (he:e ∈ es.toList) (hn:(es.toList.map (·.born)).Nodup):
  (Instr.entry (.pointer (some ⟨it,0,none⟩))).run P w=.ok (.tuple #[e.key,e.val]) w:=by
 have hf:es.find? (·.born == e.born)=some e:=by rw [← Array.find?_toList]; exact find_born e es.toList hn he
 simp only [Instr.entry,getObj,Hx,Sem.run,hi,hb,Result.andThen,Array.back?_push,bne_self_eq_false,Jk,JL,hf]
 rfl
section
variable {x:Cx}{ops:Array Oper}{Q:kF}{rest:List Oper}{H:Hp}{M M':List bR}{L L':Env}
variable {d:Nat}{ty:TypeId}{pos:String}{aft:Array Edge}{g:Option (Nat×Bool)}
variable {κ ν:Type}[DecidableEq κ] [rC κ] [MV ν]
theorem BX {t key e:TypeId}{b c:Nat}{y:Operand}{es:Array MapEntry} (hm:bR.obj b (.map es c) ∈ M)
  (hg:gd ops L ⟨some d,.range t y,ty,pos,aft,g⟩=some true) (hN:Nat.blt d x.N=true)
  (hT:∀ w,(underlying t).run x.P w=.ok (.map key e) w) (hy:ev L y=some (.map (some b)))
  (k:∀ it,W x ops Q rest H (.obj it (qY b c #[])::M) ((d,.pointer (some ⟨it,0,none⟩))::L)):
  W x ops Q (⟨some d,.range t y,ty,pos,aft,g⟩::rest) H M L:=
 ot rfl hg hN (fun a w hs ht=>⟨_,w.alloc (qY b c #[]),by
  have hb:=ht.qM hm;simp only [execOp,hs.ev hy,Instr.range,Hx,hT,Hr,rr hb,HL,newObj,Sem.run,World.alloc],_,_,ht.alloc _,k _⟩)
theorem DO {b c it:Nat}{y:Operand}{seen:Array Nat}{es:Array MapEntry}{l:List (κ×ν)} (hm:bR.obj b (.map es c) ∈ M) (h:nR es c l)
  (hg:gd ops L ⟨some d,.next y false,ty,pos,aft,g⟩=some true) (hN:Nat.blt d x.N=true) (hy:ev L y=some (.pointer (some ⟨it,0,none⟩)))
  (k1:(∀ e ∈ es.toList,seen.contains e.born=true)→W x ops Q rest H (.obj it (qY b c seen)::M) ((d,.tuple #[.bool false])::L))
  (k2:∀ e ∈ es.toList,seen.contains e.born=false→W x ops Q rest H (.obj it (qY b c (seen.push e.born))::M) ((d,.tuple #[.bool true,e.key,e.val])::L)):
  W x ops Q (⟨some d,.next y false,ty,pos,aft,g⟩::rest) H (.obj it (qY b c seen)::M) L:=
 ot rfl hg hN (fun a w hs ht=>by
  have hi:=ht.qM (He ..);have hb:=ht.qM (Ho _ hm);have hlt:it<w.heap.size:=(I1.1 hi).1;rcases By (P:=x.P) (ty:=ty) hi hb h.lt with ⟨hall,hr⟩ | ⟨e,he,hne,n,hr⟩
  ·exact ⟨_,w,by simp only [execOp,hs.ev hy,Hx,hr,Hr,HL],_,_,ht,k1 hall⟩
  ·refine ⟨_,{ w with drawn:=n,heap:=w.heap.setIfInBounds it (qY b c (seen.push e.born)) },by simp only [execOp,hs.ev hy,Hx,hr,Hr,HL],_,_,?_,k2 e he hne⟩
   have h1:=ht.xG (r':=.obj it (qY b c (seen.push e.born))) (rR w it (qY b c (seen.push e.born))) (by simp [bR.ok,hlt]) (fun _ hc=>.inl hc)
   exact h1.drewN n)
theorem BQ {b c it:Nat}{y:Operand}{seen:Array Nat}{es:Array MapEntry}{l:List (κ×ν)}{e:MapEntry} (hi:bR.obj it (qY b c (seen.push e.born)) ∈ M) (hm:bR.obj b (.map es c) ∈ M) (h:nR es c l) (he:e ∈ es.toList) {vk vv:Value} (hk:e.key=vk) (hv:e.val=vv)
  (hg:gd ops L ⟨some d,.entry y,ty,pos,aft,g⟩=some true) (hN:Nat.blt d x.N=true) (hy:ev L y=some (.pointer (some ⟨it,0,none⟩)))
  (k:W x ops Q rest H M ((d,.tuple #[vk,vv])::L)):
  W x ops Q (⟨some d,.entry y,ty,pos,aft,g⟩::rest) H M L:=
 dX rfl hg hN (fun a w hs ht=>by
  subst hk; subst hv
  simp only [execOp,hs.ev hy,Hx,zT (P:=x.P) (ht.qM hi) (ht.qM hm) he h.nd,Hr,HL]) k
end
theorem nR.pick {κ ν:Type}[DecidableEq κ] [rC κ] [MV ν] {es:Array MapEntry}{c:Nat}{l:List (κ×ν)} (h:nR es c l) {e:MapEntry} (he:e ∈ es.toList):∃ (i:Nat) (p:κ×ν),es.toList[i]? = some e∧l[i]? = some p∧e.key=MV.mv p.1∧e.val=MV.mv p.2:=by
 obtain ⟨i,hi,rfl⟩:=IN.1 he;have h1:(es.toList.map fun e=>(e.key,e.val))[i]? = (l.map fun p=>(MV.mv p.1,MV.mv p.2))[i]? := by rw [h.eq]
 rw [HZ,HZ,G9 hi] at h1;cases hp:l[i]? with
 | none=>rw [hp] at h1; simp at h1
 | some p=>
  rw [hp] at h1;simp only [I7,H9,KY] at h1;exact ⟨i,p,G9 hi,hp,h1.1,h1.2⟩
def te {α:Type} (es:Array MapEntry) (seen:Array Nat) (l:List α) (P:α→Bool):Prop:=∀ (i:Nat) (p:α),l[i]? = some p→∀ e,es.toList[i]? = some e→seen.contains e.born=true→P p=false
theorem te.nil {α:Type}{es:Array MapEntry}{l:List α}{P:α→Bool}:te es #[] l P:=fun i p hp e he h=>by simp at h
theorem te.push {κ ν:Type}[DecidableEq κ] [rC κ] [MV ν] {es:Array MapEntry}{c:Nat}{seen:Array Nat}{l:List (κ×ν)}{P:κ×ν→Bool} (hs:te es seen l P) (h:nR es c l) {i:Nat}{p:κ×ν}{e:MapEntry}
  (hi:es.toList[i]? = some e) (hp:l[i]? = some p) (hP:P p=false):te es (seen.push e.born) l P:=fun j q hq e' he' hc=>by
 by_cases hj:i=j
 ·subst hj
  rw [hp] at hq;obtain rfl:=G7 hq;exact hP
 ·refine hs j q hq e' he' ?_
  have hne:e'.born≠e.born:=fun hb=>by
   obtain ⟨h1,h2⟩:=G6.1 hi;obtain ⟨h3,h4⟩:=G6.1 he';have hpw:=Ki.1 h.nd;have h1':i<(es.toList.map (·.born)).length:=by simpa using h1
   have h3':j<(es.toList.map (·.born)).length:=by simpa using h3
   rcases Nat.lt_or_gt_of_ne hj with hlt | hlt
   ·exact hpw i j h1' h3' hlt (by rw [JH,JH,h2,h4]; exact hb.symm)
   ·exact hpw j i h3' h1' hlt (by rw [JH,JH,h2,h4]; exact hb)
  simp at hc ⊢;rcases hc with hc | hc
  ·exact hc
  ·exact absurd hc hne
theorem te.none {κ ν:Type}[DecidableEq κ] [rC κ] [MV ν] {es:Array MapEntry}{c:Nat}{seen:Array Nat}{l:List (κ×ν)}{P:κ×ν→Bool} (hs:te es seen l P) (h:nR es c l) (hall:∀ e ∈ es.toList,seen.contains e.born=true):l.any P=false:=by
 rw [List.any_eq_false];intro p hp;obtain ⟨i,hi,rfl⟩:=IN.1 hp;have hlen:es.toList.length=l.length:=by have:=HB List.length h.eq; simpa using this
 have hi':i<es.toList.length:=by omega
 have:=hs i l[i] (G9 hi) es.toList[i] (G9 hi') (hall _ (Iy hi'));simp [this]
theorem Fg {α:Type}{l:List α}{P:α→Bool}{i:Nat}{p:α} (hp:l[i]? = some p) (hP:P p=true):l.any P=true:=
 List.any_eq_true.2 ⟨p,Hu hp,hP⟩
def xA (es:Array MapEntry) (seen:Array Nat):Nat:=(es.toList.filter fun e=>!seen.contains e.born).length
theorem BD {es:Array MapEntry}{seen:Array Nat}{e:MapEntry} (he:e ∈ es.toList) (h:seen.contains e.born=false):xA es (seen.push e.born)<xA es seen:=by
 unfold xA;refine filter_lt (fun e=>!seen.contains e.born) (fun e'=>!(seen.push e.born).contains e'.born) (fun y hy=>?_) e (by simp only [h]; rfl) (by simp) es.toList he
 simp at hy ⊢;exact hy.1
end Go.Sim
namespace Go.Sim
open Go Go.RowKit
open _root_.Go.IntKind (i64 u64 u32 u8)
def F4 (b:Nat) (p:Value):Prop:=p=.pointer none∨p=.pointer (some ⟨b,0,none⟩)
theorem uD (s:ByteArray):Lib.strCells s=(gL s).map (fun y=>Value.int .u8 y.n):=by
 simp [Lib.strCells,gL,Function.comp_def]
theorem mC.u8 (H:Hp) (l:List U8):mC H (l.map fun y=>Value.int .u8 y.n) l:=by
 induction l with
 | nil=>exact mC.nil
 | cons y l ih=>exact ⟨[.int .u8 y.n],_,rfl,rfl,ih⟩
theorem ug {P:Program}{w:World}{t u ty e:TypeId}{i:TypeInfo} (ht:P.underlying t=some (.slice e)) (hu:P.underlying u=some .string) (hi:P.info? e=some i) (hz:i.zero=some (.int .u8 0))
  (hsize:i.size=1) (hby:i.bytes=1) {v:Value}{n:Nat}{xs:List Value} (hown:fN w e 1 v n xs) (s:ByteArray) (h63:n+s.size≤maxLen) (hbytes:n+s.size≤140737488355328):
  ∃ v' w',(Builtin.append_ #[t,u] ty #[v,.string s]).run P w=.ok v' w'∧fN w' e 1 v' (n+s.size) (xs++Lib.strCells s)∧w.grownBy w' v.ownBlock ∧
   (∀ b,v'.ownBlock=some b→v.ownBlock=some b∨w.heap.size≤b):=by
 have hsmall:n+s.size≤9223372036854775807:=by simp only [maxLen] at h63; omega
 have hxl:xs.length=n:=by simpa using hown.1
 have hlen:(xs++Lib.strCells s).length=(n+s.size)*1:=by rw [HQ,hxl,KW,Kk]
 have grown:∀ (ql:Nat) (row:Option Nat),
   fN (w.drew.alloc (.cells (xs.toArray++(Lib.strCells s).toArray++Builtin.zeroCells (Value.int .u8 0).cells (grownCap w (n+s.size) ql e-(n+s.size))) e)) e 1
    (.slice (some ⟨w.heap.size,0,none⟩) (n+s.size) (grownCap w (n+s.size) ql e)) (n+s.size) (xs++Lib.strCells s) ∧
   w.grownBy (w.drew.alloc (.cells (xs.toArray++(Lib.strCells s).toArray++Builtin.zeroCells (Value.int .u8 0).cells (grownCap w (n+s.size) ql e-(n+s.size))) e)) row:=by
  intro ql row;have hge:=Mp w (n+s.size) ql e;have hcm:grownCap w (n+s.size) ql e≤maxLen:=Lz w (n+s.size) ql e h63;refine ⟨⟨hlen,.inr ⟨w.heap.size,0,_,_,rfl,LJ w.drew _,hge,hcm,?_,?_⟩⟩,⟨rfl,rfl,rfl,by simp,fun k hk _=>heap_alloc_old w.drew _ (h:=hk)⟩⟩
  ·have hz1:(Value.int u8 0).cells.size=1:=rfl
   simp only [Array.size_append,Kr,size_zeroCells,hz1,hxl,KW];omega
  ·simp only [Jg,Mh,H6]
   rw [← H6,← hlen];exact KS
 rcases hown.2 with ⟨rfl,rfl⟩ | ⟨g,off,cap,cur,rfl,hg,hnc,hcm,hcs,htake⟩
 ·have hx:xs=[]:=H7 hxl
  subst hx
  by_cases hm:s.size=0
  ·have hn:Lib.strCells s=[]:=H7 (by rw [KW]; exact hm)
   refine ⟨.slice none 0 0,w,?_,by rw [hm,hn]; exact fN.nil w e 1,⟨rfl,rfl,rfl,HH _,fun _ _ _=>rfl⟩,by simp [Value.ownBlock]⟩
   have hf:=Lib.run_firstCells_string (P:=P) w 1 s;rw [hm] at hf;simp [Builtin.append_,I_ ht,I_ hu,sizeOf,typeInfo,hi,hsize,Builtin.lenOf,hm,hf]
  ·have hr:=run_append_nil_string (P:=P) w t u ty e i (.int .u8 0) ht hu hi hz s (by omega) (by omega) (by rw [hby]; omega)
   have hgr:=grown 0 (Value.ownBlock (.slice none 0 0));simp only [H_,Jw,Array.empty_append] at hgr ⊢;have e1:(s.data.map fun b=>Value.int .u8 b.toNat)=(Lib.strCells s).toArray:=by
    apply Array.ext';simp [Lib.strCells]
   rw [e1] at hr;exact ⟨_,_,hr,hgr.1,hgr.2,fun b hb=>.inr (by simp only [Value.ownBlock,H9] at hb; omega)⟩
 ·have hcs':off+cap≤cur.size:=by simpa using hcs
  by_cases hroom:n+s.size≤cap
  ·have hf:=Lib.run_firstCells_string (P:=P) w 1 s
   obtain ⟨w',hst,hh,hgr⟩:=gO (P:=P) g (off+n) e (Lib.strCells s) 0 cur.toList w (by simpa using hg) (by rw [KW]; simp; omega) (Lib.strCells_oneCell s)
   refine ⟨.slice (some ⟨g,off,none⟩) (n+s.size) cap,w',?_,⟨hlen,.inr ⟨g,off,cap,_,rfl,hh,hroom,hcm,?_,?_⟩⟩,hgr,fun b hb=>.inl hb⟩
   ·simp [Builtin.append_,I_ ht,I_ hu,sizeOf,typeInfo,hi,hsize,Builtin.lenOf,hroom,hf,IC,hst]
   ·simpa [lI] using hcs
   ·rw [J7,Jb,rp _ _ _ (by rw [KW]; simp; omega)]
    have hd:(cur.toList.take (off+n)).drop off=xs:=by rw [JU,JG]; simpa using htake
    rw [H6,Kt (by simp; omega),hd,← H6,← hlen]
    exact KS
  ·have holds:∀ j u,xs[j]? = some u→w.cell? ((⟨g,off,none⟩:Addr).add j)=some u:=by
    intro j u hu;rw [IC];refine L7 hg rfl ?_;rw [← htake,It] at hu
    split at hu
    ·rw [Ib] at hu; simpa using hu
    ·cases hu
   have hr:=Lib.run_append_grow_string (P:=P) w t u ty e i (.int .u8 0) ht hu hi hz ⟨g,off,none⟩ n cap xs (by rw [hsize]; simpa using hxl) holds s (by omega) (by omega) (by rw [hby]; exact Mo (by omega) (by omega))
   have hgr:=grown cap (Value.ownBlock (.slice (some ⟨g,off,none⟩) n cap));exact ⟨_,_,hr,hgr.1,hgr.2,fun b hb=>.inr (by simp only [Value.ownBlock,H9] at hb; omega)⟩
section
variable {x:Cx}{ops:Array Oper}{Q:kF}{rest:List Oper}{H:Hp}{M M':List bR}{L L':Env}
variable {d:Nat}{ty:TypeId}{pos:String}{aft:Array Edge}{g:Option (Nat×Bool)}
theorem xM {t u e:TypeId}{n:Nat}{y z:Operand}{v:Value}{xs:List Value}{l:List U8}{s:ByteArray}
  (hg:gd ops L ⟨some d,.call ⟨.builtin .append,#[y,z],#[t,u]⟩,ty,pos,aft,g⟩=some true) (hN:Nat.blt d x.N=true)
  (hT:x.P.underlying t=some (.slice e)) (hU:x.P.underlying u=some .string) (hi:FJ x.P e 1 1 (.int .u8 0))
  (hy:ev L y=some v) (hz:ev L z=some (.string s)) (hx:Rw H v xs l) (hb:l.length+s.size≤140737488355328)
  (k:∀ v' xs',Rw H v' xs' (l++gL s)→W x ops Q rest H (.row v' e (aF.sz U8) (l++gL s).length xs'::M) ((d,v')::L)):
  W x ops Q (⟨some d,.call ⟨.builtin .append,#[y,z],#[t,u]⟩,ty,pos,aft,g⟩::rest) H (.row v e (aF.sz U8) n xs::M) L:=by
 obtain ⟨i,h1,h2,h3,h4⟩:=hi.ex;refine ot rfl hg hN fun a w hsl ht=>?_;have hown:fN w e 1 v n xs:=ht.ok _ (He ..);have hn:n=l.length:=by
  have:=hx.rd.len;rw [hown.1] at this;exact Jo (Nat.zero_lt_one) this
 subst hn;obtain ⟨v',w',hr,ho,hgr,hfr⟩:=ug (P:=x.P) (ty:=ty) hT hU h1 h4 h2 h3 hown s (by unfold maxLen; omega) hb
 have hlen:(l++gL s).length=l.length+s.size:=by rw [HQ,sR]
 have hok:bR.ok w' (.row v' e (aF.sz U8) (l++gL s).length (xs++Lib.strCells s)):=by rw [hlen]; exact ho
 refine ⟨v',w',?_,H,_,ht.xG (r':=.row v' e (aF.sz U8) (l++gL s).length (xs++Lib.strCells s)) hgr hok hfr,k v' _ ⟨?_,ho.shape⟩⟩
 ·simp [execOp,resolve,invoke,builtin,hsl.ev hy,hsl.ev hz,hr]
 ·rw [uD]
  exact hx.rd.app (mC.u8 H _)
theorem xT {t e u:TypeId}{y z:Operand}{a:Addr} (hi:∃ j,x.P.info? e=some j) (hg:gd ops L ⟨some d,.binOp .neq t y z u,ty,pos,aft,g⟩=some true) (hN:Nat.blt d x.N=true)
  (hT:x.P.underlying t=some (.pointer e)) (hy:ev L y=some (.pointer (some a))) (hz:ev L z=some (.pointer (some a)))
  (k:W x ops Q rest H M ((d,.bool false)::L)):W x ops Q (⟨some d,.binOp .neq t y z u,ty,pos,aft,g⟩::rest) H M L:=
 dX rfl hg hN (fun c w hs _=>by
  obtain ⟨j,hj⟩:=hi;have h:=Lib.run_neq_ptr_same (P:=x.P) w a hT hj;simp only [execOp,hs.ev hy,hs.ev hz,Hx,eqGuard];simp [h]) k
theorem wI {B:Nat}{w0 w:World}{b:Nat}{cs:List Value}{T:TypeId} (ht:St B w0 H M w) (hm:bR.obj b (.cells cs.toArray T (0,0)) ∈ M):w.shape? b=some (T,cs.length):=by
 have h:=ht.qM hm;simp [World.shape?,h]
theorem y0 {src dst T e:TypeId}{y:Operand}{b o:Nat}{cs:List Value} (hm:bR.obj b (.cells cs.toArray e (0,0)) ∈ M) (ho:Nat.blt o cs.length=true)
  (hi:∃ j,x.P.info? T=some j∧Nat.beq j.size 0=false) (hg:gd ops L ⟨some d,.convert src dst y,ty,pos,aft,g⟩=some true) (hN:Nat.blt d x.N=true)
  (hs:x.P.underlying src=some (.pointer T)) (hd:x.P.underlying dst=some .unsafePointer) (hy:ev L y=some (.pointer (some ⟨b,o,none⟩)))
  (k:W x ops Q rest H M ((d,.pointer (some ⟨b,o,none⟩))::L)):W x ops Q (⟨some d,.convert src dst y,ty,pos,aft,g⟩::rest) H M L:=
 dX rfl hg hN (fun c w hsl ht=>by
  obtain ⟨j,hj,hj0⟩:=hi;have h:=Lib.run_to_unsafe (P:=x.P) w ⟨b,o,none⟩ hs hd hj (fun e=>by rw [e] at hj0; cases hj0) (wI ht hm) (by simpa [IE] using ho)
  simp only [execOp,hsl.ev hy,Hx,h,Hr,HL]) k
theorem wW {src dst T e:TypeId}{y:Operand}{b o:Nat}{cs:List Value} (hm:bR.obj b (.cells cs.toArray e (0,0)) ∈ M)
  (hi:∃ j,x.P.info? T=some j) (hl:liesAt x.P x.P.depth e (cs.length / x.P.cellsOf e) o T 1=true) (hg:gd ops L ⟨some d,.convert src dst y,ty,pos,aft,g⟩=some true) (hN:Nat.blt d x.N=true)
  (hs:x.P.underlying src=some .unsafePointer) (hd:x.P.underlying dst=some (.pointer T)) (hy:ev L y=some (.pointer (some ⟨b,o,none⟩)))
  (k:W x ops Q rest H M ((d,.pointer (some ⟨b,o,none⟩))::L)):W x ops Q (⟨some d,.convert src dst y,ty,pos,aft,g⟩::rest) H M L:=
 dX rfl hg hN (fun c w hsl ht=>by
  obtain ⟨j,hj⟩:=hi;have h:=Lib.run_from_unsafe (P:=x.P) w ⟨b,o,none⟩ hs hd hj (wI ht hm) hl;simp only [execOp,hsl.ev hy,Hx,h,Hr,HL]) k
theorem xq {P:Program}{f:FuncId}{fn:Func} (hf:P.funcs[f]? = some fn) (h1:(fn.name == "runtime.NumGoroutine")=false) (h2:fn.body.isNone=true) (h3:Extern.findNext fn=none) (h4:Extern.find fn=some Extern.AbiNoEscape.same) (v:Value):
  ∀ w,(callFunc f [v].toArray).run P w=.ok (.value v) w:=fun w=>by
 rw [run_callFunc_extern hf h1 h2 h3 h4,show [v].toArray=#[v] from rfl,Lib.run_noEscape]
 rfl
theorem xW {ts:Array TypeId}{y:Operand}{a:Addr}{n c:Nat} (hg:gd ops L ⟨some d,.call ⟨.builtin .unsafeSliceData,#[y],ts⟩,ty,pos,aft,g⟩=some true) (hN:Nat.blt d x.N=true)
  (hy:ev L y=some (.slice (some a) n c)) (hc:c≠0) (k:W x ops Q rest H M ((d,.pointer (some a))::L)):
  W x ops Q (⟨some d,.call ⟨.builtin .unsafeSliceData,#[y],ts⟩,ty,pos,aft,g⟩::rest) H M L:=
 dX rfl hg hN (fun s w hsl ht=>by
  have h:=Lib.run_unsafeSliceData_row (P:=x.P) w ts ty a n c hc;simp [execOp,resolve,invoke,builtin,hsl.ev hy,h]) k
theorem sd {P:Program} (w:World):∀ (l:List U8) (a:Addr) (acc:ByteArray),(∀ j y,l[j]? = some y→w.cell? (a.add j)=some (.int .u8 y.n)) →
  (loadBytes a acc l.length).run P w=.ok ⟨acc.data++(l.map fun y=>UInt8.ofNat y.n.toNat).toArray⟩ w
 | [],a,acc,_=>by simp [loadBytes]
 | y::l,a,acc,h=>by
  have h0:w.cell? a=some (.int .u8 y.n):=by
   have:=h 0 y rfl;simpa [Addr.add] using this
  have ih:=sd (P:=P) w l (a.add 1) (acc.push (UInt8.ofNat y.n.toNat)) (fun j z hz=>by
   have:=h (j+1) z (by simpa using hz)
   have e:(a.add 1).add j=a.add (j+1):=by
    unfold Addr.add
    by_cases hj:j=0
    ·subst hj; simp
    ·simp [hj]; omega
   rw [e]; exact this)
  have hx:(y.n.toNat).toUInt8=UInt8.ofNat y.n.toNat:=rfl;simp only [Hz,loadBytes,Hx,run_load,h0,Result.andThen,hx];rw [ih]
  congr 1
  apply ByteArray.ext;simp [ByteArray.push]
theorem wm {P:Program}{e:TypeId} (hc:P.cellsOf e=1) (count off n:Nat) (hn:off+n≤count):liesAt P P.depth e count off e n=true:=by
 have hd:P.depth=(2*(P.types.size+Made.depth)+1)+1:=rfl;rw [hd];simp only [liesAt,Jd]
 left
 rw [hd];simp [rowAt,hc,hn,sameLayout,Nat.mod_one]
theorem xX {pt it e:TypeId}{y z:Operand}{gb off n cap:Nat}{xs:List Value}{l:List U8}
  (hg:gd ops L ⟨some d,.call ⟨.builtin .unsafeString,#[y,z],#[pt,it]⟩,ty,pos,aft,g⟩=some true) (hN:Nat.blt d x.N=true)
  (hp:x.P.underlying pt=some (.pointer e)) (hc:x.P.cellsOf e=1)
  (hy:ev L y=some (.pointer (some ⟨gb,off,none⟩))) (hz:ev L z=some (.int .i64 (l.length:Int))) (h0:0<l.length)
  (hx:Rw H (.slice (some ⟨gb,off,none⟩) n cap) xs l)
  (k:W x ops Q rest H M ((d,.string (sQ l))::L)):
  W x ops Q (⟨some d,.call ⟨.builtin .unsafeString,#[y,z],#[pt,it]⟩,ty,pos,aft,g⟩::rest) H (.row (.slice (some ⟨gb,off,none⟩) n cap) e (aF.sz U8) n xs::M) L:=by
 refine ot rfl hg hN fun a w hsl ht=>?_;have hown:fN w e 1 (.slice (some ⟨gb,off,none⟩) n cap) n xs:=ht.ok _ (He ..);have hn:n=l.length:=by
  have:=hx.rd.len;rw [hown.1] at this;exact Jo (Nat.zero_lt_one) this
 rcases hown.2 with ⟨h,_⟩ | ⟨g',off',l9,cur,he,hgc,hnc,hcm,hcs,htake⟩
 ·cases h
 cases he;have hcs':off+cap≤cur.size:=by simpa using hcs
 have hsh:w.shape? gb=some (e,cur.size):=by simp [World.shape?,hgc]
 have hcell:∀ j y,l[j]? = some y→w.cell? ((⟨gb,off,none⟩:Addr).add j)=some (.int .u8 y.n):=by
  intro j y hj;obtain ⟨cs,h1,h2⟩:=hx.rd.get j y hj;have h1:cs=[.int .u8 y.n]:=h1;have h3:=h2 0 (.int .u8 y.n) (by rw [h1]; rfl)
  rw [IC];refine L7 hgc rfl ?_;rw [← htake,It] at h3
  split at h3
  ·rw [Ib] at h3
   simpa [aF.sz] using h3
  ·cases h3
 have hlb:=sd (P:=x.P) w l ⟨gb,off,none⟩ .empty hcell;have hlies:=wm (P:=x.P) hc (cur.size / x.P.cellsOf e) off l.length (by rw [hc,Nat.div_one]; omega)
 have hmax:i64.max=9223372036854775807:=rfl;have hl0:l.length≠0:=by omega
 have h63':¬ (9223372036854775807:Int)<(l.length:Int):=by unfold maxLen at hcm; omega
 have hneg:¬ (l.length:Int)<0:=by omega
 have hrun:(Builtin.unsafeString_ #[pt,it] ty #[.pointer (some ⟨gb,off,none⟩),.int .i64 l.length]).run x.P w=.ok (.string (sQ l)) (w.freeze ⟨gb,off,none⟩ l.length):=by
  have hdef:Builtin.unsafeString_ #[pt,it] ty #[.pointer (some ⟨gb,off,none⟩),.int .i64 l.length] =
    (do
     let n ← asInt (.int .i64 l.length)
     if n<0 then runtimePanic (.error "unsafe.String: len out of range")
     if n > i64.max then unsupported (.unsafePointer "String: a length above the largest int")
     if n=0 then pure (.string .empty)
     else if ← variablesAt ⟨gb,off,none⟩ (← elemOf pt) n.toNat then do
      let s ← loadBytes ⟨gb,off,none⟩ .empty n.toNat
      freeze ⟨gb,off,none⟩ n.toNat
      pure (.string s)
     else unsupported (.unsafePointer "String: not so many bytes at ptr")):=rfl
  rw [hdef];have he0:ByteArray.empty.data=#[]:=rfl;simp [asInt,asIntOf,hmax,h63',hneg,hl0,variablesAt,hsh,elemOf,I_ hp,hlies,hlb,sQ]
 have hgr:w.grownBy (w.freeze ⟨gb,off,none⟩ l.length) (some gb):=by
  unfold World.freeze
  split
  ·exact ⟨rfl,rfl,rfl,HH _,fun _ _ _=>rfl⟩
  ·exact ⟨rfl,rfl,rfl,by simp,fun q hq hne=>by
    simp only [L1];rw [Hh (by intro e; exact hne (by rw [e]))]⟩
 have h1:=ht.xG (r':=.row (.slice none 0 0) 0 1 0 []) hgr (fN.nil _ _ _) (by intro b hb; simp [bR.pW,Value.ownBlock] at hb)
 refine ⟨.string (sQ l),w.freeze ⟨gb,off,none⟩ l.length,?_,H,M,h1.tail,k⟩;simp [execOp,resolve,invoke,builtin,hsl.ev hy,hsl.ev hz,hrun]
end
end Go.Sim
namespace Go.Sim
open Go
open _root_.Go.IntKind (i64 u64 u32 u8)
def rowsOf (T:TypeId) (sz:Nat) {α:Type} (ws:List (Value×List Value)) (ls:List (List α)):List bR:=List.zipWith (fun w l=>bR.row w.1 T sz l.length w.2) ws ls
structure Mx {α:Type}[aF α] (T1 T2:TypeId) (H:Hp) (v:Value) (hs:List Value) (mx:List bR) (sg:List Nat) (ls:List (List α)):Prop where
 ex:∃ (xs:List Value) (ws:List (Value×List Value)),mx=.row v T1 1 sg.length xs::rowsOf T2 (aF.sz α) ws ls∧ws.length=ls.length∧ws.map (·.1)=hs∧(∀ (k:Nat) (w:Value×List Value) (l:List α),ws[k]? = some w→ls[k]? = some l→Rw H w.1 w.2 l) ∧
  xs.length=sg.length∧(∀ (i k:Nat),sg[i]? = some k→∃ w:Value×List Value,ws[k]? = some w∧xs[i]? = some w.1)
 sl:∃ a n c,v=.slice a n c
section
variable {α:Type}[aF α] {T1 T2:TypeId}{H H':Hp}{v:Value}{hs:List Value}{mx:List bR}{sg:List Nat}{ls:List (List α)}
theorem Mx.mono (h:Mx T1 T2 H v hs mx sg ls) (hle:H.le H'):Mx T1 T2 H' v hs mx sg ls:=by
 obtain ⟨xs,ws,h1,h2,h2',h3,h4,h5⟩:=h.ex;exact ⟨⟨xs,ws,h1,h2,h2',fun k w l a b=>(h3 k w l a b).mono hle,h4,h5⟩,h.sl⟩
theorem zz {ws:List (Value×List Value)}{k:Nat}{w:Value} (hh:ws.map (·.1)=hs) (hw:hs[k]? = some w):∃ u,ws[k]? = some u∧u.1=w:=by
 rw [← hh,HZ] at hw;cases e:ws[k]? with
 | none=>rw [e] at hw; simp at hw
 | some u=>rw [e] at hw; exact ⟨u,rfl,G7 hw⟩
theorem Mx.row (h:Mx T1 T2 H v hs mx sg ls) {k:Nat}{w:Value} (hw:hs[k]? = some w):∃ (xs:List Value) (m1 m2:List bR),k<ls.length∧mx=m1++.row w T2 (aF.sz α) ((ls[k]?).getD []).length xs::m2∧Rw H w xs ((ls[k]?).getD []) ∧
  ∀ (H':Hp) (xs':List Value) (l':List α),H.le H'→Rw H' w xs' l'→Mx T1 T2 H' v hs (m1++.row w T2 (aF.sz α) l'.length xs'::m2) sg (ls.set k l'):=by
 obtain ⟨oxs,ws,rfl,h2,h2',h3,h4,h5⟩:=h.ex;have hh:=hw;clear hw;obtain ⟨w,hw,rfl⟩:=zz h2' hh;have hkw:k<ws.length:=(G6.1 hw).1;have hk:k<ls.length:=by omega
 have hl:=G9 hk;have hwe:ws[k]=w:=by rw [G9 hkw] at hw; exact G7 hw
 have hsp:∀ (ws:List (Value×List Value)) (ls:List (List α)) (h1:k<ws.length) (h2:k<ls.length),rowsOf T2 (aF.sz α) ws ls=rowsOf T2 (aF.sz α) (ws.take k) (ls.take k)++.row ws[k].1 T2 (aF.sz α) ls[k].length ws[k].2::rowsOf T2 (aF.sz α) (ws.drop (k+1)) (ls.drop (k+1)):=fun ws ls h1 h2=>by
  have e1:ws=ws.take k++ws[k]::ws.drop (k+1):=by rw [← Il h1,I2]
  have e2:ls=ls.take k++ls[k]::ls.drop (k+1):=by rw [← Il h2,I2]
  have e3:rowsOf T2 (aF.sz α) ws ls=rowsOf T2 (aF.sz α) (ws.take k++ws[k]::ws.drop (k+1)) (ls.take k++ls[k]::ls.drop (k+1)):=by rw [← e1,← e2]
  rw [e3];unfold rowsOf;rw [KX (by simp; omega)]
  rfl
 have hg:(ls[k]?).getD []=ls[k]:=by rw [hl]; rfl
 rw [hg];refine ⟨w.2,.row v T1 1 sg.length oxs::rowsOf T2 (aF.sz α) (ws.take k) (ls.take k),rowsOf T2 (aF.sz α) (ws.drop (k+1)) (ls.drop (k+1)),hk,?_,h3 k w _ hw hl,fun H' xs' l' hle hr=>⟨⟨oxs,ws.set k (w.1,xs'),?_,by simp [h2],?_,fun j u l hu hl'=>?_,h4,fun i' j hj=>?_⟩,h.sl⟩⟩
 ·rw [hsp ws ls hkw hk,hwe]; rfl
 ·rw [hsp (ws.set k (w.1,xs')) (ls.set k l') (by simpa using hkw) (by simpa using hk)]
  have t1:(ws.set k (w.1,xs')).take k=ws.take k:=J6 (HH k);have t2:(ls.set k l').take k=ls.take k:=J6 (HH k);have t3:(ws.set k (w.1,xs')).drop (k+1)=ws.drop (k+1):=J4 (Hi k);have t4:(ls.set k l').drop (k+1)=ls.drop (k+1):=J4 (Hi k);rw [t1,t2,t3,t4];simp
 ·rw [List.map_set,h2']
  obtain ⟨e1,e2⟩:=G6.1 hh;rw [← e2,List.set_getElem_self]
 ·by_cases e:k=j
  ·subst e
   rw [HS hkw] at hu;rw [HS hk] at hl';obtain rfl:=G7 hu;obtain rfl:=G7 hl';exact hr
  ·rw [HM e] at hu hl'
   exact (h3 j u l hu hl').mono hle
 ·obtain ⟨u,hu,hx'⟩:=h5 i' j hj
  by_cases e:k=j
  ·subst e
   rw [hw] at hu;obtain rfl:=G7 hu;exact ⟨(w.1,xs'),by rw [HS hkw],hx'⟩
  ·exact ⟨u,by rw [HM e]; exact hu,hx'⟩
theorem Mx.outer (h:Mx T1 T2 H v hs mx sg ls):∃ oxs m2,mx=.row v T1 1 sg.length oxs::m2∧oxs.length=sg.length∧(∀ (i k:Nat),sg[i]? = some k→∃ w,hs[k]? = some w∧oxs[i]? = some w) ∧
  (∀ (i k:Nat) (w:Value),i<sg.length→hs[k]? = some w→Mx T1 T2 H v hs (.row v T1 1 (sg.set i k).length (oxs.set i w)::m2) (sg.set i k) ls) ∧
  (∀ (i:Nat) (w:Value) (xs:List Value) (l:List α),i<sg.length→Rw H w xs l→Mx T1 T2 H v (hs++[w]) (.row v T1 1 (sg.set i ls.length).length (oxs.set i w)::(m2++[.row w T2 (aF.sz α) l.length xs])) (sg.set i ls.length) (ls++[l])):=by
 obtain ⟨oxs,ws,rfl,h2,h2',h3,h4,h5⟩:=h.ex;refine ⟨oxs,_,rfl,h4,fun i k hk=>?_,fun i k w hi hw=>?_,fun i w xs l hi hr=>?_⟩
 ·obtain ⟨u,hu,hx⟩:=h5 i k hk
  exact ⟨u.1,by rw [← h2',HZ,hu]; rfl,hx⟩
 ·obtain ⟨u,hu,rfl⟩:=zz h2' hw
  refine ⟨⟨oxs.set i u.1,ws,rfl,h2,h2',h3,by simp [h4],fun i' k' hk'=>?_⟩,h.sl⟩
  by_cases e:i=i'
  ·subst e
   rw [HS hi] at hk';obtain rfl:=G7 hk';exact ⟨u,hu,by rw [HS (by omega)]⟩
  ·rw [HM e] at hk'
   obtain ⟨u',hu',hx'⟩:=h5 i' k' hk';exact ⟨u',hu',by rw [HM e]; exact hx'⟩
 ·refine ⟨⟨oxs.set i w,ws++[(w,xs)],?_,by simp [h2],by simp [h2'],fun j u l' hu hl'=>?_,by simp [h4],fun i' k' hk'=>?_⟩,h.sl⟩
  ·unfold rowsOf
   rw [KX h2]
   rfl
  ·rcases Jx j ls.length with hj | hj
   ·rw [IM (by omega)] at hu hl'
    exact h3 j u l' hu hl'
   ·rw [HY (by omega)] at hu hl'
    rw [h2] at hu;cases e:j-ls.length with
    | zero=>
     rw [e] at hu hl';obtain rfl:=G7 hu;obtain rfl:=G7 hl';exact hr
    | succ m=>rw [e] at hu; simp at hu
  ·by_cases e:i=i'
   ·subst e
    rw [HS hi] at hk';obtain rfl:=G7 hk';exact ⟨(w,xs),by rw [HY (by omega),h2,IT]; rfl,by rw [HS (by omega)]⟩
   ·rw [HM e] at hk'
    obtain ⟨u',hu',hx'⟩:=h5 i' k' hk';exact ⟨u',by rw [IM (G6.1 hu').1]; exact hu',by rw [HM e]; exact hx'⟩
end
structure AX where
 mk ::
instance:aF AX where
 sz:=1
 E _ cs _:=cs=[.slice none 0 0]
 len h:=by rw [h]; rfl
 mono _ h:=h
 one h c hc:=by rw [h] at hc; simp at hc; subst hc; rfl
theorem vH {H:Hp}:∀ {n:Nat}{xs:List Value},mC H xs (List.replicate n AX.mk)→xs=List.replicate n (.slice none 0 0)
 | 0,xs,h=>h
 | n+1,xs,h=>by
  obtain ⟨cs,r,rfl,he,hr⟩:=h;have he:cs=[.slice none 0 0]:=he;rw [he,vH hr]; rfl
section
variable {α:Type}[aF α] {T1 T2:TypeId}{H H':Hp}{v:Value}{hs:List Value}{mx:List bR}{sg:List Nat}{ls:List (List α)}
theorem Mx.make {n:Nat}{oxs:List Value} (h:Rw H v oxs (List.replicate n AX.mk)):Mx T1 T2 H v [.slice none 0 0] (.row v T1 1 (List.replicate n 0).length oxs::[.row (.slice none 0 0) T2 (aF.sz α) 0 []]) (List.replicate n 0) ([[]]:List (List α)):=by
 have hx:=vH h.rd;refine ⟨⟨oxs,[(.slice none 0 0,[])],rfl,rfl,rfl,fun k w l hw hl=>?_,by rw [hx]; simp,fun i k hk=>?_⟩,h.sl⟩
 ·cases k with
  | zero=>
   obtain rfl:=G7 hw;obtain rfl:=G7 hl;exact Rw.nil
  | succ k=>simp at hw
 ·obtain ⟨hi,he⟩:=G6.1 hk
  rw [List.getElem_replicate] at he;subst he;refine ⟨_,rfl,?_⟩;rw [hx,JX,Hl (by simpa using hi)]
theorem vo {B:Nat}{w0 w:World}{M:List bR} (hs:0<aF.sz α):∀ (ws:List (Value×List Value)) (ls:List (List α)) (H:Hp),ws.length=ls.length →
  (∀ (k:Nat) (u:Value×List Value) (l:List α),ws[k]? = some u→ls[k]? = some l→Rw H u.1 u.2 l)→St B w0 H (rowsOf T2 (aF.sz α) ws ls++M) w →
  ∃ H',H.le H'∧St B w0 H' M w∧∀ (k:Nat) (u:Value×List Value) (l:List α),ws[k]? = some u→ls[k]? = some l→aI H' u.1 l
 | [],[],H,_,_,ht=>⟨H,G8 _,ht,fun k u l hu _=>by simp at hu⟩
 | [],_::_,H,hl,_,_=>by simp at hl
 | _::_,[],H,hl,_,_=>by simp at hl
 | u::ws,l::ls,H,hl,hr,ht=>by
  have ht:St B w0 H (.row u.1 T2 (aF.sz α) l.length u.2::(rowsOf T2 (aF.sz α) ws ls++M)) w:=ht;obtain ⟨H1,h1,h2,h3⟩:=ht.qX (hr 0 u l rfl rfl).rd hs;obtain ⟨H2,g1,g2,g3⟩:=vo hs ws ls H1 (by simpa using hl) (fun k u' l' hu hl'=>(hr (k+1) u' l' (by simpa using hu) (by simpa using hl')).mono h1) h2
  refine ⟨H2,G4 h1 g1,g2,fun k u' l' hu hl'=>?_⟩;cases k with
  | zero=>
   obtain rfl:=G7 hu;obtain rfl:=G7 hl';exact h3.mono g1
  | succ k=>exact g3 k u' l' (by simpa using hu) (by simpa using hl')
theorem wK {H:Hp}:∀ (xs:List Value) (l:List (List α)),xs.length=l.length→(∀ (i:Nat) (y:Value) (e:List α),xs[i]? = some y→l[i]? = some e→aI H y e)→mC H xs l
 | [],[],_,_=>rfl
 | [],_::_,h,_=>by simp at h
 | _::_,[],h,_=>by simp at h
 | y::xs,e::l,h,hr=>⟨[y],xs,rfl,⟨y,rfl,hr 0 y e rfl rfl⟩,wK xs l (by simpa using h) (fun i y' e' hy he=>hr (i+1) y' e' (by simpa using hy) (by simpa using he))⟩
def mX (sg:List Nat) (ls:List (List α)):List (List α):=sg.map fun k=>(ls[k]?).getD []
theorem St.yj {B:Nat}{w0 w:World}{M:List bR} (ht:St B w0 H (mx++M) w) (h:Mx T1 T2 H v hs mx sg ls) (h0:0<aF.sz α):∃ H',H.le H'∧St B w0 H' M w∧aI H' v (mX sg ls):=by
 obtain ⟨oxs,ws,rfl,h2,_,h3,h4,h5⟩:=h.ex;have ht1:St B w0 H (rowsOf T2 (aF.sz α) ws ls++(.row v T1 1 sg.length oxs::M)) w:=ht.perm (by
  rw [JQ];exact List.perm_middle.symm)
 obtain ⟨H1,g1,g2,g3⟩:=vo h0 ws ls H h2 h3 ht1;have hv:(mX sg ls).length=sg.length:=by unfold mX; simp
 have hrd:mC H1 oxs (mX sg ls):=wK oxs _ (by rw [hv]; exact h4) (fun i y e hy he=>by
  unfold mX at he;rw [HZ] at he;cases hk:sg[i]? with
  | none=>rw [hk] at he; simp at he
  | some k=>
   rw [hk] at he;obtain ⟨u,hu,hx⟩:=h5 i k hk;rw [hy] at hx;obtain rfl:=G7 hx;have hkl:k<ls.length:=by rw [← h2]; exact (G6.1 hu).1
   have hl:=G9 hkl;simp only [I7,H9] at he;rw [hl,JA] at he;rw [← he];exact g3 k u _ hu hl)
 have g2':St B w0 H1 (.row v T1 (aF.sz (List α)) sg.length oxs::M) w:=g2;obtain ⟨H2,k1,k2,k3⟩:=g2'.qX hrd Nat.one_pos;exact ⟨H2,G4 g1 k1,k2,k3⟩
end
section
variable {x:Cx}{ops:Array Oper}{Q:kF}{rest:List Oper}{H:Hp}{M:List bR}{L:Env}
theorem yY {α:Type}[aF α] {T1 T2:TypeId}{v:Value}{hs:List Value}{mx:List bR}{sg:List Nat}{ls:List (List α)} (h:Mx T1 T2 H v hs mx sg ls) (h0:Nat.blt 0 (aF.sz α)=true)
  (k:∀ H',H.le H'→aI H' v (mX sg ls)→W x ops Q rest H' M L):W x ops Q rest H (mx++M) L:=by
 intro a w hsl ht;obtain ⟨H',h1,h2,h3⟩:=St.yj ht h (by simpa [IE] using h0)
 exact k H' h1 h3 a w hsl h2
variable {d:Nat}{ty:TypeId}{pos:String}{aft:Array Edge}{g:Option (Nat×Bool)}
theorem oc (pre m1 m2 M0:List bR) (r:bR):(pre++((m1++r::m2)++M0)).Perm (r::(pre++((m1++m2)++M0))):=by
 have h1:(pre++((m1++r::m2)++M0))=(pre++m1)++r::(m2++M0):=by simp
 have h2:(r::(pre++((m1++m2)++M0)))=r::((pre++m1)++(m2++M0)):=by simp
 rw [h1,h2];exact List.perm_middle
theorem Mx.get {α:Type}[aF α] {T1 T2:TypeId}{v:Value}{hs:List Value}{mx:List bR}{sg:List Nat}{ls:List (List α)} (h:Mx T1 T2 H v hs mx sg ls) {k:Nat}{w:Value} (hw:hs[k]? = some w):
  ∃ xs:List Value,bR.row w T2 (aF.sz α) ((ls[k]?).getD []).length xs ∈ mx∧Rw H w xs ((ls[k]?).getD []):=by
 obtain ⟨xs,m1,m2,_,he,hr,_⟩:=h.row hw;exact ⟨xs,by rw [he]; exact IH _ (He ..),hr⟩
theorem oy {α:Type}[aF α] {T1 T2 T:TypeId}{m:Nat}{y z:Operand}{v u w:Value}{ad:Addr}{hs cs:List Value}{pre mx:List bR}{sg:List Nat}{ls:List (List α)}{k j:Nat}{e2:α}
  (h:Mx T1 T2 H v hs mx sg ls) (hx:hs[k]? = some w) (hj:j<((ls[k]?).getD []).length) (hE:aF.E H cs e2)
  (hg:gd ops L ⟨none,.store T y z,ty,pos,aft,g⟩=some true) (hn:∀ w,(sizeOf T).run x.P w=.ok m w) (hm:m=aF.sz α) (h0:Nat.blt 0 (aF.sz α)=true)
  (hy:ev L y=some (.pointer (some ad))) (had:ad=(Value.base w).add (j*aF.sz α)) (hz:ev L z=some u) (hv:u.cells=cs.toArray)
  (kk:∀ mx',Mx T1 T2 H v hs mx' sg (ls.set k (((ls[k]?).getD []).set j e2))→W x ops Q rest H (pre++(mx'++M)) L):
  W x ops Q (⟨none,.store T y z,ty,pos,aft,g⟩::rest) H (pre++(mx++M)) L:=by
 obtain ⟨xs,m1,m2,hk,rfl,hr,hup⟩:=h.row hx;have hcl:=aF.len hE;have hs':0<aF.sz α:=by simpa [IE] using h0
 have he:=G9 hj;obtain ⟨c,hc,hgc⟩:=hr.elem he;have hccl:=aF.len hc;have ho:over c 0 cs=cs:=by
  rw [rp cs c 0 (by omega),LG,Jw,List.drop_eq_nil_of_le (by omega),Ia]
 obtain ⟨p1,_,_⟩:=Rw.put (k:=j) (o:=0) (e2:=e2) hr he hc hgc (by simp [Kn]; omega) ho hE
 have hroom:j*aF.sz α+cs.length≤xs.length:=by
  have hlen:=hr.rd.len;have:(j+1)*aF.sz α≤((ls[k]?).getD []).length*aF.sz α:=HD _ hj;rw [HI,Lo] at this;omega
 refine a_ (oc pre m1 m2 M _) ?_;refine rN (i:=j*aF.sz α) (cs:=cs) hg hn hy had hz hv (by omega) hroom (by simp [IE]; omega) (aF.one hE) ?_
 have h2:=hup H _ _ (G8 _) p1;rw [Hw,Jb] at h2;refine a_ (oc pre m1 m2 M _).symm ?_;exact kk _ h2
theorem Ab {α:Type}[aF α] {T1 T2 T:TypeId}{y z:Operand}{v w:Value}{ad:Addr}{hs:List Value}{pre mx:List bR}{sg:List Nat}{ls:List (List α)}{i k:Nat}
  (h:Mx T1 T2 H v hs mx sg ls) (hi:i<sg.length) (hx:hs[k]? = some w)
  (hg:gd ops L ⟨none,.store T y z,ty,pos,aft,g⟩=some true) (hn:∀ w,(sizeOf T).run x.P w=.ok 1 w)
  (hy:ev L y=some (.pointer (some ad))) (had:ad=(Value.base v).add (i*1)) (hz:ev L z=some w)
  (kk:∀ mx',Mx T1 T2 H v hs mx' (sg.set i k) ls→W x ops Q rest H (pre++(mx'++M)) L):
  W x ops Q (⟨none,.store T y z,ty,pos,aft,g⟩::rest) H (pre++(mx++M)) L:=by
 obtain ⟨_,_,_,_,_,hr,_⟩:=h.row hx;obtain ⟨oxs,m2,rfl,hl,_,hput,_⟩:=h.outer;refine a_ (oc pre [] m2 M _) ?_;refine rN (i:=i*1) (cs:=[w]) hg hn hy had hz hr.cells rfl (by simp; omega) rfl (fun c hc=>by simp at hc; subst hc; exact hr.one) ?_
 have h2:=hput i k w hi hx;rw [Hw] at h2;have e:over oxs (i*1) [w]=oxs.set i w:=by rw [Kk]; rfl
 rw [e];refine a_ (oc pre [] m2 M _).symm ?_;exact kk _ h2
theorem wV {α:Type}[aF α] {T1 T2 T:TypeId}{y z:Operand}{v w:Value}{ad:Addr}{hs xs:List Value}{pre mx:List bR}{sg:List Nat}{ls:List (List α)}{l:List α}{i:Nat}
  (h:Mx T1 T2 H v hs mx sg ls) (hi:i<sg.length) (hr:Rw H w xs l)
  (hg:gd ops L ⟨none,.store T y z,ty,pos,aft,g⟩=some true) (hn:∀ w,(sizeOf T).run x.P w=.ok 1 w)
  (hy:ev L y=some (.pointer (some ad))) (had:ad=(Value.base v).add (i*1)) (hz:ev L z=some w)
  (kk:∀ mx',Mx T1 T2 H v (hs++[w]) mx' (sg.set i ls.length) (ls++[l])→W x ops Q rest H (pre++(mx'++M)) L):
  W x ops Q (⟨none,.store T y z,ty,pos,aft,g⟩::rest) H (.row w T2 (aF.sz α) l.length xs::(pre++(mx++M))) L:=by
 obtain ⟨oxs,m2,rfl,hl,_,_,hadd⟩:=h.outer;have p1:(bR.row w T2 (aF.sz α) l.length xs::(pre++((.row v T1 1 sg.length oxs::m2)++M))).Perm (.row v T1 1 sg.length oxs::(.row w T2 (aF.sz α) l.length xs::(pre++(m2++M)))):=
  ((oc pre [] m2 M _).cons _).trans (List.Perm.swap _ _ _)
 refine a_ p1 ?_;refine rN (i:=i*1) (cs:=[w]) hg hn hy had hz hr.cells rfl (by simp; omega) rfl (fun c hc=>by simp at hc; subst hc; exact hr.one) ?_
 have h2:=hadd i w xs l hi hr;rw [Hw] at h2;have e:over oxs (i*1) [w]=oxs.set i w:=by rw [Kk]; rfl
 rw [e];have p2:(bR.row v T1 1 sg.length (oxs.set i w)::(.row w T2 (aF.sz α) l.length xs::(pre++(m2++M)))).Perm (pre++((.row v T1 1 sg.length (oxs.set i w)::(m2++[.row w T2 (aF.sz α) l.length xs]))++M)):=by
  refine (oc pre [] (m2++[.row w T2 (aF.sz α) l.length xs]) M _).trans ?_ |>.symm;refine List.Perm.cons _ ?_;have:=oc pre m2 [] M (.row w T2 (aF.sz α) l.length xs);simpa using this
 refine a_ p2 ?_;exact kk _ h2
def py (sz n:Nat):Value→Value
 | .slice (some ⟨b,off,sp⟩) len cap=>.slice (some ⟨b,if cap=n then off else off+n*sz,sp⟩) (len-n) (cap-n)
 | y=>y
theorem fN.sub {w:World}{T:TypeId}{sz n m:Nat}{v:Value}{xs:List Value} (h:fN w T sz v n xs) (hm:m≤n):fN w T sz (py sz m v) (n-m) (xs.drop (m*sz)):=by
 obtain ⟨hl,hh⟩:=h;refine ⟨by rw [Jh,hl,Nat.sub_mul],?_⟩
 rcases hh with ⟨rfl,h0⟩ | ⟨gb,off,cap,cur,rfl,hg,hnc,hcm,hcs,htake⟩
 ·exact .inl ⟨rfl,by omega⟩
 ·have h1:m*sz+(cap-m)*sz=cap*sz:=by rw [← HI,Nat.add_sub_cancel' (by omega)]
  have h2:m*sz+(n-m)*sz=n*sz:=by rw [← HI,Nat.add_sub_cancel' hm]
  by_cases hc:cap=m
  ·have hnm:n=m:=by omega
   refine .inr ⟨gb,off,cap-m,cur,by show Value.slice (some ⟨gb,if cap=m then off else off+m*sz,none⟩) _ _=_; rw [Hl hc],hg,by omega,by omega,by omega,?_⟩
   rw [← htake,JU,hnm,IT,IT,Jc,LG,LG]
  ·refine .inr ⟨gb,off+m*sz,cap-m,cur,by show Value.slice (some ⟨gb,if cap=m then off else off+m*sz,none⟩) _ _=_; rw [Hh hc],hg,by omega,by omega,by omega,?_⟩
   rw [← htake,JU,Jt]
   congr 1
   omega
theorem BC {sz m:Nat} (v:Value):(py sz m v).ownBlock=v.ownBlock:=by
 unfold py
 split
 ·rename_i b off sp len cap
  cases sp <;> rfl
 ·rfl
theorem St.same {B:Nat}{w0 w:World}{r r':bR} (h:St B w0 H (r::M) w) (hok:r'.ok w) (hf:r'.pW=r.pW):St B w0 H (r'::M) w:=by
 refine ⟨h.below,h.le,h.rS,fun s hs=>?_,fun s hs b hb=>?_,?_⟩
 ·rcases Ik.1 hs with rfl | hs
  ·exact hok
  ·exact h.ok s (Ho _ hs)
 ·rcases Ik.1 hs with rfl | hs
  ·exact h.lo r (He ..) b (by rw [← hf]; exact hb)
  ·exact h.lo s (Ho _ hs) b hb
 ·have:=h.nd
  simp only [JK,hf] at this ⊢;exact this
theorem Rw.sub {α:Type}[aF α] {v:Value}{xs:List Value}{l:List α} (h:Rw H v xs l) {m:Nat} (hm:m≤l.length):Rw H (py (aF.sz α) m v) (xs.drop (m*aF.sz α)) (l.drop m):=by
 refine ⟨?_,?_⟩
 ·have key:∀ (m:Nat) (xs:List Value) (l:List α),mC H xs l→m≤l.length→mC H (xs.drop (m*aF.sz α)) (l.drop m):=by
   intro m
   induction m with
   | zero=>intro xs l h _; simpa using h
   | succ m ih=>
    intro xs l h hm;cases l with
    | nil=>simp at hm
    | cons e l=>
     obtain ⟨c,r,rfl,he,hr⟩:=h;have hc:=aF.len he;rw [Mj,HI,Lo,J9,← Jt,← hc,List.drop_left,hc];exact ih r l hr (by simpa using hm)
  exact key m xs l h.rd hm
 ·obtain ⟨a,n,c,rfl⟩:=h.sl
  cases a with
  | none=>exact ⟨_,_,_,rfl⟩
  | some ad=>obtain ⟨b,off,sp⟩:=ad; exact ⟨_,_,_,rfl⟩
theorem DP {α:Type}[aF α] {T1 T2 T:TypeId}{y z:Operand}{v w:Value}{ad:Addr}{hs:List Value}{pre mx:List bR}{sg:List Nat}{ls:List (List α)}{i k n:Nat}
  (h:Mx T1 T2 H v hs mx sg ls) (hi:i<sg.length) (hx:hs[k]? = some w) (hn':n≤((ls[k]?).getD []).length) (hone:∀ j:Nat,sg[j]? = some k→j=i)
  (hg:gd ops L ⟨none,.store T y z,ty,pos,aft,g⟩=some true) (hn:∀ w,(sizeOf T).run x.P w=.ok 1 w)
  (hy:ev L y=some (.pointer (some ad))) (had:ad=(Value.base v).add (i*1)) (hz:ev L z=some (py (aF.sz α) n w))
  (kk:∀ mx',Mx T1 T2 H v (hs.set k (py (aF.sz α) n w)) mx' (sg.set i k) (ls.set k (((ls[k]?).getD []).drop n))→W x ops Q rest H (pre++(mx'++M)) L):
  W x ops Q (⟨none,.store T y z,ty,pos,aft,g⟩::rest) H (pre++(mx++M)) L:=by
 obtain ⟨oxs,ws,rfl,h2,h2',h3,h4,h5⟩:=h.ex;obtain ⟨u,hu,rfl⟩:=zz h2' hx;have hkw:k<ws.length:=(G6.1 hu).1;have hk:k<ls.length:=by omega
 have hl:=G9 hk;have hwe:ws[k]=u:=by rw [G9 hkw] at hu; exact G7 hu
 have hgd:(ls[k]?).getD []=ls[k]:=by rw [hl]; rfl
 rw [hgd] at hn' kk;have hr:=h3 k u _ hu hl;have hrs:=hr.sub hn';have hsp:∀ (ws:List (Value×List Value)) (ls:List (List α)) (h1:k<ws.length) (h2:k<ls.length),rowsOf T2 (aF.sz α) ws ls=rowsOf T2 (aF.sz α) (ws.take k) (ls.take k)++.row ws[k].1 T2 (aF.sz α) ls[k].length ws[k].2::rowsOf T2 (aF.sz α) (ws.drop (k+1)) (ls.drop (k+1)):=fun ws ls h1 h2=>by
  have e1:ws=ws.take k++ws[k]::ws.drop (k+1):=by rw [← Il h1,I2]
  have e2:ls=ls.take k++ls[k]::ls.drop (k+1):=by rw [← Il h2,I2]
  have e3:rowsOf T2 (aF.sz α) ws ls=rowsOf T2 (aF.sz α) (ws.take k++ws[k]::ws.drop (k+1)) (ls.take k++ls[k]::ls.drop (k+1)):=by rw [← e1,← e2]
  rw [e3];unfold rowsOf;rw [KX (by simp; omega)]
  rfl
 generalize hA:rowsOf T2 (aF.sz α) (ws.take k) (ls.take k)=A at hsp;generalize hB:rowsOf T2 (aF.sz α) (ws.drop (k+1)) (ls.drop (k+1))=Bq at hsp;have hrows:rowsOf T2 (aF.sz α) ws ls=A++.row u.1 T2 (aF.sz α) ls[k].length u.2::Bq:=by
  rw [← hA,← hB];have e1:ws=ws.take k++ws[k]::ws.drop (k+1):=by rw [← Il hkw,I2]
  have e2:ls=ls.take k++ls[k]::ls.drop (k+1):=by rw [← Il hk,I2]
  have e3:rowsOf T2 (aF.sz α) ws ls=rowsOf T2 (aF.sz α) (ws.take k++ws[k]::ws.drop (k+1)) (ls.take k++ls[k]::ls.drop (k+1)):=by rw [← e1,← e2]
  rw [e3];unfold rowsOf;rw [KX (by simp; omega),← hwe]
  rfl
 have hrows2:rowsOf T2 (aF.sz α) (ws.set k (py (aF.sz α) n u.1,u.2.drop (n*aF.sz α))) (ls.set k (ls[k].drop n))=A++.row (py (aF.sz α) n u.1) T2 (aF.sz α) (ls[k].drop n).length (u.2.drop (n*aF.sz α))::Bq:=by
  rw [← hA,← hB];have e1:ws.set k (py (aF.sz α) n u.1,u.2.drop (n*aF.sz α))=ws.take k++(py (aF.sz α) n u.1,u.2.drop (n*aF.sz α))::ws.drop (k+1):=by rw [KP,Hl hkw]
  have e2:ls.set k (ls[k].drop n)=ls.take k++ls[k].drop n::ls.drop (k+1):=by rw [KP,Hl hk]
  rw [e1,e2];unfold rowsOf;rw [KX (by simp; omega)]
  rfl
 have hnew:Mx T1 T2 H v (hs.set k (py (aF.sz α) n u.1)) (.row v T1 1 (sg.set i k).length (oxs.set i (py (aF.sz α) n u.1))::rowsOf T2 (aF.sz α) (ws.set k (py (aF.sz α) n u.1,u.2.drop (n*aF.sz α))) (ls.set k (ls[k].drop n))) (sg.set i k) (ls.set k (ls[k].drop n)):=by
  refine ⟨⟨_,_,rfl,by simp [h2],by rw [List.map_set,h2'],fun j u' l' hu' hl'=>?_,by simp [h4],fun i' k' hk'=>?_⟩,h.sl⟩
  ·by_cases e:k=j
   ·subst e
    rw [HS hkw] at hu';rw [HS hk] at hl';obtain rfl:=G7 hu';obtain rfl:=G7 hl';exact hrs
   ·rw [HM e] at hu' hl'
    exact h3 j u' l' hu' hl'
  ·by_cases e:i=i'
   ·subst e
    rw [HS hi] at hk';obtain rfl:=G7 hk';exact ⟨_,by rw [HS hkw],by rw [HS (by omega)]⟩
   ·rw [HM e] at hk'
    obtain ⟨u',hu',hx'⟩:=h5 i' k' hk';have hne:k≠k':=fun e2=>by subst e2; exact e (hone i' hk').symm
    exact ⟨u',by rw [HM hne]; exact hu',by rw [HM e]; exact hx'⟩
 refine a_ (oc pre [] (rowsOf T2 (aF.sz α) ws ls) M _) ?_;refine rN (i:=i*1) (cs:=[py (aF.sz α) n u.1]) hg hn hy had hz hrs.cells rfl (by simp; omega) rfl (fun c hc=>by simp at hc; subst hc; exact hrs.one) ?_
 have e:over oxs (i*1) [py (aF.sz α) n u.1]=oxs.set i (py (aF.sz α) n u.1):=by rw [Kk]; rfl
 rw [e];refine a_ (oc pre [] (rowsOf T2 (aF.sz α) ws ls) M _).symm ?_;rw [Jw,hrows];have p1:(pre++((.row v T1 1 sg.length (oxs.set i (py (aF.sz α) n u.1))::(A++.row u.1 T2 (aF.sz α) ls[k].length u.2::Bq))++M)).Perm (.row u.1 T2 (aF.sz α) ls[k].length u.2::(pre++(((.row v T1 1 sg.length (oxs.set i (py (aF.sz α) n u.1))::A)++Bq)++M))):=
  oc pre (.row v T1 1 sg.length (oxs.set i (py (aF.sz α) n u.1))::A) Bq M _
 refine a_ p1 ?_;intro a w0' hsl ht;have hok:=ht.ok _ (He ..);have hs2:St x.B x.w0 H (.row (py (aF.sz α) n u.1) T2 (aF.sz α) (ls[k].drop n).length (u.2.drop (n*aF.sz α))::(pre++(((.row v T1 1 sg.length (oxs.set i (py (aF.sz α) n u.1))::A)++Bq)++M))) w0':=by
  refine ht.same ?_ (BC u.1);have h1:fN w0' T2 (aF.sz α) u.1 ls[k].length u.2:=hok;have:=h1.sub hn';rw [← Jh] at this;exact this
 have p2:=(oc pre (.row v T1 1 sg.length (oxs.set i (py (aF.sz α) n u.1))::A) Bq M (.row (py (aF.sz α) n u.1) T2 (aF.sz α) (ls[k].drop n).length (u.2.drop (n*aF.sz α)))).symm;refine kk _ hnew a w0' hsl ?_;rw [hrows2,Hw];exact hs2.perm p2
theorem BW {α:Type}[aF α] {T2 t e:TypeId}{y lo:Operand}{w:Value}{xs:List Value}{l:List α}{n:Nat}{kk:IntKind}
  (hm:bR.row w T2 (aF.sz α) l.length xs ∈ M) (hn:n≤l.length)
  (hg:gd ops L ⟨some d,.slice t y (some lo) none none,ty,pos,aft,g⟩=some true) (hN:Nat.blt d x.N=true)
  (hT:∀ w,(underlying t).run x.P w=.ok (.slice e) w) (hs:∀ w,(sizeOf e).run x.P w=.ok (aF.sz α) w) (hy:ev L y=some w) (hlo:ev L lo=some (.int kk (n:Int)))
  (k:W x ops Q rest H M ((d,py (aF.sz α) n w)::L)):
  W x ops Q (⟨some d,.slice t y (some lo) none none,ty,pos,aft,g⟩::rest) H M L:=by
 intro a w0' hsl ht;have hok:fN w0' T2 (aF.sz α) w l.length xs:=ht.ok _ hm;rcases hok.2 with ⟨rfl,h0⟩ | ⟨gb,off,cap,cur,rfl,_,hnc,_⟩
 ·obtain rfl:n=0:=by omega
  exact oX (m:=0) (h:=0) (l:=0) hg hN hT hs hy (.inl rfl) (.inl ⟨rfl,rfl⟩) (.inl ⟨rfl,rfl⟩) (.inr ⟨lo,kk,_,rfl,hlo,Kj _,Kj _,rfl⟩) rfl k a w0' hsl ht
 ·refine oX (m:=cap) (h:=l.length) (l:=n) hg hN hT hs hy (.inl rfl) (.inl ⟨rfl,rfl⟩) (.inl ⟨rfl,rfl⟩) (.inr ⟨lo,kk,_,rfl,hlo,by omega,by omega,by omega⟩) ?_ k a w0' hsl ht
  show _=Value.slice (some ⟨gb,if cap=n then off else off+n*aF.sz α,none⟩) (l.length-n) (cap-n)
  by_cases hc:cap=n
  ·rw [Hl hc,Hl hc]
  ·rw [Hh hc,Hh hc]
   rw [I7,IC]
end
theorem xo (pre os mx M:List bR):(pre++(mx++(os++M))).Perm (pre++(os++(mx++M))):=
 L3 pre (List.perm_append_comm_assoc mx os M)
theorem vF (pre mx M:List bR):(pre++(mx++M)).Perm (mx++(pre++M)):=List.perm_append_comm_assoc pre mx M
def lone (sg:List Nat) (i k:Nat):Bool:=(List.range sg.length).all fun j=>sg[j]? != some k || j == i
theorem Bm {sg:List Nat}{i k:Nat} (h:lone sg i k=true) (j:Nat) (hj:sg[j]? = some k):j=i:=by
 unfold lone at h;rw [IG] at h;have hl:=(G6.1 hj).1;have:=h j (by simpa using hl)
 rw [hj] at this;simpa using this
theorem Eg {sg:List Nat}{i k:Nat} (h:∀ j,sg[j]? = some k→j=i):lone sg i k=true:=by
 unfold lone;rw [IG];intro j hj
 by_cases e:sg[j]? = some k
 ·simp [h j e]
 ·simp [e]
section
variable {x:Cx}{ops:Array Oper}{Q:kF}{rest:List Oper}{H:Hp}{M:List bR}{L:Env}{d:Nat}{ty:TypeId}{pos:String}{aft:Array Edge}{g:Option (Nat×Bool)}
variable {α:Type}[aF α] {T1 T2:TypeId}{v:Value}{hs:List Value}{mx:List bR}{sg:List Nat}{ls:List (List α)}
theorem sj {t e:TypeId}{y:Operand} (h:Mx T1 T2 H v hs mx sg ls) (hsub:∀ s ∈ mx,s ∈ M) (hg:gd ops L ⟨some d,.call ⟨.builtin .len,#[y],#[t]⟩,ty,pos,aft,g⟩=some true) (hN:Nat.blt d x.N=true)
  (hT:∀ w,(underlying t).run x.P w=.ok (.slice e) w) (hy:ev L y=some v) (k:W x ops Q rest H M ((d,.int .i64 (sg.length:Int))::L)):
  W x ops Q (⟨some d,.call ⟨.builtin .len,#[y],#[t]⟩,ty,pos,aft,g⟩::rest) H M L:=by
 obtain ⟨oxs,m2,he,_⟩:=h.outer;exact l8 (hsub _ (by rw [he]; exact He ..)) hg hN hT hy k
theorem dB {t e:TypeId}{y z:Operand}{kk:IntKind}{i:Int}{p:Nat} (h:Mx T1 T2 H v hs mx sg ls) (hsub:∀ s ∈ mx,s ∈ M)
  (hg:gd ops L ⟨some d,.indexAddr t y z,ty,pos,aft,g⟩=some true) (hN:Nat.blt d x.N=true)
  (hT:∀ w,(underlying t).run x.P w=.ok (.slice e) w) (hsz:∀ w,(sizeOf e).run x.P w=.ok 1 w)
  (hy:ev L y=some v) (hz:ev L z=some (.int kk i)) (h0:0≤i) (h1:sg[i.toNat]? = some p)
  (k:W x ops Q rest H M ((d,.pointer (some ((Value.base v).add (i.toNat*1))))::L)):
  W x ops Q (⟨some d,.indexAddr t y z,ty,pos,aft,g⟩::rest) H M L:=by
 obtain ⟨oxs,m2,he,_⟩:=h.outer;exact bF (hsub _ (by rw [he]; exact He ..)) hg hN hT hsz hy hz h0 (G6.1 h1).1 k
theorem fH {T:TypeId}{y:Operand}{ad:Addr}{i p:Nat} (h:Mx T1 T2 H v hs mx sg ls) (hsub:∀ s ∈ mx,s ∈ M) (h1:sg[i]? = some p)
  (hg:gd ops L ⟨some d,.load T y,ty,pos,aft,g⟩=some true) (hN:Nat.blt d x.N=true)
  (hT:∀ w,(isAgg T).run x.P w=.ok false w) (hy:ev L y=some (.pointer (some ad))) (had:ad=(Value.base v).add (i*1))
  (k:∀ w,hs[p]? = some w→W x ops Q rest H M ((d,w)::L)):W x ops Q (⟨some d,.load T y,ty,pos,aft,g⟩::rest) H M L:=by
 obtain ⟨oxs,m2,he,_,hget,_⟩:=h.outer;obtain ⟨w,hw,hx⟩:=hget i p h1;subst had;refine aJ hg hN hT hy (vV (hsub _ (by rw [he]; exact He ..)) ?_) (k w hw)
 rw [Kk]; exact hx
theorem z_ {t e:TypeId}{y:Operand}{w:Value}{p:Nat} (h:Mx T1 T2 H v hs mx sg ls) (hsub:∀ s ∈ mx,s ∈ M) (hw:hs[p]? = some w) (hg:gd ops L ⟨some d,.call ⟨.builtin .len,#[y],#[t]⟩,ty,pos,aft,g⟩=some true) (hN:Nat.blt d x.N=true)
  (hT:∀ w,(underlying t).run x.P w=.ok (.slice e) w) (hy:ev L y=some w) (k:W x ops Q rest H M ((d,.int .i64 (((ls[p]?).getD []).length:Int))::L)):
  W x ops Q (⟨some d,.call ⟨.builtin .len,#[y],#[t]⟩,ty,pos,aft,g⟩::rest) H M L:=by
 obtain ⟨xs,hm,_⟩:=h.get hw;exact l8 (hsub _ hm) hg hN hT hy k
theorem f_ {t e:TypeId}{y z:Operand}{kk:IntKind}{j:Int}{w:Value}{p n:Nat}{a:α} (h:Mx T1 T2 H v hs mx sg ls) (hsub:∀ s ∈ mx,s ∈ M) (hw:hs[p]? = some w)
  (hg:gd ops L ⟨some d,.indexAddr t y z,ty,pos,aft,g⟩=some true) (hN:Nat.blt d x.N=true)
  (hT:∀ w,(underlying t).run x.P w=.ok (.slice e) w) (hsz:∀ w,(sizeOf e).run x.P w=.ok n w) (hn:n=aF.sz α)
  (hy:ev L y=some w) (hz:ev L z=some (.int kk j)) (h0:0≤j) (h1:((ls[p]?).getD [])[j.toNat]? = some a)
  (k:W x ops Q rest H M ((d,.pointer (some ((Value.base w).add (j.toNat*aF.sz α))))::L)):
  W x ops Q (⟨some d,.indexAddr t y z,ty,pos,aft,g⟩::rest) H M L:=by
 subst hn;obtain ⟨xs,hm,_⟩:=h.get hw;exact bF (hsub _ hm) hg hN hT hsz hy hz h0 (G6.1 h1).1 k
theorem lO {T:TypeId}{y:Operand}{ad:Addr}{w:Value}{p j n:Nat}{a:α} (h:Mx T1 T2 H v hs mx sg ls) (hsub:∀ s ∈ mx,s ∈ M) (hw:hs[p]? = some w) (h1:((ls[p]?).getD [])[j]? = some a)
  (hg:gd ops L ⟨some d,.load T y,ty,pos,aft,g⟩=some true) (hN:Nat.blt d x.N=true)
  (hT:∀ w,(isAgg T).run x.P w=.ok true w) (hn:∀ w,(sizeOf T).run x.P w=.ok n w) (hn':n=aF.sz α) (hy:ev L y=some (.pointer (some ad))) (had:ad=(Value.base w).add (j*aF.sz α))
  (k:∀ cs,aF.E H cs a→W x ops Q rest H M ((d,.agg cs.toArray)::L)):W x ops Q (⟨some d,.load T y,ty,pos,aft,g⟩::rest) H M L:=by
 subst hn';subst had;obtain ⟨xs,hm,hr⟩:=h.get hw;obtain ⟨c,hE,hc⟩:=hr.elem h1;exact aR hg hN hT hn hy (q9 (hsub _ hm) hc) (aF.len hE) (k c hE)
theorem BV {t e:TypeId}{y lo:Operand}{w:Value}{p n:Nat}{j:Int}{kk:IntKind} (h:Mx T1 T2 H v hs mx sg ls) (hsub:∀ s ∈ mx,s ∈ M) (hw:hs[p]? = some w) (h0:0≤j) (h1:j≤(((ls[p]?).getD []).length:Int))
  (hg:gd ops L ⟨some d,.slice t y (some lo) none none,ty,pos,aft,g⟩=some true) (hN:Nat.blt d x.N=true)
  (hT:∀ w,(underlying t).run x.P w=.ok (.slice e) w) (hsz:∀ w,(sizeOf e).run x.P w=.ok n w) (hn:n=aF.sz α) (hy:ev L y=some w) (hlo:ev L lo=some (.int kk j))
  (k:W x ops Q rest H M ((d,py (aF.sz α) j.toNat w)::L)):
  W x ops Q (⟨some d,.slice t y (some lo) none none,ty,pos,aft,g⟩::rest) H M L:=by
 subst hn;obtain ⟨xs,hm,hr⟩:=h.get hw;exact BW (l:=(ls[p]?).getD []) (n:=j.toNat) (hsub _ hm) (by omega) hg hN hT hsz hy (by rw [hlo,KV h0]) k
theorem uk {pre:List bR} (h:Mx T1 T2 H v hs mx sg ls) (h0:Nat.blt 0 (aF.sz α)=true)
  (k:∀ H',H.le H'→aI H' v (mX sg ls)→W x ops Q rest H' (pre++M) L):W x ops Q rest H (pre++(mx++M)) L:=
 a_ (vF pre mx M) (yY h h0 k)
theorem ui {e:Exit}{pre:List bR} (h:Mx T1 T2 H v hs mx sg ls) (h0:Nat.blt 0 (aF.sz α)=true)
  (k:∀ H',H.le H'→aI H' v (mX sg ls)→E x e Q H' (pre++M) L):E x e Q H (pre++(mx++M)) L:=by
 refine pd (vF pre mx M) ?_;intro a w hsl ht;obtain ⟨H',h1,h2,h3⟩:=St.yj ht h (by simpa [IE] using h0)
 exact k H' h1 h3 a w hsl h2
theorem uY {t e:TypeId}{bytes:Nat}{y y2:Operand}{n:Int}{pre:List bR} (T2:TypeId) (α:Type) [aF α]
  (hg:gd ops L ⟨some d,.makeSlice t y y2,ty,pos,aft,g⟩=some true) (hN:Nat.blt d x.N=true)
  (hT:x.P.underlying t=some (.slice e)) (hi:FJ x.P e 1 bytes (.slice none 0 0)) (hb0:Nat.blt 0 bytes=true)
  (hy:ev L y=some (.int .i64 n)) (hy2:ev L y2=some (.int .i64 n)) (h0:0≤n) (hb:n*bytes≤140737488355328)
  (k:∀ v' mx',Mx e T2 H v' [.slice none 0 0] mx' (List.replicate n.toNat 0) ([[]]:List (List α))→W x ops Q rest H (pre++(mx'++M)) ((d,v')::L)):
  W x ops Q (⟨some d,.makeSlice t y y2,ty,pos,aft,g⟩::rest) H (pre++M) L:=by
 refine fC (α:=AX) (zs:=[.slice none 0 0]) (ze:=AX.mk) hg hN hT hi rfl rfl hb0 rfl hy hy2 h0 hb ?_;intro v' xs' hr;refine uZ T2 (aF.sz α) ?_;have hm:=Mx.make (α:=α) (T1:=e) (T2:=T2) hr;refine a_ (M':=pre++((.row v' e 1 (List.replicate n.toNat 0).length xs'::[.row (.slice none 0 0) T2 (aF.sz α) 0 []])++M)) ?_ (k v' _ hm);have e1:(List.replicate n.toNat AX.mk).length=(List.replicate n.toNat 0).length:=by simp
 rw [e1];refine (List.Perm.swap _ _ _).trans ?_;exact (vF pre [.row v' e 1 (List.replicate n.toNat 0).length xs',.row (.slice none 0 0) T2 (aF.sz α) 0 []] M).symm
end
def F8:List Int:=[1,10,100,1000,10000,100000,1000000,10000000,100000000,1000000000,10000000000,100000000000,1000000000000,10000000000000,100000000000000,1000000000000000,10000000000000000,100000000000000000,1000000000000000000,10000000000000000000]
def Gt:List Int:=[0,1,28,2,29,14,24,3,30,22,20,15,25,17,4,8,31,27,13,23,21,19,16,7,26,12,18,6,11,5,10,9]
def Gu:List Int:=[0,1,56,2,57,49,28,3,61,58,42,50,38,29,17,4,62,47,59,36,45,43,51,22,53,39,33,30,24,18,12,5,63,55,48,27,60,41,37,16,46,35,44,21,52,32,23,11,54,26,40,15,34,20,31,10,25,14,19,9,13,8,7,6]
structure cN where
 Name:ByteArray
 A:ByteArray
 B_:ByteArray
 si:Bool
 Open:Bool
 deriving DecidableEq
instance:aF cN where
 sz:=5
 E H cs x:=cs=[.string (x.Name),.string (x.A),.string (x.B_),.bool (x.si),.bool (x.Open)]
 len h:=by obtain rfl:=h; rfl
 mono hle h:=by obtain rfl:=h; exact rfl
 one h:=by obtain rfl:=h; exact (G5 rfl (G5 rfl (G5 rfl (G5 rfl (G5 rfl Hj)))))
instance:Flat cN:=⟨fun h=>h⟩
structure bH where
 Name:ByteArray
 iT:ByteArray
 To:ByteArray
 X:Int
 rz:Int
 Shift:Int
 jS:Int
 me:Int
 pU:Int
 deriving DecidableEq
instance:aF bH where
 sz:=9
 E H cs x:=cs=[.string (x.Name),.string (x.iT),.string (x.To),.int .i64 (x.X),.int .i64 (x.rz),.int .i64 (x.Shift),.int .i64 (x.jS),.int .i64 (x.me),.int .i64 (x.pU)]
 len h:=by obtain rfl:=h; rfl
 mono hle h:=by obtain rfl:=h; exact rfl
 one h:=by obtain rfl:=h; exact (G5 rfl (G5 rfl (G5 rfl (G5 rfl (G5 rfl (G5 rfl (G5 rfl (G5 rfl (G5 rfl Hj)))))))))
instance:Flat bH:=⟨fun h=>h⟩
structure cR where
 Name:ByteArray
 Node:ByteArray
 c_:Int
 gK:Int
 s8:Int
 deriving DecidableEq
instance:aF cR where
 sz:=5
 E H cs x:=cs=[.string (x.Name),.string (x.Node),.int .i64 (x.c_),.int .i64 (x.gK),.int .i64 (x.s8)]
 len h:=by obtain rfl:=h; rfl
 mono hle h:=by obtain rfl:=h; exact rfl
 one h:=by obtain rfl:=h; exact (G5 rfl (G5 rfl (G5 rfl (G5 rfl (G5 rfl Hj)))))
instance:Flat cR:=⟨fun h=>h⟩
structure aK where
 Name:ByteArray
 Node:ByteArray
 bL:Int
 deriving DecidableEq
instance:aF aK where
 sz:=3
 E H cs x:=cs=[.string (x.Name),.string (x.Node),.int .i64 (x.bL)]
 len h:=by obtain rfl:=h; rfl
 mono hle h:=by obtain rfl:=h; exact rfl
 one h:=by obtain rfl:=h; exact (G5 rfl (G5 rfl (G5 rfl Hj)))
instance:Flat aK:=⟨fun h=>h⟩
structure dS where
 Name:ByteArray
 Node:ByteArray
 lg:Int
 Discharge:Int
 m_:Int
 deriving DecidableEq
instance:aF dS where
 sz:=5
 E H cs x:=cs=[.string (x.Name),.string (x.Node),.int .i64 (x.lg),.int .i64 (x.Discharge),.int .i64 (x.m_)]
 len h:=by obtain rfl:=h; rfl
 mono hle h:=by obtain rfl:=h; exact rfl
 one h:=by obtain rfl:=h; exact (G5 rfl (G5 rfl (G5 rfl (G5 rfl (G5 rfl Hj)))))
instance:Flat dS:=⟨fun h=>h⟩
structure aC where
 bJ:(List ByteArray)
 bM:(List cN)
 aS:(List bH)
 dR:(List cR)
 bQ:(List aK)
 bY:(List dS)
 deriving DecidableEq
instance:aF aC where
 sz:=6
 E H cs x:=∃ v0 v1 v2 v3 v4 v5:Value,cs=[v0,v1,v2,v3,v4,v5]∧aI H v0 x.bJ∧aI H v1 x.bM∧aI H v2 x.aS∧aI H v3 x.dR∧aI H v4 x.bQ∧aI H v5 x.bY
 len h:=by obtain ⟨v0,v1,v2,v3,v4,v5,rfl,h0,h1,h2,h3,h4,h5⟩:=h; rfl
 mono hle h:=by obtain ⟨v0,v1,v2,v3,v4,v5,rfl,h0,h1,h2,h3,h4,h5⟩:=h; exact ⟨v0,v1,v2,v3,v4,v5,rfl,h0.mono hle,h1.mono hle,h2.mono hle,h3.mono hle,h4.mono hle,h5.mono hle⟩
 one h:=by obtain ⟨v0,v1,v2,v3,v4,v5,rfl,h0,h1,h2,h3,h4,h5⟩:=h; exact (G5 (aI.cA h0) (G5 (aI.cA h1) (G5 (aI.cA h2) (G5 (aI.cA h3) (G5 (aI.cA h4) (G5 (aI.cA h5) Hj))))))
structure fB where
 pR:(List ByteArray)
 pT:(List ByteArray)
 deriving DecidableEq
instance:aF fB where
 sz:=2
 E H cs x:=∃ v0 v1:Value,cs=[v0,v1]∧aI H v0 x.pR∧aI H v1 x.pT
 len h:=by obtain ⟨v0,v1,rfl,h0,h1⟩:=h; rfl
 mono hle h:=by obtain ⟨v0,v1,rfl,h0,h1⟩:=h; exact ⟨v0,v1,rfl,h0.mono hle,h1.mono hle⟩
 one h:=by obtain ⟨v0,v1,rfl,h0,h1⟩:=h; exact (G5 (aI.cA h0) (G5 (aI.cA h1) Hj))
structure aQ where
 seen:(List (ByteArray×Bool))
 nodes:(List ByteArray)
 deriving DecidableEq
structure aV where
 kb:(List Int)
 bA:(List Int)
 deriving DecidableEq
instance:aF aV where
 sz:=2
 E H cs x:=∃ v0 v1:Value,cs=[v0,v1]∧aI H v0 x.kb∧aI H v1 x.bA
 len h:=by obtain ⟨v0,v1,rfl,h0,h1⟩:=h; rfl
 mono hle h:=by obtain ⟨v0,v1,rfl,h0,h1⟩:=h; exact ⟨v0,v1,rfl,h0.mono hle,h1.mono hle⟩
 one h:=by obtain ⟨v0,v1,rfl,h0,h1⟩:=h; exact (G5 (aI.cA h0) (G5 (aI.cA h1) Hj))
structure bS where
 a0:Int
 a1:Int
 deriving DecidableEq
instance:aF bS where
 sz:=2
 E H cs x:=cs=[.int .i64 (x.a0),.int .i64 (x.a1)]
 len h:=by obtain rfl:=h; rfl
 mono hle h:=by obtain rfl:=h; exact rfl
 one h:=by obtain rfl:=h; exact (G5 rfl (G5 rfl Hj))
instance:Flat bS:=⟨fun h=>h⟩
structure aL where
 c_:Int
 gK:Int
 bL:Int
 deriving DecidableEq
instance:aF aL where
 sz:=3
 E H cs x:=cs=[.int .i64 (x.c_),.int .i64 (x.gK),.int .i64 (x.bL)]
 len h:=by obtain rfl:=h; rfl
 mono hle h:=by obtain rfl:=h; exact rfl
 one h:=by obtain rfl:=h; exact (G5 rfl (G5 rfl (G5 rfl Hj)))
instance:Flat aL:=⟨fun h=>h⟩
structure aB where
 minus:Bool
 words:(List bG)
 deriving DecidableEq
instance:aF aB where
 sz:=2
 E H cs x:=∃ v1:Value,cs=[.bool (x.minus),v1]∧aI H v1 x.words
 len h:=by obtain ⟨v1,rfl,h0⟩:=h; rfl
 mono hle h:=by obtain ⟨v1,rfl,h0⟩:=h; exact ⟨v1,rfl,h0.mono hle⟩
 one h:=by obtain ⟨v1,rfl,h0⟩:=h; exact (G5 rfl (G5 (aI.cA h0) Hj))
structure aA where
 N:aB
 D:aB
 deriving DecidableEq
instance:aF aA where
 sz:=4
 E H cs x:=∃ v1 v3:Value,cs=[.bool (x.N.minus),v1,.bool (x.D.minus),v3]∧aI H v1 x.N.words∧aI H v3 x.D.words
 len h:=by obtain ⟨v1,v3,rfl,h0,h1⟩:=h; rfl
 mono hle h:=by obtain ⟨v1,v3,rfl,h0,h1⟩:=h; exact ⟨v1,v3,rfl,h0.mono hle,h1.mono hle⟩
 one h:=by obtain ⟨v1,v3,rfl,h0,h1⟩:=h; exact (G5 rfl (G5 (aI.cA h0) (G5 rfl (G5 (aI.cA h1) Hj))))
structure aW where
 qH:aV
 iT:(List Int)
 To:(List Int)
 B_:(List aA)
 C:(List aA)
 lN:(List Int)
 mG:(List (List aA))
 deriving DecidableEq
instance:aF aW where
 sz:=8
 E H cs x:=∃ v0 v1 v2 v3 v4 v5 v6 v7:Value,cs=[v0,v1,v2,v3,v4,v5,v6,v7]∧aI H v0 x.qH.kb∧aI H v1 x.qH.bA∧aI H v2 x.iT∧aI H v3 x.To∧aI H v4 x.B_∧aI H v5 x.C∧aI H v6 x.lN∧aI H v7 x.mG
 len h:=by obtain ⟨v0,v1,v2,v3,v4,v5,v6,v7,rfl,h0,h1,h2,h3,h4,h5,h6,h7⟩:=h; rfl
 mono hle h:=by obtain ⟨v0,v1,v2,v3,v4,v5,v6,v7,rfl,h0,h1,h2,h3,h4,h5,h6,h7⟩:=h; exact ⟨v0,v1,v2,v3,v4,v5,v6,v7,rfl,h0.mono hle,h1.mono hle,h2.mono hle,h3.mono hle,h4.mono hle,h5.mono hle,h6.mono hle,h7.mono hle⟩
 one h:=by obtain ⟨v0,v1,v2,v3,v4,v5,v6,v7,rfl,h0,h1,h2,h3,h4,h5,h6,h7⟩:=h; exact (G5 (aI.cA h0) (G5 (aI.cA h1) (G5 (aI.cA h2) (G5 (aI.cA h3) (G5 (aI.cA h4) (G5 (aI.cA h5) (G5 (aI.cA h6) (G5 (aI.cA h7) Hj))))))))
def lu (j:aC):Option (aC):=dN (0≤(min (j.bQ.length:Int) 4)∧(min (j.bQ.length:Int) 4)≤(j.bQ.length:Int)) (dN (0≤(min (j.dR.length:Int) 4)∧(min (j.dR.length:Int) 4)≤(j.dR.length:Int)) (some (aC.mk j.bJ j.bM j.aS (nr j.dR 0 ((min (j.dR.length:Int) 4:Int).toNat)) (nr j.bQ 0 ((min (j.bQ.length:Int) 4:Int).toNat)) j.bY)))
def nI (I:Nat) (j:U8) (o:Unit→Option (Bool)):Option (Bool):=if !(((decide (65≤j.n)) && (decide (j.n≤90))) || (((decide (0<(I:Int))) && (decide (48≤j.n))) && (decide (j.n≤57)))) then (some false) else (o ())
def cK (j:ByteArray):Option (Bool):=dN (j.size≤maxLen) (dW (fun k y o n=>nI k y n) (fun _=>some ((decide (1≤(j.size:Int))) && (decide ((j.size:Int)≤8)))) 0 (gL j) ())
def iW (I:(List ByteArray)) (J:ByteArray) (j:Nat) (o:Unit→Option (Int)):Option (Int):=idx I (j:Int) fun R=>if decide (J=R) then (some (j:Int)) else (o ())
def bB (j:(List ByteArray)) (o:ByteArray):Option (Int):=jT (fun k I n=>iW j o k n) (fun _=>some (-1)) ((j.length:Int):Int).toNat 0 ()
def cJ (j:(List ByteArray)) (o:ByteArray):Option (Bool):=(bB j o).bind fun I=>some (decide (0≤I))
def eY (j:aQ) (name:ByteArray) (nodes:(List ByteArray)) (R:Nat) (I:ByteArray) (o:Unit→Option (Int×aQ)):Option (Int×aQ):=(cJ j.nodes I).bind fun J=>if !J then (some (6,(aQ.mk (qo j.seen name true) j.nodes))) else (o ())
def bW (j:aQ) (name:ByteArray) (nodes:(List ByteArray)):Option (Int×aQ):=(cK name).bind fun o=>if !o then (some (5,j)) else (if (mW j.seen name).getD false then (some (7,j)) else (dW (fun k y R n=>eY j name nodes k y n) (fun _=>if decide ((nodes.length:Int)=2) then (idx nodes 0 fun I=>idx nodes 1 fun J=>if decide (I=J) then (some (3,(aQ.mk (qo j.seen name true) j.nodes))) else (some (0,(aQ.mk (qo j.seen name true) j.nodes)))) else (some (0,(aQ.mk (qo j.seen name true) j.nodes)))) 0 nodes ()))
def bI (I:Int) (o:Int) (j:Int):Bool:=((decide (I<o)) || (decide (j<I)))
def gH (j:bH):Int:=if (((((bI j.X 1 10000) || (bI j.rz 500 1500)) || (bI j.Shift (-1000) 1000)) || (bI j.jS 0 100000)) || (bI j.me j.jS 100000)) || (bI j.pU 0 200000) then 4 else 0
def aX (j:Int):Bool:=(!(bI j 0 100000))
def fX (I:aQ) (U:Nat) (j:dS) (R:(List (ByteArray×Bool))) (J:(List (ByteArray×Bool))→Option (Int×aQ)):Option (Int×aQ):=(bW (aQ.mk R I.nodes) j.Name ([j.Node])).bind fun o=>if !decide (o.1=0) then (some (o.1,(aQ.mk o.2.seen I.nodes))) else (if ((!(aX j.lg)) || (!(aX j.Discharge))) || (!(aX j.m_)) then (some (4,(aQ.mk o.2.seen I.nodes))) else (J o.2.seen))
def fW (o:aQ) (U:Nat) (I:aK) (R:(List (ByteArray×Bool))) (J:(List (ByteArray×Bool))→Option (Int×aQ)):Option (Int×aQ):=(bW (aQ.mk R o.nodes) I.Name ([I.Node])).bind fun j=>if !decide (j.1=0) then (some (j.1,(aQ.mk j.2.seen o.nodes))) else (if !(aX I.bL) then (some (4,(aQ.mk j.2.seen o.nodes))) else (J j.2.seen))
def fV (I:aQ) (U:Nat) (j:cR) (R:(List (ByteArray×Bool))) (J:(List (ByteArray×Bool))→Option (Int×aQ)):Option (Int×aQ):=(bW (aQ.mk R I.nodes) j.Name ([j.Node])).bind fun o=>if !decide (o.1=0) then (some (o.1,(aQ.mk o.2.seen I.nodes))) else (if ((!(aX j.c_)) || (bI j.gK j.c_ 100000)) || (!(aX j.s8)) then (some (4,(aQ.mk o.2.seen I.nodes))) else (J o.2.seen))
def eM (j:aQ) (o:aC):Option (Int×aQ):=dW (fun k y I n=>fV j k y I n) (fun I=>dW (fun k y J n=>fW j k y J n) (fun J=>dW (fun k y R n=>fX j k y R n) (fun R=>some (0,(aQ.mk R j.nodes))) 0 o.bY J) 0 o.bQ I) 0 o.dR j.seen
def jZ (J:aC) (U:Nat) (j:bH) (R:(List (ByteArray×Bool))) (I:(List (ByteArray×Bool))→Option (Int)):Option (Int):=(bW (aQ.mk R J.bJ) j.Name ([j.iT,j.To])).bind fun o=>if !decide (o.1=0) then (some o.1) else (if !decide ((gH j)=0) then (some (gH j)) else (I o.2.seen))
def jY (J:aC) (U:Nat) (j:cN) (R:(List (ByteArray×Bool))) (I:(List (ByteArray×Bool))→Option (Int)):Option (Int):=(bW (aQ.mk R J.bJ) j.Name ([j.A,j.B_])).bind fun o=>if !decide (o.1=0) then (some o.1) else (I o.2.seen)
def jX (I:aC) (U:Nat) (J:ByteArray) (R:(List (ByteArray×Bool))) (o:(List (ByteArray×Bool))→Option (Int)):Option (Int):=(bW (aQ.mk R I.bJ) J []).bind fun j=>if !decide (j.1=0) then (some j.1) else (o j.2.seen)
def cI (j:aC):Option (Int):=if (((((decide (24<(j.bJ.length:Int))) || (decide (32<(j.bM.length:Int)))) || (decide (24<(j.aS.length:Int)))) || (decide (10<(j.dR.length:Int)))) || (decide (12<(j.bQ.length:Int)))) || (decide (4<(j.bY.length:Int))) then (some 2) else (dW (fun k y o n=>jX j k y o n) (fun o=>dW (fun k y I n=>jY j k y I n) (fun I=>dW (fun k y J n=>jZ j k y J n) (fun J=>(eM (aQ.mk J j.bJ) j).bind fun R=>some R.1) 0 j.aS I) 0 j.bM o) 0 j.bJ ([]:(List (ByteArray×Bool))))
def k9 (o:aK) (j:ByteArray):Bool:=(decide (o.Name=j))
def dD (J:(List aK)) (j:ByteArray) (o:Nat) (I:Unit→Option (Int)):Option (Int):=idx J (o:Int) fun R=>if (k9 R j) then (some (o:Int)) else (I ())
def cU (o:(List aK)) (j:ByteArray):Option (Int):=jT (fun k I n=>dD o j k n) (fun _=>some (-1)) ((o.length:Int):Int).toNat 0 ()
def cO (o:(List aK)) (j:ByteArray):Option (Bool):=(cU o j).bind fun I=>some (decide (0≤I))
def nJ (J:aC) (on:(List ByteArray)) (j:Nat) (o:ByteArray) (I:Unit→Option (Int)):Option (Int):=(cO J.bQ o).bind fun R=>if !R then (some 6) else (dN (0≤(j:Int)∧(j:Int)≤(on.length:Int)) ((cJ (nr on 0 (((j:Int):Int).toNat)) o).bind fun U=>if U then (some 7) else (I ())))
def iR (j:aC) (on:(List ByteArray)):Option (Int):=(cI j).bind fun o=>if !decide (o=0) then (some o) else (dW (fun k y I n=>nJ j on k y n) (fun _=>some 0) 0 on ())
def nq (j:aC):Option (aC):=dN (j.bJ.length*16≤140737488355328) (dN (j.bM.length*56≤140737488355328) (dN (j.aS.length*96≤140737488355328) (dN (j.dR.length*56≤140737488355328) (dN (j.bQ.length*40≤140737488355328) (dN (j.bY.length*56≤140737488355328) (some j))))))
def ku (o:aK) (j:(List ByteArray)):Option (Bool):=(cJ j o.Name).bind fun I=>some (!I)
def dE (J:(List aK)) (j:(List ByteArray)) (o:Nat) (I:Unit→Option (Int)):Option (Int):=idx J (o:Int) fun R=>(ku R j).bind fun U=>if U then (some (o:Int)) else (I ())
def cW (o:(List aK)) (j:(List ByteArray)):Option (Int):=jT (fun k I n=>dE o j k n) (fun _=>some (-1)) ((o.length:Int):Int).toNat 0 ()
def b_ (n199:Int) (j:(List aK×Int×Int)→Option ((List aK))) (o:List aK) (n232:Int):Option ((List aK)):=j (o,n232,i64.wrap (n199+1))
def dC (del_0:(List ByteArray)) (j:List aK) (n198:Int) (n199:Int) (o:(List aK×Int×Int)→Option ((List aK))):Option ((List aK)):=if decide (n199<(j.length:Int)) then (idx j n199 fun I=>(ku I del_0).bind fun J=>if !J then (idx j n198 fun R=>b_ n199 o (j.set ((n198:Int).toNat) I) (i64.wrap (n198+1))) else (b_ n199 o j n198)) else (dN (0≤n198∧n198≤(j.length:Int)) (dN (0≤n198∧n198≤((j.take (n198).toNat++List.replicate (j.length-(n198).toNat) ((aK.mk (⟨#[]⟩) (⟨#[]⟩) 0):aK)).length:Int)) (some (nr (j.take (n198).toNat++List.replicate (j.length-(n198).toNat) ((aK.mk (⟨#[]⟩) (⟨#[]⟩) 0):aK)) 0 ((n198:Int).toNat)))))
def cD (j:(List aK)) (del_0:(List ByteArray)):Option ((List aK)):=(cW j del_0).bind fun o=>if decide (o=(-1)) then (some j) else (fD (fun I n=>dC del_0 I.1 I.2.1 I.2.2 n) eB (j,o,i64.wrap (o+1)))
def kB (o:aC) (on:(List ByteArray)):Option (aC):=(nq o).bind fun j=>(cD j.bQ on).bind fun I=>some (aC.mk j.bJ j.bM j.aS j.dR I j.bY)
def qg (j:aC) (on:(List ByteArray)):Option (aC×Int):=(iR j on).bind fun o=>if !decide (o=0) then (some ((aC.mk [] [] [] [] [] []),o)) else ((kB j on).bind fun I=>some (I,0))
def kC (j:(List bS×List Int)→Option ((List bS)×(List Int))) (o:List bS) (I:List Int):Option ((List bS)×(List Int)):=j (o,I)
def nK (U:aC) (j:Bool) (GN:Nat) (o:cN) (I:List bS) (J:List Int) (R:(List bS×List Int)→Option ((List bS)×(List Int))):Option ((List bS)×(List Int)):=if decide (o.Open=j) then ((bB U.bJ o.A).bind fun GO=>(bB U.bJ o.B_).bind fun GP=>dN ((I.length+([(bS.mk GO GP)]).length)*16≤140737488355328) (dN ((J.length+([((GN:Int))]:List Int).length)*8≤140737488355328) (kC R (I++([(bS.mk GO GP)])) (J++([((GN:Int))]:List Int))))) else (kC R I J)
def lX (I:aC) (o:Bool):Option ((List bS)×(List Int)):=dW (fun k y j n=>nK I o k y j.1 j.2 n) (fun j=>some (j.1,j.2)) 0 I.bM (([]:List bS),([]:List Int))
def oH (o:Int) (J:Nat) (j:bS) (I:Unit→Option (Int)):Option (Int):=if decide (j.a0<0) then (some 4) else (if decide (o≤j.a0) then (some 4) else (if decide (j.a1<0) then (some 4) else (if decide (o≤j.a1) then (some 4) else (I ()))))
def nc (j:Int) (o:(List bS)):Option (Int):=if ((decide (j<0)) || (decide (24<j))) || (decide (64<(o.length:Int))) then (some 2) else (dW (fun k y I n=>oH j k y n) (fun _=>some 0) 0 o ())
def jL (j:Int) (o:Int):Int×Int:=((u64.wrap ((u64.wrap ((u64.wrap ((jA .u64 j 32)*(jA .u64 o 32)))+(jA .u64 (u64.wrap ((u64.wrap ((jA .u64 j 32)*(u64.wrap ((BitVec.ofInt (u64).bits o &&& BitVec.ofInt (u64).bits 4294967295).toNat))))+(jA .u64 (u64.wrap ((u64.wrap ((BitVec.ofInt (u64).bits j &&& BitVec.ofInt (u64).bits 4294967295).toNat))*(u64.wrap ((BitVec.ofInt (u64).bits o &&& BitVec.ofInt (u64).bits 4294967295).toNat)))) 32))) 32)))+(jA .u64 (u64.wrap ((u64.wrap ((BitVec.ofInt (u64).bits (u64.wrap ((u64.wrap ((jA .u64 j 32)*(u64.wrap ((BitVec.ofInt (u64).bits o &&& BitVec.ofInt (u64).bits 4294967295).toNat))))+(jA .u64 (u64.wrap ((u64.wrap ((BitVec.ofInt (u64).bits j &&& BitVec.ofInt (u64).bits 4294967295).toNat))*(u64.wrap ((BitVec.ofInt (u64).bits o &&& BitVec.ofInt (u64).bits 4294967295).toNat)))) 32))) &&& BitVec.ofInt (u64).bits 4294967295).toNat))+(u64.wrap ((u64.wrap ((BitVec.ofInt (u64).bits j &&& BitVec.ofInt (u64).bits 4294967295).toNat))*(jA .u64 o 32))))) 32))),(u64.wrap (j*o)))
def np (j:Int) (o:Int):Int×Int:=((((jL j o)).1),(((jL j o)).2))
def gF (j:(List Int×Int)→Option ((List Int))) (o:List Int) (I:Int):Option ((List Int)):=j (o,I)
def dA (j:(List Int×List Int)→Option ((List Int))) (o:List Int) (I:List Int):Option ((List Int)):=j (o,I)
def mh (without:Int) (U:Int) (o:Int) (GN:Nat) (j:bS) (I:List Int) (J:List Int) (R:(List Int×List Int)→Option ((List Int))):Option ((List Int)):=if decide ((GN:Int)=without) then (dA R I J) else (if decide (j.a0=o) then (idx I (i64.wrap ((i64.wrap (j.a0+j.a1))-o)) fun GO=>if decide (GO<0) then (idx I (i64.wrap ((i64.wrap (j.a0+j.a1))-o)) fun GQ=>dN ((J.length+([(i64.wrap ((i64.wrap (j.a0+j.a1))-o))]:List Int).length)*8≤140737488355328) (dA R (I.set ((i64.wrap ((i64.wrap (j.a0+j.a1))-o):Int).toNat) U) (J++([(i64.wrap ((i64.wrap (j.a0+j.a1))-o))]:List Int)))) else (dA R I J)) else (if !decide (j.a1=o) then (dA R I J) else (idx I (i64.wrap ((i64.wrap (j.a0+j.a1))-o)) fun GP=>if decide (GP<0) then (idx I (i64.wrap ((i64.wrap (j.a0+j.a1))-o)) fun GR=>dN ((J.length+([(i64.wrap ((i64.wrap (j.a0+j.a1))-o))]:List Int).length)*8≤140737488355328) (dA R (I.set ((i64.wrap ((i64.wrap (j.a0+j.a1))-o):Int).toNat) U) (J++([(i64.wrap ((i64.wrap (j.a0+j.a1))-o))]:List Int)))) else (dA R I J))))
def mg (GO:(List bS)) (without:Int) (I:Int) (R:(List Int×Int)→Option ((List Int))) (J:List Int) (j:List Int) (U:(List Int×List Int)→Option ((List Int))):Option ((List Int)):=if decide (0<(j.length:Int)) then (idx j 0 fun GN=>dN (0≤1∧1≤(j.length:Int)) (dW (fun k y o n=>mh without I GN k y o.1 o.2 n) (fun o=>U (o.1,o.2)) 0 GO (J,(nr j (1:Int).toNat j.length)))) else (gF R J (i64.wrap (I+1)))
def mf (GN:(List bS)) (without:Int) (I:Nat) (j:List Int) (o:Int) (J:(List Int×Int)→Option ((List Int))):Option ((List Int)):=idx j (I:Int) fun U=>if decide (0≤U) then (gF J j o) else (idx j (I:Int) fun GO=>fD (fun R n=>mg GN without o J R.1 R.2 n) eB ((j.set (((I:Int):Int).toNat) o),([((I:Int))]:List Int)))
def lj (o:Int) (I:(List bS)) (without:Int):Option ((List Int)):=dN (([((-1))]:List Int).length=1∧0≤o∧o*8≤140737488355328) (dN (o≤9223372036854775807) (jT (fun k j n=>mf I without k j.1 j.2 n) (fun j=>some j.1) (o:Int).toNat 0 ((yG ([((-1))]:List Int) o),0)))
def fS (j:Int) (o:(List bS)):Option ((List Int)×Int):=(nc j o).bind fun I=>if !decide (I=0) then (some (([]:List Int),I)) else ((lj j o (-1)).bind fun J=>some (J,0))
def kN (j:aC):Option ((List Int)):=(lX j false).bind fun o=>(fS (j.bJ.length:Int) o.1).bind fun I=>some I.1
def oa (j:aC) (o:((List Int))) (GQ:Nat) (I:bH) (J:List bS) (GN:List bS→Option (aV)):Option (aV):=(bB j.bJ I.iT).bind fun GO=>idx o GO fun R=>(bB j.bJ I.To).bind fun GP=>idx o GP fun U=>dN ((J.length+([(bS.mk R U)]).length)*16≤140737488355328) (GN (J++([(bS.mk R U)])))
def n_ (I:Nat) (o:Int) (n114:Int) (j:Int→Option (aV)):Option (aV):=j (max n114 (i64.wrap (o+1)))
def cV (j:aC):Option (aV):=(kN j).bind fun o=>dW (fun k y I n=>n_ k y I n) (fun I=>dW (fun k y J n=>oa j o k y J n) (fun J=>(fS I J).bind fun R=>some (aV.mk o R.1)) 0 j.aS ([]:List bS)) 0 o 0
def mP (I:Nat) (o:Int) (n115:Int) (j:Int→Option (Int)):Option (Int):=j (max n115 (i64.wrap (o+1)))
def ju (o:aC):Option (Int):=(cV o).bind fun I=>dW (fun k y j n=>mP k y j n) (fun j=>some j) 0 I.bA 0
def jP (o:aC) (j:aV) (node:ByteArray):Option (Int):=(bB o.bJ node).bind fun I=>idx j.kb I fun J=>idx j.bA J fun R=>some R
def nX (U:aC) (GN:(aV)) (GP:Nat) (I:aK) (j:List aL) (R:List aL→Option ((List aL))):Option ((List aL)):=(jP U GN I.Node).bind fun o=>idx j o fun GO=>idx j o fun J=>R (j.set ((o:Int).toNat) (aL.mk J.c_ J.gK (i64.wrap (GO.bL+I.bL))))
def nW (U:aC) (GN:(aV)) (GO:Nat) (o:cR) (J:List aL) (R:List aL→Option ((List aL))):Option ((List aL)):=(jP U GN o.Node).bind fun I=>idx J I fun j=>R ((J.set ((I:Int).toNat) (aL.mk (i64.wrap (j.c_+o.c_)) j.gK j.bL)).set ((I:Int).toNat) (aL.mk (i64.wrap (j.c_+o.c_)) (i64.wrap (j.gK+o.gK)) j.bL))
def mw (j:aC):Option ((List aL)):=(cV j).bind fun R=>(ju j).bind fun o=>dN (0≤o∧o*24≤140737488355328) (dW (fun k y I n=>nW j R k y I n) (fun I=>dW (fun k y J n=>nX j R k y J n) (fun J=>some J) 0 j.bQ I) 0 j.dR (List.replicate (o:Int).toNat ((aL.mk 0 0 0):aL)))
def kS (j:Int):Bool:=(decide (0<j))
def eC (I:(List Int)) (j:Nat) (o:Unit→Option (Int)):Option (Int):=idx I (j:Int) fun J=>if (kS J) then (some (j:Int)) else (o ())
def dL (j:(List Int)):Option (Int):=jT (fun k o n=>eC j k n) (fun _=>some (-1)) ((j.length:Int):Int).toNat 0 ()
def cP (j:(List Int)):Option (Bool):=(dL j).bind fun o=>some (decide (0≤o))
def jv (I:List Int) (j:List Int) (o:(List Int×List Int)→Option ((List Int)×Int)) (J:(Int)) (R:Int) (n316:Int):Option ((List Int)×Int):=dN ((j.length+([n316]:List Int).length)*8≤140737488355328) (o ((I.set ((J:Int).toNat) (i64.wrap (R-n316))),(j++([n316]:List Int))))
def nD (GN:aC) (GO:(aV)) (GP:Nat) (o:cR) (I:List Int) (U:List Int) (J:(List Int×List Int)→Option ((List Int)×Int)):Option ((List Int)×Int):=(jP GN GO o.Node).bind fun R=>idx I R fun j=>if decide (o.c_≤j) then (jv I U J R j (min o.gK j)) else (jv I U J R j 0)
def nC (J:Nat) (j:aL) (o:List Int) (I:List Int→Option ((List Int)×Int)):Option ((List Int)×Int):=dN ((o.length+([j.bL]:List Int).length)*8≤140737488355328) (I (o++([j.bL]:List Int)))
def jO (j:aC):Option ((List Int)×Int):=(cI j).bind fun J=>if !decide (J=0) then (some (([]:List Int),J)) else ((cV j).bind fun R=>(mw j).bind fun U=>dW (fun k y I n=>nC k y I n) (fun I=>dW (fun k y o n=>nD j R k y o.1 o.2 n) (fun o=>(cP o.1).bind fun GN=>if GN then (some (([]:List Int),14)) else (some (o.2,0))) 0 j.dR (I,([]:List Int))) 0 U ([]:List Int))
def oG (I:Nat) (j:Int) (o:Unit→Option ((List Int)×Int)):Option ((List Int)×Int):=if (decide (j<(-100000))) || (decide (100000<j)) then (some (([]:List Int),4)) else (o ())
def oF (R:aC) (GN:Nat) (I:aK) (j:List Int) (J:List Int→Option ((List Int)×Int)):Option ((List Int)×Int):=(bB R.bJ I.Node).bind fun o=>idx j o fun U=>idx j o fun GO=>J (j.set ((o:Int).toNat) (i64.wrap (U-I.bL)))
def oE (U:aC) (stores:(List Int)) (j:Nat) (o:dS) (I:List Int) (R:List Int→Option ((List Int)×Int)):Option ((List Int)×Int):=idx stores (j:Int) fun GN=>if decide (GN<(i64.wrap (0-o.lg))) then (some (([]:List Int),17)) else (idx stores (j:Int) fun GO=>if decide (o.Discharge<GO) then (some (([]:List Int),17)) else ((bB U.bJ o.Node).bind fun J=>idx I J fun GP=>idx stores (j:Int) fun GQ=>idx I J fun GR=>R (I.set ((J:Int).toNat) (i64.wrap (GP+GQ)))))
def oD (GN:aC) (gens:(List Int)) (o:Nat) (I:cR) (j:List Int) (J:List Int→Option ((List Int)×Int)):Option ((List Int)×Int):=idx gens (o:Int) fun GO=>if decide (GO=0) then ((bB GN.bJ I.Node).bind fun R=>idx j R fun GP=>idx gens (o:Int) fun GQ=>idx j R fun GW=>J (j.set ((R:Int).toNat) (i64.wrap (GP+GQ)))) else (idx gens (o:Int) fun GR=>if decide (GR<I.c_) then (some (([]:List Int),17)) else (idx gens (o:Int) fun GS=>if decide (I.gK<GS) then (some (([]:List Int),17)) else ((bB GN.bJ I.Node).bind fun U=>idx j U fun GU=>idx gens (o:Int) fun GV=>idx j U fun GX=>J (j.set ((U:Int).toNat) (i64.wrap (GU+GV))))))
def nb (j:aC) (gens:(List Int)) (stores:(List Int)):Option ((List Int)×Int):=(cI j).bind fun R=>if !decide (R=0) then (some (([]:List Int),R)) else (if (!decide ((gens.length:Int)=(j.dR.length:Int))) || (!decide ((stores.length:Int)=(j.bY.length:Int))) then (some (([]:List Int),3)) else (dN (0≤(j.bJ.length:Int)∧(j.bJ.length:Int)*8≤140737488355328) (dW (fun k y I n=>oD j gens k y I n) (fun I=>dW (fun k y J n=>oE j stores k y J n) (fun J=>dW (fun k y o n=>oF j k y o n) (fun o=>dW (fun k y U n=>oG k y n) (fun _=>some (o,0)) 0 o ()) 0 j.bQ J) 0 j.bY I) 0 j.dR (List.replicate ((j.bJ.length:Int):Int).toNat (0:Int)))))
def gS (j:aC):Option ((List Int)×Int):=(jO j).bind fun o=>if !decide (o.2=0) then (some (([]:List Int),o.2)) else (dN (0≤(j.bY.length:Int)∧(j.bY.length:Int)*8≤140737488355328) ((nb j o.1 (List.replicate ((j.bY.length:Int):Int).toNat (0:Int))).bind fun I=>some (I.1,I.2)))
def pg (o:(aV)) (U:Nat) (j:Int) (I:(List (Int×Int))) (R:(List (Int×Int))→Option (Int)):Option (Int):=if (decide (j<(-100000))) || (decide (100000<j)) then (some 4) else (idx o.kb (U:Int) fun GN=>idx o.bA GN fun J=>R (qo I J (i64.wrap (((mW I J).getD (0:Int))+j))))
def kd (j:aC) (inject:(List Int)):Option (Int):=(cI j).bind fun I=>if !decide (I=0) then (some I) else (if !decide ((inject.length:Int)=(j.bJ.length:Int)) then (some 3) else ((cV j).bind fun J=>dW (fun k y o n=>pg J k y o n) (fun o=>if (o.any (fun R=>!decide (R.2=0))) then (some 14) else (some 0)) 0 inject ([]:(List (Int×Int)))))
def kL (minus:Bool) (j:(List bG)):Option (aB):=if minus then (some (aB.mk (decide (0<(j.length:Int))) j)) else (some (aB.mk false j))
def po (minus:Bool) (j:(List bG)) (o:(List bG)→Option (aB)):Option (aB):=if decide (0<(j.length:Int)) then (idx j (i64.wrap ((j.length:Int)-1)) fun I=>if decide (I.n=0) then (dN (0≤(i64.wrap ((j.length:Int)-1))∧(i64.wrap ((j.length:Int)-1))≤(j.length:Int)) (o (nr j 0 ((i64.wrap ((j.length:Int)-1):Int).toNat)))) else (kL minus j)) else (kL minus j)
def fJ (minus:Bool) (j:(List bG)):Option (aB):=fD (fun o n=>po minus o n) eB j
def lZ (j:Int) (n103:Int):Option (aB):=(fJ (decide (j<0)) ([⟨u32.wrap (n103)⟩,⟨u32.wrap (jA .u64 n103 32)⟩]:List bG)).bind fun o=>some o
def jQ (j:Int):Option (aB):=if decide (j<0) then (lZ j (u64.wrap (0-(u64.wrap (j))))) else (lZ j (u64.wrap (j)))
def iP (j:aB):Option (aB):=(fJ (!j.minus) j.words).bind fun o=>some o
def dU (j:aB):Int:=if decide ((j.words.length:Int)=0) then 0 else (if j.minus then (-1) else 1)
def mS (j:(List bG)) (o:(List bG)) (n154:Int) (I:Int→Option (Int)):Option (Int):=if decide (0≤n154) then (idx j n154 fun J=>idx o n154 fun R=>if !decide (J.n=R.n) then (idx j n154 fun U=>idx o n154 fun GN=>if decide (U.n<GN.n) then (some (-1)) else (some 1)) else (I (i64.wrap (n154-1)))) else (some 0)
def ko (j:(List bG)) (o:(List bG)):Option (Int):=if !decide ((j.length:Int)=(o.length:Int)) then (some (i64.wrap ((j.length:Int)-(o.length:Int)))) else (fD (fun I n=>mS j o I n) eB (i64.wrap ((j.length:Int)-1)))
def mT (R:(List bG)) (j:Int) (o:List bG) (n151:Int) (n152:Int) (J:(List bG×Int×Int)→Option ((List bG)×Int)):Option ((List bG)×Int):=if decide (0≤n152) then (idx R n152 fun I=>dN ((u64.wrap (j))≠0) (idx o n152 fun U=>dN ((u64.wrap (j))≠0) (J ((o.set ((n152:Int).toNat) ⟨u32.wrap (u64.wrap (Int.tdiv (u64.wrap ((BitVec.ofInt (u64).bits (kD .u64 n151 32) ||| BitVec.ofInt (u64).bits (u64.wrap (I.n))).toNat)) (u64.wrap (j))))⟩),Int.tmod (u64.wrap ((BitVec.ofInt (u64).bits (kD .u64 n151 32) ||| BitVec.ofInt (u64).bits (u64.wrap (I.n))).toNat)) (u64.wrap (j)),i64.wrap (n152-1))))) else (some (o,(u32.wrap (n151))))
def kr (j:(List bG)) (I:Int):Option ((List bG)×Int):=dN (0≤(j.length:Int)∧(j.length:Int)*4≤140737488355328) (fD (fun o n=>mT j I o.1 o.2.1 o.2.2 n) eB ((List.replicate ((j.length:Int):Int).toNat (⟨0⟩:bG)),0,i64.wrap ((j.length:Int)-1)))
def gV (n106:Int) (n107:Int):Option (Int):=idx (gL (⟨#[0,1,2,2,3,3,3,3,4,4,4,4,4,4,4,4,5,5,5,5,5,5,5,5,5,5,5,5,5,5,5,5,6,6,6,6,6,6,6,6,6,6,6,6,6,6,6,6,6,6,6,6,6,6,6,6,6,6,6,6,6,6,6,6,7,7,7,7,7,7,7,7,7,7,7,7,7,7,7,7,7,7,7,7,7,7,7,7,7,7,7,7,7,7,7,7,7,7,7,7,7,7,7,7,7,7,7,7,7,7,7,7,7,7,7,7,7,7,7,7,7,7,7,7,7,7,7,7,8,8,8,8,8,8,8,8,8,8,8,8,8,8,8,8,8,8,8,8,8,8,8,8,8,8,8,8,8,8,8,8,8,8,8,8,8,8,8,8,8,8,8,8,8,8,8,8,8,8,8,8,8,8,8,8,8,8,8,8,8,8,8,8,8,8,8,8,8,8,8,8,8,8,8,8,8,8,8,8,8,8,8,8,8,8,8,8,8,8,8,8,8,8,8,8,8,8,8,8,8,8,8,8,8,8,8,8,8,8,8,8,8,8,8,8,8,8,8,8,8,8,8,8,8,8,8,8]⟩)) (u8.wrap (n106)) fun j=>some (i64.wrap (n107+(i64.wrap (j.n))))
def gW (n102:Int) (n103:Int):Option (Int):=if decide (256≤n102) then (gV (jA .u32 n102 8) (i64.wrap (n103+8))) else (gV n102 n103)
def mo (j:Int):Option (Int):=if decide (65536≤j) then (gW (jA .u32 j 16) 16) else (gW j 0)
def fU (j:Int):Option (Int):=(mo j).bind fun o=>some (i64.wrap (32-o))
def nH (j:Int) (o:Nat) (I:bG) (J:List bG) (n140:Int) (R:(List bG×Int)→Option ((List bG))):Option ((List bG)):=dN (0≤j) (idx J (o:Int) fun U=>R ((J.set (((o:Int):Int).toNat) ⟨u32.wrap (u64.wrap ((BitVec.ofInt (u64).bits n140 ||| BitVec.ofInt (u64).bits (kD .u64 (u64.wrap (I.n)) j)).toNat))⟩),jA .u64 (u64.wrap ((BitVec.ofInt (u64).bits n140 ||| BitVec.ofInt (u64).bits (kD .u64 (u64.wrap (I.n)) j)).toNat)) 32))
def kM (j:(List bG)) (I:Int):Option ((List bG)):=dN (0≤(i64.wrap ((j.length:Int)+1))∧(i64.wrap ((j.length:Int)+1))*4≤140737488355328) (dW (fun k y o n=>nH I k y o.1 o.2 n) (fun o=>idx o.1 (j.length:Int) fun J=>some (o.1.set (((j.length:Int):Int).toNat) ⟨u32.wrap (o.2)⟩)) 0 j ((List.replicate (i64.wrap ((j.length:Int)+1):Int).toNat (⟨0⟩:bG)),0))
def gU (o:List bG) (j:Int) (I:(List bG×List bG×Int)→Option ((List bG)×(List bG))) (J:List bG) (R:Int):Option ((List bG)×(List bG)):=idx o j fun U=>I ((o.set ((j:Int).toNat) ⟨u32.wrap (R)⟩),J,i64.wrap (j-1))
def kX (GO:(List bG)) (GP:((List bG))) (o:Int) (j:Nat) (I:List bG) (J:Int) (GN:(List bG×Int)→Option ((List bG)×(List bG))):Option ((List bG)×(List bG)):=idx I (i64.wrap ((j:Int)+o)) fun R=>idx (nr GP 0 (((GO.length:Int):Int).toNat)) (j:Int) fun U=>idx I (i64.wrap ((j:Int)+o)) fun GQ=>GN ((I.set ((i64.wrap ((j:Int)+o):Int).toNat) ⟨u32.wrap (u64.wrap (J+(u64.wrap ((u64.wrap (R.n))+(u64.wrap (U.n))))))⟩),jA .u64 (u64.wrap (J+(u64.wrap ((u64.wrap (R.n))+(u64.wrap (U.n)))))) 32)
def kW (GQ:(List bG)) (GR:((List bG))) (o:Int) (I:Int) (j:Nat) (J:List bG) (GN:Int) (R:Int) (GP:(List bG×Int×Int)→Option ((List bG)×(List bG))):Option ((List bG)×(List bG)):=idx (nr GR 0 (((GQ.length:Int):Int).toNat)) (j:Int) fun U=>idx J (i64.wrap ((j:Int)+o)) fun GO=>idx J (i64.wrap ((j:Int)+o)) fun GS=>GP ((J.set ((i64.wrap ((j:Int)+o):Int).toNat) ⟨u32.wrap (i64.wrap (GN+(i64.wrap ((i64.wrap (GO.n))-(i64.wrap (u64.wrap ((BitVec.ofInt (u64).bits (u64.wrap (R+(u64.wrap (I*(u64.wrap (U.n)))))) &&& BitVec.ofInt (u64).bits 4294967295).toNat)))))))⟩),jA .i64 (i64.wrap (GN+(i64.wrap ((i64.wrap (GO.n))-(i64.wrap (u64.wrap ((BitVec.ofInt (u64).bits (u64.wrap (R+(u64.wrap (I*(u64.wrap (U.n)))))) &&& BitVec.ofInt (u64).bits 4294967295).toNat))))))) 32,jA .u64 (u64.wrap (R+(u64.wrap (I*(u64.wrap (U.n)))))) 32)
def eA (I:(List bG)) (GP:((List bG))) (GO:List bG) (GQ:List bG) (o:Int) (GN:(List bG×List bG×Int)→Option ((List bG)×(List bG))) (R:Int):Option ((List bG)×(List bG)):=jT (fun k j n=>kW I GP o R k j.1 j.2.1 j.2.2 n) (fun j=>idx j.1 (i64.wrap (o+(I.length:Int))) fun U=>idx j.1 (i64.wrap (o+(I.length:Int))) fun GS=>if decide ((i64.wrap (j.2.1+(i64.wrap ((i64.wrap (U.n))-(i64.wrap (j.2.2))))))<0) then (jT (fun k J n=>kX I GP o k J.1 J.2 n) (fun J=>idx J.1 (i64.wrap (o+(I.length:Int))) fun GR=>idx J.1 (i64.wrap (o+(I.length:Int))) fun GU=>gU GO o GN (J.1.set ((i64.wrap (o+(I.length:Int)):Int).toNat) ⟨u32.wrap (GR.n+(u32.wrap (J.2)))⟩) (u64.wrap (R-1))) ((I.length:Int):Int).toNat 0 ((j.1.set ((i64.wrap (o+(I.length:Int)):Int).toNat) ⟨u32.wrap (i64.wrap (j.2.1+(i64.wrap ((i64.wrap (U.n))-(i64.wrap (j.2.2))))))⟩),0)) else (gU GO o GN (j.1.set ((i64.wrap (o+(I.length:Int)):Int).toNat) ⟨u32.wrap (i64.wrap (j.2.1+(i64.wrap ((i64.wrap (U.n))-(i64.wrap (j.2.2))))))⟩) R)) ((I.length:Int):Int).toNat 0 (GQ,0,0)
def kY (j:(List bG)) (J:((List bG))) (GO:List bG) (R:List bG) (U:Int) (GN:(List bG×List bG×Int)→Option ((List bG)×(List bG))) (o:Int) (I:Int) (GP:(Int×Int)→Option ((List bG)×(List bG))):Option ((List bG)×(List bG)):=if decide (4294967296≤o) then (idx (nr J 0 (((j.length:Int):Int).toNat)) (i64.wrap ((j.length:Int)-1)) fun GQ=>if decide (4294967296≤(u64.wrap (I+(u64.wrap (GQ.n))))) then (eA j J GO R U GN (u64.wrap (o-1))) else (GP (u64.wrap (o-1),u64.wrap (I+(u64.wrap (GQ.n)))))) else (idx (nr J 0 (((j.length:Int):Int).toNat)) (i64.wrap ((j.length:Int)-2)) fun GS=>idx R (i64.wrap ((i64.wrap (U+(j.length:Int)))-2)) fun GU=>if decide ((u64.wrap ((BitVec.ofInt (u64).bits (kD .u64 I 32) ||| BitVec.ofInt (u64).bits (u64.wrap (GU.n))).toNat))<(u64.wrap (o*(u64.wrap (GS.n))))) then (idx (nr J 0 (((j.length:Int):Int).toNat)) (i64.wrap ((j.length:Int)-1)) fun GR=>if decide (4294967296≤(u64.wrap (I+(u64.wrap (GR.n))))) then (eA j J GO R U GN (u64.wrap (o-1))) else (GP (u64.wrap (o-1),u64.wrap (I+(u64.wrap (GR.n)))))) else (eA j J GO R U GN o))
def jD (R:(Int)) (o:List bG) (j:Nat) (I:List bG) (J:List bG→Option ((List bG)×(List bG))):Option ((List bG)×(List bG)):=idx o (i64.wrap ((j:Int)+1)) fun U=>idx o (j:Int) fun GN=>dN (0≤R) (idx I (j:Int) fun GO=>J (I.set (((j:Int):Int).toNat) ⟨u32.wrap (jA .u64 (u64.wrap ((BitVec.ofInt (u64).bits (kD .u64 (u64.wrap (U.n)) 32) ||| BitVec.ofInt (u64).bits (u64.wrap (GN.n))).toNat)) R)⟩))
def kV (j:(List bG)) (GU:(Int)) (R:((List bG))) (U:List bG) (o:List bG) (I:Int) (GS:(List bG×List bG×Int)→Option ((List bG)×(List bG))):Option ((List bG)×(List bG)):=if decide (0≤I) then (idx o (i64.wrap (I+(j.length:Int))) fun GN=>idx o (i64.wrap ((i64.wrap (I+(j.length:Int)))-1)) fun GO=>idx (nr R 0 (((j.length:Int):Int).toNat)) (i64.wrap ((j.length:Int)-1)) fun GP=>dN ((u64.wrap (GP.n))≠0) (idx (nr R 0 (((j.length:Int):Int).toNat)) (i64.wrap ((j.length:Int)-1)) fun GQ=>dN ((u64.wrap (GQ.n))≠0) (fD (fun GR n=>kY j R U o I GS GR.1 GR.2 n) eB (u64.wrap (Int.tdiv (u64.wrap ((BitVec.ofInt (u64).bits (kD .u64 (u64.wrap (GN.n)) 32) ||| BitVec.ofInt (u64).bits (u64.wrap (GO.n))).toNat)) (u64.wrap (GP.n))),Int.tmod (u64.wrap ((BitVec.ofInt (u64).bits (kD .u64 (u64.wrap (GN.n)) 32) ||| BitVec.ofInt (u64).bits (u64.wrap (GO.n))).toNat)) (u64.wrap (GQ.n)))))) else (dN (0≤(j.length:Int)∧(j.length:Int)*4≤140737488355328) (jT (fun k J n=>jD GU o k J n) (fun J=>some (U,J)) ((j.length:Int):Int).toNat 0 (List.replicate ((j.length:Int):Int).toNat (⟨0⟩:bG))))
def kq (o:(List bG)) (j:(List bG)):Option ((List bG)×(List bG)):=(ko o j).bind fun GN=>if decide (GN<0) then (some ([],o)) else (if decide ((j.length:Int)=1) then (idx j 0 fun GO=>(kr o GO.n).bind fun R=>some (R.1,([⟨R.2⟩]:List bG))) else (idx j (i64.wrap ((j.length:Int)-1)) fun GP=>(fU GP.n).bind fun J=>(kM o J).bind fun GQ=>(kM j J).bind fun U=>dN (0≤(j.length:Int)∧(j.length:Int)≤(U.length:Int)) (dN (0≤(i64.wrap ((i64.wrap ((o.length:Int)-(j.length:Int)))+1))∧(i64.wrap ((i64.wrap ((o.length:Int)-(j.length:Int)))+1))*4≤140737488355328) (fD (fun I n=>kV j J U I.1 I.2.1 I.2.2 n) eB ((List.replicate (i64.wrap ((i64.wrap ((o.length:Int)-(j.length:Int)))+1):Int).toNat (⟨0⟩:bG)),GQ,i64.wrap ((o.length:Int)-(j.length:Int)))))))
def nY (j:Bool) (o:(List bG)):Option (aB):=some (aB.mk j o)
def p5 (o:Bool) (j:(List bG)) (GN:Bool) (I:(List bG)) (U:(Bool×(List bG)×Bool×(List bG))→Option (aB)):Option (aB):=if !decide ((dU (aB.mk o j))=0) then ((kq I j).bind fun J=>dN (J.2.length*4≤140737488355328) ((fJ false J.2).bind fun R=>U (R.minus,R.words,o,j))) else (nY GN I)
def lG (o:aB) (I:aB):Option (aB):=fD (fun j n=>p5 j.1 j.2.1 j.2.2.1 j.2.2.2 n) eB (false,I.words,false,o.words)
def iL (j:List bG) (I:(List bG×Int)→Option ((List bG))) (o:Nat) (n198:Int):Option ((List bG)):=idx j (o:Int) fun J=>I ((j.set (((o:Int):Int).toNat) ⟨u32.wrap (n198)⟩),jA .u64 n198 32)
def mR (U:(List bG)) (I:(List bG)) (j:Nat) (J:List bG) (n176:Int) (o:(List bG×Int)→Option ((List bG))):Option ((List bG)):=idx U (j:Int) fun R=>if decide ((j:Int)<(I.length:Int)) then (idx I (j:Int) fun GN=>iL J o j (u64.wrap ((u64.wrap (n176+(u64.wrap (R.n))))+(u64.wrap (GN.n))))) else (iL J o j (u64.wrap (n176+(u64.wrap (R.n)))))
def iM (j:(List bG)) (I:(List bG)):Option ((List bG)):=dN (0≤(i64.wrap ((j.length:Int)+1))∧(i64.wrap ((j.length:Int)+1))*4≤140737488355328) (jT (fun k o n=>mR j I k o.1 o.2 n) (fun o=>idx o.1 (j.length:Int) fun J=>some (o.1.set (((j.length:Int):Int).toNat) ⟨u32.wrap (o.2)⟩)) ((j.length:Int):Int).toNat 0 ((List.replicate (i64.wrap ((j.length:Int)+1):Int).toNat (⟨0⟩:bG)),0))
def lA (j:(List bG)) (o:(List bG)):Option ((List bG)):=if decide ((j.length:Int)<(o.length:Int)) then (iM o j) else (iM j o)
def iN (j:List bG) (I:(List bG×Int)→Option ((List bG))) (o:Nat) (n190:Int):Option ((List bG)):=idx j (o:Int) fun J=>I ((j.set (((o:Int):Int).toNat) ⟨u32.wrap (n190)⟩),jA .i64 n190 32)
def mU (U:(List bG)) (I:(List bG)) (j:Nat) (J:List bG) (n168:Int) (o:(List bG×Int)→Option ((List bG))):Option ((List bG)):=idx U (j:Int) fun R=>if decide ((j:Int)<(I.length:Int)) then (idx I (j:Int) fun GN=>iN J o j (i64.wrap ((i64.wrap (n168+(i64.wrap (R.n))))-(i64.wrap (GN.n))))) else (iN J o j (i64.wrap (n168+(i64.wrap (R.n)))))
def ks (j:(List bG)) (I:(List bG)):Option ((List bG)):=dN (0≤(j.length:Int)∧(j.length:Int)*4≤140737488355328) (jT (fun k o n=>mU j I k o.1 o.2 n) (fun o=>some o.1) ((j.length:Int):Int).toNat 0 ((List.replicate ((j.length:Int):Int).toNat (⟨0⟩:bG)),0))
def iO (j:aB) (o:aB):Option (aB):=if decide (j.minus=o.minus) then ((lA j.words o.words).bind fun I=>(fJ j.minus I).bind fun J=>some J) else ((ko j.words o.words).bind fun R=>if decide (0≤R) then ((ks j.words o.words).bind fun U=>(fJ j.minus U).bind fun GN=>some GN) else ((ks o.words j.words).bind fun GO=>(fJ o.minus GO).bind fun GP=>some GP))
def kJ (j:aB) (o:aB):Option (aB):=(iP o).bind fun I=>(iO j I).bind fun J=>some J
def iY (c194:Bool) (j:(List bG)) (c198:Bool) (o:(List bG)):Option (aB×aB):=some ((aB.mk c198 o),(aB.mk c194 j))
def cE (I:aB) (R:aB):Option (aB×aB):=(kq I.words R.words).bind fun j=>dN (j.1.length*4≤140737488355328) ((fJ I.minus j.1).bind fun J=>dN (j.2.length*4≤140737488355328) ((fJ I.minus j.2).bind fun o=>if o.minus then ((jQ 1).bind fun GO=>(kJ J GO).bind fun U=>(iO o R).bind fun GN=>iY GN.minus GN.words U.minus U.words) else (iY o.minus o.words J.minus J.words)))
def kn (o:Bool) (j:(List bG)) (c127:Bool) (I:(List bG)):Option (aA):=if decide ((j.length:Int)=1) then (idx j 0 fun GV=>if decide (GV.n=1) then (some (aA.mk (aB.mk c127 I) (aB.mk o j))) else ((lG (aB.mk c127 I) (aB.mk o j)).bind fun J=>if decide ((J.words.length:Int)=1) then (idx J.words 0 fun GW=>if decide (GW.n=1) then (some (aA.mk (aB.mk c127 I) (aB.mk o j))) else ((cE (aB.mk false I) J).bind fun U=>(cE (aB.mk o j) J).bind fun GQ=>if c127 then (some (aA.mk (aB.mk (decide (0<(U.1.words.length:Int))) U.1.words) GQ.1)) else (some (aA.mk (aB.mk false U.1.words) GQ.1)))) else ((cE (aB.mk false I) J).bind fun GN=>(cE (aB.mk o j) J).bind fun GR=>if c127 then (some (aA.mk (aB.mk (decide (0<(GN.1.words.length:Int))) GN.1.words) GR.1)) else (some (aA.mk (aB.mk false GN.1.words) GR.1))))) else ((lG (aB.mk c127 I) (aB.mk o j)).bind fun R=>if decide ((R.words.length:Int)=1) then (idx R.words 0 fun GX=>if decide (GX.n=1) then (some (aA.mk (aB.mk c127 I) (aB.mk o j))) else ((cE (aB.mk false I) R).bind fun GO=>(cE (aB.mk o j) R).bind fun GS=>if c127 then (some (aA.mk (aB.mk (decide (0<(GO.1.words.length:Int))) GO.1.words) GS.1)) else (some (aA.mk (aB.mk false GO.1.words) GS.1)))) else ((cE (aB.mk false I) R).bind fun GP=>(cE (aB.mk o j) R).bind fun GU=>if c127 then (some (aA.mk (aB.mk (decide (0<(GP.1.words.length:Int))) GP.1.words) GU.1)) else (some (aA.mk (aB.mk false GP.1.words) GU.1))))
def kf (o:aB) (j:aB):Option (aA):=if j.minus then ((iP o).bind fun I=>(iP j).bind fun J=>kn J.minus J.words I.minus I.words) else (kn j.minus j.words o.minus o.words)
def mJ (j:Int) (o:Int):Option (aA):=(jQ j).bind fun I=>(jQ o).bind fun J=>(kf I J).bind fun R=>some R
def nF (J:bG) (j:Nat) (o:Nat) (R:bG) (I:List bG) (n337:Int) (GN:(List bG×Int)→Option (aB)):Option (aB):=idx I (i64.wrap ((j:Int)+(o:Int))) fun U=>idx I (i64.wrap ((j:Int)+(o:Int))) fun GO=>GN ((I.set ((i64.wrap ((j:Int)+(o:Int)):Int).toNat) ⟨u32.wrap (u64.wrap (n337+(u64.wrap ((u64.wrap (U.n))+(u64.wrap ((u64.wrap (J.n))*(u64.wrap (R.n))))))))⟩),jA .u64 (u64.wrap (n337+(u64.wrap ((u64.wrap (U.n))+(u64.wrap ((u64.wrap (J.n))*(u64.wrap (R.n)))))))) 32)
def nE (o:aB) (I:Nat) (R:bG) (U:List bG) (J:List bG→Option (aB)):Option (aB):=dW (fun k y j n=>nF R I k y j.1 j.2 n) (fun j=>idx j.1 (i64.wrap ((I:Int)+(o.words.length:Int))) fun GN=>J (j.1.set ((i64.wrap ((I:Int)+(o.words.length:Int)):Int).toNat) ⟨u32.wrap (j.2)⟩)) 0 o.words (U,0)
def dV (j:aB) (o:aB):Option (aB):=dN (0≤(i64.wrap ((j.words.length:Int)+(o.words.length:Int)))∧(i64.wrap ((j.words.length:Int)+(o.words.length:Int)))*4≤140737488355328) (dW (fun k y I n=>nE o k y I n) (fun I=>(fJ (!decide (j.minus=o.minus)) I).bind fun J=>some J) 0 j.words (List.replicate (i64.wrap ((j.words.length:Int)+(o.words.length:Int)):Int).toNat (⟨0⟩:bG)))
def iQ (j:aA) (o:aA):Option (aA):=(dV j.N o.N).bind fun I=>(dV j.D o.D).bind fun J=>(kf I J).bind fun R=>some R
def jz (j:Int):Option (aA):=(jQ j).bind fun o=>(jQ 1).bind fun I=>some (aA.mk o I)
def ln (j:Int):Option ((List aA)):=(jz 0).bind fun o=>dN (([o]).length=1∧0≤j∧j*64≤140737488355328) (some (yG ([o]) j))
def kH (I:(List Int)) (J:Int) (j:Nat) (o:Unit→Option (Int)):Option (Int):=idx I (j:Int) fun R=>if decide (J=R) then (some (j:Int)) else (o ())
def iH (j:(List Int)) (o:Int):Option (Int):=jT (fun k I n=>kH j o k n) (fun _=>some (-1)) ((j.length:Int):Int).toNat 0 ()
def jt (j:aW) (bus:Int):Option (Int):=(iH j.lN bus).bind fun o=>some o
def eX (j:aA) (o:aA):Option (aA):=(dV j.N o.D).bind fun I=>(dV o.N j.D).bind fun J=>(iO I J).bind fun R=>(dV j.D o.D).bind fun U=>(kf R U).bind fun GN=>some GN
def kK (j:aA):Option (aA):=(iP j.N).bind fun o=>some (aA.mk o j.D)
def fZ (j:aA) (o:aA):Option (aA):=(kK o).bind fun I=>(eX j I).bind fun J=>some J
def qJ (I:Nat) (J:(List aA)) (j:List Nat) (o:List (List aA)) (R:(List Nat×List (List aA))→Option ((List Nat×List (List aA)))):Option ((List Nat×List (List aA))):=dN ((([]:List aA).length+J.length)*64≤140737488355328) (idx j (I:Int) fun U=>R ((j.set (((I:Int):Int).toNat) o.length),(o++[([]:List aA)++J])))
def qb (o:(List (List aA))):Option ((List Nat×List (List aA))):=dN (0≤(o.length:Int)∧(o.length:Int)*24≤140737488355328) (dW (fun k y j n=>qJ k y j.1 j.2 n) (fun j=>some (j.1,j.2)) 0 o ((List.replicate ((o.length:Int):Int).toNat 0),([[]])))
def cH (j:aA):Int:=(dU j.N)
def lT (j:aA) (o:aA):Option (aA):=(dV j.N o.D).bind fun I=>(dV j.D o.N).bind fun J=>(kf I J).bind fun R=>some R
def kZ (J:Int) (j:(List Int×Int×List Nat×List (List aA))→Option ((List Nat×List (List aA))×(List Int))) (R:List Int) (o:List Nat) (I:List (List aA)):Option ((List Nat×List (List aA))×(List Int)):=j (R,i64.wrap (J+1),o,I)
def gG (j:List (List aA)→Option ((List Nat×List (List aA))×(List Int))) (o:List (List aA)):Option ((List Nat×List (List aA))×(List Int)):=j o
def jK (I:Int) (j:(Int×List (List aA))→Option ((List Nat×List (List aA))×(List Int))) (o:List (List aA)):Option ((List Nat×List (List aA))×(List Int)):=j (i64.wrap (I+1),o)
def k4 (I:List Int) (J:List Nat) (R:Int) (U:Nat) (GN:Nat) (GR:List (List aA)→Option ((List Nat×List (List aA))×(List Int))) (GO:Nat) (GS:aA) (o:Int) (j:List (List aA)) (GQ:(Int×List (List aA))→Option ((List Nat×List (List aA))×(List Int))):Option ((List Nat×List (List aA))×(List Int)):=idx ((J.set (((I.length:Int):Int).toNat) U).set ((R:Int).toNat) GN) (GO:Int) fun GU=>if decide (o<(((j[GU]?).getD []).length:Int)) then (idx ((J.set (((I.length:Int):Int).toNat) U).set ((R:Int).toNat) GN) (I.length:Int) fun GV=>idx ((j[GV]?).getD []) o fun GW=>if !decide ((cH GW)=0) then (idx ((J.set (((I.length:Int):Int).toNat) U).set ((R:Int).toNat) GN) (GO:Int) fun GP=>idx ((J.set (((I.length:Int):Int).toNat) U).set ((R:Int).toNat) GN) (GO:Int) fun GX=>idx ((j[GX]?).getD []) o fun GY=>idx ((J.set (((I.length:Int):Int).toNat) U).set ((R:Int).toNat) GN) (I.length:Int) fun GZ=>idx ((j[GZ]?).getD []) o fun G0=>(iQ GS G0).bind fun G1=>(fZ GY G1).bind fun G2=>idx ((j[GP]?).getD []) o fun G3=>jK o GQ (j.set GP (((j[GP]?).getD []).set ((o:Int).toNat) G2))) else (jK o GQ j)) else (gG GR j)
def mn (o:List Int) (U:Int) (J:List Nat) (GN:Int) (GO:Nat) (GP:Nat) (I:Nat) (j:List (List aA)) (R:List (List aA)→Option ((List Nat×List (List aA))×(List Int))):Option ((List Nat×List (List aA))×(List Int)):=if decide ((I:Int)=(o.length:Int)) then (gG R j) else (idx ((J.set (((o.length:Int):Int).toNat) GO).set ((GN:Int).toNat) GP) (I:Int) fun GR=>idx ((j[GR]?).getD []) U fun GS=>if decide ((cH GS)=0) then (gG R j) else (idx ((J.set (((o.length:Int):Int).toNat) GO).set ((GN:Int).toNat) GP) (I:Int) fun GU=>idx ((j[GU]?).getD []) U fun GV=>fD (fun GQ n=>k4 o J GN GO GP R I GV GQ.1 GQ.2 n) eB (U,j)))
def k0 (j:List Int) (GO:Int) (o:List Nat) (GR:(List Int×Int×List Nat×List (List aA))→Option ((List Nat×List (List aA))×(List Int))) (J:Int) (R:Nat) (U:Nat) (GU:aA) (GN:Int) (I:List (List aA)) (GS:(Int×List (List aA))→Option ((List Nat×List (List aA))×(List Int))):Option ((List Nat×List (List aA))×(List Int)):=idx ((o.set (((j.length:Int):Int).toNat) R).set ((J:Int).toNat) U) (j.length:Int) fun GV=>if decide (GN<(((I[GV]?).getD []).length:Int)) then (idx ((o.set (((j.length:Int):Int).toNat) R).set ((J:Int).toNat) U) (j.length:Int) fun GP=>idx ((o.set (((j.length:Int):Int).toNat) R).set ((J:Int).toNat) U) (j.length:Int) fun GW=>idx ((I[GW]?).getD []) GN fun GX=>(lT GX GU).bind fun GY=>idx ((I[GP]?).getD []) GN fun GZ=>GS (i64.wrap (GN+1),(I.set GP (((I[GP]?).getD []).set ((GN:Int).toNat) GY)))) else (dN ((((o.set (((j.length:Int):Int).toNat) R).set ((J:Int).toNat) U).length:Int)≤9223372036854775807) (jT (fun k GQ n=>mn j GO o J R U k GQ n) (fun GQ=>dN ((j.length+([GO]:List Int).length)*8≤140737488355328) (kZ GO GR (j++([GO]:List Int)) ((o.set (((j.length:Int):Int).toNat) R).set ((J:Int).toNat) U) GQ)) ((((o.set (((j.length:Int):Int).toNat) R).set ((J:Int).toNat) U).length:Int):Int).toNat 0 I))
def k5 (o:List Int) (J:Int) (j:List Nat) (R:List (List aA)) (GN:(List Int×Int×List Nat×List (List aA))→Option ((List Nat×List (List aA))×(List Int))) (I:Int):Option ((List Nat×List (List aA))×(List Int)):=if decide (I=(j.length:Int)) then (kZ J GN o j R) else (idx j I fun U=>idx j (o.length:Int) fun GO=>idx j (o.length:Int) fun GS=>idx (j.set (((o.length:Int):Int).toNat) U) I fun GU=>idx ((j.set (((o.length:Int):Int).toNat) U).set ((I:Int).toNat) GO) (o.length:Int) fun GQ=>idx ((R[GQ]?).getD []) J fun GR=>fD (fun GP n=>k0 o J j GN I U GO GR GP.1 GP.2 n) eB (J,R))
def nZ (U:List Int) (J:Int) (j:List Nat) (I:List (List aA)) (R:(List Int×Int×List Nat×List (List aA))→Option ((List Nat×List (List aA))×(List Int))) (o:Int) (GN:Int→Option ((List Nat×List (List aA))×(List Int))):Option ((List Nat×List (List aA))×(List Int)):=if decide (o<(j.length:Int)) then (idx j o fun GO=>idx ((I[GO]?).getD []) J fun GP=>if decide ((cH GP)=0) then (GN (i64.wrap (o+1))) else (k5 U J j I R o)) else (k5 U J j I R o)
def jJ (cols:Int) (j:List Int) (J:Int) (o:List Nat) (I:List (List aA)) (R:(List Int×Int×List Nat×List (List aA))→Option ((List Nat×List (List aA))×(List Int))):Option ((List Nat×List (List aA))×(List Int)):=if (decide (J<cols)) && (decide ((j.length:Int)<(o.length:Int))) then (fD (fun U n=>nZ j J o I R U n) eB (j.length:Int)) else (some ((o,I),j))
def mK (I:(List (List aA))) (cols:Int):Option ((List Nat×List (List aA))×(List Int)):=(qb I).bind fun o=>fD (fun j n=>jJ cols j.1 j.2.1 j.2.2.1 j.2.2.2 n) eB (([]:List Int),0,o.1,o.2)
def oM (R:(List (List aA))) (J:Nat) (j:List Nat) (I:List (List aA)) (U:(List Nat×List (List aA))→Option ((List (List aA))×Bool)):Option ((List (List aA))×Bool):=idx j (J:Int) fun o=>dN (0≤(R.length:Int)∧(R.length:Int)≤(((I[o]?).getD []).length:Int)) (idx j (J:Int) fun GN=>dN (lone j (((J:Int):Int).toNat) o=true) (U ((j.set (((J:Int):Int).toNat) o),(I.set o (((I[o]?).getD []).drop ((R.length:Int):Int).toNat)))))
def oL (R:(List (List aA))) (j:Nat) (J:List Nat) (o:List (List aA)) (GO:(List Nat×List (List aA))→Option ((List (List aA))×Bool)):Option ((List (List aA))×Bool):=idx R (j:Int) fun I=>dN ((([]:List aA).length+I.length)*64≤140737488355328) ((ln (R.length:Int)).bind fun U=>dN (((([]:List aA)++I).length+U.length)*64≤140737488355328) (idx J (j:Int) fun GQ=>idx (J.set (((j:Int):Int).toNat) o.length) (j:Int) fun GN=>(jz 1).bind fun GP=>idx (((o++[(([]:List aA)++I)++U])[GN]?).getD []) (i64.wrap ((R.length:Int)+(j:Int))) fun GR=>GO ((J.set (((j:Int):Int).toNat) o.length),((o++[(([]:List aA)++I)++U]).set GN ((((o++[(([]:List aA)++I)++U])[GN]?).getD []).set ((i64.wrap ((R.length:Int)+(j:Int)):Int).toNat) GP)))))
def l7 (j:(List (List aA))):Option ((List (List aA))×Bool):=dN (0≤(j.length:Int)∧(j.length:Int)*24≤140737488355328) (jT (fun k o n=>oL j k o.1 o.2 n) (fun o=>(mK (mX o.1 o.2) (j.length:Int)).bind fun I=>if decide ((I.2.length:Int)<(j.length:Int)) then (some ([],false)) else (dN ((I.1.1.length:Int)≤9223372036854775807) (jT (fun k J n=>oM j k J.1 J.2 n) (fun J=>some (mX J.1 J.2,true)) ((I.1.1.length:Int):Int).toNat 0 (I.1.1,I.1.2)))) ((j.length:Int):Int).toNat 0 ((List.replicate ((j.length:Int):Int).toNat 0),([[]])))
def eL (j:List (List aA)→Option (aW)) (o:List (List aA)):Option (aW):=j o
def fO (R:List Nat) (GO:List (List aA)→Option (aW)) (GP:aA) (J:(Int)) (o:(Int)) (j:List (List aA)):Option (aW):=if (decide (0≤J)) && (decide (0≤o)) then (idx R J fun I=>idx R o fun U=>idx R J fun GQ=>idx ((j[GQ]?).getD []) o fun GR=>(fZ GR GP).bind fun GN=>idx R o fun GS=>idx ((j[GS]?).getD []) J fun GU=>(fZ GU GP).bind fun GV=>idx ((j[I]?).getD []) o fun GW=>idx (((j.set I (((j[I]?).getD []).set ((o:Int).toNat) GN))[U]?).getD []) J fun GX=>eL GO ((j.set I (((j[I]?).getD []).set ((o:Int).toNat) GN)).set U ((((j.set I (((j[I]?).getD []).set ((o:Int).toNat) GN))[U]?).getD []).set ((J:Int).toNat) GV))) else (eL GO j)
def fP (I:List Nat) (U:List (List aA)→Option (aW)) (J:aA) (GN:(Int)) (j:(Int)) (o:List (List aA)):Option (aW):=if decide (0≤j) then (idx I j fun R=>idx I j fun GO=>idx ((o[GO]?).getD []) j fun GP=>(eX GP J).bind fun GQ=>idx ((o[R]?).getD []) j fun GR=>fO I U J GN j (o.set R (((o[R]?).getD []).set ((j:Int).toNat) GQ))) else (fO I U J GN j o)
def gR (I:aW) (J:List Nat) (GO:Nat) (U:aA) (o:List (List aA)) (R:List (List aA)→Option (aW)):Option (aW):=idx I.iT (GO:Int) fun GQ=>(jt I GQ).bind fun j=>idx I.To (GO:Int) fun GR=>(jt I GR).bind fun GP=>idx I.iT (GO:Int) fun GS=>idx I.To (GO:Int) fun GU=>if decide (GS=GU) then (eL R o) else (if decide (0≤j) then (idx J j fun GN=>idx J j fun GV=>idx ((o[GV]?).getD []) j fun GW=>(eX GW U).bind fun GX=>idx ((o[GN]?).getD []) j fun GY=>fP J R U j GP (o.set GN (((o[GN]?).getD []).set ((j:Int).toNat) GX))) else (fP J R U j GP o))
def lM (R:aW) (I:Nat) (j:List Nat) (o:List (List aA)) (J:(List Nat×List (List aA))→Option (aW)):Option (aW):=(ln (R.lN.length:Int)).bind fun U=>idx j (I:Int) fun GN=>J ((j.set (((I:Int):Int).toNat) o.length),(o++[U]))
def jW (j:aW):Option (aW):=dN (0≤(j.lN.length:Int)∧(j.lN.length:Int)*24≤140737488355328) (dN (((List.replicate ((j.lN.length:Int):Int).toNat 0).length:Int)≤9223372036854775807) (jT (fun k o n=>lM j k o.1 o.2 n) (fun o=>dW (fun k y I n=>gR j o.1 k y I n) (fun I=>(l7 (mX o.1 I)).bind fun J=>some (aW.mk j.qH j.iT j.To j.B_ j.C j.lN J.1)) 0 j.B_ o.2) (((List.replicate ((j.lN.length:Int):Int).toNat 0).length:Int):Int).toNat 0 ((List.replicate ((j.lN.length:Int):Int).toNat 0),([[]]))))
def mI (o:(List (Int×Bool))) (j:((List (Int×Bool))×List Int)→Option ((Option aW))) (I:Int) (J:List Int):Option ((Option aW)):=j ((qo o I true),J)
def ri (R:Nat) (j:Int) (o:(List (Int×Bool))) (I:List Int) (J:((List (Int×Bool))×List Int)→Option ((Option aW))):Option ((Option aW)):=if (mW o j).getD false then (dN ((I.length+([((R:Int))]:List Int).length)*8≤140737488355328) (mI o J j (I++([((R:Int))]:List Int)))) else (mI o J j I)
def rh (I:aC) (J:(aV)) (GX:Nat) (j:bH) (R:List Int) (U:List Int) (GN:List aA) (GO:List aA) (GS:(List Int×List Int×List aA×List aA)→Option ((Option aW))):Option ((Option aW)):=(bB I.bJ j.iT).bind fun GU=>idx J.kb GU fun GP=>dN ((R.length+([GP]:List Int).length)*8≤140737488355328) ((bB I.bJ j.To).bind fun GV=>idx J.kb GV fun GQ=>dN ((U.length+([GQ]:List Int).length)*8≤140737488355328) ((mJ 1000000 (i64.wrap (j.X*j.rz))).bind fun o=>dN ((GN.length+([o]).length)*64≤140737488355328) ((mJ (i64.wrap (0-j.Shift)) 1000).bind fun GW=>(iQ o GW).bind fun GR=>dN ((GO.length+([GR]).length)*64≤140737488355328) (GS ((R++([GP]:List Int)),(U++([GQ]:List Int)),(GN++([o])),(GO++([GR])))))))
def pO (I:aC):Option ((Option aW)):=(cV I).bind fun J=>dW (fun k y j n=>rh I J k y j.1 j.2.1 j.2.2.1 j.2.2.2 n) (fun j=>dW (fun k y o n=>ri k y o.1 o.2 n) (fun o=>(jW (aW.mk J j.1 j.2.1 j.2.2.1 j.2.2.2 o.2 [])).bind fun R=>some (some R)) 0 J.bA (([]:(List (Int×Bool))),([]:List Int))) 0 I.aS (([]:List Int),([]:List Int),([]:List aA),([]:List aA))
def dJ (j:aW):Int:=(j.qH.bA.length:Int)
def mu (R:Nat) (J:Int) (j:List aA) (I:List aA→Option ((List aA))):Option ((List aA)):=(jz J).bind fun o=>dN ((j.length+([o]).length)*64≤140737488355328) (I (j++([o])))
def mr (J:aW) (R:Nat) (U:Int) (j:List Int) (I:List Int→Option ((List aA))):Option ((List aA)):=idx J.qH.kb (R:Int) fun o=>idx j o fun GN=>idx j o fun GO=>I (j.set ((o:Int).toNat) (i64.wrap (GN+U)))
def kQ (j:aW) (inject:(List Int)):Option ((List aA)):=dN (0≤(dJ j)∧(dJ j)*8≤140737488355328) (dW (fun k y o n=>mr j k y o n) (fun o=>dW (fun k y I n=>mu k y I n) (fun I=>some I) 0 o ([]:List aA)) 0 inject (List.replicate ((dJ j):Int).toNat (0:Int)))
def jC (j:(Bool×(List bG)×Bool×(List bG))→Option (aA)) (o:Bool) (I:(List bG)) (J:Bool) (R:(List bG)):Option (aA):=j (o,I,J,R)
def pZ (GO:(List aA)) (GP:(List aA)) (o:Nat) (J:Bool) (R:(List bG)) (U:Bool) (GN:(List bG)) (j:(Bool×(List bG)×Bool×(List bG))→Option (aA)):Option (aA):=idx GO (o:Int) fun GQ=>if decide ((cH GQ)=0) then (jC j J R U GN) else (idx GP (o:Int) fun GR=>if !decide ((cH GR)=0) then (idx GO (o:Int) fun GS=>idx GP (o:Int) fun GU=>(iQ GS GU).bind fun GV=>(eX (aA.mk (aB.mk J R) (aB.mk U GN)) GV).bind fun I=>jC j I.N.minus I.N.words I.D.minus I.D.words) else (jC j J R U GN))
def pa (I:(List aA)) (J:(List aA)):Option (aA):=(jz 0).bind fun o=>jT (fun k j n=>pZ I J k j.1 j.2.1 j.2.2.1 j.2.2.2 n) (fun j=>some (aA.mk (aB.mk j.1 j.2.1) (aB.mk j.2.2.1 j.2.2.2))) ((I.length:Int):Int).toNat 0 (o.N.minus,o.N.words,o.D.minus,o.D.words)
def lL (J:aW) (R:List aA) (U:Nat) (j:Int) (o:List aA) (I:List aA→Option ((List aA))):Option ((List aA)):=idx J.mG (U:Int) fun GN=>(pa GN R).bind fun GO=>idx o j fun GP=>I (o.set ((j:Int).toNat) GO)
def lK (J:(List aA)) (j:Nat) (R:Int) (o:List aA) (I:List aA→Option ((List aA))):Option ((List aA)):=idx J R fun U=>idx o (j:Int) fun GN=>I (o.set (((j:Int):Int).toNat) U)
def jV (j:aW) (J:(List aA)):Option ((List aA)):=dN (0≤(j.lN.length:Int)∧(j.lN.length:Int)*64≤140737488355328) (dW (fun k y o n=>lK J k y o n) (fun o=>(ln (dJ j)).bind fun R=>dW (fun k y I n=>lL j o k y I n) (fun I=>some I) 0 j.lN R) 0 j.lN (List.replicate ((j.lN.length:Int):Int).toNat ((aA.mk (aB.mk false []) (aB.mk false [])):aA)))
def ke (o:aW) (I:Nat) (U:aA) (j:List aA) (GO:List aA→Option ((List aA))):Option ((List aA)):=idx o.iT (I:Int) fun J=>idx o.iT (I:Int) fun GP=>idx j GP fun GQ=>(fZ GQ U).bind fun R=>idx j J fun GV=>idx o.To (I:Int) fun GN=>idx o.To (I:Int) fun GR=>idx (j.set ((J:Int).toNat) R) GR fun GS=>(eX GS U).bind fun GU=>idx (j.set ((J:Int).toNat) R) GN fun GW=>GO ((j.set ((J:Int).toNat) R).set ((GN:Int).toNat) GU)
def jU (j:aW) (I:(List aA)):Option ((List aA)):=dN (I.length*64≤140737488355328) (dW (fun k y o n=>ke j k y o n) (fun o=>(jV j o).bind fun J=>some J) 0 j.C I)
def iJ (n291:Int) (I:(Int×List U8)→Option (ByteArray×Bool)) (j:bG) (o:List U8):Option (ByteArray×Bool):=dN (o.length+(nU (u64.wrap (j.n))).size≤140737488355328) (I (i64.wrap (n291-1),(o++gL (nU (u64.wrap (j.n))))))
def iK (j:List U8) (o:ByteArray):Option (ByteArray×Bool):=some (o,(decide (((sQ j).size:Int)≤2000)))
def lv (R:aB) (J:List bG) (n291:Int) (j:List U8) (I:(Int×List U8)→Option (ByteArray×Bool)):Option (ByteArray×Bool):=if decide (0≤n291) then (idx J n291 fun o=>dN (0≤(u64.wrap (o.n))∧(u64.wrap (o.n))≤18446744073709551615) (if decide (n291<(i64.wrap ((J.length:Int)-1))) then (dN (0≤((nU (u64.wrap (o.n))).size:Int)∧((nU (u64.wrap (o.n))).size:Int)≤((⟨#[48,48,48,48,48,48,48,48,48]⟩:ByteArray).size:Int)) (dN (j.length+((⟨#[48,48,48,48,48,48,48,48,48]⟩:ByteArray).extract ((((nU (u64.wrap (o.n))).size:Int):Int).toNat) ((⟨#[48,48,48,48,48,48,48,48,48]⟩:ByteArray).size)).size≤140737488355328) (iJ n291 I o (j++gL ((⟨#[48,48,48,48,48,48,48,48,48]⟩:ByteArray).extract ((((nU (u64.wrap (o.n))).size:Int):Int).toNat) ((⟨#[48,48,48,48,48,48,48,48,48]⟩:ByteArray).size)))))) else (iJ n291 I o j))) else (dN (0<j.length) (if R.minus then (dN ((⟨#[45]⟩:ByteArray).size+(sQ j).size≤maxLen) (iK j ((⟨#[45]⟩:ByteArray)++(sQ j)))) else (iK j (sQ j))))
def mQ (U:aB) (j:List bG) (I:(List bG)) (R:(List bG×(List bG))→Option (ByteArray×Bool)):Option (ByteArray×Bool):=if decide (0<(I.length:Int)) then ((kr I 1000000000).bind fun o=>dN ((j.length+([⟨o.2⟩]:List bG).length)*4≤140737488355328) ((fJ false o.1).bind fun GN=>R ((j++([⟨o.2⟩]:List bG)),GN.words))) else (fD (fun J n=>lv U j J.1 J.2 n) eB (i64.wrap ((j.length:Int)-1),([]:List U8)))
def gT (j:aB):Option (ByteArray×Bool):=if decide ((j.words.length:Int)=0) then (some ((⟨#[48]⟩),true)) else (if decide (210<(j.words.length:Int)) then (some ((⟨#[]⟩),false)) else (fD (fun o n=>mQ j o.1 o.2 n) eB (([]:List bG),j.words)))
def lz (I:aA):Option (ByteArray×Bool):=(gT I.N).bind fun j=>if !j.2 then (some ((⟨#[]⟩),false)) else ((gT I.D).bind fun o=>if decide (o.1=(⟨#[49]⟩)) then (some (j.1,o.2)) else (dN (j.1.size+(⟨#[47]⟩:ByteArray).size≤maxLen) (dN ((j.1++(⟨#[47]⟩)).size+o.1.size≤maxLen) (some (((j.1++(⟨#[47]⟩))++o.1),o.2)))))
def oK (j:Nat) (R:aA) (o:List ByteArray) (J:List ByteArray→Option ((List ByteArray)×Bool)):Option ((List ByteArray)×Bool):=(lz R).bind fun I=>if !I.2 then (some (([]:List ByteArray),false)) else (idx o (j:Int) fun U=>J (o.set (((j:Int):Int).toNat) I.1))
def oU (j:(List aA)):Option ((List ByteArray)×Bool):=dN (0≤(j.length:Int)∧(j.length:Int)*16≤140737488355328) (dW (fun k y o n=>oK k y o n) (fun o=>some (o,true)) 0 j (List.replicate ((j.length:Int):Int).toNat ((⟨#[]⟩):ByteArray)))
def kt (o:(List aA)):Option ((List ByteArray)×Int):=(oU o).bind fun j=>if !j.2 then (some (([]:List ByteArray),2)) else (some (j.1,0))
def l_ (j:aW) (I:(List aA)) (o:Nat) (GN:aA) (J:List aA) (U:List aA→Option ((List aA))):Option ((List aA)):=idx j.B_ (o:Int) fun GO=>idx j.iT (o:Int) fun GP=>idx I GP fun GQ=>idx j.To (o:Int) fun GR=>idx I GR fun GS=>(fZ GQ GS).bind fun GU=>(iQ GO GU).bind fun GV=>(eX GV GN).bind fun R=>dN ((J.length+([R]).length)*64≤140737488355328) (U (J++([R])))
def ky (o:aW) (I:(List aA)):Option ((List aA)):=dW (fun k y j n=>l_ o I k y j n) (fun j=>some j) 0 o.C ([]:List aA)
def kR (j:aC) (inject:(List Int)):Option (fB×Int):=(kd j inject).bind fun o=>if !decide (o=0) then (some ((fB.mk [] []),o)) else ((pO j).bind fun U=>Bp U none (fun sp108=>(kQ sp108 inject).bind fun GN=>(jU sp108 GN).bind fun I=>(kt I).bind fun J=>(ky sp108 I).bind fun GO=>(kt GO).bind fun R=>if (!decide (J.2=0)) || (!decide (R.2=0)) then (some ((fB.mk [] []),2)) else (some ((fB.mk J.1 R.1),0))))
def d_ (j:ByteArray) (o:Int):Int:=(Ft j o)
def eV (j:ByteArray) (substr:ByteArray):Option (Int):=if (decide ((substr.size:Int)=0)) || (decide (substr=j)) then (some 0) else (if decide ((substr.size:Int)=1) then (idx (gL substr) 0 fun o=>some (d_ j o.n)) else (if decide ((j.size:Int)≤(substr.size:Int)) then (some (-1)) else none))
def fT (j:ByteArray) (sep:ByteArray):Option (ByteArray×ByteArray×Bool):=(eV j sep).bind fun o=>if decide (0≤o) then (dN (0≤o∧o≤(j.size:Int)) (dN (0≤(i64.wrap (o+(sep.size:Int)))∧(i64.wrap (o+(sep.size:Int)))≤(j.size:Int)) (some ((j.extract 0 ((o:Int).toNat)),(j.extract ((i64.wrap (o+(sep.size:Int)):Int).toNat) j.size),true)))) else (some (j,(⟨#[]⟩),false))
def kg (o:ByteArray) (sep:ByteArray):Option (ByteArray×ByteArray×Bool):=(fT o sep).bind fun j=>some (j.1,j.2.1,j.2.2)
def dH (o:ByteArray) (j:ByteArray):Option (Bool):=if decide ((j.size:Int)≤(o.size:Int)) then (dN (0≤(j.size:Int)∧(j.size:Int)≤(o.size:Int)) (some (decide ((o.extract 0 (((j.size:Int):Int).toNat))=j)))) else (some false)
def ka (o:ByteArray) (j:ByteArray):Option (Bool):=(dH o j).bind fun I=>some I
def e_ (o:ByteArray) (j:ByteArray):Option (ByteArray):=(dH o j).bind fun I=>if I then (dN (0≤(j.size:Int)∧(j.size:Int)≤(o.size:Int)) (some (o.extract (((j.size:Int):Int).toNat) o.size))) else (some o)
def g_ (o:ByteArray) (j:ByteArray):Option (ByteArray):=(e_ o j).bind fun I=>some I
def nk (o:(Bool)) (I:Bool) (j:(List bG)):Option (aB):=if o then (some (aB.mk (decide (0<(j.length:Int))) j)) else (some (aB.mk false j))
def pk (U:(Bool)) (j:ByteArray) (o:Bool) (I:(List bG)) (R:(ByteArray×Bool×(List bG))→Option (aB)):Option (aB):=if decide (0<(j.size:Int)) then (dN (0≤(i64.wrap ((Int.tmod (i64.wrap ((j.size:Int)-1)) 9)+1))∧(i64.wrap ((Int.tmod (i64.wrap ((j.size:Int)-1)) 9)+1))≤(j.size:Int)) (dN ((j.extract 0 ((i64.wrap ((Int.tmod (i64.wrap ((j.size:Int)-1)) 9)+1):Int).toNat)).size≠0∧(j.extract 0 ((i64.wrap ((Int.tmod (i64.wrap ((j.size:Int)-1)) 9)+1):Int).toNat)).size≤281474976710656∧(Dc (j.extract 0 ((i64.wrap ((Int.tmod (i64.wrap ((j.size:Int)-1)) 9)+1):Int).toNat))).2=false) ((jQ 1000000000).bind fun GN=>(dV (aB.mk o I) GN).bind fun GO=>(jQ (i64.wrap ((Dc (j.extract 0 ((i64.wrap ((Int.tmod (i64.wrap ((j.size:Int)-1)) 9)+1):Int).toNat))).1))).bind fun GP=>(iO GO GP).bind fun J=>dN (0≤(i64.wrap ((Int.tmod (i64.wrap ((j.size:Int)-1)) 9)+1))∧(i64.wrap ((Int.tmod (i64.wrap ((j.size:Int)-1)) 9)+1))≤(j.size:Int)) (R (j.extract ((i64.wrap ((Int.tmod (i64.wrap ((j.size:Int)-1)) 9)+1):Int).toNat) j.size,J.minus,J.words))))) else (nk U o I)
def iG (o:ByteArray):Option (aB):=(ka o (⟨#[45]⟩)).bind fun I=>(g_ o (⟨#[45]⟩)).bind fun J=>fD (fun j n=>pk I j.1 j.2.1 j.2.2 n) eB (J,false,[])
def ng (o:ByteArray):Option (aA):=(kg o (⟨#[47]⟩)).bind fun j=>if !j.2.2 then ((iG j.1).bind fun I=>(jQ 1).bind fun J=>some (aA.mk I J)) else ((iG j.1).bind fun R=>(iG j.2.1).bind fun U=>some (aA.mk R U))
def lR (j:aA):Option (aA):=if decide ((cH j)<0) then ((kK j).bind fun o=>some o) else (some j)
def ni (j:aB) (o:aB):Option (Int):=(kJ j o).bind fun I=>some (dU I)
def lS (j:aA) (o:aA):Option (Int):=(dV j.N o.D).bind fun I=>(dV o.N j.D).bind fun J=>(ni I J).bind fun R=>some R
def k_ (j:List ByteArray→Option ((List ByteArray))) (o:List ByteArray):Option ((List ByteArray)):=j o
def n8 (flows:(List ByteArray)) (J:Nat) (j:bH) (o:List ByteArray) (I:List ByteArray→Option ((List ByteArray))):Option ((List ByteArray)):=idx flows (J:Int) fun R=>(ng R).bind fun U=>(lR U).bind fun GN=>(jz j.jS).bind fun GO=>(lS GN GO).bind fun GP=>if decide (0<GP) then (dN ((o.length+([j.Name]).length)*16≤140737488355328) (k_ I (o++([j.Name])))) else (k_ I o)
def my (o:aC) (flows:(List ByteArray)):Option ((List ByteArray)):=dW (fun k y j n=>n8 flows k y j n) (fun j=>some j) 0 o.aS ([]:List ByteArray)
def lW (o:aC):Option (fB×(List ByteArray)×Int):=(gS o).bind fun I=>if !decide (I.2=0) then (some ((fB.mk [] []),[],I.2)) else ((kR o I.1).bind fun j=>if !decide (j.2=0) then (some ((fB.mk [] []),[],j.2)) else ((my o j.1.pT).bind fun J=>some (j.1,J,0)))
def px (I:aC) (on:(List ByteArray)):Option (fB×(List ByteArray)×Int):=(qg I on).bind fun j=>if !decide (j.2=0) then (some ((fB.mk [] []),[],j.2)) else ((lW j.1).bind fun o=>some (o.1,o.2.1,o.2.2))
def iI:aC:=(aC.mk ([(⟨#[65]⟩),(⟨#[66]⟩)]) ([(cN.mk (⟨#[83]⟩) (⟨#[65]⟩) (⟨#[66]⟩) false true)]) ([(bH.mk (⟨#[76]⟩) (⟨#[65]⟩) (⟨#[66]⟩) 1000 1000 0 40 60 10)]) ([(cR.mk (⟨#[71]⟩) (⟨#[65]⟩) 10 50 0)]) ([(aK.mk (⟨#[68]⟩) (⟨#[66]⟩) 30)]) [])
def iS (o:aC):Option (Int):=(lW o).bind fun j=>if (decide (j.2.2=0)) && (decide (0<(j.2.1.length:Int))) then (some 17) else (some j.2.2)
def iZ (j:Unit→Option ((List ByteArray)×Bool)):Option ((List ByteArray)×Bool):=j ()
def mb (self:aC→(List ByteArray)→Option ((List ByteArray)×Bool)) (R:aC) (j:(List ByteArray)) (GN:Nat) (o:aK) (I:Unit→Option ((List ByteArray)×Bool)):Option ((List ByteArray)×Bool):=(cJ j o.Name).bind fun U=>if U then (iZ I) else (dN (0≤(j.length:Int)∧(j.length:Int)≤(j.length:Int)) (dN (((nr j 0 (((j.length:Int):Int).toNat)).length+([o.Name]).length)*16≤140737488355328) ((self R ((nr j 0 (((j.length:Int):Int).toNat))++([o.Name]))).bind fun J=>if J.2 then (some (J.1,true)) else (iZ I))))
def gZ (self:aC→(List ByteArray)→Option ((List ByteArray)×Bool)) (j:aC) (o:(List ByteArray)):Option ((List ByteArray)×Bool):=(kB j o).bind fun I=>(iS I).bind fun J=>if !decide (J=0) then (some ([],false)) else (if decide ((o.length:Int)=(j.bQ.length:Int)) then (some (o,true)) else (dW (fun k y R n=>mb self j o k y n) (fun _=>some ([],false)) 0 j.bQ ()))
def fQ:Nat→aC→(List ByteArray)→Option ((List ByteArray)×Bool)
 | 0=>fun _ _=>none
 | n+1=>gZ (fQ n)
def qh (j:aC) (o:(List ByteArray)):Option ((List ByteArray)×Bool):=fQ eB j o
def jE (j:aC):Option ((List ByteArray)×Int):=(cI j).bind fun o=>if !decide (o=0) then (some ([],o)) else (if decide (5<(j.bQ.length:Int)) then (some ([],2)) else ((qh j []).bind fun I=>if !I.2 then (some ([],8)) else (some (I.1,0))))
def iV (o:(List ByteArray)) (I:(List ByteArray)) (j:Nat) (J:Unit→Option (Bool)):Option (Bool):=idx o (j:Int) fun R=>idx I (j:Int) fun U=>if !decide (R=U) then (some false) else (J ())
def dK (j:(List ByteArray)) (o:(List ByteArray)):Option (Bool):=if !decide ((j.length:Int)=(o.length:Int)) then (some false) else (jT (fun k I n=>iV j o k n) (fun _=>some true) ((j.length:Int):Int).toNat 0 ())
def fI:Option (Bool):=(px ((iI)) ([(⟨#[68]⟩)])).bind fun j=>(jE ((iI))).bind fun o=>if decide (j.2.2=0) then (if decide (o.2=0) then (if decide ((j.2.1.length:Int)=0) then (if decide ((j.1.pT.length:Int)=1) then (idx j.1.pT 0 fun I=>if decide (I=(⟨#[51,48]⟩)) then ((dK o.1 ([(⟨#[68]⟩)])).bind fun J=>some J) else (some false)) else (some false)) else (some false)) else (some false)) else (some false)
def rX (I:Nat) (j:U8) (o:Unit→Option (Int)):Option (Int):=if (decide (j.n<48)) || (decide (57<j.n)) then (some 5) else (o ())
def nO (j:ByteArray):Option (Int):=dN (j.size≤maxLen) (dW (fun k y I n=>rX k y n) (fun _=>if decide (j=(⟨#[]⟩)) then (some 5) else (if decide (1<(j.size:Int)) then (idx (gL j) 0 fun o=>if decide (o.n=48) then (some 5) else (if decide (2000<(j.size:Int)) then (some 2) else (some 0))) else (if decide (2000<(j.size:Int)) then (some 2) else (some 0)))) 0 (gL j) ())
def tz (I:ByteArray) (J:ByteArray) (R:Nat) (o:Unit→Option (aB×aB×Int)):Option (aB×aB×Int):=idx [I,J] (R:Int) fun U=>(nO U).bind fun j=>if !decide (j=0) then (some ((aB.mk false []),(aB.mk false []),j)) else (o ())
def ua (j:ByteArray) (o:ByteArray):Option (aB×aB×Int):=jT (fun k R n=>tz j o k n) (fun _=>(iG j).bind fun I=>(iG o).bind fun J=>some (I,J,0)) (2:Int).toNat 0 ()
def vC (o:aB):Option (ByteArray×Int):=(gT o).bind fun j=>if !j.2 then (some ((⟨#[]⟩),2)) else (some (j.1,0))
def t_ (I:ByteArray) (J:ByteArray):Option (ByteArray×Int):=(ua I J).bind fun j=>if !decide (j.2.2=0) then (some ((⟨#[]⟩),j.2.2)) else ((lG j.1 j.2.1).bind fun R=>(vC R).bind fun o=>some (o.1,o.2))
def rY:Option (Int):=some 0
def lB (I:ByteArray) (J:(ByteArray)) (j:(ByteArray×ByteArray×Bool)) (o:(Int)) (n110:Int):Option (Int):=if ((decide (o=5)) || (decide (n110=5))) || ((decide (j.1=(⟨#[48]⟩))) && (decide ((J.size:Int)<(I.size:Int)))) then (some 5) else (if (!decide (o=0)) || (!decide (n110=0)) then (some 2) else (if j.2.2 then ((t_ j.1 j.2.1).bind fun R=>if ((decide (j.2.1=(⟨#[48]⟩))) || (decide (j.2.1=(⟨#[49]⟩)))) || (!decide (R.1=(⟨#[49]⟩))) then (some 3) else rY) else rY))
def nP (o:ByteArray):Option (Int):=(g_ o (⟨#[45]⟩)).bind fun I=>(kg I (⟨#[47]⟩)).bind fun j=>(nO j.1).bind fun J=>if j.2.2 then ((nO j.2.1).bind fun R=>lB o I j J R) else (lB o I j J 0)
def qC (J:Nat) (I:ByteArray) (o:Unit→Option (Int)):Option (Int):=(nP I).bind fun j=>if !decide (j=0) then (some j) else (o ())
def qd (j:(List ByteArray)):Option (Int):=dW (fun k y o n=>qC k y n) (fun _=>some 0) 0 j ()
def n7 (j:(List ByteArray)):Option (Int):=if decide (40<(j.length:Int)) then (some 2) else ((qd j).bind fun o=>some o)
def kE (o:(List ByteArray)) (I:(List ByteArray)) (j:Nat) (J:Unit→Option (Bool)):Option (Bool):=idx o (j:Int) fun R=>idx I (j:Int) fun U=>if !decide (R=U) then (some false) else (J ())
def gB (j:(List ByteArray)) (o:(List ByteArray)):Option (Bool):=if !decide ((j.length:Int)=(o.length:Int)) then (some false) else (jT (fun k I n=>kE j o k n) (fun _=>some true) ((j.length:Int):Int).toNat 0 ())
def qZ (J:Nat) (I:(List ByteArray)) (o:Unit→Option (Int)):Option (Int):=(n7 I).bind fun j=>if !decide (j=0) then (some j) else (o ())
def qI (o:aC) (inject:(List Int)) (j:fB):Option (Int):=(kd o inject).bind fun J=>if !decide (J=0) then (some J) else ((pO o).bind fun R=>Bp R none (fun sp108=>if decide ((j.pR.length:Int)=(dJ sp108)) then (if !decide ((j.pT.length:Int)=(o.aS.length:Int)) then (some 3) else (dW (fun k y GO n=>qZ k y n) (fun _=>(kR o inject).bind fun I=>if decide (I.2=0) then ((gB I.1.pR j.pR).bind fun U=>if U then ((gB I.1.pT j.pT).bind fun GN=>if !GN then (some 21) else (some 0)) else (some 21)) else (some 21)) 0 ([j.pR,j.pT]) ())) else (some 3)))
def mV (J:aC) (j:(List ByteArray)) (n181:Int) (I:Int→Option (Int×Int)):Option (Int×Int):=if decide (n181≤(j.length:Int)) then (dN (0≤n181∧n181≤(j.length:Int)) ((kB J (nr j 0 ((n181:Int).toNat))).bind fun R=>(iS R).bind fun o=>if !decide (o=0) then (some (n181,o)) else (I (i64.wrap (n181+1))))) else (some (0,0))
def gY (j:aC) (o:(List ByteArray)):Option (Int×Int):=(iR j o).bind fun I=>if !decide (I=0) then (some (0,I)) else (fD (fun J n=>mV j o J n) eB 0)
def k6 (n110:Int) (n111:Int):Option (Int):=idx (gL (⟨#[0,1,2,2,3,3,3,3,4,4,4,4,4,4,4,4,5,5,5,5,5,5,5,5,5,5,5,5,5,5,5,5,6,6,6,6,6,6,6,6,6,6,6,6,6,6,6,6,6,6,6,6,6,6,6,6,6,6,6,6,6,6,6,6,7,7,7,7,7,7,7,7,7,7,7,7,7,7,7,7,7,7,7,7,7,7,7,7,7,7,7,7,7,7,7,7,7,7,7,7,7,7,7,7,7,7,7,7,7,7,7,7,7,7,7,7,7,7,7,7,7,7,7,7,7,7,7,7,8,8,8,8,8,8,8,8,8,8,8,8,8,8,8,8,8,8,8,8,8,8,8,8,8,8,8,8,8,8,8,8,8,8,8,8,8,8,8,8,8,8,8,8,8,8,8,8,8,8,8,8,8,8,8,8,8,8,8,8,8,8,8,8,8,8,8,8,8,8,8,8,8,8,8,8,8,8,8,8,8,8,8,8,8,8,8,8,8,8,8,8,8,8,8,8,8,8,8,8,8,8,8,8,8,8,8,8,8,8,8,8,8,8,8,8,8,8,8,8,8,8,8,8,8,8,8,8]⟩)) (u8.wrap (n110)) fun j=>some (i64.wrap (n111+(i64.wrap (j.n))))
def k7 (n106:Int) (n107:Int):Option (Int):=if decide (256≤n106) then (k6 (jA .u64 n106 8) (i64.wrap (n107+8))) else (k6 n106 n107)
def k8 (n102:Int) (n103:Int):Option (Int):=if decide (65536≤n102) then (k7 (jA .u64 n102 16) (i64.wrap (n103+16))) else (k7 n102 n103)
def n6 (j:Int):Option (Int):=if decide (4294967296≤j) then (k8 (jA .u64 j 32) 32) else (k8 j 0)
def lV (j:Int):Option (Int):=(n6 j).bind fun o=>some o
def dI (j:ByteArray):Bool:=(!decide (j=j))
def jH (j:ByteArray) (o:ByteArray):Bool:=(((dI j) && (!(dI o))) || (xm j o))
def fM (GN:Int) (J:Int) (I:(List ByteArray×Int)→Option ((List ByteArray))) (o:List ByteArray) (j:Int) (U:(List ByteArray×Int)→Option ((List ByteArray))):Option ((List ByteArray)):=if decide (GN<j) then (idx o j fun GO=>idx o (i64.wrap (j-1)) fun GP=>if (jH GO GP) then (idx o (i64.wrap (j-1)) fun R=>idx o j fun GQ=>idx o j fun GR=>idx (o.set ((j:Int).toNat) R) (i64.wrap (j-1)) fun GS=>U (((o.set ((j:Int).toNat) R).set ((i64.wrap (j-1):Int).toNat) GQ),i64.wrap (j-1))) else (I (o,i64.wrap (J+1)))) else (I (o,i64.wrap (J+1)))
def fL (R:Int) (U:Int) (o:List ByteArray) (j:Int) (J:(List ByteArray×Int)→Option ((List ByteArray))):Option ((List ByteArray)):=if decide (j<U) then (fD (fun I n=>fM R j J I.1 I.2 n) eB (o,j)) else (some o)
def dM (data:(List ByteArray)) (j:Int) (I:Int):Option ((List ByteArray)):=fD (fun o n=>fL j I o.1 o.2 n) eB (data,i64.wrap (j+1))
def iD:Option ((List ByteArray)):=none
def iC (data:(List ByteArray)) (j:Int) (o:Int) (limit:Int) (J:Unit→Option ((List ByteArray))):Option ((List ByteArray)):=if decide ((i64.wrap (o-j))≤12) then ((dM data j o).bind fun I=>some I) else (if decide (limit=0) then none else iD)
def gC (data:(List ByteArray)) (j:Int) (o:Int) (limit:Int):Option ((List ByteArray)):=fD (fun I n=>iC data j o limit n) eB ()
def eF (j:(List ByteArray)):Option ((List ByteArray)):=(lV (u64.wrap ((j.length:Int)))).bind fun o=>(gC j 0 (j.length:Int) o).bind fun I=>some I
def fR (J:Nat) (j:aK) (o:List ByteArray) (I:List ByteArray→Option (Bool)):Option (Bool):=dN ((o.length+([j.Name]).length)*16≤140737488355328) (I (o++([j.Name])))
def dY (U:aC):Option (Bool):=(lu U).bind fun I=>(jE I).bind fun j=>dW (fun k y o n=>fR k y o n) (fun o=>(gY I o).bind fun J=>if !decide (j.2=0) then ((fI).bind fun GN=>some (((GN && (decide ((j.1.length:Int)=0))) && (!decide (J.2=0))) && (decide (0≤J.1)))) else ((gY I j.1).bind fun R=>dN (j.1.length*16≤140737488355328) (dN (o.length*16≤140737488355328) ((eF j.1).bind fun GO=>(eF o).bind fun GP=>(fI).bind fun GQ=>if GQ then (if decide (R.1=0) then (if decide (R.2=0) then ((dK GO GP).bind fun GR=>if GR then (if decide (J.2=0) then ((dK j.1 o).bind fun GS=>some GS) else (some true)) else (some false)) else (some false)) else (some false)) else (some false))))) 0 I.bQ ([]:List ByteArray)
end Go.Sim
namespace Go.Sim
open Go Go.RowKit
open _root_.Go.IntKind (i64 u64 u32 u8)
def Gd {R:Type} (o:Option R) (Q:R→Prop):Prop:=∃ r,o=some r∧Q r
section
variable {R α β σ:Type}{Q Q':R→Prop}
theorem Gd.mono {o:Option R} (h:Gd o Q) (k:∀ r,Q r→Q' r):Gd o Q':=by
 obtain ⟨r,e,q⟩:=h; exact ⟨r,e,k r q⟩
theorem Gd.ret {r:R} (h:Q r):Gd (some r) Q:=⟨r,rfl,h⟩
theorem Gd.nd {p:Prop}[Decidable p] {k:Option R} (h:p) (hk:Gd k Q):Gd (dN p k) Q:=by
 unfold Sim.dN; rw [Hl h]; exact hk
theorem Gd.eJ {o:Option α}{k:α→Option R}{P:α→Prop} (h:Gd o P) (hk:∀ a,P a→Gd (k a) Q):Gd (o.bind k) Q:=by
 obtain ⟨a,rfl,q⟩:=h; exact hk a q
theorem Gd.bind_eq {o:Option α}{a:α}{k:α→Option R} (h:o=some a) (hk:Gd (k a) Q):Gd (o.bind k) Q:=by
 subst h; exact hk
theorem Gd.ite {b:Bool}{p q:Option R} (h1:b=true→Gd p Q) (h2:b=false→Gd q Q):Gd (if b=true then p else q) Q:=by
 cases b
 ·simpa using h2 rfl
 ·simpa using h1 rfl
theorem Gd.ix {l:List α}{i:Int}{k:α→Option R}{y:α} (h0:0≤i) (hy:l[i.toNat]? = some y) (hk:Gd (k y) Q):Gd (idx l i k) Q:=by
 unfold Sim.idx; rw [Hl h0,hy]; exact hk
theorem Gd.iU {l:List α}{i:Nat}{k:α→Option R} (h:i<l.length) (hk:Gd (k l[i]) Q):Gd (Sim.idx l (i:Int) k) Q:=
 Gd.ix (by omega) (G9 (by simpa using h)) hk
theorem Gd.dW {body:Nat→α→σ→(σ→Option R)→Option R}{k:σ→Option R} (I:Nat→List α→σ→Prop)
  (hb:∀ i y ys s n,I i (y::ys) s→(∀ s',I (i+1) ys s'→Gd (n s') Q)→Gd (body i y s n) Q) (hk:∀ i s,I i [] s→Gd (k s) Q):
  ∀ (l:List α) (i:Nat) (s:σ),I i l s→Gd (dW body k i l s) Q
 | [],i,s,h=>hk i s h
 | y::ys,i,s,h=>hb i y ys s _ h (fun s' h'=>Gd.dW I hb hk ys (i+1) s' h')
theorem Gd.jT {body:Nat→σ→(σ→Option R)→Option R}{k:σ→Option R} (I:Nat→Nat→σ→Prop)
  (hb:∀ m i s n,I (m+1) i s→(∀ s',I m (i+1) s'→Gd (n s') Q)→Gd (body i s n) Q) (hk:∀ i s,I 0 i s→Gd (k s) Q):
  ∀ (m i:Nat) (s:σ),I m i s→Gd (jT body k m i s) Q
 | 0,i,s,h=>hk i s h
 | m+1,i,s,h=>hb m i s _ h (fun s' h'=>Gd.jT I hb hk m (i+1) s' h')
theorem Gd.fD {body:σ→(σ→Option R)→Option R} (I:σ→Prop) (μ:σ→Nat)
  (hb:∀ s n,I s→(∀ s',I s'→μ s'<μ s→Gd (n s') Q)→Gd (body s n) Q):
  ∀ (m:Nat) (s:σ),I s→μ s<m→Gd (fD body m s) Q
 | 0,s,_,h=>by omega
 | m+1,s,hI,h=>hb s _ hI (fun s' h' hlt=>Gd.fD I μ hb m s' h' (by omega))
theorem Gd.eq {o:Option R}{r:R}:Gd o (fun x=>x=r)↔o=Option.some r:=by
 constructor
 ·rintro ⟨x,h,rfl⟩; exact h
 ·intro h; exact ⟨r,h,rfl⟩
end
theorem bP {n:Int} (h:-9223372036854775808≤n∧n≤9223372036854775807):i64.wrap n=n:=rT h.1 h.2
theorem Gd.seen {R α σ:Type}{Q:R→Prop}{body:Nat→α→σ→(σ→Option R)→Option R}{k:σ→Option R}{l:List α} (I:List α→σ→Prop)
  (hb:∀ i y s n pre,(∃ post,l=pre++y::post)→I pre s→(∀ s',I (pre++[y]) s'→Gd (n s') Q)→Gd (body i y s n) Q) (hk:∀ s,I l s→Gd (k s) Q) (s:σ) (hs:I [] s):Gd (Sim.dW body k 0 l s) Q:=by
 have key:∀ (ys pre:List α) (i:Nat) (s:σ),l=pre++ys→I pre s→Gd (Sim.dW body k i ys s) Q:=by
  intro ys
  induction ys with
  | nil=>intro pre i s hl hs; rw [Ia] at hl; subst hl; exact hk s hs
  | cons y ys ih=>
   intro pre i s hl hs;exact hb i y s _ pre ⟨ys,hl⟩ hs (fun s' hs'=>ih (pre++[y]) (i+1) s' (by rw [hl]; simp) hs')
 exact key l [] 0 s rfl hs
theorem qP {α:Type}{l pre:List α}{y:α} (h:∃ post,l=pre++y::post):pre.length<l.length∧y ∈ l∧∀ x ∈ pre,x ∈ l:=by
 obtain ⟨post,rfl⟩:=h;exact ⟨by simp,by simp,fun x hx=>Hb _ hx⟩
theorem xZ:∀ (x y z:List UInt8),Op.bytesLess x y=true→Op.bytesLess y z=true→Op.bytesLess x z=true
 | _,_,[],_,h=>by cases ‹List UInt8› <;> simp [Op.bytesLess] at h
 | [],_,_::_,_,_=>rfl
 | _::_,[],_::_,h,_=>by simp [Op.bytesLess] at h
 | a::x,b::y,c::z,h1,h2=>by
  simp only [Op.bytesLess,Jd,IF,Jn,beq_iff_eq] at h1 h2 ⊢;rcases h1 with h1 | ⟨rfl,h1⟩
  ·rcases h2 with h2 | ⟨rfl,h2⟩
   ·left; rw [KI] at *; omega
   ·exact .inl h1
  ·rcases h2 with h2 | ⟨rfl,h2⟩
   ·exact .inl h2
   ·exact .inr ⟨rfl,xZ x y z h1 h2⟩
theorem B8:∀ x:List UInt8,Op.bytesLess x x=false
 | []=>rfl
 | a::x=>by simp [Op.bytesLess,B8 x]
theorem Eh (a:ByteArray):xm a a=false:=B8 _
theorem wF {a b c:ByteArray} (h1:xm a b=true) (h2:xm b c=true):xm a c=true:=xZ _ _ _ h1 h2
theorem A3 {a b:ByteArray} (h:a.toList=b.toList):a=b:=by
 rw [Mi,Mi] at h;cases a; cases b
 simp only [Array.toList_inj] at h;rw [h]
theorem Ay (a b:ByteArray):xm a b=true∨a=b∨xm b a=true:=by
 unfold xm;cases h:Op.bytesLess a.toList b.toList
 ·right
  by_cases e:a.toList=b.toList
  ·exact .inl (A3 e)
  ·right
   rw [← wB,h,beq_false_of_ne e]; rfl
 ·exact .inl rfl
theorem CU {a b:ByteArray} (h:xm a b=true):xm b a=false:=by
 cases e:xm b a
 ·rfl
 ·have:=wF h e; rw [Eh] at this; cases this
def Bk (a b:ByteArray):Prop:=xm b a=false
theorem Bl {a b c:ByteArray} (h1:Bk a b) (h2:Bk b c):Bk a c:=by
 unfold Bk at *
 cases e:xm c a
 ·rfl
 ·rcases Ay a b with h | rfl | h
  ·have:=wF e h; rw [h2] at this; cases this
  ·rw [h2] at e; cases e
  ·rw [h1] at h; cases h
theorem CQ {a b:ByteArray} (h1:Bk a b) (h2:Bk b a):a=b:=by
 unfold Bk at *
 rcases Ay a b with h | h | h
 ·rw [h2] at h; cases h
 ·exact h
 ·rw [h1] at h; cases h
end Go.Sim
