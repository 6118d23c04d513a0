/-
  The proof, part A2.
-/
import Derived.Lib.Bytealg
import Derived.Laws.Externs
import Derived.Lib.LaidTab
import Derived.Lib.AppendIntMem
import Derived.Lib.ItoaNum
import Derived.Lib.AtoiAll
import Derived.Lib.SmallJoins
import Derived.Laws.BytesString
import Derived.Laws.IdiomStrings
import Derived.Lib.ParseIntBMem
import Derived.Laws.IdiomRangeMap
import Derived.Lib.UnsafeStr
import Derived.Lib.Builder
import Derived.Lib.AppendStr
import Derived.Laws.Bits64b
import Derived.Test.YthomhaphclgbcaaGreatDoorSqA1
set_option linter.unusedVariables false
set_option linter.unusedSimpArgs false
set_option linter.unusedSectionVars false
set_option linter.unnecessarySimpa false
namespace Go.Sim
abbrev Rv := @Int.fdiv_eq_ediv_of_nonneg
abbrev Ro := @Int.le_refl
abbrev R9 := @Int.toNat_of_nonneg
abbrev R_ := @Go.Lib.strCells_length
abbrev Tn := @List.drop_succ_cons
abbrev Rh := @List.getElem?_replicate
abbrev Pq := @List.getElem?_set_ne
abbrev Pu := @List.getElem?_set_self
abbrev Q4 := @List.getElem_map
abbrev Qv := @List.length_drop
abbrev Qh := @List.length_set
abbrev RF := @List.mem_of_mem_take
abbrev Rl := @List.replicate_succ
abbrev Ta := @List.set_getElem_self
abbrev Qn := @List.take_append_drop
abbrev Pg := @List.take_of_length_le
abbrev SY := @List.take_zero
abbrev Sc := @List.zipWith_append
abbrev Rq := @Nat.add_comm
abbrev QS := @Nat.lt_or_ge
abbrev RQ := @Nat.mod_lt
end Go.Sim
namespace Go.Sim
open Go Go.RowKit
open _root_.Go.IntKind (i64 u64 u32 u8)
def Nz (H:Hp) (v:OY) (n sz:Nat) (xs:List OY):Prop:=
 xs.length=n*sz/\(∀ u ∈ xs,u.oneCell'=true) /\
 (((∃ a,v=.slice a 0 0)/\n=0)\/∃ b off cap arr T fz,v=.slice (some ⟨b,off,none⟩) n cap/\H b=some (.cells arr T fz)/\∀ j u,xs[j]? = some u->arr[off+j]? = some u)
theorem Nz.shape {H:Hp}{v:OY}{n sz:Nat}{xs:List OY} (h:Nz H v n sz xs):∃ o c,v=.slice o n c:=by
 rcases h.2.2 with ⟨⟨a,rfl⟩,rfl⟩ | ⟨b,off,cap,arr,T,fz,rfl,_⟩ <;> exact ⟨_,_,rfl⟩
theorem Nz.isNil {H:Hp}{n m c sz:Nat}{xs:List OY} (h:Nz H (.slice none m c) n sz xs):n=0/\xs=[]:=by
 rcases h.2.2 with ⟨_,I⟩ | ⟨b,off,cap,arr,T,fz,I,_⟩
 ·subst I; exact ⟨rfl,Py (by rw [h.1,Qu])⟩
 ·cases I
section
variable {B:Nat}{w0 w:World}{H:Hp}{M:List bL}
end
section
variable {x:Cx}{ops:Array Oper}{Q:k_}{rest:List Oper}{H:Hp}{M M':List bL}{L L':Env}
variable {d:Nat}{ty:TypeId}{pos:String}{aft:Array Edge}{g:Option (Nat×Bool)}
theorem Fo {o:Oper} (Z:o.dst=none) (hg:gd ops L o=some true)
  (I:∀ a w,Sl x.N L a->St x.B x.w0 H M w->∃ v O,(execOp a.eval o).run x.P w=.ok (.value v) O/\∃ H' M',St x.B x.w0 H' M' O/\W x ops Q rest H' M' L):
  W x ops Q (o::rest) H M L:=by
 intro a w hs ht;obtain ⟨v,O,hr,H',M',J,k⟩:=I a w hs ht;refine SI λK Y=>?_;rw [O8 (hs.gd hg)];unfold Oper.wp;rw [hr];simp only [Oper.upon,Z];exact Y _ _ (k _ _ hs J)
theorem sR {t e:TypeId}{sz len cap l h m:Nat}{y:Operand}{lo hi mx:Option Operand}{ad:Option Addr}
  (Y:gd ops L ⟨some d,.slice t y lo hi mx,ty,pos,aft,g⟩=some true) (hN:Nat.blt d x.N=true)
  (O:∀ w,(underlying t).run x.P w=.ok (.slice e) w) (hs:∀ w,(sizeOf e).run x.P w=.ok sz w) (hy:ev L y=some (.slice ad len cap)) (J:mx=none\/∃ o,hi=some o)
  (hm:Fg L mx cap cap m) (Z:Fg L hi len m h) (hl:Fg L lo 0 h l)
  {v':OY} (hv:Value.slice (if m=l then ad else ad.map (·.add (l*sz))) (h-l) (m-l)=v')
  (k:W x ops Q rest H M ((d,v')::L)):
  W x ops Q (⟨some d,.slice t y lo hi mx,ty,pos,aft,g⟩::rest) H M L:=
 eT rfl Y hN (λc w I ht=>by
  rw [<- hv];simp only [execOp,I.ev hy,Pf,sX O hs (IS J) (hm.bd I) (Z.bd I) (hl.bd I),O_,Pp]) k
theorem Bk {zs:List OY} (h:∀ u ∈ zs,u.oneCell'=true) (O:0<zs.length) (n:Nat):∀ u ∈ (Builtin.zeroCells zs.toArray n).toList,u.oneCell'=true:=by
 intro u J;unfold Builtin.zeroCells at J;simp only [Array.toList_map,RG,Array.toList_range,PO] at J;obtain ⟨q,_,rfl⟩:=J;have I:q%zs.length<zs.length:=RQ _ O;have:zs.toArray[q%zs.length]! = zs[q%zs.length]:=by simp [I]
 rw [this];exact h _ (PC _)
end
theorem DQ {P:Program}{w:World}{t tu ty e:TypeId}{sz n Z off cap a dl dc sl sc:Nat}{b:Addr}{xs news:List OY} (hT:P.underlying t=some (.slice e)) (hs:∀ w,(sizeOf e).run P w=.ok sz w)
  (O:iB w e sz (.slice (some ⟨Z,off,none⟩) n cap) n xs) (ha:a+dl<=n)
  (hl:news.length=min sl dl*sz) (Y:∀ j u,news[j]? = some u->w.cell? (b.add j)=some u) (h1:∀ u ∈ news,u.oneCell'=true):
  ∃ w',(Builtin.copy_ #[t,tu] ty #[.slice (some ⟨Z,off+a*sz,none⟩) dl dc,.slice (some b) sl sc]).run P w=.ok (.int .i64 (min sl dl:Nat)) w' /\
   iB w' e sz (.slice (some ⟨Z,off,none⟩) n cap) n (xs.take (a*sz)++news++xs.drop ((a+min sl dl)*sz))/\w.grownBy w' (some Z):=by
 rcases O.2 with ⟨h0,_⟩ | ⟨gb2,off2,cap2,I,he,hgb,hnc,hcm,hcs,J⟩
 ·cases h0
 cases he;have hxl:xs.length=n*sz:=O.1;have hm:(a+min sl dl)*sz<=n*sz:=Ph _ (by omega)
 have hmc:n*sz<=cap*sz:=Ph _ hnc;have hadd:(a+min sl dl)*sz=a*sz+min sl dl*sz:=Pm ..;have hf:=Ts (P:=P) w sz (min sl dl) b sl sc news hl Y;obtain ⟨w',hst,hh,hgr⟩:=jT (P:=P) Z (off+a*sz) e news 0 I.toList w (by simpa using hgb) (by simp; omega) h1
 refine ⟨w',?_,⟨?_,.inr ⟨Z,off,cap,_,rfl,hh,hnc,hcm,?_,?_⟩⟩,hgr⟩
 ·simp [Builtin.copy_,Qs hT,hs,Builtin.lenOf,hf,hst,goInt]
 ·simp only [Pj,Pr,Qv,hl,hxl]; omega
 ·simpa [oM] using hcs
 ·rw [Rn,Qt,vJ _ _ _ (by simp; omega)]
  have hx1:xs.take (a*sz)=(I.toList.take (off+a*sz)).drop off:=by
   rw [<- J,SX,P6 (by omega),Re,Q2]
  have hx2:xs.drop ((a+min sl dl)*sz)=(I.toList.drop (off+a*sz+news.length)).take (n*sz-(a+min sl dl)*sz):=by
   rw [<- J,Re,QG]; congr 2; omega
  rw [hx1,hx2,Pv,RJ (by simp; omega),<- Pv]
  have hlen:((I.toList.take (off+a*sz)).drop off++news).length=a*sz+min sl dl*sz:=by
   rw [Pj,Qv,Pr,hl]; simp; omega
  have e:n*sz=((I.toList.take (off+a*sz)).drop off++news).length+(n*sz-(a+min sl dl)*sz):=by rw [hlen]; omega
  conv=>lhs; rw [e]
  rw [List.take_length_add_append]
section
variable {x:Cx}{ops:Array Oper}{Q:k_}{rest:List Oper}{H:Hp}{M M':List bL}{L L':Env}
variable {d:Nat}{ty:TypeId}{pos:String}{aft:Array Edge}{g:Option (Nat×Bool)}
theorem yI {c:Code}{v:OY}{e:TypeId}{sz n:Nat}{xs:List OY} (Z:0<n)
  (k:∀ I off cap,v=.slice (some ⟨I,off,none⟩) n cap->n<=cap->Go.Sim.C x c Q H (.row v e sz n xs::M) L):Go.Sim.C x c Q H (.row v e sz n xs::M) L:=by
 intro a w hs ht;have O:iB w e sz v n xs:=ht.ok _ (O5 ..);rcases O.2 with ⟨_,h⟩ | ⟨I,off,cap,Y,he,_,J,_⟩
 ·omega
 ·exact k I off cap he J a w hs ht
theorem Fl {α:Type}[aE α] {t tu e:TypeId}{y u:Operand}{v vu:OY}{xs:List OY}{l ys:List α}
  (hg:gd ops L ⟨some d,.call ⟨.builtin .copy,#[y,u],#[t,tu]⟩,ty,pos,aft,g⟩=some true) (hN:Nat.blt d x.N=true)
  (hT:x.P.underlying t=some (.slice e)) (hsz:∀ w,(sizeOf e).run x.P w=.ok (aE.sz α) w) (hs:Nat.blt 0 (aE.sz α)=true)
  (hy:ev L y=some v) (Y:ev L u=some vu) (hx:Rw H v xs l) (hR:aN H vu ys) (h0:0<ys.length)
  (k:∀ xs',Rw H v xs' (ys.take (min ys.length l.length)++l.drop (min ys.length l.length))->W x ops Q rest H (.row v e (aE.sz α) l.length xs'::M) ((d,.int .i64 (min ys.length l.length:Nat))::L)):
  W x ops Q (⟨some d,.call ⟨.builtin .copy,#[y,u],#[t,tu]⟩,ty,pos,aft,g⟩::rest) H (.row v e (aE.sz α) l.length xs::M) L:=by
 refine r7 rfl hg hN λa w I ht=>?_;have J:iB w e (aE.sz α) v l.length xs:=ht.ok _ (O5 ..);obtain ⟨cs,hcs,Z⟩:=hR.flat;rcases Z with ⟨_,rfl⟩ | ⟨hc,b,O,c,rfl⟩
 ·simp at h0
 by_cases hl0:l.length=0
 ·have hm0:min ys.length l.length=0:=by omega
  refine ⟨.int .i64 (min ys.length l.length:Nat),w,?_,H,_,ht,k xs (by rw [hm0]; simpa using hx)⟩
  have hf:(Builtin.firstCells (aE.sz α) 0 (.slice (some ⟨b,O,none⟩) ys.length c)).run x.P w=.ok #[] w:=
   Ts (P:=x.P) w (aE.sz α) 0 ⟨b,O,none⟩ ys.length c [] (by simp) (by simp)
  rw [hm0];rcases J.2 with ⟨rfl,_⟩ | ⟨gb,off,cap,cur,rfl,_⟩
  ·simp [execOp,resolve,invoke,builtin,I.ev hy,I.ev Y,Builtin.copy_,Qs hT,hsz,Builtin.lenOf,hf,goInt]
  ·simp [execOp,resolve,invoke,builtin,I.ev hy,I.ev Y,Builtin.copy_,Qs hT,hsz,Builtin.lenOf,hf,goInt,hl0,storeCells]
 rcases J.2 with ⟨_,h⟩ | ⟨gb,off,cap,cur,rfl,_⟩
 ·exact absurd h hl0
 obtain ⟨w',hr,ho,hgr⟩:=DQ (P:=x.P) (tu:=tu) (ty:=ty) (a:=0) (dl:=l.length) (dc:=cap) (b:=⟨b,O,none⟩) (sl:=ys.length) (sc:=c) (news:=cs.take (min ys.length l.length*aE.sz α)) hT hsz J (by omega)
  (by rw [Pr,hcs.len]; exact P6 (Ph _ (by omega)))
  (λj u Y=>by
   rw [PR] at Y
   split at Y
   ·exact ((hc j u Y).at (x:=x) (M:=.row (.slice (some ⟨gb,off,none⟩) l.length cap) e (aE.sz α) l.length xs::M)) w ht
   ·cases Y) (λu Y=>hcs.one u (RF Y))
 rw [Qu,SY,Qz,Po] at ho;rw [Qu,Qt] at hr;refine ⟨.int .i64 (min ys.length l.length:Nat),w',?_,H,_,ht.CT (r':=.row (.slice (some ⟨gb,off,none⟩) l.length cap) e (aE.sz α) l.length _) hgr ho (λb hb=>.inl hb),k _ ⟨(hcs.split _).1.app (hx.rd.split _).2,_,_,_,rfl⟩⟩;simp [execOp,resolve,invoke,builtin,I.ev hy,I.ev Y,hr]
theorem zU {α:Type}[aE α] {t tu e:TypeId}{I off cap q dc sc:Nat}{y u:Operand}{xs:List OY}{l:List α}
  (hg:gd ops L ⟨some d,.call ⟨.builtin .copy,#[y,u],#[t,tu]⟩,ty,pos,aft,g⟩=some true) (hN:Nat.blt d x.N=true)
  (hT:x.P.underlying t=some (.slice e)) (hsz:∀ w,(sizeOf e).run x.P w=.ok (aE.sz α) w) (hs:Nat.blt 0 (aE.sz α)=true)
  (hx:Rw H (.slice (some ⟨I,off,none⟩) l.length cap) xs l) (hq:q<=l.length)
  (hy:ev L y=some (.slice (some ⟨I,off+q*aE.sz α,none⟩) (l.length-q) dc)) (hu:ev L u=some (.slice (some ⟨I,off,none⟩) q sc))
  (k:∀ xs',Rw H (.slice (some ⟨I,off,none⟩) l.length cap) xs' (l.take q++l.take (min q (l.length-q))++l.drop (q+min q (l.length-q))) ->
   W x ops Q rest H (.row (.slice (some ⟨I,off,none⟩) l.length cap) e (aE.sz α) l.length xs'::M) ((d,.int .i64 (min q (l.length-q):Nat))::L)):
  W x ops Q (⟨some d,.call ⟨.builtin .copy,#[y,u],#[t,tu]⟩,ty,pos,aft,g⟩::rest) H (.row (.slice (some ⟨I,off,none⟩) l.length cap) e (aE.sz α) l.length xs::M) L:=by
 refine r7 rfl hg hN λa w hsl ht=>?_;have O:iB w e (aE.sz α) (.slice (some ⟨I,off,none⟩) l.length cap) l.length xs:=ht.ok _ (O5 ..);have hlen:=hx.rd.len;have hone:=hx.rd.one;have hmm:min q (l.length-q)*aE.sz α<=l.length*aE.sz α:=Ph _ (by omega)
 have Y:∀ j u,(xs.take (min q (l.length-q)*aE.sz α))[j]? = some u->w.cell? ((⟨I,off,none⟩:Addr).add j)=some u:=by
  intro j u J;rcases O.2 with ⟨h0,_⟩ | ⟨gb2,off2,cap2,cur,he,hgb,hnc,hcm,hcs,Z⟩
  ·cases h0
  cases he;rw [P8];refine Td hgb rfl ?_;rw [PR] at J
  split at J
  ·rw [<- Z,PR] at J
   split at J
   ·rw [PJ] at J; simpa using J
   ·cases J
  ·cases J
 obtain ⟨w',hr,ho,hgr⟩:=DQ (P:=x.P) (tu:=tu) (ty:=ty) (a:=q) (dl:=l.length-q) (dc:=dc) (b:=⟨I,off,none⟩) (sl:=q) (sc:=sc) (news:=xs.take (min q (l.length-q)*aE.sz α)) hT hsz O (by omega)
  (by rw [Pr,hlen]; omega) Y (λu hu=>hone u (RF hu))
 refine ⟨.int .i64 (min q (l.length-q):Nat),w',?_,H,_,ht.CT (r':=.row (.slice (some ⟨I,off,none⟩) l.length cap) e (aE.sz α) l.length _) hgr ho (λb hb=>.inl hb),k _ ⟨?_,_,_,_,rfl⟩⟩
 ·simp [execOp,resolve,invoke,builtin,hsl.ev hy,hsl.ev hu,hr]
 ·exact ((hx.rd.split q).1.app (hx.rd.split (min q (l.length-q))).1).app (hx.rd.split (q+min q (l.length-q))).2
end
theorem C4 {x:Cx}{ops:Array Oper}{Q:k_}{rest:List Oper}{H:Hp}{M:List bL}{L:Env}{d:Nat}{f:FuncId}{args:List Operand}{J:Array TypeId}{ty:TypeId}{pos:String}{aft:Array Edge}{g:Option (Nat×Bool)}{vs:List OY}{v:OY}
  (Z:∀ w,(callFunc f vs.toArray).run x.P w=.ok (.value v) w)
  (O:gd ops L ⟨some d,.call ⟨.value (.func f),args.toArray,J⟩,ty,pos,aft,g⟩=some true) (hN:Nat.blt d x.N=true)
  (Y:xL L args=some vs) (k:W x ops Q rest H M ((d,v)::L)):
  W x ops Q (⟨some d,.call ⟨.value (.func f),args.toArray,J⟩,ty,pos,aft,g⟩::rest) H M L:=
 eT rfl O hN (λa w hs ht=>by
  have I:args.toArray.map a.eval=vs.toArray:=by simp [hs.xL Y]
  simp only [execOp,resolve,I,Act.eval,Deferred.ofValue,Pf,Pp,O_,invoke];simp [Z]) k
def LV (s:OX) (c:Int):Int:=Go.Lib.indexByte s.data.toList c.toNat.toUInt8
theorem Dq {P:Program}{f:FuncId}{I:Func} (hf:P.funcs[f]? = some I) (J:(I.name == "runtime.NumGoroutine")=false) (O:I.body.isNone=true) (Y:Extern.findNext I=none) (Z:Extern.find I=some Extern.BytealgIndexByte.indexByte) (s:OX) (c:Int):
  ∀ w,(callFunc f [.string s,.int .u8 c].toArray).run P w=.ok (.value (.int .i64 (LV s c))) w:=λw=>by
 rw [run_callFunc_extern hf J O Y Z,show [Value.string s,.int .u8 c].toArray=#[.string s,.int .u8 c] from rfl,Go.Lib.run_indexByteString]
 rfl
section
variable {x:Cx}{ops:Array Oper}{Q:k_}{rest:List Oper}{H:Hp}{M M':List bL}{L L':Env}
variable {d:Nat}{ty:TypeId}{pos:String}{aft:Array Edge}{g:Option (Nat×Bool)}
theorem HA {t e:TypeId}{y:Operand}{ad:Option Addr}{J:Nat}
  (Y:gd ops L ⟨none,.call ⟨.builtin .clear,#[y],#[t]⟩,ty,pos,aft,g⟩=some true)
  (O:x.P.underlying t=some (.slice e)) (Z:ev L y=some (.slice ad 0 J)) (k:W x ops Q rest H M L):
  W x ops Q (⟨none,.call ⟨.builtin .clear,#[y],#[t]⟩,ty,pos,aft,g⟩::rest) H M L:=
 Fo rfl Y λa w I ht=>⟨.tuple #[],w,by
  cases ad <;> simp [execOp,resolve,invoke,builtin,I.ev Z,Builtin.clear_,Qs O],H,M,ht,k⟩
theorem C3 {t e:TypeId}{sz m n Y off cap i c2:Nat}{y:Operand}{z:OY}{zs xs:List OY}
  (hg:gd ops L ⟨none,.call ⟨.builtin .clear,#[y],#[t]⟩,ty,pos,aft,g⟩=some true)
  (hT:x.P.underlying t=some (.slice e)) (hz:∀ w,(zeroValue e).run x.P w=.ok z w) (hzs:z.cells=zs.toArray) (hzl:zs.length=sz) (h1:zs.all Value.oneCell'=true) (hs:Nat.blt 0 sz=true)
  (hi:i<m) (hy:ev L y=some (.slice (some ⟨Y,off+i*sz,none⟩) (m-i) c2))
  (k:W x ops Q rest H (.row (.slice (some ⟨Y,off,none⟩) m cap) e sz m (xs.take (i*sz)++(Builtin.zeroCells z.cells (m-i)).toList)::M) L):
  W x ops Q (⟨none,.call ⟨.builtin .clear,#[y],#[t]⟩,ty,pos,aft,g⟩::rest) H (.row (.slice (some ⟨Y,off,none⟩) m cap) e sz n xs::M) L:=by
 have hs':0<sz:=by simpa [P9] using hs
 refine Fo rfl hg λa w hsl ht=>?_;have J:iB w e sz (.slice (some ⟨Y,off,none⟩) m cap) n xs:=ht.ok _ (O5 ..);rcases J.2 with ⟨h0,_⟩ | ⟨gb2,off2,cap2,O,he,hgb,hnc,hcm,hcs,htake⟩
 ·cases h0
 cases he;obtain ⟨q,hq⟩:∃ q,m-i=q+1:=⟨m-i-1,by omega⟩
 have I:(Builtin.zeroCells z.cells (m-i)).toList.length=(m-i)*sz:=by
  unfold Builtin.zeroCells; rw [hzs]; simp [hzl]
 have hmul:m*sz<=cap*sz:=Ph _ hnc;have hsplit:i*sz+(m-i)*sz=m*sz:=by rw [<- Pm]; congr 1; omega
 have hone:∀ u ∈ (Builtin.zeroCells z.cells (m-i)).toList,u.oneCell'=true:=by
  rw [hzs]; exact Bk (λu hu=>Qa.1 h1 u hu) (by omega) _
 obtain ⟨w',hst,hh,hgr⟩:=jT (P:=x.P) Y (off+i*sz) e (Builtin.zeroCells z.cells (m-i)).toList 0 O.toList w (by simpa using hgb) (by rw [I]; simp; omega) hone
 refine ⟨.tuple #[],w',?_,H,_,ht.CT (r':=.row (.slice (some ⟨Y,off,none⟩) m cap) e sz m (xs.take (i*sz)++(Builtin.zeroCells z.cells (m-i)).toList)) hgr ⟨?_,.inr ⟨Y,off,cap,_,rfl,hh,hnc,hcm,?_,?_⟩⟩ (λb hb=>.inl hb),k⟩
 ·rw [hq] at hst hy
  simp [execOp,resolve,invoke,builtin,hsl.ev hy,Builtin.clear_,Qs hT,hz,hst]
 ·rw [Pj,Pr,I,J.1]
  omega
 ·simpa [oM] using hcs
 ·rw [Rn,Qt,vJ _ _ _ (by rw [I]; simp; omega)]
  have hd:(O.toList.take (off+i*sz)).drop off=xs.take (i*sz):=by
   rw [Re,Q2,<- htake,SX,P6 (by omega)]
  have Z:((O.toList.take (off+i*sz)).drop off++(Builtin.zeroCells z.cells (m-i)).toList).length=m*sz:=by
   rw [Pj,hd,Pr,I,J.1]; omega
  rw [Pv,RJ (by simp; omega),<- Pv,<- Z]
  rw [R4,hd]
theorem sO {α:Type}[aE α] {t e:TypeId}{n:Nat}{y lo:Operand}{v:OY}{z:OY}{zs xs:List OY}{l:List α}{ze:α}{kk:IntKind}{i:Int}{ty2:TypeId}{Y:String}{J:Array Edge}{g2:Option (Nat×Bool)}
  (hg:gd ops L ⟨some d,.slice t y (some lo) none none,ty,pos,aft,g⟩=some true) (hN:Nat.blt d x.N=true)
  (hg2:∀ u,gd ops ((d,u)::L) ⟨none,.call ⟨.builtin .clear,#[.tmp d],#[t]⟩,ty2,Y,J,g2⟩=some true)
  (hT:x.P.underlying t=some (.slice e)) (hT2:∀ w,(underlying t).run x.P w=.ok (.slice e) w) (hsz:∀ w,(sizeOf e).run x.P w=.ok (aE.sz α) w)
  (hz:∀ w,(zeroValue e).run x.P w=.ok z w) (hzs:z.cells=zs.toArray) (h1:zs.all Value.oneCell'=true) (hs:Nat.blt 0 (aE.sz α)=true) (hE:aE.E H zs ze)
  (hy:ev L y=some v) (hlo:ev L lo=some (.int kk i)) (hx:Rw H v xs l) (hb:0<=i/\i<=(l.length:Int))
  (k:∀ u I,Rw H v I (l.take i.toNat++List.replicate (l.length-i.toNat) ze)->W x ops Q rest H (.row v e (aE.sz α) (l.take i.toNat++List.replicate (l.length-i.toNat) ze).length I::M) ((d,u)::L)):
  W x ops Q (⟨some d,.slice t y (some lo) none none,ty,pos,aft,g⟩::⟨none,.call ⟨.builtin .clear,#[.tmp d],#[t]⟩,ty2,Y,J,g2⟩::rest) H (.row v e (aE.sz α) n xs::M) L:=by
 obtain ⟨hb0,hb1⟩:=hb;obtain ⟨q,rfl⟩:∃ q:Nat,i=q:=⟨i.toNat,by omega⟩
 have hql:q<=l.length:=by omega
 rw [O2] at k;have hs':0<aE.sz α:=by simpa [P9] using hs
 have hlen:(l.take q++List.replicate (l.length-q) ze).length=l.length:=by simp; omega
 have hlk:∀ u,ev ((d,u)::L) (.tmp d)=some u:=λu=>by simp [ev,sI]
 have hn:∀ {a:Act}{w:World},St x.B x.w0 H (.row v e (aE.sz α) n xs::M) w->n=l.length:=λ{a w} ht=>by
  have hok:iB w e (aE.sz α) v n xs:=ht.ok _ (O5 ..);have h1:=hx.rd.len;rw [hok.1] at h1;exact QD hs' h1
 have same:l.length=q->∀ {L2:Env},(∀ I,Rw H v I (l.take q++List.replicate (l.length-q) ze)->W x ops Q rest H (.row v e (aE.sz α) (l.take q++List.replicate (l.length-q) ze).length I::M) L2)->W x ops Q rest H (.row v e (aE.sz α) n xs::M) L2:=by
  intro hq L2 kk a w O ht;have hnn:=hn (a:=a) ht;subst hnn;have e:l.take q++List.replicate (l.length-q) ze=l:=by rw [hq,Qg,<- hq,QJ]; simp
  have:=kk xs (by rw [e]; exact hx)
  rw [e] at this;exact this a w O ht
 intro a w O ht;have hnn:=hn (a:=a) ht;subst hnn;have hok:iB w e (aE.sz α) v l.length xs:=ht.ok _ (O5 ..)
 revert a w
 suffices hh:∀ (oo:Option Addr) (cap:Nat),v=.slice oo l.length cap->l.length<=cap->(q<l.length->∃ gb off,oo=some ⟨gb,off,none⟩) ->
   W x ops Q (⟨some d,.slice t y (some lo) none none,ty,pos,aft,g⟩::⟨none,.call ⟨.builtin .clear,#[.tmp d],#[t]⟩,ty2,Y,J,g2⟩::rest) H (.row v e (aE.sz α) l.length xs::M) L by
  intro a w O ht hok;rcases hok.2 with ⟨e0,h0⟩ | ⟨gb,off,cap,cur,e0,_,hnc,_⟩
  ·exact hh none 0 (by rw [h0]; exact e0) (by omega) (λh=>by omega) a w O ht
  ·exact hh (some ⟨gb,off,none⟩) cap e0 hnc (λ_=>⟨gb,off,rfl⟩) a w O ht
 intro oo cap hv hnc hsome;subst hv
 by_cases hq:l.length=q
 ·refine sR (m:=cap) (h:=l.length) (l:=q) hg hN hT2 hsz hy (.inl rfl) (.inl ⟨rfl,rfl⟩) (.inl ⟨rfl,rfl⟩) (.inr ⟨_,_,_,rfl,hlo,by omega,by omega,by omega⟩) (v':=.slice (if cap=q then oo else oo.map (·.add (q*aE.sz α))) 0 (cap-q)) (by rw [hq,Qg]) ?_
  exact HA (hg2 _) hT (hlk _) (same hq (λI hx'=>k _ I hx'))
 ·obtain ⟨gb,off,rfl⟩:=hsome (by omega)
  refine sR (m:=cap) (h:=l.length) (l:=q) hg hN hT2 hsz hy (.inl rfl) (.inl ⟨rfl,rfl⟩) (.inl ⟨rfl,rfl⟩) (.inr ⟨_,_,_,rfl,hlo,by omega,by omega,by omega⟩) (v':=.slice (some ⟨gb,off+q*aE.sz α,none⟩) (l.length-q) (cap-q)) (by rw [O7 (by omega),Qp,P8]) ?_
  have hzl:zs.length=aE.sz α:=aE.len hE;refine C3 (i:=q) (sz:=aE.sz α) (hg2 _) hT hz hzs hzl h1 hs (by omega) (hlk _) ?_
  have Z:(Builtin.zeroCells z.cells (l.length-q)).toList=(List.range ((l.length-q)*aE.sz α)).map (zs.toArray[·%zs.length]!):=by
   unfold Builtin.zeroCells;rw [hzs];simp [hzl]
  have hrw:Rw H (.slice (some ⟨gb,off,none⟩) l.length cap) (xs.take (q*aE.sz α)++(Builtin.zeroCells z.cells (l.length-q)).toList) (l.take q++List.replicate (l.length-q) ze):=
   ⟨(hx.rd.split q).1.app (by rw [Z]; exact Lc hE hzl _),_,_,_,rfl⟩
  have:=k (.slice (some ⟨gb,off+q*aE.sz α,none⟩) (l.length-q) (cap-q)) _ hrw;rw [hlen] at this;exact this
end
theorem Fa (k:Nat):nr .u64 (k:Int) 32=((k / 4294967296:Nat):Int):=by
 unfold nr;rw [show (2:Int) ^ (min (32:Int).toNat u64.bits)=4294967296 from rfl];rw [Rv _ (by decide)]
 omega
def E5 {α:Type} (s:List α) (n:Int):List α:=(List.replicate n.toNat s).flatten
theorem wX {α:Type} (a:α) (m:Nat):E5 [a] (m:Int)=List.replicate m a:=by
 unfold E5;rw [O2]
 induction m with
 | zero=>rfl
 | succ m ih=>rw [Rl,Rl,List.flatten_cons,ih]; rfl
theorem DO {α:Type}{a:α}{l:List α}{q:Nat} (h:l.take q=List.replicate q a) (J:q<=l.length):
  (l.take q++l.take (min q (l.length-q))++l.drop (q+min q (l.length-q))).take (q+min q (l.length-q))=List.replicate (q+min q (l.length-q)) a:=by
 have I:l.take (min q (l.length-q))=List.replicate (min q (l.length-q)) a:=by
  have:=P4 (List.take (min q (l.length-q))) h
  rwa [SX,List.take_replicate,show min (min q (l.length-q)) q=min q (l.length-q) by omega] at this
 rw [h,I,List.replicate_append_replicate];rw [List.take_append_of_le_length (by simp),Pg (by simp)]
section
variable {B:Nat}{w0 w w':World}{H:Hp}{M:List bL}
theorem St.var? (ht:St B w0 H M w) {P:Program}{n:String}{g:Nat} (J:P.globalNamed n=some g) (I:g<B):w.var? P n=w0.var? P n:=by
 unfold World.var?;rw [J];simp only [Ry];rw [ht.below.block g I]
theorem St.under (ht:St B w0 H M w) (I:Below w.heap.size w w'):St B w0 H M w':=
 ht.grow ⟨I.os,I.tape,I.output,I.size,λi hi _=>I.block i hi⟩
theorem St.OE (ht:St B w0 H M w) {P:Program}{n:String}{g:Nat}{k:IntKind}{zs:List Int} (J:Lib.TabIs P w0 n k zs) (O:P.globalNamed n=some g) (I:g<B):Lib.TabIs P w n k zs:=
 (ht.var? O I).trans J
end
theorem Mi {P:Program}{W:World}{n:String}{g:Nat}{cs:Array OY} (I:P.globalNamed n=some g) (h:W.var? P n=some cs):g<W.heap.size:=by
 unfold World.var? at h;rw [I] at h;simp only [Ry] at h
 split at h
 ·rename_i o _ _ ho
  exact (Ql.1 ho).1
 ·cases h
def Le (v:OY) (b:Bool):Prop:=(b=false/\v=.nilIface)\/(b=true/\∃ T p,v=.iface T p)
section
variable {x:Cx}{ops:Array Oper}{Q:k_}{rest:List Oper}{H:Hp}{M:List bL}{L:Env}
variable {d:Nat}{ty:TypeId}{pos:String}{aft:Array Edge}{g:Option (Nat×Bool)}
theorem JM {t u:TypeId}{y:Operand}{v:OY}{b:Bool}{ms:Array (String×TypeId)} (J:∀ w,(underlying t).run x.P w=.ok (.interface ms) w) (he:Le v b) (Z:gd ops L ⟨some d,.binOp .neq t y (.const .nilIface) u,ty,pos,aft,g⟩=some true) (hN:Nat.blt d x.N=true)
  (O:ev L y=some v) (k:W x ops Q rest H M ((d,.bool b)::L)):W x ops Q (⟨some d,.binOp .neq t y (.const .nilIface) u,ty,pos,aft,g⟩::rest) H M L:=
 eT rfl Z hN (λc w hs _=>by
  have Y:c.eval (.const .nilIface)=.nilIface:=rfl;rcases he with ⟨rfl,rfl⟩ | ⟨rfl,T,p,rfl⟩
  ·have key:∀ k,(Op.equalIn (k+1) t .nilIface .nilIface).run x.P w=.ok true w:=λk=>by
    unfold Op.equalIn;simp [J]
   have I:(Op.equal t .nilIface .nilIface).run x.P w=.ok true w:=key 9999;simp only [execOp,hs.ev O,Y,Pf,eqGuard,binOp];simp [I]
  ·have key:∀ k,(Op.equalIn (k+1) t (.iface T p) .nilIface).run x.P w=.ok false w:=λk=>by
    unfold Op.equalIn;simp [J]
   have I:(Op.equal t (.iface T p) .nilIface).run x.P w=.ok false w:=key 9999;simp only [execOp,hs.ev O,Y,Pf,eqGuard,binOp];simp [I]) k
def ye (l:List U8):OX:=⟨(l.map λy=>UInt8.ofNat y.n.toNat).toArray⟩
theorem Ar:∀ (ns:List Int) (r:OX),ns.foldl (λr n=>r.push (UInt8.ofNat n.toNat)) r=⟨r.data++(ns.map λn=>UInt8.ofNat n.toNat).toArray⟩
 | [],r=>by simp
 | n::ns,r=>by
  rw [List.foldl_cons,Ar ns];simp [ByteArray.push]
theorem aN.bytes {H:Hp}{v:OY}{l:List U8} (hR:aN H v l) {B:Nat}{w0 w:World}{M:List bL}{P:Program} (ht:St B w0 H M w):(Conv.bytesToString v).run P w=.ok (.string (ye l)) w:=by
 rcases hR with ⟨⟨a,rfl⟩,rfl⟩ | ⟨b,off,cap,arr,T,fz,rfl,h2,h3,Y,h5,Z⟩
 ·cases a with
  | none=>rfl
  | some a=>
   rw [run_bytesToString w a 0 0 [] (by simp [loadCells,loadCellsFrom,Pp])]
   rfl
 ·have hl:=run_loadCells_list (P:=P) w ⟨b,off,none⟩ ((l.map λy=>y.n).map (Value.int .u8)) (λj v O=>by
   rw [Pw,Pw,Option.map_map,Sr] at O;obtain ⟨y,hy,rfl⟩:=O;obtain ⟨cs,J,q2⟩:=Z j y hy;have J:cs=[.int .u8 y.n]:=J;have:=q2 0 (.int .u8 y.n) (by rw [J]; rfl)
   have hb:=ht.tK b _ Y;rw [P8];simp only [World.cell?,hb];simpa [aE.sz] using this)
  simp only [QR] at hl;rw [run_bytesToString w ⟨b,off,none⟩ l.length cap _ hl,Ar];have I:ByteArray.empty.data=#[]:=rfl;rw [I];simp [ye,List.map_map,Function.comp_def]
end
def r9 (n:Int):OX:=⟨(Lib.itoa n).toArray⟩
def Ks (s:OX):Int×Bool:=match Lib.parseUintM 4294967295 0 s.data.toList with
 | .ok v=>((v:Int),false)
 | .range=>(4294967295,true)
 | _=>(0,true)
end Go.Sim
namespace Go.Sim
open Go
open _root_.Go.IntKind (i64 u64 u32 u8)
abbrev u4 (b c:Nat) (seen:Array Nat):Obj:=.mapIter (some b) c seen c
theorem G6 {P:Program}{w:World}{ty:TypeId}{b c Y:Nat}{seen:Array Nat}{es:Array MapEntry} (hi:w.heap[Y]? = some (u4 b c seen)) (hb:w.heap[b]? = some (.map es c)) (J:∀ e ∈ es.toList,e.born<c):
  ((∀ e ∈ es.toList,seen.contains e.born=true)/\(Instr.next (.pointer (some ⟨Y,0,none⟩)) false ty).run P w=.ok (.tuple #[.bool false]) w) \/
  ∃ e ∈ es.toList,seen.contains e.born=false/\∃ n,(Instr.next (.pointer (some ⟨Y,0,none⟩)) false ty).run P w=.ok (.tuple #[.bool true,e.key,e.val]) { w with drawn:=n,heap:=w.heap.setIfInBounds Y (u4 b c (seen.push e.born)) }:=by
 simp only [Instr.next,getObj,Pf,Sem.run,hi,hb,Result.andThen,next_test_false seen es c c J (Pn _),Qw,Q6];have I:∀ x ∈ (Array.filter (λe=>!seen.contains e.born) es).toList,x ∈ es.toList/\seen.contains x.born=false:=λx hx=>by simpa using hx
 have O:Array.filter (λe=>!seen.contains e.born) es=#[]->∀ e ∈ es.toList,seen.contains e.born=true:=λh e he=>by
  rw [Array.filter_eq_empty_iff] at h;have:=h e (by simpa using he)
  simpa using this
 generalize Array.filter (λe=>!seen.contains e.born) es=K at I O ⊢;have e1:K.filter (λx=>decide (x.born<c))=K:=Array.filter_eq_self.2 (λx hx=>by
  have:=J x (I x (by simpa using hx)).1
  simpa using this)
 have e2:K.filter (λx=>decide (x.born≥c))=#[]:=by
  rw [Array.filter_eq_empty_iff];intro x hx;have:=J x (I x (by simpa using hx)).1
  simp;omega
 simp only [e1,e2,Array.append_empty]
 by_cases h0:K.size=0
 ·left
  have:K=#[]:=Array.eq_empty_of_size_eq_zero h0;subst this;refine ⟨O rfl,?_⟩;simp [choose,Sem.run,Question.forced]
 ·right
  have hne:K.isEmpty=false:=by simp [Array.isEmpty,h0]
  simp only [hne,Qw,Q6,Array.empty_append,Array.size_map];have hch:∃ (j n:Nat),j<K.size/\(choose (Question.mapNext K.size)).run P w=.ok j { w with drawn:=n }:=by
   by_cases hf:K.size<=1
   ·exact ⟨0,w.drawn,by omega,by simp [choose,Sem.run,Question.forced,hf]⟩
   ·exact ⟨_,w.drawn+1,RQ _ (by omega),by
     simp only [choose,Sem.run,Question.forced,PK,hf,Q6,Question.cut]
     rfl⟩
  obtain ⟨j,n,hj,Z⟩:=hch;obtain ⟨m1,m2⟩:=I K[j] (by simp)
  refine ⟨K[j],m1,m2,n,?_⟩;have hset:∀ o,(setObj Y o).run P { w with drawn:=n }=.ok () { w with drawn:=n,heap:=w.heap.setIfInBounds Y o }:=λo=>by simp [setObj,Sem.run,hi]
  simp only [Z,Array.getElem?_map,RD hj,Qp,Pf,hset,Result.andThen]
  rfl
theorem E7 {P:Program}{w:World}{b c I:Nat}{seen:Array Nat}{es:Array MapEntry}{e:MapEntry} (hi:w.heap[I]? = some (u4 b c (seen.push e.born))) (J:w.heap[b]? = some (.map es c)) (he:e ∈ es.toList) (hn:(es.toList.map (·.born)).Nodup):
  (Instr.entry (.pointer (some ⟨I,0,none⟩))).run P w=.ok (.tuple #[e.key,e.val]) w:=by
 have O:es.find? (·.born == e.born)=some e:=by rw [<- Array.find?_toList]; exact find_born e es.toList hn he
 simp only [Instr.entry,getObj,Pf,Sem.run,hi,J,Result.andThen,Array.back?_push,bne_self_eq_false,Qw,Q6,O]
 rfl
section
variable {x:Cx}{ops:Array Oper}{Q:k_}{rest:List Oper}{H:Hp}{M M':List bL}{L L':Env}
variable {d:Nat}{ty:TypeId}{pos:String}{aft:Array Edge}{g:Option (Nat×Bool)}
variable {κ ν:Type}[DecidableEq κ] [vY κ] [MV ν]
theorem HH {t key e:TypeId}{b c:Nat}{y:Operand}{es:Array MapEntry} (hm:bL.obj b (.map es c) ∈ M)
  (Y:gd ops L ⟨some d,.range t y,ty,pos,aft,g⟩=some true) (hN:Nat.blt d x.N=true)
  (J:∀ w,(underlying t).run x.P w=.ok (.map key e) w) (Z:ev L y=some (.map (some b)))
  (k:∀ I,W x ops Q rest H (.obj I (u4 b c #[])::M) ((d,.pointer (some ⟨I,0,none⟩))::L)):
  W x ops Q (⟨some d,.range t y,ty,pos,aft,g⟩::rest) H M L:=
 r7 rfl Y hN (λa w hs ht=>⟨_,w.alloc (u4 b c #[]),by
  have O:=ht.uS hm;simp only [execOp,hs.ev Z,Instr.range,Pf,J,O_,vO O,Pp,newObj,Sem.run,World.alloc],_,_,ht.alloc _,k _⟩)
theorem JN {b c I:Nat}{y:Operand}{seen:Array Nat}{es:Array MapEntry}{l:List (κ×ν)} (hm:bL.obj b (.map es c) ∈ M) (h:rF es c l)
  (hg:gd ops L ⟨some d,.next y false,ty,pos,aft,g⟩=some true) (hN:Nat.blt d x.N=true) (O:ev L y=some (.pointer (some ⟨I,0,none⟩)))
  (k1:(∀ e ∈ es.toList,seen.contains e.born=true)->W x ops Q rest H (.obj I (u4 b c seen)::M) ((d,.tuple #[.bool false])::L))
  (k2:∀ e ∈ es.toList,seen.contains e.born=false->W x ops Q rest H (.obj I (u4 b c (seen.push e.born))::M) ((d,.tuple #[.bool true,e.key,e.val])::L)):
  W x ops Q (⟨some d,.next y false,ty,pos,aft,g⟩::rest) H (.obj I (u4 b c seen)::M) L:=
 r7 rfl hg hN (λa w hs ht=>by
  have hi:=ht.uS (O5 ..);have Z:=ht.uS (O9 _ hm);have J:I<w.heap.size:=(Ql.1 hi).1;rcases G6 (P:=x.P) (ty:=ty) hi Z h.lt with ⟨hall,hr⟩ | ⟨e,he,hne,n,hr⟩
  ·exact ⟨_,w,by simp only [execOp,hs.ev O,Pf,hr,O_,Pp],_,_,ht,k1 hall⟩
  ·refine ⟨_,{ w with drawn:=n,heap:=w.heap.setIfInBounds I (u4 b c (seen.push e.born)) },by simp only [execOp,hs.ev O,Pf,hr,O_,Pp],_,_,?_,k2 e he hne⟩
   have Y:=ht.CT (r':=.obj I (u4 b c (seen.push e.born))) (wK w I (u4 b c (seen.push e.born))) (by simp [bL.ok,J]) (λ_ hc=>.inl hc)
   exact Y.drewN n)
theorem HB {b c I:Nat}{y:Operand}{seen:Array Nat}{es:Array MapEntry}{l:List (κ×ν)}{e:MapEntry} (hi:bL.obj I (u4 b c (seen.push e.born)) ∈ M) (hm:bL.obj b (.map es c) ∈ M) (h:rF es c l) (he:e ∈ es.toList) {J O:OY} (Z:e.key=J) (hv:e.val=O)
  (Y:gd ops L ⟨some d,.entry y,ty,pos,aft,g⟩=some true) (hN:Nat.blt d x.N=true) (hy:ev L y=some (.pointer (some ⟨I,0,none⟩)))
  (k:W x ops Q rest H M ((d,.tuple #[J,O])::L)):
  W x ops Q (⟨some d,.entry y,ty,pos,aft,g⟩::rest) H M L:=
 eT rfl Y hN (λa w hs ht=>by
  subst Z; subst hv
  simp only [execOp,hs.ev hy,Pf,E7 (P:=x.P) (ht.uS hi) (ht.uS hm) he h.nd,O_,Pp]) k
end
theorem rF.pick {κ ν:Type}[DecidableEq κ] [vY κ] [MV ν] {es:Array MapEntry}{c:Nat}{l:List (κ×ν)} (h:rF es c l) {e:MapEntry} (he:e ∈ es.toList):∃ (i:Nat) (p:κ×ν),es.toList[i]? = some e/\l[i]? = some p/\e.key=MV.mv p.1/\e.val=MV.mv p.2:=by
 obtain ⟨i,hi,rfl⟩:=Qc.1 he;have I:(es.toList.map λe=>(e.key,e.val))[i]? = (l.map λp=>(MV.mv p.1,MV.mv p.2))[i]? := by rw [h.eq]
 rw [Pw,Pw,OZ hi] at I;cases J:l[i]? with
 | none=>rw [J] at I; simp at I
 | some p=>
  rw [J] at I;simp only [Qp,Pk,Rc] at I;exact ⟨i,p,OZ hi,J,I.1,I.2⟩
def ya {α:Type} (es:Array MapEntry) (seen:Array Nat) (l:List α) (P:α->Bool):Prop:=∀ (i:Nat) (p:α),l[i]? = some p->∀ e,es.toList[i]? = some e->seen.contains e.born=true->P p=false
theorem ya.nil {α:Type}{es:Array MapEntry}{l:List α}{P:α->Bool}:ya es #[] l P:=λi p I e he h=>by simp at h
theorem ya.push {κ ν:Type}[DecidableEq κ] [vY κ] [MV ν] {es:Array MapEntry}{c:Nat}{seen:Array Nat}{l:List (κ×ν)}{P:κ×ν->Bool} (hs:ya es seen l P) (h:rF es c l) {i:Nat}{p:κ×ν}{e:MapEntry}
  (hi:es.toList[i]? = some e) (hp:l[i]? = some p) (hP:P p=false):ya es (seen.push e.born) l P:=λj q hq e' Z J=>by
 by_cases hj:i=j
 ·subst hj
  rw [hp] at hq;obtain rfl:=O4 hq;exact hP
 ·refine hs j q hq e' Z ?_
  have hne:e'.born≠e.born:=λhb=>by
   obtain ⟨h1,h2⟩:=O3.1 hi;obtain ⟨h3,h4⟩:=O3.1 Z;have hpw:=RZ.1 h.nd;have O:i<(es.toList.map (·.born)).length:=by simpa using h1
   have Y:j<(es.toList.map (·.born)).length:=by simpa using h3
   rcases Nat.lt_or_gt_of_ne hj with I | I
   ·exact hpw i j O Y I (by rw [Q4,Q4,h2,h4]; exact hb.symm)
   ·exact hpw j i Y O I (by rw [Q4,Q4,h2,h4]; exact hb)
  simp at J ⊢;rcases J with J | J
  ·exact J
  ·exact absurd J hne
theorem ya.none {κ ν:Type}[DecidableEq κ] [vY κ] [MV ν] {es:Array MapEntry}{c:Nat}{seen:Array Nat}{l:List (κ×ν)}{P:κ×ν->Bool} (hs:ya es seen l P) (h:rF es c l) (I:∀ e ∈ es.toList,seen.contains e.born=true):l.any P=false:=by
 rw [List.any_eq_false];intro p Y;obtain ⟨i,hi,rfl⟩:=Qc.1 Y;have O:es.toList.length=l.length:=by have:=P4 List.length h.eq; simpa using this
 have J:i<es.toList.length:=by omega
 have:=hs i l[i] (OZ hi) es.toList[i] (OZ J) (I _ (PC J));simp [this]
theorem LG {α:Type}{l:List α}{P:α->Bool}{i:Nat}{p:α} (I:l[i]? = some p) (hP:P p=true):l.any P=true:=
 List.any_eq_true.2 ⟨p,Pb I,hP⟩
def CM (es:Array MapEntry) (seen:Array Nat):Nat:=(es.toList.filter λe=>!seen.contains e.born).length
theorem Hg {es:Array MapEntry}{seen:Array Nat}{e:MapEntry} (he:e ∈ es.toList) (h:seen.contains e.born=false):CM es (seen.push e.born)<CM es seen:=by
 unfold CM;refine filter_lt (λe=>!seen.contains e.born) (λJ=>!(seen.push e.born).contains J.born) (λy I=>?_) e (by simp only [h]; rfl) (by simp) es.toList he
 simp at I ⊢;exact I.1
end Go.Sim
namespace Go.Sim
open Go Go.RowKit
open _root_.Go.IntKind (i64 u64 u32 u8)
def Nu (b:Nat) (p:OY):Prop:=p=.pointer none\/p=.pointer (some ⟨b,0,none⟩)
theorem zv (s:OX):Lib.strCells s=(jL s).map (λy=>Value.int .u8 y.n):=by
 simp [Lib.strCells,jL,Function.comp_def]
theorem pF.u8 (H:Hp) (l:List U8):pF H (l.map λy=>Value.int .u8 y.n) l:=by
 induction l with
 | nil=>exact pF.nil
 | cons y l ih=>exact ⟨[.int .u8 y.n],_,rfl,rfl,ih⟩
theorem yY {P:Program}{w:World}{t u ty e:TypeId}{i:TypeInfo} (ht:P.underlying t=some (.slice e)) (hu:P.underlying u=some .string) (hi:P.info? e=some i) (hz:i.zero=some (.int .u8 0))
  (J:i.size=1) (hby:i.bytes=1) {v:OY}{n:Nat}{xs:List OY} (hown:iB w e 1 v n xs) (s:OX) (h63:n+s.size<=maxLen) (hbytes:n+s.size<=140737488355328):
  ∃ v' w',(Builtin.append_ #[t,u] ty #[v,.string s]).run P w=.ok v' w'/\iB w' e 1 v' (n+s.size) (xs++Lib.strCells s)/\w.grownBy w' v.ownBlock /\
   (∀ b,v'.ownBlock=some b->v.ownBlock=some b\/w.heap.size<=b):=by
 have hsmall:n+s.size<=9223372036854775807:=by simp only [maxLen] at h63; omega
 have hxl:xs.length=n:=by simpa using hown.1
 have O:(xs++Lib.strCells s).length=(n+s.size)*1:=by rw [Pj,hxl,R_,Rs]
 have Y:∀ (uj:Nat) (row:Option Nat),
   iB (w.drew.alloc (.cells (xs.toArray++(Lib.strCells s).toArray++Builtin.zeroCells (Value.int .u8 0).cells (grownCap w (n+s.size) uj e-(n+s.size))) e)) e 1
    (.slice (some ⟨w.heap.size,0,none⟩) (n+s.size) (grownCap w (n+s.size) uj e)) (n+s.size) (xs++Lib.strCells s) /\
   w.grownBy (w.drew.alloc (.cells (xs.toArray++(Lib.strCells s).toArray++Builtin.zeroCells (Value.int .u8 0).cells (grownCap w (n+s.size) uj e-(n+s.size))) e)) row:=by
  intro uj row;have hge:=Tv w (n+s.size) uj e;have hcm:grownCap w (n+s.size) uj e<=maxLen:=SU w (n+s.size) uj e h63;refine ⟨⟨O,.inr ⟨w.heap.size,0,_,_,rfl,S0 w.drew _,hge,hcm,?_,?_⟩⟩,⟨rfl,rfl,rfl,by simp,λk hk _=>heap_alloc_old w.drew _ (h:=hk)⟩⟩
  ·have hz1:(Value.int u8 0).cells.size=1:=rfl
   simp only [Array.size_append,RG,size_zeroCells,hz1,hxl,R_];omega
  ·simp only [Qi,Tm,Pv]
   rw [<- Pv,<- O];exact R4
 rcases hown.2 with ⟨rfl,rfl⟩ | ⟨g,off,cap,cur,rfl,hg,hnc,hcm,hcs,htake⟩
 ·have hx:xs=[]:=Py hxl
  subst hx
  by_cases hm:s.size=0
  ·have hn:Lib.strCells s=[]:=Py (by rw [R_]; exact hm)
   refine ⟨.slice none 0 0,w,?_,by rw [hm,hn]; exact iB.nil w e 1,⟨rfl,rfl,rfl,Pn _,λ_ _ _=>rfl⟩,by simp [Value.ownBlock]⟩
   have hf:=Lib.run_firstCells_string (P:=P) w 1 s;rw [hm] at hf;simp [Builtin.append_,Qs ht,Qs hu,sizeOf,typeInfo,hi,J,Builtin.lenOf,hm,hf]
  ·have hr:=run_append_nil_string (P:=P) w t u ty e i (.int .u8 0) ht hu hi hz s (by omega) (by omega) (by rw [hby]; omega)
   have I:=Y 0 (Value.ownBlock (.slice none 0 0));simp only [Po,Qz,Array.empty_append] at I ⊢;have e1:(s.data.map λb=>Value.int .u8 b.toNat)=(Lib.strCells s).toArray:=by
    apply Array.ext';simp [Lib.strCells]
   rw [e1] at hr;exact ⟨_,_,hr,I.1,I.2,λb hb=>.inr (by simp only [Value.ownBlock,Pk] at hb; omega)⟩
 ·have hcs':off+cap<=cur.size:=by simpa using hcs
  by_cases Z:n+s.size<=cap
  ·have hf:=Lib.run_firstCells_string (P:=P) w 1 s
   obtain ⟨w',hst,hh,I⟩:=jT (P:=P) g (off+n) e (Lib.strCells s) 0 cur.toList w (by simpa using hg) (by rw [R_]; simp; omega) (Lib.strCells_oneCell s)
   refine ⟨.slice (some ⟨g,off,none⟩) (n+s.size) cap,w',?_,⟨O,.inr ⟨g,off,cap,_,rfl,hh,Z,hcm,?_,?_⟩⟩,I,λb hb=>.inl hb⟩
   ·simp [Builtin.append_,Qs ht,Qs hu,sizeOf,typeInfo,hi,J,Builtin.lenOf,Z,hf,P8,hst]
   ·simpa [oM] using hcs
   ·rw [Rn,Qt,vJ _ _ _ (by rw [R_]; simp; omega)]
    have hd:(cur.toList.take (off+n)).drop off=xs:=by rw [Re,Q2]; simpa using htake
    rw [Pv,RJ (by simp; omega),hd,<- Pv,<- O]
    exact R4
  ·have holds:∀ j u,xs[j]? = some u->w.cell? ((⟨g,off,none⟩:Addr).add j)=some u:=by
    intro j u hu;rw [P8];refine Td hg rfl ?_;rw [<- htake,PR] at hu
    split at hu
    ·rw [PJ] at hu; simpa using hu
    ·cases hu
   have hr:=Lib.run_append_grow_string (P:=P) w t u ty e i (.int .u8 0) ht hu hi hz ⟨g,off,none⟩ n cap xs (by rw [J]; simpa using hxl) holds s (by omega) (by omega) (by rw [hby]; exact Tt (by omega) (by omega))
   have I:=Y cap (Value.ownBlock (.slice (some ⟨g,off,none⟩) n cap));exact ⟨_,_,hr,I.1,I.2,λb hb=>.inr (by simp only [Value.ownBlock,Pk] at hb; omega)⟩
section
variable {x:Cx}{ops:Array Oper}{Q:k_}{rest:List Oper}{H:Hp}{M M':List bL}{L L':Env}
variable {d:Nat}{ty:TypeId}{pos:String}{aft:Array Edge}{g:Option (Nat×Bool)}
theorem C2 {t u e:TypeId}{n:Nat}{y z:Operand}{v:OY}{xs:List OY}{l:List U8}{s:OX}
  (hg:gd ops L ⟨some d,.call ⟨.builtin .append,#[y,z],#[t,u]⟩,ty,pos,aft,g⟩=some true) (hN:Nat.blt d x.N=true)
  (hT:x.P.underlying t=some (.slice e)) (hU:x.P.underlying u=some .string) (hi:Mw x.P e 1 1 (.int .u8 0))
  (hy:ev L y=some v) (hz:ev L z=some (.string s)) (hx:Rw H v xs l) (hb:l.length+s.size<=140737488355328)
  (k:∀ v' Y,Rw H v' Y (l++jL s)->W x ops Q rest H (.row v' e (aE.sz U8) (l++jL s).length Y::M) ((d,v')::L)):
  W x ops Q (⟨some d,.call ⟨.builtin .append,#[y,z],#[t,u]⟩,ty,pos,aft,g⟩::rest) H (.row v e (aE.sz U8) n xs::M) L:=by
 obtain ⟨i,h1,h2,h3,h4⟩:=hi.ex;refine r7 rfl hg hN λa w O ht=>?_;have I:iB w e 1 v n xs:=ht.ok _ (O5 ..);have hn:n=l.length:=by
  have:=hx.rd.len;rw [I.1] at this;exact QD (Nat.zero_lt_one) this
 subst hn;obtain ⟨v',w',hr,ho,hgr,Z⟩:=yY (P:=x.P) (ty:=ty) hT hU h1 h4 h2 h3 I s (by unfold maxLen; omega) hb
 have J:(l++jL s).length=l.length+s.size:=by rw [Pj,xH]
 have hok:bL.ok w' (.row v' e (aE.sz U8) (l++jL s).length (xs++Lib.strCells s)):=by rw [J]; exact ho
 refine ⟨v',w',?_,H,_,ht.CT (r':=.row v' e (aE.sz U8) (l++jL s).length (xs++Lib.strCells s)) hgr hok Z,k v' _ ⟨?_,ho.shape⟩⟩
 ·simp [execOp,resolve,invoke,builtin,O.ev hy,O.ev hz,hr]
 ·rw [zv]
  exact hx.rd.app (pF.u8 H _)
theorem C7 {t e u:TypeId}{y z:Operand}{a:Addr} (hi:∃ j,x.P.info? e=some j) (J:gd ops L ⟨some d,.binOp .neq t y z u,ty,pos,aft,g⟩=some true) (hN:Nat.blt d x.N=true)
  (I:x.P.underlying t=some (.pointer e)) (Y:ev L y=some (.pointer (some a))) (Z:ev L z=some (.pointer (some a)))
  (k:W x ops Q rest H M ((d,.bool false)::L)):W x ops Q (⟨some d,.binOp .neq t y z u,ty,pos,aft,g⟩::rest) H M L:=
 eT rfl J hN (λc w hs _=>by
  obtain ⟨j,O⟩:=hi;have h:=Lib.run_neq_ptr_same (P:=x.P) w a I O;simp only [execOp,hs.ev Y,hs.ev Z,Pf,eqGuard];simp [h]) k
theorem BF {B:Nat}{w0 w:World}{b:Nat}{cs:List OY}{T:TypeId} (ht:St B w0 H M w) (hm:bL.obj b (.cells cs.toArray T (0,0)) ∈ M):w.shape? b=some (T,cs.length):=by
 have h:=ht.uS hm;simp [World.shape?,h]
theorem Eb {src I T e:TypeId}{y:Operand}{b o:Nat}{cs:List OY} (hm:bL.obj b (.cells cs.toArray e (0,0)) ∈ M) (ho:Nat.blt o cs.length=true)
  (hi:∃ j,x.P.info? T=some j/\Nat.beq j.size 0=false) (Z:gd ops L ⟨some d,.convert src I y,ty,pos,aft,g⟩=some true) (hN:Nat.blt d x.N=true)
  (hs:x.P.underlying src=some (.pointer T)) (Y:x.P.underlying I=some .unsafePointer) (hy:ev L y=some (.pointer (some ⟨b,o,none⟩)))
  (k:W x ops Q rest H M ((d,.pointer (some ⟨b,o,none⟩))::L)):W x ops Q (⟨some d,.convert src I y,ty,pos,aft,g⟩::rest) H M L:=
 eT rfl Z hN (λc w O ht=>by
  obtain ⟨j,hj,J⟩:=hi;have h:=Lib.run_to_unsafe (P:=x.P) w ⟨b,o,none⟩ hs Y hj (λe=>by rw [e] at J; cases J) (BF ht hm) (by simpa [P9] using ho)
  simp only [execOp,O.ev hy,Pf,h,O_,Pp]) k
theorem BV {src I T e:TypeId}{y:Operand}{b o:Nat}{cs:List OY} (hm:bL.obj b (.cells cs.toArray e (0,0)) ∈ M)
  (hi:∃ j,x.P.info? T=some j) (hl:liesAt x.P x.P.depth e (cs.length / x.P.cellsOf e) o T 1=true) (Y:gd ops L ⟨some d,.convert src I y,ty,pos,aft,g⟩=some true) (hN:Nat.blt d x.N=true)
  (hs:x.P.underlying src=some .unsafePointer) (O:x.P.underlying I=some (.pointer T)) (hy:ev L y=some (.pointer (some ⟨b,o,none⟩)))
  (k:W x ops Q rest H M ((d,.pointer (some ⟨b,o,none⟩))::L)):W x ops Q (⟨some d,.convert src I y,ty,pos,aft,g⟩::rest) H M L:=
 eT rfl Y hN (λc w J ht=>by
  obtain ⟨j,Z⟩:=hi;have h:=Lib.run_from_unsafe (P:=x.P) w ⟨b,o,none⟩ hs O Z (BF ht hm) hl;simp only [execOp,J.ev hy,Pf,h,O_,Pp]) k
theorem Cs {P:Program}{f:FuncId}{I:Func} (hf:P.funcs[f]? = some I) (J:(I.name == "runtime.NumGoroutine")=false) (O:I.body.isNone=true) (Y:Extern.findNext I=none) (Z:Extern.find I=some Extern.AbiNoEscape.same) (v:OY):
  ∀ w,(callFunc f [v].toArray).run P w=.ok (.value v) w:=λw=>by
 rw [run_callFunc_extern hf J O Y Z,show [v].toArray=#[v] from rfl,Lib.run_noEscape]
 rfl
theorem C8 {J:Array TypeId}{y:Operand}{a:Addr}{n c:Nat} (Y:gd ops L ⟨some d,.call ⟨.builtin .unsafeSliceData,#[y],J⟩,ty,pos,aft,g⟩=some true) (hN:Nat.blt d x.N=true)
  (Z:ev L y=some (.slice (some a) n c)) (O:c≠0) (k:W x ops Q rest H M ((d,.pointer (some a))::L)):
  W x ops Q (⟨some d,.call ⟨.builtin .unsafeSliceData,#[y],J⟩,ty,pos,aft,g⟩::rest) H M L:=
 eT rfl Y hN (λs w I ht=>by
  have h:=Lib.run_unsafeSliceData_row (P:=x.P) w J ty a n c O;simp [execOp,resolve,invoke,builtin,I.ev Z,h]) k
theorem wZ {P:Program} (w:World):∀ (l:List U8) (a:Addr) (acc:OX),(∀ j y,l[j]? = some y->w.cell? (a.add j)=some (.int .u8 y.n)) ->
  (loadBytes a acc l.length).run P w=.ok ⟨acc.data++(l.map λy=>UInt8.ofNat y.n.toNat).toArray⟩ w
 | [],a,acc,_=>by simp [loadBytes]
 | y::l,a,acc,h=>by
  have J:w.cell? a=some (.int .u8 y.n):=by
   have:=h 0 y rfl;simpa [Addr.add] using this
  have ih:=wZ (P:=P) w l (a.add 1) (acc.push (UInt8.ofNat y.n.toNat)) (λj z Y=>by
   have:=h (j+1) z (by simpa using Y)
   have e:(a.add 1).add j=a.add (j+1):=by
    unfold Addr.add
    by_cases I:j=0
    ·subst I; simp
    ·simp [I]; omega
   rw [e]; exact this)
  have O:(y.n.toNat).toUInt8=UInt8.ofNat y.n.toNat:=rfl;simp only [Pa,loadBytes,Pf,run_load,J,Result.andThen,O];rw [ih]
  congr 1
  apply ByteArray.ext;simp [ByteArray.push]
theorem Bf {P:Program}{e:TypeId} (O:P.cellsOf e=1) (I off n:Nat) (hn:off+n<=I):liesAt P P.depth e I off e n=true:=by
 have J:P.depth=(2*(P.types.size+Made.depth)+1)+1:=rfl;rw [J];simp only [liesAt,Qy]
 left
 rw [J];simp [rowAt,O,hn,sameLayout,Nat.mod_one]
theorem C9 {pt it e:TypeId}{y z:Operand}{I off n cap:Nat}{xs:List OY}{l:List U8}
  (hg:gd ops L ⟨some d,.call ⟨.builtin .unsafeString,#[y,z],#[pt,it]⟩,ty,pos,aft,g⟩=some true) (hN:Nat.blt d x.N=true)
  (hp:x.P.underlying pt=some (.pointer e)) (hc:x.P.cellsOf e=1)
  (hy:ev L y=some (.pointer (some ⟨I,off,none⟩))) (hz:ev L z=some (.int .i64 (l.length:Int))) (h0:0<l.length)
  (hx:Rw H (.slice (some ⟨I,off,none⟩) n cap) xs l)
  (k:W x ops Q rest H M ((d,.string (ye l))::L)):
  W x ops Q (⟨some d,.call ⟨.builtin .unsafeString,#[y,z],#[pt,it]⟩,ty,pos,aft,g⟩::rest) H (.row (.slice (some ⟨I,off,none⟩) n cap) e (aE.sz U8) n xs::M) L:=by
 refine r7 rfl hg hN λa w hsl ht=>?_;have J:iB w e 1 (.slice (some ⟨I,off,none⟩) n cap) n xs:=ht.ok _ (O5 ..);have hn:n=l.length:=by
  have:=hx.rd.len;rw [J.1] at this;exact QD (Nat.zero_lt_one) this
 rcases J.2 with ⟨h,_⟩ | ⟨g',off',nq,O,he,hgc,hnc,hcm,hcs,htake⟩
 ·cases h
 cases he;have hcs':off+cap<=O.size:=by simpa using hcs
 have hsh:w.shape? I=some (e,O.size):=by simp [World.shape?,hgc]
 have Y:∀ j y,l[j]? = some y->w.cell? ((⟨I,off,none⟩:Addr).add j)=some (.int .u8 y.n):=by
  intro j y hj;obtain ⟨cs,h1,h2⟩:=hx.rd.get j y hj;have h1:cs=[.int .u8 y.n]:=h1;have h3:=h2 0 (.int .u8 y.n) (by rw [h1]; rfl)
  rw [P8];refine Td hgc rfl ?_;rw [<- htake,PR] at h3
  split at h3
  ·rw [PJ] at h3
   simpa [aE.sz] using h3
  ·cases h3
 have hlb:=wZ (P:=x.P) w l ⟨I,off,none⟩ .empty Y;have Z:=Bf (P:=x.P) hc (O.size / x.P.cellsOf e) off l.length (by rw [hc,Nat.div_one]; omega)
 have hmax:i64.max=9223372036854775807:=rfl;have hl0:l.length≠0:=by omega
 have h63':¬ (9223372036854775807:Int)<(l.length:Int):=by unfold maxLen at hcm; omega
 have hneg:¬ (l.length:Int)<0:=by omega
 have hrun:(Builtin.unsafeString_ #[pt,it] ty #[.pointer (some ⟨I,off,none⟩),.int .i64 l.length]).run x.P w=.ok (.string (ye l)) (w.freeze ⟨I,off,none⟩ l.length):=by
  have hdef:Builtin.unsafeString_ #[pt,it] ty #[.pointer (some ⟨I,off,none⟩),.int .i64 l.length] =
    (do
     let n <- asInt (.int .i64 l.length)
     if n<0 then runtimePanic (.error "unsafe.String: len out of range")
     if n > i64.max then unsupported (.unsafePointer "String: a length above the largest int")
     if n=0 then pure (.string .empty)
     else if <- variablesAt ⟨I,off,none⟩ (<- elemOf pt) n.toNat then do
      let s <- loadBytes ⟨I,off,none⟩ .empty n.toNat
      freeze ⟨I,off,none⟩ n.toNat
      pure (.string s)
     else unsupported (.unsafePointer "String: not so many bytes at ptr")):=rfl
  rw [hdef];have he0:ByteArray.empty.data=#[]:=rfl;simp [asInt,asIntOf,hmax,h63',hneg,hl0,variablesAt,hsh,elemOf,Qs hp,Z,hlb,ye]
 have hgr:w.grownBy (w.freeze ⟨I,off,none⟩ l.length) (some I):=by
  unfold World.freeze
  split
  ·exact ⟨rfl,rfl,rfl,Pn _,λ_ _ _=>rfl⟩
  ·exact ⟨rfl,rfl,rfl,by simp,λq hq hne=>by
    simp only [S8];rw [O7 (by intro e; exact hne (by rw [e]))]⟩
 have h1:=ht.CT (r':=.row (.slice none 0 0) 0 1 0 []) hgr (iB.nil _ _ _) (by intro b hb; simp [bL.yk,Value.ownBlock] at hb)
 refine ⟨.string (ye l),w.freeze ⟨I,off,none⟩ l.length,?_,H,M,h1.tail,k⟩;simp [execOp,resolve,invoke,builtin,hsl.ev hy,hsl.ev hz,hrun]
end
end Go.Sim
namespace Go.Sim
open Go
open _root_.Go.IntKind (i64 u64 u32 u8)
def rowsOf (T:TypeId) (sz:Nat) {α:Type} (ws:List (OY×List OY)) (ls:List (List α)):List bL:=List.zipWith (λw l=>bL.row w.1 T sz l.length w.2) ws ls
structure Mx {α:Type}[aE α] (T1 T2:TypeId) (H:Hp) (v:OY) (hs:List OY) (mx:List bL) (sg:List Nat) (ls:List (List α)):Prop where
 ex:∃ (xs:List OY) (ws:List (OY×List OY)),mx=.row v T1 1 sg.length xs::rowsOf T2 (aE.sz α) ws ls/\ws.length=ls.length/\ws.map (·.1)=hs/\(∀ (k:Nat) (w:OY×List OY) (l:List α),ws[k]? = some w->ls[k]? = some l->Rw H w.1 w.2 l) /\
  xs.length=sg.length/\(∀ (i k:Nat),sg[i]? = some k->∃ w:OY×List OY,ws[k]? = some w/\xs[i]? = some w.1)
 sl:∃ a n c,v=.slice a n c
section
variable {α:Type}[aE α] {T1 T2:TypeId}{H H':Hp}{v:OY}{hs:List OY}{mx:List bL}{sg:List Nat}{ls:List (List α)}
theorem Mx.mono (h:Mx T1 T2 H v hs mx sg ls) (J:H.le H'):Mx T1 T2 H' v hs mx sg ls:=by
 obtain ⟨xs,ws,O,Y,I,Z,h4,h5⟩:=h.ex;exact ⟨⟨xs,ws,O,Y,I,λk w l a b=>(Z k w l a b).mono J,h4,h5⟩,h.sl⟩
theorem EG {ws:List (OY×List OY)}{k:Nat}{w:OY} (J:ws.map (·.1)=hs) (I:hs[k]? = some w):∃ u,ws[k]? = some u/\u.1=w:=by
 rw [<- J,Pw] at I;cases e:ws[k]? with
 | none=>rw [e] at I; simp at I
 | some u=>rw [e] at I; exact ⟨u,rfl,O4 I⟩
theorem Mx.row (h:Mx T1 T2 H v hs mx sg ls) {k:Nat}{w:OY} (Z:hs[k]? = some w):∃ (xs:List OY) (m1 m2:List bL),k<ls.length/\mx=m1++.row w T2 (aE.sz α) ((ls[k]?).getD []).length xs::m2/\Rw H w xs ((ls[k]?).getD []) /\
  ∀ (H':Hp) (I:List OY) (l':List α),H.le H'->Rw H' w I l'->Mx T1 T2 H' v hs (m1++.row w T2 (aE.sz α) l'.length I::m2) sg (ls.set k l'):=by
 obtain ⟨oxs,ws,rfl,h2,h2',h3,h4,h5⟩:=h.ex;have hh:=Z;clear Z;obtain ⟨w,Z,rfl⟩:=EG h2' hh;have J:k<ws.length:=(O3.1 Z).1;have hk:k<ls.length:=by omega
 have hl:=OZ hk;have hwe:ws[k]=w:=by rw [OZ J] at Z; exact O4 Z
 have hsp:∀ (ws:List (OY×List OY)) (ls:List (List α)) (h1:k<ws.length) (h2:k<ls.length),rowsOf T2 (aE.sz α) ws ls=rowsOf T2 (aE.sz α) (ws.take k) (ls.take k)++.row ws[k].1 T2 (aE.sz α) ls[k].length ws[k].2::rowsOf T2 (aE.sz α) (ws.drop (k+1)) (ls.drop (k+1)):=λws ls h1 h2=>by
  have e1:ws=ws.take k++ws[k]::ws.drop (k+1):=by rw [<- Pz h1,Qn]
  have e2:ls=ls.take k++ls[k]::ls.drop (k+1):=by rw [<- Pz h2,Qn]
  have e3:rowsOf T2 (aE.sz α) ws ls=rowsOf T2 (aE.sz α) (ws.take k++ws[k]::ws.drop (k+1)) (ls.take k++ls[k]::ls.drop (k+1)):=by rw [<- e1,<- e2]
  rw [e3];unfold rowsOf;rw [Sc (by simp; omega)]
  rfl
 have hg:(ls[k]?).getD []=ls[k]:=by rw [hl]; rfl
 rw [hg];refine ⟨w.2,.row v T1 1 sg.length oxs::rowsOf T2 (aE.sz α) (ws.take k) (ls.take k),rowsOf T2 (aE.sz α) (ws.drop (k+1)) (ls.drop (k+1)),hk,?_,h3 k w _ Z hl,λH' I l' hle hr=>⟨⟨oxs,ws.set k (w.1,I),?_,by simp [h2],?_,λj u l Y O=>?_,h4,λi' j hj=>?_⟩,h.sl⟩⟩
 ·rw [hsp ws ls J hk,hwe]; rfl
 ·rw [hsp (ws.set k (w.1,I)) (ls.set k l') (by simpa using J) (by simpa using hk)]
  have t1:(ws.set k (w.1,I)).take k=ws.take k:=RM (Pn k);have t2:(ls.set k l').take k=ls.take k:=RM (Pn k);have t3:(ws.set k (w.1,I)).drop (k+1)=ws.drop (k+1):=Rk (QK k);have t4:(ls.set k l').drop (k+1)=ls.drop (k+1):=Rk (QK k);rw [t1,t2,t3,t4];simp
 ·rw [List.map_set,h2']
  obtain ⟨e1,e2⟩:=O3.1 hh;rw [<- e2,Ta]
 ·by_cases e:k=j
  ·subst e
   rw [Pu J] at Y;rw [Pu hk] at O;obtain rfl:=O4 Y;obtain rfl:=O4 O;exact hr
  ·rw [Pq e] at Y O
   exact (h3 j u l Y O).mono hle
 ·obtain ⟨u,Y,hx'⟩:=h5 i' j hj
  by_cases e:k=j
  ·subst e
   rw [Z] at Y;obtain rfl:=O4 Y;exact ⟨(w.1,I),by rw [Pu J],hx'⟩
  ·exact ⟨u,by rw [Pq e]; exact Y,hx'⟩
theorem Mx.outer (h:Mx T1 T2 H v hs mx sg ls):∃ J m2,mx=.row v T1 1 sg.length J::m2/\J.length=sg.length/\(∀ (i k:Nat),sg[i]? = some k->∃ w,hs[k]? = some w/\J[i]? = some w) /\
  (∀ (i k:Nat) (w:OY),i<sg.length->hs[k]? = some w->Mx T1 T2 H v hs (.row v T1 1 (sg.set i k).length (J.set i w)::m2) (sg.set i k) ls) /\
  (∀ (i:Nat) (w:OY) (xs:List OY) (l:List α),i<sg.length->Rw H w xs l->Mx T1 T2 H v (hs++[w]) (.row v T1 1 (sg.set i ls.length).length (J.set i w)::(m2++[.row w T2 (aE.sz α) l.length xs])) (sg.set i ls.length) (ls++[l])):=by
 obtain ⟨J,ws,rfl,h2,Z,h3,h4,h5⟩:=h.ex;refine ⟨J,_,rfl,h4,λi k hk=>?_,λi k w hi hw=>?_,λi w xs l hi hr=>?_⟩
 ·obtain ⟨u,O,hx⟩:=h5 i k hk
  exact ⟨u.1,by rw [<- Z,Pw,O]; rfl,hx⟩
 ·obtain ⟨u,O,rfl⟩:=EG Z hw
  refine ⟨⟨J.set i u.1,ws,rfl,h2,Z,h3,by simp [h4],λi' k' I=>?_⟩,h.sl⟩
  by_cases e:i=i'
  ·subst e
   rw [Pu hi] at I;obtain rfl:=O4 I;exact ⟨u,O,by rw [Pu (by omega)]⟩
  ·rw [Pq e] at I
   obtain ⟨u',hu',hx'⟩:=h5 i' k' I;exact ⟨u',hu',by rw [Pq e]; exact hx'⟩
 ·refine ⟨⟨J.set i w,ws++[(w,xs)],?_,by simp [h2],by simp [Z],λj u l' O Y=>?_,by simp [h4],λi' k' I=>?_⟩,h.sl⟩
  ·unfold rowsOf
   rw [Sc h2]
   rfl
  ·rcases QS j ls.length with hj | hj
   ·rw [Qb (by omega)] at O Y
    exact h3 j u l' O Y
   ·rw [PB (by omega)] at O Y
    rw [h2] at O;cases e:j-ls.length with
    | zero=>
     rw [e] at O Y;obtain rfl:=O4 O;obtain rfl:=O4 Y;exact hr
    | succ m=>rw [e] at O; simp at O
  ·by_cases e:i=i'
   ·subst e
    rw [Pu hi] at I;obtain rfl:=O4 I;exact ⟨(w,xs),by rw [PB (by omega),h2,Qg]; rfl,by rw [Pu (by omega)]⟩
   ·rw [Pq e] at I
    obtain ⟨u',hu',hx'⟩:=h5 i' k' I;exact ⟨u',by rw [Qb (O3.1 hu').1]; exact hu',by rw [Pq e]; exact hx'⟩
end
structure Gf where
 mk ::
instance:aE Gf where
 sz:=1
 E _ cs _:=cs=[.slice none 0 0]
 len h:=by rw [h]; rfl
 mono _ h:=h
 one h c hc:=by rw [h] at hc; simp at hc; subst hc; rfl
theorem AM {H:Hp}:∀ {n:Nat}{xs:List OY},pF H xs (List.replicate n Gf.mk)->xs=List.replicate n (.slice none 0 0)
 | 0,xs,h=>h
 | n+1,xs,h=>by
  obtain ⟨cs,r,rfl,he,I⟩:=h;have he:cs=[.slice none 0 0]:=he;rw [he,AM I]; rfl
section
variable {α:Type}[aE α] {T1 T2:TypeId}{H H':Hp}{v:OY}{hs:List OY}{mx:List bL}{sg:List Nat}{ls:List (List α)}
theorem Mx.make {n:Nat}{I:List OY} (h:Rw H v I (List.replicate n Gf.mk)):Mx T1 T2 H v [.slice none 0 0] (.row v T1 1 (List.replicate n 0).length I::[.row (.slice none 0 0) T2 (aE.sz α) 0 []]) (List.replicate n 0) ([[]]:List (List α)):=by
 have O:=AM h.rd;refine ⟨⟨I,[(.slice none 0 0,[])],rfl,rfl,rfl,λk w l J hl=>?_,by rw [O]; simp,λi k Y=>?_⟩,h.sl⟩
 ·cases k with
  | zero=>
   obtain rfl:=O4 J;obtain rfl:=O4 hl;exact Rw.nil
  | succ k=>simp at J
 ·obtain ⟨hi,he⟩:=O3.1 Y
  rw [List.getElem_replicate] at he;subst he;refine ⟨_,rfl,?_⟩;rw [O,Rh,O8 (by simpa using hi)]
theorem Au {B:Nat}{w0 w:World}{M:List bL} (hs:0<aE.sz α):∀ (ws:List (OY×List OY)) (ls:List (List α)) (H:Hp),ws.length=ls.length ->
  (∀ (k:Nat) (u:OY×List OY) (l:List α),ws[k]? = some u->ls[k]? = some l->Rw H u.1 u.2 l)->St B w0 H (rowsOf T2 (aE.sz α) ws ls++M) w ->
  ∃ H',H.le H'/\St B w0 H' M w/\∀ (k:Nat) (u:OY×List OY) (l:List α),ws[k]? = some u->ls[k]? = some l->aN H' u.1 l
 | [],[],H,_,_,ht=>⟨H,PX _,ht,λk u l J _=>by simp at J⟩
 | [],_::_,H,hl,_,_=>by simp at hl
 | _::_,[],H,hl,_,_=>by simp at hl
 | u::ws,l::ls,H,hl,hr,ht=>by
  have ht:St B w0 H (.row u.1 T2 (aE.sz α) l.length u.2::(rowsOf T2 (aE.sz α) ws ls++M)) w:=ht;obtain ⟨H1,Z,h2,h3⟩:=ht.uZ (hr 0 u l rfl rfl).rd hs;obtain ⟨H2,Y,g2,g3⟩:=Au hs ws ls H1 (by simpa using hl) (λk O l' J I=>(hr (k+1) O l' (by simpa using J) (by simpa using I)).mono Z) h2
  refine ⟨H2,SF Z Y,g2,λk O l' J I=>?_⟩;cases k with
  | zero=>
   obtain rfl:=O4 J;obtain rfl:=O4 I;exact h3.mono Y
  | succ k=>exact g3 k O l' (by simpa using J) (by simpa using I)
theorem BH {H:Hp}:∀ (xs:List OY) (l:List (List α)),xs.length=l.length->(∀ (i:Nat) (y:OY) (e:List α),xs[i]? = some y->l[i]? = some e->aN H y e)->pF H xs l
 | [],[],_,_=>rfl
 | [],_::_,h,_=>by simp at h
 | _::_,[],h,_=>by simp at h
 | y::xs,e::l,h,hr=>⟨[y],xs,rfl,⟨y,rfl,hr 0 y e rfl rfl⟩,BH xs l (by simpa using h) (λi O I J he=>hr (i+1) O I (by simpa using J) (by simpa using he))⟩
def qL (sg:List Nat) (ls:List (List α)):List (List α):=sg.map λk=>(ls[k]?).getD []
theorem St.Dm {B:Nat}{w0 w:World}{M:List bL} (ht:St B w0 H (mx++M) w) (h:Mx T1 T2 H v hs mx sg ls) (h0:0<aE.sz α):∃ H',H.le H'/\St B w0 H' M w/\aN H' v (qL sg ls):=by
 obtain ⟨I,ws,rfl,h2,_,h3,h4,h5⟩:=h.ex;have ht1:St B w0 H (rowsOf T2 (aE.sz α) ws ls++(.row v T1 1 sg.length I::M)) w:=ht.perm (by
  rw [Q9];exact List.perm_middle.symm)
 obtain ⟨H1,g1,g2,g3⟩:=Au h0 ws ls H h2 h3 ht1;have hv:(qL sg ls).length=sg.length:=by unfold qL; simp
 have Z:pF H1 I (qL sg ls):=BH I _ (by rw [hv]; exact h4) (λi y e hy he=>by
  unfold qL at he;rw [Pw] at he;cases O:sg[i]? with
  | none=>rw [O] at he; simp at he
  | some k=>
   rw [O] at he;obtain ⟨u,hu,hx⟩:=h5 i k O;rw [hy] at hx;obtain rfl:=O4 hx;have Y:k<ls.length:=by rw [<- h2]; exact (O3.1 hu).1
   have hl:=OZ Y;simp only [Qp,Pk] at he;rw [hl,QV] at he;rw [<- he];exact g3 k u _ hu hl)
 have J:St B w0 H1 (.row v T1 (aE.sz (List α)) sg.length I::M) w:=g2;obtain ⟨H2,k1,k2,k3⟩:=J.uZ Z Nat.one_pos;exact ⟨H2,SF g1 k1,k2,k3⟩
end
section
variable {x:Cx}{ops:Array Oper}{Q:k_}{rest:List Oper}{H:Hp}{M:List bL}{L:Env}
theorem Ea {α:Type}[aE α] {T1 T2:TypeId}{v:OY}{hs:List OY}{mx:List bL}{sg:List Nat}{ls:List (List α)} (h:Mx T1 T2 H v hs mx sg ls) (J:Nat.blt 0 (aE.sz α)=true)
  (k:∀ H',H.le H'->aN H' v (qL sg ls)->W x ops Q rest H' M L):W x ops Q rest H (mx++M) L:=by
 intro a w I ht;obtain ⟨H',O,Y,Z⟩:=St.Dm ht h (by simpa [P9] using J)
 exact k H' O Z a w I Y
variable {d:Nat}{ty:TypeId}{pos:String}{aft:Array Edge}{g:Option (Nat×Bool)}
theorem rW (pre J O I:List bL) (r:bL):(pre++((J++r::O)++I)).Perm (r::(pre++((J++O)++I))):=by
 have Y:(pre++((J++r::O)++I))=(pre++J)++r::(O++I):=by simp
 have Z:(r::(pre++((J++O)++I)))=r::((pre++J)++(O++I)):=by simp
 rw [Y,Z];exact List.perm_middle
theorem Mx.get {α:Type}[aE α] {T1 T2:TypeId}{v:OY}{hs:List OY}{mx:List bL}{sg:List Nat}{ls:List (List α)} (h:Mx T1 T2 H v hs mx sg ls) {k:Nat}{w:OY} (J:hs[k]? = some w):
  ∃ xs:List OY,bL.row w T2 (aE.sz α) ((ls[k]?).getD []).length xs ∈ mx/\Rw H w xs ((ls[k]?).getD []):=by
 obtain ⟨xs,O,Y,_,he,I,_⟩:=h.row J;exact ⟨xs,by rw [he]; exact P5 _ (O5 ..),I⟩
theorem sf {α:Type}[aE α] {T1 T2 T:TypeId}{m:Nat}{y z:Operand}{v u w:OY}{ad:Addr}{hs cs:List OY}{pre mx:List bL}{sg:List Nat}{ls:List (List α)}{k j:Nat}{e2:α}
  (h:Mx T1 T2 H v hs mx sg ls) (hx:hs[k]? = some w) (hj:j<((ls[k]?).getD []).length) (O:aE.E H cs e2)
  (hg:gd ops L ⟨none,.store T y z,ty,pos,aft,g⟩=some true) (hn:∀ w,(sizeOf T).run x.P w=.ok m w) (hm:m=aE.sz α) (h0:Nat.blt 0 (aE.sz α)=true)
  (hy:ev L y=some (.pointer (some ad))) (Y:ad=(Value.base w).add (j*aE.sz α)) (hz:ev L z=some u) (hv:u.cells=cs.toArray)
  (kk:∀ J,Mx T1 T2 H v hs J sg (ls.set k (((ls[k]?).getD []).set j e2))->W x ops Q rest H (pre++(J++M)) L):
  W x ops Q (⟨none,.store T y z,ty,pos,aft,g⟩::rest) H (pre++(mx++M)) L:=by
 obtain ⟨xs,m1,m2,hk,rfl,hr,hup⟩:=h.row hx;have hcl:=aE.len O;have hs':0<aE.sz α:=by simpa [P9] using h0
 have he:=OZ hj;obtain ⟨c,hc,Z⟩:=hr.elem he;have hccl:=aE.len hc;have ho:over c 0 cs=cs:=by
  rw [vJ cs c 0 (by omega),SY,Qz,List.drop_eq_nil_of_le (by omega),PH]
 obtain ⟨p1,_,_⟩:=Rw.put (k:=j) (o:=0) (e2:=e2) hr he hc Z (by simp [Rx]; omega) ho O
 have I:j*aE.sz α+cs.length<=xs.length:=by
  have hlen:=hr.rd.len;have:(j+1)*aE.sz α<=((ls[k]?).getD []).length*aE.sz α:=Ph _ hj;rw [Pm,SG] at this;omega
 refine nt (rW pre m1 m2 M _) ?_;refine wD (i:=j*aE.sz α) (cs:=cs) hg hn hy Y hz hv (by omega) I (by simp [P9]; omega) (aE.one O) ?_
 have h2:=hup H _ _ (PX _) p1;rw [Qh,Qt] at h2;refine nt (rW pre m1 m2 M _).symm ?_;exact kk _ h2
theorem Fq {α:Type}[aE α] {T1 T2 T:TypeId}{y z:Operand}{v w:OY}{ad:Addr}{hs:List OY}{pre mx:List bL}{sg:List Nat}{ls:List (List α)}{i k:Nat}
  (h:Mx T1 T2 H v hs mx sg ls) (hi:i<sg.length) (hx:hs[k]? = some w)
  (hg:gd ops L ⟨none,.store T y z,ty,pos,aft,g⟩=some true) (hn:∀ w,(sizeOf T).run x.P w=.ok 1 w)
  (hy:ev L y=some (.pointer (some ad))) (Y:ad=(Value.base v).add (i*1)) (hz:ev L z=some w)
  (kk:∀ J,Mx T1 T2 H v hs J (sg.set i k) ls->W x ops Q rest H (pre++(J++M)) L):
  W x ops Q (⟨none,.store T y z,ty,pos,aft,g⟩::rest) H (pre++(mx++M)) L:=by
 obtain ⟨_,_,_,_,_,hr,_⟩:=h.row hx;obtain ⟨O,m2,rfl,hl,_,I,_⟩:=h.outer;refine nt (rW pre [] m2 M _) ?_;refine wD (i:=i*1) (cs:=[w]) hg hn hy Y hz hr.cells rfl (by simp; omega) rfl (λc hc=>by simp at hc; subst hc; exact hr.one) ?_
 have Z:=I i k w hi hx;rw [Qh] at Z;have e:over O (i*1) [w]=O.set i w:=by rw [Rs]; rfl
 rw [e];refine nt (rW pre [] m2 M _).symm ?_;exact kk _ Z
theorem BU {α:Type}[aE α] {T1 T2 T:TypeId}{y z:Operand}{v w:OY}{ad:Addr}{hs xs:List OY}{pre mx:List bL}{sg:List Nat}{ls:List (List α)}{l:List α}{i:Nat}
  (h:Mx T1 T2 H v hs mx sg ls) (hi:i<sg.length) (hr:Rw H w xs l)
  (hg:gd ops L ⟨none,.store T y z,ty,pos,aft,g⟩=some true) (hn:∀ w,(sizeOf T).run x.P w=.ok 1 w)
  (hy:ev L y=some (.pointer (some ad))) (Z:ad=(Value.base v).add (i*1)) (hz:ev L z=some w)
  (kk:∀ Y,Mx T1 T2 H v (hs++[w]) Y (sg.set i ls.length) (ls++[l])->W x ops Q rest H (pre++(Y++M)) L):
  W x ops Q (⟨none,.store T y z,ty,pos,aft,g⟩::rest) H (.row w T2 (aE.sz α) l.length xs::(pre++(mx++M))) L:=by
 obtain ⟨I,J,rfl,hl,_,_,O⟩:=h.outer;have p1:(bL.row w T2 (aE.sz α) l.length xs::(pre++((.row v T1 1 sg.length I::J)++M))).Perm (.row v T1 1 sg.length I::(.row w T2 (aE.sz α) l.length xs::(pre++(J++M)))):=
  ((rW pre [] J M _).cons _).trans (List.Perm.swap _ _ _)
 refine nt p1 ?_;refine wD (i:=i*1) (cs:=[w]) hg hn hy Z hz hr.cells rfl (by simp; omega) rfl (λc hc=>by simp at hc; subst hc; exact hr.one) ?_
 have h2:=O i w xs l hi hr;rw [Qh] at h2;have e:over I (i*1) [w]=I.set i w:=by rw [Rs]; rfl
 rw [e];have p2:(bL.row v T1 1 sg.length (I.set i w)::(.row w T2 (aE.sz α) l.length xs::(pre++(J++M)))).Perm (pre++((.row v T1 1 sg.length (I.set i w)::(J++[.row w T2 (aE.sz α) l.length xs]))++M)):=by
  refine (rW pre [] (J++[.row w T2 (aE.sz α) l.length xs]) M _).trans ?_ |>.symm;refine List.Perm.cons _ ?_;have:=rW pre J [] M (.row w T2 (aE.sz α) l.length xs);simpa using this
 refine nt p2 ?_;exact kk _ h2
def tj (sz n:Nat):OY->OY
 | .slice (some ⟨b,off,sp⟩) len cap=>.slice (some ⟨b,if cap=n then off else off+n*sz,sp⟩) (len-n) (cap-n)
 | y=>y
theorem iB.sub {w:World}{T:TypeId}{sz n m:Nat}{v:OY}{xs:List OY} (h:iB w T sz v n xs) (hm:m<=n):iB w T sz (tj sz m v) (n-m) (xs.drop (m*sz)):=by
 obtain ⟨hl,hh⟩:=h;refine ⟨by rw [Qv,hl,Nat.sub_mul],?_⟩
 rcases hh with ⟨rfl,h0⟩ | ⟨O,off,cap,J,rfl,hg,hnc,hcm,hcs,I⟩
 ·exact .inl ⟨rfl,by omega⟩
 ·have h1:m*sz+(cap-m)*sz=cap*sz:=by rw [<- Pm,Nat.add_sub_cancel' (by omega)]
  have h2:m*sz+(n-m)*sz=n*sz:=by rw [<- Pm,Nat.add_sub_cancel' hm]
  by_cases Z:cap=m
  ·have Y:n=m:=by omega
   refine .inr ⟨O,off,cap-m,J,by show Value.slice (some ⟨O,if cap=m then off else off+m*sz,none⟩) _ _=_; rw [O8 Z],hg,by omega,by omega,by omega,?_⟩
   rw [<- I,Re,Y,Qg,Qg,Qu,SY,SY]
  ·refine .inr ⟨O,off+m*sz,cap-m,J,by show Value.slice (some ⟨O,if cap=m then off else off+m*sz,none⟩) _ _=_; rw [O7 Z],hg,by omega,by omega,by omega,?_⟩
   rw [<- I,Re,QG]
   congr 1
   omega
theorem Hf {sz m:Nat} (v:OY):(tj sz m v).ownBlock=v.ownBlock:=by
 unfold tj
 split
 ·rename_i b off sp len cap
  cases sp <;> rfl
 ·rfl
theorem St.same {B:Nat}{w0 w:World}{r r':bL} (h:St B w0 H (r::M) w) (I:r'.ok w) (O:r'.tS=r.tS):St B w0 H (r'::M) w:=by
 refine ⟨h.below,h.le,h.tK,λs hs=>?_,λs hs b J=>?_,?_⟩
 ·rcases PN.1 hs with rfl | hs
  ·exact I
  ·exact h.ok s (O9 _ hs)
 ·rcases PN.1 hs with rfl | hs
  ·exact h.lo r (O5 ..) b (by rw [<- O]; exact J)
  ·exact h.lo s (O9 _ hs) b J
 ·have:=h.nd
  simp only [Qf,O] at this ⊢;exact this
theorem Rw.sub {α:Type}[aE α] {v:OY}{xs:List OY}{l:List α} (h:Rw H v xs l) {m:Nat} (hm:m<=l.length):Rw H (tj (aE.sz α) m v) (xs.drop (m*aE.sz α)) (l.drop m):=by
 refine ⟨?_,?_⟩
 ·have key:∀ (m:Nat) (xs:List OY) (l:List α),pF H xs l->m<=l.length->pF H (xs.drop (m*aE.sz α)) (l.drop m):=by
   intro m
   induction m with
   | zero=>intro xs l h _; simpa using h
   | succ m ih=>
    intro xs l h hm;cases l with
    | nil=>simp at hm
    | cons e l=>
     obtain ⟨c,r,rfl,he,J⟩:=h;have I:=aE.len he;rw [Tn,Pm,SG,Rq,<- QG,<- I,List.drop_left,I];exact ih r l J (by simpa using hm)
  exact key m xs l h.rd hm
 ·obtain ⟨a,n,c,rfl⟩:=h.sl
  cases a with
  | none=>exact ⟨_,_,_,rfl⟩
  | some ad=>obtain ⟨b,off,sp⟩:=ad; exact ⟨_,_,_,rfl⟩
theorem JO {α:Type}[aE α] {T1 T2 T:TypeId}{y z:Operand}{v w:OY}{ad:Addr}{hs:List OY}{pre mx:List bL}{sg:List Nat}{ls:List (List α)}{i k n:Nat}
  (h:Mx T1 T2 H v hs mx sg ls) (hi:i<sg.length) (hx:hs[k]? = some w) (hn':n<=((ls[k]?).getD []).length) (hone:∀ j:Nat,sg[j]? = some k->j=i)
  (hg:gd ops L ⟨none,.store T y z,ty,pos,aft,g⟩=some true) (hn:∀ w,(sizeOf T).run x.P w=.ok 1 w)
  (hy:ev L y=some (.pointer (some ad))) (had:ad=(Value.base v).add (i*1)) (hz:ev L z=some (tj (aE.sz α) n w))
  (kk:∀ mx',Mx T1 T2 H v (hs.set k (tj (aE.sz α) n w)) mx' (sg.set i k) (ls.set k (((ls[k]?).getD []).drop n))->W x ops Q rest H (pre++(mx'++M)) L):
  W x ops Q (⟨none,.store T y z,ty,pos,aft,g⟩::rest) H (pre++(mx++M)) L:=by
 obtain ⟨I,ws,rfl,h2,h2',h3,h4,h5⟩:=h.ex;obtain ⟨u,hu,rfl⟩:=EG h2' hx;have Y:k<ws.length:=(O3.1 hu).1;have hk:k<ls.length:=by omega
 have hl:=OZ hk;have hwe:ws[k]=u:=by rw [OZ Y] at hu; exact O4 hu
 have hgd:(ls[k]?).getD []=ls[k]:=by rw [hl]; rfl
 rw [hgd] at hn' kk;have hr:=h3 k u _ hu hl;have hrs:=hr.sub hn';have hsp:∀ (ws:List (OY×List OY)) (ls:List (List α)) (h1:k<ws.length) (h2:k<ls.length),rowsOf T2 (aE.sz α) ws ls=rowsOf T2 (aE.sz α) (ws.take k) (ls.take k)++.row ws[k].1 T2 (aE.sz α) ls[k].length ws[k].2::rowsOf T2 (aE.sz α) (ws.drop (k+1)) (ls.drop (k+1)):=λws ls h1 h2=>by
  have e1:ws=ws.take k++ws[k]::ws.drop (k+1):=by rw [<- Pz h1,Qn]
  have e2:ls=ls.take k++ls[k]::ls.drop (k+1):=by rw [<- Pz h2,Qn]
  have e3:rowsOf T2 (aE.sz α) ws ls=rowsOf T2 (aE.sz α) (ws.take k++ws[k]::ws.drop (k+1)) (ls.take k++ls[k]::ls.drop (k+1)):=by rw [<- e1,<- e2]
  rw [e3];unfold rowsOf;rw [Sc (by simp; omega)]
  rfl
 generalize hA:rowsOf T2 (aE.sz α) (ws.take k) (ls.take k)=A at hsp;generalize hB:rowsOf T2 (aE.sz α) (ws.drop (k+1)) (ls.drop (k+1))=Bq at hsp;have hrows:rowsOf T2 (aE.sz α) ws ls=A++.row u.1 T2 (aE.sz α) ls[k].length u.2::Bq:=by
  rw [<- hA,<- hB];have e1:ws=ws.take k++ws[k]::ws.drop (k+1):=by rw [<- Pz Y,Qn]
  have e2:ls=ls.take k++ls[k]::ls.drop (k+1):=by rw [<- Pz hk,Qn]
  have e3:rowsOf T2 (aE.sz α) ws ls=rowsOf T2 (aE.sz α) (ws.take k++ws[k]::ws.drop (k+1)) (ls.take k++ls[k]::ls.drop (k+1)):=by rw [<- e1,<- e2]
  rw [e3];unfold rowsOf;rw [Sc (by simp; omega),<- hwe]
  rfl
 have hrows2:rowsOf T2 (aE.sz α) (ws.set k (tj (aE.sz α) n u.1,u.2.drop (n*aE.sz α))) (ls.set k (ls[k].drop n))=A++.row (tj (aE.sz α) n u.1) T2 (aE.sz α) (ls[k].drop n).length (u.2.drop (n*aE.sz α))::Bq:=by
  rw [<- hA,<- hB];have e1:ws.set k (tj (aE.sz α) n u.1,u.2.drop (n*aE.sz α))=ws.take k++(tj (aE.sz α) n u.1,u.2.drop (n*aE.sz α))::ws.drop (k+1):=by rw [R2,O8 Y]
  have e2:ls.set k (ls[k].drop n)=ls.take k++ls[k].drop n::ls.drop (k+1):=by rw [R2,O8 hk]
  rw [e1,e2];unfold rowsOf;rw [Sc (by simp; omega)]
  rfl
 have hnew:Mx T1 T2 H v (hs.set k (tj (aE.sz α) n u.1)) (.row v T1 1 (sg.set i k).length (I.set i (tj (aE.sz α) n u.1))::rowsOf T2 (aE.sz α) (ws.set k (tj (aE.sz α) n u.1,u.2.drop (n*aE.sz α))) (ls.set k (ls[k].drop n))) (sg.set i k) (ls.set k (ls[k].drop n)):=by
  refine ⟨⟨_,_,rfl,by simp [h2],by rw [List.map_set,h2'],λj u' l' J Z=>?_,by simp [h4],λi' k' O=>?_⟩,h.sl⟩
  ·by_cases e:k=j
   ·subst e
    rw [Pu Y] at J;rw [Pu hk] at Z;obtain rfl:=O4 J;obtain rfl:=O4 Z;exact hrs
   ·rw [Pq e] at J Z
    exact h3 j u' l' J Z
  ·by_cases e:i=i'
   ·subst e
    rw [Pu hi] at O;obtain rfl:=O4 O;exact ⟨_,by rw [Pu Y],by rw [Pu (by omega)]⟩
   ·rw [Pq e] at O
    obtain ⟨u',J,hx'⟩:=h5 i' k' O;have hne:k≠k':=λe2=>by subst e2; exact e (hone i' O).symm
    exact ⟨u',by rw [Pq hne]; exact J,by rw [Pq e]; exact hx'⟩
 refine nt (rW pre [] (rowsOf T2 (aE.sz α) ws ls) M _) ?_;refine wD (i:=i*1) (cs:=[tj (aE.sz α) n u.1]) hg hn hy had hz hrs.cells rfl (by simp; omega) rfl (λc hc=>by simp at hc; subst hc; exact hrs.one) ?_
 have e:over I (i*1) [tj (aE.sz α) n u.1]=I.set i (tj (aE.sz α) n u.1):=by rw [Rs]; rfl
 rw [e];refine nt (rW pre [] (rowsOf T2 (aE.sz α) ws ls) M _).symm ?_;rw [Qz,hrows];have p1:(pre++((.row v T1 1 sg.length (I.set i (tj (aE.sz α) n u.1))::(A++.row u.1 T2 (aE.sz α) ls[k].length u.2::Bq))++M)).Perm (.row u.1 T2 (aE.sz α) ls[k].length u.2::(pre++(((.row v T1 1 sg.length (I.set i (tj (aE.sz α) n u.1))::A)++Bq)++M))):=
  rW pre (.row v T1 1 sg.length (I.set i (tj (aE.sz α) n u.1))::A) Bq M _
 refine nt p1 ?_;intro a w0' hsl ht;have hok:=ht.ok _ (O5 ..);have hs2:St x.B x.w0 H (.row (tj (aE.sz α) n u.1) T2 (aE.sz α) (ls[k].drop n).length (u.2.drop (n*aE.sz α))::(pre++(((.row v T1 1 sg.length (I.set i (tj (aE.sz α) n u.1))::A)++Bq)++M))) w0':=by
  refine ht.same ?_ (P4 Option.toList (Hf u.1));have h1:iB w0' T2 (aE.sz α) u.1 ls[k].length u.2:=hok;have:=h1.sub hn';rw [<- Qv] at this;exact this
 have p2:=(rW pre (.row v T1 1 sg.length (I.set i (tj (aE.sz α) n u.1))::A) Bq M (.row (tj (aE.sz α) n u.1) T2 (aE.sz α) (ls[k].drop n).length (u.2.drop (n*aE.sz α)))).symm;refine kk _ hnew a w0' hsl ?_;rw [hrows2,Qh];exact hs2.perm p2
theorem HG {α:Type}[aE α] {T2 t e:TypeId}{y lo:Operand}{w:OY}{xs:List OY}{l:List α}{n:Nat}{kk:IntKind}
  (hm:bL.row w T2 (aE.sz α) l.length xs ∈ M) (hn:n<=l.length)
  (hg:gd ops L ⟨some d,.slice t y (some lo) none none,ty,pos,aft,g⟩=some true) (hN:Nat.blt d x.N=true)
  (hT:∀ w,(underlying t).run x.P w=.ok (.slice e) w) (hs:∀ w,(sizeOf e).run x.P w=.ok (aE.sz α) w) (hy:ev L y=some w) (J:ev L lo=some (.int kk (n:Int)))
  (k:W x ops Q rest H M ((d,tj (aE.sz α) n w)::L)):
  W x ops Q (⟨some d,.slice t y (some lo) none none,ty,pos,aft,g⟩::rest) H M L:=by
 intro a I O ht;have Z:iB I T2 (aE.sz α) w l.length xs:=ht.ok _ hm;rcases Z.2 with ⟨rfl,h0⟩ | ⟨gb,off,cap,cur,rfl,_,hnc,_⟩
 ·obtain rfl:n=0:=by omega
  exact sR (m:=0) (h:=0) (l:=0) hg hN hT hs hy (.inl rfl) (.inl ⟨rfl,rfl⟩) (.inl ⟨rfl,rfl⟩) (.inr ⟨lo,kk,_,rfl,J,Ro _,Ro _,rfl⟩) rfl k a I O ht
 ·refine sR (m:=cap) (h:=l.length) (l:=n) hg hN hT hs hy (.inl rfl) (.inl ⟨rfl,rfl⟩) (.inl ⟨rfl,rfl⟩) (.inr ⟨lo,kk,_,rfl,J,by omega,by omega,by omega⟩) ?_ k a I O ht
  show _=Value.slice (some ⟨gb,if cap=n then off else off+n*aE.sz α,none⟩) (l.length-n) (cap-n)
  by_cases Y:cap=n
  ·rw [O8 Y,O8 Y]
  ·rw [O7 Y,O7 Y]
   rw [Qp,P8]
end
theorem Co (pre os mx M:List bL):(pre++(mx++(os++M))).Perm (pre++(os++(mx++M))):=
 List.Perm.append_left pre (List.perm_append_comm_assoc mx os M)
theorem AK (pre mx M:List bL):(pre++(mx++M)).Perm (mx++(pre++M)):=List.perm_append_comm_assoc pre mx M
def lone (sg:List Nat) (i k:Nat):Bool:=(List.range sg.length).all λj=>sg[j]? != some k || j == i
theorem GU {sg:List Nat}{i k:Nat} (h:lone sg i k=true) (j:Nat) (I:sg[j]? = some k):j=i:=by
 unfold lone at h;rw [Qa] at h;have hl:=(O3.1 I).1;have:=h j (by simpa using hl)
 rw [I] at this;simpa using this
theorem Kf {sg:List Nat}{i k:Nat} (h:∀ j,sg[j]? = some k->j=i):lone sg i k=true:=by
 unfold lone;rw [Qa];intro j I
 by_cases e:sg[j]? = some k
 ·simp [h j e]
 ·simp [e]
section
variable {x:Cx}{ops:Array Oper}{Q:k_}{rest:List Oper}{H:Hp}{M:List bL}{L:Env}{d:Nat}{ty:TypeId}{pos:String}{aft:Array Edge}{g:Option (Nat×Bool)}
variable {α:Type}[aE α] {T1 T2:TypeId}{v:OY}{hs:List OY}{mx:List bL}{sg:List Nat}{ls:List (List α)}
theorem w9 {t e:TypeId}{y:Operand} (h:Mx T1 T2 H v hs mx sg ls) (I:∀ s ∈ mx,s ∈ M) (O:gd ops L ⟨some d,.call ⟨.builtin .len,#[y],#[t]⟩,ty,pos,aft,g⟩=some true) (hN:Nat.blt d x.N=true)
  (J:∀ w,(underlying t).run x.P w=.ok (.slice e) w) (Y:ev L y=some v) (k:W x ops Q rest H M ((d,.int .i64 (sg.length:Int))::L)):
  W x ops Q (⟨some d,.call ⟨.builtin .len,#[y],#[t]⟩,ty,pos,aft,g⟩::rest) H M L:=by
 obtain ⟨Z,m2,he,_⟩:=h.outer;exact zW (I _ (by rw [he]; exact O5 ..)) O hN J Y k
theorem eB {t e:TypeId}{y z:Operand}{kk:IntKind}{i:Int}{p:Nat} (h:Mx T1 T2 H v hs mx sg ls) (I:∀ s ∈ mx,s ∈ M)
  (hg:gd ops L ⟨some d,.indexAddr t y z,ty,pos,aft,g⟩=some true) (hN:Nat.blt d x.N=true)
  (Z:∀ w,(underlying t).run x.P w=.ok (.slice e) w) (J:∀ w,(sizeOf e).run x.P w=.ok 1 w)
  (hy:ev L y=some v) (hz:ev L z=some (.int kk i)) (O:0<=i) (Y:sg[i.toNat]? = some p)
  (k:W x ops Q rest H M ((d,.pointer (some ((Value.base v).add (i.toNat*1))))::L)):
  W x ops Q (⟨some d,.indexAddr t y z,ty,pos,aft,g⟩::rest) H M L:=by
 obtain ⟨oxs,m2,he,_⟩:=h.outer;exact yb (I _ (by rw [he]; exact O5 ..)) hg hN Z J hy hz O (O3.1 Y).1 k
theorem gV {T:TypeId}{y:Operand}{ad:Addr}{i p:Nat} (h:Mx T1 T2 H v hs mx sg ls) (J:∀ s ∈ mx,s ∈ M) (Y:sg[i]? = some p)
  (hg:gd ops L ⟨some d,.load T y,ty,pos,aft,g⟩=some true) (hN:Nat.blt d x.N=true)
  (Z:∀ w,(isAgg T).run x.P w=.ok false w) (hy:ev L y=some (.pointer (some ad))) (O:ad=(Value.base v).add (i*1))
  (k:∀ w,hs[p]? = some w->W x ops Q rest H M ((d,w)::L)):W x ops Q (⟨some d,.load T y,ty,pos,aft,g⟩::rest) H M L:=by
 obtain ⟨oxs,m2,he,_,I,_⟩:=h.outer;obtain ⟨w,hw,hx⟩:=I i p Y;subst O;refine pL hg hN Z hy (AY (J _ (by rw [he]; exact O5 ..)) ?_) (k w hw)
 rw [Rs]; exact hx
theorem Fm {t e:TypeId}{y:Operand}{w:OY}{p:Nat} (h:Mx T1 T2 H v hs mx sg ls) (I:∀ s ∈ mx,s ∈ M) (Y:hs[p]? = some w) (O:gd ops L ⟨some d,.call ⟨.builtin .len,#[y],#[t]⟩,ty,pos,aft,g⟩=some true) (hN:Nat.blt d x.N=true)
  (J:∀ w,(underlying t).run x.P w=.ok (.slice e) w) (Z:ev L y=some w) (k:W x ops Q rest H M ((d,.int .i64 (((ls[p]?).getD []).length:Int))::L)):
  W x ops Q (⟨some d,.call ⟨.builtin .len,#[y],#[t]⟩,ty,pos,aft,g⟩::rest) H M L:=by
 obtain ⟨xs,hm,_⟩:=h.get Y;exact zW (I _ hm) O hN J Z k
theorem iW {t e:TypeId}{y z:Operand}{kk:IntKind}{j:Int}{w:OY}{p n:Nat}{a:α} (h:Mx T1 T2 H v hs mx sg ls) (I:∀ s ∈ mx,s ∈ M) (hw:hs[p]? = some w)
  (hg:gd ops L ⟨some d,.indexAddr t y z,ty,pos,aft,g⟩=some true) (hN:Nat.blt d x.N=true)
  (Z:∀ w,(underlying t).run x.P w=.ok (.slice e) w) (J:∀ w,(sizeOf e).run x.P w=.ok n w) (hn:n=aE.sz α)
  (hy:ev L y=some w) (hz:ev L z=some (.int kk j)) (O:0<=j) (Y:((ls[p]?).getD [])[j.toNat]? = some a)
  (k:W x ops Q rest H M ((d,.pointer (some ((Value.base w).add (j.toNat*aE.sz α))))::L)):
  W x ops Q (⟨some d,.indexAddr t y z,ty,pos,aft,g⟩::rest) H M L:=by
 subst hn;obtain ⟨xs,hm,_⟩:=h.get hw;exact yb (I _ hm) hg hN Z J hy hz O (O3.1 Y).1 k
theorem pz {T:TypeId}{y:Operand}{ad:Addr}{w:OY}{p j n:Nat}{a:α} (h:Mx T1 T2 H v hs mx sg ls) (I:∀ s ∈ mx,s ∈ M) (hw:hs[p]? = some w) (Z:((ls[p]?).getD [])[j]? = some a)
  (hg:gd ops L ⟨some d,.load T y,ty,pos,aft,g⟩=some true) (hN:Nat.blt d x.N=true)
  (hT:∀ w,(isAgg T).run x.P w=.ok true w) (hn:∀ w,(sizeOf T).run x.P w=.ok n w) (O:n=aE.sz α) (hy:ev L y=some (.pointer (some ad))) (J:ad=(Value.base w).add (j*aE.sz α))
  (k:∀ cs,aE.E H cs a->W x ops Q rest H M ((d,.agg cs.toArray)::L)):W x ops Q (⟨some d,.load T y,ty,pos,aft,g⟩::rest) H M L:=by
 subst O;subst J;obtain ⟨xs,hm,hr⟩:=h.get hw;obtain ⟨c,Y,hc⟩:=hr.elem Z;exact iD hg hN hT hn hy (xe (I _ hm) hc) (aE.len Y) (k c Y)
theorem HF {t e:TypeId}{y lo:Operand}{w:OY}{p n:Nat}{j:Int}{kk:IntKind} (h:Mx T1 T2 H v hs mx sg ls) (I:∀ s ∈ mx,s ∈ M) (hw:hs[p]? = some w) (Y:0<=j) (h1:j<=(((ls[p]?).getD []).length:Int))
  (hg:gd ops L ⟨some d,.slice t y (some lo) none none,ty,pos,aft,g⟩=some true) (hN:Nat.blt d x.N=true)
  (Z:∀ w,(underlying t).run x.P w=.ok (.slice e) w) (O:∀ w,(sizeOf e).run x.P w=.ok n w) (hn:n=aE.sz α) (hy:ev L y=some w) (J:ev L lo=some (.int kk j))
  (k:W x ops Q rest H M ((d,tj (aE.sz α) j.toNat w)::L)):
  W x ops Q (⟨some d,.slice t y (some lo) none none,ty,pos,aft,g⟩::rest) H M L:=by
 subst hn;obtain ⟨xs,hm,hr⟩:=h.get hw;exact HG (l:=(ls[p]?).getD []) (n:=j.toNat) (I _ hm) (by omega) hg hN Z O hy (by rw [J,R9 Y]) k
theorem y9 {pre:List bL} (h:Mx T1 T2 H v hs mx sg ls) (I:Nat.blt 0 (aE.sz α)=true)
  (k:∀ H',H.le H'->aN H' v (qL sg ls)->W x ops Q rest H' (pre++M) L):W x ops Q rest H (pre++(mx++M)) L:=
 nt (AK pre mx M) (Ea h I k)
theorem y7 {e:Exit}{pre:List bL} (h:Mx T1 T2 H v hs mx sg ls) (J:Nat.blt 0 (aE.sz α)=true)
  (k:∀ H',H.le H'->aN H' v (qL sg ls)->E x e Q H' (pre++M) L):E x e Q H (pre++(mx++M)) L:=by
 refine D7 (AK pre mx M) ?_;intro a w I ht;obtain ⟨H',O,Y,Z⟩:=St.Dm ht h (by simpa [P9] using J)
 exact k H' O Z a w I Y
theorem zZ {t e:TypeId}{bytes:Nat}{y Z:Operand}{n:Int}{pre:List bL} (T2:TypeId) (α:Type) [aE α]
  (hg:gd ops L ⟨some d,.makeSlice t y Z,ty,pos,aft,g⟩=some true) (hN:Nat.blt d x.N=true)
  (hT:x.P.underlying t=some (.slice e)) (hi:Mw x.P e 1 bytes (.slice none 0 0)) (O:Nat.blt 0 bytes=true)
  (hy:ev L y=some (.int .i64 n)) (Y:ev L Z=some (.int .i64 n)) (h0:0<=n) (hb:n*bytes<=140737488355328)
  (k:∀ v' I,Mx e T2 H v' [.slice none 0 0] I (List.replicate n.toNat 0) ([[]]:List (List α))->W x ops Q rest H (pre++(I++M)) ((d,v')::L)):
  W x ops Q (⟨some d,.makeSlice t y Z,ty,pos,aft,g⟩::rest) H (pre++M) L:=by
 refine eS (α:=Gf) (zs:=[.slice none 0 0]) (ze:=Gf.mk) hg hN hT hi rfl rfl O rfl hy Y h0 hb ?_;intro v' J hr;refine yc T2 (aE.sz α) ?_;have hm:=Mx.make (α:=α) (T1:=e) (T2:=T2) hr;refine nt (M':=pre++((.row v' e 1 (List.replicate n.toNat 0).length J::[.row (.slice none 0 0) T2 (aE.sz α) 0 []])++M)) ?_ (k v' _ hm);have e1:(List.replicate n.toNat Gf.mk).length=(List.replicate n.toNat 0).length:=by simp
 rw [e1];refine (List.Perm.swap _ _ _).trans ?_;exact (AK pre [.row v' e 1 (List.replicate n.toNat 0).length J,.row (.slice none 0 0) T2 (aE.sz α) 0 []] M).symm
end
def NC:List Int:=[1,10,100,1000,10000,100000,1000000,10000000,100000000,1000000000,10000000000,100000000000,1000000000000,10000000000000,100000000000000,1000000000000000,10000000000000000,100000000000000000,1000000000000000000,10000000000000000000]
def NU:List Int:=[0,1,28,2,29,14,24,3,30,22,20,15,25,17,4,8,31,27,13,23,21,19,16,7,26,12,18,6,11,5,10,9]
def NV:List Int:=[0,1,56,2,57,49,28,3,61,58,42,50,38,29,17,4,62,47,59,36,45,43,51,22,53,39,33,30,24,18,12,5,63,55,48,27,60,41,37,16,46,35,44,21,52,32,23,11,54,26,40,15,34,20,31,10,25,14,19,9,13,8,7,6]
structure aX where
 Name:OX
 A:OX
 B_:OX
 vr:Bool
 Open:Bool
 deriving DecidableEq
instance:aE aX where
 sz:=5
 E H cs x:=cs=[.string (x.Name),.string (x.A),.string (x.B_),.bool (x.vr),.bool (x.Open)]
 len h:=by obtain rfl:=h; rfl
 mono hle h:=by obtain rfl:=h; exact rfl
 one h:=by obtain rfl:=h; exact (cK rfl (cK rfl (cK rfl (cK rfl (cK rfl QH)))))
instance:Flat aX:=⟨λh=>h⟩
structure aP where
 Name:OX
 oN:OX
 To:OX
 X:Int
 A_:Int
 Shift:Int
 sN:Int
 wz:Int
 BO:Int
 deriving DecidableEq
instance:aE aP where
 sz:=9
 E H cs x:=cs=[.string (x.Name),.string (x.oN),.string (x.To),.int .i64 (x.X),.int .i64 (x.A_),.int .i64 (x.Shift),.int .i64 (x.sN),.int .i64 (x.wz),.int .i64 (x.BO)]
 len h:=by obtain rfl:=h; rfl
 mono hle h:=by obtain rfl:=h; exact rfl
 one h:=by obtain rfl:=h; exact (cK rfl (cK rfl (cK rfl (cK rfl (cK rfl (cK rfl (cK rfl (cK rfl (cK rfl QH)))))))))
instance:Flat aP:=⟨λh=>h⟩
structure bE where
 Name:OX
 Node:OX
 iJ:Int
 qa:Int
 Bc:Int
 deriving DecidableEq
instance:aE bE where
 sz:=5
 E H cs x:=cs=[.string (x.Name),.string (x.Node),.int .i64 (x.iJ),.int .i64 (x.qa),.int .i64 (x.Bc)]
 len h:=by obtain rfl:=h; rfl
 mono hle h:=by obtain rfl:=h; exact rfl
 one h:=by obtain rfl:=h; exact (cK rfl (cK rfl (cK rfl (cK rfl (cK rfl QH)))))
instance:Flat bE:=⟨λh=>h⟩
structure aF where
 Name:OX
 Node:OX
 cW:Int
 deriving DecidableEq
instance:aE aF where
 sz:=3
 E H cs x:=cs=[.string (x.Name),.string (x.Node),.int .i64 (x.cW)]
 len h:=by obtain rfl:=h; rfl
 mono hle h:=by obtain rfl:=h; exact rfl
 one h:=by obtain rfl:=h; exact (cK rfl (cK rfl (cK rfl QH)))
instance:Flat aF:=⟨λh=>h⟩
structure cE where
 Name:OX
 Node:OX
 rD:Int
 Discharge:Int
 tP:Int
 deriving DecidableEq
instance:aE cE where
 sz:=5
 E H cs x:=cs=[.string (x.Name),.string (x.Node),.int .i64 (x.rD),.int .i64 (x.Discharge),.int .i64 (x.tP)]
 len h:=by obtain rfl:=h; rfl
 mono hle h:=by obtain rfl:=h; exact rfl
 one h:=by obtain rfl:=h; exact (cK rfl (cK rfl (cK rfl (cK rfl (cK rfl QH)))))
instance:Flat cE:=⟨λh=>h⟩
structure aD where
 bC:(List OX)
 aM:(List aX)
 aG:(List aP)
 dL:(List bE)
 bA:(List aF)
 bT:(List cE)
 deriving DecidableEq
instance:aE aD where
 sz:=6
 E H cs x:=∃ v0 v1 v2 v3 v4 v5:OY,cs=[v0,v1,v2,v3,v4,v5]/\aN H v0 x.bC/\aN H v1 x.aM/\aN H v2 x.aG/\aN H v3 x.dL/\aN H v4 x.bA/\aN H v5 x.bT
 len h:=by obtain ⟨v0,v1,v2,v3,v4,v5,rfl,h0,h1,h2,h3,h4,h5⟩:=h; rfl
 mono hle h:=by obtain ⟨v0,v1,v2,v3,v4,v5,rfl,h0,h1,h2,h3,h4,h5⟩:=h; exact ⟨v0,v1,v2,v3,v4,v5,rfl,h0.mono hle,h1.mono hle,h2.mono hle,h3.mono hle,h4.mono hle,h5.mono hle⟩
 one h:=by obtain ⟨v0,v1,v2,v3,v4,v5,rfl,h0,h1,h2,h3,h4,h5⟩:=h; exact (cK (aN.n9 h0) (cK (aN.n9 h1) (cK (aN.n9 h2) (cK (aN.n9 h3) (cK (aN.n9 h4) (cK (aN.n9 h5) QH))))))
structure bJ where
 Kind:Int
 Name:OX
 A:Int
 B_:Int
 deriving DecidableEq
instance:aE bJ where
 sz:=4
 E H cs x:=cs=[.int .i64 (x.Kind),.string (x.Name),.int .i64 (x.A),.int .i64 (x.B_)]
 len h:=by obtain rfl:=h; rfl
 mono hle h:=by obtain rfl:=h; exact rfl
 one h:=by obtain rfl:=h; exact (cK rfl (cK rfl (cK rfl (cK rfl QH))))
instance:Flat bJ:=⟨λh=>h⟩
structure aZ where
 Close:Bool
 Switch:OX
 vX:(List bJ)
 deriving DecidableEq
instance:aE aZ where
 sz:=3
 E H cs x:=∃ v2:OY,cs=[.bool (x.Close),.string (x.Switch),v2]/\aN H v2 x.vX
 len h:=by obtain ⟨v2,rfl,h0⟩:=h; rfl
 mono hle h:=by obtain ⟨v2,rfl,h0⟩:=h; exact ⟨v2,rfl,h0.mono hle⟩
 one h:=by obtain ⟨v2,rfl,h0⟩:=h; exact (cK rfl (cK rfl (cK (aN.n9 h0) QH)))
structure cH where
 bS:aD
 oH:(List aZ)
 deriving DecidableEq
instance:aE cH where
 sz:=7
 E H cs x:=∃ v0 v1 v2 v3 v4 v5 v6:OY,cs=[v0,v1,v2,v3,v4,v5,v6]/\aN H v0 x.bS.bC/\aN H v1 x.bS.aM/\aN H v2 x.bS.aG/\aN H v3 x.bS.dL/\aN H v4 x.bS.bA/\aN H v5 x.bS.bT/\aN H v6 x.oH
 len h:=by obtain ⟨v0,v1,v2,v3,v4,v5,v6,rfl,h0,h1,h2,h3,h4,h5,h6⟩:=h; rfl
 mono hle h:=by obtain ⟨v0,v1,v2,v3,v4,v5,v6,rfl,h0,h1,h2,h3,h4,h5,h6⟩:=h; exact ⟨v0,v1,v2,v3,v4,v5,v6,rfl,h0.mono hle,h1.mono hle,h2.mono hle,h3.mono hle,h4.mono hle,h5.mono hle,h6.mono hle⟩
 one h:=by obtain ⟨v0,v1,v2,v3,v4,v5,v6,rfl,h0,h1,h2,h3,h4,h5,h6⟩:=h; exact (cK (aN.n9 h0) (cK (aN.n9 h1) (cK (aN.n9 h2) (cK (aN.n9 h3) (cK (aN.n9 h4) (cK (aN.n9 h5) (cK (aN.n9 h6) QH)))))))
structure aH where
 Time:Int
 Kind:OX
 Name:OX
 Value:Int
 deriving DecidableEq
instance:aE aH where
 sz:=4
 E H cs x:=cs=[.int .i64 (x.Time),.string (x.Kind),.string (x.Name),.int .i64 (x.Value)]
 len h:=by obtain rfl:=h; rfl
 mono hle h:=by obtain rfl:=h; exact rfl
 one h:=by obtain rfl:=h; exact (cK rfl (cK rfl (cK rfl (cK rfl QH))))
instance:Flat aH:=⟨λh=>h⟩
structure aB where
 minus:Bool
 words:(List bO)
 deriving DecidableEq
instance:aE aB where
 sz:=2
 E H cs x:=∃ v1:OY,cs=[.bool (x.minus),v1]/\aN H v1 x.words
 len h:=by obtain ⟨v1,rfl,h0⟩:=h; rfl
 mono hle h:=by obtain ⟨v1,rfl,h0⟩:=h; exact ⟨v1,rfl,h0.mono hle⟩
 one h:=by obtain ⟨v1,rfl,h0⟩:=h; exact (cK rfl (cK (aN.n9 h0) QH))
structure aA where
 N:aB
 D:aB
 deriving DecidableEq
instance:aE aA where
 sz:=4
 E H cs x:=∃ v1 v3:OY,cs=[.bool (x.N.minus),v1,.bool (x.D.minus),v3]/\aN H v1 x.N.words/\aN H v3 x.D.words
 len h:=by obtain ⟨v1,v3,rfl,h0,h1⟩:=h; rfl
 mono hle h:=by obtain ⟨v1,v3,rfl,h0,h1⟩:=h; exact ⟨v1,v3,rfl,h0.mono hle,h1.mono hle⟩
 one h:=by obtain ⟨v1,v3,rfl,h0,h1⟩:=h; exact (cK rfl (cK (aN.n9 h0) (cK rfl (cK (aN.n9 h1) QH))))
structure bN where
 kF:(List aP)
 lM:(List aA)
 rq:(List Int)
 over:(List Bool)
 time:Int
 deriving DecidableEq
instance:aE bN where
 sz:=5
 E H cs x:=∃ v0 v1 v2 v3:OY,cs=[v0,v1,v2,v3,.int .i64 (x.time)]/\aN H v0 x.kF/\aN H v1 x.lM/\aN H v2 x.rq/\aN H v3 x.over
 len h:=by obtain ⟨v0,v1,v2,v3,rfl,h0,h1,h2,h3⟩:=h; rfl
 mono hle h:=by obtain ⟨v0,v1,v2,v3,rfl,h0,h1,h2,h3⟩:=h; exact ⟨v0,v1,v2,v3,rfl,h0.mono hle,h1.mono hle,h2.mono hle,h3.mono hle⟩
 one h:=by obtain ⟨v0,v1,v2,v3,rfl,h0,h1,h2,h3⟩:=h; exact (cK (aN.n9 h0) (cK (aN.n9 h1) (cK (aN.n9 h2) (cK (aN.n9 h3) (cK rfl QH)))))
structure cD where
 fK:(List OX)
 hO:(List OX)
 deriving DecidableEq
instance:aE cD where
 sz:=2
 E H cs x:=∃ v0 v1:OY,cs=[v0,v1]/\aN H v0 x.fK/\aN H v1 x.hO
 len h:=by obtain ⟨v0,v1,rfl,h0,h1⟩:=h; rfl
 mono hle h:=by obtain ⟨v0,v1,rfl,h0,h1⟩:=h; exact ⟨v0,v1,rfl,h0.mono hle,h1.mono hle⟩
 one h:=by obtain ⟨v0,v1,rfl,h0,h1⟩:=h; exact (cK (aN.n9 h0) (cK (aN.n9 h1) QH))
structure bD where
 jK:(List aH)
 deriving DecidableEq
instance:aE bD where
 sz:=1
 E H cs x:=∃ v0:OY,cs=[v0]/\aN H v0 x.jK
 len h:=by obtain ⟨v0,rfl,h0⟩:=h; rfl
 mono hle h:=by obtain ⟨v0,rfl,h0⟩:=h; exact ⟨v0,rfl,h0.mono hle⟩
 one h:=by obtain ⟨v0,rfl,h0⟩:=h; exact (cK (aN.n9 h0) QH)
structure aO where
 bR:aD
 rules:(List aZ)
 on:(List OX)
 held:(List OX)
 watch:bN
 state:cD
 time:Int
 log:bD
 over:(List OX)
 deriving DecidableEq
structure aQ where
 seen:(List (OX×Bool))
 nodes:(List OX)
 deriving DecidableEq
structure aW where
 pw:(List Int)
 bK:(List Int)
 deriving DecidableEq
instance:aE aW where
 sz:=2
 E H cs x:=∃ v0 v1:OY,cs=[v0,v1]/\aN H v0 x.pw/\aN H v1 x.bK
 len h:=by obtain ⟨v0,v1,rfl,h0,h1⟩:=h; rfl
 mono hle h:=by obtain ⟨v0,v1,rfl,h0,h1⟩:=h; exact ⟨v0,v1,rfl,h0.mono hle,h1.mono hle⟩
 one h:=by obtain ⟨v0,v1,rfl,h0,h1⟩:=h; exact (cK (aN.n9 h0) (cK (aN.n9 h1) QH))
structure bW where
 a0:Int
 a1:Int
 deriving DecidableEq
instance:aE bW where
 sz:=2
 E H cs x:=cs=[.int .i64 (x.a0),.int .i64 (x.a1)]
 len h:=by obtain rfl:=h; rfl
 mono hle h:=by obtain rfl:=h; exact rfl
 one h:=by obtain rfl:=h; exact (cK rfl (cK rfl QH))
instance:Flat bW:=⟨λh=>h⟩
structure bH where
 iJ:Int
 qa:Int
 cW:Int
 deriving DecidableEq
instance:aE bH where
 sz:=3
 E H cs x:=cs=[.int .i64 (x.iJ),.int .i64 (x.qa),.int .i64 (x.cW)]
 len h:=by obtain rfl:=h; rfl
 mono hle h:=by obtain rfl:=h; exact rfl
 one h:=by obtain rfl:=h; exact (cK rfl (cK rfl (cK rfl QH)))
instance:Flat bH:=⟨λh=>h⟩
structure aV where
 uJ:aW
 oN:(List Int)
 To:(List Int)
 B_:(List aA)
 C:(List aA)
 pY:(List Int)
 qu:(List (List aA))
 deriving DecidableEq
instance:aE aV where
 sz:=8
 E H cs x:=∃ v0 v1 v2 v3 v4 v5 v6 v7:OY,cs=[v0,v1,v2,v3,v4,v5,v6,v7]/\aN H v0 x.uJ.pw/\aN H v1 x.uJ.bK/\aN H v2 x.oN/\aN H v3 x.To/\aN H v4 x.B_/\aN H v5 x.C/\aN H v6 x.pY/\aN H v7 x.qu
 len h:=by obtain ⟨v0,v1,v2,v3,v4,v5,v6,v7,rfl,h0,h1,h2,h3,h4,h5,h6,h7⟩:=h; rfl
 mono hle h:=by obtain ⟨v0,v1,v2,v3,v4,v5,v6,v7,rfl,h0,h1,h2,h3,h4,h5,h6,h7⟩:=h; exact ⟨v0,v1,v2,v3,v4,v5,v6,v7,rfl,h0.mono hle,h1.mono hle,h2.mono hle,h3.mono hle,h4.mono hle,h5.mono hle,h6.mono hle,h7.mono hle⟩
 one h:=by obtain ⟨v0,v1,v2,v3,v4,v5,v6,v7,rfl,h0,h1,h2,h3,h4,h5,h6,h7⟩:=h; exact (cK (aN.n9 h0) (cK (aN.n9 h1) (cK (aN.n9 h2) (cK (aN.n9 h3) (cK (aN.n9 h4) (cK (aN.n9 h5) (cK (aN.n9 h6) (cK (aN.n9 h7) QH))))))))
structure cO where
 n:aD
 on:(List OX)
 deriving DecidableEq
instance:aE cO where
 sz:=7
 E H cs x:=∃ v0 v1 v2 v3 v4 v5 v6:OY,cs=[v0,v1,v2,v3,v4,v5,v6]/\aN H v0 x.n.bC/\aN H v1 x.n.aM/\aN H v2 x.n.aG/\aN H v3 x.n.dL/\aN H v4 x.n.bA/\aN H v5 x.n.bT/\aN H v6 x.on
 len h:=by obtain ⟨v0,v1,v2,v3,v4,v5,v6,rfl,h0,h1,h2,h3,h4,h5,h6⟩:=h; rfl
 mono hle h:=by obtain ⟨v0,v1,v2,v3,v4,v5,v6,rfl,h0,h1,h2,h3,h4,h5,h6⟩:=h; exact ⟨v0,v1,v2,v3,v4,v5,v6,rfl,h0.mono hle,h1.mono hle,h2.mono hle,h3.mono hle,h4.mono hle,h5.mono hle,h6.mono hle⟩
 one h:=by obtain ⟨v0,v1,v2,v3,v4,v5,v6,rfl,h0,h1,h2,h3,h4,h5,h6⟩:=h; exact (cK (aN.n9 h0) (cK (aN.n9 h1) (cK (aN.n9 h2) (cK (aN.n9 h3) (cK (aN.n9 h4) (cK (aN.n9 h5) (cK (aN.n9 h6) QH)))))))
structure aL where
 Name:OX
 xC:Bool
 deriving DecidableEq
instance:aE aL where
 sz:=2
 E H cs x:=cs=[.string (x.Name),.bool (x.xC)]
 len h:=by obtain rfl:=h; rfl
 mono hle h:=by obtain rfl:=h; exact rfl
 one h:=by obtain rfl:=h; exact (cK rfl (cK rfl QH))
instance:Flat aL:=⟨λh=>h⟩
def oV:aD:=(aD.mk ([(⟨#[65]⟩),(⟨#[66]⟩)]) ([]:List aX) ([(aP.mk (⟨#[76]⟩) (⟨#[65]⟩) (⟨#[66]⟩) 1000 1000 0 40 60 10)]) ([(bE.mk (⟨#[71]⟩) (⟨#[65]⟩) 10 50 0)]) ([(aF.mk (⟨#[68]⟩) (⟨#[66]⟩) 30)]) ([]:List cE))
def oX (I:Nat) (j:U8) (o:Unit->Option (Bool)):Option (Bool):=if !(((decide (65<=j.n)) && (decide (j.n<=90))) || (((decide (0<(I:Int))) && (decide (48<=j.n))) && (decide (j.n<=57)))) then (some false) else (o ())
def bP (j:OX):Option (Bool):=dF (j.size<=maxLen) (dR (λk y o n=>oX k y n) (λ_=>some ((decide (1<=(j.size:Int))) && (decide ((j.size:Int)<=8)))) 0 (jL j) ())
def lg (I:(List OX)) (J:OX) (j:Nat) (o:Unit->Option (Int)):Option (Int):=idx I (j:Int) λR=>if decide (J=R) then (some (j:Int)) else (o ())
def a_ (j:(List OX)) (o:OX):Option (Int):=jQ (λk I n=>lg j o k n) (λ_=>some (-1)) ((j.length:Int):Int).toNat 0 ()
def bG (j:(List OX)) (o:OX):Option (Bool):=(a_ j o).bind λI=>some (decide (0<=I))
def gK (j:aQ) (name:OX) (nodes:(List OX)) (R:Nat) (I:OX) (o:Unit->Option (Int×aQ)):Option (Int×aQ):=(bG j.nodes I).bind λJ=>if !J then (some (6,(aQ.mk (uv j.seen name true) j.nodes))) else (o ())
def cB (j:aQ) (name:OX) (nodes:(List OX)):Option (Int×aQ):=(bP name).bind λo=>if !o then (some (5,j)) else (if (qK j.seen name).getD false then (some (7,j)) else (dR (λk y R n=>gK j name nodes k y n) (λ_=>if decide ((nodes.length:Int)=2) then (idx nodes 0 λI=>idx nodes 1 λJ=>if decide (I=J) then (some (3,(aQ.mk (uv j.seen name true) j.nodes))) else (some (0,(aQ.mk (uv j.seen name true) j.nodes)))) else (some (0,(aQ.mk (uv j.seen name true) j.nodes)))) 0 nodes ()))
def bF (I:Int) (o:Int) (j:Int):Bool:=((decide (I<o)) || (decide (j<I)))
def gX (j:aP):Int:=if (((((bF j.X 1 10000) || (bF j.A_ 500 1500)) || (bF j.Shift (-1000) 1000)) || (bF j.sN 0 100000)) || (bF j.wz j.sN 100000)) || (bF j.BO 0 200000) then 4 else 0
def aT (j:Int):Bool:=(!(bF j 0 100000))
def iQ (I:aQ) (U:Nat) (j:cE) (R:(List (OX×Bool))) (J:(List (OX×Bool))->Option (Int×aQ)):Option (Int×aQ):=(cB (aQ.mk R I.nodes) j.Name ([j.Node])).bind λo=>if !decide (o.1=0) then (some (o.1,(aQ.mk o.2.seen I.nodes))) else (if ((!(aT j.rD)) || (!(aT j.Discharge))) || (!(aT j.tP)) then (some (4,(aQ.mk o.2.seen I.nodes))) else (J o.2.seen))
def iP (o:aQ) (U:Nat) (I:aF) (R:(List (OX×Bool))) (J:(List (OX×Bool))->Option (Int×aQ)):Option (Int×aQ):=(cB (aQ.mk R o.nodes) I.Name ([I.Node])).bind λj=>if !decide (j.1=0) then (some (j.1,(aQ.mk j.2.seen o.nodes))) else (if !(aT I.cW) then (some (4,(aQ.mk j.2.seen o.nodes))) else (J j.2.seen))
def iN (I:aQ) (U:Nat) (j:bE) (R:(List (OX×Bool))) (J:(List (OX×Bool))->Option (Int×aQ)):Option (Int×aQ):=(cB (aQ.mk R I.nodes) j.Name ([j.Node])).bind λo=>if !decide (o.1=0) then (some (o.1,(aQ.mk o.2.seen I.nodes))) else (if ((!(aT j.iJ)) || (bF j.qa j.iJ 100000)) || (!(aT j.Bc)) then (some (4,(aQ.mk o.2.seen I.nodes))) else (J o.2.seen))
def fO (j:aQ) (o:aD):Option (Int×aQ):=dR (λk y I n=>iN j k y I n) (λI=>dR (λk y J n=>iP j k y J n) (λJ=>dR (λk y R n=>iQ j k y R n) (λR=>some (0,(aQ.mk R j.nodes))) 0 o.bT J) 0 o.bA I) 0 o.dL j.seen
def my (J:aD) (U:Nat) (j:aP) (R:(List (OX×Bool))) (I:(List (OX×Bool))->Option (Int)):Option (Int):=(cB (aQ.mk R J.bC) j.Name ([j.oN,j.To])).bind λo=>if !decide (o.1=0) then (some o.1) else (if !decide ((gX j)=0) then (some (gX j)) else (I o.2.seen))
def mw (J:aD) (U:Nat) (j:aX) (R:(List (OX×Bool))) (I:(List (OX×Bool))->Option (Int)):Option (Int):=(cB (aQ.mk R J.bC) j.Name ([j.A,j.B_])).bind λo=>if !decide (o.1=0) then (some o.1) else (I o.2.seen)
def mu (I:aD) (U:Nat) (J:OX) (R:(List (OX×Bool))) (o:(List (OX×Bool))->Option (Int)):Option (Int):=(cB (aQ.mk R I.bC) J []).bind λj=>if !decide (j.1=0) then (some j.1) else (o j.2.seen)
def bV (j:aD):Option (Int):=if (((((decide (24<(j.bC.length:Int))) || (decide (32<(j.aM.length:Int)))) || (decide (24<(j.aG.length:Int)))) || (decide (10<(j.dL.length:Int)))) || (decide (12<(j.bA.length:Int)))) || (decide (4<(j.bT.length:Int))) then (some 2) else (dR (λk y o n=>mu j k y o n) (λo=>dR (λk y I n=>mw j k y I n) (λI=>dR (λk y J n=>my j k y J n) (λJ=>(fO (aQ.mk J j.bC) j).bind λR=>some R.1) 0 j.aG I) 0 j.aM o) 0 j.bC ([]:(List (OX×Bool))))
def dO (j:List Int->Option (Int)) (o:List Int):Option (Int):=j o
def dY (o:List Int) (J:List Int->Option (Int)) (I:bJ) (j:Nat) (R:Bool):Option (Int):=if R then (if decide ((j:Int)=0) then (some 3) else (if decide (I.B_=(i64.wrap ((j:Int)-1))) then (idx (o.set (((j:Int):Int).toNat) ((j:Int))) (i64.wrap ((j:Int)-1)) λU=>if decide (U=0) then (some 3) else (idx (o.set (((j:Int):Int).toNat) ((j:Int))) (i64.wrap ((j:Int)-1)) λO=>if !decide (I.A=(i64.wrap (O-1))) then (some 3) else (idx (o.set (((j:Int):Int).toNat) ((j:Int))) I.A λY=>idx (o.set (((j:Int):Int).toNat) ((j:Int))) (j:Int) λZ=>dO J ((o.set (((j:Int):Int).toNat) ((j:Int))).set (((j:Int):Int).toNat) Y)))) else (some 3))) else (if (!decide (I.A=0)) || (!decide (I.B_=0)) then (some 3) else (dO J (o.set (((j:Int):Int).toNat) ((j:Int)))))
def jA (o:List Int) (J:List Int->Option (Int)) (I:bJ) (j:Nat) (R:Bool):Option (Int):=if R then (if decide ((j:Int)=0) then (some 3) else (if decide (I.B_=(i64.wrap ((j:Int)-1))) then (idx (o.set (((j:Int):Int).toNat) ((j:Int))) (i64.wrap ((j:Int)-1)) λU=>if decide (U=0) then (some 3) else (idx (o.set (((j:Int):Int).toNat) ((j:Int))) (i64.wrap ((j:Int)-1)) λO=>if !decide (I.A=(i64.wrap (O-1))) then (some 3) else (idx (o.set (((j:Int):Int).toNat) ((j:Int))) I.A λY=>idx (o.set (((j:Int):Int).toNat) ((j:Int))) (j:Int) λZ=>dO J ((o.set (((j:Int):Int).toNat) ((j:Int))).set (((j:Int):Int).toNat) Y)))) else (some 3))) else (if (!decide (I.A=0)) || (!decide (I.B_=0)) then (some 3) else (dO J (o.set (((j:Int):Int).toNat) ((j:Int)))))
def nC (j:Nat) (o:bJ) (I:List Int) (J:List Int->Option (Int)):Option (Int):=if (decide (o.Kind<0)) || (decide (6<o.Kind)) then (some 1) else (if (decide (o.Kind=2)) || (decide (o.Kind=3)) then ((bP o.Name).bind λU=>if !U then (some 6) else (idx I (j:Int) λZ=>if decide (o.Kind=4) then (if ((decide ((j:Int)=0)) || (!decide (o.A=(i64.wrap ((j:Int)-1))))) || (!decide (o.B_=0)) then (some 3) else (idx (I.set (((j:Int):Int).toNat) ((j:Int))) o.A λR=>idx (I.set (((j:Int):Int).toNat) ((j:Int))) (j:Int) λY=>dO J ((I.set (((j:Int):Int).toNat) ((j:Int))).set (((j:Int):Int).toNat) R))) else (if decide (o.Kind=5) then (jA I J o j (decide (o.Kind=5))) else (jA I J o j (decide (o.Kind=6)))))) else (if !decide (o.Name=(⟨#[]⟩)) then (some 3) else (idx I (j:Int) λOK=>if decide (o.Kind=4) then (if ((decide ((j:Int)=0)) || (!decide (o.A=(i64.wrap ((j:Int)-1))))) || (!decide (o.B_=0)) then (some 3) else (idx (I.set (((j:Int):Int).toNat) ((j:Int))) o.A λO=>idx (I.set (((j:Int):Int).toNat) ((j:Int))) (j:Int) λOL=>dO J ((I.set (((j:Int):Int).toNat) ((j:Int))).set (((j:Int):Int).toNat) O))) else (if decide (o.Kind=5) then (dY I J o j (decide (o.Kind=5))) else (dY I J o j (decide (o.Kind=6)))))))
def jG (j:(List bJ)):Option (Int):=if decide (40<(j.length:Int)) then (some 2) else (if decide ((j.length:Int)=0) then (some 3) else (dF (0<=(j.length:Int)/\(j.length:Int)*8<=140737488355328) (dR (λk y o n=>nC k y o n) (λo=>idx o (i64.wrap ((j.length:Int)-1)) λI=>if !decide (I=0) then (some 3) else (some 0)) 0 j (List.replicate ((j.length:Int):Int).toNat (0:Int)))))
def qd (R:Nat) (j:aZ) (I:Unit->Option (Int)):Option (Int):=(bP j.Switch).bind λJ=>if !J then (some 6) else ((jG j.vX).bind λo=>if !decide (o=0) then (some o) else (I ()))
def lZ (j:(List aZ)):Option (Int):=if decide (24<(j.length:Int)) then (some 2) else (dR (λk y o n=>qd k y n) (λ_=>some 0) 0 j ())
def th (J:Nat) (j:aF) (o:List OX) (I:List OX->Option ((List OX))):Option ((List OX)):=dF ((o.length+([j.Name]).length)*16<=140737488355328) (I (o++([j.Name])))
def pq (o:aD):Option ((List OX)):=dR (λk y j n=>th k y j n) (λj=>some j) 0 o.bA ([]:List OX)
def nZ (o:aF) (j:OX):Bool:=(decide (o.Name=j))
def dD (J:(List aF)) (j:OX) (o:Nat) (I:Unit->Option (Int)):Option (Int):=idx J (o:Int) λR=>if (nZ R j) then (some (o:Int)) else (I ())
def cL (o:(List aF)) (j:OX):Option (Int):=jQ (λk I n=>dD o j k n) (λ_=>some (-1)) ((o.length:Int):Int).toNat 0 ()
def cG (o:(List aF)) (j:OX):Option (Bool):=(cL o j).bind λI=>some (decide (0<=I))
def o_ (J:aD) (on:(List OX)) (j:Nat) (o:OX) (I:Unit->Option (Int)):Option (Int):=(cG J.bA o).bind λR=>if !R then (some 6) else (dF (0<=(j:Int)/\(j:Int)<=(on.length:Int)) ((bG (se on 0 (((j:Int):Int).toNat)) o).bind λU=>if U then (some 7) else (I ())))
def dW (j:aD) (on:(List OX)):Option (Int):=(bV j).bind λo=>if !decide (o=0) then (some o) else (dR (λk y I n=>o_ j on k y n) (λ_=>some 0) 0 on ())
def iV (j:aD):Option (aD):=dF (j.bC.length*16<=140737488355328) (dF (j.aM.length*56<=140737488355328) (dF (j.aG.length*96<=140737488355328) (dF (j.dL.length*56<=140737488355328) (dF (j.bA.length*40<=140737488355328) (dF (j.bT.length*56<=140737488355328) (some j))))))
def lI (o:aF) (j:(List OX)):Option (Bool):=(bG j o.Name).bind λI=>some (!I)
def gE (J:(List aF)) (j:(List OX)) (o:Nat) (I:Unit->Option (Int)):Option (Int):=idx J (o:Int) λR=>(lI R j).bind λU=>if U then (some (o:Int)) else (I ())
def eJ (o:(List aF)) (j:(List OX)):Option (Int):=jQ (λk I n=>gE o j k n) (λ_=>some (-1)) ((o.length:Int):Int).toNat 0 ()
def dB (I:Int) (j:(List aF×Int×Int)->Option ((List aF))) (o:List aF) (J:Int):Option ((List aF)):=j (o,J,i64.wrap (I+1))
def fY (Z:(List OX)) (j:List aF) (O:Int) (Y:Int) (o:(List aF×Int×Int)->Option ((List aF))):Option ((List aF)):=if decide (Y<(j.length:Int)) then (idx j Y λI=>(lI I Z).bind λJ=>if !J then (idx j O λR=>dB Y o (j.set ((O:Int).toNat) I) (i64.wrap (O+1))) else (dB Y o j O)) else (dF (0<=O/\O<=(j.length:Int)) (dF (0<=O/\O<=((j.take (O).toNat++List.replicate (j.length-(O).toNat) ((aF.mk (⟨#[]⟩) (⟨#[]⟩) 0):aF)).length:Int)) (some (se (j.take (O).toNat++List.replicate (j.length-(O).toNat) ((aF.mk (⟨#[]⟩) (⟨#[]⟩) 0):aF)) 0 ((O:Int).toNat)))))
def dM (j:(List aF)) (J:(List OX)):Option ((List aF)):=(eJ j J).bind λo=>if decide (o=(-1)) then (some j) else (gG (λI n=>fY J I.1 I.2.1 I.2.2 n) fA (j,o,i64.wrap (o+1)))
def oC (o:aD) (on:(List OX)):Option (aD):=(iV o).bind λj=>(dM j.bA on).bind λI=>some (aD.mk j.bC j.aM j.aG j.dL I j.bT)
def kJ (j:aD) (on:(List OX)):Option (aD×Int):=(dW j on).bind λo=>if !decide (o=0) then (some ((aD.mk ([]:List OX) ([]:List aX) ([]:List aP) ([]:List bE) ([]:List aF) ([]:List cE)),o)) else ((oC j on).bind λI=>some (I,0))
def ni (j:(List bW×List Int)->Option ((List bW)×(List Int))) (o:List bW) (I:List Int):Option ((List bW)×(List Int)):=j (o,I)
def rj (U:aD) (j:Bool) (O:Nat) (o:aX) (I:List bW) (J:List Int) (R:(List bW×List Int)->Option ((List bW)×(List Int))):Option ((List bW)×(List Int)):=if decide (o.Open=j) then ((a_ U.bC o.A).bind λY=>(a_ U.bC o.B_).bind λZ=>dF ((I.length+([(bW.mk Y Z)]).length)*16<=140737488355328) (dF ((J.length+([((O:Int))]:List Int).length)*8<=140737488355328) (ni R (I++([(bW.mk Y Z)])) (J++([((O:Int))]:List Int))))) else (ni R I J)
def pD (I:aD) (o:Bool):Option ((List bW)×(List Int)):=dR (λk y j n=>rj I o k y j.1 j.2 n) (λj=>some (j.1,j.2)) 0 I.aM (([]:List bW),([]:List Int))
def ss (o:Int) (J:Nat) (j:bW) (I:Unit->Option (Int)):Option (Int):=if decide (j.a0<0) then (some 4) else (if decide (o<=j.a0) then (some 4) else (if decide (j.a1<0) then (some 4) else (if decide (o<=j.a1) then (some 4) else (I ()))))
def qQ (j:Int) (o:(List bW)):Option (Int):=if ((decide (j<0)) || (decide (24<j))) || (decide (64<(o.length:Int))) then (some 2) else (dR (λk y I n=>ss j k y n) (λ_=>some 0) 0 o ())
def mb (j:Int) (o:Int):Int×Int:=((u64.wrap ((u64.wrap ((u64.wrap ((nr .u64 j 32)*(nr .u64 o 32)))+(nr .u64 (u64.wrap ((u64.wrap ((nr .u64 j 32)*(u64.wrap ((BitVec.ofInt (u64).bits o &&& BitVec.ofInt (u64).bits 4294967295).toNat))))+(nr .u64 (u64.wrap ((u64.wrap ((BitVec.ofInt (u64).bits j &&& BitVec.ofInt (u64).bits 4294967295).toNat))*(u64.wrap ((BitVec.ofInt (u64).bits o &&& BitVec.ofInt (u64).bits 4294967295).toNat)))) 32))) 32)))+(nr .u64 (u64.wrap ((u64.wrap ((BitVec.ofInt (u64).bits (u64.wrap ((u64.wrap ((nr .u64 j 32)*(u64.wrap ((BitVec.ofInt (u64).bits o &&& BitVec.ofInt (u64).bits 4294967295).toNat))))+(nr .u64 (u64.wrap ((u64.wrap ((BitVec.ofInt (u64).bits j &&& BitVec.ofInt (u64).bits 4294967295).toNat))*(u64.wrap ((BitVec.ofInt (u64).bits o &&& BitVec.ofInt (u64).bits 4294967295).toNat)))) 32))) &&& BitVec.ofInt (u64).bits 4294967295).toNat))+(u64.wrap ((u64.wrap ((BitVec.ofInt (u64).bits j &&& BitVec.ofInt (u64).bits 4294967295).toNat))*(nr .u64 o 32))))) 32))),(u64.wrap (j*o)))
def qY (j:Int) (o:Int):Int×Int:=((((mb j o)).1),(((mb j o)).2))
def jD (j:(List Int×Int)->Option ((List Int))) (o:List Int) (I:Int):Option ((List Int)):=j (o,I)
def d_ (j:(List Int×List Int)->Option ((List Int))) (o:List Int) (I:List Int):Option ((List Int)):=j (o,I)
def pQ (O:Int) (U:Int) (o:Int) (Y:Nat) (j:bW) (I:List Int) (J:List Int) (R:(List Int×List Int)->Option ((List Int))):Option ((List Int)):=if decide ((Y:Int)=O) then (d_ R I J) else (if decide (j.a0=o) then (idx I (i64.wrap ((i64.wrap (j.a0+j.a1))-o)) λZ=>if decide (Z<0) then (idx I (i64.wrap ((i64.wrap (j.a0+j.a1))-o)) λOK=>dF ((J.length+([(i64.wrap ((i64.wrap (j.a0+j.a1))-o))]:List Int).length)*8<=140737488355328) (d_ R (I.set ((i64.wrap ((i64.wrap (j.a0+j.a1))-o):Int).toNat) U) (J++([(i64.wrap ((i64.wrap (j.a0+j.a1))-o))]:List Int)))) else (d_ R I J)) else (if !decide (j.a1=o) then (d_ R I J) else (idx I (i64.wrap ((i64.wrap (j.a0+j.a1))-o)) λOJ=>if decide (OJ<0) then (idx I (i64.wrap ((i64.wrap (j.a0+j.a1))-o)) λOL=>dF ((J.length+([(i64.wrap ((i64.wrap (j.a0+j.a1))-o))]:List Int).length)*8<=140737488355328) (d_ R (I.set ((i64.wrap ((i64.wrap (j.a0+j.a1))-o):Int).toNat) U) (J++([(i64.wrap ((i64.wrap (j.a0+j.a1))-o))]:List Int)))) else (d_ R I J))))
def pP (Z:(List bW)) (O:Int) (I:Int) (R:(List Int×Int)->Option ((List Int))) (J:List Int) (j:List Int) (U:(List Int×List Int)->Option ((List Int))):Option ((List Int)):=if decide (0<(j.length:Int)) then (idx j 0 λY=>dF (0<=1/\1<=(j.length:Int)) (dR (λk y o n=>pQ O I Y k y o.1 o.2 n) (λo=>U (o.1,o.2)) 0 Z (J,(se j (1:Int).toNat j.length)))) else (jD R J (i64.wrap (I+1)))
def pO (Y:(List bW)) (O:Int) (I:Nat) (j:List Int) (o:Int) (J:(List Int×Int)->Option ((List Int))):Option ((List Int)):=idx j (I:Int) λU=>if decide (0<=U) then (jD J j o) else (idx j (I:Int) λZ=>gG (λR n=>pP Y O o J R.1 R.2 n) fA ((j.set (((I:Int):Int).toNat) o),([((I:Int))]:List Int)))
def od (o:Int) (I:(List bW)) (J:Int):Option ((List Int)):=dF (([((-1))]:List Int).length=1/\0<=o/\o*8<=140737488355328) (dF (o<=9223372036854775807) (jQ (λk j n=>pO I J k j.1 j.2 n) (λj=>some j.1) (o:Int).toNat 0 ((E5 ([((-1))]:List Int) o),0)))
def iK (j:Int) (o:(List bW)):Option ((List Int)×Int):=(qQ j o).bind λI=>if !decide (I=0) then (some (([]:List Int),I)) else ((od j o (-1)).bind λJ=>some (J,0))
def nK (j:aD):Option ((List Int)):=(pD j false).bind λo=>(iK (j.bC.length:Int) o.1).bind λI=>some I.1
def rU (j:aD) (o:((List Int))) (OK:Nat) (I:aP) (J:List bW) (O:List bW->Option (aW)):Option (aW):=(a_ j.bC I.oN).bind λY=>idx o Y λR=>(a_ j.bC I.To).bind λZ=>idx o Z λU=>dF ((J.length+([(bW.mk R U)]).length)*16<=140737488355328) (O (J++([(bW.mk R U)])))
def rT (I:Nat) (o:Int) (J:Int) (j:Int->Option (aW)):Option (aW):=j (max J (i64.wrap (o+1)))
def dT (j:aD):Option (aW):=(nK j).bind λo=>dR (λk y I n=>rT k y I n) (λI=>dR (λk y J n=>rU j o k y J n) (λJ=>(iK I J).bind λR=>some (aW.mk o R.1)) 0 j.aG ([]:List bW)) 0 o 0
def qC (I:Nat) (o:Int) (J:Int) (j:Int->Option (Int)):Option (Int):=j (max J (i64.wrap (o+1)))
def lD (o:aD):Option (Int):=(dT o).bind λI=>dR (λk y j n=>qC k y j n) (λj=>some j) 0 I.bK 0
def mf (o:aD) (j:aW) (O:OX):Option (Int):=(a_ o.bC O).bind λI=>idx j.pw I λJ=>idx j.bK J λR=>some R
def rK (U:aD) (O:(aW)) (Z:Nat) (I:aF) (j:List bH) (R:List bH->Option ((List bH))):Option ((List bH)):=(mf U O I.Node).bind λo=>idx j o λY=>idx j o λJ=>R (j.set ((o:Int).toNat) (bH.mk J.iJ J.qa (i64.wrap (Y.cW+I.cW))))
def rJ (U:aD) (O:(aW)) (Y:Nat) (o:bE) (J:List bH) (R:List bH->Option ((List bH))):Option ((List bH)):=(mf U O o.Node).bind λI=>idx J I λj=>R ((J.set ((I:Int).toNat) (bH.mk (i64.wrap (j.iJ+o.iJ)) j.qa j.cW)).set ((I:Int).toNat) (bH.mk (i64.wrap (j.iJ+o.iJ)) (i64.wrap (j.qa+o.qa)) j.cW))
def qh (j:aD):Option ((List bH)):=(dT j).bind λR=>(lD j).bind λo=>dF (0<=o/\o*24<=140737488355328) (dR (λk y I n=>rJ j R k y I n) (λI=>dR (λk y J n=>rK j R k y J n) (λJ=>some J) 0 j.bA I) 0 j.dL (List.replicate (o:Int).toNat ((bH.mk 0 0 0):bH)))
def nM (j:Int):Bool:=(decide (0<j))
def fD (I:(List Int)) (j:Nat) (o:Unit->Option (Int)):Option (Int):=idx I (j:Int) λJ=>if (nM J) then (some (j:Int)) else (o ())
def eF (j:(List Int)):Option (Int):=jQ (λk o n=>fD j k n) (λ_=>some (-1)) ((j.length:Int):Int).toNat 0 ()
def dH (j:(List Int)):Option (Bool):=(eF j).bind λo=>some (decide (0<=o))
def lF (I:List Int) (j:List Int) (o:(List Int×List Int)->Option ((List Int)×Int)) (J:(Int)) (R:Int) (O:Int):Option ((List Int)×Int):=dF ((j.length+([O]:List Int).length)*8<=140737488355328) (o ((I.set ((J:Int).toNat) (i64.wrap (R-O))),(j++([O]:List Int))))
def q_ (O:aD) (Y:(aW)) (Z:Nat) (o:bE) (I:List Int) (U:List Int) (J:(List Int×List Int)->Option ((List Int)×Int)):Option ((List Int)×Int):=(mf O Y o.Node).bind λR=>idx I R λj=>if decide (o.iJ<=j) then (lF I U J R j (min o.qa j)) else (lF I U J R j 0)
def q9 (J:Nat) (j:bH) (o:List Int) (I:List Int->Option ((List Int)×Int)):Option ((List Int)×Int):=dF ((o.length+([j.cW]:List Int).length)*8<=140737488355328) (I (o++([j.cW]:List Int)))
def gI (j:aD):Option ((List Int)×Int):=(bV j).bind λJ=>if !decide (J=0) then (some (([]:List Int),J)) else ((dT j).bind λR=>(qh j).bind λU=>dR (λk y I n=>q9 k y I n) (λI=>dR (λk y o n=>q_ j R k y o.1 o.2 n) (λo=>(dH o.1).bind λO=>if O then (some (([]:List Int),14)) else (some (o.2,0))) 0 j.dL (I,([]:List Int))) 0 U ([]:List Int))
def sr (I:Nat) (j:Int) (o:Unit->Option ((List Int)×Int)):Option ((List Int)×Int):=if (decide (j<(-100000))) || (decide (100000<j)) then (some (([]:List Int),4)) else (o ())
def sq (R:aD) (O:Nat) (I:aF) (j:List Int) (J:List Int->Option ((List Int)×Int)):Option ((List Int)×Int):=(a_ R.bC I.Node).bind λo=>idx j o λU=>idx j o λY=>J (j.set ((o:Int).toNat) (i64.wrap (U-I.cW)))
def so (U:aD) (O:(List Int)) (j:Nat) (o:cE) (I:List Int) (R:List Int->Option ((List Int)×Int)):Option ((List Int)×Int):=idx O (j:Int) λY=>if decide (Y<(i64.wrap (0-o.rD))) then (some (([]:List Int),17)) else (idx O (j:Int) λZ=>if decide (o.Discharge<Z) then (some (([]:List Int),17)) else ((a_ U.bC o.Node).bind λJ=>idx I J λOJ=>idx O (j:Int) λOK=>idx I J λOL=>R (I.set ((J:Int).toNat) (i64.wrap (OJ+OK)))))
def sn (Y:aD) (O:(List Int)) (o:Nat) (I:bE) (j:List Int) (J:List Int->Option ((List Int)×Int)):Option ((List Int)×Int):=idx O (o:Int) λZ=>if decide (Z=0) then ((a_ Y.bC I.Node).bind λR=>idx j R λOJ=>idx O (o:Int) λOK=>idx j R λOP=>J (j.set ((R:Int).toNat) (i64.wrap (OJ+OK)))) else (idx O (o:Int) λOL=>if decide (OL<I.iJ) then (some (([]:List Int),17)) else (idx O (o:Int) λOM=>if decide (I.qa<OM) then (some (([]:List Int),17)) else ((a_ Y.bC I.Node).bind λU=>idx j U λON=>idx O (o:Int) λOO=>idx j U λOQ=>J (j.set ((U:Int).toNat) (i64.wrap (ON+OO))))))
def qP (j:aD) (Y:(List Int)) (O:(List Int)):Option ((List Int)×Int):=(bV j).bind λR=>if !decide (R=0) then (some (([]:List Int),R)) else (if (!decide ((Y.length:Int)=(j.dL.length:Int))) || (!decide ((O.length:Int)=(j.bT.length:Int))) then (some (([]:List Int),3)) else (dF (0<=(j.bC.length:Int)/\(j.bC.length:Int)*8<=140737488355328) (dR (λk y I n=>sn j Y k y I n) (λI=>dR (λk y J n=>so j O k y J n) (λJ=>dR (λk y o n=>sq j k y o n) (λo=>dR (λk y U n=>sr k y n) (λ_=>some (o,0)) 0 o ()) 0 j.bA J) 0 j.bT I) 0 j.dL (List.replicate ((j.bC.length:Int):Int).toNat (0:Int)))))
def eO (j:aD):Option ((List Int)×Int):=(gI j).bind λo=>if !decide (o.2=0) then (some (([]:List Int),o.2)) else (dF (0<=(j.bT.length:Int)/\(j.bT.length:Int)*8<=140737488355328) ((qP j o.1 (List.replicate ((j.bT.length:Int):Int).toNat (0:Int))).bind λI=>some (I.1,I.2)))
def s7 (o:(aW)) (U:Nat) (j:Int) (I:(List (Int×Int))) (R:(List (Int×Int))->Option (Int)):Option (Int):=if (decide (j<(-100000))) || (decide (100000<j)) then (some 4) else (idx o.pw (U:Int) λO=>idx o.bK O λJ=>R (uv I J (i64.wrap (((qK I J).getD (0:Int))+j))))
def oQ (j:aD) (O:(List Int)):Option (Int):=(bV j).bind λI=>if !decide (I=0) then (some I) else (if !decide ((O.length:Int)=(j.bC.length:Int)) then (some 3) else ((dT j).bind λJ=>dR (λk y o n=>s7 J k y o n) (λo=>if (o.any (λR=>!decide (R.2=0))) then (some 14) else (some 0)) 0 O ([]:(List (Int×Int)))))
def nI (minus:Bool) (j:(List bO)):Option (aB):=if minus then (some (aB.mk (decide (0<(j.length:Int))) j)) else (some (aB.mk false j))
def tc (minus:Bool) (j:(List bO)) (o:(List bO)->Option (aB)):Option (aB):=if decide (0<(j.length:Int)) then (idx j (i64.wrap ((j.length:Int)-1)) λI=>if decide (I.n=0) then (dF (0<=(i64.wrap ((j.length:Int)-1))/\(i64.wrap ((j.length:Int)-1))<=(j.length:Int)) (o (se j 0 ((i64.wrap ((j.length:Int)-1):Int).toNat)))) else (nI minus j)) else (nI minus j)
def gW (minus:Bool) (j:(List bO)):Option (aB):=gG (λo n=>tc minus o n) fA j
def pH (j:Int) (I:Int):Option (aB):=(gW (decide (j<0)) ([⟨u32.wrap (I)⟩,⟨u32.wrap (nr .u64 I 32)⟩]:List bO)).bind λo=>some o
def mg (j:Int):Option (aB):=if decide (j<0) then (pH j (u64.wrap (0-(u64.wrap (j))))) else (pH j (u64.wrap (j)))
def kX (j:aB):Option (aB):=(gW (!j.minus) j.words).bind λo=>some o
def eP (j:aB):Int:=if decide ((j.words.length:Int)=0) then 0 else (if j.minus then (-1) else 1)
def qF (j:(List bO)) (o:(List bO)) (O:Int) (I:Int->Option (Int)):Option (Int):=if decide (0<=O) then (idx j O λJ=>idx o O λR=>if !decide (J.n=R.n) then (idx j O λU=>idx o O λY=>if decide (U.n<Y.n) then (some (-1)) else (some 1)) else (I (i64.wrap (O-1)))) else (some 0)
def mP (j:(List bO)) (o:(List bO)):Option (Int):=if !decide ((j.length:Int)=(o.length:Int)) then (some (i64.wrap ((j.length:Int)-(o.length:Int)))) else (gG (λI n=>qF j o I n) fA (i64.wrap ((j.length:Int)-1)))
def qG (R:(List bO)) (j:Int) (o:List bO) (Y:Int) (O:Int) (J:(List bO×Int×Int)->Option ((List bO)×Int)):Option ((List bO)×Int):=if decide (0<=O) then (idx R O λI=>dF ((u64.wrap (j))≠0) (idx o O λU=>dF ((u64.wrap (j))≠0) (J ((o.set ((O:Int).toNat) ⟨u32.wrap (u64.wrap (Int.tdiv (u64.wrap ((BitVec.ofInt (u64).bits (rB .u64 Y 32) ||| BitVec.ofInt (u64).bits (u64.wrap (I.n))).toNat)) (u64.wrap (j))))⟩),Int.tmod (u64.wrap ((BitVec.ofInt (u64).bits (rB .u64 Y 32) ||| BitVec.ofInt (u64).bits (u64.wrap (I.n))).toNat)) (u64.wrap (j)),i64.wrap (O-1))))) else (some (o,(u32.wrap (Y))))
def mR (j:(List bO)) (I:Int):Option ((List bO)×Int):=dF (0<=(j.length:Int)/\(j.length:Int)*4<=140737488355328) (gG (λo n=>qG j I o.1 o.2.1 o.2.2 n) fA ((List.replicate ((j.length:Int):Int).toNat (⟨0⟩:bO)),0,i64.wrap ((j.length:Int)-1)))
def jZ (I:Int) (J:Int):Option (Int):=idx (jL (⟨#[0,1,2,2,3,3,3,3,4,4,4,4,4,4,4,4,5,5,5,5,5,5,5,5,5,5,5,5,5,5,5,5,6,6,6,6,6,6,6,6,6,6,6,6,6,6,6,6,6,6,6,6,6,6,6,6,6,6,6,6,6,6,6,6,7,7,7,7,7,7,7,7,7,7,7,7,7,7,7,7,7,7,7,7,7,7,7,7,7,7,7,7,7,7,7,7,7,7,7,7,7,7,7,7,7,7,7,7,7,7,7,7,7,7,7,7,7,7,7,7,7,7,7,7,7,7,7,7,8,8,8,8,8,8,8,8,8,8,8,8,8,8,8,8,8,8,8,8,8,8,8,8,8,8,8,8,8,8,8,8,8,8,8,8,8,8,8,8,8,8,8,8,8,8,8,8,8,8,8,8,8,8,8,8,8,8,8,8,8,8,8,8,8,8,8,8,8,8,8,8,8,8,8,8,8,8,8,8,8,8,8,8,8,8,8,8,8,8,8,8,8,8,8,8,8,8,8,8,8,8,8,8,8,8,8,8,8,8,8,8,8,8,8,8,8,8,8,8,8,8,8,8,8,8,8,8]⟩)) (u8.wrap (I)) λj=>some (i64.wrap (J+(i64.wrap (j.n))))
def kz (I:Int) (J:Int):Option (Int):=if decide (256<=I) then (jZ (nr .u32 I 8) (i64.wrap (J+8))) else (jZ I J)
def pV (j:Int):Option (Int):=if decide (65536<=j) then (kz (nr .u32 j 16) 16) else (kz j 0)
def iM (j:Int):Option (Int):=(pV j).bind λo=>some (i64.wrap (32-o))
def ri (j:Int) (o:Nat) (I:bO) (J:List bO) (O:Int) (R:(List bO×Int)->Option ((List bO))):Option ((List bO)):=dF (0<=j) (idx J (o:Int) λU=>R ((J.set (((o:Int):Int).toNat) ⟨u32.wrap (u64.wrap ((BitVec.ofInt (u64).bits O ||| BitVec.ofInt (u64).bits (rB .u64 (u64.wrap (I.n)) j)).toNat))⟩),nr .u64 (u64.wrap ((BitVec.ofInt (u64).bits O ||| BitVec.ofInt (u64).bits (rB .u64 (u64.wrap (I.n)) j)).toNat)) 32))
def nJ (j:(List bO)) (I:Int):Option ((List bO)):=dF (0<=(i64.wrap ((j.length:Int)+1))/\(i64.wrap ((j.length:Int)+1))*4<=140737488355328) (dR (λk y o n=>ri I k y o.1 o.2 n) (λo=>idx o.1 (j.length:Int) λJ=>some (o.1.set (((j.length:Int):Int).toNat) ⟨u32.wrap (o.2)⟩)) 0 j ((List.replicate (i64.wrap ((j.length:Int)+1):Int).toNat (⟨0⟩:bO)),0))
def jY (o:List bO) (j:Int) (I:(List bO×List bO×Int)->Option ((List bO)×(List bO))) (J:List bO) (R:Int):Option ((List bO)×(List bO)):=idx o j λU=>I ((o.set ((j:Int).toNat) ⟨u32.wrap (R)⟩),J,i64.wrap (j-1))
def nR (Y:(List bO)) (Z:((List bO))) (o:Int) (j:Nat) (I:List bO) (J:Int) (O:(List bO×Int)->Option ((List bO)×(List bO))):Option ((List bO)×(List bO)):=idx I (i64.wrap ((j:Int)+o)) λR=>idx (se Z 0 (((Y.length:Int):Int).toNat)) (j:Int) λU=>idx I (i64.wrap ((j:Int)+o)) λOK=>O ((I.set ((i64.wrap ((j:Int)+o):Int).toNat) ⟨u32.wrap (u64.wrap (J+(u64.wrap ((u64.wrap (R.n))+(u64.wrap (U.n))))))⟩),nr .u64 (u64.wrap (J+(u64.wrap ((u64.wrap (R.n))+(u64.wrap (U.n)))))) 32)
def nQ (OK:(List bO)) (OL:((List bO))) (o:Int) (I:Int) (j:Nat) (J:List bO) (O:Int) (R:Int) (Z:(List bO×Int×Int)->Option ((List bO)×(List bO))):Option ((List bO)×(List bO)):=idx (se OL 0 (((OK.length:Int):Int).toNat)) (j:Int) λU=>idx J (i64.wrap ((j:Int)+o)) λY=>idx J (i64.wrap ((j:Int)+o)) λOM=>Z ((J.set ((i64.wrap ((j:Int)+o):Int).toNat) ⟨u32.wrap (i64.wrap (O+(i64.wrap ((i64.wrap (Y.n))-(i64.wrap (u64.wrap ((BitVec.ofInt (u64).bits (u64.wrap (R+(u64.wrap (I*(u64.wrap (U.n)))))) &&& BitVec.ofInt (u64).bits 4294967295).toNat)))))))⟩),nr .i64 (i64.wrap (O+(i64.wrap ((i64.wrap (Y.n))-(i64.wrap (u64.wrap ((BitVec.ofInt (u64).bits (u64.wrap (R+(u64.wrap (I*(u64.wrap (U.n)))))) &&& BitVec.ofInt (u64).bits 4294967295).toNat))))))) 32,nr .u64 (u64.wrap (R+(u64.wrap (I*(u64.wrap (U.n)))))) 32)
def eZ (I:(List bO)) (Z:((List bO))) (Y:List bO) (OK:List bO) (o:Int) (O:(List bO×List bO×Int)->Option ((List bO)×(List bO))) (R:Int):Option ((List bO)×(List bO)):=jQ (λk j n=>nQ I Z o R k j.1 j.2.1 j.2.2 n) (λj=>idx j.1 (i64.wrap (o+(I.length:Int))) λU=>idx j.1 (i64.wrap (o+(I.length:Int))) λOM=>if decide ((i64.wrap (j.2.1+(i64.wrap ((i64.wrap (U.n))-(i64.wrap (j.2.2))))))<0) then (jQ (λk J n=>nR I Z o k J.1 J.2 n) (λJ=>idx J.1 (i64.wrap (o+(I.length:Int))) λOL=>idx J.1 (i64.wrap (o+(I.length:Int))) λON=>jY Y o O (J.1.set ((i64.wrap (o+(I.length:Int)):Int).toNat) ⟨u32.wrap (OL.n+(u32.wrap (J.2)))⟩) (u64.wrap (R-1))) ((I.length:Int):Int).toNat 0 ((j.1.set ((i64.wrap (o+(I.length:Int)):Int).toNat) ⟨u32.wrap (i64.wrap (j.2.1+(i64.wrap ((i64.wrap (U.n))-(i64.wrap (j.2.2))))))⟩),0)) else (jY Y o O (j.1.set ((i64.wrap (o+(I.length:Int)):Int).toNat) ⟨u32.wrap (i64.wrap (j.2.1+(i64.wrap ((i64.wrap (U.n))-(i64.wrap (j.2.2))))))⟩) R)) ((I.length:Int):Int).toNat 0 (OK,0,0)
def nS (j:(List bO)) (J:((List bO))) (Y:List bO) (R:List bO) (U:Int) (O:(List bO×List bO×Int)->Option ((List bO)×(List bO))) (o:Int) (I:Int) (Z:(Int×Int)->Option ((List bO)×(List bO))):Option ((List bO)×(List bO)):=if decide (4294967296<=o) then (idx (se J 0 (((j.length:Int):Int).toNat)) (i64.wrap ((j.length:Int)-1)) λOK=>if decide (4294967296<=(u64.wrap (I+(u64.wrap (OK.n))))) then (eZ j J Y R U O (u64.wrap (o-1))) else (Z (u64.wrap (o-1),u64.wrap (I+(u64.wrap (OK.n)))))) else (idx (se J 0 (((j.length:Int):Int).toNat)) (i64.wrap ((j.length:Int)-2)) λOM=>idx R (i64.wrap ((i64.wrap (U+(j.length:Int)))-2)) λON=>if decide ((u64.wrap ((BitVec.ofInt (u64).bits (rB .u64 I 32) ||| BitVec.ofInt (u64).bits (u64.wrap (ON.n))).toNat))<(u64.wrap (o*(u64.wrap (OM.n))))) then (idx (se J 0 (((j.length:Int):Int).toNat)) (i64.wrap ((j.length:Int)-1)) λOL=>if decide (4294967296<=(u64.wrap (I+(u64.wrap (OL.n))))) then (eZ j J Y R U O (u64.wrap (o-1))) else (Z (u64.wrap (o-1),u64.wrap (I+(u64.wrap (OL.n)))))) else (eZ j J Y R U O o))
def lR (R:(Int)) (o:List bO) (j:Nat) (I:List bO) (J:List bO->Option ((List bO)×(List bO))):Option ((List bO)×(List bO)):=idx o (i64.wrap ((j:Int)+1)) λU=>idx o (j:Int) λO=>dF (0<=R) (idx I (j:Int) λY=>J (I.set (((j:Int):Int).toNat) ⟨u32.wrap (nr .u64 (u64.wrap ((BitVec.ofInt (u64).bits (rB .u64 (u64.wrap (U.n)) 32) ||| BitVec.ofInt (u64).bits (u64.wrap (O.n))).toNat)) R)⟩))
def nP (j:(List bO)) (ON:(Int)) (R:((List bO))) (U:List bO) (o:List bO) (I:Int) (OM:(List bO×List bO×Int)->Option ((List bO)×(List bO))):Option ((List bO)×(List bO)):=if decide (0<=I) then (idx o (i64.wrap (I+(j.length:Int))) λO=>idx o (i64.wrap ((i64.wrap (I+(j.length:Int)))-1)) λY=>idx (se R 0 (((j.length:Int):Int).toNat)) (i64.wrap ((j.length:Int)-1)) λZ=>dF ((u64.wrap (Z.n))≠0) (idx (se R 0 (((j.length:Int):Int).toNat)) (i64.wrap ((j.length:Int)-1)) λOK=>dF ((u64.wrap (OK.n))≠0) (gG (λOL n=>nS j R U o I OM OL.1 OL.2 n) fA (u64.wrap (Int.tdiv (u64.wrap ((BitVec.ofInt (u64).bits (rB .u64 (u64.wrap (O.n)) 32) ||| BitVec.ofInt (u64).bits (u64.wrap (Y.n))).toNat)) (u64.wrap (Z.n))),Int.tmod (u64.wrap ((BitVec.ofInt (u64).bits (rB .u64 (u64.wrap (O.n)) 32) ||| BitVec.ofInt (u64).bits (u64.wrap (Y.n))).toNat)) (u64.wrap (OK.n)))))) else (dF (0<=(j.length:Int)/\(j.length:Int)*4<=140737488355328) (jQ (λk J n=>lR ON o k J n) (λJ=>some (U,J)) ((j.length:Int):Int).toNat 0 (List.replicate ((j.length:Int):Int).toNat (⟨0⟩:bO))))
def mQ (o:(List bO)) (j:(List bO)):Option ((List bO)×(List bO)):=(mP o j).bind λO=>if decide (O<0) then (some ([],o)) else (if decide ((j.length:Int)=1) then (idx j 0 λY=>(mR o Y.n).bind λR=>some (R.1,([⟨R.2⟩]:List bO))) else (idx j (i64.wrap ((j.length:Int)-1)) λZ=>(iM Z.n).bind λJ=>(nJ o J).bind λOK=>(nJ j J).bind λU=>dF (0<=(j.length:Int)/\(j.length:Int)<=(U.length:Int)) (dF (0<=(i64.wrap ((i64.wrap ((o.length:Int)-(j.length:Int)))+1))/\(i64.wrap ((i64.wrap ((o.length:Int)-(j.length:Int)))+1))*4<=140737488355328) (gG (λI n=>nP j J U I.1 I.2.1 I.2.2 n) fA ((List.replicate (i64.wrap ((i64.wrap ((o.length:Int)-(j.length:Int)))+1):Int).toNat (⟨0⟩:bO)),OK,i64.wrap ((o.length:Int)-(j.length:Int)))))))
def rL (j:Bool) (o:(List bO)):Option (aB):=some (aB.mk j o)
def tW (o:Bool) (j:(List bO)) (O:Bool) (I:(List bO)) (U:(Bool×(List bO)×Bool×(List bO))->Option (aB)):Option (aB):=if !decide ((eP (aB.mk o j))=0) then ((mQ I j).bind λJ=>dF (J.2.length*4<=140737488355328) ((gW false J.2).bind λR=>U (R.minus,R.words,o,j))) else (rL O I)
def oJ (o:aB) (I:aB):Option (aB):=gG (λj n=>tW j.1 j.2.1 j.2.2.1 j.2.2.2 n) fA (false,I.words,false,o.words)
def kQ (j:List bO) (I:(List bO×Int)->Option ((List bO))) (o:Nat) (O:Int):Option ((List bO)):=idx j (o:Int) λJ=>I ((j.set (((o:Int):Int).toNat) ⟨u32.wrap (O)⟩),nr .u64 O 32)
def qE (U:(List bO)) (I:(List bO)) (j:Nat) (J:List bO) (O:Int) (o:(List bO×Int)->Option ((List bO))):Option ((List bO)):=idx U (j:Int) λR=>if decide ((j:Int)<(I.length:Int)) then (idx I (j:Int) λY=>kQ J o j (u64.wrap ((u64.wrap (O+(u64.wrap (R.n))))+(u64.wrap (Y.n))))) else (kQ J o j (u64.wrap (O+(u64.wrap (R.n)))))
def kR (j:(List bO)) (I:(List bO)):Option ((List bO)):=dF (0<=(i64.wrap ((j.length:Int)+1))/\(i64.wrap ((j.length:Int)+1))*4<=140737488355328) (jQ (λk o n=>qE j I k o.1 o.2 n) (λo=>idx o.1 (j.length:Int) λJ=>some (o.1.set (((j.length:Int):Int).toNat) ⟨u32.wrap (o.2)⟩)) ((j.length:Int):Int).toNat 0 ((List.replicate (i64.wrap ((j.length:Int)+1):Int).toNat (⟨0⟩:bO)),0))
def oB (j:(List bO)) (o:(List bO)):Option ((List bO)):=if decide ((j.length:Int)<(o.length:Int)) then (kR o j) else (kR j o)
def kT (j:List bO) (I:(List bO×Int)->Option ((List bO))) (o:Nat) (O:Int):Option ((List bO)):=idx j (o:Int) λJ=>I ((j.set (((o:Int):Int).toNat) ⟨u32.wrap (O)⟩),nr .i64 O 32)
def qH (U:(List bO)) (I:(List bO)) (j:Nat) (J:List bO) (O:Int) (o:(List bO×Int)->Option ((List bO))):Option ((List bO)):=idx U (j:Int) λR=>if decide ((j:Int)<(I.length:Int)) then (idx I (j:Int) λY=>kT J o j (i64.wrap ((i64.wrap (O+(i64.wrap (R.n))))-(i64.wrap (Y.n))))) else (kT J o j (i64.wrap (O+(i64.wrap (R.n)))))
def mS (j:(List bO)) (I:(List bO)):Option ((List bO)):=dF (0<=(j.length:Int)/\(j.length:Int)*4<=140737488355328) (jQ (λk o n=>qH j I k o.1 o.2 n) (λo=>some o.1) ((j.length:Int):Int).toNat 0 ((List.replicate ((j.length:Int):Int).toNat (⟨0⟩:bO)),0))
def kW (j:aB) (o:aB):Option (aB):=if decide (j.minus=o.minus) then ((oB j.words o.words).bind λI=>(gW j.minus I).bind λJ=>some J) else ((mP j.words o.words).bind λR=>if decide (0<=R) then ((mS j.words o.words).bind λU=>(gW j.minus U).bind λO=>some O) else ((mS o.words j.words).bind λY=>(gW o.minus Y).bind λZ=>some Z))
def nF (j:aB) (o:aB):Option (aB):=(kX o).bind λI=>(kW j I).bind λJ=>some J
def lA (I:Bool) (j:(List bO)) (J:Bool) (o:(List bO)):Option (aB×aB):=some ((aB.mk J o),(aB.mk I j))
def cM (I:aB) (R:aB):Option (aB×aB):=(mQ I.words R.words).bind λj=>dF (j.1.length*4<=140737488355328) ((gW I.minus j.1).bind λJ=>dF (j.2.length*4<=140737488355328) ((gW I.minus j.2).bind λo=>if o.minus then ((mg 1).bind λY=>(nF J Y).bind λU=>(kW o R).bind λO=>lA O.minus O.words U.minus U.words) else (lA o.minus o.words J.minus J.words)))
def mO (o:Bool) (j:(List bO)) (O:Bool) (I:(List bO)):Option (aA):=if decide ((j.length:Int)=1) then (idx j 0 λOO=>if decide (OO.n=1) then (some (aA.mk (aB.mk O I) (aB.mk o j))) else ((oJ (aB.mk O I) (aB.mk o j)).bind λJ=>if decide ((J.words.length:Int)=1) then (idx J.words 0 λOP=>if decide (OP.n=1) then (some (aA.mk (aB.mk O I) (aB.mk o j))) else ((cM (aB.mk false I) J).bind λU=>(cM (aB.mk o j) J).bind λOK=>if O then (some (aA.mk (aB.mk (decide (0<(U.1.words.length:Int))) U.1.words) OK.1)) else (some (aA.mk (aB.mk false U.1.words) OK.1)))) else ((cM (aB.mk false I) J).bind λY=>(cM (aB.mk o j) J).bind λOL=>if O then (some (aA.mk (aB.mk (decide (0<(Y.1.words.length:Int))) Y.1.words) OL.1)) else (some (aA.mk (aB.mk false Y.1.words) OL.1))))) else ((oJ (aB.mk O I) (aB.mk o j)).bind λR=>if decide ((R.words.length:Int)=1) then (idx R.words 0 λOQ=>if decide (OQ.n=1) then (some (aA.mk (aB.mk O I) (aB.mk o j))) else ((cM (aB.mk false I) R).bind λZ=>(cM (aB.mk o j) R).bind λOM=>if O then (some (aA.mk (aB.mk (decide (0<(Z.1.words.length:Int))) Z.1.words) OM.1)) else (some (aA.mk (aB.mk false Z.1.words) OM.1)))) else ((cM (aB.mk false I) R).bind λOJ=>(cM (aB.mk o j) R).bind λON=>if O then (some (aA.mk (aB.mk (decide (0<(OJ.1.words.length:Int))) OJ.1.words) ON.1)) else (some (aA.mk (aB.mk false OJ.1.words) ON.1))))
def mJ (o:aB) (j:aB):Option (aA):=if j.minus then ((kX o).bind λI=>(kX j).bind λJ=>mO J.minus J.words I.minus I.words) else (mO j.minus j.words o.minus o.words)
def qw (j:Int) (o:Int):Option (aA):=(mg j).bind λI=>(mg o).bind λJ=>(mJ I J).bind λR=>some R
def re (J:bO) (j:Nat) (o:Nat) (R:bO) (I:List bO) (O:Int) (Y:(List bO×Int)->Option (aB)):Option (aB):=idx I (i64.wrap ((j:Int)+(o:Int))) λU=>idx I (i64.wrap ((j:Int)+(o:Int))) λZ=>Y ((I.set ((i64.wrap ((j:Int)+(o:Int)):Int).toNat) ⟨u32.wrap (u64.wrap (O+(u64.wrap ((u64.wrap (U.n))+(u64.wrap ((u64.wrap (J.n))*(u64.wrap (R.n))))))))⟩),nr .u64 (u64.wrap (O+(u64.wrap ((u64.wrap (U.n))+(u64.wrap ((u64.wrap (J.n))*(u64.wrap (R.n)))))))) 32)
def ra (o:aB) (I:Nat) (R:bO) (U:List bO) (J:List bO->Option (aB)):Option (aB):=dR (λk y j n=>re R I k y j.1 j.2 n) (λj=>idx j.1 (i64.wrap ((I:Int)+(o.words.length:Int))) λO=>J (j.1.set ((i64.wrap ((I:Int)+(o.words.length:Int)):Int).toNat) ⟨u32.wrap (j.2)⟩)) 0 o.words (U,0)
def eQ (j:aB) (o:aB):Option (aB):=dF (0<=(i64.wrap ((j.words.length:Int)+(o.words.length:Int)))/\(i64.wrap ((j.words.length:Int)+(o.words.length:Int)))*4<=140737488355328) (dR (λk y I n=>ra o k y I n) (λI=>(gW (!decide (j.minus=o.minus)) I).bind λJ=>some J) 0 j.words (List.replicate (i64.wrap ((j.words.length:Int)+(o.words.length:Int)):Int).toNat (⟨0⟩:bO)))
def kY (j:aA) (o:aA):Option (aA):=(eQ j.N o.N).bind λI=>(eQ j.D o.D).bind λJ=>(mJ I J).bind λR=>some R
def jN (j:Int):Option (aA):=(mg j).bind λo=>(mg 1).bind λI=>some (aA.mk o I)
def mK (j:Int):Option ((List aA)):=(jN 0).bind λo=>dF (([o]).length=1/\0<=j/\j*64<=140737488355328) (some (E5 ([o]) j))
def nE (I:(List Int)) (J:Int) (j:Nat) (o:Unit->Option (Int)):Option (Int):=idx I (j:Int) λR=>if decide (J=R) then (some (j:Int)) else (o ())
def kM (j:(List Int)) (o:Int):Option (Int):=jQ (λk I n=>nE j o k n) (λ_=>some (-1)) ((j.length:Int):Int).toNat 0 ()
def lC (j:aV) (I:Int):Option (Int):=(kM j.pY I).bind λo=>some o
def gJ (j:aA) (o:aA):Option (aA):=(eQ j.N o.D).bind λI=>(eQ o.N j.D).bind λJ=>(kW I J).bind λR=>(eQ j.D o.D).bind λU=>(mJ R U).bind λO=>some O
def nH (j:aA):Option (aA):=(kX j.N).bind λo=>some (aA.mk o j.D)
def iU (j:aA) (o:aA):Option (aA):=(nH o).bind λI=>(gJ j I).bind λJ=>some J
def uM (I:Nat) (J:(List aA)) (j:List Nat) (o:List (List aA)) (R:(List Nat×List (List aA))->Option ((List Nat×List (List aA)))):Option ((List Nat×List (List aA))):=dF ((([]:List aA).length+J.length)*64<=140737488355328) (idx j (I:Int) λU=>R ((j.set (((I:Int):Int).toNat) o.length),(o++[([]:List aA)++J])))
def ua (o:(List (List aA))):Option ((List Nat×List (List aA))):=dF (0<=(o.length:Int)/\(o.length:Int)*24<=140737488355328) (dR (λk y j n=>uM k y j.1 j.2 n) (λj=>some (j.1,j.2)) 0 o ((List.replicate ((o.length:Int):Int).toNat 0),([[]])))
def cR (j:aA):Int:=(eP j.N)
def pC (j:aA) (o:aA):Option (aA):=(eQ j.N o.D).bind λI=>(eQ j.D o.N).bind λJ=>(mJ I J).bind λR=>some R
def nT (J:Int) (j:(List Int×Int×List Nat×List (List aA))->Option ((List Nat×List (List aA))×(List Int))) (R:List Int) (o:List Nat) (I:List (List aA)):Option ((List Nat×List (List aA))×(List Int)):=j (R,i64.wrap (J+1),o,I)
def jE (j:List (List aA)->Option ((List Nat×List (List aA))×(List Int))) (o:List (List aA)):Option ((List Nat×List (List aA))×(List Int)):=j o
def l_ (I:Int) (j:(Int×List (List aA))->Option ((List Nat×List (List aA))×(List Int))) (o:List (List aA)):Option ((List Nat×List (List aA))×(List Int)):=j (i64.wrap (I+1),o)
def nV (I:List Int) (J:List Nat) (R:Int) (U:Nat) (O:Nat) (OL:List (List aA)->Option ((List Nat×List (List aA))×(List Int))) (Y:Nat) (OM:aA) (o:Int) (j:List (List aA)) (OK:(Int×List (List aA))->Option ((List Nat×List (List aA))×(List Int))):Option ((List Nat×List (List aA))×(List Int)):=idx ((J.set (((I.length:Int):Int).toNat) U).set ((R:Int).toNat) O) (Y:Int) λON=>if decide (o<(((j[ON]?).getD []).length:Int)) then (idx ((J.set (((I.length:Int):Int).toNat) U).set ((R:Int).toNat) O) (I.length:Int) λOO=>idx ((j[OO]?).getD []) o λOP=>if !decide ((cR OP)=0) then (idx ((J.set (((I.length:Int):Int).toNat) U).set ((R:Int).toNat) O) (Y:Int) λZ=>idx ((J.set (((I.length:Int):Int).toNat) U).set ((R:Int).toNat) O) (Y:Int) λOQ=>idx ((j[OQ]?).getD []) o λOR=>idx ((J.set (((I.length:Int):Int).toNat) U).set ((R:Int).toNat) O) (I.length:Int) λOS=>idx ((j[OS]?).getD []) o λOT=>(kY OM OT).bind λOU=>(iU OR OU).bind λOV=>idx ((j[Z]?).getD []) o λOW=>l_ o OK (j.set Z (((j[Z]?).getD []).set ((o:Int).toNat) OV))) else (l_ o OK j)) else (jE OL j)
def pU (o:List Int) (U:Int) (J:List Nat) (O:Int) (Y:Nat) (Z:Nat) (I:Nat) (j:List (List aA)) (R:List (List aA)->Option ((List Nat×List (List aA))×(List Int))):Option ((List Nat×List (List aA))×(List Int)):=if decide ((I:Int)=(o.length:Int)) then (jE R j) else (idx ((J.set (((o.length:Int):Int).toNat) Y).set ((O:Int).toNat) Z) (I:Int) λOL=>idx ((j[OL]?).getD []) U λOM=>if decide ((cR OM)=0) then (jE R j) else (idx ((J.set (((o.length:Int):Int).toNat) Y).set ((O:Int).toNat) Z) (I:Int) λON=>idx ((j[ON]?).getD []) U λOO=>gG (λOK n=>nV o J O Y Z R I OO OK.1 OK.2 n) fA (U,j)))
def nU (j:List Int) (Y:Int) (o:List Nat) (OL:(List Int×Int×List Nat×List (List aA))->Option ((List Nat×List (List aA))×(List Int))) (J:Int) (R:Nat) (U:Nat) (ON:aA) (O:Int) (I:List (List aA)) (OM:(Int×List (List aA))->Option ((List Nat×List (List aA))×(List Int))):Option ((List Nat×List (List aA))×(List Int)):=idx ((o.set (((j.length:Int):Int).toNat) R).set ((J:Int).toNat) U) (j.length:Int) λOO=>if decide (O<(((I[OO]?).getD []).length:Int)) then (idx ((o.set (((j.length:Int):Int).toNat) R).set ((J:Int).toNat) U) (j.length:Int) λZ=>idx ((o.set (((j.length:Int):Int).toNat) R).set ((J:Int).toNat) U) (j.length:Int) λOP=>idx ((I[OP]?).getD []) O λOQ=>(pC OQ ON).bind λOR=>idx ((I[Z]?).getD []) O λOS=>OM (i64.wrap (O+1),(I.set Z (((I[Z]?).getD []).set ((O:Int).toNat) OR)))) else (dF ((((o.set (((j.length:Int):Int).toNat) R).set ((J:Int).toNat) U).length:Int)<=9223372036854775807) (jQ (λk OK n=>pU j Y o J R U k OK n) (λOK=>dF ((j.length+([Y]:List Int).length)*8<=140737488355328) (nT Y OL (j++([Y]:List Int)) ((o.set (((j.length:Int):Int).toNat) R).set ((J:Int).toNat) U) OK)) ((((o.set (((j.length:Int):Int).toNat) R).set ((J:Int).toNat) U).length:Int):Int).toNat 0 I))
def nW (o:List Int) (J:Int) (j:List Nat) (R:List (List aA)) (O:(List Int×Int×List Nat×List (List aA))->Option ((List Nat×List (List aA))×(List Int))) (I:Int):Option ((List Nat×List (List aA))×(List Int)):=if decide (I=(j.length:Int)) then (nT J O o j R) else (idx j I λU=>idx j (o.length:Int) λY=>idx j (o.length:Int) λOM=>idx (j.set (((o.length:Int):Int).toNat) U) I λON=>idx ((j.set (((o.length:Int):Int).toNat) U).set ((I:Int).toNat) Y) (o.length:Int) λOK=>idx ((R[OK]?).getD []) J λOL=>gG (λZ n=>nU o J j O I U Y OL Z.1 Z.2 n) fA (J,R))
def rN (U:List Int) (J:Int) (j:List Nat) (I:List (List aA)) (R:(List Int×Int×List Nat×List (List aA))->Option ((List Nat×List (List aA))×(List Int))) (o:Int) (O:Int->Option ((List Nat×List (List aA))×(List Int))):Option ((List Nat×List (List aA))×(List Int)):=if decide (o<(j.length:Int)) then (idx j o λY=>idx ((I[Y]?).getD []) J λZ=>if decide ((cR Z)=0) then (O (i64.wrap (o+1))) else (nW U J j I R o)) else (nW U J j I R o)
def l9 (O:Int) (j:List Int) (J:Int) (o:List Nat) (I:List (List aA)) (R:(List Int×Int×List Nat×List (List aA))->Option ((List Nat×List (List aA))×(List Int))):Option ((List Nat×List (List aA))×(List Int)):=if (decide (J<O)) && (decide ((j.length:Int)<(o.length:Int))) then (gG (λU n=>rN j J o I R U n) fA (j.length:Int)) else (some ((o,I),j))
def qx (I:(List (List aA))) (J:Int):Option ((List Nat×List (List aA))×(List Int)):=(ua I).bind λo=>gG (λj n=>l9 J j.1 j.2.1 j.2.2.1 j.2.2.2 n) fA (([]:List Int),0,o.1,o.2)
def sA (R:(List (List aA))) (J:Nat) (j:List Nat) (I:List (List aA)) (U:(List Nat×List (List aA))->Option ((List (List aA))×Bool)):Option ((List (List aA))×Bool):=idx j (J:Int) λo=>dF (0<=(R.length:Int)/\(R.length:Int)<=(((I[o]?).getD []).length:Int)) (idx j (J:Int) λO=>dF (lone j (((J:Int):Int).toNat) o=true) (U ((j.set (((J:Int):Int).toNat) o),(I.set o (((I[o]?).getD []).drop ((R.length:Int):Int).toNat)))))
def sy (R:(List (List aA))) (j:Nat) (J:List Nat) (o:List (List aA)) (Y:(List Nat×List (List aA))->Option ((List (List aA))×Bool)):Option ((List (List aA))×Bool):=idx R (j:Int) λI=>dF ((([]:List aA).length+I.length)*64<=140737488355328) ((mK (R.length:Int)).bind λU=>dF (((([]:List aA)++I).length+U.length)*64<=140737488355328) (idx J (j:Int) λOK=>idx (J.set (((j:Int):Int).toNat) o.length) (j:Int) λO=>(jN 1).bind λZ=>idx (((o++[(([]:List aA)++I)++U])[O]?).getD []) (i64.wrap ((R.length:Int)+(j:Int))) λOL=>Y ((J.set (((j:Int):Int).toNat) o.length),((o++[(([]:List aA)++I)++U]).set O ((((o++[(([]:List aA)++I)++U])[O]?).getD []).set ((i64.wrap ((R.length:Int)+(j:Int)):Int).toNat) Z)))))
def pJ (j:(List (List aA))):Option ((List (List aA))×Bool):=dF (0<=(j.length:Int)/\(j.length:Int)*24<=140737488355328) (jQ (λk o n=>sy j k o.1 o.2 n) (λo=>(qx (qL o.1 o.2) (j.length:Int)).bind λI=>if decide ((I.2.length:Int)<(j.length:Int)) then (some ([],false)) else (dF ((I.1.1.length:Int)<=9223372036854775807) (jQ (λk J n=>sA j k J.1 J.2 n) (λJ=>some (qL J.1 J.2,true)) ((I.1.1.length:Int):Int).toNat 0 (I.1.1,I.1.2)))) ((j.length:Int):Int).toNat 0 ((List.replicate ((j.length:Int):Int).toNat 0),([[]])))
def fN (j:List (List aA)->Option (aV)) (o:List (List aA)):Option (aV):=j o
def iE (R:List Nat) (Y:List (List aA)->Option (aV)) (Z:aA) (J:(Int)) (o:(Int)) (j:List (List aA)):Option (aV):=if (decide (0<=J)) && (decide (0<=o)) then (idx R J λI=>idx R o λU=>idx R J λOK=>idx ((j[OK]?).getD []) o λOL=>(iU OL Z).bind λO=>idx R o λOM=>idx ((j[OM]?).getD []) J λON=>(iU ON Z).bind λOO=>idx ((j[I]?).getD []) o λOP=>idx (((j.set I (((j[I]?).getD []).set ((o:Int).toNat) O))[U]?).getD []) J λOQ=>fN Y ((j.set I (((j[I]?).getD []).set ((o:Int).toNat) O)).set U ((((j.set I (((j[I]?).getD []).set ((o:Int).toNat) O))[U]?).getD []).set ((J:Int).toNat) OO))) else (fN Y j)
def iF (I:List Nat) (U:List (List aA)->Option (aV)) (J:aA) (O:(Int)) (j:(Int)) (o:List (List aA)):Option (aV):=if decide (0<=j) then (idx I j λR=>idx I j λY=>idx ((o[Y]?).getD []) j λZ=>(gJ Z J).bind λOK=>idx ((o[R]?).getD []) j λOL=>iE I U J O j (o.set R (((o[R]?).getD []).set ((j:Int).toNat) OK))) else (iE I U J O j o)
def jV (I:aV) (J:List Nat) (O:Nat) (U:aA) (o:List (List aA)) (R:List (List aA)->Option (aV)):Option (aV):=idx I.oN (O:Int) λOK=>(lC I OK).bind λj=>idx I.To (O:Int) λOL=>(lC I OL).bind λZ=>idx I.oN (O:Int) λOM=>idx I.To (O:Int) λON=>if decide (OM=ON) then (fN R o) else (if decide (0<=j) then (idx J j λY=>idx J j λOO=>idx ((o[OO]?).getD []) j λOP=>(gJ OP U).bind λOQ=>idx ((o[Y]?).getD []) j λOR=>iF J R U j Z (o.set Y (((o[Y]?).getD []).set ((j:Int).toNat) OQ))) else (iF J R U j Z o))
def oT (R:aV) (I:Nat) (j:List Nat) (o:List (List aA)) (J:(List Nat×List (List aA))->Option (aV)):Option (aV):=(mK (R.pY.length:Int)).bind λU=>idx j (I:Int) λO=>J ((j.set (((I:Int):Int).toNat) o.length),(o++[U]))
def mq (j:aV):Option (aV):=dF (0<=(j.pY.length:Int)/\(j.pY.length:Int)*24<=140737488355328) (dF (((List.replicate ((j.pY.length:Int):Int).toNat 0).length:Int)<=9223372036854775807) (jQ (λk o n=>oT j k o.1 o.2 n) (λo=>dR (λk y I n=>jV j o.1 k y I n) (λI=>(pJ (qL o.1 I)).bind λJ=>some (aV.mk j.uJ j.oN j.To j.B_ j.C j.pY J.1)) 0 j.B_ o.2) (((List.replicate ((j.pY.length:Int):Int).toNat 0).length:Int):Int).toNat 0 ((List.replicate ((j.pY.length:Int):Int).toNat 0),([[]]))))
def qv (o:(List (Int×Bool))) (j:((List (Int×Bool))×List Int)->Option ((Option aV))) (I:Int) (J:List Int):Option ((Option aV)):=j ((uv o I true),J)
def vB (R:Nat) (j:Int) (o:(List (Int×Bool))) (I:List Int) (J:((List (Int×Bool))×List Int)->Option ((Option aV))):Option ((Option aV)):=if (qK o j).getD false then (dF ((I.length+([((R:Int))]:List Int).length)*8<=140737488355328) (qv o J j (I++([((R:Int))]:List Int)))) else (qv o J j I)
def vA (I:aD) (J:(aW)) (OQ:Nat) (j:aP) (R:List Int) (U:List Int) (O:List aA) (Y:List aA) (OM:(List Int×List Int×List aA×List aA)->Option ((Option aV))):Option ((Option aV)):=(a_ I.bC j.oN).bind λON=>idx J.pw ON λZ=>dF ((R.length+([Z]:List Int).length)*8<=140737488355328) ((a_ I.bC j.To).bind λOO=>idx J.pw OO λOK=>dF ((U.length+([OK]:List Int).length)*8<=140737488355328) ((qw 1000000 (i64.wrap (j.X*j.A_))).bind λo=>dF ((O.length+([o]).length)*64<=140737488355328) ((qw (i64.wrap (0-j.Shift)) 1000).bind λOP=>(kY o OP).bind λOL=>dF ((Y.length+([OL]).length)*64<=140737488355328) (OM ((R++([Z]:List Int)),(U++([OK]:List Int)),(O++([o])),(Y++([OL])))))))
def u5 (I:aD):Option ((Option aV)):=(dT I).bind λJ=>dR (λk y j n=>vA I J k y j.1 j.2.1 j.2.2.1 j.2.2.2 n) (λj=>dR (λk y o n=>vB k y o.1 o.2 n) (λo=>(mq (aV.mk J j.1 j.2.1 j.2.2.1 j.2.2.2 o.2 [])).bind λR=>some (some R)) 0 J.bK (([]:(List (Int×Bool))),([]:List Int))) 0 I.aG (([]:List Int),([]:List Int),([]:List aA),([]:List aA))
def fC (j:aV):Int:=(j.uJ.bK.length:Int)
def qc (R:Nat) (J:Int) (j:List aA) (I:List aA->Option ((List aA))):Option ((List aA)):=(jN J).bind λo=>dF ((j.length+([o]).length)*64<=140737488355328) (I (j++([o])))
def qb (J:aV) (R:Nat) (U:Int) (j:List Int) (I:List Int->Option ((List aA))):Option ((List aA)):=idx J.uJ.pw (R:Int) λo=>idx j o λO=>idx j o λY=>I (j.set ((o:Int).toNat) (i64.wrap (O+U)))
def nL (j:aV) (J:(List Int)):Option ((List aA)):=dF (0<=(fC j)/\(fC j)*8<=140737488355328) (dR (λk y o n=>qb j k y o n) (λo=>dR (λk y I n=>qc k y I n) (λI=>some I) 0 o ([]:List aA)) 0 J (List.replicate ((fC j):Int).toNat (0:Int)))
def lQ (j:(Bool×(List bO)×Bool×(List bO))->Option (aA)) (o:Bool) (I:(List bO)) (J:Bool) (R:(List bO)):Option (aA):=j (o,I,J,R)
def tV (Y:(List aA)) (Z:(List aA)) (o:Nat) (J:Bool) (R:(List bO)) (U:Bool) (O:(List bO)) (j:(Bool×(List bO)×Bool×(List bO))->Option (aA)):Option (aA):=idx Y (o:Int) λOK=>if decide ((cR OK)=0) then (lQ j J R U O) else (idx Z (o:Int) λOL=>if !decide ((cR OL)=0) then (idx Y (o:Int) λOM=>idx Z (o:Int) λON=>(kY OM ON).bind λOO=>(gJ (aA.mk (aB.mk J R) (aB.mk U O)) OO).bind λI=>lQ j I.N.minus I.N.words I.D.minus I.D.words) else (lQ j J R U O))
def sV (I:(List aA)) (J:(List aA)):Option (aA):=(jN 0).bind λo=>jQ (λk j n=>tV I J k j.1 j.2.1 j.2.2.1 j.2.2.2 n) (λj=>some (aA.mk (aB.mk j.1 j.2.1) (aB.mk j.2.2.1 j.2.2.2))) ((I.length:Int):Int).toNat 0 (o.N.minus,o.N.words,o.D.minus,o.D.words)
def oS (J:aV) (R:List aA) (U:Nat) (j:Int) (o:List aA) (I:List aA->Option ((List aA))):Option ((List aA)):=idx J.qu (U:Int) λO=>(sV O R).bind λY=>idx o j λZ=>I (o.set ((j:Int).toNat) Y)
def oR (J:(List aA)) (j:Nat) (R:Int) (o:List aA) (I:List aA->Option ((List aA))):Option ((List aA)):=idx J R λU=>idx o (j:Int) λO=>I (o.set (((j:Int):Int).toNat) U)
def mo (j:aV) (J:(List aA)):Option ((List aA)):=dF (0<=(j.pY.length:Int)/\(j.pY.length:Int)*64<=140737488355328) (dR (λk y o n=>oR J k y o n) (λo=>(mK (fC j)).bind λR=>dR (λk y I n=>oS j o k y I n) (λI=>some I) 0 j.pY R) 0 j.pY (List.replicate ((j.pY.length:Int):Int).toNat ((aA.mk (aB.mk false []) (aB.mk false [])):aA)))
def mH (o:aV) (I:Nat) (U:aA) (j:List aA) (Y:List aA->Option ((List aA))):Option ((List aA)):=idx o.oN (I:Int) λJ=>idx o.oN (I:Int) λZ=>idx j Z λOK=>(iU OK U).bind λR=>idx j J λOO=>idx o.To (I:Int) λO=>idx o.To (I:Int) λOL=>idx (j.set ((J:Int).toNat) R) OL λOM=>(gJ OM U).bind λON=>idx (j.set ((J:Int).toNat) R) O λOP=>Y ((j.set ((J:Int).toNat) R).set ((O:Int).toNat) ON)
def mn (j:aV) (I:(List aA)):Option ((List aA)):=dF (I.length*64<=140737488355328) (dR (λk y o n=>mH j k y o n) (λo=>(mo j o).bind λJ=>some J) 0 j.C I)
def kO (J:Int) (I:(Int×List U8)->Option (OX×Bool)) (j:bO) (o:List U8):Option (OX×Bool):=dF (o.length+(r9 (u64.wrap (j.n))).size<=140737488355328) (I (i64.wrap (J-1),(o++jL (r9 (u64.wrap (j.n))))))
def kP (j:List U8) (o:OX):Option (OX×Bool):=some (o,(decide (((ye j).size:Int)<=2000)))
def oy (R:aB) (J:List bO) (O:Int) (j:List U8) (I:(Int×List U8)->Option (OX×Bool)):Option (OX×Bool):=if decide (0<=O) then (idx J O λo=>dF (0<=(u64.wrap (o.n))/\(u64.wrap (o.n))<=18446744073709551615) (if decide (O<(i64.wrap ((J.length:Int)-1))) then (dF (0<=((r9 (u64.wrap (o.n))).size:Int)/\((r9 (u64.wrap (o.n))).size:Int)<=((⟨#[48,48,48,48,48,48,48,48,48]⟩:OX).size:Int)) (dF (j.length+((⟨#[48,48,48,48,48,48,48,48,48]⟩:OX).extract ((((r9 (u64.wrap (o.n))).size:Int):Int).toNat) ((⟨#[48,48,48,48,48,48,48,48,48]⟩:OX).size)).size<=140737488355328) (kO O I o (j++jL ((⟨#[48,48,48,48,48,48,48,48,48]⟩:OX).extract ((((r9 (u64.wrap (o.n))).size:Int):Int).toNat) ((⟨#[48,48,48,48,48,48,48,48,48]⟩:OX).size)))))) else (kO O I o j))) else (dF (0<j.length) (if R.minus then (dF ((⟨#[45]⟩:OX).size+(ye j).size<=maxLen) (kP j ((⟨#[45]⟩:OX)++(ye j)))) else (kP j (ye j))))
def qD (U:aB) (j:List bO) (I:(List bO)) (R:(List bO×(List bO))->Option (OX×Bool)):Option (OX×Bool):=if decide (0<(I.length:Int)) then ((mR I 1000000000).bind λo=>dF ((j.length+([⟨o.2⟩]:List bO).length)*4<=140737488355328) ((gW false o.1).bind λO=>R ((j++([⟨o.2⟩]:List bO)),O.words))) else (gG (λJ n=>oy U j J.1 J.2 n) fA (i64.wrap ((j.length:Int)-1),([]:List U8)))
def jX (j:aB):Option (OX×Bool):=if decide ((j.words.length:Int)=0) then (some ((⟨#[48]⟩),true)) else (if decide (210<(j.words.length:Int)) then (some ((⟨#[]⟩),false)) else (gG (λo n=>qD j o.1 o.2 n) fA (([]:List bO),j.words)))
def oA (I:aA):Option (OX×Bool):=(jX I.N).bind λj=>if !j.2 then (some ((⟨#[]⟩),false)) else ((jX I.D).bind λo=>if decide (o.1=(⟨#[49]⟩)) then (some (j.1,o.2)) else (dF (j.1.size+(⟨#[47]⟩:OX).size<=maxLen) (dF ((j.1++(⟨#[47]⟩)).size+o.1.size<=maxLen) (some (((j.1++(⟨#[47]⟩))++o.1),o.2)))))
def sx (j:Nat) (R:aA) (o:List OX) (J:List OX->Option ((List OX)×Bool)):Option ((List OX)×Bool):=(oA R).bind λI=>if !I.2 then (some (([]:List OX),false)) else (idx o (j:Int) λU=>J (o.set (((j:Int):Int).toNat) I.1))
def sJ (j:(List aA)):Option ((List OX)×Bool):=dF (0<=(j.length:Int)/\(j.length:Int)*16<=140737488355328) (dR (λk y o n=>sx k y o n) (λo=>some (o,true)) 0 j (List.replicate ((j.length:Int):Int).toNat ((⟨#[]⟩):OX)))
def mT (o:(List aA)):Option ((List OX)×Int):=(sJ o).bind λj=>if !j.2 then (some (([]:List OX),2)) else (some (j.1,0))
def pM (j:aV) (I:(List aA)) (o:Nat) (O:aA) (J:List aA) (U:List aA->Option ((List aA))):Option ((List aA)):=idx j.B_ (o:Int) λY=>idx j.oN (o:Int) λZ=>idx I Z λOK=>idx j.To (o:Int) λOL=>idx I OL λOM=>(iU OK OM).bind λON=>(kY Y ON).bind λOO=>(gJ OO O).bind λR=>dF ((J.length+([R]).length)*64<=140737488355328) (U (J++([R])))
def mY (o:aV) (I:(List aA)):Option ((List aA)):=dR (λk y j n=>pM o I k y j n) (λj=>some j) 0 o.C ([]:List aA)
def oU (j:aD) (Y:(List Int)):Option (cD×Int):=(oQ j Y).bind λo=>if !decide (o=0) then (some ((cD.mk ([]:List OX) ([]:List OX)),o)) else ((u5 j).bind λU=>DL U none (λO=>(nL O Y).bind λZ=>(mn O Z).bind λI=>(mT I).bind λJ=>(mY O I).bind λOI=>(mT OI).bind λR=>if (!decide (J.2=0)) || (!decide (R.2=0)) then (some ((cD.mk ([]:List OX) ([]:List OX)),2)) else (some ((cD.mk J.1 R.1),0))))
def eY (j:OX) (o:Int):Int:=(LV j o)
def gH (j:OX) (I:OX):Option (Int):=if (decide ((I.size:Int)=0)) || (decide (I=j)) then (some 0) else (if decide ((I.size:Int)=1) then (idx (jL I) 0 λo=>some (eY j o.n)) else (if decide ((j.size:Int)<=(I.size:Int)) then (some (-1)) else none))
def iL (j:OX) (I:OX):Option (OX×OX×Bool):=(gH j I).bind λo=>if decide (0<=o) then (dF (0<=o/\o<=(j.size:Int)) (dF (0<=(i64.wrap (o+(I.size:Int)))/\(i64.wrap (o+(I.size:Int)))<=(j.size:Int)) (some ((j.extract 0 ((o:Int).toNat)),(j.extract ((i64.wrap (o+(I.size:Int)):Int).toNat) j.size),true)))) else (some (j,(⟨#[]⟩),false))
def mL (o:OX) (I:OX):Option (OX×OX×Bool):=(iL o I).bind λj=>some (j.1,j.2.1,j.2.2)
def eC (o:OX) (j:OX):Option (Bool):=if decide ((j.size:Int)<=(o.size:Int)) then (dF (0<=(j.size:Int)/\(j.size:Int)<=(o.size:Int)) (some (decide ((o.extract 0 (((j.size:Int):Int).toNat))=j)))) else (some false)
def mF (o:OX) (j:OX):Option (Bool):=(eC o j).bind λI=>some I
def gO (o:OX) (j:OX):Option (OX):=(eC o j).bind λI=>if I then (dF (0<=(j.size:Int)/\(j.size:Int)<=(o.size:Int)) (some (o.extract (((j.size:Int):Int).toNat) o.size))) else (some o)
def kC (o:OX) (j:OX):Option (OX):=(gO o j).bind λI=>some I
def qW (o:(Bool)) (I:Bool) (j:(List bO)):Option (aB):=if o then (some (aB.mk (decide (0<(j.length:Int))) j)) else (some (aB.mk false j))
def s9 (U:(Bool)) (j:OX) (o:Bool) (I:(List bO)) (R:(OX×Bool×(List bO))->Option (aB)):Option (aB):=if decide (0<(j.size:Int)) then (dF (0<=(i64.wrap ((Int.tmod (i64.wrap ((j.size:Int)-1)) 9)+1))/\(i64.wrap ((Int.tmod (i64.wrap ((j.size:Int)-1)) 9)+1))<=(j.size:Int)) (dF ((j.extract 0 ((i64.wrap ((Int.tmod (i64.wrap ((j.size:Int)-1)) 9)+1):Int).toNat)).size≠0/\(j.extract 0 ((i64.wrap ((Int.tmod (i64.wrap ((j.size:Int)-1)) 9)+1):Int).toNat)).size<=281474976710656/\(Ks (j.extract 0 ((i64.wrap ((Int.tmod (i64.wrap ((j.size:Int)-1)) 9)+1):Int).toNat))).2=false) ((mg 1000000000).bind λO=>(eQ (aB.mk o I) O).bind λY=>(mg (i64.wrap ((Ks (j.extract 0 ((i64.wrap ((Int.tmod (i64.wrap ((j.size:Int)-1)) 9)+1):Int).toNat))).1))).bind λZ=>(kW Y Z).bind λJ=>dF (0<=(i64.wrap ((Int.tmod (i64.wrap ((j.size:Int)-1)) 9)+1))/\(i64.wrap ((Int.tmod (i64.wrap ((j.size:Int)-1)) 9)+1))<=(j.size:Int)) (R (j.extract ((i64.wrap ((Int.tmod (i64.wrap ((j.size:Int)-1)) 9)+1):Int).toNat) j.size,J.minus,J.words))))) else (qW U o I)
def kH (o:OX):Option (aB):=(mF o (⟨#[45]⟩)).bind λI=>(kC o (⟨#[45]⟩)).bind λJ=>gG (λj n=>s9 I j.1 j.2.1 j.2.2 n) fA (J,false,[])
def pI (o:OX):Option (aA):=(mL o (⟨#[47]⟩)).bind λj=>if !j.2.2 then ((kH j.1).bind λI=>(mg 1).bind λJ=>some (aA.mk I J)) else ((kH j.1).bind λR=>(kH j.2.1).bind λU=>some (aA.mk R U))
def nG (j:aA):Option (aA):=if decide ((cR j)<0) then ((nH j).bind λo=>some o) else (some j)
def qU (j:aB) (o:aB):Option (Int):=(nF j o).bind λI=>some (eP I)
def mh (j:aA) (o:aA):Option (Int):=(eQ j.N o.D).bind λI=>(eQ o.N j.D).bind λJ=>(qU I J).bind λR=>some R
def n6 (j:List OX->Option ((List OX))) (o:List OX):Option ((List OX)):=j o
def rR (lM:(List OX)) (J:Nat) (j:aP) (o:List OX) (I:List OX->Option ((List OX))):Option ((List OX)):=idx lM (J:Int) λR=>(pI R).bind λU=>(nG U).bind λO=>(jN j.sN).bind λY=>(mh O Y).bind λZ=>if decide (0<Z) then (dF ((o.length+([j.Name]).length)*16<=140737488355328) (n6 I (o++([j.Name])))) else (n6 I o)
def nc (o:aD) (lM:(List OX)):Option ((List OX)):=dR (λk y j n=>rR lM k y j n) (λj=>some j) 0 o.aG ([]:List OX)
def fJ (o:aD):Option (cD×(List OX)×Int):=(eO o).bind λI=>if !decide (I.2=0) then (some ((cD.mk ([]:List OX) ([]:List OX)),([]:List OX),I.2)) else ((oU o I.1).bind λj=>if !decide (j.2=0) then (some ((cD.mk ([]:List OX) ([]:List OX)),([]:List OX),j.2)) else ((nc o j.1.hO).bind λJ=>some (j.1,J,0)))
def c_ (I:aD) (on:(List OX)):Option (cD×(List OX)×Int):=(kJ I on).bind λj=>if !decide (j.2=0) then (some ((cD.mk ([]:List OX) ([]:List OX)),([]:List OX),j.2)) else ((fJ j.1).bind λo=>some (o.1,o.2.1,o.2.2))
def pf (j:cH):Option (Int):=(bV j.bS).bind λo=>if !decide (o=0) then (some o) else ((lZ j.oH).bind λI=>if !decide (I=0) then (some I) else (if decide (5<(j.bS.bA.length:Int)) then (some 2) else ((pq j.bS).bind λJ=>(c_ j.bS J).bind λR=>some R.2.2)))
def kE:bD:=(bD.mk ([]:List aH))
def oY (j:aD):Option ((Option bN)×Int):=(bV j).bind λo=>if !decide (o=0) then (some (none,o)) else ((iV j).bind λI=>(mK (j.aG.length:Int)).bind λJ=>dF (0<=(j.aG.length:Int)/\(j.aG.length:Int)*8<=140737488355328) (dF (0<=(j.aG.length:Int)/\(j.aG.length:Int)*1<=140737488355328) (some ((some (bN.mk I.aG J (List.replicate ((j.aG.length:Int):Int).toNat (0:Int)) (List.replicate ((j.aG.length:Int):Int).toNat (false:Bool)) 0)),0))))
def uP (j:Nat) (o:List aZ) (R:List aZ->Option ((Option aO)×Int)):Option ((Option aO)×Int):=idx o (j:Int) λI=>dF (I.vX.length*40<=140737488355328) (idx o (j:Int) λJ=>R (o.set (((j:Int):Int).toNat) (aZ.mk J.Close J.Switch I.vX)))
def sB (j:cH):Option ((Option aO)×Int):=(pf j).bind λR=>if !decide (R=0) then (some (none,R)) else ((iV j.bS).bind λo=>dF (j.oH.length*48<=140737488355328) ((pq j.bS).bind λI=>jQ (λk J n=>uP k J n) (λJ=>(oY o).bind λU=>DL U.1 ((c_ o I).bind λZ=>none) (λO=>(c_ o I).bind λY=>some ((some (aO.mk o J I [] O Y.1 0 ((kE)) [])),0))) ((j.oH.length:Int):Int).toNat 0 j.oH))
def rH (I:Nat) (j:U8) (o:Unit->Option (Bool)):Option (Bool):=if (decide (j.n<97)) || (decide (122<j.n)) then (some false) else (o ())
def lP (j:OX):Option (Bool):=dF (j.size<=maxLen) (dR (λk y o n=>rH k y n) (λ_=>some ((decide (1<=(j.size:Int))) && (decide ((j.size:Int)<=8)))) 0 (jL j) ())
def dV (j:aH):Option (Int):=if (decide (j.Time<0)) || (decide (200000<j.Time)) then (some 12) else ((lP j.Kind).bind λo=>if o then ((bP j.Name).bind λI=>if !I then (some 6) else (if (decide (j.Value<(-1000000))) || (decide (1000000<j.Value)) then (some 4) else (some 0))) else (some 6))
def ly (j:bD):Option ((List aH)):=dF (j.jK.length*48<=140737488355328) (some j.jK)
def n7 (o:aF) (j:aH):Bool:=(decide (o.Name=j.Name))
def fG (J:(List aF)) (j:aH) (o:Nat) (I:Unit->Option (Int)):Option (Int):=idx J (o:Int) λR=>if (n7 R j) then (some (o:Int)) else (I ())
def dE (o:(List aF)) (j:aH):Option (Int):=jQ (λk I n=>fG o j k n) (λ_=>some (-1)) ((o.length:Int):Int).toNat 0 ()
def n8 (o:bE) (j:aH):Bool:=(decide (o.Name=j.Name))
def fS (J:(List bE)) (j:aH) (o:Nat) (I:Unit->Option (Int)):Option (Int):=idx J (o:Int) λR=>if (n8 R j) then (some (o:Int)) else (I ())
def dK (o:(List bE)) (j:aH):Option (Int):=jQ (λk I n=>fS o j k n) (λ_=>some (-1)) ((o.length:Int):Int).toNat 0 ()
def nk (o:aX) (j:aH):Bool:=(decide (o.Name=j.Name))
def eU (J:(List aX)) (j:aH) (o:Nat) (I:Unit->Option (Int)):Option (Int):=idx J (o:Int) λR=>if (nk R j) then (some (o:Int)) else (I ())
def cP (o:(List aX)) (j:aH):Option (Int):=jQ (λk I n=>eU o j k n) (λ_=>some (-1)) ((o.length:Int):Int).toNat 0 ()
def kN (o:aL) (j:OX):Bool:=(decide (o.Name=j))
def cN (J:(List aL)) (j:OX) (o:Nat) (I:Unit->Option (Int)):Option (Int):=idx J (o:Int) λR=>if (kN R j) then (some (o:Int)) else (I ())
def bX (o:(List aL)) (j:OX):Option (Int):=jQ (λk I n=>cN o j k n) (λ_=>some (-1)) ((o.length:Int):Int).toNat 0 ()
def kG (j:(List aL)) (name:OX):Option (Int):=(bX j name).bind λo=>some o
def m_ (o:(List aL)) (j:Nat) (I:aL) (J:Unit->Option (Int)):Option (Int):=(bP I.Name).bind λR=>if !R then (some 6) else (dF (0<=(j:Int)/\(j:Int)<=(o.length:Int)) ((kG (se o 0 (((j:Int):Int).toNat)) I.Name).bind λU=>if decide (0<=U) then (some 7) else (J ())))
def jW (j:(List aL)):Option (Int):=if decide (32<(j.length:Int)) then (some 2) else (dR (λk y o n=>m_ j k y n) (λ_=>some 0) 0 j ())
def dA (j:List Bool->Option (Bool)) (o:List Bool):Option (Bool):=j o
def qe (O:(List aL)) (o:Nat) (J:bJ) (j:List Bool) (I:List Bool->Option (Bool)):Option (Bool):=(kG O J.Name).bind λR=>if decide (J.Kind=0) then (idx j (o:Int) λON=>dA I (j.set (((o:Int):Int).toNat) true)) else (if decide (J.Kind=2) then (if decide (0<=R) then (idx O R λU=>idx j (o:Int) λOO=>dA I (j.set (((o:Int):Int).toNat) (!U.xC))) else (idx j (o:Int) λOP=>dA I (j.set (((o:Int):Int).toNat) false))) else (if decide (J.Kind=3) then (if decide (0<=R) then (idx O R λY=>idx j (o:Int) λOQ=>dA I (j.set (((o:Int):Int).toNat) Y.xC)) else (idx j (o:Int) λOR=>dA I (j.set (((o:Int):Int).toNat) false))) else (if decide (J.Kind=4) then (idx j J.A λZ=>idx j (o:Int) λOS=>dA I (j.set (((o:Int):Int).toNat) (!Z))) else (if decide (J.Kind=5) then (idx j J.A λOJ=>if OJ then (idx j J.B_ λOK=>idx j (o:Int) λOT=>dA I (j.set (((o:Int):Int).toNat) OK)) else (idx j (o:Int) λOU=>dA I (j.set (((o:Int):Int).toNat) false))) else (if decide (J.Kind=6) then (idx j J.A λOL=>if OL then (idx j (o:Int) λOV=>dA I (j.set (((o:Int):Int).toNat) true)) else (idx j J.B_ λOM=>idx j (o:Int) λOW=>dA I (j.set (((o:Int):Int).toNat) OM))) else (dA I j))))))
def l7 (j:(List bJ)) (J:(List aL)):Option (Bool):=dF (0<=(j.length:Int)/\(j.length:Int)*1<=140737488355328) (dR (λk y o n=>qe J k y o n) (λo=>idx o (i64.wrap ((j.length:Int)-1)) λI=>some I) 0 j (List.replicate ((j.length:Int):Int).toNat (false:Bool)))
def gA (j:List Int->Option ((List Int)×Int)) (o:List Int):Option ((List Int)×Int):=j o
def oW (Y:(List aL)) (O:Bool) (name:OX) (J:Nat) (I:aZ) (o:List Int) (j:List Int->Option ((List Int)×Int)):Option ((List Int)×Int):=if decide (I.Close=O) then (if decide (I.Switch=name) then ((l7 I.vX Y).bind λR=>if !R then (dF ((o.length+([((J:Int))]:List Int).length)*8<=140737488355328) (gA j (o++([((J:Int))]:List Int)))) else (gA j o)) else (gA j o)) else (gA j o)
def mr (o:(List aZ)) (O:(List aL)) (Y:Bool) (name:OX):Option ((List Int)×Int):=(lZ o).bind λI=>if !decide (I=0) then (some (([]:List Int),I)) else ((jW O).bind λJ=>if !decide (J=0) then (some (([]:List Int),J)) else ((kG O name).bind λR=>if decide (R<0) then (some (([]:List Int),8)) else (dR (λk y j n=>oW O Y name k y j n) (λj=>some (j,0)) 0 o ([]:List Int))))
def lz (o:(List aZ)) (J:(List aL)) (I:Bool) (name:OX):Option (Bool×Int):=(mr o J I name).bind λj=>some (((decide (j.2=0)) && (decide ((j.1.length:Int)=0))),j.2)
def pj (J:Nat) (j:aX) (o:List aL) (I:List aL->Option (Int×cO)):Option (Int×cO):=dF ((o.length+([(aL.mk j.Name (!j.Open))]).length)*24<=140737488355328) (I (o++([(aL.mk j.Name (!j.Open))])))
def mC (U:aO) (j:cO) (o:aH):Option (Int×cO):=(cP j.n.aM o).bind λI=>if decide (I<0) then (some (8,j)) else (if !decide (o.Value=0) then (some (1,j)) else (idx j.n.aM I λO=>if !decide (O.Open=(decide (o.Kind=(⟨#[99,108,111,115,101]⟩)))) then (some (11,j)) else ((bG U.held o.Name).bind λY=>if Y then (some (18,j)) else (dR (λk y R n=>pj k y R n) (λR=>(lz U.rules R (decide (o.Kind=(⟨#[99,108,111,115,101]⟩))) o.Name).bind λZ=>if !Z.1 then (some (19,j)) else (idx j.n.aM I λJ=>some (0,(cO.mk (aD.mk j.n.bC (j.n.aM.set ((I:Int).toNat) (aX.mk J.Name J.A J.B_ J.vr (!(decide (o.Kind=(⟨#[99,108,111,115,101]⟩)))))) j.n.aG j.n.dL j.n.bA j.n.bT) j.on)))) 0 j.n.aM ([]:List aL)))))
def gT (j:cO) (o:List bE) (I:List aF) (J:List OX):Option (Int×cO):=some (0,(cO.mk (aD.mk j.n.bC j.n.aM j.n.aG o I j.n.bT) J))
def jH (Y:aO) (j:cO) (o:aH) (I:(Int)) (J:(Int)) (Z:Bool):Option (Int×cO):=if Z then ((mC Y j o).bind λU=>some (U.1,U.2)) else (if decide (o.Kind=(⟨#[108,111,97,100]⟩)) then (if decide (I<0) then (some (8,j)) else (if (decide (o.Value<0)) || (decide (100000<o.Value)) then (some (4,j)) else (idx j.n.bA I λO=>gT j j.n.dL (j.n.bA.set ((I:Int).toNat) (aF.mk O.Name O.Node o.Value)) j.on))) else (if decide (o.Kind=(⟨#[103,101,110]⟩)) then (if decide (J<0) then (some (8,j)) else (idx j.n.dL J λOK=>if (decide (o.Value<OK.iJ)) || (decide (100000<o.Value)) then (some (4,j)) else (idx j.n.dL J λR=>gT j (j.n.dL.set ((J:Int).toNat) (bE.mk R.Name R.Node R.iJ o.Value R.Bc)) j.n.bA j.on))) else (if decide (o.Kind=(⟨#[98,97,99,107]⟩)) then (if decide (I<0) then (some (8,j)) else ((bG j.on o.Name).bind λOL=>if OL then (some (11,j)) else (idx j.n.bA I λOM=>if !decide (o.Value=OM.cW) then (some (1,j)) else (dF ((j.on.length+([o.Name]).length)*16<=140737488355328) (gT j j.n.dL j.n.bA (j.on++([o.Name]))))))) else (if decide (o.Kind=(⟨#[119,97,105,116]⟩)) then (if !decide (o.Value=0) then (some (1,j)) else (gT j j.n.dL j.n.bA j.on)) else (some (1,j))))))
def ng (I:aO) (o:cO) (j:aH):Option (Int×cO):=(dE o.n.bA j).bind λJ=>(dK o.n.dL j).bind λR=>if decide (j.Kind=(⟨#[111,112,101,110]⟩)) then (jH I o j J R (decide (j.Kind=(⟨#[111,112,101,110]⟩)))) else (jH I o j J R (decide (j.Kind=(⟨#[99,108,111,115,101]⟩))))
def uc (I:Nat) (j:U8) (o:Unit->Option (Int)):Option (Int):=if (decide (j.n<48)) || (decide (57<j.n)) then (some 5) else (o ())
def oK (j:OX):Option (Int):=dF (j.size<=maxLen) (dR (λk y I n=>uc k y n) (λ_=>if decide (j=(⟨#[]⟩)) then (some 5) else (if decide (1<(j.size:Int)) then (idx (jL j) 0 λo=>if decide (o.n=48) then (some 5) else (if decide (2000<(j.size:Int)) then (some 2) else (some 0))) else (if decide (2000<(j.size:Int)) then (some 2) else (some 0)))) 0 (jL j) ())
def vD (I:OX) (J:OX) (R:Nat) (o:Unit->Option (aB×aB×Int)):Option (aB×aB×Int):=idx [I,J] (R:Int) λU=>(oK U).bind λj=>if !decide (j=0) then (some ((aB.mk false []),(aB.mk false []),j)) else (o ())
def va (j:OX) (o:OX):Option (aB×aB×Int):=jQ (λk R n=>vD j o k n) (λ_=>(kH j).bind λI=>(kH o).bind λJ=>some (I,J,0)) (2:Int).toNat 0 ()
def vC (o:aB):Option (OX×Int):=(jX o).bind λj=>if !j.2 then (some ((⟨#[]⟩),2)) else (some (j.1,0))
def u_ (I:OX) (J:OX):Option (OX×Int):=(va I J).bind λj=>if !decide (j.2.2=0) then (some ((⟨#[]⟩),j.2.2)) else ((oJ j.1 j.2.1).bind λR=>(vC R).bind λo=>some (o.1,o.2))
def rP:Option (Int):=some 0
def lS (I:OX) (J:(OX)) (j:(OX×OX×Bool)) (o:(Int)) (O:Int):Option (Int):=if ((decide (o=5)) || (decide (O=5))) || ((decide (j.1=(⟨#[48]⟩))) && (decide ((J.size:Int)<(I.size:Int)))) then (some 5) else (if (!decide (o=0)) || (!decide (O=0)) then (some 2) else (if j.2.2 then ((u_ j.1 j.2.1).bind λR=>if ((decide (j.2.1=(⟨#[48]⟩))) || (decide (j.2.1=(⟨#[49]⟩)))) || (!decide (R.1=(⟨#[49]⟩))) then (some 3) else rP) else rP))
def oL (o:OX):Option (Int):=(kC o (⟨#[45]⟩)).bind λI=>(mL I (⟨#[47]⟩)).bind λj=>(oK j.1).bind λJ=>if j.2.2 then ((oK j.2.1).bind λR=>lS o I j J R) else (lS o I j J 0)
def rO (J:Nat) (I:OX) (o:Unit->Option (Int)):Option (Int):=(oL I).bind λj=>if !decide (j=0) then (some j) else (o ())
def qk (j:(List OX)):Option (Int):=dR (λk y o n=>rO k y n) (λ_=>some 0) 0 j ()
def pW (j:(List OX)):Option (Int):=if decide (40<(j.length:Int)) then (some 2) else ((qk j).bind λo=>some o)
def kI (j:List OX->Option ((List OX))) (o:List OX):Option ((List OX)):=j o
def oZ (J:bN) (R:Nat) (I:aP) (j:List OX) (o:List OX->Option ((List OX))):Option ((List OX)):=idx J.over (R:Int) λU=>if U then (dF ((j.length+([I.Name]).length)*16<=140737488355328) (kI o (j++([I.Name])))) else (kI o j)
def jB (o:bN):Option ((List OX)):=dR (λk y j n=>oZ o k y j n) (λj=>some j) 0 o.kF ([]:List OX)
def gB (j:(List aA×List Int×List Bool)->Option ((List OX)×Int×bN)) (o:List aA) (I:List Int) (J:List Bool):Option ((List OX)×Int×bN):=j (o,I,J)
def o9 (lM:(List OX)) (O:Int) (j:Nat) (Z:aP) (U:List aA) (o:List Int) (I:List Bool) (R:(List aA×List Int×List Bool)->Option ((List OX)×Int×bN)):Option ((List OX)×Int×bN):=idx lM (j:Int) λOJ=>(pI OJ).bind λOK=>(nG OK).bind λJ=>idx U (j:Int) λOQ=>(jN Z.sN).bind λOL=>(mh J OL).bind λOM=>if decide (OM<=0) then (idx o (j:Int) λOR=>idx I (j:Int) λOS=>gB R (U.set (((j:Int):Int).toNat) J) (o.set (((j:Int):Int).toNat) 0) (I.set (((j:Int):Int).toNat) false)) else (idx o (j:Int) λY=>idx o (j:Int) λOT=>idx (o.set (((j:Int):Int).toNat) (i64.wrap (Y+O))) (j:Int) λON=>if decide (Z.BO<ON) then (idx I (j:Int) λOU=>gB R (U.set (((j:Int):Int).toNat) J) (o.set (((j:Int):Int).toNat) (i64.wrap (Y+O))) (I.set (((j:Int):Int).toNat) true)) else ((jN Z.wz).bind λOO=>(mh J OO).bind λOP=>if decide (0<OP) then (idx I (j:Int) λOV=>gB R (U.set (((j:Int):Int).toNat) J) (o.set (((j:Int):Int).toNat) (i64.wrap (Y+O))) (I.set (((j:Int):Int).toNat) true)) else (gB R (U.set (((j:Int):Int).toNat) J) (o.set (((j:Int):Int).toNat) (i64.wrap (Y+O))) I)))
def kU (j:bN) (lM:(List OX)) (O:Int):Option ((List OX)×Int×bN):=(pW lM).bind λI=>if !decide (I=0) then (some (([]:List OX),I,j)) else (if !decide ((lM.length:Int)=(j.kF.length:Int)) then (some (([]:List OX),3,j)) else (if (decide (O<1)) || (decide ((i64.wrap (200000-j.time))<O)) then (some (([]:List OX),12,j)) else (dR (λk y o n=>o9 lM O k y o.1 o.2.1 o.2.2 n) (λo=>(jB (bN.mk j.kF o.1 o.2.1 o.2.2 (i64.wrap (j.time+O)))).bind λJ=>some (J,0,(bN.mk j.kF o.1 o.2.1 o.2.2 (i64.wrap (j.time+O))))) 0 j.kF (j.lM,j.rq,j.over))))
def eL (j:bD) (o:aH):Option (Int×Int×bD):=(dV o).bind λI=>if !decide (I=0) then (some (0,I,j)) else (if decide (0<(j.jK.length:Int)) then (idx j.jK (i64.wrap ((j.jK.length:Int)-1)) λJ=>if decide (o.Time<J.Time) then (some (0,12,j)) else (if decide ((j.jK.length:Int)=300) then (some (0,9,j)) else (dF ((j.jK.length+([o]).length)*48<=140737488355328) (some ((i64.wrap ((j.jK.length:Int)+1)),0,(bD.mk (j.jK++([o])))))))) else (if decide ((j.jK.length:Int)=300) then (some (0,9,j)) else (dF ((j.jK.length+([o]).length)*48<=140737488355328) (some ((i64.wrap ((j.jK.length:Int)+1)),0,(bD.mk (j.jK++([o]))))))))
def jS (o:OX) (j:(List OX)):Option (Bool):=(bG j o).bind λI=>some (!I)
def gQ (J:(List OX)) (j:(List OX)) (o:Nat) (I:Unit->Option (Int)):Option (Int):=idx J (o:Int) λR=>(jS R j).bind λU=>if U then (some (o:Int)) else (I ())
def eR (o:(List OX)) (j:(List OX)):Option (Int):=jQ (λk I n=>gQ o j k n) (λ_=>some (-1)) ((o.length:Int):Int).toNat 0 ()
def dI (I:Int) (j:(List OX×Int×Int)->Option ((List OX))) (o:List OX) (J:Int):Option ((List OX)):=j (o,J,i64.wrap (I+1))
def gL (Z:(List OX)) (j:List OX) (O:Int) (Y:Int) (o:(List OX×Int×Int)->Option ((List OX))):Option ((List OX)):=if decide (Y<(j.length:Int)) then (idx j Y λI=>(jS I Z).bind λJ=>if !J then (idx j O λR=>dI Y o (j.set ((O:Int).toNat) I) (i64.wrap (O+1))) else (dI Y o j O)) else (dF (0<=O/\O<=(j.length:Int)) (dF (0<=O/\O<=((j.take (O).toNat++List.replicate (j.length-(O).toNat) ((⟨#[]⟩):OX)).length:Int)) (some (se (j.take (O).toNat++List.replicate (j.length-(O).toNat) ((⟨#[]⟩):OX)) 0 ((O:Int).toNat)))))
def dQ (j:(List OX)) (J:(List OX)):Option ((List OX)):=(eR j J).bind λo=>if decide (o=(-1)) then (some j) else (gG (λI n=>gL J I.1 I.2.1 I.2.2 n) fA (j,o,i64.wrap (o+1)))
def iS (o:OX) (j:(List OX)):Option (Bool):=(bG j o).bind λI=>some I
def gF (J:(List OX)) (j:(List OX)) (o:Nat) (I:Unit->Option (Int)):Option (Int):=idx J (o:Int) λR=>(iS R j).bind λU=>if U then (some (o:Int)) else (I ())
def eK (o:(List OX)) (j:(List OX)):Option (Int):=jQ (λk I n=>gF o j k n) (λ_=>some (-1)) ((o.length:Int):Int).toNat 0 ()
def dC (I:Int) (j:(List OX×Int×Int)->Option ((List OX))) (o:List OX) (J:Int):Option ((List OX)):=j (o,J,i64.wrap (I+1))
def fZ (Z:(List OX)) (j:List OX) (O:Int) (Y:Int) (o:(List OX×Int×Int)->Option ((List OX))):Option ((List OX)):=if decide (Y<(j.length:Int)) then (idx j Y λI=>(iS I Z).bind λJ=>if !J then (idx j O λR=>dC Y o (j.set ((O:Int).toNat) I) (i64.wrap (O+1))) else (dC Y o j O)) else (dF (0<=O/\O<=(j.length:Int)) (dF (0<=O/\O<=((j.take (O).toNat++List.replicate (j.length-(O).toNat) ((⟨#[]⟩):OX)).length:Int)) (some (se (j.take (O).toNat++List.replicate (j.length-(O).toNat) ((⟨#[]⟩):OX)) 0 ((O:Int).toNat)))))
def dN (j:(List OX)) (J:(List OX)):Option ((List OX)):=(eK j J).bind λo=>if decide (o=(-1)) then (some j) else (gG (λI n=>fZ J I.1 I.2.1 I.2.2 n) fA (j,o,i64.wrap (o+1)))
def kZ (o:aD):Option (Int):=(fJ o).bind λj=>if (decide (j.2.2=0)) && (decide (0<(j.2.1.length:Int))) then (some 17) else (some j.2.2)
def nb (off:(List OX)) (j:(List OX)) (o:aD):Option (Bool):=dF (j.length*16<=140737488355328) ((dN j off).bind λI=>(oC o I).bind λJ=>(kZ J).bind λR=>some (decide (R=0)))
def iT (self:(List OX)->(List OX)->Int->Int->(List OX)->aD->Option ((List OX)×Bool)) (names:(List OX)) (off:(List OX)) (many:Int) (O:(List OX)) (Y:aD) (J:Int) (I:Int->Option ((List OX)×Bool)):Option ((List OX)×Bool):=if decide (J<(names.length:Int)) then (dF (0<=(off.length:Int)/\(off.length:Int)<=(off.length:Int)) (idx names J λj=>dF (((se off 0 (((off.length:Int):Int).toNat)).length+([j]).length)*16<=140737488355328) ((self names ((se off 0 (((off.length:Int):Int).toNat))++([j])) (i64.wrap (J+1)) (i64.wrap (many-1)) O Y).bind λo=>if o.2 then (some (o.1,true)) else (I (i64.wrap (J+1)))))) else (some (([]:List OX),false))
def dZ (self:(List OX)->(List OX)->Int->Int->(List OX)->aD->Option ((List OX)×Bool)) (names:(List OX)) (off:(List OX)) (j:Int) (many:Int) (J:(List OX)) (O:aD):Option ((List OX)×Bool):=if decide (many=0) then ((nb off J O).bind λo=>some (off,o)) else (gG (λI n=>iT self names off many J O I n) fA j)
def dG:Nat->(List OX)->(List OX)->Int->Int->(List OX)->aD->Option ((List OX)×Bool)
 | 0=>λ_ _ _ _ _ _=>none
 | n+1=>dZ (dG n)
def jP (names:(List OX)) (off:(List OX)) (j:Int) (many:Int) (I:(List OX)) (J:aD):Option ((List OX)×Bool):=dG fA names off j many I J
def mz (j:List OX->Option ((List OX)×Int)) (o:List OX):Option ((List OX)×Int):=j o
def qJ (J:aD) (j:List OX) (O:Int) (I:Int->Option ((List OX)×Int)):Option ((List OX)×Int):=if decide (O<=(j.length:Int)) then ((jP j ([]:List OX) 0 O j J).bind λo=>if o.2 then (some (o.1,0)) else (I (i64.wrap (O+1)))) else (some (([]:List OX),8))
def qI (on:(List OX)) (R:Nat) (j:aF) (o:List OX) (I:List OX->Option ((List OX)×Int)):Option ((List OX)×Int):=(bG on j.Name).bind λJ=>if J then (dF ((o.length+([j.Name]).length)*16<=140737488355328) (mz I (o++([j.Name])))) else (mz I o)
def gP (j:aD) (on:(List OX)):Option ((List OX)×Int):=(dW j on).bind λI=>if !decide (I=0) then (some (([]:List OX),I)) else (if decide (5<(on.length:Int)) then (some (([]:List OX),2)) else (dR (λk y o n=>qI on k y o n) (λo=>gG (λJ n=>qJ j o J n) fA 0) 0 j.bA ([]:List OX)))
def np (o:aF) (j:OX):Bool:=(decide (o.Name=j))
def fF (J:(List aF)) (j:OX) (o:Nat) (I:Unit->Option (Int)):Option (Int):=idx J (o:Int) λR=>if (np R j) then (some (o:Int)) else (I ())
def cZ (o:(List aF)) (j:OX):Option (Int):=jQ (λk I n=>fF o j k n) (λ_=>some (-1)) ((o.length:Int):Int).toNat 0 ()
def gU (o:OX) (j:(List OX)):Option (Bool):=(bG j o).bind λI=>some I
def f_ (J:(List OX)) (j:(List OX)) (o:Nat) (I:Unit->Option (Int)):Option (Int):=idx J (o:Int) λR=>(gU R j).bind λU=>if U then (some (o:Int)) else (I ())
def eG (o:(List OX)) (j:(List OX)):Option (Int):=jQ (λk I n=>f_ o j k n) (λ_=>some (-1)) ((o.length:Int):Int).toNat 0 ()
def cX (I:Int) (j:(List OX×Int×Int)->Option ((List OX))) (o:List OX) (J:Int):Option ((List OX)):=j (o,J,i64.wrap (I+1))
def fR (Z:(List OX)) (j:List OX) (O:Int) (Y:Int) (o:(List OX×Int×Int)->Option ((List OX))):Option ((List OX)):=if decide (Y<(j.length:Int)) then (idx j Y λI=>(gU I Z).bind λJ=>if !J then (idx j O λR=>cX Y o (j.set ((O:Int).toNat) I) (i64.wrap (O+1))) else (cX Y o j O)) else (dF (0<=O/\O<=(j.length:Int)) (dF (0<=O/\O<=((j.take (O).toNat++List.replicate (j.length-(O).toNat) ((⟨#[]⟩):OX)).length:Int)) (some (se (j.take (O).toNat++List.replicate (j.length-(O).toNat) ((⟨#[]⟩):OX)) 0 ((O:Int).toNat)))))
def dJ (j:(List OX)) (J:(List OX)):Option ((List OX)):=(eG j J).bind λo=>if decide (o=(-1)) then (some j) else (gG (λI n=>fR J I.1 I.2.1 I.2.2 n) fA (j,o,i64.wrap (o+1)))
def pn (o:aO) (U:Nat) (I:OX) (J:List aH) (j:List aH->Option (aO)):Option (aO):=(eL (bD.mk J) (aH.mk o.time (⟨#[112,114,111,111,102]⟩) I 0)).bind λR=>j R.2.2.jK
def po (j:aO) (Y:Nat) (o:OX) (J:List aH) (I:List aH->Option (aO)):Option (aO):=(cZ j.bR.bA o).bind λR=>idx j.bR.bA R λU=>(eL (bD.mk J) (aH.mk j.time (⟨#[115,104,101,100]⟩) o U.cW)).bind λO=>I O.2.2.jK
def mD (j:aO) (over:(List OX)):Option (aO):=(gP j.bR j.on).bind λo=>if !decide (o.2=0) then (dR (λk y I n=>pn j k y I n) (λI=>some (aO.mk j.bR j.rules j.on j.held j.watch j.state j.time (bD.mk I) over)) 0 over j.log.jK) else (dR (λk y J n=>po j k y J n) (λJ=>(dJ j.on o.1).bind λR=>(c_ j.bR R).bind λU=>some (aO.mk j.bR j.rules R j.held j.watch U.1 j.time (bD.mk J) j.over)) 0 o.1 j.log.jK)
def mB (j:(List aP)) (o:List aA) (I:List Int) (J:List Bool) (R:Int) (U:List aH) (O:(List OX)) (Y:(List aX)) (Z:(List aP)) (OK:(List bE)) (OL:(List aF)) (OM:(List cE)) (ON:(List aZ)) (OO:List OX) (OP:(List OX)) (OQ:(List OX)) (OR:(List OX)) (OS:Int) (OT:(List OX)):Option (Int×aO):=some (0,(aO.mk (aD.mk O Y Z OK OL OM) ON OO OP (bN.mk j o I J R) (cD.mk OQ OR) OS (bD.mk U) OT))
def jC (I:aO) (R:aH) (o:(Int×cO)) (J:(cD×(List OX)×Int)) (U:(List aP)) (Y:List aA) (Z:List Int) (OJ:List Bool) (O:Int):Option (Int×aO):=(eL I.log R).bind λOK=>(jB (bN.mk U Y Z OJ O)).bind λOM=>(dQ J.2.1 OM).bind λOL=>if decide (0<(OL.length:Int)) then ((mD (aO.mk o.2.n I.rules o.2.on I.held (bN.mk U Y Z OJ O) J.1 R.Time OK.2.2 []) OL).bind λj=>mB j.watch.kF j.watch.lM j.watch.rq j.watch.over j.watch.time j.log.jK j.bR.bC j.bR.aM j.bR.aG j.bR.dL j.bR.bA j.bR.bT j.rules j.on j.held j.state.fK j.state.hO j.time j.over) else (mB U Y Z OJ O OK.2.2.jK o.2.n.bC o.2.n.aM o.2.n.aG o.2.n.dL o.2.n.bA o.2.n.bT I.rules o.2.on I.held J.1.fK J.1.hO R.Time ([]))
def kB (j:aO) (o:aH):Option (Int×aO):=(dV o).bind λU=>if !decide (U=0) then (some (U,j)) else (if decide (o.Time<j.time) then (some (12,j)) else ((ly j.log).bind λO=>if decide (200<=(O.length:Int)) then (some (9,j)) else ((iV j.bR).bind λY=>dF (j.on.length*16<=140737488355328) ((ng j (cO.mk Y j.on) o).bind λI=>if !decide (I.1=0) then (some (I.1,j)) else ((c_ I.2.n I.2.on).bind λJ=>if !decide (J.2.2=0) then (some (J.2.2,j)) else (if (decide (o.Kind=(⟨#[98,97,99,107]⟩))) && (decide (0<(J.2.1.length:Int))) then (some (17,j)) else (if decide (1<=(i64.wrap (o.Time-j.time))) then ((kU j.watch j.state.hO (i64.wrap (o.Time-j.time))).bind λR=>jC j o I J R.2.2.kF R.2.2.lM R.2.2.rq R.2.2.over R.2.2.time) else (jC j o I J j.watch.kF j.watch.lM j.watch.rq j.watch.over j.watch.time))))))))
def oE (j:aO):Int:=j.time
def tf (j:aO):Option ((List aH)):=(ly j.log).bind λo=>some o
def pX (j:aO):Option (cD):=dF (j.state.fK.length*16<=140737488355328) (dF (j.state.hO.length*16<=140737488355328) (some j.state))
def ox:Option (Bool):=(sB (cH.mk ((oV)) [])).bind λo=>DL o.1 (some false) (λO=>if !decide (o.2=0) then (some false) else ((kB O (aH.mk 5 (⟨#[108,111,97,100]⟩) (⟨#[68]⟩) 20)).bind λj=>if decide (j.1=0) then (if decide ((oE j.2)=5) then ((tf j.2).bind λI=>if decide ((I.length:Int)=1) then ((pX j.2).bind λJ=>if decide ((J.hO.length:Int)=1) then ((pX j.2).bind λR=>idx R.hO 0 λU=>some (decide (U=(⟨#[50,48]⟩)))) else (some false)) else (some false)) else (some false)) else (some false)))
def mZ (j:cH):Option (cH):=dF (0<=(min (j.bS.bA.length:Int) 3)/\(min (j.bS.bA.length:Int) 3)<=(j.bS.bA.length:Int)) (dF (0<=(min (j.bS.dL.length:Int) 4)/\(min (j.bS.dL.length:Int) 4)<=(j.bS.dL.length:Int)) (some (cH.mk (aD.mk j.bS.bC j.bS.aM j.bS.aG (se j.bS.dL 0 ((min (j.bS.dL.length:Int) 4:Int).toNat)) (se j.bS.bA 0 ((min (j.bS.bA.length:Int) 3:Int).toNat)) j.bS.bT) j.oH)))
def kV (j:aO):Option (aD):=(iV j.bR).bind λo=>some o
def lJ (o:OX) (j:aO):Option (Bool):=(bG j.on o).bind λI=>some (!I)
def iG (J:(List OX)) (j:aO) (o:Nat) (I:Unit->Option (Int)):Option (Int):=idx J (o:Int) λR=>(lJ R j).bind λU=>if U then (some (o:Int)) else (I ())
def eV (o:(List OX)) (j:aO):Option (Int):=jQ (λk I n=>iG o j k n) (λ_=>some (-1)) ((o.length:Int):Int).toNat 0 ()
def dP (I:Int) (j:(List OX×Int×Int)->Option ((List OX))) (o:List OX) (J:Int):Option ((List OX)):=j (o,J,i64.wrap (I+1))
def gY (Z:aO) (j:List OX) (O:Int) (Y:Int) (o:(List OX×Int×Int)->Option ((List OX))):Option ((List OX)):=if decide (Y<(j.length:Int)) then (idx j Y λI=>(lJ I Z).bind λJ=>if !J then (idx j O λR=>dP Y o (j.set ((O:Int).toNat) I) (i64.wrap (O+1))) else (dP Y o j O)) else (dF (0<=O/\O<=(j.length:Int)) (dF (0<=O/\O<=((j.take (O).toNat++List.replicate (j.length-(O).toNat) ((⟨#[]⟩):OX)).length:Int)) (some (se (j.take (O).toNat++List.replicate (j.length-(O).toNat) ((⟨#[]⟩):OX)) 0 ((O:Int).toNat)))))
def dU (j:(List OX)) (J:aO):Option ((List OX)):=(eV j J).bind λo=>if decide (o=(-1)) then (some j) else (gG (λI n=>gY J I.1 I.2.1 I.2.2 n) fA (j,o,i64.wrap (o+1)))
def nf (j:aO):Option ((List OX)):=(pq j.bR).bind λo=>(dU o j).bind λI=>some I
def oD (j:aO):Option ((List OX)):=dF (j.over.length*16<=140737488355328) (some j.over)
def eD (j:aO->Option (Bool)) (o:aO):Option (Bool):=j o
def i_ (j:List OX->Option (Bool)) (o:List OX):Option (Bool):=j o
def nB (R:Nat) (I:Nat) (J:OX) (j:List OX) (o:List OX->Option (Bool)):Option (Bool):=dF (0<=(I:Int)) (if decide ((i64.wrap ((BitVec.ofInt (i64).bits (nr .i64 (R:Int) (I:Int)) &&& BitVec.ofInt (i64).bits 1).toNat))=1) then (dF ((j.length+([J]).length)*16<=140737488355328) (i_ o (j++([J])))) else (i_ o j))
def ny (o:(Int×aO)) (R:Nat) (J:Unit->Option (Bool)):Option (Bool):=(nf o.2).bind λU=>dR (λk y j n=>nB R k y j n) (λj=>(kV o.2).bind λO=>(c_ O j).bind λI=>if (decide (I.2.2=0)) && (decide ((I.2.1.length:Int)=0)) then (some false) else (J ())) 0 U ([]:List OX)
def lv (OM:Nat) (R:aH) (U:aO) (o:aO->Option (Bool)):Option (Bool):=(kB U R).bind λj=>if !decide (j.1=0) then (eD o j.2) else ((kV j.2).bind λO=>(nf j.2).bind λY=>(kJ O Y).bind λJ=>(gI J.1).bind λZ=>if (!decide (J.2=0)) || (!decide (Z.2=0)) then (some false) else ((oD j.2).bind λOK=>if decide ((OK.length:Int)=0) then (eD o j.2) else ((nf j.2).bind λI=>dF (0<=(I.length:Int)) (dF ((rB .i64 1 (I.length:Int))<=9223372036854775807) (jQ (λk OL n=>ny j k n) (λ_=>eD o j.2) (rB .i64 1 (I.length:Int):Int).toNat 0 ())))))
def jF (R:cH) (j:(List aH)):Option (Bool):=(ox).bind λU=>if !U then (some false) else ((mZ R).bind λJ=>(sB J).bind λo=>DL o.1 ((pf J).bind λY=>some (decide (Y=o.2))) (λO=>if !decide (o.2=0) then (some false) else (dF (0<=(min (j.length:Int) 7)/\(min (j.length:Int) 7)<=(j.length:Int)) (dR (λk y I n=>lv k y I n) (λI=>some true) 0 (se j 0 ((min (j.length:Int) 7:Int).toNat)) O))))
end Go.Sim
namespace Go.Sim
open Go Go.RowKit
open _root_.Go.IntKind (i64 u64 u32 u8)
def Gd {R:Type} (o:Option R) (Q:R->Prop):Prop:=∃ r,o=some r/\Q r
section
variable {R α β σ:Type}{Q Q':R->Prop}
theorem Gd.mono {o:Option R} (h:Gd o Q) (k:∀ r,Q r->Q' r):Gd o Q':=by
 obtain ⟨r,e,q⟩:=h; exact ⟨r,e,k r q⟩
theorem Gd.ret {r:R} (h:Q r):Gd (some r) Q:=⟨r,rfl,h⟩
theorem Gd.nd {p:Prop}[Decidable p] {k:Option R} (h:p) (I:Gd k Q):Gd (dF p k) Q:=by
 unfold Sim.dF; rw [O8 h]; exact I
theorem Gd.eE {o:Option α}{k:α->Option R}{P:α->Prop} (h:Gd o P) (I:∀ a,P a->Gd (k a) Q):Gd (o.bind k) Q:=by
 obtain ⟨a,rfl,q⟩:=h; exact I a q
theorem Gd.bind_eq {o:Option α}{a:α}{k:α->Option R} (h:o=some a) (I:Gd (k a) Q):Gd (o.bind k) Q:=by
 subst h; exact I
theorem Gd.ite {b:Bool}{p q:Option R} (I:b=true->Gd p Q) (J:b=false->Gd q Q):Gd (if b=true then p else q) Q:=by
 cases b
 ·simpa using J rfl
 ·simpa using I rfl
theorem Gd.ix {l:List α}{i:Int}{k:α->Option R}{y:α} (I:0<=i) (O:l[i.toNat]? = some y) (J:Gd (k y) Q):Gd (idx l i k) Q:=by
 unfold Sim.idx; rw [O8 I,O]; exact J
theorem Gd.gS {l:List α}{i:Nat}{k:α->Option R} (h:i<l.length) (I:Gd (k l[i]) Q):Gd (Sim.idx l (i:Int) k) Q:=
 Gd.ix (by omega) (OZ (by simpa using h)) I
theorem Gd.opt {o:Option α}{a:Option R}{f:α->Option R} (I:o=none->Gd a Q) (J:∀ s,o=some s->Gd (f s) Q):Gd (DL o a f) Q:=by
 cases o with
 | none=>exact I rfl
 | some s=>exact J s rfl
theorem Gd.dR {J:Nat->α->σ->(σ->Option R)->Option R}{k:σ->Option R} (I:Nat->List α->σ->Prop)
  (Y:∀ i y ys s n,I i (y::ys) s->(∀ O,I (i+1) ys O->Gd (n O) Q)->Gd (J i y s n) Q) (Z:∀ i s,I i [] s->Gd (k s) Q):
  ∀ (l:List α) (i:Nat) (s:σ),I i l s->Gd (dR J k i l s) Q
 | [],i,s,h=>Z i s h
 | y::ys,i,s,h=>Y i y ys s _ h (λO h'=>Gd.dR I Y Z ys (i+1) O h')
theorem Gd.jQ {J:Nat->σ->(σ->Option R)->Option R}{k:σ->Option R} (I:Nat->Nat->σ->Prop)
  (Y:∀ m i s n,I (m+1) i s->(∀ O,I m (i+1) O->Gd (n O) Q)->Gd (J i s n) Q) (Z:∀ i s,I 0 i s->Gd (k s) Q):
  ∀ (m i:Nat) (s:σ),I m i s->Gd (jQ J k m i s) Q
 | 0,i,s,h=>Z i s h
 | m+1,i,s,h=>Y m i s _ h (λO h'=>Gd.jQ I Y Z m (i+1) O h')
theorem Gd.gG {J:σ->(σ->Option R)->Option R} (I:σ->Prop) (Y:σ->Nat)
  (Z:∀ s n,I s->(∀ O,I O->Y O<Y s->Gd (n O) Q)->Gd (J s n) Q):
  ∀ (m:Nat) (s:σ),I s->Y s<m->Gd (gG J m s) Q
 | 0,s,_,h=>by omega
 | m+1,s,hI,h=>Z s _ hI (λO h' hlt=>Gd.gG I Y Z m O h' (by omega))
theorem Gd.eq {o:Option R}{r:R}:Gd o (λx=>x=r)↔o=Option.some r:=by
 constructor
 ·rintro ⟨x,h,rfl⟩; exact h
 ·intro h; exact ⟨r,h,rfl⟩
end
theorem bQ {n:Int} (h:-9223372036854775808<=n/\n<=9223372036854775807):i64.wrap n=n:=wL h.1 h.2
theorem Gd.seen {R α O:Type}{Q:R->Prop}{J:Nat->α->O->(O->Option R)->Option R}{k:O->Option R}{l:List α} (I:List α->O->Prop)
  (hb:∀ i y s n pre,(∃ Y,l=pre++y::Y)->I pre s->(∀ Z,I (pre++[y]) Z->Gd (n Z) Q)->Gd (J i y s n) Q) (hk:∀ s,I l s->Gd (k s) Q) (s:O) (hs:I [] s):Gd (Sim.dR J k 0 l s) Q:=by
 have key:∀ (ys pre:List α) (i:Nat) (s:O),l=pre++ys->I pre s->Gd (Sim.dR J k i ys s) Q:=by
  intro ys
  induction ys with
  | nil=>intro pre i s hl hs; rw [PH] at hl; subst hl; exact hk s hs
  | cons y ys ih=>
   intro pre i s hl hs;exact hb i y s _ pre ⟨ys,hl⟩ hs (λZ hs'=>ih (pre++[y]) (i+1) Z (by rw [hl]; simp) hs')
 exact key l [] 0 s rfl hs
theorem vL {α:Type}{l pre:List α}{y:α} (h:∃ I,l=pre++y::I):pre.length<l.length/\y ∈ l/\∀ x ∈ pre,x ∈ l:=by
 obtain ⟨I,rfl⟩:=h;exact ⟨by simp,by simp,λx J=>O1 _ J⟩
theorem DI {α:Type}[DecidableEq α]:∀ (a b:List α),a.Nodup->(∀ x ∈ a,x ∈ b)->a.length<=b.length
 | [],_,_,_=>Nat.zero_le _
 | x::xs,b,hn,h=>by
  rw [Sg] at hn;have I:=h x (O5 ..);have O:=DI xs (b.erase x) hn.2 (λy J=>(List.mem_erase_of_ne (λe:y=x=>hn.1 (by rw [<- e]; exact J))).2 (h y (O9 _ J)))
  rw [List.length_erase_of_mem I] at O;have:0<b.length:=List.length_pos_of_mem I;simp only [Pa]; omega
end Go.Sim
