/-
  The proof, part A2.
-/
import Derived.Lib.Bytealg
import Derived.Laws.Externs
import Derived.Lib.LaidTab
import Derived.Lib.AppendIntMem
import Derived.Lib.ItoaNum
import Derived.Lib.AtoiAll
import Derived.Lib.SmallJoins
import Derived.Laws.BytesString
import Derived.Laws.IdiomStrings
import Derived.Lib.ParseIntBMem
import Derived.Laws.IdiomRangeMap
import Derived.Lib.UnsafeStr
import Derived.Lib.Builder
import Derived.Lib.AppendStr
import Derived.Laws.Bits64b
import Derived.Test.YtoghilnkfnpcoaaGreatDoorSqA1
set_option linter.unusedVariables false
set_option linter.unusedSimpArgs false
set_option linter.unusedSectionVars false
set_option linter.unnecessarySimpa false
namespace Go.Sim
abbrev Qy := @Int.fdiv_eq_ediv_of_nonneg
abbrev Pw := @Int.le_refl
abbrev Q5 := @Int.toNat_of_nonneg
abbrev Q6 := @Go.Lib.strCells_length
abbrev Rz := @List.drop_succ_cons
abbrev Qn := @List.getElem?_replicate
abbrev Ow := @List.getElem?_set_ne
abbrev Oz := @List.getElem?_set_self
abbrev P8 := @List.getElem_map
abbrev PI := @List.length_drop
abbrev Pp := @List.length_set
abbrev QG := @List.mem_of_mem_take
abbrev Q8 := @List.mem_singleton_self
abbrev Qt := @List.replicate_succ
abbrev PE := @List.take_append_drop
abbrev Oo := @List.take_of_length_le
abbrev RP := @List.take_zero
abbrev Q7 := @List.zipWith_append
abbrev Qw := @Nat.add_comm
abbrev PW := @Nat.lt_or_ge
abbrev QQ := @Nat.mod_lt
end Go.Sim
namespace Go.Sim
open Go Go.RowKit
open _root_.Go.IntKind (i64 u64 u32 u8)
def Mo (H:Hp) (v:N3) (n sz:Nat) (xs:List N3):Prop:=
 xs.length=n*sz/\(∀ u ∈ xs,u.oneCell'=true) /\
 (((∃ a,v=.slice a 0 0)/\n=0)\/∃ b off cap arr T fz,v=.slice (some ⟨b,off,none⟩) n cap/\H b=some (.cells arr T fz)/\∀ j u,xs[j]? = some u->arr[off+j]? = some u)
theorem Mo.shape {H:Hp}{v:N3}{n sz:Nat}{xs:List N3} (h:Mo H v n sz xs):∃ o c,v=.slice o n c:=by
 rcases h.2.2 with ⟨⟨a,rfl⟩,rfl⟩ | ⟨b,off,cap,arr,T,fz,rfl,_⟩ <;> exact ⟨_,_,rfl⟩
theorem Mo.isNil {H:Hp}{n m c sz:Nat}{xs:List N3} (h:Mo H (.slice none m c) n sz xs):n=0/\xs=[]:=by
 rcases h.2.2 with ⟨_,I⟩ | ⟨b,off,cap,arr,T,fz,I,_⟩
 ·subst I; exact ⟨rfl,OK (by rw [h.1,PG])⟩
 ·cases I
section
variable {B:Nat}{w0 w:World}{H:Hp}{M:List bU}
end
section
variable {x:Cx}{ops:Array Oper}{Q:mj}{rest:List Oper}{H:Hp}{M M':List bU}{L L':Env}
variable {d:Nat}{ty:TypeId}{pos:String}{aft:Array Edge}{g:Option (Nat×Bool)}
theorem EF {o:Oper} (Z:o.dst=none) (hg:gd ops L o=some true)
  (I:∀ a w,Sl x.N L a->St x.B x.w0 H M w->∃ v O,(execOp a.eval o).run x.P w=.ok (.value v) O/\∃ H' M',St x.B x.w0 H' M' O/\W x ops Q rest H' M' L):
  W x ops Q (o::rest) H M L:=by
 intro a w hs ht;obtain ⟨v,O,hr,H',M',J,k⟩:=I a w hs ht;refine Ry λK Y=>?_;rw [Oc (hs.gd hg)];unfold Oper.wp;rw [hr];simp only [Oper.upon,Z];exact Y _ _ (k _ _ hs J)
theorem tG {t e:TypeId}{sz len cap l h m:Nat}{y:Operand}{lo hi mx:Option Operand}{ad:Option Addr}
  (Y:gd ops L ⟨some d,.slice t y lo hi mx,ty,pos,aft,g⟩=some true) (hN:Nat.blt d x.N=true)
  (O:∀ w,(underlying t).run x.P w=.ok (.slice e) w) (hs:∀ w,(sizeOf e).run x.P w=.ok sz w) (hy:ev L y=some (.slice ad len cap)) (J:mx=none\/∃ o,hi=some o)
  (hm:EA L mx cap cap m) (Z:EA L hi len m h) (hl:EA L lo 0 h l)
  {v':N3} (hv:Value.slice (if m=l then ad else ad.map (·.add (l*sz))) (h-l) (m-l)=v')
  (k:W x ops Q rest H M ((d,v')::L)):
  W x ops Q (⟨some d,.slice t y lo hi mx,ty,pos,aft,g⟩::rest) H M L:=
 iL rfl Y hN (λc w I ht=>by
  rw [<- hv];simp only [execOp,I.ev hy,Oi,tO O hs (HQ J) (hm.bd I) (Z.bd I) (hl.bd I),Oe,Oq]) k
theorem AZ {zs:List N3} (h:∀ u ∈ zs,u.oneCell'=true) (O:0<zs.length) (n:Nat):∀ u ∈ (Builtin.zeroCells zs.toArray n).toList,u.oneCell'=true:=by
 intro u J;unfold Builtin.zeroCells at J;simp only [Array.toList_map,QX,Array.toList_range,Pg] at J;obtain ⟨q,_,rfl⟩:=J;have I:q%zs.length<zs.length:=QQ _ O;have:zs.toArray[q%zs.length]! = zs[q%zs.length]:=by simp [I]
 rw [this];exact h _ (OY _)
end
theorem Dj {P:Program}{w:World}{t tu ty e:TypeId}{sz n Z off cap a dl dc sl sc:Nat}{b:Addr}{xs news:List N3} (hT:P.underlying t=some (.slice e)) (hs:∀ w,(sizeOf e).run P w=.ok sz w)
  (O:k6 w e sz (.slice (some ⟨Z,off,none⟩) n cap) n xs) (ha:a+dl<=n)
  (hl:news.length=min sl dl*sz) (Y:∀ j u,news[j]? = some u->w.cell? (b.add j)=some u) (h1:∀ u ∈ news,u.oneCell'=true):
  ∃ w',(Builtin.copy_ #[t,tu] ty #[.slice (some ⟨Z,off+a*sz,none⟩) dl dc,.slice (some b) sl sc]).run P w=.ok (.int .i64 (min sl dl:Nat)) w' /\
   k6 w' e sz (.slice (some ⟨Z,off,none⟩) n cap) n (xs.take (a*sz)++news++xs.drop ((a+min sl dl)*sz))/\w.grownBy w' (some Z):=by
 rcases O.2 with ⟨h0,_⟩ | ⟨gb2,off2,cap2,I,he,hgb,hnc,hcm,hcs,J⟩
 ·cases h0
 cases he;have hxl:xs.length=n*sz:=O.1;have hm:(a+min sl dl)*sz<=n*sz:=On _ (by omega)
 have hmc:n*sz<=cap*sz:=On _ hnc;have hadd:(a+min sl dl)*sz=a*sz+min sl dl*sz:=Ou ..;have hf:=Sj (P:=P) w sz (min sl dl) b sl sc news hl Y;obtain ⟨w',hst,hh,hgr⟩:=lM (P:=P) Z (off+a*sz) e news 0 I.toList w (by simpa using hgb) (by simp; omega) h1
 refine ⟨w',?_,⟨?_,.inr ⟨Z,off,cap,_,rfl,hh,hnc,hcm,?_,?_⟩⟩,hgr⟩
 ·simp [Builtin.copy_,PD hT,hs,Builtin.lenOf,hf,hst,goInt]
 ·simp only [OG,OF,PI,hl,hxl]; omega
 ·simpa [pI] using hcs
 ·rw [Qu,PF,vV _ _ _ (by simp; omega)]
  have hx1:xs.take (a*sz)=(I.toList.take (off+a*sz)).drop off:=by
   rw [<- J,RO,O7 (by omega),Qk,P5]
  have hx2:xs.drop ((a+min sl dl)*sz)=(I.toList.drop (off+a*sz+news.length)).take (n*sz-(a+min sl dl)*sz):=by
   rw [<- J,Qk,Qa]; congr 2; omega
  rw [hx1,hx2,OJ,QM (by simp; omega),<- OJ]
  have hlen:((I.toList.take (off+a*sz)).drop off++news).length=a*sz+min sl dl*sz:=by
   rw [OG,PI,OF,hl]; simp; omega
  have e:n*sz=((I.toList.take (off+a*sz)).drop off++news).length+(n*sz-(a+min sl dl)*sz):=by rw [hlen]; omega
  conv=>lhs; rw [e]
  rw [List.take_length_add_append]
section
variable {x:Cx}{ops:Array Oper}{Q:mj}{rest:List Oper}{H:Hp}{M M':List bU}{L L':Env}
variable {d:Nat}{ty:TypeId}{pos:String}{aft:Array Edge}{g:Option (Nat×Bool)}
theorem yA {c:Code}{v:N3}{e:TypeId}{sz n:Nat}{xs:List N3} (h0:0<n)
  (k:∀ I off cap,v=.slice (some ⟨I,off,none⟩) n cap->n<=cap->Go.Sim.C x c Q H (.row v e sz n xs::M) L):Go.Sim.C x c Q H (.row v e sz n xs::M) L:=by
 intro a w hs ht;have O:k6 w e sz v n xs:=ht.ok _ (Oa ..);rcases O.2 with ⟨_,h⟩ | ⟨I,off,cap,Y,Z,_,J,_⟩
 ·omega
 ·exact k I off cap Z J a w hs ht
theorem ED {α:Type}[aE α] {t tu e:TypeId}{y u:Operand}{v vu:N3}{xs:List N3}{l ys:List α}
  (hg:gd ops L ⟨some d,.call ⟨.builtin .copy,#[y,u],#[t,tu]⟩,ty,pos,aft,g⟩=some true) (hN:Nat.blt d x.N=true)
  (hT:x.P.underlying t=some (.slice e)) (hsz:∀ w,(sizeOf e).run x.P w=.ok (aE.sz α) w) (hs:Nat.blt 0 (aE.sz α)=true)
  (hy:ev L y=some v) (Y:ev L u=some vu) (hx:Rw H v xs l) (hR:aV H vu ys) (h0:0<ys.length)
  (k:∀ xs',Rw H v xs' (ys.take (min ys.length l.length)++l.drop (min ys.length l.length))->W x ops Q rest H (.row v e (aE.sz α) l.length xs'::M) ((d,.int .i64 (min ys.length l.length:Nat))::L)):
  W x ops Q (⟨some d,.call ⟨.builtin .copy,#[y,u],#[t,tu]⟩,ty,pos,aft,g⟩::rest) H (.row v e (aE.sz α) l.length xs::M) L:=by
 refine tF rfl hg hN λa w I ht=>?_;have J:k6 w e (aE.sz α) v l.length xs:=ht.ok _ (Oa ..);obtain ⟨cs,hcs,Z⟩:=hR.flat;rcases Z with ⟨_,rfl⟩ | ⟨hc,b,O,c,rfl⟩
 ·simp at h0
 by_cases hl0:l.length=0
 ·have hm0:min ys.length l.length=0:=by omega
  refine ⟨.int .i64 (min ys.length l.length:Nat),w,?_,H,_,ht,k xs (by rw [hm0]; simpa using hx)⟩
  have hf:(Builtin.firstCells (aE.sz α) 0 (.slice (some ⟨b,O,none⟩) ys.length c)).run x.P w=.ok #[] w:=
   Sj (P:=x.P) w (aE.sz α) 0 ⟨b,O,none⟩ ys.length c [] (by simp) (by simp)
  rw [hm0];rcases J.2 with ⟨rfl,_⟩ | ⟨gb,off,cap,cur,rfl,_⟩
  ·simp [execOp,resolve,invoke,builtin,I.ev hy,I.ev Y,Builtin.copy_,PD hT,hsz,Builtin.lenOf,hf,goInt]
  ·simp [execOp,resolve,invoke,builtin,I.ev hy,I.ev Y,Builtin.copy_,PD hT,hsz,Builtin.lenOf,hf,goInt,hl0,storeCells]
 rcases J.2 with ⟨_,h⟩ | ⟨gb,off,cap,cur,rfl,_⟩
 ·exact absurd h hl0
 obtain ⟨w',hr,ho,hgr⟩:=Dj (P:=x.P) (tu:=tu) (ty:=ty) (a:=0) (dl:=l.length) (dc:=cap) (b:=⟨b,O,none⟩) (sl:=ys.length) (sc:=c) (news:=cs.take (min ys.length l.length*aE.sz α)) hT hsz J (by omega)
  (by rw [OF,hcs.len]; exact O7 (On _ (by omega)))
  (λj u Y=>by
   rw [O5] at Y
   split at Y
   ·exact ((hc j u Y).at (x:=x) (M:=.row (.slice (some ⟨gb,off,none⟩) l.length cap) e (aE.sz α) l.length xs::M)) w ht
   ·cases Y) (λu Y=>hcs.one u (QG Y))
 rw [PG,RP,PR,OB] at ho;rw [PG,PF] at hr;refine ⟨.int .i64 (min ys.length l.length:Nat),w',?_,H,_,ht.Ch (r':=.row (.slice (some ⟨gb,off,none⟩) l.length cap) e (aE.sz α) l.length _) hgr ho (λb hb=>.inl hb),k _ ⟨(hcs.split _).1.app (hx.rd.split _).2,_,_,_,rfl⟩⟩;simp [execOp,resolve,invoke,builtin,I.ev hy,I.ev Y,hr]
theorem zN {α:Type}[aE α] {t tu e:TypeId}{I off cap q dc sc:Nat}{y u:Operand}{xs:List N3}{l:List α}
  (hg:gd ops L ⟨some d,.call ⟨.builtin .copy,#[y,u],#[t,tu]⟩,ty,pos,aft,g⟩=some true) (hN:Nat.blt d x.N=true)
  (hT:x.P.underlying t=some (.slice e)) (hsz:∀ w,(sizeOf e).run x.P w=.ok (aE.sz α) w) (hs:Nat.blt 0 (aE.sz α)=true)
  (hx:Rw H (.slice (some ⟨I,off,none⟩) l.length cap) xs l) (hq:q<=l.length)
  (hy:ev L y=some (.slice (some ⟨I,off+q*aE.sz α,none⟩) (l.length-q) dc)) (hu:ev L u=some (.slice (some ⟨I,off,none⟩) q sc))
  (k:∀ xs',Rw H (.slice (some ⟨I,off,none⟩) l.length cap) xs' (l.take q++l.take (min q (l.length-q))++l.drop (q+min q (l.length-q))) ->
   W x ops Q rest H (.row (.slice (some ⟨I,off,none⟩) l.length cap) e (aE.sz α) l.length xs'::M) ((d,.int .i64 (min q (l.length-q):Nat))::L)):
  W x ops Q (⟨some d,.call ⟨.builtin .copy,#[y,u],#[t,tu]⟩,ty,pos,aft,g⟩::rest) H (.row (.slice (some ⟨I,off,none⟩) l.length cap) e (aE.sz α) l.length xs::M) L:=by
 refine tF rfl hg hN λa w hsl ht=>?_;have O:k6 w e (aE.sz α) (.slice (some ⟨I,off,none⟩) l.length cap) l.length xs:=ht.ok _ (Oa ..);have hlen:=hx.rd.len;have hone:=hx.rd.one;have hmm:min q (l.length-q)*aE.sz α<=l.length*aE.sz α:=On _ (by omega)
 have Y:∀ j u,(xs.take (min q (l.length-q)*aE.sz α))[j]? = some u->w.cell? ((⟨I,off,none⟩:Addr).add j)=some u:=by
  intro j u J;rcases O.2 with ⟨h0,_⟩ | ⟨gb2,off2,cap2,cur,he,hgb,hnc,hcm,hcs,Z⟩
  ·cases h0
  cases he;rw [O9];refine R8 hgb rfl ?_;rw [O5] at J
  split at J
  ·rw [<- Z,O5] at J
   split at J
   ·rw [ON] at J; simpa using J
   ·cases J
  ·cases J
 obtain ⟨w',hr,ho,hgr⟩:=Dj (P:=x.P) (tu:=tu) (ty:=ty) (a:=q) (dl:=l.length-q) (dc:=dc) (b:=⟨I,off,none⟩) (sl:=q) (sc:=sc) (news:=xs.take (min q (l.length-q)*aE.sz α)) hT hsz O (by omega)
  (by rw [OF,hlen]; omega) Y (λu hu=>hone u (QG hu))
 refine ⟨.int .i64 (min q (l.length-q):Nat),w',?_,H,_,ht.Ch (r':=.row (.slice (some ⟨I,off,none⟩) l.length cap) e (aE.sz α) l.length _) hgr ho (λb hb=>.inl hb),k _ ⟨?_,_,_,_,rfl⟩⟩
 ·simp [execOp,resolve,invoke,builtin,hsl.ev hy,hsl.ev hu,hr]
 ·exact ((hx.rd.split q).1.app (hx.rd.split (min q (l.length-q))).1).app (hx.rd.split (q+min q (l.length-q))).2
end
theorem Ct {x:Cx}{ops:Array Oper}{Q:mj}{rest:List Oper}{H:Hp}{M:List bU}{L:Env}{d:Nat}{f:FuncId}{args:List Operand}{J:Array TypeId}{ty:TypeId}{pos:String}{aft:Array Edge}{g:Option (Nat×Bool)}{vs:List N3}{v:N3}
  (Z:∀ w,(callFunc f vs.toArray).run x.P w=.ok (.value v) w)
  (O:gd ops L ⟨some d,.call ⟨.value (.func f),args.toArray,J⟩,ty,pos,aft,g⟩=some true) (hN:Nat.blt d x.N=true)
  (Y:xG L args=some vs) (k:W x ops Q rest H M ((d,v)::L)):
  W x ops Q (⟨some d,.call ⟨.value (.func f),args.toArray,J⟩,ty,pos,aft,g⟩::rest) H M L:=
 iL rfl O hN (λa w hs ht=>by
  have I:args.toArray.map a.eval=vs.toArray:=by simp [hs.xG Y]
  simp only [execOp,resolve,I,Act.eval,Deferred.ofValue,Oi,Oq,Oe,invoke];simp [Z]) k
def K0 (s:N2) (c:Int):Int:=Go.Lib.indexByte s.data.toList c.toNat.toUInt8
theorem CX {P:Program}{f:FuncId}{I:Func} (hf:P.funcs[f]? = some I) (J:(I.name == "runtime.NumGoroutine")=false) (O:I.body.isNone=true) (Y:Extern.findNext I=none) (Z:Extern.find I=some Extern.BytealgIndexByte.indexByte) (s:N2) (c:Int):
  ∀ w,(callFunc f [.string s,.int .u8 c].toArray).run P w=.ok (.value (.int .i64 (K0 s c))) w:=λw=>by
 rw [run_callFunc_extern hf J O Y Z,show [Value.string s,.int .u8 c].toArray=#[.string s,.int .u8 c] from rfl,Go.Lib.run_indexByteString]
 rfl
section
variable {x:Cx}{ops:Array Oper}{Q:mj}{rest:List Oper}{H:Hp}{M M':List bU}{L L':Env}
variable {d:Nat}{ty:TypeId}{pos:String}{aft:Array Edge}{g:Option (Nat×Bool)}
theorem GD {t e:TypeId}{y:Operand}{ad:Option Addr}{J:Nat}
  (Y:gd ops L ⟨none,.call ⟨.builtin .clear,#[y],#[t]⟩,ty,pos,aft,g⟩=some true)
  (O:x.P.underlying t=some (.slice e)) (Z:ev L y=some (.slice ad 0 J)) (k:W x ops Q rest H M L):
  W x ops Q (⟨none,.call ⟨.builtin .clear,#[y],#[t]⟩,ty,pos,aft,g⟩::rest) H M L:=
 EF rfl Y λa w I ht=>⟨.tuple #[],w,by
  cases ad <;> simp [execOp,resolve,invoke,builtin,I.ev Z,Builtin.clear_,PD O],H,M,ht,k⟩
theorem Co {t e:TypeId}{sz m n Y off cap i c2:Nat}{y:Operand}{z:N3}{zs xs:List N3}
  (hg:gd ops L ⟨none,.call ⟨.builtin .clear,#[y],#[t]⟩,ty,pos,aft,g⟩=some true)
  (hT:x.P.underlying t=some (.slice e)) (hz:∀ w,(zeroValue e).run x.P w=.ok z w) (hzs:z.cells=zs.toArray) (hzl:zs.length=sz) (h1:zs.all Value.oneCell'=true) (hs:Nat.blt 0 sz=true)
  (hi:i<m) (hy:ev L y=some (.slice (some ⟨Y,off+i*sz,none⟩) (m-i) c2))
  (k:W x ops Q rest H (.row (.slice (some ⟨Y,off,none⟩) m cap) e sz m (xs.take (i*sz)++(Builtin.zeroCells z.cells (m-i)).toList)::M) L):
  W x ops Q (⟨none,.call ⟨.builtin .clear,#[y],#[t]⟩,ty,pos,aft,g⟩::rest) H (.row (.slice (some ⟨Y,off,none⟩) m cap) e sz n xs::M) L:=by
 have hs':0<sz:=by simpa [Pk] using hs
 refine EF rfl hg λa w hsl ht=>?_;have J:k6 w e sz (.slice (some ⟨Y,off,none⟩) m cap) n xs:=ht.ok _ (Oa ..);rcases J.2 with ⟨h0,_⟩ | ⟨gb2,off2,cap2,O,he,hgb,hnc,hcm,hcs,htake⟩
 ·cases h0
 cases he;obtain ⟨q,hq⟩:∃ q,m-i=q+1:=⟨m-i-1,by omega⟩
 have I:(Builtin.zeroCells z.cells (m-i)).toList.length=(m-i)*sz:=by
  unfold Builtin.zeroCells; rw [hzs]; simp [hzl]
 have hmul:m*sz<=cap*sz:=On _ hnc;have hsplit:i*sz+(m-i)*sz=m*sz:=by rw [<- Ou]; congr 1; omega
 have hone:∀ u ∈ (Builtin.zeroCells z.cells (m-i)).toList,u.oneCell'=true:=by
  rw [hzs]; exact AZ (λu hu=>Pa.1 h1 u hu) (by omega) _
 obtain ⟨w',hst,hh,hgr⟩:=lM (P:=x.P) Y (off+i*sz) e (Builtin.zeroCells z.cells (m-i)).toList 0 O.toList w (by simpa using hgb) (by rw [I]; simp; omega) hone
 refine ⟨.tuple #[],w',?_,H,_,ht.Ch (r':=.row (.slice (some ⟨Y,off,none⟩) m cap) e sz m (xs.take (i*sz)++(Builtin.zeroCells z.cells (m-i)).toList)) hgr ⟨?_,.inr ⟨Y,off,cap,_,rfl,hh,hnc,hcm,?_,?_⟩⟩ (λb hb=>.inl hb),k⟩
 ·rw [hq] at hst hy
  simp [execOp,resolve,invoke,builtin,hsl.ev hy,Builtin.clear_,PD hT,hz,hst]
 ·rw [OG,OF,I,J.1]
  omega
 ·simpa [pI] using hcs
 ·rw [Qu,PF,vV _ _ _ (by rw [I]; simp; omega)]
  have hd:(O.toList.take (off+i*sz)).drop off=xs.take (i*sz):=by
   rw [Qk,P5,<- htake,RO,O7 (by omega)]
  have Z:((O.toList.take (off+i*sz)).drop off++(Builtin.zeroCells z.cells (m-i)).toList).length=m*sz:=by
   rw [OG,hd,OF,I,J.1]; omega
  rw [OJ,QM (by simp; omega),<- OJ,<- Z]
  rw [Rm,hd]
theorem y0 {α:Type}[aE α] {t e:TypeId}{n:Nat}{y lo:Operand}{v:N3}{z:N3}{zs xs:List N3}{l:List α}{ze:α}{kk:IntKind}{i:Int}{ty2:TypeId}{Y:String}{J:Array Edge}{g2:Option (Nat×Bool)}
  (hg:gd ops L ⟨some d,.slice t y (some lo) none none,ty,pos,aft,g⟩=some true) (hN:Nat.blt d x.N=true)
  (hg2:∀ u,gd ops ((d,u)::L) ⟨none,.call ⟨.builtin .clear,#[.tmp d],#[t]⟩,ty2,Y,J,g2⟩=some true)
  (hT:x.P.underlying t=some (.slice e)) (hT2:∀ w,(underlying t).run x.P w=.ok (.slice e) w) (hsz:∀ w,(sizeOf e).run x.P w=.ok (aE.sz α) w)
  (hz:∀ w,(zeroValue e).run x.P w=.ok z w) (hzs:z.cells=zs.toArray) (h1:zs.all Value.oneCell'=true) (hs:Nat.blt 0 (aE.sz α)=true) (hE:aE.E H zs ze)
  (hy:ev L y=some v) (hlo:ev L lo=some (.int kk i)) (hx:Rw H v xs l) (hb:0<=i/\i<=(l.length:Int))
  (k:∀ u I,Rw H v I (l.take i.toNat++List.replicate (l.length-i.toNat) ze)->W x ops Q rest H (.row v e (aE.sz α) (l.take i.toNat++List.replicate (l.length-i.toNat) ze).length I::M) ((d,u)::L)):
  W x ops Q (⟨some d,.slice t y (some lo) none none,ty,pos,aft,g⟩::⟨none,.call ⟨.builtin .clear,#[.tmp d],#[t]⟩,ty2,Y,J,g2⟩::rest) H (.row v e (aE.sz α) n xs::M) L:=by
 obtain ⟨hb0,hb1⟩:=hb;obtain ⟨q,rfl⟩:∃ q:Nat,i=q:=⟨i.toNat,by omega⟩
 have hql:q<=l.length:=by omega
 rw [N7] at k;have hs':0<aE.sz α:=by simpa [Pk] using hs
 have hlen:(l.take q++List.replicate (l.length-q) ze).length=l.length:=by simp; omega
 have hlk:∀ u,ev ((d,u)::L) (.tmp d)=some u:=λu=>by simp [ev,tz]
 have hn:∀ {a:Act}{w:World},St x.B x.w0 H (.row v e (aE.sz α) n xs::M) w->n=l.length:=λ{a w} ht=>by
  have hok:k6 w e (aE.sz α) v n xs:=ht.ok _ (Oa ..);have h1:=hx.rd.len;rw [hok.1] at h1;exact PN hs' h1
 have same:l.length=q->∀ {L2:Env},(∀ I,Rw H v I (l.take q++List.replicate (l.length-q) ze)->W x ops Q rest H (.row v e (aE.sz α) (l.take q++List.replicate (l.length-q) ze).length I::M) L2)->W x ops Q rest H (.row v e (aE.sz α) n xs::M) L2:=by
  intro hq L2 kk a w O ht;have hnn:=hn (a:=a) ht;subst hnn;have e:l.take q++List.replicate (l.length-q) ze=l:=by rw [hq,Po,<- hq,PS]; simp
  have:=kk xs (by rw [e]; exact hx)
  rw [e] at this;exact this a w O ht
 intro a w O ht;have hnn:=hn (a:=a) ht;subst hnn;have hok:k6 w e (aE.sz α) v l.length xs:=ht.ok _ (Oa ..)
 revert a w
 suffices hh:∀ (oo:Option Addr) (cap:Nat),v=.slice oo l.length cap->l.length<=cap->(q<l.length->∃ gb off,oo=some ⟨gb,off,none⟩) ->
   W x ops Q (⟨some d,.slice t y (some lo) none none,ty,pos,aft,g⟩::⟨none,.call ⟨.builtin .clear,#[.tmp d],#[t]⟩,ty2,Y,J,g2⟩::rest) H (.row v e (aE.sz α) l.length xs::M) L by
  intro a w O ht hok;rcases hok.2 with ⟨e0,h0⟩ | ⟨gb,off,cap,cur,e0,_,hnc,_⟩
  ·exact hh none 0 (by rw [h0]; exact e0) (by omega) (λh=>by omega) a w O ht
  ·exact hh (some ⟨gb,off,none⟩) cap e0 hnc (λ_=>⟨gb,off,rfl⟩) a w O ht
 intro oo cap hv hnc hsome;subst hv
 by_cases hq:l.length=q
 ·refine tG (m:=cap) (h:=l.length) (l:=q) hg hN hT2 hsz hy (.inl rfl) (.inl ⟨rfl,rfl⟩) (.inl ⟨rfl,rfl⟩) (.inr ⟨_,_,_,rfl,hlo,by omega,by omega,by omega⟩) (v':=.slice (if cap=q then oo else oo.map (·.add (q*aE.sz α))) 0 (cap-q)) (by rw [hq,Po]) ?_
  exact GD (hg2 _) hT (hlk _) (same hq (λI hx'=>k _ I hx'))
 ·obtain ⟨gb,off,rfl⟩:=hsome (by omega)
  refine tG (m:=cap) (h:=l.length) (l:=q) hg hN hT2 hsz hy (.inl rfl) (.inl ⟨rfl,rfl⟩) (.inl ⟨rfl,rfl⟩) (.inr ⟨_,_,_,rfl,hlo,by omega,by omega,by omega⟩) (v':=.slice (some ⟨gb,off+q*aE.sz α,none⟩) (l.length-q) (cap-q)) (by rw [Ob (by omega),Py,O9]) ?_
  have hzl:zs.length=aE.sz α:=aE.len hE;refine Co (i:=q) (sz:=aE.sz α) (hg2 _) hT hz hzs hzl h1 hs (by omega) (hlk _) ?_
  have Z:(Builtin.zeroCells z.cells (l.length-q)).toList=(List.range ((l.length-q)*aE.sz α)).map (zs.toArray[·%zs.length]!):=by
   unfold Builtin.zeroCells;rw [hzs];simp [hzl]
  have hrw:Rw H (.slice (some ⟨gb,off,none⟩) l.length cap) (xs.take (q*aE.sz α)++(Builtin.zeroCells z.cells (l.length-q)).toList) (l.take q++List.replicate (l.length-q) ze):=
   ⟨(hx.rd.split q).1.app (by rw [Z]; exact Kj hE hzl _),_,_,_,rfl⟩
  have:=k (.slice (some ⟨gb,off+q*aE.sz α,none⟩) (l.length-q) (cap-q)) _ hrw;rw [hlen] at this;exact this
end
theorem Er (k:Nat):mO .u64 (k:Int) 32=((k / 4294967296:Nat):Int):=by
 unfold mO;rw [show (2:Int) ^ (min (32:Int).toNat u64.bits)=4294967296 from rfl];rw [Qy _ (by decide)]
 omega
def Ej {α:Type} (s:List α) (n:Int):List α:=(List.replicate n.toNat s).flatten
theorem wY {α:Type} (a:α) (m:Nat):Ej [a] (m:Int)=List.replicate m a:=by
 unfold Ej;rw [N7]
 induction m with
 | zero=>rfl
 | succ m ih=>rw [Qt,Qt,List.flatten_cons,ih]; rfl
theorem Dg {α:Type}{a:α}{l:List α}{q:Nat} (h:l.take q=List.replicate q a) (J:q<=l.length):
  (l.take q++l.take (min q (l.length-q))++l.drop (q+min q (l.length-q))).take (q+min q (l.length-q))=List.replicate (q+min q (l.length-q)) a:=by
 have I:l.take (min q (l.length-q))=List.replicate (min q (l.length-q)) a:=by
  have:=Pc (List.take (min q (l.length-q))) h
  rwa [RO,List.take_replicate,show min (min q (l.length-q)) q=min q (l.length-q) by omega] at this
 rw [h,I,List.replicate_append_replicate];rw [List.take_append_of_le_length (by simp),Oo (by simp)]
section
variable {B:Nat}{w0 w w':World}{H:Hp}{M:List bU}
theorem St.var? (ht:St B w0 H M w) {P:Program}{n:String}{g:Nat} (J:P.globalNamed n=some g) (I:g<B):w.var? P n=w0.var? P n:=by
 unfold World.var?;rw [J];simp only [QA];rw [ht.below.block g I]
theorem St.under (ht:St B w0 H M w) (I:Below w.heap.size w w'):St B w0 H M w':=
 ht.grow ⟨I.os,I.tape,I.output,I.size,λi hi _=>I.block i hi⟩
theorem St.NI (ht:St B w0 H M w) {P:Program}{n:String}{g:Nat}{k:IntKind}{zs:List Int} (J:Lib.TabIs P w0 n k zs) (O:P.globalNamed n=some g) (I:g<B):Lib.TabIs P w n k zs:=
 (ht.var? O I).trans J
end
theorem Ld {P:Program}{W:World}{n:String}{g:Nat}{cs:Array N3} (I:P.globalNamed n=some g) (h:W.var? P n=some cs):g<W.heap.size:=by
 unfold World.var? at h;rw [I] at h;simp only [QA] at h
 split at h
 ·rename_i o _ _ ho
  exact (Pt.1 ho).1
 ·cases h
def Km (v:N3) (b:Bool):Prop:=(b=false/\v=.nilIface)\/(b=true/\∃ T p,v=.iface T p)
section
variable {x:Cx}{ops:Array Oper}{Q:mj}{rest:List Oper}{H:Hp}{M:List bU}{L:Env}
variable {d:Nat}{ty:TypeId}{pos:String}{aft:Array Edge}{g:Option (Nat×Bool)}
theorem I5 {t u:TypeId}{y:Operand}{v:N3}{b:Bool}{ms:Array (String×TypeId)} (J:∀ w,(underlying t).run x.P w=.ok (.interface ms) w) (Z:Km v b) (hg:gd ops L ⟨some d,.binOp .neq t y (.const .nilIface) u,ty,pos,aft,g⟩=some true) (hN:Nat.blt d x.N=true)
  (O:ev L y=some v) (k:W x ops Q rest H M ((d,.bool b)::L)):W x ops Q (⟨some d,.binOp .neq t y (.const .nilIface) u,ty,pos,aft,g⟩::rest) H M L:=
 iL rfl hg hN (λc w hs _=>by
  have Y:c.eval (.const .nilIface)=.nilIface:=rfl;rcases Z with ⟨rfl,rfl⟩ | ⟨rfl,T,p,rfl⟩
  ·have key:∀ k,(Op.equalIn (k+1) t .nilIface .nilIface).run x.P w=.ok true w:=λk=>by
    unfold Op.equalIn;simp [J]
   have I:(Op.equal t .nilIface .nilIface).run x.P w=.ok true w:=key 9999;simp only [execOp,hs.ev O,Y,Oi,eqGuard,binOp];simp [I]
  ·have key:∀ k,(Op.equalIn (k+1) t (.iface T p) .nilIface).run x.P w=.ok false w:=λk=>by
    unfold Op.equalIn;simp [J]
   have I:(Op.equal t (.iface T p) .nilIface).run x.P w=.ok false w:=key 9999;simp only [execOp,hs.ev O,Y,Oi,eqGuard,binOp];simp [I]) k
def xV (l:List U8):N2:=⟨(l.map λy=>UInt8.ofNat y.n.toNat).toArray⟩
theorem Aa:∀ (ns:List Int) (r:N2),ns.foldl (λr n=>r.push (UInt8.ofNat n.toNat)) r=⟨r.data++(ns.map λn=>UInt8.ofNat n.toNat).toArray⟩
 | [],r=>by simp
 | n::ns,r=>by
  rw [List.foldl_cons,Aa ns];simp [ByteArray.push]
theorem aV.bytes {H:Hp}{v:N3}{l:List U8} (hR:aV H v l) {B:Nat}{w0 w:World}{M:List bU}{P:Program} (ht:St B w0 H M w):(Conv.bytesToString v).run P w=.ok (.string (xV l)) w:=by
 rcases hR with ⟨⟨a,rfl⟩,rfl⟩ | ⟨b,off,cap,arr,T,fz,rfl,h2,h3,Y,h5,Z⟩
 ·cases a with
  | none=>rfl
  | some a=>
   rw [run_bytesToString w a 0 0 [] (by simp [loadCells,loadCellsFrom,Oq])]
   rfl
 ·have hl:=run_loadCells_list (P:=P) w ⟨b,off,none⟩ ((l.map λy=>y.n).map (Value.int .u8)) (λj v O=>by
   rw [OE,OE,Option.map_map,Rj] at O;obtain ⟨y,hy,rfl⟩:=O;obtain ⟨cs,J,q2⟩:=Z j y hy;have J:cs=[.int .u8 y.n]:=J;have:=q2 0 (.int .u8 y.n) (by rw [J]; rfl)
   have hb:=ht.vH b _ Y;rw [O9];simp only [World.cell?,hb];simpa [aE.sz] using this)
  simp only [PJ] at hl;rw [run_bytesToString w ⟨b,off,none⟩ l.length cap _ hl,Aa];have I:ByteArray.empty.data=#[]:=rfl;rw [I];simp [xV,R_,Function.comp_def]
end
def sV (n:Int):N2:=⟨(Lib.itoa n).toArray⟩
def JN (s:N2):Int×Bool:=match Lib.parseUintM 4294967295 0 s.data.toList with
 | .ok v=>((v:Int),false)
 | .range=>(4294967295,true)
 | _=>(0,true)
end Go.Sim
namespace Go.Sim
open Go
open _root_.Go.IntKind (i64 u64 u32 u8)
abbrev vA (b c:Nat) (seen:Array Nat):Obj:=.mapIter (some b) c seen c
theorem Ga {P:Program}{w:World}{ty:TypeId}{b c Y:Nat}{seen:Array Nat}{es:Array MapEntry} (hi:w.heap[Y]? = some (vA b c seen)) (hb:w.heap[b]? = some (.map es c)) (J:∀ e ∈ es.toList,e.born<c):
  ((∀ e ∈ es.toList,seen.contains e.born=true)/\(Instr.next (.pointer (some ⟨Y,0,none⟩)) false ty).run P w=.ok (.tuple #[.bool false]) w) \/
  ∃ e ∈ es.toList,seen.contains e.born=false/\∃ n,(Instr.next (.pointer (some ⟨Y,0,none⟩)) false ty).run P w=.ok (.tuple #[.bool true,e.key,e.val]) { w with drawn:=n,heap:=w.heap.setIfInBounds Y (vA b c (seen.push e.born)) }:=by
 simp only [Instr.next,getObj,Oi,Sem.run,hi,hb,Result.andThen,next_test_false seen es c c J (Ov _),Ps,P1];have I:∀ x ∈ (Array.filter (λe=>!seen.contains e.born) es).toList,x ∈ es.toList/\seen.contains x.born=false:=λx hx=>by simpa using hx
 have O:Array.filter (λe=>!seen.contains e.born) es=#[]->∀ e ∈ es.toList,seen.contains e.born=true:=λh e he=>by
  rw [Array.filter_eq_empty_iff] at h;have:=h e (by simpa using he)
  simpa using this
 generalize Array.filter (λe=>!seen.contains e.born) es=K at I O ⊢;have e1:K.filter (λx=>decide (x.born<c))=K:=Array.filter_eq_self.2 (λx hx=>by
  have:=J x (I x (by simpa using hx)).1
  simpa using this)
 have e2:K.filter (λx=>decide (x.born≥c))=#[]:=by
  rw [Array.filter_eq_empty_iff];intro x hx;have:=J x (I x (by simpa using hx)).1
  simp;omega
 simp only [e1,e2,Array.append_empty]
 by_cases h0:K.size=0
 ·left
  have:K=#[]:=Array.eq_empty_of_size_eq_zero h0;subst this;refine ⟨O rfl,?_⟩;simp [choose,Sem.run,Question.forced]
 ·right
  have hne:K.isEmpty=false:=by simp [Array.isEmpty,h0]
  simp only [hne,Ps,P1,Array.empty_append,Array.size_map];have hch:∃ (j n:Nat),j<K.size/\(choose (Question.mapNext K.size)).run P w=.ok j { w with drawn:=n }:=by
   by_cases hf:K.size<=1
   ·exact ⟨0,w.drawn,by omega,by simp [choose,Sem.run,Question.forced,hf]⟩
   ·exact ⟨_,w.drawn+1,QQ _ (by omega),by
     simp only [choose,Sem.run,Question.forced,PC,hf,P1,Question.cut]
     rfl⟩
  obtain ⟨j,n,hj,Z⟩:=hch;obtain ⟨m1,m2⟩:=I K[j] (by simp)
  refine ⟨K[j],m1,m2,n,?_⟩;have hset:∀ o,(setObj Y o).run P { w with drawn:=n }=.ok () { w with drawn:=n,heap:=w.heap.setIfInBounds Y o }:=λo=>by simp [setObj,Sem.run,hi]
  simp only [Z,Array.getElem?_map,QD hj,Py,Oi,hset,Result.andThen]
  rfl
theorem El {P:Program}{w:World}{b c I:Nat}{seen:Array Nat}{es:Array MapEntry}{e:MapEntry} (hi:w.heap[I]? = some (vA b c (seen.push e.born))) (J:w.heap[b]? = some (.map es c)) (O:e ∈ es.toList) (hn:(es.toList.map (·.born)).Nodup):
  (Instr.entry (.pointer (some ⟨I,0,none⟩))).run P w=.ok (.tuple #[e.key,e.val]) w:=by
 have Y:es.find? (·.born == e.born)=some e:=by rw [<- Array.find?_toList]; exact find_born e es.toList hn O
 simp only [Instr.entry,getObj,Oi,Sem.run,hi,J,Result.andThen,Array.back?_push,bne_self_eq_false,Ps,P1,Y]
 rfl
section
variable {x:Cx}{ops:Array Oper}{Q:mj}{rest:List Oper}{H:Hp}{M M':List bU}{L L':Env}
variable {d:Nat}{ty:TypeId}{pos:String}{aft:Array Edge}{g:Option (Nat×Bool)}
variable {κ ν:Type}[DecidableEq κ] [wg κ] [MV ν]
theorem GL {t key e:TypeId}{b c:Nat}{y:Operand}{es:Array MapEntry} (hm:bU.obj b (.map es c) ∈ M)
  (Y:gd ops L ⟨some d,.range t y,ty,pos,aft,g⟩=some true) (hN:Nat.blt d x.N=true)
  (J:∀ w,(underlying t).run x.P w=.ok (.map key e) w) (Z:ev L y=some (.map (some b)))
  (k:∀ I,W x ops Q rest H (.obj I (vA b c #[])::M) ((d,.pointer (some ⟨I,0,none⟩))::L)):
  W x ops Q (⟨some d,.range t y,ty,pos,aft,g⟩::rest) H M L:=
 tF rfl Y hN (λa w hs ht=>⟨_,w.alloc (vA b c #[]),by
  have O:=ht.vj hm;simp only [execOp,hs.ev Z,Instr.range,Oi,J,Oe,vY O,Oq,newObj,Sem.run,World.alloc],_,_,ht.alloc _,k _⟩)
theorem I6 {b c I:Nat}{y:Operand}{seen:Array Nat}{es:Array MapEntry}{l:List (κ×ν)} (hm:bU.obj b (.map es c) ∈ M) (h:sA es c l)
  (hg:gd ops L ⟨some d,.next y false,ty,pos,aft,g⟩=some true) (hN:Nat.blt d x.N=true) (O:ev L y=some (.pointer (some ⟨I,0,none⟩)))
  (k1:(∀ e ∈ es.toList,seen.contains e.born=true)->W x ops Q rest H (.obj I (vA b c seen)::M) ((d,.tuple #[.bool false])::L))
  (k2:∀ e ∈ es.toList,seen.contains e.born=false->W x ops Q rest H (.obj I (vA b c (seen.push e.born))::M) ((d,.tuple #[.bool true,e.key,e.val])::L)):
  W x ops Q (⟨some d,.next y false,ty,pos,aft,g⟩::rest) H (.obj I (vA b c seen)::M) L:=
 tF rfl hg hN (λa w hs ht=>by
  have hi:=ht.vj (Oa ..);have Z:=ht.vj (Od _ hm);have J:I<w.heap.size:=(Pt.1 hi).1;rcases Ga (P:=x.P) (ty:=ty) hi Z h.lt with ⟨hall,hr⟩ | ⟨e,he,hne,n,hr⟩
  ·exact ⟨_,w,by simp only [execOp,hs.ev O,Oi,hr,Oe,Oq],_,_,ht,k1 hall⟩
  ·refine ⟨_,{ w with drawn:=n,heap:=w.heap.setIfInBounds I (vA b c (seen.push e.born)) },by simp only [execOp,hs.ev O,Oi,hr,Oe,Oq],_,_,?_,k2 e he hne⟩
   have Y:=ht.Ch (r':=.obj I (vA b c (seen.push e.born))) (wP w I (vA b c (seen.push e.born))) (by simp [bU.ok,J]) (λ_ hc=>.inl hc)
   exact Y.drewN n)
theorem GF {b c I:Nat}{y:Operand}{seen:Array Nat}{es:Array MapEntry}{l:List (κ×ν)}{e:MapEntry} (hi:bU.obj I (vA b c (seen.push e.born)) ∈ M) (hm:bU.obj b (.map es c) ∈ M) (h:sA es c l) (Y:e ∈ es.toList) {J O:N3} (hk:e.key=J) (hv:e.val=O)
  (Z:gd ops L ⟨some d,.entry y,ty,pos,aft,g⟩=some true) (hN:Nat.blt d x.N=true) (hy:ev L y=some (.pointer (some ⟨I,0,none⟩)))
  (k:W x ops Q rest H M ((d,.tuple #[J,O])::L)):
  W x ops Q (⟨some d,.entry y,ty,pos,aft,g⟩::rest) H M L:=
 iL rfl Z hN (λa w hs ht=>by
  subst hk; subst hv
  simp only [execOp,hs.ev hy,Oi,El (P:=x.P) (ht.vj hi) (ht.vj hm) Y h.nd,Oe,Oq]) k
end
theorem sA.pick {κ ν:Type}[DecidableEq κ] [wg κ] [MV ν] {es:Array MapEntry}{c:Nat}{l:List (κ×ν)} (h:sA es c l) {e:MapEntry} (O:e ∈ es.toList):∃ (i:Nat) (p:κ×ν),es.toList[i]? = some e/\l[i]? = some p/\e.key=MV.mv p.1/\e.val=MV.mv p.2:=by
 obtain ⟨i,hi,rfl⟩:=Pq.1 O;have I:(es.toList.map λe=>(e.key,e.val))[i]? = (l.map λp=>(MV.mv p.1,MV.mv p.2))[i]? := by rw [h.eq]
 rw [OE,OE,N5 hi] at I;cases J:l[i]? with
 | none=>rw [J] at I; simp at I
 | some p=>
  rw [J] at I;simp only [Py,Ox,Qj] at I;exact ⟨i,p,N5 hi,J,I.1,I.2⟩
def xS {α:Type} (es:Array MapEntry) (seen:Array Nat) (l:List α) (P:α->Bool):Prop:=∀ (i:Nat) (p:α),l[i]? = some p->∀ e,es.toList[i]? = some e->seen.contains e.born=true->P p=false
theorem xS.nil {α:Type}{es:Array MapEntry}{l:List α}{P:α->Bool}:xS es #[] l P:=λi p J e I h=>by simp at h
theorem xS.push {κ ν:Type}[DecidableEq κ] [wg κ] [MV ν] {es:Array MapEntry}{c:Nat}{seen:Array Nat}{l:List (κ×ν)}{P:κ×ν->Bool} (hs:xS es seen l P) (h:sA es c l) {i:Nat}{p:κ×ν}{e:MapEntry}
  (hi:es.toList[i]? = some e) (hp:l[i]? = some p) (hP:P p=false):xS es (seen.push e.born) l P:=λj q hq e' Z J=>by
 by_cases hj:i=j
 ·subst hj
  rw [hp] at hq;obtain rfl:=N8 hq;exact hP
 ·refine hs j q hq e' Z ?_
  have hne:e'.born≠e.born:=λhb=>by
   obtain ⟨h1,h2⟩:=N_.1 hi;obtain ⟨h3,h4⟩:=N_.1 Z;have hpw:=QZ.1 h.nd;have O:i<(es.toList.map (·.born)).length:=by simpa using h1
   have Y:j<(es.toList.map (·.born)).length:=by simpa using h3
   rcases Nat.lt_or_gt_of_ne hj with I | I
   ·exact hpw i j O Y I (by rw [P8,P8,h2,h4]; exact hb.symm)
   ·exact hpw j i Y O I (by rw [P8,P8,h2,h4]; exact hb)
  simp at J ⊢;rcases J with J | J
  ·exact J
  ·exact absurd J hne
theorem xS.none {κ ν:Type}[DecidableEq κ] [wg κ] [MV ν] {es:Array MapEntry}{c:Nat}{seen:Array Nat}{l:List (κ×ν)}{P:κ×ν->Bool} (hs:xS es seen l P) (h:sA es c l) (I:∀ e ∈ es.toList,seen.contains e.born=true):l.any P=false:=by
 rw [List.any_eq_false];intro p Y;obtain ⟨i,hi,rfl⟩:=Pq.1 Y;have O:es.toList.length=l.length:=by have:=Pc List.length h.eq; simpa using this
 have J:i<es.toList.length:=by omega
 have:=hs i l[i] (N5 hi) es.toList[i] (N5 J) (I _ (OY J));simp [this]
theorem KM {α:Type}{l:List α}{P:α->Bool}{i:Nat}{p:α} (I:l[i]? = some p) (hP:P p=true):l.any P=true:=
 List.any_eq_true.2 ⟨p,Ol I,hP⟩
def Ca (es:Array MapEntry) (seen:Array Nat):Nat:=(es.toList.filter λe=>!seen.contains e.born).length
theorem Gh {es:Array MapEntry}{seen:Array Nat}{e:MapEntry} (O:e ∈ es.toList) (h:seen.contains e.born=false):Ca es (seen.push e.born)<Ca es seen:=by
 unfold Ca;refine filter_lt (λe=>!seen.contains e.born) (λJ=>!(seen.push e.born).contains J.born) (λy I=>?_) e (by simp only [h]; rfl) (by simp) es.toList O
 simp at I ⊢;exact I.1
end Go.Sim
namespace Go.Sim
open Go Go.RowKit
open _root_.Go.IntKind (i64 u64 u32 u8)
def Mk (b:Nat) (p:N3):Prop:=p=.pointer none\/p=.pointer (some ⟨b,0,none⟩)
theorem zq (s:N2):Lib.strCells s=(ml s).map (λy=>Value.int .u8 y.n):=by
 simp [Lib.strCells,ml,Function.comp_def]
theorem qx.u8 (H:Hp) (l:List U8):qx H (l.map λy=>Value.int .u8 y.n) l:=by
 induction l with
 | nil=>exact qx.nil
 | cons y l ih=>exact ⟨[.int .u8 y.n],_,rfl,rfl,ih⟩
theorem yT {P:Program}{w:World}{t u ty e:TypeId}{i:TypeInfo} (ht:P.underlying t=some (.slice e)) (hu:P.underlying u=some .string) (hi:P.info? e=some i) (hz:i.zero=some (.int .u8 0))
  (J:i.size=1) (hby:i.bytes=1) {v:N3}{n:Nat}{xs:List N3} (hown:k6 w e 1 v n xs) (s:N2) (h63:n+s.size<=maxLen) (hbytes:n+s.size<=140737488355328):
  ∃ v' w',(Builtin.append_ #[t,u] ty #[v,.string s]).run P w=.ok v' w'/\k6 w' e 1 v' (n+s.size) (xs++Lib.strCells s)/\w.grownBy w' v.ownBlock /\
   (∀ b,v'.ownBlock=some b->v.ownBlock=some b\/w.heap.size<=b):=by
 have hsmall:n+s.size<=9223372036854775807:=by simp only [maxLen] at h63; omega
 have hxl:xs.length=n:=by simpa using hown.1
 have O:(xs++Lib.strCells s).length=(n+s.size)*1:=by rw [OG,hxl,Q6,QE]
 have Y:∀ (xN:Nat) (row:Option Nat),
   k6 (w.drew.alloc (.cells (xs.toArray++(Lib.strCells s).toArray++Builtin.zeroCells (Value.int .u8 0).cells (grownCap w (n+s.size) xN e-(n+s.size))) e)) e 1
    (.slice (some ⟨w.heap.size,0,none⟩) (n+s.size) (grownCap w (n+s.size) xN e)) (n+s.size) (xs++Lib.strCells s) /\
   w.grownBy (w.drew.alloc (.cells (xs.toArray++(Lib.strCells s).toArray++Builtin.zeroCells (Value.int .u8 0).cells (grownCap w (n+s.size) xN e-(n+s.size))) e)) row:=by
  intro xN row;have hge:=grownCap_ge w (n+s.size) xN e;have hcm:grownCap w (n+s.size) xN e<=maxLen:=grownCap_le_maxLen w (n+s.size) xN e h63;refine ⟨⟨O,.inr ⟨w.heap.size,0,_,_,rfl,Sk w.drew _,hge,hcm,?_,?_⟩⟩,⟨rfl,rfl,rfl,by simp,λk hk _=>heap_alloc_old w.drew _ (h:=hk)⟩⟩
  ·have hz1:(Value.int u8 0).cells.size=1:=rfl
   simp only [Array.size_append,QX,size_zeroCells,hz1,hxl,Q6];omega
  ·simp only [PB,Array.toList_append,OJ]
   rw [<- OJ,<- O];exact Rm
 rcases hown.2 with ⟨rfl,rfl⟩ | ⟨g,off,cap,cur,rfl,hg,hnc,hcm,hcs,htake⟩
 ·have hx:xs=[]:=OK hxl
  subst hx
  by_cases hm:s.size=0
  ·have hn:Lib.strCells s=[]:=OK (by rw [Q6]; exact hm)
   refine ⟨.slice none 0 0,w,?_,by rw [hm,hn]; exact k6.nil w e 1,⟨rfl,rfl,rfl,Ov _,λ_ _ _=>rfl⟩,by simp [Value.ownBlock]⟩
   have hf:=Lib.run_firstCells_string (P:=P) w 1 s;rw [hm] at hf;simp [Builtin.append_,PD ht,PD hu,sizeOf,typeInfo,hi,J,Builtin.lenOf,hm,hf]
  ·have hr:=run_append_nil_string (P:=P) w t u ty e i (.int .u8 0) ht hu hi hz s (by omega) (by omega) (by rw [hby]; omega)
   have I:=Y 0 (Value.ownBlock (.slice none 0 0));simp only [OB,PR,Array.empty_append] at I ⊢;have e1:(s.data.map λb=>Value.int .u8 b.toNat)=(Lib.strCells s).toArray:=by
    apply Array.ext';simp [Lib.strCells]
   rw [e1] at hr;exact ⟨_,_,hr,I.1,I.2,λb hb=>.inr (by simp only [Value.ownBlock,Ox] at hb; omega)⟩
 ·have hcs':off+cap<=cur.size:=by simpa using hcs
  by_cases Z:n+s.size<=cap
  ·have hf:=Lib.run_firstCells_string (P:=P) w 1 s
   obtain ⟨w',hst,hh,I⟩:=lM (P:=P) g (off+n) e (Lib.strCells s) 0 cur.toList w (by simpa using hg) (by rw [Q6]; simp; omega) (Lib.strCells_oneCell s)
   refine ⟨.slice (some ⟨g,off,none⟩) (n+s.size) cap,w',?_,⟨O,.inr ⟨g,off,cap,_,rfl,hh,Z,hcm,?_,?_⟩⟩,I,λb hb=>.inl hb⟩
   ·simp [Builtin.append_,PD ht,PD hu,sizeOf,typeInfo,hi,J,Builtin.lenOf,Z,hf,O9,hst]
   ·simpa [pI] using hcs
   ·rw [Qu,PF,vV _ _ _ (by rw [Q6]; simp; omega)]
    have hd:(cur.toList.take (off+n)).drop off=xs:=by rw [Qk,P5]; simpa using htake
    rw [OJ,QM (by simp; omega),hd,<- OJ,<- O]
    exact Rm
  ·have holds:∀ j u,xs[j]? = some u->w.cell? ((⟨g,off,none⟩:Addr).add j)=some u:=by
    intro j u hu;rw [O9];refine R8 hg rfl ?_;rw [<- htake,O5] at hu
    split at hu
    ·rw [ON] at hu; simpa using hu
    ·cases hu
   have hr:=Lib.run_append_grow_string (P:=P) w t u ty e i (.int .u8 0) ht hu hi hz ⟨g,off,none⟩ n cap xs (by rw [J]; simpa using hxl) holds s (by omega) (by omega) (by rw [hby]; exact growslice_fits (by omega) (by omega))
   have I:=Y cap (Value.ownBlock (.slice (some ⟨g,off,none⟩) n cap));exact ⟨_,_,hr,I.1,I.2,λb hb=>.inr (by simp only [Value.ownBlock,Ox] at hb; omega)⟩
section
variable {x:Cx}{ops:Array Oper}{Q:mj}{rest:List Oper}{H:Hp}{M M':List bU}{L L':Env}
variable {d:Nat}{ty:TypeId}{pos:String}{aft:Array Edge}{g:Option (Nat×Bool)}
theorem Cn {t u e:TypeId}{n:Nat}{y z:Operand}{v:N3}{xs:List N3}{l:List U8}{s:N2}
  (hg:gd ops L ⟨some d,.call ⟨.builtin .append,#[y,z],#[t,u]⟩,ty,pos,aft,g⟩=some true) (hN:Nat.blt d x.N=true)
  (hT:x.P.underlying t=some (.slice e)) (hU:x.P.underlying u=some .string) (hi:Lx x.P e 1 1 (.int .u8 0))
  (hy:ev L y=some v) (hz:ev L z=some (.string s)) (hx:Rw H v xs l) (hb:l.length+s.size<=140737488355328)
  (k:∀ v' Y,Rw H v' Y (l++ml s)->W x ops Q rest H (.row v' e (aE.sz U8) (l++ml s).length Y::M) ((d,v')::L)):
  W x ops Q (⟨some d,.call ⟨.builtin .append,#[y,z],#[t,u]⟩,ty,pos,aft,g⟩::rest) H (.row v e (aE.sz U8) n xs::M) L:=by
 obtain ⟨i,h1,h2,h3,h4⟩:=hi.ex;refine tF rfl hg hN λa w O ht=>?_;have I:k6 w e 1 v n xs:=ht.ok _ (Oa ..);have hn:n=l.length:=by
  have:=hx.rd.len;rw [I.1] at this;exact PN (Nat.zero_lt_one) this
 subst hn;obtain ⟨v',w',hr,ho,hgr,Z⟩:=yT (P:=x.P) (ty:=ty) hT hU h1 h4 h2 h3 I s (by unfold maxLen; omega) hb
 have J:(l++ml s).length=l.length+s.size:=by rw [OG,xC]
 have hok:bU.ok w' (.row v' e (aE.sz U8) (l++ml s).length (xs++Lib.strCells s)):=by rw [J]; exact ho
 refine ⟨v',w',?_,H,_,ht.Ch (r':=.row v' e (aE.sz U8) (l++ml s).length (xs++Lib.strCells s)) hgr hok Z,k v' _ ⟨?_,ho.shape⟩⟩
 ·simp [execOp,resolve,invoke,builtin,O.ev hy,O.ev hz,hr]
 ·rw [zq]
  exact hx.rd.app (qx.u8 H _)
theorem Cw {t e u:TypeId}{y z:Operand}{a:Addr} (hi:∃ j,x.P.info? e=some j) (J:gd ops L ⟨some d,.binOp .neq t y z u,ty,pos,aft,g⟩=some true) (hN:Nat.blt d x.N=true)
  (I:x.P.underlying t=some (.pointer e)) (Y:ev L y=some (.pointer (some a))) (Z:ev L z=some (.pointer (some a)))
  (k:W x ops Q rest H M ((d,.bool false)::L)):W x ops Q (⟨some d,.binOp .neq t y z u,ty,pos,aft,g⟩::rest) H M L:=
 iL rfl J hN (λc w hs _=>by
  obtain ⟨j,O⟩:=hi;have h:=Lib.run_neq_ptr_same (P:=x.P) w a I O;simp only [execOp,hs.ev Y,hs.ev Z,Oi,eqGuard];simp [h]) k
theorem Bb {B:Nat}{w0 w:World}{b:Nat}{cs:List N3}{T:TypeId} (ht:St B w0 H M w) (hm:bU.obj b (.cells cs.toArray T (0,0)) ∈ M):w.shape? b=some (T,cs.length):=by
 have h:=ht.vj hm;simp [World.shape?,h]
theorem DE {src I T e:TypeId}{y:Operand}{b o:Nat}{cs:List N3} (hm:bU.obj b (.cells cs.toArray e (0,0)) ∈ M) (ho:Nat.blt o cs.length=true)
  (hi:∃ j,x.P.info? T=some j/\Nat.beq j.size 0=false) (Z:gd ops L ⟨some d,.convert src I y,ty,pos,aft,g⟩=some true) (hN:Nat.blt d x.N=true)
  (hs:x.P.underlying src=some (.pointer T)) (Y:x.P.underlying I=some .unsafePointer) (hy:ev L y=some (.pointer (some ⟨b,o,none⟩)))
  (k:W x ops Q rest H M ((d,.pointer (some ⟨b,o,none⟩))::L)):W x ops Q (⟨some d,.convert src I y,ty,pos,aft,g⟩::rest) H M L:=
 iL rfl Z hN (λc w O ht=>by
  obtain ⟨j,hj,J⟩:=hi;have h:=Lib.run_to_unsafe (P:=x.P) w ⟨b,o,none⟩ hs Y hj (λe=>by rw [e] at J; cases J) (Bb ht hm) (by simpa [Pk] using ho)
  simp only [execOp,O.ev hy,Oi,h,Oe,Oq]) k
theorem Bo {src I T e:TypeId}{y:Operand}{b o:Nat}{cs:List N3} (hm:bU.obj b (.cells cs.toArray e (0,0)) ∈ M)
  (hi:∃ j,x.P.info? T=some j) (hl:liesAt x.P x.P.depth e (cs.length / x.P.cellsOf e) o T 1=true) (Y:gd ops L ⟨some d,.convert src I y,ty,pos,aft,g⟩=some true) (hN:Nat.blt d x.N=true)
  (hs:x.P.underlying src=some .unsafePointer) (O:x.P.underlying I=some (.pointer T)) (hy:ev L y=some (.pointer (some ⟨b,o,none⟩)))
  (k:W x ops Q rest H M ((d,.pointer (some ⟨b,o,none⟩))::L)):W x ops Q (⟨some d,.convert src I y,ty,pos,aft,g⟩::rest) H M L:=
 iL rfl Y hN (λc w J ht=>by
  obtain ⟨j,Z⟩:=hi;have h:=Lib.run_from_unsafe (P:=x.P) w ⟨b,o,none⟩ hs O Z (Bb ht hm) hl;simp only [execOp,J.ev hy,Oi,h,Oe,Oq]) k
theorem B0 {P:Program}{f:FuncId}{I:Func} (hf:P.funcs[f]? = some I) (J:(I.name == "runtime.NumGoroutine")=false) (O:I.body.isNone=true) (Y:Extern.findNext I=none) (Z:Extern.find I=some Extern.AbiNoEscape.same) (v:N3):
  ∀ w,(callFunc f [v].toArray).run P w=.ok (.value v) w:=λw=>by
 rw [run_callFunc_extern hf J O Y Z,show [v].toArray=#[v] from rfl,Lib.run_noEscape]
 rfl
theorem Cy {J:Array TypeId}{y:Operand}{a:Addr}{n c:Nat} (Y:gd ops L ⟨some d,.call ⟨.builtin .unsafeSliceData,#[y],J⟩,ty,pos,aft,g⟩=some true) (hN:Nat.blt d x.N=true)
  (Z:ev L y=some (.slice (some a) n c)) (O:c≠0) (k:W x ops Q rest H M ((d,.pointer (some a))::L)):
  W x ops Q (⟨some d,.call ⟨.builtin .unsafeSliceData,#[y],J⟩,ty,pos,aft,g⟩::rest) H M L:=
 iL rfl Y hN (λs w I ht=>by
  have h:=Lib.run_unsafeSliceData_row (P:=x.P) w J ty a n c O;simp [execOp,resolve,invoke,builtin,I.ev Z,h]) k
theorem w4 {P:Program} (w:World):∀ (l:List U8) (a:Addr) (acc:N2),(∀ j y,l[j]? = some y->w.cell? (a.add j)=some (.int .u8 y.n)) ->
  (loadBytes a acc l.length).run P w=.ok ⟨acc.data++(l.map λy=>UInt8.ofNat y.n.toNat).toArray⟩ w
 | [],a,acc,_=>by simp [loadBytes]
 | y::l,a,acc,h=>by
  have J:w.cell? a=some (.int .u8 y.n):=by
   have:=h 0 y rfl;simpa [Addr.add] using this
  have ih:=w4 (P:=P) w l (a.add 1) (acc.push (UInt8.ofNat y.n.toNat)) (λj z Y=>by
   have:=h (j+1) z (by simpa using Y)
   have e:(a.add 1).add j=a.add (j+1):=by
    unfold Addr.add
    by_cases I:j=0
    ·subst I; simp
    ·simp [I]; omega
   rw [e]; exact this)
  have O:(y.n.toNat).toUInt8=UInt8.ofNat y.n.toNat:=rfl;simp only [Oj,loadBytes,Oi,run_load,J,Result.andThen,O];rw [ih]
  congr 1
  apply ByteArray.ext;simp [ByteArray.push]
theorem AS {P:Program}{e:TypeId} (O:P.cellsOf e=1) (I off n:Nat) (hn:off+n<=I):liesAt P P.depth e I off e n=true:=by
 have J:P.depth=(2*(P.types.size+Made.depth)+1)+1:=rfl;rw [J];simp only [liesAt,PQ]
 left
 rw [J];simp [rowAt,O,hn,sameLayout,Nat.mod_one]
theorem CA {pt it e:TypeId}{y z:Operand}{I off n cap:Nat}{xs:List N3}{l:List U8}
  (hg:gd ops L ⟨some d,.call ⟨.builtin .unsafeString,#[y,z],#[pt,it]⟩,ty,pos,aft,g⟩=some true) (hN:Nat.blt d x.N=true)
  (hp:x.P.underlying pt=some (.pointer e)) (hc:x.P.cellsOf e=1)
  (hy:ev L y=some (.pointer (some ⟨I,off,none⟩))) (hz:ev L z=some (.int .i64 (l.length:Int))) (h0:0<l.length)
  (hx:Rw H (.slice (some ⟨I,off,none⟩) n cap) xs l)
  (k:W x ops Q rest H M ((d,.string (xV l))::L)):
  W x ops Q (⟨some d,.call ⟨.builtin .unsafeString,#[y,z],#[pt,it]⟩,ty,pos,aft,g⟩::rest) H (.row (.slice (some ⟨I,off,none⟩) n cap) e (aE.sz U8) n xs::M) L:=by
 refine tF rfl hg hN λa w hsl ht=>?_;have J:k6 w e 1 (.slice (some ⟨I,off,none⟩) n cap) n xs:=ht.ok _ (Oa ..);have hn:n=l.length:=by
  have:=hx.rd.len;rw [J.1] at this;exact PN (Nat.zero_lt_one) this
 rcases J.2 with ⟨h,_⟩ | ⟨g',off',pX,O,he,hgc,hnc,hcm,hcs,htake⟩
 ·cases h
 cases he;have hcs':off+cap<=O.size:=by simpa using hcs
 have hsh:w.shape? I=some (e,O.size):=by simp [World.shape?,hgc]
 have Y:∀ j y,l[j]? = some y->w.cell? ((⟨I,off,none⟩:Addr).add j)=some (.int .u8 y.n):=by
  intro j y hj;obtain ⟨cs,h1,h2⟩:=hx.rd.get j y hj;have h1:cs=[.int .u8 y.n]:=h1;have h3:=h2 0 (.int .u8 y.n) (by rw [h1]; rfl)
  rw [O9];refine R8 hgc rfl ?_;rw [<- htake,O5] at h3
  split at h3
  ·rw [ON] at h3
   simpa [aE.sz] using h3
  ·cases h3
 have hlb:=w4 (P:=x.P) w l ⟨I,off,none⟩ .empty Y;have Z:=AS (P:=x.P) hc (O.size / x.P.cellsOf e) off l.length (by rw [hc,Nat.div_one]; omega)
 have hmax:i64.max=9223372036854775807:=rfl;have hl0:l.length≠0:=by omega
 have h63':¬ (9223372036854775807:Int)<(l.length:Int):=by unfold maxLen at hcm; omega
 have hneg:¬ (l.length:Int)<0:=by omega
 have hrun:(Builtin.unsafeString_ #[pt,it] ty #[.pointer (some ⟨I,off,none⟩),.int .i64 l.length]).run x.P w=.ok (.string (xV l)) (w.freeze ⟨I,off,none⟩ l.length):=by
  have hdef:Builtin.unsafeString_ #[pt,it] ty #[.pointer (some ⟨I,off,none⟩),.int .i64 l.length] =
    (do
     let n <- asInt (.int .i64 l.length)
     if n<0 then runtimePanic (.error "unsafe.String: len out of range")
     if n > i64.max then unsupported (.unsafePointer "String: a length above the largest int")
     if n=0 then pure (.string .empty)
     else if <- variablesAt ⟨I,off,none⟩ (<- elemOf pt) n.toNat then do
      let s <- loadBytes ⟨I,off,none⟩ .empty n.toNat
      freeze ⟨I,off,none⟩ n.toNat
      pure (.string s)
     else unsupported (.unsafePointer "String: not so many bytes at ptr")):=rfl
  rw [hdef];have he0:ByteArray.empty.data=#[]:=rfl;simp [asInt,asIntOf,hmax,h63',hneg,hl0,variablesAt,hsh,elemOf,PD hp,Z,hlb,xV]
 have hgr:w.grownBy (w.freeze ⟨I,off,none⟩ l.length) (some I):=by
  unfold World.freeze
  split
  ·exact ⟨rfl,rfl,rfl,Ov _,λ_ _ _=>rfl⟩
  ·exact ⟨rfl,rfl,rfl,by simp,λq hq hne=>by
    simp only [R3];rw [Ob (by intro e; exact hne (by rw [e]))]⟩
 have h1:=ht.Ch (r':=.row (.slice none 0 0) 0 1 0 []) hgr (k6.nil _ _ _) (by intro b hb; simp [bU.yI,Value.ownBlock] at hb)
 refine ⟨.string (xV l),w.freeze ⟨I,off,none⟩ l.length,?_,H,M,h1.tail,k⟩;simp [execOp,resolve,invoke,builtin,hsl.ev hy,hsl.ev hz,hrun]
end
end Go.Sim
namespace Go.Sim
open Go
open _root_.Go.IntKind (i64 u64 u32 u8)
def rowsOf (T:TypeId) (sz:Nat) {α:Type} (ws:List (N3×List N3)) (ls:List (List α)):List bU:=List.zipWith (λw l=>bU.row w.1 T sz l.length w.2) ws ls
structure Mx {α:Type}[aE α] (T1 T2:TypeId) (H:Hp) (v:N3) (hs:List N3) (mx:List bU) (sg:List Nat) (ls:List (List α)):Prop where
 ex:∃ (xs:List N3) (ws:List (N3×List N3)),mx=.row v T1 1 sg.length xs::rowsOf T2 (aE.sz α) ws ls/\ws.length=ls.length/\ws.map (·.1)=hs/\(∀ (k:Nat) (w:N3×List N3) (l:List α),ws[k]? = some w->ls[k]? = some l->Rw H w.1 w.2 l) /\
  xs.length=sg.length/\(∀ (i k:Nat),sg[i]? = some k->∃ w:N3×List N3,ws[k]? = some w/\xs[i]? = some w.1)
 sl:∃ a n c,v=.slice a n c
section
variable {α:Type}[aE α] {T1 T2:TypeId}{H H':Hp}{v:N3}{hs:List N3}{mx:List bU}{sg:List Nat}{ls:List (List α)}
theorem Mx.mono (h:Mx T1 T2 H v hs mx sg ls) (J:H.le H'):Mx T1 T2 H' v hs mx sg ls:=by
 obtain ⟨xs,ws,O,Y,I,Z,h4,h5⟩:=h.ex;exact ⟨⟨xs,ws,O,Y,I,λk w l a b=>(Z k w l a b).mono J,h4,h5⟩,h.sl⟩
theorem D1 {ws:List (N3×List N3)}{k:Nat}{w:N3} (J:ws.map (·.1)=hs) (I:hs[k]? = some w):∃ u,ws[k]? = some u/\u.1=w:=by
 rw [<- J,OE] at I;cases e:ws[k]? with
 | none=>rw [e] at I; simp at I
 | some u=>rw [e] at I; exact ⟨u,rfl,N8 I⟩
theorem Mx.row (h:Mx T1 T2 H v hs mx sg ls) {k:Nat}{w:N3} (Z:hs[k]? = some w):∃ (xs:List N3) (m1 m2:List bU),k<ls.length/\mx=m1++.row w T2 (aE.sz α) ((ls[k]?).getD []).length xs::m2/\Rw H w xs ((ls[k]?).getD []) /\
  ∀ (H':Hp) (I:List N3) (l':List α),H.le H'->Rw H' w I l'->Mx T1 T2 H' v hs (m1++.row w T2 (aE.sz α) l'.length I::m2) sg (ls.set k l'):=by
 obtain ⟨oxs,ws,rfl,h2,h2',h3,h4,h5⟩:=h.ex;have hh:=Z;clear Z;obtain ⟨w,Z,rfl⟩:=D1 h2' hh;have J:k<ws.length:=(N_.1 Z).1;have hk:k<ls.length:=by omega
 have hl:=N5 hk;have hwe:ws[k]=w:=by rw [N5 J] at Z; exact N8 Z
 have hsp:∀ (ws:List (N3×List N3)) (ls:List (List α)) (h1:k<ws.length) (h2:k<ls.length),rowsOf T2 (aE.sz α) ws ls=rowsOf T2 (aE.sz α) (ws.take k) (ls.take k)++.row ws[k].1 T2 (aE.sz α) ls[k].length ws[k].2::rowsOf T2 (aE.sz α) (ws.drop (k+1)) (ls.drop (k+1)):=λws ls h1 h2=>by
  have e1:ws=ws.take k++ws[k]::ws.drop (k+1):=by rw [<- O6 h1,PE]
  have e2:ls=ls.take k++ls[k]::ls.drop (k+1):=by rw [<- O6 h2,PE]
  have e3:rowsOf T2 (aE.sz α) ws ls=rowsOf T2 (aE.sz α) (ws.take k++ws[k]::ws.drop (k+1)) (ls.take k++ls[k]::ls.drop (k+1)):=by rw [<- e1,<- e2]
  rw [e3];unfold rowsOf;rw [Q7 (by simp; omega)]
  rfl
 have hg:(ls[k]?).getD []=ls[k]:=by rw [hl]; rfl
 rw [hg];refine ⟨w.2,.row v T1 1 sg.length oxs::rowsOf T2 (aE.sz α) (ws.take k) (ls.take k),rowsOf T2 (aE.sz α) (ws.drop (k+1)) (ls.drop (k+1)),hk,?_,h3 k w _ Z hl,λH' I l' hle hr=>⟨⟨oxs,ws.set k (w.1,I),?_,by simp [h2],?_,λj u l Y O=>?_,h4,λi' j hj=>?_⟩,h.sl⟩⟩
 ·rw [hsp ws ls J hk,hwe]; rfl
 ·rw [hsp (ws.set k (w.1,I)) (ls.set k l') (by simpa using J) (by simpa using hk)]
  have t1:(ws.set k (w.1,I)).take k=ws.take k:=QN (Ov k);have t2:(ls.set k l').take k=ls.take k:=QN (Ov k);have t3:(ws.set k (w.1,I)).drop (k+1)=ws.drop (k+1):=Qs (Oh k);have t4:(ls.set k l').drop (k+1)=ls.drop (k+1):=Qs (Oh k);rw [t1,t2,t3,t4];simp
 ·rw [List.map_set,h2']
  obtain ⟨e1,e2⟩:=N_.1 hh;rw [<- e2,List.set_getElem_self]
 ·by_cases e:k=j
  ·subst e
   rw [Oz J] at Y;rw [Oz hk] at O;obtain rfl:=N8 Y;obtain rfl:=N8 O;exact hr
  ·rw [Ow e] at Y O
   exact (h3 j u l Y O).mono hle
 ·obtain ⟨u,Y,hx'⟩:=h5 i' j hj
  by_cases e:k=j
  ·subst e
   rw [Z] at Y;obtain rfl:=N8 Y;exact ⟨(w.1,I),by rw [Oz J],hx'⟩
  ·exact ⟨u,by rw [Ow e]; exact Y,hx'⟩
theorem Mx.outer (h:Mx T1 T2 H v hs mx sg ls):∃ J m2,mx=.row v T1 1 sg.length J::m2/\J.length=sg.length/\(∀ (i k:Nat),sg[i]? = some k->∃ w,hs[k]? = some w/\J[i]? = some w) /\
  (∀ (i k:Nat) (w:N3),i<sg.length->hs[k]? = some w->Mx T1 T2 H v hs (.row v T1 1 (sg.set i k).length (J.set i w)::m2) (sg.set i k) ls) /\
  (∀ (i:Nat) (w:N3) (xs:List N3) (l:List α),i<sg.length->Rw H w xs l->Mx T1 T2 H v (hs++[w]) (.row v T1 1 (sg.set i ls.length).length (J.set i w)::(m2++[.row w T2 (aE.sz α) l.length xs])) (sg.set i ls.length) (ls++[l])):=by
 obtain ⟨J,ws,rfl,h2,Z,h3,h4,h5⟩:=h.ex;refine ⟨J,_,rfl,h4,λi k hk=>?_,λi k w hi hw=>?_,λi w xs l hi hr=>?_⟩
 ·obtain ⟨u,O,hx⟩:=h5 i k hk
  exact ⟨u.1,by rw [<- Z,OE,O]; rfl,hx⟩
 ·obtain ⟨u,O,rfl⟩:=D1 Z hw
  refine ⟨⟨J.set i u.1,ws,rfl,h2,Z,h3,by simp [h4],λi' k' I=>?_⟩,h.sl⟩
  by_cases e:i=i'
  ·subst e
   rw [Oz hi] at I;obtain rfl:=N8 I;exact ⟨u,O,by rw [Oz (by omega)]⟩
  ·rw [Ow e] at I
   obtain ⟨u',hu',hx'⟩:=h5 i' k' I;exact ⟨u',hu',by rw [Ow e]; exact hx'⟩
 ·refine ⟨⟨J.set i w,ws++[(w,xs)],?_,by simp [h2],by simp [Z],λj u l' O Y=>?_,by simp [h4],λi' k' I=>?_⟩,h.sl⟩
  ·unfold rowsOf
   rw [Q7 h2]
   rfl
  ·rcases PW j ls.length with hj | hj
   ·rw [Ph (by omega)] at O Y
    exact h3 j u l' O Y
   ·rw [OD (by omega)] at O Y
    rw [h2] at O;cases e:j-ls.length with
    | zero=>
     rw [e] at O Y;obtain rfl:=N8 O;obtain rfl:=N8 Y;exact hr
    | succ m=>rw [e] at O; simp at O
  ·by_cases e:i=i'
   ·subst e
    rw [Oz hi] at I;obtain rfl:=N8 I;exact ⟨(w,xs),by rw [OD (by omega),h2,Po]; rfl,by rw [Oz (by omega)]⟩
   ·rw [Ow e] at I
    obtain ⟨u',hu',hx'⟩:=h5 i' k' I;exact ⟨u',by rw [Ph (N_.1 hu').1]; exact hu',by rw [Ow e]; exact hx'⟩
end
structure Ft where
 mk ::
instance:aE Ft where
 sz:=1
 E _ cs _:=cs=[.slice none 0 0]
 len h:=by rw [h]; rfl
 mono _ h:=h
 one h c hc:=by rw [h] at hc; simp at hc; subst hc; rfl
theorem Aq {H:Hp}:∀ {n:Nat}{xs:List N3},qx H xs (List.replicate n Ft.mk)->xs=List.replicate n (.slice none 0 0)
 | 0,xs,h=>h
 | n+1,xs,h=>by
  obtain ⟨cs,r,rfl,I,J⟩:=h;have I:cs=[.slice none 0 0]:=I;rw [I,Aq J]; rfl
section
variable {α:Type}[aE α] {T1 T2:TypeId}{H H':Hp}{v:N3}{hs:List N3}{mx:List bU}{sg:List Nat}{ls:List (List α)}
theorem Mx.make {n:Nat}{I:List N3} (h:Rw H v I (List.replicate n Ft.mk)):Mx T1 T2 H v [.slice none 0 0] (.row v T1 1 (List.replicate n 0).length I::[.row (.slice none 0 0) T2 (aE.sz α) 0 []]) (List.replicate n 0) ([[]]:List (List α)):=by
 have Y:=Aq h.rd;refine ⟨⟨I,[(.slice none 0 0,[])],rfl,rfl,rfl,λk w l O hl=>?_,by rw [Y]; simp,λi k Z=>?_⟩,h.sl⟩
 ·cases k with
  | zero=>
   obtain rfl:=N8 O;obtain rfl:=N8 hl;exact Rw.nil
  | succ k=>simp at O
 ·obtain ⟨hi,J⟩:=N_.1 Z
  rw [List.getElem_replicate] at J;subst J;refine ⟨_,rfl,?_⟩;rw [Y,Qn,Oc (by simpa using hi)]
theorem Ac {B:Nat}{w0 w:World}{M:List bU} (hs:0<aE.sz α):∀ (ws:List (N3×List N3)) (ls:List (List α)) (H:Hp),ws.length=ls.length ->
  (∀ (k:Nat) (u:N3×List N3) (l:List α),ws[k]? = some u->ls[k]? = some l->Rw H u.1 u.2 l)->St B w0 H (rowsOf T2 (aE.sz α) ws ls++M) w ->
  ∃ H',H.le H'/\St B w0 H' M w/\∀ (k:Nat) (u:N3×List N3) (l:List α),ws[k]? = some u->ls[k]? = some l->aV H' u.1 l
 | [],[],H,_,_,ht=>⟨H,O1 _,ht,λk u l J _=>by simp at J⟩
 | [],_::_,H,hl,_,_=>by simp at hl
 | _::_,[],H,hl,_,_=>by simp at hl
 | u::ws,l::ls,H,hl,hr,ht=>by
  have ht:St B w0 H (.row u.1 T2 (aE.sz α) l.length u.2::(rowsOf T2 (aE.sz α) ws ls++M)) w:=ht;obtain ⟨H1,Z,h2,h3⟩:=ht.vz (hr 0 u l rfl rfl).rd hs;obtain ⟨H2,Y,g2,g3⟩:=Ac hs ws ls H1 (by simpa using hl) (λk O l' J I=>(hr (k+1) O l' (by simpa using J) (by simpa using I)).mono Z) h2
  refine ⟨H2,Rv Z Y,g2,λk O l' J I=>?_⟩;cases k with
  | zero=>
   obtain rfl:=N8 J;obtain rfl:=N8 I;exact h3.mono Y
  | succ k=>exact g3 k O l' (by simpa using J) (by simpa using I)
theorem Be {H:Hp}:∀ (xs:List N3) (l:List (List α)),xs.length=l.length->(∀ (i:Nat) (y:N3) (e:List α),xs[i]? = some y->l[i]? = some e->aV H y e)->qx H xs l
 | [],[],_,_=>rfl
 | [],_::_,h,_=>by simp at h
 | _::_,[],h,_=>by simp at h
 | y::xs,e::l,h,hr=>⟨[y],xs,rfl,⟨y,rfl,hr 0 y e rfl rfl⟩,Be xs l (by simpa using h) (λi Y I O J=>hr (i+1) Y I (by simpa using O) (by simpa using J))⟩
def rJ (sg:List Nat) (ls:List (List α)):List (List α):=sg.map λk=>(ls[k]?).getD []
theorem St.CS {B:Nat}{w0 w:World}{M:List bU} (ht:St B w0 H (mx++M) w) (h:Mx T1 T2 H v hs mx sg ls) (h0:0<aE.sz α):∃ H',H.le H'/\St B w0 H' M w/\aV H' v (rJ sg ls):=by
 obtain ⟨I,ws,rfl,h2,_,h3,h4,h5⟩:=h.ex;have ht1:St B w0 H (rowsOf T2 (aE.sz α) ws ls++(.row v T1 1 sg.length I::M)) w:=ht.perm (by
  rw [Qg];exact List.perm_middle.symm)
 obtain ⟨H1,g1,g2,g3⟩:=Ac h0 ws ls H h2 h3 ht1;have hv:(rJ sg ls).length=sg.length:=by unfold rJ; simp
 have hrd:qx H1 I (rJ sg ls):=Be I _ (by rw [hv]; exact h4) (λi y e hy J=>by
  unfold rJ at J;rw [OE] at J;cases Y:sg[i]? with
  | none=>rw [Y] at J; simp at J
  | some k=>
   rw [Y] at J;obtain ⟨u,hu,hx⟩:=h5 i k Y;rw [hy] at hx;obtain rfl:=N8 hx;have Z:k<ls.length:=by rw [<- h2]; exact (N_.1 hu).1
   have hl:=N5 Z;simp only [Py,Ox] at J;rw [hl,P0] at J;rw [<- J];exact g3 k u _ hu hl)
 have O:St B w0 H1 (.row v T1 (aE.sz (List α)) sg.length I::M) w:=g2;obtain ⟨H2,k1,k2,k3⟩:=O.vz hrd Nat.one_pos;exact ⟨H2,Rv g1 k1,k2,k3⟩
end
section
variable {x:Cx}{ops:Array Oper}{Q:mj}{rest:List Oper}{H:Hp}{M:List bU}{L:Env}
theorem DD {α:Type}[aE α] {T1 T2:TypeId}{v:N3}{hs:List N3}{mx:List bU}{sg:List Nat}{ls:List (List α)} (h:Mx T1 T2 H v hs mx sg ls) (J:Nat.blt 0 (aE.sz α)=true)
  (k:∀ H',H.le H'->aV H' v (rJ sg ls)->W x ops Q rest H' M L):W x ops Q rest H (mx++M) L:=by
 intro a w I ht;obtain ⟨H',O,Y,Z⟩:=St.CS ht h (by simpa [Pk] using J)
 exact k H' O Z a w I Y
variable {d:Nat}{ty:TypeId}{pos:String}{aft:Array Edge}{g:Option (Nat×Bool)}
theorem sQ (pre J O I:List bU) (r:bU):(pre++((J++r::O)++I)).Perm (r::(pre++((J++O)++I))):=by
 have Y:(pre++((J++r::O)++I))=(pre++J)++r::(O++I):=by simp
 have Z:(r::(pre++((J++O)++I)))=r::((pre++J)++(O++I)):=by simp
 rw [Y,Z];exact List.perm_middle
theorem Mx.get {α:Type}[aE α] {T1 T2:TypeId}{v:N3}{hs:List N3}{mx:List bU}{sg:List Nat}{ls:List (List α)} (h:Mx T1 T2 H v hs mx sg ls) {k:Nat}{w:N3} (O:hs[k]? = some w):
  ∃ xs:List N3,bU.row w T2 (aE.sz α) ((ls[k]?).getD []).length xs ∈ mx/\Rw H w xs ((ls[k]?).getD []):=by
 obtain ⟨xs,Y,Z,_,I,J,_⟩:=h.row O;exact ⟨xs,by rw [I]; exact OR _ (Oa ..),J⟩
theorem sX {α:Type}[aE α] {T1 T2 T:TypeId}{m:Nat}{y z:Operand}{v u w:N3}{ad:Addr}{hs cs:List N3}{pre mx:List bU}{sg:List Nat}{ls:List (List α)}{k j:Nat}{e2:α}
  (h:Mx T1 T2 H v hs mx sg ls) (hx:hs[k]? = some w) (hj:j<((ls[k]?).getD []).length) (O:aE.E H cs e2)
  (hg:gd ops L ⟨none,.store T y z,ty,pos,aft,g⟩=some true) (hn:∀ w,(sizeOf T).run x.P w=.ok m w) (hm:m=aE.sz α) (h0:Nat.blt 0 (aE.sz α)=true)
  (hy:ev L y=some (.pointer (some ad))) (Y:ad=(Value.base w).add (j*aE.sz α)) (hz:ev L z=some u) (hv:u.cells=cs.toArray)
  (kk:∀ J,Mx T1 T2 H v hs J sg (ls.set k (((ls[k]?).getD []).set j e2))->W x ops Q rest H (pre++(J++M)) L):
  W x ops Q (⟨none,.store T y z,ty,pos,aft,g⟩::rest) H (pre++(mx++M)) L:=by
 obtain ⟨xs,m1,m2,hk,rfl,hr,hup⟩:=h.row hx;have hcl:=aE.len O;have hs':0<aE.sz α:=by simpa [Pk] using h0
 have he:=N5 hj;obtain ⟨c,hc,Z⟩:=hr.elem he;have hccl:=aE.len hc;have ho:over c 0 cs=cs:=by
  rw [vV cs c 0 (by omega),RP,PR,List.drop_eq_nil_of_le (by omega),OX]
 obtain ⟨p1,_,_⟩:=Rw.put (k:=j) (o:=0) (e2:=e2) hr he hc Z (by simp [Qz]; omega) ho O
 have I:j*aE.sz α+cs.length<=xs.length:=by
  have hlen:=hr.rd.len;have:(j+1)*aE.sz α<=((ls[k]?).getD []).length*aE.sz α:=On _ hj;rw [Ou,Rx] at this;omega
 refine oy (sQ pre m1 m2 M _) ?_;refine wL (i:=j*aE.sz α) (cs:=cs) hg hn hy Y hz hv (by omega) I (by simp [Pk]; omega) (aE.one O) ?_
 have h2:=hup H _ _ (O1 _) p1;rw [Pp,PF] at h2;refine oy (sQ pre m1 m2 M _).symm ?_;exact kk _ h2
theorem EG {α:Type}[aE α] {T1 T2 T:TypeId}{y z:Operand}{v w:N3}{ad:Addr}{hs:List N3}{pre mx:List bU}{sg:List Nat}{ls:List (List α)}{i k:Nat}
  (h:Mx T1 T2 H v hs mx sg ls) (hi:i<sg.length) (hx:hs[k]? = some w)
  (hg:gd ops L ⟨none,.store T y z,ty,pos,aft,g⟩=some true) (hn:∀ w,(sizeOf T).run x.P w=.ok 1 w)
  (hy:ev L y=some (.pointer (some ad))) (Y:ad=(Value.base v).add (i*1)) (hz:ev L z=some w)
  (kk:∀ J,Mx T1 T2 H v hs J (sg.set i k) ls->W x ops Q rest H (pre++(J++M)) L):
  W x ops Q (⟨none,.store T y z,ty,pos,aft,g⟩::rest) H (pre++(mx++M)) L:=by
 obtain ⟨_,_,_,_,_,hr,_⟩:=h.row hx;obtain ⟨O,m2,rfl,hl,_,I,_⟩:=h.outer;refine oy (sQ pre [] m2 M _) ?_;refine wL (i:=i*1) (cs:=[w]) hg hn hy Y hz hr.cells rfl (by simp; omega) rfl (λc hc=>by simp at hc; subst hc; exact hr.one) ?_
 have Z:=I i k w hi hx;rw [Pp] at Z;have e:over O (i*1) [w]=O.set i w:=by rw [QE]; rfl
 rw [e];refine oy (sQ pre [] m2 M _).symm ?_;exact kk _ Z
theorem Bn {α:Type}[aE α] {T1 T2 T:TypeId}{y z:Operand}{v w:N3}{ad:Addr}{hs xs:List N3}{pre mx:List bU}{sg:List Nat}{ls:List (List α)}{l:List α}{i:Nat}
  (h:Mx T1 T2 H v hs mx sg ls) (hi:i<sg.length) (hr:Rw H w xs l)
  (hg:gd ops L ⟨none,.store T y z,ty,pos,aft,g⟩=some true) (hn:∀ w,(sizeOf T).run x.P w=.ok 1 w)
  (hy:ev L y=some (.pointer (some ad))) (Z:ad=(Value.base v).add (i*1)) (hz:ev L z=some w)
  (kk:∀ Y,Mx T1 T2 H v (hs++[w]) Y (sg.set i ls.length) (ls++[l])->W x ops Q rest H (pre++(Y++M)) L):
  W x ops Q (⟨none,.store T y z,ty,pos,aft,g⟩::rest) H (.row w T2 (aE.sz α) l.length xs::(pre++(mx++M))) L:=by
 obtain ⟨I,J,rfl,hl,_,_,O⟩:=h.outer;have p1:(bU.row w T2 (aE.sz α) l.length xs::(pre++((.row v T1 1 sg.length I::J)++M))).Perm (.row v T1 1 sg.length I::(.row w T2 (aE.sz α) l.length xs::(pre++(J++M)))):=
  ((sQ pre [] J M _).cons _).trans (List.Perm.swap _ _ _)
 refine oy p1 ?_;refine wL (i:=i*1) (cs:=[w]) hg hn hy Z hz hr.cells rfl (by simp; omega) rfl (λc hc=>by simp at hc; subst hc; exact hr.one) ?_
 have h2:=O i w xs l hi hr;rw [Pp] at h2;have e:over I (i*1) [w]=I.set i w:=by rw [QE]; rfl
 rw [e];have p2:(bU.row v T1 1 sg.length (I.set i w)::(.row w T2 (aE.sz α) l.length xs::(pre++(J++M)))).Perm (pre++((.row v T1 1 sg.length (I.set i w)::(J++[.row w T2 (aE.sz α) l.length xs]))++M)):=by
  refine (sQ pre [] (J++[.row w T2 (aE.sz α) l.length xs]) M _).trans ?_ |>.symm;refine List.Perm.cons _ ?_;have:=sQ pre J [] M (.row w T2 (aE.sz α) l.length xs);simpa using this
 refine oy p2 ?_;exact kk _ h2
def tZ (sz n:Nat):N3->N3
 | .slice (some ⟨b,off,sp⟩) len cap=>.slice (some ⟨b,if cap=n then off else off+n*sz,sp⟩) (len-n) (cap-n)
 | y=>y
theorem k6.sub {w:World}{T:TypeId}{sz n m:Nat}{v:N3}{xs:List N3} (h:k6 w T sz v n xs) (hm:m<=n):k6 w T sz (tZ sz m v) (n-m) (xs.drop (m*sz)):=by
 obtain ⟨hl,hh⟩:=h;refine ⟨by rw [PI,hl,Nat.sub_mul],?_⟩
 rcases hh with ⟨rfl,h0⟩ | ⟨O,off,cap,J,rfl,hg,hnc,hcm,hcs,I⟩
 ·exact .inl ⟨rfl,by omega⟩
 ·have h1:m*sz+(cap-m)*sz=cap*sz:=by rw [<- Ou,Nat.add_sub_cancel' (by omega)]
  have h2:m*sz+(n-m)*sz=n*sz:=by rw [<- Ou,Nat.add_sub_cancel' hm]
  by_cases Z:cap=m
  ·have Y:n=m:=by omega
   refine .inr ⟨O,off,cap-m,J,by show Value.slice (some ⟨O,if cap=m then off else off+m*sz,none⟩) _ _=_; rw [Oc Z],hg,by omega,by omega,by omega,?_⟩
   rw [<- I,Qk,Y,Po,Po,PG,RP,RP]
  ·refine .inr ⟨O,off+m*sz,cap-m,J,by show Value.slice (some ⟨O,if cap=m then off else off+m*sz,none⟩) _ _=_; rw [Ob Z],hg,by omega,by omega,by omega,?_⟩
   rw [<- I,Qk,Qa]
   congr 1
   omega
theorem Gg {sz m:Nat} (v:N3):(tZ sz m v).ownBlock=v.ownBlock:=by
 unfold tZ
 split
 ·rename_i b off sp len cap
  cases sp <;> rfl
 ·rfl
theorem St.same {B:Nat}{w0 w:World}{r r':bU} (h:St B w0 H (r::M) w) (I:r'.ok w) (O:r'.uE=r.uE):St B w0 H (r'::M) w:=by
 refine ⟨h.below,h.le,h.vH,λs hs=>?_,λs hs b J=>?_,?_⟩
 ·rcases OM.1 hs with rfl | hs
  ·exact I
  ·exact h.ok s (Od _ hs)
 ·rcases OM.1 hs with rfl | hs
  ·exact h.lo r (Oa ..) b (by rw [<- O]; exact J)
  ·exact h.lo s (Od _ hs) b J
 ·have:=h.nd
  simp only [Pm,O] at this ⊢;exact this
theorem Rw.sub {α:Type}[aE α] {v:N3}{xs:List N3}{l:List α} (h:Rw H v xs l) {m:Nat} (hm:m<=l.length):Rw H (tZ (aE.sz α) m v) (xs.drop (m*aE.sz α)) (l.drop m):=by
 refine ⟨?_,?_⟩
 ·have key:∀ (m:Nat) (xs:List N3) (l:List α),qx H xs l->m<=l.length->qx H (xs.drop (m*aE.sz α)) (l.drop m):=by
   intro m
   induction m with
   | zero=>intro xs l h _; simpa using h
   | succ m ih=>
    intro xs l h hm;cases l with
    | nil=>simp at hm
    | cons e l=>
     obtain ⟨c,r,rfl,J,O⟩:=h;have I:=aE.len J;rw [Rz,Ou,Rx,Qw,<- Qa,<- I,List.drop_left,I];exact ih r l O (by simpa using hm)
  exact key m xs l h.rd hm
 ·obtain ⟨a,n,c,rfl⟩:=h.sl
  cases a with
  | none=>exact ⟨_,_,_,rfl⟩
  | some ad=>obtain ⟨b,off,sp⟩:=ad; exact ⟨_,_,_,rfl⟩
theorem I7 {α:Type}[aE α] {T1 T2 T:TypeId}{y z:Operand}{v w:N3}{ad:Addr}{hs:List N3}{pre mx:List bU}{sg:List Nat}{ls:List (List α)}{i k n:Nat}
  (h:Mx T1 T2 H v hs mx sg ls) (hi:i<sg.length) (hx:hs[k]? = some w) (hn':n<=((ls[k]?).getD []).length) (hone:∀ j:Nat,sg[j]? = some k->j=i)
  (hg:gd ops L ⟨none,.store T y z,ty,pos,aft,g⟩=some true) (hn:∀ w,(sizeOf T).run x.P w=.ok 1 w)
  (hy:ev L y=some (.pointer (some ad))) (had:ad=(Value.base v).add (i*1)) (hz:ev L z=some (tZ (aE.sz α) n w))
  (kk:∀ mx',Mx T1 T2 H v (hs.set k (tZ (aE.sz α) n w)) mx' (sg.set i k) (ls.set k (((ls[k]?).getD []).drop n))->W x ops Q rest H (pre++(mx'++M)) L):
  W x ops Q (⟨none,.store T y z,ty,pos,aft,g⟩::rest) H (pre++(mx++M)) L:=by
 obtain ⟨I,ws,rfl,h2,h2',h3,h4,h5⟩:=h.ex;obtain ⟨u,hu,rfl⟩:=D1 h2' hx;have Y:k<ws.length:=(N_.1 hu).1;have hk:k<ls.length:=by omega
 have hl:=N5 hk;have hwe:ws[k]=u:=by rw [N5 Y] at hu; exact N8 hu
 have hgd:(ls[k]?).getD []=ls[k]:=by rw [hl]; rfl
 rw [hgd] at hn' kk;have hr:=h3 k u _ hu hl;have hrs:=hr.sub hn';have hsp:∀ (ws:List (N3×List N3)) (ls:List (List α)) (h1:k<ws.length) (h2:k<ls.length),rowsOf T2 (aE.sz α) ws ls=rowsOf T2 (aE.sz α) (ws.take k) (ls.take k)++.row ws[k].1 T2 (aE.sz α) ls[k].length ws[k].2::rowsOf T2 (aE.sz α) (ws.drop (k+1)) (ls.drop (k+1)):=λws ls h1 h2=>by
  have e1:ws=ws.take k++ws[k]::ws.drop (k+1):=by rw [<- O6 h1,PE]
  have e2:ls=ls.take k++ls[k]::ls.drop (k+1):=by rw [<- O6 h2,PE]
  have e3:rowsOf T2 (aE.sz α) ws ls=rowsOf T2 (aE.sz α) (ws.take k++ws[k]::ws.drop (k+1)) (ls.take k++ls[k]::ls.drop (k+1)):=by rw [<- e1,<- e2]
  rw [e3];unfold rowsOf;rw [Q7 (by simp; omega)]
  rfl
 generalize hA:rowsOf T2 (aE.sz α) (ws.take k) (ls.take k)=A at hsp;generalize hB:rowsOf T2 (aE.sz α) (ws.drop (k+1)) (ls.drop (k+1))=Bq at hsp;have hrows:rowsOf T2 (aE.sz α) ws ls=A++.row u.1 T2 (aE.sz α) ls[k].length u.2::Bq:=by
  rw [<- hA,<- hB];have e1:ws=ws.take k++ws[k]::ws.drop (k+1):=by rw [<- O6 Y,PE]
  have e2:ls=ls.take k++ls[k]::ls.drop (k+1):=by rw [<- O6 hk,PE]
  have e3:rowsOf T2 (aE.sz α) ws ls=rowsOf T2 (aE.sz α) (ws.take k++ws[k]::ws.drop (k+1)) (ls.take k++ls[k]::ls.drop (k+1)):=by rw [<- e1,<- e2]
  rw [e3];unfold rowsOf;rw [Q7 (by simp; omega),<- hwe]
  rfl
 have hrows2:rowsOf T2 (aE.sz α) (ws.set k (tZ (aE.sz α) n u.1,u.2.drop (n*aE.sz α))) (ls.set k (ls[k].drop n))=A++.row (tZ (aE.sz α) n u.1) T2 (aE.sz α) (ls[k].drop n).length (u.2.drop (n*aE.sz α))::Bq:=by
  rw [<- hA,<- hB];have e1:ws.set k (tZ (aE.sz α) n u.1,u.2.drop (n*aE.sz α))=ws.take k++(tZ (aE.sz α) n u.1,u.2.drop (n*aE.sz α))::ws.drop (k+1):=by rw [Q0,Oc Y]
  have e2:ls.set k (ls[k].drop n)=ls.take k++ls[k].drop n::ls.drop (k+1):=by rw [Q0,Oc hk]
  rw [e1,e2];unfold rowsOf;rw [Q7 (by simp; omega)]
  rfl
 have hnew:Mx T1 T2 H v (hs.set k (tZ (aE.sz α) n u.1)) (.row v T1 1 (sg.set i k).length (I.set i (tZ (aE.sz α) n u.1))::rowsOf T2 (aE.sz α) (ws.set k (tZ (aE.sz α) n u.1,u.2.drop (n*aE.sz α))) (ls.set k (ls[k].drop n))) (sg.set i k) (ls.set k (ls[k].drop n)):=by
  refine ⟨⟨_,_,rfl,by simp [h2],by rw [List.map_set,h2'],λj u' l' J Z=>?_,by simp [h4],λi' k' O=>?_⟩,h.sl⟩
  ·by_cases e:k=j
   ·subst e
    rw [Oz Y] at J;rw [Oz hk] at Z;obtain rfl:=N8 J;obtain rfl:=N8 Z;exact hrs
   ·rw [Ow e] at J Z
    exact h3 j u' l' J Z
  ·by_cases e:i=i'
   ·subst e
    rw [Oz hi] at O;obtain rfl:=N8 O;exact ⟨_,by rw [Oz Y],by rw [Oz (by omega)]⟩
   ·rw [Ow e] at O
    obtain ⟨u',J,hx'⟩:=h5 i' k' O;have hne:k≠k':=λe2=>by subst e2; exact e (hone i' O).symm
    exact ⟨u',by rw [Ow hne]; exact J,by rw [Ow e]; exact hx'⟩
 refine oy (sQ pre [] (rowsOf T2 (aE.sz α) ws ls) M _) ?_;refine wL (i:=i*1) (cs:=[tZ (aE.sz α) n u.1]) hg hn hy had hz hrs.cells rfl (by simp; omega) rfl (λc hc=>by simp at hc; subst hc; exact hrs.one) ?_
 have e:over I (i*1) [tZ (aE.sz α) n u.1]=I.set i (tZ (aE.sz α) n u.1):=by rw [QE]; rfl
 rw [e];refine oy (sQ pre [] (rowsOf T2 (aE.sz α) ws ls) M _).symm ?_;rw [PR,hrows];have p1:(pre++((.row v T1 1 sg.length (I.set i (tZ (aE.sz α) n u.1))::(A++.row u.1 T2 (aE.sz α) ls[k].length u.2::Bq))++M)).Perm (.row u.1 T2 (aE.sz α) ls[k].length u.2::(pre++(((.row v T1 1 sg.length (I.set i (tZ (aE.sz α) n u.1))::A)++Bq)++M))):=
  sQ pre (.row v T1 1 sg.length (I.set i (tZ (aE.sz α) n u.1))::A) Bq M _
 refine oy p1 ?_;intro a w0' hsl ht;have hok:=ht.ok _ (Oa ..);have hs2:St x.B x.w0 H (.row (tZ (aE.sz α) n u.1) T2 (aE.sz α) (ls[k].drop n).length (u.2.drop (n*aE.sz α))::(pre++(((.row v T1 1 sg.length (I.set i (tZ (aE.sz α) n u.1))::A)++Bq)++M))) w0':=by
  refine ht.same ?_ (Pc Option.toList (Gg u.1));have h1:k6 w0' T2 (aE.sz α) u.1 ls[k].length u.2:=hok;have:=h1.sub hn';rw [<- PI] at this;exact this
 have p2:=(sQ pre (.row v T1 1 sg.length (I.set i (tZ (aE.sz α) n u.1))::A) Bq M (.row (tZ (aE.sz α) n u.1) T2 (aE.sz α) (ls[k].drop n).length (u.2.drop (n*aE.sz α)))).symm;refine kk _ hnew a w0' hsl ?_;rw [hrows2,Pp];exact hs2.perm p2
theorem GK {α:Type}[aE α] {T2 t e:TypeId}{y lo:Operand}{w:N3}{xs:List N3}{l:List α}{n:Nat}{kk:IntKind}
  (hm:bU.row w T2 (aE.sz α) l.length xs ∈ M) (hn:n<=l.length)
  (hg:gd ops L ⟨some d,.slice t y (some lo) none none,ty,pos,aft,g⟩=some true) (hN:Nat.blt d x.N=true)
  (hT:∀ w,(underlying t).run x.P w=.ok (.slice e) w) (hs:∀ w,(sizeOf e).run x.P w=.ok (aE.sz α) w) (hy:ev L y=some w) (J:ev L lo=some (.int kk (n:Int)))
  (k:W x ops Q rest H M ((d,tZ (aE.sz α) n w)::L)):
  W x ops Q (⟨some d,.slice t y (some lo) none none,ty,pos,aft,g⟩::rest) H M L:=by
 intro a I O ht;have Z:k6 I T2 (aE.sz α) w l.length xs:=ht.ok _ hm;rcases Z.2 with ⟨rfl,h0⟩ | ⟨gb,off,cap,cur,rfl,_,hnc,_⟩
 ·obtain rfl:n=0:=by omega
  exact tG (m:=0) (h:=0) (l:=0) hg hN hT hs hy (.inl rfl) (.inl ⟨rfl,rfl⟩) (.inl ⟨rfl,rfl⟩) (.inr ⟨lo,kk,_,rfl,J,Pw _,Pw _,rfl⟩) rfl k a I O ht
 ·refine tG (m:=cap) (h:=l.length) (l:=n) hg hN hT hs hy (.inl rfl) (.inl ⟨rfl,rfl⟩) (.inl ⟨rfl,rfl⟩) (.inr ⟨lo,kk,_,rfl,J,by omega,by omega,by omega⟩) ?_ k a I O ht
  show _=Value.slice (some ⟨gb,if cap=n then off else off+n*aE.sz α,none⟩) (l.length-n) (cap-n)
  by_cases Y:cap=n
  ·rw [Oc Y,Oc Y]
  ·rw [Ob Y,Ob Y]
   rw [Py,O9]
end
theorem BY (pre os mx M:List bU):(pre++(mx++(os++M))).Perm (pre++(os++(mx++M))):=
 List.Perm.append_left pre (List.perm_append_comm_assoc mx os M)
theorem Ao (pre mx M:List bU):(pre++(mx++M)).Perm (mx++(pre++M)):=List.perm_append_comm_assoc pre mx M
def lone (sg:List Nat) (i k:Nat):Bool:=(List.range sg.length).all λj=>sg[j]? != some k || j == i
theorem F2 {sg:List Nat}{i k:Nat} (h:lone sg i k=true) (j:Nat) (I:sg[j]? = some k):j=i:=by
 unfold lone at h;rw [Pa] at h;have hl:=(N_.1 I).1;have:=h j (by simpa using hl)
 rw [I] at this;simpa using this
theorem JB {sg:List Nat}{i k:Nat} (h:∀ j,sg[j]? = some k->j=i):lone sg i k=true:=by
 unfold lone;rw [Pa];intro j I
 by_cases e:sg[j]? = some k
 ·simp [h j e]
 ·simp [e]
section
variable {x:Cx}{ops:Array Oper}{Q:mj}{rest:List Oper}{H:Hp}{M:List bU}{L:Env}{d:Nat}{ty:TypeId}{pos:String}{aft:Array Edge}{g:Option (Nat×Bool)}
variable {α:Type}[aE α] {T1 T2:TypeId}{v:N3}{hs:List N3}{mx:List bU}{sg:List Nat}{ls:List (List α)}
theorem w8 {t e:TypeId}{y:Operand} (h:Mx T1 T2 H v hs mx sg ls) (I:∀ s ∈ mx,s ∈ M) (Y:gd ops L ⟨some d,.call ⟨.builtin .len,#[y],#[t]⟩,ty,pos,aft,g⟩=some true) (hN:Nat.blt d x.N=true)
  (J:∀ w,(underlying t).run x.P w=.ok (.slice e) w) (Z:ev L y=some v) (k:W x ops Q rest H M ((d,.int .i64 (sg.length:Int))::L)):
  W x ops Q (⟨some d,.call ⟨.builtin .len,#[y],#[t]⟩,ty,pos,aft,g⟩::rest) H M L:=by
 obtain ⟨oxs,m2,O,_⟩:=h.outer;exact zO (I _ (by rw [O]; exact Oa ..)) Y hN J Z k
theorem gG {t e:TypeId}{y z:Operand}{kk:IntKind}{i:Int}{p:Nat} (h:Mx T1 T2 H v hs mx sg ls) (I:∀ s ∈ mx,s ∈ M)
  (hg:gd ops L ⟨some d,.indexAddr t y z,ty,pos,aft,g⟩=some true) (hN:Nat.blt d x.N=true)
  (Z:∀ w,(underlying t).run x.P w=.ok (.slice e) w) (J:∀ w,(sizeOf e).run x.P w=.ok 1 w)
  (hy:ev L y=some v) (hz:ev L z=some (.int kk i)) (O:0<=i) (Y:sg[i.toNat]? = some p)
  (k:W x ops Q rest H M ((d,.pointer (some ((Value.base v).add (i.toNat*1))))::L)):
  W x ops Q (⟨some d,.indexAddr t y z,ty,pos,aft,g⟩::rest) H M L:=by
 obtain ⟨oxs,m2,he,_⟩:=h.outer;exact xT (I _ (by rw [he]; exact Oa ..)) hg hN Z J hy hz O (N_.1 Y).1 k
theorem kB {T:TypeId}{y:Operand}{ad:Addr}{i p:Nat} (h:Mx T1 T2 H v hs mx sg ls) (J:∀ s ∈ mx,s ∈ M) (Y:sg[i]? = some p)
  (hg:gd ops L ⟨some d,.load T y,ty,pos,aft,g⟩=some true) (hN:Nat.blt d x.N=true)
  (Z:∀ w,(isAgg T).run x.P w=.ok false w) (hy:ev L y=some (.pointer (some ad))) (O:ad=(Value.base v).add (i*1))
  (k:∀ w,hs[p]? = some w->W x ops Q rest H M ((d,w)::L)):W x ops Q (⟨some d,.load T y,ty,pos,aft,g⟩::rest) H M L:=by
 obtain ⟨oxs,m2,he,_,I,_⟩:=h.outer;obtain ⟨w,hw,hx⟩:=I i p Y;subst O;refine ql hg hN Z hy (AA (J _ (by rw [he]; exact Oa ..)) ?_) (k w hw)
 rw [QE]; exact hx
theorem EE {t e:TypeId}{y:Operand}{w:N3}{p:Nat} (h:Mx T1 T2 H v hs mx sg ls) (I:∀ s ∈ mx,s ∈ M) (Y:hs[p]? = some w) (O:gd ops L ⟨some d,.call ⟨.builtin .len,#[y],#[t]⟩,ty,pos,aft,g⟩=some true) (hN:Nat.blt d x.N=true)
  (J:∀ w,(underlying t).run x.P w=.ok (.slice e) w) (Z:ev L y=some w) (k:W x ops Q rest H M ((d,.int .i64 (((ls[p]?).getD []).length:Int))::L)):
  W x ops Q (⟨some d,.call ⟨.builtin .len,#[y],#[t]⟩,ty,pos,aft,g⟩::rest) H M L:=by
 obtain ⟨xs,hm,_⟩:=h.get Y;exact zO (I _ hm) O hN J Z k
theorem k7 {t e:TypeId}{y z:Operand}{kk:IntKind}{j:Int}{w:N3}{p n:Nat}{a:α} (h:Mx T1 T2 H v hs mx sg ls) (I:∀ s ∈ mx,s ∈ M) (hw:hs[p]? = some w)
  (hg:gd ops L ⟨some d,.indexAddr t y z,ty,pos,aft,g⟩=some true) (hN:Nat.blt d x.N=true)
  (Z:∀ w,(underlying t).run x.P w=.ok (.slice e) w) (J:∀ w,(sizeOf e).run x.P w=.ok n w) (hn:n=aE.sz α)
  (hy:ev L y=some w) (hz:ev L z=some (.int kk j)) (O:0<=j) (Y:((ls[p]?).getD [])[j.toNat]? = some a)
  (k:W x ops Q rest H M ((d,.pointer (some ((Value.base w).add (j.toNat*aE.sz α))))::L)):
  W x ops Q (⟨some d,.indexAddr t y z,ty,pos,aft,g⟩::rest) H M L:=by
 subst hn;obtain ⟨xs,hm,_⟩:=h.get hw;exact xT (I _ hm) hg hN Z J hy hz O (N_.1 Y).1 k
theorem pW {T:TypeId}{y:Operand}{ad:Addr}{w:N3}{p j n:Nat}{a:α} (h:Mx T1 T2 H v hs mx sg ls) (I:∀ s ∈ mx,s ∈ M) (hw:hs[p]? = some w) (Z:((ls[p]?).getD [])[j]? = some a)
  (hg:gd ops L ⟨some d,.load T y,ty,pos,aft,g⟩=some true) (hN:Nat.blt d x.N=true)
  (hT:∀ w,(isAgg T).run x.P w=.ok true w) (hn:∀ w,(sizeOf T).run x.P w=.ok n w) (O:n=aE.sz α) (hy:ev L y=some (.pointer (some ad))) (J:ad=(Value.base w).add (j*aE.sz α))
  (k:∀ cs,aE.E H cs a->W x ops Q rest H M ((d,.agg cs.toArray)::L)):W x ops Q (⟨some d,.load T y,ty,pos,aft,g⟩::rest) H M L:=by
 subst O;subst J;obtain ⟨xs,hm,hr⟩:=h.get hw;obtain ⟨c,Y,hc⟩:=hr.elem Z;exact nN hg hN hT hn hy (xc (I _ hm) hc) (aE.len Y) (k c Y)
theorem GJ {t e:TypeId}{y lo:Operand}{w:N3}{p n:Nat}{j:Int}{kk:IntKind} (h:Mx T1 T2 H v hs mx sg ls) (I:∀ s ∈ mx,s ∈ M) (hw:hs[p]? = some w) (Y:0<=j) (h1:j<=(((ls[p]?).getD []).length:Int))
  (hg:gd ops L ⟨some d,.slice t y (some lo) none none,ty,pos,aft,g⟩=some true) (hN:Nat.blt d x.N=true)
  (Z:∀ w,(underlying t).run x.P w=.ok (.slice e) w) (O:∀ w,(sizeOf e).run x.P w=.ok n w) (hn:n=aE.sz α) (hy:ev L y=some w) (J:ev L lo=some (.int kk j))
  (k:W x ops Q rest H M ((d,tZ (aE.sz α) j.toNat w)::L)):
  W x ops Q (⟨some d,.slice t y (some lo) none none,ty,pos,aft,g⟩::rest) H M L:=by
 subst hn;obtain ⟨xs,hm,hr⟩:=h.get hw;exact GK (l:=(ls[p]?).getD []) (n:=j.toNat) (I _ hm) (by omega) hg hN Z O hy (by rw [J,Q5 Y]) k
theorem y6 {pre:List bU} (h:Mx T1 T2 H v hs mx sg ls) (I:Nat.blt 0 (aE.sz α)=true)
  (k:∀ H',H.le H'->aV H' v (rJ sg ls)->W x ops Q rest H' (pre++M) L):W x ops Q rest H (pre++(mx++M)) L:=
 oy (Ao pre mx M) (DD h I k)
theorem yX {e:Exit}{pre:List bU} (h:Mx T1 T2 H v hs mx sg ls) (J:Nat.blt 0 (aE.sz α)=true)
  (k:∀ H',H.le H'->aV H' v (rJ sg ls)->E x e Q H' (pre++M) L):E x e Q H (pre++(mx++M)) L:=by
 refine Dz (Ao pre mx M) ?_;intro a w I ht;obtain ⟨H',O,Y,Z⟩:=St.CS ht h (by simpa [Pk] using J)
 exact k H' O Z a w I Y
theorem zR {t e:TypeId}{bytes:Nat}{y Z:Operand}{n:Int}{pre:List bU} (T2:TypeId) (α:Type) [aE α]
  (hg:gd ops L ⟨some d,.makeSlice t y Z,ty,pos,aft,g⟩=some true) (hN:Nat.blt d x.N=true)
  (hT:x.P.underlying t=some (.slice e)) (hi:Lx x.P e 1 bytes (.slice none 0 0)) (O:Nat.blt 0 bytes=true)
  (hy:ev L y=some (.int .i64 n)) (Y:ev L Z=some (.int .i64 n)) (h0:0<=n) (hb:n*bytes<=140737488355328)
  (k:∀ v' I,Mx e T2 H v' [.slice none 0 0] I (List.replicate n.toNat 0) ([[]]:List (List α))->W x ops Q rest H (pre++(I++M)) ((d,v')::L)):
  W x ops Q (⟨some d,.makeSlice t y Z,ty,pos,aft,g⟩::rest) H (pre++M) L:=by
 refine kt (α:=Ft) (zs:=[.slice none 0 0]) (ze:=Ft.mk) hg hN hT hi rfl rfl O rfl hy Y h0 hb ?_;intro v' J hr;refine zS T2 (aE.sz α) ?_;have hm:=Mx.make (α:=α) (T1:=e) (T2:=T2) hr;refine oy (M':=pre++((.row v' e 1 (List.replicate n.toNat 0).length J::[.row (.slice none 0 0) T2 (aE.sz α) 0 []])++M)) ?_ (k v' _ hm);have e1:(List.replicate n.toNat Ft.mk).length=(List.replicate n.toNat 0).length:=by simp
 rw [e1];refine (List.Perm.swap _ _ _).trans ?_;exact (Ao pre [.row v' e 1 (List.replicate n.toNat 0).length J,.row (.slice none 0 0) T2 (aE.sz α) 0 []] M).symm
end
def Mq:List Int:=[1,10,100,1000,10000,100000,1000000,10000000,100000000,1000000000,10000000000,100000000000,1000000000000,10000000000000,100000000000000,1000000000000000,10000000000000000,100000000000000000,1000000000000000000,10000000000000000000]
def MK:List Int:=[0,1,28,2,29,14,24,3,30,22,20,15,25,17,4,8,31,27,13,23,21,19,16,7,26,12,18,6,11,5,10,9]
def ML:List Int:=[0,1,56,2,57,49,28,3,61,58,42,50,38,29,17,4,62,47,59,36,45,43,51,22,53,39,33,30,24,18,12,5,63,55,48,27,60,41,37,16,46,35,44,21,52,32,23,11,54,26,40,15,34,20,31,10,25,14,19,9,13,8,7,6]
structure aF where
 Of:N2
 By:N2
 deriving DecidableEq
instance:aE aF where
 sz:=2
 E H cs x:=cs=[.string (x.Of),.string (x.By)]
 len h:=by obtain rfl:=h; rfl
 mono hle h:=by obtain rfl:=h; exact rfl
 one h:=by obtain rfl:=h; exact (fW rfl (fW rfl P6))
instance:Flat aF:=⟨λh=>h⟩
structure eJ where
 Name:N2
 A:N2
 B_:N2
 Bj:Bool
 Open:Bool
 deriving DecidableEq
instance:aE eJ where
 sz:=5
 E H cs x:=cs=[.string (x.Name),.string (x.A),.string (x.B_),.bool (x.Bj),.bool (x.Open)]
 len h:=by obtain rfl:=h; rfl
 mono hle h:=by obtain rfl:=h; exact rfl
 one h:=by obtain rfl:=h; exact (fW rfl (fW rfl (fW rfl (fW rfl (fW rfl P6)))))
instance:Flat eJ:=⟨λh=>h⟩
structure aZ where
 Name:N2
 pK:N2
 To:N2
 X:Int
 AN:Int
 Shift:Int
 t_:Int
 yY:Int
 DB:Int
 deriving DecidableEq
instance:aE aZ where
 sz:=9
 E H cs x:=cs=[.string (x.Name),.string (x.pK),.string (x.To),.int .i64 (x.X),.int .i64 (x.AN),.int .i64 (x.Shift),.int .i64 (x.t_),.int .i64 (x.yY),.int .i64 (x.DB)]
 len h:=by obtain rfl:=h; rfl
 mono hle h:=by obtain rfl:=h; exact rfl
 one h:=by obtain rfl:=h; exact (fW rfl (fW rfl (fW rfl (fW rfl (fW rfl (fW rfl (fW rfl (fW rfl (fW rfl P6)))))))))
instance:Flat aZ:=⟨λh=>h⟩
structure fH where
 Name:N2
 Node:N2
 lO:Int
 q8:Int
 DC:Int
 deriving DecidableEq
instance:aE fH where
 sz:=5
 E H cs x:=cs=[.string (x.Name),.string (x.Node),.int .i64 (x.lO),.int .i64 (x.q8),.int .i64 (x.DC)]
 len h:=by obtain rfl:=h; rfl
 mono hle h:=by obtain rfl:=h; exact rfl
 one h:=by obtain rfl:=h; exact (fW rfl (fW rfl (fW rfl (fW rfl (fW rfl P6)))))
instance:Flat fH:=⟨λh=>h⟩
structure aJ where
 Name:N2
 Node:N2
 fX:Int
 deriving DecidableEq
instance:aE aJ where
 sz:=3
 E H cs x:=cs=[.string (x.Name),.string (x.Node),.int .i64 (x.fX)]
 len h:=by obtain rfl:=h; rfl
 mono hle h:=by obtain rfl:=h; exact rfl
 one h:=by obtain rfl:=h; exact (fW rfl (fW rfl (fW rfl P6)))
instance:Flat aJ:=⟨λh=>h⟩
structure fZ where
 Name:N2
 Node:N2
 sy:Int
 Discharge:Int
 uC:Int
 deriving DecidableEq
instance:aE fZ where
 sz:=5
 E H cs x:=cs=[.string (x.Name),.string (x.Node),.int .i64 (x.sy),.int .i64 (x.Discharge),.int .i64 (x.uC)]
 len h:=by obtain rfl:=h; rfl
 mono hle h:=by obtain rfl:=h; exact rfl
 one h:=by obtain rfl:=h; exact (fW rfl (fW rfl (fW rfl (fW rfl (fW rfl P6)))))
instance:Flat fZ:=⟨λh=>h⟩
structure aG where
 cA:(List N2)
 dE:(List eJ)
 aU:(List aZ)
 kF:(List fH)
 eS:(List aJ)
 eK:(List fZ)
 deriving DecidableEq
instance:aE aG where
 sz:=6
 E H cs x:=∃ v0 v1 v2 v3 v4 v5:N3,cs=[v0,v1,v2,v3,v4,v5]/\aV H v0 x.cA/\aV H v1 x.dE/\aV H v2 x.aU/\aV H v3 x.kF/\aV H v4 x.eS/\aV H v5 x.eK
 len h:=by obtain ⟨v0,v1,v2,v3,v4,v5,rfl,h0,h1,h2,h3,h4,h5⟩:=h; rfl
 mono hle h:=by obtain ⟨v0,v1,v2,v3,v4,v5,rfl,h0,h1,h2,h3,h4,h5⟩:=h; exact ⟨v0,v1,v2,v3,v4,v5,rfl,h0.mono hle,h1.mono hle,h2.mono hle,h3.mono hle,h4.mono hle,h5.mono hle⟩
 one h:=by obtain ⟨v0,v1,v2,v3,v4,v5,rfl,h0,h1,h2,h3,h4,h5⟩:=h; exact (fW (aV.tN h0) (fW (aV.tN h1) (fW (aV.tN h2) (fW (aV.tN h3) (fW (aV.tN h4) (fW (aV.tN h5) P6))))))
structure aA where
 Name:N2
 Time:Int
 iP:Bool
 deriving DecidableEq
instance:aE aA where
 sz:=3
 E H cs x:=cs=[.string (x.Name),.int .i64 (x.Time),.bool (x.iP)]
 len h:=by obtain rfl:=h; rfl
 mono hle h:=by obtain rfl:=h; exact rfl
 one h:=by obtain rfl:=h; exact (fW rfl (fW rfl (fW rfl P6)))
instance:Flat aA:=⟨λh=>h⟩
structure dW where
 dI:(List aF)
 tH:(List aA)
 last:Int
 deriving DecidableEq
instance:aE dW where
 sz:=3
 E H cs x:=∃ v0 v1:N3,cs=[v0,v1,.int .i64 (x.last)]/\aV H v0 x.dI/\aV H v1 x.tH
 len h:=by obtain ⟨v0,v1,rfl,h0,h1⟩:=h; rfl
 mono hle h:=by obtain ⟨v0,v1,rfl,h0,h1⟩:=h; exact ⟨v0,v1,rfl,h0.mono hle,h1.mono hle⟩
 one h:=by obtain ⟨v0,v1,rfl,h0,h1⟩:=h; exact (fW (aV.tN h0) (fW (aV.tN h1) (fW rfl P6)))
structure gW where
 vJ:(List N2)
 u5:(List N2)
 deriving DecidableEq
instance:aE gW where
 sz:=2
 E H cs x:=∃ v0 v1:N3,cs=[v0,v1]/\aV H v0 x.vJ/\aV H v1 x.u5
 len h:=by obtain ⟨v0,v1,rfl,h0,h1⟩:=h; rfl
 mono hle h:=by obtain ⟨v0,v1,rfl,h0,h1⟩:=h; exact ⟨v0,v1,rfl,h0.mono hle,h1.mono hle⟩
 one h:=by obtain ⟨v0,v1,rfl,h0,h1⟩:=h; exact (fW (aV.tN h0) (fW (aV.tN h1) P6))
structure aK where
 seen:(List (N2×Bool))
 nodes:(List N2)
 deriving DecidableEq
structure aQ where
 pV:(List Int)
 bH:(List Int)
 deriving DecidableEq
instance:aE aQ where
 sz:=2
 E H cs x:=∃ v0 v1:N3,cs=[v0,v1]/\aV H v0 x.pV/\aV H v1 x.bH
 len h:=by obtain ⟨v0,v1,rfl,h0,h1⟩:=h; rfl
 mono hle h:=by obtain ⟨v0,v1,rfl,h0,h1⟩:=h; exact ⟨v0,v1,rfl,h0.mono hle,h1.mono hle⟩
 one h:=by obtain ⟨v0,v1,rfl,h0,h1⟩:=h; exact (fW (aV.tN h0) (fW (aV.tN h1) P6))
structure cG where
 a0:Int
 a1:Int
 deriving DecidableEq
instance:aE cG where
 sz:=2
 E H cs x:=cs=[.int .i64 (x.a0),.int .i64 (x.a1)]
 len h:=by obtain rfl:=h; rfl
 mono hle h:=by obtain rfl:=h; exact rfl
 one h:=by obtain rfl:=h; exact (fW rfl (fW rfl P6))
instance:Flat cG:=⟨λh=>h⟩
structure bC where
 lO:Int
 q8:Int
 fX:Int
 deriving DecidableEq
instance:aE bC where
 sz:=3
 E H cs x:=cs=[.int .i64 (x.lO),.int .i64 (x.q8),.int .i64 (x.fX)]
 len h:=by obtain rfl:=h; rfl
 mono hle h:=by obtain rfl:=h; exact rfl
 one h:=by obtain rfl:=h; exact (fW rfl (fW rfl (fW rfl P6)))
instance:Flat bC:=⟨λh=>h⟩
structure aD where
 minus:Bool
 words:(List bT)
 deriving DecidableEq
instance:aE aD where
 sz:=2
 E H cs x:=∃ v1:N3,cs=[.bool (x.minus),v1]/\aV H v1 x.words
 len h:=by obtain ⟨v1,rfl,h0⟩:=h; rfl
 mono hle h:=by obtain ⟨v1,rfl,h0⟩:=h; exact ⟨v1,rfl,h0.mono hle⟩
 one h:=by obtain ⟨v1,rfl,h0⟩:=h; exact (fW rfl (fW (aV.tN h0) P6))
structure aB where
 N:aD
 D:aD
 deriving DecidableEq
instance:aE aB where
 sz:=4
 E H cs x:=∃ v1 v3:N3,cs=[.bool (x.N.minus),v1,.bool (x.D.minus),v3]/\aV H v1 x.N.words/\aV H v3 x.D.words
 len h:=by obtain ⟨v1,v3,rfl,h0,h1⟩:=h; rfl
 mono hle h:=by obtain ⟨v1,v3,rfl,h0,h1⟩:=h; exact ⟨v1,v3,rfl,h0.mono hle,h1.mono hle⟩
 one h:=by obtain ⟨v1,v3,rfl,h0,h1⟩:=h; exact (fW rfl (fW (aV.tN h0) (fW rfl (fW (aV.tN h1) P6))))
structure aP where
 ve:aQ
 pK:(List Int)
 To:(List Int)
 B_:(List aB)
 C:(List aB)
 qK:(List Int)
 ra:(List (List aB))
 deriving DecidableEq
instance:aE aP where
 sz:=8
 E H cs x:=∃ v0 v1 v2 v3 v4 v5 v6 v7:N3,cs=[v0,v1,v2,v3,v4,v5,v6,v7]/\aV H v0 x.ve.pV/\aV H v1 x.ve.bH/\aV H v2 x.pK/\aV H v3 x.To/\aV H v4 x.B_/\aV H v5 x.C/\aV H v6 x.qK/\aV H v7 x.ra
 len h:=by obtain ⟨v0,v1,v2,v3,v4,v5,v6,v7,rfl,h0,h1,h2,h3,h4,h5,h6,h7⟩:=h; rfl
 mono hle h:=by obtain ⟨v0,v1,v2,v3,v4,v5,v6,v7,rfl,h0,h1,h2,h3,h4,h5,h6,h7⟩:=h; exact ⟨v0,v1,v2,v3,v4,v5,v6,v7,rfl,h0.mono hle,h1.mono hle,h2.mono hle,h3.mono hle,h4.mono hle,h5.mono hle,h6.mono hle,h7.mono hle⟩
 one h:=by obtain ⟨v0,v1,v2,v3,v4,v5,v6,v7,rfl,h0,h1,h2,h3,h4,h5,h6,h7⟩:=h; exact (fW (aV.tN h0) (fW (aV.tN h1) (fW (aV.tN h2) (fW (aV.tN h3) (fW (aV.tN h4) (fW (aV.tN h5) (fW (aV.tN h6) (fW (aV.tN h7) P6))))))))
def pU (I:Nat) (j:U8) (o:Unit->Option (Bool)):Option (Bool):=if !(((decide (65<=j.n)) && (decide (j.n<=90))) || (((decide (0<(I:Int))) && (decide (48<=j.n))) && (decide (j.n<=57)))) then (some false) else (o ())
def bV (j:N2):Option (Bool):=fU (j.size<=maxLen) (gM (λk y o n=>pU k y n) (λ_=>some ((decide (1<=(j.size:Int))) && (decide ((j.size:Int)<=8)))) 0 (ml j) ())
def iV (R:(List aF)) (j:aF) (o:Nat) (J:Unit->Option (Int)):Option (Int):=idx R (o:Int) λI=>if decide (j.Of=I.Of) && (decide (j.By=I.By) && true) then (some (o:Int)) else (J ())
def gR (j:(List aF)) (o:aF):Option (Int):=mn (λk I n=>iV j o k n) (λ_=>some (-1)) ((j.length:Int):Int).toNat 0 ()
def eA (j:(List aF)) (o:aF):Option (Bool):=(gR j o).bind λI=>some (decide (0<=I))
def s5 (I:(List aF)) (o:Nat) (j:aF) (J:Unit->Option (Int)):Option (Int):=(bV j.Of).bind λR=>if R then ((bV j.By).bind λU=>if !U then (some 6) else (if decide (j.Of=j.By) then (some 3) else (fU (0<=(o:Int)/\(o:Int)<=(I.length:Int)) ((eA (uW I 0 (((o:Int):Int).toNat)) j).bind λO=>if O then (some 7) else (J ()))))) else (some 6)
def mP (j:(List aF)):Option (Int):=if decide (40<(j.length:Int)) then (some 2) else (gM (λk y o n=>s5 j k y n) (λ_=>some 0) 0 j ())
def mq (I:(List N2)) (J:N2) (j:Nat) (o:Unit->Option (Int)):Option (Int):=idx I (j:Int) λR=>if decide (J=R) then (some (j:Int)) else (o ())
def aX (j:(List N2)) (o:N2):Option (Int):=mn (λk I n=>mq j o k n) (λ_=>some (-1)) ((j.length:Int):Int).toNat 0 ()
def aW (j:(List N2)) (o:N2):Option (Bool):=(aX j o).bind λI=>some (decide (0<=I))
def s6 (o:(List N2)) (j:Nat) (I:N2) (J:Unit->Option (Int)):Option (Int):=(bV I).bind λR=>if !R then (some 6) else (fU (0<=(j:Int)/\(j:Int)<=(o.length:Int)) ((aW (uW o 0 (((j:Int):Int).toNat)) I).bind λU=>if U then (some 7) else (J ())))
def pf (dI:(List aF)) (j:(List N2)):Option (Int):=(mP dI).bind λo=>if !decide (o=0) then (some o) else (if decide (24<(j.length:Int)) then (some 2) else (gM (λk y I n=>s6 j k y n) (λ_=>some 0) 0 j ()))
def kA (j:(List N2×List N2)->Option ((List N2))) (o:List N2) (I:List N2):Option ((List N2)):=j (o,I)
def qu (R:(List N2)) (U:N2) (Z:Nat) (j:aF) (o:List N2) (J:List N2) (I:(List N2×List N2)->Option ((List N2))):Option ((List N2)):=if decide (j.Of=U) then ((aW R j.By).bind λO=>if O then ((aW o j.By).bind λY=>if !Y then (fU ((o.length+([j.By]).length)*16<=140737488355328) (fU ((J.length+([j.By]).length)*16<=140737488355328) (kA I (o++([j.By])) (J++([j.By]))))) else (kA I o J)) else (kA I o J)) else (kA I o J)
def qT (dI:(List aF)) (R:(List N2)) (I:List N2) (j:List N2) (J:(List N2×List N2)->Option ((List N2))):Option ((List N2)):=if decide (0<(j.length:Int)) then (idx j 0 λU=>fU (0<=1/\1<=(j.length:Int)) (gM (λk y o n=>qu R U k y o.1 o.2 n) (λo=>J (o.1,o.2)) 0 dI (I,(uW j (1:Int).toNat j.length)))) else (some I)
def l7 (dI:(List aF)) (o:(List N2)) (name:N2):Option ((List N2)):=cE (λj n=>qT dI o j.1 j.2 n) a_ (([]:List N2),([name]))
def qz (j:N2) (o:N2) (I:(List aF)) (J:(List N2)):Option (Bool):=if xO j o then (some true) else ((l7 I J j).bind λR=>(aW R o).bind λU=>some (!U))
def iE (U:(List N2)) (j:N2) (o:(List aF)) (I:(List N2)) (J:Nat) (R:Unit->Option (Int)):Option (Int):=idx U (J:Int) λO=>(qz O j o I).bind λY=>if Y then (some (J:Int)) else (R ())
def fT (J:(List N2)) (j:N2) (o:(List aF)) (I:(List N2)):Option (Int):=mn (λk R n=>iE J j o I k n) (λ_=>some (-1)) ((J.length:Int):Int).toNat 0 ()
def eZ (J:(List N2)) (j:N2) (o:(List aF)) (I:(List N2)):Option (Bool):=(fT J j o I).bind λR=>some (decide (0<=R))
def pZ (dI:(List aF)) (j:(List N2)) (name:N2):Option (Bool):=(l7 dI j name).bind λo=>(eZ o name dI j).bind λI=>some (!I)
def oW (I:Int) (J:Int):Option (Int):=idx (ml (⟨#[0,1,2,2,3,3,3,3,4,4,4,4,4,4,4,4,5,5,5,5,5,5,5,5,5,5,5,5,5,5,5,5,6,6,6,6,6,6,6,6,6,6,6,6,6,6,6,6,6,6,6,6,6,6,6,6,6,6,6,6,6,6,6,6,7,7,7,7,7,7,7,7,7,7,7,7,7,7,7,7,7,7,7,7,7,7,7,7,7,7,7,7,7,7,7,7,7,7,7,7,7,7,7,7,7,7,7,7,7,7,7,7,7,7,7,7,7,7,7,7,7,7,7,7,7,7,7,7,8,8,8,8,8,8,8,8,8,8,8,8,8,8,8,8,8,8,8,8,8,8,8,8,8,8,8,8,8,8,8,8,8,8,8,8,8,8,8,8,8,8,8,8,8,8,8,8,8,8,8,8,8,8,8,8,8,8,8,8,8,8,8,8,8,8,8,8,8,8,8,8,8,8,8,8,8,8,8,8,8,8,8,8,8,8,8,8,8,8,8,8,8,8,8,8,8,8,8,8,8,8,8,8,8,8,8,8,8,8,8,8,8,8,8,8,8,8,8,8,8,8,8,8,8,8,8,8]⟩)) (u8.wrap (I)) λj=>some (i64.wrap (J+(i64.wrap (j.n))))
def oX (I:Int) (J:Int):Option (Int):=if decide (256<=I) then (oW (mO .u64 I 8) (i64.wrap (J+8))) else (oW I J)
def oY (I:Int) (J:Int):Option (Int):=if decide (65536<=I) then (oX (mO .u64 I 16) (i64.wrap (J+16))) else (oX I J)
def sJ (j:Int):Option (Int):=if decide (4294967296<=j) then (oY (mO .u64 j 32) 32) else (oY j 0)
def np (j:Int):Option (Int):=(sJ j).bind λo=>some o
def eM (j:N2):Bool:=(!decide (j=j))
def bB (j:N2) (o:N2):Bool:=(((eM j) && (!(eM o))) || (xO j o))
def kI (O:Int) (J:Int) (I:(List N2×Int)->Option ((List N2))) (o:List N2) (j:Int) (U:(List N2×Int)->Option ((List N2))):Option ((List N2)):=if decide (O<j) then (idx o j λY=>idx o (i64.wrap (j-1)) λZ=>if (bB Y Z) then (idx o (i64.wrap (j-1)) λR=>idx o j λNP=>idx o j λNQ=>idx (o.set ((j:Int).toNat) R) (i64.wrap (j-1)) λNR=>U (((o.set ((j:Int).toNat) R).set ((i64.wrap (j-1):Int).toNat) NP),i64.wrap (j-1))) else (I (o,i64.wrap (J+1)))) else (I (o,i64.wrap (J+1)))
def kH (R:Int) (U:Int) (o:List N2) (j:Int) (J:(List N2×Int)->Option ((List N2))):Option ((List N2)):=if decide (j<U) then (cE (λI n=>kI R j J I.1 I.2 n) a_ (o,j)) else (some o)
def g_ (J:(List N2)) (j:Int) (I:Int):Option ((List N2)):=cE (λo n=>kH j I o.1 o.2 n) a_ (J,i64.wrap (j+1))
def eR (first:Int) (j:List N2) (O:Int) (I:(List N2×Int)->Option ((List N2))) (Y:Int):Option ((List N2)):=idx j (i64.wrap (first+O)) λJ=>idx j (i64.wrap (first+Y)) λR=>if !(bB J R) then (some j) else (idx j (i64.wrap (first+Y)) λo=>idx j (i64.wrap (first+O)) λU=>idx j (i64.wrap (first+O)) λZ=>idx (j.set ((i64.wrap (first+O):Int).toNat) o) (i64.wrap (first+Y)) λNN=>I (((j.set ((i64.wrap (first+O):Int).toNat) o).set ((i64.wrap (first+Y):Int).toNat) U),Y))
def lL (hi:Int) (first:Int) (j:List N2) (O:Int) (o:(List N2×Int)->Option ((List N2))):Option ((List N2)):=if decide (hi<=(i64.wrap ((i64.wrap (2*O))+1))) then (some j) else (if decide ((i64.wrap ((i64.wrap ((i64.wrap (2*O))+1))+1))<hi) then (idx j (i64.wrap (first+(i64.wrap ((i64.wrap (2*O))+1)))) λI=>idx j (i64.wrap ((i64.wrap (first+(i64.wrap ((i64.wrap (2*O))+1))))+1)) λJ=>if (bB I J) then (eR first j O o (i64.wrap ((i64.wrap ((i64.wrap (2*O))+1))+1))) else (eR first j O o (i64.wrap ((i64.wrap (2*O))+1)))) else (eR first j O o (i64.wrap ((i64.wrap (2*O))+1))))
def iB (I:(List N2)) (lo:Int) (hi:Int) (first:Int):Option ((List N2)):=cE (λj n=>lL hi first j.1 j.2 n) a_ (I,lo)
def lI (j:Int) (o:List N2) (O:Int) (J:(List N2×Int)->Option ((List N2))):Option ((List N2)):=if decide (0<=O) then (idx o (i64.wrap (j+O)) λI=>idx o j λR=>idx o j λY=>idx (o.set ((j:Int).toNat) I) (i64.wrap (j+O)) λZ=>(iB ((o.set ((j:Int).toNat) I).set ((i64.wrap (j+O):Int).toNat) R) 0 O j).bind λU=>J (U,i64.wrap (O-1))) else (some o)
def lH (j:Int) (o:Int) (I:List N2) (O:Int) (R:(List N2×Int)->Option ((List N2))):Option ((List N2)):=if decide (0<=O) then ((iB I O (i64.wrap (o-j)) j).bind λU=>R (U,i64.wrap (O-1))) else (cE (λJ n=>lI j J.1 J.2 n) a_ (I,i64.wrap ((i64.wrap (o-j))-1)))
def jC (J:(List N2)) (j:Int) (o:Int):Option ((List N2)):=cE (λI n=>lH j o I.1 I.2 n) a_ (J,i64.wrap (Int.tdiv (i64.wrap ((i64.wrap (o-j))-1)) 2))
def gI (Y:(List N2)) (j:Int) (o:Int) (O:Int):Option (Int×Int×Int):=idx Y o λI=>idx Y j λJ=>if (bB I J) then (some (o,j,(i64.wrap (O+1)))) else (some (j,o,O))
def iN (O:(List N2)) (J:Int) (R:Int) (U:Int) (Y:Int):Option (Int×Int):=(gI O J R Y).bind λj=>(gI O j.2.1 U j.2.2).bind λo=>(gI O j.1 o.1 o.2.2).bind λI=>some (I.2.1,I.2.2)
def gT (J:(List N2)) (j:Int) (I:Int):Option (Int×Int):=(iN J (i64.wrap (j-1)) j (i64.wrap (j+1)) I).bind λo=>some (o.1,o.2)
def fA (I:Int) (J:Int):Option (Int×Int):=if decide (J=0) then (some (I,1)) else (if decide (J=12) then (some (I,2)) else (some (I,0)))
def gS (I:(List N2)) (J:Int) (O:Int) (Y:Int) (Z:Int):Option (Int×Int):=(iN I J O Y Z).bind λj=>fA j.1 j.2
def iM (O:(List N2)) (j:Int) (o:Int):Option (Int×Int):=if decide (8<=(i64.wrap (o-j))) then (if decide (50<=(i64.wrap (o-j))) then ((gT O (i64.wrap (j+(i64.wrap ((i64.wrap (Int.tdiv (i64.wrap (o-j)) 4))*1)))) 0).bind λI=>(gT O (i64.wrap (j+(i64.wrap ((i64.wrap (Int.tdiv (i64.wrap (o-j)) 4))*2)))) I.2).bind λJ=>(gT O (i64.wrap (j+(i64.wrap ((i64.wrap (Int.tdiv (i64.wrap (o-j)) 4))*3)))) J.2).bind λR=>gS O I.1 J.1 R.1 R.2) else (gS O (i64.wrap (j+(i64.wrap ((i64.wrap (Int.tdiv (i64.wrap (o-j)) 4))*1)))) (i64.wrap (j+(i64.wrap ((i64.wrap (Int.tdiv (i64.wrap (o-j)) 4))*2)))) (i64.wrap (j+(i64.wrap ((i64.wrap (Int.tdiv (i64.wrap (o-j)) 4))*3)))) 0)) else (fA (i64.wrap (j+(i64.wrap ((i64.wrap (Int.tdiv (i64.wrap (o-j)) 4))*2)))) 0)
def kX (j:List N2) (O:Int) (Y:Int) (I:(List N2×Int×Int)->Option ((List N2))):Option ((List N2)):=if decide (O<Y) then (idx j Y λo=>idx j O λJ=>idx j O λR=>idx (j.set ((O:Int).toNat) o) Y λU=>I (((j.set ((O:Int).toNat) o).set ((Y:Int).toNat) J),i64.wrap (O+1),i64.wrap (Y-1))) else (some j)
def iH (J:(List N2)) (o:Int) (I:Int):Option ((List N2)):=cE (λj n=>kX j.1 j.2.1 j.2.2 n) a_ (J,o,i64.wrap (I-1))
def eC (o:Int) (j:(List N2×Int×Int)->Option (Bool×(List N2))) (I:List N2) (J:Int):Option (Bool×(List N2)):=j (I,J,i64.wrap (o+1))
def lA (NQ:Int) (J:Int) (I:(List N2×Int×Int)->Option (Bool×(List N2))) (R:Int) (o:List N2) (j:Int) (O:(List N2×Int)->Option (Bool×(List N2))):Option (Bool×(List N2)):=if decide (j<NQ) then (idx o j λY=>idx o (i64.wrap (j-1)) λZ=>if !(bB Y Z) then (eC J I o R) else (idx o (i64.wrap (j-1)) λU=>idx o j λNP=>idx o j λNR=>idx (o.set ((j:Int).toNat) U) (i64.wrap (j-1)) λNS=>O (((o.set ((j:Int).toNat) U).set ((i64.wrap (j-1):Int).toNat) NP),i64.wrap (j+1)))) else (eC J I o R)
def eD (U:Int) (I:Int) (o:(List N2×Int×Int)->Option (Bool×(List N2))) (j:Int) (J:List N2):Option (Bool×(List N2)):=if decide (2<=(i64.wrap (U-j))) then (cE (λR n=>lA U I o j R.1 R.2 n) a_ (J,i64.wrap (j+1))) else (eC I o J j)
def lB (O:Int) (J:Int) (I:(List N2×Int×Int)->Option (Bool×(List N2))) (R:Int) (o:List N2) (j:Int) (Y:(List N2×Int)->Option (Bool×(List N2))):Option (Bool×(List N2)):=if decide (1<=j) then (idx o j λZ=>idx o (i64.wrap (j-1)) λNP=>if !(bB Z NP) then (eD O J I R o) else (idx o (i64.wrap (j-1)) λU=>idx o j λNQ=>idx o j λNR=>idx (o.set ((j:Int).toNat) U) (i64.wrap (j-1)) λNS=>Y (((o.set ((j:Int).toNat) U).set ((i64.wrap (j-1):Int).toNat) NQ),i64.wrap (j-1)))) else (eD O J I R o)
def dH (Z:Int) (J:Int) (o:List N2) (U:Int) (R:(List N2×Int×Int)->Option (Bool×(List N2))) (j:Int):Option (Bool×(List N2)):=if decide (j=J) then (some (true,o)) else (if decide ((i64.wrap (J-Z))<50) then (some (false,o)) else (idx o (i64.wrap (j-1)) λI=>idx o j λO=>idx o j λNP=>idx (o.set ((j:Int).toNat) I) (i64.wrap (j-1)) λNQ=>if decide (2<=(i64.wrap (j-Z))) then (cE (λY n=>lB J U R j Y.1 Y.2 n) a_ (((o.set ((j:Int).toNat) I).set ((i64.wrap (j-1):Int).toNat) O),i64.wrap (j-1))) else (eD J U R j ((o.set ((j:Int).toNat) I).set ((i64.wrap (j-1):Int).toNat) O))))
def iX (O:Int) (J:Int) (o:List N2) (R:Int) (I:(List N2×Int×Int)->Option (Bool×(List N2))) (j:Int) (U:Int->Option (Bool×(List N2))):Option (Bool×(List N2)):=if decide (j<J) then (idx o j λY=>idx o (i64.wrap (j-1)) λZ=>if !(bB Y Z) then (U (i64.wrap (j+1))) else (dH O J o R I j)) else (dH O J o R I j)
def iW (U:Int) (O:Int) (j:List N2) (J:Int) (o:Int) (I:(List N2×Int×Int)->Option (Bool×(List N2))):Option (Bool×(List N2)):=if decide (o<5) then (cE (λR n=>iX U O j o I R n) a_ J) else (some (false,j))
def e_ (J:(List N2)) (o:Int) (I:Int):Option (Bool×(List N2)):=cE (λj n=>iW o I j.1 j.2.1 j.2.2 n) a_ (J,i64.wrap (o+1),0)
def jF (I:Int) (j:List N2) (o:Int):Option (Int×Bool×(List N2)):=idx j I λJ=>idx j o λR=>idx j o λU=>idx (j.set ((o:Int).toNat) J) I λO=>some (o,false,(j.set ((o:Int).toNat) J).set ((I:Int).toNat) R)
def fI (O:Int) (j:List N2) (R:(List N2×Int×Int)->Option (Int×Bool×(List N2))) (o:Int) (I:Int):Option (Int×Bool×(List N2)):=if decide (I<o) then (jF O j I) else (idx j I λJ=>idx j o λU=>idx j o λY=>idx (j.set ((o:Int).toNat) J) I λZ=>R (((j.set ((o:Int).toNat) J).set ((I:Int).toNat) U),i64.wrap (o+1),i64.wrap (I-1)))
def ln (R:Int) (o:List N2) (J:(List N2×Int×Int)->Option (Int×Bool×(List N2))) (I:Int) (j:Int) (U:Int->Option (Int×Bool×(List N2))):Option (Int×Bool×(List N2)):=if decide (I<=j) then (idx o j λO=>idx o R λY=>if !(bB O Y) then (U (i64.wrap (j-1))) else (fI R o J I j)) else (fI R o J I j)
def fJ (U:Int) (o:List N2) (I:Int) (j:(List N2×Int×Int)->Option (Int×Bool×(List N2))) (J:Int):Option (Int×Bool×(List N2)):=cE (λR n=>ln U o j J R n) a_ I
def lq (R:Int) (o:List N2) (I:Int) (J:(List N2×Int×Int)->Option (Int×Bool×(List N2))) (j:Int) (U:Int->Option (Int×Bool×(List N2))):Option (Int×Bool×(List N2)):=if decide (j<=I) then (idx o j λO=>idx o R λY=>if (bB O Y) then (U (i64.wrap (j+1))) else (fJ R o I J j)) else (fJ R o I J j)
def jG (U:Int) (o:List N2) (I:Int) (J:Int) (j:(List N2×Int×Int)->Option (Int×Bool×(List N2))):Option (Int×Bool×(List N2)):=cE (λR n=>lq U o J j R n) a_ I
def fK (O:(List N2)) (j:Int) (dP:Int) (o:N2) (I:N2) (Z:Int) (Y:Int):Option (Int×Bool×(List N2)):=if decide (Y<Z) then (idx ((O.set ((j:Int).toNat) o).set ((dP:Int).toNat) I) j λR=>idx ((O.set ((j:Int).toNat) o).set ((dP:Int).toNat) I) Y λNM=>idx ((O.set ((j:Int).toNat) o).set ((dP:Int).toNat) I) Y λNO=>idx (((O.set ((j:Int).toNat) o).set ((dP:Int).toNat) I).set ((Y:Int).toNat) R) j λNP=>some (Y,true,(((O.set ((j:Int).toNat) o).set ((dP:Int).toNat) I).set ((Y:Int).toNat) R).set ((j:Int).toNat) NM)) else (idx ((O.set ((j:Int).toNat) o).set ((dP:Int).toNat) I) Y λU=>idx ((O.set ((j:Int).toNat) o).set ((dP:Int).toNat) I) Z λNN=>idx ((O.set ((j:Int).toNat) o).set ((dP:Int).toNat) I) Z λNQ=>idx (((O.set ((j:Int).toNat) o).set ((dP:Int).toNat) I).set ((Z:Int).toNat) U) Y λNR=>cE (λJ n=>jG j J.1 J.2.1 J.2.2 n) a_ (((((O.set ((j:Int).toNat) o).set ((dP:Int).toNat) I).set ((Z:Int).toNat) U).set ((Y:Int).toNat) NN),i64.wrap (Z+1),i64.wrap (Y-1)))
def lu (O:(List N2)) (o:Int) (dP:Int) (I:N2) (J:N2) (Y:Int) (j:Int) (R:Int->Option (Int×Bool×(List N2))):Option (Int×Bool×(List N2)):=if decide (Y<=j) then (idx ((O.set ((o:Int).toNat) I).set ((dP:Int).toNat) J) j λU=>idx ((O.set ((o:Int).toNat) I).set ((dP:Int).toNat) J) o λZ=>if !(bB U Z) then (R (i64.wrap (j-1))) else (fK O o dP I J Y j)) else (fK O o dP I J Y j)
def fL (O:(List N2)) (o:Int) (I:Int) (dP:Int) (J:N2) (R:N2) (Y:Int):Option (Int×Bool×(List N2)):=cE (λj n=>lu O o dP J R Y j n) a_ (i64.wrap (I-1))
def lv (O:(List N2)) (o:Int) (R:Int) (dP:Int) (I:N2) (J:N2) (j:Int) (U:Int->Option (Int×Bool×(List N2))):Option (Int×Bool×(List N2)):=if decide (j<=(i64.wrap (R-1))) then (idx ((O.set ((o:Int).toNat) I).set ((dP:Int).toNat) J) j λY=>idx ((O.set ((o:Int).toNat) I).set ((dP:Int).toNat) J) o λZ=>if (bB Y Z) then (U (i64.wrap (j+1))) else (fL O o R dP I J j)) else (fL O o R dP I J j)
def fF (O:(List N2)) (j:Int) (J:Int) (dP:Int):Option (Int×Bool×(List N2)):=idx O dP λo=>idx O j λR=>idx O j λU=>idx (O.set ((j:Int).toNat) o) dP λY=>cE (λI n=>lv O j J dP o R I n) a_ (i64.wrap (j+1))
def iK (j:Int) (o:List N2):Option (Int×(List N2)):=some (j,o)
def dX (o:List N2) (R:(List N2×Int×Int)->Option (Int×(List N2))) (j:Int) (I:Int):Option (Int×(List N2)):=if decide (I<j) then (iK j o) else (idx o I λJ=>idx o j λU=>idx o j λO=>idx (o.set ((j:Int).toNat) J) I λY=>R (((o.set ((j:Int).toNat) J).set ((I:Int).toNat) U),i64.wrap (j+1),i64.wrap (I-1)))
def kq (Y:Int) (o:List N2) (J:(List N2×Int×Int)->Option (Int×(List N2))) (I:Int) (j:Int) (R:Int->Option (Int×(List N2))):Option (Int×(List N2)):=if decide (I<=j) then (idx o Y λU=>idx o j λO=>if (bB U O) then (R (i64.wrap (j-1))) else (dX o J I j)) else (dX o J I j)
def dY (U:Int) (o:List N2) (I:Int) (j:(List N2×Int×Int)->Option (Int×(List N2))) (J:Int):Option (Int×(List N2)):=cE (λR n=>kq U o j J R n) a_ I
def kr (R:Int) (o:List N2) (I:Int) (J:(List N2×Int×Int)->Option (Int×(List N2))) (j:Int) (U:Int->Option (Int×(List N2))):Option (Int×(List N2)):=if decide (j<=I) then (idx o R λO=>idx o j λY=>if !(bB O Y) then (U (i64.wrap (j+1))) else (dY R o I J j)) else (dY R o I J j)
def ko (U:Int) (o:List N2) (I:Int) (J:Int) (j:(List N2×Int×Int)->Option (Int×(List N2))):Option (Int×(List N2)):=cE (λR n=>kr U o J j R n) a_ I
def gU (O:(List N2)) (j:Int) (J:Int) (dP:Int):Option (Int×(List N2)):=idx O dP λI=>idx O j λR=>idx O j λU=>idx (O.set ((j:Int).toNat) I) dP λY=>cE (λo n=>ko j o.1 o.2.1 o.2.2 n) a_ (((O.set ((j:Int).toNat) I).set ((dP:Int).toNat) R),i64.wrap (j+1),i64.wrap (J-1))
def jN (I:Int):Option (Int):=(np (u64.wrap (I))).bind λj=>fU (0<=j) (some (pz .u64 1 j))
def dA (j:Ko):Int×Ko:=((u64.wrap ((BitVec.ofInt (u64).bits (u64.wrap ((BitVec.ofInt (u64).bits (u64.wrap ((BitVec.ofInt (u64).bits j.n ^^^ BitVec.ofInt (u64).bits (pz .u64 j.n 13)).toNat)) ^^^ BitVec.ofInt (u64).bits (mO .u64 (u64.wrap ((BitVec.ofInt (u64).bits j.n ^^^ BitVec.ofInt (u64).bits (pz .u64 j.n 13)).toNat)) 7)).toNat)) ^^^ BitVec.ofInt (u64).bits (pz .u64 (u64.wrap ((BitVec.ofInt (u64).bits (u64.wrap ((BitVec.ofInt (u64).bits j.n ^^^ BitVec.ofInt (u64).bits (pz .u64 j.n 13)).toNat)) ^^^ BitVec.ofInt (u64).bits (mO .u64 (u64.wrap ((BitVec.ofInt (u64).bits j.n ^^^ BitVec.ofInt (u64).bits (pz .u64 j.n 13)).toNat)) 7)).toNat)) 17)).toNat)),⟨u64.wrap ((BitVec.ofInt (u64).bits (u64.wrap ((BitVec.ofInt (u64).bits (u64.wrap ((BitVec.ofInt (u64).bits j.n ^^^ BitVec.ofInt (u64).bits (pz .u64 j.n 13)).toNat)) ^^^ BitVec.ofInt (u64).bits (mO .u64 (u64.wrap ((BitVec.ofInt (u64).bits j.n ^^^ BitVec.ofInt (u64).bits (pz .u64 j.n 13)).toNat)) 7)).toNat)) ^^^ BitVec.ofInt (u64).bits (pz .u64 (u64.wrap ((BitVec.ofInt (u64).bits (u64.wrap ((BitVec.ofInt (u64).bits j.n ^^^ BitVec.ofInt (u64).bits (pz .u64 j.n 13)).toNat)) ^^^ BitVec.ofInt (u64).bits (mO .u64 (u64.wrap ((BitVec.ofInt (u64).bits j.n ^^^ BitVec.ofInt (u64).bits (pz .u64 j.n 13)).toNat)) 7)).toNat)) 17)).toNat)⟩)
def eL (o:Int) (j:List N2) (O:Int) (Z:Int) (J:(List N2×Int×Int)->Option ((List N2))) (Y:Int):Option ((List N2)):=idx j (i64.wrap (o+Y)) λI=>idx j O λR=>idx j O λU=>idx (j.set ((O:Int).toNat) I) (i64.wrap (o+Y)) λNM=>J (((j.set ((O:Int).toNat) I).set ((i64.wrap (o+Y):Int).toNat) R),i64.wrap (O+1),((dA ⟨Z⟩)).2.n)
def kG (j:Int) (o:Int) (I:(Int)) (J:List N2) (Y:Int) (O:Int) (R:(List N2×Int×Int)->Option ((List N2))):Option ((List N2)):=if decide (Y<=(i64.wrap ((i64.wrap (j+(i64.wrap ((i64.wrap (Int.tdiv (i64.wrap (o-j)) 4))*2))))+1))) then (if decide ((i64.wrap (o-j))<=(i64.wrap (u64.wrap ((BitVec.ofInt (u64).bits (((dA ⟨O⟩)).1) &&& BitVec.ofInt (u64).bits (u64.wrap (I-1))).toNat)))) then (eL j J Y O R (i64.wrap ((i64.wrap (u64.wrap ((BitVec.ofInt (u64).bits (((dA ⟨O⟩)).1) &&& BitVec.ofInt (u64).bits (u64.wrap (I-1))).toNat)))-(i64.wrap (o-j))))) else (eL j J Y O R (i64.wrap (u64.wrap ((BitVec.ofInt (u64).bits (((dA ⟨O⟩)).1) &&& BitVec.ofInt (u64).bits (u64.wrap (I-1))).toNat))))) else (some J)
def gZ (O:(List N2)) (j:Int) (o:Int):Option ((List N2)):=if decide (8<=(i64.wrap (o-j))) then ((jN (i64.wrap (o-j))).bind λJ=>cE (λI n=>kG j o J I.1 I.2.1 I.2.2 n) a_ (O,i64.wrap ((i64.wrap (j+(i64.wrap ((i64.wrap (Int.tdiv (i64.wrap (o-j)) 4))*2))))-1),u64.wrap (i64.wrap (o-j)))) else (some O)
def gB (self:(List N2)->Int->Int->Int->Option ((List N2))) (j:Int) (o:Int) (NP:Bool) (NQ:Bool) (U:(List N2×Int×Int×Int×Bool×Bool)->Option ((List N2))) (R:Int) (Y:Int) (O:List N2):Option ((List N2)):=if decide (0<j) then (idx O (i64.wrap (j-1)) λNR=>idx O Y λNS=>if !(bB NR NS) then ((gU O j o Y).bind λZ=>U (Z.2,Z.1,o,R,NP,NQ)) else ((fF O j o Y).bind λI=>if decide ((i64.wrap (I.1-j))<(i64.wrap (o-I.1))) then ((self I.2.2 j I.1 R).bind λNT=>U (NT,i64.wrap (I.1+1),o,R,decide ((i64.wrap (Int.tdiv (i64.wrap (o-j)) 8))<=(i64.wrap (I.1-j))),I.2.1)) else ((self I.2.2 (i64.wrap (I.1+1)) o R).bind λNU=>U (NU,j,I.1,R,decide ((i64.wrap (Int.tdiv (i64.wrap (o-j)) 8))<=(i64.wrap (o-I.1))),I.2.1)))) else ((fF O j o Y).bind λJ=>if decide ((i64.wrap (J.1-j))<(i64.wrap (o-J.1))) then ((self J.2.2 j J.1 R).bind λNV=>U (NV,i64.wrap (J.1+1),o,R,decide ((i64.wrap (Int.tdiv (i64.wrap (o-j)) 8))<=(i64.wrap (J.1-j))),J.2.1)) else ((self J.2.2 (i64.wrap (J.1+1)) o R).bind λNW=>U (NW,j,J.1,R,decide ((i64.wrap (Int.tdiv (i64.wrap (o-j)) 8))<=(i64.wrap (o-J.1))),J.2.1)))
def gC (self:(List N2)->Int->Int->Int->Option ((List N2))) (j:Int) (o:Int) (I:Bool) (J:Bool) (R:(List N2×Int×Int×Int×Bool×Bool)->Option ((List N2))) (O:Int) (Y:List N2) (Z:Int) (NP:Int):Option ((List N2)):=if (I && J) && (decide (NP=1)) then ((e_ Y j o).bind λU=>if U.1 then (some U.2) else (gB self j o I J R O Z U.2)) else (gB self j o I J R O Z Y)
def gE (self:(List N2)->Int->Int->Int->Option ((List N2))) (j:Int) (o:Int) (U:Bool) (O:Bool) (J:(List N2×Int×Int×Int×Bool×Bool)->Option ((List N2))) (R:List N2) (Y:Int):Option ((List N2)):=(iM R j o).bind λI=>if decide (I.2=2) then ((iH R j o).bind λZ=>gC self j o U O J Y Z (i64.wrap ((i64.wrap (o-1))-(i64.wrap (I.1-j)))) 1) else (gC self j o U O J Y R I.1 I.2)
def lK (self:(List N2)->Int->Int->Int->Option ((List N2))) (I:List N2) (j:Int) (o:Int) (J:Int) (R:Bool) (O:Bool) (U:(List N2×Int×Int×Int×Bool×Bool)->Option ((List N2))):Option ((List N2)):=if decide ((i64.wrap (o-j))<=12) then ((g_ I j o).bind λY=>some Y) else (if decide (J=0) then ((jC I j o).bind λZ=>some Z) else (if !R then ((gZ I j o).bind λNP=>gE self j o R O U NP (i64.wrap (J-1))) else (gE self j o R O U I J)))
def iG (self:(List N2)->Int->Int->Int->Option ((List N2))) (O:(List N2)) (o:Int) (I:Int) (J:Int):Option ((List N2)):=cE (λj n=>lK self j.1 j.2.1 j.2.2.1 j.2.2.2.1 j.2.2.2.2.1 j.2.2.2.2.2 n) a_ (O,o,I,J,true,true)
def bO:Nat->(List N2)->Int->Int->Int->Option ((List N2))
 | 0=>λ_ _ _ _=>none
 | n+1=>iG (bO n)
def mL (J:(List N2)) (j:Int) (o:Int) (I:Int):Option ((List N2)):=bO a_ J j o I
def kD (j:(List N2)):Option ((List N2)):=(np (u64.wrap ((j.length:Int)))).bind λo=>(mL j 0 (j.length:Int) o).bind λI=>some I
def ny (j:List N2->Option ((List N2))) (o:List N2):Option ((List N2)):=j o
def ry (dI:(List aF)) (J:(List N2)) (U:Nat) (j:N2) (o:List N2) (I:List N2->Option ((List N2))):Option ((List N2)):=(pZ dI J j).bind λR=>if R then (fU ((o.length+([j]).length)*16<=140737488355328) (ny I (o++([j])))) else (ny I o)
def mE (dI:(List aF)) (o:(List N2)):Option ((List N2)):=gM (λk y j n=>ry dI o k y j n) (λj=>(kD j).bind λI=>some I) 0 o ([]:List N2)
def sD (dI:(List aF)) (j:(List N2)):Option ((List N2)×Int):=(pf dI j).bind λo=>if !decide (o=0) then (some (([]:List N2),o)) else ((mE dI j).bind λI=>some (I,0))
def mo (o:(List N2)) (I:(List N2)) (j:Nat) (J:Unit->Option (Bool)):Option (Bool):=idx o (j:Int) λR=>idx I (j:Int) λU=>if !decide (R=U) then (some false) else (J ())
def kn (j:(List N2)) (o:(List N2)):Option (Bool):=if !decide ((j.length:Int)=(o.length:Int)) then (some false) else (mn (λk I n=>mo j o k n) (λ_=>some true) ((j.length:Int):Int).toNat 0 ())
def qS (dI:(List aF)):Option ((Option dW)×Int):=(mP dI).bind λj=>if !decide (j=0) then (some (none,j)) else (fU (dI.length*32<=140737488355328) (some ((some (dW.mk dI ([]:List aA) 0)),0)))
def kf (j:aK) (name:N2) (nodes:(List N2)) (R:Nat) (I:N2) (o:Unit->Option (Int×aK)):Option (Int×aK):=(aW j.nodes I).bind λJ=>if !J then (some (6,(aK.mk (u4 j.seen name true) j.nodes))) else (o ())
def cW (j:aK) (name:N2) (nodes:(List N2)):Option (Int×aK):=(bV name).bind λo=>if !o then (some (5,j)) else (if (rI j.seen name).getD false then (some (7,j)) else (gM (λk y R n=>kf j name nodes k y n) (λ_=>if decide ((nodes.length:Int)=2) then (idx nodes 0 λI=>idx nodes 1 λJ=>if decide (I=J) then (some (3,(aK.mk (u4 j.seen name true) j.nodes))) else (some (0,(aK.mk (u4 j.seen name true) j.nodes)))) else (some (0,(aK.mk (u4 j.seen name true) j.nodes)))) 0 nodes ()))
def bI (I:Int) (o:Int) (j:Int):Bool:=((decide (I<o)) || (decide (j<I)))
def lz (j:aZ):Int:=if (((((bI j.X 1 10000) || (bI j.AN 500 1500)) || (bI j.Shift (-1000) 1000)) || (bI j.t_ 0 100000)) || (bI j.yY j.t_ 100000)) || (bI j.DB 0 200000) then 4 else 0
def aR (j:Int):Bool:=(!(bI j 0 100000))
def kW (I:aK) (U:Nat) (j:fZ) (R:(List (N2×Bool))) (J:(List (N2×Bool))->Option (Int×aK)):Option (Int×aK):=(cW (aK.mk R I.nodes) j.Name ([j.Node])).bind λo=>if !decide (o.1=0) then (some (o.1,(aK.mk o.2.seen I.nodes))) else (if ((!(aR j.sy)) || (!(aR j.Discharge))) || (!(aR j.uC)) then (some (4,(aK.mk o.2.seen I.nodes))) else (J o.2.seen))
def kV (o:aK) (U:Nat) (I:aJ) (R:(List (N2×Bool))) (J:(List (N2×Bool))->Option (Int×aK)):Option (Int×aK):=(cW (aK.mk R o.nodes) I.Name ([I.Node])).bind λj=>if !decide (j.1=0) then (some (j.1,(aK.mk j.2.seen o.nodes))) else (if !(aR I.fX) then (some (4,(aK.mk j.2.seen o.nodes))) else (J j.2.seen))
def kU (I:aK) (U:Nat) (j:fH) (R:(List (N2×Bool))) (J:(List (N2×Bool))->Option (Int×aK)):Option (Int×aK):=(cW (aK.mk R I.nodes) j.Name ([j.Node])).bind λo=>if !decide (o.1=0) then (some (o.1,(aK.mk o.2.seen I.nodes))) else (if ((!(aR j.lO)) || (bI j.q8 j.lO 100000)) || (!(aR j.DC)) then (some (4,(aK.mk o.2.seen I.nodes))) else (J o.2.seen))
def jL (j:aK) (o:aG):Option (Int×aK):=gM (λk y I n=>kU j k y I n) (λI=>gM (λk y J n=>kV j k y J n) (λJ=>gM (λk y R n=>kW j k y R n) (λR=>some (0,(aK.mk R j.nodes))) 0 o.eK J) 0 o.eS I) 0 o.kF j.seen
def nG (J:aG) (U:Nat) (j:aZ) (R:(List (N2×Bool))) (I:(List (N2×Bool))->Option (Int)):Option (Int):=(cW (aK.mk R J.cA) j.Name ([j.pK,j.To])).bind λo=>if !decide (o.1=0) then (some o.1) else (if !decide ((lz j)=0) then (some (lz j)) else (I o.2.seen))
def nF (J:aG) (U:Nat) (j:eJ) (R:(List (N2×Bool))) (I:(List (N2×Bool))->Option (Int)):Option (Int):=(cW (aK.mk R J.cA) j.Name ([j.A,j.B_])).bind λo=>if !decide (o.1=0) then (some o.1) else (I o.2.seen)
def nE (I:aG) (U:Nat) (J:N2) (R:(List (N2×Bool))) (o:(List (N2×Bool))->Option (Int)):Option (Int):=(cW (aK.mk R I.cA) J []).bind λj=>if !decide (j.1=0) then (some j.1) else (o j.2.seen)
def dV (j:aG):Option (Int):=if (((((decide (24<(j.cA.length:Int))) || (decide (32<(j.dE.length:Int)))) || (decide (24<(j.aU.length:Int)))) || (decide (10<(j.kF.length:Int)))) || (decide (12<(j.eS.length:Int)))) || (decide (4<(j.eK.length:Int))) then (some 2) else (gM (λk y o n=>nE j k y o n) (λo=>gM (λk y I n=>nF j k y I n) (λI=>gM (λk y J n=>nG j k y J n) (λJ=>(jL (aK.mk J j.cA) j).bind λR=>some R.1) 0 j.aU I) 0 j.dE o) 0 j.cA ([]:(List (N2×Bool))))
def qI (o:aJ) (j:N2):Bool:=(decide (o.Name=j))
def gH (J:(List aJ)) (j:N2) (o:Nat) (I:Unit->Option (Int)):Option (Int):=idx J (o:Int) λR=>if (qI R j) then (some (o:Int)) else (I ())
def eX (o:(List aJ)) (j:N2):Option (Int):=mn (λk I n=>gH o j k n) (λ_=>some (-1)) ((o.length:Int):Int).toNat 0 ()
def d_ (o:(List aJ)) (j:N2):Option (Bool):=(eX o j).bind λI=>some (decide (0<=I))
def sk (J:aG) (on:(List N2)) (j:Nat) (o:N2) (I:Unit->Option (Int)):Option (Int):=(d_ J.eS o).bind λR=>if !R then (some 6) else (fU (0<=(j:Int)/\(j:Int)<=(on.length:Int)) ((aW (uW on 0 (((j:Int):Int).toNat)) o).bind λU=>if U then (some 7) else (I ())))
def kg (j:aG) (on:(List N2)):Option (Int):=(dV j).bind λo=>if !decide (o=0) then (some o) else (gM (λk y I n=>sk j on k y n) (λ_=>some 0) 0 on ())
def rX (j:aG):Option (aG):=fU (j.cA.length*16<=140737488355328) (fU (j.dE.length*56<=140737488355328) (fU (j.aU.length*96<=140737488355328) (fU (j.kF.length*56<=140737488355328) (fU (j.eS.length*40<=140737488355328) (fU (j.eK.length*56<=140737488355328) (some j))))))
def mJ (o:aJ) (j:(List N2)):Option (Bool):=(aW j o.Name).bind λI=>some (!I)
def ka (J:(List aJ)) (j:(List N2)) (o:Nat) (I:Unit->Option (Int)):Option (Int):=idx J (o:Int) λR=>(mJ R j).bind λU=>if U then (some (o:Int)) else (I ())
def iD (o:(List aJ)) (j:(List N2)):Option (Int):=mn (λk I n=>ka o j k n) (λ_=>some (-1)) ((o.length:Int):Int).toNat 0 ()
def eB (I:Int) (j:(List aJ×Int×Int)->Option ((List aJ))) (o:List aJ) (J:Int):Option ((List aJ)):=j (o,J,i64.wrap (I+1))
def jV (Z:(List N2)) (j:List aJ) (O:Int) (Y:Int) (o:(List aJ×Int×Int)->Option ((List aJ))):Option ((List aJ)):=if decide (Y<(j.length:Int)) then (idx j Y λI=>(mJ I Z).bind λJ=>if !J then (idx j O λR=>eB Y o (j.set ((O:Int).toNat) I) (i64.wrap (O+1))) else (eB Y o j O)) else (fU (0<=O/\O<=(j.length:Int)) (fU (0<=O/\O<=((j.take (O).toNat++List.replicate (j.length-(O).toNat) ((aJ.mk (⟨#[]⟩) (⟨#[]⟩) 0):aJ)).length:Int)) (some (uW (j.take (O).toNat++List.replicate (j.length-(O).toNat) ((aJ.mk (⟨#[]⟩) (⟨#[]⟩) 0):aJ)) 0 ((O:Int).toNat)))))
def eV (j:(List aJ)) (J:(List N2)):Option ((List aJ)):=(iD j J).bind λo=>if decide (o=(-1)) then (some j) else (cE (λI n=>jV J I.1 I.2.1 I.2.2 n) a_ (j,o,i64.wrap (o+1)))
def qY (o:aG) (on:(List N2)):Option (aG):=(rX o).bind λj=>(eV j.eS on).bind λI=>some (aG.mk j.cA j.dE j.aU j.kF I j.eK)
def oa (j:aG) (on:(List N2)):Option (aG×Int):=(kg j on).bind λo=>if !decide (o=0) then (some ((aG.mk ([]:List N2) ([]:List eJ) ([]:List aZ) ([]:List fH) ([]:List aJ) ([]:List fZ)),o)) else ((qY j on).bind λI=>some (I,0))
def od (j:(List cG×List Int)->Option ((List cG)×(List Int))) (o:List cG) (I:List Int):Option ((List cG)×(List Int)):=j (o,I)
def sn (U:aG) (j:Bool) (O:Nat) (o:eJ) (I:List cG) (J:List Int) (R:(List cG×List Int)->Option ((List cG)×(List Int))):Option ((List cG)×(List Int)):=if decide (o.Open=j) then ((aX U.cA o.A).bind λY=>(aX U.cA o.B_).bind λZ=>fU ((I.length+([(cG.mk Y Z)]).length)*16<=140737488355328) (fU ((J.length+([((O:Int))]:List Int).length)*8<=140737488355328) (od R (I++([(cG.mk Y Z)])) (J++([((O:Int))]:List Int))))) else (od R I J)
def qe (I:aG) (o:Bool):Option ((List cG)×(List Int)):=gM (λk y j n=>sn I o k y j.1 j.2 n) (λj=>some (j.1,j.2)) 0 I.dE (([]:List cG),([]:List Int))
def te (o:Int) (J:Nat) (j:cG) (I:Unit->Option (Int)):Option (Int):=if decide (j.a0<0) then (some 4) else (if decide (o<=j.a0) then (some 4) else (if decide (j.a1<0) then (some 4) else (if decide (o<=j.a1) then (some 4) else (I ()))))
def rP (j:Int) (o:(List cG)):Option (Int):=if ((decide (j<0)) || (decide (24<j))) || (decide (64<(o.length:Int))) then (some 2) else (gM (λk y I n=>te j k y n) (λ_=>some 0) 0 o ())
def na (j:Int) (o:Int):Int×Int:=((u64.wrap ((u64.wrap ((u64.wrap ((mO .u64 j 32)*(mO .u64 o 32)))+(mO .u64 (u64.wrap ((u64.wrap ((mO .u64 j 32)*(u64.wrap ((BitVec.ofInt (u64).bits o &&& BitVec.ofInt (u64).bits 4294967295).toNat))))+(mO .u64 (u64.wrap ((u64.wrap ((BitVec.ofInt (u64).bits j &&& BitVec.ofInt (u64).bits 4294967295).toNat))*(u64.wrap ((BitVec.ofInt (u64).bits o &&& BitVec.ofInt (u64).bits 4294967295).toNat)))) 32))) 32)))+(mO .u64 (u64.wrap ((u64.wrap ((BitVec.ofInt (u64).bits (u64.wrap ((u64.wrap ((mO .u64 j 32)*(u64.wrap ((BitVec.ofInt (u64).bits o &&& BitVec.ofInt (u64).bits 4294967295).toNat))))+(mO .u64 (u64.wrap ((u64.wrap ((BitVec.ofInt (u64).bits j &&& BitVec.ofInt (u64).bits 4294967295).toNat))*(u64.wrap ((BitVec.ofInt (u64).bits o &&& BitVec.ofInt (u64).bits 4294967295).toNat)))) 32))) &&& BitVec.ofInt (u64).bits 4294967295).toNat))+(u64.wrap ((u64.wrap ((BitVec.ofInt (u64).bits j &&& BitVec.ofInt (u64).bits 4294967295).toNat))*(mO .u64 o 32))))) 32))),(u64.wrap (j*o)))
def rW (j:Int) (o:Int):Int×Int:=((((na j o)).1),(((na j o)).2))
def lx (j:(List Int×Int)->Option ((List Int))) (o:List Int) (I:Int):Option ((List Int)):=j (o,I)
def f_ (j:(List Int×List Int)->Option ((List Int))) (o:List Int) (I:List Int):Option ((List Int)):=j (o,I)
def qC (O:Int) (U:Int) (o:Int) (Y:Nat) (j:cG) (I:List Int) (J:List Int) (R:(List Int×List Int)->Option ((List Int))):Option ((List Int)):=if decide ((Y:Int)=O) then (f_ R I J) else (if decide (j.a0=o) then (idx I (i64.wrap ((i64.wrap (j.a0+j.a1))-o)) λZ=>if decide (Z<0) then (idx I (i64.wrap ((i64.wrap (j.a0+j.a1))-o)) λNP=>fU ((J.length+([(i64.wrap ((i64.wrap (j.a0+j.a1))-o))]:List Int).length)*8<=140737488355328) (f_ R (I.set ((i64.wrap ((i64.wrap (j.a0+j.a1))-o):Int).toNat) U) (J++([(i64.wrap ((i64.wrap (j.a0+j.a1))-o))]:List Int)))) else (f_ R I J)) else (if !decide (j.a1=o) then (f_ R I J) else (idx I (i64.wrap ((i64.wrap (j.a0+j.a1))-o)) λNO=>if decide (NO<0) then (idx I (i64.wrap ((i64.wrap (j.a0+j.a1))-o)) λNQ=>fU ((J.length+([(i64.wrap ((i64.wrap (j.a0+j.a1))-o))]:List Int).length)*8<=140737488355328) (f_ R (I.set ((i64.wrap ((i64.wrap (j.a0+j.a1))-o):Int).toNat) U) (J++([(i64.wrap ((i64.wrap (j.a0+j.a1))-o))]:List Int)))) else (f_ R I J))))
def qB (Z:(List cG)) (O:Int) (I:Int) (R:(List Int×Int)->Option ((List Int))) (J:List Int) (j:List Int) (U:(List Int×List Int)->Option ((List Int))):Option ((List Int)):=if decide (0<(j.length:Int)) then (idx j 0 λY=>fU (0<=1/\1<=(j.length:Int)) (gM (λk y o n=>qC O I Y k y o.1 o.2 n) (λo=>U (o.1,o.2)) 0 Z (J,(uW j (1:Int).toNat j.length)))) else (lx R J (i64.wrap (I+1)))
def qA (Y:(List cG)) (O:Int) (I:Nat) (j:List Int) (o:Int) (J:(List Int×Int)->Option ((List Int))):Option ((List Int)):=idx j (I:Int) λU=>if decide (0<=U) then (lx J j o) else (idx j (I:Int) λZ=>cE (λR n=>qB Y O o J R.1 R.2 n) a_ ((j.set (((I:Int):Int).toNat) o),([((I:Int))]:List Int)))
def pj (o:Int) (I:(List cG)) (J:Int):Option ((List Int)):=fU (([((-1))]:List Int).length=1/\0<=o/\o*8<=140737488355328) (fU (o<=9223372036854775807) (mn (λk j n=>qA I J k j.1 j.2 n) (λj=>some j.1) (o:Int).toNat 0 ((Ej ([((-1))]:List Int) o),0)))
def kP (j:Int) (o:(List cG)):Option ((List Int)×Int):=(rP j o).bind λI=>if !decide (I=0) then (some (([]:List Int),I)) else ((pj j o (-1)).bind λJ=>some (J,0))
def oH (j:aG):Option ((List Int)):=(qe j false).bind λo=>(kP (j.cA.length:Int) o.1).bind λI=>some I.1
def sO (j:aG) (o:((List Int))) (NP:Nat) (I:aZ) (J:List cG) (O:List cG->Option (aQ)):Option (aQ):=(aX j.cA I.pK).bind λY=>idx o Y λR=>(aX j.cA I.To).bind λZ=>idx o Z λU=>fU ((J.length+([(cG.mk R U)]).length)*16<=140737488355328) (O (J++([(cG.mk R U)])))
def sN (I:Nat) (o:Int) (J:Int) (j:Int->Option (aQ)):Option (aQ):=j (max J (i64.wrap (o+1)))
def fG (j:aG):Option (aQ):=(oH j).bind λo=>gM (λk y I n=>sN k y I n) (λI=>gM (λk y J n=>sO j o k y J n) (λJ=>(kP I J).bind λR=>some (aQ.mk o R.1)) 0 j.aU ([]:List cG)) 0 o 0
def rB (I:Nat) (o:Int) (J:Int) (j:Int->Option (Int)):Option (Int):=j (max J (i64.wrap (o+1)))
def mG (o:aG):Option (Int):=(fG o).bind λI=>gM (λk y j n=>rB k y j n) (λj=>some j) 0 I.bH 0
def nj (o:aG) (j:aQ) (O:N2):Option (Int):=(aX o.cA O).bind λI=>idx j.pV I λJ=>idx j.bH J λR=>some R
def sG (U:aG) (O:(aQ)) (Z:Nat) (I:aJ) (j:List bC) (R:List bC->Option ((List bC))):Option ((List bC)):=(nj U O I.Node).bind λo=>idx j o λY=>idx j o λJ=>R (j.set ((o:Int).toNat) (bC.mk J.lO J.q8 (i64.wrap (Y.fX+I.fX))))
def sF (U:aG) (O:(aQ)) (Y:Nat) (o:fH) (J:List bC) (R:List bC->Option ((List bC))):Option ((List bC)):=(nj U O o.Node).bind λI=>idx J I λj=>R ((J.set ((I:Int).toNat) (bC.mk (i64.wrap (j.lO+o.lO)) j.q8 j.fX)).set ((I:Int).toNat) (bC.mk (i64.wrap (j.lO+o.lO)) (i64.wrap (j.q8+o.q8)) j.fX))
def qW (j:aG):Option ((List bC)):=(fG j).bind λR=>(mG j).bind λo=>fU (0<=o/\o*24<=140737488355328) (gM (λk y I n=>sF j R k y I n) (λI=>gM (λk y J n=>sG j R k y J n) (λJ=>some J) 0 j.eS I) 0 j.kF (List.replicate (o:Int).toNat ((bC.mk 0 0 0):bC)))
def oL (j:Int):Bool:=(decide (0<j))
def jA (I:(List Int)) (j:Nat) (o:Unit->Option (Int)):Option (Int):=idx I (j:Int) λJ=>if (oL J) then (some (j:Int)) else (o ())
def gX (j:(List Int)):Option (Int):=mn (λk o n=>jA j k n) (λ_=>some (-1)) ((j.length:Int):Int).toNat 0 ()
def eF (j:(List Int)):Option (Bool):=(gX j).bind λo=>some (decide (0<=o))
def mH (I:List Int) (j:List Int) (o:(List Int×List Int)->Option ((List Int)×Int)) (J:(Int)) (R:Int) (O:Int):Option ((List Int)×Int):=fU ((j.length+([O]:List Int).length)*8<=140737488355328) (o ((I.set ((J:Int).toNat) (i64.wrap (R-O))),(j++([O]:List Int))))
def se (O:aG) (Y:(aQ)) (Z:Nat) (o:fH) (I:List Int) (U:List Int) (J:(List Int×List Int)->Option ((List Int)×Int)):Option ((List Int)×Int):=(nj O Y o.Node).bind λR=>idx I R λj=>if decide (o.lO<=j) then (mH I U J R j (min o.q8 j)) else (mH I U J R j 0)
def sd (J:Nat) (j:bC) (o:List Int) (I:List Int->Option ((List Int)×Int)):Option ((List Int)×Int):=fU ((o.length+([j.fX]:List Int).length)*8<=140737488355328) (I (o++([j.fX]:List Int)))
def ni (j:aG):Option ((List Int)×Int):=(dV j).bind λJ=>if !decide (J=0) then (some (([]:List Int),J)) else ((fG j).bind λR=>(qW j).bind λU=>gM (λk y I n=>sd k y I n) (λI=>gM (λk y o n=>se j R k y o.1 o.2 n) (λo=>(eF o.1).bind λO=>if O then (some (([]:List Int),14)) else (some (o.2,0))) 0 j.kF (I,([]:List Int))) 0 U ([]:List Int))
def tc (I:Nat) (j:Int) (o:Unit->Option ((List Int)×Int)):Option ((List Int)×Int):=if (decide (j<(-100000))) || (decide (100000<j)) then (some (([]:List Int),4)) else (o ())
def s9 (R:aG) (O:Nat) (I:aJ) (j:List Int) (J:List Int->Option ((List Int)×Int)):Option ((List Int)×Int):=(aX R.cA I.Node).bind λo=>idx j o λU=>idx j o λY=>J (j.set ((o:Int).toNat) (i64.wrap (U-I.fX)))
def s8 (U:aG) (O:(List Int)) (j:Nat) (o:fZ) (I:List Int) (R:List Int->Option ((List Int)×Int)):Option ((List Int)×Int):=idx O (j:Int) λY=>if decide (Y<(i64.wrap (0-o.sy))) then (some (([]:List Int),17)) else (idx O (j:Int) λZ=>if decide (o.Discharge<Z) then (some (([]:List Int),17)) else ((aX U.cA o.Node).bind λJ=>idx I J λNO=>idx O (j:Int) λNP=>idx I J λNQ=>R (I.set ((J:Int).toNat) (i64.wrap (NO+NP)))))
def s7 (Y:aG) (O:(List Int)) (o:Nat) (I:fH) (j:List Int) (J:List Int->Option ((List Int)×Int)):Option ((List Int)×Int):=idx O (o:Int) λZ=>if decide (Z=0) then ((aX Y.cA I.Node).bind λR=>idx j R λNO=>idx O (o:Int) λNP=>idx j R λNU=>J (j.set ((R:Int).toNat) (i64.wrap (NO+NP)))) else (idx O (o:Int) λNQ=>if decide (NQ<I.lO) then (some (([]:List Int),17)) else (idx O (o:Int) λNR=>if decide (I.q8<NR) then (some (([]:List Int),17)) else ((aX Y.cA I.Node).bind λU=>idx j U λNS=>idx O (o:Int) λNT=>idx j U λNV=>J (j.set ((U:Int).toNat) (i64.wrap (NS+NT))))))
def rO (j:aG) (Y:(List Int)) (O:(List Int)):Option ((List Int)×Int):=(dV j).bind λR=>if !decide (R=0) then (some (([]:List Int),R)) else (if (!decide ((Y.length:Int)=(j.kF.length:Int))) || (!decide ((O.length:Int)=(j.eK.length:Int))) then (some (([]:List Int),3)) else (fU (0<=(j.cA.length:Int)/\(j.cA.length:Int)*8<=140737488355328) (gM (λk y I n=>s7 j Y k y I n) (λI=>gM (λk y J n=>s8 j O k y J n) (λJ=>gM (λk y o n=>s9 j k y o n) (λo=>gM (λk y U n=>tc k y n) (λ_=>some (o,0)) 0 o ()) 0 j.eS J) 0 j.eK I) 0 j.kF (List.replicate ((j.cA.length:Int):Int).toNat (0:Int)))))
def jK (j:aG):Option ((List Int)×Int):=(ni j).bind λo=>if !decide (o.2=0) then (some (([]:List Int),o.2)) else (fU (0<=(j.eK.length:Int)/\(j.eK.length:Int)*8<=140737488355328) ((rO j o.1 (List.replicate ((j.eK.length:Int):Int).toNat (0:Int))).bind λI=>some (I.1,I.2)))
def tT (o:(aQ)) (U:Nat) (j:Int) (I:(List (Int×Int))) (R:(List (Int×Int))->Option (Int)):Option (Int):=if (decide (j<(-100000))) || (decide (100000<j)) then (some 4) else (idx o.pV (U:Int) λO=>idx o.bH O λJ=>R (u4 I J (i64.wrap (((rI I J).getD (0:Int))+j))))
def pO (j:aG) (O:(List Int)):Option (Int):=(dV j).bind λI=>if !decide (I=0) then (some I) else (if !decide ((O.length:Int)=(j.cA.length:Int)) then (some 3) else ((fG j).bind λJ=>gM (λk y o n=>tT J k y o n) (λo=>if (o.any (λR=>!decide (R.2=0))) then (some 14) else (some 0)) 0 O ([]:(List (Int×Int)))))
def oF (minus:Bool) (j:(List bT)):Option (aD):=if minus then (some (aD.mk (decide (0<(j.length:Int))) j)) else (some (aD.mk false j))
def tX (minus:Bool) (j:(List bT)) (o:(List bT)->Option (aD)):Option (aD):=if decide (0<(j.length:Int)) then (idx j (i64.wrap ((j.length:Int)-1)) λI=>if decide (I.n=0) then (fU (0<=(i64.wrap ((j.length:Int)-1))/\(i64.wrap ((j.length:Int)-1))<=(j.length:Int)) (o (uW j 0 ((i64.wrap ((j.length:Int)-1):Int).toNat)))) else (oF minus j)) else (oF minus j)
def kC (minus:Bool) (j:(List bT)):Option (aD):=cE (λo n=>tX minus o n) a_ j
def qi (j:Int) (I:Int):Option (aD):=(kC (decide (j<0)) ([⟨u32.wrap (I)⟩,⟨u32.wrap (mO .u64 I 32)⟩]:List bT)).bind λo=>some o
def nk (j:Int):Option (aD):=if decide (j<0) then (qi j (u64.wrap (0-(u64.wrap (j))))) else (qi j (u64.wrap (j)))
def mh (j:aD):Option (aD):=(kC (!j.minus) j.words).bind λo=>some o
def iI (j:aD):Int:=if decide ((j.words.length:Int)=0) then 0 else (if j.minus then (-1) else 1)
def rE (j:(List bT)) (o:(List bT)) (O:Int) (I:Int->Option (Int)):Option (Int):=if decide (0<=O) then (idx j O λJ=>idx o O λR=>if !decide (J.n=R.n) then (idx j O λU=>idx o O λY=>if decide (U.n<Y.n) then (some (-1)) else (some 1)) else (I (i64.wrap (O-1)))) else (some 0)
def nR (j:(List bT)) (o:(List bT)):Option (Int):=if !decide ((j.length:Int)=(o.length:Int)) then (some (i64.wrap ((j.length:Int)-(o.length:Int)))) else (cE (λI n=>rE j o I n) a_ (i64.wrap ((j.length:Int)-1)))
def rF (R:(List bT)) (j:Int) (o:List bT) (Y:Int) (O:Int) (J:(List bT×Int×Int)->Option ((List bT)×Int)):Option ((List bT)×Int):=if decide (0<=O) then (idx R O λI=>fU ((u64.wrap (j))≠0) (idx o O λU=>fU ((u64.wrap (j))≠0) (J ((o.set ((O:Int).toNat) ⟨u32.wrap (u64.wrap (Int.tdiv (u64.wrap ((BitVec.ofInt (u64).bits (pz .u64 Y 32) ||| BitVec.ofInt (u64).bits (u64.wrap (I.n))).toNat)) (u64.wrap (j))))⟩),Int.tmod (u64.wrap ((BitVec.ofInt (u64).bits (pz .u64 Y 32) ||| BitVec.ofInt (u64).bits (u64.wrap (I.n))).toNat)) (u64.wrap (j)),i64.wrap (O-1))))) else (some (o,(u32.wrap (Y))))
def nT (j:(List bT)) (I:Int):Option ((List bT)×Int):=fU (0<=(j.length:Int)/\(j.length:Int)*4<=140737488355328) (cE (λo n=>rF j I o.1 o.2.1 o.2.2 n) a_ ((List.replicate ((j.length:Int):Int).toNat (⟨0⟩:bT)),0,i64.wrap ((j.length:Int)-1)))
def lR (I:Int) (J:Int):Option (Int):=idx (ml (⟨#[0,1,2,2,3,3,3,3,4,4,4,4,4,4,4,4,5,5,5,5,5,5,5,5,5,5,5,5,5,5,5,5,6,6,6,6,6,6,6,6,6,6,6,6,6,6,6,6,6,6,6,6,6,6,6,6,6,6,6,6,6,6,6,6,7,7,7,7,7,7,7,7,7,7,7,7,7,7,7,7,7,7,7,7,7,7,7,7,7,7,7,7,7,7,7,7,7,7,7,7,7,7,7,7,7,7,7,7,7,7,7,7,7,7,7,7,7,7,7,7,7,7,7,7,7,7,7,7,8,8,8,8,8,8,8,8,8,8,8,8,8,8,8,8,8,8,8,8,8,8,8,8,8,8,8,8,8,8,8,8,8,8,8,8,8,8,8,8,8,8,8,8,8,8,8,8,8,8,8,8,8,8,8,8,8,8,8,8,8,8,8,8,8,8,8,8,8,8,8,8,8,8,8,8,8,8,8,8,8,8,8,8,8,8,8,8,8,8,8,8,8,8,8,8,8,8,8,8,8,8,8,8,8,8,8,8,8,8,8,8,8,8,8,8,8,8,8,8,8,8,8,8,8,8,8,8]⟩)) (u8.wrap (I)) λj=>some (i64.wrap (J+(i64.wrap (j.n))))
def lS (I:Int) (J:Int):Option (Int):=if decide (256<=I) then (lR (mO .u32 I 8) (i64.wrap (J+8))) else (lR I J)
def qH (j:Int):Option (Int):=if decide (65536<=j) then (lS (mO .u32 j 16) 16) else (lS j 0)
def kT (j:Int):Option (Int):=(qH j).bind λo=>some (i64.wrap (32-o))
def sj (j:Int) (o:Nat) (I:bT) (J:List bT) (O:Int) (R:(List bT×Int)->Option ((List bT))):Option ((List bT)):=fU (0<=j) (idx J (o:Int) λU=>R ((J.set (((o:Int):Int).toNat) ⟨u32.wrap (u64.wrap ((BitVec.ofInt (u64).bits O ||| BitVec.ofInt (u64).bits (pz .u64 (u64.wrap (I.n)) j)).toNat))⟩),mO .u64 (u64.wrap ((BitVec.ofInt (u64).bits O ||| BitVec.ofInt (u64).bits (pz .u64 (u64.wrap (I.n)) j)).toNat)) 32))
def oG (j:(List bT)) (I:Int):Option ((List bT)):=fU (0<=(i64.wrap ((j.length:Int)+1))/\(i64.wrap ((j.length:Int)+1))*4<=140737488355328) (gM (λk y o n=>sj I k y o.1 o.2 n) (λo=>idx o.1 (j.length:Int) λJ=>some (o.1.set (((j.length:Int):Int).toNat) ⟨u32.wrap (o.2)⟩)) 0 j ((List.replicate (i64.wrap ((j.length:Int)+1):Int).toNat (⟨0⟩:bT)),0))
def lQ (o:List bT) (j:Int) (I:(List bT×List bT×Int)->Option ((List bT)×(List bT))) (J:List bT) (R:Int):Option ((List bT)×(List bT)):=idx o j λU=>I ((o.set ((j:Int).toNat) ⟨u32.wrap (R)⟩),J,i64.wrap (j-1))
def oQ (Y:(List bT)) (Z:((List bT))) (o:Int) (j:Nat) (I:List bT) (J:Int) (O:(List bT×Int)->Option ((List bT)×(List bT))):Option ((List bT)×(List bT)):=idx I (i64.wrap ((j:Int)+o)) λR=>idx (uW Z 0 (((Y.length:Int):Int).toNat)) (j:Int) λU=>idx I (i64.wrap ((j:Int)+o)) λNP=>O ((I.set ((i64.wrap ((j:Int)+o):Int).toNat) ⟨u32.wrap (u64.wrap (J+(u64.wrap ((u64.wrap (R.n))+(u64.wrap (U.n))))))⟩),mO .u64 (u64.wrap (J+(u64.wrap ((u64.wrap (R.n))+(u64.wrap (U.n)))))) 32)
def oP (NP:(List bT)) (NQ:((List bT))) (o:Int) (I:Int) (j:Nat) (J:List bT) (O:Int) (R:Int) (Z:(List bT×Int×Int)->Option ((List bT)×(List bT))):Option ((List bT)×(List bT)):=idx (uW NQ 0 (((NP.length:Int):Int).toNat)) (j:Int) λU=>idx J (i64.wrap ((j:Int)+o)) λY=>idx J (i64.wrap ((j:Int)+o)) λNR=>Z ((J.set ((i64.wrap ((j:Int)+o):Int).toNat) ⟨u32.wrap (i64.wrap (O+(i64.wrap ((i64.wrap (Y.n))-(i64.wrap (u64.wrap ((BitVec.ofInt (u64).bits (u64.wrap (R+(u64.wrap (I*(u64.wrap (U.n)))))) &&& BitVec.ofInt (u64).bits 4294967295).toNat)))))))⟩),mO .i64 (i64.wrap (O+(i64.wrap ((i64.wrap (Y.n))-(i64.wrap (u64.wrap ((BitVec.ofInt (u64).bits (u64.wrap (R+(u64.wrap (I*(u64.wrap (U.n)))))) &&& BitVec.ofInt (u64).bits 4294967295).toNat))))))) 32,mO .u64 (u64.wrap (R+(u64.wrap (I*(u64.wrap (U.n)))))) 32)
def iU (I:(List bT)) (Z:((List bT))) (Y:List bT) (NP:List bT) (o:Int) (O:(List bT×List bT×Int)->Option ((List bT)×(List bT))) (R:Int):Option ((List bT)×(List bT)):=mn (λk j n=>oP I Z o R k j.1 j.2.1 j.2.2 n) (λj=>idx j.1 (i64.wrap (o+(I.length:Int))) λU=>idx j.1 (i64.wrap (o+(I.length:Int))) λNR=>if decide ((i64.wrap (j.2.1+(i64.wrap ((i64.wrap (U.n))-(i64.wrap (j.2.2))))))<0) then (mn (λk J n=>oQ I Z o k J.1 J.2 n) (λJ=>idx J.1 (i64.wrap (o+(I.length:Int))) λNQ=>idx J.1 (i64.wrap (o+(I.length:Int))) λNS=>lQ Y o O (J.1.set ((i64.wrap (o+(I.length:Int)):Int).toNat) ⟨u32.wrap (NQ.n+(u32.wrap (J.2)))⟩) (u64.wrap (R-1))) ((I.length:Int):Int).toNat 0 ((j.1.set ((i64.wrap (o+(I.length:Int)):Int).toNat) ⟨u32.wrap (i64.wrap (j.2.1+(i64.wrap ((i64.wrap (U.n))-(i64.wrap (j.2.2))))))⟩),0)) else (lQ Y o O (j.1.set ((i64.wrap (o+(I.length:Int)):Int).toNat) ⟨u32.wrap (i64.wrap (j.2.1+(i64.wrap ((i64.wrap (U.n))-(i64.wrap (j.2.2))))))⟩) R)) ((I.length:Int):Int).toNat 0 (NP,0,0)
def oR (j:(List bT)) (J:((List bT))) (Y:List bT) (R:List bT) (U:Int) (O:(List bT×List bT×Int)->Option ((List bT)×(List bT))) (o:Int) (I:Int) (Z:(Int×Int)->Option ((List bT)×(List bT))):Option ((List bT)×(List bT)):=if decide (4294967296<=o) then (idx (uW J 0 (((j.length:Int):Int).toNat)) (i64.wrap ((j.length:Int)-1)) λNP=>if decide (4294967296<=(u64.wrap (I+(u64.wrap (NP.n))))) then (iU j J Y R U O (u64.wrap (o-1))) else (Z (u64.wrap (o-1),u64.wrap (I+(u64.wrap (NP.n)))))) else (idx (uW J 0 (((j.length:Int):Int).toNat)) (i64.wrap ((j.length:Int)-2)) λNR=>idx R (i64.wrap ((i64.wrap (U+(j.length:Int)))-2)) λNS=>if decide ((u64.wrap ((BitVec.ofInt (u64).bits (pz .u64 I 32) ||| BitVec.ofInt (u64).bits (u64.wrap (NS.n))).toNat))<(u64.wrap (o*(u64.wrap (NR.n))))) then (idx (uW J 0 (((j.length:Int):Int).toNat)) (i64.wrap ((j.length:Int)-1)) λNQ=>if decide (4294967296<=(u64.wrap (I+(u64.wrap (NQ.n))))) then (iU j J Y R U O (u64.wrap (o-1))) else (Z (u64.wrap (o-1),u64.wrap (I+(u64.wrap (NQ.n)))))) else (iU j J Y R U O o))
def mT (R:(Int)) (o:List bT) (j:Nat) (I:List bT) (J:List bT->Option ((List bT)×(List bT))):Option ((List bT)×(List bT)):=idx o (i64.wrap ((j:Int)+1)) λU=>idx o (j:Int) λO=>fU (0<=R) (idx I (j:Int) λY=>J (I.set (((j:Int):Int).toNat) ⟨u32.wrap (mO .u64 (u64.wrap ((BitVec.ofInt (u64).bits (pz .u64 (u64.wrap (U.n)) 32) ||| BitVec.ofInt (u64).bits (u64.wrap (O.n))).toNat)) R)⟩))
def oO (j:(List bT)) (NS:(Int)) (R:((List bT))) (U:List bT) (o:List bT) (I:Int) (NR:(List bT×List bT×Int)->Option ((List bT)×(List bT))):Option ((List bT)×(List bT)):=if decide (0<=I) then (idx o (i64.wrap (I+(j.length:Int))) λO=>idx o (i64.wrap ((i64.wrap (I+(j.length:Int)))-1)) λY=>idx (uW R 0 (((j.length:Int):Int).toNat)) (i64.wrap ((j.length:Int)-1)) λZ=>fU ((u64.wrap (Z.n))≠0) (idx (uW R 0 (((j.length:Int):Int).toNat)) (i64.wrap ((j.length:Int)-1)) λNP=>fU ((u64.wrap (NP.n))≠0) (cE (λNQ n=>oR j R U o I NR NQ.1 NQ.2 n) a_ (u64.wrap (Int.tdiv (u64.wrap ((BitVec.ofInt (u64).bits (pz .u64 (u64.wrap (O.n)) 32) ||| BitVec.ofInt (u64).bits (u64.wrap (Y.n))).toNat)) (u64.wrap (Z.n))),Int.tmod (u64.wrap ((BitVec.ofInt (u64).bits (pz .u64 (u64.wrap (O.n)) 32) ||| BitVec.ofInt (u64).bits (u64.wrap (Y.n))).toNat)) (u64.wrap (NP.n)))))) else (fU (0<=(j.length:Int)/\(j.length:Int)*4<=140737488355328) (mn (λk J n=>mT NS o k J n) (λJ=>some (U,J)) ((j.length:Int):Int).toNat 0 (List.replicate ((j.length:Int):Int).toNat (⟨0⟩:bT))))
def nS (o:(List bT)) (j:(List bT)):Option ((List bT)×(List bT)):=(nR o j).bind λO=>if decide (O<0) then (some ([],o)) else (if decide ((j.length:Int)=1) then (idx j 0 λY=>(nT o Y.n).bind λR=>some (R.1,([⟨R.2⟩]:List bT))) else (idx j (i64.wrap ((j.length:Int)-1)) λZ=>(kT Z.n).bind λJ=>(oG o J).bind λNP=>(oG j J).bind λU=>fU (0<=(j.length:Int)/\(j.length:Int)<=(U.length:Int)) (fU (0<=(i64.wrap ((i64.wrap ((o.length:Int)-(j.length:Int)))+1))/\(i64.wrap ((i64.wrap ((o.length:Int)-(j.length:Int)))+1))*4<=140737488355328) (cE (λI n=>oO j J U I.1 I.2.1 I.2.2 n) a_ ((List.replicate (i64.wrap ((i64.wrap ((o.length:Int)-(j.length:Int)))+1):Int).toNat (⟨0⟩:bT)),NP,i64.wrap ((o.length:Int)-(j.length:Int)))))))
def sH (j:Bool) (o:(List bT)):Option (aD):=some (aD.mk j o)
def uI (o:Bool) (j:(List bT)) (O:Bool) (I:(List bT)) (U:(Bool×(List bT)×Bool×(List bT))->Option (aD)):Option (aD):=if !decide ((iI (aD.mk o j))=0) then ((nS I j).bind λJ=>fU (J.2.length*4<=140737488355328) ((kC false J.2).bind λR=>U (R.minus,R.words,o,j))) else (sH O I)
def qX (o:aD) (I:aD):Option (aD):=cE (λj n=>uI j.1 j.2.1 j.2.2.1 j.2.2.2 n) a_ (false,I.words,false,o.words)
def mb (j:List bT) (I:(List bT×Int)->Option ((List bT))) (o:Nat) (O:Int):Option ((List bT)):=idx j (o:Int) λJ=>I ((j.set (((o:Int):Int).toNat) ⟨u32.wrap (O)⟩),mO .u64 O 32)
def rD (U:(List bT)) (I:(List bT)) (j:Nat) (J:List bT) (O:Int) (o:(List bT×Int)->Option ((List bT))):Option ((List bT)):=idx U (j:Int) λR=>if decide ((j:Int)<(I.length:Int)) then (idx I (j:Int) λY=>mb J o j (u64.wrap ((u64.wrap (O+(u64.wrap (R.n))))+(u64.wrap (Y.n))))) else (mb J o j (u64.wrap (O+(u64.wrap (R.n)))))
def mc (j:(List bT)) (I:(List bT)):Option ((List bT)):=fU (0<=(i64.wrap ((j.length:Int)+1))/\(i64.wrap ((j.length:Int)+1))*4<=140737488355328) (mn (λk o n=>rD j I k o.1 o.2 n) (λo=>idx o.1 (j.length:Int) λJ=>some (o.1.set (((j.length:Int):Int).toNat) ⟨u32.wrap (o.2)⟩)) ((j.length:Int):Int).toNat 0 ((List.replicate (i64.wrap ((j.length:Int)+1):Int).toNat (⟨0⟩:bT)),0))
def pE (j:(List bT)) (o:(List bT)):Option ((List bT)):=if decide ((j.length:Int)<(o.length:Int)) then (mc o j) else (mc j o)
def me (j:List bT) (I:(List bT×Int)->Option ((List bT))) (o:Nat) (O:Int):Option ((List bT)):=idx j (o:Int) λJ=>I ((j.set (((o:Int):Int).toNat) ⟨u32.wrap (O)⟩),mO .i64 O 32)
def rG (U:(List bT)) (I:(List bT)) (j:Nat) (J:List bT) (O:Int) (o:(List bT×Int)->Option ((List bT))):Option ((List bT)):=idx U (j:Int) λR=>if decide ((j:Int)<(I.length:Int)) then (idx I (j:Int) λY=>me J o j (i64.wrap ((i64.wrap (O+(i64.wrap (R.n))))-(i64.wrap (Y.n))))) else (me J o j (i64.wrap (O+(i64.wrap (R.n)))))
def nU (j:(List bT)) (I:(List bT)):Option ((List bT)):=fU (0<=(j.length:Int)/\(j.length:Int)*4<=140737488355328) (mn (λk o n=>rG j I k o.1 o.2 n) (λo=>some o.1) ((j.length:Int):Int).toNat 0 ((List.replicate ((j.length:Int):Int).toNat (⟨0⟩:bT)),0))
def mg (j:aD) (o:aD):Option (aD):=if decide (j.minus=o.minus) then ((pE j.words o.words).bind λI=>(kC j.minus I).bind λJ=>some J) else ((nR j.words o.words).bind λR=>if decide (0<=R) then ((nU j.words o.words).bind λU=>(kC j.minus U).bind λO=>some O) else ((nU o.words j.words).bind λY=>(kC o.minus Y).bind λZ=>some Z))
def oD (j:aD) (o:aD):Option (aD):=(mh o).bind λI=>(mg j I).bind λJ=>some J
def mB (I:Bool) (j:(List bT)) (J:Bool) (o:(List bT)):Option (aD×aD):=some ((aD.mk J o),(aD.mk I j))
def dM (I:aD) (R:aD):Option (aD×aD):=(nS I.words R.words).bind λj=>fU (j.1.length*4<=140737488355328) ((kC I.minus j.1).bind λJ=>fU (j.2.length*4<=140737488355328) ((kC I.minus j.2).bind λo=>if o.minus then ((nk 1).bind λY=>(oD J Y).bind λU=>(mg o R).bind λO=>mB O.minus O.words U.minus U.words) else (mB o.minus o.words J.minus J.words)))
def nQ (o:Bool) (j:(List bT)) (O:Bool) (I:(List bT)):Option (aB):=if decide ((j.length:Int)=1) then (idx j 0 λNT=>if decide (NT.n=1) then (some (aB.mk (aD.mk O I) (aD.mk o j))) else ((qX (aD.mk O I) (aD.mk o j)).bind λJ=>if decide ((J.words.length:Int)=1) then (idx J.words 0 λNU=>if decide (NU.n=1) then (some (aB.mk (aD.mk O I) (aD.mk o j))) else ((dM (aD.mk false I) J).bind λU=>(dM (aD.mk o j) J).bind λNP=>if O then (some (aB.mk (aD.mk (decide (0<(U.1.words.length:Int))) U.1.words) NP.1)) else (some (aB.mk (aD.mk false U.1.words) NP.1)))) else ((dM (aD.mk false I) J).bind λY=>(dM (aD.mk o j) J).bind λNQ=>if O then (some (aB.mk (aD.mk (decide (0<(Y.1.words.length:Int))) Y.1.words) NQ.1)) else (some (aB.mk (aD.mk false Y.1.words) NQ.1))))) else ((qX (aD.mk O I) (aD.mk o j)).bind λR=>if decide ((R.words.length:Int)=1) then (idx R.words 0 λNV=>if decide (NV.n=1) then (some (aB.mk (aD.mk O I) (aD.mk o j))) else ((dM (aD.mk false I) R).bind λZ=>(dM (aD.mk o j) R).bind λNR=>if O then (some (aB.mk (aD.mk (decide (0<(Z.1.words.length:Int))) Z.1.words) NR.1)) else (some (aB.mk (aD.mk false Z.1.words) NR.1)))) else ((dM (aD.mk false I) R).bind λNO=>(dM (aD.mk o j) R).bind λNS=>if O then (some (aB.mk (aD.mk (decide (0<(NO.1.words.length:Int))) NO.1.words) NS.1)) else (some (aB.mk (aD.mk false NO.1.words) NS.1))))
def nL (o:aD) (j:aD):Option (aB):=if j.minus then ((mh o).bind λI=>(mh j).bind λJ=>nQ J.minus J.words I.minus I.words) else (nQ j.minus j.words o.minus o.words)
def ri (j:Int) (o:Int):Option (aB):=(nk j).bind λI=>(nk o).bind λJ=>(nL I J).bind λR=>some R
def sh (J:bT) (j:Nat) (o:Nat) (R:bT) (I:List bT) (O:Int) (Y:(List bT×Int)->Option (aD)):Option (aD):=idx I (i64.wrap ((j:Int)+(o:Int))) λU=>idx I (i64.wrap ((j:Int)+(o:Int))) λZ=>Y ((I.set ((i64.wrap ((j:Int)+(o:Int)):Int).toNat) ⟨u32.wrap (u64.wrap (O+(u64.wrap ((u64.wrap (U.n))+(u64.wrap ((u64.wrap (J.n))*(u64.wrap (R.n))))))))⟩),mO .u64 (u64.wrap (O+(u64.wrap ((u64.wrap (U.n))+(u64.wrap ((u64.wrap (J.n))*(u64.wrap (R.n)))))))) 32)
def sf (o:aD) (I:Nat) (R:bT) (U:List bT) (J:List bT->Option (aD)):Option (aD):=gM (λk y j n=>sh R I k y j.1 j.2 n) (λj=>idx j.1 (i64.wrap ((I:Int)+(o.words.length:Int))) λO=>J (j.1.set ((i64.wrap ((I:Int)+(o.words.length:Int)):Int).toNat) ⟨u32.wrap (j.2)⟩)) 0 o.words (U,0)
def iJ (j:aD) (o:aD):Option (aD):=fU (0<=(i64.wrap ((j.words.length:Int)+(o.words.length:Int)))/\(i64.wrap ((j.words.length:Int)+(o.words.length:Int)))*4<=140737488355328) (gM (λk y I n=>sf o k y I n) (λI=>(kC (!decide (j.minus=o.minus)) I).bind λJ=>some J) 0 j.words (List.replicate (i64.wrap ((j.words.length:Int)+(o.words.length:Int)):Int).toNat (⟨0⟩:bT)))
def mi (j:aB) (o:aB):Option (aB):=(iJ j.N o.N).bind λI=>(iJ j.D o.D).bind λJ=>(nL I J).bind λR=>some R
def mQ (j:Int):Option (aB):=(nk j).bind λo=>(nk 1).bind λI=>some (aB.mk o I)
def pn (j:Int):Option ((List aB)):=(mQ 0).bind λo=>fU (([o]).length=1/\0<=j/\j*64<=140737488355328) (some (Ej ([o]) j))
def oA (I:(List Int)) (J:Int) (j:Nat) (o:Unit->Option (Int)):Option (Int):=idx I (j:Int) λR=>if decide (J=R) then (some (j:Int)) else (o ())
def l8 (j:(List Int)) (o:Int):Option (Int):=mn (λk I n=>oA j o k n) (λ_=>some (-1)) ((j.length:Int):Int).toNat 0 ()
def mF (j:aP) (I:Int):Option (Int):=(l8 j.qK I).bind λo=>some o
def ke (j:aB) (o:aB):Option (aB):=(iJ j.N o.D).bind λI=>(iJ o.N j.D).bind λJ=>(mg I J).bind λR=>(iJ j.D o.D).bind λU=>(nL R U).bind λO=>some O
def oE (j:aB):Option (aB):=(mh j.N).bind λo=>some (aB.mk o j.D)
def kY (j:aB) (o:aB):Option (aB):=(oE o).bind λI=>(ke j I).bind λJ=>some J
def vf (I:Nat) (J:(List aB)) (j:List Nat) (o:List (List aB)) (R:(List Nat×List (List aB))->Option ((List Nat×List (List aB)))):Option ((List Nat×List (List aB))):=fU ((([]:List aB).length+J.length)*64<=140737488355328) (idx j (I:Int) λU=>R ((j.set (((I:Int):Int).toNat) o.length),(o++[([]:List aB)++J])))
def uQ (o:(List (List aB))):Option ((List Nat×List (List aB))):=fU (0<=(o.length:Int)/\(o.length:Int)*24<=140737488355328) (gM (λk y j n=>vf k y j.1 j.2 n) (λj=>some (j.1,j.2)) 0 o ((List.replicate ((o.length:Int):Int).toNat 0),([[]])))
def dO (j:aB):Int:=(iI j.N)
def qb (j:aB) (o:aB):Option (aB):=(iJ j.N o.D).bind λI=>(iJ j.D o.N).bind λJ=>(nL I J).bind λR=>some R
def oS (J:Int) (j:(List Int×Int×List Nat×List (List aB))->Option ((List Nat×List (List aB))×(List Int))) (R:List Int) (o:List Nat) (I:List (List aB)):Option ((List Nat×List (List aB))×(List Int)):=j (R,i64.wrap (J+1),o,I)
def ly (j:List (List aB)->Option ((List Nat×List (List aB))×(List Int))) (o:List (List aB)):Option ((List Nat×List (List aB))×(List Int)):=j o
def m_ (I:Int) (j:(Int×List (List aB))->Option ((List Nat×List (List aB))×(List Int))) (o:List (List aB)):Option ((List Nat×List (List aB))×(List Int)):=j (i64.wrap (I+1),o)
def oU (I:List Int) (J:List Nat) (R:Int) (U:Nat) (O:Nat) (NQ:List (List aB)->Option ((List Nat×List (List aB))×(List Int))) (Y:Nat) (NR:aB) (o:Int) (j:List (List aB)) (NP:(Int×List (List aB))->Option ((List Nat×List (List aB))×(List Int))):Option ((List Nat×List (List aB))×(List Int)):=idx ((J.set (((I.length:Int):Int).toNat) U).set ((R:Int).toNat) O) (Y:Int) λNS=>if decide (o<(((j[NS]?).getD []).length:Int)) then (idx ((J.set (((I.length:Int):Int).toNat) U).set ((R:Int).toNat) O) (I.length:Int) λNT=>idx ((j[NT]?).getD []) o λNU=>if !decide ((dO NU)=0) then (idx ((J.set (((I.length:Int):Int).toNat) U).set ((R:Int).toNat) O) (Y:Int) λZ=>idx ((J.set (((I.length:Int):Int).toNat) U).set ((R:Int).toNat) O) (Y:Int) λNV=>idx ((j[NV]?).getD []) o λNW=>idx ((J.set (((I.length:Int):Int).toNat) U).set ((R:Int).toNat) O) (I.length:Int) λNX=>idx ((j[NX]?).getD []) o λNY=>(mi NR NY).bind λNZ=>(kY NW NZ).bind λN0=>idx ((j[Z]?).getD []) o λN1=>m_ o NP (j.set Z (((j[Z]?).getD []).set ((o:Int).toNat) N0))) else (m_ o NP j)) else (ly NQ j)
def qG (o:List Int) (U:Int) (J:List Nat) (O:Int) (Y:Nat) (Z:Nat) (I:Nat) (j:List (List aB)) (R:List (List aB)->Option ((List Nat×List (List aB))×(List Int))):Option ((List Nat×List (List aB))×(List Int)):=if decide ((I:Int)=(o.length:Int)) then (ly R j) else (idx ((J.set (((o.length:Int):Int).toNat) Y).set ((O:Int).toNat) Z) (I:Int) λNQ=>idx ((j[NQ]?).getD []) U λNR=>if decide ((dO NR)=0) then (ly R j) else (idx ((J.set (((o.length:Int):Int).toNat) Y).set ((O:Int).toNat) Z) (I:Int) λNS=>idx ((j[NS]?).getD []) U λNT=>cE (λNP n=>oU o J O Y Z R I NT NP.1 NP.2 n) a_ (U,j)))
def oT (j:List Int) (Y:Int) (o:List Nat) (NQ:(List Int×Int×List Nat×List (List aB))->Option ((List Nat×List (List aB))×(List Int))) (J:Int) (R:Nat) (U:Nat) (NS:aB) (O:Int) (I:List (List aB)) (NR:(Int×List (List aB))->Option ((List Nat×List (List aB))×(List Int))):Option ((List Nat×List (List aB))×(List Int)):=idx ((o.set (((j.length:Int):Int).toNat) R).set ((J:Int).toNat) U) (j.length:Int) λNT=>if decide (O<(((I[NT]?).getD []).length:Int)) then (idx ((o.set (((j.length:Int):Int).toNat) R).set ((J:Int).toNat) U) (j.length:Int) λZ=>idx ((o.set (((j.length:Int):Int).toNat) R).set ((J:Int).toNat) U) (j.length:Int) λNU=>idx ((I[NU]?).getD []) O λNV=>(qb NV NS).bind λNW=>idx ((I[Z]?).getD []) O λNX=>NR (i64.wrap (O+1),(I.set Z (((I[Z]?).getD []).set ((O:Int).toNat) NW)))) else (fU ((((o.set (((j.length:Int):Int).toNat) R).set ((J:Int).toNat) U).length:Int)<=9223372036854775807) (mn (λk NP n=>qG j Y o J R U k NP n) (λNP=>fU ((j.length+([Y]:List Int).length)*8<=140737488355328) (oS Y NQ (j++([Y]:List Int)) ((o.set (((j.length:Int):Int).toNat) R).set ((J:Int).toNat) U) NP)) ((((o.set (((j.length:Int):Int).toNat) R).set ((J:Int).toNat) U).length:Int):Int).toNat 0 I))
def oV (o:List Int) (J:Int) (j:List Nat) (R:List (List aB)) (O:(List Int×Int×List Nat×List (List aB))->Option ((List Nat×List (List aB))×(List Int))) (I:Int):Option ((List Nat×List (List aB))×(List Int)):=if decide (I=(j.length:Int)) then (oS J O o j R) else (idx j I λU=>idx j (o.length:Int) λY=>idx j (o.length:Int) λNR=>idx (j.set (((o.length:Int):Int).toNat) U) I λNS=>idx ((j.set (((o.length:Int):Int).toNat) U).set ((I:Int).toNat) Y) (o.length:Int) λNP=>idx ((R[NP]?).getD []) J λNQ=>cE (λZ n=>oT o J j O I U Y NQ Z.1 Z.2 n) a_ (J,R))
def sI (U:List Int) (J:Int) (j:List Nat) (I:List (List aB)) (R:(List Int×Int×List Nat×List (List aB))->Option ((List Nat×List (List aB))×(List Int))) (o:Int) (O:Int->Option ((List Nat×List (List aB))×(List Int))):Option ((List Nat×List (List aB))×(List Int)):=if decide (o<(j.length:Int)) then (idx j o λY=>idx ((I[Y]?).getD []) J λZ=>if decide ((dO Z)=0) then (O (i64.wrap (o+1))) else (oV U J j I R o)) else (oV U J j I R o)
def mZ (O:Int) (j:List Int) (J:Int) (o:List Nat) (I:List (List aB)) (R:(List Int×Int×List Nat×List (List aB))->Option ((List Nat×List (List aB))×(List Int))):Option ((List Nat×List (List aB))×(List Int)):=if (decide (J<O)) && (decide ((j.length:Int)<(o.length:Int))) then (cE (λU n=>sI j J o I R U n) a_ (j.length:Int)) else (some ((o,I),j))
def rj (I:(List (List aB))) (J:Int):Option ((List Nat×List (List aB))×(List Int)):=(uQ I).bind λo=>cE (λj n=>mZ J j.1 j.2.1 j.2.2.1 j.2.2.2 n) a_ (([]:List Int),0,o.1,o.2)
def tj (R:(List (List aB))) (J:Nat) (j:List Nat) (I:List (List aB)) (U:(List Nat×List (List aB))->Option ((List (List aB))×Bool)):Option ((List (List aB))×Bool):=idx j (J:Int) λo=>fU (0<=(R.length:Int)/\(R.length:Int)<=(((I[o]?).getD []).length:Int)) (idx j (J:Int) λO=>fU (lone j (((J:Int):Int).toNat) o=true) (U ((j.set (((J:Int):Int).toNat) o),(I.set o (((I[o]?).getD []).drop ((R.length:Int):Int).toNat)))))
def ti (R:(List (List aB))) (j:Nat) (J:List Nat) (o:List (List aB)) (Y:(List Nat×List (List aB))->Option ((List (List aB))×Bool)):Option ((List (List aB))×Bool):=idx R (j:Int) λI=>fU ((([]:List aB).length+I.length)*64<=140737488355328) ((pn (R.length:Int)).bind λU=>fU (((([]:List aB)++I).length+U.length)*64<=140737488355328) (idx J (j:Int) λNP=>idx (J.set (((j:Int):Int).toNat) o.length) (j:Int) λO=>(mQ 1).bind λZ=>idx (((o++[(([]:List aB)++I)++U])[O]?).getD []) (i64.wrap ((R.length:Int)+(j:Int))) λNQ=>Y ((J.set (((j:Int):Int).toNat) o.length),((o++[(([]:List aB)++I)++U]).set O ((((o++[(([]:List aB)++I)++U])[O]?).getD []).set ((i64.wrap ((R.length:Int)+(j:Int)):Int).toNat) Z)))))
def qk (j:(List (List aB))):Option ((List (List aB))×Bool):=fU (0<=(j.length:Int)/\(j.length:Int)*24<=140737488355328) (mn (λk o n=>ti j k o.1 o.2 n) (λo=>(rj (rJ o.1 o.2) (j.length:Int)).bind λI=>if decide ((I.2.length:Int)<(j.length:Int)) then (some ([],false)) else (fU ((I.1.1.length:Int)<=9223372036854775807) (mn (λk J n=>tj j k J.1 J.2 n) (λJ=>some (rJ J.1 J.2,true)) ((I.1.1.length:Int):Int).toNat 0 (I.1.1,I.1.2)))) ((j.length:Int):Int).toNat 0 ((List.replicate ((j.length:Int):Int).toNat 0),([[]])))
def jI (j:List (List aB)->Option (aP)) (o:List (List aB)):Option (aP):=j o
def kL (R:List Nat) (Y:List (List aB)->Option (aP)) (Z:aB) (J:(Int)) (o:(Int)) (j:List (List aB)):Option (aP):=if (decide (0<=J)) && (decide (0<=o)) then (idx R J λI=>idx R o λU=>idx R J λNP=>idx ((j[NP]?).getD []) o λNQ=>(kY NQ Z).bind λO=>idx R o λNR=>idx ((j[NR]?).getD []) J λNS=>(kY NS Z).bind λNT=>idx ((j[I]?).getD []) o λNU=>idx (((j.set I (((j[I]?).getD []).set ((o:Int).toNat) O))[U]?).getD []) J λNV=>jI Y ((j.set I (((j[I]?).getD []).set ((o:Int).toNat) O)).set U ((((j.set I (((j[I]?).getD []).set ((o:Int).toNat) O))[U]?).getD []).set ((J:Int).toNat) NT))) else (jI Y j)
def kM (I:List Nat) (U:List (List aB)->Option (aP)) (J:aB) (O:(Int)) (j:(Int)) (o:List (List aB)):Option (aP):=if decide (0<=j) then (idx I j λR=>idx I j λY=>idx ((o[Y]?).getD []) j λZ=>(ke Z J).bind λNP=>idx ((o[R]?).getD []) j λNQ=>kL I U J O j (o.set R (((o[R]?).getD []).set ((j:Int).toNat) NP))) else (kL I U J O j o)
def lP (I:aP) (J:List Nat) (O:Nat) (U:aB) (o:List (List aB)) (R:List (List aB)->Option (aP)):Option (aP):=idx I.pK (O:Int) λNP=>(mF I NP).bind λj=>idx I.To (O:Int) λNQ=>(mF I NQ).bind λZ=>idx I.pK (O:Int) λNR=>idx I.To (O:Int) λNS=>if decide (NR=NS) then (jI R o) else (if decide (0<=j) then (idx J j λY=>idx J j λNT=>idx ((o[NT]?).getD []) j λNU=>(ke NU U).bind λNV=>idx ((o[Y]?).getD []) j λNW=>kM J R U j Z (o.set Y (((o[Y]?).getD []).set ((j:Int).toNat) NV))) else (kM J R U j Z o))
def pR (R:aP) (I:Nat) (j:List Nat) (o:List (List aB)) (J:(List Nat×List (List aB))->Option (aP)):Option (aP):=(pn (R.qK.length:Int)).bind λU=>idx j (I:Int) λO=>J ((j.set (((I:Int):Int).toNat) o.length),(o++[U]))
def nD (j:aP):Option (aP):=fU (0<=(j.qK.length:Int)/\(j.qK.length:Int)*24<=140737488355328) (fU (((List.replicate ((j.qK.length:Int):Int).toNat 0).length:Int)<=9223372036854775807) (mn (λk o n=>pR j k o.1 o.2 n) (λo=>gM (λk y I n=>lP j o.1 k y I n) (λI=>(qk (rJ o.1 I)).bind λJ=>some (aP.mk j.ve j.pK j.To j.B_ j.C j.qK J.1)) 0 j.B_ o.2) (((List.replicate ((j.qK.length:Int):Int).toNat 0).length:Int):Int).toNat 0 ((List.replicate ((j.qK.length:Int):Int).toNat 0),([[]]))))
def rh (o:(List (Int×Bool))) (j:((List (Int×Bool))×List Int)->Option ((Option aP))) (I:Int) (J:List Int):Option ((Option aP)):=j ((u4 o I true),J)
def vQ (R:Nat) (j:Int) (o:(List (Int×Bool))) (I:List Int) (J:((List (Int×Bool))×List Int)->Option ((Option aP))):Option ((Option aP)):=if (rI o j).getD false then (fU ((I.length+([((R:Int))]:List Int).length)*8<=140737488355328) (rh o J j (I++([((R:Int))]:List Int)))) else (rh o J j I)
def vP (I:aG) (J:(aQ)) (NV:Nat) (j:aZ) (R:List Int) (U:List Int) (O:List aB) (Y:List aB) (NR:(List Int×List Int×List aB×List aB)->Option ((Option aP))):Option ((Option aP)):=(aX I.cA j.pK).bind λNS=>idx J.pV NS λZ=>fU ((R.length+([Z]:List Int).length)*8<=140737488355328) ((aX I.cA j.To).bind λNT=>idx J.pV NT λNP=>fU ((U.length+([NP]:List Int).length)*8<=140737488355328) ((ri 1000000 (i64.wrap (j.X*j.AN))).bind λo=>fU ((O.length+([o]).length)*64<=140737488355328) ((ri (i64.wrap (0-j.Shift)) 1000).bind λNU=>(mi o NU).bind λNQ=>fU ((Y.length+([NQ]).length)*64<=140737488355328) (NR ((R++([Z]:List Int)),(U++([NP]:List Int)),(O++([o])),(Y++([NQ])))))))
def vC (I:aG):Option ((Option aP)):=(fG I).bind λJ=>gM (λk y j n=>vP I J k y j.1 j.2.1 j.2.2.1 j.2.2.2 n) (λj=>gM (λk y o n=>vQ k y o.1 o.2 n) (λo=>(nD (aP.mk J j.1 j.2.1 j.2.2.1 j.2.2.2 o.2 [])).bind λR=>some (some R)) 0 J.bH (([]:(List (Int×Bool))),([]:List Int))) 0 I.aU (([]:List Int),([]:List Int),([]:List aB),([]:List aB))
def i_ (j:aP):Int:=(j.ve.bH.length:Int)
def qV (R:Nat) (J:Int) (j:List aB) (I:List aB->Option ((List aB))):Option ((List aB)):=(mQ J).bind λo=>fU ((j.length+([o]).length)*64<=140737488355328) (I (j++([o])))
def qU (J:aP) (R:Nat) (U:Int) (j:List Int) (I:List Int->Option ((List aB))):Option ((List aB)):=idx J.ve.pV (R:Int) λo=>idx j o λO=>idx j o λY=>I (j.set ((o:Int).toNat) (i64.wrap (O+U)))
def oK (j:aP) (J:(List Int)):Option ((List aB)):=fU (0<=(i_ j)/\(i_ j)*8<=140737488355328) (gM (λk y o n=>qU j k y o n) (λo=>gM (λk y I n=>qV k y I n) (λI=>some I) 0 o ([]:List aB)) 0 J (List.replicate ((i_ j):Int).toNat (0:Int)))
def mS (j:(Bool×(List bT)×Bool×(List bT))->Option (aB)) (o:Bool) (I:(List bT)) (J:Bool) (R:(List bT)):Option (aB):=j (o,I,J,R)
def uH (Y:(List aB)) (Z:(List aB)) (o:Nat) (J:Bool) (R:(List bT)) (U:Bool) (O:(List bT)) (j:(Bool×(List bT)×Bool×(List bT))->Option (aB)):Option (aB):=idx Y (o:Int) λNP=>if decide ((dO NP)=0) then (mS j J R U O) else (idx Z (o:Int) λNQ=>if !decide ((dO NQ)=0) then (idx Y (o:Int) λNR=>idx Z (o:Int) λNS=>(mi NR NS).bind λNT=>(ke (aB.mk (aD.mk J R) (aD.mk U O)) NT).bind λI=>mS j I.N.minus I.N.words I.D.minus I.D.words) else (mS j J R U O))
def tL (I:(List aB)) (J:(List aB)):Option (aB):=(mQ 0).bind λo=>mn (λk j n=>uH I J k j.1 j.2.1 j.2.2.1 j.2.2.2 n) (λj=>some (aB.mk (aD.mk j.1 j.2.1) (aD.mk j.2.2.1 j.2.2.2))) ((I.length:Int):Int).toNat 0 (o.N.minus,o.N.words,o.D.minus,o.D.words)
def pQ (J:aP) (R:List aB) (U:Nat) (j:Int) (o:List aB) (I:List aB->Option ((List aB))):Option ((List aB)):=idx J.ra (U:Int) λO=>(tL O R).bind λY=>idx o j λZ=>I (o.set ((j:Int).toNat) Y)
def pP (J:(List aB)) (j:Nat) (R:Int) (o:List aB) (I:List aB->Option ((List aB))):Option ((List aB)):=idx J R λU=>idx o (j:Int) λO=>I (o.set (((j:Int):Int).toNat) U)
def nC (j:aP) (J:(List aB)):Option ((List aB)):=fU (0<=(j.qK.length:Int)/\(j.qK.length:Int)*64<=140737488355328) (gM (λk y o n=>pP J k y o n) (λo=>(pn (i_ j)).bind λR=>gM (λk y I n=>pQ j o k y I n) (λI=>some I) 0 j.qK R) 0 j.qK (List.replicate ((j.qK.length:Int):Int).toNat ((aB.mk (aD.mk false []) (aD.mk false [])):aB)))
def nJ (o:aP) (I:Nat) (U:aB) (j:List aB) (Y:List aB->Option ((List aB))):Option ((List aB)):=idx o.pK (I:Int) λJ=>idx o.pK (I:Int) λZ=>idx j Z λNP=>(kY NP U).bind λR=>idx j J λNT=>idx o.To (I:Int) λO=>idx o.To (I:Int) λNQ=>idx (j.set ((J:Int).toNat) R) NQ λNR=>(ke NR U).bind λNS=>idx (j.set ((J:Int).toNat) R) O λNU=>Y ((j.set ((J:Int).toNat) R).set ((O:Int).toNat) NS)
def nB (j:aP) (I:(List aB)):Option ((List aB)):=fU (I.length*64<=140737488355328) (gM (λk y o n=>nJ j k y o n) (λo=>(nC j o).bind λJ=>some J) 0 j.C I)
def l9 (J:Int) (I:(Int×List U8)->Option (N2×Bool)) (j:bT) (o:List U8):Option (N2×Bool):=fU (o.length+(sV (u64.wrap (j.n))).size<=140737488355328) (I (i64.wrap (J-1),(o++ml (sV (u64.wrap (j.n))))))
def l_ (j:List U8) (o:N2):Option (N2×Bool):=some (o,(decide (((xV j).size:Int)<=2000)))
def pC (R:aD) (J:List bT) (O:Int) (j:List U8) (I:(Int×List U8)->Option (N2×Bool)):Option (N2×Bool):=if decide (0<=O) then (idx J O λo=>fU (0<=(u64.wrap (o.n))/\(u64.wrap (o.n))<=18446744073709551615) (if decide (O<(i64.wrap ((J.length:Int)-1))) then (fU (0<=((sV (u64.wrap (o.n))).size:Int)/\((sV (u64.wrap (o.n))).size:Int)<=((⟨#[48,48,48,48,48,48,48,48,48]⟩:N2).size:Int)) (fU (j.length+((⟨#[48,48,48,48,48,48,48,48,48]⟩:N2).extract ((((sV (u64.wrap (o.n))).size:Int):Int).toNat) ((⟨#[48,48,48,48,48,48,48,48,48]⟩:N2).size)).size<=140737488355328) (l9 O I o (j++ml ((⟨#[48,48,48,48,48,48,48,48,48]⟩:N2).extract ((((sV (u64.wrap (o.n))).size:Int):Int).toNat) ((⟨#[48,48,48,48,48,48,48,48,48]⟩:N2).size)))))) else (l9 O I o j))) else (fU (0<j.length) (if R.minus then (fU ((⟨#[45]⟩:N2).size+(xV j).size<=maxLen) (l_ j ((⟨#[45]⟩:N2)++(xV j)))) else (l_ j (xV j))))
def rC (U:aD) (j:List bT) (I:(List bT)) (R:(List bT×(List bT))->Option (N2×Bool)):Option (N2×Bool):=if decide (0<(I.length:Int)) then ((nT I 1000000000).bind λo=>fU ((j.length+([⟨o.2⟩]:List bT).length)*4<=140737488355328) ((kC false o.1).bind λO=>R ((j++([⟨o.2⟩]:List bT)),O.words))) else (cE (λJ n=>pC U j J.1 J.2 n) a_ (i64.wrap ((j.length:Int)-1),([]:List U8)))
def nP (j:aD):Option (N2×Bool):=if decide ((j.words.length:Int)=0) then (some ((⟨#[48]⟩),true)) else (if decide (210<(j.words.length:Int)) then (some ((⟨#[]⟩),false)) else (cE (λo n=>rC j o.1 o.2 n) a_ (([]:List bT),j.words)))
def pD (I:aB):Option (N2×Bool):=(nP I.N).bind λj=>if !j.2 then (some ((⟨#[]⟩),false)) else ((nP I.D).bind λo=>if decide (o.1=(⟨#[49]⟩)) then (some (j.1,o.2)) else (fU (j.1.size+(⟨#[47]⟩:N2).size<=maxLen) (fU ((j.1++(⟨#[47]⟩)).size+o.1.size<=maxLen) (some (((j.1++(⟨#[47]⟩))++o.1),o.2)))))
def th (j:Nat) (R:aB) (o:List N2) (J:List N2->Option ((List N2)×Bool)):Option ((List N2)×Bool):=(pD R).bind λI=>if !I.2 then (some (([]:List N2),false)) else (idx o (j:Int) λU=>J (o.set (((j:Int):Int).toNat) I.1))
def tA (j:(List aB)):Option ((List N2)×Bool):=fU (0<=(j.length:Int)/\(j.length:Int)*16<=140737488355328) (gM (λk y o n=>th k y o n) (λo=>some (o,true)) 0 j (List.replicate ((j.length:Int):Int).toNat ((⟨#[]⟩):N2)))
def nV (o:(List aB)):Option ((List N2)×Int):=(tA o).bind λj=>if !j.2 then (some (([]:List N2),2)) else (some (j.1,0))
def qv (j:aP) (I:(List aB)) (o:Nat) (O:aB) (J:List aB) (U:List aB->Option ((List aB))):Option ((List aB)):=idx j.B_ (o:Int) λY=>idx j.pK (o:Int) λZ=>idx I Z λNP=>idx j.To (o:Int) λNQ=>idx I NQ λNR=>(kY NP NR).bind λNS=>(mi Y NS).bind λNT=>(ke NT O).bind λR=>fU ((J.length+([R]).length)*64<=140737488355328) (U (J++([R])))
def nZ (o:aP) (I:(List aB)):Option ((List aB)):=gM (λk y j n=>qv o I k y j n) (λj=>some j) 0 o.C ([]:List aB)
def pS (j:aG) (Y:(List Int)):Option (gW×Int):=(pO j Y).bind λo=>if !decide (o=0) then (some ((gW.mk ([]:List N2) ([]:List N2)),o)) else ((vC j).bind λU=>F5 U none (λO=>(oK O Y).bind λZ=>(nB O Z).bind λI=>(nV I).bind λJ=>(nZ O I).bind λNN=>(nV NN).bind λR=>if (!decide (J.2=0)) || (!decide (R.2=0)) then (some ((gW.mk ([]:List N2) ([]:List N2)),2)) else (some ((gW.mk J.1 R.1),0))))
def iT (j:N2) (o:Int):Int:=(K0 j o)
def kd (j:N2) (I:N2):Option (Int):=if (decide ((I.size:Int)=0)) || (decide (I=j)) then (some 0) else (if decide ((I.size:Int)=1) then (idx (ml I) 0 λo=>some (iT j o.n)) else (if decide ((j.size:Int)<=(I.size:Int)) then (some (-1)) else none))
def kR (j:N2) (I:N2):Option (N2×N2×Bool):=(kd j I).bind λo=>if decide (0<=o) then (fU (0<=o/\o<=(j.size:Int)) (fU (0<=(i64.wrap (o+(I.size:Int)))/\(i64.wrap (o+(I.size:Int)))<=(j.size:Int)) (some ((j.extract 0 ((o:Int).toNat)),(j.extract ((i64.wrap (o+(I.size:Int)):Int).toNat) j.size),true)))) else (some (j,(⟨#[]⟩),false))
def pq (o:N2) (I:N2):Option (N2×N2×Bool):=(kR o I).bind λj=>some (j.1,j.2.1,j.2.2)
def gO (o:N2) (j:N2):Option (Bool):=if decide ((j.size:Int)<=(o.size:Int)) then (fU (0<=(j.size:Int)/\(j.size:Int)<=(o.size:Int)) (some (decide ((o.extract 0 (((j.size:Int):Int).toNat))=j)))) else (some false)
def nH (o:N2) (j:N2):Option (Bool):=(gO o j).bind λI=>some I
def ks (o:N2) (j:N2):Option (N2):=(gO o j).bind λI=>if I then (fU (0<=(j.size:Int)/\(j.size:Int)<=(o.size:Int)) (some (o.extract (((j.size:Int):Int).toNat) o.size))) else (some o)
def mU (o:N2) (j:N2):Option (N2):=(ks o j).bind λI=>some I
def rV (o:(Bool)) (I:Bool) (j:(List bT)):Option (aD):=if o then (some (aD.mk (decide (0<(j.length:Int))) j)) else (some (aD.mk false j))
def tV (U:(Bool)) (j:N2) (o:Bool) (I:(List bT)) (R:(N2×Bool×(List bT))->Option (aD)):Option (aD):=if decide (0<(j.size:Int)) then (fU (0<=(i64.wrap ((Int.tmod (i64.wrap ((j.size:Int)-1)) 9)+1))/\(i64.wrap ((Int.tmod (i64.wrap ((j.size:Int)-1)) 9)+1))<=(j.size:Int)) (fU ((j.extract 0 ((i64.wrap ((Int.tmod (i64.wrap ((j.size:Int)-1)) 9)+1):Int).toNat)).size≠0/\(j.extract 0 ((i64.wrap ((Int.tmod (i64.wrap ((j.size:Int)-1)) 9)+1):Int).toNat)).size<=281474976710656/\(JN (j.extract 0 ((i64.wrap ((Int.tmod (i64.wrap ((j.size:Int)-1)) 9)+1):Int).toNat))).2=false) ((nk 1000000000).bind λO=>(iJ (aD.mk o I) O).bind λY=>(nk (i64.wrap ((JN (j.extract 0 ((i64.wrap ((Int.tmod (i64.wrap ((j.size:Int)-1)) 9)+1):Int).toNat))).1))).bind λZ=>(mg Y Z).bind λJ=>fU (0<=(i64.wrap ((Int.tmod (i64.wrap ((j.size:Int)-1)) 9)+1))/\(i64.wrap ((Int.tmod (i64.wrap ((j.size:Int)-1)) 9)+1))<=(j.size:Int)) (R (j.extract ((i64.wrap ((Int.tmod (i64.wrap ((j.size:Int)-1)) 9)+1):Int).toNat) j.size,J.minus,J.words))))) else (rV U o I)
def nK (o:N2):Option (aD):=(nH o (⟨#[45]⟩)).bind λI=>(mU o (⟨#[45]⟩)).bind λJ=>cE (λj n=>tV I j.1 j.2.1 j.2.2 n) a_ (J,false,[])
def rR (o:N2):Option (aB):=(pq o (⟨#[47]⟩)).bind λj=>if !j.2.2 then ((nK j.1).bind λI=>(nk 1).bind λJ=>some (aB.mk I J)) else ((nK j.1).bind λR=>(nK j.2.1).bind λU=>some (aB.mk R U))
def p_ (j:aB):Option (aB):=if decide ((dO j)<0) then ((oE j).bind λo=>some o) else (some j)
def rT (j:aD) (o:aD):Option (Int):=(oD j o).bind λI=>some (iI I)
def qa (j:aB) (o:aB):Option (Int):=(iJ j.N o.D).bind λI=>(iJ o.N j.D).bind λJ=>(rT I J).bind λR=>some R
def o9 (j:List N2->Option ((List N2))) (o:List N2):Option ((List N2)):=j o
def sL (O:(List N2)) (J:Nat) (j:aZ) (o:List N2) (I:List N2->Option ((List N2))):Option ((List N2)):=idx O (J:Int) λR=>(rR R).bind λU=>(p_ U).bind λY=>(mQ j.t_).bind λZ=>(qa Y Z).bind λNO=>if decide (0<NO) then (fU ((o.length+([j.Name]).length)*16<=140737488355328) (o9 I (o++([j.Name])))) else (o9 I o)
def ob (o:aG) (I:(List N2)):Option ((List N2)):=gM (λk y j n=>sL I k y j n) (λj=>some j) 0 o.aU ([]:List N2)
def qd (o:aG):Option (gW×(List N2)×Int):=(jK o).bind λI=>if !decide (I.2=0) then (some ((gW.mk ([]:List N2) ([]:List N2)),([]:List N2),I.2)) else ((pS o I.1).bind λj=>if !decide (j.2=0) then (some ((gW.mk ([]:List N2) ([]:List N2)),([]:List N2),j.2)) else ((ob o j.1.u5).bind λJ=>some (j.1,J,0)))
def kZ (I:aG) (on:(List N2)):Option (gW×(List N2)×Int):=(oa I on).bind λj=>if !decide (j.2=0) then (some ((gW.mk ([]:List N2) ([]:List N2)),([]:List N2),j.2)) else ((qd j.1).bind λo=>some (o.1,o.2.1,o.2.2))
def ot (o:aA) (j:N2):Bool:=(decide (o.Name=j))
def gQ (J:(List aA)) (j:N2) (o:Nat) (I:Unit->Option (Int)):Option (Int):=idx J (o:Int) λR=>if (ot R j) then (some (o:Int)) else (I ())
def dC (o:(List aA)) (j:N2):Option (Int):=mn (λk I n=>gQ o j k n) (λ_=>some (-1)) ((o.length:Int):Int).toNat 0 ()
def nt (j:dW) (name:N2):Option (Int):=(dC j.tH name).bind λo=>some o
def pB (j:dW) (name:N2) (J:Int):Option (Int×dW):=(bV name).bind λo=>if !o then (some (6,j)) else (if (decide (J<j.last)) || (decide (200000<J)) then (some (12,j)) else ((nt j name).bind λI=>if decide (0<=I) then (some (7,j)) else (if decide ((j.tH.length:Int)=24) then (some (9,j)) else (fU ((j.tH.length+([(aA.mk name J false)]).length)*32<=140737488355328) (some (0,(dW.mk j.dI (j.tH++([(aA.mk name J false)])) J)))))))
def nh (j:Int):Bool:=(!decide (j=j))
def jP (o:Int) (j:Int):Int:=if (nh o) then (if (nh j) then 0 else (-1)) else (if (nh j) then 1 else (if decide (o<j) then (-1) else (if decide (j<o) then 1 else 0)))
def iF (o:N2) (j:N2):Int:=if (eM o) then (if (eM j) then 0 else (-1)) else (if (eM j) then 1 else (if xO o j then (-1) else (if xO j o then 1 else 0)))
def tS (I:Nat) (j:Int) (o:Unit->Option (Int)):Option (Int):=if !decide (j=0) then (some j) else (o ())
def rf (I:(List Int)):Option (Int):=gM (λk y j n=>tS k y n) (λ_=>some 0) 0 I ()
def cZ (j:aA) (o:aA):Option (Int):=(rf ([((jP j.Time o.Time)),((iF j.Name o.Name))]:List Int)).bind λI=>some I
def eP (O:Int) (J:Int) (I:(List aA×Int)->Option ((List aA))) (o:List aA) (j:Int) (U:(List aA×Int)->Option ((List aA))):Option ((List aA)):=if decide (O<j) then (idx o j λY=>idx o (i64.wrap (j-1)) λZ=>(cZ Y Z).bind λNP=>if decide (NP<0) then (idx o (i64.wrap (j-1)) λR=>idx o j λNQ=>idx o j λNR=>idx (o.set ((j:Int).toNat) R) (i64.wrap (j-1)) λNS=>U (((o.set ((j:Int).toNat) R).set ((i64.wrap (j-1):Int).toNat) NQ),i64.wrap (j-1))) else (I (o,i64.wrap (J+1)))) else (I (o,i64.wrap (J+1)))
def eO (R:Int) (U:Int) (o:List aA) (j:Int) (J:(List aA×Int)->Option ((List aA))):Option ((List aA)):=if decide (j<U) then (cE (λI n=>eP R j J I.1 I.2 n) a_ (o,j)) else (some o)
def cN (J:(List aA)) (j:Int) (I:Int):Option ((List aA)):=cE (λo n=>eO j I o.1 o.2 n) a_ (J,i64.wrap (j+1))
def bA (first:Int) (j:List aA) (O:Int) (I:(List aA×Int)->Option ((List aA))) (Y:Int):Option ((List aA)):=idx j (i64.wrap (first+O)) λJ=>idx j (i64.wrap (first+Y)) λR=>(cZ J R).bind λU=>if !(decide (U<0)) then (some j) else (idx j (i64.wrap (first+Y)) λo=>idx j (i64.wrap (first+O)) λZ=>idx j (i64.wrap (first+O)) λNN=>idx (j.set ((i64.wrap (first+O):Int).toNat) o) (i64.wrap (first+Y)) λNO=>I (((j.set ((i64.wrap (first+O):Int).toNat) o).set ((i64.wrap (first+Y):Int).toNat) Z),Y))
def fS (hi:Int) (first:Int) (j:List aA) (O:Int) (o:(List aA×Int)->Option ((List aA))):Option ((List aA)):=if decide (hi<=(i64.wrap ((i64.wrap (2*O))+1))) then (some j) else (if decide ((i64.wrap ((i64.wrap ((i64.wrap (2*O))+1))+1))<hi) then (idx j (i64.wrap (first+(i64.wrap ((i64.wrap (2*O))+1)))) λI=>idx j (i64.wrap ((i64.wrap (first+(i64.wrap ((i64.wrap (2*O))+1))))+1)) λJ=>(cZ I J).bind λR=>if decide (R<0) then (bA first j O o (i64.wrap ((i64.wrap ((i64.wrap (2*O))+1))+1))) else (bA first j O o (i64.wrap ((i64.wrap (2*O))+1)))) else (bA first j O o (i64.wrap ((i64.wrap (2*O))+1))))
def cB (I:(List aA)) (lo:Int) (hi:Int) (first:Int):Option ((List aA)):=cE (λj n=>fS hi first j.1 j.2 n) a_ (I,lo)
def fQ (j:Int) (o:List aA) (O:Int) (J:(List aA×Int)->Option ((List aA))):Option ((List aA)):=if decide (0<=O) then (idx o (i64.wrap (j+O)) λI=>idx o j λR=>idx o j λY=>idx (o.set ((j:Int).toNat) I) (i64.wrap (j+O)) λZ=>(cB ((o.set ((j:Int).toNat) I).set ((i64.wrap (j+O):Int).toNat) R) 0 O j).bind λU=>J (U,i64.wrap (O-1))) else (some o)
def fP (j:Int) (o:Int) (I:List aA) (O:Int) (R:(List aA×Int)->Option ((List aA))):Option ((List aA)):=if decide (0<=O) then ((cB I O (i64.wrap (o-j)) j).bind λU=>R (U,i64.wrap (O-1))) else (cE (λJ n=>fQ j J.1 J.2 n) a_ (I,i64.wrap ((i64.wrap (o-j))-1)))
def dB (J:(List aA)) (j:Int) (o:Int):Option ((List aA)):=cE (λI n=>fP j o I.1 I.2 n) a_ (J,i64.wrap (Int.tdiv (i64.wrap ((i64.wrap (o-j))-1)) 2))
def bL (Y:(List aA)) (j:Int) (o:Int) (O:Int):Option (Int×Int×Int):=idx Y o λI=>idx Y j λJ=>(cZ I J).bind λR=>if decide (R<0) then (some (o,j,(i64.wrap (O+1)))) else (some (j,o,O))
def cD (O:(List aA)) (J:Int) (R:Int) (U:Int) (Y:Int):Option (Int×Int):=(bL O J R Y).bind λj=>(bL O j.2.1 U j.2.2).bind λo=>(bL O j.1 o.1 o.2.2).bind λI=>some (I.2.1,I.2.2)
def cI (J:(List aA)) (j:Int) (I:Int):Option (Int×Int):=(cD J (i64.wrap (j-1)) j (i64.wrap (j+1)) I).bind λo=>some (o.1,o.2)
def bK (I:Int) (J:Int):Option (Int×Int):=if decide (J=0) then (some (I,1)) else (if decide (J=12) then (some (I,2)) else (some (I,0)))
def cH (I:(List aA)) (J:Int) (O:Int) (Y:Int) (Z:Int):Option (Int×Int):=(cD I J O Y Z).bind λj=>bK j.1 j.2
def cU (O:(List aA)) (j:Int) (o:Int):Option (Int×Int):=if decide (8<=(i64.wrap (o-j))) then (if decide (50<=(i64.wrap (o-j))) then ((cI O (i64.wrap (j+(i64.wrap ((i64.wrap (Int.tdiv (i64.wrap (o-j)) 4))*1)))) 0).bind λI=>(cI O (i64.wrap (j+(i64.wrap ((i64.wrap (Int.tdiv (i64.wrap (o-j)) 4))*2)))) I.2).bind λJ=>(cI O (i64.wrap (j+(i64.wrap ((i64.wrap (Int.tdiv (i64.wrap (o-j)) 4))*3)))) J.2).bind λR=>cH O I.1 J.1 R.1 R.2) else (cH O (i64.wrap (j+(i64.wrap ((i64.wrap (Int.tdiv (i64.wrap (o-j)) 4))*1)))) (i64.wrap (j+(i64.wrap ((i64.wrap (Int.tdiv (i64.wrap (o-j)) 4))*2)))) (i64.wrap (j+(i64.wrap ((i64.wrap (Int.tdiv (i64.wrap (o-j)) 4))*3)))) 0)) else (bK (i64.wrap (j+(i64.wrap ((i64.wrap (Int.tdiv (i64.wrap (o-j)) 4))*2)))) 0)
def eY (j:List aA) (O:Int) (Y:Int) (I:(List aA×Int×Int)->Option ((List aA))):Option ((List aA)):=if decide (O<Y) then (idx j Y λo=>idx j O λJ=>idx j O λR=>idx (j.set ((O:Int).toNat) o) Y λU=>I (((j.set ((O:Int).toNat) o).set ((Y:Int).toNat) J),i64.wrap (O+1),i64.wrap (Y-1))) else (some j)
def cQ (J:(List aA)) (o:Int) (I:Int):Option ((List aA)):=cE (λj n=>eY j.1 j.2.1 j.2.2 n) a_ (J,o,i64.wrap (I-1))
def bM (o:Int) (j:(List aA×Int×Int)->Option (Bool×(List aA))) (I:List aA) (J:Int):Option (Bool×(List aA)):=j (I,J,i64.wrap (o+1))
def gJ (NR:Int) (J:Int) (I:(List aA×Int×Int)->Option (Bool×(List aA))) (R:Int) (o:List aA) (j:Int) (O:(List aA×Int)->Option (Bool×(List aA))):Option (Bool×(List aA)):=if decide (j<NR) then (idx o j λY=>idx o (i64.wrap (j-1)) λZ=>(cZ Y Z).bind λNP=>if !(decide (NP<0)) then (bM J I o R) else (idx o (i64.wrap (j-1)) λU=>idx o j λNQ=>idx o j λNS=>idx (o.set ((j:Int).toNat) U) (i64.wrap (j-1)) λNT=>O (((o.set ((j:Int).toNat) U).set ((i64.wrap (j-1):Int).toNat) NQ),i64.wrap (j+1)))) else (bM J I o R)
def bN (U:Int) (I:Int) (o:(List aA×Int×Int)->Option (Bool×(List aA))) (j:Int) (J:List aA):Option (Bool×(List aA)):=if decide (2<=(i64.wrap (U-j))) then (cE (λR n=>gJ U I o j R.1 R.2 n) a_ (J,i64.wrap (j+1))) else (bM I o J j)
def gK (O:Int) (J:Int) (I:(List aA×Int×Int)->Option (Bool×(List aA))) (R:Int) (o:List aA) (j:Int) (Y:(List aA×Int)->Option (Bool×(List aA))):Option (Bool×(List aA)):=if decide (1<=j) then (idx o j λZ=>idx o (i64.wrap (j-1)) λNP=>(cZ Z NP).bind λNQ=>if !(decide (NQ<0)) then (bN O J I R o) else (idx o (i64.wrap (j-1)) λU=>idx o j λNR=>idx o j λNS=>idx (o.set ((j:Int).toNat) U) (i64.wrap (j-1)) λNT=>Y (((o.set ((j:Int).toNat) U).set ((i64.wrap (j-1):Int).toNat) NR),i64.wrap (j-1)))) else (bN O J I R o)
def aY (Z:Int) (J:Int) (o:List aA) (U:Int) (R:(List aA×Int×Int)->Option (Bool×(List aA))) (j:Int):Option (Bool×(List aA)):=if decide (j=J) then (some (true,o)) else (if decide ((i64.wrap (J-Z))<50) then (some (false,o)) else (idx o (i64.wrap (j-1)) λI=>idx o j λO=>idx o j λNP=>idx (o.set ((j:Int).toNat) I) (i64.wrap (j-1)) λNQ=>if decide (2<=(i64.wrap (j-Z))) then (cE (λY n=>gK J U R j Y.1 Y.2 n) a_ (((o.set ((j:Int).toNat) I).set ((i64.wrap (j-1):Int).toNat) O),i64.wrap (j-1))) else (bN J U R j ((o.set ((j:Int).toNat) I).set ((i64.wrap (j-1):Int).toNat) O))))
def dR (O:Int) (J:Int) (o:List aA) (R:Int) (I:(List aA×Int×Int)->Option (Bool×(List aA))) (j:Int) (U:Int->Option (Bool×(List aA))):Option (Bool×(List aA)):=if decide (j<J) then (idx o j λY=>idx o (i64.wrap (j-1)) λZ=>(cZ Y Z).bind λNP=>if !(decide (NP<0)) then (U (i64.wrap (j+1))) else (aY O J o R I j)) else (aY O J o R I j)
def dQ (U:Int) (O:Int) (j:List aA) (J:Int) (o:Int) (I:(List aA×Int×Int)->Option (Bool×(List aA))):Option (Bool×(List aA)):=if decide (o<5) then (cE (λR n=>dR U O j o I R n) a_ J) else (some (false,j))
def b_ (J:(List aA)) (o:Int) (I:Int):Option (Bool×(List aA)):=cE (λj n=>dQ o I j.1 j.2.1 j.2.2 n) a_ (J,i64.wrap (o+1),0)
def dK (I:Int) (j:List aA) (o:Int):Option (Int×Bool×(List aA)):=idx j I λJ=>idx j o λR=>idx j o λU=>idx (j.set ((o:Int).toNat) J) I λO=>some (o,false,(j.set ((o:Int).toNat) J).set ((I:Int).toNat) R)
def bP (O:Int) (j:List aA) (R:(List aA×Int×Int)->Option (Int×Bool×(List aA))) (o:Int) (I:Int):Option (Int×Bool×(List aA)):=if decide (I<o) then (dK O j I) else (idx j I λJ=>idx j o λU=>idx j o λY=>idx (j.set ((o:Int).toNat) J) I λZ=>R (((j.set ((o:Int).toNat) J).set ((I:Int).toNat) U),i64.wrap (o+1),i64.wrap (I-1)))
def fB (R:Int) (o:List aA) (J:(List aA×Int×Int)->Option (Int×Bool×(List aA))) (I:Int) (j:Int) (U:Int->Option (Int×Bool×(List aA))):Option (Int×Bool×(List aA)):=if decide (I<=j) then (idx o j λO=>idx o R λY=>(cZ O Y).bind λZ=>if !(decide (Z<0)) then (U (i64.wrap (j-1))) else (bP R o J I j)) else (bP R o J I j)
def bQ (U:Int) (o:List aA) (I:Int) (j:(List aA×Int×Int)->Option (Int×Bool×(List aA))) (J:Int):Option (Int×Bool×(List aA)):=cE (λR n=>fB U o j J R n) a_ I
def fC (R:Int) (o:List aA) (I:Int) (J:(List aA×Int×Int)->Option (Int×Bool×(List aA))) (j:Int) (U:Int->Option (Int×Bool×(List aA))):Option (Int×Bool×(List aA)):=if decide (j<=I) then (idx o j λO=>idx o R λY=>(cZ O Y).bind λZ=>if decide (Z<0) then (U (i64.wrap (j+1))) else (bQ R o I J j)) else (bQ R o I J j)
def dL (U:Int) (o:List aA) (I:Int) (J:Int) (j:(List aA×Int×Int)->Option (Int×Bool×(List aA))):Option (Int×Bool×(List aA)):=cE (λR n=>fC U o J j R n) a_ I
def bR (O:(List aA)) (j:Int) (dP:Int) (o:aA) (I:aA) (Z:Int) (Y:Int):Option (Int×Bool×(List aA)):=if decide (Y<Z) then (idx ((O.set ((j:Int).toNat) o).set ((dP:Int).toNat) I) j λR=>idx ((O.set ((j:Int).toNat) o).set ((dP:Int).toNat) I) Y λNM=>idx ((O.set ((j:Int).toNat) o).set ((dP:Int).toNat) I) Y λNO=>idx (((O.set ((j:Int).toNat) o).set ((dP:Int).toNat) I).set ((Y:Int).toNat) R) j λNP=>some (Y,true,(((O.set ((j:Int).toNat) o).set ((dP:Int).toNat) I).set ((Y:Int).toNat) R).set ((j:Int).toNat) NM)) else (idx ((O.set ((j:Int).toNat) o).set ((dP:Int).toNat) I) Y λU=>idx ((O.set ((j:Int).toNat) o).set ((dP:Int).toNat) I) Z λNN=>idx ((O.set ((j:Int).toNat) o).set ((dP:Int).toNat) I) Z λNQ=>idx (((O.set ((j:Int).toNat) o).set ((dP:Int).toNat) I).set ((Z:Int).toNat) U) Y λNR=>cE (λJ n=>dL j J.1 J.2.1 J.2.2 n) a_ (((((O.set ((j:Int).toNat) o).set ((dP:Int).toNat) I).set ((Z:Int).toNat) U).set ((Y:Int).toNat) NN),i64.wrap (Z+1),i64.wrap (Y-1)))
def fD (O:(List aA)) (o:Int) (dP:Int) (I:aA) (J:aA) (Y:Int) (j:Int) (R:Int->Option (Int×Bool×(List aA))):Option (Int×Bool×(List aA)):=if decide (Y<=j) then (idx ((O.set ((o:Int).toNat) I).set ((dP:Int).toNat) J) j λU=>idx ((O.set ((o:Int).toNat) I).set ((dP:Int).toNat) J) o λZ=>(cZ U Z).bind λNN=>if !(decide (NN<0)) then (R (i64.wrap (j-1))) else (bR O o dP I J Y j)) else (bR O o dP I J Y j)
def bS (O:(List aA)) (o:Int) (I:Int) (dP:Int) (J:aA) (R:aA) (Y:Int):Option (Int×Bool×(List aA)):=cE (λj n=>fD O o dP J R Y j n) a_ (i64.wrap (I-1))
def fE (O:(List aA)) (o:Int) (R:Int) (dP:Int) (I:aA) (J:aA) (j:Int) (U:Int->Option (Int×Bool×(List aA))):Option (Int×Bool×(List aA)):=if decide (j<=(i64.wrap (R-1))) then (idx ((O.set ((o:Int).toNat) I).set ((dP:Int).toNat) J) j λY=>idx ((O.set ((o:Int).toNat) I).set ((dP:Int).toNat) J) o λZ=>(cZ Y Z).bind λNO=>if decide (NO<0) then (U (i64.wrap (j+1))) else (bS O o R dP I J j)) else (bS O o R dP I J j)
def bF (O:(List aA)) (j:Int) (J:Int) (dP:Int):Option (Int×Bool×(List aA)):=idx O dP λo=>idx O j λR=>idx O j λU=>idx (O.set ((j:Int).toNat) o) dP λY=>cE (λI n=>fE O j J dP o R I n) a_ (i64.wrap (j+1))
def dD (j:Int) (o:List aA):Option (Int×(List aA)):=some (j,o)
def bD (o:List aA) (R:(List aA×Int×Int)->Option (Int×(List aA))) (j:Int) (I:Int):Option (Int×(List aA)):=if decide (I<j) then (dD j o) else (idx o I λJ=>idx o j λU=>idx o j λO=>idx (o.set ((j:Int).toNat) J) I λY=>R (((o.set ((j:Int).toNat) J).set ((I:Int).toNat) U),i64.wrap (j+1),i64.wrap (I-1)))
def eH (Z:Int) (o:List aA) (J:(List aA×Int×Int)->Option (Int×(List aA))) (I:Int) (j:Int) (R:Int->Option (Int×(List aA))):Option (Int×(List aA)):=if decide (I<=j) then (idx o Z λU=>idx o j λO=>(cZ U O).bind λY=>if decide (Y<0) then (R (i64.wrap (j-1))) else (bD o J I j)) else (bD o J I j)
def bE (U:Int) (o:List aA) (I:Int) (j:(List aA×Int×Int)->Option (Int×(List aA))) (J:Int):Option (Int×(List aA)):=cE (λR n=>eH U o j J R n) a_ I
def eI (R:Int) (o:List aA) (I:Int) (J:(List aA×Int×Int)->Option (Int×(List aA))) (j:Int) (U:Int->Option (Int×(List aA))):Option (Int×(List aA)):=if decide (j<=I) then (idx o R λO=>idx o j λY=>(cZ O Y).bind λZ=>if !(decide (Z<0)) then (U (i64.wrap (j+1))) else (bE R o I J j)) else (bE R o I J j)
def eG (U:Int) (o:List aA) (I:Int) (J:Int) (j:(List aA×Int×Int)->Option (Int×(List aA))):Option (Int×(List aA)):=cE (λR n=>eI U o J j R n) a_ I
def cJ (O:(List aA)) (j:Int) (J:Int) (dP:Int):Option (Int×(List aA)):=idx O dP λI=>idx O j λR=>idx O j λU=>idx (O.set ((j:Int).toNat) I) dP λY=>cE (λo n=>eG j o.1 o.2.1 o.2.2 n) a_ (((O.set ((j:Int).toNat) I).set ((dP:Int).toNat) R),i64.wrap (j+1),i64.wrap (J-1))
def bG (o:Int) (j:List aA) (O:Int) (Z:Int) (J:(List aA×Int×Int)->Option ((List aA))) (Y:Int):Option ((List aA)):=idx j (i64.wrap (o+Y)) λI=>idx j O λR=>idx j O λU=>idx (j.set ((O:Int).toNat) I) (i64.wrap (o+Y)) λNM=>J (((j.set ((O:Int).toNat) I).set ((i64.wrap (o+Y):Int).toNat) R),i64.wrap (O+1),((dA ⟨Z⟩)).2.n)
def eN (j:Int) (o:Int) (I:(Int)) (J:List aA) (Y:Int) (O:Int) (R:(List aA×Int×Int)->Option ((List aA))):Option ((List aA)):=if decide (Y<=(i64.wrap ((i64.wrap (j+(i64.wrap ((i64.wrap (Int.tdiv (i64.wrap (o-j)) 4))*2))))+1))) then (if decide ((i64.wrap (o-j))<=(i64.wrap (u64.wrap ((BitVec.ofInt (u64).bits (((dA ⟨O⟩)).1) &&& BitVec.ofInt (u64).bits (u64.wrap (I-1))).toNat)))) then (bG j J Y O R (i64.wrap ((i64.wrap (u64.wrap ((BitVec.ofInt (u64).bits (((dA ⟨O⟩)).1) &&& BitVec.ofInt (u64).bits (u64.wrap (I-1))).toNat)))-(i64.wrap (o-j))))) else (bG j J Y O R (i64.wrap (u64.wrap ((BitVec.ofInt (u64).bits (((dA ⟨O⟩)).1) &&& BitVec.ofInt (u64).bits (u64.wrap (I-1))).toNat))))) else (some J)
def cM (O:(List aA)) (j:Int) (o:Int):Option ((List aA)):=if decide (8<=(i64.wrap (o-j))) then ((jN (i64.wrap (o-j))).bind λJ=>cE (λI n=>eN j o J I.1 I.2.1 I.2.2 n) a_ (O,i64.wrap ((i64.wrap (j+(i64.wrap ((i64.wrap (Int.tdiv (i64.wrap (o-j)) 4))*2))))-1),u64.wrap (i64.wrap (o-j)))) else (some O)
def bW (self:(List aA)->Int->Int->Int->Option ((List aA))) (j:Int) (o:Int) (NP:Bool) (NQ:Bool) (U:(List aA×Int×Int×Int×Bool×Bool)->Option ((List aA))) (R:Int) (Y:Int) (O:List aA):Option ((List aA)):=if decide (0<j) then (idx O (i64.wrap (j-1)) λNR=>idx O Y λNS=>(cZ NR NS).bind λNT=>if !(decide (NT<0)) then ((cJ O j o Y).bind λZ=>U (Z.2,Z.1,o,R,NP,NQ)) else ((bF O j o Y).bind λI=>if decide ((i64.wrap (I.1-j))<(i64.wrap (o-I.1))) then ((self I.2.2 j I.1 R).bind λNU=>U (NU,i64.wrap (I.1+1),o,R,decide ((i64.wrap (Int.tdiv (i64.wrap (o-j)) 8))<=(i64.wrap (I.1-j))),I.2.1)) else ((self I.2.2 (i64.wrap (I.1+1)) o R).bind λNV=>U (NV,j,I.1,R,decide ((i64.wrap (Int.tdiv (i64.wrap (o-j)) 8))<=(i64.wrap (o-I.1))),I.2.1)))) else ((bF O j o Y).bind λJ=>if decide ((i64.wrap (J.1-j))<(i64.wrap (o-J.1))) then ((self J.2.2 j J.1 R).bind λNW=>U (NW,i64.wrap (J.1+1),o,R,decide ((i64.wrap (Int.tdiv (i64.wrap (o-j)) 8))<=(i64.wrap (J.1-j))),J.2.1)) else ((self J.2.2 (i64.wrap (J.1+1)) o R).bind λNX=>U (NX,j,J.1,R,decide ((i64.wrap (Int.tdiv (i64.wrap (o-j)) 8))<=(i64.wrap (o-J.1))),J.2.1)))
def bX (self:(List aA)->Int->Int->Int->Option ((List aA))) (j:Int) (o:Int) (I:Bool) (J:Bool) (R:(List aA×Int×Int×Int×Bool×Bool)->Option ((List aA))) (O:Int) (Y:List aA) (Z:Int) (NP:Int):Option ((List aA)):=if (I && J) && (decide (NP=1)) then ((b_ Y j o).bind λU=>if U.1 then (some U.2) else (bW self j o I J R O Z U.2)) else (bW self j o I J R O Z Y)
def bY (self:(List aA)->Int->Int->Int->Option ((List aA))) (j:Int) (o:Int) (U:Bool) (O:Bool) (J:(List aA×Int×Int×Int×Bool×Bool)->Option ((List aA))) (R:List aA) (Y:Int):Option ((List aA)):=(cU R j o).bind λI=>if decide (I.2=2) then ((cQ R j o).bind λZ=>bX self j o U O J Y Z (i64.wrap ((i64.wrap (o-1))-(i64.wrap (I.1-j)))) 1) else (bX self j o U O J Y R I.1 I.2)
def fR (self:(List aA)->Int->Int->Int->Option ((List aA))) (I:List aA) (j:Int) (o:Int) (J:Int) (R:Bool) (O:Bool) (U:(List aA×Int×Int×Int×Bool×Bool)->Option ((List aA))):Option ((List aA)):=if decide ((i64.wrap (o-j))<=12) then ((cN I j o).bind λY=>some Y) else (if decide (J=0) then ((dB I j o).bind λZ=>some Z) else (if !R then ((cM I j o).bind λNP=>bY self j o R O U NP (i64.wrap (J-1))) else (bY self j o R O U I J)))
def cP (self:(List aA)->Int->Int->Int->Option ((List aA))) (O:(List aA)) (o:Int) (I:Int) (J:Int):Option ((List aA)):=cE (λj n=>fR self j.1 j.2.1 j.2.2.1 j.2.2.2.1 j.2.2.2.2.1 j.2.2.2.2.2 n) a_ (O,o,I,J,true,true)
def aH:Nat->(List aA)->Int->Int->Int->Option ((List aA))
 | 0=>λ_ _ _ _=>none
 | n+1=>cP (aH n)
def gF (J:(List aA)) (j:Int) (o:Int) (I:Int):Option ((List aA)):=aH a_ J j o I
def cC (j:(List aA)):Option ((List aA)):=(np (u64.wrap ((j.length:Int)))).bind λo=>(gF j 0 (j.length:Int) o).bind λI=>some I
def mX (j:dW):Option ((List aA)):=fU (j.tH.length*32<=140737488355328) ((cC j.tH).bind λo=>some o)
def mD (j:List N2->Option ((List N2)×Int)) (o:List N2):Option ((List N2)×Int):=j o
def r8 (name:N2) (J:((List N2))) (U:Nat) (j:N2) (o:List N2) (I:List N2->Option ((List N2)×Int)):Option ((List N2)×Int):=if decide (j=name) then (fU ((o.length+([j]).length)*16<=140737488355328) (mD I (o++([j])))) else ((aW J j).bind λR=>if R then (fU ((o.length+([j]).length)*16<=140737488355328) (mD I (o++([j])))) else (mD I o))
def ng (dI:(List aF)) (j:(List N2)) (name:N2):Option ((List N2)×Int):=(pf dI j).bind λI=>if !decide (I=0) then (some (([]:List N2),I)) else ((aW j name).bind λJ=>if !J then (some (([]:List N2),8)) else ((l7 dI j name).bind λR=>(mE dI j).bind λU=>gM (λk y o n=>r8 name R k y o n) (λo=>some (o,0)) 0 U ([]:List N2)))
def kz (o:aA) (j:(List N2)):Option (Bool):=(aW j o.Name).bind λI=>some (!I)
def gP (J:(List aA)) (j:(List N2)) (o:Nat) (I:Unit->Option (Int)):Option (Int):=idx J (o:Int) λR=>(kz R j).bind λU=>if U then (some (o:Int)) else (I ())
def eE (o:(List aA)) (j:(List N2)):Option (Int):=mn (λk I n=>gP o j k n) (λ_=>some (-1)) ((o.length:Int):Int).toNat 0 ()
def cR (I:Int) (j:(List aA×Int×Int)->Option ((List aA))) (o:List aA) (J:Int):Option ((List aA)):=j (o,J,i64.wrap (I+1))
def gL (Z:(List N2)) (j:List aA) (O:Int) (Y:Int) (o:(List aA×Int×Int)->Option ((List aA))):Option ((List aA)):=if decide (Y<(j.length:Int)) then (idx j Y λI=>(kz I Z).bind λJ=>if !J then (idx j O λR=>cR Y o (j.set ((O:Int).toNat) I) (i64.wrap (O+1))) else (cR Y o j O)) else (fU (0<=O/\O<=(j.length:Int)) (fU (0<=O/\O<=((j.take (O).toNat++List.replicate (j.length-(O).toNat) ((aA.mk (⟨#[]⟩) 0 false):aA)).length:Int)) (some (uW (j.take (O).toNat++List.replicate (j.length-(O).toNat) ((aA.mk (⟨#[]⟩) 0 false):aA)) 0 ((O:Int).toNat)))))
def c_ (j:(List aA)) (J:(List N2)):Option ((List aA)):=(eE j J).bind λo=>if decide (o=(-1)) then (some j) else (cE (λI n=>gL J I.1 I.2.1 I.2.2 n) a_ (j,o,i64.wrap (o+1)))
def pN (J:Nat) (j:aA) (o:List N2) (I:List N2->Option ((List aA))):Option ((List aA)):=fU ((o.length+([j.Name]).length)*16<=140737488355328) (I (o++([j.Name])))
def lj (j:dW):Option ((List aA)):=gM (λk y o n=>pN k y o n) (λo=>(mE j.dI o).bind λI=>(mX j).bind λJ=>(c_ J I).bind λR=>some R) 0 j.tH ([]:List N2)
def my (o:aA) (j:(List N2)):Option (Bool):=idx j 0 λI=>some (decide (o.Name=I))
def dN (J:(List aA)) (j:(List N2)) (o:Nat) (I:Unit->Option (Int)):Option (Int):=idx J (o:Int) λR=>(my R j).bind λU=>if U then (some (o:Int)) else (I ())
def cS (o:(List aA)) (j:(List N2)):Option (Int):=mn (λk I n=>dN o j k n) (λ_=>some (-1)) ((o.length:Int):Int).toNat 0 ()
def aS (o:(List aA)) (j:(List N2)):Option (Bool):=(cS o j).bind λI=>some (decide (0<=I))
def kQ (j:List N2->Option (Bool)) (o:List N2):Option (Bool):=j o
def n8 (dI:(List aF)) (I:List N2) (J:(List aF)) (R:List aA) (U:Int) (NP:Nat) (O:N2) (o:Unit->Option (Bool)):Option (Bool):=(ng dI I O).bind λj=>if decide (j.2=0) then (if decide ((j.1.length:Int)=0) then (some false) else ((lj (dW.mk J R U)).bind λY=>(aS Y j.1).bind λZ=>if !Z then (some false) else (o ()))) else (some false)
def n9 (dI:(List aF)) (I:List N2) (J:(List aF)) (R:List aA) (U:Int) (NP:Nat) (O:N2) (o:Unit->Option (Bool)):Option (Bool):=(ng dI I O).bind λj=>if decide (j.2=0) then (if decide ((j.1.length:Int)=0) then (some false) else ((lj (dW.mk J R U)).bind λY=>(aS Y j.1).bind λZ=>if !Z then (some false) else (o ()))) else (some false)
def n7 (dI:(List aF)) (O:Nat) (I:N2) (J:(List aF)) (R:List aA) (U:Int) (o:((List aF)×List aA×Int)->Option (Bool)):Option (Bool):=(pB (dW.mk J R U) I 7).bind λj=>if !decide (j.1=0) then (some false) else (o (j.2.dI,j.2.tH,j.2.last))
def jJ (dI:(List aF)) (O:dW) (o:List N2):Option (Bool):=gM (λk y j n=>n7 dI k y j.1 j.2.1 j.2.2 n) (λj=>(mX (dW.mk j.1 j.2.1 j.2.2)).bind λI=>if decide ((I.length:Int)=(o.length:Int)) then (if decide (0<(o.length:Int)) then ((lj (dW.mk j.1 j.2.1 j.2.2)).bind λJ=>if decide ((J.length:Int)=0) then (some false) else (gM (λk y R n=>n9 dI o j.1 j.2.1 j.2.2 k y n) (λ_=>some true) 0 o ())) else (gM (λk y U n=>n8 dI o j.1 j.2.1 j.2.2 k y n) (λ_=>some true) 0 o ())) else (some false)) 0 o (O.dI,O.tH,O.last)
def n6 (I:Int) (J:Nat) (R:aJ) (j:List N2) (o:List N2->Option (Bool)):Option (Bool):=fU (0<=(J:Int)) (if decide ((i64.wrap ((BitVec.ofInt (i64).bits (mO .i64 I (J:Int)) &&& BitVec.ofInt (i64).bits 1).toNat))=1) then (fU ((j.length+([R.Name]).length)*16<=140737488355328) (kQ o (j++([R.Name])))) else (kQ o j))
def kN (dI:(List aF)) (j:aG) (R:Int):Option (Bool):=(sD ([(aF.mk (⟨#[66]⟩) (⟨#[65]⟩))]) ([(⟨#[66]⟩),(⟨#[65]⟩)])).bind λU=>if decide (U.2=0) then ((kn U.1 ([(⟨#[65]⟩)])).bind λY=>if !Y then (some false) else (fU (0<=(min (j.eS.length:Int) 3)/\(min (j.eS.length:Int) 3)<=(j.eS.length:Int)) ((qS dI).bind λI=>F5 I.1 ((mP dI).bind λZ=>some (decide (Z=I.2))) (λO=>if !decide (I.2=0) then (some false) else (gM (λk y J n=>n6 R k y J n) (λJ=>(kZ (aG.mk j.cA j.dE j.aU j.kF (uW j.eS 0 ((min (j.eS.length:Int) 3:Int).toNat)) j.eK) J).bind λo=>fU (o.2.1.length*16<=140737488355328) (if decide (o.2.2=14) then (fU ((o.2.1.length+([(⟨#[66,65,76,65,78,67,69]⟩)]:List N2).length)*16<=140737488355328) (jJ dI O (o.2.1++([(⟨#[66,65,76,65,78,67,69]⟩)]:List N2)))) else (jJ dI O o.2.1))) 0 (uW j.eS 0 ((min (j.eS.length:Int) 3:Int).toNat)) ([]:List N2)))))) else (some false)
end Go.Sim
namespace Go.Sim
open Go Go.RowKit
open _root_.Go.IntKind (i64 u64 u32 u8)
def Gd {R:Type} (o:Option R) (Q:R->Prop):Prop:=∃ r,o=some r/\Q r
section
variable {R α β σ:Type}{Q Q':R->Prop}
theorem Gd.mono {o:Option R} (h:Gd o Q) (k:∀ r,Q r->Q' r):Gd o Q':=by
 obtain ⟨r,e,q⟩:=h; exact ⟨r,e,k r q⟩
theorem Gd.ret {r:R} (h:Q r):Gd (some r) Q:=⟨r,rfl,h⟩
theorem Gd.nd {p:Prop}[Decidable p] {k:Option R} (h:p) (I:Gd k Q):Gd (fU p k) Q:=by
 unfold Sim.fU; rw [Oc h]; exact I
theorem Gd.hO {o:Option α}{k:α->Option R}{P:α->Prop} (h:Gd o P) (I:∀ a,P a->Gd (k a) Q):Gd (o.bind k) Q:=by
 obtain ⟨a,rfl,q⟩:=h; exact I a q
theorem Gd.bind_eq {o:Option α}{a:α}{k:α->Option R} (h:o=some a) (I:Gd (k a) Q):Gd (o.bind k) Q:=by
 subst h; exact I
theorem Gd.ite {b:Bool}{p q:Option R} (I:b=true->Gd p Q) (J:b=false->Gd q Q):Gd (if b=true then p else q) Q:=by
 cases b
 ·simpa using J rfl
 ·simpa using I rfl
theorem Gd.ix {l:List α}{i:Int}{k:α->Option R}{y:α} (I:0<=i) (O:l[i.toNat]? = some y) (J:Gd (k y) Q):Gd (idx l i k) Q:=by
 unfold Sim.idx; rw [Oc I,O]; exact J
theorem Gd.mR {l:List α}{i:Nat}{k:α->Option R} (h:i<l.length) (I:Gd (k l[i]) Q):Gd (Sim.idx l (i:Int) k) Q:=
 Gd.ix (by omega) (N5 (by simpa using h)) I
theorem Gd.opt {o:Option α}{a:Option R}{f:α->Option R} (I:o=none->Gd a Q) (J:∀ s,o=some s->Gd (f s) Q):Gd (F5 o a f) Q:=by
 cases o with
 | none=>exact I rfl
 | some s=>exact J s rfl
theorem Gd.gM {J:Nat->α->σ->(σ->Option R)->Option R}{k:σ->Option R} (I:Nat->List α->σ->Prop)
  (Y:∀ i y ys s n,I i (y::ys) s->(∀ O,I (i+1) ys O->Gd (n O) Q)->Gd (J i y s n) Q) (Z:∀ i s,I i [] s->Gd (k s) Q):
  ∀ (l:List α) (i:Nat) (s:σ),I i l s->Gd (gM J k i l s) Q
 | [],i,s,h=>Z i s h
 | y::ys,i,s,h=>Y i y ys s _ h (λO h'=>Gd.gM I Y Z ys (i+1) O h')
theorem Gd.mn {J:Nat->σ->(σ->Option R)->Option R}{k:σ->Option R} (I:Nat->Nat->σ->Prop)
  (Y:∀ m i s n,I (m+1) i s->(∀ O,I m (i+1) O->Gd (n O) Q)->Gd (J i s n) Q) (Z:∀ i s,I 0 i s->Gd (k s) Q):
  ∀ (m i:Nat) (s:σ),I m i s->Gd (mn J k m i s) Q
 | 0,i,s,h=>Z i s h
 | m+1,i,s,h=>Y m i s _ h (λO h'=>Gd.mn I Y Z m (i+1) O h')
theorem Gd.cE {J:σ->(σ->Option R)->Option R} (I:σ->Prop) (Y:σ->Nat)
  (Z:∀ s n,I s->(∀ O,I O->Y O<Y s->Gd (n O) Q)->Gd (J s n) Q):
  ∀ (m:Nat) (s:σ),I s->Y s<m->Gd (cE J m s) Q
 | 0,s,_,h=>by omega
 | m+1,s,hI,h=>Z s _ hI (λO h' hlt=>Gd.cE I Y Z m O h' (by omega))
theorem Gd.eq {o:Option R}{r:R}:Gd o (λx=>x=r)↔o=Option.some r:=by
 constructor
 ·rintro ⟨x,h,rfl⟩; exact h
 ·intro h; exact ⟨r,h,rfl⟩
end
theorem cK {n:Int} (h:-9223372036854775808<=n/\n<=9223372036854775807):i64.wrap n=n:=wQ h.1 h.2
theorem Gd.seen {R α O:Type}{Q:R->Prop}{J:Nat->α->O->(O->Option R)->Option R}{k:O->Option R}{l:List α} (I:List α->O->Prop)
  (hb:∀ i y s n pre,(∃ Y,l=pre++y::Y)->I pre s->(∀ Z,I (pre++[y]) Z->Gd (n Z) Q)->Gd (J i y s n) Q) (hk:∀ s,I l s->Gd (k s) Q) (s:O) (hs:I [] s):Gd (Sim.gM J k 0 l s) Q:=by
 have key:∀ (ys pre:List α) (i:Nat) (s:O),l=pre++ys->I pre s->Gd (Sim.gM J k i ys s) Q:=by
  intro ys
  induction ys with
  | nil=>intro pre i s hl hs; rw [OX] at hl; subst hl; exact hk s hs
  | cons y ys ih=>
   intro pre i s hl hs;exact hb i y s _ pre ⟨ys,hl⟩ hs (λZ hs'=>ih (pre++[y]) (i+1) Z (by rw [hl]; simp) hs')
 exact key l [] 0 s rfl hs
theorem sR {α:Type}{l pre:List α}{y:α} (h:∃ I,l=pre++y::I):pre.length<l.length/\y ∈ l/\∀ x ∈ pre,x ∈ l:=by
 obtain ⟨I,rfl⟩:=h;exact ⟨by simp,by simp,λx J=>N6 _ J⟩
theorem CE:∀ (x y z:List UInt8),Op.bytesLess x y=true->Op.bytesLess y z=true->Op.bytesLess x z=true
 | _,_,[],_,h=>by cases ‹List UInt8› <;> simp [Op.bytesLess] at h
 | [],_,_::_,_,_=>rfl
 | _::_,[],_::_,h,_=>by simp [Op.bytesLess] at h
 | a::x,b::y,c::z,J,I=>by
  simp only [Op.bytesLess,PQ,PC,PZ,beq_iff_eq] at J I ⊢;rcases J with J | ⟨rfl,J⟩
  ·rcases I with I | ⟨rfl,I⟩
   ·left; rw [QW] at *; omega
   ·exact .inl J
  ·rcases I with I | ⟨rfl,I⟩
   ·exact .inl I
   ·exact .inr ⟨rfl,CE x y z J I⟩
theorem GX:∀ x:List UInt8,Op.bytesLess x x=false
 | []=>rfl
 | a::x=>by simp [Op.bytesLess,GX x]
theorem E6 (a:N2):xO a a=false:=GX _
theorem A8 {a b c:N2} (I:xO a b=true) (J:xO b c=true):xO a c=true:=CE _ _ _ I J
theorem FB {a b:N2} (h:a.toList=b.toList):a=b:=by
 rw [Sg,Sg] at h;cases a; cases b
 simp only [Array.toList_inj] at h;rw [h]
theorem JC (a b:N2):xO a b=true\/a=b\/xO b a=true:=by
 unfold xO;cases h:Op.bytesLess a.toList b.toList
 ·right
  by_cases e:a.toList=b.toList
  ·exact .inl (FB e)
  ·right
   rw [<- w9,h,beq_false_of_ne e]; rfl
 ·exact .inl rfl
theorem HJ {a b:N2} (h:xO a b=true):xO b a=false:=by
 cases e:xO b a
 ·rfl
 ·have:=A8 h e; rw [E6] at this; cases this
def Cg (a b:N2):Prop:=xO b a=false
theorem F1 {a b c:N2} (J:Cg a b) (I:Cg b c):Cg a c:=by
 unfold Cg at *
 cases e:xO c a
 ·rfl
 ·rcases JC a b with h | rfl | h
  ·have:=A8 e h; rw [I] at this; cases this
  ·rw [I] at e; cases e
  ·rw [J] at h; cases h
theorem C6 (a:N2):Cg a a:=E6 a
theorem F0 (a b:N2):Cg a b\/Cg b a:=by
 unfold Cg;cases h:xO b a
 ·exact .inl rfl
 ·exact .inr (HJ h)
theorem HF:∀ (l:List N2),l≠[]->∃ m ∈ l,∀ z ∈ l,Cg m z
 | [a],_=>⟨a,Q8 _,λz I=>by simp at I; subst I; exact C6 _⟩
 | a::b::l,_=>by
  obtain ⟨m,hm,h⟩:=HF (b::l) (by simp)
  rcases F0 a m with J | J
  ·refine ⟨a,Oa ..,λz I=>?_⟩
   rcases OM.1 I with rfl | I
   ·exact C6 _
   ·exact F1 J (h z I)
  ·refine ⟨m,Od _ hm,λz I=>?_⟩
   rcases OM.1 I with rfl | I
   ·exact J
   ·exact h z I
theorem wV {α:Type}[DecidableEq α]:∀ (a b:List α),a.Nodup->(∀ x ∈ a,x ∈ b)->a.length<=b.length
 | [],_,_,_=>Nat.zero_le _
 | x::xs,b,hn,h=>by
  rw [QV] at hn;have I:=h x (Oa ..);have O:=wV xs (b.erase x) hn.2 (λy J=>(List.mem_erase_of_ne (λe:y=x=>hn.1 (by rw [<- e]; exact J))).2 (h y (Od _ J)))
  rw [List.length_erase_of_mem I] at O;have:0<b.length:=List.length_pos_of_mem I;simp only [Oj]; omega
end Go.Sim
