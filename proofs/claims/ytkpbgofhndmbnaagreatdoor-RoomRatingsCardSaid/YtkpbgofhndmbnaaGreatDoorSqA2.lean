/-
  The proof, part A2.
-/
import Derived.Lib.Bytealg
import Derived.Laws.Externs
import Derived.Lib.LaidTab
import Derived.Lib.AppendIntMem
import Derived.Lib.ItoaNum
import Derived.Lib.AtoiAll
import Derived.Lib.SmallJoins
import Derived.Laws.BytesString
import Derived.Laws.IdiomStrings
import Derived.Lib.ParseIntBMem
import Derived.Laws.IdiomRangeMap
import Derived.Lib.UnsafeStr
import Derived.Lib.Builder
import Derived.Lib.AppendStr
import Derived.Laws.Bits64b
import Derived.Test.YtkpbgofhndmbnaaGreatDoorSqA1
set_option linter.unusedVariables false
set_option linter.unusedSimpArgs false
set_option linter.unusedSectionVars false
set_option linter.unnecessarySimpa false
namespace Go.Sim
abbrev S7 := @Int.fdiv_eq_ediv_of_nonneg
abbrev S1 := @Int.le_refl
abbrev TN := @Int.toNat_of_nonneg
abbrev TO := @Go.Lib.strCells_length
abbrev U5 := @List.drop_succ_cons
abbrev SS := @List.getElem?_replicate
abbrev QQ := @List.getElem?_set_ne
abbrev QU := @List.getElem?_set_self
abbrev SF := @List.getElem_map
abbrev R3 := @List.length_drop
abbrev RM := @List.length_set
abbrev SQ := @List.mem_of_mem_take
abbrev SZ := @List.replicate_succ
abbrev UO := @List.set_getElem_self
abbrev RT := @List.take_append_drop
abbrev QH := @List.take_of_length_le
abbrev UA := @List.take_zero
abbrev TR := @List.zipWith_append
abbrev S3 := @Nat.add_comm
abbrev Sr := @Nat.lt_or_ge
abbrev Tn := @Nat.mod_lt
end Go.Sim
namespace Go.Sim
open Go Go.RowKit
open _root_.Go.IntKind (i64 u64 u32 u8)
def O2 (H:Hp) (v:Qn) (n sz:Nat) (xs:List Qn):Prop:=
 xs.length=n*sz/\(∀ u ∈ xs,u.oneCell'=true) /\
 (((∃ a,v=.slice a 0 0)/\n=0)\/∃ b off cap arr T fz,v=.slice (some ⟨b,off,none⟩) n cap/\H b=some (.cells arr T fz)/\∀ j u,xs[j]? = some u->arr[off+j]? = some u)
theorem O2.shape {H:Hp}{v:Qn}{n sz:Nat}{xs:List Qn} (h:O2 H v n sz xs):∃ o c,v=.slice o n c:=by
 rcases h.2.2 with ⟨⟨a,rfl⟩,rfl⟩ | ⟨b,off,cap,arr,T,fz,rfl,_⟩ <;> exact ⟨_,_,rfl⟩
theorem O2.isNil {H:Hp}{n m c sz:Nat}{xs:List Qn} (h:O2 H (.slice none m c) n sz xs):n=0/\xs=[]:=by
 rcases h.2.2 with ⟨_,I⟩ | ⟨b,off,cap,arr,T,fz,I,_⟩
 ·subst I; exact ⟨rfl,QZ (by rw [h.1,R2])⟩
 ·cases I
section
variable {B:Nat}{w0 w:World}{H:Hp}{M:List bQ}
end
section
variable {x:Cx}{ops:Array Oper}{Q:l8}{rest:List Oper}{H:Hp}{M M':List bQ}{L L':Env}
variable {d:Nat}{ty:TypeId}{pos:String}{aft:Array Edge}{g:Option (Nat×Bool)}
theorem GQ {o:Oper} (Z:o.dst=none) (hg:gd ops L o=some true)
  (I:∀ a w,Sl x.N L a->St x.B x.w0 H M w->∃ v O,(execOp a.eval o).run x.P w=.ok (.value v) O/\∃ H' M',St x.B x.w0 H' M' O/\W x ops Q rest H' M' L):
  W x ops Q (o::rest) H M L:=by
 intro a w hs ht;obtain ⟨v,O,hr,H',M',J,k⟩:=I a w hs ht;refine Un λK Y=>?_;rw [Qx (hs.gd hg)];unfold Oper.wp;rw [hr];simp only [Oper.upon,Z];exact Y _ _ (k _ _ hs J)
theorem tQ {t e:TypeId}{sz len cap l h m:Nat}{y:Operand}{lo hi mx:Option Operand}{ad:Option Addr}
  (Y:gd ops L ⟨some d,.slice t y lo hi mx,ty,pos,aft,g⟩=some true) (hN:Nat.blt d x.N=true)
  (O:∀ w,(underlying t).run x.P w=.ok (.slice e) w) (hs:∀ w,(sizeOf e).run x.P w=.ok sz w) (hy:ev L y=some (.slice ad len cap)) (J:mx=none\/∃ o,hi=some o)
  (hm:GJ L mx cap cap m) (Z:GJ L hi len m h) (hl:GJ L lo 0 h l)
  {v':Qn} (hv:Value.slice (if m=l then ad else ad.map (·.add (l*sz))) (h-l) (m-l)=v')
  (k:W x ops Q rest H M ((d,v')::L)):
  W x ops Q (⟨some d,.slice t y lo hi mx,ty,pos,aft,g⟩::rest) H M L:=
 fK rfl Y hN (λc w I ht=>by
  rw [<- hv];simp only [execOp,I.ev hy,QD,tZ O hs (Ki J) (hm.bd I) (Z.bd I) (hl.bd I),Qz,QK]) k
theorem Cy {zs:List Qn} (h:∀ u ∈ zs,u.oneCell'=true) (O:0<zs.length) (n:Nat):∀ u ∈ (Builtin.zeroCells zs.toArray n).toList,u.oneCell'=true:=by
 intro u J;unfold Builtin.zeroCells at J;simp only [Array.toList_map,SU,Array.toList_range,Rd] at J;obtain ⟨q,_,rfl⟩:=J;have I:q%zs.length<zs.length:=Tn _ O;have:zs.toArray[q%zs.length]! = zs[q%zs.length]:=by simp [I]
 rw [this];exact h _ (Q3 _)
end
theorem Fl {P:Program}{w:World}{t tu ty e:TypeId}{sz n Z off cap a dl dc sl sc:Nat}{b:Addr}{xs news:List Qn} (hT:P.underlying t=some (.slice e)) (hs:∀ w,(sizeOf e).run P w=.ok sz w)
  (O:jK w e sz (.slice (some ⟨Z,off,none⟩) n cap) n xs) (ha:a+dl<=n)
  (hl:news.length=min sl dl*sz) (Y:∀ j u,news[j]? = some u->w.cell? (b.add j)=some u) (h1:∀ u ∈ news,u.oneCell'=true):
  ∃ w',(Builtin.copy_ #[t,tu] ty #[.slice (some ⟨Z,off+a*sz,none⟩) dl dc,.slice (some b) sl sc]).run P w=.ok (.int .i64 (min sl dl:Nat)) w' /\
   jK w' e sz (.slice (some ⟨Z,off,none⟩) n cap) n (xs.take (a*sz)++news++xs.drop ((a+min sl dl)*sz))/\w.grownBy w' (some Z):=by
 rcases O.2 with ⟨h0,_⟩ | ⟨gb2,off2,cap2,I,he,hgb,hnc,hcm,hcs,J⟩
 ·cases h0
 cases he;have hxl:xs.length=n*sz:=O.1;have hm:(a+min sl dl)*sz<=n*sz:=QI _ (by omega)
 have hmc:n*sz<=cap*sz:=QI _ hnc;have hadd:(a+min sl dl)*sz=a*sz+min sl dl*sz:=QO ..;have hf:=U9 (P:=P) w sz (min sl dl) b sl sc news hl Y;obtain ⟨w',hst,hh,hgr⟩:=lj (P:=P) Z (off+a*sz) e news 0 I.toList w (by simpa using hgb) (by simp; omega) h1
 refine ⟨w',?_,⟨?_,.inr ⟨Z,off,cap,_,rfl,hh,hnc,hcm,?_,?_⟩⟩,hgr⟩
 ·simp [Builtin.copy_,RY hT,hs,Builtin.lenOf,hf,hst,goInt]
 ·simp only [QJ,QR,R3,hl,hxl]; omega
 ·simpa [pV] using hcs
 ·rw [S0,RZ,w4 _ _ _ (by simp; omega)]
  have hx1:xs.take (a*sz)=(I.toList.take (off+a*sz)).drop off:=by
   rw [<- J,TG,Rv (by omega),SP,SD]
  have hx2:xs.drop ((a+min sl dl)*sz)=(I.toList.drop (off+a*sz+news.length)).take (n*sz-(a+min sl dl)*sz):=by
   rw [<- J,SP,Sd]; congr 2; omega
  rw [hx1,hx2,QV,Tg (by simp; omega),<- QV]
  have hlen:((I.toList.take (off+a*sz)).drop off++news).length=a*sz+min sl dl*sz:=by
   rw [QJ,R3,QR,hl]; simp; omega
  have e:n*sz=((I.toList.take (off+a*sz)).drop off++news).length+(n*sz-(a+min sl dl)*sz):=by rw [hlen]; omega
  conv=>lhs; rw [e]
  rw [List.take_length_add_append]
section
variable {x:Cx}{ops:Array Oper}{Q:l8}{rest:List Oper}{H:Hp}{M M':List bQ}{L L':Env}
variable {d:Nat}{ty:TypeId}{pos:String}{aft:Array Edge}{g:Option (Nat×Bool)}
theorem zE {c:Code}{v:Qn}{e:TypeId}{sz n:Nat}{xs:List Qn} (Z:0<n)
  (k:∀ I off cap,v=.slice (some ⟨I,off,none⟩) n cap->n<=cap->Go.Sim.C x c Q H (.row v e sz n xs::M) L):Go.Sim.C x c Q H (.row v e sz n xs::M) L:=by
 intro a w hs ht;have O:jK w e sz v n xs:=ht.ok _ (Qu ..);rcases O.2 with ⟨_,h⟩ | ⟨I,off,cap,Y,he,_,J,_⟩
 ·omega
 ·exact k I off cap he J a w hs ht
theorem GO {α:Type}[aG α] {t tu e:TypeId}{y u:Operand}{v vu:Qn}{xs:List Qn}{l ys:List α}
  (hg:gd ops L ⟨some d,.call ⟨.builtin .copy,#[y,u],#[t,tu]⟩,ty,pos,aft,g⟩=some true) (hN:Nat.blt d x.N=true)
  (hT:x.P.underlying t=some (.slice e)) (hsz:∀ w,(sizeOf e).run x.P w=.ok (aG.sz α) w) (hs:Nat.blt 0 (aG.sz α)=true)
  (hy:ev L y=some v) (Y:ev L u=some vu) (hx:Rw H v xs l) (hR:aQ H vu ys) (h0:0<ys.length)
  (k:∀ xs',Rw H v xs' (ys.take (min ys.length l.length)++l.drop (min ys.length l.length))->W x ops Q rest H (.row v e (aG.sz α) l.length xs'::M) ((d,.int .i64 (min ys.length l.length:Nat))::L)):
  W x ops Q (⟨some d,.call ⟨.builtin .copy,#[y,u],#[t,tu]⟩,ty,pos,aft,g⟩::rest) H (.row v e (aG.sz α) l.length xs::M) L:=by
 refine s7 rfl hg hN λa w I ht=>?_;have J:jK w e (aG.sz α) v l.length xs:=ht.ok _ (Qu ..);obtain ⟨cs,hcs,Z⟩:=hR.flat;rcases Z with ⟨_,rfl⟩ | ⟨hc,b,O,c,rfl⟩
 ·simp at h0
 by_cases hl0:l.length=0
 ·have hm0:min ys.length l.length=0:=by omega
  refine ⟨.int .i64 (min ys.length l.length:Nat),w,?_,H,_,ht,k xs (by rw [hm0]; simpa using hx)⟩
  have hf:(Builtin.firstCells (aG.sz α) 0 (.slice (some ⟨b,O,none⟩) ys.length c)).run x.P w=.ok #[] w:=
   U9 (P:=x.P) w (aG.sz α) 0 ⟨b,O,none⟩ ys.length c [] (by simp) (by simp)
  rw [hm0];rcases J.2 with ⟨rfl,_⟩ | ⟨gb,off,cap,cur,rfl,_⟩
  ·simp [execOp,resolve,invoke,builtin,I.ev hy,I.ev Y,Builtin.copy_,RY hT,hsz,Builtin.lenOf,hf,goInt]
  ·simp [execOp,resolve,invoke,builtin,I.ev hy,I.ev Y,Builtin.copy_,RY hT,hsz,Builtin.lenOf,hf,goInt,hl0,storeCells]
 rcases J.2 with ⟨_,h⟩ | ⟨gb,off,cap,cur,rfl,_⟩
 ·exact absurd h hl0
 obtain ⟨w',hr,ho,hgr⟩:=Fl (P:=x.P) (tu:=tu) (ty:=ty) (a:=0) (dl:=l.length) (dc:=cap) (b:=⟨b,O,none⟩) (sl:=ys.length) (sc:=c) (news:=cs.take (min ys.length l.length*aG.sz α)) hT hsz J (by omega)
  (by rw [QR,hcs.len]; exact Rv (QI _ (by omega)))
  (λj u Y=>by
   rw [Rf] at Y
   split at Y
   ·exact ((hc j u Y).at (x:=x) (M:=.row (.slice (some ⟨gb,off,none⟩) l.length cap) e (aG.sz α) l.length xs::M)) w ht
   ·cases Y) (λu Y=>hcs.one u (SQ Y))
 rw [R2,UA,R7,QP] at ho;rw [R2,RZ] at hr;refine ⟨.int .i64 (min ys.length l.length:Nat),w',?_,H,_,ht.Em (r':=.row (.slice (some ⟨gb,off,none⟩) l.length cap) e (aG.sz α) l.length _) hgr ho (λb hb=>.inl hb),k _ ⟨(hcs.split _).1.app (hx.rd.split _).2,_,_,_,rfl⟩⟩;simp [execOp,resolve,invoke,builtin,I.ev hy,I.ev Y,hr]
theorem A2 {α:Type}[aG α] {t tu e:TypeId}{I off cap q dc sc:Nat}{y u:Operand}{xs:List Qn}{l:List α}
  (hg:gd ops L ⟨some d,.call ⟨.builtin .copy,#[y,u],#[t,tu]⟩,ty,pos,aft,g⟩=some true) (hN:Nat.blt d x.N=true)
  (hT:x.P.underlying t=some (.slice e)) (hsz:∀ w,(sizeOf e).run x.P w=.ok (aG.sz α) w) (hs:Nat.blt 0 (aG.sz α)=true)
  (hx:Rw H (.slice (some ⟨I,off,none⟩) l.length cap) xs l) (hq:q<=l.length)
  (hy:ev L y=some (.slice (some ⟨I,off+q*aG.sz α,none⟩) (l.length-q) dc)) (hu:ev L u=some (.slice (some ⟨I,off,none⟩) q sc))
  (k:∀ xs',Rw H (.slice (some ⟨I,off,none⟩) l.length cap) xs' (l.take q++l.take (min q (l.length-q))++l.drop (q+min q (l.length-q))) ->
   W x ops Q rest H (.row (.slice (some ⟨I,off,none⟩) l.length cap) e (aG.sz α) l.length xs'::M) ((d,.int .i64 (min q (l.length-q):Nat))::L)):
  W x ops Q (⟨some d,.call ⟨.builtin .copy,#[y,u],#[t,tu]⟩,ty,pos,aft,g⟩::rest) H (.row (.slice (some ⟨I,off,none⟩) l.length cap) e (aG.sz α) l.length xs::M) L:=by
 refine s7 rfl hg hN λa w hsl ht=>?_;have O:jK w e (aG.sz α) (.slice (some ⟨I,off,none⟩) l.length cap) l.length xs:=ht.ok _ (Qu ..);have hlen:=hx.rd.len;have hone:=hx.rd.one;have hmm:min q (l.length-q)*aG.sz α<=l.length*aG.sz α:=QI _ (by omega)
 have Y:∀ j u,(xs.take (min q (l.length-q)*aG.sz α))[j]? = some u->w.cell? ((⟨I,off,none⟩:Addr).add j)=some u:=by
  intro j u J;rcases O.2 with ⟨h0,_⟩ | ⟨gb2,off2,cap2,cur,he,hgb,hnc,hcm,hcs,Z⟩
  ·cases h0
  cases he;rw [Rz];refine UR hgb rfl ?_;rw [Rf] at J
  split at J
  ·rw [<- Z,Rf] at J
   split at J
   ·rw [Q_] at J; simpa using J
   ·cases J
  ·cases J
 obtain ⟨w',hr,ho,hgr⟩:=Fl (P:=x.P) (tu:=tu) (ty:=ty) (a:=q) (dl:=l.length-q) (dc:=dc) (b:=⟨I,off,none⟩) (sl:=q) (sc:=sc) (news:=xs.take (min q (l.length-q)*aG.sz α)) hT hsz O (by omega)
  (by rw [QR,hlen]; omega) Y (λu hu=>hone u (SQ hu))
 refine ⟨.int .i64 (min q (l.length-q):Nat),w',?_,H,_,ht.Em (r':=.row (.slice (some ⟨I,off,none⟩) l.length cap) e (aG.sz α) l.length _) hgr ho (λb hb=>.inl hb),k _ ⟨?_,_,_,_,rfl⟩⟩
 ·simp [execOp,resolve,invoke,builtin,hsl.ev hy,hsl.ev hu,hr]
 ·exact ((hx.rd.split q).1.app (hx.rd.split (min q (l.length-q))).1).app (hx.rd.split (q+min q (l.length-q))).2
end
theorem Ey {x:Cx}{ops:Array Oper}{Q:l8}{rest:List Oper}{H:Hp}{M:List bQ}{L:Env}{d:Nat}{f:FuncId}{args:List Operand}{J:Array TypeId}{ty:TypeId}{pos:String}{aft:Array Edge}{g:Option (Nat×Bool)}{vs:List Qn}{v:Qn}
  (Z:∀ w,(callFunc f vs.toArray).run x.P w=.ok (.value v) w)
  (O:gd ops L ⟨some d,.call ⟨.value (.func f),args.toArray,J⟩,ty,pos,aft,g⟩=some true) (hN:Nat.blt d x.N=true)
  (Y:yL L args=some vs) (k:W x ops Q rest H M ((d,v)::L)):
  W x ops Q (⟨some d,.call ⟨.value (.func f),args.toArray,J⟩,ty,pos,aft,g⟩::rest) H M L:=
 fK rfl O hN (λa w hs ht=>by
  have I:args.toArray.map a.eval=vs.toArray:=by simp [hs.yL Y]
  simp only [execOp,resolve,I,Act.eval,Deferred.ofValue,QD,QK,Qz,invoke];simp [Z]) k
def Nk (s:Qm) (c:Int):Int:=Go.Lib.indexByte s.data.toList c.toNat.toUInt8
theorem ES {P:Program}{f:FuncId}{I:Func} (hf:P.funcs[f]? = some I) (J:(I.name == "runtime.NumGoroutine")=false) (O:I.body.isNone=true) (Y:Extern.findNext I=none) (Z:Extern.find I=some Extern.BytealgIndexByte.indexByte) (s:Qm) (c:Int):
  ∀ w,(callFunc f [.string s,.int .u8 c].toArray).run P w=.ok (.value (.int .i64 (Nk s c))) w:=λw=>by
 rw [run_callFunc_extern hf J O Y Z,show [Value.string s,.int .u8 c].toArray=#[.string s,.int .u8 c] from rfl,Go.Lib.run_indexByteString]
 rfl
section
variable {x:Cx}{ops:Array Oper}{Q:l8}{rest:List Oper}{H:Hp}{M M':List bQ}{L L':Env}
variable {d:Nat}{ty:TypeId}{pos:String}{aft:Array Edge}{g:Option (Nat×Bool)}
theorem Jc {t e:TypeId}{y:Operand}{ad:Option Addr}{J:Nat}
  (Y:gd ops L ⟨none,.call ⟨.builtin .clear,#[y],#[t]⟩,ty,pos,aft,g⟩=some true)
  (O:x.P.underlying t=some (.slice e)) (Z:ev L y=some (.slice ad 0 J)) (k:W x ops Q rest H M L):
  W x ops Q (⟨none,.call ⟨.builtin .clear,#[y],#[t]⟩,ty,pos,aft,g⟩::rest) H M L:=
 GQ rfl Y λa w I ht=>⟨.tuple #[],w,by
  cases ad <;> simp [execOp,resolve,invoke,builtin,I.ev Z,Builtin.clear_,RY O],H,M,ht,k⟩
theorem Ex {t e:TypeId}{sz m n Y off cap i c2:Nat}{y:Operand}{z:Qn}{zs xs:List Qn}
  (hg:gd ops L ⟨none,.call ⟨.builtin .clear,#[y],#[t]⟩,ty,pos,aft,g⟩=some true)
  (hT:x.P.underlying t=some (.slice e)) (hz:∀ w,(zeroValue e).run x.P w=.ok z w) (hzs:z.cells=zs.toArray) (hzl:zs.length=sz) (h1:zs.all Value.oneCell'=true) (hs:Nat.blt 0 sz=true)
  (hi:i<m) (hy:ev L y=some (.slice (some ⟨Y,off+i*sz,none⟩) (m-i) c2))
  (k:W x ops Q rest H (.row (.slice (some ⟨Y,off,none⟩) m cap) e sz m (xs.take (i*sz)++(Builtin.zeroCells z.cells (m-i)).toList)::M) L):
  W x ops Q (⟨none,.call ⟨.builtin .clear,#[y],#[t]⟩,ty,pos,aft,g⟩::rest) H (.row (.slice (some ⟨Y,off,none⟩) m cap) e sz n xs::M) L:=by
 have hs':0<sz:=by simpa [RA] using hs
 refine GQ rfl hg λa w hsl ht=>?_;have J:jK w e sz (.slice (some ⟨Y,off,none⟩) m cap) n xs:=ht.ok _ (Qu ..);rcases J.2 with ⟨h0,_⟩ | ⟨gb2,off2,cap2,O,he,hgb,hnc,hcm,hcs,htake⟩
 ·cases h0
 cases he;obtain ⟨q,hq⟩:∃ q,m-i=q+1:=⟨m-i-1,by omega⟩
 have I:(Builtin.zeroCells z.cells (m-i)).toList.length=(m-i)*sz:=by
  unfold Builtin.zeroCells; rw [hzs]; simp [hzl]
 have hmul:m*sz<=cap*sz:=QI _ hnc;have hsplit:i*sz+(m-i)*sz=m*sz:=by rw [<- QO]; congr 1; omega
 have hone:∀ u ∈ (Builtin.zeroCells z.cells (m-i)).toList,u.oneCell'=true:=by
  rw [hzs]; exact Cy (λu hu=>RE.1 h1 u hu) (by omega) _
 obtain ⟨w',hst,hh,hgr⟩:=lj (P:=x.P) Y (off+i*sz) e (Builtin.zeroCells z.cells (m-i)).toList 0 O.toList w (by simpa using hgb) (by rw [I]; simp; omega) hone
 refine ⟨.tuple #[],w',?_,H,_,ht.Em (r':=.row (.slice (some ⟨Y,off,none⟩) m cap) e sz m (xs.take (i*sz)++(Builtin.zeroCells z.cells (m-i)).toList)) hgr ⟨?_,.inr ⟨Y,off,cap,_,rfl,hh,hnc,hcm,?_,?_⟩⟩ (λb hb=>.inl hb),k⟩
 ·rw [hq] at hst hy
  simp [execOp,resolve,invoke,builtin,hsl.ev hy,Builtin.clear_,RY hT,hz,hst]
 ·rw [QJ,QR,I,J.1]
  omega
 ·simpa [pV] using hcs
 ·rw [S0,RZ,w4 _ _ _ (by rw [I]; simp; omega)]
  have hd:(O.toList.take (off+i*sz)).drop off=xs.take (i*sz):=by
   rw [SP,SD,<- htake,TG,Rv (by omega)]
  have Z:((O.toList.take (off+i*sz)).drop off++(Builtin.zeroCells z.cells (m-i)).toList).length=m*sz:=by
   rw [QJ,hd,QR,I,J.1]; omega
  rw [QV,Tg (by simp; omega),<- QV,<- Z]
  rw [TF,hd]
theorem sr {α:Type}[aG α] {t e:TypeId}{n:Nat}{y lo:Operand}{v:Qn}{z:Qn}{zs xs:List Qn}{l:List α}{ze:α}{kk:IntKind}{i:Int}{ty2:TypeId}{Y:String}{J:Array Edge}{g2:Option (Nat×Bool)}
  (hg:gd ops L ⟨some d,.slice t y (some lo) none none,ty,pos,aft,g⟩=some true) (hN:Nat.blt d x.N=true)
  (hg2:∀ u,gd ops ((d,u)::L) ⟨none,.call ⟨.builtin .clear,#[.tmp d],#[t]⟩,ty2,Y,J,g2⟩=some true)
  (hT:x.P.underlying t=some (.slice e)) (hT2:∀ w,(underlying t).run x.P w=.ok (.slice e) w) (hsz:∀ w,(sizeOf e).run x.P w=.ok (aG.sz α) w)
  (hz:∀ w,(zeroValue e).run x.P w=.ok z w) (hzs:z.cells=zs.toArray) (h1:zs.all Value.oneCell'=true) (hs:Nat.blt 0 (aG.sz α)=true) (hE:aG.E H zs ze)
  (hy:ev L y=some v) (hlo:ev L lo=some (.int kk i)) (hx:Rw H v xs l) (hb:0<=i/\i<=(l.length:Int))
  (k:∀ u I,Rw H v I (l.take i.toNat++List.replicate (l.length-i.toNat) ze)->W x ops Q rest H (.row v e (aG.sz α) (l.take i.toNat++List.replicate (l.length-i.toNat) ze).length I::M) ((d,u)::L)):
  W x ops Q (⟨some d,.slice t y (some lo) none none,ty,pos,aft,g⟩::⟨none,.call ⟨.builtin .clear,#[.tmp d],#[t]⟩,ty2,Y,J,g2⟩::rest) H (.row v e (aG.sz α) n xs::M) L:=by
 obtain ⟨hb0,hb1⟩:=hb;obtain ⟨q,rfl⟩:∃ q:Nat,i=q:=⟨i.toNat,by omega⟩
 have hql:q<=l.length:=by omega
 rw [Qr] at k;have hs':0<aG.sz α:=by simpa [RA] using hs
 have hlen:(l.take q++List.replicate (l.length-q) ze).length=l.length:=by simp; omega
 have hlk:∀ u,ev ((d,u)::L) (.tmp d)=some u:=λu=>by simp [ev,tH]
 have hn:∀ {a:Act}{w:World},St x.B x.w0 H (.row v e (aG.sz α) n xs::M) w->n=l.length:=λ{a w} ht=>by
  have hok:jK w e (aG.sz α) v n xs:=ht.ok _ (Qu ..);have h1:=hx.rd.len;rw [hok.1] at h1;exact R_ hs' h1
 have same:l.length=q->∀ {L2:Env},(∀ I,Rw H v I (l.take q++List.replicate (l.length-q) ze)->W x ops Q rest H (.row v e (aG.sz α) (l.take q++List.replicate (l.length-q) ze).length I::M) L2)->W x ops Q rest H (.row v e (aG.sz α) n xs::M) L2:=by
  intro hq L2 kk a w O ht;have hnn:=hn (a:=a) ht;subst hnn;have e:l.take q++List.replicate (l.length-q) ze=l:=by rw [hq,RK,<- hq,Sh]; simp
  have:=kk xs (by rw [e]; exact hx)
  rw [e] at this;exact this a w O ht
 intro a w O ht;have hnn:=hn (a:=a) ht;subst hnn;have hok:jK w e (aG.sz α) v l.length xs:=ht.ok _ (Qu ..)
 revert a w
 suffices hh:∀ (oo:Option Addr) (cap:Nat),v=.slice oo l.length cap->l.length<=cap->(q<l.length->∃ gb off,oo=some ⟨gb,off,none⟩) ->
   W x ops Q (⟨some d,.slice t y (some lo) none none,ty,pos,aft,g⟩::⟨none,.call ⟨.builtin .clear,#[.tmp d],#[t]⟩,ty2,Y,J,g2⟩::rest) H (.row v e (aG.sz α) l.length xs::M) L by
  intro a w O ht hok;rcases hok.2 with ⟨e0,h0⟩ | ⟨gb,off,cap,cur,e0,_,hnc,_⟩
  ·exact hh none 0 (by rw [h0]; exact e0) (by omega) (λh=>by omega) a w O ht
  ·exact hh (some ⟨gb,off,none⟩) cap e0 hnc (λ_=>⟨gb,off,rfl⟩) a w O ht
 intro oo cap hv hnc hsome;subst hv
 by_cases hq:l.length=q
 ·refine tQ (m:=cap) (h:=l.length) (l:=q) hg hN hT2 hsz hy (.inl rfl) (.inl ⟨rfl,rfl⟩) (.inl ⟨rfl,rfl⟩) (.inr ⟨_,_,_,rfl,hlo,by omega,by omega,by omega⟩) (v':=.slice (if cap=q then oo else oo.map (·.add (q*aG.sz α))) 0 (cap-q)) (by rw [hq,RK]) ?_
  exact Jc (hg2 _) hT (hlk _) (same hq (λI hx'=>k _ I hx'))
 ·obtain ⟨gb,off,rfl⟩:=hsome (by omega)
  refine tQ (m:=cap) (h:=l.length) (l:=q) hg hN hT2 hsz hy (.inl rfl) (.inl ⟨rfl,rfl⟩) (.inl ⟨rfl,rfl⟩) (.inr ⟨_,_,_,rfl,hlo,by omega,by omega,by omega⟩) (v':=.slice (some ⟨gb,off+q*aG.sz α,none⟩) (l.length-q) (cap-q)) (by rw [Qw (by omega),RV,Rz]) ?_
  have hzl:zs.length=aG.sz α:=aG.len hE;refine Ex (i:=q) (sz:=aG.sz α) (hg2 _) hT hz hzs hzl h1 hs (by omega) (hlk _) ?_
  have Z:(Builtin.zeroCells z.cells (l.length-q)).toList=(List.range ((l.length-q)*aG.sz α)).map (zs.toArray[·%zs.length]!):=by
   unfold Builtin.zeroCells;rw [hzs];simp [hzl]
  have hrw:Rw H (.slice (some ⟨gb,off,none⟩) l.length cap) (xs.take (q*aG.sz α)++(Builtin.zeroCells z.cells (l.length-q)).toList) (l.take q++List.replicate (l.length-q) ze):=
   ⟨(hx.rd.split q).1.app (by rw [Z]; exact MA hE hzl _),_,_,_,rfl⟩
  have:=k (.slice (some ⟨gb,off+q*aG.sz α,none⟩) (l.length-q) (cap-q)) _ hrw;rw [hlen] at this;exact this
end
theorem GD (k:Nat):oG .u64 (k:Int) 32=((k / 4294967296:Nat):Int):=by
 unfold oG;rw [show (2:Int) ^ (min (32:Int).toNat u64.bits)=4294967296 from rfl];rw [S7 _ (by decide)]
 omega
def Gx {α:Type} (s:List α) (n:Int):List α:=(List.replicate n.toNat s).flatten
theorem xO {α:Type} (a:α) (m:Nat):Gx [a] (m:Int)=List.replicate m a:=by
 unfold Gx;rw [Qr]
 induction m with
 | zero=>rfl
 | succ m ih=>rw [SZ,SZ,List.flatten_cons,ih]; rfl
theorem Fi {α:Type}{a:α}{l:List α}{q:Nat} (h:l.take q=List.replicate q a) (J:q<=l.length):
  (l.take q++l.take (min q (l.length-q))++l.drop (q+min q (l.length-q))).take (q+min q (l.length-q))=List.replicate (q+min q (l.length-q)) a:=by
 have I:l.take (min q (l.length-q))=List.replicate (min q (l.length-q)) a:=by
  have:=Q9 (List.take (min q (l.length-q))) h
  rwa [TG,List.take_replicate,show min (min q (l.length-q)) q=min q (l.length-q) by omega] at this
 rw [h,I,List.replicate_append_replicate];rw [List.take_append_of_le_length (by simp),QH (by simp)]
section
variable {B:Nat}{w0 w w':World}{H:Hp}{M:List bQ}
theorem St.var? (ht:St B w0 H M w) {P:Program}{n:String}{g:Nat} (J:P.globalNamed n=some g) (I:g<B):w.var? P n=w0.var? P n:=by
 unfold World.var?;rw [J];simp only [S9];rw [ht.below.block g I]
theorem St.under (ht:St B w0 H M w) (I:Below w.heap.size w w'):St B w0 H M w':=
 ht.grow ⟨I.os,I.tape,I.output,I.size,λi hi _=>I.block i hi⟩
theorem St.PN (ht:St B w0 H M w) {P:Program}{n:String}{g:Nat}{k:IntKind}{zs:List Int} (J:Lib.TabIs P w0 n k zs) (O:P.globalNamed n=some g) (I:g<B):Lib.TabIs P w n k zs:=
 (ht.var? O I).trans J
end
theorem KY {P:Program}{W:World}{n:String}{g:Nat}{cs:Array Qn} (I:P.globalNamed n=some g) (h:W.var? P n=some cs):g<W.heap.size:=by
 unfold World.var? at h;rw [I] at h;simp only [S9] at h
 split at h
 ·rename_i o _ _ ho
  exact (RR.1 ho).1
 ·cases h
def MC (v:Qn) (b:Bool):Prop:=(b=false/\v=.nilIface)\/(b=true/\∃ T p,v=.iface T p)
section
variable {x:Cx}{ops:Array Oper}{Q:l8}{rest:List Oper}{H:Hp}{M:List bQ}{L:Env}
variable {d:Nat}{ty:TypeId}{pos:String}{aft:Array Edge}{g:Option (Nat×Bool)}
theorem Ld {t u:TypeId}{y:Operand}{v:Qn}{b:Bool}{ms:Array (String×TypeId)} (J:∀ w,(underlying t).run x.P w=.ok (.interface ms) w) (he:MC v b) (Z:gd ops L ⟨some d,.binOp .neq t y (.const .nilIface) u,ty,pos,aft,g⟩=some true) (hN:Nat.blt d x.N=true)
  (O:ev L y=some v) (k:W x ops Q rest H M ((d,.bool b)::L)):W x ops Q (⟨some d,.binOp .neq t y (.const .nilIface) u,ty,pos,aft,g⟩::rest) H M L:=
 fK rfl Z hN (λc w hs _=>by
  have Y:c.eval (.const .nilIface)=.nilIface:=rfl;rcases he with ⟨rfl,rfl⟩ | ⟨rfl,T,p,rfl⟩
  ·have key:∀ k,(Op.equalIn (k+1) t .nilIface .nilIface).run x.P w=.ok true w:=λk=>by
    unfold Op.equalIn;simp [J]
   have I:(Op.equal t .nilIface .nilIface).run x.P w=.ok true w:=key 9999;simp only [execOp,hs.ev O,Y,QD,eqGuard,binOp];simp [I]
  ·have key:∀ k,(Op.equalIn (k+1) t (.iface T p) .nilIface).run x.P w=.ok false w:=λk=>by
    unfold Op.equalIn;simp [J]
   have I:(Op.equal t (.iface T p) .nilIface).run x.P w=.ok false w:=key 9999;simp only [execOp,hs.ev O,Y,QD,eqGuard,binOp];simp [I]) k
def zd (l:List U8):Qm:=⟨(l.map λy=>UInt8.ofNat y.n.toNat).toArray⟩
theorem Bv:∀ (ns:List Int) (r:Qm),ns.foldl (λr n=>r.push (UInt8.ofNat n.toNat)) r=⟨r.data++(ns.map λn=>UInt8.ofNat n.toNat).toArray⟩
 | [],r=>by simp
 | n::ns,r=>by
  rw [List.foldl_cons,Bv ns];simp [ByteArray.push]
theorem aQ.bytes {H:Hp}{v:Qn}{l:List U8} (hR:aQ H v l) {B:Nat}{w0 w:World}{M:List bQ}{P:Program} (ht:St B w0 H M w):(Conv.bytesToString v).run P w=.ok (.string (zd l)) w:=by
 rcases hR with ⟨⟨a,rfl⟩,rfl⟩ | ⟨b,off,cap,arr,T,fz,rfl,h2,h3,Y,h5,Z⟩
 ·cases a with
  | none=>rfl
  | some a=>
   rw [run_bytesToString w a 0 0 [] (by simp [loadCells,loadCellsFrom,QK])]
   rfl
 ·have hl:=run_loadCells_list (P:=P) w ⟨b,off,none⟩ ((l.map λy=>y.n).map (Value.int .u8)) (λj v O=>by
   rw [QW,QW,Option.map_map,T5] at O;obtain ⟨y,hy,rfl⟩:=O;obtain ⟨cs,J,q2⟩:=Z j y hy;have J:cs=[.int .u8 y.n]:=J;have:=q2 0 (.int .u8 y.n) (by rw [J]; rfl)
   have hb:=ht.um b _ Y;rw [Rz];simp only [World.cell?,hb];simpa [aG.sz] using this)
  simp only [Sq] at hl;rw [run_bytesToString w ⟨b,off,none⟩ l.length cap _ hl,Bv];have I:ByteArray.empty.data=#[]:=rfl;rw [I];simp [zd,List.map_map,Function.comp_def]
end
def mw (n:Int):Qm:=⟨(Lib.itoa n).toArray⟩
def L1 (s:Qm):Int×Bool:=match Lib.parseUintM 4294967295 0 s.data.toList with
 | .ok v=>((v:Int),false)
 | .range=>(4294967295,true)
 | _=>(0,true)
end Go.Sim
namespace Go.Sim
open Go
open _root_.Go.IntKind (i64 u64 u32 u8)
abbrev we (b c:Nat) (seen:Array Nat):Obj:=.mapIter (some b) c seen c
theorem ID {P:Program}{w:World}{ty:TypeId}{b c Y:Nat}{seen:Array Nat}{es:Array MapEntry} (hi:w.heap[Y]? = some (we b c seen)) (hb:w.heap[b]? = some (.map es c)) (J:∀ e ∈ es.toList,e.born<c):
  ((∀ e ∈ es.toList,seen.contains e.born=true)/\(Instr.next (.pointer (some ⟨Y,0,none⟩)) false ty).run P w=.ok (.tuple #[.bool false]) w) \/
  ∃ e ∈ es.toList,seen.contains e.born=false/\∃ n,(Instr.next (.pointer (some ⟨Y,0,none⟩)) false ty).run P w=.ok (.tuple #[.bool true,e.key,e.val]) { w with drawn:=n,heap:=w.heap.setIfInBounds Y (we b c (seen.push e.born)) }:=by
 simp only [Instr.next,getObj,QD,Sem.run,hi,hb,Result.andThen,next_test_false seen es c c J (QM _),RC,Sc];have I:∀ x ∈ (Array.filter (λe=>!seen.contains e.born) es).toList,x ∈ es.toList/\seen.contains x.born=false:=λx hx=>by simpa using hx
 have O:Array.filter (λe=>!seen.contains e.born) es=#[]->∀ e ∈ es.toList,seen.contains e.born=true:=λh e he=>by
  rw [Array.filter_eq_empty_iff] at h;have:=h e (by simpa using he)
  simpa using this
 generalize Array.filter (λe=>!seen.contains e.born) es=K at I O ⊢;have e1:K.filter (λx=>decide (x.born<c))=K:=Array.filter_eq_self.2 (λx hx=>by
  have:=J x (I x (by simpa using hx)).1
  simpa using this)
 have e2:K.filter (λx=>decide (x.born≥c))=#[]:=by
  rw [Array.filter_eq_empty_iff];intro x hx;have:=J x (I x (by simpa using hx)).1
  simp;omega
 simp only [e1,e2,Array.append_empty]
 by_cases h0:K.size=0
 ·left
  have:K=#[]:=Array.eq_empty_of_size_eq_zero h0;subst this;refine ⟨O rfl,?_⟩;simp [choose,Sem.run,Question.forced]
 ·right
  have hne:K.isEmpty=false:=by simp [Array.isEmpty,h0]
  simp only [hne,RC,Sc,Array.empty_append,Array.size_map];have hch:∃ (j n:Nat),j<K.size/\(choose (Question.mapNext K.size)).run P w=.ok j { w with drawn:=n }:=by
   by_cases hf:K.size<=1
   ·exact ⟨0,w.drawn,by omega,by simp [choose,Sem.run,Question.forced,hf]⟩
   ·exact ⟨_,w.drawn+1,Tn _ (by omega),by
     simp only [choose,Sem.run,Question.forced,Rb,hf,Sc,Question.cut]
     rfl⟩
  obtain ⟨j,n,hj,Z⟩:=hch;obtain ⟨m1,m2⟩:=I K[j] (by simp)
  refine ⟨K[j],m1,m2,n,?_⟩;have hset:∀ o,(setObj Y o).run P { w with drawn:=n }=.ok () { w with drawn:=n,heap:=w.heap.setIfInBounds Y o }:=λo=>by simp [setObj,Sem.run,hi]
  simp only [Z,Array.getElem?_map,Tc hj,RV,QD,hset,Result.andThen]
  rfl
theorem Gy {P:Program}{w:World}{b c I:Nat}{seen:Array Nat}{es:Array MapEntry}{e:MapEntry} (hi:w.heap[I]? = some (we b c (seen.push e.born))) (J:w.heap[b]? = some (.map es c)) (he:e ∈ es.toList) (hn:(es.toList.map (·.born)).Nodup):
  (Instr.entry (.pointer (some ⟨I,0,none⟩))).run P w=.ok (.tuple #[e.key,e.val]) w:=by
 have O:es.find? (·.born == e.born)=some e:=by rw [<- Array.find?_toList]; exact find_born e es.toList hn he
 simp only [Instr.entry,getObj,QD,Sem.run,hi,J,Result.andThen,Array.back?_push,bne_self_eq_false,RC,Sc,O]
 rfl
section
variable {x:Cx}{ops:Array Oper}{Q:l8}{rest:List Oper}{H:Hp}{M M':List bQ}{L L':Env}
variable {d:Nat}{ty:TypeId}{pos:String}{aft:Array Edge}{g:Option (Nat×Bool)}
variable {κ ν:Type}[DecidableEq κ] [xf κ] [MV ν]
theorem Jj {t key e:TypeId}{b c:Nat}{y:Operand}{es:Array MapEntry} (hm:bQ.obj b (.map es c) ∈ M)
  (Y:gd ops L ⟨some d,.range t y,ty,pos,aft,g⟩=some true) (hN:Nat.blt d x.N=true)
  (J:∀ w,(underlying t).run x.P w=.ok (.map key e) w) (Z:ev L y=some (.map (some b)))
  (k:∀ I,W x ops Q rest H (.obj I (we b c #[])::M) ((d,.pointer (some ⟨I,0,none⟩))::L)):
  W x ops Q (⟨some d,.range t y,ty,pos,aft,g⟩::rest) H M L:=
 s7 rfl Y hN (λa w hs ht=>⟨_,w.alloc (we b c #[]),by
  have O:=ht.vS hm;simp only [execOp,hs.ev Z,Instr.range,QD,J,Qz,w7 O,QK,newObj,Sem.run,World.alloc],_,_,ht.alloc _,k _⟩)
theorem Le {b c I:Nat}{y:Operand}{seen:Array Nat}{es:Array MapEntry}{l:List (κ×ν)} (hm:bQ.obj b (.map es c) ∈ M) (h:sB es c l)
  (hg:gd ops L ⟨some d,.next y false,ty,pos,aft,g⟩=some true) (hN:Nat.blt d x.N=true) (O:ev L y=some (.pointer (some ⟨I,0,none⟩)))
  (k1:(∀ e ∈ es.toList,seen.contains e.born=true)->W x ops Q rest H (.obj I (we b c seen)::M) ((d,.tuple #[.bool false])::L))
  (k2:∀ e ∈ es.toList,seen.contains e.born=false->W x ops Q rest H (.obj I (we b c (seen.push e.born))::M) ((d,.tuple #[.bool true,e.key,e.val])::L)):
  W x ops Q (⟨some d,.next y false,ty,pos,aft,g⟩::rest) H (.obj I (we b c seen)::M) L:=
 s7 rfl hg hN (λa w hs ht=>by
  have hi:=ht.vS (Qu ..);have Z:=ht.vS (Qy _ hm);have J:I<w.heap.size:=(RR.1 hi).1;rcases ID (P:=x.P) (ty:=ty) hi Z h.lt with ⟨hall,hr⟩ | ⟨e,he,hne,n,hr⟩
  ·exact ⟨_,w,by simp only [execOp,hs.ev O,QD,hr,Qz,QK],_,_,ht,k1 hall⟩
  ·refine ⟨_,{ w with drawn:=n,heap:=w.heap.setIfInBounds I (we b c (seen.push e.born)) },by simp only [execOp,hs.ev O,QD,hr,Qz,QK],_,_,?_,k2 e he hne⟩
   have Y:=ht.Em (r':=.obj I (we b c (seen.push e.born))) (xC w I (we b c (seen.push e.born))) (by simp [bQ.ok,J]) (λ_ hc=>.inl hc)
   exact Y.drewN n)
theorem Jd {b c I:Nat}{y:Operand}{seen:Array Nat}{es:Array MapEntry}{l:List (κ×ν)}{e:MapEntry} (hi:bQ.obj I (we b c (seen.push e.born)) ∈ M) (hm:bQ.obj b (.map es c) ∈ M) (h:sB es c l) (he:e ∈ es.toList) {J O:Qn} (Z:e.key=J) (hv:e.val=O)
  (Y:gd ops L ⟨some d,.entry y,ty,pos,aft,g⟩=some true) (hN:Nat.blt d x.N=true) (hy:ev L y=some (.pointer (some ⟨I,0,none⟩)))
  (k:W x ops Q rest H M ((d,.tuple #[J,O])::L)):
  W x ops Q (⟨some d,.entry y,ty,pos,aft,g⟩::rest) H M L:=
 fK rfl Y hN (λa w hs ht=>by
  subst Z; subst hv
  simp only [execOp,hs.ev hy,QD,Gy (P:=x.P) (ht.vS hi) (ht.vS hm) he h.nd,Qz,QK]) k
end
theorem sB.pick {κ ν:Type}[DecidableEq κ] [xf κ] [MV ν] {es:Array MapEntry}{c:Nat}{l:List (κ×ν)} (h:sB es c l) {e:MapEntry} (he:e ∈ es.toList):∃ (i:Nat) (p:κ×ν),es.toList[i]? = some e/\l[i]? = some p/\e.key=MV.mv p.1/\e.val=MV.mv p.2:=by
 obtain ⟨i,hi,rfl⟩:=RG.1 he;have I:(es.toList.map λe=>(e.key,e.val))[i]? = (l.map λp=>(MV.mv p.1,MV.mv p.2))[i]? := by rw [h.eq]
 rw [QW,QW,Qp hi] at I;cases J:l[i]? with
 | none=>rw [J] at I; simp at I
 | some p=>
  rw [J] at I;simp only [RV,QL,SG] at I;exact ⟨i,p,Qp hi,J,I.1,I.2⟩
def y8 {α:Type} (es:Array MapEntry) (seen:Array Nat) (l:List α) (P:α->Bool):Prop:=∀ (i:Nat) (p:α),l[i]? = some p->∀ e,es.toList[i]? = some e->seen.contains e.born=true->P p=false
theorem y8.nil {α:Type}{es:Array MapEntry}{l:List α}{P:α->Bool}:y8 es #[] l P:=λi p I e he h=>by simp at h
theorem y8.push {κ ν:Type}[DecidableEq κ] [xf κ] [MV ν] {es:Array MapEntry}{c:Nat}{seen:Array Nat}{l:List (κ×ν)}{P:κ×ν->Bool} (hs:y8 es seen l P) (h:sB es c l) {i:Nat}{p:κ×ν}{e:MapEntry}
  (hi:es.toList[i]? = some e) (hp:l[i]? = some p) (hP:P p=false):y8 es (seen.push e.born) l P:=λj q hq e' Z J=>by
 by_cases hj:i=j
 ·subst hj
  rw [hp] at hq;obtain rfl:=Qs hq;exact hP
 ·refine hs j q hq e' Z ?_
  have hne:e'.born≠e.born:=λhb=>by
   obtain ⟨h1,h2⟩:=Qt.1 hi;obtain ⟨h3,h4⟩:=Qt.1 Z;have hpw:=Ty.1 h.nd;have O:i<(es.toList.map (·.born)).length:=by simpa using h1
   have Y:j<(es.toList.map (·.born)).length:=by simpa using h3
   rcases Nat.lt_or_gt_of_ne hj with I | I
   ·exact hpw i j O Y I (by rw [SF,SF,h2,h4]; exact hb.symm)
   ·exact hpw j i Y O I (by rw [SF,SF,h2,h4]; exact hb)
  simp at J ⊢;rcases J with J | J
  ·exact J
  ·exact absurd J hne
theorem y8.none {κ ν:Type}[DecidableEq κ] [xf κ] [MV ν] {es:Array MapEntry}{c:Nat}{seen:Array Nat}{l:List (κ×ν)}{P:κ×ν->Bool} (hs:y8 es seen l P) (h:sB es c l) (I:∀ e ∈ es.toList,seen.contains e.born=true):l.any P=false:=by
 rw [List.any_eq_false];intro p Y;obtain ⟨i,hi,rfl⟩:=RG.1 Y;have O:es.toList.length=l.length:=by have:=Q9 List.length h.eq; simpa using this
 have J:i<es.toList.length:=by omega
 have:=hs i l[i] (Qp hi) es.toList[i] (Qp J) (I _ (Q3 J));simp [this]
theorem M4 {α:Type}{l:List α}{P:α->Bool}{i:Nat}{p:α} (I:l[i]? = some p) (hP:P p=true):l.any P=true:=
 List.any_eq_true.2 ⟨p,QB I,hP⟩
def DX (es:Array MapEntry) (seen:Array Nat):Nat:=(es.toList.filter λe=>!seen.contains e.born).length
theorem IM {es:Array MapEntry}{seen:Array Nat}{e:MapEntry} (he:e ∈ es.toList) (h:seen.contains e.born=false):DX es (seen.push e.born)<DX es seen:=by
 unfold DX;refine filter_lt (λe=>!seen.contains e.born) (λJ=>!(seen.push e.born).contains J.born) (λy I=>?_) e (by simp only [h]; rfl) (by simp) es.toList he
 simp at I ⊢;exact I.1
end Go.Sim
namespace Go.Sim
open Go Go.RowKit
open _root_.Go.IntKind (i64 u64 u32 u8)
def OX (b:Nat) (p:Qn):Prop:=p=.pointer none\/p=.pointer (some ⟨b,0,none⟩)
theorem AD (s:Qm):Lib.strCells s=(kC s).map (λy=>Value.int .u8 y.n):=by
 simp [Lib.strCells,kC,Function.comp_def]
theorem qA.u8 (H:Hp) (l:List U8):qA H (l.map λy=>Value.int .u8 y.n) l:=by
 induction l with
 | nil=>exact qA.nil
 | cons y l ih=>exact ⟨[.int .u8 y.n],_,rfl,rfl,ih⟩
theorem Ab {P:Program}{w:World}{t u ty e:TypeId}{i:TypeInfo} (ht:P.underlying t=some (.slice e)) (hu:P.underlying u=some .string) (hi:P.info? e=some i) (hz:i.zero=some (.int .u8 0))
  (J:i.size=1) (hby:i.bytes=1) {v:Qn}{n:Nat}{xs:List Qn} (hown:jK w e 1 v n xs) (s:Qm) (h63:n+s.size<=maxLen) (hbytes:n+s.size<=140737488355328):
  ∃ v' w',(Builtin.append_ #[t,u] ty #[v,.string s]).run P w=.ok v' w'/\jK w' e 1 v' (n+s.size) (xs++Lib.strCells s)/\w.grownBy w' v.ownBlock /\
   (∀ b,v'.ownBlock=some b->v.ownBlock=some b\/w.heap.size<=b):=by
 have hsmall:n+s.size<=9223372036854775807:=by simp only [maxLen] at h63; omega
 have hxl:xs.length=n:=by simpa using hown.1
 have O:(xs++Lib.strCells s).length=(n+s.size)*1:=by rw [QJ,hxl,TO,S4]
 have Y:∀ (vh:Nat) (row:Option Nat),
   jK (w.drew.alloc (.cells (xs.toArray++(Lib.strCells s).toArray++Builtin.zeroCells (Value.int .u8 0).cells (grownCap w (n+s.size) vh e-(n+s.size))) e)) e 1
    (.slice (some ⟨w.heap.size,0,none⟩) (n+s.size) (grownCap w (n+s.size) vh e)) (n+s.size) (xs++Lib.strCells s) /\
   w.grownBy (w.drew.alloc (.cells (xs.toArray++(Lib.strCells s).toArray++Builtin.zeroCells (Value.int .u8 0).cells (grownCap w (n+s.size) vh e-(n+s.size))) e)) row:=by
  intro vh row;have hge:=Va w (n+s.size) vh e;have hcm:grownCap w (n+s.size) vh e<=maxLen:=Ux w (n+s.size) vh e h63;refine ⟨⟨O,.inr ⟨w.heap.size,0,_,_,rfl,UC w.drew _,hge,hcm,?_,?_⟩⟩,⟨rfl,rfl,rfl,by simp,λk hk _=>heap_alloc_old w.drew _ (h:=hk)⟩⟩
  ·have hz1:(Value.int u8 0).cells.size=1:=rfl
   simp only [Array.size_append,SU,size_zeroCells,hz1,hxl,TO];omega
  ·simp only [RN,U4,QV]
   rw [<- QV,<- O];exact TF
 rcases hown.2 with ⟨rfl,rfl⟩ | ⟨g,off,cap,cur,rfl,hg,hnc,hcm,hcs,htake⟩
 ·have hx:xs=[]:=QZ hxl
  subst hx
  by_cases hm:s.size=0
  ·have hn:Lib.strCells s=[]:=QZ (by rw [TO]; exact hm)
   refine ⟨.slice none 0 0,w,?_,by rw [hm,hn]; exact jK.nil w e 1,⟨rfl,rfl,rfl,QM _,λ_ _ _=>rfl⟩,by simp [Value.ownBlock]⟩
   have hf:=Lib.run_firstCells_string (P:=P) w 1 s;rw [hm] at hf;simp [Builtin.append_,RY ht,RY hu,sizeOf,typeInfo,hi,J,Builtin.lenOf,hm,hf]
  ·have hr:=run_append_nil_string (P:=P) w t u ty e i (.int .u8 0) ht hu hi hz s (by omega) (by omega) (by rw [hby]; omega)
   have I:=Y 0 (Value.ownBlock (.slice none 0 0));simp only [QP,R7,Array.empty_append] at I ⊢;have e1:(s.data.map λb=>Value.int .u8 b.toNat)=(Lib.strCells s).toArray:=by
    apply Array.ext';simp [Lib.strCells]
   rw [e1] at hr;exact ⟨_,_,hr,I.1,I.2,λb hb=>.inr (by simp only [Value.ownBlock,QL] at hb; omega)⟩
 ·have hcs':off+cap<=cur.size:=by simpa using hcs
  by_cases Z:n+s.size<=cap
  ·have hf:=Lib.run_firstCells_string (P:=P) w 1 s
   obtain ⟨w',hst,hh,I⟩:=lj (P:=P) g (off+n) e (Lib.strCells s) 0 cur.toList w (by simpa using hg) (by rw [TO]; simp; omega) (Lib.strCells_oneCell s)
   refine ⟨.slice (some ⟨g,off,none⟩) (n+s.size) cap,w',?_,⟨O,.inr ⟨g,off,cap,_,rfl,hh,Z,hcm,?_,?_⟩⟩,I,λb hb=>.inl hb⟩
   ·simp [Builtin.append_,RY ht,RY hu,sizeOf,typeInfo,hi,J,Builtin.lenOf,Z,hf,Rz,hst]
   ·simpa [pV] using hcs
   ·rw [S0,RZ,w4 _ _ _ (by rw [TO]; simp; omega)]
    have hd:(cur.toList.take (off+n)).drop off=xs:=by rw [SP,SD]; simpa using htake
    rw [QV,Tg (by simp; omega),hd,<- QV,<- O]
    exact TF
  ·have holds:∀ j u,xs[j]? = some u->w.cell? ((⟨g,off,none⟩:Addr).add j)=some u:=by
    intro j u hu;rw [Rz];refine UR hg rfl ?_;rw [<- htake,Rf] at hu
    split at hu
    ·rw [Q_] at hu; simpa using hu
    ·cases hu
   have hr:=Lib.run_append_grow_string (P:=P) w t u ty e i (.int .u8 0) ht hu hi hz ⟨g,off,none⟩ n cap xs (by rw [J]; simpa using hxl) holds s (by omega) (by omega) (by rw [hby]; exact U_ (by omega) (by omega))
   have I:=Y cap (Value.ownBlock (.slice (some ⟨g,off,none⟩) n cap));exact ⟨_,_,hr,I.1,I.2,λb hb=>.inr (by simp only [Value.ownBlock,QL] at hb; omega)⟩
section
variable {x:Cx}{ops:Array Oper}{Q:l8}{rest:List Oper}{H:Hp}{M M':List bQ}{L L':Env}
variable {d:Nat}{ty:TypeId}{pos:String}{aft:Array Edge}{g:Option (Nat×Bool)}
theorem Eu {t u e:TypeId}{n:Nat}{y z:Operand}{v:Qn}{xs:List Qn}{l:List U8}{s:Qm}
  (hg:gd ops L ⟨some d,.call ⟨.builtin .append,#[y,z],#[t,u]⟩,ty,pos,aft,g⟩=some true) (hN:Nat.blt d x.N=true)
  (hT:x.P.underlying t=some (.slice e)) (hU:x.P.underlying u=some .string) (hi:NX x.P e 1 1 (.int .u8 0))
  (hy:ev L y=some v) (hz:ev L z=some (.string s)) (hx:Rw H v xs l) (hb:l.length+s.size<=140737488355328)
  (k:∀ v' Y,Rw H v' Y (l++kC s)->W x ops Q rest H (.row v' e (aG.sz U8) (l++kC s).length Y::M) ((d,v')::L)):
  W x ops Q (⟨some d,.call ⟨.builtin .append,#[y,z],#[t,u]⟩,ty,pos,aft,g⟩::rest) H (.row v e (aG.sz U8) n xs::M) L:=by
 obtain ⟨i,h1,h2,h3,h4⟩:=hi.ex;refine s7 rfl hg hN λa w O ht=>?_;have I:jK w e 1 v n xs:=ht.ok _ (Qu ..);have hn:n=l.length:=by
  have:=hx.rd.len;rw [I.1] at this;exact R_ (Nat.zero_lt_one) this
 subst hn;obtain ⟨v',w',hr,ho,hgr,Z⟩:=Ab (P:=x.P) (ty:=ty) hT hU h1 h4 h2 h3 I s (by unfold maxLen; omega) hb
 have J:(l++kC s).length=l.length+s.size:=by rw [QJ,yH]
 have hok:bQ.ok w' (.row v' e (aG.sz U8) (l++kC s).length (xs++Lib.strCells s)):=by rw [J]; exact ho
 refine ⟨v',w',?_,H,_,ht.Em (r':=.row v' e (aG.sz U8) (l++kC s).length (xs++Lib.strCells s)) hgr hok Z,k v' _ ⟨?_,ho.shape⟩⟩
 ·simp [execOp,resolve,invoke,builtin,O.ev hy,O.ev hz,hr]
 ·rw [AD]
  exact hx.rd.app (qA.u8 H _)
theorem EA {t e u:TypeId}{y z:Operand}{a:Addr} (hi:∃ j,x.P.info? e=some j) (J:gd ops L ⟨some d,.binOp .neq t y z u,ty,pos,aft,g⟩=some true) (hN:Nat.blt d x.N=true)
  (I:x.P.underlying t=some (.pointer e)) (Y:ev L y=some (.pointer (some a))) (Z:ev L z=some (.pointer (some a)))
  (k:W x ops Q rest H M ((d,.bool false)::L)):W x ops Q (⟨some d,.binOp .neq t y z u,ty,pos,aft,g⟩::rest) H M L:=
 fK rfl J hN (λc w hs _=>by
  obtain ⟨j,O⟩:=hi;have h:=Lib.run_neq_ptr_same (P:=x.P) w a I O;simp only [execOp,hs.ev Y,hs.ev Z,QD,eqGuard];simp [h]) k
theorem CU {B:Nat}{w0 w:World}{b:Nat}{cs:List Qn}{T:TypeId} (ht:St B w0 H M w) (hm:bQ.obj b (.cells cs.toArray T (0,0)) ∈ M):w.shape? b=some (T,cs.length):=by
 have h:=ht.vS hm;simp [World.shape?,h]
theorem FJ {src I T e:TypeId}{y:Operand}{b o:Nat}{cs:List Qn} (hm:bQ.obj b (.cells cs.toArray e (0,0)) ∈ M) (ho:Nat.blt o cs.length=true)
  (hi:∃ j,x.P.info? T=some j/\Nat.beq j.size 0=false) (Z:gd ops L ⟨some d,.convert src I y,ty,pos,aft,g⟩=some true) (hN:Nat.blt d x.N=true)
  (hs:x.P.underlying src=some (.pointer T)) (Y:x.P.underlying I=some .unsafePointer) (hy:ev L y=some (.pointer (some ⟨b,o,none⟩)))
  (k:W x ops Q rest H M ((d,.pointer (some ⟨b,o,none⟩))::L)):W x ops Q (⟨some d,.convert src I y,ty,pos,aft,g⟩::rest) H M L:=
 fK rfl Z hN (λc w O ht=>by
  obtain ⟨j,hj,J⟩:=hi;have h:=Lib.run_to_unsafe (P:=x.P) w ⟨b,o,none⟩ hs Y hj (λe=>by rw [e] at J; cases J) (CU ht hm) (by simpa [RA] using ho)
  simp only [execOp,O.ev hy,QD,h,Qz,QK]) k
theorem C7 {src I T e:TypeId}{y:Operand}{b o:Nat}{cs:List Qn} (hm:bQ.obj b (.cells cs.toArray e (0,0)) ∈ M)
  (hi:∃ j,x.P.info? T=some j) (hl:liesAt x.P x.P.depth e (cs.length / x.P.cellsOf e) o T 1=true) (Y:gd ops L ⟨some d,.convert src I y,ty,pos,aft,g⟩=some true) (hN:Nat.blt d x.N=true)
  (hs:x.P.underlying src=some .unsafePointer) (O:x.P.underlying I=some (.pointer T)) (hy:ev L y=some (.pointer (some ⟨b,o,none⟩)))
  (k:W x ops Q rest H M ((d,.pointer (some ⟨b,o,none⟩))::L)):W x ops Q (⟨some d,.convert src I y,ty,pos,aft,g⟩::rest) H M L:=
 fK rfl Y hN (λc w J ht=>by
  obtain ⟨j,Z⟩:=hi;have h:=Lib.run_from_unsafe (P:=x.P) w ⟨b,o,none⟩ hs O Z (CU ht hm) hl;simp only [execOp,J.ev hy,QD,h,Qz,QK]) k
theorem DJ {P:Program}{f:FuncId}{I:Func} (hf:P.funcs[f]? = some I) (J:(I.name == "runtime.NumGoroutine")=false) (O:I.body.isNone=true) (Y:Extern.findNext I=none) (Z:Extern.find I=some Extern.AbiNoEscape.same) (v:Qn):
  ∀ w,(callFunc f [v].toArray).run P w=.ok (.value v) w:=λw=>by
 rw [run_callFunc_extern hf J O Y Z,show [v].toArray=#[v] from rfl,Lib.run_noEscape]
 rfl
theorem EC {J:Array TypeId}{y:Operand}{a:Addr}{n c:Nat} (Y:gd ops L ⟨some d,.call ⟨.builtin .unsafeSliceData,#[y],J⟩,ty,pos,aft,g⟩=some true) (hN:Nat.blt d x.N=true)
  (Z:ev L y=some (.slice (some a) n c)) (O:c≠0) (k:W x ops Q rest H M ((d,.pointer (some a))::L)):
  W x ops Q (⟨some d,.call ⟨.builtin .unsafeSliceData,#[y],J⟩,ty,pos,aft,g⟩::rest) H M L:=
 fK rfl Y hN (λs w I ht=>by
  have h:=Lib.run_unsafeSliceData_row (P:=x.P) w J ty a n c O;simp [execOp,resolve,invoke,builtin,I.ev Z,h]) k
theorem xQ {P:Program} (w:World):∀ (l:List U8) (a:Addr) (acc:Qm),(∀ j y,l[j]? = some y->w.cell? (a.add j)=some (.int .u8 y.n)) ->
  (loadBytes a acc l.length).run P w=.ok ⟨acc.data++(l.map λy=>UInt8.ofNat y.n.toNat).toArray⟩ w
 | [],a,acc,_=>by simp [loadBytes]
 | y::l,a,acc,h=>by
  have J:w.cell? a=some (.int .u8 y.n):=by
   have:=h 0 y rfl;simpa [Addr.add] using this
  have ih:=xQ (P:=P) w l (a.add 1) (acc.push (UInt8.ofNat y.n.toNat)) (λj z Y=>by
   have:=h (j+1) z (by simpa using Y)
   have e:(a.add 1).add j=a.add (j+1):=by
    unfold Addr.add
    by_cases I:j=0
    ·subst I; simp
    ·simp [I]; omega
   rw [e]; exact this)
  have O:(y.n.toNat).toUInt8=UInt8.ofNat y.n.toNat:=rfl;simp only [QA,loadBytes,QD,run_load,J,Result.andThen,O];rw [ih]
  congr 1
  apply ByteArray.ext;simp [ByteArray.push]
theorem Cr {P:Program}{e:TypeId} (O:P.cellsOf e=1) (I off n:Nat) (hn:off+n<=I):liesAt P P.depth e I off e n=true:=by
 have J:P.depth=(2*(P.types.size+Made.depth)+1)+1:=rfl;rw [J];simp only [liesAt,R6]
 left
 rw [J];simp [rowAt,O,hn,sameLayout,Nat.mod_one]
theorem ED {pt it e:TypeId}{y z:Operand}{I off n cap:Nat}{xs:List Qn}{l:List U8}
  (hg:gd ops L ⟨some d,.call ⟨.builtin .unsafeString,#[y,z],#[pt,it]⟩,ty,pos,aft,g⟩=some true) (hN:Nat.blt d x.N=true)
  (hp:x.P.underlying pt=some (.pointer e)) (hc:x.P.cellsOf e=1)
  (hy:ev L y=some (.pointer (some ⟨I,off,none⟩))) (hz:ev L z=some (.int .i64 (l.length:Int))) (h0:0<l.length)
  (hx:Rw H (.slice (some ⟨I,off,none⟩) n cap) xs l)
  (k:W x ops Q rest H M ((d,.string (zd l))::L)):
  W x ops Q (⟨some d,.call ⟨.builtin .unsafeString,#[y,z],#[pt,it]⟩,ty,pos,aft,g⟩::rest) H (.row (.slice (some ⟨I,off,none⟩) n cap) e (aG.sz U8) n xs::M) L:=by
 refine s7 rfl hg hN λa w hsl ht=>?_;have J:jK w e 1 (.slice (some ⟨I,off,none⟩) n cap) n xs:=ht.ok _ (Qu ..);have hn:n=l.length:=by
  have:=hx.rd.len;rw [J.1] at this;exact R_ (Nat.zero_lt_one) this
 rcases J.2 with ⟨h,_⟩ | ⟨g',off',oC,O,he,hgc,hnc,hcm,hcs,htake⟩
 ·cases h
 cases he;have hcs':off+cap<=O.size:=by simpa using hcs
 have hsh:w.shape? I=some (e,O.size):=by simp [World.shape?,hgc]
 have Y:∀ j y,l[j]? = some y->w.cell? ((⟨I,off,none⟩:Addr).add j)=some (.int .u8 y.n):=by
  intro j y hj;obtain ⟨cs,h1,h2⟩:=hx.rd.get j y hj;have h1:cs=[.int .u8 y.n]:=h1;have h3:=h2 0 (.int .u8 y.n) (by rw [h1]; rfl)
  rw [Rz];refine UR hgc rfl ?_;rw [<- htake,Rf] at h3
  split at h3
  ·rw [Q_] at h3
   simpa [aG.sz] using h3
  ·cases h3
 have hlb:=xQ (P:=x.P) w l ⟨I,off,none⟩ .empty Y;have Z:=Cr (P:=x.P) hc (O.size / x.P.cellsOf e) off l.length (by rw [hc,Nat.div_one]; omega)
 have hmax:i64.max=9223372036854775807:=rfl;have hl0:l.length≠0:=by omega
 have h63':¬ (9223372036854775807:Int)<(l.length:Int):=by unfold maxLen at hcm; omega
 have hneg:¬ (l.length:Int)<0:=by omega
 have hrun:(Builtin.unsafeString_ #[pt,it] ty #[.pointer (some ⟨I,off,none⟩),.int .i64 l.length]).run x.P w=.ok (.string (zd l)) (w.freeze ⟨I,off,none⟩ l.length):=by
  have hdef:Builtin.unsafeString_ #[pt,it] ty #[.pointer (some ⟨I,off,none⟩),.int .i64 l.length] =
    (do
     let n <- asInt (.int .i64 l.length)
     if n<0 then runtimePanic (.error "unsafe.String: len out of range")
     if n > i64.max then unsupported (.unsafePointer "String: a length above the largest int")
     if n=0 then pure (.string .empty)
     else if <- variablesAt ⟨I,off,none⟩ (<- elemOf pt) n.toNat then do
      let s <- loadBytes ⟨I,off,none⟩ .empty n.toNat
      freeze ⟨I,off,none⟩ n.toNat
      pure (.string s)
     else unsupported (.unsafePointer "String: not so many bytes at ptr")):=rfl
  rw [hdef];have he0:ByteArray.empty.data=#[]:=rfl;simp [asInt,asIntOf,hmax,h63',hneg,hl0,variablesAt,hsh,elemOf,RY hp,Z,hlb,zd]
 have hgr:w.grownBy (w.freeze ⟨I,off,none⟩ l.length) (some I):=by
  unfold World.freeze
  split
  ·exact ⟨rfl,rfl,rfl,QM _,λ_ _ _=>rfl⟩
  ·exact ⟨rfl,rfl,rfl,by simp,λq hq hne=>by
    simp only [UL];rw [Qw (by intro e; exact hne (by rw [e]))]⟩
 have h1:=ht.Em (r':=.row (.slice none 0 0) 0 1 0 []) hgr (jK.nil _ _ _) (by intro b hb; simp [bQ.zj,Value.ownBlock] at hb)
 refine ⟨.string (zd l),w.freeze ⟨I,off,none⟩ l.length,?_,H,M,h1.tail,k⟩;simp [execOp,resolve,invoke,builtin,hsl.ev hy,hsl.ev hz,hrun]
end
end Go.Sim
namespace Go.Sim
open Go
open _root_.Go.IntKind (i64 u64 u32 u8)
def rowsOf (T:TypeId) (sz:Nat) {α:Type} (ws:List (Qn×List Qn)) (ls:List (List α)):List bQ:=List.zipWith (λw l=>bQ.row w.1 T sz l.length w.2) ws ls
structure Mx {α:Type}[aG α] (T1 T2:TypeId) (H:Hp) (v:Qn) (hs:List Qn) (mx:List bQ) (sg:List Nat) (ls:List (List α)):Prop where
 ex:∃ (xs:List Qn) (ws:List (Qn×List Qn)),mx=.row v T1 1 sg.length xs::rowsOf T2 (aG.sz α) ws ls/\ws.length=ls.length/\ws.map (·.1)=hs/\(∀ (k:Nat) (w:Qn×List Qn) (l:List α),ws[k]? = some w->ls[k]? = some l->Rw H w.1 w.2 l) /\
  xs.length=sg.length/\(∀ (i k:Nat),sg[i]? = some k->∃ w:Qn×List Qn,ws[k]? = some w/\xs[i]? = some w.1)
 sl:∃ a n c,v=.slice a n c
section
variable {α:Type}[aG α] {T1 T2:TypeId}{H H':Hp}{v:Qn}{hs:List Qn}{mx:List bQ}{sg:List Nat}{ls:List (List α)}
theorem Mx.mono (h:Mx T1 T2 H v hs mx sg ls) (J:H.le H'):Mx T1 T2 H' v hs mx sg ls:=by
 obtain ⟨xs,ws,O,Y,I,Z,h4,h5⟩:=h.ex;exact ⟨⟨xs,ws,O,Y,I,λk w l a b=>(Z k w l a b).mono J,h4,h5⟩,h.sl⟩
theorem F7 {ws:List (Qn×List Qn)}{k:Nat}{w:Qn} (J:ws.map (·.1)=hs) (I:hs[k]? = some w):∃ u,ws[k]? = some u/\u.1=w:=by
 rw [<- J,QW] at I;cases e:ws[k]? with
 | none=>rw [e] at I; simp at I
 | some u=>rw [e] at I; exact ⟨u,rfl,Qs I⟩
theorem Mx.row (h:Mx T1 T2 H v hs mx sg ls) {k:Nat}{w:Qn} (Z:hs[k]? = some w):∃ (xs:List Qn) (m1 m2:List bQ),k<ls.length/\mx=m1++.row w T2 (aG.sz α) ((ls[k]?).getD []).length xs::m2/\Rw H w xs ((ls[k]?).getD []) /\
  ∀ (H':Hp) (I:List Qn) (l':List α),H.le H'->Rw H' w I l'->Mx T1 T2 H' v hs (m1++.row w T2 (aG.sz α) l'.length I::m2) sg (ls.set k l'):=by
 obtain ⟨oxs,ws,rfl,h2,h2',h3,h4,h5⟩:=h.ex;have hh:=Z;clear Z;obtain ⟨w,Z,rfl⟩:=F7 h2' hh;have J:k<ws.length:=(Qt.1 Z).1;have hk:k<ls.length:=by omega
 have hl:=Qp hk;have hwe:ws[k]=w:=by rw [Qp J] at Z; exact Qs Z
 have hsp:∀ (ws:List (Qn×List Qn)) (ls:List (List α)) (h1:k<ws.length) (h2:k<ls.length),rowsOf T2 (aG.sz α) ws ls=rowsOf T2 (aG.sz α) (ws.take k) (ls.take k)++.row ws[k].1 T2 (aG.sz α) ls[k].length ws[k].2::rowsOf T2 (aG.sz α) (ws.drop (k+1)) (ls.drop (k+1)):=λws ls h1 h2=>by
  have e1:ws=ws.take k++ws[k]::ws.drop (k+1):=by rw [<- Q0 h1,RT]
  have e2:ls=ls.take k++ls[k]::ls.drop (k+1):=by rw [<- Q0 h2,RT]
  have e3:rowsOf T2 (aG.sz α) ws ls=rowsOf T2 (aG.sz α) (ws.take k++ws[k]::ws.drop (k+1)) (ls.take k++ls[k]::ls.drop (k+1)):=by rw [<- e1,<- e2]
  rw [e3];unfold rowsOf;rw [TR (by simp; omega)]
  rfl
 have hg:(ls[k]?).getD []=ls[k]:=by rw [hl]; rfl
 rw [hg];refine ⟨w.2,.row v T1 1 sg.length oxs::rowsOf T2 (aG.sz α) (ws.take k) (ls.take k),rowsOf T2 (aG.sz α) (ws.drop (k+1)) (ls.drop (k+1)),hk,?_,h3 k w _ Z hl,λH' I l' hle hr=>⟨⟨oxs,ws.set k (w.1,I),?_,by simp [h2],?_,λj u l Y O=>?_,h4,λi' j hj=>?_⟩,h.sl⟩⟩
 ·rw [hsp ws ls J hk,hwe]; rfl
 ·rw [hsp (ws.set k (w.1,I)) (ls.set k l') (by simpa using J) (by simpa using hk)]
  have t1:(ws.set k (w.1,I)).take k=ws.take k:=Ti (QM k);have t2:(ls.set k l').take k=ls.take k:=Ti (QM k);have t3:(ws.set k (w.1,I)).drop (k+1)=ws.drop (k+1):=SY (Si k);have t4:(ls.set k l').drop (k+1)=ls.drop (k+1):=SY (Si k);rw [t1,t2,t3,t4];simp
 ·rw [List.map_set,h2']
  obtain ⟨e1,e2⟩:=Qt.1 hh;rw [<- e2,UO]
 ·by_cases e:k=j
  ·subst e
   rw [QU J] at Y;rw [QU hk] at O;obtain rfl:=Qs Y;obtain rfl:=Qs O;exact hr
  ·rw [QQ e] at Y O
   exact (h3 j u l Y O).mono hle
 ·obtain ⟨u,Y,hx'⟩:=h5 i' j hj
  by_cases e:k=j
  ·subst e
   rw [Z] at Y;obtain rfl:=Qs Y;exact ⟨(w.1,I),by rw [QU J],hx'⟩
  ·exact ⟨u,by rw [QQ e]; exact Y,hx'⟩
theorem Mx.outer (h:Mx T1 T2 H v hs mx sg ls):∃ J m2,mx=.row v T1 1 sg.length J::m2/\J.length=sg.length/\(∀ (i k:Nat),sg[i]? = some k->∃ w,hs[k]? = some w/\J[i]? = some w) /\
  (∀ (i k:Nat) (w:Qn),i<sg.length->hs[k]? = some w->Mx T1 T2 H v hs (.row v T1 1 (sg.set i k).length (J.set i w)::m2) (sg.set i k) ls) /\
  (∀ (i:Nat) (w:Qn) (xs:List Qn) (l:List α),i<sg.length->Rw H w xs l->Mx T1 T2 H v (hs++[w]) (.row v T1 1 (sg.set i ls.length).length (J.set i w)::(m2++[.row w T2 (aG.sz α) l.length xs])) (sg.set i ls.length) (ls++[l])):=by
 obtain ⟨J,ws,rfl,h2,Z,h3,h4,h5⟩:=h.ex;refine ⟨J,_,rfl,h4,λi k hk=>?_,λi k w hi hw=>?_,λi w xs l hi hr=>?_⟩
 ·obtain ⟨u,O,hx⟩:=h5 i k hk
  exact ⟨u.1,by rw [<- Z,QW,O]; rfl,hx⟩
 ·obtain ⟨u,O,rfl⟩:=F7 Z hw
  refine ⟨⟨J.set i u.1,ws,rfl,h2,Z,h3,by simp [h4],λi' k' I=>?_⟩,h.sl⟩
  by_cases e:i=i'
  ·subst e
   rw [QU hi] at I;obtain rfl:=Qs I;exact ⟨u,O,by rw [QU (by omega)]⟩
  ·rw [QQ e] at I
   obtain ⟨u',hu',hx'⟩:=h5 i' k' I;exact ⟨u',hu',by rw [QQ e]; exact hx'⟩
 ·refine ⟨⟨J.set i w,ws++[(w,xs)],?_,by simp [h2],by simp [Z],λj u l' O Y=>?_,by simp [h4],λi' k' I=>?_⟩,h.sl⟩
  ·unfold rowsOf
   rw [TR h2]
   rfl
  ·rcases Sr j ls.length with hj | hj
   ·rw [RF (by omega)] at O Y
    exact h3 j u l' O Y
   ·rw [Q2 (by omega)] at O Y
    rw [h2] at O;cases e:j-ls.length with
    | zero=>
     rw [e] at O Y;obtain rfl:=Qs O;obtain rfl:=Qs Y;exact hr
    | succ m=>rw [e] at O; simp at O
  ·by_cases e:i=i'
   ·subst e
    rw [QU hi] at I;obtain rfl:=Qs I;exact ⟨(w,xs),by rw [Q2 (by omega),h2,RK]; rfl,by rw [QU (by omega)]⟩
   ·rw [QQ e] at I
    obtain ⟨u',hu',hx'⟩:=h5 i' k' I;exact ⟨u',by rw [RF (Qt.1 hu').1]; exact hu',by rw [QQ e]; exact hx'⟩
end
structure HI where
 mk ::
instance:aG HI where
 sz:=1
 E _ cs _:=cs=[.slice none 0 0]
 len h:=by rw [h]; rfl
 mono _ h:=h
 one h c hc:=by rw [h] at hc; simp at hc; subst hc; rfl
theorem BP {H:Hp}:∀ {n:Nat}{xs:List Qn},qA H xs (List.replicate n HI.mk)->xs=List.replicate n (.slice none 0 0)
 | 0,xs,h=>h
 | n+1,xs,h=>by
  obtain ⟨cs,r,rfl,he,I⟩:=h;have he:cs=[.slice none 0 0]:=he;rw [he,BP I]; rfl
section
variable {α:Type}[aG α] {T1 T2:TypeId}{H H':Hp}{v:Qn}{hs:List Qn}{mx:List bQ}{sg:List Nat}{ls:List (List α)}
theorem Mx.make {n:Nat}{I:List Qn} (h:Rw H v I (List.replicate n HI.mk)):Mx T1 T2 H v [.slice none 0 0] (.row v T1 1 (List.replicate n 0).length I::[.row (.slice none 0 0) T2 (aG.sz α) 0 []]) (List.replicate n 0) ([[]]:List (List α)):=by
 have O:=BP h.rd;refine ⟨⟨I,[(.slice none 0 0,[])],rfl,rfl,rfl,λk w l J hl=>?_,by rw [O]; simp,λi k Y=>?_⟩,h.sl⟩
 ·cases k with
  | zero=>
   obtain rfl:=Qs J;obtain rfl:=Qs hl;exact Rw.nil
  | succ k=>simp at J
 ·obtain ⟨hi,he⟩:=Qt.1 Y
  rw [List.getElem_replicate] at he;subst he;refine ⟨_,rfl,?_⟩;rw [O,SS,Qx (by simpa using hi)]
theorem Bx {B:Nat}{w0 w:World}{M:List bQ} (hs:0<aG.sz α):∀ (ws:List (Qn×List Qn)) (ls:List (List α)) (H:Hp),ws.length=ls.length ->
  (∀ (k:Nat) (u:Qn×List Qn) (l:List α),ws[k]? = some u->ls[k]? = some l->Rw H u.1 u.2 l)->St B w0 H (rowsOf T2 (aG.sz α) ws ls++M) w ->
  ∃ H',H.le H'/\St B w0 H' M w/\∀ (k:Nat) (u:Qn×List Qn) (l:List α),ws[k]? = some u->ls[k]? = some l->aQ H' u.1 l
 | [],[],H,_,_,ht=>⟨H,Rk _,ht,λk u l J _=>by simp at J⟩
 | [],_::_,H,hl,_,_=>by simp at hl
 | _::_,[],H,hl,_,_=>by simp at hl
 | u::ws,l::ls,H,hl,hr,ht=>by
  have ht:St B w0 H (.row u.1 T2 (aG.sz α) l.length u.2::(rowsOf T2 (aG.sz α) ws ls++M)) w:=ht;obtain ⟨H1,Z,h2,h3⟩:=ht.wc (hr 0 u l rfl rfl).rd hs;obtain ⟨H2,Y,g2,g3⟩:=Bx hs ws ls H1 (by simpa using hl) (λk O l' J I=>(hr (k+1) O l' (by simpa using J) (by simpa using I)).mono Z) h2
  refine ⟨H2,Uk Z Y,g2,λk O l' J I=>?_⟩;cases k with
  | zero=>
   obtain rfl:=Qs J;obtain rfl:=Qs I;exact h3.mono Y
  | succ k=>exact g3 k O l' (by simpa using J) (by simpa using I)
theorem CW {H:Hp}:∀ (xs:List Qn) (l:List (List α)),xs.length=l.length->(∀ (i:Nat) (y:Qn) (e:List α),xs[i]? = some y->l[i]? = some e->aQ H y e)->qA H xs l
 | [],[],_,_=>rfl
 | [],_::_,h,_=>by simp at h
 | _::_,[],h,_=>by simp at h
 | y::xs,e::l,h,hr=>⟨[y],xs,rfl,⟨y,rfl,hr 0 y e rfl rfl⟩,CW xs l (by simpa using h) (λi O I J he=>hr (i+1) O I (by simpa using J) (by simpa using he))⟩
def rI (sg:List Nat) (ls:List (List α)):List (List α):=sg.map λk=>(ls[k]?).getD []
theorem St.EO {B:Nat}{w0 w:World}{M:List bQ} (ht:St B w0 H (mx++M) w) (h:Mx T1 T2 H v hs mx sg ls) (h0:0<aG.sz α):∃ H',H.le H'/\St B w0 H' M w/\aQ H' v (rI sg ls):=by
 obtain ⟨I,ws,rfl,h2,_,h3,h4,h5⟩:=h.ex;have ht1:St B w0 H (rowsOf T2 (aG.sz α) ws ls++(.row v T1 1 sg.length I::M)) w:=ht.perm (by
  rw [SL];exact List.perm_middle.symm)
 obtain ⟨H1,g1,g2,g3⟩:=Bx h0 ws ls H h2 h3 ht1;have hv:(rI sg ls).length=sg.length:=by unfold rI; simp
 have Z:qA H1 I (rI sg ls):=CW I _ (by rw [hv]; exact h4) (λi y e hy he=>by
  unfold rI at he;rw [QW] at he;cases O:sg[i]? with
  | none=>rw [O] at he; simp at he
  | some k=>
   rw [O] at he;obtain ⟨u,hu,hx⟩:=h5 i k O;rw [hy] at hx;obtain rfl:=Qs hx;have Y:k<ls.length:=by rw [<- h2]; exact (Qt.1 hu).1
   have hl:=Qp Y;simp only [RV,QL] at he;rw [hl,Su] at he;rw [<- he];exact g3 k u _ hu hl)
 have J:St B w0 H1 (.row v T1 (aG.sz (List α)) sg.length I::M) w:=g2;obtain ⟨H2,k1,k2,k3⟩:=J.wc Z Nat.one_pos;exact ⟨H2,Uk g1 k1,k2,k3⟩
end
section
variable {x:Cx}{ops:Array Oper}{Q:l8}{rest:List Oper}{H:Hp}{M:List bQ}{L:Env}
theorem FI {α:Type}[aG α] {T1 T2:TypeId}{v:Qn}{hs:List Qn}{mx:List bQ}{sg:List Nat}{ls:List (List α)} (h:Mx T1 T2 H v hs mx sg ls) (J:Nat.blt 0 (aG.sz α)=true)
  (k:∀ H',H.le H'->aQ H' v (rI sg ls)->W x ops Q rest H' M L):W x ops Q rest H (mx++M) L:=by
 intro a w I ht;obtain ⟨H',O,Y,Z⟩:=St.EO ht h (by simpa [RA] using J)
 exact k H' O Z a w I Y
variable {d:Nat}{ty:TypeId}{pos:String}{aft:Array Edge}{g:Option (Nat×Bool)}
theorem sV (pre J O I:List bQ) (r:bQ):(pre++((J++r::O)++I)).Perm (r::(pre++((J++O)++I))):=by
 have Y:(pre++((J++r::O)++I))=(pre++J)++r::(O++I):=by simp
 have Z:(r::(pre++((J++O)++I)))=r::((pre++J)++(O++I)):=by simp
 rw [Y,Z];exact List.perm_middle
theorem Mx.get {α:Type}[aG α] {T1 T2:TypeId}{v:Qn}{hs:List Qn}{mx:List bQ}{sg:List Nat}{ls:List (List α)} (h:Mx T1 T2 H v hs mx sg ls) {k:Nat}{w:Qn} (J:hs[k]? = some w):
  ∃ xs:List Qn,bQ.row w T2 (aG.sz α) ((ls[k]?).getD []).length xs ∈ mx/\Rw H w xs ((ls[k]?).getD []):=by
 obtain ⟨xs,O,Y,_,he,I,_⟩:=h.row J;exact ⟨xs,by rw [he]; exact Rs _ (Qu ..),I⟩
theorem te {α:Type}[aG α] {T1 T2 T:TypeId}{m:Nat}{y z:Operand}{v u w:Qn}{ad:Addr}{hs cs:List Qn}{pre mx:List bQ}{sg:List Nat}{ls:List (List α)}{k j:Nat}{e2:α}
  (h:Mx T1 T2 H v hs mx sg ls) (hx:hs[k]? = some w) (hj:j<((ls[k]?).getD []).length) (O:aG.E H cs e2)
  (hg:gd ops L ⟨none,.store T y z,ty,pos,aft,g⟩=some true) (hn:∀ w,(sizeOf T).run x.P w=.ok m w) (hm:m=aG.sz α) (h0:Nat.blt 0 (aG.sz α)=true)
  (hy:ev L y=some (.pointer (some ad))) (Y:ad=(Value.base w).add (j*aG.sz α)) (hz:ev L z=some u) (hv:u.cells=cs.toArray)
  (kk:∀ J,Mx T1 T2 H v hs J sg (ls.set k (((ls[k]?).getD []).set j e2))->W x ops Q rest H (pre++(J++M)) L):
  W x ops Q (⟨none,.store T y z,ty,pos,aft,g⟩::rest) H (pre++(mx++M)) L:=by
 obtain ⟨xs,m1,m2,hk,rfl,hr,hup⟩:=h.row hx;have hcl:=aG.len O;have hs':0<aG.sz α:=by simpa [RA] using h0
 have he:=Qp hj;obtain ⟨c,hc,Z⟩:=hr.elem he;have hccl:=aG.len hc;have ho:over c 0 cs=cs:=by
  rw [w4 cs c 0 (by omega),UA,R7,List.drop_eq_nil_of_le (by omega),Q8]
 obtain ⟨p1,_,_⟩:=Rw.put (k:=j) (o:=0) (e2:=e2) hr he hc Z (by simp [S8]; omega) ho O
 have I:j*aG.sz α+cs.length<=xs.length:=by
  have hlen:=hr.rd.len;have:(j+1)*aG.sz α<=((ls[k]?).getD []).length*aG.sz α:=QI _ hj;rw [QO,Ul] at this;omega
 refine oB (sV pre m1 m2 M _) ?_;refine xw (i:=j*aG.sz α) (cs:=cs) hg hn hy Y hz hv (by omega) I (by simp [RA]; omega) (aG.one O) ?_
 have h2:=hup H _ _ (Rk _) p1;rw [RM,RZ] at h2;refine oB (sV pre m1 m2 M _).symm ?_;exact kk _ h2
theorem GR {α:Type}[aG α] {T1 T2 T:TypeId}{y z:Operand}{v w:Qn}{ad:Addr}{hs:List Qn}{pre mx:List bQ}{sg:List Nat}{ls:List (List α)}{i k:Nat}
  (h:Mx T1 T2 H v hs mx sg ls) (hi:i<sg.length) (hx:hs[k]? = some w)
  (hg:gd ops L ⟨none,.store T y z,ty,pos,aft,g⟩=some true) (hn:∀ w,(sizeOf T).run x.P w=.ok 1 w)
  (hy:ev L y=some (.pointer (some ad))) (Y:ad=(Value.base v).add (i*1)) (hz:ev L z=some w)
  (kk:∀ J,Mx T1 T2 H v hs J (sg.set i k) ls->W x ops Q rest H (pre++(J++M)) L):
  W x ops Q (⟨none,.store T y z,ty,pos,aft,g⟩::rest) H (pre++(mx++M)) L:=by
 obtain ⟨_,_,_,_,_,hr,_⟩:=h.row hx;obtain ⟨O,m2,rfl,hl,_,I,_⟩:=h.outer;refine oB (sV pre [] m2 M _) ?_;refine xw (i:=i*1) (cs:=[w]) hg hn hy Y hz hr.cells rfl (by simp; omega) rfl (λc hc=>by simp at hc; subst hc; exact hr.one) ?_
 have Z:=I i k w hi hx;rw [RM] at Z;have e:over O (i*1) [w]=O.set i w:=by rw [S4]; rfl
 rw [e];refine oB (sV pre [] m2 M _).symm ?_;exact kk _ Z
theorem C6 {α:Type}[aG α] {T1 T2 T:TypeId}{y z:Operand}{v w:Qn}{ad:Addr}{hs xs:List Qn}{pre mx:List bQ}{sg:List Nat}{ls:List (List α)}{l:List α}{i:Nat}
  (h:Mx T1 T2 H v hs mx sg ls) (hi:i<sg.length) (hr:Rw H w xs l)
  (hg:gd ops L ⟨none,.store T y z,ty,pos,aft,g⟩=some true) (hn:∀ w,(sizeOf T).run x.P w=.ok 1 w)
  (hy:ev L y=some (.pointer (some ad))) (Z:ad=(Value.base v).add (i*1)) (hz:ev L z=some w)
  (kk:∀ Y,Mx T1 T2 H v (hs++[w]) Y (sg.set i ls.length) (ls++[l])->W x ops Q rest H (pre++(Y++M)) L):
  W x ops Q (⟨none,.store T y z,ty,pos,aft,g⟩::rest) H (.row w T2 (aG.sz α) l.length xs::(pre++(mx++M))) L:=by
 obtain ⟨I,J,rfl,hl,_,_,O⟩:=h.outer;have p1:(bQ.row w T2 (aG.sz α) l.length xs::(pre++((.row v T1 1 sg.length I::J)++M))).Perm (.row v T1 1 sg.length I::(.row w T2 (aG.sz α) l.length xs::(pre++(J++M)))):=
  ((sV pre [] J M _).cons _).trans (List.Perm.swap _ _ _)
 refine oB p1 ?_;refine xw (i:=i*1) (cs:=[w]) hg hn hy Z hz hr.cells rfl (by simp; omega) rfl (λc hc=>by simp at hc; subst hc; exact hr.one) ?_
 have h2:=O i w xs l hi hr;rw [RM] at h2;have e:over I (i*1) [w]=I.set i w:=by rw [S4]; rfl
 rw [e];have p2:(bQ.row v T1 1 sg.length (I.set i w)::(.row w T2 (aG.sz α) l.length xs::(pre++(J++M)))).Perm (pre++((.row v T1 1 sg.length (I.set i w)::(J++[.row w T2 (aG.sz α) l.length xs]))++M)):=by
  refine (sV pre [] (J++[.row w T2 (aG.sz α) l.length xs]) M _).trans ?_ |>.symm;refine List.Perm.cons _ ?_;have:=sV pre J [] M (.row w T2 (aG.sz α) l.length xs);simpa using this
 refine oB p2 ?_;exact kk _ h2
def uj (sz n:Nat):Qn->Qn
 | .slice (some ⟨b,off,sp⟩) len cap=>.slice (some ⟨b,if cap=n then off else off+n*sz,sp⟩) (len-n) (cap-n)
 | y=>y
theorem jK.sub {w:World}{T:TypeId}{sz n m:Nat}{v:Qn}{xs:List Qn} (h:jK w T sz v n xs) (hm:m<=n):jK w T sz (uj sz m v) (n-m) (xs.drop (m*sz)):=by
 obtain ⟨hl,hh⟩:=h;refine ⟨by rw [R3,hl,Nat.sub_mul],?_⟩
 rcases hh with ⟨rfl,h0⟩ | ⟨O,off,cap,J,rfl,hg,hnc,hcm,hcs,I⟩
 ·exact .inl ⟨rfl,by omega⟩
 ·have h1:m*sz+(cap-m)*sz=cap*sz:=by rw [<- QO,Nat.add_sub_cancel' (by omega)]
  have h2:m*sz+(n-m)*sz=n*sz:=by rw [<- QO,Nat.add_sub_cancel' hm]
  by_cases Z:cap=m
  ·have Y:n=m:=by omega
   refine .inr ⟨O,off,cap-m,J,by show Value.slice (some ⟨O,if cap=m then off else off+m*sz,none⟩) _ _=_; rw [Qx Z],hg,by omega,by omega,by omega,?_⟩
   rw [<- I,SP,Y,RK,RK,R2,UA,UA]
  ·refine .inr ⟨O,off+m*sz,cap-m,J,by show Value.slice (some ⟨O,if cap=m then off else off+m*sz,none⟩) _ _=_; rw [Qw Z],hg,by omega,by omega,by omega,?_⟩
   rw [<- I,SP,Sd]
   congr 1
   omega
theorem IL {sz m:Nat} (v:Qn):(uj sz m v).ownBlock=v.ownBlock:=by
 unfold uj
 split
 ·rename_i b off sp len cap
  cases sp <;> rfl
 ·rfl
theorem St.same {B:Nat}{w0 w:World}{r r':bQ} (h:St B w0 H (r::M) w) (I:r'.ok w) (O:r'.uS=r.uS):St B w0 H (r'::M) w:=by
 refine ⟨h.below,h.le,h.um,λs hs=>?_,λs hs b J=>?_,?_⟩
 ·rcases Ra.1 hs with rfl | hs
  ·exact I
  ·exact h.ok s (Qy _ hs)
 ·rcases Ra.1 hs with rfl | hs
  ·exact h.lo r (Qu ..) b (by rw [<- O]; exact J)
  ·exact h.lo s (Qy _ hs) b J
 ·have:=h.nd
  simp only [RJ,O] at this ⊢;exact this
theorem Rw.sub {α:Type}[aG α] {v:Qn}{xs:List Qn}{l:List α} (h:Rw H v xs l) {m:Nat} (hm:m<=l.length):Rw H (uj (aG.sz α) m v) (xs.drop (m*aG.sz α)) (l.drop m):=by
 refine ⟨?_,?_⟩
 ·have key:∀ (m:Nat) (xs:List Qn) (l:List α),qA H xs l->m<=l.length->qA H (xs.drop (m*aG.sz α)) (l.drop m):=by
   intro m
   induction m with
   | zero=>intro xs l h _; simpa using h
   | succ m ih=>
    intro xs l h hm;cases l with
    | nil=>simp at hm
    | cons e l=>
     obtain ⟨c,r,rfl,he,J⟩:=h;have I:=aG.len he;rw [U5,QO,Ul,S3,<- Sd,<- I,List.drop_left,I];exact ih r l J (by simpa using hm)
  exact key m xs l h.rd hm
 ·obtain ⟨a,n,c,rfl⟩:=h.sl
  cases a with
  | none=>exact ⟨_,_,_,rfl⟩
  | some ad=>obtain ⟨b,off,sp⟩:=ad; exact ⟨_,_,_,rfl⟩
theorem Lf {α:Type}[aG α] {T1 T2 T:TypeId}{y z:Operand}{v w:Qn}{ad:Addr}{hs:List Qn}{pre mx:List bQ}{sg:List Nat}{ls:List (List α)}{i k n:Nat}
  (h:Mx T1 T2 H v hs mx sg ls) (hi:i<sg.length) (hx:hs[k]? = some w) (hn':n<=((ls[k]?).getD []).length) (hone:∀ j:Nat,sg[j]? = some k->j=i)
  (hg:gd ops L ⟨none,.store T y z,ty,pos,aft,g⟩=some true) (hn:∀ w,(sizeOf T).run x.P w=.ok 1 w)
  (hy:ev L y=some (.pointer (some ad))) (had:ad=(Value.base v).add (i*1)) (hz:ev L z=some (uj (aG.sz α) n w))
  (kk:∀ mx',Mx T1 T2 H v (hs.set k (uj (aG.sz α) n w)) mx' (sg.set i k) (ls.set k (((ls[k]?).getD []).drop n))->W x ops Q rest H (pre++(mx'++M)) L):
  W x ops Q (⟨none,.store T y z,ty,pos,aft,g⟩::rest) H (pre++(mx++M)) L:=by
 obtain ⟨I,ws,rfl,h2,h2',h3,h4,h5⟩:=h.ex;obtain ⟨u,hu,rfl⟩:=F7 h2' hx;have Y:k<ws.length:=(Qt.1 hu).1;have hk:k<ls.length:=by omega
 have hl:=Qp hk;have hwe:ws[k]=u:=by rw [Qp Y] at hu; exact Qs hu
 have hgd:(ls[k]?).getD []=ls[k]:=by rw [hl]; rfl
 rw [hgd] at hn' kk;have hr:=h3 k u _ hu hl;have hrs:=hr.sub hn';have hsp:∀ (ws:List (Qn×List Qn)) (ls:List (List α)) (h1:k<ws.length) (h2:k<ls.length),rowsOf T2 (aG.sz α) ws ls=rowsOf T2 (aG.sz α) (ws.take k) (ls.take k)++.row ws[k].1 T2 (aG.sz α) ls[k].length ws[k].2::rowsOf T2 (aG.sz α) (ws.drop (k+1)) (ls.drop (k+1)):=λws ls h1 h2=>by
  have e1:ws=ws.take k++ws[k]::ws.drop (k+1):=by rw [<- Q0 h1,RT]
  have e2:ls=ls.take k++ls[k]::ls.drop (k+1):=by rw [<- Q0 h2,RT]
  have e3:rowsOf T2 (aG.sz α) ws ls=rowsOf T2 (aG.sz α) (ws.take k++ws[k]::ws.drop (k+1)) (ls.take k++ls[k]::ls.drop (k+1)):=by rw [<- e1,<- e2]
  rw [e3];unfold rowsOf;rw [TR (by simp; omega)]
  rfl
 generalize hA:rowsOf T2 (aG.sz α) (ws.take k) (ls.take k)=A at hsp;generalize hB:rowsOf T2 (aG.sz α) (ws.drop (k+1)) (ls.drop (k+1))=Bq at hsp;have hrows:rowsOf T2 (aG.sz α) ws ls=A++.row u.1 T2 (aG.sz α) ls[k].length u.2::Bq:=by
  rw [<- hA,<- hB];have e1:ws=ws.take k++ws[k]::ws.drop (k+1):=by rw [<- Q0 Y,RT]
  have e2:ls=ls.take k++ls[k]::ls.drop (k+1):=by rw [<- Q0 hk,RT]
  have e3:rowsOf T2 (aG.sz α) ws ls=rowsOf T2 (aG.sz α) (ws.take k++ws[k]::ws.drop (k+1)) (ls.take k++ls[k]::ls.drop (k+1)):=by rw [<- e1,<- e2]
  rw [e3];unfold rowsOf;rw [TR (by simp; omega),<- hwe]
  rfl
 have hrows2:rowsOf T2 (aG.sz α) (ws.set k (uj (aG.sz α) n u.1,u.2.drop (n*aG.sz α))) (ls.set k (ls[k].drop n))=A++.row (uj (aG.sz α) n u.1) T2 (aG.sz α) (ls[k].drop n).length (u.2.drop (n*aG.sz α))::Bq:=by
  rw [<- hA,<- hB];have e1:ws.set k (uj (aG.sz α) n u.1,u.2.drop (n*aG.sz α))=ws.take k++(uj (aG.sz α) n u.1,u.2.drop (n*aG.sz α))::ws.drop (k+1):=by rw [TD,Qx Y]
  have e2:ls.set k (ls[k].drop n)=ls.take k++ls[k].drop n::ls.drop (k+1):=by rw [TD,Qx hk]
  rw [e1,e2];unfold rowsOf;rw [TR (by simp; omega)]
  rfl
 have hnew:Mx T1 T2 H v (hs.set k (uj (aG.sz α) n u.1)) (.row v T1 1 (sg.set i k).length (I.set i (uj (aG.sz α) n u.1))::rowsOf T2 (aG.sz α) (ws.set k (uj (aG.sz α) n u.1,u.2.drop (n*aG.sz α))) (ls.set k (ls[k].drop n))) (sg.set i k) (ls.set k (ls[k].drop n)):=by
  refine ⟨⟨_,_,rfl,by simp [h2],by rw [List.map_set,h2'],λj u' l' J Z=>?_,by simp [h4],λi' k' O=>?_⟩,h.sl⟩
  ·by_cases e:k=j
   ·subst e
    rw [QU Y] at J;rw [QU hk] at Z;obtain rfl:=Qs J;obtain rfl:=Qs Z;exact hrs
   ·rw [QQ e] at J Z
    exact h3 j u' l' J Z
  ·by_cases e:i=i'
   ·subst e
    rw [QU hi] at O;obtain rfl:=Qs O;exact ⟨_,by rw [QU Y],by rw [QU (by omega)]⟩
   ·rw [QQ e] at O
    obtain ⟨u',J,hx'⟩:=h5 i' k' O;have hne:k≠k':=λe2=>by subst e2; exact e (hone i' O).symm
    exact ⟨u',by rw [QQ hne]; exact J,by rw [QQ e]; exact hx'⟩
 refine oB (sV pre [] (rowsOf T2 (aG.sz α) ws ls) M _) ?_;refine xw (i:=i*1) (cs:=[uj (aG.sz α) n u.1]) hg hn hy had hz hrs.cells rfl (by simp; omega) rfl (λc hc=>by simp at hc; subst hc; exact hrs.one) ?_
 have e:over I (i*1) [uj (aG.sz α) n u.1]=I.set i (uj (aG.sz α) n u.1):=by rw [S4]; rfl
 rw [e];refine oB (sV pre [] (rowsOf T2 (aG.sz α) ws ls) M _).symm ?_;rw [R7,hrows];have p1:(pre++((.row v T1 1 sg.length (I.set i (uj (aG.sz α) n u.1))::(A++.row u.1 T2 (aG.sz α) ls[k].length u.2::Bq))++M)).Perm (.row u.1 T2 (aG.sz α) ls[k].length u.2::(pre++(((.row v T1 1 sg.length (I.set i (uj (aG.sz α) n u.1))::A)++Bq)++M))):=
  sV pre (.row v T1 1 sg.length (I.set i (uj (aG.sz α) n u.1))::A) Bq M _
 refine oB p1 ?_;intro a w0' hsl ht;have hok:=ht.ok _ (Qu ..);have hs2:St x.B x.w0 H (.row (uj (aG.sz α) n u.1) T2 (aG.sz α) (ls[k].drop n).length (u.2.drop (n*aG.sz α))::(pre++(((.row v T1 1 sg.length (I.set i (uj (aG.sz α) n u.1))::A)++Bq)++M))) w0':=by
  refine ht.same ?_ (Q9 Option.toList (IL u.1));have h1:jK w0' T2 (aG.sz α) u.1 ls[k].length u.2:=hok;have:=h1.sub hn';rw [<- R3] at this;exact this
 have p2:=(sV pre (.row v T1 1 sg.length (I.set i (uj (aG.sz α) n u.1))::A) Bq M (.row (uj (aG.sz α) n u.1) T2 (aG.sz α) (ls[k].drop n).length (u.2.drop (n*aG.sz α)))).symm;refine kk _ hnew a w0' hsl ?_;rw [hrows2,RM];exact hs2.perm p2
theorem Ji {α:Type}[aG α] {T2 t e:TypeId}{y lo:Operand}{w:Qn}{xs:List Qn}{l:List α}{n:Nat}{kk:IntKind}
  (hm:bQ.row w T2 (aG.sz α) l.length xs ∈ M) (hn:n<=l.length)
  (hg:gd ops L ⟨some d,.slice t y (some lo) none none,ty,pos,aft,g⟩=some true) (hN:Nat.blt d x.N=true)
  (hT:∀ w,(underlying t).run x.P w=.ok (.slice e) w) (hs:∀ w,(sizeOf e).run x.P w=.ok (aG.sz α) w) (hy:ev L y=some w) (J:ev L lo=some (.int kk (n:Int)))
  (k:W x ops Q rest H M ((d,uj (aG.sz α) n w)::L)):
  W x ops Q (⟨some d,.slice t y (some lo) none none,ty,pos,aft,g⟩::rest) H M L:=by
 intro a I O ht;have Z:jK I T2 (aG.sz α) w l.length xs:=ht.ok _ hm;rcases Z.2 with ⟨rfl,h0⟩ | ⟨gb,off,cap,cur,rfl,_,hnc,_⟩
 ·obtain rfl:n=0:=by omega
  exact tQ (m:=0) (h:=0) (l:=0) hg hN hT hs hy (.inl rfl) (.inl ⟨rfl,rfl⟩) (.inl ⟨rfl,rfl⟩) (.inr ⟨lo,kk,_,rfl,J,S1 _,S1 _,rfl⟩) rfl k a I O ht
 ·refine tQ (m:=cap) (h:=l.length) (l:=n) hg hN hT hs hy (.inl rfl) (.inl ⟨rfl,rfl⟩) (.inl ⟨rfl,rfl⟩) (.inr ⟨lo,kk,_,rfl,J,by omega,by omega,by omega⟩) ?_ k a I O ht
  show _=Value.slice (some ⟨gb,if cap=n then off else off+n*aG.sz α,none⟩) (l.length-n) (cap-n)
  by_cases Y:cap=n
  ·rw [Qx Y,Qx Y]
  ·rw [Qw Y,Qw Y]
   rw [RV,Rz]
end
theorem DH (pre os mx M:List bQ):(pre++(mx++(os++M))).Perm (pre++(os++(mx++M))):=
 List.Perm.append_left pre (List.perm_append_comm_assoc mx os M)
theorem BN (pre mx M:List bQ):(pre++(mx++M)).Perm (mx++(pre++M)):=List.perm_append_comm_assoc pre mx M
def lone (sg:List Nat) (i k:Nat):Bool:=(List.range sg.length).all λj=>sg[j]? != some k || j == i
theorem Ip {sg:List Nat}{i k:Nat} (h:lone sg i k=true) (j:Nat) (I:sg[j]? = some k):j=i:=by
 unfold lone at h;rw [RE] at h;have hl:=(Qt.1 I).1;have:=h j (by simpa using hl)
 rw [I] at this;simpa using this
theorem LL {sg:List Nat}{i k:Nat} (h:∀ j,sg[j]? = some k->j=i):lone sg i k=true:=by
 unfold lone;rw [RE];intro j I
 by_cases e:sg[j]? = some k
 ·simp [h j e]
 ·simp [e]
section
variable {x:Cx}{ops:Array Oper}{Q:l8}{rest:List Oper}{H:Hp}{M:List bQ}{L:Env}{d:Nat}{ty:TypeId}{pos:String}{aft:Array Edge}{g:Option (Nat×Bool)}
variable {α:Type}[aG α] {T1 T2:TypeId}{v:Qn}{hs:List Qn}{mx:List bQ}{sg:List Nat}{ls:List (List α)}
theorem xU {t e:TypeId}{y:Operand} (h:Mx T1 T2 H v hs mx sg ls) (I:∀ s ∈ mx,s ∈ M) (O:gd ops L ⟨some d,.call ⟨.builtin .len,#[y],#[t]⟩,ty,pos,aft,g⟩=some true) (hN:Nat.blt d x.N=true)
  (J:∀ w,(underlying t).run x.P w=.ok (.slice e) w) (Y:ev L y=some v) (k:W x ops Q rest H M ((d,.int .i64 (sg.length:Int))::L)):
  W x ops Q (⟨some d,.call ⟨.builtin .len,#[y],#[t]⟩,ty,pos,aft,g⟩::rest) H M L:=by
 obtain ⟨Z,m2,he,_⟩:=h.outer;exact A4 (I _ (by rw [he]; exact Qu ..)) O hN J Y k
theorem eN {t e:TypeId}{y z:Operand}{kk:IntKind}{i:Int}{p:Nat} (h:Mx T1 T2 H v hs mx sg ls) (I:∀ s ∈ mx,s ∈ M)
  (hg:gd ops L ⟨some d,.indexAddr t y z,ty,pos,aft,g⟩=some true) (hN:Nat.blt d x.N=true)
  (Z:∀ w,(underlying t).run x.P w=.ok (.slice e) w) (J:∀ w,(sizeOf e).run x.P w=.ok 1 w)
  (hy:ev L y=some v) (hz:ev L z=some (.int kk i)) (O:0<=i) (Y:sg[i.toNat]? = some p)
  (k:W x ops Q rest H M ((d,.pointer (some ((Value.base v).add (i.toNat*1))))::L)):
  W x ops Q (⟨some d,.indexAddr t y z,ty,pos,aft,g⟩::rest) H M L:=by
 obtain ⟨oxs,m2,he,_⟩:=h.outer;exact y9 (I _ (by rw [he]; exact Qu ..)) hg hN Z J hy hz O (Qt.1 Y).1 k
theorem jC {T:TypeId}{y:Operand}{ad:Addr}{i p:Nat} (h:Mx T1 T2 H v hs mx sg ls) (J:∀ s ∈ mx,s ∈ M) (Y:sg[i]? = some p)
  (hg:gd ops L ⟨some d,.load T y,ty,pos,aft,g⟩=some true) (hN:Nat.blt d x.N=true)
  (Z:∀ w,(isAgg T).run x.P w=.ok false w) (hy:ev L y=some (.pointer (some ad))) (O:ad=(Value.base v).add (i*1))
  (k:∀ w,hs[p]? = some w->W x ops Q rest H M ((d,w)::L)):W x ops Q (⟨some d,.load T y,ty,pos,aft,g⟩::rest) H M L:=by
 obtain ⟨oxs,m2,he,_,I,_⟩:=h.outer;obtain ⟨w,hw,hx⟩:=I i p Y;subst O;refine qF hg hN Z hy (B3 (J _ (by rw [he]; exact Qu ..)) ?_) (k w hw)
 rw [S4]; exact hx
theorem GP {t e:TypeId}{y:Operand}{w:Qn}{p:Nat} (h:Mx T1 T2 H v hs mx sg ls) (I:∀ s ∈ mx,s ∈ M) (Y:hs[p]? = some w) (O:gd ops L ⟨some d,.call ⟨.builtin .len,#[y],#[t]⟩,ty,pos,aft,g⟩=some true) (hN:Nat.blt d x.N=true)
  (J:∀ w,(underlying t).run x.P w=.ok (.slice e) w) (Z:ev L y=some w) (k:W x ops Q rest H M ((d,.int .i64 (((ls[p]?).getD []).length:Int))::L)):
  W x ops Q (⟨some d,.call ⟨.builtin .len,#[y],#[t]⟩,ty,pos,aft,g⟩::rest) H M L:=by
 obtain ⟨xs,hm,_⟩:=h.get Y;exact A4 (I _ hm) O hN J Z k
theorem kB {t e:TypeId}{y z:Operand}{kk:IntKind}{j:Int}{w:Qn}{p n:Nat}{a:α} (h:Mx T1 T2 H v hs mx sg ls) (I:∀ s ∈ mx,s ∈ M) (hw:hs[p]? = some w)
  (hg:gd ops L ⟨some d,.indexAddr t y z,ty,pos,aft,g⟩=some true) (hN:Nat.blt d x.N=true)
  (Z:∀ w,(underlying t).run x.P w=.ok (.slice e) w) (J:∀ w,(sizeOf e).run x.P w=.ok n w) (hn:n=aG.sz α)
  (hy:ev L y=some w) (hz:ev L z=some (.int kk j)) (O:0<=j) (Y:((ls[p]?).getD [])[j.toNat]? = some a)
  (k:W x ops Q rest H M ((d,.pointer (some ((Value.base w).add (j.toNat*aG.sz α))))::L)):
  W x ops Q (⟨some d,.indexAddr t y z,ty,pos,aft,g⟩::rest) H M L:=by
 subst hn;obtain ⟨xs,hm,_⟩:=h.get hw;exact y9 (I _ hm) hg hN Z J hy hz O (Qt.1 Y).1 k
theorem qu {T:TypeId}{y:Operand}{ad:Addr}{w:Qn}{p j n:Nat}{a:α} (h:Mx T1 T2 H v hs mx sg ls) (I:∀ s ∈ mx,s ∈ M) (hw:hs[p]? = some w) (Z:((ls[p]?).getD [])[j]? = some a)
  (hg:gd ops L ⟨some d,.load T y,ty,pos,aft,g⟩=some true) (hN:Nat.blt d x.N=true)
  (hT:∀ w,(isAgg T).run x.P w=.ok true w) (hn:∀ w,(sizeOf T).run x.P w=.ok n w) (O:n=aG.sz α) (hy:ev L y=some (.pointer (some ad))) (J:ad=(Value.base w).add (j*aG.sz α))
  (k:∀ cs,aG.E H cs a->W x ops Q rest H M ((d,.agg cs.toArray)::L)):W x ops Q (⟨some d,.load T y,ty,pos,aft,g⟩::rest) H M L:=by
 subst O;subst J;obtain ⟨xs,hm,hr⟩:=h.get hw;obtain ⟨c,Y,hc⟩:=hr.elem Z;exact iG hg hN hT hn hy (x9 (I _ hm) hc) (aG.len Y) (k c Y)
theorem Jh {t e:TypeId}{y lo:Operand}{w:Qn}{p n:Nat}{j:Int}{kk:IntKind} (h:Mx T1 T2 H v hs mx sg ls) (I:∀ s ∈ mx,s ∈ M) (hw:hs[p]? = some w) (Y:0<=j) (h1:j<=(((ls[p]?).getD []).length:Int))
  (hg:gd ops L ⟨some d,.slice t y (some lo) none none,ty,pos,aft,g⟩=some true) (hN:Nat.blt d x.N=true)
  (Z:∀ w,(underlying t).run x.P w=.ok (.slice e) w) (O:∀ w,(sizeOf e).run x.P w=.ok n w) (hn:n=aG.sz α) (hy:ev L y=some w) (J:ev L lo=some (.int kk j))
  (k:W x ops Q rest H M ((d,uj (aG.sz α) j.toNat w)::L)):
  W x ops Q (⟨some d,.slice t y (some lo) none none,ty,pos,aft,g⟩::rest) H M L:=by
 subst hn;obtain ⟨xs,hm,hr⟩:=h.get hw;exact Ji (l:=(ls[p]?).getD []) (n:=j.toNat) (I _ hm) (by omega) hg hN Z O hy (by rw [J,TN Y]) k
theorem Ai {pre:List bQ} (h:Mx T1 T2 H v hs mx sg ls) (I:Nat.blt 0 (aG.sz α)=true)
  (k:∀ H',H.le H'->aQ H' v (rI sg ls)->W x ops Q rest H' (pre++M) L):W x ops Q rest H (pre++(mx++M)) L:=
 oB (BN pre mx M) (FI h I k)
theorem Ag {e:Exit}{pre:List bQ} (h:Mx T1 T2 H v hs mx sg ls) (J:Nat.blt 0 (aG.sz α)=true)
  (k:∀ H',H.le H'->aQ H' v (rI sg ls)->E x e Q H' (pre++M) L):E x e Q H (pre++(mx++M)) L:=by
 refine FE (BN pre mx M) ?_;intro a w I ht;obtain ⟨H',O,Y,Z⟩:=St.EO ht h (by simpa [RA] using J)
 exact k H' O Z a w I Y
theorem A7 {t e:TypeId}{bytes:Nat}{y Z:Operand}{n:Int}{pre:List bQ} (T2:TypeId) (α:Type) [aG α]
  (hg:gd ops L ⟨some d,.makeSlice t y Z,ty,pos,aft,g⟩=some true) (hN:Nat.blt d x.N=true)
  (hT:x.P.underlying t=some (.slice e)) (hi:NX x.P e 1 bytes (.slice none 0 0)) (O:Nat.blt 0 bytes=true)
  (hy:ev L y=some (.int .i64 n)) (Y:ev L Z=some (.int .i64 n)) (h0:0<=n) (hb:n*bytes<=140737488355328)
  (k:∀ v' I,Mx e T2 H v' [.slice none 0 0] I (List.replicate n.toNat 0) ([[]]:List (List α))->W x ops Q rest H (pre++(I++M)) ((d,v')::L)):
  W x ops Q (⟨some d,.makeSlice t y Z,ty,pos,aft,g⟩::rest) H (pre++M) L:=by
 refine fM (α:=HI) (zs:=[.slice none 0 0]) (ze:=HI.mk) hg hN hT hi rfl rfl O rfl hy Y h0 hb ?_;intro v' J hr;refine y_ T2 (aG.sz α) ?_;have hm:=Mx.make (α:=α) (T1:=e) (T2:=T2) hr;refine oB (M':=pre++((.row v' e 1 (List.replicate n.toNat 0).length J::[.row (.slice none 0 0) T2 (aG.sz α) 0 []])++M)) ?_ (k v' _ hm);have e1:(List.replicate n.toNat HI.mk).length=(List.replicate n.toNat 0).length:=by simp
 rw [e1];refine (List.Perm.swap _ _ _).trans ?_;exact (BN pre [.row v' e 1 (List.replicate n.toNat 0).length J,.row (.slice none 0 0) T2 (aG.sz α) 0 []] M).symm
end
def Ni:List Int:=[1,10,100,1000,10000,100000,1000000,10000000,100000000,1000000000,10000000000,100000000000,1000000000000,10000000000000,100000000000000,1000000000000000,10000000000000000,100000000000000000,1000000000000000000,10000000000000000000]
def Oh:List Int:=[0,1,28,2,29,14,24,3,30,22,20,15,25,17,4,8,31,27,13,23,21,19,16,7,26,12,18,6,11,5,10,9]
def Oi:List Int:=[0,1,56,2,57,49,28,3,61,58,42,50,38,29,17,4,62,47,59,36,45,43,51,22,53,39,33,30,24,18,12,5,63,55,48,27,60,41,37,16,46,35,44,21,52,32,23,11,54,26,40,15,34,20,31,10,25,14,19,9,13,8,7,6]
structure aS where
 Name:Qm
 A:Qm
 B_:Qm
 vq:Bool
 Open:Bool
 deriving DecidableEq
instance:aG aS where
 sz:=5
 E H cs x:=cs=[.string (x.Name),.string (x.A),.string (x.B_),.bool (x.vq),.bool (x.Open)]
 len h:=by obtain rfl:=h; rfl
 mono hle h:=by obtain rfl:=h; exact rfl
 one h:=by obtain rfl:=h; exact (cO rfl (cO rfl (cO rfl (cO rfl (cO rfl Se)))))
instance:Flat aS:=⟨λh=>h⟩
structure aK where
 Name:Qm
 pQ:Qm
 To:Qm
 X:Int
 A0:Int
 Shift:Int
 s6:Int
 w_:Int
 Cm:Int
 deriving DecidableEq
instance:aG aK where
 sz:=9
 E H cs x:=cs=[.string (x.Name),.string (x.pQ),.string (x.To),.int .i64 (x.X),.int .i64 (x.A0),.int .i64 (x.Shift),.int .i64 (x.s6),.int .i64 (x.w_),.int .i64 (x.Cm)]
 len h:=by obtain rfl:=h; rfl
 mono hle h:=by obtain rfl:=h; exact rfl
 one h:=by obtain rfl:=h; exact (cO rfl (cO rfl (cO rfl (cO rfl (cO rfl (cO rfl (cO rfl (cO rfl (cO rfl Se)))))))))
instance:Flat aK:=⟨λh=>h⟩
structure bE where
 Name:Qm
 Node:Qm
 jJ:Int
 qU:Int
 AX:Int
 deriving DecidableEq
instance:aG bE where
 sz:=5
 E H cs x:=cs=[.string (x.Name),.string (x.Node),.int .i64 (x.jJ),.int .i64 (x.qU),.int .i64 (x.AX)]
 len h:=by obtain rfl:=h; rfl
 mono hle h:=by obtain rfl:=h; exact rfl
 one h:=by obtain rfl:=h; exact (cO rfl (cO rfl (cO rfl (cO rfl (cO rfl Se)))))
instance:Flat bE:=⟨λh=>h⟩
structure aF where
 Name:Qm
 Node:Qm
 dB:Int
 deriving DecidableEq
instance:aG aF where
 sz:=3
 E H cs x:=cs=[.string (x.Name),.string (x.Node),.int .i64 (x.dB)]
 len h:=by obtain rfl:=h; rfl
 mono hle h:=by obtain rfl:=h; exact rfl
 one h:=by obtain rfl:=h; exact (cO rfl (cO rfl (cO rfl Se)))
instance:Flat aF:=⟨λh=>h⟩
structure bS where
 Name:Qm
 Node:Qm
 r8:Int
 Discharge:Int
 tM:Int
 deriving DecidableEq
instance:aG bS where
 sz:=5
 E H cs x:=cs=[.string (x.Name),.string (x.Node),.int .i64 (x.r8),.int .i64 (x.Discharge),.int .i64 (x.tM)]
 len h:=by obtain rfl:=h; rfl
 mono hle h:=by obtain rfl:=h; exact rfl
 one h:=by obtain rfl:=h; exact (cO rfl (cO rfl (cO rfl (cO rfl (cO rfl Se)))))
instance:Flat bS:=⟨λh=>h⟩
structure aE where
 bD:(List Qm)
 aL:(List aS)
 aH:(List aK)
 cR:(List bE)
 bB:(List aF)
 bM:(List bS)
 deriving DecidableEq
instance:aG aE where
 sz:=6
 E H cs x:=∃ v0 v1 v2 v3 v4 v5:Qn,cs=[v0,v1,v2,v3,v4,v5]/\aQ H v0 x.bD/\aQ H v1 x.aL/\aQ H v2 x.aH/\aQ H v3 x.cR/\aQ H v4 x.bB/\aQ H v5 x.bM
 len h:=by obtain ⟨v0,v1,v2,v3,v4,v5,rfl,h0,h1,h2,h3,h4,h5⟩:=h; rfl
 mono hle h:=by obtain ⟨v0,v1,v2,v3,v4,v5,rfl,h0,h1,h2,h3,h4,h5⟩:=h; exact ⟨v0,v1,v2,v3,v4,v5,rfl,h0.mono hle,h1.mono hle,h2.mono hle,h3.mono hle,h4.mono hle,h5.mono hle⟩
 one h:=by obtain ⟨v0,v1,v2,v3,v4,v5,rfl,h0,h1,h2,h3,h4,h5⟩:=h; exact (cO (aQ.po h0) (cO (aQ.po h1) (cO (aQ.po h2) (cO (aQ.po h3) (cO (aQ.po h4) (cO (aQ.po h5) Se))))))
structure bF where
 Kind:Int
 Name:Qm
 A:Int
 B_:Int
 deriving DecidableEq
instance:aG bF where
 sz:=4
 E H cs x:=cs=[.int .i64 (x.Kind),.string (x.Name),.int .i64 (x.A),.int .i64 (x.B_)]
 len h:=by obtain rfl:=h; rfl
 mono hle h:=by obtain rfl:=h; exact rfl
 one h:=by obtain rfl:=h; exact (cO rfl (cO rfl (cO rfl (cO rfl Se))))
instance:Flat bF:=⟨λh=>h⟩
structure aY where
 Close:Bool
 Switch:Qm
 wK:(List bF)
 deriving DecidableEq
instance:aG aY where
 sz:=3
 E H cs x:=∃ v2:Qn,cs=[.bool (x.Close),.string (x.Switch),v2]/\aQ H v2 x.wK
 len h:=by obtain ⟨v2,rfl,h0⟩:=h; rfl
 mono hle h:=by obtain ⟨v2,rfl,h0⟩:=h; exact ⟨v2,rfl,h0.mono hle⟩
 one h:=by obtain ⟨v2,rfl,h0⟩:=h; exact (cO rfl (cO rfl (cO (aQ.po h0) Se)))
structure aX where
 bK:aE
 nL:(List aY)
 deriving DecidableEq
instance:aG aX where
 sz:=7
 E H cs x:=∃ v0 v1 v2 v3 v4 v5 v6:Qn,cs=[v0,v1,v2,v3,v4,v5,v6]/\aQ H v0 x.bK.bD/\aQ H v1 x.bK.aL/\aQ H v2 x.bK.aH/\aQ H v3 x.bK.cR/\aQ H v4 x.bK.bB/\aQ H v5 x.bK.bM/\aQ H v6 x.nL
 len h:=by obtain ⟨v0,v1,v2,v3,v4,v5,v6,rfl,h0,h1,h2,h3,h4,h5,h6⟩:=h; rfl
 mono hle h:=by obtain ⟨v0,v1,v2,v3,v4,v5,v6,rfl,h0,h1,h2,h3,h4,h5,h6⟩:=h; exact ⟨v0,v1,v2,v3,v4,v5,v6,rfl,h0.mono hle,h1.mono hle,h2.mono hle,h3.mono hle,h4.mono hle,h5.mono hle,h6.mono hle⟩
 one h:=by obtain ⟨v0,v1,v2,v3,v4,v5,v6,rfl,h0,h1,h2,h3,h4,h5,h6⟩:=h; exact (cO (aQ.po h0) (cO (aQ.po h1) (cO (aQ.po h2) (cO (aQ.po h3) (cO (aQ.po h4) (cO (aQ.po h5) (cO (aQ.po h6) Se)))))))
structure aB where
 Time:Int
 Kind:Qm
 Name:Qm
 Value:Int
 deriving DecidableEq
instance:aG aB where
 sz:=4
 E H cs x:=cs=[.int .i64 (x.Time),.string (x.Kind),.string (x.Name),.int .i64 (x.Value)]
 len h:=by obtain rfl:=h; rfl
 mono hle h:=by obtain rfl:=h; exact rfl
 one h:=by obtain rfl:=h; exact (cO rfl (cO rfl (cO rfl (cO rfl Se))))
instance:Flat aB:=⟨λh=>h⟩
structure aD where
 minus:Bool
 words:(List bU)
 deriving DecidableEq
instance:aG aD where
 sz:=2
 E H cs x:=∃ v1:Qn,cs=[.bool (x.minus),v1]/\aQ H v1 x.words
 len h:=by obtain ⟨v1,rfl,h0⟩:=h; rfl
 mono hle h:=by obtain ⟨v1,rfl,h0⟩:=h; exact ⟨v1,rfl,h0.mono hle⟩
 one h:=by obtain ⟨v1,rfl,h0⟩:=h; exact (cO rfl (cO (aQ.po h0) Se))
structure aA where
 N:aD
 D:aD
 deriving DecidableEq
instance:aG aA where
 sz:=4
 E H cs x:=∃ v1 v3:Qn,cs=[.bool (x.N.minus),v1,.bool (x.D.minus),v3]/\aQ H v1 x.N.words/\aQ H v3 x.D.words
 len h:=by obtain ⟨v1,v3,rfl,h0,h1⟩:=h; rfl
 mono hle h:=by obtain ⟨v1,v3,rfl,h0,h1⟩:=h; exact ⟨v1,v3,rfl,h0.mono hle,h1.mono hle⟩
 one h:=by obtain ⟨v1,v3,rfl,h0,h1⟩:=h; exact (cO rfl (cO (aQ.po h0) (cO rfl (cO (aQ.po h1) Se))))
structure aW where
 fV:(List aK)
 gG:(List aA)
 mO:(List Int)
 over:(List Bool)
 time:Int
 deriving DecidableEq
instance:aG aW where
 sz:=5
 E H cs x:=∃ v0 v1 v2 v3:Qn,cs=[v0,v1,v2,v3,.int .i64 (x.time)]/\aQ H v0 x.fV/\aQ H v1 x.gG/\aQ H v2 x.mO/\aQ H v3 x.over
 len h:=by obtain ⟨v0,v1,v2,v3,rfl,h0,h1,h2,h3⟩:=h; rfl
 mono hle h:=by obtain ⟨v0,v1,v2,v3,rfl,h0,h1,h2,h3⟩:=h; exact ⟨v0,v1,v2,v3,rfl,h0.mono hle,h1.mono hle,h2.mono hle,h3.mono hle⟩
 one h:=by obtain ⟨v0,v1,v2,v3,rfl,h0,h1,h2,h3⟩:=h; exact (cO (aQ.po h0) (cO (aQ.po h1) (cO (aQ.po h2) (cO (aQ.po h3) (cO rfl Se)))))
structure cG where
 fD:(List Qm)
 eO:(List Qm)
 deriving DecidableEq
instance:aG cG where
 sz:=2
 E H cs x:=∃ v0 v1:Qn,cs=[v0,v1]/\aQ H v0 x.fD/\aQ H v1 x.eO
 len h:=by obtain ⟨v0,v1,rfl,h0,h1⟩:=h; rfl
 mono hle h:=by obtain ⟨v0,v1,rfl,h0,h1⟩:=h; exact ⟨v0,v1,rfl,h0.mono hle,h1.mono hle⟩
 one h:=by obtain ⟨v0,v1,rfl,h0,h1⟩:=h; exact (cO (aQ.po h0) (cO (aQ.po h1) Se))
structure bJ where
 iH:(List aB)
 deriving DecidableEq
instance:aG bJ where
 sz:=1
 E H cs x:=∃ v0:Qn,cs=[v0]/\aQ H v0 x.iH
 len h:=by obtain ⟨v0,rfl,h0⟩:=h; rfl
 mono hle h:=by obtain ⟨v0,rfl,h0⟩:=h; exact ⟨v0,rfl,h0.mono hle⟩
 one h:=by obtain ⟨v0,rfl,h0⟩:=h; exact (cO (aQ.po h0) Se)
structure aN where
 bY:aE
 rules:(List aY)
 on:(List Qm)
 held:(List Qm)
 watch:aW
 state:cG
 time:Int
 log:bJ
 over:(List Qm)
 deriving DecidableEq
structure aV where
 seen:(List (Qm×Bool))
 nodes:(List Qm)
 deriving DecidableEq
structure a_ where
 qp:(List Int)
 bR:(List Int)
 deriving DecidableEq
instance:aG a_ where
 sz:=2
 E H cs x:=∃ v0 v1:Qn,cs=[v0,v1]/\aQ H v0 x.qp/\aQ H v1 x.bR
 len h:=by obtain ⟨v0,v1,rfl,h0,h1⟩:=h; rfl
 mono hle h:=by obtain ⟨v0,v1,rfl,h0,h1⟩:=h; exact ⟨v0,v1,rfl,h0.mono hle,h1.mono hle⟩
 one h:=by obtain ⟨v0,v1,rfl,h0,h1⟩:=h; exact (cO (aQ.po h0) (cO (aQ.po h1) Se))
structure b_ where
 a0:Int
 a1:Int
 deriving DecidableEq
instance:aG b_ where
 sz:=2
 E H cs x:=cs=[.int .i64 (x.a0),.int .i64 (x.a1)]
 len h:=by obtain rfl:=h; rfl
 mono hle h:=by obtain rfl:=h; exact rfl
 one h:=by obtain rfl:=h; exact (cO rfl (cO rfl Se))
instance:Flat b_:=⟨λh=>h⟩
structure bP where
 jJ:Int
 qU:Int
 dB:Int
 deriving DecidableEq
instance:aG bP where
 sz:=3
 E H cs x:=cs=[.int .i64 (x.jJ),.int .i64 (x.qU),.int .i64 (x.dB)]
 len h:=by obtain rfl:=h; rfl
 mono hle h:=by obtain rfl:=h; exact rfl
 one h:=by obtain rfl:=h; exact (cO rfl (cO rfl (cO rfl Se)))
instance:Flat bP:=⟨λh=>h⟩
structure bA where
 vI:a_
 pQ:(List Int)
 To:(List Int)
 B_:(List aA)
 C:(List aA)
 qT:(List Int)
 rh:(List (List aA))
 deriving DecidableEq
instance:aG bA where
 sz:=8
 E H cs x:=∃ v0 v1 v2 v3 v4 v5 v6 v7:Qn,cs=[v0,v1,v2,v3,v4,v5,v6,v7]/\aQ H v0 x.vI.qp/\aQ H v1 x.vI.bR/\aQ H v2 x.pQ/\aQ H v3 x.To/\aQ H v4 x.B_/\aQ H v5 x.C/\aQ H v6 x.qT/\aQ H v7 x.rh
 len h:=by obtain ⟨v0,v1,v2,v3,v4,v5,v6,v7,rfl,h0,h1,h2,h3,h4,h5,h6,h7⟩:=h; rfl
 mono hle h:=by obtain ⟨v0,v1,v2,v3,v4,v5,v6,v7,rfl,h0,h1,h2,h3,h4,h5,h6,h7⟩:=h; exact ⟨v0,v1,v2,v3,v4,v5,v6,v7,rfl,h0.mono hle,h1.mono hle,h2.mono hle,h3.mono hle,h4.mono hle,h5.mono hle,h6.mono hle,h7.mono hle⟩
 one h:=by obtain ⟨v0,v1,v2,v3,v4,v5,v6,v7,rfl,h0,h1,h2,h3,h4,h5,h6,h7⟩:=h; exact (cO (aQ.po h0) (cO (aQ.po h1) (cO (aQ.po h2) (cO (aQ.po h3) (cO (aQ.po h4) (cO (aQ.po h5) (cO (aQ.po h6) (cO (aQ.po h7) Se))))))))
structure cX where
 n:aE
 on:(List Qm)
 deriving DecidableEq
instance:aG cX where
 sz:=7
 E H cs x:=∃ v0 v1 v2 v3 v4 v5 v6:Qn,cs=[v0,v1,v2,v3,v4,v5,v6]/\aQ H v0 x.n.bD/\aQ H v1 x.n.aL/\aQ H v2 x.n.aH/\aQ H v3 x.n.cR/\aQ H v4 x.n.bB/\aQ H v5 x.n.bM/\aQ H v6 x.on
 len h:=by obtain ⟨v0,v1,v2,v3,v4,v5,v6,rfl,h0,h1,h2,h3,h4,h5,h6⟩:=h; rfl
 mono hle h:=by obtain ⟨v0,v1,v2,v3,v4,v5,v6,rfl,h0,h1,h2,h3,h4,h5,h6⟩:=h; exact ⟨v0,v1,v2,v3,v4,v5,v6,rfl,h0.mono hle,h1.mono hle,h2.mono hle,h3.mono hle,h4.mono hle,h5.mono hle,h6.mono hle⟩
 one h:=by obtain ⟨v0,v1,v2,v3,v4,v5,v6,rfl,h0,h1,h2,h3,h4,h5,h6⟩:=h; exact (cO (aQ.po h0) (cO (aQ.po h1) (cO (aQ.po h2) (cO (aQ.po h3) (cO (aQ.po h4) (cO (aQ.po h5) (cO (aQ.po h6) Se)))))))
structure aR where
 Name:Qm
 yA:Bool
 deriving DecidableEq
instance:aG aR where
 sz:=2
 E H cs x:=cs=[.string (x.Name),.bool (x.yA)]
 len h:=by obtain rfl:=h; rfl
 mono hle h:=by obtain rfl:=h; exact rfl
 one h:=by obtain rfl:=h; exact (cO rfl (cO rfl Se))
instance:Flat aR:=⟨λh=>h⟩
def nj (j:aE):Option (aE):=cW (0<=(min (j.bB.length:Int) 4)/\(min (j.bB.length:Int) 4)<=(j.bB.length:Int)) (cW (0<=(min (j.cR.length:Int) 4)/\(min (j.cR.length:Int) 4)<=(j.cR.length:Int)) (some (aE.mk j.bD j.aL j.aH (rJ j.cR 0 ((min (j.cR.length:Int) 4:Int).toNat)) (rJ j.bB 0 ((min (j.bB.length:Int) 4:Int).toNat)) j.bM)))
def cK (o:aX):Option (aX):=(nj o.bK).bind λj=>cW (0<=(min (j.bB.length:Int) 3)/\(min (j.bB.length:Int) 3)<=(j.bB.length:Int)) (some (aX.mk (aE.mk j.bD j.aL j.aH j.cR (rJ j.bB 0 ((min (j.bB.length:Int) 3:Int).toNat)) j.bM) o.nL))
def oa (I:Nat) (j:U8) (o:Unit->Option (Bool)):Option (Bool):=if !(((decide (65<=j.n)) && (decide (j.n<=90))) || (((decide (0<(I:Int))) && (decide (48<=j.n))) && (decide (j.n<=57)))) then (some false) else (o ())
def bL (j:Qm):Option (Bool):=cW (j.size<=maxLen) (dO (λk y o n=>oa k y n) (λ_=>some ((decide (1<=(j.size:Int))) && (decide ((j.size:Int)<=8)))) 0 (kC j) ())
def l_ (I:(List Qm)) (J:Qm) (j:Nat) (o:Unit->Option (Int)):Option (Int):=idx I (j:Int) λR=>if decide (J=R) then (some (j:Int)) else (o ())
def bH (j:(List Qm)) (o:Qm):Option (Int):=kW (λk I n=>l_ j o k n) (λ_=>some (-1)) ((j.length:Int):Int).toNat 0 ()
def bG (j:(List Qm)) (o:Qm):Option (Bool):=(bH j o).bind λI=>some (decide (0<=I))
def iT (j:aV) (name:Qm) (nodes:(List Qm)) (R:Nat) (I:Qm) (o:Unit->Option (Int×aV)):Option (Int×aV):=(bG j.nodes I).bind λJ=>if !J then (some (6,(aV.mk (vp j.seen name true) j.nodes))) else (o ())
def cI (j:aV) (name:Qm) (nodes:(List Qm)):Option (Int×aV):=(bL name).bind λo=>if !o then (some (5,j)) else (if (rH j.seen name).getD false then (some (7,j)) else (dO (λk y R n=>iT j name nodes k y n) (λ_=>if decide ((nodes.length:Int)=2) then (idx nodes 0 λI=>idx nodes 1 λJ=>if decide (I=J) then (some (3,(aV.mk (vp j.seen name true) j.nodes))) else (some (0,(aV.mk (vp j.seen name true) j.nodes)))) else (some (0,(aV.mk (vp j.seen name true) j.nodes)))) 0 nodes ()))
def bO (I:Int) (o:Int) (j:Int):Bool:=((decide (I<o)) || (decide (j<I)))
def jF (j:aK):Int:=if (((((bO j.X 1 10000) || (bO j.A0 500 1500)) || (bO j.Shift (-1000) 1000)) || (bO j.s6 0 100000)) || (bO j.w_ j.s6 100000)) || (bO j.Cm 0 200000) then 4 else 0
def aZ (j:Int):Bool:=(!(bO j 0 100000))
def jX (I:aV) (U:Nat) (j:bS) (R:(List (Qm×Bool))) (J:(List (Qm×Bool))->Option (Int×aV)):Option (Int×aV):=(cI (aV.mk R I.nodes) j.Name ([j.Node])).bind λo=>if !decide (o.1=0) then (some (o.1,(aV.mk o.2.seen I.nodes))) else (if ((!(aZ j.r8)) || (!(aZ j.Discharge))) || (!(aZ j.tM)) then (some (4,(aV.mk o.2.seen I.nodes))) else (J o.2.seen))
def jW (o:aV) (U:Nat) (I:aF) (R:(List (Qm×Bool))) (J:(List (Qm×Bool))->Option (Int×aV)):Option (Int×aV):=(cI (aV.mk R o.nodes) I.Name ([I.Node])).bind λj=>if !decide (j.1=0) then (some (j.1,(aV.mk j.2.seen o.nodes))) else (if !(aZ I.dB) then (some (4,(aV.mk j.2.seen o.nodes))) else (J j.2.seen))
def jV (I:aV) (U:Nat) (j:bE) (R:(List (Qm×Bool))) (J:(List (Qm×Bool))->Option (Int×aV)):Option (Int×aV):=(cI (aV.mk R I.nodes) j.Name ([j.Node])).bind λo=>if !decide (o.1=0) then (some (o.1,(aV.mk o.2.seen I.nodes))) else (if ((!(aZ j.jJ)) || (bO j.qU j.jJ 100000)) || (!(aZ j.AX)) then (some (4,(aV.mk o.2.seen I.nodes))) else (J o.2.seen))
def gR (j:aV) (o:aE):Option (Int×aV):=dO (λk y I n=>jV j k y I n) (λI=>dO (λk y J n=>jW j k y J n) (λJ=>dO (λk y R n=>jX j k y R n) (λR=>some (0,(aV.mk R j.nodes))) 0 o.bM J) 0 o.bB I) 0 o.cR j.seen
def nr (J:aE) (U:Nat) (j:aK) (R:(List (Qm×Bool))) (I:(List (Qm×Bool))->Option (Int)):Option (Int):=(cI (aV.mk R J.bD) j.Name ([j.pQ,j.To])).bind λo=>if !decide (o.1=0) then (some o.1) else (if !decide ((jF j)=0) then (some (jF j)) else (I o.2.seen))
def nq (J:aE) (U:Nat) (j:aS) (R:(List (Qm×Bool))) (I:(List (Qm×Bool))->Option (Int)):Option (Int):=(cI (aV.mk R J.bD) j.Name ([j.A,j.B_])).bind λo=>if !decide (o.1=0) then (some o.1) else (I o.2.seen)
def np (I:aE) (U:Nat) (J:Qm) (R:(List (Qm×Bool))) (o:(List (Qm×Bool))->Option (Int)):Option (Int):=(cI (aV.mk R I.bD) J []).bind λj=>if !decide (j.1=0) then (some j.1) else (o j.2.seen)
def bV (j:aE):Option (Int):=if (((((decide (24<(j.bD.length:Int))) || (decide (32<(j.aL.length:Int)))) || (decide (24<(j.aH.length:Int)))) || (decide (10<(j.cR.length:Int)))) || (decide (12<(j.bB.length:Int)))) || (decide (4<(j.bM.length:Int))) then (some 2) else (dO (λk y o n=>np j k y o n) (λo=>dO (λk y I n=>nq j k y I n) (λI=>dO (λk y J n=>nr j k y J n) (λJ=>(gR (aV.mk J j.bD) j).bind λR=>some R.1) 0 j.aH I) 0 j.aL o) 0 j.bD ([]:(List (Qm×Bool))))
def dY (j:List Int->Option (Int)) (o:List Int):Option (Int):=j o
def eH (o:List Int) (J:List Int->Option (Int)) (I:bF) (j:Nat) (R:Bool):Option (Int):=if R then (if decide ((j:Int)=0) then (some 3) else (if decide (I.B_=(i64.wrap ((j:Int)-1))) then (idx (o.set (((j:Int):Int).toNat) ((j:Int))) (i64.wrap ((j:Int)-1)) λU=>if decide (U=0) then (some 3) else (idx (o.set (((j:Int):Int).toNat) ((j:Int))) (i64.wrap ((j:Int)-1)) λO=>if !decide (I.A=(i64.wrap (O-1))) then (some 3) else (idx (o.set (((j:Int):Int).toNat) ((j:Int))) I.A λY=>idx (o.set (((j:Int):Int).toNat) ((j:Int))) (j:Int) λZ=>dY J ((o.set (((j:Int):Int).toNat) ((j:Int))).set (((j:Int):Int).toNat) Y)))) else (some 3))) else (if (!decide (I.A=0)) || (!decide (I.B_=0)) then (some 3) else (dY J (o.set (((j:Int):Int).toNat) ((j:Int)))))
def kH (o:List Int) (J:List Int->Option (Int)) (I:bF) (j:Nat) (R:Bool):Option (Int):=if R then (if decide ((j:Int)=0) then (some 3) else (if decide (I.B_=(i64.wrap ((j:Int)-1))) then (idx (o.set (((j:Int):Int).toNat) ((j:Int))) (i64.wrap ((j:Int)-1)) λU=>if decide (U=0) then (some 3) else (idx (o.set (((j:Int):Int).toNat) ((j:Int))) (i64.wrap ((j:Int)-1)) λO=>if !decide (I.A=(i64.wrap (O-1))) then (some 3) else (idx (o.set (((j:Int):Int).toNat) ((j:Int))) I.A λY=>idx (o.set (((j:Int):Int).toNat) ((j:Int))) (j:Int) λZ=>dY J ((o.set (((j:Int):Int).toNat) ((j:Int))).set (((j:Int):Int).toNat) Y)))) else (some 3))) else (if (!decide (I.A=0)) || (!decide (I.B_=0)) then (some 3) else (dY J (o.set (((j:Int):Int).toNat) ((j:Int)))))
def oD (j:Nat) (o:bF) (I:List Int) (J:List Int->Option (Int)):Option (Int):=if (decide (o.Kind<0)) || (decide (6<o.Kind)) then (some 1) else (if (decide (o.Kind=2)) || (decide (o.Kind=3)) then ((bL o.Name).bind λU=>if !U then (some 6) else (idx I (j:Int) λZ=>if decide (o.Kind=4) then (if ((decide ((j:Int)=0)) || (!decide (o.A=(i64.wrap ((j:Int)-1))))) || (!decide (o.B_=0)) then (some 3) else (idx (I.set (((j:Int):Int).toNat) ((j:Int))) o.A λR=>idx (I.set (((j:Int):Int).toNat) ((j:Int))) (j:Int) λY=>dY J ((I.set (((j:Int):Int).toNat) ((j:Int))).set (((j:Int):Int).toNat) R))) else (if decide (o.Kind=5) then (kH I J o j (decide (o.Kind=5))) else (kH I J o j (decide (o.Kind=6)))))) else (if !decide (o.Name=(⟨#[]⟩)) then (some 3) else (idx I (j:Int) λP_=>if decide (o.Kind=4) then (if ((decide ((j:Int)=0)) || (!decide (o.A=(i64.wrap ((j:Int)-1))))) || (!decide (o.B_=0)) then (some 3) else (idx (I.set (((j:Int):Int).toNat) ((j:Int))) o.A λO=>idx (I.set (((j:Int):Int).toNat) ((j:Int))) (j:Int) λQa=>dY J ((I.set (((j:Int):Int).toNat) ((j:Int))).set (((j:Int):Int).toNat) O))) else (if decide (o.Kind=5) then (eH I J o j (decide (o.Kind=5))) else (eH I J o j (decide (o.Kind=6)))))))
def kQ (j:(List bF)):Option (Int):=if decide (40<(j.length:Int)) then (some 2) else (if decide ((j.length:Int)=0) then (some 3) else (cW (0<=(j.length:Int)/\(j.length:Int)*8<=140737488355328) (dO (λk y o n=>oD k y o n) (λo=>idx o (i64.wrap ((j.length:Int)-1)) λI=>if !decide (I=0) then (some 3) else (some 0)) 0 j (List.replicate ((j.length:Int):Int).toNat (0:Int)))))
def q6 (R:Nat) (j:aY) (I:Unit->Option (Int)):Option (Int):=(bL j.Switch).bind λJ=>if !J then (some 6) else ((kQ j.wK).bind λo=>if !decide (o=0) then (some o) else (I ()))
def mP (j:(List aY)):Option (Int):=if decide (24<(j.length:Int)) then (some 2) else (dO (λk y o n=>q6 k y n) (λ_=>some 0) 0 j ())
def ui (J:Nat) (j:aF) (o:List Qm) (I:List Qm->Option ((List Qm))):Option ((List Qm)):=cW ((o.length+([j.Name]).length)*16<=140737488355328) (I (o++([j.Name])))
def ql (o:aE):Option ((List Qm)):=dO (λk y j n=>ui k y j n) (λj=>some j) 0 o.bB ([]:List Qm)
def pd (o:aF) (j:Qm):Bool:=(decide (o.Name=j))
def dL (J:(List aF)) (j:Qm) (o:Nat) (I:Unit->Option (Int)):Option (Int):=idx J (o:Int) λR=>if (pd R j) then (some (o:Int)) else (I ())
def cP (o:(List aF)) (j:Qm):Option (Int):=kW (λk I n=>dL o j k n) (λ_=>some (-1)) ((o.length:Int):Int).toNat 0 ()
def cM (o:(List aF)) (j:Qm):Option (Bool):=(cP o j).bind λI=>some (decide (0<=I))
def qd (J:aE) (on:(List Qm)) (j:Nat) (o:Qm) (I:Unit->Option (Int)):Option (Int):=(cM J.bB o).bind λR=>if !R then (some 6) else (cW (0<=(j:Int)/\(j:Int)<=(on.length:Int)) ((bG (rJ on 0 (((j:Int):Int).toNat)) o).bind λU=>if U then (some 7) else (I ())))
def eF (j:aE) (on:(List Qm)):Option (Int):=(bV j).bind λo=>if !decide (o=0) then (some o) else (dO (λk y I n=>qd j on k y n) (λ_=>some 0) 0 on ())
def kA (j:aE):Option (aE):=cW (j.bD.length*16<=140737488355328) (cW (j.aL.length*56<=140737488355328) (cW (j.aH.length*96<=140737488355328) (cW (j.cR.length*56<=140737488355328) (cW (j.bB.length*40<=140737488355328) (cW (j.bM.length*56<=140737488355328) (some j))))))
def mo (o:aF) (j:(List Qm)):Option (Bool):=(bG j o.Name).bind λI=>some (!I)
def iM (J:(List aF)) (j:(List Qm)) (o:Nat) (I:Unit->Option (Int)):Option (Int):=idx J (o:Int) λR=>(mo R j).bind λU=>if U then (some (o:Int)) else (I ())
def fA (o:(List aF)) (j:(List Qm)):Option (Int):=kW (λk I n=>iM o j k n) (λ_=>some (-1)) ((o.length:Int):Int).toNat 0 ()
def dJ (I:Int) (j:(List aF×Int×Int)->Option ((List aF))) (o:List aF) (J:Int):Option ((List aF)):=j (o,J,i64.wrap (I+1))
def iD (Z:(List Qm)) (j:List aF) (O:Int) (Y:Int) (o:(List aF×Int×Int)->Option ((List aF))):Option ((List aF)):=if decide (Y<(j.length:Int)) then (idx j Y λI=>(mo I Z).bind λJ=>if !J then (idx j O λR=>dJ Y o (j.set ((O:Int).toNat) I) (i64.wrap (O+1))) else (dJ Y o j O)) else (cW (0<=O/\O<=(j.length:Int)) (cW (0<=O/\O<=((j.take (O).toNat++List.replicate (j.length-(O).toNat) ((aF.mk (⟨#[]⟩) (⟨#[]⟩) 0):aF)).length:Int)) (some (rJ (j.take (O).toNat++List.replicate (j.length-(O).toNat) ((aF.mk (⟨#[]⟩) (⟨#[]⟩) 0):aF)) 0 ((O:Int).toNat)))))
def dW (j:(List aF)) (J:(List Qm)):Option ((List aF)):=(fA j J).bind λo=>if decide (o=(-1)) then (some j) else (iL (λI n=>iD J I.1 I.2.1 I.2.2 n) fT (j,o,i64.wrap (o+1)))
def pL (o:aE) (on:(List Qm)):Option (aE):=(kA o).bind λj=>(dW j.bB on).bind λI=>some (aE.mk j.bD j.aL j.aH j.cR I j.bM)
def od (j:aE) (on:(List Qm)):Option (aE×Int):=(eF j on).bind λo=>if !decide (o=0) then (some ((aE.mk ([]:List Qm) ([]:List aS) ([]:List aK) ([]:List bE) ([]:List aF) ([]:List bS)),o)) else ((pL j on).bind λI=>some (I,0))
def ou (j:(List b_×List Int)->Option ((List b_)×(List Int))) (o:List b_) (I:List Int):Option ((List b_)×(List Int)):=j (o,I)
def so (U:aE) (j:Bool) (O:Nat) (o:aS) (I:List b_) (J:List Int) (R:(List b_×List Int)->Option ((List b_)×(List Int))):Option ((List b_)×(List Int)):=if decide (o.Open=j) then ((bH U.bD o.A).bind λY=>(bH U.bD o.B_).bind λZ=>cW ((I.length+([(b_.mk Y Z)]).length)*16<=140737488355328) (cW ((J.length+([((O:Int))]:List Int).length)*8<=140737488355328) (ou R (I++([(b_.mk Y Z)])) (J++([((O:Int))]:List Int))))) else (ou R I J)
def qy (I:aE) (o:Bool):Option ((List b_)×(List Int)):=dO (λk y j n=>so I o k y j.1 j.2 n) (λj=>some (j.1,j.2)) 0 I.aL (([]:List b_),([]:List Int))
def tw (o:Int) (J:Nat) (j:b_) (I:Unit->Option (Int)):Option (Int):=if decide (j.a0<0) then (some 4) else (if decide (o<=j.a0) then (some 4) else (if decide (j.a1<0) then (some 4) else (if decide (o<=j.a1) then (some 4) else (I ()))))
def rR (j:Int) (o:(List b_)):Option (Int):=if ((decide (j<0)) || (decide (24<j))) || (decide (64<(o.length:Int))) then (some 2) else (dO (λk y I n=>tw j k y n) (λ_=>some 0) 0 o ())
def mU (j:Int) (o:Int):Int×Int:=((u64.wrap ((u64.wrap ((u64.wrap ((oG .u64 j 32)*(oG .u64 o 32)))+(oG .u64 (u64.wrap ((u64.wrap ((oG .u64 j 32)*(u64.wrap ((BitVec.ofInt (u64).bits o &&& BitVec.ofInt (u64).bits 4294967295).toNat))))+(oG .u64 (u64.wrap ((u64.wrap ((BitVec.ofInt (u64).bits j &&& BitVec.ofInt (u64).bits 4294967295).toNat))*(u64.wrap ((BitVec.ofInt (u64).bits o &&& BitVec.ofInt (u64).bits 4294967295).toNat)))) 32))) 32)))+(oG .u64 (u64.wrap ((u64.wrap ((BitVec.ofInt (u64).bits (u64.wrap ((u64.wrap ((oG .u64 j 32)*(u64.wrap ((BitVec.ofInt (u64).bits o &&& BitVec.ofInt (u64).bits 4294967295).toNat))))+(oG .u64 (u64.wrap ((u64.wrap ((BitVec.ofInt (u64).bits j &&& BitVec.ofInt (u64).bits 4294967295).toNat))*(u64.wrap ((BitVec.ofInt (u64).bits o &&& BitVec.ofInt (u64).bits 4294967295).toNat)))) 32))) &&& BitVec.ofInt (u64).bits 4294967295).toNat))+(u64.wrap ((u64.wrap ((BitVec.ofInt (u64).bits j &&& BitVec.ofInt (u64).bits 4294967295).toNat))*(oG .u64 o 32))))) 32))),(u64.wrap (j*o)))
def rZ (j:Int) (o:Int):Int×Int:=((((mU j o)).1),(((mU j o)).2))
def kL (j:(List Int×Int)->Option ((List Int))) (o:List Int) (I:Int):Option ((List Int)):=j (o,I)
def eK (j:(List Int×List Int)->Option ((List Int))) (o:List Int) (I:List Int):Option ((List Int)):=j (o,I)
def qM (O:Int) (U:Int) (o:Int) (Y:Nat) (j:b_) (I:List Int) (J:List Int) (R:(List Int×List Int)->Option ((List Int))):Option ((List Int)):=if decide ((Y:Int)=O) then (eK R I J) else (if decide (j.a0=o) then (idx I (i64.wrap ((i64.wrap (j.a0+j.a1))-o)) λZ=>if decide (Z<0) then (idx I (i64.wrap ((i64.wrap (j.a0+j.a1))-o)) λP_=>cW ((J.length+([(i64.wrap ((i64.wrap (j.a0+j.a1))-o))]:List Int).length)*8<=140737488355328) (eK R (I.set ((i64.wrap ((i64.wrap (j.a0+j.a1))-o):Int).toNat) U) (J++([(i64.wrap ((i64.wrap (j.a0+j.a1))-o))]:List Int)))) else (eK R I J)) else (if !decide (j.a1=o) then (eK R I J) else (idx I (i64.wrap ((i64.wrap (j.a0+j.a1))-o)) λP9=>if decide (P9<0) then (idx I (i64.wrap ((i64.wrap (j.a0+j.a1))-o)) λQa=>cW ((J.length+([(i64.wrap ((i64.wrap (j.a0+j.a1))-o))]:List Int).length)*8<=140737488355328) (eK R (I.set ((i64.wrap ((i64.wrap (j.a0+j.a1))-o):Int).toNat) U) (J++([(i64.wrap ((i64.wrap (j.a0+j.a1))-o))]:List Int)))) else (eK R I J))))
def qL (Z:(List b_)) (O:Int) (I:Int) (R:(List Int×Int)->Option ((List Int))) (J:List Int) (j:List Int) (U:(List Int×List Int)->Option ((List Int))):Option ((List Int)):=if decide (0<(j.length:Int)) then (idx j 0 λY=>cW (0<=1/\1<=(j.length:Int)) (dO (λk y o n=>qM O I Y k y o.1 o.2 n) (λo=>U (o.1,o.2)) 0 Z (J,(rJ j (1:Int).toNat j.length)))) else (kL R J (i64.wrap (I+1)))
def qK (Y:(List b_)) (O:Int) (I:Nat) (j:List Int) (o:Int) (J:(List Int×Int)->Option ((List Int))):Option ((List Int)):=idx j (I:Int) λU=>if decide (0<=U) then (kL J j o) else (idx j (I:Int) λZ=>iL (λR n=>qL Y O o J R.1 R.2 n) fT ((j.set (((I:Int):Int).toNat) o),([((I:Int))]:List Int)))
def pz (o:Int) (I:(List b_)) (J:Int):Option ((List Int)):=cW (([((-1))]:List Int).length=1/\0<=o/\o*8<=140737488355328) (cW (o<=9223372036854775807) (kW (λk j n=>qK I J k j.1 j.2 n) (λj=>some j.1) (o:Int).toNat 0 ((Gx ([((-1))]:List Int) o),0)))
def jS (j:Int) (o:(List b_)):Option ((List Int)×Int):=(rR j o).bind λI=>if !decide (I=0) then (some (([]:List Int),I)) else ((pz j o (-1)).bind λJ=>some (J,0))
def oM (j:aE):Option ((List Int)):=(qy j false).bind λo=>(jS (j.bD.length:Int) o.1).bind λI=>some I.1
def sT (j:aE) (o:((List Int))) (P_:Nat) (I:aK) (J:List b_) (O:List b_->Option (a_)):Option (a_):=(bH j.bD I.pQ).bind λY=>idx o Y λR=>(bH j.bD I.To).bind λZ=>idx o Z λU=>cW ((J.length+([(b_.mk R U)]).length)*16<=140737488355328) (O (J++([(b_.mk R U)])))
def sS (I:Nat) (o:Int) (J:Int) (j:Int->Option (a_)):Option (a_):=j (max J (i64.wrap (o+1)))
def dZ (j:aE):Option (a_):=(oM j).bind λo=>dO (λk y I n=>sS k y I n) (λI=>dO (λk y J n=>sT j o k y J n) (λJ=>(jS I J).bind λR=>some (a_.mk o R.1)) 0 j.aH ([]:List b_)) 0 o 0
def ry (I:Nat) (o:Int) (J:Int) (j:Int->Option (Int)):Option (Int):=j (max J (i64.wrap (o+1)))
def mj (o:aE):Option (Int):=(dZ o).bind λI=>dO (λk y j n=>ry k y j n) (λj=>some j) 0 I.bR 0
def mY (o:aE) (j:a_) (O:Qm):Option (Int):=(bH o.bD O).bind λI=>idx j.qp I λJ=>idx j.bR J λR=>some R
def sG (U:aE) (O:(a_)) (Z:Nat) (I:aF) (j:List bP) (R:List bP->Option ((List bP))):Option ((List bP)):=(mY U O I.Node).bind λo=>idx j o λY=>idx j o λJ=>R (j.set ((o:Int).toNat) (bP.mk J.jJ J.qU (i64.wrap (Y.dB+I.dB))))
def sF (U:aE) (O:(a_)) (Y:Nat) (o:bE) (J:List bP) (R:List bP->Option ((List bP))):Option ((List bP)):=(mY U O o.Node).bind λI=>idx J I λj=>R ((J.set ((I:Int).toNat) (bP.mk (i64.wrap (j.jJ+o.jJ)) j.qU j.dB)).set ((I:Int).toNat) (bP.mk (i64.wrap (j.jJ+o.jJ)) (i64.wrap (j.qU+o.qU)) j.dB))
def q8 (j:aE):Option ((List bP)):=(dZ j).bind λR=>(mj j).bind λo=>cW (0<=o/\o*24<=140737488355328) (dO (λk y I n=>sF j R k y I n) (λI=>dO (λk y J n=>sG j R k y J n) (λJ=>some J) 0 j.bB I) 0 j.cR (List.replicate (o:Int).toNat ((bP.mk 0 0 0):bP)))
def oO (j:Int):Bool:=(decide (0<j))
def gB (I:(List Int)) (j:Nat) (o:Unit->Option (Int)):Option (Int):=idx I (j:Int) λJ=>if (oO J) then (some (j:Int)) else (o ())
def eV (j:(List Int)):Option (Int):=kW (λk o n=>gB j k n) (λ_=>some (-1)) ((j.length:Int):Int).toNat 0 ()
def dP (j:(List Int)):Option (Bool):=(eV j).bind λo=>some (decide (0<=o))
def ml (I:List Int) (j:List Int) (o:(List Int×List Int)->Option ((List Int)×Int)) (J:(Int)) (R:Int) (O:Int):Option ((List Int)×Int):=cW ((j.length+([O]:List Int).length)*8<=140737488355328) (o ((I.set ((J:Int).toNat) (i64.wrap (R-O))),(j++([O]:List Int))))
def sf (O:aE) (Y:(a_)) (Z:Nat) (o:bE) (I:List Int) (U:List Int) (J:(List Int×List Int)->Option ((List Int)×Int)):Option ((List Int)×Int):=(mY O Y o.Node).bind λR=>idx I R λj=>if decide (o.jJ<=j) then (ml I U J R j (min o.qU j)) else (ml I U J R j 0)
def se (J:Nat) (j:bP) (o:List Int) (I:List Int->Option ((List Int)×Int)):Option ((List Int)×Int):=cW ((o.length+([j.dB]:List Int).length)*8<=140737488355328) (I (o++([j.dB]:List Int)))
def mX (j:aE):Option ((List Int)×Int):=(bV j).bind λJ=>if !decide (J=0) then (some (([]:List Int),J)) else ((dZ j).bind λR=>(q8 j).bind λU=>dO (λk y I n=>se k y I n) (λI=>dO (λk y o n=>sf j R k y o.1 o.2 n) (λo=>(dP o.1).bind λO=>if O then (some (([]:List Int),14)) else (some (o.2,0))) 0 j.cR (I,([]:List Int))) 0 U ([]:List Int))
def tr (I:Nat) (j:Int) (o:Unit->Option ((List Int)×Int)):Option ((List Int)×Int):=if (decide (j<(-100000))) || (decide (100000<j)) then (some (([]:List Int),4)) else (o ())
def tn (R:aE) (O:Nat) (I:aF) (j:List Int) (J:List Int->Option ((List Int)×Int)):Option ((List Int)×Int):=(bH R.bD I.Node).bind λo=>idx j o λU=>idx j o λY=>J (j.set ((o:Int).toNat) (i64.wrap (U-I.dB)))
def tl (U:aE) (O:(List Int)) (j:Nat) (o:bS) (I:List Int) (R:List Int->Option ((List Int)×Int)):Option ((List Int)×Int):=idx O (j:Int) λY=>if decide (Y<(i64.wrap (0-o.r8))) then (some (([]:List Int),17)) else (idx O (j:Int) λZ=>if decide (o.Discharge<Z) then (some (([]:List Int),17)) else ((bH U.bD o.Node).bind λJ=>idx I J λP9=>idx O (j:Int) λP_=>idx I J λQa=>R (I.set ((J:Int).toNat) (i64.wrap (P9+P_)))))
def tk (Y:aE) (O:(List Int)) (o:Nat) (I:bE) (j:List Int) (J:List Int->Option ((List Int)×Int)):Option ((List Int)×Int):=idx O (o:Int) λZ=>if decide (Z=0) then ((bH Y.bD I.Node).bind λR=>idx j R λP9=>idx O (o:Int) λP_=>idx j R λQe=>J (j.set ((R:Int).toNat) (i64.wrap (P9+P_)))) else (idx O (o:Int) λQa=>if decide (Qa<I.jJ) then (some (([]:List Int),17)) else (idx O (o:Int) λQb=>if decide (I.qU<Qb) then (some (([]:List Int),17)) else ((bH Y.bD I.Node).bind λU=>idx j U λQc=>idx O (o:Int) λQd=>idx j U λQf=>J (j.set ((U:Int).toNat) (i64.wrap (Qc+Qd))))))
def rQ (j:aE) (Y:(List Int)) (O:(List Int)):Option ((List Int)×Int):=(bV j).bind λR=>if !decide (R=0) then (some (([]:List Int),R)) else (if (!decide ((Y.length:Int)=(j.cR.length:Int))) || (!decide ((O.length:Int)=(j.bM.length:Int))) then (some (([]:List Int),3)) else (cW (0<=(j.bD.length:Int)/\(j.bD.length:Int)*8<=140737488355328) (dO (λk y I n=>tk j Y k y I n) (λI=>dO (λk y J n=>tl j O k y J n) (λJ=>dO (λk y o n=>tn j k y o n) (λo=>dO (λk y U n=>tr k y n) (λ_=>some (o,0)) 0 o ()) 0 j.bB J) 0 j.bM I) 0 j.cR (List.replicate ((j.bD.length:Int):Int).toNat (0:Int)))))
def gQ (j:aE):Option ((List Int)×Int):=(mX j).bind λo=>if !decide (o.2=0) then (some (([]:List Int),o.2)) else (cW (0<=(j.bM.length:Int)/\(j.bM.length:Int)*8<=140737488355328) ((rQ j o.1 (List.replicate ((j.bM.length:Int):Int).toNat (0:Int))).bind λI=>some (I.1,I.2)))
def ud (o:(a_)) (U:Nat) (j:Int) (I:(List (Int×Int))) (R:(List (Int×Int))->Option (Int)):Option (Int):=if (decide (j<(-100000))) || (decide (100000<j)) then (some 4) else (idx o.qp (U:Int) λO=>idx o.bR O λJ=>R (vp I J (i64.wrap (((rH I J).getD (0:Int))+j))))
def nH (j:aE) (O:(List Int)):Option (Int):=(bV j).bind λI=>if !decide (I=0) then (some I) else (if !decide ((O.length:Int)=(j.bD.length:Int)) then (some 3) else ((dZ j).bind λJ=>dO (λk y o n=>ud J k y o n) (λo=>if (o.any (λR=>!decide (R.2=0))) then (some 14) else (some 0)) 0 O ([]:(List (Int×Int)))))
def oK (minus:Bool) (j:(List bU)):Option (aD):=if minus then (some (aD.mk (decide (0<(j.length:Int))) j)) else (some (aD.mk false j))
def ug (minus:Bool) (j:(List bU)) (o:(List bU)->Option (aD)):Option (aD):=if decide (0<(j.length:Int)) then (idx j (i64.wrap ((j.length:Int)-1)) λI=>if decide (I.n=0) then (cW (0<=(i64.wrap ((j.length:Int)-1))/\(i64.wrap ((j.length:Int)-1))<=(j.length:Int)) (o (rJ j 0 ((i64.wrap ((j.length:Int)-1):Int).toNat)))) else (oK minus j)) else (oK minus j)
def jE (minus:Bool) (j:(List bU)):Option (aD):=iL (λo n=>ug minus o n) fT j
def qC (j:Int) (I:Int):Option (aD):=(jE (decide (j<0)) ([⟨u32.wrap (I)⟩,⟨u32.wrap (oG .u64 I 32)⟩]:List bU)).bind λo=>some o
def mZ (j:Int):Option (aD):=if decide (j<0) then (qC j (u64.wrap (0-(u64.wrap (j))))) else (qC j (u64.wrap (j)))
def lY (j:aD):Option (aD):=(jE (!j.minus) j.words).bind λo=>some o
def fH (j:aD):Int:=if decide ((j.words.length:Int)=0) then 0 else (if j.minus then (-1) else 1)
def rC (j:(List bU)) (o:(List bU)) (O:Int) (I:Int->Option (Int)):Option (Int):=if decide (0<=O) then (idx j O λJ=>idx o O λR=>if !decide (J.n=R.n) then (idx j O λU=>idx o O λY=>if decide (U.n<Y.n) then (some (-1)) else (some 1)) else (I (i64.wrap (O-1)))) else (some 0)
def nR (j:(List bU)) (o:(List bU)):Option (Int):=if !decide ((j.length:Int)=(o.length:Int)) then (some (i64.wrap ((j.length:Int)-(o.length:Int)))) else (iL (λI n=>rC j o I n) fT (i64.wrap ((j.length:Int)-1)))
def rD (R:(List bU)) (j:Int) (o:List bU) (Y:Int) (O:Int) (J:(List bU×Int×Int)->Option ((List bU)×Int)):Option ((List bU)×Int):=if decide (0<=O) then (idx R O λI=>cW ((u64.wrap (j))≠0) (idx o O λU=>cW ((u64.wrap (j))≠0) (J ((o.set ((O:Int).toNat) ⟨u32.wrap (u64.wrap (Int.tdiv (u64.wrap ((BitVec.ofInt (u64).bits (t_ .u64 Y 32) ||| BitVec.ofInt (u64).bits (u64.wrap (I.n))).toNat)) (u64.wrap (j))))⟩),Int.tmod (u64.wrap ((BitVec.ofInt (u64).bits (t_ .u64 Y 32) ||| BitVec.ofInt (u64).bits (u64.wrap (I.n))).toNat)) (u64.wrap (j)),i64.wrap (O-1))))) else (some (o,(u32.wrap (Y))))
def nT (j:(List bU)) (I:Int):Option ((List bU)×Int):=cW (0<=(j.length:Int)/\(j.length:Int)*4<=140737488355328) (iL (λo n=>rD j I o.1 o.2.1 o.2.2 n) fT ((List.replicate ((j.length:Int):Int).toNat (⟨0⟩:bU)),0,i64.wrap ((j.length:Int)-1)))
def lz (I:Int) (J:Int):Option (Int):=idx (kC (⟨#[0,1,2,2,3,3,3,3,4,4,4,4,4,4,4,4,5,5,5,5,5,5,5,5,5,5,5,5,5,5,5,5,6,6,6,6,6,6,6,6,6,6,6,6,6,6,6,6,6,6,6,6,6,6,6,6,6,6,6,6,6,6,6,6,7,7,7,7,7,7,7,7,7,7,7,7,7,7,7,7,7,7,7,7,7,7,7,7,7,7,7,7,7,7,7,7,7,7,7,7,7,7,7,7,7,7,7,7,7,7,7,7,7,7,7,7,7,7,7,7,7,7,7,7,7,7,7,7,8,8,8,8,8,8,8,8,8,8,8,8,8,8,8,8,8,8,8,8,8,8,8,8,8,8,8,8,8,8,8,8,8,8,8,8,8,8,8,8,8,8,8,8,8,8,8,8,8,8,8,8,8,8,8,8,8,8,8,8,8,8,8,8,8,8,8,8,8,8,8,8,8,8,8,8,8,8,8,8,8,8,8,8,8,8,8,8,8,8,8,8,8,8,8,8,8,8,8,8,8,8,8,8,8,8,8,8,8,8,8,8,8,8,8,8,8,8,8,8,8,8,8,8,8,8,8,8]⟩)) (u8.wrap (I)) λj=>some (i64.wrap (J+(i64.wrap (j.n))))
def lA (I:Int) (J:Int):Option (Int):=if decide (256<=I) then (lz (oG .u32 I 8) (i64.wrap (J+8))) else (lz I J)
def qS (j:Int):Option (Int):=if decide (65536<=j) then (lA (oG .u32 j 16) 16) else (lA j 0)
def jU (j:Int):Option (Int):=(qS j).bind λo=>some (i64.wrap (32-o))
def sn (j:Int) (o:Nat) (I:bU) (J:List bU) (O:Int) (R:(List bU×Int)->Option ((List bU))):Option ((List bU)):=cW (0<=j) (idx J (o:Int) λU=>R ((J.set (((o:Int):Int).toNat) ⟨u32.wrap (u64.wrap ((BitVec.ofInt (u64).bits O ||| BitVec.ofInt (u64).bits (t_ .u64 (u64.wrap (I.n)) j)).toNat))⟩),oG .u64 (u64.wrap ((BitVec.ofInt (u64).bits O ||| BitVec.ofInt (u64).bits (t_ .u64 (u64.wrap (I.n)) j)).toNat)) 32))
def oL (j:(List bU)) (I:Int):Option ((List bU)):=cW (0<=(i64.wrap ((j.length:Int)+1))/\(i64.wrap ((j.length:Int)+1))*4<=140737488355328) (dO (λk y o n=>sn I k y o.1 o.2 n) (λo=>idx o.1 (j.length:Int) λJ=>some (o.1.set (((j.length:Int):Int).toNat) ⟨u32.wrap (o.2)⟩)) 0 j ((List.replicate (i64.wrap ((j.length:Int)+1):Int).toNat (⟨0⟩:bU)),0))
def ly (o:List bU) (j:Int) (I:(List bU×List bU×Int)->Option ((List bU)×(List bU))) (J:List bU) (R:Int):Option ((List bU)×(List bU)):=idx o j λU=>I ((o.set ((j:Int).toNat) ⟨u32.wrap (R)⟩),J,i64.wrap (j-1))
def oT (Y:(List bU)) (Z:((List bU))) (o:Int) (j:Nat) (I:List bU) (J:Int) (O:(List bU×Int)->Option ((List bU)×(List bU))):Option ((List bU)×(List bU)):=idx I (i64.wrap ((j:Int)+o)) λR=>idx (rJ Z 0 (((Y.length:Int):Int).toNat)) (j:Int) λU=>idx I (i64.wrap ((j:Int)+o)) λP_=>O ((I.set ((i64.wrap ((j:Int)+o):Int).toNat) ⟨u32.wrap (u64.wrap (J+(u64.wrap ((u64.wrap (R.n))+(u64.wrap (U.n))))))⟩),oG .u64 (u64.wrap (J+(u64.wrap ((u64.wrap (R.n))+(u64.wrap (U.n)))))) 32)
def oS (P_:(List bU)) (Qa:((List bU))) (o:Int) (I:Int) (j:Nat) (J:List bU) (O:Int) (R:Int) (Z:(List bU×Int×Int)->Option ((List bU)×(List bU))):Option ((List bU)×(List bU)):=idx (rJ Qa 0 (((P_.length:Int):Int).toNat)) (j:Int) λU=>idx J (i64.wrap ((j:Int)+o)) λY=>idx J (i64.wrap ((j:Int)+o)) λQb=>Z ((J.set ((i64.wrap ((j:Int)+o):Int).toNat) ⟨u32.wrap (i64.wrap (O+(i64.wrap ((i64.wrap (Y.n))-(i64.wrap (u64.wrap ((BitVec.ofInt (u64).bits (u64.wrap (R+(u64.wrap (I*(u64.wrap (U.n)))))) &&& BitVec.ofInt (u64).bits 4294967295).toNat)))))))⟩),oG .i64 (i64.wrap (O+(i64.wrap ((i64.wrap (Y.n))-(i64.wrap (u64.wrap ((BitVec.ofInt (u64).bits (u64.wrap (R+(u64.wrap (I*(u64.wrap (U.n)))))) &&& BitVec.ofInt (u64).bits 4294967295).toNat))))))) 32,oG .u64 (u64.wrap (R+(u64.wrap (I*(u64.wrap (U.n)))))) 32)
def fX (I:(List bU)) (Z:((List bU))) (Y:List bU) (P_:List bU) (o:Int) (O:(List bU×List bU×Int)->Option ((List bU)×(List bU))) (R:Int):Option ((List bU)×(List bU)):=kW (λk j n=>oS I Z o R k j.1 j.2.1 j.2.2 n) (λj=>idx j.1 (i64.wrap (o+(I.length:Int))) λU=>idx j.1 (i64.wrap (o+(I.length:Int))) λQb=>if decide ((i64.wrap (j.2.1+(i64.wrap ((i64.wrap (U.n))-(i64.wrap (j.2.2))))))<0) then (kW (λk J n=>oT I Z o k J.1 J.2 n) (λJ=>idx J.1 (i64.wrap (o+(I.length:Int))) λQa=>idx J.1 (i64.wrap (o+(I.length:Int))) λQc=>ly Y o O (J.1.set ((i64.wrap (o+(I.length:Int)):Int).toNat) ⟨u32.wrap (Qa.n+(u32.wrap (J.2)))⟩) (u64.wrap (R-1))) ((I.length:Int):Int).toNat 0 ((j.1.set ((i64.wrap (o+(I.length:Int)):Int).toNat) ⟨u32.wrap (i64.wrap (j.2.1+(i64.wrap ((i64.wrap (U.n))-(i64.wrap (j.2.2))))))⟩),0)) else (ly Y o O (j.1.set ((i64.wrap (o+(I.length:Int)):Int).toNat) ⟨u32.wrap (i64.wrap (j.2.1+(i64.wrap ((i64.wrap (U.n))-(i64.wrap (j.2.2))))))⟩) R)) ((I.length:Int):Int).toNat 0 (P_,0,0)
def oU (j:(List bU)) (J:((List bU))) (Y:List bU) (R:List bU) (U:Int) (O:(List bU×List bU×Int)->Option ((List bU)×(List bU))) (o:Int) (I:Int) (Z:(Int×Int)->Option ((List bU)×(List bU))):Option ((List bU)×(List bU)):=if decide (4294967296<=o) then (idx (rJ J 0 (((j.length:Int):Int).toNat)) (i64.wrap ((j.length:Int)-1)) λP_=>if decide (4294967296<=(u64.wrap (I+(u64.wrap (P_.n))))) then (fX j J Y R U O (u64.wrap (o-1))) else (Z (u64.wrap (o-1),u64.wrap (I+(u64.wrap (P_.n)))))) else (idx (rJ J 0 (((j.length:Int):Int).toNat)) (i64.wrap ((j.length:Int)-2)) λQb=>idx R (i64.wrap ((i64.wrap (U+(j.length:Int)))-2)) λQc=>if decide ((u64.wrap ((BitVec.ofInt (u64).bits (t_ .u64 I 32) ||| BitVec.ofInt (u64).bits (u64.wrap (Qc.n))).toNat))<(u64.wrap (o*(u64.wrap (Qb.n))))) then (idx (rJ J 0 (((j.length:Int):Int).toNat)) (i64.wrap ((j.length:Int)-1)) λQa=>if decide (4294967296<=(u64.wrap (I+(u64.wrap (Qa.n))))) then (fX j J Y R U O (u64.wrap (o-1))) else (Z (u64.wrap (o-1),u64.wrap (I+(u64.wrap (Qa.n)))))) else (fX j J Y R U O o))
def mF (R:(Int)) (o:List bU) (j:Nat) (I:List bU) (J:List bU->Option ((List bU)×(List bU))):Option ((List bU)×(List bU)):=idx o (i64.wrap ((j:Int)+1)) λU=>idx o (j:Int) λO=>cW (0<=R) (idx I (j:Int) λY=>J (I.set (((j:Int):Int).toNat) ⟨u32.wrap (oG .u64 (u64.wrap ((BitVec.ofInt (u64).bits (t_ .u64 (u64.wrap (U.n)) 32) ||| BitVec.ofInt (u64).bits (u64.wrap (O.n))).toNat)) R)⟩))
def oR (j:(List bU)) (Qc:(Int)) (R:((List bU))) (U:List bU) (o:List bU) (I:Int) (Qb:(List bU×List bU×Int)->Option ((List bU)×(List bU))):Option ((List bU)×(List bU)):=if decide (0<=I) then (idx o (i64.wrap (I+(j.length:Int))) λO=>idx o (i64.wrap ((i64.wrap (I+(j.length:Int)))-1)) λY=>idx (rJ R 0 (((j.length:Int):Int).toNat)) (i64.wrap ((j.length:Int)-1)) λZ=>cW ((u64.wrap (Z.n))≠0) (idx (rJ R 0 (((j.length:Int):Int).toNat)) (i64.wrap ((j.length:Int)-1)) λP_=>cW ((u64.wrap (P_.n))≠0) (iL (λQa n=>oU j R U o I Qb Qa.1 Qa.2 n) fT (u64.wrap (Int.tdiv (u64.wrap ((BitVec.ofInt (u64).bits (t_ .u64 (u64.wrap (O.n)) 32) ||| BitVec.ofInt (u64).bits (u64.wrap (Y.n))).toNat)) (u64.wrap (Z.n))),Int.tmod (u64.wrap ((BitVec.ofInt (u64).bits (t_ .u64 (u64.wrap (O.n)) 32) ||| BitVec.ofInt (u64).bits (u64.wrap (Y.n))).toNat)) (u64.wrap (P_.n)))))) else (cW (0<=(j.length:Int)/\(j.length:Int)*4<=140737488355328) (kW (λk J n=>mF Qc o k J n) (λJ=>some (U,J)) ((j.length:Int):Int).toNat 0 (List.replicate ((j.length:Int):Int).toNat (⟨0⟩:bU))))
def nS (o:(List bU)) (j:(List bU)):Option ((List bU)×(List bU)):=(nR o j).bind λO=>if decide (O<0) then (some ([],o)) else (if decide ((j.length:Int)=1) then (idx j 0 λY=>(nT o Y.n).bind λR=>some (R.1,([⟨R.2⟩]:List bU))) else (idx j (i64.wrap ((j.length:Int)-1)) λZ=>(jU Z.n).bind λJ=>(oL o J).bind λP_=>(oL j J).bind λU=>cW (0<=(j.length:Int)/\(j.length:Int)<=(U.length:Int)) (cW (0<=(i64.wrap ((i64.wrap ((o.length:Int)-(j.length:Int)))+1))/\(i64.wrap ((i64.wrap ((o.length:Int)-(j.length:Int)))+1))*4<=140737488355328) (iL (λI n=>oR j J U I.1 I.2.1 I.2.2 n) fT ((List.replicate (i64.wrap ((i64.wrap ((o.length:Int)-(j.length:Int)))+1):Int).toNat (⟨0⟩:bU)),P_,i64.wrap ((o.length:Int)-(j.length:Int)))))))
def sH (j:Bool) (o:(List bU)):Option (aD):=some (aD.mk j o)
def uX (o:Bool) (j:(List bU)) (O:Bool) (I:(List bU)) (U:(Bool×(List bU)×Bool×(List bU))->Option (aD)):Option (aD):=if !decide ((fH (aD.mk o j))=0) then ((nS I j).bind λJ=>cW (J.2.length*4<=140737488355328) ((jE false J.2).bind λR=>U (R.minus,R.words,o,j))) else (sH O I)
def pS (o:aD) (I:aD):Option (aD):=iL (λj n=>uX j.1 j.2.1 j.2.2.1 j.2.2.2 n) fT (false,I.words,false,o.words)
def lT (j:List bU) (I:(List bU×Int)->Option ((List bU))) (o:Nat) (O:Int):Option ((List bU)):=idx j (o:Int) λJ=>I ((j.set (((o:Int):Int).toNat) ⟨u32.wrap (O)⟩),oG .u64 O 32)
def rB (U:(List bU)) (I:(List bU)) (j:Nat) (J:List bU) (O:Int) (o:(List bU×Int)->Option ((List bU))):Option ((List bU)):=idx U (j:Int) λR=>if decide ((j:Int)<(I.length:Int)) then (idx I (j:Int) λY=>lT J o j (u64.wrap ((u64.wrap (O+(u64.wrap (R.n))))+(u64.wrap (Y.n))))) else (lT J o j (u64.wrap (O+(u64.wrap (R.n)))))
def lU (j:(List bU)) (I:(List bU)):Option ((List bU)):=cW (0<=(i64.wrap ((j.length:Int)+1))/\(i64.wrap ((j.length:Int)+1))*4<=140737488355328) (kW (λk o n=>rB j I k o.1 o.2 n) (λo=>idx o.1 (j.length:Int) λJ=>some (o.1.set (((j.length:Int):Int).toNat) ⟨u32.wrap (o.2)⟩)) ((j.length:Int):Int).toNat 0 ((List.replicate (i64.wrap ((j.length:Int)+1):Int).toNat (⟨0⟩:bU)),0))
def pJ (j:(List bU)) (o:(List bU)):Option ((List bU)):=if decide ((j.length:Int)<(o.length:Int)) then (lU o j) else (lU j o)
def lV (j:List bU) (I:(List bU×Int)->Option ((List bU))) (o:Nat) (O:Int):Option ((List bU)):=idx j (o:Int) λJ=>I ((j.set (((o:Int):Int).toNat) ⟨u32.wrap (O)⟩),oG .i64 O 32)
def rE (U:(List bU)) (I:(List bU)) (j:Nat) (J:List bU) (O:Int) (o:(List bU×Int)->Option ((List bU))):Option ((List bU)):=idx U (j:Int) λR=>if decide ((j:Int)<(I.length:Int)) then (idx I (j:Int) λY=>lV J o j (i64.wrap ((i64.wrap (O+(i64.wrap (R.n))))-(i64.wrap (Y.n))))) else (lV J o j (i64.wrap (O+(i64.wrap (R.n)))))
def nU (j:(List bU)) (I:(List bU)):Option ((List bU)):=cW (0<=(j.length:Int)/\(j.length:Int)*4<=140737488355328) (kW (λk o n=>rE j I k o.1 o.2 n) (λo=>some o.1) ((j.length:Int):Int).toNat 0 ((List.replicate ((j.length:Int):Int).toNat (⟨0⟩:bU)),0))
def lX (j:aD) (o:aD):Option (aD):=if decide (j.minus=o.minus) then ((pJ j.words o.words).bind λI=>(jE j.minus I).bind λJ=>some J) else ((nR j.words o.words).bind λR=>if decide (0<=R) then ((nU j.words o.words).bind λU=>(jE j.minus U).bind λO=>some O) else ((nU o.words j.words).bind λY=>(jE o.minus Y).bind λZ=>some Z))
def oH (j:aD) (o:aD):Option (aD):=(lY o).bind λI=>(lX j I).bind λJ=>some J
def mg (I:Bool) (j:(List bU)) (J:Bool) (o:(List bU)):Option (aD×aD):=some ((aD.mk J o),(aD.mk I j))
def cS (I:aD) (R:aD):Option (aD×aD):=(nS I.words R.words).bind λj=>cW (j.1.length*4<=140737488355328) ((jE I.minus j.1).bind λJ=>cW (j.2.length*4<=140737488355328) ((jE I.minus j.2).bind λo=>if o.minus then ((mZ 1).bind λY=>(oH J Y).bind λU=>(lX o R).bind λO=>mg O.minus O.words U.minus U.words) else (mg o.minus o.words J.minus J.words)))
def nQ (o:Bool) (j:(List bU)) (O:Bool) (I:(List bU)):Option (aA):=if decide ((j.length:Int)=1) then (idx j 0 λQd=>if decide (Qd.n=1) then (some (aA.mk (aD.mk O I) (aD.mk o j))) else ((pS (aD.mk O I) (aD.mk o j)).bind λJ=>if decide ((J.words.length:Int)=1) then (idx J.words 0 λQe=>if decide (Qe.n=1) then (some (aA.mk (aD.mk O I) (aD.mk o j))) else ((cS (aD.mk false I) J).bind λU=>(cS (aD.mk o j) J).bind λP_=>if O then (some (aA.mk (aD.mk (decide (0<(U.1.words.length:Int))) U.1.words) P_.1)) else (some (aA.mk (aD.mk false U.1.words) P_.1)))) else ((cS (aD.mk false I) J).bind λY=>(cS (aD.mk o j) J).bind λQa=>if O then (some (aA.mk (aD.mk (decide (0<(Y.1.words.length:Int))) Y.1.words) Qa.1)) else (some (aA.mk (aD.mk false Y.1.words) Qa.1))))) else ((pS (aD.mk O I) (aD.mk o j)).bind λR=>if decide ((R.words.length:Int)=1) then (idx R.words 0 λQf=>if decide (Qf.n=1) then (some (aA.mk (aD.mk O I) (aD.mk o j))) else ((cS (aD.mk false I) R).bind λZ=>(cS (aD.mk o j) R).bind λQb=>if O then (some (aA.mk (aD.mk (decide (0<(Z.1.words.length:Int))) Z.1.words) Qb.1)) else (some (aA.mk (aD.mk false Z.1.words) Qb.1)))) else ((cS (aD.mk false I) R).bind λP9=>(cS (aD.mk o j) R).bind λQc=>if O then (some (aA.mk (aD.mk (decide (0<(P9.1.words.length:Int))) P9.1.words) Qc.1)) else (some (aA.mk (aD.mk false P9.1.words) Qc.1))))
def nM (o:aD) (j:aD):Option (aA):=if j.minus then ((lY o).bind λI=>(lY j).bind λJ=>nQ J.minus J.words I.minus I.words) else (nQ j.minus j.words o.minus o.words)
def rj (j:Int) (o:Int):Option (aA):=(mZ j).bind λI=>(mZ o).bind λJ=>(nM I J).bind λR=>some R
def si (J:bU) (j:Nat) (o:Nat) (R:bU) (I:List bU) (O:Int) (Y:(List bU×Int)->Option (aD)):Option (aD):=idx I (i64.wrap ((j:Int)+(o:Int))) λU=>idx I (i64.wrap ((j:Int)+(o:Int))) λZ=>Y ((I.set ((i64.wrap ((j:Int)+(o:Int)):Int).toNat) ⟨u32.wrap (u64.wrap (O+(u64.wrap ((u64.wrap (U.n))+(u64.wrap ((u64.wrap (J.n))*(u64.wrap (R.n))))))))⟩),oG .u64 (u64.wrap (O+(u64.wrap ((u64.wrap (U.n))+(u64.wrap ((u64.wrap (J.n))*(u64.wrap (R.n)))))))) 32)
def sh (o:aD) (I:Nat) (R:bU) (U:List bU) (J:List bU->Option (aD)):Option (aD):=dO (λk y j n=>si R I k y j.1 j.2 n) (λj=>idx j.1 (i64.wrap ((I:Int)+(o.words.length:Int))) λO=>J (j.1.set ((i64.wrap ((I:Int)+(o.words.length:Int)):Int).toNat) ⟨u32.wrap (j.2)⟩)) 0 o.words (U,0)
def fI (j:aD) (o:aD):Option (aD):=cW (0<=(i64.wrap ((j.words.length:Int)+(o.words.length:Int)))/\(i64.wrap ((j.words.length:Int)+(o.words.length:Int)))*4<=140737488355328) (dO (λk y I n=>sh o k y I n) (λI=>(jE (!decide (j.minus=o.minus)) I).bind λJ=>some J) 0 j.words (List.replicate (i64.wrap ((j.words.length:Int)+(o.words.length:Int)):Int).toNat (⟨0⟩:bU)))
def lZ (j:aA) (o:aA):Option (aA):=(fI j.N o.N).bind λI=>(fI j.D o.D).bind λJ=>(nM I J).bind λR=>some R
def kX (j:Int):Option (aA):=(mZ j).bind λo=>(mZ 1).bind λI=>some (aA.mk o I)
def nN (j:Int):Option ((List aA)):=(kX 0).bind λo=>cW (([o]).length=1/\0<=j/\j*64<=140737488355328) (some (Gx ([o]) j))
def oF (I:(List Int)) (J:Int) (j:Nat) (o:Unit->Option (Int)):Option (Int):=idx I (j:Int) λR=>if decide (J=R) then (some (j:Int)) else (o ())
def lP (j:(List Int)) (o:Int):Option (Int):=kW (λk I n=>oF j o k n) (λ_=>some (-1)) ((j.length:Int):Int).toNat 0 ()
def mi (j:bA) (I:Int):Option (Int):=(lP j.qT I).bind λo=>some o
def iS (j:aA) (o:aA):Option (aA):=(fI j.N o.D).bind λI=>(fI o.N j.D).bind λJ=>(lX I J).bind λR=>(fI j.D o.D).bind λU=>(nM R U).bind λO=>some O
def oJ (j:aA):Option (aA):=(lY j.N).bind λo=>some (aA.mk o j.D)
def kz (j:aA) (o:aA):Option (aA):=(oJ o).bind λI=>(iS j I).bind λJ=>some J
def vM (I:Nat) (J:(List aA)) (j:List Nat) (o:List (List aA)) (R:(List Nat×List (List aA))->Option ((List Nat×List (List aA)))):Option ((List Nat×List (List aA))):=cW ((([]:List aA).length+J.length)*64<=140737488355328) (idx j (I:Int) λU=>R ((j.set (((I:Int):Int).toNat) o.length),(o++[([]:List aA)++J])))
def u6 (o:(List (List aA))):Option ((List Nat×List (List aA))):=cW (0<=(o.length:Int)/\(o.length:Int)*24<=140737488355328) (dO (λk y j n=>vM k y j.1 j.2 n) (λj=>some (j.1,j.2)) 0 o ((List.replicate ((o.length:Int):Int).toNat 0),([[]])))
def c_ (j:aA):Int:=(fH j.N)
def qx (j:aA) (o:aA):Option (aA):=(fI j.N o.D).bind λI=>(fI j.D o.N).bind λJ=>(nM I J).bind λR=>some R
def oV (J:Int) (j:(List Int×Int×List Nat×List (List aA))->Option ((List Nat×List (List aA))×(List Int))) (R:List Int) (o:List Nat) (I:List (List aA)):Option ((List Nat×List (List aA))×(List Int)):=j (R,i64.wrap (J+1),o,I)
def kN (j:List (List aA)->Option ((List Nat×List (List aA))×(List Int))) (o:List (List aA)):Option ((List Nat×List (List aA))×(List Int)):=j o
def mT (I:Int) (j:(Int×List (List aA))->Option ((List Nat×List (List aA))×(List Int))) (o:List (List aA)):Option ((List Nat×List (List aA))×(List Int)):=j (i64.wrap (I+1),o)
def oX (I:List Int) (J:List Nat) (R:Int) (U:Nat) (O:Nat) (Qa:List (List aA)->Option ((List Nat×List (List aA))×(List Int))) (Y:Nat) (Qb:aA) (o:Int) (j:List (List aA)) (P_:(Int×List (List aA))->Option ((List Nat×List (List aA))×(List Int))):Option ((List Nat×List (List aA))×(List Int)):=idx ((J.set (((I.length:Int):Int).toNat) U).set ((R:Int).toNat) O) (Y:Int) λQc=>if decide (o<(((j[Qc]?).getD []).length:Int)) then (idx ((J.set (((I.length:Int):Int).toNat) U).set ((R:Int).toNat) O) (I.length:Int) λQd=>idx ((j[Qd]?).getD []) o λQe=>if !decide ((c_ Qe)=0) then (idx ((J.set (((I.length:Int):Int).toNat) U).set ((R:Int).toNat) O) (Y:Int) λZ=>idx ((J.set (((I.length:Int):Int).toNat) U).set ((R:Int).toNat) O) (Y:Int) λQf=>idx ((j[Qf]?).getD []) o λQg=>idx ((J.set (((I.length:Int):Int).toNat) U).set ((R:Int).toNat) O) (I.length:Int) λQh=>idx ((j[Qh]?).getD []) o λQi=>(lZ Qb Qi).bind λQj=>(kz Qg Qj).bind λQk=>idx ((j[Z]?).getD []) o λQl=>mT o P_ (j.set Z (((j[Z]?).getD []).set ((o:Int).toNat) Qk))) else (mT o P_ j)) else (kN Qa j)
def qR (o:List Int) (U:Int) (J:List Nat) (O:Int) (Y:Nat) (Z:Nat) (I:Nat) (j:List (List aA)) (R:List (List aA)->Option ((List Nat×List (List aA))×(List Int))):Option ((List Nat×List (List aA))×(List Int)):=if decide ((I:Int)=(o.length:Int)) then (kN R j) else (idx ((J.set (((o.length:Int):Int).toNat) Y).set ((O:Int).toNat) Z) (I:Int) λQa=>idx ((j[Qa]?).getD []) U λQb=>if decide ((c_ Qb)=0) then (kN R j) else (idx ((J.set (((o.length:Int):Int).toNat) Y).set ((O:Int).toNat) Z) (I:Int) λQc=>idx ((j[Qc]?).getD []) U λQd=>iL (λP_ n=>oX o J O Y Z R I Qd P_.1 P_.2 n) fT (U,j)))
def oW (j:List Int) (Y:Int) (o:List Nat) (Qa:(List Int×Int×List Nat×List (List aA))->Option ((List Nat×List (List aA))×(List Int))) (J:Int) (R:Nat) (U:Nat) (Qc:aA) (O:Int) (I:List (List aA)) (Qb:(Int×List (List aA))->Option ((List Nat×List (List aA))×(List Int))):Option ((List Nat×List (List aA))×(List Int)):=idx ((o.set (((j.length:Int):Int).toNat) R).set ((J:Int).toNat) U) (j.length:Int) λQd=>if decide (O<(((I[Qd]?).getD []).length:Int)) then (idx ((o.set (((j.length:Int):Int).toNat) R).set ((J:Int).toNat) U) (j.length:Int) λZ=>idx ((o.set (((j.length:Int):Int).toNat) R).set ((J:Int).toNat) U) (j.length:Int) λQe=>idx ((I[Qe]?).getD []) O λQf=>(qx Qf Qc).bind λQg=>idx ((I[Z]?).getD []) O λQh=>Qb (i64.wrap (O+1),(I.set Z (((I[Z]?).getD []).set ((O:Int).toNat) Qg)))) else (cW ((((o.set (((j.length:Int):Int).toNat) R).set ((J:Int).toNat) U).length:Int)<=9223372036854775807) (kW (λk P_ n=>qR j Y o J R U k P_ n) (λP_=>cW ((j.length+([Y]:List Int).length)*8<=140737488355328) (oV Y Qa (j++([Y]:List Int)) ((o.set (((j.length:Int):Int).toNat) R).set ((J:Int).toNat) U) P_)) ((((o.set (((j.length:Int):Int).toNat) R).set ((J:Int).toNat) U).length:Int):Int).toNat 0 I))
def oY (o:List Int) (J:Int) (j:List Nat) (R:List (List aA)) (O:(List Int×Int×List Nat×List (List aA))->Option ((List Nat×List (List aA))×(List Int))) (I:Int):Option ((List Nat×List (List aA))×(List Int)):=if decide (I=(j.length:Int)) then (oV J O o j R) else (idx j I λU=>idx j (o.length:Int) λY=>idx j (o.length:Int) λQb=>idx (j.set (((o.length:Int):Int).toNat) U) I λQc=>idx ((j.set (((o.length:Int):Int).toNat) U).set ((I:Int).toNat) Y) (o.length:Int) λP_=>idx ((R[P_]?).getD []) J λQa=>iL (λZ n=>oW o J j O I U Y Qa Z.1 Z.2 n) fT (J,R))
def sJ (U:List Int) (J:Int) (j:List Nat) (I:List (List aA)) (R:(List Int×Int×List Nat×List (List aA))->Option ((List Nat×List (List aA))×(List Int))) (o:Int) (O:Int->Option ((List Nat×List (List aA))×(List Int))):Option ((List Nat×List (List aA))×(List Int)):=if decide (o<(j.length:Int)) then (idx j o λY=>idx ((I[Y]?).getD []) J λZ=>if decide ((c_ Z)=0) then (O (i64.wrap (o+1))) else (oY U J j I R o)) else (oY U J j I R o)
def mS (O:Int) (j:List Int) (J:Int) (o:List Nat) (I:List (List aA)) (R:(List Int×Int×List Nat×List (List aA))->Option ((List Nat×List (List aA))×(List Int))):Option ((List Nat×List (List aA))×(List Int)):=if (decide (J<O)) && (decide ((j.length:Int)<(o.length:Int))) then (iL (λU n=>sJ j J o I R U n) fT (j.length:Int)) else (some ((o,I),j))
def rl (I:(List (List aA))) (J:Int):Option ((List Nat×List (List aA))×(List Int)):=(u6 I).bind λo=>iL (λj n=>mS J j.1 j.2.1 j.2.2.1 j.2.2.2 n) fT (([]:List Int),0,o.1,o.2)
def tB (R:(List (List aA))) (J:Nat) (j:List Nat) (I:List (List aA)) (U:(List Nat×List (List aA))->Option ((List (List aA))×Bool)):Option ((List (List aA))×Bool):=idx j (J:Int) λo=>cW (0<=(R.length:Int)/\(R.length:Int)<=(((I[o]?).getD []).length:Int)) (idx j (J:Int) λO=>cW (lone j (((J:Int):Int).toNat) o=true) (U ((j.set (((J:Int):Int).toNat) o),(I.set o (((I[o]?).getD []).drop ((R.length:Int):Int).toNat)))))
def tA (R:(List (List aA))) (j:Nat) (J:List Nat) (o:List (List aA)) (Y:(List Nat×List (List aA))->Option ((List (List aA))×Bool)):Option ((List (List aA))×Bool):=idx R (j:Int) λI=>cW ((([]:List aA).length+I.length)*64<=140737488355328) ((nN (R.length:Int)).bind λU=>cW (((([]:List aA)++I).length+U.length)*64<=140737488355328) (idx J (j:Int) λP_=>idx (J.set (((j:Int):Int).toNat) o.length) (j:Int) λO=>(kX 1).bind λZ=>idx (((o++[(([]:List aA)++I)++U])[O]?).getD []) (i64.wrap ((R.length:Int)+(j:Int))) λQa=>Y ((J.set (((j:Int):Int).toNat) o.length),((o++[(([]:List aA)++I)++U]).set O ((((o++[(([]:List aA)++I)++U])[O]?).getD []).set ((i64.wrap ((R.length:Int)+(j:Int)):Int).toNat) Z)))))
def qE (j:(List (List aA))):Option ((List (List aA))×Bool):=cW (0<=(j.length:Int)/\(j.length:Int)*24<=140737488355328) (kW (λk o n=>tA j k o.1 o.2 n) (λo=>(rl (rI o.1 o.2) (j.length:Int)).bind λI=>if decide ((I.2.length:Int)<(j.length:Int)) then (some ([],false)) else (cW ((I.1.1.length:Int)<=9223372036854775807) (kW (λk J n=>tB j k J.1 J.2 n) (λJ=>some (rI J.1 J.2,true)) ((I.1.1.length:Int):Int).toNat 0 (I.1.1,I.1.2)))) ((j.length:Int):Int).toNat 0 ((List.replicate ((j.length:Int):Int).toNat 0),([[]])))
def gO (j:List (List aA)->Option (bA)) (o:List (List aA)):Option (bA):=j o
def jL (R:List Nat) (Y:List (List aA)->Option (bA)) (Z:aA) (J:(Int)) (o:(Int)) (j:List (List aA)):Option (bA):=if (decide (0<=J)) && (decide (0<=o)) then (idx R J λI=>idx R o λU=>idx R J λP_=>idx ((j[P_]?).getD []) o λQa=>(kz Qa Z).bind λO=>idx R o λQb=>idx ((j[Qb]?).getD []) J λQc=>(kz Qc Z).bind λQd=>idx ((j[I]?).getD []) o λQe=>idx (((j.set I (((j[I]?).getD []).set ((o:Int).toNat) O))[U]?).getD []) J λQf=>gO Y ((j.set I (((j[I]?).getD []).set ((o:Int).toNat) O)).set U ((((j.set I (((j[I]?).getD []).set ((o:Int).toNat) O))[U]?).getD []).set ((J:Int).toNat) Qd))) else (gO Y j)
def jM (I:List Nat) (U:List (List aA)->Option (bA)) (J:aA) (O:(Int)) (j:(Int)) (o:List (List aA)):Option (bA):=if decide (0<=j) then (idx I j λR=>idx I j λY=>idx ((o[Y]?).getD []) j λZ=>(iS Z J).bind λP_=>idx ((o[R]?).getD []) j λQa=>jL I U J O j (o.set R (((o[R]?).getD []).set ((j:Int).toNat) P_))) else (jL I U J O j o)
def lu (I:bA) (J:List Nat) (O:Nat) (U:aA) (o:List (List aA)) (R:List (List aA)->Option (bA)):Option (bA):=idx I.pQ (O:Int) λP_=>(mi I P_).bind λj=>idx I.To (O:Int) λQa=>(mi I Qa).bind λZ=>idx I.pQ (O:Int) λQb=>idx I.To (O:Int) λQc=>if decide (Qb=Qc) then (gO R o) else (if decide (0<=j) then (idx J j λY=>idx J j λQd=>idx ((o[Qd]?).getD []) j λQe=>(iS Qe U).bind λQf=>idx ((o[Y]?).getD []) j λQg=>jM J R U j Z (o.set Y (((o[Y]?).getD []).set ((j:Int).toNat) Qf))) else (jM J R U j Z o))
def p_ (R:bA) (I:Nat) (j:List Nat) (o:List (List aA)) (J:(List Nat×List (List aA))->Option (bA)):Option (bA):=(nN (R.qT.length:Int)).bind λU=>idx j (I:Int) λO=>J ((j.set (((I:Int):Int).toNat) o.length),(o++[U]))
def ni (j:bA):Option (bA):=cW (0<=(j.qT.length:Int)/\(j.qT.length:Int)*24<=140737488355328) (cW (((List.replicate ((j.qT.length:Int):Int).toNat 0).length:Int)<=9223372036854775807) (kW (λk o n=>p_ j k o.1 o.2 n) (λo=>dO (λk y I n=>lu j o.1 k y I n) (λI=>(qE (rI o.1 I)).bind λJ=>some (bA.mk j.vI j.pQ j.To j.B_ j.C j.qT J.1)) 0 j.B_ o.2) (((List.replicate ((j.qT.length:Int):Int).toNat 0).length:Int):Int).toNat 0 ((List.replicate ((j.qT.length:Int):Int).toNat 0),([[]]))))
def ri (o:(List (Int×Bool))) (j:((List (Int×Bool))×List Int)->Option ((Option bA))) (I:Int) (J:List Int):Option ((Option bA)):=j ((vp o I true),J)
def wR (R:Nat) (j:Int) (o:(List (Int×Bool))) (I:List Int) (J:((List (Int×Bool))×List Int)->Option ((Option bA))):Option ((Option bA)):=if (rH o j).getD false then (cW ((I.length+([((R:Int))]:List Int).length)*8<=140737488355328) (ri o J j (I++([((R:Int))]:List Int)))) else (ri o J j I)
def wQ (I:aE) (J:(a_)) (Qf:Nat) (j:aK) (R:List Int) (U:List Int) (O:List aA) (Y:List aA) (Qb:(List Int×List Int×List aA×List aA)->Option ((Option bA))):Option ((Option bA)):=(bH I.bD j.pQ).bind λQc=>idx J.qp Qc λZ=>cW ((R.length+([Z]:List Int).length)*8<=140737488355328) ((bH I.bD j.To).bind λQd=>idx J.qp Qd λP_=>cW ((U.length+([P_]:List Int).length)*8<=140737488355328) ((rj 1000000 (i64.wrap (j.X*j.A0))).bind λo=>cW ((O.length+([o]).length)*64<=140737488355328) ((rj (i64.wrap (0-j.Shift)) 1000).bind λQe=>(lZ o Qe).bind λQa=>cW ((Y.length+([Qa]).length)*64<=140737488355328) (Qb ((R++([Z]:List Int)),(U++([P_]:List Int)),(O++([o])),(Y++([Qa])))))))
def uM (I:aE):Option ((Option bA)):=(dZ I).bind λJ=>dO (λk y j n=>wQ I J k y j.1 j.2.1 j.2.2.1 j.2.2.2 n) (λj=>dO (λk y o n=>wR k y o.1 o.2 n) (λo=>(ni (bA.mk J j.1 j.2.1 j.2.2.1 j.2.2.2 o.2 [])).bind λR=>some (some R)) 0 J.bR (([]:(List (Int×Bool))),([]:List Int))) 0 I.aH (([]:List Int),([]:List Int),([]:List aA),([]:List aA))
def eT (j:bA):Int:=(j.vI.bR.length:Int)
def qZ (R:Nat) (J:Int) (j:List aA) (I:List aA->Option ((List aA))):Option ((List aA)):=(kX J).bind λo=>cW ((j.length+([o]).length)*64<=140737488355328) (I (j++([o])))
def qY (J:bA) (R:Nat) (U:Int) (j:List Int) (I:List Int->Option ((List aA))):Option ((List aA)):=idx J.vI.qp (R:Int) λo=>idx j o λO=>idx j o λY=>I (j.set ((o:Int).toNat) (i64.wrap (O+U)))
def oN (j:bA) (J:(List Int)):Option ((List aA)):=cW (0<=(eT j)/\(eT j)*8<=140737488355328) (dO (λk y o n=>qY j k y o n) (λo=>dO (λk y I n=>qZ k y I n) (λI=>some I) 0 o ([]:List aA)) 0 J (List.replicate ((eT j):Int).toNat (0:Int)))
def mE (j:(Bool×(List bU)×Bool×(List bU))->Option (aA)) (o:Bool) (I:(List bU)) (J:Bool) (R:(List bU)):Option (aA):=j (o,I,J,R)
def uW (Y:(List aA)) (Z:(List aA)) (o:Nat) (J:Bool) (R:(List bU)) (U:Bool) (O:(List bU)) (j:(Bool×(List bU)×Bool×(List bU))->Option (aA)):Option (aA):=idx Y (o:Int) λP_=>if decide ((c_ P_)=0) then (mE j J R U O) else (idx Z (o:Int) λQa=>if !decide ((c_ Qa)=0) then (idx Y (o:Int) λQb=>idx Z (o:Int) λQc=>(lZ Qb Qc).bind λQd=>(iS (aA.mk (aD.mk J R) (aD.mk U O)) Qd).bind λI=>mE j I.N.minus I.N.words I.D.minus I.D.words) else (mE j J R U O))
def tW (I:(List aA)) (J:(List aA)):Option (aA):=(kX 0).bind λo=>kW (λk j n=>uW I J k j.1 j.2.1 j.2.2.1 j.2.2.2 n) (λj=>some (aA.mk (aD.mk j.1 j.2.1) (aD.mk j.2.2.1 j.2.2.2))) ((I.length:Int):Int).toNat 0 (o.N.minus,o.N.words,o.D.minus,o.D.words)
def pZ (J:bA) (R:List aA) (U:Nat) (j:Int) (o:List aA) (I:List aA->Option ((List aA))):Option ((List aA)):=idx J.rh (U:Int) λO=>(tW O R).bind λY=>idx o j λZ=>I (o.set ((j:Int).toNat) Y)
def pY (J:(List aA)) (j:Nat) (R:Int) (o:List aA) (I:List aA->Option ((List aA))):Option ((List aA)):=idx J R λU=>idx o (j:Int) λO=>I (o.set (((j:Int):Int).toNat) U)
def nh (j:bA) (J:(List aA)):Option ((List aA)):=cW (0<=(j.qT.length:Int)/\(j.qT.length:Int)*64<=140737488355328) (dO (λk y o n=>pY J k y o n) (λo=>(nN (eT j)).bind λR=>dO (λk y I n=>pZ j o k y I n) (λI=>some I) 0 j.qT R) 0 j.qT (List.replicate ((j.qT.length:Int):Int).toNat ((aA.mk (aD.mk false []) (aD.mk false [])):aA)))
def nI (o:bA) (I:Nat) (U:aA) (j:List aA) (Y:List aA->Option ((List aA))):Option ((List aA)):=idx o.pQ (I:Int) λJ=>idx o.pQ (I:Int) λZ=>idx j Z λP_=>(kz P_ U).bind λR=>idx j J λQd=>idx o.To (I:Int) λO=>idx o.To (I:Int) λQa=>idx (j.set ((J:Int).toNat) R) Qa λQb=>(iS Qb U).bind λQc=>idx (j.set ((J:Int).toNat) R) O λQe=>Y ((j.set ((J:Int).toNat) R).set ((O:Int).toNat) Qc)
def ng (j:bA) (I:(List aA)):Option ((List aA)):=cW (I.length*64<=140737488355328) (dO (λk y o n=>nI j k y o n) (λo=>(nh j o).bind λJ=>some J) 0 j.C I)
def lR (J:Int) (I:(Int×List U8)->Option (Qm×Bool)) (j:bU) (o:List U8):Option (Qm×Bool):=cW (o.length+(mw (u64.wrap (j.n))).size<=140737488355328) (I (i64.wrap (J-1),(o++kC (mw (u64.wrap (j.n))))))
def lS (j:List U8) (o:Qm):Option (Qm×Bool):=some (o,(decide (((zd j).size:Int)<=2000)))
def pE (R:aD) (J:List bU) (O:Int) (j:List U8) (I:(Int×List U8)->Option (Qm×Bool)):Option (Qm×Bool):=if decide (0<=O) then (idx J O λo=>cW (0<=(u64.wrap (o.n))/\(u64.wrap (o.n))<=18446744073709551615) (if decide (O<(i64.wrap ((J.length:Int)-1))) then (cW (0<=((mw (u64.wrap (o.n))).size:Int)/\((mw (u64.wrap (o.n))).size:Int)<=((⟨#[48,48,48,48,48,48,48,48,48]⟩:Qm).size:Int)) (cW (j.length+((⟨#[48,48,48,48,48,48,48,48,48]⟩:Qm).extract ((((mw (u64.wrap (o.n))).size:Int):Int).toNat) ((⟨#[48,48,48,48,48,48,48,48,48]⟩:Qm).size)).size<=140737488355328) (lR O I o (j++kC ((⟨#[48,48,48,48,48,48,48,48,48]⟩:Qm).extract ((((mw (u64.wrap (o.n))).size:Int):Int).toNat) ((⟨#[48,48,48,48,48,48,48,48,48]⟩:Qm).size)))))) else (lR O I o j))) else (cW (0<j.length) (if R.minus then (cW ((⟨#[45]⟩:Qm).size+(zd j).size<=maxLen) (lS j ((⟨#[45]⟩:Qm)++(zd j)))) else (lS j (zd j))))
def rA (U:aD) (j:List bU) (I:(List bU)) (R:(List bU×(List bU))->Option (Qm×Bool)):Option (Qm×Bool):=if decide (0<(I.length:Int)) then ((nT I 1000000000).bind λo=>cW ((j.length+([⟨o.2⟩]:List bU).length)*4<=140737488355328) ((jE false o.1).bind λO=>R ((j++([⟨o.2⟩]:List bU)),O.words))) else (iL (λJ n=>pE U j J.1 J.2 n) fT (i64.wrap ((j.length:Int)-1),([]:List U8)))
def lx (j:aD):Option (Qm×Bool):=if decide ((j.words.length:Int)=0) then (some ((⟨#[48]⟩),true)) else (if decide (210<(j.words.length:Int)) then (some ((⟨#[]⟩),false)) else (iL (λo n=>rA j o.1 o.2 n) fT (([]:List bU),j.words)))
def pI (I:aA):Option (Qm×Bool):=(lx I.N).bind λj=>if !j.2 then (some ((⟨#[]⟩),false)) else ((lx I.D).bind λo=>if decide (o.1=(⟨#[49]⟩)) then (some (j.1,o.2)) else (cW (j.1.size+(⟨#[47]⟩:Qm).size<=maxLen) (cW ((j.1++(⟨#[47]⟩)).size+o.1.size<=maxLen) (some (((j.1++(⟨#[47]⟩))++o.1),o.2)))))
def tz (j:Nat) (R:aA) (o:List Qm) (J:List Qm->Option ((List Qm)×Bool)):Option ((List Qm)×Bool):=(pI R).bind λI=>if !I.2 then (some (([]:List Qm),false)) else (idx o (j:Int) λU=>J (o.set (((j:Int):Int).toNat) I.1))
def tJ (j:(List aA)):Option ((List Qm)×Bool):=cW (0<=(j.length:Int)/\(j.length:Int)*16<=140737488355328) (dO (λk y o n=>tz k y o n) (λo=>some (o,true)) 0 j (List.replicate ((j.length:Int):Int).toNat ((⟨#[]⟩):Qm)))
def nV (o:(List aA)):Option ((List Qm)×Int):=(tJ o).bind λj=>if !j.2 then (some (([]:List Qm),2)) else (some (j.1,0))
def qG (j:bA) (I:(List aA)) (o:Nat) (O:aA) (J:List aA) (U:List aA->Option ((List aA))):Option ((List aA)):=idx j.B_ (o:Int) λY=>idx j.pQ (o:Int) λZ=>idx I Z λP_=>idx j.To (o:Int) λQa=>idx I Qa λQb=>(kz P_ Qb).bind λQc=>(lZ Y Qc).bind λQd=>(iS Qd O).bind λR=>cW ((J.length+([R]).length)*64<=140737488355328) (U (J++([R])))
def nZ (o:bA) (I:(List aA)):Option ((List aA)):=dO (λk y j n=>qG o I k y j n) (λj=>some j) 0 o.C ([]:List aA)
def nJ (j:aE) (Y:(List Int)):Option (cG×Int):=(nH j Y).bind λo=>if !decide (o=0) then (some ((cG.mk ([]:List Qm) ([]:List Qm)),o)) else ((uM j).bind λU=>yU U none (λO=>(oN O Y).bind λZ=>(ng O Z).bind λI=>(nV I).bind λJ=>(nZ O I).bind λP8=>(nV P8).bind λR=>if (!decide (J.2=0)) || (!decide (R.2=0)) then (some ((cG.mk ([]:List Qm) ([]:List Qm)),2)) else (some ((cG.mk J.1 R.1),0))))
def fW (j:Qm) (o:Int):Int:=(Nk j o)
def iQ (j:Qm) (I:Qm):Option (Int):=if (decide ((I.size:Int)=0)) || (decide (I=j)) then (some 0) else (if decide ((I.size:Int)=1) then (idx (kC I) 0 λo=>some (fW j o.n)) else (if decide ((j.size:Int)<=(I.size:Int)) then (some (-1)) else none))
def jT (j:Qm) (I:Qm):Option (Qm×Qm×Bool):=(iQ j I).bind λo=>if decide (0<=o) then (cW (0<=o/\o<=(j.size:Int)) (cW (0<=(i64.wrap (o+(I.size:Int)))/\(i64.wrap (o+(I.size:Int)))<=(j.size:Int)) (some ((j.extract 0 ((o:Int).toNat)),(j.extract ((i64.wrap (o+(I.size:Int)):Int).toNat) j.size),true)))) else (some (j,(⟨#[]⟩),false))
def nO (o:Qm) (I:Qm):Option (Qm×Qm×Bool):=(jT o I).bind λj=>some (j.1,j.2.1,j.2.2)
def eS (o:Qm) (j:Qm):Option (Bool):=if decide ((j.size:Int)<=(o.size:Int)) then (cW (0<=(j.size:Int)/\(j.size:Int)<=(o.size:Int)) (some (decide ((o.extract 0 (((j.size:Int):Int).toNat))=j)))) else (some false)
def nE (o:Qm) (j:Qm):Option (Bool):=(eS o j).bind λI=>some I
def iW (o:Qm) (j:Qm):Option (Qm):=(eS o j).bind λI=>if I then (cW (0<=(j.size:Int)/\(j.size:Int)<=(o.size:Int)) (some (o.extract (((j.size:Int):Int).toNat) o.size))) else (some o)
def lC (o:Qm) (j:Qm):Option (Qm):=(iW o j).bind λI=>some I
def rX (o:(Bool)) (I:Bool) (j:(List bU)):Option (aD):=if o then (some (aD.mk (decide (0<(j.length:Int))) j)) else (some (aD.mk false j))
def uf (U:(Bool)) (j:Qm) (o:Bool) (I:(List bU)) (R:(Qm×Bool×(List bU))->Option (aD)):Option (aD):=if decide (0<(j.size:Int)) then (cW (0<=(i64.wrap ((Int.tmod (i64.wrap ((j.size:Int)-1)) 9)+1))/\(i64.wrap ((Int.tmod (i64.wrap ((j.size:Int)-1)) 9)+1))<=(j.size:Int)) (cW ((j.extract 0 ((i64.wrap ((Int.tmod (i64.wrap ((j.size:Int)-1)) 9)+1):Int).toNat)).size≠0/\(j.extract 0 ((i64.wrap ((Int.tmod (i64.wrap ((j.size:Int)-1)) 9)+1):Int).toNat)).size<=281474976710656/\(L1 (j.extract 0 ((i64.wrap ((Int.tmod (i64.wrap ((j.size:Int)-1)) 9)+1):Int).toNat))).2=false) ((mZ 1000000000).bind λO=>(fI (aD.mk o I) O).bind λY=>(mZ (i64.wrap ((L1 (j.extract 0 ((i64.wrap ((Int.tmod (i64.wrap ((j.size:Int)-1)) 9)+1):Int).toNat))).1))).bind λZ=>(lX Y Z).bind λJ=>cW (0<=(i64.wrap ((Int.tmod (i64.wrap ((j.size:Int)-1)) 9)+1))/\(i64.wrap ((Int.tmod (i64.wrap ((j.size:Int)-1)) 9)+1))<=(j.size:Int)) (R (j.extract ((i64.wrap ((Int.tmod (i64.wrap ((j.size:Int)-1)) 9)+1):Int).toNat) j.size,J.minus,J.words))))) else (rX U o I)
def lK (o:Qm):Option (aD):=(nE o (⟨#[45]⟩)).bind λI=>(lC o (⟨#[45]⟩)).bind λJ=>iL (λj n=>uf I j.1 j.2.1 j.2.2 n) fT (J,false,[])
def qD (o:Qm):Option (aA):=(nO o (⟨#[47]⟩)).bind λj=>if !j.2.2 then ((lK j.1).bind λI=>(mZ 1).bind λJ=>some (aA.mk I J)) else ((lK j.1).bind λR=>(lK j.2.1).bind λU=>some (aA.mk R U))
def oI (j:aA):Option (aA):=if decide ((c_ j)<0) then ((oJ j).bind λo=>some o) else (some j)
def rV (j:aD) (o:aD):Option (Int):=(oH j o).bind λI=>some (fH I)
def m_ (j:aA) (o:aA):Option (Int):=(fI j.N o.D).bind λI=>(fI o.N j.D).bind λJ=>(rV I J).bind λR=>some R
def pf (j:List Qm->Option ((List Qm))) (o:List Qm):Option ((List Qm)):=j o
def sN (gG:(List Qm)) (J:Nat) (j:aK) (o:List Qm) (I:List Qm->Option ((List Qm))):Option ((List Qm)):=idx gG (J:Int) λR=>(qD R).bind λU=>(oI U).bind λO=>(kX j.s6).bind λY=>(m_ O Y).bind λZ=>if decide (0<Z) then (cW ((o.length+([j.Name]).length)*16<=140737488355328) (pf I (o++([j.Name])))) else (pf I o)
def lO (o:aE) (gG:(List Qm)):Option ((List Qm)):=dO (λk y j n=>sN gG k y j n) (λj=>some j) 0 o.aH ([]:List Qm)
def gK (o:aE):Option (cG×(List Qm)×Int):=(gQ o).bind λI=>if !decide (I.2=0) then (some ((cG.mk ([]:List Qm) ([]:List Qm)),([]:List Qm),I.2)) else ((nJ o I.1).bind λj=>if !decide (j.2=0) then (some ((cG.mk ([]:List Qm) ([]:List Qm)),([]:List Qm),j.2)) else ((lO o j.1.eO).bind λJ=>some (j.1,J,0)))
def eA (I:aE) (on:(List Qm)):Option (cG×(List Qm)×Int):=(od I on).bind λj=>if !decide (j.2=0) then (some ((cG.mk ([]:List Qm) ([]:List Qm)),([]:List Qm),j.2)) else ((gK j.1).bind λo=>some (o.1,o.2.1,o.2.2))
def kE (j:aX):Option (Int):=(bV j.bK).bind λo=>if !decide (o=0) then (some o) else ((mP j.nL).bind λI=>if !decide (I=0) then (some I) else (if decide (5<(j.bK.bB.length:Int)) then (some 2) else ((ql j.bK).bind λJ=>(eA j.bK J).bind λR=>some R.2.2)))
def lF:bJ:=(bJ.mk ([]:List aB))
def mz (j:aE):Option ((Option aW)×Int):=(bV j).bind λo=>if !decide (o=0) then (some (none,o)) else ((kA j).bind λI=>(nN (j.aH.length:Int)).bind λJ=>cW (0<=(j.aH.length:Int)/\(j.aH.length:Int)*8<=140737488355328) (cW (0<=(j.aH.length:Int)/\(j.aH.length:Int)*1<=140737488355328) (some ((some (aW.mk I.aH J (List.replicate ((j.aH.length:Int):Int).toNat (0:Int)) (List.replicate ((j.aH.length:Int):Int).toNat (false:Bool)) 0)),0))))
def vP (j:Nat) (o:List aY) (R:List aY->Option ((Option aN)×Int)):Option ((Option aN)×Int):=idx o (j:Int) λI=>cW (I.wK.length*40<=140737488355328) (idx o (j:Int) λJ=>R (o.set (((j:Int):Int).toNat) (aY.mk J.Close J.Switch I.wK)))
def lf (j:aX):Option ((Option aN)×Int):=(kE j).bind λR=>if !decide (R=0) then (some (none,R)) else ((kA j.bK).bind λo=>cW (j.nL.length*48<=140737488355328) ((ql j.bK).bind λI=>kW (λk J n=>vP k J n) (λJ=>(mz o).bind λU=>yU U.1 ((eA o I).bind λZ=>none) (λO=>(eA o I).bind λY=>some ((some (aN.mk o J I [] O Y.1 0 ((lF)) [])),0))) ((j.nL.length:Int):Int).toNat 0 j.nL))
def fN:aE:=(aE.mk ([(⟨#[65]⟩),(⟨#[66]⟩)]) ([(aS.mk (⟨#[83]⟩) (⟨#[65]⟩) (⟨#[66]⟩) false true)]) ([(aK.mk (⟨#[76]⟩) (⟨#[65]⟩) (⟨#[66]⟩) 1000 1000 0 40 60 10)]) ([(bE.mk (⟨#[71]⟩) (⟨#[65]⟩) 10 50 0)]) ([(aF.mk (⟨#[68]⟩) (⟨#[66]⟩) 30)]) ([]:List bS))
def qJ (I:Nat) (j:U8) (o:Unit->Option (Bool)):Option (Bool):=if (decide (j.n<97)) || (decide (122<j.n)) then (some false) else (o ())
def gM (j:Qm):Option (Bool):=cW (j.size<=maxLen) (dO (λk y o n=>qJ k y n) (λ_=>some ((decide (1<=(j.size:Int))) && (decide ((j.size:Int)<=8)))) 0 (kC j) ())
def dG (j:aB):Option (Int):=if (decide (j.Time<0)) || (decide (200000<j.Time)) then (some 12) else ((gM j.Kind).bind λo=>if o then ((bL j.Name).bind λI=>if !I then (some 6) else (if (decide (j.Value<(-1000000))) || (decide (1000000<j.Value)) then (some 4) else (some 0))) else (some 6))
def kP (j:bJ):Option ((List aB)):=cW (j.iH.length*48<=140737488355328) (some j.iH)
def pj (o:aF) (j:aB):Bool:=(decide (o.Name=j.Name))
def gI (J:(List aF)) (j:aB) (o:Nat) (I:Unit->Option (Int)):Option (Int):=idx J (o:Int) λR=>if (pj R j) then (some (o:Int)) else (I ())
def dM (o:(List aF)) (j:aB):Option (Int):=kW (λk I n=>gI o j k n) (λ_=>some (-1)) ((o.length:Int):Int).toNat 0 ()
def pn (o:bE) (j:aB):Bool:=(decide (o.Name=j.Name))
def gW (J:(List bE)) (j:aB) (o:Nat) (I:Unit->Option (Int)):Option (Int):=idx J (o:Int) λR=>if (pn R j) then (some (o:Int)) else (I ())
def dT (o:(List bE)) (j:aB):Option (Int):=kW (λk I n=>gW o j k n) (λ_=>some (-1)) ((o.length:Int):Int).toNat 0 ()
def oy (o:aS) (j:aB):Bool:=(decide (o.Name=j.Name))
def fO (J:(List aS)) (j:aB) (o:Nat) (I:Unit->Option (Int)):Option (Int):=idx J (o:Int) λR=>if (oy R j) then (some (o:Int)) else (I ())
def cZ (o:(List aS)) (j:aB):Option (Int):=kW (λk I n=>fO o j k n) (λ_=>some (-1)) ((o.length:Int):Int).toNat 0 ()
def lQ (o:aR) (j:Qm):Bool:=(decide (o.Name=j))
def cU (J:(List aR)) (j:Qm) (o:Nat) (I:Unit->Option (Int)):Option (Int):=idx J (o:Int) λR=>if (lQ R j) then (some (o:Int)) else (I ())
def cB (o:(List aR)) (j:Qm):Option (Int):=kW (λk I n=>cU o j k n) (λ_=>some (-1)) ((o.length:Int):Int).toNat 0 ()
def lJ (j:(List aR)) (name:Qm):Option (Int):=(cB j name).bind λo=>some o
def n9 (o:(List aR)) (j:Nat) (I:aR) (J:Unit->Option (Int)):Option (Int):=(bL I.Name).bind λR=>if !R then (some 6) else (cW (0<=(j:Int)/\(j:Int)<=(o.length:Int)) ((lJ (rJ o 0 (((j:Int):Int).toNat)) I.Name).bind λU=>if decide (0<=U) then (some 7) else (J ())))
def lv (j:(List aR)):Option (Int):=if decide (32<(j.length:Int)) then (some 2) else (dO (λk y o n=>n9 j k y n) (λ_=>some 0) 0 j ())
def dI (j:List Bool->Option (Bool)) (o:List Bool):Option (Bool):=j o
def q7 (O:(List aR)) (o:Nat) (J:bF) (j:List Bool) (I:List Bool->Option (Bool)):Option (Bool):=(lJ O J.Name).bind λR=>if decide (J.Kind=0) then (idx j (o:Int) λQc=>dI I (j.set (((o:Int):Int).toNat) true)) else (if decide (J.Kind=2) then (if decide (0<=R) then (idx O R λU=>idx j (o:Int) λQd=>dI I (j.set (((o:Int):Int).toNat) (!U.yA))) else (idx j (o:Int) λQe=>dI I (j.set (((o:Int):Int).toNat) false))) else (if decide (J.Kind=3) then (if decide (0<=R) then (idx O R λY=>idx j (o:Int) λQf=>dI I (j.set (((o:Int):Int).toNat) Y.yA)) else (idx j (o:Int) λQg=>dI I (j.set (((o:Int):Int).toNat) false))) else (if decide (J.Kind=4) then (idx j J.A λZ=>idx j (o:Int) λQh=>dI I (j.set (((o:Int):Int).toNat) (!Z))) else (if decide (J.Kind=5) then (idx j J.A λP9=>if P9 then (idx j J.B_ λP_=>idx j (o:Int) λQi=>dI I (j.set (((o:Int):Int).toNat) P_)) else (idx j (o:Int) λQj=>dI I (j.set (((o:Int):Int).toNat) false))) else (if decide (J.Kind=6) then (idx j J.A λQa=>if Qa then (idx j (o:Int) λQk=>dI I (j.set (((o:Int):Int).toNat) true)) else (idx j J.B_ λQb=>idx j (o:Int) λQl=>dI I (j.set (((o:Int):Int).toNat) Qb))) else (dI I j))))))
def mQ (j:(List bF)) (J:(List aR)):Option (Bool):=cW (0<=(j.length:Int)/\(j.length:Int)*1<=140737488355328) (dO (λk y o n=>q7 J k y o n) (λo=>idx o (i64.wrap ((j.length:Int)-1)) λI=>some I) 0 j (List.replicate ((j.length:Int):Int).toNat (false:Bool)))
def iI (j:List Int->Option ((List Int)×Int)) (o:List Int):Option ((List Int)×Int):=j o
def qa (Y:(List aR)) (O:Bool) (name:Qm) (J:Nat) (I:aY) (o:List Int) (j:List Int->Option ((List Int)×Int)):Option ((List Int)×Int):=if decide (I.Close=O) then (if decide (I.Switch=name) then ((mQ I.wK Y).bind λR=>if !R then (cW ((o.length+([((J:Int))]:List Int).length)*8<=140737488355328) (iI j (o++([((J:Int))]:List Int)))) else (iI j o)) else (iI j o)) else (iI j o)
def nk (o:(List aY)) (O:(List aR)) (Y:Bool) (name:Qm):Option ((List Int)×Int):=(mP o).bind λI=>if !decide (I=0) then (some (([]:List Int),I)) else ((lv O).bind λJ=>if !decide (J=0) then (some (([]:List Int),J)) else ((lJ O name).bind λR=>if decide (R<0) then (some (([]:List Int),8)) else (dO (λk y j n=>qa O Y name k y j n) (λj=>some (j,0)) 0 o ([]:List Int))))
def mf (o:(List aY)) (J:(List aR)) (I:Bool) (name:Qm):Option (Bool×Int):=(nk o J I name).bind λj=>some (((decide (j.2=0)) && (decide ((j.1.length:Int)=0))),j.2)
def qh (J:Nat) (j:aS) (o:List aR) (I:List aR->Option (Int×cX)):Option (Int×cX):=cW ((o.length+([(aR.mk j.Name (!j.Open))]).length)*24<=140737488355328) (I (o++([(aR.mk j.Name (!j.Open))])))
def nB (U:aN) (j:cX) (o:aB):Option (Int×cX):=(cZ j.n.aL o).bind λI=>if decide (I<0) then (some (8,j)) else (if !decide (o.Value=0) then (some (1,j)) else (idx j.n.aL I λO=>if !decide (O.Open=(decide (o.Kind=(⟨#[99,108,111,115,101]⟩)))) then (some (11,j)) else ((bG U.held o.Name).bind λY=>if Y then (some (18,j)) else (dO (λk y R n=>qh k y R n) (λR=>(mf U.rules R (decide (o.Kind=(⟨#[99,108,111,115,101]⟩))) o.Name).bind λZ=>if !Z.1 then (some (19,j)) else (idx j.n.aL I λJ=>some (0,(cX.mk (aE.mk j.n.bD (j.n.aL.set ((I:Int).toNat) (aS.mk J.Name J.A J.B_ J.vq (!(decide (o.Kind=(⟨#[99,108,111,115,101]⟩)))))) j.n.aH j.n.cR j.n.bB j.n.bM) j.on)))) 0 j.n.aL ([]:List aR)))))
def jA (j:cX) (o:List bE) (I:List aF) (J:List Qm):Option (Int×cX):=some (0,(cX.mk (aE.mk j.n.bD j.n.aL j.n.aH o I j.n.bM) J))
def kR (Y:aN) (j:cX) (o:aB) (I:(Int)) (J:(Int)) (Z:Bool):Option (Int×cX):=if Z then ((nB Y j o).bind λU=>some (U.1,U.2)) else (if decide (o.Kind=(⟨#[108,111,97,100]⟩)) then (if decide (I<0) then (some (8,j)) else (if (decide (o.Value<0)) || (decide (100000<o.Value)) then (some (4,j)) else (idx j.n.bB I λO=>jA j j.n.cR (j.n.bB.set ((I:Int).toNat) (aF.mk O.Name O.Node o.Value)) j.on))) else (if decide (o.Kind=(⟨#[103,101,110]⟩)) then (if decide (J<0) then (some (8,j)) else (idx j.n.cR J λP_=>if (decide (o.Value<P_.jJ)) || (decide (100000<o.Value)) then (some (4,j)) else (idx j.n.cR J λR=>jA j (j.n.cR.set ((J:Int).toNat) (bE.mk R.Name R.Node R.jJ o.Value R.AX)) j.n.bB j.on))) else (if decide (o.Kind=(⟨#[98,97,99,107]⟩)) then (if decide (I<0) then (some (8,j)) else ((bG j.on o.Name).bind λQa=>if Qa then (some (11,j)) else (idx j.n.bB I λQb=>if !decide (o.Value=Qb.dB) then (some (1,j)) else (cW ((j.on.length+([o.Name]).length)*16<=140737488355328) (jA j j.n.cR j.n.bB (j.on++([o.Name]))))))) else (if decide (o.Kind=(⟨#[119,97,105,116]⟩)) then (if !decide (o.Value=0) then (some (1,j)) else (jA j j.n.cR j.n.bB j.on)) else (some (1,j))))))
def oh (I:aN) (o:cX) (j:aB):Option (Int×cX):=(dM o.n.bB j).bind λJ=>(dT o.n.cR j).bind λR=>if decide (j.Kind=(⟨#[111,112,101,110]⟩)) then (kR I o j J R (decide (j.Kind=(⟨#[111,112,101,110]⟩)))) else (kR I o j J R (decide (j.Kind=(⟨#[99,108,111,115,101]⟩))))
def u9 (I:Nat) (j:U8) (o:Unit->Option (Int)):Option (Int):=if (decide (j.n<48)) || (decide (57<j.n)) then (some 5) else (o ())
def pT (j:Qm):Option (Int):=cW (j.size<=maxLen) (dO (λk y I n=>u9 k y n) (λ_=>if decide (j=(⟨#[]⟩)) then (some 5) else (if decide (1<(j.size:Int)) then (idx (kC j) 0 λo=>if decide (o.n=48) then (some 5) else (if decide (2000<(j.size:Int)) then (some 2) else (some 0))) else (if decide (2000<(j.size:Int)) then (some 2) else (some 0)))) 0 (kC j) ())
def wT (I:Qm) (J:Qm) (R:Nat) (o:Unit->Option (aD×aD×Int)):Option (aD×aD×Int):=idx [I,J] (R:Int) λU=>(pT U).bind λj=>if !decide (j=0) then (some ((aD.mk false []),(aD.mk false []),j)) else (o ())
def wu (j:Qm) (o:Qm):Option (aD×aD×Int):=kW (λk R n=>wT j o k n) (λ_=>(lK j).bind λI=>(lK o).bind λJ=>some (I,J,0)) (2:Int).toNat 0 ()
def wS (o:aD):Option (Qm×Int):=(lx o).bind λj=>if !j.2 then (some ((⟨#[]⟩),2)) else (some (j.1,0))
def wm (I:Qm) (J:Qm):Option (Qm×Int):=(wu I J).bind λj=>if !decide (j.2.2=0) then (some ((⟨#[]⟩),j.2.2)) else ((pS j.1 j.2.1).bind λR=>(wS R).bind λo=>some (o.1,o.2))
def sL:Option (Int):=some 0
def mG (I:Qm) (J:(Qm)) (j:(Qm×Qm×Bool)) (o:(Int)) (O:Int):Option (Int):=if ((decide (o=5)) || (decide (O=5))) || ((decide (j.1=(⟨#[48]⟩))) && (decide ((J.size:Int)<(I.size:Int)))) then (some 5) else (if (!decide (o=0)) || (!decide (O=0)) then (some 2) else (if j.2.2 then ((wm j.1 j.2.1).bind λR=>if ((decide (j.2.1=(⟨#[48]⟩))) || (decide (j.2.1=(⟨#[49]⟩)))) || (!decide (R.1=(⟨#[49]⟩))) then (some 3) else sL) else sL))
def pU (o:Qm):Option (Int):=(lC o (⟨#[45]⟩)).bind λI=>(nO I (⟨#[47]⟩)).bind λj=>(pT j.1).bind λJ=>if j.2.2 then ((pT j.2.1).bind λR=>mG o I j J R) else (mG o I j J 0)
def sK (J:Nat) (I:Qm) (o:Unit->Option (Int)):Option (Int):=(pU I).bind λj=>if !decide (j=0) then (some j) else (o ())
def pK (j:(List Qm)):Option (Int):=dO (λk y o n=>sK k y n) (λ_=>some 0) 0 j ()
def lL (j:(List Qm)):Option (Int):=if decide (40<(j.length:Int)) then (some 2) else ((pK j).bind λo=>some o)
def lM (j:List Qm->Option ((List Qm))) (o:List Qm):Option ((List Qm)):=j o
def qb (J:aW) (R:Nat) (I:aK) (j:List Qm) (o:List Qm->Option ((List Qm))):Option ((List Qm)):=idx J.over (R:Int) λU=>if U then (cW ((j.length+([I.Name]).length)*16<=140737488355328) (lM o (j++([I.Name])))) else (lM o j)
def iX (o:aW):Option ((List Qm)):=dO (λk y j n=>qb o k y j n) (λj=>some j) 0 o.fV ([]:List Qm)
def iJ (j:(List aA×List Int×List Bool)->Option ((List Qm)×Int×aW)) (o:List aA) (I:List Int) (J:List Bool):Option ((List Qm)×Int×aW):=j (o,I,J)
def qc (gG:(List Qm)) (O:Int) (j:Nat) (Z:aK) (U:List aA) (o:List Int) (I:List Bool) (R:(List aA×List Int×List Bool)->Option ((List Qm)×Int×aW)):Option ((List Qm)×Int×aW):=idx gG (j:Int) λP9=>(qD P9).bind λP_=>(oI P_).bind λJ=>idx U (j:Int) λQf=>(kX Z.s6).bind λQa=>(m_ J Qa).bind λQb=>if decide (Qb<=0) then (idx o (j:Int) λQg=>idx I (j:Int) λQh=>iJ R (U.set (((j:Int):Int).toNat) J) (o.set (((j:Int):Int).toNat) 0) (I.set (((j:Int):Int).toNat) false)) else (idx o (j:Int) λY=>idx o (j:Int) λQi=>idx (o.set (((j:Int):Int).toNat) (i64.wrap (Y+O))) (j:Int) λQc=>if decide (Z.Cm<Qc) then (idx I (j:Int) λQj=>iJ R (U.set (((j:Int):Int).toNat) J) (o.set (((j:Int):Int).toNat) (i64.wrap (Y+O))) (I.set (((j:Int):Int).toNat) true)) else ((kX Z.w_).bind λQd=>(m_ J Qd).bind λQe=>if decide (0<Qe) then (idx I (j:Int) λQk=>iJ R (U.set (((j:Int):Int).toNat) J) (o.set (((j:Int):Int).toNat) (i64.wrap (Y+O))) (I.set (((j:Int):Int).toNat) true)) else (iJ R (U.set (((j:Int):Int).toNat) J) (o.set (((j:Int):Int).toNat) (i64.wrap (Y+O))) I)))
def iY (j:aW) (gG:(List Qm)) (O:Int):Option ((List Qm)×Int×aW):=(lL gG).bind λI=>if !decide (I=0) then (some (([]:List Qm),I,j)) else (if !decide ((gG.length:Int)=(j.fV.length:Int)) then (some (([]:List Qm),3,j)) else (if (decide (O<1)) || (decide ((i64.wrap (200000-j.time))<O)) then (some (([]:List Qm),12,j)) else (dO (λk y o n=>qc gG O k y o.1 o.2.1 o.2.2 n) (λo=>(iX (aW.mk j.fV o.1 o.2.1 o.2.2 (i64.wrap (j.time+O)))).bind λJ=>some (J,0,(aW.mk j.fV o.1 o.2.1 o.2.2 (i64.wrap (j.time+O))))) 0 j.fV (j.gG,j.mO,j.over))))
def fC (j:bJ) (o:aB):Option (Int×Int×bJ):=(dG o).bind λI=>if !decide (I=0) then (some (0,I,j)) else (if decide (0<(j.iH.length:Int)) then (idx j.iH (i64.wrap ((j.iH.length:Int)-1)) λJ=>if decide (o.Time<J.Time) then (some (0,12,j)) else (if decide ((j.iH.length:Int)=300) then (some (0,9,j)) else (cW ((j.iH.length+([o]).length)*48<=140737488355328) (some ((i64.wrap ((j.iH.length:Int)+1)),0,(bJ.mk (j.iH++([o])))))))) else (if decide ((j.iH.length:Int)=300) then (some (0,9,j)) else (cW ((j.iH.length+([o]).length)*48<=140737488355328) (some ((i64.wrap ((j.iH.length:Int)+1)),0,(bJ.mk (j.iH++([o]))))))))
def lg (o:Qm) (j:(List Qm)):Option (Bool):=(bG j o).bind λI=>some (!I)
def iZ (J:(List Qm)) (j:(List Qm)) (o:Nat) (I:Unit->Option (Int)):Option (Int):=idx J (o:Int) λR=>(lg R j).bind λU=>if U then (some (o:Int)) else (I ())
def fL (o:(List Qm)) (j:(List Qm)):Option (Int):=kW (λk I n=>iZ o j k n) (λ_=>some (-1)) ((o.length:Int):Int).toNat 0 ()
def dQ (I:Int) (j:(List Qm×Int×Int)->Option ((List Qm))) (o:List Qm) (J:Int):Option ((List Qm)):=j (o,J,i64.wrap (I+1))
def iU (Z:(List Qm)) (j:List Qm) (O:Int) (Y:Int) (o:(List Qm×Int×Int)->Option ((List Qm))):Option ((List Qm)):=if decide (Y<(j.length:Int)) then (idx j Y λI=>(lg I Z).bind λJ=>if !J then (idx j O λR=>dQ Y o (j.set ((O:Int).toNat) I) (i64.wrap (O+1))) else (dQ Y o j O)) else (cW (0<=O/\O<=(j.length:Int)) (cW (0<=O/\O<=((j.take (O).toNat++List.replicate (j.length-(O).toNat) ((⟨#[]⟩):Qm)).length:Int)) (some (rJ (j.take (O).toNat++List.replicate (j.length-(O).toNat) ((⟨#[]⟩):Qm)) 0 ((O:Int).toNat)))))
def eC (j:(List Qm)) (J:(List Qm)):Option ((List Qm)):=(fL j J).bind λo=>if decide (o=(-1)) then (some j) else (iL (λI n=>iU J I.1 I.2.1 I.2.2 n) fT (j,o,i64.wrap (o+1)))
def jY (o:Qm) (j:(List Qm)):Option (Bool):=(bG j o).bind λI=>some I
def iN (J:(List Qm)) (j:(List Qm)) (o:Nat) (I:Unit->Option (Int)):Option (Int):=idx J (o:Int) λR=>(jY R j).bind λU=>if U then (some (o:Int)) else (I ())
def fB (o:(List Qm)) (j:(List Qm)):Option (Int):=kW (λk I n=>iN o j k n) (λ_=>some (-1)) ((o.length:Int):Int).toNat 0 ()
def dK (I:Int) (j:(List Qm×Int×Int)->Option ((List Qm))) (o:List Qm) (J:Int):Option ((List Qm)):=j (o,J,i64.wrap (I+1))
def iE (Z:(List Qm)) (j:List Qm) (O:Int) (Y:Int) (o:(List Qm×Int×Int)->Option ((List Qm))):Option ((List Qm)):=if decide (Y<(j.length:Int)) then (idx j Y λI=>(jY I Z).bind λJ=>if !J then (idx j O λR=>dK Y o (j.set ((O:Int).toNat) I) (i64.wrap (O+1))) else (dK Y o j O)) else (cW (0<=O/\O<=(j.length:Int)) (cW (0<=O/\O<=((j.take (O).toNat++List.replicate (j.length-(O).toNat) ((⟨#[]⟩):Qm)).length:Int)) (some (rJ (j.take (O).toNat++List.replicate (j.length-(O).toNat) ((⟨#[]⟩):Qm)) 0 ((O:Int).toNat)))))
def dX (j:(List Qm)) (J:(List Qm)):Option ((List Qm)):=(fB j J).bind λo=>if decide (o=(-1)) then (some j) else (iL (λI n=>iE J I.1 I.2.1 I.2.2 n) fT (j,o,i64.wrap (o+1)))
def l7 (o:aE):Option (Int):=(gK o).bind λj=>if (decide (j.2.2=0)) && (decide (0<(j.2.1.length:Int))) then (some 17) else (some j.2.2)
def oc (off:(List Qm)) (j:(List Qm)) (o:aE):Option (Bool):=cW (j.length*16<=140737488355328) ((dX j off).bind λI=>(pL o I).bind λJ=>(l7 J).bind λR=>some (decide (R=0)))
def jZ (self:(List Qm)->(List Qm)->Int->Int->(List Qm)->aE->Option ((List Qm)×Bool)) (names:(List Qm)) (off:(List Qm)) (many:Int) (O:(List Qm)) (Y:aE) (J:Int) (I:Int->Option ((List Qm)×Bool)):Option ((List Qm)×Bool):=if decide (J<(names.length:Int)) then (cW (0<=(off.length:Int)/\(off.length:Int)<=(off.length:Int)) (idx names J λj=>cW (((rJ off 0 (((off.length:Int):Int).toNat)).length+([j]).length)*16<=140737488355328) ((self names ((rJ off 0 (((off.length:Int):Int).toNat))++([j])) (i64.wrap (J+1)) (i64.wrap (many-1)) O Y).bind λo=>if o.2 then (some (o.1,true)) else (I (i64.wrap (J+1)))))) else (some (([]:List Qm),false))
def eI (self:(List Qm)->(List Qm)->Int->Int->(List Qm)->aE->Option ((List Qm)×Bool)) (names:(List Qm)) (off:(List Qm)) (j:Int) (many:Int) (J:(List Qm)) (O:aE):Option ((List Qm)×Bool):=if decide (many=0) then ((oc off J O).bind λo=>some (off,o)) else (iL (λI n=>jZ self names off many J O I n) fT j)
def dN:Nat->(List Qm)->(List Qm)->Int->Int->(List Qm)->aE->Option ((List Qm)×Bool)
 | 0=>λ_ _ _ _ _ _=>none
 | n+1=>eI (dN n)
def kZ (names:(List Qm)) (off:(List Qm)) (j:Int) (many:Int) (I:(List Qm)) (J:aE):Option ((List Qm)×Bool):=dN fT names off j many I J
def nt (j:List Qm->Option ((List Qm)×Int)) (o:List Qm):Option ((List Qm)×Int):=j o
def rG (J:aE) (j:List Qm) (O:Int) (I:Int->Option ((List Qm)×Int)):Option ((List Qm)×Int):=if decide (O<=(j.length:Int)) then ((kZ j ([]:List Qm) 0 O j J).bind λo=>if o.2 then (some (o.1,0)) else (I (i64.wrap (O+1)))) else (some (([]:List Qm),8))
def rF (on:(List Qm)) (R:Nat) (j:aF) (o:List Qm) (I:List Qm->Option ((List Qm)×Int)):Option ((List Qm)×Int):=(bG on j.Name).bind λJ=>if J then (cW ((o.length+([j.Name]).length)*16<=140737488355328) (nt I (o++([j.Name])))) else (nt I o)
def gS (j:aE) (on:(List Qm)):Option ((List Qm)×Int):=(eF j on).bind λI=>if !decide (I=0) then (some (([]:List Qm),I)) else (if decide (5<(on.length:Int)) then (some (([]:List Qm),2)) else (dO (λk y o n=>rF on k y o n) (λo=>iL (λJ n=>rG j o J n) fT 0) 0 j.bB ([]:List Qm)))
def oz (o:aF) (j:Qm):Bool:=(decide (o.Name=j))
def gH (J:(List aF)) (j:Qm) (o:Nat) (I:Unit->Option (Int)):Option (Int):=idx J (o:Int) λR=>if (oz R j) then (some (o:Int)) else (I ())
def dF (o:(List aF)) (j:Qm):Option (Int):=kW (λk I n=>gH o j k n) (λ_=>some (-1)) ((o.length:Int):Int).toNat 0 ()
def jB (o:Qm) (j:(List Qm)):Option (Bool):=(bG j o).bind λI=>some I
def iF (J:(List Qm)) (j:(List Qm)) (o:Nat) (I:Unit->Option (Int)):Option (Int):=idx J (o:Int) λR=>(jB R j).bind λU=>if U then (some (o:Int)) else (I ())
def eY (o:(List Qm)) (j:(List Qm)):Option (Int):=kW (λk I n=>iF o j k n) (λ_=>some (-1)) ((o.length:Int):Int).toNat 0 ()
def dE (I:Int) (j:(List Qm×Int×Int)->Option ((List Qm))) (o:List Qm) (J:Int):Option ((List Qm)):=j (o,J,i64.wrap (I+1))
def gV (Z:(List Qm)) (j:List Qm) (O:Int) (Y:Int) (o:(List Qm×Int×Int)->Option ((List Qm))):Option ((List Qm)):=if decide (Y<(j.length:Int)) then (idx j Y λI=>(jB I Z).bind λJ=>if !J then (idx j O λR=>dE Y o (j.set ((O:Int).toNat) I) (i64.wrap (O+1))) else (dE Y o j O)) else (cW (0<=O/\O<=(j.length:Int)) (cW (0<=O/\O<=((j.take (O).toNat++List.replicate (j.length-(O).toNat) ((⟨#[]⟩):Qm)).length:Int)) (some (rJ (j.take (O).toNat++List.replicate (j.length-(O).toNat) ((⟨#[]⟩):Qm)) 0 ((O:Int).toNat)))))
def dR (j:(List Qm)) (J:(List Qm)):Option ((List Qm)):=(eY j J).bind λo=>if decide (o=(-1)) then (some j) else (iL (λI n=>gV J I.1 I.2.1 I.2.2 n) fT (j,o,i64.wrap (o+1)))
def qi (o:aN) (U:Nat) (I:Qm) (J:List aB) (j:List aB->Option (aN)):Option (aN):=(fC (bJ.mk J) (aB.mk o.time (⟨#[112,114,111,111,102]⟩) I 0)).bind λR=>j R.2.2.iH
def qk (j:aN) (Y:Nat) (o:Qm) (J:List aB) (I:List aB->Option (aN)):Option (aN):=(dF j.bY.bB o).bind λR=>idx j.bY.bB R λU=>(fC (bJ.mk J) (aB.mk j.time (⟨#[115,104,101,100]⟩) o U.dB)).bind λO=>I O.2.2.iH
def nC (j:aN) (over:(List Qm)):Option (aN):=(gS j.bY j.on).bind λo=>if !decide (o.2=0) then (dO (λk y I n=>qi j k y I n) (λI=>some (aN.mk j.bY j.rules j.on j.held j.watch j.state j.time (bJ.mk I) over)) 0 over j.log.iH) else (dO (λk y J n=>qk j k y J n) (λJ=>(dR j.on o.1).bind λR=>(eA j.bY R).bind λU=>some (aN.mk j.bY j.rules R j.held j.watch U.1 j.time (bJ.mk J) j.over)) 0 o.1 j.log.iH)
def ny (j:(List aK)) (o:List aA) (I:List Int) (J:List Bool) (R:Int) (U:List aB) (O:(List Qm)) (Y:(List aS)) (Z:(List aK)) (P_:(List bE)) (Qa:(List aF)) (Qb:(List bS)) (Qc:(List aY)) (Qd:List Qm) (Qe:(List Qm)) (Qf:(List Qm)) (Qg:(List Qm)) (Qh:Int) (Qi:(List Qm)):Option (Int×aN):=some (0,(aN.mk (aE.mk O Y Z P_ Qa Qb) Qc Qd Qe (aW.mk j o I J R) (cG.mk Qf Qg) Qh (bJ.mk U) Qi))
def kI (I:aN) (R:aB) (o:(Int×cX)) (J:(cG×(List Qm)×Int)) (U:(List aK)) (Y:List aA) (Z:List Int) (P9:List Bool) (O:Int):Option (Int×aN):=(fC I.log R).bind λP_=>(iX (aW.mk U Y Z P9 O)).bind λQb=>(eC J.2.1 Qb).bind λQa=>if decide (0<(Qa.length:Int)) then ((nC (aN.mk o.2.n I.rules o.2.on I.held (aW.mk U Y Z P9 O) J.1 R.Time P_.2.2 []) Qa).bind λj=>ny j.watch.fV j.watch.gG j.watch.mO j.watch.over j.watch.time j.log.iH j.bY.bD j.bY.aL j.bY.aH j.bY.cR j.bY.bB j.bY.bM j.rules j.on j.held j.state.fD j.state.eO j.time j.over) else (ny U Y Z P9 O P_.2.2.iH o.2.n.bD o.2.n.aL o.2.n.aH o.2.n.cR o.2.n.bB o.2.n.bM I.rules o.2.on I.held J.1.fD J.1.eO R.Time ([]))
def gT (j:aN) (o:aB):Option (Int×aN):=(dG o).bind λU=>if !decide (U=0) then (some (U,j)) else (if decide (o.Time<j.time) then (some (12,j)) else ((kP j.log).bind λO=>if decide (200<=(O.length:Int)) then (some (9,j)) else ((kA j.bY).bind λY=>cW (j.on.length*16<=140737488355328) ((oh j (cX.mk Y j.on) o).bind λI=>if !decide (I.1=0) then (some (I.1,j)) else ((eA I.2.n I.2.on).bind λJ=>if !decide (J.2.2=0) then (some (J.2.2,j)) else (if (decide (o.Kind=(⟨#[98,97,99,107]⟩))) && (decide (0<(J.2.1.length:Int))) then (some (17,j)) else (if decide (1<=(i64.wrap (o.Time-j.time))) then ((iY j.watch j.state.eO (i64.wrap (o.Time-j.time))).bind λR=>kI j o I J R.2.2.fV R.2.2.gG R.2.2.mO R.2.2.over R.2.2.time) else (kI j o I J j.watch.fV j.watch.gG j.watch.mO j.watch.over j.watch.time))))))))
def mq (o:Qm) (j:aN):Option (Bool):=(bG j.on o).bind λI=>some (!I)
def jN (J:(List Qm)) (j:aN) (o:Nat) (I:Unit->Option (Int)):Option (Int):=idx J (o:Int) λR=>(mq R j).bind λU=>if U then (some (o:Int)) else (I ())
def fQ (o:(List Qm)) (j:aN):Option (Int):=kW (λk I n=>jN o j k n) (λ_=>some (-1)) ((o.length:Int):Int).toNat 0 ()
def d_ (I:Int) (j:(List Qm×Int×Int)->Option ((List Qm))) (o:List Qm) (J:Int):Option ((List Qm)):=j (o,J,i64.wrap (I+1))
def jG (Z:aN) (j:List Qm) (O:Int) (Y:Int) (o:(List Qm×Int×Int)->Option ((List Qm))):Option ((List Qm)):=if decide (Y<(j.length:Int)) then (idx j Y λI=>(mq I Z).bind λJ=>if !J then (idx j O λR=>d_ Y o (j.set ((O:Int).toNat) I) (i64.wrap (O+1))) else (d_ Y o j O)) else (cW (0<=O/\O<=(j.length:Int)) (cW (0<=O/\O<=((j.take (O).toNat++List.replicate (j.length-(O).toNat) ((⟨#[]⟩):Qm)).length:Int)) (some (rJ (j.take (O).toNat++List.replicate (j.length-(O).toNat) ((⟨#[]⟩):Qm)) 0 ((O:Int).toNat)))))
def eE (j:(List Qm)) (J:aN):Option ((List Qm)):=(fQ j J).bind λo=>if decide (o=(-1)) then (some j) else (iL (λI n=>jG J I.1 I.2.1 I.2.2 n) fT (j,o,i64.wrap (o+1)))
def pM (j:aN):Option ((List Qm)):=(ql j.bY).bind λo=>(eE o j).bind λI=>some I
def nb (j:aN):Option ((List aB)):=(kP j.log).bind λo=>some o
def eL:Option (Bool):=idx (((fN)).bB) 0 λI=>(lf (aX.mk (aE.mk (((fN)).bD) (((fN)).aL) (((fN)).aH) (((fN)).cR) ((((fN)).bB).set ((0:Int).toNat) (aF.mk I.Name I.Node 45)) (((fN)).bM)) [])).bind λJ=>yU J.1 (some false) (λO=>if !decide (J.2=0) then (some false) else ((gT O (aB.mk 10 (⟨#[119,97,105,116]⟩) (⟨#[88]⟩) 0)).bind λR=>(gT R.2 (aB.mk 11 (⟨#[119,97,105,116]⟩) (⟨#[88]⟩) 0)).bind λj=>if decide (R.1=0) then (if decide (j.1=0) then ((pM j.2).bind λU=>if decide ((U.length:Int)=0) then ((nb j.2).bind λY=>if decide ((Y.length:Int)=3) then ((nb j.2).bind λZ=>idx Z 2 λo=>some (decide (o.Time=11) && (decide (o.Kind=(⟨#[115,104,101,100]⟩)) && (decide (o.Name=(⟨#[68]⟩)) && (decide (o.Value=45) && true))))) else (some false)) else (some false)) else (some false)) else (some false)))
def lW (j:aN):Option (aE):=(kA j.bY).bind λo=>some o
def mV (j:aN):Option (cG):=cW (j.state.fD.length*16<=140737488355328) (cW (j.state.eO.length*16<=140737488355328) (some j.state))
def ob (j:aE) (gG:(List Qm)):Option ((List Qm)×Int):=(bV j).bind λo=>if !decide (o=0) then (some (([]:List Qm),o)) else ((pK gG).bind λI=>if !decide (I=0) then (some (([]:List Qm),I)) else (if !decide ((gG.length:Int)=(j.aH.length:Int)) then (some (([]:List Qm),3)) else ((lO j gG).bind λJ=>some (J,0))))
def pN (j:aN):Option ((List Qm)):=cW (j.over.length*16<=140737488355328) (some j.over)
def lI (I:aB) (J:(List aK)) (R:List aA) (U:List Int) (Y:List Bool) (O:Int) (Z:(cG)) (P9:((List Qm)×Int)) (P_:((List Qm))) (Qc:Nat) (j:Qm) (o:Unit->Option (Bool×Int×aW×(List Qm))):Option (Bool×Int×aW×(List Qm)):=(bG P9.1 j).bind λQa=>(bG P_ j).bind λQb=>if !decide (Qa=Qb) then (some (false,I.Time,(aW.mk J R U Y O),Z.eO)) else (o ())
def eR (j:aN) (Y:aB) (o:(List aK)) (I:List aA) (J:List Int) (R:List Bool) (O:Int):Option (Bool×Int×aW×(List Qm)):=(mV j).bind λU=>(lW j).bind λP_=>(ob P_ U.eO).bind λZ=>if !decide (Z.2=0) then (some (false,Y.Time,(aW.mk o I J R O),U.eO)) else ((pN j).bind λP9=>(iX (aW.mk o I J R O)).bind λQa=>dO (λk y Qe n=>lI Y o I J R O U Z P9 k y n) (λ_=>if decide ((P9.length:Int)=0) then (some (true,Y.Time,(aW.mk o I J R O),U.eO)) else ((lW j).bind λQb=>(pM j).bind λQc=>(gS Qb Qc).bind λQd=>some ((decide (Qd.2=8)),Y.Time,(aW.mk o I J R O),U.eO))) 0 Qa ())
def g_ (U:aN) (J:aB) (O:Int) (I:Int) (j:aW) (R:(List Qm)):Option (Bool×Int×aW×(List Qm)):=if !decide (O=0) then (some (true,I,j,R)) else (if decide (I<J.Time) then ((iY j R (i64.wrap (J.Time-I))).bind λo=>eR U J o.2.2.fV o.2.2.gG o.2.2.mO o.2.2.over o.2.2.time) else (eR U J j.fV j.gG j.mO j.over j.time))
def fE (Qa:Nat) (I:aB) (R:aN) (O:Int) (U:(List aK)) (Z:List aA) (P8:List Int) (P9:List Bool) (Y:Int) (P_:(List Qm)) (J:(aN×Int×(List aK)×List aA×List Int×List Bool×Int×(List Qm))->Option (Bool×Int×aW×(List Qm))):Option (Bool×Int×aW×(List Qm)):=(gT R I).bind λo=>(g_ o.2 I o.1 O (aW.mk U Z P8 P9 Y) P_).bind λj=>if !j.1 then (some (false,j.2.1,j.2.2.1,j.2.2.2)) else (J (o.2,j.2.1,j.2.2.1.fV,j.2.2.1.gG,j.2.2.1.mO,j.2.2.1.over,j.2.2.1.time,j.2.2.2))
def eG (Z:aX) (R:(List aB)) (I:Int) (o:aW) (J:(List Qm)):Option (Bool×Int×aW×(List Qm)):=(cK Z).bind λY=>(lf Y).bind λU=>yU U.1 (if !decide (U.2=0) then ((kE Y).bind λP9=>some ((decide (P9=U.2)),I,o,J)) else (some (false,I,o,J))) (λO=>if !decide (U.2=0) then (some (false,I,o,J)) else (cW (0<=(min (R.length:Int) 8)/\(min (R.length:Int) 8)<=(R.length:Int)) (dO (λk y j n=>fE k y j.1 j.2.1 j.2.2.1 j.2.2.2.1 j.2.2.2.2.1 j.2.2.2.2.2.1 j.2.2.2.2.2.2.1 j.2.2.2.2.2.2.2 n) (λj=>some (true,j.2.1,(aW.mk j.2.2.1 j.2.2.2.1 j.2.2.2.2.1 j.2.2.2.2.2.1 j.2.2.2.2.2.2.1),j.2.2.2.2.2.2.2)) 0 (rJ R 0 ((min (R.length:Int) 8:Int).toNat)) (O,I,o.fV,o.gG,o.mO,o.over,o.time,J))))
def gC (J:aX) (R:(List aB)):Option (Bool):=(cK J).bind λj=>(mz j.bK).bind λo=>yU o.1 ((eL).bind λU=>some U) (λO=>if !decide (o.2=0) then ((eL).bind λQa=>some false) else ((lf j).bind λI=>yU I.1 ((eL).bind λZ=>some Z) (λY=>if !decide (I.2=0) then ((eL).bind λQb=>some false) else ((mV Y).bind λP8=>(eL).bind λP9=>if P9 then ((eG j R 0 O P8.eO).bind λP_=>some P_.1) else (some false)))))
def qX (j:aB):Option (Qm):=cW (-9223372036854775808<=j.Time/\j.Time<=9223372036854775807) (cW ((mw j.Time).size+(⟨#[32]⟩:Qm).size<=maxLen) (cW (((mw j.Time)++(⟨#[32]⟩)).size+j.Kind.size<=maxLen) (cW ((((mw j.Time)++(⟨#[32]⟩))++j.Kind).size+(⟨#[32]⟩:Qm).size<=maxLen) (cW (((((mw j.Time)++(⟨#[32]⟩))++j.Kind)++(⟨#[32]⟩)).size+j.Name.size<=maxLen) (cW ((((((mw j.Time)++(⟨#[32]⟩))++j.Kind)++(⟨#[32]⟩))++j.Name).size+(⟨#[32]⟩:Qm).size<=maxLen) (cW (-9223372036854775808<=j.Value/\j.Value<=9223372036854775807) (cW (((((((mw j.Time)++(⟨#[32]⟩))++j.Kind)++(⟨#[32]⟩))++j.Name)++(⟨#[32]⟩)).size+(mw j.Value).size<=maxLen) (some (((((((mw j.Time)++(⟨#[32]⟩))++j.Kind)++(⟨#[32]⟩))++j.Name)++(⟨#[32]⟩))++(mw j.Value))))))))))
def uq (I:Nat) (o:U8) (J:Int) (j:Int->Option (Int)):Option (Int):=j (u64.wrap ((u64.wrap ((BitVec.ofInt (u64).bits J ^^^ BitVec.ofInt (u64).bits (u64.wrap (o.n))).toNat))*1099511628211))
def pH (o:Int) (I:Qm):Option (Int):=cW (I.size+(⟨#[10]⟩:Qm).size<=maxLen) (cW ((I++(⟨#[10]⟩)).size<=maxLen) (dO (λk y j n=>uq k y j n) (λj=>some j) 0 (kC (I++(⟨#[10]⟩))) o))
def nG (R:Nat) (o:aB) (O:Int) (j:Int->Option (Int)):Option (Int):=(qX o).bind λI=>(pH O I).bind λJ=>j J
def my (o:bJ):Option (Int):=dO (λk y j n=>nG k y j n) (λj=>some j) 0 o.iH 14695981039346656037
def gA (j:aN):Option (Int):=(my j.log).bind λo=>some o
def hO (j:aN) (O:aB) (Y:Int) (J:(List aB)) (R:CB):Option (Bool×(List aB)×CB):=(nb j).bind λo=>(gA j).bind λI=>some (true,o,⟨I⟩)
def fF (Y:Nat) (I:aB) (R:aN) (U:(List aB)) (O:Int) (J:(aN×(List aB)×Int)->Option (Bool×(List aB)×CB)):Option (Bool×(List aB)×CB):=(gT R I).bind λo=>(hO o.2 I o.1 U ⟨O⟩).bind λj=>if !j.1 then (some (false,j.2.1,j.2.2)) else (J (o.2,j.2.1,j.2.2.n))
def dC (Y:aX) (J:(List aB)) (j:(List aB)) (o:CB):Option (Bool×(List aB)×CB):=(cK Y).bind λU=>(lf U).bind λR=>yU R.1 (if !decide (R.2=0) then ((kE U).bind λZ=>some ((decide (Z=R.2)),j,o)) else (some (false,j,o))) (λO=>if !decide (R.2=0) then (some (false,j,o)) else (cW (0<=(min (J.length:Int) 8)/\(min (J.length:Int) 8)<=(J.length:Int)) (dO (λk y I n=>fF k y I.1 I.2.1 I.2.2 n) (λI=>some (true,I.2.1,⟨I.2.2⟩)) 0 (rJ J 0 ((min (J.length:Int) 8:Int).toNat)) (O,j,o.n))))
def eD (j:aB):Bool:=((decide (j.Kind=(⟨#[115,104,101,100]⟩))) || (decide (j.Kind=(⟨#[112,114,111,111,102]⟩))))
def eX (I:(List aB)) (j:Nat) (o:Unit->Option (Int)):Option (Int):=idx I (j:Int) λJ=>if (eD J) then (some (j:Int)) else (o ())
def dS (j:(List aB)):Option (Int):=kW (λk o n=>eX j k n) (λ_=>some (-1)) ((j.length:Int):Int).toNat 0 ()
def cJ (I:Int) (j:(List aB×Int×Int)->Option ((List aB))) (o:List aB) (J:Int):Option ((List aB)):=j (o,J,i64.wrap (I+1))
def eU (j:List aB) (O:Int) (Y:Int) (o:(List aB×Int×Int)->Option ((List aB))):Option ((List aB)):=if decide (Y<(j.length:Int)) then (idx j Y λI=>if !(eD I) then (idx j O λJ=>cJ Y o (j.set ((O:Int).toNat) I) (i64.wrap (O+1))) else (cJ Y o j O)) else (cW (0<=O/\O<=(j.length:Int)) (cW (0<=O/\O<=((j.take (O).toNat++List.replicate (j.length-(O).toNat) ((aB.mk 0 (⟨#[]⟩) (⟨#[]⟩) 0):aB)).length:Int)) (some (rJ (j.take (O).toNat++List.replicate (j.length-(O).toNat) ((aB.mk 0 (⟨#[]⟩) (⟨#[]⟩) 0):aB)) 0 ((O:Int).toNat)))))
def cL (j:(List aB)):Option ((List aB)):=(dS j).bind λo=>if decide (o=(-1)) then (some j) else (iL (λI n=>eU I.1 I.2.1 I.2.2 n) fT (j,o,i64.wrap (o+1)))
def kM (J:aN) (Y:aB) (O:Int) (j:Int) (o:(List aB)) (I:CB):Option (Bool×Int):=if decide (O=0) then (if decide ((i64.wrap (j+1))<(o.length:Int)) then (some (true,(i64.wrap (j+1)))) else ((gA J).bind λR=>some ((decide (R=I.n)),(i64.wrap (j+1))))) else (some (false,(i64.wrap (j+1))))
def fG (I:(List aB)) (J:CB) (Z:Nat) (R:aB) (Y:aN) (O:Int) (U:(aN×Int)->Option (Bool×Int)):Option (Bool×Int):=(gT Y R).bind λj=>(kM j.2 R j.1 O I J).bind λo=>if !o.1 then (some (false,o.2)) else (U (j.2,o.2))
def dD (Z:aX) (o:(List aB)) (j:Int) (R:(List aB)) (U:CB):Option (Bool×Int):=(cK Z).bind λY=>(lf Y).bind λI=>yU I.1 (if !decide (I.2=0) then ((kE Y).bind λP9=>some ((decide (P9=I.2)),j)) else (some (false,j))) (λO=>if !decide (I.2=0) then (some (false,j)) else (cW (0<=(min (o.length:Int) 8)/\(min (o.length:Int) 8)<=(o.length:Int)) (dO (λk y J n=>fG R U k y J.1 J.2 n) (λJ=>some (true,J.2)) 0 (rJ o 0 ((min (o.length:Int) 8:Int).toNat)) (O,j))))
def gE (I:aX) (J:(List aB)):Option (Bool):=(eL).bind λR=>if R then ((dC I J [] ⟨0⟩).bind λj=>if !j.1 then (some false) else (cW (j.2.1.length*48<=140737488355328) ((cL j.2.1).bind λo=>if decide ((o.length:Int)=0) then (some true) else ((dD I o 0 o j.2.2).bind λU=>some U.1)))) else (some false)
def oA (o:(List Qm)) (I:(List Qm)) (j:Nat) (J:Unit->Option (Bool)):Option (Bool):=idx o (j:Int) λR=>idx I (j:Int) λU=>if !decide (R=U) then (some false) else (J ())
def kF (j:(List Qm)) (o:(List Qm)):Option (Bool):=if !decide ((j.length:Int)=(o.length:Int)) then (some false) else (kW (λk I n=>oA j o k n) (λ_=>some true) ((j.length:Int):Int).toNat 0 ())
def wg (J:Nat) (I:(List Qm)) (o:Unit->Option (Int)):Option (Int):=(lL I).bind λj=>if !decide (j=0) then (some j) else (o ())
def tI (o:aE) (O:(List Int)) (j:cG):Option (Int):=(nH o O).bind λJ=>if !decide (J=0) then (some J) else ((uM o).bind λR=>yU R none (λY=>if decide ((j.fD.length:Int)=(eT Y)) then (if !decide ((j.eO.length:Int)=(o.aH.length:Int)) then (some 3) else (dO (λk y P8 n=>wg k y n) (λ_=>(nJ o O).bind λI=>if decide (I.2=0) then ((kF I.1.fD j.fD).bind λU=>if U then ((kF I.1.eO j.eO).bind λZ=>if !Z then (some 21) else (some 0)) else (some 21)) else (some 21)) 0 ([j.fD,j.eO]) ())) else (some 3)))
end Go.Sim
namespace Go.Sim
open Go Go.RowKit
open _root_.Go.IntKind (i64 u64 u32 u8)
def Gd {R:Type} (o:Option R) (Q:R->Prop):Prop:=∃ r,o=some r/\Q r
section
variable {R α β σ:Type}{Q Q':R->Prop}
theorem Gd.mono {o:Option R} (h:Gd o Q) (k:∀ r,Q r->Q' r):Gd o Q':=by
 obtain ⟨r,e,q⟩:=h; exact ⟨r,e,k r q⟩
theorem Gd.ret {r:R} (h:Q r):Gd (some r) Q:=⟨r,rfl,h⟩
theorem Gd.nd {p:Prop}[Decidable p] {k:Option R} (h:p) (I:Gd k Q):Gd (cW p k) Q:=by
 unfold Sim.cW; rw [Qx h]; exact I
theorem Gd.eM {o:Option α}{k:α->Option R}{P:α->Prop} (h:Gd o P) (I:∀ a,P a->Gd (k a) Q):Gd (o.bind k) Q:=by
 obtain ⟨a,rfl,q⟩:=h; exact I a q
theorem Gd.bind_eq {o:Option α}{a:α}{k:α->Option R} (h:o=some a) (I:Gd (k a) Q):Gd (o.bind k) Q:=by
 subst h; exact I
theorem Gd.ite {b:Bool}{p q:Option R} (I:b=true->Gd p Q) (J:b=false->Gd q Q):Gd (if b=true then p else q) Q:=by
 cases b
 ·simpa using J rfl
 ·simpa using I rfl
theorem Gd.ix {l:List α}{i:Int}{k:α->Option R}{y:α} (I:0<=i) (O:l[i.toNat]? = some y) (J:Gd (k y) Q):Gd (idx l i k) Q:=by
 unfold Sim.idx; rw [Qx I,O]; exact J
theorem Gd.iP {l:List α}{i:Nat}{k:α->Option R} (h:i<l.length) (I:Gd (k l[i]) Q):Gd (Sim.idx l (i:Int) k) Q:=
 Gd.ix (by omega) (Qp (by simpa using h)) I
theorem Gd.opt {o:Option α}{a:Option R}{f:α->Option R} (I:o=none->Gd a Q) (J:∀ s,o=some s->Gd (f s) Q):Gd (yU o a f) Q:=by
 cases o with
 | none=>exact I rfl
 | some s=>exact J s rfl
theorem Gd.dO {J:Nat->α->σ->(σ->Option R)->Option R}{k:σ->Option R} (I:Nat->List α->σ->Prop)
  (O:∀ i y ys s n,I i (y::ys) s->(∀ s',I (i+1) ys s'->Gd (n s') Q)->Gd (J i y s n) Q) (Y:∀ i s,I i [] s->Gd (k s) Q):
  ∀ (l:List α) (i:Nat) (s:σ),I i l s->Gd (dO J k i l s) Q
 | [],i,s,h=>Y i s h
 | y::ys,i,s,h=>O i y ys s _ h (λs' Z=>Gd.dO I O Y ys (i+1) s' Z)
theorem Gd.kW {J:Nat->σ->(σ->Option R)->Option R}{k:σ->Option R} (I:Nat->Nat->σ->Prop)
  (O:∀ m i s n,I (m+1) i s->(∀ s',I m (i+1) s'->Gd (n s') Q)->Gd (J i s n) Q) (Y:∀ i s,I 0 i s->Gd (k s) Q):
  ∀ (m i:Nat) (s:σ),I m i s->Gd (kW J k m i s) Q
 | 0,i,s,h=>Y i s h
 | m+1,i,s,h=>O m i s _ h (λs' Z=>Gd.kW I O Y m (i+1) s' Z)
theorem Gd.iL {J:σ->(σ->Option R)->Option R} (I:σ->Prop) (O:σ->Nat)
  (Y:∀ s n,I s->(∀ s',I s'->O s'<O s->Gd (n s') Q)->Gd (J s n) Q):
  ∀ (m:Nat) (s:σ),I s->O s<m->Gd (iL J m s) Q
 | 0,s,_,h=>by omega
 | m+1,s,hI,h=>Y s _ hI (λs' Z hlt=>Gd.iL I O Y m s' Z (by omega))
theorem Gd.eq {o:Option R}{r:R}:Gd o (λx=>x=r)↔o=Option.some r:=by
 constructor
 ·rintro ⟨x,h,rfl⟩; exact h
 ·intro h; exact ⟨r,h,rfl⟩
end
theorem bT {n:Int} (h:-9223372036854775808<=n/\n<=9223372036854775807):i64.wrap n=n:=xD h.1 h.2
theorem Gd.seen {R α σ:Type}{Q:R->Prop}{J:Nat->α->σ->(σ->Option R)->Option R}{k:σ->Option R}{l:List α} (I:List α->σ->Prop)
  (Z:∀ i y s n pre,(∃ O,l=pre++y::O)->I pre s->(∀ s',I (pre++[y]) s'->Gd (n s') Q)->Gd (J i y s n) Q) (hk:∀ s,I l s->Gd (k s) Q) (s:σ) (hs:I [] s):Gd (Sim.dO J k 0 l s) Q:=by
 have key:∀ (ys pre:List α) (i:Nat) (s:σ),l=pre++ys->I pre s->Gd (Sim.dO J k i ys s) Q:=by
  intro ys
  induction ys with
  | nil=>intro pre i s hl hs; rw [Q8] at hl; subst hl; exact hk s hs
  | cons y ys ih=>
   intro pre i s hl hs;exact Z i y s _ pre ⟨ys,hl⟩ hs (λs' Y=>ih (pre++[y]) (i+1) s' (by rw [hl]; simp) Y)
 exact key l [] 0 s rfl hs
theorem vU {α:Type}{l pre:List α}{y:α} (h:∃ I,l=pre++y::I):pre.length<l.length/\y ∈ l/\∀ x ∈ pre,x ∈ l:=by
 obtain ⟨I,rfl⟩:=h;exact ⟨by simp,by simp,λx J=>Qq _ J⟩
theorem Fa {α:Type}[DecidableEq α]:∀ (a b:List α),a.Nodup->(∀ x ∈ a,x ∈ b)->a.length<=b.length
 | [],_,_,_=>Nat.zero_le _
 | x::xs,b,hn,h=>by
  rw [TU] at hn;have I:=h x (Qu ..);have O:=Fa xs (b.erase x) hn.2 (λy J=>(List.mem_erase_of_ne (λe:y=x=>hn.1 (by rw [<- e]; exact J))).2 (h y (Qy _ J)))
  rw [List.length_erase_of_mem I] at O;have:0<b.length:=List.length_pos_of_mem I;simp only [QA]; omega
end Go.Sim
