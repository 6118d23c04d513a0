/-
  The proof, part A2.
-/
import Derived.Lib.Bytealg
import Derived.Laws.Externs
import Derived.Lib.LaidTab
import Derived.Lib.AppendIntMem
import Derived.Lib.ItoaNum
import Derived.Lib.AtoiAll
import Derived.Lib.SmallJoins
import Derived.Laws.BytesString
import Derived.Laws.IdiomStrings
import Derived.Lib.ParseIntBMem
import Derived.Laws.IdiomRangeMap
import Derived.Lib.UnsafeStr
import Derived.Lib.Builder
import Derived.Lib.AppendStr
import Derived.Laws.Bits64b
import Derived.Test.YtmdikieloiajeaaGreatDoorSqA1
set_option linter.unusedVariables false
set_option linter.unusedSimpArgs false
set_option linter.unusedSectionVars false
set_option linter.unnecessarySimpa false
namespace Go.Sim
abbrev T0 := @Int.fdiv_eq_ediv_of_nonneg
abbrev Ub := @Int.le_refl
abbrev UZ := @Int.toNat_of_nonneg
abbrev U1 := @Go.Lib.strCells_length
abbrev Wq := @List.drop_succ_cons
abbrev Uk := @List.getElem?_replicate
abbrev Sh := @List.getElem?_set_ne
abbrev Sp := @List.getElem?_set_self
abbrev TZ := @List.getElem_map
abbrev Tg := @List.length_drop
abbrev SO := @List.length_set
abbrev Uv := @List.mem_of_mem_take
abbrev Tv := @List.replicate_succ
abbrev V_ := @List.set_getElem_self
abbrev Te := @List.take_append_drop
abbrev R3 := @List.take_of_length_le
abbrev VU := @List.take_zero
abbrev U4 := @List.zipWith_append
abbrev Uo := @Nat.add_comm
abbrev TF := @Nat.lt_or_ge
abbrev UF := @Nat.mod_lt
abbrev Wt := @Go.run_callFunc_extern
end Go.Sim
namespace Go.Sim
open Go Go.RowKit
open _root_.Go.IntKind (i64 u64 u32 u8)
def Qc (H:Hp) (v:RJ) (n sz:Nat) (xs:List RJ):Prop:=
 xs.length=n*sz/\(∀ u ∈ xs,u.oneCell'=true) /\
 (((∃ a,v=.slice a 0 0)/\n=0)\/∃ b off cap arr T fz,v=.slice (some ⟨b,off,none⟩) n cap/\H b=some (.cells arr T fz)/\∀ j u,xs[j]? = some u->arr[off+j]? = some u)
theorem Qc.shape {H:Hp}{v:RJ}{n sz:Nat}{xs:List RJ} (h:Qc H v n sz xs):∃ o c,v=.slice o n c:=by
 rcases h.2.2 with ⟨⟨a,rfl⟩,rfl⟩ | ⟨b,off,cap,arr,T,fz,rfl,_⟩ <;> exact ⟨_,_,rfl⟩
theorem Qc.isNil {H:Hp}{n m c sz:Nat}{xs:List RJ} (h:Qc H (.slice none m c) n sz xs):n=0/\xs=[]:=by
 rcases h.2.2 with ⟨_,I⟩ | ⟨b,off,cap,arr,T,fz,I,_⟩
 ·subst I; exact ⟨rfl,Sg (by rw [h.1,Tm])⟩
 ·cases I
section
variable {B:Nat}{w0 w:World}{H:Hp}{M:List bN}
end
section
variable {x:Cx}{ops:Array Oper}{Q:lU}{rest:List Oper}{H:Hp}{M M':List bN}{L L':Env}
variable {d:Nat}{ty:TypeId}{pos:String}{aft:Array Edge}{g:Option (Nat×Bool)}
theorem HC {o:Oper} (hd:o.dst=none) (hg:gd ops L o=some true)
  (I:∀ a w,Sl x.N L a->St x.B x.w0 H M w->∃ v Y,(execOp a.eval o).run x.P w=.ok (.value v) Y/\∃ H' M',St x.B x.w0 H' M' Y/\W x ops Q rest H' M' L):
  W x ops Q (o::rest) H M L:=by
 intro a w hs ht;obtain ⟨v,Y,hr,H',M',J,k⟩:=I a w hs ht;refine VB λK Z=>?_;rw [RU (hs.gd hg)];unfold Oper.wp;rw [hr];simp only [Oper.upon,hd];exact Z _ _ (k _ _ hs J)
theorem ux {t e:TypeId}{sz len cap l h m:Nat}{y:Operand}{lo hi mx:Option Operand}{ad:Option Addr}
  (Z:gd ops L ⟨some d,.slice t y lo hi mx,ty,pos,aft,g⟩=some true) (hN:Nat.blt d x.N=true)
  (Y:∀ w,(underlying t).run x.P w=.ok (.slice e) w) (hs:∀ w,(sizeOf e).run x.P w=.ok sz w) (hy:ev L y=some (.slice ad len cap)) (J:mx=none\/∃ o,hi=some o)
  (O:Hv L mx cap cap m) (hh:Hv L hi len m h) (hl:Hv L lo 0 h l)
  {v':RJ} (hv:Value.slice (if m=l then ad else ad.map (·.add (l*sz))) (h-l) (m-l)=v')
  (k:W x ops Q rest H M ((d,v')::L)):
  W x ops Q (⟨some d,.slice t y lo hi mx,ty,pos,aft,g⟩::rest) H M L:=
 eQ rfl Z hN (λc w I ht=>by
  rw [<- hv];simp only [execOp,I.ev hy,R4,uE Y hs (K9 J) (O.bd I) (hh.bd I) (hl.bd I),RX,Sb]) k
theorem Dg {zs:List RJ} (h:∀ u ∈ zs,u.oneCell'=true) (Y:0<zs.length) (n:Nat):∀ u ∈ (Builtin.zeroCells zs.toArray n).toList,u.oneCell'=true:=by
 intro u J;unfold Builtin.zeroCells at J;simp only [Array.toList_map,Ux,Array.toList_range,SC] at J;obtain ⟨q,_,rfl⟩:=J;have I:q%zs.length<zs.length:=UF _ Y;have:zs.toArray[q%zs.length]! = zs[q%zs.length]:=by simp [I]
 rw [this];exact h _ (Sk _)
end
theorem F4 {P:Program}{w:World}{t tu ty e:TypeId}{sz n gb off cap a dl dc sl sc:Nat}{b:Addr}{xs news:List RJ} (hT:P.underlying t=some (.slice e)) (hs:∀ w,(sizeOf e).run P w=.ok sz w)
  (Y:iW w e sz (.slice (some ⟨gb,off,none⟩) n cap) n xs) (ha:a+dl<=n)
  (hl:news.length=min sl dl*sz) (Z:∀ j u,news[j]? = some u->w.cell? (b.add j)=some u) (h1:∀ u ∈ news,u.oneCell'=true):
  ∃ w',(Builtin.copy_ #[t,tu] ty #[.slice (some ⟨gb,off+a*sz,none⟩) dl dc,.slice (some b) sl sc]).run P w=.ok (.int .i64 (min sl dl:Nat)) w' /\
   iW w' e sz (.slice (some ⟨gb,off,none⟩) n cap) n (xs.take (a*sz)++news++xs.drop ((a+min sl dl)*sz))/\w.grownBy w' (some gb):=by
 rcases Y.2 with ⟨h0,_⟩ | ⟨gb2,off2,cap2,I,he,hgb,hnc,hcm,hcs,J⟩
 ·cases h0
 cases he;have hxl:xs.length=n*sz:=Y.1;have O:(a+min sl dl)*sz<=n*sz:=R8 _ (by omega)
 have hmc:n*sz<=cap*sz:=R8 _ hnc;have hadd:(a+min sl dl)*sz=a*sz+min sl dl*sz:=Sd ..;have hf:=Wv (P:=P) w sz (min sl dl) b sl sc news hl Z;obtain ⟨w',hst,hh,hgr⟩:=kO (P:=P) gb (off+a*sz) e news 0 I.toList w (by simpa using hgb) (by simp; omega) h1
 refine ⟨w',?_,⟨?_,.inr ⟨gb,off,cap,_,rfl,hh,hnc,hcm,?_,?_⟩⟩,hgr⟩
 ·simp [Builtin.copy_,Tj hT,hs,Builtin.lenOf,hf,hst,goInt]
 ·simp only [R5,Sm,Tg,hl,hxl]; omega
 ·simpa [qd] using hcs
 ·rw [Um,Tl,xH _ _ _ (by simp; omega)]
  have hx1:xs.take (a*sz)=(I.toList.take (off+a*sz)).drop off:=by
   rw [<- J,VT,SW (by omega),Ug,TX]
  have hx2:xs.drop ((a+min sl dl)*sz)=(I.toList.drop (off+a*sz+news.length)).take (n*sz-(a+min sl dl)*sz):=by
   rw [<- J,Ug,TA]; congr 2; omega
  rw [hx1,hx2,Sc,T8 (by simp; omega),<- Sc]
  have hlen:((I.toList.take (off+a*sz)).drop off++news).length=a*sz+min sl dl*sz:=by
   rw [R5,Tg,Sm,hl]; simp; omega
  have e:n*sz=((I.toList.take (off+a*sz)).drop off++news).length+(n*sz-(a+min sl dl)*sz):=by rw [hlen]; omega
  conv=>lhs; rw [e]
  rw [List.take_length_add_append]
section
variable {x:Cx}{ops:Array Oper}{Q:lU}{rest:List Oper}{H:Hp}{M M':List bN}{L L':Env}
variable {d:Nat}{ty:TypeId}{pos:String}{aft:Array Edge}{g:Option (Nat×Bool)}
theorem Aw {c:Code}{v:RJ}{e:TypeId}{sz n:Nat}{xs:List RJ} (h0:0<n)
  (k:∀ I off cap,v=.slice (some ⟨I,off,none⟩) n cap->n<=cap->Go.Sim.C x c Q H (.row v e sz n xs::M) L):Go.Sim.C x c Q H (.row v e sz n xs::M) L:=by
 intro a w hs ht;have Y:iW w e sz v n xs:=ht.ok _ (RR ..);rcases Y.2 with ⟨_,h⟩ | ⟨I,off,cap,Z,he,_,J,_⟩
 ·omega
 ·exact k I off cap he J a w hs ht
theorem HA {α:Type}[aF α] {t tu e:TypeId}{y u:Operand}{v vu:RJ}{xs:List RJ}{l ys:List α}
  (hg:gd ops L ⟨some d,.call ⟨.builtin .copy,#[y,u],#[t,tu]⟩,ty,pos,aft,g⟩=some true) (hN:Nat.blt d x.N=true)
  (hT:x.P.underlying t=some (.slice e)) (hsz:∀ w,(sizeOf e).run x.P w=.ok (aF.sz α) w) (hs:Nat.blt 0 (aF.sz α)=true)
  (hy:ev L y=some v) (Z:ev L u=some vu) (hx:Rw H v xs l) (hR:aP H vu ys) (h0:0<ys.length)
  (k:∀ xs',Rw H v xs' (ys.take (min ys.length l.length)++l.drop (min ys.length l.length))->W x ops Q rest H (.row v e (aF.sz α) l.length xs'::M) ((d,.int .i64 (min ys.length l.length:Nat))::L)):
  W x ops Q (⟨some d,.call ⟨.builtin .copy,#[y,u],#[t,tu]⟩,ty,pos,aft,g⟩::rest) H (.row v e (aF.sz α) l.length xs::M) L:=by
 refine s8 rfl hg hN λa w I ht=>?_;have J:iW w e (aF.sz α) v l.length xs:=ht.ok _ (RR ..);obtain ⟨cs,hcs,hcase⟩:=hR.flat;rcases hcase with ⟨_,rfl⟩ | ⟨hc,b,Y,c,rfl⟩
 ·simp at h0
 by_cases hl0:l.length=0
 ·have hm0:min ys.length l.length=0:=by omega
  refine ⟨.int .i64 (min ys.length l.length:Nat),w,?_,H,_,ht,k xs (by rw [hm0]; simpa using hx)⟩
  have hf:(Builtin.firstCells (aF.sz α) 0 (.slice (some ⟨b,Y,none⟩) ys.length c)).run x.P w=.ok #[] w:=
   Wv (P:=x.P) w (aF.sz α) 0 ⟨b,Y,none⟩ ys.length c [] (by simp) (by simp)
  rw [hm0];rcases J.2 with ⟨rfl,_⟩ | ⟨gb,off,cap,cur,rfl,_⟩
  ·simp [execOp,resolve,invoke,builtin,I.ev hy,I.ev Z,Builtin.copy_,Tj hT,hsz,Builtin.lenOf,hf,goInt]
  ·simp [execOp,resolve,invoke,builtin,I.ev hy,I.ev Z,Builtin.copy_,Tj hT,hsz,Builtin.lenOf,hf,goInt,hl0,storeCells]
 rcases J.2 with ⟨_,h⟩ | ⟨gb,off,cap,cur,rfl,_⟩
 ·exact absurd h hl0
 obtain ⟨w',hr,ho,hgr⟩:=F4 (P:=x.P) (tu:=tu) (ty:=ty) (a:=0) (dl:=l.length) (dc:=cap) (b:=⟨b,Y,none⟩) (sl:=ys.length) (sc:=c) (news:=cs.take (min ys.length l.length*aF.sz α)) hT hsz J (by omega)
  (by rw [Sm,hcs.len]; exact SW (R8 _ (by omega)))
  (λj u Z=>by
   rw [SG] at Z
   split at Z
   ·exact ((hc j u Z).at (x:=x) (M:=.row (.slice (some ⟨gb,off,none⟩) l.length cap) e (aF.sz α) l.length xs::M)) w ht
   ·cases Z) (λu Z=>hcs.one u (Uv Z))
 rw [Tm,VU,Tn,Se] at ho;rw [Tm,Tl] at hr;refine ⟨.int .i64 (min ys.length l.length:Nat),w',?_,H,_,ht.E1 (r':=.row (.slice (some ⟨gb,off,none⟩) l.length cap) e (aF.sz α) l.length _) hgr ho (λb hb=>.inl hb),k _ ⟨(hcs.split _).1.app (hx.rd.split _).2,_,_,_,rfl⟩⟩;simp [execOp,resolve,invoke,builtin,I.ev hy,I.ev Z,hr]
theorem BM {α:Type}[aF α] {t tu e:TypeId}{I off cap q dc sc:Nat}{y u:Operand}{xs:List RJ}{l:List α}
  (hg:gd ops L ⟨some d,.call ⟨.builtin .copy,#[y,u],#[t,tu]⟩,ty,pos,aft,g⟩=some true) (hN:Nat.blt d x.N=true)
  (hT:x.P.underlying t=some (.slice e)) (hsz:∀ w,(sizeOf e).run x.P w=.ok (aF.sz α) w) (hs:Nat.blt 0 (aF.sz α)=true)
  (hx:Rw H (.slice (some ⟨I,off,none⟩) l.length cap) xs l) (hq:q<=l.length)
  (hy:ev L y=some (.slice (some ⟨I,off+q*aF.sz α,none⟩) (l.length-q) dc)) (hu:ev L u=some (.slice (some ⟨I,off,none⟩) q sc))
  (k:∀ xs',Rw H (.slice (some ⟨I,off,none⟩) l.length cap) xs' (l.take q++l.take (min q (l.length-q))++l.drop (q+min q (l.length-q))) ->
   W x ops Q rest H (.row (.slice (some ⟨I,off,none⟩) l.length cap) e (aF.sz α) l.length xs'::M) ((d,.int .i64 (min q (l.length-q):Nat))::L)):
  W x ops Q (⟨some d,.call ⟨.builtin .copy,#[y,u],#[t,tu]⟩,ty,pos,aft,g⟩::rest) H (.row (.slice (some ⟨I,off,none⟩) l.length cap) e (aF.sz α) l.length xs::M) L:=by
 refine s8 rfl hg hN λa w hsl ht=>?_;have Y:iW w e (aF.sz α) (.slice (some ⟨I,off,none⟩) l.length cap) l.length xs:=ht.ok _ (RR ..);have hlen:=hx.rd.len;have hone:=hx.rd.one;have hmm:min q (l.length-q)*aF.sz α<=l.length*aF.sz α:=R8 _ (by omega)
 have Z:∀ j u,(xs.take (min q (l.length-q)*aF.sz α))[j]? = some u->w.cell? ((⟨I,off,none⟩:Addr).add j)=some u:=by
  intro j u J;rcases Y.2 with ⟨h0,_⟩ | ⟨gb2,off2,cap2,cur,he,hgb,hnc,hcm,hcs,htake⟩
  ·cases h0
  cases he;rw [SU];refine Wc hgb rfl ?_;rw [SG] at J
  split at J
  ·rw [<- htake,SG] at J
   split at J
   ·rw [SB] at J; simpa using J
   ·cases J
  ·cases J
 obtain ⟨w',hr,ho,hgr⟩:=F4 (P:=x.P) (tu:=tu) (ty:=ty) (a:=q) (dl:=l.length-q) (dc:=dc) (b:=⟨I,off,none⟩) (sl:=q) (sc:=sc) (news:=xs.take (min q (l.length-q)*aF.sz α)) hT hsz Y (by omega)
  (by rw [Sm,hlen]; omega) Z (λu hu=>hone u (Uv hu))
 refine ⟨.int .i64 (min q (l.length-q):Nat),w',?_,H,_,ht.E1 (r':=.row (.slice (some ⟨I,off,none⟩) l.length cap) e (aF.sz α) l.length _) hgr ho (λb hb=>.inl hb),k _ ⟨?_,_,_,_,rfl⟩⟩
 ·simp [execOp,resolve,invoke,builtin,hsl.ev hy,hsl.ev hu,hr]
 ·exact ((hx.rd.split q).1.app (hx.rd.split (min q (l.length-q))).1).app (hx.rd.split (q+min q (l.length-q))).2
end
theorem BO {x:Cx}{ops:Array Oper}{Q:lU}{rest:List Oper}{H:Hp}{M:List bN}{L:Env}{d:Nat}{f:FuncId}{args:List Operand}{J:Array TypeId}{ty:TypeId}{pos:String}{aft:Array Edge}{g:Option (Nat×Bool)}{vs:List RJ}{v:RJ}
  (hx:∀ w,(callFunc f vs.toArray).run x.P w=.ok (.value v) w)
  (Y:gd ops L ⟨some d,.call ⟨.value (.func f),args.toArray,J⟩,ty,pos,aft,g⟩=some true) (hN:Nat.blt d x.N=true)
  (Z:zw L args=some vs) (k:W x ops Q rest H M ((d,v)::L)):
  W x ops Q (⟨some d,.call ⟨.value (.func f),args.toArray,J⟩,ty,pos,aft,g⟩::rest) H M L:=
 eQ rfl Y hN (λa w hs ht=>by
  have I:args.toArray.map a.eval=vs.toArray:=by simp [hs.zw Z]
  simp only [execOp,resolve,I,Act.eval,Deferred.ofValue,R4,Sb,RX,invoke];simp [hx]) k
def Mu (s:RI) (c:Int):Int:=Go.Lib.indexByte s.data.toList c.toNat.toUInt8
def Ou (s:RI) (c:Int):Int:=(Go.Lib.countByte s.data.toList c.toNat.toUInt8:Nat)
theorem FD {P:Program}{f:FuncId}{I:Func} (hf:P.funcs[f]? = some I) (J:(I.name == "runtime.NumGoroutine")=false) (Y:I.body.isNone=true) (Z:Extern.findNext I=none) (h4:Extern.find I=some Extern.BytealgIndexByte.indexByte) (s:RI) (c:Int):
  ∀ w,(callFunc f [.string s,.int .u8 c].toArray).run P w=.ok (.value (.int .i64 (Mu s c))) w:=λw=>by
 rw [Wt hf J Y Z h4,show [Value.string s,.int .u8 c].toArray=#[.string s,.int .u8 c] from rfl,Go.Lib.run_indexByteString]
 rfl
theorem Fp {P:Program}{f:FuncId}{I:Func} (hf:P.funcs[f]? = some I) (J:(I.name == "runtime.NumGoroutine")=false) (Y:I.body.isNone=true) (Z:Extern.findNext I=none) (h4:Extern.find I=some Extern.BytealgCount.count) (s:RI) (c:Int):
  ∀ w,(callFunc f [.string s,.int .u8 c].toArray).run P w=.ok (.value (.int .i64 (Ou s c))) w:=λw=>by
 rw [Wt hf J Y Z h4,show [Value.string s,.int .u8 c].toArray=#[.string s,.int .u8 c] from rfl,Go.Lib.run_countString]
 rfl
section
variable {x:Cx}{ops:Array Oper}{Q:lU}{rest:List Oper}{H:Hp}{M M':List bN}{L L':Env}
variable {d:Nat}{ty:TypeId}{pos:String}{aft:Array Edge}{g:Option (Nat×Bool)}
theorem JZ {t e:TypeId}{y:Operand}{ad:Option Addr}{J:Nat}
  (Z:gd ops L ⟨none,.call ⟨.builtin .clear,#[y],#[t]⟩,ty,pos,aft,g⟩=some true)
  (Y:x.P.underlying t=some (.slice e)) (hy:ev L y=some (.slice ad 0 J)) (k:W x ops Q rest H M L):
  W x ops Q (⟨none,.call ⟨.builtin .clear,#[y],#[t]⟩,ty,pos,aft,g⟩::rest) H M L:=
 HC rfl Z λa w I ht=>⟨.tuple #[],w,by
  cases ad <;> simp [execOp,resolve,invoke,builtin,I.ev hy,Builtin.clear_,Tj Y],H,M,ht,k⟩
theorem E8 {t e:TypeId}{sz m n Z off cap i c2:Nat}{y:Operand}{z:RJ}{zs xs:List RJ}
  (hg:gd ops L ⟨none,.call ⟨.builtin .clear,#[y],#[t]⟩,ty,pos,aft,g⟩=some true)
  (hT:x.P.underlying t=some (.slice e)) (hz:∀ w,(zeroValue e).run x.P w=.ok z w) (hzs:z.cells=zs.toArray) (hzl:zs.length=sz) (h1:zs.all Value.oneCell'=true) (hs:Nat.blt 0 sz=true)
  (hi:i<m) (hy:ev L y=some (.slice (some ⟨Z,off+i*sz,none⟩) (m-i) c2))
  (k:W x ops Q rest H (.row (.slice (some ⟨Z,off,none⟩) m cap) e sz m (xs.take (i*sz)++(Builtin.zeroCells z.cells (m-i)).toList)::M) L):
  W x ops Q (⟨none,.call ⟨.builtin .clear,#[y],#[t]⟩,ty,pos,aft,g⟩::rest) H (.row (.slice (some ⟨Z,off,none⟩) m cap) e sz n xs::M) L:=by
 have hs':0<sz:=by simpa [SY] using hs
 refine HC rfl hg λa w hsl ht=>?_;have J:iW w e sz (.slice (some ⟨Z,off,none⟩) m cap) n xs:=ht.ok _ (RR ..);rcases J.2 with ⟨h0,_⟩ | ⟨gb2,off2,cap2,Y,he,hgb,hnc,hcm,hcs,htake⟩
 ·cases h0
 cases he;obtain ⟨q,hq⟩:∃ q,m-i=q+1:=⟨m-i-1,by omega⟩
 have I:(Builtin.zeroCells z.cells (m-i)).toList.length=(m-i)*sz:=by
  unfold Builtin.zeroCells; rw [hzs]; simp [hzl]
 have hmul:m*sz<=cap*sz:=R8 _ hnc;have hsplit:i*sz+(m-i)*sz=m*sz:=by rw [<- Sd]; congr 1; omega
 have hone:∀ u ∈ (Builtin.zeroCells z.cells (m-i)).toList,u.oneCell'=true:=by
  rw [hzs]; exact Dg (λu hu=>S2.1 h1 u hu) (by omega) _
 obtain ⟨w',hst,hh,hgr⟩:=kO (P:=x.P) Z (off+i*sz) e (Builtin.zeroCells z.cells (m-i)).toList 0 Y.toList w (by simpa using hgb) (by rw [I]; simp; omega) hone
 refine ⟨.tuple #[],w',?_,H,_,ht.E1 (r':=.row (.slice (some ⟨Z,off,none⟩) m cap) e sz m (xs.take (i*sz)++(Builtin.zeroCells z.cells (m-i)).toList)) hgr ⟨?_,.inr ⟨Z,off,cap,_,rfl,hh,hnc,hcm,?_,?_⟩⟩ (λb hb=>.inl hb),k⟩
 ·rw [hq] at hst hy
  simp [execOp,resolve,invoke,builtin,hsl.ev hy,Builtin.clear_,Tj hT,hz,hst]
 ·rw [R5,Sm,I,J.1]
  omega
 ·simpa [qd] using hcs
 ·rw [Um,Tl,xH _ _ _ (by rw [I]; simp; omega)]
  have hd:(Y.toList.take (off+i*sz)).drop off=xs.take (i*sz):=by
   rw [Ug,TX,<- htake,VT,SW (by omega)]
  have hlen2:((Y.toList.take (off+i*sz)).drop off++(Builtin.zeroCells z.cells (m-i)).toList).length=m*sz:=by
   rw [R5,hd,Sm,I,J.1]; omega
  rw [Sc,T8 (by simp; omega),<- Sc,<- hlen2]
  rw [UT,hd]
theorem uv {α:Type}[aF α] {t e:TypeId}{n:Nat}{y lo:Operand}{v:RJ}{z:RJ}{zs xs:List RJ}{l:List α}{ze:α}{kk:IntKind}{i:Int}{ty2:TypeId}{Z:String}{J:Array Edge}{g2:Option (Nat×Bool)}
  (hg:gd ops L ⟨some d,.slice t y (some lo) none none,ty,pos,aft,g⟩=some true) (hN:Nat.blt d x.N=true)
  (hg2:∀ u,gd ops ((d,u)::L) ⟨none,.call ⟨.builtin .clear,#[.tmp d],#[t]⟩,ty2,Z,J,g2⟩=some true)
  (hT:x.P.underlying t=some (.slice e)) (hT2:∀ w,(underlying t).run x.P w=.ok (.slice e) w) (hsz:∀ w,(sizeOf e).run x.P w=.ok (aF.sz α) w)
  (hz:∀ w,(zeroValue e).run x.P w=.ok z w) (hzs:z.cells=zs.toArray) (h1:zs.all Value.oneCell'=true) (hs:Nat.blt 0 (aF.sz α)=true) (hE:aF.E H zs ze)
  (hy:ev L y=some v) (hlo:ev L lo=some (.int kk i)) (hx:Rw H v xs l) (hb:0<=i/\i<=(l.length:Int))
  (k:∀ u I,Rw H v I (l.take i.toNat++List.replicate (l.length-i.toNat) ze)->W x ops Q rest H (.row v e (aF.sz α) (l.take i.toNat++List.replicate (l.length-i.toNat) ze).length I::M) ((d,u)::L)):
  W x ops Q (⟨some d,.slice t y (some lo) none none,ty,pos,aft,g⟩::⟨none,.call ⟨.builtin .clear,#[.tmp d],#[t]⟩,ty2,Z,J,g2⟩::rest) H (.row v e (aF.sz α) n xs::M) L:=by
 obtain ⟨hb0,hb1⟩:=hb;obtain ⟨q,rfl⟩:∃ q:Nat,i=q:=⟨i.toNat,by omega⟩
 have hql:q<=l.length:=by omega
 rw [RN] at k;have hs':0<aF.sz α:=by simpa [SY] using hs
 have hlen:(l.take q++List.replicate (l.length-q) ze).length=l.length:=by simp; omega
 have hlk:∀ u,ev ((d,u)::L) (.tmp d)=some u:=λu=>by simp [ev,uj]
 have hn:∀ {a:Act}{w:World},St x.B x.w0 H (.row v e (aF.sz α) n xs::M) w->n=l.length:=λ{a w} ht=>by
  have hok:iW w e (aF.sz α) v n xs:=ht.ok _ (RR ..);have h1:=hx.rd.len;rw [hok.1] at h1;exact Ty hs' h1
 have same:l.length=q->∀ {L2:Env},(∀ I,Rw H v I (l.take q++List.replicate (l.length-q) ze)->W x ops Q rest H (.row v e (aF.sz α) (l.take q++List.replicate (l.length-q) ze).length I::M) L2)->W x ops Q rest H (.row v e (aF.sz α) n xs::M) L2:=by
  intro hq L2 kk a w Y ht;have hnn:=hn (a:=a) ht;subst hnn;have e:l.take q++List.replicate (l.length-q) ze=l:=by rw [hq,S7,<- hq,TE]; simp
  have:=kk xs (by rw [e]; exact hx)
  rw [e] at this;exact this a w Y ht
 intro a w Y ht;have hnn:=hn (a:=a) ht;subst hnn;have hok:iW w e (aF.sz α) v l.length xs:=ht.ok _ (RR ..)
 revert a w
 suffices hh:∀ (oo:Option Addr) (cap:Nat),v=.slice oo l.length cap->l.length<=cap->(q<l.length->∃ gb off,oo=some ⟨gb,off,none⟩) ->
   W x ops Q (⟨some d,.slice t y (some lo) none none,ty,pos,aft,g⟩::⟨none,.call ⟨.builtin .clear,#[.tmp d],#[t]⟩,ty2,Z,J,g2⟩::rest) H (.row v e (aF.sz α) l.length xs::M) L by
  intro a w Y ht hok;rcases hok.2 with ⟨e0,h0⟩ | ⟨gb,off,cap,cur,e0,_,hnc,_⟩
  ·exact hh none 0 (by rw [h0]; exact e0) (by omega) (λh=>by omega) a w Y ht
  ·exact hh (some ⟨gb,off,none⟩) cap e0 hnc (λ_=>⟨gb,off,rfl⟩) a w Y ht
 intro oo cap hv hnc hsome;subst hv
 by_cases hq:l.length=q
 ·refine ux (m:=cap) (h:=l.length) (l:=q) hg hN hT2 hsz hy (.inl rfl) (.inl ⟨rfl,rfl⟩) (.inl ⟨rfl,rfl⟩) (.inr ⟨_,_,_,rfl,hlo,by omega,by omega,by omega⟩) (v':=.slice (if cap=q then oo else oo.map (·.add (q*aF.sz α))) 0 (cap-q)) (by rw [hq,S7]) ?_
  exact JZ (hg2 _) hT (hlk _) (same hq (λI hx'=>k _ I hx'))
 ·obtain ⟨gb,off,rfl⟩:=hsome (by omega)
  refine ux (m:=cap) (h:=l.length) (l:=q) hg hN hT2 hsz hy (.inl rfl) (.inl ⟨rfl,rfl⟩) (.inl ⟨rfl,rfl⟩) (.inr ⟨_,_,_,rfl,hlo,by omega,by omega,by omega⟩) (v':=.slice (some ⟨gb,off+q*aF.sz α,none⟩) (l.length-q) (cap-q)) (by rw [RS (by omega),Td,SU]) ?_
  have hzl:zs.length=aF.sz α:=aF.len hE;refine E8 (i:=q) (sz:=aF.sz α) (hg2 _) hT hz hzs hzl h1 hs (by omega) (hlk _) ?_
  have hcells:(Builtin.zeroCells z.cells (l.length-q)).toList=(List.range ((l.length-q)*aF.sz α)).map (zs.toArray[·%zs.length]!):=by
   unfold Builtin.zeroCells;rw [hzs];simp [hzl]
  have hrw:Rw H (.slice (some ⟨gb,off,none⟩) l.length cap) (xs.take (q*aF.sz α)++(Builtin.zeroCells z.cells (l.length-q)).toList) (l.take q++List.replicate (l.length-q) ze):=
   ⟨(hx.rd.split q).1.app (by rw [hcells]; exact NU hE hzl _),_,_,_,rfl⟩
  have:=k (.slice (some ⟨gb,off+q*aF.sz α,none⟩) (l.length-q) (cap-q)) _ hrw;rw [hlen] at this;exact this
end
theorem Ho (k:Nat):mG .u64 (k:Int) 32=((k / 4294967296:Nat):Int):=by
 unfold mG;rw [show (2:Int) ^ (min (32:Int).toNat u64.bits)=4294967296 from rfl];rw [T0 _ (by decide)]
 omega
def Hi {α:Type} (s:List α) (n:Int):List α:=(List.replicate n.toNat s).flatten
theorem yE {α:Type} (a:α) (m:Nat):Hi [a] (m:Int)=List.replicate m a:=by
 unfold Hi;rw [RN]
 induction m with
 | zero=>rfl
 | succ m ih=>rw [Tv,Tv,List.flatten_cons,ih]; rfl
theorem F2 {α:Type}{a:α}{l:List α}{q:Nat} (h:l.take q=List.replicate q a) (J:q<=l.length):
  (l.take q++l.take (min q (l.length-q))++l.drop (q+min q (l.length-q))).take (q+min q (l.length-q))=List.replicate (q+min q (l.length-q)) a:=by
 have I:l.take (min q (l.length-q))=List.replicate (min q (l.length-q)) a:=by
  have:=R7 (List.take (min q (l.length-q))) h
  rwa [VT,List.take_replicate,show min (min q (l.length-q)) q=min q (l.length-q) by omega] at this
 rw [h,I,List.replicate_append_replicate];rw [List.take_append_of_le_length (by simp),R3 (by simp)]
section
variable {B:Nat}{w0 w w':World}{H:Hp}{M:List bN}
theorem St.var? (ht:St B w0 H M w) {P:Program}{n:String}{g:Nat} (J:P.globalNamed n=some g) (I:g<B):w.var? P n=w0.var? P n:=by
 unfold World.var?;rw [J];simp only [T9];rw [ht.below.block g I]
theorem St.under (ht:St B w0 H M w) (I:Below w.heap.size w w'):St B w0 H M w':=
 ht.grow ⟨I.os,I.tape,I.output,I.size,λi hi _=>I.block i hi⟩
theorem St.QG (ht:St B w0 H M w) {P:Program}{n:String}{g:Nat}{k:IntKind}{zs:List Int} (J:Lib.TabIs P w0 n k zs) (Y:P.globalNamed n=some g) (I:g<B):Lib.TabIs P w n k zs:=
 (ht.var? Y I).trans J
end
theorem LH {x:Cx}{P:Program}{H:Hp}{M:List bN}{n:String}{g i:Nat}{k:IntKind}{zs:List Int}{z:Int} (Y:Lib.TabIs P x.w0 n k zs) (J:P.globalNamed n=some g) (I:g<x.B) (Z:zs[i]? = some z):
  ye x H M (Addr.add ⟨g,0,none⟩ (i*1)) (.int k z):=λw ht=>by
 have h:=World.var?_cell J (ht.QG Y J I) i;rw [Ud,SU,Se,h];simp [Z]
theorem O0 {P:Program}{W:World}{n:String}{g:Nat}{cs:Array RJ} (I:P.globalNamed n=some g) (h:W.var? P n=some cs):g<W.heap.size:=by
 unfold World.var? at h;rw [I] at h;simp only [T9] at h
 split at h
 ·rename_i o _ _ ho
  exact (Tc.1 ho).1
 ·cases h
def JR (v:RJ) (b:Bool):Prop:=(b=false/\v=.nilIface)\/(b=true/\∃ T p,v=.iface T p)
section
variable {x:Cx}{ops:Array Oper}{Q:lU}{rest:List Oper}{H:Hp}{M:List bN}{L:Env}
variable {d:Nat}{ty:TypeId}{pos:String}{aft:Array Edge}{g:Option (Nat×Bool)}
theorem DW {t u:TypeId}{y:Operand}{v:RJ}{b:Bool}{ms:Array (String×TypeId)} (J:∀ w,(underlying t).run x.P w=.ok (.interface ms) w) (he:JR v b) (hg:gd ops L ⟨some d,.binOp .neq t y (.const .nilIface) u,ty,pos,aft,g⟩=some true) (hN:Nat.blt d x.N=true)
  (Y:ev L y=some v) (k:W x ops Q rest H M ((d,.bool b)::L)):W x ops Q (⟨some d,.binOp .neq t y (.const .nilIface) u,ty,pos,aft,g⟩::rest) H M L:=
 eQ rfl hg hN (λc w hs _=>by
  have Z:c.eval (.const .nilIface)=.nilIface:=rfl;rcases he with ⟨rfl,rfl⟩ | ⟨rfl,T,p,rfl⟩
  ·have key:∀ k,(Op.equalIn (k+1) t .nilIface .nilIface).run x.P w=.ok true w:=λk=>by
    unfold Op.equalIn;simp [J]
   have I:(Op.equal t .nilIface .nilIface).run x.P w=.ok true w:=key 9999;simp only [execOp,hs.ev Y,Z,R4,eqGuard,binOp];simp [I]
  ·have key:∀ k,(Op.equalIn (k+1) t (.iface T p) .nilIface).run x.P w=.ok false w:=λk=>by
    unfold Op.equalIn;simp [J]
   have I:(Op.equal t (.iface T p) .nilIface).run x.P w=.ok false w:=key 9999;simp only [execOp,hs.ev Y,Z,R4,eqGuard,binOp];simp [I]) k
theorem Gv {α:Type}[aF α] {t e:TypeId}{y z:Operand}{v:RJ}{xs:List α}{n:Nat}{kk:IntKind}{i:Int} (hg:gd ops L ⟨some d,.slice t y (some z) none none,ty,pos,aft,g⟩=some true) (hN:Nat.blt d x.N=true)
  (hT:∀ w,(underlying t).run x.P w=.ok (.array n e) w) (hs:∀ w,(sizeOf e).run x.P w=.ok (aF.sz α) w)
  (hy:ev L y=some (.pointer (some (Value.base v)))) (hz:ev L z=some (.int kk i)) (hR:aP H v xs) (hx:xs.length=n) (hn:Nat.blt 0 n=true) (h0:0<=i) (h1:i<=(n:Int))
  (k:∀ v',aP H v' (xs.drop i.toNat)->W x ops Q rest H M ((d,v')::L)):
  W x ops Q (⟨some d,.slice t y (some z) none none,ty,pos,aft,g⟩::rest) H M L:=by
 have hn':0<n:=by simpa [SY] using hn
 rcases hR with ⟨_,rfl⟩ | ⟨b,off,cap,arr,T,fz,rfl,h2,h3,h4,h5,h6⟩
 ·simp at hx; omega
 refine eQ (v:=.slice (some (if n=i.toNat then ⟨b,off,none⟩ else (⟨b,off,none⟩:Addr).add (i.toNat*aF.sz α))) (n-i.toNat) (n-i.toNat)) rfl hg hN (λc w Z ht=>?_) (k _ ?_)
 ·have hb:(Instr.sliceBounds false n n (some (.int kk i)) none none).run x.P w=.ok (i.toNat,n,n) w:=by
   simp only [Instr.sliceBounds,R4,Sb,RX,run_sliceBound h0 h1]
  simp only [execOp,Z.ev hy,Z.ev hz,Td,UM,R4,Instr.sliceAt,hT,RX,Instr.sureAddr,Value.base,Sb,hb,hs]
 ·by_cases Y:n=i.toNat
  ·rw [RU Y,show n-i.toNat=0 by omega]
   exact .inl ⟨⟨_,rfl⟩,by rw [List.drop_eq_nil_iff]; omega⟩
  ·rw [RS Y,SU]
   have hle:i.toNat<=n:=by omega
   have J:(xs.drop i.toNat).length=n-i.toNat:=by rw [Tg,hx]
   have hmul:i.toNat*aF.sz α+(n-i.toNat)*aF.sz α<=cap*aF.sz α:=by
    rw [<- Sd]; exact R8 _ (by omega)
   refine .inr ⟨b,off+i.toNat*aF.sz α,n-i.toNat,arr,T,fz,by rw [J],by omega,by omega,h4,by omega,λj el I=>?_⟩
   rw [SB] at I;obtain ⟨cs,q1,q2⟩:=h6 (i.toNat+j) el I;refine ⟨cs,q1,λq c hc=>?_⟩;rw [show off+i.toNat*aF.sz α+j*aF.sz α+q=off+(i.toNat+j)*aF.sz α+q by rw [Sd]; omega]
   exact q2 q c hc
def xV (l:List U8):RI:=⟨(l.map λy=>UInt8.ofNat y.n.toNat).toArray⟩
theorem Cd:∀ (ns:List Int) (r:RI),ns.foldl (λr n=>r.push (UInt8.ofNat n.toNat)) r=⟨r.data++(ns.map λn=>UInt8.ofNat n.toNat).toArray⟩
 | [],r=>by simp
 | n::ns,r=>by
  rw [List.foldl_cons,Cd ns];simp [ByteArray.push]
theorem aP.bytes {H:Hp}{v:RJ}{l:List U8} (hR:aP H v l) {B:Nat}{w0 w:World}{M:List bN}{P:Program} (ht:St B w0 H M w):(Conv.bytesToString v).run P w=.ok (.string (xV l)) w:=by
 rcases hR with ⟨⟨a,rfl⟩,rfl⟩ | ⟨b,off,cap,arr,T,fz,rfl,h2,h3,Z,h5,h6⟩
 ·cases a with
  | none=>rfl
  | some a=>
   rw [run_bytesToString w a 0 0 [] (by simp [loadCells,loadCellsFrom,Sb])]
   rfl
 ·have hl:=run_loadCells_list (P:=P) w ⟨b,off,none⟩ ((l.map λy=>y.n).map (Value.int .u8)) (λj v Y=>by
   rw [Sq,Sq,Option.map_map,Vi] at Y;obtain ⟨y,hy,rfl⟩:=Y;obtain ⟨cs,J,q2⟩:=h6 j y hy;have J:cs=[.int .u8 y.n]:=J;have:=q2 0 (.int .u8 y.n) (by rw [J]; rfl)
   have hb:=ht.vp b _ Z;rw [SU];simp only [World.cell?,hb];simpa [aF.sz] using this)
  simp only [TL] at hl;rw [run_bytesToString w ⟨b,off,none⟩ l.length cap _ hl,Cd];have I:ByteArray.empty.data=#[]:=rfl;rw [I];simp [xV,List.map_map,Function.comp_def]
theorem E9 {src I e:TypeId}{y:Operand}{v:RJ}{l:List U8} (hg:gd ops L ⟨some d,.convert src I y,ty,pos,aft,g⟩=some true) (hN:Nat.blt d x.N=true)
  (hs:x.P.underlying src=some (.slice e)) (he:x.P.underlying e=some (.int .u8)) (Z:x.P.underlying I=some .string)
  (hy:ev L y=some v) (hR:aP H v l) (k:W x ops Q rest H M ((d,.string (xV l))::L)):
  W x ops Q (⟨some d,.convert src I y,ty,pos,aft,g⟩::rest) H M L:=
 eQ rfl hg hN (λc w J ht=>by
  have hv:∃ a n m,v=.slice a n m:=by
   rcases hR with ⟨⟨a,rfl⟩,_⟩ | ⟨b,off,cap,arr,T,fz,rfl,_⟩
   ·exact ⟨_,_,_,rfl⟩
   ·exact ⟨_,_,_,rfl⟩
  have Y:=hR.bytes (P:=x.P) ht;obtain ⟨a,n,m,rfl⟩:=hv;simp only [execOp,J.ev hy,R4,run_convert_bytes_string w src I e a n m hs he Z,Y,RX,Sb]) k
theorem pX.Og (H:Hp) (n:Nat):pX H ((List.replicate n (0:Int)).map (Value.int .u8)) (List.replicate n (⟨0⟩:U8)):=by
 induction n with
 | zero=>exact pX.nil
 | succ n ih=>
  rw [Tv,Tv,TT];exact ⟨[.int .u8 0],_,rfl,rfl,ih⟩
end
def jV (n:Int):RI:=⟨(Lib.itoa n).toArray⟩
def lO (s:RI):Int×Bool:=match Lib.atoiAll s.data.toList with
 | .ok v=>(v,false)
 | .range=>(Lib.atoiSat s.data.toList,true)
 | _=>(0,true)
def MX (s:RI):Int×Bool:=match Lib.parseUintM 4294967295 0 s.data.toList with
 | .ok v=>((v:Int),false)
 | .range=>(4294967295,true)
 | _=>(0,true)
end Go.Sim
namespace Go.Sim
open Go
open _root_.Go.IntKind (i64 u64 u32 u8)
abbrev w8 (b c:Nat) (seen:Array Nat):Obj:=.mapIter (some b) c seen c
theorem Jw {P:Program}{w:World}{ty:TypeId}{b c Z:Nat}{seen:Array Nat}{es:Array MapEntry} (hi:w.heap[Z]? = some (w8 b c seen)) (hb:w.heap[b]? = some (.map es c)) (J:∀ e ∈ es.toList,e.born<c):
  ((∀ e ∈ es.toList,seen.contains e.born=true)/\(Instr.next (.pointer (some ⟨Z,0,none⟩)) false ty).run P w=.ok (.tuple #[.bool false]) w) \/
  ∃ e ∈ es.toList,seen.contains e.born=false/\∃ n,(Instr.next (.pointer (some ⟨Z,0,none⟩)) false ty).run P w=.ok (.tuple #[.bool true,e.key,e.val]) { w with drawn:=n,heap:=w.heap.setIfInBounds Z (w8 b c (seen.push e.born)) }:=by
 simp only [Instr.next,getObj,R4,Sem.run,hi,hb,Result.andThen,next_test_false seen es c c J (R9 _),Tr,T5];have I:∀ x ∈ (Array.filter (λe=>!seen.contains e.born) es).toList,x ∈ es.toList/\seen.contains x.born=false:=λx hx=>by simpa using hx
 have Y:Array.filter (λe=>!seen.contains e.born) es=#[]->∀ e ∈ es.toList,seen.contains e.born=true:=λh e he=>by
  rw [Array.filter_eq_empty_iff] at h;have:=h e (by simpa using he)
  simpa using this
 generalize Array.filter (λe=>!seen.contains e.born) es=K at I Y ⊢;have e1:K.filter (λx=>decide (x.born<c))=K:=Array.filter_eq_self.2 (λx hx=>by
  have:=J x (I x (by simpa using hx)).1
  simpa using this)
 have e2:K.filter (λx=>decide (x.born≥c))=#[]:=by
  rw [Array.filter_eq_empty_iff];intro x hx;have:=J x (I x (by simpa using hx)).1
  simp;omega
 simp only [e1,e2,Array.append_empty]
 by_cases h0:K.size=0
 ·left
  have:K=#[]:=Array.eq_empty_of_size_eq_zero h0;subst this;refine ⟨Y rfl,?_⟩;simp [choose,Sem.run,Question.forced]
 ·right
  have hne:K.isEmpty=false:=by simp [Array.isEmpty,h0]
  simp only [hne,Tr,T5,Array.empty_append,Array.size_map];have hch:∃ (j n:Nat),j<K.size/\(choose (Question.mapNext K.size)).run P w=.ok j { w with drawn:=n }:=by
   by_cases hf:K.size<=1
   ·exact ⟨0,w.drawn,by omega,by simp [choose,Sem.run,Question.forced,hf]⟩
   ·exact ⟨_,w.drawn+1,UF _ (by omega),by
     simp only [choose,Sem.run,Question.forced,Sy,hf,T5,Question.cut]
     rfl⟩
  obtain ⟨j,n,hj,hrun⟩:=hch;obtain ⟨m1,m2⟩:=I K[j] (by simp)
  refine ⟨K[j],m1,m2,n,?_⟩;have hset:∀ o,(setObj Z o).run P { w with drawn:=n }=.ok () { w with drawn:=n,heap:=w.heap.setIfInBounds Z o }:=λo=>by simp [setObj,Sem.run,hi]
  simp only [hrun,Array.getElem?_map,Us hj,Td,R4,hset,Result.andThen]
  rfl
theorem Hk {P:Program}{w:World}{b c I:Nat}{seen:Array Nat}{es:Array MapEntry}{e:MapEntry} (hi:w.heap[I]? = some (w8 b c (seen.push e.born))) (J:w.heap[b]? = some (.map es c)) (he:e ∈ es.toList) (hn:(es.toList.map (·.born)).Nodup):
  (Instr.entry (.pointer (some ⟨I,0,none⟩))).run P w=.ok (.tuple #[e.key,e.val]) w:=by
 have Y:es.find? (·.born == e.born)=some e:=by rw [<- Array.find?_toList]; exact find_born e es.toList hn he
 simp only [Instr.entry,getObj,R4,Sem.run,hi,J,Result.andThen,Array.back?_push,bne_self_eq_false,Tr,T5,Y]
 rfl
section
variable {x:Cx}{ops:Array Oper}{Q:lU}{rest:List Oper}{H:Hp}{M M':List bN}{L L':Env}
variable {d:Nat}{ty:TypeId}{pos:String}{aft:Array Edge}{g:Option (Nat×Bool)}
variable {κ ν:Type}[DecidableEq κ] [xU κ] [MV ν]
theorem J7 {t key e:TypeId}{b c:Nat}{y:Operand}{es:Array MapEntry} (O:bN.obj b (.map es c) ∈ M)
  (Z:gd ops L ⟨some d,.range t y,ty,pos,aft,g⟩=some true) (hN:Nat.blt d x.N=true)
  (J:∀ w,(underlying t).run x.P w=.ok (.map key e) w) (hy:ev L y=some (.map (some b)))
  (k:∀ I,W x ops Q rest H (.obj I (w8 b c #[])::M) ((d,.pointer (some ⟨I,0,none⟩))::L)):
  W x ops Q (⟨some d,.range t y,ty,pos,aft,g⟩::rest) H M L:=
 s8 rfl Z hN (λa w hs ht=>⟨_,w.alloc (w8 b c #[]),by
  have Y:=ht.wR O;simp only [execOp,hs.ev hy,Instr.range,R4,J,RX,xL Y,Sb,newObj,Sem.run,World.alloc],_,_,ht.alloc _,k _⟩)
theorem L_ {b c I:Nat}{y:Operand}{seen:Array Nat}{es:Array MapEntry}{l:List (κ×ν)} (O:bN.obj b (.map es c) ∈ M) (h:s6 es c l)
  (hg:gd ops L ⟨some d,.next y false,ty,pos,aft,g⟩=some true) (hN:Nat.blt d x.N=true) (Y:ev L y=some (.pointer (some ⟨I,0,none⟩)))
  (k1:(∀ e ∈ es.toList,seen.contains e.born=true)->W x ops Q rest H (.obj I (w8 b c seen)::M) ((d,.tuple #[.bool false])::L))
  (k2:∀ e ∈ es.toList,seen.contains e.born=false->W x ops Q rest H (.obj I (w8 b c (seen.push e.born))::M) ((d,.tuple #[.bool true,e.key,e.val])::L)):
  W x ops Q (⟨some d,.next y false,ty,pos,aft,g⟩::rest) H (.obj I (w8 b c seen)::M) L:=
 s8 rfl hg hN (λa w hs ht=>by
  have hi:=ht.wR (RR ..);have hb:=ht.wR (RV _ O);have J:I<w.heap.size:=(Tc.1 hi).1;rcases Jw (P:=x.P) (ty:=ty) hi hb h.lt with ⟨hall,hr⟩ | ⟨e,he,hne,n,hr⟩
  ·exact ⟨_,w,by simp only [execOp,hs.ev Y,R4,hr,RX,Sb],_,_,ht,k1 hall⟩
  ·refine ⟨_,{ w with drawn:=n,heap:=w.heap.setIfInBounds I (w8 b c (seen.push e.born)) },by simp only [execOp,hs.ev Y,R4,hr,RX,Sb],_,_,?_,k2 e he hne⟩
   have Z:=ht.E1 (r':=.obj I (w8 b c (seen.push e.born))) (yp w I (w8 b c (seen.push e.born))) (by simp [bN.ok,J]) (λ_ hc=>.inl hc)
   exact Z.drewN n)
theorem J0 {b c I:Nat}{y:Operand}{seen:Array Nat}{es:Array MapEntry}{l:List (κ×ν)}{e:MapEntry} (hi:bN.obj I (w8 b c (seen.push e.born)) ∈ M) (O:bN.obj b (.map es c) ∈ M) (h:s6 es c l) (he:e ∈ es.toList) {J Y:RJ} (hk:e.key=J) (hv:e.val=Y)
  (Z:gd ops L ⟨some d,.entry y,ty,pos,aft,g⟩=some true) (hN:Nat.blt d x.N=true) (hy:ev L y=some (.pointer (some ⟨I,0,none⟩)))
  (k:W x ops Q rest H M ((d,.tuple #[J,Y])::L)):
  W x ops Q (⟨some d,.entry y,ty,pos,aft,g⟩::rest) H M L:=
 eQ rfl Z hN (λa w hs ht=>by
  subst hk; subst hv
  simp only [execOp,hs.ev hy,R4,Hk (P:=x.P) (ht.wR hi) (ht.wR O) he h.nd,RX,Sb]) k
end
theorem s6.pick {κ ν:Type}[DecidableEq κ] [xU κ] [MV ν] {es:Array MapEntry}{c:Nat}{l:List (κ×ν)} (h:s6 es c l) {e:MapEntry} (he:e ∈ es.toList):∃ (i:Nat) (p:κ×ν),es.toList[i]? = some e/\l[i]? = some p/\e.key=MV.mv p.1/\e.val=MV.mv p.2:=by
 obtain ⟨i,hi,rfl⟩:=S3.1 he;have I:(es.toList.map λe=>(e.key,e.val))[i]? = (l.map λp=>(MV.mv p.1,MV.mv p.2))[i]? := by rw [h.eq]
 rw [Sq,Sq,RK hi] at I;cases J:l[i]? with
 | none=>rw [J] at I; simp at I
 | some p=>
  rw [J] at I;simp only [Td,Sa,Ue] at I;exact ⟨i,p,RK hi,J,I.1,I.2⟩
def zN {α:Type} (es:Array MapEntry) (seen:Array Nat) (l:List α) (P:α->Bool):Prop:=∀ (i:Nat) (p:α),l[i]? = some p->∀ e,es.toList[i]? = some e->seen.contains e.born=true->P p=false
theorem zN.nil {α:Type}{es:Array MapEntry}{l:List α}{P:α->Bool}:zN es #[] l P:=λi p I e he h=>by simp at h
theorem zN.push {κ ν:Type}[DecidableEq κ] [xU κ] [MV ν] {es:Array MapEntry}{c:Nat}{seen:Array Nat}{l:List (κ×ν)}{P:κ×ν->Bool} (hs:zN es seen l P) (h:s6 es c l) {i:Nat}{p:κ×ν}{e:MapEntry}
  (hi:es.toList[i]? = some e) (hp:l[i]? = some p) (hP:P p=false):zN es (seen.push e.born) l P:=λj q hq e' he' J=>by
 by_cases hj:i=j
 ·subst hj
  rw [hp] at hq;obtain rfl:=RQ hq;exact hP
 ·refine hs j q hq e' he' ?_
  have hne:e'.born≠e.born:=λhb=>by
   obtain ⟨h1,h2⟩:=RP.1 hi;obtain ⟨h3,h4⟩:=RP.1 he';have hpw:=Ut.1 h.nd;have Y:i<(es.toList.map (·.born)).length:=by simpa using h1
   have Z:j<(es.toList.map (·.born)).length:=by simpa using h3
   rcases Nat.lt_or_gt_of_ne hj with I | I
   ·exact hpw i j Y Z I (by rw [TZ,TZ,h2,h4]; exact hb.symm)
   ·exact hpw j i Z Y I (by rw [TZ,TZ,h2,h4]; exact hb)
  simp at J ⊢;rcases J with J | J
  ·exact J
  ·exact absurd J hne
theorem zN.none {κ ν:Type}[DecidableEq κ] [xU κ] [MV ν] {es:Array MapEntry}{c:Nat}{seen:Array Nat}{l:List (κ×ν)}{P:κ×ν->Bool} (hs:zN es seen l P) (h:s6 es c l) (I:∀ e ∈ es.toList,seen.contains e.born=true):l.any P=false:=by
 rw [List.any_eq_false];intro p Z;obtain ⟨i,hi,rfl⟩:=S3.1 Z;have Y:es.toList.length=l.length:=by have:=R7 List.length h.eq; simpa using this
 have J:i<es.toList.length:=by omega
 have:=hs i l[i] (RK hi) es.toList[i] (RK J) (I _ (Sk J));simp [this]
theorem Ol {α:Type}{l:List α}{P:α->Bool}{i:Nat}{p:α} (I:l[i]? = some p) (hP:P p=true):l.any P=true:=
 List.any_eq_true.2 ⟨p,RY I,hP⟩
def ET (es:Array MapEntry) (seen:Array Nat):Nat:=(es.toList.filter λe=>!seen.contains e.born).length
theorem JF {es:Array MapEntry}{seen:Array Nat}{e:MapEntry} (he:e ∈ es.toList) (h:seen.contains e.born=false):ET es (seen.push e.born)<ET es seen:=by
 unfold ET;refine filter_lt (λe=>!seen.contains e.born) (λJ=>!(seen.push e.born).contains J.born) (λy I=>?_) e (by simp only [h]; rfl) (by simp) es.toList he
 simp at I ⊢;exact I.1
end Go.Sim
namespace Go.Sim
open Go Go.RowKit
open _root_.Go.IntKind (i64 u64 u32 u8)
def P8 (b:Nat) (p:RJ):Prop:=p=.pointer none\/p=.pointer (some ⟨b,0,none⟩)
theorem Bh (s:RI):Lib.strCells s=(fQ s).map (λy=>Value.int .u8 y.n):=by
 simp [Lib.strCells,fQ,Function.comp_def]
theorem pX.u8 (H:Hp) (l:List U8):pX H (l.map λy=>Value.int .u8 y.n) l:=by
 induction l with
 | nil=>exact pX.nil
 | cons y l ih=>exact ⟨[.int .u8 y.n],_,rfl,rfl,ih⟩
theorem AU {P:Program}{w:World}{t u ty e:TypeId}{i:TypeInfo} (ht:P.underlying t=some (.slice e)) (hu:P.underlying u=some .string) (hi:P.info? e=some i) (hz:i.zero=some (.int .u8 0))
  (J:i.size=1) (hby:i.bytes=1) {v:RJ}{n:Nat}{xs:List RJ} (hown:iW w e 1 v n xs) (s:RI) (h63:n+s.size<=maxLen) (hbytes:n+s.size<=140737488355328):
  ∃ v' w',(Builtin.append_ #[t,u] ty #[v,.string s]).run P w=.ok v' w'/\iW w' e 1 v' (n+s.size) (xs++Lib.strCells s)/\w.grownBy w' v.ownBlock /\
   (∀ b,v'.ownBlock=some b->v.ownBlock=some b\/w.heap.size<=b):=by
 have hsmall:n+s.size<=9223372036854775807:=by simp only [maxLen] at h63; omega
 have hxl:xs.length=n:=by simpa using hown.1
 have Y:(xs++Lib.strCells s).length=(n+s.size)*1:=by rw [R5,hxl,U1,Ud]
 have Z:∀ (vX:Nat) (row:Option Nat),
   iW (w.drew.alloc (.cells (xs.toArray++(Lib.strCells s).toArray++Builtin.zeroCells (Value.int .u8 0).cells (grownCap w (n+s.size) vX e-(n+s.size))) e)) e 1
    (.slice (some ⟨w.heap.size,0,none⟩) (n+s.size) (grownCap w (n+s.size) vX e)) (n+s.size) (xs++Lib.strCells s) /\
   w.grownBy (w.drew.alloc (.cells (xs.toArray++(Lib.strCells s).toArray++Builtin.zeroCells (Value.int .u8 0).cells (grownCap w (n+s.size) vX e-(n+s.size))) e)) row:=by
  intro vX row;have hge:=Wy w (n+s.size) vX e;have hcm:grownCap w (n+s.size) vX e<=maxLen:=VP w (n+s.size) vX e h63;refine ⟨⟨Y,.inr ⟨w.heap.size,0,_,_,rfl,VW w.drew _,hge,hcm,?_,?_⟩⟩,⟨rfl,rfl,rfl,by simp,λk hk _=>heap_alloc_old w.drew _ (h:=hk)⟩⟩
  ·have hz1:(Value.int u8 0).cells.size=1:=rfl
   simp only [Array.size_append,Ux,size_zeroCells,hz1,hxl,U1];omega
  ·simp only [S8,Wo,Sc]
   rw [<- Sc,<- Y];exact UT
 rcases hown.2 with ⟨rfl,rfl⟩ | ⟨g,off,cap,cur,rfl,hg,hnc,hcm,hcs,htake⟩
 ·have hx:xs=[]:=Sg hxl
  subst hx
  by_cases O:s.size=0
  ·have hn:Lib.strCells s=[]:=Sg (by rw [U1]; exact O)
   refine ⟨.slice none 0 0,w,?_,by rw [O,hn]; exact iW.nil w e 1,⟨rfl,rfl,rfl,R9 _,λ_ _ _=>rfl⟩,by simp [Value.ownBlock]⟩
   have hf:=Lib.run_firstCells_string (P:=P) w 1 s;rw [O] at hf;simp [Builtin.append_,Tj ht,Tj hu,sizeOf,typeInfo,hi,J,Builtin.lenOf,O,hf]
  ·have hr:=run_append_nil_string (P:=P) w t u ty e i (.int .u8 0) ht hu hi hz s (by omega) (by omega) (by rw [hby]; omega)
   have I:=Z 0 (Value.ownBlock (.slice none 0 0));simp only [Se,Tn,Array.empty_append] at I ⊢;have e1:(s.data.map λb=>Value.int .u8 b.toNat)=(Lib.strCells s).toArray:=by
    apply Array.ext';simp [Lib.strCells]
   rw [e1] at hr;exact ⟨_,_,hr,I.1,I.2,λb hb=>.inr (by simp only [Value.ownBlock,Sa] at hb; omega)⟩
 ·have hcs':off+cap<=cur.size:=by simpa using hcs
  by_cases hroom:n+s.size<=cap
  ·have hf:=Lib.run_firstCells_string (P:=P) w 1 s
   obtain ⟨w',hst,hh,I⟩:=kO (P:=P) g (off+n) e (Lib.strCells s) 0 cur.toList w (by simpa using hg) (by rw [U1]; simp; omega) (Lib.strCells_oneCell s)
   refine ⟨.slice (some ⟨g,off,none⟩) (n+s.size) cap,w',?_,⟨Y,.inr ⟨g,off,cap,_,rfl,hh,hroom,hcm,?_,?_⟩⟩,I,λb hb=>.inl hb⟩
   ·simp [Builtin.append_,Tj ht,Tj hu,sizeOf,typeInfo,hi,J,Builtin.lenOf,hroom,hf,SU,hst]
   ·simpa [qd] using hcs
   ·rw [Um,Tl,xH _ _ _ (by rw [U1]; simp; omega)]
    have hd:(cur.toList.take (off+n)).drop off=xs:=by rw [Ug,TX]; simpa using htake
    rw [Sc,T8 (by simp; omega),hd,<- Sc,<- Y]
    exact UT
  ·have holds:∀ j u,xs[j]? = some u->w.cell? ((⟨g,off,none⟩:Addr).add j)=some u:=by
    intro j u hu;rw [SU];refine Wc hg rfl ?_;rw [<- htake,SG] at hu
    split at hu
    ·rw [SB] at hu; simpa using hu
    ·cases hu
   have hr:=Lib.run_append_grow_string (P:=P) w t u ty e i (.int .u8 0) ht hu hi hz ⟨g,off,none⟩ n cap xs (by rw [J]; simpa using hxl) holds s (by omega) (by omega) (by rw [hby]; exact Ww (by omega) (by omega))
   have I:=Z cap (Value.ownBlock (.slice (some ⟨g,off,none⟩) n cap));exact ⟨_,_,hr,I.1,I.2,λb hb=>.inr (by simp only [Value.ownBlock,Sa] at hb; omega)⟩
section
variable {x:Cx}{ops:Array Oper}{Q:lU}{rest:List Oper}{H:Hp}{M M':List bN}{L L':Env}
variable {d:Nat}{ty:TypeId}{pos:String}{aft:Array Edge}{g:Option (Nat×Bool)}
theorem E7 {t u e:TypeId}{n:Nat}{y z:Operand}{v:RJ}{xs:List RJ}{l:List U8}{s:RI}
  (hg:gd ops L ⟨some d,.call ⟨.builtin .append,#[y,z],#[t,u]⟩,ty,pos,aft,g⟩=some true) (hN:Nat.blt d x.N=true)
  (hT:x.P.underlying t=some (.slice e)) (hU:x.P.underlying u=some .string) (hi:Pf x.P e 1 1 (.int .u8 0))
  (hy:ev L y=some v) (hz:ev L z=some (.string s)) (hx:Rw H v xs l) (hb:l.length+s.size<=140737488355328)
  (k:∀ v' Z,Rw H v' Z (l++fQ s)->W x ops Q rest H (.row v' e (aF.sz U8) (l++fQ s).length Z::M) ((d,v')::L)):
  W x ops Q (⟨some d,.call ⟨.builtin .append,#[y,z],#[t,u]⟩,ty,pos,aft,g⟩::rest) H (.row v e (aF.sz U8) n xs::M) L:=by
 obtain ⟨i,h1,h2,h3,h4⟩:=hi.ex;refine s8 rfl hg hN λa w Y ht=>?_;have I:iW w e 1 v n xs:=ht.ok _ (RR ..);have hn:n=l.length:=by
  have:=hx.rd.len;rw [I.1] at this;exact Ty (Nat.zero_lt_one) this
 subst hn;obtain ⟨v',w',hr,ho,hgr,hfr⟩:=AU (P:=x.P) (ty:=ty) hT hU h1 h4 h2 h3 I s (by unfold maxLen; omega) hb
 have J:(l++fQ s).length=l.length+s.size:=by rw [R5,zp]
 have hok:bN.ok w' (.row v' e (aF.sz U8) (l++fQ s).length (xs++Lib.strCells s)):=by rw [J]; exact ho
 refine ⟨v',w',?_,H,_,ht.E1 (r':=.row v' e (aF.sz U8) (l++fQ s).length (xs++Lib.strCells s)) hgr hok hfr,k v' _ ⟨?_,ho.shape⟩⟩
 ·simp [execOp,resolve,invoke,builtin,Y.ev hy,Y.ev hz,hr]
 ·rw [Bh]
  exact hx.rd.app (pX.u8 H _)
theorem Fc {t e u:TypeId}{y z:Operand}{a:Addr} (hi:∃ j,x.P.info? e=some j) (J:gd ops L ⟨some d,.binOp .neq t y z u,ty,pos,aft,g⟩=some true) (hN:Nat.blt d x.N=true)
  (I:x.P.underlying t=some (.pointer e)) (Z:ev L y=some (.pointer (some a))) (hz:ev L z=some (.pointer (some a)))
  (k:W x ops Q rest H M ((d,.bool false)::L)):W x ops Q (⟨some d,.binOp .neq t y z u,ty,pos,aft,g⟩::rest) H M L:=
 eQ rfl J hN (λc w hs _=>by
  obtain ⟨j,Y⟩:=hi;have h:=Lib.run_neq_ptr_same (P:=x.P) w a I Y;simp only [execOp,hs.ev Z,hs.ev hz,R4,eqGuard];simp [h]) k
theorem DF {B:Nat}{w0 w:World}{b:Nat}{cs:List RJ}{T:TypeId} (ht:St B w0 H M w) (O:bN.obj b (.cells cs.toArray T (0,0)) ∈ M):w.shape? b=some (T,cs.length):=by
 have h:=ht.wR O;simp [World.shape?,h]
theorem Gw {src I T e:TypeId}{y:Operand}{b o:Nat}{cs:List RJ} (O:bN.obj b (.cells cs.toArray e (0,0)) ∈ M) (ho:Nat.blt o cs.length=true)
  (hi:∃ j,x.P.info? T=some j/\Nat.beq j.size 0=false) (hg:gd ops L ⟨some d,.convert src I y,ty,pos,aft,g⟩=some true) (hN:Nat.blt d x.N=true)
  (hs:x.P.underlying src=some (.pointer T)) (Z:x.P.underlying I=some .unsafePointer) (hy:ev L y=some (.pointer (some ⟨b,o,none⟩)))
  (k:W x ops Q rest H M ((d,.pointer (some ⟨b,o,none⟩))::L)):W x ops Q (⟨some d,.convert src I y,ty,pos,aft,g⟩::rest) H M L:=
 eQ rfl hg hN (λc w Y ht=>by
  obtain ⟨j,hj,J⟩:=hi;have h:=Lib.run_to_unsafe (P:=x.P) w ⟨b,o,none⟩ hs Z hj (λe=>by rw [e] at J; cases J) (DF ht O) (by simpa [SY] using ho)
  simp only [execOp,Y.ev hy,R4,h,RX,Sb]) k
theorem DX {src I T e:TypeId}{y:Operand}{b o:Nat}{cs:List RJ} (O:bN.obj b (.cells cs.toArray e (0,0)) ∈ M)
  (hi:∃ j,x.P.info? T=some j) (hl:liesAt x.P x.P.depth e (cs.length / x.P.cellsOf e) o T 1=true) (Z:gd ops L ⟨some d,.convert src I y,ty,pos,aft,g⟩=some true) (hN:Nat.blt d x.N=true)
  (hs:x.P.underlying src=some .unsafePointer) (Y:x.P.underlying I=some (.pointer T)) (hy:ev L y=some (.pointer (some ⟨b,o,none⟩)))
  (k:W x ops Q rest H M ((d,.pointer (some ⟨b,o,none⟩))::L)):W x ops Q (⟨some d,.convert src I y,ty,pos,aft,g⟩::rest) H M L:=
 eQ rfl Z hN (λc w J ht=>by
  obtain ⟨j,hj⟩:=hi;have h:=Lib.run_from_unsafe (P:=x.P) w ⟨b,o,none⟩ hs Y hj (DF ht O) hl;simp only [execOp,J.ev hy,R4,h,RX,Sb]) k
theorem EF {P:Program}{f:FuncId}{I:Func} (hf:P.funcs[f]? = some I) (J:(I.name == "runtime.NumGoroutine")=false) (Y:I.body.isNone=true) (Z:Extern.findNext I=none) (h4:Extern.find I=some Extern.AbiNoEscape.same) (v:RJ):
  ∀ w,(callFunc f [v].toArray).run P w=.ok (.value v) w:=λw=>by
 rw [Wt hf J Y Z h4,show [v].toArray=#[v] from rfl,Lib.run_noEscape]
 rfl
theorem Ff {J:Array TypeId}{y:Operand}{a:Addr}{n c:Nat} (Z:gd ops L ⟨some d,.call ⟨.builtin .unsafeSliceData,#[y],J⟩,ty,pos,aft,g⟩=some true) (hN:Nat.blt d x.N=true)
  (hy:ev L y=some (.slice (some a) n c)) (Y:c≠0) (k:W x ops Q rest H M ((d,.pointer (some a))::L)):
  W x ops Q (⟨some d,.call ⟨.builtin .unsafeSliceData,#[y],J⟩,ty,pos,aft,g⟩::rest) H M L:=
 eQ rfl Z hN (λs w I ht=>by
  have h:=Lib.run_unsafeSliceData_row (P:=x.P) w J ty a n c Y;simp [execOp,resolve,invoke,builtin,I.ev hy,h]) k
theorem yG {P:Program} (w:World):∀ (l:List U8) (a:Addr) (acc:RI),(∀ j y,l[j]? = some y->w.cell? (a.add j)=some (.int .u8 y.n)) ->
  (loadBytes a acc l.length).run P w=.ok ⟨acc.data++(l.map λy=>UInt8.ofNat y.n.toNat).toArray⟩ w
 | [],a,acc,_=>by simp [loadBytes]
 | y::l,a,acc,h=>by
  have J:w.cell? a=some (.int .u8 y.n):=by
   have:=h 0 y rfl;simpa [Addr.add] using this
  have ih:=yG (P:=P) w l (a.add 1) (acc.push (UInt8.ofNat y.n.toNat)) (λj z Z=>by
   have:=h (j+1) z (by simpa using Z)
   have e:(a.add 1).add j=a.add (j+1):=by
    unfold Addr.add
    by_cases I:j=0
    ·subst I; simp
    ·simp [I]; omega
   rw [e]; exact this)
  have Y:(y.n.toNat).toUInt8=UInt8.ofNat y.n.toNat:=rfl;simp only [RW,loadBytes,R4,run_load,J,Result.andThen,Y];rw [ih]
  congr 1
  apply ByteArray.ext;simp [ByteArray.push]
theorem C9 {P:Program}{e:TypeId} (Y:P.cellsOf e=1) (I off n:Nat) (hn:off+n<=I):liesAt P P.depth e I off e n=true:=by
 have J:P.depth=(2*(P.types.size+Made.depth)+1)+1:=rfl;rw [J];simp only [liesAt,Tt]
 left
 rw [J];simp [rowAt,Y,hn,sameLayout,Nat.mod_one]
theorem Fg {pt it e:TypeId}{y z:Operand}{I off n cap:Nat}{xs:List RJ}{l:List U8}
  (hg:gd ops L ⟨some d,.call ⟨.builtin .unsafeString,#[y,z],#[pt,it]⟩,ty,pos,aft,g⟩=some true) (hN:Nat.blt d x.N=true)
  (hp:x.P.underlying pt=some (.pointer e)) (hc:x.P.cellsOf e=1)
  (hy:ev L y=some (.pointer (some ⟨I,off,none⟩))) (hz:ev L z=some (.int .i64 (l.length:Int))) (h0:0<l.length)
  (hx:Rw H (.slice (some ⟨I,off,none⟩) n cap) xs l)
  (k:W x ops Q rest H M ((d,.string (xV l))::L)):
  W x ops Q (⟨some d,.call ⟨.builtin .unsafeString,#[y,z],#[pt,it]⟩,ty,pos,aft,g⟩::rest) H (.row (.slice (some ⟨I,off,none⟩) n cap) e (aF.sz U8) n xs::M) L:=by
 refine s8 rfl hg hN λa w hsl ht=>?_;have J:iW w e 1 (.slice (some ⟨I,off,none⟩) n cap) n xs:=ht.ok _ (RR ..);have hn:n=l.length:=by
  have:=hx.rd.len;rw [J.1] at this;exact Ty (Nat.zero_lt_one) this
 rcases J.2 with ⟨h,_⟩ | ⟨g',off',oC,Y,he,hgc,hnc,hcm,hcs,htake⟩
 ·cases h
 cases he;have hcs':off+cap<=Y.size:=by simpa using hcs
 have hsh:w.shape? I=some (e,Y.size):=by simp [World.shape?,hgc]
 have Z:∀ j y,l[j]? = some y->w.cell? ((⟨I,off,none⟩:Addr).add j)=some (.int .u8 y.n):=by
  intro j y hj;obtain ⟨cs,h1,h2⟩:=hx.rd.get j y hj;have h1:cs=[.int .u8 y.n]:=h1;have h3:=h2 0 (.int .u8 y.n) (by rw [h1]; rfl)
  rw [SU];refine Wc hgc rfl ?_;rw [<- htake,SG] at h3
  split at h3
  ·rw [SB] at h3
   simpa [aF.sz] using h3
  ·cases h3
 have hlb:=yG (P:=x.P) w l ⟨I,off,none⟩ .empty Z;have hlies:=C9 (P:=x.P) hc (Y.size / x.P.cellsOf e) off l.length (by rw [hc,Nat.div_one]; omega)
 have hmax:i64.max=9223372036854775807:=rfl;have hl0:l.length≠0:=by omega
 have h63':¬ (9223372036854775807:Int)<(l.length:Int):=by unfold maxLen at hcm; omega
 have hneg:¬ (l.length:Int)<0:=by omega
 have hrun:(Builtin.unsafeString_ #[pt,it] ty #[.pointer (some ⟨I,off,none⟩),.int .i64 l.length]).run x.P w=.ok (.string (xV l)) (w.freeze ⟨I,off,none⟩ l.length):=by
  have hdef:Builtin.unsafeString_ #[pt,it] ty #[.pointer (some ⟨I,off,none⟩),.int .i64 l.length] =
    (do
     let n <- asInt (.int .i64 l.length)
     if n<0 then runtimePanic (.error "unsafe.String: len out of range")
     if n > i64.max then unsupported (.unsafePointer "String: a length above the largest int")
     if n=0 then pure (.string .empty)
     else if <- variablesAt ⟨I,off,none⟩ (<- elemOf pt) n.toNat then do
      let s <- loadBytes ⟨I,off,none⟩ .empty n.toNat
      freeze ⟨I,off,none⟩ n.toNat
      pure (.string s)
     else unsupported (.unsafePointer "String: not so many bytes at ptr")):=rfl
  rw [hdef];have he0:ByteArray.empty.data=#[]:=rfl;simp [asInt,asIntOf,hmax,h63',hneg,hl0,variablesAt,hsh,elemOf,Tj hp,hlies,hlb,xV]
 have hgr:w.grownBy (w.freeze ⟨I,off,none⟩ l.length) (some I):=by
  unfold World.freeze
  split
  ·exact ⟨rfl,rfl,rfl,R9 _,λ_ _ _=>rfl⟩
  ·exact ⟨rfl,rfl,rfl,by simp,λq hq hne=>by
    simp only [V8];rw [RS (by intro e; exact hne (by rw [e]))]⟩
 have h1:=ht.E1 (r':=.row (.slice none 0 0) 0 1 0 []) hgr (iW.nil _ _ _) (by intro b hb; simp [bN.zV,Value.ownBlock] at hb)
 refine ⟨.string (xV l),w.freeze ⟨I,off,none⟩ l.length,?_,H,M,h1.tail,k⟩;simp [execOp,resolve,invoke,builtin,hsl.ev hy,hsl.ev hz,hrun]
end
end Go.Sim
namespace Go.Sim
open Go
open _root_.Go.IntKind (i64 u64 u32 u8)
def rowsOf (T:TypeId) (sz:Nat) {α:Type} (ws:List (RJ×List RJ)) (ls:List (List α)):List bN:=List.zipWith (λw l=>bN.row w.1 T sz l.length w.2) ws ls
structure Mx {α:Type}[aF α] (T1 T2:TypeId) (H:Hp) (v:RJ) (hs:List RJ) (mx:List bN) (sg:List Nat) (ls:List (List α)):Prop where
 ex:∃ (xs:List RJ) (ws:List (RJ×List RJ)),mx=.row v T1 1 sg.length xs::rowsOf T2 (aF.sz α) ws ls/\ws.length=ls.length/\ws.map (·.1)=hs/\(∀ (k:Nat) (w:RJ×List RJ) (l:List α),ws[k]? = some w->ls[k]? = some l->Rw H w.1 w.2 l) /\
  xs.length=sg.length/\(∀ (i k:Nat),sg[i]? = some k->∃ w:RJ×List RJ,ws[k]? = some w/\xs[i]? = some w.1)
 sl:∃ a n c,v=.slice a n c
section
variable {α:Type}[aF α] {T1 T2:TypeId}{H H':Hp}{v:RJ}{hs:List RJ}{mx:List bN}{sg:List Nat}{ls:List (List α)}
theorem Mx.mono (h:Mx T1 T2 H v hs mx sg ls) (J:H.le H'):Mx T1 T2 H' v hs mx sg ls:=by
 obtain ⟨xs,ws,Y,Z,I,h3,h4,h5⟩:=h.ex;exact ⟨⟨xs,ws,Y,Z,I,λk w l a b=>(h3 k w l a b).mono J,h4,h5⟩,h.sl⟩
theorem GS {ws:List (RJ×List RJ)}{k:Nat}{w:RJ} (J:ws.map (·.1)=hs) (I:hs[k]? = some w):∃ u,ws[k]? = some u/\u.1=w:=by
 rw [<- J,Sq] at I;cases e:ws[k]? with
 | none=>rw [e] at I; simp at I
 | some u=>rw [e] at I; exact ⟨u,rfl,RQ I⟩
theorem Mx.row (h:Mx T1 T2 H v hs mx sg ls) {k:Nat}{w:RJ} (hw:hs[k]? = some w):∃ (xs:List RJ) (m1 m2:List bN),k<ls.length/\mx=m1++.row w T2 (aF.sz α) ((ls[k]?).getD []).length xs::m2/\Rw H w xs ((ls[k]?).getD []) /\
  ∀ (H':Hp) (I:List RJ) (l':List α),H.le H'->Rw H' w I l'->Mx T1 T2 H' v hs (m1++.row w T2 (aF.sz α) l'.length I::m2) sg (ls.set k l'):=by
 obtain ⟨oxs,ws,rfl,h2,h2',h3,h4,h5⟩:=h.ex;have hh:=hw;clear hw;obtain ⟨w,hw,rfl⟩:=GS h2' hh;have J:k<ws.length:=(RP.1 hw).1;have hk:k<ls.length:=by omega
 have hl:=RK hk;have hwe:ws[k]=w:=by rw [RK J] at hw; exact RQ hw
 have hsp:∀ (ws:List (RJ×List RJ)) (ls:List (List α)) (h1:k<ws.length) (h2:k<ls.length),rowsOf T2 (aF.sz α) ws ls=rowsOf T2 (aF.sz α) (ws.take k) (ls.take k)++.row ws[k].1 T2 (aF.sz α) ls[k].length ws[k].2::rowsOf T2 (aF.sz α) (ws.drop (k+1)) (ls.drop (k+1)):=λws ls h1 h2=>by
  have e1:ws=ws.take k++ws[k]::ws.drop (k+1):=by rw [<- Si h1,Te]
  have e2:ls=ls.take k++ls[k]::ls.drop (k+1):=by rw [<- Si h2,Te]
  have e3:rowsOf T2 (aF.sz α) ws ls=rowsOf T2 (aF.sz α) (ws.take k++ws[k]::ws.drop (k+1)) (ls.take k++ls[k]::ls.drop (k+1)):=by rw [<- e1,<- e2]
  rw [e3];unfold rowsOf;rw [U4 (by simp; omega)]
  rfl
 have hg:(ls[k]?).getD []=ls[k]:=by rw [hl]; rfl
 rw [hg];refine ⟨w.2,.row v T1 1 sg.length oxs::rowsOf T2 (aF.sz α) (ws.take k) (ls.take k),rowsOf T2 (aF.sz α) (ws.drop (k+1)) (ls.drop (k+1)),hk,?_,h3 k w _ hw hl,λH' I l' hle hr=>⟨⟨oxs,ws.set k (w.1,I),?_,by simp [h2],?_,λj u l Z Y=>?_,h4,λi' j hj=>?_⟩,h.sl⟩⟩
 ·rw [hsp ws ls J hk,hwe]; rfl
 ·rw [hsp (ws.set k (w.1,I)) (ls.set k l') (by simpa using J) (by simpa using hk)]
  have t1:(ws.set k (w.1,I)).take k=ws.take k:=UA (R9 k);have t2:(ls.set k l').take k=ls.take k:=UA (R9 k);have t3:(ws.set k (w.1,I)).drop (k+1)=ws.drop (k+1):=TP (Tq k);have t4:(ls.set k l').drop (k+1)=ls.drop (k+1):=TP (Tq k);rw [t1,t2,t3,t4];simp
 ·rw [List.map_set,h2']
  obtain ⟨e1,e2⟩:=RP.1 hh;rw [<- e2,V_]
 ·by_cases e:k=j
  ·subst e
   rw [Sp J] at Z;rw [Sp hk] at Y;obtain rfl:=RQ Z;obtain rfl:=RQ Y;exact hr
  ·rw [Sh e] at Z Y
   exact (h3 j u l Z Y).mono hle
 ·obtain ⟨u,Z,hx'⟩:=h5 i' j hj
  by_cases e:k=j
  ·subst e
   rw [hw] at Z;obtain rfl:=RQ Z;exact ⟨(w.1,I),by rw [Sp J],hx'⟩
  ·exact ⟨u,by rw [Sh e]; exact Z,hx'⟩
theorem Mx.outer (h:Mx T1 T2 H v hs mx sg ls):∃ J m2,mx=.row v T1 1 sg.length J::m2/\J.length=sg.length/\(∀ (i k:Nat),sg[i]? = some k->∃ w,hs[k]? = some w/\J[i]? = some w) /\
  (∀ (i k:Nat) (w:RJ),i<sg.length->hs[k]? = some w->Mx T1 T2 H v hs (.row v T1 1 (sg.set i k).length (J.set i w)::m2) (sg.set i k) ls) /\
  (∀ (i:Nat) (w:RJ) (xs:List RJ) (l:List α),i<sg.length->Rw H w xs l->Mx T1 T2 H v (hs++[w]) (.row v T1 1 (sg.set i ls.length).length (J.set i w)::(m2++[.row w T2 (aF.sz α) l.length xs])) (sg.set i ls.length) (ls++[l])):=by
 obtain ⟨J,ws,rfl,h2,h2',h3,h4,h5⟩:=h.ex;refine ⟨J,_,rfl,h4,λi k hk=>?_,λi k w hi hw=>?_,λi w xs l hi hr=>?_⟩
 ·obtain ⟨u,Y,hx⟩:=h5 i k hk
  exact ⟨u.1,by rw [<- h2',Sq,Y]; rfl,hx⟩
 ·obtain ⟨u,Y,rfl⟩:=GS h2' hw
  refine ⟨⟨J.set i u.1,ws,rfl,h2,h2',h3,by simp [h4],λi' k' I=>?_⟩,h.sl⟩
  by_cases e:i=i'
  ·subst e
   rw [Sp hi] at I;obtain rfl:=RQ I;exact ⟨u,Y,by rw [Sp (by omega)]⟩
  ·rw [Sh e] at I
   obtain ⟨u',hu',hx'⟩:=h5 i' k' I;exact ⟨u',hu',by rw [Sh e]; exact hx'⟩
 ·refine ⟨⟨J.set i w,ws++[(w,xs)],?_,by simp [h2],by simp [h2'],λj u l' Y Z=>?_,by simp [h4],λi' k' I=>?_⟩,h.sl⟩
  ·unfold rowsOf
   rw [U4 h2]
   rfl
  ·rcases TF j ls.length with hj | hj
   ·rw [S4 (by omega)] at Y Z
    exact h3 j u l' Y Z
   ·rw [Sv (by omega)] at Y Z
    rw [h2] at Y;cases e:j-ls.length with
    | zero=>
     rw [e] at Y Z;obtain rfl:=RQ Y;obtain rfl:=RQ Z;exact hr
    | succ m=>rw [e] at Y; simp at Y
  ·by_cases e:i=i'
   ·subst e
    rw [Sp hi] at I;obtain rfl:=RQ I;exact ⟨(w,xs),by rw [Sv (by omega),h2,S7]; rfl,by rw [Sp (by omega)]⟩
   ·rw [Sh e] at I
    obtain ⟨u',hu',hx'⟩:=h5 i' k' I;exact ⟨u',by rw [S4 (RP.1 hu').1]; exact hu',by rw [Sh e]; exact hx'⟩
end
structure IC where
 mk ::
instance:aF IC where
 sz:=1
 E _ cs _:=cs=[.slice none 0 0]
 len h:=by rw [h]; rfl
 mono _ h:=h
 one h c hc:=by rw [h] at hc; simp at hc; subst hc; rfl
theorem CB {H:Hp}:∀ {n:Nat}{xs:List RJ},pX H xs (List.replicate n IC.mk)->xs=List.replicate n (.slice none 0 0)
 | 0,xs,h=>h
 | n+1,xs,h=>by
  obtain ⟨cs,r,rfl,he,I⟩:=h;have he:cs=[.slice none 0 0]:=he;rw [he,CB I]; rfl
section
variable {α:Type}[aF α] {T1 T2:TypeId}{H H':Hp}{v:RJ}{hs:List RJ}{mx:List bN}{sg:List Nat}{ls:List (List α)}
theorem Mx.make {n:Nat}{I:List RJ} (h:Rw H v I (List.replicate n IC.mk)):Mx T1 T2 H v [.slice none 0 0] (.row v T1 1 (List.replicate n 0).length I::[.row (.slice none 0 0) T2 (aF.sz α) 0 []]) (List.replicate n 0) ([[]]:List (List α)):=by
 have Y:=CB h.rd;refine ⟨⟨I,[(.slice none 0 0,[])],rfl,rfl,rfl,λk w l J hl=>?_,by rw [Y]; simp,λi k Z=>?_⟩,h.sl⟩
 ·cases k with
  | zero=>
   obtain rfl:=RQ J;obtain rfl:=RQ hl;exact Rw.nil
  | succ k=>simp at J
 ·obtain ⟨hi,he⟩:=RP.1 Z
  rw [List.getElem_replicate] at he;subst he;refine ⟨_,rfl,?_⟩;rw [Y,Uk,RU (by simpa using hi)]
theorem Cf {B:Nat}{w0 w:World}{M:List bN} (hs:0<aF.sz α):∀ (ws:List (RJ×List RJ)) (ls:List (List α)) (H:Hp),ws.length=ls.length ->
  (∀ (k:Nat) (u:RJ×List RJ) (l:List α),ws[k]? = some u->ls[k]? = some l->Rw H u.1 u.2 l)->St B w0 H (rowsOf T2 (aF.sz α) ws ls++M) w ->
  ∃ H',H.le H'/\St B w0 H' M w/\∀ (k:Nat) (u:RJ×List RJ) (l:List α),ws[k]? = some u->ls[k]? = some l->aP H' u.1 l
 | [],[],H,_,_,ht=>⟨H,SN _,ht,λk u l J _=>by simp at J⟩
 | [],_::_,H,hl,_,_=>by simp at hl
 | _::_,[],H,hl,_,_=>by simp at hl
 | u::ws,l::ls,H,hl,hr,ht=>by
  have ht:St B w0 H (.row u.1 T2 (aF.sz α) l.length u.2::(rowsOf T2 (aF.sz α) ws ls++M)) w:=ht;obtain ⟨H1,h1,h2,h3⟩:=ht.w7 (hr 0 u l rfl rfl).rd hs;obtain ⟨H2,Z,g2,g3⟩:=Cf hs ws ls H1 (by simpa using hl) (λk Y l' J I=>(hr (k+1) Y l' (by simpa using J) (by simpa using I)).mono h1) h2
  refine ⟨H2,Vx h1 Z,g2,λk Y l' J I=>?_⟩;cases k with
  | zero=>
   obtain rfl:=RQ J;obtain rfl:=RQ I;exact h3.mono Z
  | succ k=>exact g3 k Y l' (by simpa using J) (by simpa using I)
theorem DH {H:Hp}:∀ (xs:List RJ) (l:List (List α)),xs.length=l.length->(∀ (i:Nat) (y:RJ) (e:List α),xs[i]? = some y->l[i]? = some e->aP H y e)->pX H xs l
 | [],[],_,_=>rfl
 | [],_::_,h,_=>by simp at h
 | _::_,[],h,_=>by simp at h
 | y::xs,e::l,h,hr=>⟨[y],xs,rfl,⟨y,rfl,hr 0 y e rfl rfl⟩,DH xs l (by simpa using h) (λi Y I J he=>hr (i+1) Y I (by simpa using J) (by simpa using he))⟩
def sh (sg:List Nat) (ls:List (List α)):List (List α):=sg.map λk=>(ls[k]?).getD []
theorem St.FA {B:Nat}{w0 w:World}{M:List bN} (ht:St B w0 H (mx++M) w) (h:Mx T1 T2 H v hs mx sg ls) (h0:0<aF.sz α):∃ H',H.le H'/\St B w0 H' M w/\aP H' v (sh sg ls):=by
 obtain ⟨I,ws,rfl,h2,_,h3,h4,h5⟩:=h.ex;have ht1:St B w0 H (rowsOf T2 (aF.sz α) ws ls++(.row v T1 1 sg.length I::M)) w:=ht.perm (by
  rw [TD];exact List.perm_middle.symm)
 obtain ⟨H1,g1,g2,g3⟩:=Cf h0 ws ls H h2 h3 ht1;have hv:(sh sg ls).length=sg.length:=by unfold sh; simp
 have hrd:pX H1 I (sh sg ls):=DH I _ (by rw [hv]; exact h4) (λi y e hy he=>by
  unfold sh at he;rw [Sq] at he;cases Y:sg[i]? with
  | none=>rw [Y] at he; simp at he
  | some k=>
   rw [Y] at he;obtain ⟨u,hu,hx⟩:=h5 i k Y;rw [hy] at hx;obtain rfl:=RQ hx;have Z:k<ls.length:=by rw [<- h2]; exact (RP.1 hu).1
   have hl:=RK Z;simp only [Td,Sa] at he;rw [hl,TO] at he;rw [<- he];exact g3 k u _ hu hl)
 have J:St B w0 H1 (.row v T1 (aF.sz (List α)) sg.length I::M) w:=g2;obtain ⟨H2,k1,k2,k3⟩:=J.w7 hrd Nat.one_pos;exact ⟨H2,Vx g1 k1,k2,k3⟩
end
section
variable {x:Cx}{ops:Array Oper}{Q:lU}{rest:List Oper}{H:Hp}{M:List bN}{L:Env}
theorem Gu {α:Type}[aF α] {T1 T2:TypeId}{v:RJ}{hs:List RJ}{mx:List bN}{sg:List Nat}{ls:List (List α)} (h:Mx T1 T2 H v hs mx sg ls) (J:Nat.blt 0 (aF.sz α)=true)
  (k:∀ H',H.le H'->aP H' v (sh sg ls)->W x ops Q rest H' M L):W x ops Q rest H (mx++M) L:=by
 intro a w I ht;obtain ⟨H',Y,Z,h3⟩:=St.FA ht h (by simpa [SY] using J)
 exact k H' Y h3 a w I Z
variable {d:Nat}{ty:TypeId}{pos:String}{aft:Array Edge}{g:Option (Nat×Bool)}
theorem tF (pre J Y I:List bN) (r:bN):(pre++((J++r::Y)++I)).Perm (r::(pre++((J++Y)++I))):=by
 have Z:(pre++((J++r::Y)++I))=(pre++J)++r::(Y++I):=by simp
 have h2:(r::(pre++((J++Y)++I)))=r::((pre++J)++(Y++I)):=by simp
 rw [Z,h2];exact List.perm_middle
theorem Mx.get {α:Type}[aF α] {T1 T2:TypeId}{v:RJ}{hs:List RJ}{mx:List bN}{sg:List Nat}{ls:List (List α)} (h:Mx T1 T2 H v hs mx sg ls) {k:Nat}{w:RJ} (J:hs[k]? = some w):
  ∃ xs:List RJ,bN.row w T2 (aF.sz α) ((ls[k]?).getD []).length xs ∈ mx/\Rw H w xs ((ls[k]?).getD []):=by
 obtain ⟨xs,Y,Z,_,he,I,_⟩:=h.row J;exact ⟨xs,by rw [he]; exact SV _ (RR ..),I⟩
theorem tO {α:Type}[aF α] {T1 T2 T:TypeId}{m:Nat}{y z:Operand}{v u w:RJ}{ad:Addr}{hs cs:List RJ}{pre mx:List bN}{sg:List Nat}{ls:List (List α)}{k j:Nat}{e2:α}
  (h:Mx T1 T2 H v hs mx sg ls) (hx:hs[k]? = some w) (hj:j<((ls[k]?).getD []).length) (Y:aF.E H cs e2)
  (hg:gd ops L ⟨none,.store T y z,ty,pos,aft,g⟩=some true) (hn:∀ w,(sizeOf T).run x.P w=.ok m w) (O:m=aF.sz α) (h0:Nat.blt 0 (aF.sz α)=true)
  (hy:ev L y=some (.pointer (some ad))) (Z:ad=(Value.base w).add (j*aF.sz α)) (hz:ev L z=some u) (hv:u.cells=cs.toArray)
  (kk:∀ J,Mx T1 T2 H v hs J sg (ls.set k (((ls[k]?).getD []).set j e2))->W x ops Q rest H (pre++(J++M)) L):
  W x ops Q (⟨none,.store T y z,ty,pos,aft,g⟩::rest) H (pre++(mx++M)) L:=by
 obtain ⟨xs,m1,m2,hk,rfl,hr,hup⟩:=h.row hx;have hcl:=aF.len Y;have hs':0<aF.sz α:=by simpa [SY] using h0
 have he:=RK hj;obtain ⟨c,hc,hgc⟩:=hr.elem he;have hccl:=aF.len hc;have ho:over c 0 cs=cs:=by
  rw [xH cs c 0 (by omega),VU,Tn,List.drop_eq_nil_of_le (by omega),Ss]
 obtain ⟨p1,_,_⟩:=Rw.put (k:=j) (o:=0) (e2:=e2) hr he hc hgc (by simp [Uh]; omega) ho Y
 have I:j*aF.sz α+cs.length<=xs.length:=by
  have hlen:=hr.rd.len;have:(j+1)*aF.sz α<=((ls[k]?).getD []).length*aF.sz α:=R8 _ hj;rw [Sd,Vy] at this;omega
 refine oB (tF pre m1 m2 M _) ?_;refine yk (i:=j*aF.sz α) (cs:=cs) hg hn hy Z hz hv (by omega) I (by simp [SY]; omega) (aF.one Y) ?_
 have h2:=hup H _ _ (SN _) p1;rw [SO,Tl] at h2;refine oB (tF pre m1 m2 M _).symm ?_;exact kk _ h2
theorem HD {α:Type}[aF α] {T1 T2 T:TypeId}{y z:Operand}{v w:RJ}{ad:Addr}{hs:List RJ}{pre mx:List bN}{sg:List Nat}{ls:List (List α)}{i k:Nat}
  (h:Mx T1 T2 H v hs mx sg ls) (hi:i<sg.length) (hx:hs[k]? = some w)
  (hg:gd ops L ⟨none,.store T y z,ty,pos,aft,g⟩=some true) (hn:∀ w,(sizeOf T).run x.P w=.ok 1 w)
  (hy:ev L y=some (.pointer (some ad))) (Z:ad=(Value.base v).add (i*1)) (hz:ev L z=some w)
  (kk:∀ J,Mx T1 T2 H v hs J (sg.set i k) ls->W x ops Q rest H (pre++(J++M)) L):
  W x ops Q (⟨none,.store T y z,ty,pos,aft,g⟩::rest) H (pre++(mx++M)) L:=by
 obtain ⟨_,_,_,_,_,hr,_⟩:=h.row hx;obtain ⟨Y,m2,rfl,hl,_,I,_⟩:=h.outer;refine oB (tF pre [] m2 M _) ?_;refine yk (i:=i*1) (cs:=[w]) hg hn hy Z hz hr.cells rfl (by simp; omega) rfl (λc hc=>by simp at hc; subst hc; exact hr.one) ?_
 have h2:=I i k w hi hx;rw [SO] at h2;have e:over Y (i*1) [w]=Y.set i w:=by rw [Ud]; rfl
 rw [e];refine oB (tF pre [] m2 M _).symm ?_;exact kk _ h2
theorem DV {α:Type}[aF α] {T1 T2 T:TypeId}{y z:Operand}{v w:RJ}{ad:Addr}{hs xs:List RJ}{pre mx:List bN}{sg:List Nat}{ls:List (List α)}{l:List α}{i:Nat}
  (h:Mx T1 T2 H v hs mx sg ls) (hi:i<sg.length) (hr:Rw H w xs l)
  (hg:gd ops L ⟨none,.store T y z,ty,pos,aft,g⟩=some true) (hn:∀ w,(sizeOf T).run x.P w=.ok 1 w)
  (hy:ev L y=some (.pointer (some ad))) (had:ad=(Value.base v).add (i*1)) (hz:ev L z=some w)
  (kk:∀ Z,Mx T1 T2 H v (hs++[w]) Z (sg.set i ls.length) (ls++[l])->W x ops Q rest H (pre++(Z++M)) L):
  W x ops Q (⟨none,.store T y z,ty,pos,aft,g⟩::rest) H (.row w T2 (aF.sz α) l.length xs::(pre++(mx++M))) L:=by
 obtain ⟨I,J,rfl,hl,_,_,Y⟩:=h.outer;have p1:(bN.row w T2 (aF.sz α) l.length xs::(pre++((.row v T1 1 sg.length I::J)++M))).Perm (.row v T1 1 sg.length I::(.row w T2 (aF.sz α) l.length xs::(pre++(J++M)))):=
  ((tF pre [] J M _).cons _).trans (List.Perm.swap _ _ _)
 refine oB p1 ?_;refine yk (i:=i*1) (cs:=[w]) hg hn hy had hz hr.cells rfl (by simp; omega) rfl (λc hc=>by simp at hc; subst hc; exact hr.one) ?_
 have h2:=Y i w xs l hi hr;rw [SO] at h2;have e:over I (i*1) [w]=I.set i w:=by rw [Ud]; rfl
 rw [e];have p2:(bN.row v T1 1 sg.length (I.set i w)::(.row w T2 (aF.sz α) l.length xs::(pre++(J++M)))).Perm (pre++((.row v T1 1 sg.length (I.set i w)::(J++[.row w T2 (aF.sz α) l.length xs]))++M)):=by
  refine (tF pre [] (J++[.row w T2 (aF.sz α) l.length xs]) M _).trans ?_ |>.symm;refine List.Perm.cons _ ?_;have:=tF pre J [] M (.row w T2 (aF.sz α) l.length xs);simpa using this
 refine oB p2 ?_;exact kk _ h2
def uW (sz n:Nat):RJ->RJ
 | .slice (some ⟨b,off,sp⟩) len cap=>.slice (some ⟨b,if cap=n then off else off+n*sz,sp⟩) (len-n) (cap-n)
 | y=>y
theorem iW.sub {w:World}{T:TypeId}{sz n m:Nat}{v:RJ}{xs:List RJ} (h:iW w T sz v n xs) (O:m<=n):iW w T sz (uW sz m v) (n-m) (xs.drop (m*sz)):=by
 obtain ⟨hl,hh⟩:=h;refine ⟨by rw [Tg,hl,Nat.sub_mul],?_⟩
 rcases hh with ⟨rfl,h0⟩ | ⟨Y,off,cap,J,rfl,hg,hnc,hcm,hcs,I⟩
 ·exact .inl ⟨rfl,by omega⟩
 ·have h1:m*sz+(cap-m)*sz=cap*sz:=by rw [<- Sd,Nat.add_sub_cancel' (by omega)]
  have h2:m*sz+(n-m)*sz=n*sz:=by rw [<- Sd,Nat.add_sub_cancel' O]
  by_cases hc:cap=m
  ·have Z:n=m:=by omega
   refine .inr ⟨Y,off,cap-m,J,by show Value.slice (some ⟨Y,if cap=m then off else off+m*sz,none⟩) _ _=_; rw [RU hc],hg,by omega,by omega,by omega,?_⟩
   rw [<- I,Ug,Z,S7,S7,Tm,VU,VU]
  ·refine .inr ⟨Y,off+m*sz,cap-m,J,by show Value.slice (some ⟨Y,if cap=m then off else off+m*sz,none⟩) _ _=_; rw [RS hc],hg,by omega,by omega,by omega,?_⟩
   rw [<- I,Ug,TA]
   congr 1
   omega
theorem JE {sz m:Nat} (v:RJ):(uW sz m v).ownBlock=v.ownBlock:=by
 unfold uW
 split
 ·rename_i b off sp len cap
  cases sp <;> rfl
 ·rfl
theorem St.same {B:Nat}{w0 w:World}{r r':bN} (h:St B w0 H (r::M) w) (I:r'.ok w) (Y:r'.vD=r.vD):St B w0 H (r'::M) w:=by
 refine ⟨h.below,h.le,h.vp,λs hs=>?_,λs hs b J=>?_,?_⟩
 ·rcases SA.1 hs with rfl | hs
  ·exact I
  ·exact h.ok s (RV _ hs)
 ·rcases SA.1 hs with rfl | hs
  ·exact h.lo r (RR ..) b (by rw [<- Y]; exact J)
  ·exact h.lo s (RV _ hs) b J
 ·have:=h.nd
  simp only [S6,Y] at this ⊢;exact this
theorem Rw.sub {α:Type}[aF α] {v:RJ}{xs:List RJ}{l:List α} (h:Rw H v xs l) {m:Nat} (O:m<=l.length):Rw H (uW (aF.sz α) m v) (xs.drop (m*aF.sz α)) (l.drop m):=by
 refine ⟨?_,?_⟩
 ·have key:∀ (m:Nat) (xs:List RJ) (l:List α),pX H xs l->m<=l.length->pX H (xs.drop (m*aF.sz α)) (l.drop m):=by
   intro m
   induction m with
   | zero=>intro xs l h _; simpa using h
   | succ m ih=>
    intro xs l h O;cases l with
    | nil=>simp at O
    | cons e l=>
     obtain ⟨c,r,rfl,he,J⟩:=h;have I:=aF.len he;rw [Wq,Sd,Vy,Uo,<- TA,<- I,List.drop_left,I];exact ih r l J (by simpa using O)
  exact key m xs l h.rd O
 ·obtain ⟨a,n,c,rfl⟩:=h.sl
  cases a with
  | none=>exact ⟨_,_,_,rfl⟩
  | some ad=>obtain ⟨b,off,sp⟩:=ad; exact ⟨_,_,_,rfl⟩
theorem Ma {α:Type}[aF α] {T1 T2 T:TypeId}{y z:Operand}{v w:RJ}{ad:Addr}{hs:List RJ}{pre mx:List bN}{sg:List Nat}{ls:List (List α)}{i k n:Nat}
  (h:Mx T1 T2 H v hs mx sg ls) (hi:i<sg.length) (hx:hs[k]? = some w) (hn':n<=((ls[k]?).getD []).length) (hone:∀ j:Nat,sg[j]? = some k->j=i)
  (hg:gd ops L ⟨none,.store T y z,ty,pos,aft,g⟩=some true) (hn:∀ w,(sizeOf T).run x.P w=.ok 1 w)
  (hy:ev L y=some (.pointer (some ad))) (had:ad=(Value.base v).add (i*1)) (hz:ev L z=some (uW (aF.sz α) n w))
  (kk:∀ mx',Mx T1 T2 H v (hs.set k (uW (aF.sz α) n w)) mx' (sg.set i k) (ls.set k (((ls[k]?).getD []).drop n))->W x ops Q rest H (pre++(mx'++M)) L):
  W x ops Q (⟨none,.store T y z,ty,pos,aft,g⟩::rest) H (pre++(mx++M)) L:=by
 obtain ⟨I,ws,rfl,h2,h2',h3,h4,h5⟩:=h.ex;obtain ⟨u,hu,rfl⟩:=GS h2' hx;have Z:k<ws.length:=(RP.1 hu).1;have hk:k<ls.length:=by omega
 have hl:=RK hk;have hwe:ws[k]=u:=by rw [RK Z] at hu; exact RQ hu
 have hgd:(ls[k]?).getD []=ls[k]:=by rw [hl]; rfl
 rw [hgd] at hn' kk;have hr:=h3 k u _ hu hl;have hrs:=hr.sub hn';have hsp:∀ (ws:List (RJ×List RJ)) (ls:List (List α)) (h1:k<ws.length) (h2:k<ls.length),rowsOf T2 (aF.sz α) ws ls=rowsOf T2 (aF.sz α) (ws.take k) (ls.take k)++.row ws[k].1 T2 (aF.sz α) ls[k].length ws[k].2::rowsOf T2 (aF.sz α) (ws.drop (k+1)) (ls.drop (k+1)):=λws ls h1 h2=>by
  have e1:ws=ws.take k++ws[k]::ws.drop (k+1):=by rw [<- Si h1,Te]
  have e2:ls=ls.take k++ls[k]::ls.drop (k+1):=by rw [<- Si h2,Te]
  have e3:rowsOf T2 (aF.sz α) ws ls=rowsOf T2 (aF.sz α) (ws.take k++ws[k]::ws.drop (k+1)) (ls.take k++ls[k]::ls.drop (k+1)):=by rw [<- e1,<- e2]
  rw [e3];unfold rowsOf;rw [U4 (by simp; omega)]
  rfl
 generalize hA:rowsOf T2 (aF.sz α) (ws.take k) (ls.take k)=A at hsp;generalize hB:rowsOf T2 (aF.sz α) (ws.drop (k+1)) (ls.drop (k+1))=Bq at hsp;have hrows:rowsOf T2 (aF.sz α) ws ls=A++.row u.1 T2 (aF.sz α) ls[k].length u.2::Bq:=by
  rw [<- hA,<- hB];have e1:ws=ws.take k++ws[k]::ws.drop (k+1):=by rw [<- Si Z,Te]
  have e2:ls=ls.take k++ls[k]::ls.drop (k+1):=by rw [<- Si hk,Te]
  have e3:rowsOf T2 (aF.sz α) ws ls=rowsOf T2 (aF.sz α) (ws.take k++ws[k]::ws.drop (k+1)) (ls.take k++ls[k]::ls.drop (k+1)):=by rw [<- e1,<- e2]
  rw [e3];unfold rowsOf;rw [U4 (by simp; omega),<- hwe]
  rfl
 have hrows2:rowsOf T2 (aF.sz α) (ws.set k (uW (aF.sz α) n u.1,u.2.drop (n*aF.sz α))) (ls.set k (ls[k].drop n))=A++.row (uW (aF.sz α) n u.1) T2 (aF.sz α) (ls[k].drop n).length (u.2.drop (n*aF.sz α))::Bq:=by
  rw [<- hA,<- hB];have e1:ws.set k (uW (aF.sz α) n u.1,u.2.drop (n*aF.sz α))=ws.take k++(uW (aF.sz α) n u.1,u.2.drop (n*aF.sz α))::ws.drop (k+1):=by rw [UR,RU Z]
  have e2:ls.set k (ls[k].drop n)=ls.take k++ls[k].drop n::ls.drop (k+1):=by rw [UR,RU hk]
  rw [e1,e2];unfold rowsOf;rw [U4 (by simp; omega)]
  rfl
 have hnew:Mx T1 T2 H v (hs.set k (uW (aF.sz α) n u.1)) (.row v T1 1 (sg.set i k).length (I.set i (uW (aF.sz α) n u.1))::rowsOf T2 (aF.sz α) (ws.set k (uW (aF.sz α) n u.1,u.2.drop (n*aF.sz α))) (ls.set k (ls[k].drop n))) (sg.set i k) (ls.set k (ls[k].drop n)):=by
  refine ⟨⟨_,_,rfl,by simp [h2],by rw [List.map_set,h2'],λj u' l' J hl'=>?_,by simp [h4],λi' k' Y=>?_⟩,h.sl⟩
  ·by_cases e:k=j
   ·subst e
    rw [Sp Z] at J;rw [Sp hk] at hl';obtain rfl:=RQ J;obtain rfl:=RQ hl';exact hrs
   ·rw [Sh e] at J hl'
    exact h3 j u' l' J hl'
  ·by_cases e:i=i'
   ·subst e
    rw [Sp hi] at Y;obtain rfl:=RQ Y;exact ⟨_,by rw [Sp Z],by rw [Sp (by omega)]⟩
   ·rw [Sh e] at Y
    obtain ⟨u',J,hx'⟩:=h5 i' k' Y;have hne:k≠k':=λe2=>by subst e2; exact e (hone i' Y).symm
    exact ⟨u',by rw [Sh hne]; exact J,by rw [Sh e]; exact hx'⟩
 refine oB (tF pre [] (rowsOf T2 (aF.sz α) ws ls) M _) ?_;refine yk (i:=i*1) (cs:=[uW (aF.sz α) n u.1]) hg hn hy had hz hrs.cells rfl (by simp; omega) rfl (λc hc=>by simp at hc; subst hc; exact hrs.one) ?_
 have e:over I (i*1) [uW (aF.sz α) n u.1]=I.set i (uW (aF.sz α) n u.1):=by rw [Ud]; rfl
 rw [e];refine oB (tF pre [] (rowsOf T2 (aF.sz α) ws ls) M _).symm ?_;rw [Tn,hrows];have p1:(pre++((.row v T1 1 sg.length (I.set i (uW (aF.sz α) n u.1))::(A++.row u.1 T2 (aF.sz α) ls[k].length u.2::Bq))++M)).Perm (.row u.1 T2 (aF.sz α) ls[k].length u.2::(pre++(((.row v T1 1 sg.length (I.set i (uW (aF.sz α) n u.1))::A)++Bq)++M))):=
  tF pre (.row v T1 1 sg.length (I.set i (uW (aF.sz α) n u.1))::A) Bq M _
 refine oB p1 ?_;intro a w0' hsl ht;have hok:=ht.ok _ (RR ..);have hs2:St x.B x.w0 H (.row (uW (aF.sz α) n u.1) T2 (aF.sz α) (ls[k].drop n).length (u.2.drop (n*aF.sz α))::(pre++(((.row v T1 1 sg.length (I.set i (uW (aF.sz α) n u.1))::A)++Bq)++M))) w0':=by
  refine ht.same ?_ (R7 Option.toList (JE u.1));have h1:iW w0' T2 (aF.sz α) u.1 ls[k].length u.2:=hok;have:=h1.sub hn';rw [<- Tg] at this;exact this
 have p2:=(tF pre (.row v T1 1 sg.length (I.set i (uW (aF.sz α) n u.1))::A) Bq M (.row (uW (aF.sz α) n u.1) T2 (aF.sz α) (ls[k].drop n).length (u.2.drop (n*aF.sz α)))).symm;refine kk _ hnew a w0' hsl ?_;rw [hrows2,SO];exact hs2.perm p2
theorem J5 {α:Type}[aF α] {T2 t e:TypeId}{y lo:Operand}{w:RJ}{xs:List RJ}{l:List α}{n:Nat}{kk:IntKind}
  (O:bN.row w T2 (aF.sz α) l.length xs ∈ M) (hn:n<=l.length)
  (hg:gd ops L ⟨some d,.slice t y (some lo) none none,ty,pos,aft,g⟩=some true) (hN:Nat.blt d x.N=true)
  (hT:∀ w,(underlying t).run x.P w=.ok (.slice e) w) (hs:∀ w,(sizeOf e).run x.P w=.ok (aF.sz α) w) (hy:ev L y=some w) (J:ev L lo=some (.int kk (n:Int)))
  (k:W x ops Q rest H M ((d,uW (aF.sz α) n w)::L)):
  W x ops Q (⟨some d,.slice t y (some lo) none none,ty,pos,aft,g⟩::rest) H M L:=by
 intro a I Y ht;have hok:iW I T2 (aF.sz α) w l.length xs:=ht.ok _ O;rcases hok.2 with ⟨rfl,h0⟩ | ⟨gb,off,cap,cur,rfl,_,hnc,_⟩
 ·obtain rfl:n=0:=by omega
  exact ux (m:=0) (h:=0) (l:=0) hg hN hT hs hy (.inl rfl) (.inl ⟨rfl,rfl⟩) (.inl ⟨rfl,rfl⟩) (.inr ⟨lo,kk,_,rfl,J,Ub _,Ub _,rfl⟩) rfl k a I Y ht
 ·refine ux (m:=cap) (h:=l.length) (l:=n) hg hN hT hs hy (.inl rfl) (.inl ⟨rfl,rfl⟩) (.inl ⟨rfl,rfl⟩) (.inr ⟨lo,kk,_,rfl,J,by omega,by omega,by omega⟩) ?_ k a I Y ht
  show _=Value.slice (some ⟨gb,if cap=n then off else off+n*aF.sz α,none⟩) (l.length-n) (cap-n)
  by_cases Z:cap=n
  ·rw [RU Z,RU Z]
  ·rw [RS Z,RS Z]
   rw [Td,SU]
end
theorem ED (pre os mx M:List bN):(pre++(mx++(os++M))).Perm (pre++(os++(mx++M))):=
 List.Perm.append_left pre (List.perm_append_comm_assoc mx os M)
theorem Cz (pre mx M:List bN):(pre++(mx++M)).Perm (mx++(pre++M)):=List.perm_append_comm_assoc pre mx M
def lone (sg:List Nat) (i k:Nat):Bool:=(List.range sg.length).all λj=>sg[j]? != some k || j == i
theorem Jk {sg:List Nat}{i k:Nat} (h:lone sg i k=true) (j:Nat) (I:sg[j]? = some k):j=i:=by
 unfold lone at h;rw [S2] at h;have hl:=(RP.1 I).1;have:=h j (by simpa using hl)
 rw [I] at this;simpa using this
theorem MJ {sg:List Nat}{i k:Nat} (h:∀ j,sg[j]? = some k->j=i):lone sg i k=true:=by
 unfold lone;rw [S2];intro j I
 by_cases e:sg[j]? = some k
 ·simp [h j e]
 ·simp [e]
section
variable {x:Cx}{ops:Array Oper}{Q:lU}{rest:List Oper}{H:Hp}{M:List bN}{L:Env}{d:Nat}{ty:TypeId}{pos:String}{aft:Array Edge}{g:Option (Nat×Bool)}
variable {α:Type}[aF α] {T1 T2:TypeId}{v:RJ}{hs:List RJ}{mx:List bN}{sg:List Nat}{ls:List (List α)}
theorem yJ {t e:TypeId}{y:Operand} (h:Mx T1 T2 H v hs mx sg ls) (I:∀ s ∈ mx,s ∈ M) (Y:gd ops L ⟨some d,.call ⟨.builtin .len,#[y],#[t]⟩,ty,pos,aft,g⟩=some true) (hN:Nat.blt d x.N=true)
  (J:∀ w,(underlying t).run x.P w=.ok (.slice e) w) (Z:ev L y=some v) (k:W x ops Q rest H M ((d,.int .i64 (sg.length:Int))::L)):
  W x ops Q (⟨some d,.call ⟨.builtin .len,#[y],#[t]⟩,ty,pos,aft,g⟩::rest) H M L:=by
 obtain ⟨oxs,m2,he,_⟩:=h.outer;exact BP (I _ (by rw [he]; exact RR ..)) Y hN J Z k
theorem eH {t e:TypeId}{y z:Operand}{kk:IntKind}{i:Int}{p:Nat} (h:Mx T1 T2 H v hs mx sg ls) (I:∀ s ∈ mx,s ∈ M)
  (hg:gd ops L ⟨some d,.indexAddr t y z,ty,pos,aft,g⟩=some true) (hN:Nat.blt d x.N=true)
  (hT:∀ w,(underlying t).run x.P w=.ok (.slice e) w) (J:∀ w,(sizeOf e).run x.P w=.ok 1 w)
  (hy:ev L y=some v) (hz:ev L z=some (.int kk i)) (Y:0<=i) (Z:sg[i.toNat]? = some p)
  (k:W x ops Q rest H M ((d,.pointer (some ((Value.base v).add (i.toNat*1))))::L)):
  W x ops Q (⟨some d,.indexAddr t y z,ty,pos,aft,g⟩::rest) H M L:=by
 obtain ⟨oxs,m2,he,_⟩:=h.outer;exact zO (I _ (by rw [he]; exact RR ..)) hg hN hT J hy hz Y (RP.1 Z).1 k
theorem iN {T:TypeId}{y:Operand}{ad:Addr}{i p:Nat} (h:Mx T1 T2 H v hs mx sg ls) (J:∀ s ∈ mx,s ∈ M) (Z:sg[i]? = some p)
  (hg:gd ops L ⟨some d,.load T y,ty,pos,aft,g⟩=some true) (hN:Nat.blt d x.N=true)
  (hT:∀ w,(isAgg T).run x.P w=.ok false w) (hy:ev L y=some (.pointer (some ad))) (Y:ad=(Value.base v).add (i*1))
  (k:∀ w,hs[p]? = some w->W x ops Q rest H M ((d,w)::L)):W x ops Q (⟨some d,.load T y,ty,pos,aft,g⟩::rest) H M L:=by
 obtain ⟨oxs,m2,he,_,I,_⟩:=h.outer;obtain ⟨w,hw,hx⟩:=I i p Z;subst Y;refine pM hg hN hT hy (CQ (J _ (by rw [he]; exact RR ..)) ?_) (k w hw)
 rw [Ud]; exact hx
theorem HB {t e:TypeId}{y:Operand}{w:RJ}{p:Nat} (h:Mx T1 T2 H v hs mx sg ls) (I:∀ s ∈ mx,s ∈ M) (Z:hs[p]? = some w) (Y:gd ops L ⟨some d,.call ⟨.builtin .len,#[y],#[t]⟩,ty,pos,aft,g⟩=some true) (hN:Nat.blt d x.N=true)
  (J:∀ w,(underlying t).run x.P w=.ok (.slice e) w) (hy:ev L y=some w) (k:W x ops Q rest H M ((d,.int .i64 (((ls[p]?).getD []).length:Int))::L)):
  W x ops Q (⟨some d,.call ⟨.builtin .len,#[y],#[t]⟩,ty,pos,aft,g⟩::rest) H M L:=by
 obtain ⟨xs,O,_⟩:=h.get Z;exact BP (I _ O) Y hN J hy k
theorem jM {t e:TypeId}{y z:Operand}{kk:IntKind}{j:Int}{w:RJ}{p n:Nat}{a:α} (h:Mx T1 T2 H v hs mx sg ls) (I:∀ s ∈ mx,s ∈ M) (hw:hs[p]? = some w)
  (hg:gd ops L ⟨some d,.indexAddr t y z,ty,pos,aft,g⟩=some true) (hN:Nat.blt d x.N=true)
  (hT:∀ w,(underlying t).run x.P w=.ok (.slice e) w) (J:∀ w,(sizeOf e).run x.P w=.ok n w) (hn:n=aF.sz α)
  (hy:ev L y=some w) (hz:ev L z=some (.int kk j)) (Y:0<=j) (Z:((ls[p]?).getD [])[j.toNat]? = some a)
  (k:W x ops Q rest H M ((d,.pointer (some ((Value.base w).add (j.toNat*aF.sz α))))::L)):
  W x ops Q (⟨some d,.indexAddr t y z,ty,pos,aft,g⟩::rest) H M L:=by
 subst hn;obtain ⟨xs,O,_⟩:=h.get hw;exact zO (I _ O) hg hN hT J hy hz Y (RP.1 Z).1 k
theorem qO {T:TypeId}{y:Operand}{ad:Addr}{w:RJ}{p j n:Nat}{a:α} (h:Mx T1 T2 H v hs mx sg ls) (I:∀ s ∈ mx,s ∈ M) (hw:hs[p]? = some w) (h1:((ls[p]?).getD [])[j]? = some a)
  (hg:gd ops L ⟨some d,.load T y,ty,pos,aft,g⟩=some true) (hN:Nat.blt d x.N=true)
  (hT:∀ w,(isAgg T).run x.P w=.ok true w) (hn:∀ w,(sizeOf T).run x.P w=.ok n w) (Y:n=aF.sz α) (hy:ev L y=some (.pointer (some ad))) (J:ad=(Value.base w).add (j*aF.sz α))
  (k:∀ cs,aF.E H cs a->W x ops Q rest H M ((d,.agg cs.toArray)::L)):W x ops Q (⟨some d,.load T y,ty,pos,aft,g⟩::rest) H M L:=by
 subst Y;subst J;obtain ⟨xs,O,hr⟩:=h.get hw;obtain ⟨c,Z,hc⟩:=hr.elem h1;exact jN hg hN hT hn hy (yP (I _ O) hc) (aF.len Z) (k c Z)
theorem J4 {t e:TypeId}{y lo:Operand}{w:RJ}{p n:Nat}{j:Int}{kk:IntKind} (h:Mx T1 T2 H v hs mx sg ls) (I:∀ s ∈ mx,s ∈ M) (hw:hs[p]? = some w) (Z:0<=j) (h1:j<=(((ls[p]?).getD []).length:Int))
  (hg:gd ops L ⟨some d,.slice t y (some lo) none none,ty,pos,aft,g⟩=some true) (hN:Nat.blt d x.N=true)
  (hT:∀ w,(underlying t).run x.P w=.ok (.slice e) w) (Y:∀ w,(sizeOf e).run x.P w=.ok n w) (hn:n=aF.sz α) (hy:ev L y=some w) (J:ev L lo=some (.int kk j))
  (k:W x ops Q rest H M ((d,uW (aF.sz α) j.toNat w)::L)):
  W x ops Q (⟨some d,.slice t y (some lo) none none,ty,pos,aft,g⟩::rest) H M L:=by
 subst hn;obtain ⟨xs,O,hr⟩:=h.get hw;exact J5 (l:=(ls[p]?).getD []) (n:=j.toNat) (I _ O) (by omega) hg hN hT Y hy (by rw [J,UZ Z]) k
theorem A1 {pre:List bN} (h:Mx T1 T2 H v hs mx sg ls) (I:Nat.blt 0 (aF.sz α)=true)
  (k:∀ H',H.le H'->aP H' v (sh sg ls)->W x ops Q rest H' (pre++M) L):W x ops Q rest H (pre++(mx++M)) L:=
 oB (Cz pre mx M) (Gu h I k)
theorem AY {e:Exit}{pre:List bN} (h:Mx T1 T2 H v hs mx sg ls) (J:Nat.blt 0 (aF.sz α)=true)
  (k:∀ H',H.le H'->aP H' v (sh sg ls)->E x e Q H' (pre++M) L):E x e Q H (pre++(mx++M)) L:=by
 refine Gn (Cz pre mx M) ?_;intro a w I ht;obtain ⟨H',Y,Z,h3⟩:=St.FA ht h (by simpa [SY] using J)
 exact k H' Y h3 a w I Z
theorem BS {t e:TypeId}{bytes:Nat}{y y2:Operand}{n:Int}{pre:List bN} (T2:TypeId) (α:Type) [aF α]
  (hg:gd ops L ⟨some d,.makeSlice t y y2,ty,pos,aft,g⟩=some true) (hN:Nat.blt d x.N=true)
  (hT:x.P.underlying t=some (.slice e)) (hi:Pf x.P e 1 bytes (.slice none 0 0)) (Y:Nat.blt 0 bytes=true)
  (hy:ev L y=some (.int .i64 n)) (Z:ev L y2=some (.int .i64 n)) (h0:0<=n) (hb:n*bytes<=140737488355328)
  (k:∀ v' I,Mx e T2 H v' [.slice none 0 0] I (List.replicate n.toNat 0) ([[]]:List (List α))->W x ops Q rest H (pre++(I++M)) ((d,v')::L)):
  W x ops Q (⟨some d,.makeSlice t y y2,ty,pos,aft,g⟩::rest) H (pre++M) L:=by
 refine eT (α:=IC) (zs:=[.slice none 0 0]) (ze:=IC.mk) hg hN hT hi rfl rfl Y rfl hy Z h0 hb ?_;intro v' J hr;refine zP T2 (aF.sz α) ?_;have O:=Mx.make (α:=α) (T1:=e) (T2:=T2) hr;refine oB (M':=pre++((.row v' e 1 (List.replicate n.toNat 0).length J::[.row (.slice none 0 0) T2 (aF.sz α) 0 []])++M)) ?_ (k v' _ O);have e1:(List.replicate n.toNat IC.mk).length=(List.replicate n.toNat 0).length:=by simp
 rw [e1];refine (List.Perm.swap _ _ _).trans ?_;exact (Cz pre [.row v' e 1 (List.replicate n.toNat 0).length J,.row (.slice none 0 0) T2 (aF.sz α) 0 []] M).symm
end
def Pj:List Int:=[1,10,100,1000,10000,100000,1000000,10000000,100000000,1000000000,10000000000,100000000000,1000000000000,10000000000000,100000000000000,1000000000000000,10000000000000000,100000000000000000,1000000000000000000,10000000000000000000]
def Qx:List Int:=[0,1,28,2,29,14,24,3,30,22,20,15,25,17,4,8,31,27,13,23,21,19,16,7,26,12,18,6,11,5,10,9]
def Qg:List Int:=[0,1,56,2,57,49,28,3,61,58,42,50,38,29,17,4,62,47,59,36,45,43,51,22,53,39,33,30,24,18,12,5,63,55,48,27,60,41,37,16,46,35,44,21,52,32,23,11,54,26,40,15,34,20,31,10,25,14,19,9,13,8,7,6]
structure aZ where
 Name:RI
 A:RI
 B_:RI
 xo:Bool
 Open:Bool
 deriving DecidableEq
instance:aF aZ where
 sz:=5
 E H cs x:=cs=[.string (x.Name),.string (x.A),.string (x.B_),.bool (x.xo),.bool (x.Open)]
 len h:=by obtain rfl:=h; rfl
 mono hle h:=by obtain rfl:=h; exact rfl
 one h:=by obtain rfl:=h; exact (cM rfl (cM rfl (cM rfl (cM rfl (cM rfl TB)))))
instance:Flat aZ:=⟨λh=>h⟩
structure aQ where
 Name:RI
 qe:RI
 To:RI
 X:Int
 C1:Int
 Shift:Int
 uu:Int
 yh:Int
 DR:Int
 deriving DecidableEq
instance:aF aQ where
 sz:=9
 E H cs x:=cs=[.string (x.Name),.string (x.qe),.string (x.To),.int .i64 (x.X),.int .i64 (x.C1),.int .i64 (x.Shift),.int .i64 (x.uu),.int .i64 (x.yh),.int .i64 (x.DR)]
 len h:=by obtain rfl:=h; rfl
 mono hle h:=by obtain rfl:=h; exact rfl
 one h:=by obtain rfl:=h; exact (cM rfl (cM rfl (cM rfl (cM rfl (cM rfl (cM rfl (cM rfl (cM rfl (cM rfl TB)))))))))
instance:Flat aQ:=⟨λh=>h⟩
structure bH where
 Name:RI
 Node:RI
 jC:Int
 rr:Int
 C5:Int
 deriving DecidableEq
instance:aF bH where
 sz:=5
 E H cs x:=cs=[.string (x.Name),.string (x.Node),.int .i64 (x.jC),.int .i64 (x.rr),.int .i64 (x.C5)]
 len h:=by obtain rfl:=h; rfl
 mono hle h:=by obtain rfl:=h; exact rfl
 one h:=by obtain rfl:=h; exact (cM rfl (cM rfl (cM rfl (cM rfl (cM rfl TB)))))
instance:Flat bH:=⟨λh=>h⟩
structure aH where
 Name:RI
 Node:RI
 c_:Int
 deriving DecidableEq
instance:aF aH where
 sz:=3
 E H cs x:=cs=[.string (x.Name),.string (x.Node),.int .i64 (x.c_)]
 len h:=by obtain rfl:=h; rfl
 mono hle h:=by obtain rfl:=h; exact rfl
 one h:=by obtain rfl:=h; exact (cM rfl (cM rfl (cM rfl TB)))
instance:Flat aH:=⟨λh=>h⟩
structure cJ where
 Name:RI
 Node:RI
 sZ:Int
 Discharge:Int
 vz:Int
 deriving DecidableEq
instance:aF cJ where
 sz:=5
 E H cs x:=cs=[.string (x.Name),.string (x.Node),.int .i64 (x.sZ),.int .i64 (x.Discharge),.int .i64 (x.vz)]
 len h:=by obtain rfl:=h; rfl
 mono hle h:=by obtain rfl:=h; exact rfl
 one h:=by obtain rfl:=h; exact (cM rfl (cM rfl (cM rfl (cM rfl (cM rfl TB)))))
instance:Flat cJ:=⟨λh=>h⟩
structure aD where
 bF:(List RI)
 aO:(List aZ)
 aJ:(List aQ)
 dS:(List bH)
 bE:(List aH)
 bW:(List cJ)
 deriving DecidableEq
instance:aF aD where
 sz:=6
 E H cs x:=∃ v0 v1 v2 v3 v4 v5:RJ,cs=[v0,v1,v2,v3,v4,v5]/\aP H v0 x.bF/\aP H v1 x.aO/\aP H v2 x.aJ/\aP H v3 x.dS/\aP H v4 x.bE/\aP H v5 x.bW
 len h:=by obtain ⟨v0,v1,v2,v3,v4,v5,rfl,h0,h1,h2,h3,h4,h5⟩:=h; rfl
 mono hle h:=by obtain ⟨v0,v1,v2,v3,v4,v5,rfl,h0,h1,h2,h3,h4,h5⟩:=h; exact ⟨v0,v1,v2,v3,v4,v5,rfl,h0.mono hle,h1.mono hle,h2.mono hle,h3.mono hle,h4.mono hle,h5.mono hle⟩
 one h:=by obtain ⟨v0,v1,v2,v3,v4,v5,rfl,h0,h1,h2,h3,h4,h5⟩:=h; exact (cM (aP.pA h0) (cM (aP.pA h1) (cM (aP.pA h2) (cM (aP.pA h3) (cM (aP.pA h4) (cM (aP.pA h5) TB))))))
structure bM where
 Kind:Int
 Name:RI
 A:Int
 B_:Int
 deriving DecidableEq
instance:aF bM where
 sz:=4
 E H cs x:=cs=[.int .i64 (x.Kind),.string (x.Name),.int .i64 (x.A),.int .i64 (x.B_)]
 len h:=by obtain rfl:=h; rfl
 mono hle h:=by obtain rfl:=h; exact rfl
 one h:=by obtain rfl:=h; exact (cM rfl (cM rfl (cM rfl (cM rfl TB))))
instance:Flat bM:=⟨λh=>h⟩
structure bA where
 Close:Bool
 Switch:RI
 xT:(List bM)
 deriving DecidableEq
instance:aF bA where
 sz:=3
 E H cs x:=∃ v2:RJ,cs=[.bool (x.Close),.string (x.Switch),v2]/\aP H v2 x.xT
 len h:=by obtain ⟨v2,rfl,h0⟩:=h; rfl
 mono hle h:=by obtain ⟨v2,rfl,h0⟩:=h; exact ⟨v2,rfl,h0.mono hle⟩
 one h:=by obtain ⟨v2,rfl,h0⟩:=h; exact (cM rfl (cM rfl (cM (aP.pA h0) TB)))
structure cK where
 bU:aD
 pL:(List bA)
 deriving DecidableEq
instance:aF cK where
 sz:=7
 E H cs x:=∃ v0 v1 v2 v3 v4 v5 v6:RJ,cs=[v0,v1,v2,v3,v4,v5,v6]/\aP H v0 x.bU.bF/\aP H v1 x.bU.aO/\aP H v2 x.bU.aJ/\aP H v3 x.bU.dS/\aP H v4 x.bU.bE/\aP H v5 x.bU.bW/\aP H v6 x.pL
 len h:=by obtain ⟨v0,v1,v2,v3,v4,v5,v6,rfl,h0,h1,h2,h3,h4,h5,h6⟩:=h; rfl
 mono hle h:=by obtain ⟨v0,v1,v2,v3,v4,v5,v6,rfl,h0,h1,h2,h3,h4,h5,h6⟩:=h; exact ⟨v0,v1,v2,v3,v4,v5,v6,rfl,h0.mono hle,h1.mono hle,h2.mono hle,h3.mono hle,h4.mono hle,h5.mono hle,h6.mono hle⟩
 one h:=by obtain ⟨v0,v1,v2,v3,v4,v5,v6,rfl,h0,h1,h2,h3,h4,h5,h6⟩:=h; exact (cM (aP.pA h0) (cM (aP.pA h1) (cM (aP.pA h2) (cM (aP.pA h3) (cM (aP.pA h4) (cM (aP.pA h5) (cM (aP.pA h6) TB)))))))
structure aE where
 Time:Int
 Kind:RI
 Name:RI
 Value:Int
 deriving DecidableEq
instance:aF aE where
 sz:=4
 E H cs x:=cs=[.int .i64 (x.Time),.string (x.Kind),.string (x.Name),.int .i64 (x.Value)]
 len h:=by obtain rfl:=h; rfl
 mono hle h:=by obtain rfl:=h; exact rfl
 one h:=by obtain rfl:=h; exact (cM rfl (cM rfl (cM rfl (cM rfl TB))))
instance:Flat aE:=⟨λh=>h⟩
structure aC where
 minus:Bool
 words:(List bR)
 deriving DecidableEq
instance:aF aC where
 sz:=2
 E H cs x:=∃ v1:RJ,cs=[.bool (x.minus),v1]/\aP H v1 x.words
 len h:=by obtain ⟨v1,rfl,h0⟩:=h; rfl
 mono hle h:=by obtain ⟨v1,rfl,h0⟩:=h; exact ⟨v1,rfl,h0.mono hle⟩
 one h:=by obtain ⟨v1,rfl,h0⟩:=h; exact (cM rfl (cM (aP.pA h0) TB))
structure aA where
 N:aC
 D:aC
 deriving DecidableEq
instance:aF aA where
 sz:=4
 E H cs x:=∃ v1 v3:RJ,cs=[.bool (x.N.minus),v1,.bool (x.D.minus),v3]/\aP H v1 x.N.words/\aP H v3 x.D.words
 len h:=by obtain ⟨v1,v3,rfl,h0,h1⟩:=h; rfl
 mono hle h:=by obtain ⟨v1,v3,rfl,h0,h1⟩:=h; exact ⟨v1,v3,rfl,h0.mono hle,h1.mono hle⟩
 one h:=by obtain ⟨v1,v3,rfl,h0,h1⟩:=h; exact (cM rfl (cM (aP.pA h0) (cM rfl (cM (aP.pA h1) TB))))
structure bQ where
 lv:(List aQ)
 mr:(List aA)
 sU:(List Int)
 over:(List Bool)
 time:Int
 deriving DecidableEq
instance:aF bQ where
 sz:=5
 E H cs x:=∃ v0 v1 v2 v3:RJ,cs=[v0,v1,v2,v3,.int .i64 (x.time)]/\aP H v0 x.lv/\aP H v1 x.mr/\aP H v2 x.sU/\aP H v3 x.over
 len h:=by obtain ⟨v0,v1,v2,v3,rfl,h0,h1,h2,h3⟩:=h; rfl
 mono hle h:=by obtain ⟨v0,v1,v2,v3,rfl,h0,h1,h2,h3⟩:=h; exact ⟨v0,v1,v2,v3,rfl,h0.mono hle,h1.mono hle,h2.mono hle,h3.mono hle⟩
 one h:=by obtain ⟨v0,v1,v2,v3,rfl,h0,h1,h2,h3⟩:=h; exact (cM (aP.pA h0) (cM (aP.pA h1) (cM (aP.pA h2) (cM (aP.pA h3) (cM rfl TB)))))
structure cH where
 fP:(List RI)
 iI:(List RI)
 deriving DecidableEq
instance:aF cH where
 sz:=2
 E H cs x:=∃ v0 v1:RJ,cs=[v0,v1]/\aP H v0 x.fP/\aP H v1 x.iI
 len h:=by obtain ⟨v0,v1,rfl,h0,h1⟩:=h; rfl
 mono hle h:=by obtain ⟨v0,v1,rfl,h0,h1⟩:=h; exact ⟨v0,v1,rfl,h0.mono hle,h1.mono hle⟩
 one h:=by obtain ⟨v0,v1,rfl,h0,h1⟩:=h; exact (cM (aP.pA h0) (cM (aP.pA h1) TB))
structure aL where
 eV:(List aE)
 deriving DecidableEq
instance:aF aL where
 sz:=1
 E H cs x:=∃ v0:RJ,cs=[v0]/\aP H v0 x.eV
 len h:=by obtain ⟨v0,rfl,h0⟩:=h; rfl
 mono hle h:=by obtain ⟨v0,rfl,h0⟩:=h; exact ⟨v0,rfl,h0.mono hle⟩
 one h:=by obtain ⟨v0,rfl,h0⟩:=h; exact (cM (aP.pA h0) TB)
structure aT where
 cG:aD
 rules:(List bA)
 on:(List RI)
 held:(List RI)
 watch:bQ
 state:cH
 time:Int
 log:aL
 over:(List RI)
 deriving DecidableEq
structure aU where
 seen:(List (RI×Bool))
 nodes:(List RI)
 deriving DecidableEq
structure aY where
 qJ:(List Int)
 bO:(List Int)
 deriving DecidableEq
instance:aF aY where
 sz:=2
 E H cs x:=∃ v0 v1:RJ,cs=[v0,v1]/\aP H v0 x.qJ/\aP H v1 x.bO
 len h:=by obtain ⟨v0,v1,rfl,h0,h1⟩:=h; rfl
 mono hle h:=by obtain ⟨v0,v1,rfl,h0,h1⟩:=h; exact ⟨v0,v1,rfl,h0.mono hle,h1.mono hle⟩
 one h:=by obtain ⟨v0,v1,rfl,h0,h1⟩:=h; exact (cM (aP.pA h0) (cM (aP.pA h1) TB))
structure bY where
 a0:Int
 a1:Int
 deriving DecidableEq
instance:aF bY where
 sz:=2
 E H cs x:=cs=[.int .i64 (x.a0),.int .i64 (x.a1)]
 len h:=by obtain rfl:=h; rfl
 mono hle h:=by obtain rfl:=h; exact rfl
 one h:=by obtain rfl:=h; exact (cM rfl (cM rfl TB))
instance:Flat bY:=⟨λh=>h⟩
structure bL where
 jC:Int
 rr:Int
 c_:Int
 deriving DecidableEq
instance:aF bL where
 sz:=3
 E H cs x:=cs=[.int .i64 (x.jC),.int .i64 (x.rr),.int .i64 (x.c_)]
 len h:=by obtain rfl:=h; rfl
 mono hle h:=by obtain rfl:=h; exact rfl
 one h:=by obtain rfl:=h; exact (cM rfl (cM rfl (cM rfl TB)))
instance:Flat bL:=⟨λh=>h⟩
structure aX where
 wJ:aY
 qe:(List Int)
 To:(List Int)
 B_:(List aA)
 C:(List aA)
 rm:(List Int)
 rN:(List (List aA))
 deriving DecidableEq
instance:aF aX where
 sz:=8
 E H cs x:=∃ v0 v1 v2 v3 v4 v5 v6 v7:RJ,cs=[v0,v1,v2,v3,v4,v5,v6,v7]/\aP H v0 x.wJ.qJ/\aP H v1 x.wJ.bO/\aP H v2 x.qe/\aP H v3 x.To/\aP H v4 x.B_/\aP H v5 x.C/\aP H v6 x.rm/\aP H v7 x.rN
 len h:=by obtain ⟨v0,v1,v2,v3,v4,v5,v6,v7,rfl,h0,h1,h2,h3,h4,h5,h6,h7⟩:=h; rfl
 mono hle h:=by obtain ⟨v0,v1,v2,v3,v4,v5,v6,v7,rfl,h0,h1,h2,h3,h4,h5,h6,h7⟩:=h; exact ⟨v0,v1,v2,v3,v4,v5,v6,v7,rfl,h0.mono hle,h1.mono hle,h2.mono hle,h3.mono hle,h4.mono hle,h5.mono hle,h6.mono hle,h7.mono hle⟩
 one h:=by obtain ⟨v0,v1,v2,v3,v4,v5,v6,v7,rfl,h0,h1,h2,h3,h4,h5,h6,h7⟩:=h; exact (cM (aP.pA h0) (cM (aP.pA h1) (cM (aP.pA h2) (cM (aP.pA h3) (cM (aP.pA h4) (cM (aP.pA h5) (cM (aP.pA h6) (cM (aP.pA h7) TB))))))))
structure cS where
 n:aD
 on:(List RI)
 deriving DecidableEq
instance:aF cS where
 sz:=7
 E H cs x:=∃ v0 v1 v2 v3 v4 v5 v6:RJ,cs=[v0,v1,v2,v3,v4,v5,v6]/\aP H v0 x.n.bF/\aP H v1 x.n.aO/\aP H v2 x.n.aJ/\aP H v3 x.n.dS/\aP H v4 x.n.bE/\aP H v5 x.n.bW/\aP H v6 x.on
 len h:=by obtain ⟨v0,v1,v2,v3,v4,v5,v6,rfl,h0,h1,h2,h3,h4,h5,h6⟩:=h; rfl
 mono hle h:=by obtain ⟨v0,v1,v2,v3,v4,v5,v6,rfl,h0,h1,h2,h3,h4,h5,h6⟩:=h; exact ⟨v0,v1,v2,v3,v4,v5,v6,rfl,h0.mono hle,h1.mono hle,h2.mono hle,h3.mono hle,h4.mono hle,h5.mono hle,h6.mono hle⟩
 one h:=by obtain ⟨v0,v1,v2,v3,v4,v5,v6,rfl,h0,h1,h2,h3,h4,h5,h6⟩:=h; exact (cM (aP.pA h0) (cM (aP.pA h1) (cM (aP.pA h2) (cM (aP.pA h3) (cM (aP.pA h4) (cM (aP.pA h5) (cM (aP.pA h6) TB)))))))
structure aN where
 Name:RI
 zm:Bool
 deriving DecidableEq
instance:aF aN where
 sz:=2
 E H cs x:=cs=[.string (x.Name),.bool (x.zm)]
 len h:=by obtain rfl:=h; rfl
 mono hle h:=by obtain rfl:=h; exact rfl
 one h:=by obtain rfl:=h; exact (cM rfl (cM rfl TB))
instance:Flat aN:=⟨λh=>h⟩
def nZ (j:cK):Option (cK):=cE (0<=(min (j.bU.bE.length:Int) 3)/\(min (j.bU.bE.length:Int) 3)<=(j.bU.bE.length:Int)) (cE (0<=(min (j.bU.dS.length:Int) 4)/\(min (j.bU.dS.length:Int) 4)<=(j.bU.dS.length:Int)) (some (cK.mk (aD.mk j.bU.bF j.bU.aO j.bU.aJ (tG j.bU.dS 0 ((min (j.bU.dS.length:Int) 4:Int).toNat)) (tG j.bU.bE 0 ((min (j.bU.bE.length:Int) 3:Int).toNat)) j.bU.bW) j.pL)))
def mi (I:Nat) (j:U8) (o:Unit->Option (Bool)):Option (Bool):=if !(((decide (65<=j.n)) && (decide (j.n<=90))) || (((decide (0<(I:Int))) && (decide (48<=j.n))) && (decide (j.n<=57)))) then (some false) else (o ())
def bB (j:RI):Option (Bool):=cE (j.size<=maxLen) (dE (λk y o n=>mi k y n) (λ_=>some ((decide (1<=(j.size:Int))) && (decide ((j.size:Int)<=8)))) 0 (fQ j) ())
def lW (I:(List RI)) (J:RI) (j:Nat) (o:Unit->Option (Int)):Option (Int):=idx I (j:Int) λR=>if decide (J=R) then (some (j:Int)) else (o ())
def bD (j:(List RI)) (o:RI):Option (Int):=kz (λk I n=>lW j o k n) (λ_=>some (-1)) ((j.length:Int):Int).toNat 0 ()
def bJ (j:(List RI)) (o:RI):Option (Bool):=(bD j o).bind λI=>some (decide (0<=I))
def iD (j:aU) (name:RI) (nodes:(List RI)) (R:Nat) (I:RI) (o:Unit->Option (Int×aU)):Option (Int×aU):=(bJ j.nodes I).bind λJ=>if !J then (some (6,(aU.mk (wh j.seen name true) j.nodes))) else (o ())
def cC (j:aU) (name:RI) (nodes:(List RI)):Option (Int×aU):=(bB name).bind λo=>if !o then (some (5,j)) else (if (sf j.seen name).getD false then (some (7,j)) else (dE (λk y R n=>iD j name nodes k y n) (λ_=>if decide ((nodes.length:Int)=2) then (idx nodes 0 λI=>idx nodes 1 λJ=>if decide (I=J) then (some (3,(aU.mk (wh j.seen name true) j.nodes))) else (some (0,(aU.mk (wh j.seen name true) j.nodes)))) else (some (0,(aU.mk (wh j.seen name true) j.nodes)))) 0 nodes ()))
def bI (I:Int) (o:Int) (j:Int):Bool:=((decide (I<o)) || (decide (j<I)))
def iS (j:aQ):Int:=if (((((bI j.X 1 10000) || (bI j.C1 500 1500)) || (bI j.Shift (-1000) 1000)) || (bI j.uu 0 100000)) || (bI j.yh j.uu 100000)) || (bI j.DR 0 200000) then 4 else 0
def aW (j:Int):Bool:=(!(bI j 0 100000))
def jI (I:aU) (U:Nat) (j:cJ) (R:(List (RI×Bool))) (J:(List (RI×Bool))->Option (Int×aU)):Option (Int×aU):=(cC (aU.mk R I.nodes) j.Name ([j.Node])).bind λo=>if !decide (o.1=0) then (some (o.1,(aU.mk o.2.seen I.nodes))) else (if ((!(aW j.sZ)) || (!(aW j.Discharge))) || (!(aW j.vz)) then (some (4,(aU.mk o.2.seen I.nodes))) else (J o.2.seen))
def jH (o:aU) (U:Nat) (I:aH) (R:(List (RI×Bool))) (J:(List (RI×Bool))->Option (Int×aU)):Option (Int×aU):=(cC (aU.mk R o.nodes) I.Name ([I.Node])).bind λj=>if !decide (j.1=0) then (some (j.1,(aU.mk j.2.seen o.nodes))) else (if !(aW I.c_) then (some (4,(aU.mk j.2.seen o.nodes))) else (J j.2.seen))
def jG (I:aU) (U:Nat) (j:bH) (R:(List (RI×Bool))) (J:(List (RI×Bool))->Option (Int×aU)):Option (Int×aU):=(cC (aU.mk R I.nodes) j.Name ([j.Node])).bind λo=>if !decide (o.1=0) then (some (o.1,(aU.mk o.2.seen I.nodes))) else (if ((!(aW j.jC)) || (bI j.rr j.jC 100000)) || (!(aW j.C5)) then (some (4,(aU.mk o.2.seen I.nodes))) else (J o.2.seen))
def gG (j:aU) (o:aD):Option (Int×aU):=dE (λk y I n=>jG j k y I n) (λI=>dE (λk y J n=>jH j k y J n) (λJ=>dE (λk y R n=>jI j k y R n) (λR=>some (0,(aU.mk R j.nodes))) 0 o.bW J) 0 o.bE I) 0 o.dS j.seen
def nq (J:aD) (U:Nat) (j:aQ) (R:(List (RI×Bool))) (I:(List (RI×Bool))->Option (Int)):Option (Int):=(cC (aU.mk R J.bF) j.Name ([j.qe,j.To])).bind λo=>if !decide (o.1=0) then (some o.1) else (if !decide ((iS j)=0) then (some (iS j)) else (I o.2.seen))
def np (J:aD) (U:Nat) (j:aZ) (R:(List (RI×Bool))) (I:(List (RI×Bool))->Option (Int)):Option (Int):=(cC (aU.mk R J.bF) j.Name ([j.A,j.B_])).bind λo=>if !decide (o.1=0) then (some o.1) else (I o.2.seen)
def nk (I:aD) (U:Nat) (J:RI) (R:(List (RI×Bool))) (o:(List (RI×Bool))->Option (Int)):Option (Int):=(cC (aU.mk R I.bF) J []).bind λj=>if !decide (j.1=0) then (some j.1) else (o j.2.seen)
def bX (j:aD):Option (Int):=if (((((decide (24<(j.bF.length:Int))) || (decide (32<(j.aO.length:Int)))) || (decide (24<(j.aJ.length:Int)))) || (decide (10<(j.dS.length:Int)))) || (decide (12<(j.bE.length:Int)))) || (decide (4<(j.bW.length:Int))) then (some 2) else (dE (λk y o n=>nk j k y o n) (λo=>dE (λk y I n=>np j k y I n) (λI=>dE (λk y J n=>nq j k y J n) (λJ=>(gG (aU.mk J j.bF) j).bind λR=>some R.1) 0 j.aJ I) 0 j.aO o) 0 j.bF ([]:(List (RI×Bool))))
def dT (j:List Int->Option (Int)) (o:List Int):Option (Int):=j o
def eE (o:List Int) (J:List Int->Option (Int)) (I:bM) (j:Nat) (R:Bool):Option (Int):=if R then (if decide ((j:Int)=0) then (some 3) else (if decide (I.B_=(i64.wrap ((j:Int)-1))) then (idx (o.set (((j:Int):Int).toNat) ((j:Int))) (i64.wrap ((j:Int)-1)) λU=>if decide (U=0) then (some 3) else (idx (o.set (((j:Int):Int).toNat) ((j:Int))) (i64.wrap ((j:Int)-1)) λY=>if !decide (I.A=(i64.wrap (Y-1))) then (some 3) else (idx (o.set (((j:Int):Int).toNat) ((j:Int))) I.A λZ=>idx (o.set (((j:Int):Int).toNat) ((j:Int))) (j:Int) λRi=>dT J ((o.set (((j:Int):Int).toNat) ((j:Int))).set (((j:Int):Int).toNat) Z)))) else (some 3))) else (if (!decide (I.A=0)) || (!decide (I.B_=0)) then (some 3) else (dT J (o.set (((j:Int):Int).toNat) ((j:Int)))))
def jR (o:List Int) (J:List Int->Option (Int)) (I:bM) (j:Nat) (R:Bool):Option (Int):=if R then (if decide ((j:Int)=0) then (some 3) else (if decide (I.B_=(i64.wrap ((j:Int)-1))) then (idx (o.set (((j:Int):Int).toNat) ((j:Int))) (i64.wrap ((j:Int)-1)) λU=>if decide (U=0) then (some 3) else (idx (o.set (((j:Int):Int).toNat) ((j:Int))) (i64.wrap ((j:Int)-1)) λY=>if !decide (I.A=(i64.wrap (Y-1))) then (some 3) else (idx (o.set (((j:Int):Int).toNat) ((j:Int))) I.A λZ=>idx (o.set (((j:Int):Int).toNat) ((j:Int))) (j:Int) λRi=>dT J ((o.set (((j:Int):Int).toNat) ((j:Int))).set (((j:Int):Int).toNat) Z)))) else (some 3))) else (if (!decide (I.A=0)) || (!decide (I.B_=0)) then (some 3) else (dT J (o.set (((j:Int):Int).toNat) ((j:Int)))))
def oE (j:Nat) (o:bM) (I:List Int) (J:List Int->Option (Int)):Option (Int):=if (decide (o.Kind<0)) || (decide (6<o.Kind)) then (some 1) else (if (decide (o.Kind=2)) || (decide (o.Kind=3)) then ((bB o.Name).bind λU=>if !U then (some 6) else (idx I (j:Int) λRi=>if decide (o.Kind=4) then (if ((decide ((j:Int)=0)) || (!decide (o.A=(i64.wrap ((j:Int)-1))))) || (!decide (o.B_=0)) then (some 3) else (idx (I.set (((j:Int):Int).toNat) ((j:Int))) o.A λR=>idx (I.set (((j:Int):Int).toNat) ((j:Int))) (j:Int) λZ=>dT J ((I.set (((j:Int):Int).toNat) ((j:Int))).set (((j:Int):Int).toNat) R))) else (if decide (o.Kind=5) then (jR I J o j (decide (o.Kind=5))) else (jR I J o j (decide (o.Kind=6)))))) else (if !decide (o.Name=(⟨#[]⟩)) then (some 3) else (idx I (j:Int) λRj=>if decide (o.Kind=4) then (if ((decide ((j:Int)=0)) || (!decide (o.A=(i64.wrap ((j:Int)-1))))) || (!decide (o.B_=0)) then (some 3) else (idx (I.set (((j:Int):Int).toNat) ((j:Int))) o.A λY=>idx (I.set (((j:Int):Int).toNat) ((j:Int))) (j:Int) λRk=>dT J ((I.set (((j:Int):Int).toNat) ((j:Int))).set (((j:Int):Int).toNat) Y))) else (if decide (o.Kind=5) then (eE I J o j (decide (o.Kind=5))) else (eE I J o j (decide (o.Kind=6)))))))
def kA (j:(List bM)):Option (Int):=if decide (40<(j.length:Int)) then (some 2) else (if decide ((j.length:Int)=0) then (some 3) else (cE (0<=(j.length:Int)/\(j.length:Int)*8<=140737488355328) (dE (λk y o n=>oE k y o n) (λo=>idx o (i64.wrap ((j.length:Int)-1)) λI=>if !decide (I=0) then (some 3) else (some 0)) 0 j (List.replicate ((j.length:Int):Int).toNat (0:Int)))))
def rD (R:Nat) (j:bA) (I:Unit->Option (Int)):Option (Int):=(bB j.Switch).bind λJ=>if !J then (some 6) else ((kA j.xT).bind λo=>if !decide (o=0) then (some o) else (I ()))
def mO (j:(List bA)):Option (Int):=if decide (24<(j.length:Int)) then (some 2) else (dE (λk y o n=>rD k y n) (λ_=>some 0) 0 j ())
def uU (J:Nat) (j:aH) (o:List RI) (I:List RI->Option ((List RI))):Option ((List RI)):=cE ((o.length+([j.Name]).length)*16<=140737488355328) (I (o++([j.Name])))
def qH (o:aD):Option ((List RI)):=dE (λk y j n=>uU k y j n) (λj=>some j) 0 o.bE ([]:List RI)
def pq (o:aH) (j:RI):Bool:=(decide (o.Name=j))
def dI (J:(List aH)) (j:RI) (o:Nat) (I:Unit->Option (Int)):Option (Int):=idx J (o:Int) λR=>if (pq R j) then (some (o:Int)) else (I ())
def cN (o:(List aH)) (j:RI):Option (Int):=kz (λk I n=>dI o j k n) (λ_=>some (-1)) ((o.length:Int):Int).toNat 0 ()
def cI (o:(List aH)) (j:RI):Option (Bool):=(cN o j).bind λI=>some (decide (0<=I))
def qB (J:aD) (on:(List RI)) (j:Nat) (o:RI) (I:Unit->Option (Int)):Option (Int):=(cI J.bE o).bind λR=>if !R then (some 6) else (cE (0<=(j:Int)/\(j:Int)<=(on.length:Int)) ((bJ (tG on 0 (((j:Int):Int).toNat)) o).bind λU=>if U then (some 7) else (I ())))
def eD (j:aD) (on:(List RI)):Option (Int):=(bX j).bind λo=>if !decide (o=0) then (some o) else (dE (λk y I n=>qB j on k y n) (λ_=>some 0) 0 on ())
def kL (j:aD):Option (aD):=cE (j.bF.length*16<=140737488355328) (cE (j.aO.length*56<=140737488355328) (cE (j.aJ.length*96<=140737488355328) (cE (j.dS.length*56<=140737488355328) (cE (j.bE.length*40<=140737488355328) (cE (j.bW.length*56<=140737488355328) (some j))))))
def ml (o:aH) (j:(List RI)):Option (Bool):=(bJ j o.Name).bind λI=>some (!I)
def gZ (J:(List aH)) (j:(List RI)) (o:Nat) (I:Unit->Option (Int)):Option (Int):=idx J (o:Int) λR=>(ml R j).bind λU=>if U then (some (o:Int)) else (I ())
def eR (o:(List aH)) (j:(List RI)):Option (Int):=kz (λk I n=>gZ o j k n) (λ_=>some (-1)) ((o.length:Int):Int).toNat 0 ()
def dG (I:Int) (j:(List aH×Int×Int)->Option ((List aH))) (o:List aH) (J:Int):Option ((List aH)):=j (o,J,i64.wrap (I+1))
def gS (del_0:(List RI)) (j:List aH) (Y:Int) (Z:Int) (o:(List aH×Int×Int)->Option ((List aH))):Option ((List aH)):=if decide (Z<(j.length:Int)) then (idx j Z λI=>(ml I del_0).bind λJ=>if !J then (idx j Y λR=>dG Z o (j.set ((Y:Int).toNat) I) (i64.wrap (Y+1))) else (dG Z o j Y)) else (cE (0<=Y/\Y<=(j.length:Int)) (cE (0<=Y/\Y<=((j.take (Y).toNat++List.replicate (j.length-(Y).toNat) ((aH.mk (⟨#[]⟩) (⟨#[]⟩) 0):aH)).length:Int)) (some (tG (j.take (Y).toNat++List.replicate (j.length-(Y).toNat) ((aH.mk (⟨#[]⟩) (⟨#[]⟩) 0):aH)) 0 ((Y:Int).toNat)))))
def dQ (j:(List aH)) (J:(List RI)):Option ((List aH)):=(eR j J).bind λo=>if decide (o=(-1)) then (some j) else (fG (λI n=>gS J I.1 I.2.1 I.2.2 n) eI (j,o,i64.wrap (o+1)))
def pS (o:aD) (on:(List RI)):Option (aD):=(kL o).bind λj=>(dQ j.bE on).bind λI=>some (aD.mk j.bF j.aO j.aJ j.dS I j.bW)
def n_ (j:aD) (on:(List RI)):Option (aD×Int):=(eD j on).bind λo=>if !decide (o=0) then (some ((aD.mk ([]:List RI) ([]:List aZ) ([]:List aQ) ([]:List bH) ([]:List aH) ([]:List cJ)),o)) else ((pS j on).bind λI=>some (I,0))
def od (j:(List bY×List Int)->Option ((List bY)×(List Int))) (o:List bY) (I:List Int):Option ((List bY)×(List Int)):=j (o,I)
def sR (U:aD) (j:Bool) (Y:Nat) (o:aZ) (I:List bY) (J:List Int) (R:(List bY×List Int)->Option ((List bY)×(List Int))):Option ((List bY)×(List Int)):=if decide (o.Open=j) then ((bD U.bF o.A).bind λZ=>(bD U.bF o.B_).bind λRi=>cE ((I.length+([(bY.mk Z Ri)]).length)*16<=140737488355328) (cE ((J.length+([((Y:Int))]:List Int).length)*8<=140737488355328) (od R (I++([(bY.mk Z Ri)])) (J++([((Y:Int))]:List Int))))) else (od R I J)
def qS (I:aD) (o:Bool):Option ((List bY)×(List Int)):=dE (λk y j n=>sR I o k y j.1 j.2 n) (λj=>some (j.1,j.2)) 0 I.aO (([]:List bY),([]:List Int))
def tX (o:Int) (J:Nat) (j:bY) (I:Unit->Option (Int)):Option (Int):=if decide (j.a0<0) then (some 4) else (if decide (o<=j.a0) then (some 4) else (if decide (j.a1<0) then (some 4) else (if decide (o<=j.a1) then (some 4) else (I ()))))
def so (j:Int) (o:(List bY)):Option (Int):=if ((decide (j<0)) || (decide (24<j))) || (decide (64<(o.length:Int))) then (some 2) else (dE (λk y I n=>tX j k y n) (λ_=>some 0) 0 o ())
def mT (j:Int) (o:Int):Int×Int:=((u64.wrap ((u64.wrap ((u64.wrap ((mG .u64 j 32)*(mG .u64 o 32)))+(mG .u64 (u64.wrap ((u64.wrap ((mG .u64 j 32)*(u64.wrap ((BitVec.ofInt (u64).bits o &&& BitVec.ofInt (u64).bits 4294967295).toNat))))+(mG .u64 (u64.wrap ((u64.wrap ((BitVec.ofInt (u64).bits j &&& BitVec.ofInt (u64).bits 4294967295).toNat))*(u64.wrap ((BitVec.ofInt (u64).bits o &&& BitVec.ofInt (u64).bits 4294967295).toNat)))) 32))) 32)))+(mG .u64 (u64.wrap ((u64.wrap ((BitVec.ofInt (u64).bits (u64.wrap ((u64.wrap ((mG .u64 j 32)*(u64.wrap ((BitVec.ofInt (u64).bits o &&& BitVec.ofInt (u64).bits 4294967295).toNat))))+(mG .u64 (u64.wrap ((u64.wrap ((BitVec.ofInt (u64).bits j &&& BitVec.ofInt (u64).bits 4294967295).toNat))*(u64.wrap ((BitVec.ofInt (u64).bits o &&& BitVec.ofInt (u64).bits 4294967295).toNat)))) 32))) &&& BitVec.ofInt (u64).bits 4294967295).toNat))+(u64.wrap ((u64.wrap ((BitVec.ofInt (u64).bits j &&& BitVec.ofInt (u64).bits 4294967295).toNat))*(mG .u64 o 32))))) 32))),(u64.wrap (j*o)))
def sC (j:Int) (o:Int):Int×Int:=((((mT j o)).1),(((mT j o)).2))
def jW (j:(List Int×Int)->Option ((List Int))) (o:List Int) (I:Int):Option ((List Int)):=j (o,I)
def eG (j:(List Int×List Int)->Option ((List Int))) (o:List Int) (I:List Int):Option ((List Int)):=j (o,I)
def q_ (Y:Int) (U:Int) (o:Int) (Z:Nat) (j:bY) (I:List Int) (J:List Int) (R:(List Int×List Int)->Option ((List Int))):Option ((List Int)):=if decide ((Z:Int)=Y) then (eG R I J) else (if decide (j.a0=o) then (idx I (i64.wrap ((i64.wrap (j.a0+j.a1))-o)) λRh=>if decide (Rh<0) then (idx I (i64.wrap ((i64.wrap (j.a0+j.a1))-o)) λRj=>cE ((J.length+([(i64.wrap ((i64.wrap (j.a0+j.a1))-o))]:List Int).length)*8<=140737488355328) (eG R (I.set ((i64.wrap ((i64.wrap (j.a0+j.a1))-o):Int).toNat) U) (J++([(i64.wrap ((i64.wrap (j.a0+j.a1))-o))]:List Int)))) else (eG R I J)) else (if !decide (j.a1=o) then (eG R I J) else (idx I (i64.wrap ((i64.wrap (j.a0+j.a1))-o)) λRi=>if decide (Ri<0) then (idx I (i64.wrap ((i64.wrap (j.a0+j.a1))-o)) λRk=>cE ((J.length+([(i64.wrap ((i64.wrap (j.a0+j.a1))-o))]:List Int).length)*8<=140737488355328) (eG R (I.set ((i64.wrap ((i64.wrap (j.a0+j.a1))-o):Int).toNat) U) (J++([(i64.wrap ((i64.wrap (j.a0+j.a1))-o))]:List Int)))) else (eG R I J))))
def q9 (Rh:(List bY)) (Y:Int) (I:Int) (R:(List Int×Int)->Option ((List Int))) (J:List Int) (j:List Int) (U:(List Int×List Int)->Option ((List Int))):Option ((List Int)):=if decide (0<(j.length:Int)) then (idx j 0 λZ=>cE (0<=1/\1<=(j.length:Int)) (dE (λk y o n=>q_ Y I Z k y o.1 o.2 n) (λo=>U (o.1,o.2)) 0 Rh (J,(tG j (1:Int).toNat j.length)))) else (jW R J (i64.wrap (I+1)))
def q8 (Z:(List bY)) (Y:Int) (I:Nat) (j:List Int) (o:Int) (J:(List Int×Int)->Option ((List Int))):Option ((List Int)):=idx j (I:Int) λU=>if decide (0<=U) then (jW J j o) else (idx j (I:Int) λRh=>fG (λR n=>q9 Z Y o J R.1 R.2 n) eI ((j.set (((I:Int):Int).toNat) o),([((I:Int))]:List Int)))
def pF (o:Int) (I:(List bY)) (J:Int):Option ((List Int)):=cE (([((-1))]:List Int).length=1/\0<=o/\o*8<=140737488355328) (cE (o<=9223372036854775807) (kz (λk j n=>q8 I J k j.1 j.2 n) (λj=>some j.1) (o:Int).toNat 0 ((Hi ([((-1))]:List Int) o),0)))
def jE (j:Int) (o:(List bY)):Option ((List Int)×Int):=(so j o).bind λI=>if !decide (I=0) then (some (([]:List Int),I)) else ((pF j o (-1)).bind λJ=>some (J,0))
def oO (j:aD):Option ((List Int)):=(qS j false).bind λo=>(jE (j.bF.length:Int) o.1).bind λI=>some I.1
def tD (j:aD) (o:((List Int))) (Rj:Nat) (I:aQ) (J:List bY) (Y:List bY->Option (aY)):Option (aY):=(bD j.bF I.qe).bind λZ=>idx o Z λR=>(bD j.bF I.To).bind λRi=>idx o Ri λU=>cE ((J.length+([(bY.mk R U)]).length)*16<=140737488355328) (Y (J++([(bY.mk R U)])))
def tC (I:Nat) (o:Int) (J:Int) (j:Int->Option (aY)):Option (aY):=j (max J (i64.wrap (o+1)))
def eA (j:aD):Option (aY):=(oO j).bind λo=>dE (λk y I n=>tC k y I n) (λI=>dE (λk y J n=>tD j o k y J n) (λJ=>(jE I J).bind λR=>some (aY.mk o R.1)) 0 j.aJ ([]:List bY)) 0 o 0
def rY (I:Nat) (o:Int) (J:Int) (j:Int->Option (Int)):Option (Int):=j (max J (i64.wrap (o+1)))
def me (o:aD):Option (Int):=(eA o).bind λI=>dE (λk y j n=>rY k y j n) (λj=>some j) 0 I.bO 0
def mX (o:aD) (j:aY) (Y:RI):Option (Int):=(bD o.bF Y).bind λI=>idx j.qJ I λJ=>idx j.bO J λR=>some R
def tf (U:aD) (Y:(aY)) (Ri:Nat) (I:aH) (j:List bL) (R:List bL->Option ((List bL))):Option ((List bL)):=(mX U Y I.Node).bind λo=>idx j o λZ=>idx j o λJ=>R (j.set ((o:Int).toNat) (bL.mk J.jC J.rr (i64.wrap (Z.c_+I.c_))))
def te (U:aD) (Y:(aY)) (Z:Nat) (o:bH) (J:List bL) (R:List bL->Option ((List bL))):Option ((List bL)):=(mX U Y o.Node).bind λI=>idx J I λj=>R ((J.set ((I:Int).toNat) (bL.mk (i64.wrap (j.jC+o.jC)) j.rr j.c_)).set ((I:Int).toNat) (bL.mk (i64.wrap (j.jC+o.jC)) (i64.wrap (j.rr+o.rr)) j.c_))
def rF (j:aD):Option ((List bL)):=(eA j).bind λR=>(me j).bind λo=>cE (0<=o/\o*24<=140737488355328) (dE (λk y I n=>te j R k y I n) (λI=>dE (λk y J n=>tf j R k y J n) (λJ=>some J) 0 j.bE I) 0 j.dS (List.replicate (o:Int).toNat ((bL.mk 0 0 0):bL)))
def oR (j:Int):Bool:=(decide (0<j))
def fT (I:(List Int)) (j:Nat) (o:Unit->Option (Int)):Option (Int):=idx I (j:Int) λJ=>if (oR J) then (some (j:Int)) else (o ())
def eO (j:(List Int)):Option (Int):=kz (λk o n=>fT j k n) (λ_=>some (-1)) ((j.length:Int):Int).toNat 0 ()
def dL (j:(List Int)):Option (Bool):=(eO j).bind λo=>some (decide (0<=o))
def mf (I:List Int) (j:List Int) (o:(List Int×List Int)->Option ((List Int)×Int)) (J:(Int)) (R:Int) (Y:Int):Option ((List Int)×Int):=cE ((j.length+([Y]:List Int).length)*8<=140737488355328) (o ((I.set ((J:Int).toNat) (i64.wrap (R-Y))),(j++([Y]:List Int))))
def sJ (Y:aD) (Z:(aY)) (Ri:Nat) (o:bH) (I:List Int) (U:List Int) (J:(List Int×List Int)->Option ((List Int)×Int)):Option ((List Int)×Int):=(mX Y Z o.Node).bind λR=>idx I R λj=>if decide (o.jC<=j) then (mf I U J R j (min o.rr j)) else (mf I U J R j 0)
def sI (J:Nat) (j:bL) (o:List Int) (I:List Int->Option ((List Int)×Int)):Option ((List Int)×Int):=cE ((o.length+([j.c_]:List Int).length)*8<=140737488355328) (I (o++([j.c_]:List Int)))
def mW (j:aD):Option ((List Int)×Int):=(bX j).bind λJ=>if !decide (J=0) then (some (([]:List Int),J)) else ((eA j).bind λR=>(rF j).bind λU=>dE (λk y I n=>sI k y I n) (λI=>dE (λk y o n=>sJ j R k y o.1 o.2 n) (λo=>(dL o.1).bind λY=>if Y then (some (([]:List Int),14)) else (some (o.2,0))) 0 j.dS (I,([]:List Int))) 0 U ([]:List Int))
def tW (I:Nat) (j:Int) (o:Unit->Option ((List Int)×Int)):Option ((List Int)×Int):=if (decide (j<(-100000))) || (decide (100000<j)) then (some (([]:List Int),4)) else (o ())
def tV (R:aD) (Y:Nat) (I:aH) (j:List Int) (J:List Int->Option ((List Int)×Int)):Option ((List Int)×Int):=(bD R.bF I.Node).bind λo=>idx j o λU=>idx j o λZ=>J (j.set ((o:Int).toNat) (i64.wrap (U-I.c_)))
def tU (U:aD) (Y:(List Int)) (j:Nat) (o:cJ) (I:List Int) (R:List Int->Option ((List Int)×Int)):Option ((List Int)×Int):=idx Y (j:Int) λZ=>if decide (Z<(i64.wrap (0-o.sZ))) then (some (([]:List Int),17)) else (idx Y (j:Int) λRh=>if decide (o.Discharge<Rh) then (some (([]:List Int),17)) else ((bD U.bF o.Node).bind λJ=>idx I J λRi=>idx Y (j:Int) λRj=>idx I J λRk=>R (I.set ((J:Int).toNat) (i64.wrap (Ri+Rj)))))
def tT (Z:aD) (Y:(List Int)) (o:Nat) (I:bH) (j:List Int) (J:List Int->Option ((List Int)×Int)):Option ((List Int)×Int):=idx Y (o:Int) λRh=>if decide (Rh=0) then ((bD Z.bF I.Node).bind λR=>idx j R λRi=>idx Y (o:Int) λRj=>idx j R λRp=>J (j.set ((R:Int).toNat) (i64.wrap (Ri+Rj)))) else (idx Y (o:Int) λRk=>if decide (Rk<I.jC) then (some (([]:List Int),17)) else (idx Y (o:Int) λRl=>if decide (I.rr<Rl) then (some (([]:List Int),17)) else ((bD Z.bF I.Node).bind λU=>idx j U λRn=>idx Y (o:Int) λRo=>idx j U λRq=>J (j.set ((U:Int).toNat) (i64.wrap (Rn+Ro))))))
def sn (j:aD) (Z:(List Int)) (Y:(List Int)):Option ((List Int)×Int):=(bX j).bind λR=>if !decide (R=0) then (some (([]:List Int),R)) else (if (!decide ((Z.length:Int)=(j.dS.length:Int))) || (!decide ((Y.length:Int)=(j.bW.length:Int))) then (some (([]:List Int),3)) else (cE (0<=(j.bF.length:Int)/\(j.bF.length:Int)*8<=140737488355328) (dE (λk y I n=>tT j Z k y I n) (λI=>dE (λk y J n=>tU j Y k y J n) (λJ=>dE (λk y o n=>tV j k y o n) (λo=>dE (λk y U n=>tW k y n) (λ_=>some (o,0)) 0 o ()) 0 j.bE J) 0 j.bW I) 0 j.dS (List.replicate ((j.bF.length:Int):Int).toNat (0:Int)))))
def gF (j:aD):Option ((List Int)×Int):=(mW j).bind λo=>if !decide (o.2=0) then (some (([]:List Int),o.2)) else (cE (0<=(j.bW.length:Int)/\(j.bW.length:Int)*8<=140737488355328) ((sn j o.1 (List.replicate ((j.bW.length:Int):Int).toNat (0:Int))).bind λI=>some (I.1,I.2)))
def uP (o:(aY)) (U:Nat) (j:Int) (I:(List (Int×Int))) (R:(List (Int×Int))->Option (Int)):Option (Int):=if (decide (j<(-100000))) || (decide (100000<j)) then (some 4) else (idx o.qJ (U:Int) λY=>idx o.bO Y λJ=>R (wh I J (i64.wrap (((sf I J).getD (0:Int))+j))))
def ql (j:aD) (Y:(List Int)):Option (Int):=(bX j).bind λI=>if !decide (I=0) then (some I) else (if !decide ((Y.length:Int)=(j.bF.length:Int)) then (some 3) else ((eA j).bind λJ=>dE (λk y o n=>uP J k y o n) (λo=>if (o.any (λR=>!decide (R.2=0))) then (some 14) else (some 0)) 0 Y ([]:(List (Int×Int)))))
def oL (minus:Bool) (j:(List bR)):Option (aC):=if minus then (some (aC.mk (decide (0<(j.length:Int))) j)) else (some (aC.mk false j))
def uS (minus:Bool) (j:(List bR)) (o:(List bR)->Option (aC)):Option (aC):=if decide (0<(j.length:Int)) then (idx j (i64.wrap ((j.length:Int)-1)) λI=>if decide (I.n=0) then (cE (0<=(i64.wrap ((j.length:Int)-1))/\(i64.wrap ((j.length:Int)-1))<=(j.length:Int)) (o (tG j 0 ((i64.wrap ((j.length:Int)-1):Int).toNat)))) else (oL minus j)) else (oL minus j)
def iQ (minus:Bool) (j:(List bR)):Option (aC):=fG (λo n=>uS minus o n) eI j
def qV (j:Int) (I:Int):Option (aC):=(iQ (decide (j<0)) ([⟨u32.wrap (I)⟩,⟨u32.wrap (mG .u64 I 32)⟩]:List bR)).bind λo=>some o
def mY (j:Int):Option (aC):=if decide (j<0) then (qV j (u64.wrap (0-(u64.wrap (j))))) else (qV j (u64.wrap (j)))
def lQ (j:aC):Option (aC):=(iQ (!j.minus) j.words).bind λo=>some o
def eX (j:aC):Int:=if decide ((j.words.length:Int)=0) then 0 else (if j.minus then (-1) else 1)
def r8 (j:(List bR)) (o:(List bR)) (Y:Int) (I:Int->Option (Int)):Option (Int):=if decide (0<=Y) then (idx j Y λJ=>idx o Y λR=>if !decide (J.n=R.n) then (idx j Y λU=>idx o Y λZ=>if decide (U.n<Z.n) then (some (-1)) else (some 1)) else (I (i64.wrap (Y-1)))) else (some 0)
def nN (j:(List bR)) (o:(List bR)):Option (Int):=if !decide ((j.length:Int)=(o.length:Int)) then (some (i64.wrap ((j.length:Int)-(o.length:Int)))) else (fG (λI n=>r8 j o I n) eI (i64.wrap ((j.length:Int)-1)))
def r9 (R:(List bR)) (j:Int) (o:List bR) (Z:Int) (Y:Int) (J:(List bR×Int×Int)->Option ((List bR)×Int)):Option ((List bR)×Int):=if decide (0<=Y) then (idx R Y λI=>cE ((u64.wrap (j))≠0) (idx o Y λU=>cE ((u64.wrap (j))≠0) (J ((o.set ((Y:Int).toNat) ⟨u32.wrap (u64.wrap (Int.tdiv (u64.wrap ((BitVec.ofInt (u64).bits (uF .u64 Z 32) ||| BitVec.ofInt (u64).bits (u64.wrap (I.n))).toNat)) (u64.wrap (j))))⟩),Int.tmod (u64.wrap ((BitVec.ofInt (u64).bits (uF .u64 Z 32) ||| BitVec.ofInt (u64).bits (u64.wrap (I.n))).toNat)) (u64.wrap (j)),i64.wrap (Y-1))))) else (some (o,(u32.wrap (Z))))
def nP (j:(List bR)) (I:Int):Option ((List bR)×Int):=cE (0<=(j.length:Int)/\(j.length:Int)*4<=140737488355328) (fG (λo n=>r9 j I o.1 o.2.1 o.2.2 n) eI ((List.replicate ((j.length:Int):Int).toNat (⟨0⟩:bR)),0,i64.wrap ((j.length:Int)-1)))
def kW (I:Int) (J:Int):Option (Int):=idx (fQ (⟨#[0,1,2,2,3,3,3,3,4,4,4,4,4,4,4,4,5,5,5,5,5,5,5,5,5,5,5,5,5,5,5,5,6,6,6,6,6,6,6,6,6,6,6,6,6,6,6,6,6,6,6,6,6,6,6,6,6,6,6,6,6,6,6,6,7,7,7,7,7,7,7,7,7,7,7,7,7,7,7,7,7,7,7,7,7,7,7,7,7,7,7,7,7,7,7,7,7,7,7,7,7,7,7,7,7,7,7,7,7,7,7,7,7,7,7,7,7,7,7,7,7,7,7,7,7,7,7,7,8,8,8,8,8,8,8,8,8,8,8,8,8,8,8,8,8,8,8,8,8,8,8,8,8,8,8,8,8,8,8,8,8,8,8,8,8,8,8,8,8,8,8,8,8,8,8,8,8,8,8,8,8,8,8,8,8,8,8,8,8,8,8,8,8,8,8,8,8,8,8,8,8,8,8,8,8,8,8,8,8,8,8,8,8,8,8,8,8,8,8,8,8,8,8,8,8,8,8,8,8,8,8,8,8,8,8,8,8,8,8,8,8,8,8,8,8,8,8,8,8,8,8,8,8,8,8,8]⟩)) (u8.wrap (I)) λj=>some (i64.wrap (J+(i64.wrap (j.n))))
def kX (I:Int) (J:Int):Option (Int):=if decide (256<=I) then (kW (mG .u32 I 8) (i64.wrap (J+8))) else (kW I J)
def ri (j:Int):Option (Int):=if decide (65536<=j) then (kX (mG .u32 j 16) 16) else (kX j 0)
def jF (j:Int):Option (Int):=(ri j).bind λo=>some (i64.wrap (32-o))
def sO (j:Int) (o:Nat) (I:bR) (J:List bR) (Y:Int) (R:(List bR×Int)->Option ((List bR))):Option ((List bR)):=cE (0<=j) (idx J (o:Int) λU=>R ((J.set (((o:Int):Int).toNat) ⟨u32.wrap (u64.wrap ((BitVec.ofInt (u64).bits Y ||| BitVec.ofInt (u64).bits (uF .u64 (u64.wrap (I.n)) j)).toNat))⟩),mG .u64 (u64.wrap ((BitVec.ofInt (u64).bits Y ||| BitVec.ofInt (u64).bits (uF .u64 (u64.wrap (I.n)) j)).toNat)) 32))
def oM (j:(List bR)) (I:Int):Option ((List bR)):=cE (0<=(i64.wrap ((j.length:Int)+1))/\(i64.wrap ((j.length:Int)+1))*4<=140737488355328) (dE (λk y o n=>sO I k y o.1 o.2 n) (λo=>idx o.1 (j.length:Int) λJ=>some (o.1.set (((j.length:Int):Int).toNat) ⟨u32.wrap (o.2)⟩)) 0 j ((List.replicate (i64.wrap ((j.length:Int)+1):Int).toNat (⟨0⟩:bR)),0))
def kV (o:List bR) (j:Int) (I:(List bR×List bR×Int)->Option ((List bR)×(List bR))) (J:List bR) (R:Int):Option ((List bR)×(List bR)):=idx o j λU=>I ((o.set ((j:Int).toNat) ⟨u32.wrap (R)⟩),J,i64.wrap (j-1))
def oW (Z:(List bR)) (Ri:((List bR))) (o:Int) (j:Nat) (I:List bR) (J:Int) (Y:(List bR×Int)->Option ((List bR)×(List bR))):Option ((List bR)×(List bR)):=idx I (i64.wrap ((j:Int)+o)) λR=>idx (tG Ri 0 (((Z.length:Int):Int).toNat)) (j:Int) λU=>idx I (i64.wrap ((j:Int)+o)) λRj=>Y ((I.set ((i64.wrap ((j:Int)+o):Int).toNat) ⟨u32.wrap (u64.wrap (J+(u64.wrap ((u64.wrap (R.n))+(u64.wrap (U.n))))))⟩),mG .u64 (u64.wrap (J+(u64.wrap ((u64.wrap (R.n))+(u64.wrap (U.n)))))) 32)
def oV (Rj:(List bR)) (Rk:((List bR))) (o:Int) (I:Int) (j:Nat) (J:List bR) (Y:Int) (R:Int) (Ri:(List bR×Int×Int)->Option ((List bR)×(List bR))):Option ((List bR)×(List bR)):=idx (tG Rk 0 (((Rj.length:Int):Int).toNat)) (j:Int) λU=>idx J (i64.wrap ((j:Int)+o)) λZ=>idx J (i64.wrap ((j:Int)+o)) λRl=>Ri ((J.set ((i64.wrap ((j:Int)+o):Int).toNat) ⟨u32.wrap (i64.wrap (Y+(i64.wrap ((i64.wrap (Z.n))-(i64.wrap (u64.wrap ((BitVec.ofInt (u64).bits (u64.wrap (R+(u64.wrap (I*(u64.wrap (U.n)))))) &&& BitVec.ofInt (u64).bits 4294967295).toNat)))))))⟩),mG .i64 (i64.wrap (Y+(i64.wrap ((i64.wrap (Z.n))-(i64.wrap (u64.wrap ((BitVec.ofInt (u64).bits (u64.wrap (R+(u64.wrap (I*(u64.wrap (U.n)))))) &&& BitVec.ofInt (u64).bits 4294967295).toNat))))))) 32,mG .u64 (u64.wrap (R+(u64.wrap (I*(u64.wrap (U.n)))))) 32)
def fN (I:(List bR)) (Ri:((List bR))) (Z:List bR) (Rj:List bR) (o:Int) (Y:(List bR×List bR×Int)->Option ((List bR)×(List bR))) (R:Int):Option ((List bR)×(List bR)):=kz (λk j n=>oV I Ri o R k j.1 j.2.1 j.2.2 n) (λj=>idx j.1 (i64.wrap (o+(I.length:Int))) λU=>idx j.1 (i64.wrap (o+(I.length:Int))) λRl=>if decide ((i64.wrap (j.2.1+(i64.wrap ((i64.wrap (U.n))-(i64.wrap (j.2.2))))))<0) then (kz (λk J n=>oW I Ri o k J.1 J.2 n) (λJ=>idx J.1 (i64.wrap (o+(I.length:Int))) λRk=>idx J.1 (i64.wrap (o+(I.length:Int))) λRn=>kV Z o Y (J.1.set ((i64.wrap (o+(I.length:Int)):Int).toNat) ⟨u32.wrap (Rk.n+(u32.wrap (J.2)))⟩) (u64.wrap (R-1))) ((I.length:Int):Int).toNat 0 ((j.1.set ((i64.wrap (o+(I.length:Int)):Int).toNat) ⟨u32.wrap (i64.wrap (j.2.1+(i64.wrap ((i64.wrap (U.n))-(i64.wrap (j.2.2))))))⟩),0)) else (kV Z o Y (j.1.set ((i64.wrap (o+(I.length:Int)):Int).toNat) ⟨u32.wrap (i64.wrap (j.2.1+(i64.wrap ((i64.wrap (U.n))-(i64.wrap (j.2.2))))))⟩) R)) ((I.length:Int):Int).toNat 0 (Rj,0,0)
def oX (j:(List bR)) (J:((List bR))) (Z:List bR) (R:List bR) (U:Int) (Y:(List bR×List bR×Int)->Option ((List bR)×(List bR))) (o:Int) (I:Int) (Ri:(Int×Int)->Option ((List bR)×(List bR))):Option ((List bR)×(List bR)):=if decide (4294967296<=o) then (idx (tG J 0 (((j.length:Int):Int).toNat)) (i64.wrap ((j.length:Int)-1)) λRj=>if decide (4294967296<=(u64.wrap (I+(u64.wrap (Rj.n))))) then (fN j J Z R U Y (u64.wrap (o-1))) else (Ri (u64.wrap (o-1),u64.wrap (I+(u64.wrap (Rj.n)))))) else (idx (tG J 0 (((j.length:Int):Int).toNat)) (i64.wrap ((j.length:Int)-2)) λRl=>idx R (i64.wrap ((i64.wrap (U+(j.length:Int)))-2)) λRn=>if decide ((u64.wrap ((BitVec.ofInt (u64).bits (uF .u64 I 32) ||| BitVec.ofInt (u64).bits (u64.wrap (Rn.n))).toNat))<(u64.wrap (o*(u64.wrap (Rl.n))))) then (idx (tG J 0 (((j.length:Int):Int).toNat)) (i64.wrap ((j.length:Int)-1)) λRk=>if decide (4294967296<=(u64.wrap (I+(u64.wrap (Rk.n))))) then (fN j J Z R U Y (u64.wrap (o-1))) else (Ri (u64.wrap (o-1),u64.wrap (I+(u64.wrap (Rk.n)))))) else (fN j J Z R U Y o))
def mC (R:(Int)) (o:List bR) (j:Nat) (I:List bR) (J:List bR->Option ((List bR)×(List bR))):Option ((List bR)×(List bR)):=idx o (i64.wrap ((j:Int)+1)) λU=>idx o (j:Int) λY=>cE (0<=R) (idx I (j:Int) λZ=>J (I.set (((j:Int):Int).toNat) ⟨u32.wrap (mG .u64 (u64.wrap ((BitVec.ofInt (u64).bits (uF .u64 (u64.wrap (U.n)) 32) ||| BitVec.ofInt (u64).bits (u64.wrap (Y.n))).toNat)) R)⟩))
def oU (j:(List bR)) (Rn:(Int)) (R:((List bR))) (U:List bR) (o:List bR) (I:Int) (Rl:(List bR×List bR×Int)->Option ((List bR)×(List bR))):Option ((List bR)×(List bR)):=if decide (0<=I) then (idx o (i64.wrap (I+(j.length:Int))) λY=>idx o (i64.wrap ((i64.wrap (I+(j.length:Int)))-1)) λZ=>idx (tG R 0 (((j.length:Int):Int).toNat)) (i64.wrap ((j.length:Int)-1)) λRi=>cE ((u64.wrap (Ri.n))≠0) (idx (tG R 0 (((j.length:Int):Int).toNat)) (i64.wrap ((j.length:Int)-1)) λRj=>cE ((u64.wrap (Rj.n))≠0) (fG (λRk n=>oX j R U o I Rl Rk.1 Rk.2 n) eI (u64.wrap (Int.tdiv (u64.wrap ((BitVec.ofInt (u64).bits (uF .u64 (u64.wrap (Y.n)) 32) ||| BitVec.ofInt (u64).bits (u64.wrap (Z.n))).toNat)) (u64.wrap (Ri.n))),Int.tmod (u64.wrap ((BitVec.ofInt (u64).bits (uF .u64 (u64.wrap (Y.n)) 32) ||| BitVec.ofInt (u64).bits (u64.wrap (Z.n))).toNat)) (u64.wrap (Rj.n)))))) else (cE (0<=(j.length:Int)/\(j.length:Int)*4<=140737488355328) (kz (λk J n=>mC Rn o k J n) (λJ=>some (U,J)) ((j.length:Int):Int).toNat 0 (List.replicate ((j.length:Int):Int).toNat (⟨0⟩:bR))))
def nO (o:(List bR)) (j:(List bR)):Option ((List bR)×(List bR)):=(nN o j).bind λY=>if decide (Y<0) then (some ([],o)) else (if decide ((j.length:Int)=1) then (idx j 0 λZ=>(nP o Z.n).bind λR=>some (R.1,([⟨R.2⟩]:List bR))) else (idx j (i64.wrap ((j.length:Int)-1)) λRi=>(jF Ri.n).bind λJ=>(oM o J).bind λRj=>(oM j J).bind λU=>cE (0<=(j.length:Int)/\(j.length:Int)<=(U.length:Int)) (cE (0<=(i64.wrap ((i64.wrap ((o.length:Int)-(j.length:Int)))+1))/\(i64.wrap ((i64.wrap ((o.length:Int)-(j.length:Int)))+1))*4<=140737488355328) (fG (λI n=>oU j J U I.1 I.2.1 I.2.2 n) eI ((List.replicate (i64.wrap ((i64.wrap ((o.length:Int)-(j.length:Int)))+1):Int).toNat (⟨0⟩:bR)),Rj,i64.wrap ((o.length:Int)-(j.length:Int)))))))
def th (j:Bool) (o:(List bR)):Option (aC):=some (aC.mk j o)
def vI (o:Bool) (j:(List bR)) (Y:Bool) (I:(List bR)) (U:(Bool×(List bR)×Bool×(List bR))->Option (aC)):Option (aC):=if !decide ((eX (aC.mk o j))=0) then ((nO I j).bind λJ=>cE (J.2.length*4<=140737488355328) ((iQ false J.2).bind λR=>U (R.minus,R.words,o,j))) else (th Y I)
def qa (o:aC) (I:aC):Option (aC):=fG (λj n=>vI j.1 j.2.1 j.2.2.1 j.2.2.2 n) eI (false,I.words,false,o.words)
def lJ (j:List bR) (I:(List bR×Int)->Option ((List bR))) (o:Nat) (Y:Int):Option ((List bR)):=idx j (o:Int) λJ=>I ((j.set (((o:Int):Int).toNat) ⟨u32.wrap (Y)⟩),mG .u64 Y 32)
def r7 (U:(List bR)) (I:(List bR)) (j:Nat) (J:List bR) (Y:Int) (o:(List bR×Int)->Option ((List bR))):Option ((List bR)):=idx U (j:Int) λR=>if decide ((j:Int)<(I.length:Int)) then (idx I (j:Int) λZ=>lJ J o j (u64.wrap ((u64.wrap (Y+(u64.wrap (R.n))))+(u64.wrap (Z.n))))) else (lJ J o j (u64.wrap (Y+(u64.wrap (R.n)))))
def lK (j:(List bR)) (I:(List bR)):Option ((List bR)):=cE (0<=(i64.wrap ((j.length:Int)+1))/\(i64.wrap ((j.length:Int)+1))*4<=140737488355328) (kz (λk o n=>r7 j I k o.1 o.2 n) (λo=>idx o.1 (j.length:Int) λJ=>some (o.1.set (((j.length:Int):Int).toNat) ⟨u32.wrap (o.2)⟩)) ((j.length:Int):Int).toNat 0 ((List.replicate (i64.wrap ((j.length:Int)+1):Int).toNat (⟨0⟩:bR)),0))
def pR (j:(List bR)) (o:(List bR)):Option ((List bR)):=if decide ((j.length:Int)<(o.length:Int)) then (lK o j) else (lK j o)
def lL (j:List bR) (I:(List bR×Int)->Option ((List bR))) (o:Nat) (Y:Int):Option ((List bR)):=idx j (o:Int) λJ=>I ((j.set (((o:Int):Int).toNat) ⟨u32.wrap (Y)⟩),mG .i64 Y 32)
def r_ (U:(List bR)) (I:(List bR)) (j:Nat) (J:List bR) (Y:Int) (o:(List bR×Int)->Option ((List bR))):Option ((List bR)):=idx U (j:Int) λR=>if decide ((j:Int)<(I.length:Int)) then (idx I (j:Int) λZ=>lL J o j (i64.wrap ((i64.wrap (Y+(i64.wrap (R.n))))-(i64.wrap (Z.n))))) else (lL J o j (i64.wrap (Y+(i64.wrap (R.n)))))
def nQ (j:(List bR)) (I:(List bR)):Option ((List bR)):=cE (0<=(j.length:Int)/\(j.length:Int)*4<=140737488355328) (kz (λk o n=>r_ j I k o.1 o.2 n) (λo=>some o.1) ((j.length:Int):Int).toNat 0 ((List.replicate ((j.length:Int):Int).toNat (⟨0⟩:bR)),0))
def lP (j:aC) (o:aC):Option (aC):=if decide (j.minus=o.minus) then ((pR j.words o.words).bind λI=>(iQ j.minus I).bind λJ=>some J) else ((nN j.words o.words).bind λR=>if decide (0<=R) then ((nQ j.words o.words).bind λU=>(iQ j.minus U).bind λY=>some Y) else ((nQ o.words j.words).bind λZ=>(iQ o.minus Z).bind λRi=>some Ri))
def oI (j:aC) (o:aC):Option (aC):=(lQ o).bind λI=>(lP j I).bind λJ=>some J
def l7 (I:Bool) (j:(List bR)) (J:Bool) (o:(List bR)):Option (aC×aC):=some ((aC.mk J o),(aC.mk I j))
def cP (I:aC) (R:aC):Option (aC×aC):=(nO I.words R.words).bind λj=>cE (j.1.length*4<=140737488355328) ((iQ I.minus j.1).bind λJ=>cE (j.2.length*4<=140737488355328) ((iQ I.minus j.2).bind λo=>if o.minus then ((mY 1).bind λZ=>(oI J Z).bind λU=>(lP o R).bind λY=>l7 Y.minus Y.words U.minus U.words) else (l7 o.minus o.words J.minus J.words)))
def nM (o:Bool) (j:(List bR)) (Y:Bool) (I:(List bR)):Option (aA):=if decide ((j.length:Int)=1) then (idx j 0 λRo=>if decide (Ro.n=1) then (some (aA.mk (aC.mk Y I) (aC.mk o j))) else ((qa (aC.mk Y I) (aC.mk o j)).bind λJ=>if decide ((J.words.length:Int)=1) then (idx J.words 0 λRp=>if decide (Rp.n=1) then (some (aA.mk (aC.mk Y I) (aC.mk o j))) else ((cP (aC.mk false I) J).bind λU=>(cP (aC.mk o j) J).bind λRj=>if Y then (some (aA.mk (aC.mk (decide (0<(U.1.words.length:Int))) U.1.words) Rj.1)) else (some (aA.mk (aC.mk false U.1.words) Rj.1)))) else ((cP (aC.mk false I) J).bind λZ=>(cP (aC.mk o j) J).bind λRk=>if Y then (some (aA.mk (aC.mk (decide (0<(Z.1.words.length:Int))) Z.1.words) Rk.1)) else (some (aA.mk (aC.mk false Z.1.words) Rk.1))))) else ((qa (aC.mk Y I) (aC.mk o j)).bind λR=>if decide ((R.words.length:Int)=1) then (idx R.words 0 λRq=>if decide (Rq.n=1) then (some (aA.mk (aC.mk Y I) (aC.mk o j))) else ((cP (aC.mk false I) R).bind λRh=>(cP (aC.mk o j) R).bind λRl=>if Y then (some (aA.mk (aC.mk (decide (0<(Rh.1.words.length:Int))) Rh.1.words) Rl.1)) else (some (aA.mk (aC.mk false Rh.1.words) Rl.1)))) else ((cP (aC.mk false I) R).bind λRi=>(cP (aC.mk o j) R).bind λRn=>if Y then (some (aA.mk (aC.mk (decide (0<(Ri.1.words.length:Int))) Ri.1.words) Rn.1)) else (some (aA.mk (aC.mk false Ri.1.words) Rn.1))))
def nJ (o:aC) (j:aC):Option (aA):=if j.minus then ((lQ o).bind λI=>(lQ j).bind λJ=>nM J.minus J.words I.minus I.words) else (nM j.minus j.words o.minus o.words)
def rQ (j:Int) (o:Int):Option (aA):=(mY j).bind λI=>(mY o).bind λJ=>(nJ I J).bind λR=>some R
def sL (J:bR) (j:Nat) (o:Nat) (R:bR) (I:List bR) (Y:Int) (Z:(List bR×Int)->Option (aC)):Option (aC):=idx I (i64.wrap ((j:Int)+(o:Int))) λU=>idx I (i64.wrap ((j:Int)+(o:Int))) λRh=>Z ((I.set ((i64.wrap ((j:Int)+(o:Int)):Int).toNat) ⟨u32.wrap (u64.wrap (Y+(u64.wrap ((u64.wrap (U.n))+(u64.wrap ((u64.wrap (J.n))*(u64.wrap (R.n))))))))⟩),mG .u64 (u64.wrap (Y+(u64.wrap ((u64.wrap (U.n))+(u64.wrap ((u64.wrap (J.n))*(u64.wrap (R.n)))))))) 32)
def sK (o:aC) (I:Nat) (R:bR) (U:List bR) (J:List bR->Option (aC)):Option (aC):=dE (λk y j n=>sL R I k y j.1 j.2 n) (λj=>idx j.1 (i64.wrap ((I:Int)+(o.words.length:Int))) λY=>J (j.1.set ((i64.wrap ((I:Int)+(o.words.length:Int)):Int).toNat) ⟨u32.wrap (j.2)⟩)) 0 o.words (U,0)
def eZ (j:aC) (o:aC):Option (aC):=cE (0<=(i64.wrap ((j.words.length:Int)+(o.words.length:Int)))/\(i64.wrap ((j.words.length:Int)+(o.words.length:Int)))*4<=140737488355328) (dE (λk y I n=>sK o k y I n) (λI=>(iQ (!decide (j.minus=o.minus)) I).bind λJ=>some J) 0 j.words (List.replicate (i64.wrap ((j.words.length:Int)+(o.words.length:Int)):Int).toNat (⟨0⟩:bR)))
def lR (j:aA) (o:aA):Option (aA):=(eZ j.N o.N).bind λI=>(eZ j.D o.D).bind λJ=>(nJ I J).bind λR=>some R
def kE (j:Int):Option (aA):=(mY j).bind λo=>(mY 1).bind λI=>some (aA.mk o I)
def nK (j:Int):Option ((List aA)):=(kE 0).bind λo=>cE (([o]).length=1/\0<=j/\j*64<=140737488355328) (some (Hi ([o]) j))
def oG (I:(List Int)) (J:Int) (j:Nat) (o:Unit->Option (Int)):Option (Int):=idx I (j:Int) λR=>if decide (J=R) then (some (j:Int)) else (o ())
def lC (j:(List Int)) (o:Int):Option (Int):=kz (λk I n=>oG j o k n) (λ_=>some (-1)) ((j.length:Int):Int).toNat 0 ()
def mc (j:aX) (I:Int):Option (Int):=(lC j.rm I).bind λo=>some o
def iB (j:aA) (o:aA):Option (aA):=(eZ j.N o.D).bind λI=>(eZ o.N j.D).bind λJ=>(lP I J).bind λR=>(eZ j.D o.D).bind λU=>(nJ R U).bind λY=>some Y
def oK (j:aA):Option (aA):=(lQ j.N).bind λo=>some (aA.mk o j.D)
def jL (j:aA) (o:aA):Option (aA):=(oK o).bind λI=>(iB j I).bind λJ=>some J
def wL (I:Nat) (J:(List aA)) (j:List Nat) (o:List (List aA)) (R:(List Nat×List (List aA))->Option ((List Nat×List (List aA)))):Option ((List Nat×List (List aA))):=cE ((([]:List aA).length+J.length)*64<=140737488355328) (idx j (I:Int) λU=>R ((j.set (((I:Int):Int).toNat) o.length),(o++[([]:List aA)++J])))
def vO (o:(List (List aA))):Option ((List Nat×List (List aA))):=cE (0<=(o.length:Int)/\(o.length:Int)*24<=140737488355328) (dE (λk y j n=>wL k y j.1 j.2 n) (λj=>some (j.1,j.2)) 0 o ((List.replicate ((o.length:Int):Int).toNat 0),([[]])))
def cW (j:aA):Int:=(eX j.N)
def qR (j:aA) (o:aA):Option (aA):=(eZ j.N o.D).bind λI=>(eZ j.D o.N).bind λJ=>(nJ I J).bind λR=>some R
def oY (J:Int) (j:(List Int×Int×List Nat×List (List aA))->Option ((List Nat×List (List aA))×(List Int))) (R:List Int) (o:List Nat) (I:List (List aA)):Option ((List Nat×List (List aA))×(List Int)):=j (R,i64.wrap (J+1),o,I)
def jZ (j:List (List aA)->Option ((List Nat×List (List aA))×(List Int))) (o:List (List aA)):Option ((List Nat×List (List aA))×(List Int)):=j o
def mS (I:Int) (j:(Int×List (List aA))->Option ((List Nat×List (List aA))×(List Int))) (o:List (List aA)):Option ((List Nat×List (List aA))×(List Int)):=j (i64.wrap (I+1),o)
def o9 (I:List Int) (J:List Nat) (R:Int) (U:Nat) (Y:Nat) (Rk:List (List aA)->Option ((List Nat×List (List aA))×(List Int))) (Z:Nat) (Rl:aA) (o:Int) (j:List (List aA)) (Rj:(Int×List (List aA))->Option ((List Nat×List (List aA))×(List Int))):Option ((List Nat×List (List aA))×(List Int)):=idx ((J.set (((I.length:Int):Int).toNat) U).set ((R:Int).toNat) Y) (Z:Int) λRn=>if decide (o<(((j[Rn]?).getD []).length:Int)) then (idx ((J.set (((I.length:Int):Int).toNat) U).set ((R:Int).toNat) Y) (I.length:Int) λRo=>idx ((j[Ro]?).getD []) o λRp=>if !decide ((cW Rp)=0) then (idx ((J.set (((I.length:Int):Int).toNat) U).set ((R:Int).toNat) Y) (Z:Int) λRi=>idx ((J.set (((I.length:Int):Int).toNat) U).set ((R:Int).toNat) Y) (Z:Int) λRq=>idx ((j[Rq]?).getD []) o λRs=>idx ((J.set (((I.length:Int):Int).toNat) U).set ((R:Int).toNat) Y) (I.length:Int) λRu=>idx ((j[Ru]?).getD []) o λRv=>(lR Rl Rv).bind λRx=>(jL Rs Rx).bind λRy=>idx ((j[Ri]?).getD []) o λRz=>mS o Rj (j.set Ri (((j[Ri]?).getD []).set ((o:Int).toNat) Ry))) else (mS o Rj j)) else (jZ Rk j)
def rh (o:List Int) (U:Int) (J:List Nat) (Y:Int) (Z:Nat) (Ri:Nat) (I:Nat) (j:List (List aA)) (R:List (List aA)->Option ((List Nat×List (List aA))×(List Int))):Option ((List Nat×List (List aA))×(List Int)):=if decide ((I:Int)=(o.length:Int)) then (jZ R j) else (idx ((J.set (((o.length:Int):Int).toNat) Z).set ((Y:Int).toNat) Ri) (I:Int) λRk=>idx ((j[Rk]?).getD []) U λRl=>if decide ((cW Rl)=0) then (jZ R j) else (idx ((J.set (((o.length:Int):Int).toNat) Z).set ((Y:Int).toNat) Ri) (I:Int) λRn=>idx ((j[Rn]?).getD []) U λRo=>fG (λRj n=>o9 o J Y Z Ri R I Ro Rj.1 Rj.2 n) eI (U,j)))
def oZ (j:List Int) (Z:Int) (o:List Nat) (Rk:(List Int×Int×List Nat×List (List aA))->Option ((List Nat×List (List aA))×(List Int))) (J:Int) (R:Nat) (U:Nat) (Rn:aA) (Y:Int) (I:List (List aA)) (Rl:(Int×List (List aA))->Option ((List Nat×List (List aA))×(List Int))):Option ((List Nat×List (List aA))×(List Int)):=idx ((o.set (((j.length:Int):Int).toNat) R).set ((J:Int).toNat) U) (j.length:Int) λRo=>if decide (Y<(((I[Ro]?).getD []).length:Int)) then (idx ((o.set (((j.length:Int):Int).toNat) R).set ((J:Int).toNat) U) (j.length:Int) λRi=>idx ((o.set (((j.length:Int):Int).toNat) R).set ((J:Int).toNat) U) (j.length:Int) λRp=>idx ((I[Rp]?).getD []) Y λRq=>(qR Rq Rn).bind λRs=>idx ((I[Ri]?).getD []) Y λRu=>Rl (i64.wrap (Y+1),(I.set Ri (((I[Ri]?).getD []).set ((Y:Int).toNat) Rs)))) else (cE ((((o.set (((j.length:Int):Int).toNat) R).set ((J:Int).toNat) U).length:Int)<=9223372036854775807) (kz (λk Rj n=>rh j Z o J R U k Rj n) (λRj=>cE ((j.length+([Z]:List Int).length)*8<=140737488355328) (oY Z Rk (j++([Z]:List Int)) ((o.set (((j.length:Int):Int).toNat) R).set ((J:Int).toNat) U) Rj)) ((((o.set (((j.length:Int):Int).toNat) R).set ((J:Int).toNat) U).length:Int):Int).toNat 0 I))
def o_ (o:List Int) (J:Int) (j:List Nat) (R:List (List aA)) (Y:(List Int×Int×List Nat×List (List aA))->Option ((List Nat×List (List aA))×(List Int))) (I:Int):Option ((List Nat×List (List aA))×(List Int)):=if decide (I=(j.length:Int)) then (oY J Y o j R) else (idx j I λU=>idx j (o.length:Int) λZ=>idx j (o.length:Int) λRl=>idx (j.set (((o.length:Int):Int).toNat) U) I λRn=>idx ((j.set (((o.length:Int):Int).toNat) U).set ((I:Int).toNat) Z) (o.length:Int) λRj=>idx ((R[Rj]?).getD []) J λRk=>fG (λRi n=>oZ o J j Y I U Z Rk Ri.1 Ri.2 n) eI (J,R))
def tk (U:List Int) (J:Int) (j:List Nat) (I:List (List aA)) (R:(List Int×Int×List Nat×List (List aA))->Option ((List Nat×List (List aA))×(List Int))) (o:Int) (Y:Int->Option ((List Nat×List (List aA))×(List Int))):Option ((List Nat×List (List aA))×(List Int)):=if decide (o<(j.length:Int)) then (idx j o λZ=>idx ((I[Z]?).getD []) J λRi=>if decide ((cW Ri)=0) then (Y (i64.wrap (o+1))) else (o_ U J j I R o)) else (o_ U J j I R o)
def mR (Y:Int) (j:List Int) (J:Int) (o:List Nat) (I:List (List aA)) (R:(List Int×Int×List Nat×List (List aA))->Option ((List Nat×List (List aA))×(List Int))):Option ((List Nat×List (List aA))×(List Int)):=if (decide (J<Y)) && (decide ((j.length:Int)<(o.length:Int))) then (fG (λU n=>tk j J o I R U n) eI (j.length:Int)) else (some ((o,I),j))
def rR (I:(List (List aA))) (J:Int):Option ((List Nat×List (List aA))×(List Int)):=(vO I).bind λo=>fG (λj n=>mR J j.1 j.2.1 j.2.2.1 j.2.2.2 n) eI (([]:List Int),0,o.1,o.2)
def uc (R:(List (List aA))) (J:Nat) (j:List Nat) (I:List (List aA)) (U:(List Nat×List (List aA))->Option ((List (List aA))×Bool)):Option ((List (List aA))×Bool):=idx j (J:Int) λo=>cE (0<=(R.length:Int)/\(R.length:Int)<=(((I[o]?).getD []).length:Int)) (idx j (J:Int) λY=>cE (lone j (((J:Int):Int).toNat) o=true) (U ((j.set (((J:Int):Int).toNat) o),(I.set o (((I[o]?).getD []).drop ((R.length:Int):Int).toNat)))))
def ub (R:(List (List aA))) (j:Nat) (J:List Nat) (o:List (List aA)) (Z:(List Nat×List (List aA))->Option ((List (List aA))×Bool)):Option ((List (List aA))×Bool):=idx R (j:Int) λI=>cE ((([]:List aA).length+I.length)*64<=140737488355328) ((nK (R.length:Int)).bind λU=>cE (((([]:List aA)++I).length+U.length)*64<=140737488355328) (idx J (j:Int) λRj=>idx (J.set (((j:Int):Int).toNat) o.length) (j:Int) λY=>(kE 1).bind λRi=>idx (((o++[(([]:List aA)++I)++U])[Y]?).getD []) (i64.wrap ((R.length:Int)+(j:Int))) λRk=>Z ((J.set (((j:Int):Int).toNat) o.length),((o++[(([]:List aA)++I)++U]).set Y ((((o++[(([]:List aA)++I)++U])[Y]?).getD []).set ((i64.wrap ((R.length:Int)+(j:Int)):Int).toNat) Ri)))))
def qX (j:(List (List aA))):Option ((List (List aA))×Bool):=cE (0<=(j.length:Int)/\(j.length:Int)*24<=140737488355328) (kz (λk o n=>ub j k o.1 o.2 n) (λo=>(rR (sh o.1 o.2) (j.length:Int)).bind λI=>if decide ((I.2.length:Int)<(j.length:Int)) then (some ([],false)) else (cE ((I.1.1.length:Int)<=9223372036854775807) (kz (λk J n=>uc j k J.1 J.2 n) (λJ=>some (sh J.1 J.2,true)) ((I.1.1.length:Int):Int).toNat 0 (I.1.1,I.1.2)))) ((j.length:Int):Int).toNat 0 ((List.replicate ((j.length:Int):Int).toNat 0),([[]])))
def gE (j:List (List aA)->Option (aX)) (o:List (List aA)):Option (aX):=j o
def iX (R:List Nat) (Z:List (List aA)->Option (aX)) (Ri:aA) (J:(Int)) (o:(Int)) (j:List (List aA)):Option (aX):=if (decide (0<=J)) && (decide (0<=o)) then (idx R J λI=>idx R o λU=>idx R J λRj=>idx ((j[Rj]?).getD []) o λRk=>(jL Rk Ri).bind λY=>idx R o λRl=>idx ((j[Rl]?).getD []) J λRn=>(jL Rn Ri).bind λRo=>idx ((j[I]?).getD []) o λRp=>idx (((j.set I (((j[I]?).getD []).set ((o:Int).toNat) Y))[U]?).getD []) J λRq=>gE Z ((j.set I (((j[I]?).getD []).set ((o:Int).toNat) Y)).set U ((((j.set I (((j[I]?).getD []).set ((o:Int).toNat) Y))[U]?).getD []).set ((J:Int).toNat) Ro))) else (gE Z j)
def iY (I:List Nat) (U:List (List aA)->Option (aX)) (J:aA) (Y:(Int)) (j:(Int)) (o:List (List aA)):Option (aX):=if decide (0<=j) then (idx I j λR=>idx I j λZ=>idx ((o[Z]?).getD []) j λRi=>(iB Ri J).bind λRj=>idx ((o[R]?).getD []) j λRk=>iX I U J Y j (o.set R (((o[R]?).getD []).set ((j:Int).toNat) Rj))) else (iX I U J Y j o)
def kR (I:aX) (J:List Nat) (Y:Nat) (U:aA) (o:List (List aA)) (R:List (List aA)->Option (aX)):Option (aX):=idx I.qe (Y:Int) λRj=>(mc I Rj).bind λj=>idx I.To (Y:Int) λRk=>(mc I Rk).bind λRi=>idx I.qe (Y:Int) λRl=>idx I.To (Y:Int) λRn=>if decide (Rl=Rn) then (gE R o) else (if decide (0<=j) then (idx J j λZ=>idx J j λRo=>idx ((o[Ro]?).getD []) j λRp=>(iB Rp U).bind λRq=>idx ((o[Z]?).getD []) j λRs=>iY J R U j Ri (o.set Z (((o[Z]?).getD []).set ((j:Int).toNat) Rq))) else (iY J R U j Ri o))
def qu (R:aX) (I:Nat) (j:List Nat) (o:List (List aA)) (J:(List Nat×List (List aA))->Option (aX)):Option (aX):=(nK (R.rm.length:Int)).bind λU=>idx j (I:Int) λY=>J ((j.set (((I:Int):Int).toNat) o.length),(o++[U]))
def ni (j:aX):Option (aX):=cE (0<=(j.rm.length:Int)/\(j.rm.length:Int)*24<=140737488355328) (cE (((List.replicate ((j.rm.length:Int):Int).toNat 0).length:Int)<=9223372036854775807) (kz (λk o n=>qu j k o.1 o.2 n) (λo=>dE (λk y I n=>kR j o.1 k y I n) (λI=>(qX (sh o.1 I)).bind λJ=>some (aX.mk j.wJ j.qe j.To j.B_ j.C j.rm J.1)) 0 j.B_ o.2) (((List.replicate ((j.rm.length:Int):Int).toNat 0).length:Int):Int).toNat 0 ((List.replicate ((j.rm.length:Int):Int).toNat 0),([[]]))))
def rP (o:(List (Int×Bool))) (j:((List (Int×Bool))×List Int)->Option ((Option aX))) (I:Int) (J:List Int):Option ((Option aX)):=j ((wh o I true),J)
def xx (R:Nat) (j:Int) (o:(List (Int×Bool))) (I:List Int) (J:((List (Int×Bool))×List Int)->Option ((Option aX))):Option ((Option aX)):=if (sf o j).getD false then (cE ((I.length+([((R:Int))]:List Int).length)*8<=140737488355328) (rP o J j (I++([((R:Int))]:List Int)))) else (rP o J j I)
def xw (I:aD) (J:(aY)) (Rq:Nat) (j:aQ) (R:List Int) (U:List Int) (Y:List aA) (Z:List aA) (Rl:(List Int×List Int×List aA×List aA)->Option ((Option aX))):Option ((Option aX)):=(bD I.bF j.qe).bind λRn=>idx J.qJ Rn λRi=>cE ((R.length+([Ri]:List Int).length)*8<=140737488355328) ((bD I.bF j.To).bind λRo=>idx J.qJ Ro λRj=>cE ((U.length+([Rj]:List Int).length)*8<=140737488355328) ((rQ 1000000 (i64.wrap (j.X*j.C1))).bind λo=>cE ((Y.length+([o]).length)*64<=140737488355328) ((rQ (i64.wrap (0-j.Shift)) 1000).bind λRp=>(lR o Rp).bind λRk=>cE ((Z.length+([Rk]).length)*64<=140737488355328) (Rl ((R++([Ri]:List Int)),(U++([Rj]:List Int)),(Y++([o])),(Z++([Rk])))))))
def w9 (I:aD):Option ((Option aX)):=(eA I).bind λJ=>dE (λk y j n=>xw I J k y j.1 j.2.1 j.2.2.1 j.2.2.2 n) (λj=>dE (λk y o n=>xx k y o.1 o.2 n) (λo=>(ni (aX.mk J j.1 j.2.1 j.2.2.1 j.2.2.2 o.2 [])).bind λR=>some (some R)) 0 J.bO (([]:(List (Int×Bool))),([]:List Int))) 0 I.aJ (([]:List Int),([]:List Int),([]:List aA),([]:List aA))
def fS (j:aX):Int:=(j.wJ.bO.length:Int)
def rC (R:Nat) (J:Int) (j:List aA) (I:List aA->Option ((List aA))):Option ((List aA)):=(kE J).bind λo=>cE ((j.length+([o]).length)*64<=140737488355328) (I (j++([o])))
def rB (J:aX) (R:Nat) (U:Int) (j:List Int) (I:List Int->Option ((List aA))):Option ((List aA)):=idx J.wJ.qJ (R:Int) λo=>idx j o λY=>idx j o λZ=>I (j.set ((o:Int).toNat) (i64.wrap (Y+U)))
def oQ (j:aX) (J:(List Int)):Option ((List aA)):=cE (0<=(fS j)/\(fS j)*8<=140737488355328) (dE (λk y o n=>rB j k y o n) (λo=>dE (λk y I n=>rC k y I n) (λI=>some I) 0 o ([]:List aA)) 0 J (List.replicate ((fS j):Int).toNat (0:Int)))
def mB (j:(Bool×(List bR)×Bool×(List bR))->Option (aA)) (o:Bool) (I:(List bR)) (J:Bool) (R:(List bR)):Option (aA):=j (o,I,J,R)
def vH (Z:(List aA)) (Ri:(List aA)) (o:Nat) (J:Bool) (R:(List bR)) (U:Bool) (Y:(List bR)) (j:(Bool×(List bR)×Bool×(List bR))->Option (aA)):Option (aA):=idx Z (o:Int) λRj=>if decide ((cW Rj)=0) then (mB j J R U Y) else (idx Ri (o:Int) λRk=>if !decide ((cW Rk)=0) then (idx Z (o:Int) λRl=>idx Ri (o:Int) λRn=>(lR Rl Rn).bind λRo=>(iB (aA.mk (aC.mk J R) (aC.mk U Y)) Ro).bind λI=>mB j I.N.minus I.N.words I.D.minus I.D.words) else (mB j J R U Y))
def uB (I:(List aA)) (J:(List aA)):Option (aA):=(kE 0).bind λo=>kz (λk j n=>vH I J k j.1 j.2.1 j.2.2.1 j.2.2.2 n) (λj=>some (aA.mk (aC.mk j.1 j.2.1) (aC.mk j.2.2.1 j.2.2.2))) ((I.length:Int):Int).toNat 0 (o.N.minus,o.N.words,o.D.minus,o.D.words)
def qq (J:aX) (R:List aA) (U:Nat) (j:Int) (o:List aA) (I:List aA->Option ((List aA))):Option ((List aA)):=idx J.rN (U:Int) λY=>(uB Y R).bind λZ=>idx o j λRi=>I (o.set ((j:Int).toNat) Z)
def qp (J:(List aA)) (j:Nat) (R:Int) (o:List aA) (I:List aA->Option ((List aA))):Option ((List aA)):=idx J R λU=>idx o (j:Int) λY=>I (o.set (((j:Int):Int).toNat) U)
def nh (j:aX) (J:(List aA)):Option ((List aA)):=cE (0<=(j.rm.length:Int)/\(j.rm.length:Int)*64<=140737488355328) (dE (λk y o n=>qp J k y o n) (λo=>(nK (fS j)).bind λR=>dE (λk y I n=>qq j o k y I n) (λI=>some I) 0 j.rm R) 0 j.rm (List.replicate ((j.rm.length:Int):Int).toNat ((aA.mk (aC.mk false []) (aC.mk false [])):aA)))
def nG (o:aX) (I:Nat) (U:aA) (j:List aA) (Z:List aA->Option ((List aA))):Option ((List aA)):=idx o.qe (I:Int) λJ=>idx o.qe (I:Int) λRi=>idx j Ri λRj=>(jL Rj U).bind λR=>idx j J λRo=>idx o.To (I:Int) λY=>idx o.To (I:Int) λRk=>idx (j.set ((J:Int).toNat) R) Rk λRl=>(iB Rl U).bind λRn=>idx (j.set ((J:Int).toNat) R) Y λRp=>Z ((j.set ((J:Int).toNat) R).set ((Y:Int).toNat) Rn)
def ng (j:aX) (I:(List aA)):Option ((List aA)):=cE (I.length*64<=140737488355328) (dE (λk y o n=>nG j k y o n) (λo=>(nh j o).bind λJ=>some J) 0 j.C I)
def lH (J:Int) (I:(Int×List U8)->Option (RI×Bool)) (j:bR) (o:List U8):Option (RI×Bool):=cE (o.length+(jV (u64.wrap (j.n))).size<=140737488355328) (I (i64.wrap (J-1),(o++fQ (jV (u64.wrap (j.n))))))
def lI (j:List U8) (o:RI):Option (RI×Bool):=some (o,(decide (((xV j).size:Int)<=2000)))
def pJ (R:aC) (J:List bR) (Y:Int) (j:List U8) (I:(Int×List U8)->Option (RI×Bool)):Option (RI×Bool):=if decide (0<=Y) then (idx J Y λo=>cE (0<=(u64.wrap (o.n))/\(u64.wrap (o.n))<=18446744073709551615) (if decide (Y<(i64.wrap ((J.length:Int)-1))) then (cE (0<=((jV (u64.wrap (o.n))).size:Int)/\((jV (u64.wrap (o.n))).size:Int)<=((⟨#[48,48,48,48,48,48,48,48,48]⟩:RI).size:Int)) (cE (j.length+((⟨#[48,48,48,48,48,48,48,48,48]⟩:RI).extract ((((jV (u64.wrap (o.n))).size:Int):Int).toNat) ((⟨#[48,48,48,48,48,48,48,48,48]⟩:RI).size)).size<=140737488355328) (lH Y I o (j++fQ ((⟨#[48,48,48,48,48,48,48,48,48]⟩:RI).extract ((((jV (u64.wrap (o.n))).size:Int):Int).toNat) ((⟨#[48,48,48,48,48,48,48,48,48]⟩:RI).size)))))) else (lH Y I o j))) else (cE (0<j.length) (if R.minus then (cE ((⟨#[45]⟩:RI).size+(xV j).size<=maxLen) (lI j ((⟨#[45]⟩:RI)++(xV j)))) else (lI j (xV j))))
def rZ (U:aC) (j:List bR) (I:(List bR)) (R:(List bR×(List bR))->Option (RI×Bool)):Option (RI×Bool):=if decide (0<(I.length:Int)) then ((nP I 1000000000).bind λo=>cE ((j.length+([⟨o.2⟩]:List bR).length)*4<=140737488355328) ((iQ false o.1).bind λY=>R ((j++([⟨o.2⟩]:List bR)),Y.words))) else (fG (λJ n=>pJ U j J.1 J.2 n) eI (i64.wrap ((j.length:Int)-1),([]:List U8)))
def kU (j:aC):Option (RI×Bool):=if decide ((j.words.length:Int)=0) then (some ((⟨#[48]⟩),true)) else (if decide (210<(j.words.length:Int)) then (some ((⟨#[]⟩),false)) else (fG (λo n=>rZ j o.1 o.2 n) eI (([]:List bR),j.words)))
def pQ (I:aA):Option (RI×Bool):=(kU I.N).bind λj=>if !j.2 then (some ((⟨#[]⟩),false)) else ((kU I.D).bind λo=>if decide (o.1=(⟨#[49]⟩)) then (some (j.1,o.2)) else (cE (j.1.size+(⟨#[47]⟩:RI).size<=maxLen) (cE ((j.1++(⟨#[47]⟩)).size+o.1.size<=maxLen) (some (((j.1++(⟨#[47]⟩))++o.1),o.2)))))
def ua (j:Nat) (R:aA) (o:List RI) (J:List RI->Option ((List RI)×Bool)):Option ((List RI)×Bool):=(pQ R).bind λI=>if !I.2 then (some (([]:List RI),false)) else (idx o (j:Int) λU=>J (o.set (((j:Int):Int).toNat) I.1))
def uk (j:(List aA)):Option ((List RI)×Bool):=cE (0<=(j.length:Int)/\(j.length:Int)*16<=140737488355328) (dE (λk y o n=>ua k y o n) (λo=>some (o,true)) 0 j (List.replicate ((j.length:Int):Int).toNat ((⟨#[]⟩):RI)))
def nR (o:(List aA)):Option ((List RI)×Int):=(uk o).bind λj=>if !j.2 then (some (([]:List RI),2)) else (some (j.1,0))
def qZ (j:aX) (I:(List aA)) (o:Nat) (Y:aA) (J:List aA) (U:List aA->Option ((List aA))):Option ((List aA)):=idx j.B_ (o:Int) λZ=>idx j.qe (o:Int) λRi=>idx I Ri λRj=>idx j.To (o:Int) λRk=>idx I Rk λRl=>(jL Rj Rl).bind λRn=>(lR Z Rn).bind λRo=>(iB Ro Y).bind λR=>cE ((J.length+([R]).length)*64<=140737488355328) (U (J++([R])))
def nV (o:aX) (I:(List aA)):Option ((List aA)):=dE (λk y j n=>qZ o I k y j n) (λj=>some j) 0 o.C ([]:List aA)
def qv (j:aD) (Z:(List Int)):Option (cH×Int):=(ql j Z).bind λo=>if !decide (o=0) then (some ((cH.mk ([]:List RI) ([]:List RI)),o)) else ((w9 j).bind λU=>Dc U none (λY=>(oQ Y Z).bind λRg=>(ng Y Rg).bind λI=>(nR I).bind λJ=>(nV Y I).bind λRh=>(nR Rh).bind λR=>if (!decide (J.2=0)) || (!decide (R.2=0)) then (some ((cH.mk ([]:List RI) ([]:List RI)),2)) else (some ((cH.mk J.1 R.1),0))))
def eL (j:RI) (o:Int):Int:=(Mu j o)
def dM (j:RI) (I:RI):Option (Int):=if (decide ((I.size:Int)=0)) || (decide (I=j)) then (some 0) else (if decide ((I.size:Int)=1) then (idx (fQ I) 0 λo=>some (eL j o.n)) else (if decide ((j.size:Int)<=(I.size:Int)) then (some (-1)) else none))
def e_ (j:RI) (I:RI):Option (RI×RI×Bool):=(dM j I).bind λo=>if decide (0<=o) then (cE (0<=o/\o<=(j.size:Int)) (cE (0<=(i64.wrap (o+(I.size:Int)))/\(i64.wrap (o+(I.size:Int)))<=(j.size:Int)) (some ((j.extract 0 ((o:Int).toNat)),(j.extract ((i64.wrap (o+(I.size:Int)):Int).toNat) j.size),true)))) else (some (j,(⟨#[]⟩),false))
def iH (o:RI) (I:RI):Option (RI×RI×Bool):=(e_ o I).bind λj=>some (j.1,j.2.1,j.2.2)
def eK (o:RI) (j:RI):Option (Bool):=if decide ((j.size:Int)<=(o.size:Int)) then (cE (0<=(j.size:Int)/\(j.size:Int)<=(o.size:Int)) (some (decide ((o.extract 0 (((j.size:Int):Int).toNat))=j)))) else (some false)
def nD (o:RI) (j:RI):Option (Bool):=(eK o j).bind λI=>some I
def iG (o:RI) (j:RI):Option (RI):=(eK o j).bind λI=>if I then (cE (0<=(j.size:Int)/\(j.size:Int)<=(o.size:Int)) (some (o.extract (((j.size:Int):Int).toNat) o.size))) else (some o)
def kZ (o:RI) (j:RI):Option (RI):=(iG o j).bind λI=>some I
def sA (o:(Bool)) (I:Bool) (j:(List bR)):Option (aC):=if o then (some (aC.mk (decide (0<(j.length:Int))) j)) else (some (aC.mk false j))
def uR (U:(Bool)) (j:RI) (o:Bool) (I:(List bR)) (R:(RI×Bool×(List bR))->Option (aC)):Option (aC):=if decide (0<(j.size:Int)) then (cE (0<=(i64.wrap ((Int.tmod (i64.wrap ((j.size:Int)-1)) 9)+1))/\(i64.wrap ((Int.tmod (i64.wrap ((j.size:Int)-1)) 9)+1))<=(j.size:Int)) (cE ((j.extract 0 ((i64.wrap ((Int.tmod (i64.wrap ((j.size:Int)-1)) 9)+1):Int).toNat)).size≠0/\(j.extract 0 ((i64.wrap ((Int.tmod (i64.wrap ((j.size:Int)-1)) 9)+1):Int).toNat)).size<=281474976710656/\(MX (j.extract 0 ((i64.wrap ((Int.tmod (i64.wrap ((j.size:Int)-1)) 9)+1):Int).toNat))).2=false) ((mY 1000000000).bind λY=>(eZ (aC.mk o I) Y).bind λZ=>(mY (i64.wrap ((MX (j.extract 0 ((i64.wrap ((Int.tmod (i64.wrap ((j.size:Int)-1)) 9)+1):Int).toNat))).1))).bind λRi=>(lP Z Ri).bind λJ=>cE (0<=(i64.wrap ((Int.tmod (i64.wrap ((j.size:Int)-1)) 9)+1))/\(i64.wrap ((Int.tmod (i64.wrap ((j.size:Int)-1)) 9)+1))<=(j.size:Int)) (R (j.extract ((i64.wrap ((Int.tmod (i64.wrap ((j.size:Int)-1)) 9)+1):Int).toNat) j.size,J.minus,J.words))))) else (sA U o I)
def lz (o:RI):Option (aC):=(nD o (⟨#[45]⟩)).bind λI=>(kZ o (⟨#[45]⟩)).bind λJ=>fG (λj n=>uR I j.1 j.2.1 j.2.2 n) eI (J,false,[])
def qW (o:RI):Option (aA):=(iH o (⟨#[47]⟩)).bind λj=>if !j.2.2 then ((lz j.1).bind λI=>(mY 1).bind λJ=>some (aA.mk I J)) else ((lz j.1).bind λR=>(lz j.2.1).bind λU=>some (aA.mk R U))
def oJ (j:aA):Option (aA):=if decide ((cW j)<0) then ((oK j).bind λo=>some o) else (some j)
def sx (j:aC) (o:aC):Option (Int):=(oI j o).bind λI=>some (eX I)
def mZ (j:aA) (o:aA):Option (Int):=(eZ j.N o.D).bind λI=>(eZ o.N j.D).bind λJ=>(sx I J).bind λR=>some R
def pw (j:List RI->Option ((List RI))) (o:List RI):Option ((List RI)):=j o
def tz (mr:(List RI)) (J:Nat) (j:aQ) (o:List RI) (I:List RI->Option ((List RI))):Option ((List RI)):=idx mr (J:Int) λR=>(qW R).bind λU=>(oJ U).bind λY=>(kE j.uu).bind λZ=>(mZ Y Z).bind λRi=>if decide (0<Ri) then (cE ((o.length+([j.Name]).length)*16<=140737488355328) (pw I (o++([j.Name])))) else (pw I o)
def oa (o:aD) (mr:(List RI)):Option ((List RI)):=dE (λk y j n=>tz mr k y j n) (λj=>some j) 0 o.aJ ([]:List RI)
def fZ (o:aD):Option (cH×(List RI)×Int):=(gF o).bind λI=>if !decide (I.2=0) then (some ((cH.mk ([]:List RI) ([]:List RI)),([]:List RI),I.2)) else ((qv o I.1).bind λj=>if !decide (j.2=0) then (some ((cH.mk ([]:List RI) ([]:List RI)),([]:List RI),j.2)) else ((oa o j.1.iI).bind λJ=>some (j.1,J,0)))
def dW (I:aD) (on:(List RI)):Option (cH×(List RI)×Int):=(n_ I on).bind λj=>if !decide (j.2=0) then (some ((cH.mk ([]:List RI) ([]:List RI)),([]:List RI),j.2)) else ((fZ j.1).bind λo=>some (o.1,o.2.1,o.2.2))
def qD (j:cK):Option (Int):=(bX j.bU).bind λo=>if !decide (o=0) then (some o) else ((mO j.pL).bind λI=>if !decide (I=0) then (some I) else (if decide (5<(j.bU.bE.length:Int)) then (some 2) else ((qH j.bU).bind λJ=>(dW j.bU J).bind λR=>some R.2.2)))
def fR:aL:=(aL.mk ([]:List aE))
def qy (j:aD):Option ((Option bQ)×Int):=(bX j).bind λo=>if !decide (o=0) then (some (none,o)) else ((kL j).bind λI=>(nK (j.aJ.length:Int)).bind λJ=>cE (0<=(j.aJ.length:Int)/\(j.aJ.length:Int)*8<=140737488355328) (cE (0<=(j.aJ.length:Int)/\(j.aJ.length:Int)*1<=140737488355328) (some ((some (bQ.mk I.aJ J (List.replicate ((j.aJ.length:Int):Int).toNat (0:Int)) (List.replicate ((j.aJ.length:Int):Int).toNat (false:Bool)) 0)),0))))
def wO (j:Nat) (o:List bA) (R:List bA->Option ((Option aT)×Int)):Option ((Option aT)×Int):=idx o (j:Int) λI=>cE (I.xT.length*40<=140737488355328) (idx o (j:Int) λJ=>R (o.set (((j:Int):Int).toNat) (bA.mk J.Close J.Switch I.xT)))
def sP (j:cK):Option ((Option aT)×Int):=(qD j).bind λR=>if !decide (R=0) then (some (none,R)) else ((kL j.bU).bind λo=>cE (j.pL.length*48<=140737488355328) ((qH j.bU).bind λI=>kz (λk J n=>wO k J n) (λJ=>(qy o).bind λU=>Dc U.1 ((dW o I).bind λRh=>none) (λY=>(dW o I).bind λZ=>some ((some (aT.mk o J I [] Y Z.1 0 ((fR)) [])),0))) ((j.pL.length:Int):Int).toNat 0 j.pL))
def qw:aD:=(aD.mk ([(⟨#[65]⟩),(⟨#[66]⟩)]) ([]:List aZ) ([(aQ.mk (⟨#[76]⟩) (⟨#[65]⟩) (⟨#[66]⟩) 1000 1000 0 40 60 10)]) ([(bH.mk (⟨#[71]⟩) (⟨#[65]⟩) 10 50 0)]) ([(aH.mk (⟨#[68]⟩) (⟨#[66]⟩) 30)]) ([]:List cJ))
def mM (I:Nat) (j:U8) (o:Unit->Option (Bool)):Option (Bool):=if (decide (j.n<97)) || (decide (122<j.n)) then (some false) else (o ())
def dU (j:RI):Option (Bool):=cE (j.size<=maxLen) (dE (λk y o n=>mM k y n) (λ_=>some ((decide (1<=(j.size:Int))) && (decide ((j.size:Int)<=8)))) 0 (fQ j) ())
def cL (j:aE):Option (Int):=if (decide (j.Time<0)) || (decide (200000<j.Time)) then (some 12) else ((dU j.Kind).bind λo=>if o then ((bB j.Name).bind λI=>if !I then (some 6) else (if (decide (j.Value<(-1000000))) || (decide (1000000<j.Value)) then (some 4) else (some 0))) else (some 6))
def fX (j:aL):Option ((List aE)):=cE (j.eV.length*48<=140737488355328) (some j.eV)
def px (o:aH) (j:aE):Bool:=(decide (o.Name=j.Name))
def fY (J:(List aH)) (j:aE) (o:Nat) (I:Unit->Option (Int)):Option (Int):=idx J (o:Int) λR=>if (px R j) then (some (o:Int)) else (I ())
def dJ (o:(List aH)) (j:aE):Option (Int):=kz (λk I n=>fY o j k n) (λ_=>some (-1)) ((o.length:Int):Int).toNat 0 ()
def py (o:bH) (j:aE):Bool:=(decide (o.Name=j.Name))
def gL (J:(List bH)) (j:aE) (o:Nat) (I:Unit->Option (Int)):Option (Int):=idx J (o:Int) λR=>if (py R j) then (some (o:Int)) else (I ())
def dP (o:(List bH)) (j:aE):Option (Int):=kz (λk I n=>gL o j k n) (λ_=>some (-1)) ((o.length:Int):Int).toNat 0 ()
def ou (o:aZ) (j:aE):Bool:=(decide (o.Name=j.Name))
def fD (J:(List aZ)) (j:aE) (o:Nat) (I:Unit->Option (Int)):Option (Int):=idx J (o:Int) λR=>if (ou R j) then (some (o:Int)) else (I ())
def cV (o:(List aZ)) (j:aE):Option (Int):=kz (λk I n=>fD o j k n) (λ_=>some (-1)) ((o.length:Int):Int).toNat 0 ()
def lG (o:aN) (j:RI):Bool:=(decide (o.Name=j))
def cQ (J:(List aN)) (j:RI) (o:Nat) (I:Unit->Option (Int)):Option (Int):=idx J (o:Int) λR=>if (lG R j) then (some (o:Int)) else (I ())
def b_ (o:(List aN)) (j:RI):Option (Int):=kz (λk I n=>cQ o j k n) (λ_=>some (-1)) ((o.length:Int):Int).toNat 0 ()
def ly (j:(List aN)) (name:RI):Option (Int):=(b_ j name).bind λo=>some o
def n6 (o:(List aN)) (j:Nat) (I:aN) (J:Unit->Option (Int)):Option (Int):=(bB I.Name).bind λR=>if !R then (some 6) else (cE (0<=(j:Int)/\(j:Int)<=(o.length:Int)) ((ly (tG o 0 (((j:Int):Int).toNat)) I.Name).bind λU=>if decide (0<=U) then (some 7) else (J ())))
def kT (j:(List aN)):Option (Int):=if decide (32<(j.length:Int)) then (some 2) else (dE (λk y o n=>n6 j k y n) (λ_=>some 0) 0 j ())
def dF (j:List Bool->Option (Bool)) (o:List Bool):Option (Bool):=j o
def rE (Y:(List aN)) (o:Nat) (J:bM) (j:List Bool) (I:List Bool->Option (Bool)):Option (Bool):=(ly Y J.Name).bind λR=>if decide (J.Kind=0) then (idx j (o:Int) λRn=>dF I (j.set (((o:Int):Int).toNat) true)) else (if decide (J.Kind=2) then (if decide (0<=R) then (idx Y R λU=>idx j (o:Int) λRo=>dF I (j.set (((o:Int):Int).toNat) (!U.zm))) else (idx j (o:Int) λRp=>dF I (j.set (((o:Int):Int).toNat) false))) else (if decide (J.Kind=3) then (if decide (0<=R) then (idx Y R λZ=>idx j (o:Int) λRq=>dF I (j.set (((o:Int):Int).toNat) Z.zm)) else (idx j (o:Int) λRs=>dF I (j.set (((o:Int):Int).toNat) false))) else (if decide (J.Kind=4) then (idx j J.A λRh=>idx j (o:Int) λRu=>dF I (j.set (((o:Int):Int).toNat) (!Rh))) else (if decide (J.Kind=5) then (idx j J.A λRi=>if Ri then (idx j J.B_ λRj=>idx j (o:Int) λRv=>dF I (j.set (((o:Int):Int).toNat) Rj)) else (idx j (o:Int) λRx=>dF I (j.set (((o:Int):Int).toNat) false))) else (if decide (J.Kind=6) then (idx j J.A λRk=>if Rk then (idx j (o:Int) λRy=>dF I (j.set (((o:Int):Int).toNat) true)) else (idx j J.B_ λRl=>idx j (o:Int) λRz=>dF I (j.set (((o:Int):Int).toNat) Rl))) else (dF I j))))))
def mP (j:(List bM)) (J:(List aN)):Option (Bool):=cE (0<=(j.length:Int)/\(j.length:Int)*1<=140737488355328) (dE (λk y o n=>rE J k y o n) (λo=>idx o (i64.wrap ((j.length:Int)-1)) λI=>some I) 0 j (List.replicate ((j.length:Int):Int).toNat (false:Bool)))
def gW (j:List Int->Option ((List Int)×Int)) (o:List Int):Option ((List Int)×Int):=j o
def qx (Z:(List aN)) (Y:Bool) (name:RI) (J:Nat) (I:bA) (o:List Int) (j:List Int->Option ((List Int)×Int)):Option ((List Int)×Int):=if decide (I.Close=Y) then (if decide (I.Switch=name) then ((mP I.xT Z).bind λR=>if !R then (cE ((o.length+([((J:Int))]:List Int).length)*8<=140737488355328) (gW j (o++([((J:Int))]:List Int)))) else (gW j o)) else (gW j o)) else (gW j o)
def nj (o:(List bA)) (Y:(List aN)) (Z:Bool) (name:RI):Option ((List Int)×Int):=(mO o).bind λI=>if !decide (I=0) then (some (([]:List Int),I)) else ((kT Y).bind λJ=>if !decide (J=0) then (some (([]:List Int),J)) else ((ly Y name).bind λR=>if decide (R<0) then (some (([]:List Int),8)) else (dE (λk y j n=>qx Y Z name k y j n) (λj=>some (j,0)) 0 o ([]:List Int))))
def lZ (o:(List bA)) (J:(List aN)) (I:Bool) (name:RI):Option (Bool×Int):=(nj o J I name).bind λj=>some (((decide (j.2=0)) && (decide ((j.1.length:Int)=0))),j.2)
def qE (J:Nat) (j:aZ) (o:List aN) (I:List aN->Option (Int×cS)):Option (Int×cS):=cE ((o.length+([(aN.mk j.Name (!j.Open))]).length)*24<=140737488355328) (I (o++([(aN.mk j.Name (!j.Open))])))
def ny (U:aT) (j:cS) (o:aE):Option (Int×cS):=(cV j.n.aO o).bind λI=>if decide (I<0) then (some (8,j)) else (if !decide (o.Value=0) then (some (1,j)) else (idx j.n.aO I λY=>if !decide (Y.Open=(decide (o.Kind=(⟨#[99,108,111,115,101]⟩)))) then (some (11,j)) else ((bJ U.held o.Name).bind λZ=>if Z then (some (18,j)) else (dE (λk y R n=>qE k y R n) (λR=>(lZ U.rules R (decide (o.Kind=(⟨#[99,108,111,115,101]⟩))) o.Name).bind λRi=>if !Ri.1 then (some (19,j)) else (idx j.n.aO I λJ=>some (0,(cS.mk (aD.mk j.n.bF (j.n.aO.set ((I:Int).toNat) (aZ.mk J.Name J.A J.B_ J.xo (!(decide (o.Kind=(⟨#[99,108,111,115,101]⟩)))))) j.n.aJ j.n.dS j.n.bE j.n.bW) j.on)))) 0 j.n.aO ([]:List aN)))))
def iL (j:cS) (o:List bH) (I:List aH) (J:List RI):Option (Int×cS):=some (0,(cS.mk (aD.mk j.n.bF j.n.aO j.n.aJ o I j.n.bW) J))
def kB (Z:aT) (j:cS) (o:aE) (I:(Int)) (J:(Int)) (Ri:Bool):Option (Int×cS):=if Ri then ((ny Z j o).bind λU=>some (U.1,U.2)) else (if decide (o.Kind=(⟨#[108,111,97,100]⟩)) then (if decide (I<0) then (some (8,j)) else (if (decide (o.Value<0)) || (decide (100000<o.Value)) then (some (4,j)) else (idx j.n.bE I λY=>iL j j.n.dS (j.n.bE.set ((I:Int).toNat) (aH.mk Y.Name Y.Node o.Value)) j.on))) else (if decide (o.Kind=(⟨#[103,101,110]⟩)) then (if decide (J<0) then (some (8,j)) else (idx j.n.dS J λRj=>if (decide (o.Value<Rj.jC)) || (decide (100000<o.Value)) then (some (4,j)) else (idx j.n.dS J λR=>iL j (j.n.dS.set ((J:Int).toNat) (bH.mk R.Name R.Node R.jC o.Value R.C5)) j.n.bE j.on))) else (if decide (o.Kind=(⟨#[98,97,99,107]⟩)) then (if decide (I<0) then (some (8,j)) else ((bJ j.on o.Name).bind λRk=>if Rk then (some (11,j)) else (idx j.n.bE I λRl=>if !decide (o.Value=Rl.c_) then (some (1,j)) else (cE ((j.on.length+([o.Name]).length)*16<=140737488355328) (iL j j.n.dS j.n.bE (j.on++([o.Name]))))))) else (if decide (o.Kind=(⟨#[119,97,105,116]⟩)) then (if !decide (o.Value=0) then (some (1,j)) else (iL j j.n.dS j.n.bE j.on)) else (some (1,j))))))
def ob (I:aT) (o:cS) (j:aE):Option (Int×cS):=(dJ o.n.bE j).bind λJ=>(dP o.n.dS j).bind λR=>if decide (j.Kind=(⟨#[111,112,101,110]⟩)) then (kB I o j J R (decide (j.Kind=(⟨#[111,112,101,110]⟩)))) else (kB I o j J R (decide (j.Kind=(⟨#[99,108,111,115,101]⟩))))
def vQ (I:Nat) (j:U8) (o:Unit->Option (Int)):Option (Int):=if (decide (j.n<48)) || (decide (57<j.n)) then (some 5) else (o ())
def qb (j:RI):Option (Int):=cE (j.size<=maxLen) (dE (λk y I n=>vQ k y n) (λ_=>if decide (j=(⟨#[]⟩)) then (some 5) else (if decide (1<(j.size:Int)) then (idx (fQ j) 0 λo=>if decide (o.n=48) then (some 5) else (if decide (2000<(j.size:Int)) then (some 2) else (some 0))) else (if decide (2000<(j.size:Int)) then (some 2) else (some 0)))) 0 (fQ j) ())
def xz (I:RI) (J:RI) (R:Nat) (o:Unit->Option (aC×aC×Int)):Option (aC×aC×Int):=idx [I,J] (R:Int) λU=>(qb U).bind λj=>if !decide (j=0) then (some ((aC.mk false []),(aC.mk false []),j)) else (o ())
def xc (j:RI) (o:RI):Option (aC×aC×Int):=kz (λk R n=>xz j o k n) (λ_=>(lz j).bind λI=>(lz o).bind λJ=>some (I,J,0)) (2:Int).toNat 0 ()
def xy (o:aC):Option (RI×Int):=(kU o).bind λj=>if !j.2 then (some ((⟨#[]⟩),2)) else (some (j.1,0))
def xb (I:RI) (J:RI):Option (RI×Int):=(xc I J).bind λj=>if !decide (j.2.2=0) then (some ((⟨#[]⟩),j.2.2)) else ((qa j.1 j.2.1).bind λR=>(xy R).bind λo=>some (o.1,o.2))
def tw:Option (Int):=some 0
def mD (I:RI) (J:(RI)) (j:(RI×RI×Bool)) (o:(Int)) (Y:Int):Option (Int):=if ((decide (o=5)) || (decide (Y=5))) || ((decide (j.1=(⟨#[48]⟩))) && (decide ((J.size:Int)<(I.size:Int)))) then (some 5) else (if (!decide (o=0)) || (!decide (Y=0)) then (some 2) else (if j.2.2 then ((xb j.1 j.2.1).bind λR=>if ((decide (j.2.1=(⟨#[48]⟩))) || (decide (j.2.1=(⟨#[49]⟩)))) || (!decide (R.1=(⟨#[49]⟩))) then (some 3) else tw) else tw))
def qc (o:RI):Option (Int):=(kZ o (⟨#[45]⟩)).bind λI=>(iH I (⟨#[47]⟩)).bind λj=>(qb j.1).bind λJ=>if j.2.2 then ((qb j.2.1).bind λR=>mD o I j J R) else (mD o I j J 0)
def tn (J:Nat) (I:RI) (o:Unit->Option (Int)):Option (Int):=(qc I).bind λj=>if !decide (j=0) then (some j) else (o ())
def rH (j:(List RI)):Option (Int):=dE (λk y o n=>tn k y n) (λ_=>some 0) 0 j ()
def rj (j:(List RI)):Option (Int):=if decide (40<(j.length:Int)) then (some 2) else ((rH j).bind λo=>some o)
def lA (j:List RI->Option ((List RI))) (o:List RI):Option ((List RI)):=j o
def qz (J:bQ) (R:Nat) (I:aQ) (j:List RI) (o:List RI->Option ((List RI))):Option ((List RI)):=idx J.over (R:Int) λU=>if U then (cE ((j.length+([I.Name]).length)*16<=140737488355328) (lA o (j++([I.Name])))) else (lA o j)
def jT (o:bQ):Option ((List RI)):=dE (λk y j n=>qz o k y j n) (λj=>some j) 0 o.lv ([]:List RI)
def gX (j:(List aA×List Int×List Bool)->Option ((List RI)×Int×bQ)) (o:List aA) (I:List Int) (J:List Bool):Option ((List RI)×Int×bQ):=j (o,I,J)
def qA (mr:(List RI)) (Y:Int) (j:Nat) (Rh:aQ) (U:List aA) (o:List Int) (I:List Bool) (R:(List aA×List Int×List Bool)->Option ((List RI)×Int×bQ)):Option ((List RI)×Int×bQ):=idx mr (j:Int) λRi=>(qW Ri).bind λRj=>(oJ Rj).bind λJ=>idx U (j:Int) λRq=>(kE Rh.uu).bind λRk=>(mZ J Rk).bind λRl=>if decide (Rl<=0) then (idx o (j:Int) λRs=>idx I (j:Int) λRu=>gX R (U.set (((j:Int):Int).toNat) J) (o.set (((j:Int):Int).toNat) 0) (I.set (((j:Int):Int).toNat) false)) else (idx o (j:Int) λZ=>idx o (j:Int) λRv=>idx (o.set (((j:Int):Int).toNat) (i64.wrap (Z+Y))) (j:Int) λRn=>if decide (Rh.DR<Rn) then (idx I (j:Int) λRx=>gX R (U.set (((j:Int):Int).toNat) J) (o.set (((j:Int):Int).toNat) (i64.wrap (Z+Y))) (I.set (((j:Int):Int).toNat) true)) else ((kE Rh.yh).bind λRo=>(mZ J Ro).bind λRp=>if decide (0<Rp) then (idx I (j:Int) λRy=>gX R (U.set (((j:Int):Int).toNat) J) (o.set (((j:Int):Int).toNat) (i64.wrap (Z+Y))) (I.set (((j:Int):Int).toNat) true)) else (gX R (U.set (((j:Int):Int).toNat) J) (o.set (((j:Int):Int).toNat) (i64.wrap (Z+Y))) I)))
def lM (j:bQ) (mr:(List RI)) (Y:Int):Option ((List RI)×Int×bQ):=(rj mr).bind λI=>if !decide (I=0) then (some (([]:List RI),I,j)) else (if !decide ((mr.length:Int)=(j.lv.length:Int)) then (some (([]:List RI),3,j)) else (if (decide (Y<1)) || (decide ((i64.wrap (200000-j.time))<Y)) then (some (([]:List RI),12,j)) else (dE (λk y o n=>qA mr Y k y o.1 o.2.1 o.2.2 n) (λo=>(jT (bQ.mk j.lv o.1 o.2.1 o.2.2 (i64.wrap (j.time+Y)))).bind λJ=>some (J,0,(bQ.mk j.lv o.1 o.2.1 o.2.2 (i64.wrap (j.time+Y))))) 0 j.lv (j.mr,j.sU,j.over))))
def cZ (j:aL) (o:aE):Option (Int×Int×aL):=(cL o).bind λI=>if !decide (I=0) then (some (0,I,j)) else (if decide (0<(j.eV.length:Int)) then (idx j.eV (i64.wrap ((j.eV.length:Int)-1)) λJ=>if decide (o.Time<J.Time) then (some (0,12,j)) else (if decide ((j.eV.length:Int)=300) then (some (0,9,j)) else (cE ((j.eV.length+([o]).length)*48<=140737488355328) (some ((i64.wrap ((j.eV.length:Int)+1)),0,(aL.mk (j.eV++([o])))))))) else (if decide ((j.eV.length:Int)=300) then (some (0,9,j)) else (cE ((j.eV.length+([o]).length)*48<=140737488355328) (some ((i64.wrap ((j.eV.length:Int)+1)),0,(aL.mk (j.eV++([o]))))))))
def kN (o:RI) (j:(List RI)):Option (Bool):=(bJ j o).bind λI=>some (!I)
def iJ (J:(List RI)) (j:(List RI)) (o:Nat) (I:Unit->Option (Int)):Option (Int):=idx J (o:Int) λR=>(kN R j).bind λU=>if U then (some (o:Int)) else (I ())
def fA (o:(List RI)) (j:(List RI)):Option (Int):=kz (λk I n=>iJ o j k n) (λ_=>some (-1)) ((o.length:Int):Int).toNat 0 ()
def dN (I:Int) (j:(List RI×Int×Int)->Option ((List RI))) (o:List RI) (J:Int):Option ((List RI)):=j (o,J,i64.wrap (I+1))
def iE (del_0:(List RI)) (j:List RI) (Y:Int) (Z:Int) (o:(List RI×Int×Int)->Option ((List RI))):Option ((List RI)):=if decide (Z<(j.length:Int)) then (idx j Z λI=>(kN I del_0).bind λJ=>if !J then (idx j Y λR=>dN Z o (j.set ((Y:Int).toNat) I) (i64.wrap (Y+1))) else (dN Z o j Y)) else (cE (0<=Y/\Y<=(j.length:Int)) (cE (0<=Y/\Y<=((j.take (Y).toNat++List.replicate (j.length-(Y).toNat) ((⟨#[]⟩):RI)).length:Int)) (some (tG (j.take (Y).toNat++List.replicate (j.length-(Y).toNat) ((⟨#[]⟩):RI)) 0 ((Y:Int).toNat)))))
def dX (j:(List RI)) (J:(List RI)):Option ((List RI)):=(fA j J).bind λo=>if decide (o=(-1)) then (some j) else (fG (λI n=>iE J I.1 I.2.1 I.2.2 n) eI (j,o,i64.wrap (o+1)))
def jJ (o:RI) (j:(List RI)):Option (Bool):=(bJ j o).bind λI=>some I
def g_ (J:(List RI)) (j:(List RI)) (o:Nat) (I:Unit->Option (Int)):Option (Int):=idx J (o:Int) λR=>(jJ R j).bind λU=>if U then (some (o:Int)) else (I ())
def eS (o:(List RI)) (j:(List RI)):Option (Int):=kz (λk I n=>g_ o j k n) (λ_=>some (-1)) ((o.length:Int):Int).toNat 0 ()
def dH (I:Int) (j:(List RI×Int×Int)->Option ((List RI))) (o:List RI) (J:Int):Option ((List RI)):=j (o,J,i64.wrap (I+1))
def gT (del_0:(List RI)) (j:List RI) (Y:Int) (Z:Int) (o:(List RI×Int×Int)->Option ((List RI))):Option ((List RI)):=if decide (Z<(j.length:Int)) then (idx j Z λI=>(jJ I del_0).bind λJ=>if !J then (idx j Y λR=>dH Z o (j.set ((Y:Int).toNat) I) (i64.wrap (Y+1))) else (dH Z o j Y)) else (cE (0<=Y/\Y<=(j.length:Int)) (cE (0<=Y/\Y<=((j.take (Y).toNat++List.replicate (j.length-(Y).toNat) ((⟨#[]⟩):RI)).length:Int)) (some (tG (j.take (Y).toNat++List.replicate (j.length-(Y).toNat) ((⟨#[]⟩):RI)) 0 ((Y:Int).toNat)))))
def dR (j:(List RI)) (J:(List RI)):Option ((List RI)):=(eS j J).bind λo=>if decide (o=(-1)) then (some j) else (fG (λI n=>gT J I.1 I.2.1 I.2.2 n) eI (j,o,i64.wrap (o+1)))
def lS (o:aD):Option (Int):=(fZ o).bind λj=>if (decide (j.2.2=0)) && (decide (0<(j.2.1.length:Int))) then (some 17) else (some j.2.2)
def n9 (off:(List RI)) (j:(List RI)) (o:aD):Option (Bool):=cE (j.length*16<=140737488355328) ((dR j off).bind λI=>(pS o I).bind λJ=>(lS J).bind λR=>some (decide (R=0)))
def jK (self:(List RI)->(List RI)->Int->Int->(List RI)->aD->Option ((List RI)×Bool)) (names:(List RI)) (off:(List RI)) (many:Int) (Y:(List RI)) (Z:aD) (J:Int) (I:Int->Option ((List RI)×Bool)):Option ((List RI)×Bool):=if decide (J<(names.length:Int)) then (cE (0<=(off.length:Int)/\(off.length:Int)<=(off.length:Int)) (idx names J λj=>cE (((tG off 0 (((off.length:Int):Int).toNat)).length+([j]).length)*16<=140737488355328) ((self names ((tG off 0 (((off.length:Int):Int).toNat))++([j])) (i64.wrap (J+1)) (i64.wrap (many-1)) Y Z).bind λo=>if o.2 then (some (o.1,true)) else (I (i64.wrap (J+1)))))) else (some (([]:List RI),false))
def eF (self:(List RI)->(List RI)->Int->Int->(List RI)->aD->Option ((List RI)×Bool)) (names:(List RI)) (off:(List RI)) (j:Int) (many:Int) (J:(List RI)) (Y:aD):Option ((List RI)×Bool):=if decide (many=0) then ((n9 off J Y).bind λo=>some (off,o)) else (fG (λI n=>jK self names off many J Y I n) eI j)
def dK:Nat->(List RI)->(List RI)->Int->Int->(List RI)->aD->Option ((List RI)×Bool)
 | 0=>λ_ _ _ _ _ _=>none
 | n+1=>eF (dK n)
def kG (names:(List RI)) (off:(List RI)) (j:Int) (many:Int) (I:(List RI)) (J:aD):Option ((List RI)×Bool):=dK eI names off j many I J
def nr (j:List RI->Option ((List RI)×Int)) (o:List RI):Option ((List RI)×Int):=j o
def se (J:aD) (j:List RI) (Y:Int) (I:Int->Option ((List RI)×Int)):Option ((List RI)×Int):=if decide (Y<=(j.length:Int)) then ((kG j ([]:List RI) 0 Y j J).bind λo=>if o.2 then (some (o.1,0)) else (I (i64.wrap (Y+1)))) else (some (([]:List RI),8))
def sd (on:(List RI)) (R:Nat) (j:aH) (o:List RI) (I:List RI->Option ((List RI)×Int)):Option ((List RI)×Int):=(bJ on j.Name).bind λJ=>if J then (cE ((o.length+([j.Name]).length)*16<=140737488355328) (nr I (o++([j.Name])))) else (nr I o)
def mj (j:aD) (on:(List RI)):Option ((List RI)×Int):=(eD j on).bind λI=>if !decide (I=0) then (some (([]:List RI),I)) else (if decide (5<(on.length:Int)) then (some (([]:List RI),2)) else (dE (λk y o n=>sd on k y o n) (λo=>fG (λJ n=>se j o J n) eI 0) 0 j.bE ([]:List RI)))
def ox (o:aH) (j:RI):Bool:=(decide (o.Name=j))
def fW (J:(List aH)) (j:RI) (o:Nat) (I:Unit->Option (Int)):Option (Int):=idx J (o:Int) λR=>if (ox R j) then (some (o:Int)) else (I ())
def dC (o:(List aH)) (j:RI):Option (Int):=kz (λk I n=>fW o j k n) (λ_=>some (-1)) ((o.length:Int):Int).toNat 0 ()
def iM (o:RI) (j:(List RI)):Option (Bool):=(bJ j o).bind λI=>some I
def gU (J:(List RI)) (j:(List RI)) (o:Nat) (I:Unit->Option (Int)):Option (Int):=idx J (o:Int) λR=>(iM R j).bind λU=>if U then (some (o:Int)) else (I ())
def eP (o:(List RI)) (j:(List RI)):Option (Int):=kz (λk I n=>gU o j k n) (λ_=>some (-1)) ((o.length:Int):Int).toNat 0 ()
def dB (I:Int) (j:(List RI×Int×Int)->Option ((List RI))) (o:List RI) (J:Int):Option ((List RI)):=j (o,J,i64.wrap (I+1))
def gK (del_0:(List RI)) (j:List RI) (Y:Int) (Z:Int) (o:(List RI×Int×Int)->Option ((List RI))):Option ((List RI)):=if decide (Z<(j.length:Int)) then (idx j Z λI=>(iM I del_0).bind λJ=>if !J then (idx j Y λR=>dB Z o (j.set ((Y:Int).toNat) I) (i64.wrap (Y+1))) else (dB Z o j Y)) else (cE (0<=Y/\Y<=(j.length:Int)) (cE (0<=Y/\Y<=((j.take (Y).toNat++List.replicate (j.length-(Y).toNat) ((⟨#[]⟩):RI)).length:Int)) (some (tG (j.take (Y).toNat++List.replicate (j.length-(Y).toNat) ((⟨#[]⟩):RI)) 0 ((Y:Int).toNat)))))
def dO (j:(List RI)) (J:(List RI)):Option ((List RI)):=(eP j J).bind λo=>if decide (o=(-1)) then (some j) else (fG (λI n=>gK J I.1 I.2.1 I.2.2 n) eI (j,o,i64.wrap (o+1)))
def qF (o:aT) (U:Nat) (I:RI) (J:List aE) (j:List aE->Option (aT)):Option (aT):=(cZ (aL.mk J) (aE.mk o.time (⟨#[112,114,111,111,102]⟩) I 0)).bind λR=>j R.2.2.eV
def qG (j:aT) (Z:Nat) (o:RI) (J:List aE) (I:List aE->Option (aT)):Option (aT):=(dC j.cG.bE o).bind λR=>idx j.cG.bE R λU=>(cZ (aL.mk J) (aE.mk j.time (⟨#[115,104,101,100]⟩) o U.c_)).bind λY=>I Y.2.2.eV
def nB (j:aT) (over:(List RI)):Option (aT):=(mj j.cG j.on).bind λo=>if !decide (o.2=0) then (dE (λk y I n=>qF j k y I n) (λI=>some (aT.mk j.cG j.rules j.on j.held j.watch j.state j.time (aL.mk I) over)) 0 over j.log.eV) else (dE (λk y J n=>qG j k y J n) (λJ=>(dO j.on o.1).bind λR=>(dW j.cG R).bind λU=>some (aT.mk j.cG j.rules R j.held j.watch U.1 j.time (aL.mk J) j.over)) 0 o.1 j.log.eV)
def nt (j:(List aQ)) (o:List aA) (I:List Int) (J:List Bool) (R:Int) (U:List aE) (Y:(List RI)) (Z:(List aZ)) (Ri:(List aQ)) (Rj:(List bH)) (Rk:(List aH)) (Rl:(List cJ)) (Rn:(List bA)) (Ro:List RI) (Rp:(List RI)) (Rq:(List RI)) (Rs:(List RI)) (Ru:Int) (Rv:(List RI)):Option (Int×aT):=some (0,(aT.mk (aD.mk Y Z Ri Rj Rk Rl) Rn Ro Rp (bQ.mk j o I J R) (cH.mk Rq Rs) Ru (aL.mk U) Rv))
def jU (I:aT) (R:aE) (o:(Int×cS)) (J:(cH×(List RI)×Int)) (U:(List aQ)) (Z:List aA) (Rh:List Int) (Ri:List Bool) (Y:Int):Option (Int×aT):=(cZ I.log R).bind λRj=>(jT (bQ.mk U Z Rh Ri Y)).bind λRl=>(dX J.2.1 Rl).bind λRk=>if decide (0<(Rk.length:Int)) then ((nB (aT.mk o.2.n I.rules o.2.on I.held (bQ.mk U Z Rh Ri Y) J.1 R.Time Rj.2.2 []) Rk).bind λj=>nt j.watch.lv j.watch.mr j.watch.sU j.watch.over j.watch.time j.log.eV j.cG.bF j.cG.aO j.cG.aJ j.cG.dS j.cG.bE j.cG.bW j.rules j.on j.held j.state.fP j.state.iI j.time j.over) else (nt U Z Rh Ri Y Rj.2.2.eV o.2.n.bF o.2.n.aO o.2.n.aJ o.2.n.dS o.2.n.bE o.2.n.bW I.rules o.2.on I.held J.1.fP J.1.iI R.Time ([]))
def jQ (j:aT) (o:aE):Option (Int×aT):=(cL o).bind λU=>if !decide (U=0) then (some (U,j)) else (if decide (o.Time<j.time) then (some (12,j)) else ((fX j.log).bind λY=>if decide (200<=(Y.length:Int)) then (some (9,j)) else ((kL j.cG).bind λZ=>cE (j.on.length*16<=140737488355328) ((ob j (cS.mk Z j.on) o).bind λI=>if !decide (I.1=0) then (some (I.1,j)) else ((dW I.2.n I.2.on).bind λJ=>if !decide (J.2.2=0) then (some (J.2.2,j)) else (if (decide (o.Kind=(⟨#[98,97,99,107]⟩))) && (decide (0<(J.2.1.length:Int))) then (some (17,j)) else (if decide (1<=(i64.wrap (o.Time-j.time))) then ((lM j.watch j.state.iI (i64.wrap (o.Time-j.time))).bind λR=>jU j o I J R.2.2.lv R.2.2.mr R.2.2.sU R.2.2.over R.2.2.time) else (jU j o I J j.watch.lv j.watch.mr j.watch.sU j.watch.over j.watch.time))))))))
def pU (j:aT):Int:=j.time
def oN (j:aT):Option ((List aE)):=(fX j.log).bind λo=>some o
def gJ (j:aT):Option (cH):=cE (j.state.fP.length*16<=140737488355328) (cE (j.state.iI.length*16<=140737488355328) (some j.state))
def jS:Option (Bool):=(sP (cK.mk ((qw)) [])).bind λo=>Dc o.1 (some false) (λY=>if !decide (o.2=0) then (some false) else ((jQ Y (aE.mk 5 (⟨#[108,111,97,100]⟩) (⟨#[68]⟩) 20)).bind λj=>if decide (j.1=0) then (if decide ((pU j.2)=5) then ((oN j.2).bind λI=>if decide ((I.length:Int)=1) then ((gJ j.2).bind λJ=>if decide ((J.iI.length:Int)=1) then ((gJ j.2).bind λR=>idx R.iI 0 λU=>some (decide (U=(⟨#[50,48]⟩)))) else (some false)) else (some false)) else (some false)) else (some false)))
def mz (j:aE):Option (RI):=cE (-9223372036854775808<=j.Time/\j.Time<=9223372036854775807) (cE ((jV j.Time).size+(⟨#[32]⟩:RI).size<=maxLen) (cE (((jV j.Time)++(⟨#[32]⟩)).size+j.Kind.size<=maxLen) (cE ((((jV j.Time)++(⟨#[32]⟩))++j.Kind).size+(⟨#[32]⟩:RI).size<=maxLen) (cE (((((jV j.Time)++(⟨#[32]⟩))++j.Kind)++(⟨#[32]⟩)).size+j.Name.size<=maxLen) (cE ((((((jV j.Time)++(⟨#[32]⟩))++j.Kind)++(⟨#[32]⟩))++j.Name).size+(⟨#[32]⟩:RI).size<=maxLen) (cE (-9223372036854775808<=j.Value/\j.Value<=9223372036854775807) (cE (((((((jV j.Time)++(⟨#[32]⟩))++j.Kind)++(⟨#[32]⟩))++j.Name)++(⟨#[32]⟩)).size+(jV j.Value).size<=maxLen) (some (((((((jV j.Time)++(⟨#[32]⟩))++j.Kind)++(⟨#[32]⟩))++j.Name)++(⟨#[32]⟩))++(jV j.Value))))))))))
def uY (I:Nat) (o:U8) (J:Int) (j:Int->Option (Int)):Option (Int):=j (u64.wrap ((u64.wrap ((BitVec.ofInt (u64).bits J ^^^ BitVec.ofInt (u64).bits (u64.wrap (o.n))).toNat))*1099511628211))
def mb (o:Int) (line:RI):Option (Int):=cE (line.size+(⟨#[10]⟩:RI).size<=maxLen) (cE ((line++(⟨#[10]⟩)).size<=maxLen) (dE (λk y j n=>uY k y j n) (λj=>some j) 0 (fQ (line++(⟨#[10]⟩))) o))
def pd (I:Int) (J:Int):Option (Int):=idx (fQ (⟨#[0,1,2,2,3,3,3,3,4,4,4,4,4,4,4,4,5,5,5,5,5,5,5,5,5,5,5,5,5,5,5,5,6,6,6,6,6,6,6,6,6,6,6,6,6,6,6,6,6,6,6,6,6,6,6,6,6,6,6,6,6,6,6,6,7,7,7,7,7,7,7,7,7,7,7,7,7,7,7,7,7,7,7,7,7,7,7,7,7,7,7,7,7,7,7,7,7,7,7,7,7,7,7,7,7,7,7,7,7,7,7,7,7,7,7,7,7,7,7,7,7,7,7,7,7,7,7,7,8,8,8,8,8,8,8,8,8,8,8,8,8,8,8,8,8,8,8,8,8,8,8,8,8,8,8,8,8,8,8,8,8,8,8,8,8,8,8,8,8,8,8,8,8,8,8,8,8,8,8,8,8,8,8,8,8,8,8,8,8,8,8,8,8,8,8,8,8,8,8,8,8,8,8,8,8,8,8,8,8,8,8,8,8,8,8,8,8,8,8,8,8,8,8,8,8,8,8,8,8,8,8,8,8,8,8,8,8,8,8,8,8,8,8,8,8,8,8,8,8,8,8,8,8,8,8,8]⟩)) (u8.wrap (I)) λj=>some (i64.wrap (J+(i64.wrap (j.n))))
def pf (I:Int) (J:Int):Option (Int):=if decide (256<=I) then (pd (mG .u64 I 8) (i64.wrap (J+8))) else (pd I J)
def pj (I:Int) (J:Int):Option (Int):=if decide (65536<=I) then (pf (mG .u64 I 16) (i64.wrap (J+16))) else (pf I J)
def tl (j:Int):Option (Int):=if decide (4294967296<=j) then (pj (mG .u64 j 32) 32) else (pj j 0)
def hO (j:Int):Int:=(mG .i64 (i64.wrap (j*78913)) 18)
def kJ (j:Bool):Int:=if j then 1 else 0
def mV (j:Int):Option (Int):=(tl j).bind λo=>idx Pj (hO o) λI=>some (i64.wrap ((hO o)+(kJ (decide (I<=j)))))
def jA (j:Int):Bool:=(decide ((i64.wrap ((BitVec.ofInt (i64).bits j &&& BitVec.ofInt (i64).bits (i64.wrap (j-1))).toNat))=0))
def nH (j:Int):Option (Int):=if decide (j=0) then (some 64) else (idx Qg (mG .u64 (u64.wrap ((u64.wrap ((BitVec.ofInt (u64).bits j &&& BitVec.ofInt (u64).bits (u64.wrap (0-j))).toNat))*285870213051353865)) 58) λo=>some (i64.wrap (o)))
def lX (j:Int):Option (Int):=(nH j).bind λo=>some o
def fL (I:Bool) (j:Int) (o:List U8):Option ((List U8)×RI):=if I then none else (cE (0<=j/\j<=(65:Int)) (some (([]:List U8),(xV (o.drop (j:Int).toNat)))))
def fM (neg:Bool) (J:Bool) (j:Int) (o:List U8):Option ((List U8)×RI):=if neg then (idx o (i64.wrap (j-1)) λI=>fL J (i64.wrap (j-1)) (o.set ((i64.wrap (j-1):Int).toNat) ⟨45⟩)) else (fL J j o)
def fB (neg:Bool) (Y:Bool) (I:Int) (j:Int) (o:List U8):Option ((List U8)×RI):=idx (fQ (⟨#[48,49,50,51,52,53,54,55,56,57,97,98,99,100,101,102,103,104,105,106,107,108,109,110,111,112,113,114,115,116,117,118,119,120,121,122]⟩)) I λJ=>idx o (i64.wrap (j-1)) λR=>fM neg Y (i64.wrap (j-1)) (o.set ((i64.wrap (j-1):Int).toNat) J)
def lg (base:Int) (neg:Bool) (Y:Bool) (J:(Int)) (j:Int) (o:Int) (I:List U8) (R:(Int×Int×List U8)->Option ((List U8)×RI)):Option ((List U8)×RI):=if decide ((u64.wrap (base))<=j) then (idx (fQ (⟨#[48,49,50,51,52,53,54,55,56,57,97,98,99,100,101,102,103,104,105,106,107,108,109,110,111,112,113,114,115,116,117,118,119,120,121,122]⟩)) (u64.wrap ((BitVec.ofInt (u64).bits j &&& BitVec.ofInt (u64).bits (u64.wrap ((u64.wrap (base))-1))).toNat)) λU=>idx I (i64.wrap (o-1)) λZ=>cE (0<=(u64.wrap (J))) (R (mG .u64 j (u64.wrap (J)),i64.wrap (o-1),(I.set ((i64.wrap (o-1):Int).toNat) U)))) else (fB neg Y j o I)
def lj (neg:Bool) (Y:Bool) (I:Int) (j:Int) (o:List U8):Option ((List U8)×RI):=idx (fQ (⟨#[48,49,50,51,52,53,54,55,56,57,97,98,99,100,101,102,103,104,105,106,107,108,109,110,111,112,113,114,115,116,117,118,119,120,121,122]⟩)) I λJ=>idx o (i64.wrap (j-1)) λR=>fM neg Y (i64.wrap (j-1)) (o.set ((i64.wrap (j-1):Int).toNat) J)
def oA (base:Int) (neg:Bool) (Y:Bool) (j:Int) (o:Int) (I:List U8) (J:(Int×Int×List U8)->Option ((List U8)×RI)):Option ((List U8)×RI):=if decide ((u64.wrap (base))<=j) then (cE ((u64.wrap (base))≠0) (idx (fQ (⟨#[48,49,50,51,52,53,54,55,56,57,97,98,99,100,101,102,103,104,105,106,107,108,109,110,111,112,113,114,115,116,117,118,119,120,121,122]⟩)) (u64.wrap (j-(u64.wrap ((u64.wrap (Int.tdiv j (u64.wrap (base))))*(u64.wrap (base)))))) λR=>idx I (i64.wrap (o-1)) λU=>J (u64.wrap (Int.tdiv j (u64.wrap (base))),i64.wrap (o-1),(I.set ((i64.wrap (o-1):Int).toNat) R)))) else (lj neg Y j o I)
def fC (base:Int) (neg:Bool) (J:Bool) (Y:Int):Option ((List U8)×RI):=if (jA base) then ((lX (u64.wrap (base))).bind λI=>fG (λj n=>lg base neg J I j.1 j.2.1 j.2.2 n) eI (Y,65,(List.replicate 65 (⟨0⟩:U8)))) else (fG (λo n=>oA base neg J o.1 o.2.1 o.2.2 n) eI (Y,65,(List.replicate 65 (⟨0⟩:U8))))
def jY (J:(List U8)) (j:Int) (base:Int) (neg:Bool) (I:Bool):Option ((List U8)×RI):=if ((decide (base<2)) || (decide (base=10))) || (decide (36<base)) then none else (if neg then (fC base neg I (u64.wrap (0-j))) else (fC base neg I j))
def jX (j:Int) (base:Int):Option (RI):=if decide (base=10) then (if decide (j<100) then none else ((mV j).bind λI=>none)) else ((jY [] j base false false).bind λo=>some o.2)
def gV (j:Int) (base:Int):Option (RI):=(jX j base).bind λo=>some o
def oD (Z:Nat) (U:aE) (I:RI) (Y:Int) (R:(RI×Int)->Option (RI)):Option (RI):=(mz U).bind λj=>(mb Y j).bind λJ=>cE (j.size+(⟨#[32]⟩:RI).size<=maxLen) ((gV J 16).bind λo=>cE ((j++(⟨#[32]⟩)).size+o.size<=maxLen) (cE (((j++(⟨#[32]⟩))++o).size+(⟨#[10]⟩:RI).size<=maxLen) (cE (I.size+(((j++(⟨#[32]⟩))++o)++(⟨#[10]⟩)).size<=maxLen) (R (I++(((j++(⟨#[32]⟩))++o)++(⟨#[10]⟩)),J)))))
def jO (o:aL):Option (RI):=dE (λk y j n=>oD k y j.1 j.2 n) (λj=>some j.1) 0 o.eV (⟨#[]⟩,14695981039346656037)
def nc (j:RI) (I:RI):Option (Int):=(dM j I).bind λo=>some o
def vU (J:RI) (j:RI) (Y:Int) (I:(RI×Int)->Option (Int)):Option (Int):=(nc j J).bind λo=>if decide (o=(-1)) then (some Y) else (cE (0<=(i64.wrap (o+(J.size:Int)))/\(i64.wrap (o+(J.size:Int)))<=(j.size:Int)) (I (j.extract ((i64.wrap (o+(J.size:Int)):Int).toNat) j.size,i64.wrap (Y+1))))
def qT (j:RI) (J:RI):Option (Int):=if decide ((J.size:Int)=0) then none else (if decide ((J.size:Int)=1) then (idx (fQ J) 0 λI=>some (Ou j I.n)) else (fG (λo n=>vU J o.1 o.2 n) eI (j,0)))
def l9 (o:RI) (j:List RI) (J:Int):Option ((List RI)):=idx j J λI=>cE (0<=(i64.wrap (J+1))/\(i64.wrap (J+1))<=((j.set ((J:Int).toNat) o).length:Int)) (some (tG (j.set ((J:Int).toNat) o) 0 ((i64.wrap (J+1):Int).toNat)))
def oy (R:RI) (sep:RI) (Y:Int) (n106:Int) (j:RI) (I:List RI) (Z:Int) (J:(RI×List RI×Int)->Option ((List RI))):Option ((List RI)):=if decide (Z<(i64.wrap ((min n106 (i64.wrap ((R.size:Int)+1)))-1))) then ((nc j sep).bind λo=>if decide (o<0) then (l9 j I Z) else (cE (0<=(i64.wrap (o+Y))/\(i64.wrap (o+Y))<=(j.size:Int)) (idx I Z λU=>cE (0<=(i64.wrap (o+(sep.size:Int)))/\(i64.wrap (o+(sep.size:Int)))<=(j.size:Int)) (J (j.extract ((i64.wrap (o+(sep.size:Int)):Int).toNat) j.size,(I.set ((Z:Int).toNat) (j.extract 0 ((i64.wrap (o+Y):Int).toNat))),i64.wrap (Z+1)))))) else (l9 j I Z)
def l_ (j:RI) (Y:RI) (J:Int) (I:Int):Option ((List RI)):=cE (0<=(min I (i64.wrap ((j.size:Int)+1)))/\(min I (i64.wrap ((j.size:Int)+1)))*16<=140737488355328) (fG (λo n=>oy j Y J I o.1 o.2.1 o.2.2 n) eI (j,(List.replicate (min I (i64.wrap ((j.size:Int)+1)):Int).toNat ((⟨#[]⟩):RI)),0))
def qI (j:RI) (Y:RI) (J:Int) (o:Int):Option ((List RI)):=if decide (o=0) then (some ([]:List RI)) else (if decide (Y=(⟨#[]⟩)) then none else (if decide (o<0) then ((qT j Y).bind λI=>l_ j Y J (i64.wrap (I+1))) else (l_ j Y J o)))
def qU (j:RI) (I:RI):Option ((List RI)):=(qI j I 0 (-1)).bind λo=>some o
def oP (U:RI) (Y:Int) (Z:Int) (j:List aE) (Rn:(Int×Int×List aE)->Option ((Option aL)×Int×Int)):Option ((Option aL)×Int×Int):=cE (0<=Y/\Y<=(U.size:Int)) ((iH (U.extract ((Y:Int).toNat) U.size) (⟨#[10]⟩)).bind λR=>(qU R.1 (⟨#[32]⟩)).bind λo=>if (!R.2.2) || (!decide ((o.length:Int)=5)) then (some ((some (aL.mk j)),Y,0)) else (idx o 0 λI=>cE (I.size<=281474976710656) (idx o 3 λJ=>cE (J.size<=281474976710656) (idx o 1 λRg=>idx o 2 λRh=>(mz (aE.mk ((lO I).1) Rg Rh ((lO J).1))).bind λRo=>(mb Z Ro).bind λRk=>if (lO I).2 then (some ((some (aL.mk j)),Y,0)) else (if (lO J).2 then (some ((some (aL.mk j)),Y,0)) else ((mz (aE.mk ((lO I).1) Rg Rh ((lO J).1))).bind λRi=>cE (Ri.size+(⟨#[32]⟩:RI).size<=maxLen) ((gV Rk 16).bind λRl=>cE ((Ri++(⟨#[32]⟩)).size+Rl.size<=maxLen) (if !decide (((Ri++(⟨#[32]⟩))++Rl)=R.1) then (some ((some (aL.mk j)),Y,0)) else ((cZ (aL.mk j) (aE.mk ((lO I).1) Rg Rh ((lO J).1))).bind λRj=>if !decide (Rj.2.1=0) then (some ((some Rj.2.2),Y,0)) else (Rn (i64.wrap (Y+(i64.wrap ((R.1.size:Int)+1))),Rk,Rj.2.2.eV)))))))))))
def mL (o:RI):Option ((Option aL)×Int×Int):=if decide (65536<(o.size:Int)) then (some (none,0,2)) else (fG (λj n=>oP o j.1 j.2.1 j.2.2 n) eI (0,14695981039346656037,(((fR)).eV)))
def nF (R:Nat) (o:aE) (Y:Int) (j:Int->Option (Int)):Option (Int):=(mz o).bind λI=>(mb Y I).bind λJ=>j J
def eU (o:aL):Option (Int):=dE (λk y j n=>nF k y j n) (λj=>some j) 0 o.eV 14695981039346656037
def kM (j:aT):Option (Int):=(eU j.log).bind λo=>some o
def mn (o:RI) (j:aT):Option (Bool):=(bJ j.on o).bind λI=>some (!I)
def i_ (J:(List RI)) (j:aT) (o:Nat) (I:Unit->Option (Int)):Option (Int):=idx J (o:Int) λR=>(mn R j).bind λU=>if U then (some (o:Int)) else (I ())
def fE (o:(List RI)) (j:aT):Option (Int):=kz (λk I n=>i_ o j k n) (λ_=>some (-1)) ((o.length:Int):Int).toNat 0 ()
def dV (I:Int) (j:(List RI×Int×Int)->Option ((List RI))) (o:List RI) (J:Int):Option ((List RI)):=j (o,J,i64.wrap (I+1))
def iT (del_0:aT) (j:List RI) (Y:Int) (Z:Int) (o:(List RI×Int×Int)->Option ((List RI))):Option ((List RI)):=if decide (Z<(j.length:Int)) then (idx j Z λI=>(mn I del_0).bind λJ=>if !J then (idx j Y λR=>dV Z o (j.set ((Y:Int).toNat) I) (i64.wrap (Y+1))) else (dV Z o j Y)) else (cE (0<=Y/\Y<=(j.length:Int)) (cE (0<=Y/\Y<=((j.take (Y).toNat++List.replicate (j.length-(Y).toNat) ((⟨#[]⟩):RI)).length:Int)) (some (tG (j.take (Y).toNat++List.replicate (j.length-(Y).toNat) ((⟨#[]⟩):RI)) 0 ((Y:Int).toNat)))))
def eC (j:(List RI)) (J:aT):Option ((List RI)):=(fE j J).bind λo=>if decide (o=(-1)) then (some j) else (fG (λI n=>iT J I.1 I.2.1 I.2.2 n) eI (j,o,i64.wrap (o+1)))
def pT (j:aT):Option ((List RI)):=(qH j.cG).bind λo=>(eC o j).bind λI=>some I
def lV (o:(List RI)) (I:(List RI)) (j:Nat) (J:Unit->Option (Bool)):Option (Bool):=idx o (j:Int) λR=>idx I (j:Int) λU=>if !decide (R=U) then (some false) else (J ())
def iF (j:(List RI)) (o:(List RI)):Option (Bool):=if !decide ((j.length:Int)=(o.length:Int)) then (some false) else (kz (λk I n=>lV j o k n) (λ_=>some true) ((j.length:Int):Int).toNat 0 ())
def lq (o:(List RI)) (I:(List RI)) (j:Nat) (J:Unit->Option (Bool)):Option (Bool):=idx o (j:Int) λR=>idx I (j:Int) λU=>if !decide (R=U) then (some false) else (J ())
def eY (j:(List RI)) (o:(List RI)):Option (Bool):=if !decide ((j.length:Int)=(o.length:Int)) then (some false) else (kz (λk I n=>lq j o k n) (λ_=>some true) ((j.length:Int):Int).toNat 0 ())
def nY (R:Nat) (o:aE) (I:aT) (j:aT->Option (Bool)):Option (Bool):=if decide (o.Kind=(⟨#[115,104,101,100]⟩)) then (j I) else (if decide (o.Kind=(⟨#[112,114,111,111,102]⟩)) then (j I) else ((jQ I o).bind λJ=>if !decide (J.1=0) then (some false) else (j J.2)))
def nX (R:Nat) (I:aE) (J:List aE) (o:List aE->Option (Bool)):Option (Bool):=(cZ (aL.mk J) I).bind λj=>if !decide (j.2.1=0) then (some false) else (o j.2.2.eV)
def nW (R:Nat) (o:aE) (I:aT) (j:aT->Option (Bool)):Option (Bool):=(jQ I o).bind λJ=>j J.2
def iZ (Ri:cK) (I:(List aE)):Option (Bool):=(nZ Ri).bind λU=>(sP U).bind λRg=>Dc Rg.1 ((jS).bind λRH=>(jS).bind λRj=>if Rj then ((qD U).bind λRk=>some (decide (Rk=Rg.2))) else (some false)) (λZ=>(jS).bind λRl=>if (!Rl) || (!decide (Rg.2=0)) then ((jS).bind λRn=>if Rn then (some false) else (some false)) else (cE (0<=(min (I.length:Int) 7)/\(min (I.length:Int) 7)<=(I.length:Int)) (dE (λk y j n=>nW k y j n) (λj=>(oN j).bind λRo=>dE (λk y J n=>nX k y J n) (λJ=>(jO (aL.mk J)).bind λRp=>(mL Rp).bind λR=>Dc R.1 (if decide (R.2.2=0) then (some false) else (some false)) (λY=>if decide (R.2.2=0) then ((jO (aL.mk J)).bind λRq=>if decide (R.2.1=(Rq.size:Int)) then ((eU Y).bind λRs=>(kM j).bind λRu=>if !decide (Rs=Ru) then (some false) else ((sP U).bind λRh=>Dc Rh.1 (some false) (λsp306=>if !decide (Rh.2=0) then (some false) else ((fX Y).bind λRv=>dE (λk y o n=>nY k y o n) (λo=>(kM o).bind λRx=>(kM j).bind λRy=>if decide (Rx=Ry) then ((pT o).bind λRz=>(pT j).bind λr400=>(iF Rz r400).bind λRA=>if RA then ((gJ o).bind λr408=>(gJ j).bind λRC=>(eY r408.iI RC.iI).bind λRD=>if RD then ((gJ o).bind λRE=>(gJ j).bind λRF=>(eY RE.fP RF.fP).bind λRG=>some RG) else (some false)) else (some false)) else (some false)) 0 Rv sp306)))) else (some false)) else (some false))) 0 Ro (((fR)).eV)) 0 (tG I 0 ((min (I.length:Int) 7:Int).toNat)) Z)))
end Go.Sim
namespace Go.Sim
open Go Go.RowKit
open _root_.Go.IntKind (i64 u64 u32 u8)
def Gd {R:Type} (o:Option R) (Q:R->Prop):Prop:=∃ r,o=some r/\Q r
section
variable {R α β σ:Type}{Q Q':R->Prop}
theorem Gd.mono {o:Option R} (h:Gd o Q) (k:∀ r,Q r->Q' r):Gd o Q':=by
 obtain ⟨r,e,q⟩:=h; exact ⟨r,e,k r q⟩
theorem Gd.ret {r:R} (h:Q r):Gd (some r) Q:=⟨r,rfl,h⟩
theorem Gd.nd {p:Prop}[Decidable p] {k:Option R} (h:p) (I:Gd k Q):Gd (cE p k) Q:=by
 unfold Sim.cE; rw [RU h]; exact I
theorem Gd.eN {o:Option α}{k:α->Option R}{P:α->Prop} (h:Gd o P) (I:∀ a,P a->Gd (k a) Q):Gd (o.bind k) Q:=by
 obtain ⟨a,rfl,q⟩:=h; exact I a q
theorem Gd.bind_eq {o:Option α}{a:α}{k:α->Option R} (h:o=some a) (I:Gd (k a) Q):Gd (o.bind k) Q:=by
 subst h; exact I
theorem Gd.ite {b:Bool}{p q:Option R} (I:b=true->Gd p Q) (J:b=false->Gd q Q):Gd (if b=true then p else q) Q:=by
 cases b
 ·simpa using J rfl
 ·simpa using I rfl
theorem Gd.ix {l:List α}{i:Int}{k:α->Option R}{y:α} (I:0<=i) (Y:l[i.toNat]? = some y) (J:Gd (k y) Q):Gd (idx l i k) Q:=by
 unfold Sim.idx; rw [RU I,Y]; exact J
theorem Gd.gA {l:List α}{i:Nat}{k:α->Option R} (h:i<l.length) (I:Gd (k l[i]) Q):Gd (Sim.idx l (i:Int) k) Q:=
 Gd.ix (by omega) (RK (by simpa using h)) I
theorem Gd.opt {o:Option α}{a:Option R}{f:α->Option R} (I:o=none->Gd a Q) (J:∀ s,o=some s->Gd (f s) Q):Gd (Dc o a f) Q:=by
 cases o with
 | none=>exact I rfl
 | some s=>exact J s rfl
theorem Gd.dE {J:Nat->α->σ->(σ->Option R)->Option R}{k:σ->Option R} (I:Nat->List α->σ->Prop)
  (Z:∀ i y ys s n,I i (y::ys) s->(∀ Y,I (i+1) ys Y->Gd (n Y) Q)->Gd (J i y s n) Q) (hk:∀ i s,I i [] s->Gd (k s) Q):
  ∀ (l:List α) (i:Nat) (s:σ),I i l s->Gd (dE J k i l s) Q
 | [],i,s,h=>hk i s h
 | y::ys,i,s,h=>Z i y ys s _ h (λY h'=>Gd.dE I Z hk ys (i+1) Y h')
theorem Gd.kz {J:Nat->σ->(σ->Option R)->Option R}{k:σ->Option R} (I:Nat->Nat->σ->Prop)
  (Z:∀ m i s n,I (m+1) i s->(∀ Y,I m (i+1) Y->Gd (n Y) Q)->Gd (J i s n) Q) (hk:∀ i s,I 0 i s->Gd (k s) Q):
  ∀ (m i:Nat) (s:σ),I m i s->Gd (kz J k m i s) Q
 | 0,i,s,h=>hk i s h
 | m+1,i,s,h=>Z m i s _ h (λY h'=>Gd.kz I Z hk m (i+1) Y h')
theorem Gd.fG {J:σ->(σ->Option R)->Option R} (I:σ->Prop) (Z:σ->Nat)
  (hb:∀ s n,I s->(∀ Y,I Y->Z Y<Z s->Gd (n Y) Q)->Gd (J s n) Q):
  ∀ (m:Nat) (s:σ),I s->Z s<m->Gd (fG J m s) Q
 | 0,s,_,h=>by omega
 | m+1,s,hI,h=>hb s _ hI (λY h' hlt=>Gd.fG I Z hb m Y h' (by omega))
theorem Gd.eq {o:Option R}{r:R}:Gd o (λx=>x=r)↔o=Option.some r:=by
 constructor
 ·rintro ⟨x,h,rfl⟩; exact h
 ·intro h; exact ⟨r,h,rfl⟩
end
theorem bG {n:Int} (h:-9223372036854775808<=n/\n<=9223372036854775807):i64.wrap n=n:=yq h.1 h.2
theorem Gd.seen {R α Y:Type}{Q:R->Prop}{J:Nat->α->Y->(Y->Option R)->Option R}{k:Y->Option R}{l:List α} (I:List α->Y->Prop)
  (hb:∀ i y s n pre,(∃ Z,l=pre++y::Z)->I pre s->(∀ s',I (pre++[y]) s'->Gd (n s') Q)->Gd (J i y s n) Q) (hk:∀ s,I l s->Gd (k s) Q) (s:Y) (hs:I [] s):Gd (Sim.dE J k 0 l s) Q:=by
 have key:∀ (ys pre:List α) (i:Nat) (s:Y),l=pre++ys->I pre s->Gd (Sim.dE J k i ys s) Q:=by
  intro ys
  induction ys with
  | nil=>intro pre i s hl hs; rw [Ss] at hl; subst hl; exact hk s hs
  | cons y ys ih=>
   intro pre i s hl hs;exact hb i y s _ pre ⟨ys,hl⟩ hs (λs' hs'=>ih (pre++[y]) (i+1) s' (by rw [hl]; simp) hs')
 exact key l [] 0 s rfl hs
theorem xJ {α:Type}{l pre:List α}{y:α} (h:∃ I,l=pre++y::I):pre.length<l.length/\y ∈ l/\∀ x ∈ pre,x ∈ l:=by
 obtain ⟨I,rfl⟩:=h;exact ⟨by simp,by simp,λx J=>RO _ J⟩
theorem FW {α:Type}[DecidableEq α]:∀ (a b:List α),a.Nodup->(∀ x ∈ a,x ∈ b)->a.length<=b.length
 | [],_,_,_=>Nat.zero_le _
 | x::xs,b,hn,h=>by
  rw [Va] at hn;have I:=h x (RR ..);have Y:=FW xs (b.erase x) hn.2 (λy J=>(List.mem_erase_of_ne (λe:y=x=>hn.1 (by rw [<- e]; exact J))).2 (h y (RV _ J)))
  rw [List.length_erase_of_mem I] at Y;have:0<b.length:=List.length_pos_of_mem I;simp only [RW]; omega
end Go.Sim
