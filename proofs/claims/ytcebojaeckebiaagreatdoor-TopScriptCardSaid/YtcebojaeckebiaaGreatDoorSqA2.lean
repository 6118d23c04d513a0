/-
  The proof, part A2.
-/
import Derived.Lib.Bytealg
import Derived.Laws.Externs
import Derived.Lib.LaidTab
import Derived.Lib.AppendIntMem
import Derived.Lib.ItoaNum
import Derived.Lib.AtoiAll
import Derived.Lib.SmallJoins
import Derived.Laws.BytesString
import Derived.Laws.IdiomStrings
import Derived.Lib.ParseIntBMem
import Derived.Laws.IdiomRangeMap
import Derived.Lib.UnsafeStr
import Derived.Lib.Builder
import Derived.Lib.AppendStr
import Derived.Laws.Bits64b
import Derived.Test.YtcebojaeckebiaaGreatDoorSqA1
set_option linter.unusedVariables false
set_option linter.unusedSimpArgs false
set_option linter.unusedSectionVars false
set_option linter.unnecessarySimpa false
namespace Go.Sim
abbrev TM := @Int.fdiv_eq_ediv_of_nonneg
abbrev Tu := @Int.le_refl
abbrev Um := @Int.toNat_of_nonneg
abbrev Un := @Go.Lib.strCells_length
abbrev VF := @List.drop_succ_cons
abbrev TB := @List.getElem?_replicate
abbrev Ry := @List.getElem?_set_ne
abbrev RF := @List.getElem?_set_self
abbrev Tk := @List.getElem_map
abbrev SL := @List.length_drop
abbrev Sr := @List.length_set
abbrev TU := @List.mem_of_mem_take
abbrev Ta := @List.replicate_succ
abbrev Vt := @List.set_getElem_self
abbrev SA := @List.take_append_drop
abbrev Ri := @List.take_of_length_le
abbrev Ve := @List.take_zero
abbrev Uq := @List.zipWith_append
abbrev TJ := @Nat.add_comm
abbrev S3 := @Nat.lt_or_ge
abbrev T4 := @Nat.mod_lt
abbrev VI := @Go.run_callFunc_extern
end Go.Sim
namespace Go.Sim
open Go Go.RowKit
open _root_.Go.IntKind (i64 u64 u32 u8)
def PJ (H:Hp) (v:Q2) (n sz:Nat) (xs:List Q2):Prop:=
 xs.length=n*sz/\(∀ u ∈ xs,u.oneCell'=true) /\
 (((∃ a,v=.slice a 0 0)/\n=0)\/∃ b off cap arr T fz,v=.slice (some ⟨b,off,none⟩) n cap/\H b=some (.cells arr T fz)/\∀ j u,xs[j]? = some u->arr[off+j]? = some u)
theorem PJ.shape {H:Hp}{v:Q2}{n sz:Nat}{xs:List Q2} (h:PJ H v n sz xs):∃ o c,v=.slice o n c:=by
 rcases h.2.2 with ⟨⟨a,rfl⟩,rfl⟩ | ⟨b,off,cap,arr,T,fz,rfl,_⟩ <;> exact ⟨_,_,rfl⟩
theorem PJ.isNil {H:Hp}{n m c sz:Nat}{xs:List Q2} (h:PJ H (.slice none m c) n sz xs):n=0/\xs=[]:=by
 rcases h.2.2 with ⟨_,I⟩ | ⟨b,off,cap,arr,T,fz,I,_⟩
 ·subst I; exact ⟨rfl,RA (by rw [h.1,SI])⟩
 ·cases I
section
variable {B:Nat}{w0 w:World}{H:Hp}{M:List bQ}
end
section
variable {x:Cx}{ops:Array Oper}{Q:lG}{rest:List Oper}{H:Hp}{M M':List bQ}{L L':Env}
variable {d:Nat}{ty:TypeId}{pos:String}{aft:Array Edge}{g:Option (Nat×Bool)}
theorem Hc {o:Oper} (Z:o.dst=none) (hg:gd ops L o=some true)
  (I:∀ a w,Sl x.N L a->St x.B x.w0 H M w->∃ v O,(execOp a.eval o).run x.P w=.ok (.value v) O/\∃ H' M',St x.B x.w0 H' M' O/\W x ops Q rest H' M' L):
  W x ops Q (o::rest) H M L:=by
 intro a w hs ht;obtain ⟨v,O,hr,H',M',J,k⟩:=I a w hs ht;refine UX λK Y=>?_;rw [Rb (hs.gd hg)];unfold Oper.wp;rw [hr];simp only [Oper.upon,Z];exact Y _ _ (k _ _ hs J)
theorem ua {t e:TypeId}{sz len cap l h m:Nat}{y:Operand}{lo hi mx:Option Operand}{ad:Option Addr}
  (Y:gd ops L ⟨some d,.slice t y lo hi mx,ty,pos,aft,g⟩=some true) (hN:Nat.blt d x.N=true)
  (O:∀ w,(underlying t).run x.P w=.ok (.slice e) w) (hs:∀ w,(sizeOf e).run x.P w=.ok sz w) (hy:ev L y=some (.slice ad len cap)) (J:mx=none\/∃ o,hi=some o)
  (hm:G6 L mx cap cap m) (Z:G6 L hi len m h) (hl:G6 L lo 0 h l)
  {v':Q2} (hv:Value.slice (if m=l then ad else ad.map (·.add (l*sz))) (h-l) (m-l)=v')
  (k:W x ops Q rest H M ((d,v')::L)):
  W x ops Q (⟨some d,.slice t y lo hi mx,ty,pos,aft,g⟩::rest) H M L:=
 eZ rfl Y hN (λc w I ht=>by
  rw [<- hv];simp only [execOp,I.ev hy,Rj,ui O hs (KN J) (hm.bd I) (Z.bd I) (hl.bd I),Re,Rx]) k
theorem Dc {zs:List Q2} (h:∀ u ∈ zs,u.oneCell'=true) (O:0<zs.length) (n:Nat):∀ u ∈ (Builtin.zeroCells zs.toArray n).toList,u.oneCell'=true:=by
 intro u J;unfold Builtin.zeroCells at J;simp only [Array.toList_map,TC,Array.toList_range,RY] at J;obtain ⟨q,_,rfl⟩:=J;have I:q%zs.length<zs.length:=T4 _ O;have:zs.toArray[q%zs.length]! = zs[q%zs.length]:=by simp [I]
 rw [this];exact h _ (RI _)
end
theorem FH {P:Program}{w:World}{t tu ty e:TypeId}{sz n Z off cap a dl dc sl sc:Nat}{b:Addr}{xs news:List Q2} (hT:P.underlying t=some (.slice e)) (hs:∀ w,(sizeOf e).run P w=.ok sz w)
  (O:iQ w e sz (.slice (some ⟨Z,off,none⟩) n cap) n xs) (ha:a+dl<=n)
  (hl:news.length=min sl dl*sz) (Y:∀ j u,news[j]? = some u->w.cell? (b.add j)=some u) (h1:∀ u ∈ news,u.oneCell'=true):
  ∃ w',(Builtin.copy_ #[t,tu] ty #[.slice (some ⟨Z,off+a*sz,none⟩) dl dc,.slice (some b) sl sc]).run P w=.ok (.int .i64 (min sl dl:Nat)) w' /\
   iQ w' e sz (.slice (some ⟨Z,off,none⟩) n cap) n (xs.take (a*sz)++news++xs.drop ((a+min sl dl)*sz))/\w.grownBy w' (some Z):=by
 rcases O.2 with ⟨h0,_⟩ | ⟨gb2,off2,cap2,I,he,hgb,hnc,hcm,hcs,J⟩
 ·cases h0
 cases he;have hxl:xs.length=n*sz:=O.1;have hm:(a+min sl dl)*sz<=n*sz:=Rl _ (by omega)
 have hmc:n*sz<=cap*sz:=Rl _ hnc;have hadd:(a+min sl dl)*sz=a*sz+min sl dl*sz:=Ru ..;have hf:=VJ (P:=P) w sz (min sl dl) b sl sc news hl Y;obtain ⟨w',hst,hh,hgr⟩:=kG (P:=P) Z (off+a*sz) e news 0 I.toList w (by simpa using hgb) (by simp; omega) h1
 refine ⟨w',?_,⟨?_,.inr ⟨Z,off,cap,_,rfl,hh,hnc,hcm,?_,?_⟩⟩,hgr⟩
 ·simp [Builtin.copy_,SF hT,hs,Builtin.lenOf,hf,hst,goInt]
 ·simp only [Ro,RC,SL,hl,hxl]; omega
 ·simpa [pL] using hcs
 ·rw [TH,SH,xr _ _ _ (by simp; omega)]
  have hx1:xs.take (a*sz)=(I.toList.take (off+a*sz)).drop off:=by
   rw [<- J,Vd,Sd (by omega),Ty,Ti]
  have hx2:xs.drop ((a+min sl dl)*sz)=(I.toList.drop (off+a*sz+news.length)).take (n*sz-(a+min sl dl)*sz):=by
   rw [<- J,Ty,SV]; congr 2; omega
  rw [hx1,hx2,RG,Tr (by simp; omega),<- RG]
  have hlen:((I.toList.take (off+a*sz)).drop off++news).length=a*sz+min sl dl*sz:=by
   rw [Ro,SL,RC,hl]; simp; omega
  have e:n*sz=((I.toList.take (off+a*sz)).drop off++news).length+(n*sz-(a+min sl dl)*sz):=by rw [hlen]; omega
  conv=>lhs; rw [e]
  rw [List.take_length_add_append]
section
variable {x:Cx}{ops:Array Oper}{Q:lG}{rest:List Oper}{H:Hp}{M M':List bQ}{L L':Env}
variable {d:Nat}{ty:TypeId}{pos:String}{aft:Array Edge}{g:Option (Nat×Bool)}
theorem Aj {c:Code}{v:Q2}{e:TypeId}{sz n:Nat}{xs:List Q2} (Z:0<n)
  (k:∀ I off cap,v=.slice (some ⟨I,off,none⟩) n cap->n<=cap->Go.Sim.C x c Q H (.row v e sz n xs::M) L):Go.Sim.C x c Q H (.row v e sz n xs::M) L:=by
 intro a w hs ht;have O:iQ w e sz v n xs:=ht.ok _ (Q9 ..);rcases O.2 with ⟨_,h⟩ | ⟨I,off,cap,Y,he,_,J,_⟩
 ·omega
 ·exact k I off cap he J a w hs ht
theorem Ha {α:Type}[aG α] {t tu e:TypeId}{y u:Operand}{v vu:Q2}{xs:List Q2}{l ys:List α}
  (hg:gd ops L ⟨some d,.call ⟨.builtin .copy,#[y,u],#[t,tu]⟩,ty,pos,aft,g⟩=some true) (hN:Nat.blt d x.N=true)
  (hT:x.P.underlying t=some (.slice e)) (hsz:∀ w,(sizeOf e).run x.P w=.ok (aG.sz α) w) (hs:Nat.blt 0 (aG.sz α)=true)
  (hy:ev L y=some v) (Y:ev L u=some vu) (hx:Rw H v xs l) (hR:aO H vu ys) (h0:0<ys.length)
  (k:∀ xs',Rw H v xs' (ys.take (min ys.length l.length)++l.drop (min ys.length l.length))->W x ops Q rest H (.row v e (aG.sz α) l.length xs'::M) ((d,.int .i64 (min ys.length l.length:Nat))::L)):
  W x ops Q (⟨some d,.call ⟨.builtin .copy,#[y,u],#[t,tu]⟩,ty,pos,aft,g⟩::rest) H (.row v e (aG.sz α) l.length xs::M) L:=by
 refine tj rfl hg hN λa w I ht=>?_;have J:iQ w e (aG.sz α) v l.length xs:=ht.ok _ (Q9 ..);obtain ⟨cs,hcs,Z⟩:=hR.flat;rcases Z with ⟨_,rfl⟩ | ⟨hc,b,O,c,rfl⟩
 ·simp at h0
 by_cases hl0:l.length=0
 ·have hm0:min ys.length l.length=0:=by omega
  refine ⟨.int .i64 (min ys.length l.length:Nat),w,?_,H,_,ht,k xs (by rw [hm0]; simpa using hx)⟩
  have hf:(Builtin.firstCells (aG.sz α) 0 (.slice (some ⟨b,O,none⟩) ys.length c)).run x.P w=.ok #[] w:=
   VJ (P:=x.P) w (aG.sz α) 0 ⟨b,O,none⟩ ys.length c [] (by simp) (by simp)
  rw [hm0];rcases J.2 with ⟨rfl,_⟩ | ⟨gb,off,cap,cur,rfl,_⟩
  ·simp [execOp,resolve,invoke,builtin,I.ev hy,I.ev Y,Builtin.copy_,SF hT,hsz,Builtin.lenOf,hf,goInt]
  ·simp [execOp,resolve,invoke,builtin,I.ev hy,I.ev Y,Builtin.copy_,SF hT,hsz,Builtin.lenOf,hf,goInt,hl0,storeCells]
 rcases J.2 with ⟨_,h⟩ | ⟨gb,off,cap,cur,rfl,_⟩
 ·exact absurd h hl0
 obtain ⟨w',hr,ho,hgr⟩:=FH (P:=x.P) (tu:=tu) (ty:=ty) (a:=0) (dl:=l.length) (dc:=cap) (b:=⟨b,O,none⟩) (sl:=ys.length) (sc:=c) (news:=cs.take (min ys.length l.length*aG.sz α)) hT hsz J (by omega)
  (by rw [RC,hcs.len]; exact Sd (Rl _ (by omega)))
  (λj u Y=>by
   rw [RX] at Y
   split at Y
   ·exact ((hc j u Y).at (x:=x) (M:=.row (.slice (some ⟨gb,off,none⟩) l.length cap) e (aG.sz α) l.length xs::M)) w ht
   ·cases Y) (λu Y=>hcs.one u (TU Y))
 rw [SI,Ve,SJ,Rv] at ho;rw [SI,SH] at hr;refine ⟨.int .i64 (min ys.length l.length:Nat),w',?_,H,_,ht.EJ (r':=.row (.slice (some ⟨gb,off,none⟩) l.length cap) e (aG.sz α) l.length _) hgr ho (λb hb=>.inl hb),k _ ⟨(hcs.split _).1.app (hx.rd.split _).2,_,_,_,rfl⟩⟩;simp [execOp,resolve,invoke,builtin,I.ev hy,I.ev Y,hr]
theorem BC {α:Type}[aG α] {t tu e:TypeId}{I off cap q dc sc:Nat}{y u:Operand}{xs:List Q2}{l:List α}
  (hg:gd ops L ⟨some d,.call ⟨.builtin .copy,#[y,u],#[t,tu]⟩,ty,pos,aft,g⟩=some true) (hN:Nat.blt d x.N=true)
  (hT:x.P.underlying t=some (.slice e)) (hsz:∀ w,(sizeOf e).run x.P w=.ok (aG.sz α) w) (hs:Nat.blt 0 (aG.sz α)=true)
  (hx:Rw H (.slice (some ⟨I,off,none⟩) l.length cap) xs l) (hq:q<=l.length)
  (hy:ev L y=some (.slice (some ⟨I,off+q*aG.sz α,none⟩) (l.length-q) dc)) (hu:ev L u=some (.slice (some ⟨I,off,none⟩) q sc))
  (k:∀ xs',Rw H (.slice (some ⟨I,off,none⟩) l.length cap) xs' (l.take q++l.take (min q (l.length-q))++l.drop (q+min q (l.length-q))) ->
   W x ops Q rest H (.row (.slice (some ⟨I,off,none⟩) l.length cap) e (aG.sz α) l.length xs'::M) ((d,.int .i64 (min q (l.length-q):Nat))::L)):
  W x ops Q (⟨some d,.call ⟨.builtin .copy,#[y,u],#[t,tu]⟩,ty,pos,aft,g⟩::rest) H (.row (.slice (some ⟨I,off,none⟩) l.length cap) e (aG.sz α) l.length xs::M) L:=by
 refine tj rfl hg hN λa w hsl ht=>?_;have O:iQ w e (aG.sz α) (.slice (some ⟨I,off,none⟩) l.length cap) l.length xs:=ht.ok _ (Q9 ..);have hlen:=hx.rd.len;have hone:=hx.rd.one;have hmm:min q (l.length-q)*aG.sz α<=l.length*aG.sz α:=Rl _ (by omega)
 have Y:∀ j u,(xs.take (min q (l.length-q)*aG.sz α))[j]? = some u->w.cell? ((⟨I,off,none⟩:Addr).add j)=some u:=by
  intro j u J;rcases O.2 with ⟨h0,_⟩ | ⟨gb2,off2,cap2,cur,he,hgb,hnc,hcm,hcs,Z⟩
  ·cases h0
  cases he;rw [Sf];refine Vw hgb rfl ?_;rw [RX] at J
  split at J
  ·rw [<- Z,RX] at J
   split at J
   ·rw [RT] at J; simpa using J
   ·cases J
  ·cases J
 obtain ⟨w',hr,ho,hgr⟩:=FH (P:=x.P) (tu:=tu) (ty:=ty) (a:=q) (dl:=l.length-q) (dc:=dc) (b:=⟨I,off,none⟩) (sl:=q) (sc:=sc) (news:=xs.take (min q (l.length-q)*aG.sz α)) hT hsz O (by omega)
  (by rw [RC,hlen]; omega) Y (λu hu=>hone u (TU hu))
 refine ⟨.int .i64 (min q (l.length-q):Nat),w',?_,H,_,ht.EJ (r':=.row (.slice (some ⟨I,off,none⟩) l.length cap) e (aG.sz α) l.length _) hgr ho (λb hb=>.inl hb),k _ ⟨?_,_,_,_,rfl⟩⟩
 ·simp [execOp,resolve,invoke,builtin,hsl.ev hy,hsl.ev hu,hr]
 ·exact ((hx.rd.split q).1.app (hx.rd.split (min q (l.length-q))).1).app (hx.rd.split (q+min q (l.length-q))).2
end
theorem Ic {x:Cx}{ops:Array Oper}{Q:lG}{rest:List Oper}{H:Hp}{M:List bQ}{L:Env}{d:Nat}{ty:TypeId}{pos:String}{aft:Array Edge}{g:Option (Nat×Bool)}
  {α:Type}[aG α] {t e:TypeId}{y z:Operand}{n:Nat}{cs:List Q2}{ys:List α}{el:α}{kk:IntKind}{i:Int} (hg:gd ops L ⟨some d,.index t y z,ty,pos,aft,g⟩=some true) (hN:Nat.blt d x.N=true)
  (hT:∀ w,(underlying t).run x.P w=.ok (.array n e) w) (hA:∀ w,(isAgg e).run x.P w=.ok true w) (hn:∀ w,(sizeOf e).run x.P w=.ok (aG.sz α) w)
  (hy:ev L y=some (.agg cs.toArray)) (hz:ev L z=some (.int kk i)) (hl:ys.length=n) (h0:0<=i) (he:ys[i.toNat]? = some el) (hr:qq H cs ys)
  (k:∀ c,aG.E H c el->W x ops Q rest H M ((d,.agg c.toArray)::L)):
  W x ops Q (⟨some d,.index t y z,ty,pos,aft,g⟩::rest) H M L:=by
 obtain ⟨c,O,hc⟩:=hr.get _ _ he;have hcl:=aG.len O;have h1:i.toNat<ys.length:=(Q7.1 he).1;have I:i<(n:Int):=by omega
 have Z:=hr.len;have hmul:i.toNat*aG.sz α+aG.sz α<=ys.length*aG.sz α:=by
  have:=Rl (aG.sz α) h1;rw [Nat.succ_mul] at this; exact this
 have J:(cs.drop (i.toNat*aG.sz α)).take (aG.sz α)=c:=by
  apply SM;intro j;rw [RX,RT]
  by_cases Y:j<aG.sz α
  ·rw [Rb Y,Q4 (l:=c) (by omega)]
   exact hc j _ (Q4 (by omega))
  ·rw [Ra Y,R4 (by omega)]
 refine eZ rfl hg hN (λa w hs ht=>?_) (k c O);simp [execOp,hs.ev hy,hs.ev hz,Instr.index,asIntOf,hT,h0,I,hn,part,hA,J]
theorem BE {x:Cx}{ops:Array Oper}{Q:lG}{rest:List Oper}{H:Hp}{M:List bQ}{L:Env}{d:Nat}{f:FuncId}{args:List Operand}{J:Array TypeId}{ty:TypeId}{pos:String}{aft:Array Edge}{g:Option (Nat×Bool)}{vs:List Q2}{v:Q2}
  (Z:∀ w,(callFunc f vs.toArray).run x.P w=.ok (.value v) w)
  (O:gd ops L ⟨some d,.call ⟨.value (.func f),args.toArray,J⟩,ty,pos,aft,g⟩=some true) (hN:Nat.blt d x.N=true)
  (Y:zc L args=some vs) (k:W x ops Q rest H M ((d,v)::L)):
  W x ops Q (⟨some d,.call ⟨.value (.func f),args.toArray,J⟩,ty,pos,aft,g⟩::rest) H M L:=
 eZ rfl O hN (λa w hs ht=>by
  have I:args.toArray.map a.eval=vs.toArray:=by simp [hs.zc Y]
  simp only [execOp,resolve,I,Act.eval,Deferred.ofValue,Rj,Rx,Re,invoke];simp [Z]) k
def N5 (s:Q1) (c:Int):Int:=Go.Lib.indexByte s.data.toList c.toNat.toUInt8
def NW (s:Q1) (c:Int):Int:=(Go.Lib.countByte s.data.toList c.toNat.toUInt8:Nat)
theorem Fi {P:Program}{f:FuncId}{I:Func} (hf:P.funcs[f]? = some I) (J:(I.name == "runtime.NumGoroutine")=false) (O:I.body.isNone=true) (Y:Extern.findNext I=none) (Z:Extern.find I=some Extern.BytealgIndexByte.indexByte) (s:Q1) (c:Int):
  ∀ w,(callFunc f [.string s,.int .u8 c].toArray).run P w=.ok (.value (.int .i64 (N5 s c))) w:=λw=>by
 rw [VI hf J O Y Z,show [Value.string s,.int .u8 c].toArray=#[.string s,.int .u8 c] from rfl,Go.Lib.run_indexByteString]
 rfl
theorem E8 {P:Program}{f:FuncId}{I:Func} (hf:P.funcs[f]? = some I) (J:(I.name == "runtime.NumGoroutine")=false) (O:I.body.isNone=true) (Y:Extern.findNext I=none) (Z:Extern.find I=some Extern.BytealgCount.count) (s:Q1) (c:Int):
  ∀ w,(callFunc f [.string s,.int .u8 c].toArray).run P w=.ok (.value (.int .i64 (NW s c))) w:=λw=>by
 rw [VI hf J O Y Z,show [Value.string s,.int .u8 c].toArray=#[.string s,.int .u8 c] from rfl,Go.Lib.run_countString]
 rfl
section
variable {x:Cx}{ops:Array Oper}{Q:lG}{rest:List Oper}{H:Hp}{M M':List bQ}{L L':Env}
variable {d:Nat}{ty:TypeId}{pos:String}{aft:Array Edge}{g:Option (Nat×Bool)}
theorem JC {t e:TypeId}{y:Operand}{ad:Option Addr}{J:Nat}
  (Y:gd ops L ⟨none,.call ⟨.builtin .clear,#[y],#[t]⟩,ty,pos,aft,g⟩=some true)
  (O:x.P.underlying t=some (.slice e)) (Z:ev L y=some (.slice ad 0 J)) (k:W x ops Q rest H M L):
  W x ops Q (⟨none,.call ⟨.builtin .clear,#[y],#[t]⟩,ty,pos,aft,g⟩::rest) H M L:=
 Hc rfl Y λa w I ht=>⟨.tuple #[],w,by
  cases ad <;> simp [execOp,resolve,invoke,builtin,I.ev Z,Builtin.clear_,SF O],H,M,ht,k⟩
theorem ES {t e:TypeId}{sz m n Y off cap i c2:Nat}{y:Operand}{z:Q2}{zs xs:List Q2}
  (hg:gd ops L ⟨none,.call ⟨.builtin .clear,#[y],#[t]⟩,ty,pos,aft,g⟩=some true)
  (hT:x.P.underlying t=some (.slice e)) (hz:∀ w,(zeroValue e).run x.P w=.ok z w) (hzs:z.cells=zs.toArray) (hzl:zs.length=sz) (h1:zs.all Value.oneCell'=true) (hs:Nat.blt 0 sz=true)
  (hi:i<m) (hy:ev L y=some (.slice (some ⟨Y,off+i*sz,none⟩) (m-i) c2))
  (k:W x ops Q rest H (.row (.slice (some ⟨Y,off,none⟩) m cap) e sz m (xs.take (i*sz)++(Builtin.zeroCells z.cells (m-i)).toList)::M) L):
  W x ops Q (⟨none,.call ⟨.builtin .clear,#[y],#[t]⟩,ty,pos,aft,g⟩::rest) H (.row (.slice (some ⟨Y,off,none⟩) m cap) e sz n xs::M) L:=by
 have hs':0<sz:=by simpa [Sh] using hs
 refine Hc rfl hg λa w hsl ht=>?_;have J:iQ w e sz (.slice (some ⟨Y,off,none⟩) m cap) n xs:=ht.ok _ (Q9 ..);rcases J.2 with ⟨h0,_⟩ | ⟨gb2,off2,cap2,O,he,hgb,hnc,hcm,hcs,htake⟩
 ·cases h0
 cases he;obtain ⟨q,hq⟩:∃ q,m-i=q+1:=⟨m-i-1,by omega⟩
 have I:(Builtin.zeroCells z.cells (m-i)).toList.length=(m-i)*sz:=by
  unfold Builtin.zeroCells; rw [hzs]; simp [hzl]
 have hmul:m*sz<=cap*sz:=Rl _ hnc;have hsplit:i*sz+(m-i)*sz=m*sz:=by rw [<- Ru]; congr 1; omega
 have hone:∀ u ∈ (Builtin.zeroCells z.cells (m-i)).toList,u.oneCell'=true:=by
  rw [hzs]; exact Dc (λu hu=>Sj.1 h1 u hu) (by omega) _
 obtain ⟨w',hst,hh,hgr⟩:=kG (P:=x.P) Y (off+i*sz) e (Builtin.zeroCells z.cells (m-i)).toList 0 O.toList w (by simpa using hgb) (by rw [I]; simp; omega) hone
 refine ⟨.tuple #[],w',?_,H,_,ht.EJ (r':=.row (.slice (some ⟨Y,off,none⟩) m cap) e sz m (xs.take (i*sz)++(Builtin.zeroCells z.cells (m-i)).toList)) hgr ⟨?_,.inr ⟨Y,off,cap,_,rfl,hh,hnc,hcm,?_,?_⟩⟩ (λb hb=>.inl hb),k⟩
 ·rw [hq] at hst hy
  simp [execOp,resolve,invoke,builtin,hsl.ev hy,Builtin.clear_,SF hT,hz,hst]
 ·rw [Ro,RC,I,J.1]
  omega
 ·simpa [pL] using hcs
 ·rw [TH,SH,xr _ _ _ (by rw [I]; simp; omega)]
  have hd:(O.toList.take (off+i*sz)).drop off=xs.take (i*sz):=by
   rw [Ty,Ti,<- htake,Vd,Sd (by omega)]
  have Z:((O.toList.take (off+i*sz)).drop off++(Builtin.zeroCells z.cells (m-i)).toList).length=m*sz:=by
   rw [Ro,hd,RC,I,J.1]; omega
  rw [RG,Tr (by simp; omega),<- RG,<- Z]
  rw [Ui,hd]
theorem tZ {α:Type}[aG α] {t e:TypeId}{n:Nat}{y lo:Operand}{v:Q2}{z:Q2}{zs xs:List Q2}{l:List α}{ze:α}{kk:IntKind}{i:Int}{ty2:TypeId}{Y:String}{J:Array Edge}{g2:Option (Nat×Bool)}
  (hg:gd ops L ⟨some d,.slice t y (some lo) none none,ty,pos,aft,g⟩=some true) (hN:Nat.blt d x.N=true)
  (hg2:∀ u,gd ops ((d,u)::L) ⟨none,.call ⟨.builtin .clear,#[.tmp d],#[t]⟩,ty2,Y,J,g2⟩=some true)
  (hT:x.P.underlying t=some (.slice e)) (hT2:∀ w,(underlying t).run x.P w=.ok (.slice e) w) (hsz:∀ w,(sizeOf e).run x.P w=.ok (aG.sz α) w)
  (hz:∀ w,(zeroValue e).run x.P w=.ok z w) (hzs:z.cells=zs.toArray) (h1:zs.all Value.oneCell'=true) (hs:Nat.blt 0 (aG.sz α)=true) (hE:aG.E H zs ze)
  (hy:ev L y=some v) (hlo:ev L lo=some (.int kk i)) (hx:Rw H v xs l) (hb:0<=i/\i<=(l.length:Int))
  (k:∀ u I,Rw H v I (l.take i.toNat++List.replicate (l.length-i.toNat) ze)->W x ops Q rest H (.row v e (aG.sz α) (l.take i.toNat++List.replicate (l.length-i.toNat) ze).length I::M) ((d,u)::L)):
  W x ops Q (⟨some d,.slice t y (some lo) none none,ty,pos,aft,g⟩::⟨none,.call ⟨.builtin .clear,#[.tmp d],#[t]⟩,ty2,Y,J,g2⟩::rest) H (.row v e (aG.sz α) n xs::M) L:=by
 obtain ⟨hb0,hb1⟩:=hb;obtain ⟨q,rfl⟩:∃ q:Nat,i=q:=⟨i.toNat,by omega⟩
 have hql:q<=l.length:=by omega
 rw [Q5] at k;have hs':0<aG.sz α:=by simpa [Sh] using hs
 have hlen:(l.take q++List.replicate (l.length-q) ze).length=l.length:=by simp; omega
 have hlk:∀ u,ev ((d,u)::L) (.tmp d)=some u:=λu=>by simp [ev,tR]
 have hn:∀ {a:Act}{w:World},St x.B x.w0 H (.row v e (aG.sz α) n xs::M) w->n=l.length:=λ{a w} ht=>by
  have hok:iQ w e (aG.sz α) v n xs:=ht.ok _ (Q9 ..);have h1:=hx.rd.len;rw [hok.1] at h1;exact SU hs' h1
 have same:l.length=q->∀ {L2:Env},(∀ I,Rw H v I (l.take q++List.replicate (l.length-q) ze)->W x ops Q rest H (.row v e (aG.sz α) (l.take q++List.replicate (l.length-q) ze).length I::M) L2)->W x ops Q rest H (.row v e (aG.sz α) n xs::M) L2:=by
  intro hq L2 kk a w O ht;have hnn:=hn (a:=a) ht;subst hnn;have e:l.take q++List.replicate (l.length-q) ze=l:=by rw [hq,Sq,<- hq,SW]; simp
  have:=kk xs (by rw [e]; exact hx)
  rw [e] at this;exact this a w O ht
 intro a w O ht;have hnn:=hn (a:=a) ht;subst hnn;have hok:iQ w e (aG.sz α) v l.length xs:=ht.ok _ (Q9 ..)
 revert a w
 suffices hh:∀ (oo:Option Addr) (cap:Nat),v=.slice oo l.length cap->l.length<=cap->(q<l.length->∃ gb off,oo=some ⟨gb,off,none⟩) ->
   W x ops Q (⟨some d,.slice t y (some lo) none none,ty,pos,aft,g⟩::⟨none,.call ⟨.builtin .clear,#[.tmp d],#[t]⟩,ty2,Y,J,g2⟩::rest) H (.row v e (aG.sz α) l.length xs::M) L by
  intro a w O ht hok;rcases hok.2 with ⟨e0,h0⟩ | ⟨gb,off,cap,cur,e0,_,hnc,_⟩
  ·exact hh none 0 (by rw [h0]; exact e0) (by omega) (λh=>by omega) a w O ht
  ·exact hh (some ⟨gb,off,none⟩) cap e0 hnc (λ_=>⟨gb,off,rfl⟩) a w O ht
 intro oo cap hv hnc hsome;subst hv
 by_cases hq:l.length=q
 ·refine ua (m:=cap) (h:=l.length) (l:=q) hg hN hT2 hsz hy (.inl rfl) (.inl ⟨rfl,rfl⟩) (.inl ⟨rfl,rfl⟩) (.inr ⟨_,_,_,rfl,hlo,by omega,by omega,by omega⟩) (v':=.slice (if cap=q then oo else oo.map (·.add (q*aG.sz α))) 0 (cap-q)) (by rw [hq,Sq]) ?_
  exact JC (hg2 _) hT (hlk _) (same hq (λI hx'=>k _ I hx'))
 ·obtain ⟨gb,off,rfl⟩:=hsome (by omega)
  refine ua (m:=cap) (h:=l.length) (l:=q) hg hN hT2 hsz hy (.inl rfl) (.inl ⟨rfl,rfl⟩) (.inl ⟨rfl,rfl⟩) (.inr ⟨_,_,_,rfl,hlo,by omega,by omega,by omega⟩) (v':=.slice (some ⟨gb,off+q*aG.sz α,none⟩) (l.length-q) (cap-q)) (by rw [Ra (by omega),SC,Sf]) ?_
  have hzl:zs.length=aG.sz α:=aG.len hE;refine ES (i:=q) (sz:=aG.sz α) (hg2 _) hT hz hzs hzl h1 hs (by omega) (hlk _) ?_
  have Z:(Builtin.zeroCells z.cells (l.length-q)).toList=(List.range ((l.length-q)*aG.sz α)).map (zs.toArray[·%zs.length]!):=by
   unfold Builtin.zeroCells;rw [hzs];simp [hzl]
  have hrw:Rw H (.slice (some ⟨gb,off,none⟩) l.length cap) (xs.take (q*aG.sz α)++(Builtin.zeroCells z.cells (l.length-q)).toList) (l.take q++List.replicate (l.length-q) ze):=
   ⟨(hx.rd.split q).1.app (by rw [Z]; exact Np hE hzl _),_,_,_,rfl⟩
  have:=k (.slice (some ⟨gb,off+q*aG.sz α,none⟩) (l.length-q) (cap-q)) _ hrw;rw [hlen] at this;exact this
end
theorem G0 (k:Nat):ot .u64 (k:Int) 32=((k / 4294967296:Nat):Int):=by
 unfold ot;rw [show (2:Int) ^ (min (32:Int).toNat u64.bits)=4294967296 from rfl];rw [TM _ (by decide)]
 omega
def GU {α:Type} (s:List α) (n:Int):List α:=(List.replicate n.toNat s).flatten
theorem yp {α:Type} (a:α) (m:Nat):GU [a] (m:Int)=List.replicate m a:=by
 unfold GU;rw [Q5]
 induction m with
 | zero=>rfl
 | succ m ih=>rw [Ta,Ta,List.flatten_cons,ih]; rfl
theorem FF {α:Type}{a:α}{l:List α}{q:Nat} (h:l.take q=List.replicate q a) (J:q<=l.length):
  (l.take q++l.take (min q (l.length-q))++l.drop (q+min q (l.length-q))).take (q+min q (l.length-q))=List.replicate (q+min q (l.length-q)) a:=by
 have I:l.take (min q (l.length-q))=List.replicate (min q (l.length-q)) a:=by
  have:=Rn (List.take (min q (l.length-q))) h
  rwa [Vd,List.take_replicate,show min (min q (l.length-q)) q=min q (l.length-q) by omega] at this
 rw [h,I,List.replicate_append_replicate];rw [List.take_append_of_le_length (by simp),Ri (by simp)]
section
variable {B:Nat}{w0 w w':World}{H:Hp}{M:List bQ}
theorem St.var? (ht:St B w0 H M w) {P:Program}{n:String}{g:Nat} (J:P.globalNamed n=some g) (I:g<B):w.var? P n=w0.var? P n:=by
 unfold World.var?;rw [J];simp only [S8];rw [ht.below.block g I]
theorem St.under (ht:St B w0 H M w) (I:Below w.heap.size w w'):St B w0 H M w':=
 ht.grow ⟨I.os,I.tape,I.output,I.size,λi hi _=>I.block i hi⟩
theorem St.Qr (ht:St B w0 H M w) {P:Program}{n:String}{g:Nat}{k:IntKind}{zs:List Int} (J:Lib.TabIs P w0 n k zs) (O:P.globalNamed n=some g) (I:g<B):Lib.TabIs P w n k zs:=
 (ht.var? O I).trans J
end
theorem Ot {P:Program}{W:World}{n:String}{g:Nat}{cs:Array Q2} (I:P.globalNamed n=some g) (h:W.var? P n=some cs):g<W.heap.size:=by
 unfold World.var? at h;rw [I] at h;simp only [S8] at h
 split at h
 ·rename_i o _ _ ho
  exact (Sz.1 ho).1
 ·cases h
def Jt (v:Q2) (b:Bool):Prop:=(b=false/\v=.nilIface)\/(b=true/\∃ T p,v=.iface T p)
section
variable {x:Cx}{ops:Array Oper}{Q:lG}{rest:List Oper}{H:Hp}{M:List bQ}{L:Env}
variable {d:Nat}{ty:TypeId}{pos:String}{aft:Array Edge}{g:Option (Nat×Bool)}
theorem DJ {t u:TypeId}{y:Operand}{v:Q2}{b:Bool}{ms:Array (String×TypeId)} (J:∀ w,(underlying t).run x.P w=.ok (.interface ms) w) (he:Jt v b) (Z:gd ops L ⟨some d,.binOp .neq t y (.const .nilIface) u,ty,pos,aft,g⟩=some true) (hN:Nat.blt d x.N=true)
  (O:ev L y=some v) (k:W x ops Q rest H M ((d,.bool b)::L)):W x ops Q (⟨some d,.binOp .neq t y (.const .nilIface) u,ty,pos,aft,g⟩::rest) H M L:=
 eZ rfl Z hN (λc w hs _=>by
  have Y:c.eval (.const .nilIface)=.nilIface:=rfl;rcases he with ⟨rfl,rfl⟩ | ⟨rfl,T,p,rfl⟩
  ·have key:∀ k,(Op.equalIn (k+1) t .nilIface .nilIface).run x.P w=.ok true w:=λk=>by
    unfold Op.equalIn;simp [J]
   have I:(Op.equal t .nilIface .nilIface).run x.P w=.ok true w:=key 9999;simp only [execOp,hs.ev O,Y,Rj,eqGuard,binOp];simp [I]
  ·have key:∀ k,(Op.equalIn (k+1) t (.iface T p) .nilIface).run x.P w=.ok false w:=λk=>by
    unfold Op.equalIn;simp [J]
   have I:(Op.equal t (.iface T p) .nilIface).run x.P w=.ok false w:=key 9999;simp only [execOp,hs.ev O,Y,Rj,eqGuard,binOp];simp [I]) k
def zC (l:List U8):Q1:=⟨(l.map λy=>UInt8.ofNat y.n.toNat).toArray⟩
theorem B2:∀ (ns:List Int) (r:Q1),ns.foldl (λr n=>r.push (UInt8.ofNat n.toNat)) r=⟨r.data++(ns.map λn=>UInt8.ofNat n.toNat).toArray⟩
 | [],r=>by simp
 | n::ns,r=>by
  rw [List.foldl_cons,B2 ns];simp [ByteArray.push]
theorem aO.bytes {H:Hp}{v:Q2}{l:List U8} (hR:aO H v l) {B:Nat}{w0 w:World}{M:List bQ}{P:Program} (ht:St B w0 H M w):(Conv.bytesToString v).run P w=.ok (.string (zC l)) w:=by
 rcases hR with ⟨⟨a,rfl⟩,rfl⟩ | ⟨b,off,cap,arr,T,fz,rfl,h2,h3,Y,h5,Z⟩
 ·cases a with
  | none=>rfl
  | some a=>
   rw [run_bytesToString w a 0 0 [] (by simp [loadCells,loadCellsFrom,Rx])]
   rfl
 ·have hl:=run_loadCells_list (P:=P) w ⟨b,off,none⟩ ((l.map λy=>y.n).map (Value.int .u8)) (λj v O=>by
   rw [RH,RH,Option.map_map,UE] at O;obtain ⟨y,hy,rfl⟩:=O;obtain ⟨cs,J,q2⟩:=Z j y hy;have J:cs=[.int .u8 y.n]:=J;have:=q2 0 (.int .u8 y.n) (by rw [J]; rfl)
   have hb:=ht.uX b _ Y;rw [Sf];simp only [World.cell?,hb];simpa [aG.sz] using this)
  simp only [S2] at hl;rw [run_bytesToString w ⟨b,off,none⟩ l.length cap _ hl,B2];have I:ByteArray.empty.data=#[]:=rfl;rw [I];simp [zC,List.map_map,Function.comp_def]
end
def gV (n:Int):Q1:=⟨(Lib.itoa n).toArray⟩
def xB (s:Q1):Int×Bool:=match Lib.atoiAll s.data.toList with
 | .ok v=>(v,false)
 | .range=>(Lib.atoiSat s.data.toList,true)
 | _=>(0,true)
def My (s:Q1):Int×Bool:=match Lib.parseUintM 4294967295 0 s.data.toList with
 | .ok v=>((v:Int),false)
 | .range=>(4294967295,true)
 | _=>(0,true)
end Go.Sim
namespace Go.Sim
open Go
open _root_.Go.IntKind (i64 u64 u32 u8)
abbrev wJ (b c:Nat) (seen:Array Nat):Obj:=.mapIter (some b) c seen c
theorem I8 {P:Program}{w:World}{ty:TypeId}{b c Y:Nat}{seen:Array Nat}{es:Array MapEntry} (hi:w.heap[Y]? = some (wJ b c seen)) (hb:w.heap[b]? = some (.map es c)) (J:∀ e ∈ es.toList,e.born<c):
  ((∀ e ∈ es.toList,seen.contains e.born=true)/\(Instr.next (.pointer (some ⟨Y,0,none⟩)) false ty).run P w=.ok (.tuple #[.bool false]) w) \/
  ∃ e ∈ es.toList,seen.contains e.born=false/\∃ n,(Instr.next (.pointer (some ⟨Y,0,none⟩)) false ty).run P w=.ok (.tuple #[.bool true,e.key,e.val]) { w with drawn:=n,heap:=w.heap.setIfInBounds Y (wJ b c (seen.push e.born)) }:=by
 simp only [Instr.next,getObj,Rj,Sem.run,hi,hb,Result.andThen,next_test_false seen es c c J (Rq _),SO,Tn];have I:∀ x ∈ (Array.filter (λe=>!seen.contains e.born) es).toList,x ∈ es.toList/\seen.contains x.born=false:=λx hx=>by simpa using hx
 have O:Array.filter (λe=>!seen.contains e.born) es=#[]->∀ e ∈ es.toList,seen.contains e.born=true:=λh e he=>by
  rw [Array.filter_eq_empty_iff] at h;have:=h e (by simpa using he)
  simpa using this
 generalize Array.filter (λe=>!seen.contains e.born) es=K at I O ⊢;have e1:K.filter (λx=>decide (x.born<c))=K:=Array.filter_eq_self.2 (λx hx=>by
  have:=J x (I x (by simpa using hx)).1
  simpa using this)
 have e2:K.filter (λx=>decide (x.born≥c))=#[]:=by
  rw [Array.filter_eq_empty_iff];intro x hx;have:=J x (I x (by simpa using hx)).1
  simp;omega
 simp only [e1,e2,Array.append_empty]
 by_cases h0:K.size=0
 ·left
  have:K=#[]:=Array.eq_empty_of_size_eq_zero h0;subst this;refine ⟨O rfl,?_⟩;simp [choose,Sem.run,Question.forced]
 ·right
  have hne:K.isEmpty=false:=by simp [Array.isEmpty,h0]
  simp only [hne,SO,Tn,Array.empty_append,Array.size_map];have hch:∃ (j n:Nat),j<K.size/\(choose (Question.mapNext K.size)).run P w=.ok j { w with drawn:=n }:=by
   by_cases hf:K.size<=1
   ·exact ⟨0,w.drawn,by omega,by simp [choose,Sem.run,Question.forced,hf]⟩
   ·exact ⟨_,w.drawn+1,T4 _ (by omega),by
     simp only [choose,Sem.run,Question.forced,RS,hf,Tn,Question.cut]
     rfl⟩
  obtain ⟨j,n,hj,Z⟩:=hch;obtain ⟨m1,m2⟩:=I K[j] (by simp)
  refine ⟨K[j],m1,m2,n,?_⟩;have hset:∀ o,(setObj Y o).run P { w with drawn:=n }=.ok () { w with drawn:=n,heap:=w.heap.setIfInBounds Y o }:=λo=>by simp [setObj,Sem.run,hi]
  simp only [Z,Array.getElem?_map,TS hj,SC,Rj,hset,Result.andThen]
  rfl
theorem GW {P:Program}{w:World}{b c I:Nat}{seen:Array Nat}{es:Array MapEntry}{e:MapEntry} (hi:w.heap[I]? = some (wJ b c (seen.push e.born))) (J:w.heap[b]? = some (.map es c)) (he:e ∈ es.toList) (hn:(es.toList.map (·.born)).Nodup):
  (Instr.entry (.pointer (some ⟨I,0,none⟩))).run P w=.ok (.tuple #[e.key,e.val]) w:=by
 have O:es.find? (·.born == e.born)=some e:=by rw [<- Array.find?_toList]; exact find_born e es.toList hn he
 simp only [Instr.entry,getObj,Rj,Sem.run,hi,J,Result.andThen,Array.back?_push,bne_self_eq_false,SO,Tn,O]
 rfl
section
variable {x:Cx}{ops:Array Oper}{Q:lG}{rest:List Oper}{H:Hp}{M M':List bQ}{L L':Env}
variable {d:Nat}{ty:TypeId}{pos:String}{aft:Array Edge}{g:Option (Nat×Bool)}
variable {κ ν:Type}[DecidableEq κ] [xG κ] [MV ν]
theorem JJ {t key e:TypeId}{b c:Nat}{y:Operand}{es:Array MapEntry} (hm:bQ.obj b (.map es c) ∈ M)
  (Y:gd ops L ⟨some d,.range t y,ty,pos,aft,g⟩=some true) (hN:Nat.blt d x.N=true)
  (J:∀ w,(underlying t).run x.P w=.ok (.map key e) w) (Z:ev L y=some (.map (some b)))
  (k:∀ I,W x ops Q rest H (.obj I (wJ b c #[])::M) ((d,.pointer (some ⟨I,0,none⟩))::L)):
  W x ops Q (⟨some d,.range t y,ty,pos,aft,g⟩::rest) H M L:=
 tj rfl Y hN (λa w hs ht=>⟨_,w.alloc (wJ b c #[]),by
  have O:=ht.wA hm;simp only [execOp,hs.ev Z,Instr.range,Rj,J,Re,xw O,Rx,newObj,Sem.run,World.alloc],_,_,ht.alloc _,k _⟩)
theorem LH {b c I:Nat}{y:Operand}{seen:Array Nat}{es:Array MapEntry}{l:List (κ×ν)} (hm:bQ.obj b (.map es c) ∈ M) (h:sM es c l)
  (hg:gd ops L ⟨some d,.next y false,ty,pos,aft,g⟩=some true) (hN:Nat.blt d x.N=true) (O:ev L y=some (.pointer (some ⟨I,0,none⟩)))
  (k1:(∀ e ∈ es.toList,seen.contains e.born=true)->W x ops Q rest H (.obj I (wJ b c seen)::M) ((d,.tuple #[.bool false])::L))
  (k2:∀ e ∈ es.toList,seen.contains e.born=false->W x ops Q rest H (.obj I (wJ b c (seen.push e.born))::M) ((d,.tuple #[.bool true,e.key,e.val])::L)):
  W x ops Q (⟨some d,.next y false,ty,pos,aft,g⟩::rest) H (.obj I (wJ b c seen)::M) L:=
 tj rfl hg hN (λa w hs ht=>by
  have hi:=ht.wA (Q9 ..);have Z:=ht.wA (Rc _ hm);have J:I<w.heap.size:=(Sz.1 hi).1;rcases I8 (P:=x.P) (ty:=ty) hi Z h.lt with ⟨hall,hr⟩ | ⟨e,he,hne,n,hr⟩
  ·exact ⟨_,w,by simp only [execOp,hs.ev O,Rj,hr,Re,Rx],_,_,ht,k1 hall⟩
  ·refine ⟨_,{ w with drawn:=n,heap:=w.heap.setIfInBounds I (wJ b c (seen.push e.born)) },by simp only [execOp,hs.ev O,Rj,hr,Re,Rx],_,_,?_,k2 e he hne⟩
   have Y:=ht.EJ (r':=.obj I (wJ b c (seen.push e.born))) (yc w I (wJ b c (seen.push e.born))) (by simp [bQ.ok,J]) (λ_ hc=>.inl hc)
   exact Y.drewN n)
theorem JD {b c I:Nat}{y:Operand}{seen:Array Nat}{es:Array MapEntry}{l:List (κ×ν)}{e:MapEntry} (hi:bQ.obj I (wJ b c (seen.push e.born)) ∈ M) (hm:bQ.obj b (.map es c) ∈ M) (h:sM es c l) (he:e ∈ es.toList) {J O:Q2} (Z:e.key=J) (hv:e.val=O)
  (Y:gd ops L ⟨some d,.entry y,ty,pos,aft,g⟩=some true) (hN:Nat.blt d x.N=true) (hy:ev L y=some (.pointer (some ⟨I,0,none⟩)))
  (k:W x ops Q rest H M ((d,.tuple #[J,O])::L)):
  W x ops Q (⟨some d,.entry y,ty,pos,aft,g⟩::rest) H M L:=
 eZ rfl Y hN (λa w hs ht=>by
  subst Z; subst hv
  simp only [execOp,hs.ev hy,Rj,GW (P:=x.P) (ht.wA hi) (ht.wA hm) he h.nd,Re,Rx]) k
end
theorem sM.pick {κ ν:Type}[DecidableEq κ] [xG κ] [MV ν] {es:Array MapEntry}{c:Nat}{l:List (κ×ν)} (h:sM es c l) {e:MapEntry} (he:e ∈ es.toList):∃ (i:Nat) (p:κ×ν),es.toList[i]? = some e/\l[i]? = some p/\e.key=MV.mv p.1/\e.val=MV.mv p.2:=by
 obtain ⟨i,hi,rfl⟩:=Sm.1 he;have I:(es.toList.map λe=>(e.key,e.val))[i]? = (l.map λp=>(MV.mv p.1,MV.mv p.2))[i]? := by rw [h.eq]
 rw [RH,RH,Q4 hi] at I;cases J:l[i]? with
 | none=>rw [J] at I; simp at I
 | some p=>
  rw [J] at I;simp only [SC,Rp,Tw] at I;exact ⟨i,p,Q4 hi,J,I.1,I.2⟩
def zy {α:Type} (es:Array MapEntry) (seen:Array Nat) (l:List α) (P:α->Bool):Prop:=∀ (i:Nat) (p:α),l[i]? = some p->∀ e,es.toList[i]? = some e->seen.contains e.born=true->P p=false
theorem zy.nil {α:Type}{es:Array MapEntry}{l:List α}{P:α->Bool}:zy es #[] l P:=λi p I e he h=>by simp at h
theorem zy.push {κ ν:Type}[DecidableEq κ] [xG κ] [MV ν] {es:Array MapEntry}{c:Nat}{seen:Array Nat}{l:List (κ×ν)}{P:κ×ν->Bool} (hs:zy es seen l P) (h:sM es c l) {i:Nat}{p:κ×ν}{e:MapEntry}
  (hi:es.toList[i]? = some e) (hp:l[i]? = some p) (hP:P p=false):zy es (seen.push e.born) l P:=λj q hq e' Z J=>by
 by_cases hj:i=j
 ·subst hj
  rw [hp] at hq;obtain rfl:=Q8 hq;exact hP
 ·refine hs j q hq e' Z ?_
  have hne:e'.born≠e.born:=λhb=>by
   obtain ⟨h1,h2⟩:=Q7.1 hi;obtain ⟨h3,h4⟩:=Q7.1 Z;have hpw:=Ue.1 h.nd;have O:i<(es.toList.map (·.born)).length:=by simpa using h1
   have Y:j<(es.toList.map (·.born)).length:=by simpa using h3
   rcases Nat.lt_or_gt_of_ne hj with I | I
   ·exact hpw i j O Y I (by rw [Tk,Tk,h2,h4]; exact hb.symm)
   ·exact hpw j i Y O I (by rw [Tk,Tk,h2,h4]; exact hb)
  simp at J ⊢;rcases J with J | J
  ·exact J
  ·exact absurd J hne
theorem zy.none {κ ν:Type}[DecidableEq κ] [xG κ] [MV ν] {es:Array MapEntry}{c:Nat}{seen:Array Nat}{l:List (κ×ν)}{P:κ×ν->Bool} (hs:zy es seen l P) (h:sM es c l) (I:∀ e ∈ es.toList,seen.contains e.born=true):l.any P=false:=by
 rw [List.any_eq_false];intro p Y;obtain ⟨i,hi,rfl⟩:=Sm.1 Y;have O:es.toList.length=l.length:=by have:=Rn List.length h.eq; simpa using this
 have J:i<es.toList.length:=by omega
 have:=hs i l[i] (Q4 hi) es.toList[i] (Q4 J) (I _ (RI J));simp [this]
theorem NS {α:Type}{l:List α}{P:α->Bool}{i:Nat}{p:α} (I:l[i]? = some p) (hP:P p=true):l.any P=true:=
 List.any_eq_true.2 ⟨p,Rg I,hP⟩
def EC (es:Array MapEntry) (seen:Array Nat):Nat:=(es.toList.filter λe=>!seen.contains e.born).length
theorem Ji {es:Array MapEntry}{seen:Array Nat}{e:MapEntry} (he:e ∈ es.toList) (h:seen.contains e.born=false):EC es (seen.push e.born)<EC es seen:=by
 unfold EC;refine filter_lt (λe=>!seen.contains e.born) (λJ=>!(seen.push e.born).contains J.born) (λy I=>?_) e (by simp only [h]; rfl) (by simp) es.toList he
 simp at I ⊢;exact I.1
end Go.Sim
namespace Go.Sim
open Go Go.RowKit
open _root_.Go.IntKind (i64 u64 u32 u8)
def PD (b:Nat) (p:Q2):Prop:=p=.pointer none\/p=.pointer (some ⟨b,0,none⟩)
theorem Ba (s:Q1):Lib.strCells s=(iY s).map (λy=>Value.int .u8 y.n):=by
 simp [Lib.strCells,iY,Function.comp_def]
theorem qq.u8 (H:Hp) (l:List U8):qq H (l.map λy=>Value.int .u8 y.n) l:=by
 induction l with
 | nil=>exact qq.nil
 | cons y l ih=>exact ⟨[.int .u8 y.n],_,rfl,rfl,ih⟩
theorem AL {P:Program}{w:World}{t u ty e:TypeId}{i:TypeInfo} (ht:P.underlying t=some (.slice e)) (hu:P.underlying u=some .string) (hi:P.info? e=some i) (hz:i.zero=some (.int .u8 0))
  (J:i.size=1) (hby:i.bytes=1) {v:Q2}{n:Nat}{xs:List Q2} (hown:iQ w e 1 v n xs) (s:Q1) (h63:n+s.size<=maxLen) (hbytes:n+s.size<=140737488355328):
  ∃ v' w',(Builtin.append_ #[t,u] ty #[v,.string s]).run P w=.ok v' w'/\iQ w' e 1 v' (n+s.size) (xs++Lib.strCells s)/\w.grownBy w' v.ownBlock /\
   (∀ b,v'.ownBlock=some b->v.ownBlock=some b\/w.heap.size<=b):=by
 have hsmall:n+s.size<=9223372036854775807:=by simp only [maxLen] at h63; omega
 have hxl:xs.length=n:=by simpa using hown.1
 have O:(xs++Lib.strCells s).length=(n+s.size)*1:=by rw [Ro,hxl,Un,TK]
 have Y:∀ (vC:Nat) (row:Option Nat),
   iQ (w.drew.alloc (.cells (xs.toArray++(Lib.strCells s).toArray++Builtin.zeroCells (Value.int .u8 0).cells (grownCap w (n+s.size) vC e-(n+s.size))) e)) e 1
    (.slice (some ⟨w.heap.size,0,none⟩) (n+s.size) (grownCap w (n+s.size) vC e)) (n+s.size) (xs++Lib.strCells s) /\
   w.grownBy (w.drew.alloc (.cells (xs.toArray++(Lib.strCells s).toArray++Builtin.zeroCells (Value.int .u8 0).cells (grownCap w (n+s.size) vC e-(n+s.size))) e)) row:=by
  intro vC row;have hge:=VM w (n+s.size) vC e;have hcm:grownCap w (n+s.size) vC e<=maxLen:=U_ w (n+s.size) vC e h63;refine ⟨⟨O,.inr ⟨w.heap.size,0,_,_,rfl,Vg w.drew _,hge,hcm,?_,?_⟩⟩,⟨rfl,rfl,rfl,by simp,λk hk _=>heap_alloc_old w.drew _ (h:=hk)⟩⟩
  ·have hz1:(Value.int u8 0).cells.size=1:=rfl
   simp only [Array.size_append,TC,size_zeroCells,hz1,hxl,Un];omega
  ·simp only [Su,VE,RG]
   rw [<- RG,<- O];exact Ui
 rcases hown.2 with ⟨rfl,rfl⟩ | ⟨g,off,cap,cur,rfl,hg,hnc,hcm,hcs,htake⟩
 ·have hx:xs=[]:=RA hxl
  subst hx
  by_cases hm:s.size=0
  ·have hn:Lib.strCells s=[]:=RA (by rw [Un]; exact hm)
   refine ⟨.slice none 0 0,w,?_,by rw [hm,hn]; exact iQ.nil w e 1,⟨rfl,rfl,rfl,Rq _,λ_ _ _=>rfl⟩,by simp [Value.ownBlock]⟩
   have hf:=Lib.run_firstCells_string (P:=P) w 1 s;rw [hm] at hf;simp [Builtin.append_,SF ht,SF hu,sizeOf,typeInfo,hi,J,Builtin.lenOf,hm,hf]
  ·have hr:=run_append_nil_string (P:=P) w t u ty e i (.int .u8 0) ht hu hi hz s (by omega) (by omega) (by rw [hby]; omega)
   have I:=Y 0 (Value.ownBlock (.slice none 0 0));simp only [Rv,SJ,Array.empty_append] at I ⊢;have e1:(s.data.map λb=>Value.int .u8 b.toNat)=(Lib.strCells s).toArray:=by
    apply Array.ext';simp [Lib.strCells]
   rw [e1] at hr;exact ⟨_,_,hr,I.1,I.2,λb hb=>.inr (by simp only [Value.ownBlock,Rp] at hb; omega)⟩
 ·have hcs':off+cap<=cur.size:=by simpa using hcs
  by_cases Z:n+s.size<=cap
  ·have hf:=Lib.run_firstCells_string (P:=P) w 1 s
   obtain ⟨w',hst,hh,I⟩:=kG (P:=P) g (off+n) e (Lib.strCells s) 0 cur.toList w (by simpa using hg) (by rw [Un]; simp; omega) (Lib.strCells_oneCell s)
   refine ⟨.slice (some ⟨g,off,none⟩) (n+s.size) cap,w',?_,⟨O,.inr ⟨g,off,cap,_,rfl,hh,Z,hcm,?_,?_⟩⟩,I,λb hb=>.inl hb⟩
   ·simp [Builtin.append_,SF ht,SF hu,sizeOf,typeInfo,hi,J,Builtin.lenOf,Z,hf,Sf,hst]
   ·simpa [pL] using hcs
   ·rw [TH,SH,xr _ _ _ (by rw [Un]; simp; omega)]
    have hd:(cur.toList.take (off+n)).drop off=xs:=by rw [Ty,Ti]; simpa using htake
    rw [RG,Tr (by simp; omega),hd,<- RG,<- O]
    exact Ui
  ·have holds:∀ j u,xs[j]? = some u->w.cell? ((⟨g,off,none⟩:Addr).add j)=some u:=by
    intro j u hu;rw [Sf];refine Vw hg rfl ?_;rw [<- htake,RX] at hu
    split at hu
    ·rw [RT] at hu; simpa using hu
    ·cases hu
   have hr:=Lib.run_append_grow_string (P:=P) w t u ty e i (.int .u8 0) ht hu hi hz ⟨g,off,none⟩ n cap xs (by rw [J]; simpa using hxl) holds s (by omega) (by omega) (by rw [hby]; exact VK (by omega) (by omega))
   have I:=Y cap (Value.ownBlock (.slice (some ⟨g,off,none⟩) n cap));exact ⟨_,_,hr,I.1,I.2,λb hb=>.inr (by simp only [Value.ownBlock,Rp] at hb; omega)⟩
section
variable {x:Cx}{ops:Array Oper}{Q:lG}{rest:List Oper}{H:Hp}{M M':List bQ}{L L':Env}
variable {d:Nat}{ty:TypeId}{pos:String}{aft:Array Edge}{g:Option (Nat×Bool)}
theorem ER {t u e:TypeId}{n:Nat}{y z:Operand}{v:Q2}{xs:List Q2}{l:List U8}{s:Q1}
  (hg:gd ops L ⟨some d,.call ⟨.builtin .append,#[y,z],#[t,u]⟩,ty,pos,aft,g⟩=some true) (hN:Nat.blt d x.N=true)
  (hT:x.P.underlying t=some (.slice e)) (hU:x.P.underlying u=some .string) (hi:OF x.P e 1 1 (.int .u8 0))
  (hy:ev L y=some v) (hz:ev L z=some (.string s)) (hx:Rw H v xs l) (hb:l.length+s.size<=140737488355328)
  (k:∀ v' Y,Rw H v' Y (l++iY s)->W x ops Q rest H (.row v' e (aG.sz U8) (l++iY s).length Y::M) ((d,v')::L)):
  W x ops Q (⟨some d,.call ⟨.builtin .append,#[y,z],#[t,u]⟩,ty,pos,aft,g⟩::rest) H (.row v e (aG.sz U8) n xs::M) L:=by
 obtain ⟨i,h1,h2,h3,h4⟩:=hi.ex;refine tj rfl hg hN λa w O ht=>?_;have I:iQ w e 1 v n xs:=ht.ok _ (Q9 ..);have hn:n=l.length:=by
  have:=hx.rd.len;rw [I.1] at this;exact SU (Nat.zero_lt_one) this
 subst hn;obtain ⟨v',w',hr,ho,hgr,Z⟩:=AL (P:=x.P) (ty:=ty) hT hU h1 h4 h2 h3 I s (by unfold maxLen; omega) hb
 have J:(l++iY s).length=l.length+s.size:=by rw [Ro,y6]
 have hok:bQ.ok w' (.row v' e (aG.sz U8) (l++iY s).length (xs++Lib.strCells s)):=by rw [J]; exact ho
 refine ⟨v',w',?_,H,_,ht.EJ (r':=.row v' e (aG.sz U8) (l++iY s).length (xs++Lib.strCells s)) hgr hok Z,k v' _ ⟨?_,ho.shape⟩⟩
 ·simp [execOp,resolve,invoke,builtin,O.ev hy,O.ev hz,hr]
 ·rw [Ba]
  exact hx.rd.app (qq.u8 H _)
theorem EW {t e u:TypeId}{y z:Operand}{a:Addr} (hi:∃ j,x.P.info? e=some j) (J:gd ops L ⟨some d,.binOp .neq t y z u,ty,pos,aft,g⟩=some true) (hN:Nat.blt d x.N=true)
  (I:x.P.underlying t=some (.pointer e)) (Y:ev L y=some (.pointer (some a))) (Z:ev L z=some (.pointer (some a)))
  (k:W x ops Q rest H M ((d,.bool false)::L)):W x ops Q (⟨some d,.binOp .neq t y z u,ty,pos,aft,g⟩::rest) H M L:=
 eZ rfl J hN (λc w hs _=>by
  obtain ⟨j,O⟩:=hi;have h:=Lib.run_neq_ptr_same (P:=x.P) w a I O;simp only [execOp,hs.ev Y,hs.ev Z,Rj,eqGuard];simp [h]) k
theorem Dt {B:Nat}{w0 w:World}{b:Nat}{cs:List Q2}{T:TypeId} (ht:St B w0 H M w) (hm:bQ.obj b (.cells cs.toArray T (0,0)) ∈ M):w.shape? b=some (T,cs.length):=by
 have h:=ht.wA hm;simp [World.shape?,h]
theorem F6 {src I T e:TypeId}{y:Operand}{b o:Nat}{cs:List Q2} (hm:bQ.obj b (.cells cs.toArray e (0,0)) ∈ M) (ho:Nat.blt o cs.length=true)
  (hi:∃ j,x.P.info? T=some j/\Nat.beq j.size 0=false) (Z:gd ops L ⟨some d,.convert src I y,ty,pos,aft,g⟩=some true) (hN:Nat.blt d x.N=true)
  (hs:x.P.underlying src=some (.pointer T)) (Y:x.P.underlying I=some .unsafePointer) (hy:ev L y=some (.pointer (some ⟨b,o,none⟩)))
  (k:W x ops Q rest H M ((d,.pointer (some ⟨b,o,none⟩))::L)):W x ops Q (⟨some d,.convert src I y,ty,pos,aft,g⟩::rest) H M L:=
 eZ rfl Z hN (λc w O ht=>by
  obtain ⟨j,hj,J⟩:=hi;have h:=Lib.run_to_unsafe (P:=x.P) w ⟨b,o,none⟩ hs Y hj (λe=>by rw [e] at J; cases J) (Dt ht hm) (by simpa [Sh] using ho)
  simp only [execOp,O.ev hy,Rj,h,Re,Rx]) k
theorem DK {src I T e:TypeId}{y:Operand}{b o:Nat}{cs:List Q2} (hm:bQ.obj b (.cells cs.toArray e (0,0)) ∈ M)
  (hi:∃ j,x.P.info? T=some j) (hl:liesAt x.P x.P.depth e (cs.length / x.P.cellsOf e) o T 1=true) (Y:gd ops L ⟨some d,.convert src I y,ty,pos,aft,g⟩=some true) (hN:Nat.blt d x.N=true)
  (hs:x.P.underlying src=some .unsafePointer) (O:x.P.underlying I=some (.pointer T)) (hy:ev L y=some (.pointer (some ⟨b,o,none⟩)))
  (k:W x ops Q rest H M ((d,.pointer (some ⟨b,o,none⟩))::L)):W x ops Q (⟨some d,.convert src I y,ty,pos,aft,g⟩::rest) H M L:=
 eZ rfl Y hN (λc w J ht=>by
  obtain ⟨j,Z⟩:=hi;have h:=Lib.run_from_unsafe (P:=x.P) w ⟨b,o,none⟩ hs O Z (Dt ht hm) hl;simp only [execOp,J.ev hy,Rj,h,Re,Rx]) k
theorem Eh {P:Program}{f:FuncId}{I:Func} (hf:P.funcs[f]? = some I) (J:(I.name == "runtime.NumGoroutine")=false) (O:I.body.isNone=true) (Y:Extern.findNext I=none) (Z:Extern.find I=some Extern.AbiNoEscape.same) (v:Q2):
  ∀ w,(callFunc f [v].toArray).run P w=.ok (.value v) w:=λw=>by
 rw [VI hf J O Y Z,show [v].toArray=#[v] from rfl,Lib.run_noEscape]
 rfl
theorem EY {J:Array TypeId}{y:Operand}{a:Addr}{n c:Nat} (Y:gd ops L ⟨some d,.call ⟨.builtin .unsafeSliceData,#[y],J⟩,ty,pos,aft,g⟩=some true) (hN:Nat.blt d x.N=true)
  (Z:ev L y=some (.slice (some a) n c)) (O:c≠0) (k:W x ops Q rest H M ((d,.pointer (some a))::L)):
  W x ops Q (⟨some d,.call ⟨.builtin .unsafeSliceData,#[y],J⟩,ty,pos,aft,g⟩::rest) H M L:=
 eZ rfl Y hN (λs w I ht=>by
  have h:=Lib.run_unsafeSliceData_row (P:=x.P) w J ty a n c O;simp [execOp,resolve,invoke,builtin,I.ev Z,h]) k
theorem yt {P:Program} (w:World):∀ (l:List U8) (a:Addr) (acc:Q1),(∀ j y,l[j]? = some y->w.cell? (a.add j)=some (.int .u8 y.n)) ->
  (loadBytes a acc l.length).run P w=.ok ⟨acc.data++(l.map λy=>UInt8.ofNat y.n.toNat).toArray⟩ w
 | [],a,acc,_=>by simp [loadBytes]
 | y::l,a,acc,h=>by
  have J:w.cell? a=some (.int .u8 y.n):=by
   have:=h 0 y rfl;simpa [Addr.add] using this
  have ih:=yt (P:=P) w l (a.add 1) (acc.push (UInt8.ofNat y.n.toNat)) (λj z Y=>by
   have:=h (j+1) z (by simpa using Y)
   have e:(a.add 1).add j=a.add (j+1):=by
    unfold Addr.add
    by_cases I:j=0
    ·subst I; simp
    ·simp [I]; omega
   rw [e]; exact this)
  have O:(y.n.toNat).toUInt8=UInt8.ofNat y.n.toNat:=rfl;simp only [Rd,loadBytes,Rj,run_load,J,Result.andThen,O];rw [ih]
  congr 1
  apply ByteArray.ext;simp [ByteArray.push]
theorem C5 {P:Program}{e:TypeId} (O:P.cellsOf e=1) (I off n:Nat) (hn:off+n<=I):liesAt P P.depth e I off e n=true:=by
 have J:P.depth=(2*(P.types.size+Made.depth)+1)+1:=rfl;rw [J];simp only [liesAt,SP]
 left
 rw [J];simp [rowAt,O,hn,sameLayout,Nat.mod_one]
theorem EZ {pt it e:TypeId}{y z:Operand}{I off n cap:Nat}{xs:List Q2}{l:List U8}
  (hg:gd ops L ⟨some d,.call ⟨.builtin .unsafeString,#[y,z],#[pt,it]⟩,ty,pos,aft,g⟩=some true) (hN:Nat.blt d x.N=true)
  (hp:x.P.underlying pt=some (.pointer e)) (hc:x.P.cellsOf e=1)
  (hy:ev L y=some (.pointer (some ⟨I,off,none⟩))) (hz:ev L z=some (.int .i64 (l.length:Int))) (h0:0<l.length)
  (hx:Rw H (.slice (some ⟨I,off,none⟩) n cap) xs l)
  (k:W x ops Q rest H M ((d,.string (zC l))::L)):
  W x ops Q (⟨some d,.call ⟨.builtin .unsafeString,#[y,z],#[pt,it]⟩,ty,pos,aft,g⟩::rest) H (.row (.slice (some ⟨I,off,none⟩) n cap) e (aG.sz U8) n xs::M) L:=by
 refine tj rfl hg hN λa w hsl ht=>?_;have J:iQ w e 1 (.slice (some ⟨I,off,none⟩) n cap) n xs:=ht.ok _ (Q9 ..);have hn:n=l.length:=by
  have:=hx.rd.len;rw [J.1] at this;exact SU (Nat.zero_lt_one) this
 rcases J.2 with ⟨h,_⟩ | ⟨g',off',ob,O,he,hgc,hnc,hcm,hcs,htake⟩
 ·cases h
 cases he;have hcs':off+cap<=O.size:=by simpa using hcs
 have hsh:w.shape? I=some (e,O.size):=by simp [World.shape?,hgc]
 have Y:∀ j y,l[j]? = some y->w.cell? ((⟨I,off,none⟩:Addr).add j)=some (.int .u8 y.n):=by
  intro j y hj;obtain ⟨cs,h1,h2⟩:=hx.rd.get j y hj;have h1:cs=[.int .u8 y.n]:=h1;have h3:=h2 0 (.int .u8 y.n) (by rw [h1]; rfl)
  rw [Sf];refine Vw hgc rfl ?_;rw [<- htake,RX] at h3
  split at h3
  ·rw [RT] at h3
   simpa [aG.sz] using h3
  ·cases h3
 have hlb:=yt (P:=x.P) w l ⟨I,off,none⟩ .empty Y;have Z:=C5 (P:=x.P) hc (O.size / x.P.cellsOf e) off l.length (by rw [hc,Nat.div_one]; omega)
 have hmax:i64.max=9223372036854775807:=rfl;have hl0:l.length≠0:=by omega
 have h63':¬ (9223372036854775807:Int)<(l.length:Int):=by unfold maxLen at hcm; omega
 have hneg:¬ (l.length:Int)<0:=by omega
 have hrun:(Builtin.unsafeString_ #[pt,it] ty #[.pointer (some ⟨I,off,none⟩),.int .i64 l.length]).run x.P w=.ok (.string (zC l)) (w.freeze ⟨I,off,none⟩ l.length):=by
  have hdef:Builtin.unsafeString_ #[pt,it] ty #[.pointer (some ⟨I,off,none⟩),.int .i64 l.length] =
    (do
     let n <- asInt (.int .i64 l.length)
     if n<0 then runtimePanic (.error "unsafe.String: len out of range")
     if n > i64.max then unsupported (.unsafePointer "String: a length above the largest int")
     if n=0 then pure (.string .empty)
     else if <- variablesAt ⟨I,off,none⟩ (<- elemOf pt) n.toNat then do
      let s <- loadBytes ⟨I,off,none⟩ .empty n.toNat
      freeze ⟨I,off,none⟩ n.toNat
      pure (.string s)
     else unsupported (.unsafePointer "String: not so many bytes at ptr")):=rfl
  rw [hdef];have he0:ByteArray.empty.data=#[]:=rfl;simp [asInt,asIntOf,hmax,h63',hneg,hl0,variablesAt,hsh,elemOf,SF hp,Z,hlb,zC]
 have hgr:w.grownBy (w.freeze ⟨I,off,none⟩ l.length) (some I):=by
  unfold World.freeze
  split
  ·exact ⟨rfl,rfl,rfl,Rq _,λ_ _ _=>rfl⟩
  ·exact ⟨rfl,rfl,rfl,by simp,λq hq hne=>by
    simp only [Vr];rw [Ra (by intro e; exact hne (by rw [e]))]⟩
 have h1:=ht.EJ (r':=.row (.slice none 0 0) 0 1 0 []) hgr (iQ.nil _ _ _) (by intro b hb; simp [bQ.zH,Value.ownBlock] at hb)
 refine ⟨.string (zC l),w.freeze ⟨I,off,none⟩ l.length,?_,H,M,h1.tail,k⟩;simp [execOp,resolve,invoke,builtin,hsl.ev hy,hsl.ev hz,hrun]
end
end Go.Sim
namespace Go.Sim
open Go
open _root_.Go.IntKind (i64 u64 u32 u8)
def rowsOf (T:TypeId) (sz:Nat) {α:Type} (ws:List (Q2×List Q2)) (ls:List (List α)):List bQ:=List.zipWith (λw l=>bQ.row w.1 T sz l.length w.2) ws ls
structure Mx {α:Type}[aG α] (T1 T2:TypeId) (H:Hp) (v:Q2) (hs:List Q2) (mx:List bQ) (sg:List Nat) (ls:List (List α)):Prop where
 ex:∃ (xs:List Q2) (ws:List (Q2×List Q2)),mx=.row v T1 1 sg.length xs::rowsOf T2 (aG.sz α) ws ls/\ws.length=ls.length/\ws.map (·.1)=hs/\(∀ (k:Nat) (w:Q2×List Q2) (l:List α),ws[k]? = some w->ls[k]? = some l->Rw H w.1 w.2 l) /\
  xs.length=sg.length/\(∀ (i k:Nat),sg[i]? = some k->∃ w:Q2×List Q2,ws[k]? = some w/\xs[i]? = some w.1)
 sl:∃ a n c,v=.slice a n c
section
variable {α:Type}[aG α] {T1 T2:TypeId}{H H':Hp}{v:Q2}{hs:List Q2}{mx:List bQ}{sg:List Nat}{ls:List (List α)}
theorem Mx.mono (h:Mx T1 T2 H v hs mx sg ls) (J:H.le H'):Mx T1 T2 H' v hs mx sg ls:=by
 obtain ⟨xs,ws,O,Y,I,Z,h4,h5⟩:=h.ex;exact ⟨⟨xs,ws,O,Y,I,λk w l a b=>(Z k w l a b).mono J,h4,h5⟩,h.sl⟩
theorem Gu {ws:List (Q2×List Q2)}{k:Nat}{w:Q2} (J:ws.map (·.1)=hs) (I:hs[k]? = some w):∃ u,ws[k]? = some u/\u.1=w:=by
 rw [<- J,RH] at I;cases e:ws[k]? with
 | none=>rw [e] at I; simp at I
 | some u=>rw [e] at I; exact ⟨u,rfl,Q8 I⟩
theorem Mx.row (h:Mx T1 T2 H v hs mx sg ls) {k:Nat}{w:Q2} (Z:hs[k]? = some w):∃ (xs:List Q2) (m1 m2:List bQ),k<ls.length/\mx=m1++.row w T2 (aG.sz α) ((ls[k]?).getD []).length xs::m2/\Rw H w xs ((ls[k]?).getD []) /\
  ∀ (H':Hp) (I:List Q2) (l':List α),H.le H'->Rw H' w I l'->Mx T1 T2 H' v hs (m1++.row w T2 (aG.sz α) l'.length I::m2) sg (ls.set k l'):=by
 obtain ⟨oxs,ws,rfl,h2,h2',h3,h4,h5⟩:=h.ex;have hh:=Z;clear Z;obtain ⟨w,Z,rfl⟩:=Gu h2' hh;have J:k<ws.length:=(Q7.1 Z).1;have hk:k<ls.length:=by omega
 have hl:=Q4 hk;have hwe:ws[k]=w:=by rw [Q4 J] at Z; exact Q8 Z
 have hsp:∀ (ws:List (Q2×List Q2)) (ls:List (List α)) (h1:k<ws.length) (h2:k<ls.length),rowsOf T2 (aG.sz α) ws ls=rowsOf T2 (aG.sz α) (ws.take k) (ls.take k)++.row ws[k].1 T2 (aG.sz α) ls[k].length ws[k].2::rowsOf T2 (aG.sz α) (ws.drop (k+1)) (ls.drop (k+1)):=λws ls h1 h2=>by
  have e1:ws=ws.take k++ws[k]::ws.drop (k+1):=by rw [<- RK h1,SA]
  have e2:ls=ls.take k++ls[k]::ls.drop (k+1):=by rw [<- RK h2,SA]
  have e3:rowsOf T2 (aG.sz α) ws ls=rowsOf T2 (aG.sz α) (ws.take k++ws[k]::ws.drop (k+1)) (ls.take k++ls[k]::ls.drop (k+1)):=by rw [<- e1,<- e2]
  rw [e3];unfold rowsOf;rw [Uq (by simp; omega)]
  rfl
 have hg:(ls[k]?).getD []=ls[k]:=by rw [hl]; rfl
 rw [hg];refine ⟨w.2,.row v T1 1 sg.length oxs::rowsOf T2 (aG.sz α) (ws.take k) (ls.take k),rowsOf T2 (aG.sz α) (ws.drop (k+1)) (ls.drop (k+1)),hk,?_,h3 k w _ Z hl,λH' I l' hle hr=>⟨⟨oxs,ws.set k (w.1,I),?_,by simp [h2],?_,λj u l Y O=>?_,h4,λi' j hj=>?_⟩,h.sl⟩⟩
 ·rw [hsp ws ls J hk,hwe]; rfl
 ·rw [hsp (ws.set k (w.1,I)) (ls.set k l') (by simpa using J) (by simpa using hk)]
  have t1:(ws.set k (w.1,I)).take k=ws.take k:=TX (Rq k);have t2:(ls.set k l').take k=ls.take k:=TX (Rq k);have t3:(ws.set k (w.1,I)).drop (k+1)=ws.drop (k+1):=TG (S7 k);have t4:(ls.set k l').drop (k+1)=ls.drop (k+1):=TG (S7 k);rw [t1,t2,t3,t4];simp
 ·rw [List.map_set,h2']
  obtain ⟨e1,e2⟩:=Q7.1 hh;rw [<- e2,Vt]
 ·by_cases e:k=j
  ·subst e
   rw [RF J] at Y;rw [RF hk] at O;obtain rfl:=Q8 Y;obtain rfl:=Q8 O;exact hr
  ·rw [Ry e] at Y O
   exact (h3 j u l Y O).mono hle
 ·obtain ⟨u,Y,hx'⟩:=h5 i' j hj
  by_cases e:k=j
  ·subst e
   rw [Z] at Y;obtain rfl:=Q8 Y;exact ⟨(w.1,I),by rw [RF J],hx'⟩
  ·exact ⟨u,by rw [Ry e]; exact Y,hx'⟩
theorem Mx.outer (h:Mx T1 T2 H v hs mx sg ls):∃ J m2,mx=.row v T1 1 sg.length J::m2/\J.length=sg.length/\(∀ (i k:Nat),sg[i]? = some k->∃ w,hs[k]? = some w/\J[i]? = some w) /\
  (∀ (i k:Nat) (w:Q2),i<sg.length->hs[k]? = some w->Mx T1 T2 H v hs (.row v T1 1 (sg.set i k).length (J.set i w)::m2) (sg.set i k) ls) /\
  (∀ (i:Nat) (w:Q2) (xs:List Q2) (l:List α),i<sg.length->Rw H w xs l->Mx T1 T2 H v (hs++[w]) (.row v T1 1 (sg.set i ls.length).length (J.set i w)::(m2++[.row w T2 (aG.sz α) l.length xs])) (sg.set i ls.length) (ls++[l])):=by
 obtain ⟨J,ws,rfl,h2,Z,h3,h4,h5⟩:=h.ex;refine ⟨J,_,rfl,h4,λi k hk=>?_,λi k w hi hw=>?_,λi w xs l hi hr=>?_⟩
 ·obtain ⟨u,O,hx⟩:=h5 i k hk
  exact ⟨u.1,by rw [<- Z,RH,O]; rfl,hx⟩
 ·obtain ⟨u,O,rfl⟩:=Gu Z hw
  refine ⟨⟨J.set i u.1,ws,rfl,h2,Z,h3,by simp [h4],λi' k' I=>?_⟩,h.sl⟩
  by_cases e:i=i'
  ·subst e
   rw [RF hi] at I;obtain rfl:=Q8 I;exact ⟨u,O,by rw [RF (by omega)]⟩
  ·rw [Ry e] at I
   obtain ⟨u',hu',hx'⟩:=h5 i' k' I;exact ⟨u',hu',by rw [Ry e]; exact hx'⟩
 ·refine ⟨⟨J.set i w,ws++[(w,xs)],?_,by simp [h2],by simp [Z],λj u l' O Y=>?_,by simp [h4],λi' k' I=>?_⟩,h.sl⟩
  ·unfold rowsOf
   rw [Uq h2]
   rfl
  ·rcases S3 j ls.length with hj | hj
   ·rw [Sk (by omega)] at O Y
    exact h3 j u l' O Y
   ·rw [RN (by omega)] at O Y
    rw [h2] at O;cases e:j-ls.length with
    | zero=>
     rw [e] at O Y;obtain rfl:=Q8 O;obtain rfl:=Q8 Y;exact hr
    | succ m=>rw [e] at O; simp at O
  ·by_cases e:i=i'
   ·subst e
    rw [RF hi] at I;obtain rfl:=Q8 I;exact ⟨(w,xs),by rw [RN (by omega),h2,Sq]; rfl,by rw [RF (by omega)]⟩
   ·rw [Ry e] at I
    obtain ⟨u',hu',hx'⟩:=h5 i' k' I;exact ⟨u',by rw [Sk (Q7.1 hu').1]; exact hu',by rw [Ry e]; exact hx'⟩
end
structure H9 where
 mk ::
instance:aG H9 where
 sz:=1
 E _ cs _:=cs=[.slice none 0 0]
 len h:=by rw [h]; rfl
 mono _ h:=h
 one h c hc:=by rw [h] at hc; simp at hc; subst hc; rfl
theorem Ct {H:Hp}:∀ {n:Nat}{xs:List Q2},qq H xs (List.replicate n H9.mk)->xs=List.replicate n (.slice none 0 0)
 | 0,xs,h=>h
 | n+1,xs,h=>by
  obtain ⟨cs,r,rfl,he,I⟩:=h;have he:cs=[.slice none 0 0]:=he;rw [he,Ct I]; rfl
section
variable {α:Type}[aG α] {T1 T2:TypeId}{H H':Hp}{v:Q2}{hs:List Q2}{mx:List bQ}{sg:List Nat}{ls:List (List α)}
theorem Mx.make {n:Nat}{I:List Q2} (h:Rw H v I (List.replicate n H9.mk)):Mx T1 T2 H v [.slice none 0 0] (.row v T1 1 (List.replicate n 0).length I::[.row (.slice none 0 0) T2 (aG.sz α) 0 []]) (List.replicate n 0) ([[]]:List (List α)):=by
 have O:=Ct h.rd;refine ⟨⟨I,[(.slice none 0 0,[])],rfl,rfl,rfl,λk w l J hl=>?_,by rw [O]; simp,λi k Y=>?_⟩,h.sl⟩
 ·cases k with
  | zero=>
   obtain rfl:=Q8 J;obtain rfl:=Q8 hl;exact Rw.nil
  | succ k=>simp at J
 ·obtain ⟨hi,he⟩:=Q7.1 Y
  rw [List.getElem_replicate] at he;subst he;refine ⟨_,rfl,?_⟩;rw [O,TB,Rb (by simpa using hi)]
theorem B4 {B:Nat}{w0 w:World}{M:List bQ} (hs:0<aG.sz α):∀ (ws:List (Q2×List Q2)) (ls:List (List α)) (H:Hp),ws.length=ls.length ->
  (∀ (k:Nat) (u:Q2×List Q2) (l:List α),ws[k]? = some u->ls[k]? = some l->Rw H u.1 u.2 l)->St B w0 H (rowsOf T2 (aG.sz α) ws ls++M) w ->
  ∃ H',H.le H'/\St B w0 H' M w/\∀ (k:Nat) (u:Q2×List Q2) (l:List α),ws[k]? = some u->ls[k]? = some l->aO H' u.1 l
 | [],[],H,_,_,ht=>⟨H,R8 _,ht,λk u l J _=>by simp at J⟩
 | [],_::_,H,hl,_,_=>by simp at hl
 | _::_,[],H,hl,_,_=>by simp at hl
 | u::ws,l::ls,H,hl,hr,ht=>by
  have ht:St B w0 H (.row u.1 T2 (aG.sz α) l.length u.2::(rowsOf T2 (aG.sz α) ws ls++M)) w:=ht;obtain ⟨H1,Z,h2,h3⟩:=ht.wI (hr 0 u l rfl rfl).rd hs;obtain ⟨H2,Y,g2,g3⟩:=B4 hs ws ls H1 (by simpa using hl) (λk O l' J I=>(hr (k+1) O l' (by simpa using J) (by simpa using I)).mono Z) h2
  refine ⟨H2,UT Z Y,g2,λk O l' J I=>?_⟩;cases k with
  | zero=>
   obtain rfl:=Q8 J;obtain rfl:=Q8 I;exact h3.mono Y
  | succ k=>exact g3 k O l' (by simpa using J) (by simpa using I)
theorem Dw {H:Hp}:∀ (xs:List Q2) (l:List (List α)),xs.length=l.length->(∀ (i:Nat) (y:Q2) (e:List α),xs[i]? = some y->l[i]? = some e->aO H y e)->qq H xs l
 | [],[],_,_=>rfl
 | [],_::_,h,_=>by simp at h
 | _::_,[],h,_=>by simp at h
 | y::xs,e::l,h,hr=>⟨[y],xs,rfl,⟨y,rfl,hr 0 y e rfl rfl⟩,Dw xs l (by simpa using h) (λi O I J he=>hr (i+1) O I (by simpa using J) (by simpa using he))⟩
def rT (sg:List Nat) (ls:List (List α)):List (List α):=sg.map λk=>(ls[k]?).getD []
theorem St.Ff {B:Nat}{w0 w:World}{M:List bQ} (ht:St B w0 H (mx++M) w) (h:Mx T1 T2 H v hs mx sg ls) (h0:0<aG.sz α):∃ H',H.le H'/\St B w0 H' M w/\aO H' v (rT sg ls):=by
 obtain ⟨I,ws,rfl,h2,_,h3,h4,h5⟩:=h.ex;have ht1:St B w0 H (rowsOf T2 (aG.sz α) ws ls++(.row v T1 1 sg.length I::M)) w:=ht.perm (by
  rw [S5];exact List.perm_middle.symm)
 obtain ⟨H1,g1,g2,g3⟩:=B4 h0 ws ls H h2 h3 ht1;have hv:(rT sg ls).length=sg.length:=by unfold rT; simp
 have Z:qq H1 I (rT sg ls):=Dw I _ (by rw [hv]; exact h4) (λi y e hy he=>by
  unfold rT at he;rw [RH] at he;cases O:sg[i]? with
  | none=>rw [O] at he; simp at he
  | some k=>
   rw [O] at he;obtain ⟨u,hu,hx⟩:=h5 i k O;rw [hy] at hx;obtain rfl:=Q8 hx;have Y:k<ls.length:=by rw [<- h2]; exact (Q7.1 hu).1
   have hl:=Q4 Y;simp only [SC,Rp] at he;rw [hl,S9] at he;rw [<- he];exact g3 k u _ hu hl)
 have J:St B w0 H1 (.row v T1 (aG.sz (List α)) sg.length I::M) w:=g2;obtain ⟨H2,k1,k2,k3⟩:=J.wI Z Nat.one_pos;exact ⟨H2,UT g1 k1,k2,k3⟩
end
section
variable {x:Cx}{ops:Array Oper}{Q:lG}{rest:List Oper}{H:Hp}{M:List bQ}{L:Env}
theorem F5 {α:Type}[aG α] {T1 T2:TypeId}{v:Q2}{hs:List Q2}{mx:List bQ}{sg:List Nat}{ls:List (List α)} (h:Mx T1 T2 H v hs mx sg ls) (J:Nat.blt 0 (aG.sz α)=true)
  (k:∀ H',H.le H'->aO H' v (rT sg ls)->W x ops Q rest H' M L):W x ops Q rest H (mx++M) L:=by
 intro a w I ht;obtain ⟨H',O,Y,Z⟩:=St.Ff ht h (by simpa [Sh] using J)
 exact k H' O Z a w I Y
variable {d:Nat}{ty:TypeId}{pos:String}{aft:Array Edge}{g:Option (Nat×Bool)}
theorem s9 (pre J O I:List bQ) (r:bQ):(pre++((J++r::O)++I)).Perm (r::(pre++((J++O)++I))):=by
 have Y:(pre++((J++r::O)++I))=(pre++J)++r::(O++I):=by simp
 have Z:(r::(pre++((J++O)++I)))=r::((pre++J)++(O++I)):=by simp
 rw [Y,Z];exact List.perm_middle
theorem Mx.get {α:Type}[aG α] {T1 T2:TypeId}{v:Q2}{hs:List Q2}{mx:List bQ}{sg:List Nat}{ls:List (List α)} (h:Mx T1 T2 H v hs mx sg ls) {k:Nat}{w:Q2} (J:hs[k]? = some w):
  ∃ xs:List Q2,bQ.row w T2 (aG.sz α) ((ls[k]?).getD []).length xs ∈ mx/\Rw H w xs ((ls[k]?).getD []):=by
 obtain ⟨xs,O,Y,_,he,I,_⟩:=h.row J;exact ⟨xs,by rw [he]; exact Sc _ (Q9 ..),I⟩
theorem tr {α:Type}[aG α] {T1 T2 T:TypeId}{m:Nat}{y z:Operand}{v u w:Q2}{ad:Addr}{hs cs:List Q2}{pre mx:List bQ}{sg:List Nat}{ls:List (List α)}{k j:Nat}{e2:α}
  (h:Mx T1 T2 H v hs mx sg ls) (hx:hs[k]? = some w) (hj:j<((ls[k]?).getD []).length) (O:aG.E H cs e2)
  (hg:gd ops L ⟨none,.store T y z,ty,pos,aft,g⟩=some true) (hn:∀ w,(sizeOf T).run x.P w=.ok m w) (hm:m=aG.sz α) (h0:Nat.blt 0 (aG.sz α)=true)
  (hy:ev L y=some (.pointer (some ad))) (Y:ad=(Value.base w).add (j*aG.sz α)) (hz:ev L z=some u) (hv:u.cells=cs.toArray)
  (kk:∀ J,Mx T1 T2 H v hs J sg (ls.set k (((ls[k]?).getD []).set j e2))->W x ops Q rest H (pre++(J++M)) L):
  W x ops Q (⟨none,.store T y z,ty,pos,aft,g⟩::rest) H (pre++(mx++M)) L:=by
 obtain ⟨xs,m1,m2,hk,rfl,hr,hup⟩:=h.row hx;have hcl:=aG.len O;have hs':0<aG.sz α:=by simpa [Sh] using h0
 have he:=Q4 hj;obtain ⟨c,hc,Z⟩:=hr.elem he;have hccl:=aG.len hc;have ho:over c 0 cs=cs:=by
  rw [xr cs c 0 (by omega),Ve,SJ,List.drop_eq_nil_of_le (by omega),RR]
 obtain ⟨p1,_,_⟩:=Rw.put (k:=j) (o:=0) (e2:=e2) hr he hc Z (by simp [TN]; omega) ho O
 have I:j*aG.sz α+cs.length<=xs.length:=by
  have hlen:=hr.rd.len;have:(j+1)*aG.sz α<=((ls[k]?).getD []).length*aG.sz α:=Rl _ hj;rw [Ru,UU] at this;omega
 refine oc (s9 pre m1 m2 M _) ?_;refine xY (i:=j*aG.sz α) (cs:=cs) hg hn hy Y hz hv (by omega) I (by simp [Sh]; omega) (aG.one O) ?_
 have h2:=hup H _ _ (R8 _) p1;rw [Sr,SH] at h2;refine oc (s9 pre m1 m2 M _).symm ?_;exact kk _ h2
theorem He {α:Type}[aG α] {T1 T2 T:TypeId}{y z:Operand}{v w:Q2}{ad:Addr}{hs:List Q2}{pre mx:List bQ}{sg:List Nat}{ls:List (List α)}{i k:Nat}
  (h:Mx T1 T2 H v hs mx sg ls) (hi:i<sg.length) (hx:hs[k]? = some w)
  (hg:gd ops L ⟨none,.store T y z,ty,pos,aft,g⟩=some true) (hn:∀ w,(sizeOf T).run x.P w=.ok 1 w)
  (hy:ev L y=some (.pointer (some ad))) (Y:ad=(Value.base v).add (i*1)) (hz:ev L z=some w)
  (kk:∀ J,Mx T1 T2 H v hs J (sg.set i k) ls->W x ops Q rest H (pre++(J++M)) L):
  W x ops Q (⟨none,.store T y z,ty,pos,aft,g⟩::rest) H (pre++(mx++M)) L:=by
 obtain ⟨_,_,_,_,_,hr,_⟩:=h.row hx;obtain ⟨O,m2,rfl,hl,_,I,_⟩:=h.outer;refine oc (s9 pre [] m2 M _) ?_;refine xY (i:=i*1) (cs:=[w]) hg hn hy Y hz hr.cells rfl (by simp; omega) rfl (λc hc=>by simp at hc; subst hc; exact hr.one) ?_
 have Z:=I i k w hi hx;rw [Sr] at Z;have e:over O (i*1) [w]=O.set i w:=by rw [TK]; rfl
 rw [e];refine oc (s9 pre [] m2 M _).symm ?_;exact kk _ Z
theorem DI {α:Type}[aG α] {T1 T2 T:TypeId}{y z:Operand}{v w:Q2}{ad:Addr}{hs xs:List Q2}{pre mx:List bQ}{sg:List Nat}{ls:List (List α)}{l:List α}{i:Nat}
  (h:Mx T1 T2 H v hs mx sg ls) (hi:i<sg.length) (hr:Rw H w xs l)
  (hg:gd ops L ⟨none,.store T y z,ty,pos,aft,g⟩=some true) (hn:∀ w,(sizeOf T).run x.P w=.ok 1 w)
  (hy:ev L y=some (.pointer (some ad))) (Z:ad=(Value.base v).add (i*1)) (hz:ev L z=some w)
  (kk:∀ Y,Mx T1 T2 H v (hs++[w]) Y (sg.set i ls.length) (ls++[l])->W x ops Q rest H (pre++(Y++M)) L):
  W x ops Q (⟨none,.store T y z,ty,pos,aft,g⟩::rest) H (.row w T2 (aG.sz α) l.length xs::(pre++(mx++M))) L:=by
 obtain ⟨I,J,rfl,hl,_,_,O⟩:=h.outer;have p1:(bQ.row w T2 (aG.sz α) l.length xs::(pre++((.row v T1 1 sg.length I::J)++M))).Perm (.row v T1 1 sg.length I::(.row w T2 (aG.sz α) l.length xs::(pre++(J++M)))):=
  ((s9 pre [] J M _).cons _).trans (List.Perm.swap _ _ _)
 refine oc p1 ?_;refine xY (i:=i*1) (cs:=[w]) hg hn hy Z hz hr.cells rfl (by simp; omega) rfl (λc hc=>by simp at hc; subst hc; exact hr.one) ?_
 have h2:=O i w xs l hi hr;rw [Sr] at h2;have e:over I (i*1) [w]=I.set i w:=by rw [TK]; rfl
 rw [e];have p2:(bQ.row v T1 1 sg.length (I.set i w)::(.row w T2 (aG.sz α) l.length xs::(pre++(J++M)))).Perm (pre++((.row v T1 1 sg.length (I.set i w)::(J++[.row w T2 (aG.sz α) l.length xs]))++M)):=by
  refine (s9 pre [] (J++[.row w T2 (aG.sz α) l.length xs]) M _).trans ?_ |>.symm;refine List.Perm.cons _ ?_;have:=s9 pre J [] M (.row w T2 (aG.sz α) l.length xs);simpa using this
 refine oc p2 ?_;exact kk _ h2
def uA (sz n:Nat):Q2->Q2
 | .slice (some ⟨b,off,sp⟩) len cap=>.slice (some ⟨b,if cap=n then off else off+n*sz,sp⟩) (len-n) (cap-n)
 | y=>y
theorem iQ.sub {w:World}{T:TypeId}{sz n m:Nat}{v:Q2}{xs:List Q2} (h:iQ w T sz v n xs) (hm:m<=n):iQ w T sz (uA sz m v) (n-m) (xs.drop (m*sz)):=by
 obtain ⟨hl,hh⟩:=h;refine ⟨by rw [SL,hl,Nat.sub_mul],?_⟩
 rcases hh with ⟨rfl,h0⟩ | ⟨O,off,cap,J,rfl,hg,hnc,hcm,hcs,I⟩
 ·exact .inl ⟨rfl,by omega⟩
 ·have h1:m*sz+(cap-m)*sz=cap*sz:=by rw [<- Ru,Nat.add_sub_cancel' (by omega)]
  have h2:m*sz+(n-m)*sz=n*sz:=by rw [<- Ru,Nat.add_sub_cancel' hm]
  by_cases Z:cap=m
  ·have Y:n=m:=by omega
   refine .inr ⟨O,off,cap-m,J,by show Value.slice (some ⟨O,if cap=m then off else off+m*sz,none⟩) _ _=_; rw [Rb Z],hg,by omega,by omega,by omega,?_⟩
   rw [<- I,Ty,Y,Sq,Sq,SI,Ve,Ve]
  ·refine .inr ⟨O,off+m*sz,cap-m,J,by show Value.slice (some ⟨O,if cap=m then off else off+m*sz,none⟩) _ _=_; rw [Ra Z],hg,by omega,by omega,by omega,?_⟩
   rw [<- I,Ty,SV]
   congr 1
   omega
theorem Jh {sz m:Nat} (v:Q2):(uA sz m v).ownBlock=v.ownBlock:=by
 unfold uA
 split
 ·rename_i b off sp len cap
  cases sp <;> rfl
 ·rfl
theorem St.same {B:Nat}{w0 w:World}{r r':bQ} (h:St B w0 H (r::M) w) (I:r'.ok w) (O:r'.va=r.va):St B w0 H (r'::M) w:=by
 refine ⟨h.below,h.le,h.uX,λs hs=>?_,λs hs b J=>?_,?_⟩
 ·rcases RU.1 hs with rfl | hs
  ·exact I
  ·exact h.ok s (Rc _ hs)
 ·rcases RU.1 hs with rfl | hs
  ·exact h.lo r (Q9 ..) b (by rw [<- O]; exact J)
  ·exact h.lo s (Rc _ hs) b J
 ·have:=h.nd
  simp only [Sp,O] at this ⊢;exact this
theorem Rw.sub {α:Type}[aG α] {v:Q2}{xs:List Q2}{l:List α} (h:Rw H v xs l) {m:Nat} (hm:m<=l.length):Rw H (uA (aG.sz α) m v) (xs.drop (m*aG.sz α)) (l.drop m):=by
 refine ⟨?_,?_⟩
 ·have key:∀ (m:Nat) (xs:List Q2) (l:List α),qq H xs l->m<=l.length->qq H (xs.drop (m*aG.sz α)) (l.drop m):=by
   intro m
   induction m with
   | zero=>intro xs l h _; simpa using h
   | succ m ih=>
    intro xs l h hm;cases l with
    | nil=>simp at hm
    | cons e l=>
     obtain ⟨c,r,rfl,he,J⟩:=h;have I:=aG.len he;rw [VF,Ru,UU,TJ,<- SV,<- I,List.drop_left,I];exact ih r l J (by simpa using hm)
  exact key m xs l h.rd hm
 ·obtain ⟨a,n,c,rfl⟩:=h.sl
  cases a with
  | none=>exact ⟨_,_,_,rfl⟩
  | some ad=>obtain ⟨b,off,sp⟩:=ad; exact ⟨_,_,_,rfl⟩
theorem LJ {α:Type}[aG α] {T1 T2 T:TypeId}{y z:Operand}{v w:Q2}{ad:Addr}{hs:List Q2}{pre mx:List bQ}{sg:List Nat}{ls:List (List α)}{i k n:Nat}
  (h:Mx T1 T2 H v hs mx sg ls) (hi:i<sg.length) (hx:hs[k]? = some w) (hn':n<=((ls[k]?).getD []).length) (hone:∀ j:Nat,sg[j]? = some k->j=i)
  (hg:gd ops L ⟨none,.store T y z,ty,pos,aft,g⟩=some true) (hn:∀ w,(sizeOf T).run x.P w=.ok 1 w)
  (hy:ev L y=some (.pointer (some ad))) (had:ad=(Value.base v).add (i*1)) (hz:ev L z=some (uA (aG.sz α) n w))
  (kk:∀ mx',Mx T1 T2 H v (hs.set k (uA (aG.sz α) n w)) mx' (sg.set i k) (ls.set k (((ls[k]?).getD []).drop n))->W x ops Q rest H (pre++(mx'++M)) L):
  W x ops Q (⟨none,.store T y z,ty,pos,aft,g⟩::rest) H (pre++(mx++M)) L:=by
 obtain ⟨I,ws,rfl,h2,h2',h3,h4,h5⟩:=h.ex;obtain ⟨u,hu,rfl⟩:=Gu h2' hx;have Y:k<ws.length:=(Q7.1 hu).1;have hk:k<ls.length:=by omega
 have hl:=Q4 hk;have hwe:ws[k]=u:=by rw [Q4 Y] at hu; exact Q8 hu
 have hgd:(ls[k]?).getD []=ls[k]:=by rw [hl]; rfl
 rw [hgd] at hn' kk;have hr:=h3 k u _ hu hl;have hrs:=hr.sub hn';have hsp:∀ (ws:List (Q2×List Q2)) (ls:List (List α)) (h1:k<ws.length) (h2:k<ls.length),rowsOf T2 (aG.sz α) ws ls=rowsOf T2 (aG.sz α) (ws.take k) (ls.take k)++.row ws[k].1 T2 (aG.sz α) ls[k].length ws[k].2::rowsOf T2 (aG.sz α) (ws.drop (k+1)) (ls.drop (k+1)):=λws ls h1 h2=>by
  have e1:ws=ws.take k++ws[k]::ws.drop (k+1):=by rw [<- RK h1,SA]
  have e2:ls=ls.take k++ls[k]::ls.drop (k+1):=by rw [<- RK h2,SA]
  have e3:rowsOf T2 (aG.sz α) ws ls=rowsOf T2 (aG.sz α) (ws.take k++ws[k]::ws.drop (k+1)) (ls.take k++ls[k]::ls.drop (k+1)):=by rw [<- e1,<- e2]
  rw [e3];unfold rowsOf;rw [Uq (by simp; omega)]
  rfl
 generalize hA:rowsOf T2 (aG.sz α) (ws.take k) (ls.take k)=A at hsp;generalize hB:rowsOf T2 (aG.sz α) (ws.drop (k+1)) (ls.drop (k+1))=Bq at hsp;have hrows:rowsOf T2 (aG.sz α) ws ls=A++.row u.1 T2 (aG.sz α) ls[k].length u.2::Bq:=by
  rw [<- hA,<- hB];have e1:ws=ws.take k++ws[k]::ws.drop (k+1):=by rw [<- RK Y,SA]
  have e2:ls=ls.take k++ls[k]::ls.drop (k+1):=by rw [<- RK hk,SA]
  have e3:rowsOf T2 (aG.sz α) ws ls=rowsOf T2 (aG.sz α) (ws.take k++ws[k]::ws.drop (k+1)) (ls.take k++ls[k]::ls.drop (k+1)):=by rw [<- e1,<- e2]
  rw [e3];unfold rowsOf;rw [Uq (by simp; omega),<- hwe]
  rfl
 have hrows2:rowsOf T2 (aG.sz α) (ws.set k (uA (aG.sz α) n u.1,u.2.drop (n*aG.sz α))) (ls.set k (ls[k].drop n))=A++.row (uA (aG.sz α) n u.1) T2 (aG.sz α) (ls[k].drop n).length (u.2.drop (n*aG.sz α))::Bq:=by
  rw [<- hA,<- hB];have e1:ws.set k (uA (aG.sz α) n u.1,u.2.drop (n*aG.sz α))=ws.take k++(uA (aG.sz α) n u.1,u.2.drop (n*aG.sz α))::ws.drop (k+1):=by rw [Uf,Rb Y]
  have e2:ls.set k (ls[k].drop n)=ls.take k++ls[k].drop n::ls.drop (k+1):=by rw [Uf,Rb hk]
  rw [e1,e2];unfold rowsOf;rw [Uq (by simp; omega)]
  rfl
 have hnew:Mx T1 T2 H v (hs.set k (uA (aG.sz α) n u.1)) (.row v T1 1 (sg.set i k).length (I.set i (uA (aG.sz α) n u.1))::rowsOf T2 (aG.sz α) (ws.set k (uA (aG.sz α) n u.1,u.2.drop (n*aG.sz α))) (ls.set k (ls[k].drop n))) (sg.set i k) (ls.set k (ls[k].drop n)):=by
  refine ⟨⟨_,_,rfl,by simp [h2],by rw [List.map_set,h2'],λj u' l' J Z=>?_,by simp [h4],λi' k' O=>?_⟩,h.sl⟩
  ·by_cases e:k=j
   ·subst e
    rw [RF Y] at J;rw [RF hk] at Z;obtain rfl:=Q8 J;obtain rfl:=Q8 Z;exact hrs
   ·rw [Ry e] at J Z
    exact h3 j u' l' J Z
  ·by_cases e:i=i'
   ·subst e
    rw [RF hi] at O;obtain rfl:=Q8 O;exact ⟨_,by rw [RF Y],by rw [RF (by omega)]⟩
   ·rw [Ry e] at O
    obtain ⟨u',J,hx'⟩:=h5 i' k' O;have hne:k≠k':=λe2=>by subst e2; exact e (hone i' O).symm
    exact ⟨u',by rw [Ry hne]; exact J,by rw [Ry e]; exact hx'⟩
 refine oc (s9 pre [] (rowsOf T2 (aG.sz α) ws ls) M _) ?_;refine xY (i:=i*1) (cs:=[uA (aG.sz α) n u.1]) hg hn hy had hz hrs.cells rfl (by simp; omega) rfl (λc hc=>by simp at hc; subst hc; exact hrs.one) ?_
 have e:over I (i*1) [uA (aG.sz α) n u.1]=I.set i (uA (aG.sz α) n u.1):=by rw [TK]; rfl
 rw [e];refine oc (s9 pre [] (rowsOf T2 (aG.sz α) ws ls) M _).symm ?_;rw [SJ,hrows];have p1:(pre++((.row v T1 1 sg.length (I.set i (uA (aG.sz α) n u.1))::(A++.row u.1 T2 (aG.sz α) ls[k].length u.2::Bq))++M)).Perm (.row u.1 T2 (aG.sz α) ls[k].length u.2::(pre++(((.row v T1 1 sg.length (I.set i (uA (aG.sz α) n u.1))::A)++Bq)++M))):=
  s9 pre (.row v T1 1 sg.length (I.set i (uA (aG.sz α) n u.1))::A) Bq M _
 refine oc p1 ?_;intro a w0' hsl ht;have hok:=ht.ok _ (Q9 ..);have hs2:St x.B x.w0 H (.row (uA (aG.sz α) n u.1) T2 (aG.sz α) (ls[k].drop n).length (u.2.drop (n*aG.sz α))::(pre++(((.row v T1 1 sg.length (I.set i (uA (aG.sz α) n u.1))::A)++Bq)++M))) w0':=by
  refine ht.same ?_ (Rn Option.toList (Jh u.1));have h1:iQ w0' T2 (aG.sz α) u.1 ls[k].length u.2:=hok;have:=h1.sub hn';rw [<- SL] at this;exact this
 have p2:=(s9 pre (.row v T1 1 sg.length (I.set i (uA (aG.sz α) n u.1))::A) Bq M (.row (uA (aG.sz α) n u.1) T2 (aG.sz α) (ls[k].drop n).length (u.2.drop (n*aG.sz α)))).symm;refine kk _ hnew a w0' hsl ?_;rw [hrows2,Sr];exact hs2.perm p2
theorem JI {α:Type}[aG α] {T2 t e:TypeId}{y lo:Operand}{w:Q2}{xs:List Q2}{l:List α}{n:Nat}{kk:IntKind}
  (hm:bQ.row w T2 (aG.sz α) l.length xs ∈ M) (hn:n<=l.length)
  (hg:gd ops L ⟨some d,.slice t y (some lo) none none,ty,pos,aft,g⟩=some true) (hN:Nat.blt d x.N=true)
  (hT:∀ w,(underlying t).run x.P w=.ok (.slice e) w) (hs:∀ w,(sizeOf e).run x.P w=.ok (aG.sz α) w) (hy:ev L y=some w) (J:ev L lo=some (.int kk (n:Int)))
  (k:W x ops Q rest H M ((d,uA (aG.sz α) n w)::L)):
  W x ops Q (⟨some d,.slice t y (some lo) none none,ty,pos,aft,g⟩::rest) H M L:=by
 intro a I O ht;have Z:iQ I T2 (aG.sz α) w l.length xs:=ht.ok _ hm;rcases Z.2 with ⟨rfl,h0⟩ | ⟨gb,off,cap,cur,rfl,_,hnc,_⟩
 ·obtain rfl:n=0:=by omega
  exact ua (m:=0) (h:=0) (l:=0) hg hN hT hs hy (.inl rfl) (.inl ⟨rfl,rfl⟩) (.inl ⟨rfl,rfl⟩) (.inr ⟨lo,kk,_,rfl,J,Tu _,Tu _,rfl⟩) rfl k a I O ht
 ·refine ua (m:=cap) (h:=l.length) (l:=n) hg hN hT hs hy (.inl rfl) (.inl ⟨rfl,rfl⟩) (.inl ⟨rfl,rfl⟩) (.inr ⟨lo,kk,_,rfl,J,by omega,by omega,by omega⟩) ?_ k a I O ht
  show _=Value.slice (some ⟨gb,if cap=n then off else off+n*aG.sz α,none⟩) (l.length-n) (cap-n)
  by_cases Y:cap=n
  ·rw [Rb Y,Rb Y]
  ·rw [Ra Y,Ra Y]
   rw [SC,Sf]
end
theorem Ef (pre os mx M:List bQ):(pre++(mx++(os++M))).Perm (pre++(os++(mx++M))):=
 List.Perm.append_left pre (List.perm_append_comm_assoc mx os M)
theorem Cr (pre mx M:List bQ):(pre++(mx++M)).Perm (mx++(pre++M)):=List.perm_append_comm_assoc pre mx M
def lone (sg:List Nat) (i k:Nat):Bool:=(List.range sg.length).all λj=>sg[j]? != some k || j == i
theorem IV {sg:List Nat}{i k:Nat} (h:lone sg i k=true) (j:Nat) (I:sg[j]? = some k):j=i:=by
 unfold lone at h;rw [Sj] at h;have hl:=(Q7.1 I).1;have:=h j (by simpa using hl)
 rw [I] at this;simpa using this
theorem Mj {sg:List Nat}{i k:Nat} (h:∀ j,sg[j]? = some k->j=i):lone sg i k=true:=by
 unfold lone;rw [Sj];intro j I
 by_cases e:sg[j]? = some k
 ·simp [h j e]
 ·simp [e]
section
variable {x:Cx}{ops:Array Oper}{Q:lG}{rest:List Oper}{H:Hp}{M:List bQ}{L:Env}{d:Nat}{ty:TypeId}{pos:String}{aft:Array Edge}{g:Option (Nat×Bool)}
variable {α:Type}[aG α] {T1 T2:TypeId}{v:Q2}{hs:List Q2}{mx:List bQ}{sg:List Nat}{ls:List (List α)}
theorem yw {t e:TypeId}{y:Operand} (h:Mx T1 T2 H v hs mx sg ls) (I:∀ s ∈ mx,s ∈ M) (O:gd ops L ⟨some d,.call ⟨.builtin .len,#[y],#[t]⟩,ty,pos,aft,g⟩=some true) (hN:Nat.blt d x.N=true)
  (J:∀ w,(underlying t).run x.P w=.ok (.slice e) w) (Y:ev L y=some v) (k:W x ops Q rest H M ((d,.int .i64 (sg.length:Int))::L)):
  W x ops Q (⟨some d,.call ⟨.builtin .len,#[y],#[t]⟩,ty,pos,aft,g⟩::rest) H M L:=by
 obtain ⟨Z,m2,he,_⟩:=h.outer;exact Am (I _ (by rw [he]; exact Q9 ..)) O hN J Y k
theorem eE {t e:TypeId}{y z:Operand}{kk:IntKind}{i:Int}{p:Nat} (h:Mx T1 T2 H v hs mx sg ls) (I:∀ s ∈ mx,s ∈ M)
  (hg:gd ops L ⟨some d,.indexAddr t y z,ty,pos,aft,g⟩=some true) (hN:Nat.blt d x.N=true)
  (Z:∀ w,(underlying t).run x.P w=.ok (.slice e) w) (J:∀ w,(sizeOf e).run x.P w=.ok 1 w)
  (hy:ev L y=some v) (hz:ev L z=some (.int kk i)) (O:0<=i) (Y:sg[i.toNat]? = some p)
  (k:W x ops Q rest H M ((d,.pointer (some ((Value.base v).add (i.toNat*1))))::L)):
  W x ops Q (⟨some d,.indexAddr t y z,ty,pos,aft,g⟩::rest) H M L:=by
 obtain ⟨oxs,m2,he,_⟩:=h.outer;exact zz (I _ (by rw [he]; exact Q9 ..)) hg hN Z J hy hz O (Q7.1 Y).1 k
theorem iH {T:TypeId}{y:Operand}{ad:Addr}{i p:Nat} (h:Mx T1 T2 H v hs mx sg ls) (J:∀ s ∈ mx,s ∈ M) (Y:sg[i]? = some p)
  (hg:gd ops L ⟨some d,.load T y,ty,pos,aft,g⟩=some true) (hN:Nat.blt d x.N=true)
  (Z:∀ w,(isAgg T).run x.P w=.ok false w) (hy:ev L y=some (.pointer (some ad))) (O:ad=(Value.base v).add (i*1))
  (k:∀ w,hs[p]? = some w->W x ops Q rest H M ((d,w)::L)):W x ops Q (⟨some d,.load T y,ty,pos,aft,g⟩::rest) H M L:=by
 obtain ⟨oxs,m2,he,_,I,_⟩:=h.outer;obtain ⟨w,hw,hx⟩:=I i p Y;subst O;refine qJ hg hN Z hy (CJ (J _ (by rw [he]; exact Q9 ..)) ?_) (k w hw)
 rw [TK]; exact hx
theorem Hb {t e:TypeId}{y:Operand}{w:Q2}{p:Nat} (h:Mx T1 T2 H v hs mx sg ls) (I:∀ s ∈ mx,s ∈ M) (Y:hs[p]? = some w) (O:gd ops L ⟨some d,.call ⟨.builtin .len,#[y],#[t]⟩,ty,pos,aft,g⟩=some true) (hN:Nat.blt d x.N=true)
  (J:∀ w,(underlying t).run x.P w=.ok (.slice e) w) (Z:ev L y=some w) (k:W x ops Q rest H M ((d,.int .i64 (((ls[p]?).getD []).length:Int))::L)):
  W x ops Q (⟨some d,.call ⟨.builtin .len,#[y],#[t]⟩,ty,pos,aft,g⟩::rest) H M L:=by
 obtain ⟨xs,hm,_⟩:=h.get Y;exact Am (I _ hm) O hN J Z k
theorem jM {t e:TypeId}{y z:Operand}{kk:IntKind}{j:Int}{w:Q2}{p n:Nat}{a:α} (h:Mx T1 T2 H v hs mx sg ls) (I:∀ s ∈ mx,s ∈ M) (hw:hs[p]? = some w)
  (hg:gd ops L ⟨some d,.indexAddr t y z,ty,pos,aft,g⟩=some true) (hN:Nat.blt d x.N=true)
  (Z:∀ w,(underlying t).run x.P w=.ok (.slice e) w) (J:∀ w,(sizeOf e).run x.P w=.ok n w) (hn:n=aG.sz α)
  (hy:ev L y=some w) (hz:ev L z=some (.int kk j)) (O:0<=j) (Y:((ls[p]?).getD [])[j.toNat]? = some a)
  (k:W x ops Q rest H M ((d,.pointer (some ((Value.base w).add (j.toNat*aG.sz α))))::L)):
  W x ops Q (⟨some d,.indexAddr t y z,ty,pos,aft,g⟩::rest) H M L:=by
 subst hn;obtain ⟨xs,hm,_⟩:=h.get hw;exact zz (I _ hm) hg hN Z J hy hz O (Q7.1 Y).1 k
theorem qv {T:TypeId}{y:Operand}{ad:Addr}{w:Q2}{p j n:Nat}{a:α} (h:Mx T1 T2 H v hs mx sg ls) (I:∀ s ∈ mx,s ∈ M) (hw:hs[p]? = some w) (Z:((ls[p]?).getD [])[j]? = some a)
  (hg:gd ops L ⟨some d,.load T y,ty,pos,aft,g⟩=some true) (hN:Nat.blt d x.N=true)
  (hT:∀ w,(isAgg T).run x.P w=.ok true w) (hn:∀ w,(sizeOf T).run x.P w=.ok n w) (O:n=aG.sz α) (hy:ev L y=some (.pointer (some ad))) (J:ad=(Value.base w).add (j*aG.sz α))
  (k:∀ cs,aG.E H cs a->W x ops Q rest H M ((d,.agg cs.toArray)::L)):W x ops Q (⟨some d,.load T y,ty,pos,aft,g⟩::rest) H M L:=by
 subst O;subst J;obtain ⟨xs,hm,hr⟩:=h.get hw;obtain ⟨c,Y,hc⟩:=hr.elem Z;exact jN hg hN hT hn hy (yB (I _ hm) hc) (aG.len Y) (k c Y)
theorem JH {t e:TypeId}{y lo:Operand}{w:Q2}{p n:Nat}{j:Int}{kk:IntKind} (h:Mx T1 T2 H v hs mx sg ls) (I:∀ s ∈ mx,s ∈ M) (hw:hs[p]? = some w) (Y:0<=j) (h1:j<=(((ls[p]?).getD []).length:Int))
  (hg:gd ops L ⟨some d,.slice t y (some lo) none none,ty,pos,aft,g⟩=some true) (hN:Nat.blt d x.N=true)
  (Z:∀ w,(underlying t).run x.P w=.ok (.slice e) w) (O:∀ w,(sizeOf e).run x.P w=.ok n w) (hn:n=aG.sz α) (hy:ev L y=some w) (J:ev L lo=some (.int kk j))
  (k:W x ops Q rest H M ((d,uA (aG.sz α) j.toNat w)::L)):
  W x ops Q (⟨some d,.slice t y (some lo) none none,ty,pos,aft,g⟩::rest) H M L:=by
 subst hn;obtain ⟨xs,hm,hr⟩:=h.get hw;exact JI (l:=(ls[p]?).getD []) (n:=j.toNat) (I _ hm) (by omega) hg hN Z O hy (by rw [J,Um Y]) k
theorem AR {pre:List bQ} (h:Mx T1 T2 H v hs mx sg ls) (I:Nat.blt 0 (aG.sz α)=true)
  (k:∀ H',H.le H'->aO H' v (rT sg ls)->W x ops Q rest H' (pre++M) L):W x ops Q rest H (pre++(mx++M)) L:=
 oc (Cr pre mx M) (F5 h I k)
theorem AP {e:Exit}{pre:List bQ} (h:Mx T1 T2 H v hs mx sg ls) (J:Nat.blt 0 (aG.sz α)=true)
  (k:∀ H',H.le H'->aO H' v (rT sg ls)->E x e Q H' (pre++M) L):E x e Q H (pre++(mx++M)) L:=by
 refine F0 (Cr pre mx M) ?_;intro a w I ht;obtain ⟨H',O,Y,Z⟩:=St.Ff ht h (by simpa [Sh] using J)
 exact k H' O Z a w I Y
theorem BH {t e:TypeId}{bytes:Nat}{y Z:Operand}{n:Int}{pre:List bQ} (T2:TypeId) (α:Type) [aG α]
  (hg:gd ops L ⟨some d,.makeSlice t y Z,ty,pos,aft,g⟩=some true) (hN:Nat.blt d x.N=true)
  (hT:x.P.underlying t=some (.slice e)) (hi:OF x.P e 1 bytes (.slice none 0 0)) (O:Nat.blt 0 bytes=true)
  (hy:ev L y=some (.int .i64 n)) (Y:ev L Z=some (.int .i64 n)) (h0:0<=n) (hb:n*bytes<=140737488355328)
  (k:∀ v' I,Mx e T2 H v' [.slice none 0 0] I (List.replicate n.toNat 0) ([[]]:List (List α))->W x ops Q rest H (pre++(I++M)) ((d,v')::L)):
  W x ops Q (⟨some d,.makeSlice t y Z,ty,pos,aft,g⟩::rest) H (pre++M) L:=by
 refine eT (α:=H9) (zs:=[.slice none 0 0]) (ze:=H9.mk) hg hN hT hi rfl rfl O rfl hy Y h0 hb ?_;intro v' J hr;refine zA T2 (aG.sz α) ?_;have hm:=Mx.make (α:=α) (T1:=e) (T2:=T2) hr;refine oc (M':=pre++((.row v' e 1 (List.replicate n.toNat 0).length J::[.row (.slice none 0 0) T2 (aG.sz α) 0 []])++M)) ?_ (k v' _ hm);have e1:(List.replicate n.toNat H9.mk).length=(List.replicate n.toNat 0).length:=by simp
 rw [e1];refine (List.Perm.swap _ _ _).trans ?_;exact (Cr pre [.row v' e 1 (List.replicate n.toNat 0).length J,.row (.slice none 0 0) T2 (aG.sz α) 0 []] M).symm
end
def O3:List Int:=[1,10,100,1000,10000,100000,1000000,10000000,100000000,1000000000,10000000000,100000000000,1000000000000,10000000000000,100000000000000,1000000000000000,10000000000000000,100000000000000000,1000000000000000000,10000000000000000000]
def P3:List Int:=[0,1,28,2,29,14,24,3,30,22,20,15,25,17,4,8,31,27,13,23,21,19,16,7,26,12,18,6,11,5,10,9]
def P4:List Int:=[0,1,56,2,57,49,28,3,61,58,42,50,38,29,17,4,62,47,59,36,45,43,51,22,53,39,33,30,24,18,12,5,63,55,48,27,60,41,37,16,46,35,44,21,52,32,23,11,54,26,40,15,34,20,31,10,25,14,19,9,13,8,7,6]
structure a_ where
 Name:Q1
 A:Q1
 B_:Q1
 wZ:Bool
 Open:Bool
 deriving DecidableEq
instance:aG a_ where
 sz:=5
 E H cs x:=cs=[.string (x.Name),.string (x.A),.string (x.B_),.bool (x.wZ),.bool (x.Open)]
 len h:=by obtain rfl:=h; rfl
 mono hle h:=by obtain rfl:=h; exact rfl
 one h:=by obtain rfl:=h; exact (bP rfl (bP rfl (bP rfl (bP rfl (bP rfl SN)))))
instance:Flat a_:=⟨λh=>h⟩
structure aR where
 Name:Q1
 pO:Q1
 To:Q1
 X:Int
 CW:Int
 Shift:Int
 tY:Int
 xV:Int
 DE:Int
 deriving DecidableEq
instance:aG aR where
 sz:=9
 E H cs x:=cs=[.string (x.Name),.string (x.pO),.string (x.To),.int .i64 (x.X),.int .i64 (x.CW),.int .i64 (x.Shift),.int .i64 (x.tY),.int .i64 (x.xV),.int .i64 (x.DE)]
 len h:=by obtain rfl:=h; rfl
 mono hle h:=by obtain rfl:=h; exact rfl
 one h:=by obtain rfl:=h; exact (bP rfl (bP rfl (bP rfl (bP rfl (bP rfl (bP rfl (bP rfl (bP rfl (bP rfl SN)))))))))
instance:Flat aR:=⟨λh=>h⟩
structure bK where
 Name:Q1
 Node:Q1
 iX:Int
 q9:Int
 C1:Int
 deriving DecidableEq
instance:aG bK where
 sz:=5
 E H cs x:=cs=[.string (x.Name),.string (x.Node),.int .i64 (x.iX),.int .i64 (x.q9),.int .i64 (x.C1)]
 len h:=by obtain rfl:=h; rfl
 mono hle h:=by obtain rfl:=h; exact rfl
 one h:=by obtain rfl:=h; exact (bP rfl (bP rfl (bP rfl (bP rfl (bP rfl SN)))))
instance:Flat bK:=⟨λh=>h⟩
structure aH where
 Name:Q1
 Node:Q1
 dA:Int
 deriving DecidableEq
instance:aG aH where
 sz:=3
 E H cs x:=cs=[.string (x.Name),.string (x.Node),.int .i64 (x.dA)]
 len h:=by obtain rfl:=h; rfl
 mono hle h:=by obtain rfl:=h; exact rfl
 one h:=by obtain rfl:=h; exact (bP rfl (bP rfl (bP rfl SN)))
instance:Flat aH:=⟨λh=>h⟩
structure cL where
 Name:Q1
 Node:Q1
 sK:Int
 Discharge:Int
 u6:Int
 deriving DecidableEq
instance:aG cL where
 sz:=5
 E H cs x:=cs=[.string (x.Name),.string (x.Node),.int .i64 (x.sK),.int .i64 (x.Discharge),.int .i64 (x.u6)]
 len h:=by obtain rfl:=h; rfl
 mono hle h:=by obtain rfl:=h; exact rfl
 one h:=by obtain rfl:=h; exact (bP rfl (bP rfl (bP rfl (bP rfl (bP rfl SN)))))
instance:Flat cL:=⟨λh=>h⟩
structure aF where
 bH:(List Q1)
 aN:(List a_)
 aK:(List aR)
 dS:(List bK)
 bF:(List aH)
 bY:(List cL)
 deriving DecidableEq
instance:aG aF where
 sz:=6
 E H cs x:=∃ v0 v1 v2 v3 v4 v5:Q2,cs=[v0,v1,v2,v3,v4,v5]/\aO H v0 x.bH/\aO H v1 x.aN/\aO H v2 x.aK/\aO H v3 x.dS/\aO H v4 x.bF/\aO H v5 x.bY
 len h:=by obtain ⟨v0,v1,v2,v3,v4,v5,rfl,h0,h1,h2,h3,h4,h5⟩:=h; rfl
 mono hle h:=by obtain ⟨v0,v1,v2,v3,v4,v5,rfl,h0,h1,h2,h3,h4,h5⟩:=h; exact ⟨v0,v1,v2,v3,v4,v5,rfl,h0.mono hle,h1.mono hle,h2.mono hle,h3.mono hle,h4.mono hle,h5.mono hle⟩
 one h:=by obtain ⟨v0,v1,v2,v3,v4,v5,rfl,h0,h1,h2,h3,h4,h5⟩:=h; exact (bP (aO.oW h0) (bP (aO.oW h1) (bP (aO.oW h2) (bP (aO.oW h3) (bP (aO.oW h4) (bP (aO.oW h5) SN))))))
structure bO where
 Kind:Int
 Name:Q1
 A:Int
 B_:Int
 deriving DecidableEq
instance:aG bO where
 sz:=4
 E H cs x:=cs=[.int .i64 (x.Kind),.string (x.Name),.int .i64 (x.A),.int .i64 (x.B_)]
 len h:=by obtain rfl:=h; rfl
 mono hle h:=by obtain rfl:=h; exact rfl
 one h:=by obtain rfl:=h; exact (bP rfl (bP rfl (bP rfl (bP rfl SN))))
instance:Flat bO:=⟨λh=>h⟩
structure bA where
 Close:Bool
 Switch:Q1
 xF:(List bO)
 deriving DecidableEq
instance:aG bA where
 sz:=3
 E H cs x:=∃ v2:Q2,cs=[.bool (x.Close),.string (x.Switch),v2]/\aO H v2 x.xF
 len h:=by obtain ⟨v2,rfl,h0⟩:=h; rfl
 mono hle h:=by obtain ⟨v2,rfl,h0⟩:=h; exact ⟨v2,rfl,h0.mono hle⟩
 one h:=by obtain ⟨v2,rfl,h0⟩:=h; exact (bP rfl (bP rfl (bP (aO.oW h0) SN)))
structure cM where
 bX:aF
 pG:(List bA)
 deriving DecidableEq
instance:aG cM where
 sz:=7
 E H cs x:=∃ v0 v1 v2 v3 v4 v5 v6:Q2,cs=[v0,v1,v2,v3,v4,v5,v6]/\aO H v0 x.bX.bH/\aO H v1 x.bX.aN/\aO H v2 x.bX.aK/\aO H v3 x.bX.dS/\aO H v4 x.bX.bF/\aO H v5 x.bX.bY/\aO H v6 x.pG
 len h:=by obtain ⟨v0,v1,v2,v3,v4,v5,v6,rfl,h0,h1,h2,h3,h4,h5,h6⟩:=h; rfl
 mono hle h:=by obtain ⟨v0,v1,v2,v3,v4,v5,v6,rfl,h0,h1,h2,h3,h4,h5,h6⟩:=h; exact ⟨v0,v1,v2,v3,v4,v5,v6,rfl,h0.mono hle,h1.mono hle,h2.mono hle,h3.mono hle,h4.mono hle,h5.mono hle,h6.mono hle⟩
 one h:=by obtain ⟨v0,v1,v2,v3,v4,v5,v6,rfl,h0,h1,h2,h3,h4,h5,h6⟩:=h; exact (bP (aO.oW h0) (bP (aO.oW h1) (bP (aO.oW h2) (bP (aO.oW h3) (bP (aO.oW h4) (bP (aO.oW h5) (bP (aO.oW h6) SN)))))))
structure aV where
 iB:Q1
 Name:Q1
 N:Int
 deriving DecidableEq
instance:aG aV where
 sz:=3
 E H cs x:=cs=[.string (x.iB),.string (x.Name),.int .i64 (x.N)]
 len h:=by obtain rfl:=h; rfl
 mono hle h:=by obtain rfl:=h; exact rfl
 one h:=by obtain rfl:=h; exact (bP rfl (bP rfl (bP rfl SN)))
instance:Flat aV:=⟨λh=>h⟩
structure aD where
 minus:Bool
 words:(List bT)
 deriving DecidableEq
instance:aG aD where
 sz:=2
 E H cs x:=∃ v1:Q2,cs=[.bool (x.minus),v1]/\aO H v1 x.words
 len h:=by obtain ⟨v1,rfl,h0⟩:=h; rfl
 mono hle h:=by obtain ⟨v1,rfl,h0⟩:=h; exact ⟨v1,rfl,h0.mono hle⟩
 one h:=by obtain ⟨v1,rfl,h0⟩:=h; exact (bP rfl (bP (aO.oW h0) SN))
structure aA where
 N:aD
 D:aD
 deriving DecidableEq
instance:aG aA where
 sz:=4
 E H cs x:=∃ v1 v3:Q2,cs=[.bool (x.N.minus),v1,.bool (x.D.minus),v3]/\aO H v1 x.N.words/\aO H v3 x.D.words
 len h:=by obtain ⟨v1,v3,rfl,h0,h1⟩:=h; rfl
 mono hle h:=by obtain ⟨v1,v3,rfl,h0,h1⟩:=h; exact ⟨v1,v3,rfl,h0.mono hle,h1.mono hle⟩
 one h:=by obtain ⟨v1,v3,rfl,h0,h1⟩:=h; exact (bP rfl (bP (aO.oW h0) (bP rfl (bP (aO.oW h1) SN))))
structure bS where
 kV:(List aR)
 mh:(List aA)
 sF:(List Int)
 over:(List Bool)
 time:Int
 deriving DecidableEq
instance:aG bS where
 sz:=5
 E H cs x:=∃ v0 v1 v2 v3:Q2,cs=[v0,v1,v2,v3,.int .i64 (x.time)]/\aO H v0 x.kV/\aO H v1 x.mh/\aO H v2 x.sF/\aO H v3 x.over
 len h:=by obtain ⟨v0,v1,v2,v3,rfl,h0,h1,h2,h3⟩:=h; rfl
 mono hle h:=by obtain ⟨v0,v1,v2,v3,rfl,h0,h1,h2,h3⟩:=h; exact ⟨v0,v1,v2,v3,rfl,h0.mono hle,h1.mono hle,h2.mono hle,h3.mono hle⟩
 one h:=by obtain ⟨v0,v1,v2,v3,rfl,h0,h1,h2,h3⟩:=h; exact (bP (aO.oW h0) (bP (aO.oW h1) (bP (aO.oW h2) (bP (aO.oW h3) (bP rfl SN)))))
structure cI where
 fU:(List Q1)
 iP:(List Q1)
 deriving DecidableEq
instance:aG cI where
 sz:=2
 E H cs x:=∃ v0 v1:Q2,cs=[v0,v1]/\aO H v0 x.fU/\aO H v1 x.iP
 len h:=by obtain ⟨v0,v1,rfl,h0,h1⟩:=h; rfl
 mono hle h:=by obtain ⟨v0,v1,rfl,h0,h1⟩:=h; exact ⟨v0,v1,rfl,h0.mono hle,h1.mono hle⟩
 one h:=by obtain ⟨v0,v1,rfl,h0,h1⟩:=h; exact (bP (aO.oW h0) (bP (aO.oW h1) SN))
structure aE where
 Time:Int
 Kind:Q1
 Name:Q1
 Value:Int
 deriving DecidableEq
instance:aG aE where
 sz:=4
 E H cs x:=cs=[.int .i64 (x.Time),.string (x.Kind),.string (x.Name),.int .i64 (x.Value)]
 len h:=by obtain rfl:=h; rfl
 mono hle h:=by obtain rfl:=h; exact rfl
 one h:=by obtain rfl:=h; exact (bP rfl (bP rfl (bP rfl (bP rfl SN))))
instance:Flat aE:=⟨λh=>h⟩
structure bG where
 jL:(List aE)
 deriving DecidableEq
instance:aG bG where
 sz:=1
 E H cs x:=∃ v0:Q2,cs=[v0]/\aO H v0 x.jL
 len h:=by obtain ⟨v0,rfl,h0⟩:=h; rfl
 mono hle h:=by obtain ⟨v0,rfl,h0⟩:=h; exact ⟨v0,rfl,h0.mono hle⟩
 one h:=by obtain ⟨v0,rfl,h0⟩:=h; exact (bP (aO.oW h0) SN)
structure aP where
 cH:aF
 rules:(List bA)
 on:(List Q1)
 held:(List Q1)
 watch:bS
 state:cI
 time:Int
 log:bG
 over:(List Q1)
 deriving DecidableEq
structure aS where
 seen:(List (Q1×Bool))
 nodes:(List Q1)
 deriving DecidableEq
structure aY where
 ql:(List Int)
 bR:(List Int)
 deriving DecidableEq
instance:aG aY where
 sz:=2
 E H cs x:=∃ v0 v1:Q2,cs=[v0,v1]/\aO H v0 x.ql/\aO H v1 x.bR
 len h:=by obtain ⟨v0,v1,rfl,h0,h1⟩:=h; rfl
 mono hle h:=by obtain ⟨v0,v1,rfl,h0,h1⟩:=h; exact ⟨v0,v1,rfl,h0.mono hle,h1.mono hle⟩
 one h:=by obtain ⟨v0,v1,rfl,h0,h1⟩:=h; exact (bP (aO.oW h0) (bP (aO.oW h1) SN))
structure b_ where
 a0:Int
 a1:Int
 deriving DecidableEq
instance:aG b_ where
 sz:=2
 E H cs x:=cs=[.int .i64 (x.a0),.int .i64 (x.a1)]
 len h:=by obtain rfl:=h; rfl
 mono hle h:=by obtain rfl:=h; exact rfl
 one h:=by obtain rfl:=h; exact (bP rfl (bP rfl SN))
instance:Flat b_:=⟨λh=>h⟩
structure bN where
 iX:Int
 q9:Int
 dA:Int
 deriving DecidableEq
instance:aG bN where
 sz:=3
 E H cs x:=cs=[.int .i64 (x.iX),.int .i64 (x.q9),.int .i64 (x.dA)]
 len h:=by obtain rfl:=h; rfl
 mono hle h:=by obtain rfl:=h; exact rfl
 one h:=by obtain rfl:=h; exact (bP rfl (bP rfl (bP rfl SN)))
instance:Flat bN:=⟨λh=>h⟩
structure aX where
 wh:aY
 pO:(List Int)
 To:(List Int)
 B_:(List aA)
 C:(List aA)
 qZ:(List Int)
 ry:(List (List aA))
 deriving DecidableEq
instance:aG aX where
 sz:=8
 E H cs x:=∃ v0 v1 v2 v3 v4 v5 v6 v7:Q2,cs=[v0,v1,v2,v3,v4,v5,v6,v7]/\aO H v0 x.wh.ql/\aO H v1 x.wh.bR/\aO H v2 x.pO/\aO H v3 x.To/\aO H v4 x.B_/\aO H v5 x.C/\aO H v6 x.qZ/\aO H v7 x.ry
 len h:=by obtain ⟨v0,v1,v2,v3,v4,v5,v6,v7,rfl,h0,h1,h2,h3,h4,h5,h6,h7⟩:=h; rfl
 mono hle h:=by obtain ⟨v0,v1,v2,v3,v4,v5,v6,v7,rfl,h0,h1,h2,h3,h4,h5,h6,h7⟩:=h; exact ⟨v0,v1,v2,v3,v4,v5,v6,v7,rfl,h0.mono hle,h1.mono hle,h2.mono hle,h3.mono hle,h4.mono hle,h5.mono hle,h6.mono hle,h7.mono hle⟩
 one h:=by obtain ⟨v0,v1,v2,v3,v4,v5,v6,v7,rfl,h0,h1,h2,h3,h4,h5,h6,h7⟩:=h; exact (bP (aO.oW h0) (bP (aO.oW h1) (bP (aO.oW h2) (bP (aO.oW h3) (bP (aO.oW h4) (bP (aO.oW h5) (bP (aO.oW h6) (bP (aO.oW h7) SN))))))))
structure cS where
 n:aF
 on:(List Q1)
 deriving DecidableEq
instance:aG cS where
 sz:=7
 E H cs x:=∃ v0 v1 v2 v3 v4 v5 v6:Q2,cs=[v0,v1,v2,v3,v4,v5,v6]/\aO H v0 x.n.bH/\aO H v1 x.n.aN/\aO H v2 x.n.aK/\aO H v3 x.n.dS/\aO H v4 x.n.bF/\aO H v5 x.n.bY/\aO H v6 x.on
 len h:=by obtain ⟨v0,v1,v2,v3,v4,v5,v6,rfl,h0,h1,h2,h3,h4,h5,h6⟩:=h; rfl
 mono hle h:=by obtain ⟨v0,v1,v2,v3,v4,v5,v6,rfl,h0,h1,h2,h3,h4,h5,h6⟩:=h; exact ⟨v0,v1,v2,v3,v4,v5,v6,rfl,h0.mono hle,h1.mono hle,h2.mono hle,h3.mono hle,h4.mono hle,h5.mono hle,h6.mono hle⟩
 one h:=by obtain ⟨v0,v1,v2,v3,v4,v5,v6,rfl,h0,h1,h2,h3,h4,h5,h6⟩:=h; exact (bP (aO.oW h0) (bP (aO.oW h1) (bP (aO.oW h2) (bP (aO.oW h3) (bP (aO.oW h4) (bP (aO.oW h5) (bP (aO.oW h6) SN)))))))
structure aM where
 Name:Q1
 yZ:Bool
 deriving DecidableEq
instance:aG aM where
 sz:=2
 E H cs x:=cs=[.string (x.Name),.bool (x.yZ)]
 len h:=by obtain rfl:=h; rfl
 mono hle h:=by obtain rfl:=h; exact rfl
 one h:=by obtain rfl:=h; exact (bP rfl (bP rfl SN))
instance:Flat aM:=⟨λh=>h⟩
structure bB where
 verb:Q1
 name:Bool
 n:Bool
 fG:Int
 dK:Int
 deriving DecidableEq
instance:aG bB where
 sz:=5
 E H cs x:=cs=[.string (x.verb),.bool (x.name),.bool (x.n),.int .i64 (x.fG),.int .i64 (x.dK)]
 len h:=by obtain rfl:=h; rfl
 mono hle h:=by obtain rfl:=h; exact rfl
 one h:=by obtain rfl:=h; exact (bP rfl (bP rfl (bP rfl (bP rfl (bP rfl SN)))))
instance:Flat bB:=⟨λh=>h⟩
structure lv where
 a0:bB
 a1:bB
 a2:bB
 a3:bB
 a4:bB
 a5:bB
 a6:bB
 a7:bB
 deriving DecidableEq
instance:aG lv where
 sz:=40
 E H cs x:=cs=[.string (x.a0.verb),.bool (x.a0.name),.bool (x.a0.n),.int .i64 (x.a0.fG),.int .i64 (x.a0.dK),.string (x.a1.verb),.bool (x.a1.name),.bool (x.a1.n),.int .i64 (x.a1.fG),.int .i64 (x.a1.dK),.string (x.a2.verb),.bool (x.a2.name),.bool (x.a2.n),.int .i64 (x.a2.fG),.int .i64 (x.a2.dK),.string (x.a3.verb),.bool (x.a3.name),.bool (x.a3.n),.int .i64 (x.a3.fG),.int .i64 (x.a3.dK),.string (x.a4.verb),.bool (x.a4.name),.bool (x.a4.n),.int .i64 (x.a4.fG),.int .i64 (x.a4.dK),.string (x.a5.verb),.bool (x.a5.name),.bool (x.a5.n),.int .i64 (x.a5.fG),.int .i64 (x.a5.dK),.string (x.a6.verb),.bool (x.a6.name),.bool (x.a6.n),.int .i64 (x.a6.fG),.int .i64 (x.a6.dK),.string (x.a7.verb),.bool (x.a7.name),.bool (x.a7.n),.int .i64 (x.a7.fG),.int .i64 (x.a7.dK)]
 len h:=by obtain rfl:=h; rfl
 mono hle h:=by obtain rfl:=h; exact rfl
 one h:=by obtain rfl:=h; exact (bP rfl (bP rfl (bP rfl (bP rfl (bP rfl (bP rfl (bP rfl (bP rfl (bP rfl (bP rfl (bP rfl (bP rfl (bP rfl (bP rfl (bP rfl (bP rfl (bP rfl (bP rfl (bP rfl (bP rfl (bP rfl (bP rfl (bP rfl (bP rfl (bP rfl (bP rfl (bP rfl (bP rfl (bP rfl (bP rfl (bP rfl (bP rfl (bP rfl (bP rfl (bP rfl (bP rfl (bP rfl (bP rfl (bP rfl (bP rfl SN))))))))))))))))))))))))))))))))))))))))
instance:Flat lv:=⟨λh=>h⟩
def nR (j:cM):Option (cM):=cK (0<=(min (j.bX.bF.length:Int) 3)/\(min (j.bX.bF.length:Int) 3)<=(j.bX.bF.length:Int)) (cK (0<=(min (j.bX.dS.length:Int) 4)/\(min (j.bX.dS.length:Int) 4)<=(j.bX.dS.length:Int)) (some (cM.mk (aF.mk j.bX.bH j.bX.aN j.bX.aK (sJ j.bX.dS 0 ((min (j.bX.dS.length:Int) 4:Int).toNat)) (sJ j.bX.bF 0 ((min (j.bX.bF.length:Int) 3:Int).toNat)) j.bX.bY) j.pG)))
def l_ (I:Nat) (j:U8) (o:Unit->Option (Bool)):Option (Bool):=if !(((decide (65<=j.n)) && (decide (j.n<=90))) || (((decide (0<(I:Int))) && (decide (48<=j.n))) && (decide (j.n<=57)))) then (some false) else (o ())
def bC (j:Q1):Option (Bool):=cK (j.size<=maxLen) (dM (λk y o n=>l_ k y n) (λ_=>some ((decide (1<=(j.size:Int))) && (decide ((j.size:Int)<=8)))) 0 (iY j) ())
def lN (I:(List Q1)) (J:Q1) (j:Nat) (o:Unit->Option (Int)):Option (Int):=idx I (j:Int) λR=>if decide (J=R) then (some (j:Int)) else (o ())
def bD (j:(List Q1)) (o:Q1):Option (Int):=jW (λk I n=>lN j o k n) (λ_=>some (-1)) ((j.length:Int):Int).toNat 0 ()
def bM (j:(List Q1)) (o:Q1):Option (Bool):=(bD j o).bind λI=>some (decide (0<=I))
def gX (j:aS) (name:Q1) (nodes:(List Q1)) (R:Nat) (I:Q1) (o:Unit->Option (Int×aS)):Option (Int×aS):=(bM j.nodes I).bind λJ=>if !J then (some (6,(aS.mk (vJ j.seen name true) j.nodes))) else (o ())
def cE (j:aS) (name:Q1) (nodes:(List Q1)):Option (Int×aS):=(bC name).bind λo=>if !o then (some (5,j)) else (if (rS j.seen name).getD false then (some (7,j)) else (dM (λk y R n=>gX j name nodes k y n) (λ_=>if decide ((nodes.length:Int)=2) then (idx nodes 0 λI=>idx nodes 1 λJ=>if decide (I=J) then (some (3,(aS.mk (vJ j.seen name true) j.nodes))) else (some (0,(aS.mk (vJ j.seen name true) j.nodes)))) else (some (0,(aS.mk (vJ j.seen name true) j.nodes)))) 0 nodes ()))
def bL (I:Int) (o:Int) (j:Int):Bool:=((decide (I<o)) || (decide (j<I)))
def iK (j:aR):Int:=if (((((bL j.X 1 10000) || (bL j.CW 500 1500)) || (bL j.Shift (-1000) 1000)) || (bL j.tY 0 100000)) || (bL j.xV j.tY 100000)) || (bL j.DE 0 200000) then 4 else 0
def aW (j:Int):Bool:=(!(bL j 0 100000))
def jH (I:aS) (U:Nat) (j:cL) (R:(List (Q1×Bool))) (J:(List (Q1×Bool))->Option (Int×aS)):Option (Int×aS):=(cE (aS.mk R I.nodes) j.Name ([j.Node])).bind λo=>if !decide (o.1=0) then (some (o.1,(aS.mk o.2.seen I.nodes))) else (if ((!(aW j.sK)) || (!(aW j.Discharge))) || (!(aW j.u6)) then (some (4,(aS.mk o.2.seen I.nodes))) else (J o.2.seen))
def jG (o:aS) (U:Nat) (I:aH) (R:(List (Q1×Bool))) (J:(List (Q1×Bool))->Option (Int×aS)):Option (Int×aS):=(cE (aS.mk R o.nodes) I.Name ([I.Node])).bind λj=>if !decide (j.1=0) then (some (j.1,(aS.mk j.2.seen o.nodes))) else (if !(aW I.dA) then (some (4,(aS.mk j.2.seen o.nodes))) else (J j.2.seen))
def jF (I:aS) (U:Nat) (j:bK) (R:(List (Q1×Bool))) (J:(List (Q1×Bool))->Option (Int×aS)):Option (Int×aS):=(cE (aS.mk R I.nodes) j.Name ([j.Node])).bind λo=>if !decide (o.1=0) then (some (o.1,(aS.mk o.2.seen I.nodes))) else (if ((!(aW j.iX)) || (bL j.q9 j.iX 100000)) || (!(aW j.C1)) then (some (4,(aS.mk o.2.seen I.nodes))) else (J o.2.seen))
def gA (j:aS) (o:aF):Option (Int×aS):=dM (λk y I n=>jF j k y I n) (λI=>dM (λk y J n=>jG j k y J n) (λJ=>dM (λk y R n=>jH j k y R n) (λR=>some (0,(aS.mk R j.nodes))) 0 o.bY J) 0 o.bF I) 0 o.dS j.seen
def nc (J:aF) (U:Nat) (j:aR) (R:(List (Q1×Bool))) (I:(List (Q1×Bool))->Option (Int)):Option (Int):=(cE (aS.mk R J.bH) j.Name ([j.pO,j.To])).bind λo=>if !decide (o.1=0) then (some o.1) else (if !decide ((iK j)=0) then (some (iK j)) else (I o.2.seen))
def na (J:aF) (U:Nat) (j:a_) (R:(List (Q1×Bool))) (I:(List (Q1×Bool))->Option (Int)):Option (Int):=(cE (aS.mk R J.bH) j.Name ([j.A,j.B_])).bind λo=>if !decide (o.1=0) then (some o.1) else (I o.2.seen)
def m_ (I:aF) (U:Nat) (J:Q1) (R:(List (Q1×Bool))) (o:(List (Q1×Bool))->Option (Int)):Option (Int):=(cE (aS.mk R I.bH) J []).bind λj=>if !decide (j.1=0) then (some j.1) else (o j.2.seen)
def bZ (j:aF):Option (Int):=if (((((decide (24<(j.bH.length:Int))) || (decide (32<(j.aN.length:Int)))) || (decide (24<(j.aK.length:Int)))) || (decide (10<(j.dS.length:Int)))) || (decide (12<(j.bF.length:Int)))) || (decide (4<(j.bY.length:Int))) then (some 2) else (dM (λk y o n=>m_ j k y o n) (λo=>dM (λk y I n=>na j k y I n) (λI=>dM (λk y J n=>nc j k y J n) (λJ=>(gA (aS.mk J j.bH) j).bind λR=>some R.1) 0 j.aK I) 0 j.aN o) 0 j.bH ([]:(List (Q1×Bool))))
def dT (j:List Int->Option (Int)) (o:List Int):Option (Int):=j o
def eB (o:List Int) (J:List Int->Option (Int)) (I:bO) (j:Nat) (R:Bool):Option (Int):=if R then (if decide ((j:Int)=0) then (some 3) else (if decide (I.B_=(i64.wrap ((j:Int)-1))) then (idx (o.set (((j:Int):Int).toNat) ((j:Int))) (i64.wrap ((j:Int)-1)) λU=>if decide (U=0) then (some 3) else (idx (o.set (((j:Int):Int).toNat) ((j:Int))) (i64.wrap ((j:Int)-1)) λO=>if !decide (I.A=(i64.wrap (O-1))) then (some 3) else (idx (o.set (((j:Int):Int).toNat) ((j:Int))) I.A λY=>idx (o.set (((j:Int):Int).toNat) ((j:Int))) (j:Int) λZ=>dT J ((o.set (((j:Int):Int).toNat) ((j:Int))).set (((j:Int):Int).toNat) Y)))) else (some 3))) else (if (!decide (I.A=0)) || (!decide (I.B_=0)) then (some 3) else (dT J (o.set (((j:Int):Int).toNat) ((j:Int)))))
def jQ (o:List Int) (J:List Int->Option (Int)) (I:bO) (j:Nat) (R:Bool):Option (Int):=if R then (if decide ((j:Int)=0) then (some 3) else (if decide (I.B_=(i64.wrap ((j:Int)-1))) then (idx (o.set (((j:Int):Int).toNat) ((j:Int))) (i64.wrap ((j:Int)-1)) λU=>if decide (U=0) then (some 3) else (idx (o.set (((j:Int):Int).toNat) ((j:Int))) (i64.wrap ((j:Int)-1)) λO=>if !decide (I.A=(i64.wrap (O-1))) then (some 3) else (idx (o.set (((j:Int):Int).toNat) ((j:Int))) I.A λY=>idx (o.set (((j:Int):Int).toNat) ((j:Int))) (j:Int) λZ=>dT J ((o.set (((j:Int):Int).toNat) ((j:Int))).set (((j:Int):Int).toNat) Y)))) else (some 3))) else (if (!decide (I.A=0)) || (!decide (I.B_=0)) then (some 3) else (dT J (o.set (((j:Int):Int).toNat) ((j:Int)))))
def od (j:Nat) (o:bO) (I:List Int) (J:List Int->Option (Int)):Option (Int):=if (decide (o.Kind<0)) || (decide (6<o.Kind)) then (some 1) else (if (decide (o.Kind=2)) || (decide (o.Kind=3)) then ((bC o.Name).bind λU=>if !U then (some 6) else (idx I (j:Int) λZ=>if decide (o.Kind=4) then (if ((decide ((j:Int)=0)) || (!decide (o.A=(i64.wrap ((j:Int)-1))))) || (!decide (o.B_=0)) then (some 3) else (idx (I.set (((j:Int):Int).toNat) ((j:Int))) o.A λR=>idx (I.set (((j:Int):Int).toNat) ((j:Int))) (j:Int) λY=>dT J ((I.set (((j:Int):Int).toNat) ((j:Int))).set (((j:Int):Int).toNat) R))) else (if decide (o.Kind=5) then (jQ I J o j (decide (o.Kind=5))) else (jQ I J o j (decide (o.Kind=6)))))) else (if !decide (o.Name=(⟨#[]⟩)) then (some 3) else (idx I (j:Int) λQO=>if decide (o.Kind=4) then (if ((decide ((j:Int)=0)) || (!decide (o.A=(i64.wrap ((j:Int)-1))))) || (!decide (o.B_=0)) then (some 3) else (idx (I.set (((j:Int):Int).toNat) ((j:Int))) o.A λO=>idx (I.set (((j:Int):Int).toNat) ((j:Int))) (j:Int) λQP=>dT J ((I.set (((j:Int):Int).toNat) ((j:Int))).set (((j:Int):Int).toNat) O))) else (if decide (o.Kind=5) then (eB I J o j (decide (o.Kind=5))) else (eB I J o j (decide (o.Kind=6)))))))
def jX (j:(List bO)):Option (Int):=if decide (40<(j.length:Int)) then (some 2) else (if decide ((j.length:Int)=0) then (some 3) else (cK (0<=(j.length:Int)/\(j.length:Int)*8<=140737488355328) (dM (λk y o n=>od k y o n) (λo=>idx o (i64.wrap ((j.length:Int)-1)) λI=>if !decide (I=0) then (some 3) else (some 0)) 0 j (List.replicate ((j.length:Int):Int).toNat (0:Int)))))
def rf (R:Nat) (j:bA) (I:Unit->Option (Int)):Option (Int):=(bC j.Switch).bind λJ=>if !J then (some 6) else ((jX j.xF).bind λo=>if !decide (o=0) then (some o) else (I ()))
def mE (j:(List bA)):Option (Int):=if decide (24<(j.length:Int)) then (some 2) else (dM (λk y o n=>rf k y n) (λ_=>some 0) 0 j ())
def uz (J:Nat) (j:aH) (o:List Q1) (I:List Q1->Option ((List Q1))):Option ((List Q1)):=cK ((o.length+([j.Name]).length)*16<=140737488355328) (I (o++([j.Name])))
def qi (o:aF):Option ((List Q1)):=dM (λk y j n=>uz k y j n) (λj=>some j) 0 o.bF ([]:List Q1)
def oS (o:aH) (j:Q1):Bool:=(decide (o.Name=j))
def dH (J:(List aH)) (j:Q1) (o:Nat) (I:Unit->Option (Int)):Option (Int):=idx J (o:Int) λR=>if (oS R j) then (some (o:Int)) else (I ())
def cO (o:(List aH)) (j:Q1):Option (Int):=jW (λk I n=>dH o j k n) (λ_=>some (-1)) ((o.length:Int):Int).toNat 0 ()
def cJ (o:(List aH)) (j:Q1):Option (Bool):=(cO o j).bind λI=>some (decide (0<=I))
def qb (J:aF) (on:(List Q1)) (j:Nat) (o:Q1) (I:Unit->Option (Int)):Option (Int):=(cJ J.bF o).bind λR=>if !R then (some 6) else (cK (0<=(j:Int)/\(j:Int)<=(on.length:Int)) ((bM (sJ on 0 (((j:Int):Int).toNat)) o).bind λU=>if U then (some 7) else (I ())))
def d_ (j:aF) (on:(List Q1)):Option (Int):=(bZ j).bind λo=>if !decide (o=0) then (some o) else (dM (λk y I n=>qb j on k y n) (λ_=>some 0) 0 on ())
def kC (j:aF):Option (aF):=cK (j.bH.length*16<=140737488355328) (cK (j.aN.length*56<=140737488355328) (cK (j.aK.length*96<=140737488355328) (cK (j.dS.length*56<=140737488355328) (cK (j.bF.length*40<=140737488355328) (cK (j.bY.length*56<=140737488355328) (some j))))))
def mc (o:aH) (j:(List Q1)):Option (Bool):=(bM j o.Name).bind λI=>some (!I)
def gT (J:(List aH)) (j:(List Q1)) (o:Nat) (I:Unit->Option (Int)):Option (Int):=idx J (o:Int) λR=>(mc R j).bind λU=>if U then (some (o:Int)) else (I ())
def eR (o:(List aH)) (j:(List Q1)):Option (Int):=jW (λk I n=>gT o j k n) (λ_=>some (-1)) ((o.length:Int):Int).toNat 0 ()
def dF (I:Int) (j:(List aH×Int×Int)->Option ((List aH))) (o:List aH) (J:Int):Option ((List aH)):=j (o,J,i64.wrap (I+1))
def gM (Z:(List Q1)) (j:List aH) (O:Int) (Y:Int) (o:(List aH×Int×Int)->Option ((List aH))):Option ((List aH)):=if decide (Y<(j.length:Int)) then (idx j Y λI=>(mc I Z).bind λJ=>if !J then (idx j O λR=>dF Y o (j.set ((O:Int).toNat) I) (i64.wrap (O+1))) else (dF Y o j O)) else (cK (0<=O/\O<=(j.length:Int)) (cK (0<=O/\O<=((j.take (O).toNat++List.replicate (j.length-(O).toNat) ((aH.mk (⟨#[]⟩) (⟨#[]⟩) 0):aH)).length:Int)) (some (sJ (j.take (O).toNat++List.replicate (j.length-(O).toNat) ((aH.mk (⟨#[]⟩) (⟨#[]⟩) 0):aH)) 0 ((O:Int).toNat)))))
def dQ (j:(List aH)) (J:(List Q1)):Option ((List aH)):=(eR j J).bind λo=>if decide (o=(-1)) then (some j) else (fX (λI n=>gM J I.1 I.2.1 I.2.2 n) eY (j,o,i64.wrap (o+1)))
def pA (o:aF) (on:(List Q1)):Option (aF):=(kC o).bind λj=>(dQ j.bF on).bind λI=>some (aF.mk j.bH j.aN j.aK j.dS I j.bY)
def nW (j:aF) (on:(List Q1)):Option (aF×Int):=(d_ j on).bind λo=>if !decide (o=0) then (some ((aF.mk ([]:List Q1) ([]:List a_) ([]:List aR) ([]:List bK) ([]:List aH) ([]:List cL)),o)) else ((pA j on).bind λI=>some (I,0))
def n6 (j:(List b_×List Int)->Option ((List b_)×(List Int))) (o:List b_) (I:List Int):Option ((List b_)×(List Int)):=j (o,I)
def sC (U:aF) (j:Bool) (O:Nat) (o:a_) (I:List b_) (J:List Int) (R:(List b_×List Int)->Option ((List b_)×(List Int))):Option ((List b_)×(List Int)):=if decide (o.Open=j) then ((bD U.bH o.A).bind λY=>(bD U.bH o.B_).bind λZ=>cK ((I.length+([(b_.mk Y Z)]).length)*16<=140737488355328) (cK ((J.length+([((O:Int))]:List Int).length)*8<=140737488355328) (n6 R (I++([(b_.mk Y Z)])) (J++([((O:Int))]:List Int))))) else (n6 R I J)
def qC (I:aF) (o:Bool):Option ((List b_)×(List Int)):=dM (λk y j n=>sC I o k y j.1 j.2 n) (λj=>some (j.1,j.2)) 0 I.aN (([]:List b_),([]:List Int))
def tH (o:Int) (J:Nat) (j:b_) (I:Unit->Option (Int)):Option (Int):=if decide (j.a0<0) then (some 4) else (if decide (o<=j.a0) then (some 4) else (if decide (j.a1<0) then (some 4) else (if decide (o<=j.a1) then (some 4) else (I ()))))
def rY (j:Int) (o:(List b_)):Option (Int):=if ((decide (j<0)) || (decide (24<j))) || (decide (64<(o.length:Int))) then (some 2) else (dM (λk y I n=>tH j k y n) (λ_=>some 0) 0 o ())
def mJ (j:Int) (o:Int):Int×Int:=((u64.wrap ((u64.wrap ((u64.wrap ((ot .u64 j 32)*(ot .u64 o 32)))+(ot .u64 (u64.wrap ((u64.wrap ((ot .u64 j 32)*(u64.wrap ((BitVec.ofInt (u64).bits o &&& BitVec.ofInt (u64).bits 4294967295).toNat))))+(ot .u64 (u64.wrap ((u64.wrap ((BitVec.ofInt (u64).bits j &&& BitVec.ofInt (u64).bits 4294967295).toNat))*(u64.wrap ((BitVec.ofInt (u64).bits o &&& BitVec.ofInt (u64).bits 4294967295).toNat)))) 32))) 32)))+(ot .u64 (u64.wrap ((u64.wrap ((BitVec.ofInt (u64).bits (u64.wrap ((u64.wrap ((ot .u64 j 32)*(u64.wrap ((BitVec.ofInt (u64).bits o &&& BitVec.ofInt (u64).bits 4294967295).toNat))))+(ot .u64 (u64.wrap ((u64.wrap ((BitVec.ofInt (u64).bits j &&& BitVec.ofInt (u64).bits 4294967295).toNat))*(u64.wrap ((BitVec.ofInt (u64).bits o &&& BitVec.ofInt (u64).bits 4294967295).toNat)))) 32))) &&& BitVec.ofInt (u64).bits 4294967295).toNat))+(u64.wrap ((u64.wrap ((BitVec.ofInt (u64).bits j &&& BitVec.ofInt (u64).bits 4294967295).toNat))*(ot .u64 o 32))))) 32))),(u64.wrap (j*o)))
def sj (j:Int) (o:Int):Int×Int:=((((mJ j o)).1),(((mJ j o)).2))
def jU (j:(List Int×Int)->Option ((List Int))) (o:List Int) (I:Int):Option ((List Int)):=j (o,I)
def eD (j:(List Int×List Int)->Option ((List Int))) (o:List Int) (I:List Int):Option ((List Int)):=j (o,I)
def qQ (O:Int) (U:Int) (o:Int) (Y:Nat) (j:b_) (I:List Int) (J:List Int) (R:(List Int×List Int)->Option ((List Int))):Option ((List Int)):=if decide ((Y:Int)=O) then (eD R I J) else (if decide (j.a0=o) then (idx I (i64.wrap ((i64.wrap (j.a0+j.a1))-o)) λZ=>if decide (Z<0) then (idx I (i64.wrap ((i64.wrap (j.a0+j.a1))-o)) λQO=>cK ((J.length+([(i64.wrap ((i64.wrap (j.a0+j.a1))-o))]:List Int).length)*8<=140737488355328) (eD R (I.set ((i64.wrap ((i64.wrap (j.a0+j.a1))-o):Int).toNat) U) (J++([(i64.wrap ((i64.wrap (j.a0+j.a1))-o))]:List Int)))) else (eD R I J)) else (if !decide (j.a1=o) then (eD R I J) else (idx I (i64.wrap ((i64.wrap (j.a0+j.a1))-o)) λQN=>if decide (QN<0) then (idx I (i64.wrap ((i64.wrap (j.a0+j.a1))-o)) λQP=>cK ((J.length+([(i64.wrap ((i64.wrap (j.a0+j.a1))-o))]:List Int).length)*8<=140737488355328) (eD R (I.set ((i64.wrap ((i64.wrap (j.a0+j.a1))-o):Int).toNat) U) (J++([(i64.wrap ((i64.wrap (j.a0+j.a1))-o))]:List Int)))) else (eD R I J))))
def qP (Z:(List b_)) (O:Int) (I:Int) (R:(List Int×Int)->Option ((List Int))) (J:List Int) (j:List Int) (U:(List Int×List Int)->Option ((List Int))):Option ((List Int)):=if decide (0<(j.length:Int)) then (idx j 0 λY=>cK (0<=1/\1<=(j.length:Int)) (dM (λk y o n=>qQ O I Y k y o.1 o.2 n) (λo=>U (o.1,o.2)) 0 Z (J,(sJ j (1:Int).toNat j.length)))) else (jU R J (i64.wrap (I+1)))
def qO (Y:(List b_)) (O:Int) (I:Nat) (j:List Int) (o:Int) (J:(List Int×Int)->Option ((List Int))):Option ((List Int)):=idx j (I:Int) λU=>if decide (0<=U) then (jU J j o) else (idx j (I:Int) λZ=>fX (λR n=>qP Y O o J R.1 R.2 n) eY ((j.set (((I:Int):Int).toNat) o),([((I:Int))]:List Int)))
def o_ (o:Int) (I:(List b_)) (J:Int):Option ((List Int)):=cK (([((-1))]:List Int).length=1/\0<=o/\o*8<=140737488355328) (cK (o<=9223372036854775807) (jW (λk j n=>qO I J k j.1 j.2 n) (λj=>some j.1) (o:Int).toNat 0 ((GU ([((-1))]:List Int) o),0)))
def jB (j:Int) (o:(List b_)):Option ((List Int)×Int):=(rY j o).bind λI=>if !decide (I=0) then (some (([]:List Int),I)) else ((o_ j o (-1)).bind λJ=>some (J,0))
def oB (j:aF):Option ((List Int)):=(qC j false).bind λo=>(jB (j.bH.length:Int) o.1).bind λI=>some I.1
def s7 (j:aF) (o:((List Int))) (QO:Nat) (I:aR) (J:List b_) (O:List b_->Option (aY)):Option (aY):=(bD j.bH I.pO).bind λY=>idx o Y λR=>(bD j.bH I.To).bind λZ=>idx o Z λU=>cK ((J.length+([(b_.mk R U)]).length)*16<=140737488355328) (O (J++([(b_.mk R U)])))
def s6 (I:Nat) (o:Int) (J:Int) (j:Int->Option (aY)):Option (aY):=j (max J (i64.wrap (o+1)))
def dY (j:aF):Option (aY):=(oB j).bind λo=>dM (λk y I n=>s6 k y I n) (λI=>dM (λk y J n=>s7 j o k y J n) (λJ=>(jB I J).bind λR=>some (aY.mk o R.1)) 0 j.aK ([]:List b_)) 0 o 0
def rK (I:Nat) (o:Int) (J:Int) (j:Int->Option (Int)):Option (Int):=j (max J (i64.wrap (o+1)))
def lZ (o:aF):Option (Int):=(dY o).bind λI=>dM (λk y j n=>rK k y j n) (λj=>some j) 0 I.bR 0
def mP (o:aF) (j:aY) (O:Q1):Option (Int):=(bD o.bH O).bind λI=>idx j.ql I λJ=>idx j.bR J λR=>some R
def sS (U:aF) (O:(aY)) (Z:Nat) (I:aH) (j:List bN) (R:List bN->Option ((List bN))):Option ((List bN)):=(mP U O I.Node).bind λo=>idx j o λY=>idx j o λJ=>R (j.set ((o:Int).toNat) (bN.mk J.iX J.q9 (i64.wrap (Y.dA+I.dA))))
def sR (U:aF) (O:(aY)) (Y:Nat) (o:bK) (J:List bN) (R:List bN->Option ((List bN))):Option ((List bN)):=(mP U O o.Node).bind λI=>idx J I λj=>R ((J.set ((I:Int).toNat) (bN.mk (i64.wrap (j.iX+o.iX)) j.q9 j.dA)).set ((I:Int).toNat) (bN.mk (i64.wrap (j.iX+o.iX)) (i64.wrap (j.q9+o.q9)) j.dA))
def ri (j:aF):Option ((List bN)):=(dY j).bind λR=>(lZ j).bind λo=>cK (0<=o/\o*24<=140737488355328) (dM (λk y I n=>sR j R k y I n) (λI=>dM (λk y J n=>sS j R k y J n) (λJ=>some J) 0 j.bF I) 0 j.dS (List.replicate (o:Int).toNat ((bN.mk 0 0 0):bN)))
def oG (j:Int):Bool:=(decide (0<j))
def fN (I:(List Int)) (j:Nat) (o:Unit->Option (Int)):Option (Int):=idx I (j:Int) λJ=>if (oG J) then (some (j:Int)) else (o ())
def eO (j:(List Int)):Option (Int):=jW (λk o n=>fN j k n) (λ_=>some (-1)) ((j.length:Int):Int).toNat 0 ()
def dL (j:(List Int)):Option (Bool):=(eO j).bind λo=>some (decide (0<=o))
def l7 (I:List Int) (j:List Int) (o:(List Int×List Int)->Option ((List Int)×Int)) (J:(Int)) (R:Int) (O:Int):Option ((List Int)×Int):=cK ((j.length+([O]:List Int).length)*8<=140737488355328) (o ((I.set ((J:Int).toNat) (i64.wrap (R-O))),(j++([O]:List Int))))
def sr (O:aF) (Y:(aY)) (Z:Nat) (o:bK) (I:List Int) (U:List Int) (J:(List Int×List Int)->Option ((List Int)×Int)):Option ((List Int)×Int):=(mP O Y o.Node).bind λR=>idx I R λj=>if decide (o.iX<=j) then (l7 I U J R j (min o.q9 j)) else (l7 I U J R j 0)
def sq (J:Nat) (j:bN) (o:List Int) (I:List Int->Option ((List Int)×Int)):Option ((List Int)×Int):=cK ((o.length+([j.dA]:List Int).length)*8<=140737488355328) (I (o++([j.dA]:List Int)))
def mO (j:aF):Option ((List Int)×Int):=(bZ j).bind λJ=>if !decide (J=0) then (some (([]:List Int),J)) else ((dY j).bind λR=>(ri j).bind λU=>dM (λk y I n=>sq k y I n) (λI=>dM (λk y o n=>sr j R k y o.1 o.2 n) (λo=>(dL o.1).bind λO=>if O then (some (([]:List Int),14)) else (some (o.2,0))) 0 j.dS (I,([]:List Int))) 0 U ([]:List Int))
def tG (I:Nat) (j:Int) (o:Unit->Option ((List Int)×Int)):Option ((List Int)×Int):=if (decide (j<(-100000))) || (decide (100000<j)) then (some (([]:List Int),4)) else (o ())
def tF (R:aF) (O:Nat) (I:aH) (j:List Int) (J:List Int->Option ((List Int)×Int)):Option ((List Int)×Int):=(bD R.bH I.Node).bind λo=>idx j o λU=>idx j o λY=>J (j.set ((o:Int).toNat) (i64.wrap (U-I.dA)))
def tE (U:aF) (O:(List Int)) (j:Nat) (o:cL) (I:List Int) (R:List Int->Option ((List Int)×Int)):Option ((List Int)×Int):=idx O (j:Int) λY=>if decide (Y<(i64.wrap (0-o.sK))) then (some (([]:List Int),17)) else (idx O (j:Int) λZ=>if decide (o.Discharge<Z) then (some (([]:List Int),17)) else ((bD U.bH o.Node).bind λJ=>idx I J λQN=>idx O (j:Int) λQO=>idx I J λQP=>R (I.set ((J:Int).toNat) (i64.wrap (QN+QO)))))
def tD (Y:aF) (O:(List Int)) (o:Nat) (I:bK) (j:List Int) (J:List Int->Option ((List Int)×Int)):Option ((List Int)×Int):=idx O (o:Int) λZ=>if decide (Z=0) then ((bD Y.bH I.Node).bind λR=>idx j R λQN=>idx O (o:Int) λQO=>idx j R λQT=>J (j.set ((R:Int).toNat) (i64.wrap (QN+QO)))) else (idx O (o:Int) λQP=>if decide (QP<I.iX) then (some (([]:List Int),17)) else (idx O (o:Int) λQQ=>if decide (I.q9<QQ) then (some (([]:List Int),17)) else ((bD Y.bH I.Node).bind λU=>idx j U λQR=>idx O (o:Int) λQS=>idx j U λQU=>J (j.set ((U:Int).toNat) (i64.wrap (QR+QS))))))
def rX (j:aF) (Y:(List Int)) (O:(List Int)):Option ((List Int)×Int):=(bZ j).bind λR=>if !decide (R=0) then (some (([]:List Int),R)) else (if (!decide ((Y.length:Int)=(j.dS.length:Int))) || (!decide ((O.length:Int)=(j.bY.length:Int))) then (some (([]:List Int),3)) else (cK (0<=(j.bH.length:Int)/\(j.bH.length:Int)*8<=140737488355328) (dM (λk y I n=>tD j Y k y I n) (λI=>dM (λk y J n=>tE j O k y J n) (λJ=>dM (λk y o n=>tF j k y o n) (λo=>dM (λk y U n=>tG k y n) (λ_=>some (o,0)) 0 o ()) 0 j.bF J) 0 j.bY I) 0 j.dS (List.replicate ((j.bH.length:Int):Int).toNat (0:Int)))))
def f_ (j:aF):Option ((List Int)×Int):=(mO j).bind λo=>if !decide (o.2=0) then (some (([]:List Int),o.2)) else (cK (0<=(j.bY.length:Int)/\(j.bY.length:Int)*8<=140737488355328) ((rX j o.1 (List.replicate ((j.bY.length:Int):Int).toNat (0:Int))).bind λI=>some (I.1,I.2)))
def ur (o:(aY)) (U:Nat) (j:Int) (I:(List (Int×Int))) (R:(List (Int×Int))->Option (Int)):Option (Int):=if (decide (j<(-100000))) || (decide (100000<j)) then (some 4) else (idx o.ql (U:Int) λO=>idx o.bR O λJ=>R (vJ I J (i64.wrap (((rS I J).getD (0:Int))+j))))
def pS (j:aF) (O:(List Int)):Option (Int):=(bZ j).bind λI=>if !decide (I=0) then (some I) else (if !decide ((O.length:Int)=(j.bH.length:Int)) then (some 3) else ((dY j).bind λJ=>dM (λk y o n=>ur J k y o n) (λo=>if (o.any (λR=>!decide (R.2=0))) then (some 14) else (some 0)) 0 O ([]:(List (Int×Int)))))
def oz (minus:Bool) (j:(List bT)):Option (aD):=if minus then (some (aD.mk (decide (0<(j.length:Int))) j)) else (some (aD.mk false j))
def uw (minus:Bool) (j:(List bT)) (o:(List bT)->Option (aD)):Option (aD):=if decide (0<(j.length:Int)) then (idx j (i64.wrap ((j.length:Int)-1)) λI=>if decide (I.n=0) then (cK (0<=(i64.wrap ((j.length:Int)-1))/\(i64.wrap ((j.length:Int)-1))<=(j.length:Int)) (o (sJ j 0 ((i64.wrap ((j.length:Int)-1):Int).toNat)))) else (oz minus j)) else (oz minus j)
def iJ (minus:Bool) (j:(List bT)):Option (aD):=fX (λo n=>uw minus o n) eY j
def qF (j:Int) (I:Int):Option (aD):=(iJ (decide (j<0)) ([⟨u32.wrap (I)⟩,⟨u32.wrap (ot .u64 I 32)⟩]:List bT)).bind λo=>some o
def mQ (j:Int):Option (aD):=if decide (j<0) then (qF j (u64.wrap (0-(u64.wrap (j))))) else (qF j (u64.wrap (j)))
def lI (j:aD):Option (aD):=(iJ (!j.minus) j.words).bind λo=>some o
def eV (j:aD):Int:=if decide ((j.words.length:Int)=0) then 0 else (if j.minus then (-1) else 1)
def rN (j:(List bT)) (o:(List bT)) (O:Int) (I:Int->Option (Int)):Option (Int):=if decide (0<=O) then (idx j O λJ=>idx o O λR=>if !decide (J.n=R.n) then (idx j O λU=>idx o O λY=>if decide (U.n<Y.n) then (some (-1)) else (some 1)) else (I (i64.wrap (O-1)))) else (some 0)
def nH (j:(List bT)) (o:(List bT)):Option (Int):=if !decide ((j.length:Int)=(o.length:Int)) then (some (i64.wrap ((j.length:Int)-(o.length:Int)))) else (fX (λI n=>rN j o I n) eY (i64.wrap ((j.length:Int)-1)))
def rO (R:(List bT)) (j:Int) (o:List bT) (Y:Int) (O:Int) (J:(List bT×Int×Int)->Option ((List bT)×Int)):Option ((List bT)×Int):=if decide (0<=O) then (idx R O λI=>cK ((u64.wrap (j))≠0) (idx o O λU=>cK ((u64.wrap (j))≠0) (J ((o.set ((O:Int).toNat) ⟨u32.wrap (u64.wrap (Int.tdiv (u64.wrap ((BitVec.ofInt (u64).bits (uj .u64 Y 32) ||| BitVec.ofInt (u64).bits (u64.wrap (I.n))).toNat)) (u64.wrap (j))))⟩),Int.tmod (u64.wrap ((BitVec.ofInt (u64).bits (uj .u64 Y 32) ||| BitVec.ofInt (u64).bits (u64.wrap (I.n))).toNat)) (u64.wrap (j)),i64.wrap (O-1))))) else (some (o,(u32.wrap (Y))))
def nJ (j:(List bT)) (I:Int):Option ((List bT)×Int):=cK (0<=(j.length:Int)/\(j.length:Int)*4<=140737488355328) (fX (λo n=>rO j I o.1 o.2.1 o.2.2 n) eY ((List.replicate ((j.length:Int):Int).toNat (⟨0⟩:bT)),0,i64.wrap ((j.length:Int)-1)))
def kN (I:Int) (J:Int):Option (Int):=idx (iY (⟨#[0,1,2,2,3,3,3,3,4,4,4,4,4,4,4,4,5,5,5,5,5,5,5,5,5,5,5,5,5,5,5,5,6,6,6,6,6,6,6,6,6,6,6,6,6,6,6,6,6,6,6,6,6,6,6,6,6,6,6,6,6,6,6,6,7,7,7,7,7,7,7,7,7,7,7,7,7,7,7,7,7,7,7,7,7,7,7,7,7,7,7,7,7,7,7,7,7,7,7,7,7,7,7,7,7,7,7,7,7,7,7,7,7,7,7,7,7,7,7,7,7,7,7,7,7,7,7,7,8,8,8,8,8,8,8,8,8,8,8,8,8,8,8,8,8,8,8,8,8,8,8,8,8,8,8,8,8,8,8,8,8,8,8,8,8,8,8,8,8,8,8,8,8,8,8,8,8,8,8,8,8,8,8,8,8,8,8,8,8,8,8,8,8,8,8,8,8,8,8,8,8,8,8,8,8,8,8,8,8,8,8,8,8,8,8,8,8,8,8,8,8,8,8,8,8,8,8,8,8,8,8,8,8,8,8,8,8,8,8,8,8,8,8,8,8,8,8,8,8,8,8,8,8,8,8,8]⟩)) (u8.wrap (I)) λj=>some (i64.wrap (J+(i64.wrap (j.n))))
def kO (I:Int) (J:Int):Option (Int):=if decide (256<=I) then (kN (ot .u32 I 8) (i64.wrap (J+8))) else (kN I J)
def qV (j:Int):Option (Int):=if decide (65536<=j) then (kO (ot .u32 j 16) 16) else (kO j 0)
def jE (j:Int):Option (Int):=(qV j).bind λo=>some (i64.wrap (32-o))
def sA (j:Int) (o:Nat) (I:bT) (J:List bT) (O:Int) (R:(List bT×Int)->Option ((List bT))):Option ((List bT)):=cK (0<=j) (idx J (o:Int) λU=>R ((J.set (((o:Int):Int).toNat) ⟨u32.wrap (u64.wrap ((BitVec.ofInt (u64).bits O ||| BitVec.ofInt (u64).bits (uj .u64 (u64.wrap (I.n)) j)).toNat))⟩),ot .u64 (u64.wrap ((BitVec.ofInt (u64).bits O ||| BitVec.ofInt (u64).bits (uj .u64 (u64.wrap (I.n)) j)).toNat)) 32))
def oA (j:(List bT)) (I:Int):Option ((List bT)):=cK (0<=(i64.wrap ((j.length:Int)+1))/\(i64.wrap ((j.length:Int)+1))*4<=140737488355328) (dM (λk y o n=>sA I k y o.1 o.2 n) (λo=>idx o.1 (j.length:Int) λJ=>some (o.1.set (((j.length:Int):Int).toNat) ⟨u32.wrap (o.2)⟩)) 0 j ((List.replicate (i64.wrap ((j.length:Int)+1):Int).toNat (⟨0⟩:bT)),0))
def kM (o:List bT) (j:Int) (I:(List bT×List bT×Int)->Option ((List bT)×(List bT))) (J:List bT) (R:Int):Option ((List bT)×(List bT)):=idx o j λU=>I ((o.set ((j:Int).toNat) ⟨u32.wrap (R)⟩),J,i64.wrap (j-1))
def oL (Y:(List bT)) (Z:((List bT))) (o:Int) (j:Nat) (I:List bT) (J:Int) (O:(List bT×Int)->Option ((List bT)×(List bT))):Option ((List bT)×(List bT)):=idx I (i64.wrap ((j:Int)+o)) λR=>idx (sJ Z 0 (((Y.length:Int):Int).toNat)) (j:Int) λU=>idx I (i64.wrap ((j:Int)+o)) λQO=>O ((I.set ((i64.wrap ((j:Int)+o):Int).toNat) ⟨u32.wrap (u64.wrap (J+(u64.wrap ((u64.wrap (R.n))+(u64.wrap (U.n))))))⟩),ot .u64 (u64.wrap (J+(u64.wrap ((u64.wrap (R.n))+(u64.wrap (U.n)))))) 32)
def oK (QO:(List bT)) (QP:((List bT))) (o:Int) (I:Int) (j:Nat) (J:List bT) (O:Int) (R:Int) (Z:(List bT×Int×Int)->Option ((List bT)×(List bT))):Option ((List bT)×(List bT)):=idx (sJ QP 0 (((QO.length:Int):Int).toNat)) (j:Int) λU=>idx J (i64.wrap ((j:Int)+o)) λY=>idx J (i64.wrap ((j:Int)+o)) λQQ=>Z ((J.set ((i64.wrap ((j:Int)+o):Int).toNat) ⟨u32.wrap (i64.wrap (O+(i64.wrap ((i64.wrap (Y.n))-(i64.wrap (u64.wrap ((BitVec.ofInt (u64).bits (u64.wrap (R+(u64.wrap (I*(u64.wrap (U.n)))))) &&& BitVec.ofInt (u64).bits 4294967295).toNat)))))))⟩),ot .i64 (i64.wrap (O+(i64.wrap ((i64.wrap (Y.n))-(i64.wrap (u64.wrap ((BitVec.ofInt (u64).bits (u64.wrap (R+(u64.wrap (I*(u64.wrap (U.n)))))) &&& BitVec.ofInt (u64).bits 4294967295).toNat))))))) 32,ot .u64 (u64.wrap (R+(u64.wrap (I*(u64.wrap (U.n)))))) 32)
def fI (I:(List bT)) (Z:((List bT))) (Y:List bT) (QO:List bT) (o:Int) (O:(List bT×List bT×Int)->Option ((List bT)×(List bT))) (R:Int):Option ((List bT)×(List bT)):=jW (λk j n=>oK I Z o R k j.1 j.2.1 j.2.2 n) (λj=>idx j.1 (i64.wrap (o+(I.length:Int))) λU=>idx j.1 (i64.wrap (o+(I.length:Int))) λQQ=>if decide ((i64.wrap (j.2.1+(i64.wrap ((i64.wrap (U.n))-(i64.wrap (j.2.2))))))<0) then (jW (λk J n=>oL I Z o k J.1 J.2 n) (λJ=>idx J.1 (i64.wrap (o+(I.length:Int))) λQP=>idx J.1 (i64.wrap (o+(I.length:Int))) λQR=>kM Y o O (J.1.set ((i64.wrap (o+(I.length:Int)):Int).toNat) ⟨u32.wrap (QP.n+(u32.wrap (J.2)))⟩) (u64.wrap (R-1))) ((I.length:Int):Int).toNat 0 ((j.1.set ((i64.wrap (o+(I.length:Int)):Int).toNat) ⟨u32.wrap (i64.wrap (j.2.1+(i64.wrap ((i64.wrap (U.n))-(i64.wrap (j.2.2))))))⟩),0)) else (kM Y o O (j.1.set ((i64.wrap (o+(I.length:Int)):Int).toNat) ⟨u32.wrap (i64.wrap (j.2.1+(i64.wrap ((i64.wrap (U.n))-(i64.wrap (j.2.2))))))⟩) R)) ((I.length:Int):Int).toNat 0 (QO,0,0)
def oM (j:(List bT)) (J:((List bT))) (Y:List bT) (R:List bT) (U:Int) (O:(List bT×List bT×Int)->Option ((List bT)×(List bT))) (o:Int) (I:Int) (Z:(Int×Int)->Option ((List bT)×(List bT))):Option ((List bT)×(List bT)):=if decide (4294967296<=o) then (idx (sJ J 0 (((j.length:Int):Int).toNat)) (i64.wrap ((j.length:Int)-1)) λQO=>if decide (4294967296<=(u64.wrap (I+(u64.wrap (QO.n))))) then (fI j J Y R U O (u64.wrap (o-1))) else (Z (u64.wrap (o-1),u64.wrap (I+(u64.wrap (QO.n)))))) else (idx (sJ J 0 (((j.length:Int):Int).toNat)) (i64.wrap ((j.length:Int)-2)) λQQ=>idx R (i64.wrap ((i64.wrap (U+(j.length:Int)))-2)) λQR=>if decide ((u64.wrap ((BitVec.ofInt (u64).bits (uj .u64 I 32) ||| BitVec.ofInt (u64).bits (u64.wrap (QR.n))).toNat))<(u64.wrap (o*(u64.wrap (QQ.n))))) then (idx (sJ J 0 (((j.length:Int):Int).toNat)) (i64.wrap ((j.length:Int)-1)) λQP=>if decide (4294967296<=(u64.wrap (I+(u64.wrap (QP.n))))) then (fI j J Y R U O (u64.wrap (o-1))) else (Z (u64.wrap (o-1),u64.wrap (I+(u64.wrap (QP.n)))))) else (fI j J Y R U O o))
def mq (R:(Int)) (o:List bT) (j:Nat) (I:List bT) (J:List bT->Option ((List bT)×(List bT))):Option ((List bT)×(List bT)):=idx o (i64.wrap ((j:Int)+1)) λU=>idx o (j:Int) λO=>cK (0<=R) (idx I (j:Int) λY=>J (I.set (((j:Int):Int).toNat) ⟨u32.wrap (ot .u64 (u64.wrap ((BitVec.ofInt (u64).bits (uj .u64 (u64.wrap (U.n)) 32) ||| BitVec.ofInt (u64).bits (u64.wrap (O.n))).toNat)) R)⟩))
def oJ (j:(List bT)) (QR:(Int)) (R:((List bT))) (U:List bT) (o:List bT) (I:Int) (QQ:(List bT×List bT×Int)->Option ((List bT)×(List bT))):Option ((List bT)×(List bT)):=if decide (0<=I) then (idx o (i64.wrap (I+(j.length:Int))) λO=>idx o (i64.wrap ((i64.wrap (I+(j.length:Int)))-1)) λY=>idx (sJ R 0 (((j.length:Int):Int).toNat)) (i64.wrap ((j.length:Int)-1)) λZ=>cK ((u64.wrap (Z.n))≠0) (idx (sJ R 0 (((j.length:Int):Int).toNat)) (i64.wrap ((j.length:Int)-1)) λQO=>cK ((u64.wrap (QO.n))≠0) (fX (λQP n=>oM j R U o I QQ QP.1 QP.2 n) eY (u64.wrap (Int.tdiv (u64.wrap ((BitVec.ofInt (u64).bits (uj .u64 (u64.wrap (O.n)) 32) ||| BitVec.ofInt (u64).bits (u64.wrap (Y.n))).toNat)) (u64.wrap (Z.n))),Int.tmod (u64.wrap ((BitVec.ofInt (u64).bits (uj .u64 (u64.wrap (O.n)) 32) ||| BitVec.ofInt (u64).bits (u64.wrap (Y.n))).toNat)) (u64.wrap (QO.n)))))) else (cK (0<=(j.length:Int)/\(j.length:Int)*4<=140737488355328) (jW (λk J n=>mq QR o k J n) (λJ=>some (U,J)) ((j.length:Int):Int).toNat 0 (List.replicate ((j.length:Int):Int).toNat (⟨0⟩:bT))))
def nI (o:(List bT)) (j:(List bT)):Option ((List bT)×(List bT)):=(nH o j).bind λO=>if decide (O<0) then (some ([],o)) else (if decide ((j.length:Int)=1) then (idx j 0 λY=>(nJ o Y.n).bind λR=>some (R.1,([⟨R.2⟩]:List bT))) else (idx j (i64.wrap ((j.length:Int)-1)) λZ=>(jE Z.n).bind λJ=>(oA o J).bind λQO=>(oA j J).bind λU=>cK (0<=(j.length:Int)/\(j.length:Int)<=(U.length:Int)) (cK (0<=(i64.wrap ((i64.wrap ((o.length:Int)-(j.length:Int)))+1))/\(i64.wrap ((i64.wrap ((o.length:Int)-(j.length:Int)))+1))*4<=140737488355328) (fX (λI n=>oJ j J U I.1 I.2.1 I.2.2 n) eY ((List.replicate (i64.wrap ((i64.wrap ((o.length:Int)-(j.length:Int)))+1):Int).toNat (⟨0⟩:bT)),QO,i64.wrap ((o.length:Int)-(j.length:Int)))))))
def sT (j:Bool) (o:(List bT)):Option (aD):=some (aD.mk j o)
def vh (o:Bool) (j:(List bT)) (O:Bool) (I:(List bT)) (U:(Bool×(List bT)×Bool×(List bT))->Option (aD)):Option (aD):=if !decide ((eV (aD.mk o j))=0) then ((nI I j).bind λJ=>cK (J.2.length*4<=140737488355328) ((iJ false J.2).bind λR=>U (R.minus,R.words,o,j))) else (sT O I)
def pI (o:aD) (I:aD):Option (aD):=fX (λj n=>vh j.1 j.2.1 j.2.2.1 j.2.2.2 n) eY (false,I.words,false,o.words)
def lB (j:List bT) (I:(List bT×Int)->Option ((List bT))) (o:Nat) (O:Int):Option ((List bT)):=idx j (o:Int) λJ=>I ((j.set (((o:Int):Int).toNat) ⟨u32.wrap (O)⟩),ot .u64 O 32)
def rM (U:(List bT)) (I:(List bT)) (j:Nat) (J:List bT) (O:Int) (o:(List bT×Int)->Option ((List bT))):Option ((List bT)):=idx U (j:Int) λR=>if decide ((j:Int)<(I.length:Int)) then (idx I (j:Int) λY=>lB J o j (u64.wrap ((u64.wrap (O+(u64.wrap (R.n))))+(u64.wrap (Y.n))))) else (lB J o j (u64.wrap (O+(u64.wrap (R.n)))))
def lC (j:(List bT)) (I:(List bT)):Option ((List bT)):=cK (0<=(i64.wrap ((j.length:Int)+1))/\(i64.wrap ((j.length:Int)+1))*4<=140737488355328) (jW (λk o n=>rM j I k o.1 o.2 n) (λo=>idx o.1 (j.length:Int) λJ=>some (o.1.set (((j.length:Int):Int).toNat) ⟨u32.wrap (o.2)⟩)) ((j.length:Int):Int).toNat 0 ((List.replicate (i64.wrap ((j.length:Int)+1):Int).toNat (⟨0⟩:bT)),0))
def pz (j:(List bT)) (o:(List bT)):Option ((List bT)):=if decide ((j.length:Int)<(o.length:Int)) then (lC o j) else (lC j o)
def lD (j:List bT) (I:(List bT×Int)->Option ((List bT))) (o:Nat) (O:Int):Option ((List bT)):=idx j (o:Int) λJ=>I ((j.set (((o:Int):Int).toNat) ⟨u32.wrap (O)⟩),ot .i64 O 32)
def rP (U:(List bT)) (I:(List bT)) (j:Nat) (J:List bT) (O:Int) (o:(List bT×Int)->Option ((List bT))):Option ((List bT)):=idx U (j:Int) λR=>if decide ((j:Int)<(I.length:Int)) then (idx I (j:Int) λY=>lD J o j (i64.wrap ((i64.wrap (O+(i64.wrap (R.n))))-(i64.wrap (Y.n))))) else (lD J o j (i64.wrap (O+(i64.wrap (R.n)))))
def nK (j:(List bT)) (I:(List bT)):Option ((List bT)):=cK (0<=(j.length:Int)/\(j.length:Int)*4<=140737488355328) (jW (λk o n=>rP j I k o.1 o.2 n) (λo=>some o.1) ((j.length:Int):Int).toNat 0 ((List.replicate ((j.length:Int):Int).toNat (⟨0⟩:bT)),0))
def lH (j:aD) (o:aD):Option (aD):=if decide (j.minus=o.minus) then ((pz j.words o.words).bind λI=>(iJ j.minus I).bind λJ=>some J) else ((nH j.words o.words).bind λR=>if decide (0<=R) then ((nK j.words o.words).bind λU=>(iJ j.minus U).bind λO=>some O) else ((nK o.words j.words).bind λY=>(iJ o.minus Y).bind λZ=>some Z))
def ou (j:aD) (o:aD):Option (aD):=(lI o).bind λI=>(lH j I).bind λJ=>some J
def lR (I:Bool) (j:(List bT)) (J:Bool) (o:(List bT)):Option (aD×aD):=some ((aD.mk J o),(aD.mk I j))
def cP (I:aD) (R:aD):Option (aD×aD):=(nI I.words R.words).bind λj=>cK (j.1.length*4<=140737488355328) ((iJ I.minus j.1).bind λJ=>cK (j.2.length*4<=140737488355328) ((iJ I.minus j.2).bind λo=>if o.minus then ((mQ 1).bind λY=>(ou J Y).bind λU=>(lH o R).bind λO=>lR O.minus O.words U.minus U.words) else (lR o.minus o.words J.minus J.words)))
def nG (o:Bool) (j:(List bT)) (O:Bool) (I:(List bT)):Option (aA):=if decide ((j.length:Int)=1) then (idx j 0 λQS=>if decide (QS.n=1) then (some (aA.mk (aD.mk O I) (aD.mk o j))) else ((pI (aD.mk O I) (aD.mk o j)).bind λJ=>if decide ((J.words.length:Int)=1) then (idx J.words 0 λQT=>if decide (QT.n=1) then (some (aA.mk (aD.mk O I) (aD.mk o j))) else ((cP (aD.mk false I) J).bind λU=>(cP (aD.mk o j) J).bind λQO=>if O then (some (aA.mk (aD.mk (decide (0<(U.1.words.length:Int))) U.1.words) QO.1)) else (some (aA.mk (aD.mk false U.1.words) QO.1)))) else ((cP (aD.mk false I) J).bind λY=>(cP (aD.mk o j) J).bind λQP=>if O then (some (aA.mk (aD.mk (decide (0<(Y.1.words.length:Int))) Y.1.words) QP.1)) else (some (aA.mk (aD.mk false Y.1.words) QP.1))))) else ((pI (aD.mk O I) (aD.mk o j)).bind λR=>if decide ((R.words.length:Int)=1) then (idx R.words 0 λQU=>if decide (QU.n=1) then (some (aA.mk (aD.mk O I) (aD.mk o j))) else ((cP (aD.mk false I) R).bind λZ=>(cP (aD.mk o j) R).bind λQQ=>if O then (some (aA.mk (aD.mk (decide (0<(Z.1.words.length:Int))) Z.1.words) QQ.1)) else (some (aA.mk (aD.mk false Z.1.words) QQ.1)))) else ((cP (aD.mk false I) R).bind λQN=>(cP (aD.mk o j) R).bind λQR=>if O then (some (aA.mk (aD.mk (decide (0<(QN.1.words.length:Int))) QN.1.words) QR.1)) else (some (aA.mk (aD.mk false QN.1.words) QR.1))))
def nC (o:aD) (j:aD):Option (aA):=if j.minus then ((lI o).bind λI=>(lI j).bind λJ=>nG J.minus J.words I.minus I.words) else (nG j.minus j.words o.minus o.words)
def rB (j:Int) (o:Int):Option (aA):=(mQ j).bind λI=>(mQ o).bind λJ=>(nC I J).bind λR=>some R
def su (J:bT) (j:Nat) (o:Nat) (R:bT) (I:List bT) (O:Int) (Y:(List bT×Int)->Option (aD)):Option (aD):=idx I (i64.wrap ((j:Int)+(o:Int))) λU=>idx I (i64.wrap ((j:Int)+(o:Int))) λZ=>Y ((I.set ((i64.wrap ((j:Int)+(o:Int)):Int).toNat) ⟨u32.wrap (u64.wrap (O+(u64.wrap ((u64.wrap (U.n))+(u64.wrap ((u64.wrap (J.n))*(u64.wrap (R.n))))))))⟩),ot .u64 (u64.wrap (O+(u64.wrap ((u64.wrap (U.n))+(u64.wrap ((u64.wrap (J.n))*(u64.wrap (R.n)))))))) 32)
def ss (o:aD) (I:Nat) (R:bT) (U:List bT) (J:List bT->Option (aD)):Option (aD):=dM (λk y j n=>su R I k y j.1 j.2 n) (λj=>idx j.1 (i64.wrap ((I:Int)+(o.words.length:Int))) λO=>J (j.1.set ((i64.wrap ((I:Int)+(o.words.length:Int)):Int).toNat) ⟨u32.wrap (j.2)⟩)) 0 o.words (U,0)
def eX (j:aD) (o:aD):Option (aD):=cK (0<=(i64.wrap ((j.words.length:Int)+(o.words.length:Int)))/\(i64.wrap ((j.words.length:Int)+(o.words.length:Int)))*4<=140737488355328) (dM (λk y I n=>ss o k y I n) (λI=>(iJ (!decide (j.minus=o.minus)) I).bind λJ=>some J) 0 j.words (List.replicate (i64.wrap ((j.words.length:Int)+(o.words.length:Int)):Int).toNat (⟨0⟩:bT)))
def lJ (j:aA) (o:aA):Option (aA):=(eX j.N o.N).bind λI=>(eX j.D o.D).bind λJ=>(nC I J).bind λR=>some R
def jZ (j:Int):Option (aA):=(mQ j).bind λo=>(mQ 1).bind λI=>some (aA.mk o I)
def nD (j:Int):Option ((List aA)):=(jZ 0).bind λo=>cK (([o]).length=1/\0<=j/\j*64<=140737488355328) (some (GU ([o]) j))
def oh (I:(List Int)) (J:Int) (j:Nat) (o:Unit->Option (Int)):Option (Int):=idx I (j:Int) λR=>if decide (J=R) then (some (j:Int)) else (o ())
def lj (j:(List Int)) (o:Int):Option (Int):=jW (λk I n=>oh j o k n) (λ_=>some (-1)) ((j.length:Int):Int).toNat 0 ()
def lY (j:aX) (I:Int):Option (Int):=(lj j.qZ I).bind λo=>some o
def gW (j:aA) (o:aA):Option (aA):=(eX j.N o.D).bind λI=>(eX o.N j.D).bind λJ=>(lH I J).bind λR=>(eX j.D o.D).bind λU=>(nC R U).bind λO=>some O
def oy (j:aA):Option (aA):=(lI j.N).bind λo=>some (aA.mk o j.D)
def jK (j:aA) (o:aA):Option (aA):=(oy o).bind λI=>(gW j I).bind λJ=>some J
def wu (I:Nat) (J:(List aA)) (j:List Nat) (o:List (List aA)) (R:(List Nat×List (List aA))->Option ((List Nat×List (List aA)))):Option ((List Nat×List (List aA))):=cK ((([]:List aA).length+J.length)*64<=140737488355328) (idx j (I:Int) λU=>R ((j.set (((I:Int):Int).toNat) o.length),(o++[([]:List aA)++J])))
def vp (o:(List (List aA))):Option ((List Nat×List (List aA))):=cK (0<=(o.length:Int)/\(o.length:Int)*24<=140737488355328) (dM (λk y j n=>wu k y j.1 j.2 n) (λj=>some (j.1,j.2)) 0 o ((List.replicate ((o.length:Int):Int).toNat 0),([[]])))
def cX (j:aA):Int:=(eV j.N)
def qB (j:aA) (o:aA):Option (aA):=(eX j.N o.D).bind λI=>(eX j.D o.N).bind λJ=>(nC I J).bind λR=>some R
def oN (J:Int) (j:(List Int×Int×List Nat×List (List aA))->Option ((List Nat×List (List aA))×(List Int))) (R:List Int) (o:List Nat) (I:List (List aA)):Option ((List Nat×List (List aA))×(List Int)):=j (R,i64.wrap (J+1),o,I)
def jV (j:List (List aA)->Option ((List Nat×List (List aA))×(List Int))) (o:List (List aA)):Option ((List Nat×List (List aA))×(List Int)):=j o
def mI (I:Int) (j:(Int×List (List aA))->Option ((List Nat×List (List aA))×(List Int))) (o:List (List aA)):Option ((List Nat×List (List aA))×(List Int)):=j (i64.wrap (I+1),o)
def oP (I:List Int) (J:List Nat) (R:Int) (U:Nat) (O:Nat) (QP:List (List aA)->Option ((List Nat×List (List aA))×(List Int))) (Y:Nat) (QQ:aA) (o:Int) (j:List (List aA)) (QO:(Int×List (List aA))->Option ((List Nat×List (List aA))×(List Int))):Option ((List Nat×List (List aA))×(List Int)):=idx ((J.set (((I.length:Int):Int).toNat) U).set ((R:Int).toNat) O) (Y:Int) λQR=>if decide (o<(((j[QR]?).getD []).length:Int)) then (idx ((J.set (((I.length:Int):Int).toNat) U).set ((R:Int).toNat) O) (I.length:Int) λQS=>idx ((j[QS]?).getD []) o λQT=>if !decide ((cX QT)=0) then (idx ((J.set (((I.length:Int):Int).toNat) U).set ((R:Int).toNat) O) (Y:Int) λZ=>idx ((J.set (((I.length:Int):Int).toNat) U).set ((R:Int).toNat) O) (Y:Int) λQU=>idx ((j[QU]?).getD []) o λQV=>idx ((J.set (((I.length:Int):Int).toNat) U).set ((R:Int).toNat) O) (I.length:Int) λQW=>idx ((j[QW]?).getD []) o λQX=>(lJ QQ QX).bind λQY=>(jK QV QY).bind λQZ=>idx ((j[Z]?).getD []) o λQ0=>mI o QO (j.set Z (((j[Z]?).getD []).set ((o:Int).toNat) QZ))) else (mI o QO j)) else (jV QP j)
def qU (o:List Int) (U:Int) (J:List Nat) (O:Int) (Y:Nat) (Z:Nat) (I:Nat) (j:List (List aA)) (R:List (List aA)->Option ((List Nat×List (List aA))×(List Int))):Option ((List Nat×List (List aA))×(List Int)):=if decide ((I:Int)=(o.length:Int)) then (jV R j) else (idx ((J.set (((o.length:Int):Int).toNat) Y).set ((O:Int).toNat) Z) (I:Int) λQP=>idx ((j[QP]?).getD []) U λQQ=>if decide ((cX QQ)=0) then (jV R j) else (idx ((J.set (((o.length:Int):Int).toNat) Y).set ((O:Int).toNat) Z) (I:Int) λQR=>idx ((j[QR]?).getD []) U λQS=>fX (λQO n=>oP o J O Y Z R I QS QO.1 QO.2 n) eY (U,j)))
def oO (j:List Int) (Y:Int) (o:List Nat) (QP:(List Int×Int×List Nat×List (List aA))->Option ((List Nat×List (List aA))×(List Int))) (J:Int) (R:Nat) (U:Nat) (QR:aA) (O:Int) (I:List (List aA)) (QQ:(Int×List (List aA))->Option ((List Nat×List (List aA))×(List Int))):Option ((List Nat×List (List aA))×(List Int)):=idx ((o.set (((j.length:Int):Int).toNat) R).set ((J:Int).toNat) U) (j.length:Int) λQS=>if decide (O<(((I[QS]?).getD []).length:Int)) then (idx ((o.set (((j.length:Int):Int).toNat) R).set ((J:Int).toNat) U) (j.length:Int) λZ=>idx ((o.set (((j.length:Int):Int).toNat) R).set ((J:Int).toNat) U) (j.length:Int) λQT=>idx ((I[QT]?).getD []) O λQU=>(qB QU QR).bind λQV=>idx ((I[Z]?).getD []) O λQW=>QQ (i64.wrap (O+1),(I.set Z (((I[Z]?).getD []).set ((O:Int).toNat) QV)))) else (cK ((((o.set (((j.length:Int):Int).toNat) R).set ((J:Int).toNat) U).length:Int)<=9223372036854775807) (jW (λk QO n=>qU j Y o J R U k QO n) (λQO=>cK ((j.length+([Y]:List Int).length)*8<=140737488355328) (oN Y QP (j++([Y]:List Int)) ((o.set (((j.length:Int):Int).toNat) R).set ((J:Int).toNat) U) QO)) ((((o.set (((j.length:Int):Int).toNat) R).set ((J:Int).toNat) U).length:Int):Int).toNat 0 I))
def oQ (o:List Int) (J:Int) (j:List Nat) (R:List (List aA)) (O:(List Int×Int×List Nat×List (List aA))->Option ((List Nat×List (List aA))×(List Int))) (I:Int):Option ((List Nat×List (List aA))×(List Int)):=if decide (I=(j.length:Int)) then (oN J O o j R) else (idx j I λU=>idx j (o.length:Int) λY=>idx j (o.length:Int) λQQ=>idx (j.set (((o.length:Int):Int).toNat) U) I λQR=>idx ((j.set (((o.length:Int):Int).toNat) U).set ((I:Int).toNat) Y) (o.length:Int) λQO=>idx ((R[QO]?).getD []) J λQP=>fX (λZ n=>oO o J j O I U Y QP Z.1 Z.2 n) eY (J,R))
def sV (U:List Int) (J:Int) (j:List Nat) (I:List (List aA)) (R:(List Int×Int×List Nat×List (List aA))->Option ((List Nat×List (List aA))×(List Int))) (o:Int) (O:Int->Option ((List Nat×List (List aA))×(List Int))):Option ((List Nat×List (List aA))×(List Int)):=if decide (o<(j.length:Int)) then (idx j o λY=>idx ((I[Y]?).getD []) J λZ=>if decide ((cX Z)=0) then (O (i64.wrap (o+1))) else (oQ U J j I R o)) else (oQ U J j I R o)
def mH (O:Int) (j:List Int) (J:Int) (o:List Nat) (I:List (List aA)) (R:(List Int×Int×List Nat×List (List aA))->Option ((List Nat×List (List aA))×(List Int))):Option ((List Nat×List (List aA))×(List Int)):=if (decide (J<O)) && (decide ((j.length:Int)<(o.length:Int))) then (fX (λU n=>sV j J o I R U n) eY (j.length:Int)) else (some ((o,I),j))
def rC (I:(List (List aA))) (J:Int):Option ((List Nat×List (List aA))×(List Int)):=(vp I).bind λo=>fX (λj n=>mH J j.1 j.2.1 j.2.2.1 j.2.2.2 n) eY (([]:List Int),0,o.1,o.2)
def tK (R:(List (List aA))) (J:Nat) (j:List Nat) (I:List (List aA)) (U:(List Nat×List (List aA))->Option ((List (List aA))×Bool)):Option ((List (List aA))×Bool):=idx j (J:Int) λo=>cK (0<=(R.length:Int)/\(R.length:Int)<=(((I[o]?).getD []).length:Int)) (idx j (J:Int) λO=>cK (lone j (((J:Int):Int).toNat) o=true) (U ((j.set (((J:Int):Int).toNat) o),(I.set o (((I[o]?).getD []).drop ((R.length:Int):Int).toNat)))))
def tJ (R:(List (List aA))) (j:Nat) (J:List Nat) (o:List (List aA)) (Y:(List Nat×List (List aA))->Option ((List (List aA))×Bool)):Option ((List (List aA))×Bool):=idx R (j:Int) λI=>cK ((([]:List aA).length+I.length)*64<=140737488355328) ((nD (R.length:Int)).bind λU=>cK (((([]:List aA)++I).length+U.length)*64<=140737488355328) (idx J (j:Int) λQO=>idx (J.set (((j:Int):Int).toNat) o.length) (j:Int) λO=>(jZ 1).bind λZ=>idx (((o++[(([]:List aA)++I)++U])[O]?).getD []) (i64.wrap ((R.length:Int)+(j:Int))) λQP=>Y ((J.set (((j:Int):Int).toNat) o.length),((o++[(([]:List aA)++I)++U]).set O ((((o++[(([]:List aA)++I)++U])[O]?).getD []).set ((i64.wrap ((R.length:Int)+(j:Int)):Int).toNat) Z)))))
def qH (j:(List (List aA))):Option ((List (List aA))×Bool):=cK (0<=(j.length:Int)/\(j.length:Int)*24<=140737488355328) (jW (λk o n=>tJ j k o.1 o.2 n) (λo=>(rC (rT o.1 o.2) (j.length:Int)).bind λI=>if decide ((I.2.length:Int)<(j.length:Int)) then (some ([],false)) else (cK ((I.1.1.length:Int)<=9223372036854775807) (jW (λk J n=>tK j k J.1 J.2 n) (λJ=>some (rT J.1 J.2,true)) ((I.1.1.length:Int):Int).toNat 0 (I.1.1,I.1.2)))) ((j.length:Int):Int).toNat 0 ((List.replicate ((j.length:Int):Int).toNat 0),([[]])))
def fZ (j:List (List aA)->Option (aX)) (o:List (List aA)):Option (aX):=j o
def iS (R:List Nat) (Y:List (List aA)->Option (aX)) (Z:aA) (J:(Int)) (o:(Int)) (j:List (List aA)):Option (aX):=if (decide (0<=J)) && (decide (0<=o)) then (idx R J λI=>idx R o λU=>idx R J λQO=>idx ((j[QO]?).getD []) o λQP=>(jK QP Z).bind λO=>idx R o λQQ=>idx ((j[QQ]?).getD []) J λQR=>(jK QR Z).bind λQS=>idx ((j[I]?).getD []) o λQT=>idx (((j.set I (((j[I]?).getD []).set ((o:Int).toNat) O))[U]?).getD []) J λQU=>fZ Y ((j.set I (((j[I]?).getD []).set ((o:Int).toNat) O)).set U ((((j.set I (((j[I]?).getD []).set ((o:Int).toNat) O))[U]?).getD []).set ((J:Int).toNat) QS))) else (fZ Y j)
def iT (I:List Nat) (U:List (List aA)->Option (aX)) (J:aA) (O:(Int)) (j:(Int)) (o:List (List aA)):Option (aX):=if decide (0<=j) then (idx I j λR=>idx I j λY=>idx ((o[Y]?).getD []) j λZ=>(gW Z J).bind λQO=>idx ((o[R]?).getD []) j λQP=>iS I U J O j (o.set R (((o[R]?).getD []).set ((j:Int).toNat) QO))) else (iS I U J O j o)
def kI (I:aX) (J:List Nat) (O:Nat) (U:aA) (o:List (List aA)) (R:List (List aA)->Option (aX)):Option (aX):=idx I.pO (O:Int) λQO=>(lY I QO).bind λj=>idx I.To (O:Int) λQP=>(lY I QP).bind λZ=>idx I.pO (O:Int) λQQ=>idx I.To (O:Int) λQR=>if decide (QQ=QR) then (fZ R o) else (if decide (0<=j) then (idx J j λY=>idx J j λQS=>idx ((o[QS]?).getD []) j λQT=>(gW QT U).bind λQU=>idx ((o[Y]?).getD []) j λQV=>iT J R U j Z (o.set Y (((o[Y]?).getD []).set ((j:Int).toNat) QU))) else (iT J R U j Z o))
def pV (R:aX) (I:Nat) (j:List Nat) (o:List (List aA)) (J:(List Nat×List (List aA))->Option (aX)):Option (aX):=(nD (R.qZ.length:Int)).bind λU=>idx j (I:Int) λO=>J ((j.set (((I:Int):Int).toNat) o.length),(o++[U]))
def mY (j:aX):Option (aX):=cK (0<=(j.qZ.length:Int)/\(j.qZ.length:Int)*24<=140737488355328) (cK (((List.replicate ((j.qZ.length:Int):Int).toNat 0).length:Int)<=9223372036854775807) (jW (λk o n=>pV j k o.1 o.2 n) (λo=>dM (λk y I n=>kI j o.1 k y I n) (λI=>(qH (rT o.1 I)).bind λJ=>some (aX.mk j.wh j.pO j.To j.B_ j.C j.qZ J.1)) 0 j.B_ o.2) (((List.replicate ((j.qZ.length:Int):Int).toNat 0).length:Int):Int).toNat 0 ((List.replicate ((j.qZ.length:Int):Int).toNat 0),([[]]))))
def rA (o:(List (Int×Bool))) (j:((List (Int×Bool))×List Int)->Option ((Option aX))) (I:Int) (J:List Int):Option ((Option aX)):=j ((vJ o I true),J)
def xh (R:Nat) (j:Int) (o:(List (Int×Bool))) (I:List Int) (J:((List (Int×Bool))×List Int)->Option ((Option aX))):Option ((Option aX)):=if (rS o j).getD false then (cK ((I.length+([((R:Int))]:List Int).length)*8<=140737488355328) (rA o J j (I++([((R:Int))]:List Int)))) else (rA o J j I)
def xg (I:aF) (J:(aY)) (QU:Nat) (j:aR) (R:List Int) (U:List Int) (O:List aA) (Y:List aA) (QQ:(List Int×List Int×List aA×List aA)->Option ((Option aX))):Option ((Option aX)):=(bD I.bH j.pO).bind λQR=>idx J.ql QR λZ=>cK ((R.length+([Z]:List Int).length)*8<=140737488355328) ((bD I.bH j.To).bind λQS=>idx J.ql QS λQO=>cK ((U.length+([QO]:List Int).length)*8<=140737488355328) ((rB 1000000 (i64.wrap (j.X*j.CW))).bind λo=>cK ((O.length+([o]).length)*64<=140737488355328) ((rB (i64.wrap (0-j.Shift)) 1000).bind λQT=>(lJ o QT).bind λQP=>cK ((Y.length+([QP]).length)*64<=140737488355328) (QQ ((R++([Z]:List Int)),(U++([QO]:List Int)),(O++([o])),(Y++([QP])))))))
def wK (I:aF):Option ((Option aX)):=(dY I).bind λJ=>dM (λk y j n=>xg I J k y j.1 j.2.1 j.2.2.1 j.2.2.2 n) (λj=>dM (λk y o n=>xh k y o.1 o.2 n) (λo=>(mY (aX.mk J j.1 j.2.1 j.2.2.1 j.2.2.2 o.2 [])).bind λR=>some (some R)) 0 J.bR (([]:(List (Int×Bool))),([]:List Int))) 0 I.aK (([]:List Int),([]:List Int),([]:List aA),([]:List aA))
def fM (j:aX):Int:=(j.wh.bR.length:Int)
def re (R:Nat) (J:Int) (j:List aA) (I:List aA->Option ((List aA))):Option ((List aA)):=(jZ J).bind λo=>cK ((j.length+([o]).length)*64<=140737488355328) (I (j++([o])))
def ra (J:aX) (R:Nat) (U:Int) (j:List Int) (I:List Int->Option ((List aA))):Option ((List aA)):=idx J.wh.ql (R:Int) λo=>idx j o λO=>idx j o λY=>I (j.set ((o:Int).toNat) (i64.wrap (O+U)))
def oF (j:aX) (J:(List Int)):Option ((List aA)):=cK (0<=(fM j)/\(fM j)*8<=140737488355328) (dM (λk y o n=>ra j k y o n) (λo=>dM (λk y I n=>re k y I n) (λI=>some I) 0 o ([]:List aA)) 0 J (List.replicate ((fM j):Int).toNat (0:Int)))
def mo (j:(Bool×(List bT)×Bool×(List bT))->Option (aA)) (o:Bool) (I:(List bT)) (J:Bool) (R:(List bT)):Option (aA):=j (o,I,J,R)
def vf (Y:(List aA)) (Z:(List aA)) (o:Nat) (J:Bool) (R:(List bT)) (U:Bool) (O:(List bT)) (j:(Bool×(List bT)×Bool×(List bT))->Option (aA)):Option (aA):=idx Y (o:Int) λQO=>if decide ((cX QO)=0) then (mo j J R U O) else (idx Z (o:Int) λQP=>if !decide ((cX QP)=0) then (idx Y (o:Int) λQQ=>idx Z (o:Int) λQR=>(lJ QQ QR).bind λQS=>(gW (aA.mk (aD.mk J R) (aD.mk U O)) QS).bind λI=>mo j I.N.minus I.N.words I.D.minus I.D.words) else (mo j J R U O))
def uf (I:(List aA)) (J:(List aA)):Option (aA):=(jZ 0).bind λo=>jW (λk j n=>vf I J k j.1 j.2.1 j.2.2.1 j.2.2.2 n) (λj=>some (aA.mk (aD.mk j.1 j.2.1) (aD.mk j.2.2.1 j.2.2.2))) ((I.length:Int):Int).toNat 0 (o.N.minus,o.N.words,o.D.minus,o.D.words)
def pU (J:aX) (R:List aA) (U:Nat) (j:Int) (o:List aA) (I:List aA->Option ((List aA))):Option ((List aA)):=idx J.ry (U:Int) λO=>(uf O R).bind λY=>idx o j λZ=>I (o.set ((j:Int).toNat) Y)
def pT (J:(List aA)) (j:Nat) (R:Int) (o:List aA) (I:List aA->Option ((List aA))):Option ((List aA)):=idx J R λU=>idx o (j:Int) λO=>I (o.set (((j:Int):Int).toNat) U)
def mX (j:aX) (J:(List aA)):Option ((List aA)):=cK (0<=(j.qZ.length:Int)/\(j.qZ.length:Int)*64<=140737488355328) (dM (λk y o n=>pT J k y o n) (λo=>(nD (fM j)).bind λR=>dM (λk y I n=>pU j o k y I n) (λI=>some I) 0 j.qZ R) 0 j.qZ (List.replicate ((j.qZ.length:Int):Int).toNat ((aA.mk (aD.mk false []) (aD.mk false [])):aA)))
def ny (o:aX) (I:Nat) (U:aA) (j:List aA) (Y:List aA->Option ((List aA))):Option ((List aA)):=idx o.pO (I:Int) λJ=>idx o.pO (I:Int) λZ=>idx j Z λQO=>(jK QO U).bind λR=>idx j J λQS=>idx o.To (I:Int) λO=>idx o.To (I:Int) λQP=>idx (j.set ((J:Int).toNat) R) QP λQQ=>(gW QQ U).bind λQR=>idx (j.set ((J:Int).toNat) R) O λQT=>Y ((j.set ((J:Int).toNat) R).set ((O:Int).toNat) QR)
def mW (j:aX) (I:(List aA)):Option ((List aA)):=cK (I.length*64<=140737488355328) (dM (λk y o n=>ny j k y o n) (λo=>(mX j o).bind λJ=>some J) 0 j.C I)
def lz (J:Int) (I:(Int×List U8)->Option (Q1×Bool)) (j:bT) (o:List U8):Option (Q1×Bool):=cK (o.length+(gV (u64.wrap (j.n))).size<=140737488355328) (I (i64.wrap (J-1),(o++iY (gV (u64.wrap (j.n))))))
def lA (j:List U8) (o:Q1):Option (Q1×Bool):=some (o,(decide (((zC j).size:Int)<=2000)))
def pn (R:aD) (J:List bT) (O:Int) (j:List U8) (I:(Int×List U8)->Option (Q1×Bool)):Option (Q1×Bool):=if decide (0<=O) then (idx J O λo=>cK (0<=(u64.wrap (o.n))/\(u64.wrap (o.n))<=18446744073709551615) (if decide (O<(i64.wrap ((J.length:Int)-1))) then (cK (0<=((gV (u64.wrap (o.n))).size:Int)/\((gV (u64.wrap (o.n))).size:Int)<=((⟨#[48,48,48,48,48,48,48,48,48]⟩:Q1).size:Int)) (cK (j.length+((⟨#[48,48,48,48,48,48,48,48,48]⟩:Q1).extract ((((gV (u64.wrap (o.n))).size:Int):Int).toNat) ((⟨#[48,48,48,48,48,48,48,48,48]⟩:Q1).size)).size<=140737488355328) (lz O I o (j++iY ((⟨#[48,48,48,48,48,48,48,48,48]⟩:Q1).extract ((((gV (u64.wrap (o.n))).size:Int):Int).toNat) ((⟨#[48,48,48,48,48,48,48,48,48]⟩:Q1).size)))))) else (lz O I o j))) else (cK (0<j.length) (if R.minus then (cK ((⟨#[45]⟩:Q1).size+(zC j).size<=maxLen) (lA j ((⟨#[45]⟩:Q1)++(zC j)))) else (lA j (zC j))))
def rL (U:aD) (j:List bT) (I:(List bT)) (R:(List bT×(List bT))->Option (Q1×Bool)):Option (Q1×Bool):=if decide (0<(I.length:Int)) then ((nJ I 1000000000).bind λo=>cK ((j.length+([⟨o.2⟩]:List bT).length)*4<=140737488355328) ((iJ false o.1).bind λO=>R ((j++([⟨o.2⟩]:List bT)),O.words))) else (fX (λJ n=>pn U j J.1 J.2 n) eY (i64.wrap ((j.length:Int)-1),([]:List U8)))
def kL (j:aD):Option (Q1×Bool):=if decide ((j.words.length:Int)=0) then (some ((⟨#[48]⟩),true)) else (if decide (210<(j.words.length:Int)) then (some ((⟨#[]⟩),false)) else (fX (λo n=>rL j o.1 o.2 n) eY (([]:List bT),j.words)))
def py (I:aA):Option (Q1×Bool):=(kL I.N).bind λj=>if !j.2 then (some ((⟨#[]⟩),false)) else ((kL I.D).bind λo=>if decide (o.1=(⟨#[49]⟩)) then (some (j.1,o.2)) else (cK (j.1.size+(⟨#[47]⟩:Q1).size<=maxLen) (cK ((j.1++(⟨#[47]⟩)).size+o.1.size<=maxLen) (some (((j.1++(⟨#[47]⟩))++o.1),o.2)))))
def tI (j:Nat) (R:aA) (o:List Q1) (J:List Q1->Option ((List Q1)×Bool)):Option ((List Q1)×Bool):=(py R).bind λI=>if !I.2 then (some (([]:List Q1),false)) else (idx o (j:Int) λU=>J (o.set (((j:Int):Int).toNat) I.1))
def tS (j:(List aA)):Option ((List Q1)×Bool):=cK (0<=(j.length:Int)/\(j.length:Int)*16<=140737488355328) (dM (λk y o n=>tI k y o n) (λo=>some (o,true)) 0 j (List.replicate ((j.length:Int):Int).toNat ((⟨#[]⟩):Q1)))
def nL (o:(List aA)):Option ((List Q1)×Int):=(tS o).bind λj=>if !j.2 then (some (([]:List Q1),2)) else (some (j.1,0))
def qK (j:aX) (I:(List aA)) (o:Nat) (O:aA) (J:List aA) (U:List aA->Option ((List aA))):Option ((List aA)):=idx j.B_ (o:Int) λY=>idx j.pO (o:Int) λZ=>idx I Z λQO=>idx j.To (o:Int) λQP=>idx I QP λQQ=>(jK QO QQ).bind λQR=>(lJ Y QR).bind λQS=>(gW QS O).bind λR=>cK ((J.length+([R]).length)*64<=140737488355328) (U (J++([R])))
def nP (o:aX) (I:(List aA)):Option ((List aA)):=dM (λk y j n=>qK o I k y j n) (λj=>some j) 0 o.C ([]:List aA)
def pW (j:aF) (Y:(List Int)):Option (cI×Int):=(pS j Y).bind λo=>if !decide (o=0) then (some ((cI.mk ([]:List Q1) ([]:List Q1)),o)) else ((wK j).bind λU=>C8 U none (λO=>(oF O Y).bind λZ=>(mW O Z).bind λI=>(nL I).bind λJ=>(nP O I).bind λQM=>(nL QM).bind λR=>if (!decide (J.2=0)) || (!decide (R.2=0)) then (some ((cI.mk ([]:List Q1) ([]:List Q1)),2)) else (some ((cI.mk J.1 R.1),0))))
def fH (j:Q1) (o:Int):Int:=(N5 j o)
def fD (j:Q1) (I:Q1):Option (Int):=if (decide ((I.size:Int)=0)) || (decide (I=j)) then (some 0) else (if decide ((I.size:Int)=1) then (idx (iY I) 0 λo=>some (fH j o.n)) else (if decide ((j.size:Int)<=(I.size:Int)) then (some (-1)) else none))
def jD (j:Q1) (I:Q1):Option (Q1×Q1×Bool):=(fD j I).bind λo=>if decide (0<=o) then (cK (0<=o/\o<=(j.size:Int)) (cK (0<=(i64.wrap (o+(I.size:Int)))/\(i64.wrap (o+(I.size:Int)))<=(j.size:Int)) (some ((j.extract 0 ((o:Int).toNat)),(j.extract ((i64.wrap (o+(I.size:Int)):Int).toNat) j.size),true)))) else (some (j,(⟨#[]⟩),false))
def nE (o:Q1) (I:Q1):Option (Q1×Q1×Bool):=(jD o I).bind λj=>some (j.1,j.2.1,j.2.2)
def eJ (o:Q1) (j:Q1):Option (Bool):=if decide ((j.size:Int)<=(o.size:Int)) then (cK (0<=(j.size:Int)/\(j.size:Int)<=(o.size:Int)) (some (decide ((o.extract 0 (((j.size:Int):Int).toNat))=j)))) else (some false)
def nk (o:Q1) (j:Q1):Option (Bool):=(eJ o j).bind λI=>some I
def g_ (o:Q1) (j:Q1):Option (Q1):=(eJ o j).bind λI=>if I then (cK (0<=(j.size:Int)/\(j.size:Int)<=(o.size:Int)) (some (o.extract (((j.size:Int):Int).toNat) o.size))) else (some o)
def kQ (o:Q1) (j:Q1):Option (Q1):=(g_ o j).bind λI=>some I
def sh (o:(Bool)) (I:Bool) (j:(List bT)):Option (aD):=if o then (some (aD.mk (decide (0<(j.length:Int))) j)) else (some (aD.mk false j))
def uv (U:(Bool)) (j:Q1) (o:Bool) (I:(List bT)) (R:(Q1×Bool×(List bT))->Option (aD)):Option (aD):=if decide (0<(j.size:Int)) then (cK (0<=(i64.wrap ((Int.tmod (i64.wrap ((j.size:Int)-1)) 9)+1))/\(i64.wrap ((Int.tmod (i64.wrap ((j.size:Int)-1)) 9)+1))<=(j.size:Int)) (cK ((j.extract 0 ((i64.wrap ((Int.tmod (i64.wrap ((j.size:Int)-1)) 9)+1):Int).toNat)).size≠0/\(j.extract 0 ((i64.wrap ((Int.tmod (i64.wrap ((j.size:Int)-1)) 9)+1):Int).toNat)).size<=281474976710656/\(My (j.extract 0 ((i64.wrap ((Int.tmod (i64.wrap ((j.size:Int)-1)) 9)+1):Int).toNat))).2=false) ((mQ 1000000000).bind λO=>(eX (aD.mk o I) O).bind λY=>(mQ (i64.wrap ((My (j.extract 0 ((i64.wrap ((Int.tmod (i64.wrap ((j.size:Int)-1)) 9)+1):Int).toNat))).1))).bind λZ=>(lH Y Z).bind λJ=>cK (0<=(i64.wrap ((Int.tmod (i64.wrap ((j.size:Int)-1)) 9)+1))/\(i64.wrap ((Int.tmod (i64.wrap ((j.size:Int)-1)) 9)+1))<=(j.size:Int)) (R (j.extract ((i64.wrap ((Int.tmod (i64.wrap ((j.size:Int)-1)) 9)+1):Int).toNat) j.size,J.minus,J.words))))) else (sh U o I)
def k_ (o:Q1):Option (aD):=(nk o (⟨#[45]⟩)).bind λI=>(kQ o (⟨#[45]⟩)).bind λJ=>fX (λj n=>uv I j.1 j.2.1 j.2.2 n) eY (J,false,[])
def qG (o:Q1):Option (aA):=(nE o (⟨#[47]⟩)).bind λj=>if !j.2.2 then ((k_ j.1).bind λI=>(mQ 1).bind λJ=>some (aA.mk I J)) else ((k_ j.1).bind λR=>(k_ j.2.1).bind λU=>some (aA.mk R U))
def ox (j:aA):Option (aA):=if decide ((cX j)<0) then ((oy j).bind λo=>some o) else (some j)
def se (j:aD) (o:aD):Option (Int):=(ou j o).bind λI=>some (eV I)
def mR (j:aA) (o:aA):Option (Int):=(eX j.N o.D).bind λI=>(eX o.N j.D).bind λJ=>(se I J).bind λR=>some R
def oT (j:List Q1->Option ((List Q1))) (o:List Q1):Option ((List Q1)):=j o
def sZ (mh:(List Q1)) (J:Nat) (j:aR) (o:List Q1) (I:List Q1->Option ((List Q1))):Option ((List Q1)):=idx mh (J:Int) λR=>(qG R).bind λU=>(ox U).bind λO=>(jZ j.tY).bind λY=>(mR O Y).bind λZ=>if decide (0<Z) then (cK ((o.length+([j.Name]).length)*16<=140737488355328) (oT I (o++([j.Name])))) else (oT I o)
def nX (o:aF) (mh:(List Q1)):Option ((List Q1)):=dM (λk y j n=>sZ mh k y j n) (λj=>some j) 0 o.aK ([]:List Q1)
def fT (o:aF):Option (cI×(List Q1)×Int):=(f_ o).bind λI=>if !decide (I.2=0) then (some ((cI.mk ([]:List Q1) ([]:List Q1)),([]:List Q1),I.2)) else ((pW o I.1).bind λj=>if !decide (j.2=0) then (some ((cI.mk ([]:List Q1) ([]:List Q1)),([]:List Q1),j.2)) else ((nX o j.1.iP).bind λJ=>some (j.1,J,0)))
def dV (I:aF) (on:(List Q1)):Option (cI×(List Q1)×Int):=(nW I on).bind λj=>if !decide (j.2=0) then (some ((cI.mk ([]:List Q1) ([]:List Q1)),([]:List Q1),j.2)) else ((fT j.1).bind λo=>some (o.1,o.2.1,o.2.2))
def rE (j:cM):Option (Int):=(bZ j.bX).bind λo=>if !decide (o=0) then (some o) else ((mE j.pG).bind λI=>if !decide (I=0) then (some I) else (if decide (5<(j.bX.bF.length:Int)) then (some 2) else ((qi j.bX).bind λJ=>(dV j.bX J).bind λR=>some R.2.2)))
def kU:bG:=(bG.mk ([]:List aE))
def pZ (j:aF):Option ((Option bS)×Int):=(bZ j).bind λo=>if !decide (o=0) then (some (none,o)) else ((kC j).bind λI=>(nD (j.aK.length:Int)).bind λJ=>cK (0<=(j.aK.length:Int)/\(j.aK.length:Int)*8<=140737488355328) (cK (0<=(j.aK.length:Int)/\(j.aK.length:Int)*1<=140737488355328) (some ((some (bS.mk I.aK J (List.replicate ((j.aK.length:Int):Int).toNat (0:Int)) (List.replicate ((j.aK.length:Int):Int).toNat (false:Bool)) 0)),0))))
def wx (j:Nat) (o:List bA) (R:List bA->Option ((Option aP)×Int)):Option ((Option aP)×Int):=idx o (j:Int) λI=>cK (I.xF.length*40<=140737488355328) (idx o (j:Int) λJ=>R (o.set (((j:Int):Int).toNat) (bA.mk J.Close J.Switch I.xF)))
def rm (j:cM):Option ((Option aP)×Int):=(rE j).bind λR=>if !decide (R=0) then (some (none,R)) else ((kC j.bX).bind λo=>cK (j.pG.length*48<=140737488355328) ((qi j.bX).bind λI=>jW (λk J n=>wx k J n) (λJ=>(pZ o).bind λU=>C8 U.1 ((dV o I).bind λZ=>none) (λO=>(dV o I).bind λY=>some ((some (aP.mk o J I [] O Y.1 0 ((kU)) [])),0))) ((j.pG.length:Int):Int).toNat 0 j.pG))
def pX:aF:=(aF.mk ([(⟨#[65]⟩),(⟨#[66]⟩)]) ([]:List a_) ([(aR.mk (⟨#[76]⟩) (⟨#[65]⟩) (⟨#[66]⟩) 1000 1000 0 40 60 10)]) ([(bK.mk (⟨#[71]⟩) (⟨#[65]⟩) 10 50 0)]) ([(aH.mk (⟨#[68]⟩) (⟨#[66]⟩) 30)]) ([]:List cL))
def qM (I:Nat) (j:U8) (o:Unit->Option (Bool)):Option (Bool):=if (decide (j.n<97)) || (decide (122<j.n)) then (some false) else (o ())
def fY (j:Q1):Option (Bool):=cK (j.size<=maxLen) (dM (λk y o n=>qM k y n) (λ_=>some ((decide (1<=(j.size:Int))) && (decide ((j.size:Int)<=8)))) 0 (iY j) ())
def dD (j:aE):Option (Int):=if (decide (j.Time<0)) || (decide (200000<j.Time)) then (some 12) else ((fY j.Kind).bind λo=>if o then ((bC j.Name).bind λI=>if !I then (some 6) else (if (decide (j.Value<(-1000000))) || (decide (1000000<j.Value)) then (some 4) else (some 0))) else (some 6))
def lP (j:bG):Option ((List aE)):=cK (j.jL.length*48<=140737488355328) (some j.jL)
def oU (o:aH) (j:aE):Bool:=(decide (o.Name=j.Name))
def fS (J:(List aH)) (j:aE) (o:Nat) (I:Unit->Option (Int)):Option (Int):=idx J (o:Int) λR=>if (oU R j) then (some (o:Int)) else (I ())
def dI (o:(List aH)) (j:aE):Option (Int):=jW (λk I n=>fS o j k n) (λ_=>some (-1)) ((o.length:Int):Int).toNat 0 ()
def oV (o:bK) (j:aE):Bool:=(decide (o.Name=j.Name))
def gG (J:(List bK)) (j:aE) (o:Nat) (I:Unit->Option (Int)):Option (Int):=idx J (o:Int) λR=>if (oV R j) then (some (o:Int)) else (I ())
def dP (o:(List bK)) (j:aE):Option (Int):=jW (λk I n=>gG o j k n) (λ_=>some (-1)) ((o.length:Int):Int).toNat 0 ()
def n9 (o:a_) (j:aE):Bool:=(decide (o.Name=j.Name))
def fB (J:(List a_)) (j:aE) (o:Nat) (I:Unit->Option (Int)):Option (Int):=idx J (o:Int) λR=>if (n9 R j) then (some (o:Int)) else (I ())
def cV (o:(List a_)) (j:aE):Option (Int):=jW (λk I n=>fB o j k n) (λ_=>some (-1)) ((o.length:Int):Int).toNat 0 ()
def ly (o:aM) (j:Q1):Bool:=(decide (o.Name=j))
def cQ (J:(List aM)) (j:Q1) (o:Nat) (I:Unit->Option (Int)):Option (Int):=idx J (o:Int) λR=>if (ly R j) then (some (o:Int)) else (I ())
def cB (o:(List aM)) (j:Q1):Option (Int):=jW (λk I n=>cQ o j k n) (λ_=>some (-1)) ((o.length:Int):Int).toNat 0 ()
def kZ (j:(List aM)) (name:Q1):Option (Int):=(cB j name).bind λo=>some o
def nS (o:(List aM)) (j:Nat) (I:aM) (J:Unit->Option (Int)):Option (Int):=(bC I.Name).bind λR=>if !R then (some 6) else (cK (0<=(j:Int)/\(j:Int)<=(o.length:Int)) ((kZ (sJ o 0 (((j:Int):Int).toNat)) I.Name).bind λU=>if decide (0<=U) then (some 7) else (J ())))
def kJ (j:(List aM)):Option (Int):=if decide (32<(j.length:Int)) then (some 2) else (dM (λk y o n=>nS j k y n) (λ_=>some 0) 0 j ())
def dE (j:List Bool->Option (Bool)) (o:List Bool):Option (Bool):=j o
def rh (O:(List aM)) (o:Nat) (J:bO) (j:List Bool) (I:List Bool->Option (Bool)):Option (Bool):=(kZ O J.Name).bind λR=>if decide (J.Kind=0) then (idx j (o:Int) λQR=>dE I (j.set (((o:Int):Int).toNat) true)) else (if decide (J.Kind=2) then (if decide (0<=R) then (idx O R λU=>idx j (o:Int) λQS=>dE I (j.set (((o:Int):Int).toNat) (!U.yZ))) else (idx j (o:Int) λQT=>dE I (j.set (((o:Int):Int).toNat) false))) else (if decide (J.Kind=3) then (if decide (0<=R) then (idx O R λY=>idx j (o:Int) λQU=>dE I (j.set (((o:Int):Int).toNat) Y.yZ)) else (idx j (o:Int) λQV=>dE I (j.set (((o:Int):Int).toNat) false))) else (if decide (J.Kind=4) then (idx j J.A λZ=>idx j (o:Int) λQW=>dE I (j.set (((o:Int):Int).toNat) (!Z))) else (if decide (J.Kind=5) then (idx j J.A λQN=>if QN then (idx j J.B_ λQO=>idx j (o:Int) λQX=>dE I (j.set (((o:Int):Int).toNat) QO)) else (idx j (o:Int) λQY=>dE I (j.set (((o:Int):Int).toNat) false))) else (if decide (J.Kind=6) then (idx j J.A λQP=>if QP then (idx j (o:Int) λQZ=>dE I (j.set (((o:Int):Int).toNat) true)) else (idx j J.B_ λQQ=>idx j (o:Int) λQ0=>dE I (j.set (((o:Int):Int).toNat) QQ))) else (dE I j))))))
def mF (j:(List bO)) (J:(List aM)):Option (Bool):=cK (0<=(j.length:Int)/\(j.length:Int)*1<=140737488355328) (dM (λk y o n=>rh J k y o n) (λo=>idx o (i64.wrap ((j.length:Int)-1)) λI=>some I) 0 j (List.replicate ((j.length:Int):Int).toNat (false:Bool)))
def gQ (j:List Int->Option ((List Int)×Int)) (o:List Int):Option ((List Int)×Int):=j o
def pY (Y:(List aM)) (O:Bool) (name:Q1) (J:Nat) (I:bA) (o:List Int) (j:List Int->Option ((List Int)×Int)):Option ((List Int)×Int):=if decide (I.Close=O) then (if decide (I.Switch=name) then ((mF I.xF Y).bind λR=>if !R then (cK ((o.length+([((J:Int))]:List Int).length)*8<=140737488355328) (gQ j (o++([((J:Int))]:List Int)))) else (gQ j o)) else (gQ j o)) else (gQ j o)
def mZ (o:(List bA)) (O:(List aM)) (Y:Bool) (name:Q1):Option ((List Int)×Int):=(mE o).bind λI=>if !decide (I=0) then (some (([]:List Int),I)) else ((kJ O).bind λJ=>if !decide (J=0) then (some (([]:List Int),J)) else ((kZ O name).bind λR=>if decide (R<0) then (some (([]:List Int),8)) else (dM (λk y j n=>pY O Y name k y j n) (λj=>some (j,0)) 0 o ([]:List Int))))
def lQ (o:(List bA)) (J:(List aM)) (I:Bool) (name:Q1):Option (Bool×Int):=(mZ o J I name).bind λj=>some (((decide (j.2=0)) && (decide ((j.1.length:Int)=0))),j.2)
def qd (J:Nat) (j:a_) (o:List aM) (I:List aM->Option (Int×cS)):Option (Int×cS):=cK ((o.length+([(aM.mk j.Name (!j.Open))]).length)*24<=140737488355328) (I (o++([(aM.mk j.Name (!j.Open))])))
def nh (U:aP) (j:cS) (o:aE):Option (Int×cS):=(cV j.n.aN o).bind λI=>if decide (I<0) then (some (8,j)) else (if !decide (o.Value=0) then (some (1,j)) else (idx j.n.aN I λO=>if !decide (O.Open=(decide (o.Kind=(⟨#[99,108,111,115,101]⟩)))) then (some (11,j)) else ((bM U.held o.Name).bind λY=>if Y then (some (18,j)) else (dM (λk y R n=>qd k y R n) (λR=>(lQ U.rules R (decide (o.Kind=(⟨#[99,108,111,115,101]⟩))) o.Name).bind λZ=>if !Z.1 then (some (19,j)) else (idx j.n.aN I λJ=>some (0,(cS.mk (aF.mk j.n.bH (j.n.aN.set ((I:Int).toNat) (a_.mk J.Name J.A J.B_ J.wZ (!(decide (o.Kind=(⟨#[99,108,111,115,101]⟩)))))) j.n.aK j.n.dS j.n.bF j.n.bY) j.on)))) 0 j.n.aN ([]:List aM)))))
def iF (j:cS) (o:List bK) (I:List aH) (J:List Q1):Option (Int×cS):=some (0,(cS.mk (aF.mk j.n.bH j.n.aN j.n.aK o I j.n.bY) J))
def jY (Y:aP) (j:cS) (o:aE) (I:(Int)) (J:(Int)) (Z:Bool):Option (Int×cS):=if Z then ((nh Y j o).bind λU=>some (U.1,U.2)) else (if decide (o.Kind=(⟨#[108,111,97,100]⟩)) then (if decide (I<0) then (some (8,j)) else (if (decide (o.Value<0)) || (decide (100000<o.Value)) then (some (4,j)) else (idx j.n.bF I λO=>iF j j.n.dS (j.n.bF.set ((I:Int).toNat) (aH.mk O.Name O.Node o.Value)) j.on))) else (if decide (o.Kind=(⟨#[103,101,110]⟩)) then (if decide (J<0) then (some (8,j)) else (idx j.n.dS J λQO=>if (decide (o.Value<QO.iX)) || (decide (100000<o.Value)) then (some (4,j)) else (idx j.n.dS J λR=>iF j (j.n.dS.set ((J:Int).toNat) (bK.mk R.Name R.Node R.iX o.Value R.C1)) j.n.bF j.on))) else (if decide (o.Kind=(⟨#[98,97,99,107]⟩)) then (if decide (I<0) then (some (8,j)) else ((bM j.on o.Name).bind λQP=>if QP then (some (11,j)) else (idx j.n.bF I λQQ=>if !decide (o.Value=QQ.dA) then (some (1,j)) else (cK ((j.on.length+([o.Name]).length)*16<=140737488355328) (iF j j.n.dS j.n.bF (j.on++([o.Name]))))))) else (if decide (o.Kind=(⟨#[119,97,105,116]⟩)) then (if !decide (o.Value=0) then (some (1,j)) else (iF j j.n.dS j.n.bF j.on)) else (some (1,j))))))
def nY (I:aP) (o:cS) (j:aE):Option (Int×cS):=(dI o.n.bF j).bind λJ=>(dP o.n.dS j).bind λR=>if decide (j.Kind=(⟨#[111,112,101,110]⟩)) then (jY I o j J R (decide (j.Kind=(⟨#[111,112,101,110]⟩)))) else (jY I o j J R (decide (j.Kind=(⟨#[99,108,111,115,101]⟩))))
def vr (I:Nat) (j:U8) (o:Unit->Option (Int)):Option (Int):=if (decide (j.n<48)) || (decide (57<j.n)) then (some 5) else (o ())
def pJ (j:Q1):Option (Int):=cK (j.size<=maxLen) (dM (λk y I n=>vr k y n) (λ_=>if decide (j=(⟨#[]⟩)) then (some 5) else (if decide (1<(j.size:Int)) then (idx (iY j) 0 λo=>if decide (o.n=48) then (some 5) else (if decide (2000<(j.size:Int)) then (some 2) else (some 0))) else (if decide (2000<(j.size:Int)) then (some 2) else (some 0)))) 0 (iY j) ())
def xj (I:Q1) (J:Q1) (R:Nat) (o:Unit->Option (aD×aD×Int)):Option (aD×aD×Int):=idx [I,J] (R:Int) λU=>(pJ U).bind λj=>if !decide (j=0) then (some ((aD.mk false []),(aD.mk false []),j)) else (o ())
def wP (j:Q1) (o:Q1):Option (aD×aD×Int):=jW (λk R n=>xj j o k n) (λ_=>(k_ j).bind λI=>(k_ o).bind λJ=>some (I,J,0)) (2:Int).toNat 0 ()
def xi (o:aD):Option (Q1×Int):=(kL o).bind λj=>if !j.2 then (some ((⟨#[]⟩),2)) else (some (j.1,0))
def wO (I:Q1) (J:Q1):Option (Q1×Int):=(wP I J).bind λj=>if !decide (j.2.2=0) then (some ((⟨#[]⟩),j.2.2)) else ((pI j.1 j.2.1).bind λR=>(xi R).bind λo=>some (o.1,o.2))
def sX:Option (Int):=some 0
def mr (I:Q1) (J:(Q1)) (j:(Q1×Q1×Bool)) (o:(Int)) (O:Int):Option (Int):=if ((decide (o=5)) || (decide (O=5))) || ((decide (j.1=(⟨#[48]⟩))) && (decide ((J.size:Int)<(I.size:Int)))) then (some 5) else (if (!decide (o=0)) || (!decide (O=0)) then (some 2) else (if j.2.2 then ((wO j.1 j.2.1).bind λR=>if ((decide (j.2.1=(⟨#[48]⟩))) || (decide (j.2.1=(⟨#[49]⟩)))) || (!decide (R.1=(⟨#[49]⟩))) then (some 3) else sX) else sX))
def pK (o:Q1):Option (Int):=(kQ o (⟨#[45]⟩)).bind λI=>(nE I (⟨#[47]⟩)).bind λj=>(pJ j.1).bind λJ=>if j.2.2 then ((pJ j.2.1).bind λR=>mr o I j J R) else (mr o I j J 0)
def sW (J:Nat) (I:Q1) (o:Unit->Option (Int)):Option (Int):=(pK I).bind λj=>if !decide (j=0) then (some j) else (o ())
def rl (j:(List Q1)):Option (Int):=dM (λk y o n=>sW k y n) (λ_=>some 0) 0 j ()
def qW (j:(List Q1)):Option (Int):=if decide (40<(j.length:Int)) then (some 2) else ((rl j).bind λo=>some o)
def lf (j:List Q1->Option ((List Q1))) (o:List Q1):Option ((List Q1)):=j o
def p_ (J:bS) (R:Nat) (I:aR) (j:List Q1) (o:List Q1->Option ((List Q1))):Option ((List Q1)):=idx J.over (R:Int) λU=>if U then (cK ((j.length+([I.Name]).length)*16<=140737488355328) (lf o (j++([I.Name])))) else (lf o j)
def jR (o:bS):Option ((List Q1)):=dM (λk y j n=>p_ o k y j n) (λj=>some j) 0 o.kV ([]:List Q1)
def gR (j:(List aA×List Int×List Bool)->Option ((List Q1)×Int×bS)) (o:List aA) (I:List Int) (J:List Bool):Option ((List Q1)×Int×bS):=j (o,I,J)
def qa (mh:(List Q1)) (O:Int) (j:Nat) (Z:aR) (U:List aA) (o:List Int) (I:List Bool) (R:(List aA×List Int×List Bool)->Option ((List Q1)×Int×bS)):Option ((List Q1)×Int×bS):=idx mh (j:Int) λQN=>(qG QN).bind λQO=>(ox QO).bind λJ=>idx U (j:Int) λQU=>(jZ Z.tY).bind λQP=>(mR J QP).bind λQQ=>if decide (QQ<=0) then (idx o (j:Int) λQV=>idx I (j:Int) λQW=>gR R (U.set (((j:Int):Int).toNat) J) (o.set (((j:Int):Int).toNat) 0) (I.set (((j:Int):Int).toNat) false)) else (idx o (j:Int) λY=>idx o (j:Int) λQX=>idx (o.set (((j:Int):Int).toNat) (i64.wrap (Y+O))) (j:Int) λQR=>if decide (Z.DE<QR) then (idx I (j:Int) λQY=>gR R (U.set (((j:Int):Int).toNat) J) (o.set (((j:Int):Int).toNat) (i64.wrap (Y+O))) (I.set (((j:Int):Int).toNat) true)) else ((jZ Z.xV).bind λQS=>(mR J QS).bind λQT=>if decide (0<QT) then (idx I (j:Int) λQZ=>gR R (U.set (((j:Int):Int).toNat) J) (o.set (((j:Int):Int).toNat) (i64.wrap (Y+O))) (I.set (((j:Int):Int).toNat) true)) else (gR R (U.set (((j:Int):Int).toNat) J) (o.set (((j:Int):Int).toNat) (i64.wrap (Y+O))) I)))
def lF (j:bS) (mh:(List Q1)) (O:Int):Option ((List Q1)×Int×bS):=(qW mh).bind λI=>if !decide (I=0) then (some (([]:List Q1),I,j)) else (if !decide ((mh.length:Int)=(j.kV.length:Int)) then (some (([]:List Q1),3,j)) else (if (decide (O<1)) || (decide ((i64.wrap (200000-j.time))<O)) then (some (([]:List Q1),12,j)) else (dM (λk y o n=>qa mh O k y o.1 o.2.1 o.2.2 n) (λo=>(jR (bS.mk j.kV o.1 o.2.1 o.2.2 (i64.wrap (j.time+O)))).bind λJ=>some (J,0,(bS.mk j.kV o.1 o.2.1 o.2.2 (i64.wrap (j.time+O))))) 0 j.kV (j.mh,j.sF,j.over))))
def eU (j:bG) (o:aE):Option (Int×Int×bG):=(dD o).bind λI=>if !decide (I=0) then (some (0,I,j)) else (if decide (0<(j.jL.length:Int)) then (idx j.jL (i64.wrap ((j.jL.length:Int)-1)) λJ=>if decide (o.Time<J.Time) then (some (0,12,j)) else (if decide ((j.jL.length:Int)=300) then (some (0,9,j)) else (cK ((j.jL.length+([o]).length)*48<=140737488355328) (some ((i64.wrap ((j.jL.length:Int)+1)),0,(bG.mk (j.jL++([o])))))))) else (if decide ((j.jL.length:Int)=300) then (some (0,9,j)) else (cK ((j.jL.length+([o]).length)*48<=140737488355328) (some ((i64.wrap ((j.jL.length:Int)+1)),0,(bG.mk (j.jL++([o]))))))))
def kF (o:Q1) (j:(List Q1)):Option (Bool):=(bM j o).bind λI=>some (!I)
def iD (J:(List Q1)) (j:(List Q1)) (o:Nat) (I:Unit->Option (Int)):Option (Int):=idx J (o:Int) λR=>(kF R j).bind λU=>if U then (some (o:Int)) else (I ())
def fA (o:(List Q1)) (j:(List Q1)):Option (Int):=jW (λk I n=>iD o j k n) (λ_=>some (-1)) ((o.length:Int):Int).toNat 0 ()
def dN (I:Int) (j:(List Q1×Int×Int)->Option ((List Q1))) (o:List Q1) (J:Int):Option ((List Q1)):=j (o,J,i64.wrap (I+1))
def gY (Z:(List Q1)) (j:List Q1) (O:Int) (Y:Int) (o:(List Q1×Int×Int)->Option ((List Q1))):Option ((List Q1)):=if decide (Y<(j.length:Int)) then (idx j Y λI=>(kF I Z).bind λJ=>if !J then (idx j O λR=>dN Y o (j.set ((O:Int).toNat) I) (i64.wrap (O+1))) else (dN Y o j O)) else (cK (0<=O/\O<=(j.length:Int)) (cK (0<=O/\O<=((j.take (O).toNat++List.replicate (j.length-(O).toNat) ((⟨#[]⟩):Q1)).length:Int)) (some (sJ (j.take (O).toNat++List.replicate (j.length-(O).toNat) ((⟨#[]⟩):Q1)) 0 ((O:Int).toNat)))))
def dW (j:(List Q1)) (J:(List Q1)):Option ((List Q1)):=(fA j J).bind λo=>if decide (o=(-1)) then (some j) else (fX (λI n=>gY J I.1 I.2.1 I.2.2 n) eY (j,o,i64.wrap (o+1)))
def jI (o:Q1) (j:(List Q1)):Option (Bool):=(bM j o).bind λI=>some I
def gU (J:(List Q1)) (j:(List Q1)) (o:Nat) (I:Unit->Option (Int)):Option (Int):=idx J (o:Int) λR=>(jI R j).bind λU=>if U then (some (o:Int)) else (I ())
def eS (o:(List Q1)) (j:(List Q1)):Option (Int):=jW (λk I n=>gU o j k n) (λ_=>some (-1)) ((o.length:Int):Int).toNat 0 ()
def dG (I:Int) (j:(List Q1×Int×Int)->Option ((List Q1))) (o:List Q1) (J:Int):Option ((List Q1)):=j (o,J,i64.wrap (I+1))
def gO (Z:(List Q1)) (j:List Q1) (O:Int) (Y:Int) (o:(List Q1×Int×Int)->Option ((List Q1))):Option ((List Q1)):=if decide (Y<(j.length:Int)) then (idx j Y λI=>(jI I Z).bind λJ=>if !J then (idx j O λR=>dG Y o (j.set ((O:Int).toNat) I) (i64.wrap (O+1))) else (dG Y o j O)) else (cK (0<=O/\O<=(j.length:Int)) (cK (0<=O/\O<=((j.take (O).toNat++List.replicate (j.length-(O).toNat) ((⟨#[]⟩):Q1)).length:Int)) (some (sJ (j.take (O).toNat++List.replicate (j.length-(O).toNat) ((⟨#[]⟩):Q1)) 0 ((O:Int).toNat)))))
def dR (j:(List Q1)) (J:(List Q1)):Option ((List Q1)):=(eS j J).bind λo=>if decide (o=(-1)) then (some j) else (fX (λI n=>gO J I.1 I.2.1 I.2.2 n) eY (j,o,i64.wrap (o+1)))
def lK (o:aF):Option (Int):=(fT o).bind λj=>if (decide (j.2.2=0)) && (decide (0<(j.2.1.length:Int))) then (some 17) else (some j.2.2)
def nV (off:(List Q1)) (j:(List Q1)) (o:aF):Option (Bool):=cK (j.length*16<=140737488355328) ((dR j off).bind λI=>(pA o I).bind λJ=>(lK J).bind λR=>some (decide (R=0)))
def jJ (self:(List Q1)->(List Q1)->Int->Int->(List Q1)->aF->Option ((List Q1)×Bool)) (names:(List Q1)) (off:(List Q1)) (many:Int) (O:(List Q1)) (Y:aF) (J:Int) (I:Int->Option ((List Q1)×Bool)):Option ((List Q1)×Bool):=if decide (J<(names.length:Int)) then (cK (0<=(off.length:Int)/\(off.length:Int)<=(off.length:Int)) (idx names J λj=>cK (((sJ off 0 (((off.length:Int):Int).toNat)).length+([j]).length)*16<=140737488355328) ((self names ((sJ off 0 (((off.length:Int):Int).toNat))++([j])) (i64.wrap (J+1)) (i64.wrap (many-1)) O Y).bind λo=>if o.2 then (some (o.1,true)) else (I (i64.wrap (J+1)))))) else (some (([]:List Q1),false))
def eC (self:(List Q1)->(List Q1)->Int->Int->(List Q1)->aF->Option ((List Q1)×Bool)) (names:(List Q1)) (off:(List Q1)) (j:Int) (many:Int) (J:(List Q1)) (O:aF):Option ((List Q1)×Bool):=if decide (many=0) then ((nV off J O).bind λo=>some (off,o)) else (fX (λI n=>jJ self names off many J O I n) eY j)
def dJ:Nat->(List Q1)->(List Q1)->Int->Int->(List Q1)->aF->Option ((List Q1)×Bool)
 | 0=>λ_ _ _ _ _ _=>none
 | n+1=>eC (dJ n)
def kA (names:(List Q1)) (off:(List Q1)) (j:Int) (many:Int) (I:(List Q1)) (J:aF):Option ((List Q1)×Bool):=dJ eY names off j many I J
def nf (j:List Q1->Option ((List Q1)×Int)) (o:List Q1):Option ((List Q1)×Int):=j o
def rR (J:aF) (j:List Q1) (O:Int) (I:Int->Option ((List Q1)×Int)):Option ((List Q1)×Int):=if decide (O<=(j.length:Int)) then ((kA j ([]:List Q1) 0 O j J).bind λo=>if o.2 then (some (o.1,0)) else (I (i64.wrap (O+1)))) else (some (([]:List Q1),8))
def rQ (on:(List Q1)) (R:Nat) (j:aH) (o:List Q1) (I:List Q1->Option ((List Q1)×Int)):Option ((List Q1)×Int):=(bM on j.Name).bind λJ=>if J then (cK ((o.length+([j.Name]).length)*16<=140737488355328) (nf I (o++([j.Name])))) else (nf I o)
def mb (j:aF) (on:(List Q1)):Option ((List Q1)×Int):=(d_ j on).bind λI=>if !decide (I=0) then (some (([]:List Q1),I)) else (if decide (5<(on.length:Int)) then (some (([]:List Q1),2)) else (dM (λk y o n=>rQ on k y o n) (λo=>fX (λJ n=>rR j o J n) eY 0) 0 j.bF ([]:List Q1)))
def n_ (o:aH) (j:Q1):Bool:=(decide (o.Name=j))
def fP (J:(List aH)) (j:Q1) (o:Nat) (I:Unit->Option (Int)):Option (Int):=idx J (o:Int) λR=>if (n_ R j) then (some (o:Int)) else (I ())
def dC (o:(List aH)) (j:Q1):Option (Int):=jW (λk I n=>fP o j k n) (λ_=>some (-1)) ((o.length:Int):Int).toNat 0 ()
def iG (o:Q1) (j:(List Q1)):Option (Bool):=(bM j o).bind λI=>some I
def gP (J:(List Q1)) (j:(List Q1)) (o:Nat) (I:Unit->Option (Int)):Option (Int):=idx J (o:Int) λR=>(iG R j).bind λU=>if U then (some (o:Int)) else (I ())
def eQ (o:(List Q1)) (j:(List Q1)):Option (Int):=jW (λk I n=>gP o j k n) (λ_=>some (-1)) ((o.length:Int):Int).toNat 0 ()
def dB (I:Int) (j:(List Q1×Int×Int)->Option ((List Q1))) (o:List Q1) (J:Int):Option ((List Q1)):=j (o,J,i64.wrap (I+1))
def gF (Z:(List Q1)) (j:List Q1) (O:Int) (Y:Int) (o:(List Q1×Int×Int)->Option ((List Q1))):Option ((List Q1)):=if decide (Y<(j.length:Int)) then (idx j Y λI=>(iG I Z).bind λJ=>if !J then (idx j O λR=>dB Y o (j.set ((O:Int).toNat) I) (i64.wrap (O+1))) else (dB Y o j O)) else (cK (0<=O/\O<=(j.length:Int)) (cK (0<=O/\O<=((j.take (O).toNat++List.replicate (j.length-(O).toNat) ((⟨#[]⟩):Q1)).length:Int)) (some (sJ (j.take (O).toNat++List.replicate (j.length-(O).toNat) ((⟨#[]⟩):Q1)) 0 ((O:Int).toNat)))))
def dO (j:(List Q1)) (J:(List Q1)):Option ((List Q1)):=(eQ j J).bind λo=>if decide (o=(-1)) then (some j) else (fX (λI n=>gF J I.1 I.2.1 I.2.2 n) eY (j,o,i64.wrap (o+1)))
def qe (o:aP) (U:Nat) (I:Q1) (J:List aE) (j:List aE->Option (aP)):Option (aP):=(eU (bG.mk J) (aE.mk o.time (⟨#[112,114,111,111,102]⟩) I 0)).bind λR=>j R.2.2.jL
def qh (j:aP) (Y:Nat) (o:Q1) (J:List aE) (I:List aE->Option (aP)):Option (aP):=(dC j.cH.bF o).bind λR=>idx j.cH.bF R λU=>(eU (bG.mk J) (aE.mk j.time (⟨#[115,104,101,100]⟩) o U.dA)).bind λO=>I O.2.2.jL
def ni (j:aP) (over:(List Q1)):Option (aP):=(mb j.cH j.on).bind λo=>if !decide (o.2=0) then (dM (λk y I n=>qe j k y I n) (λI=>some (aP.mk j.cH j.rules j.on j.held j.watch j.state j.time (bG.mk I) over)) 0 over j.log.jL) else (dM (λk y J n=>qh j k y J n) (λJ=>(dO j.on o.1).bind λR=>(dV j.cH R).bind λU=>some (aP.mk j.cH j.rules R j.held j.watch U.1 j.time (bG.mk J) j.over)) 0 o.1 j.log.jL)
def ng (j:(List aR)) (o:List aA) (I:List Int) (J:List Bool) (R:Int) (U:List aE) (O:(List Q1)) (Y:(List a_)) (Z:(List aR)) (QO:(List bK)) (QP:(List aH)) (QQ:(List cL)) (QR:(List bA)) (QS:List Q1) (QT:(List Q1)) (QU:(List Q1)) (QV:(List Q1)) (QW:Int) (QX:(List Q1)):Option (Int×aP):=some (0,(aP.mk (aF.mk O Y Z QO QP QQ) QR QS QT (bS.mk j o I J R) (cI.mk QU QV) QW (bG.mk U) QX))
def jS (I:aP) (R:aE) (o:(Int×cS)) (J:(cI×(List Q1)×Int)) (U:(List aR)) (Y:List aA) (Z:List Int) (QN:List Bool) (O:Int):Option (Int×aP):=(eU I.log R).bind λQO=>(jR (bS.mk U Y Z QN O)).bind λQQ=>(dW J.2.1 QQ).bind λQP=>if decide (0<(QP.length:Int)) then ((ni (aP.mk o.2.n I.rules o.2.on I.held (bS.mk U Y Z QN O) J.1 R.Time QO.2.2 []) QP).bind λj=>ng j.watch.kV j.watch.mh j.watch.sF j.watch.over j.watch.time j.log.jL j.cH.bH j.cH.aN j.cH.aK j.cH.dS j.cH.bF j.cH.bY j.rules j.on j.held j.state.fU j.state.iP j.time j.over) else (ng U Y Z QN O QO.2.2.jL o.2.n.bH o.2.n.aN o.2.n.aK o.2.n.dS o.2.n.bF o.2.n.bY I.rules o.2.on I.held J.1.fU J.1.iP R.Time ([]))
def gB (j:aP) (o:aE):Option (Int×aP):=(dD o).bind λU=>if !decide (U=0) then (some (U,j)) else (if decide (o.Time<j.time) then (some (12,j)) else ((lP j.log).bind λO=>if decide (200<=(O.length:Int)) then (some (9,j)) else ((kC j.cH).bind λY=>cK (j.on.length*16<=140737488355328) ((nY j (cS.mk Y j.on) o).bind λI=>if !decide (I.1=0) then (some (I.1,j)) else ((dV I.2.n I.2.on).bind λJ=>if !decide (J.2.2=0) then (some (J.2.2,j)) else (if (decide (o.Kind=(⟨#[98,97,99,107]⟩))) && (decide (0<(J.2.1.length:Int))) then (some (17,j)) else (if decide (1<=(i64.wrap (o.Time-j.time))) then ((lF j.watch j.state.iP (i64.wrap (o.Time-j.time))).bind λR=>jS j o I J R.2.2.kV R.2.2.mh R.2.2.sF R.2.2.over R.2.2.time) else (jS j o I J j.watch.kV j.watch.mh j.watch.sF j.watch.over j.watch.time))))))))
def pC (j:aP):Int:=j.time
def uy (j:aP):Option ((List aE)):=(lP j.log).bind λo=>some o
def qY (j:aP):Option (cI):=cK (j.state.fU.length*16<=140737488355328) (cK (j.state.iP.length*16<=140737488355328) (some j.state))
def eP:Option (Bool):=(rm (cM.mk ((pX)) [])).bind λo=>C8 o.1 (some false) (λO=>if !decide (o.2=0) then (some false) else ((gB O (aE.mk 5 (⟨#[108,111,97,100]⟩) (⟨#[68]⟩) 20)).bind λj=>if decide (j.1=0) then (if decide ((pC j.2)=5) then ((uy j.2).bind λI=>if decide ((I.length:Int)=1) then ((qY j.2).bind λJ=>if decide ((J.iP.length:Int)=1) then ((qY j.2).bind λR=>idx R.iP 0 λU=>some (decide (U=(⟨#[50,48]⟩)))) else (some false)) else (some false)) else (some false)) else (some false)))
def aB:lv:=(lv.mk (bB.mk (⟨#[111,112,101,110]⟩) true false 0 0) (bB.mk (⟨#[99,108,111,115,101]⟩) true false 0 0) (bB.mk (⟨#[97,99,107]⟩) true false 0 0) (bB.mk (⟨#[108,111,97,100]⟩) true true 0 100000) (bB.mk (⟨#[103,101,110]⟩) true true 0 100000) (bB.mk (⟨#[115,116,111,114,101]⟩) true true ((-100000)) 100000) (bB.mk (⟨#[119,97,105,116]⟩) false true 0 3600) (bB.mk (⟨#[116,101,108,108]⟩) false false 0 0))
def sP (verb:Q1) (I:Nat) (o:Unit->Option (bB×Bool)):Option (bB×Bool):=idx ([(bB.mk (((aB)).a0.verb) (((aB)).a0.name) (((aB)).a0.n) (((aB)).a0.fG) (((aB)).a0.dK)),(bB.mk (((aB)).a1.verb) (((aB)).a1.name) (((aB)).a1.n) (((aB)).a1.fG) (((aB)).a1.dK)),(bB.mk (((aB)).a2.verb) (((aB)).a2.name) (((aB)).a2.n) (((aB)).a2.fG) (((aB)).a2.dK)),(bB.mk (((aB)).a3.verb) (((aB)).a3.name) (((aB)).a3.n) (((aB)).a3.fG) (((aB)).a3.dK)),(bB.mk (((aB)).a4.verb) (((aB)).a4.name) (((aB)).a4.n) (((aB)).a4.fG) (((aB)).a4.dK)),(bB.mk (((aB)).a5.verb) (((aB)).a5.name) (((aB)).a5.n) (((aB)).a5.fG) (((aB)).a5.dK)),(bB.mk (((aB)).a6.verb) (((aB)).a6.name) (((aB)).a6.n) (((aB)).a6.fG) (((aB)).a6.dK)),(bB.mk (((aB)).a7.verb) (((aB)).a7.name) (((aB)).a7.n) (((aB)).a7.fG) (((aB)).a7.dK))]:List bB) (I:Int) λj=>if decide (j.verb=verb) then (some (j,true)) else (o ())
def kY (verb:Q1):Option (bB×Bool):=jW (λk j n=>sP verb k n) (λ_=>some ((bB.mk (⟨#[]⟩) false false 0 0),false)) (8:Int).toNat 0 ()
def kB (o:aV):Option (Int):=(kY o.iB).bind λj=>if !j.2 then (some 5) else (if j.1.name then ((bC o.Name).bind λI=>if !I then (some 6) else (if (!j.1.n) && (!decide (o.N=0)) then (some 3) else (if j.1.n && ((decide (o.N<j.1.fG)) || (decide (j.1.dK<o.N))) then (some 4) else (some 0)))) else (if (!decide (o.Name=(⟨#[]⟩))) || ((!j.1.n) && (!decide (o.N=0))) then (some 3) else (if j.1.n && ((decide (o.N<j.1.fG)) || (decide (j.1.dK<o.N))) then (some 4) else (some 0))))
def pR (j:Q1):Option (Q1×Int):=some (j,0)
def lX (j:aV) (I:(bB×Bool)) (o:Q1):Option (Q1×Int):=if I.1.n then (cK (-9223372036854775808<=j.N/\j.N<=9223372036854775807) (cK ((⟨#[32]⟩:Q1).size+(gV j.N).size<=maxLen) (cK (o.size+((⟨#[32]⟩:Q1)++(gV j.N)).size<=maxLen) (pR (o++((⟨#[32]⟩:Q1)++(gV j.N))))))) else (pR o)
def qA (j:aV):Option (Q1×Int):=(kB j).bind λI=>if !decide (I=0) then (some ((⟨#[]⟩),I)) else ((kY j.iB).bind λo=>if o.1.name then (cK ((⟨#[32]⟩:Q1).size+j.Name.size<=maxLen) (cK (j.iB.size+((⟨#[32]⟩:Q1)++j.Name).size<=maxLen) (lX j o (j.iB++((⟨#[32]⟩:Q1)++j.Name))))) else (lX j o j.iB))
def eK (j:Q1) (I:Q1):Option (Bool):=if decide ((I.size:Int)<=(j.size:Int)) then (cK (0<=(i64.wrap ((j.size:Int)-(I.size:Int)))/\(i64.wrap ((j.size:Int)-(I.size:Int)))<=(j.size:Int)) (some (decide ((j.extract ((i64.wrap ((j.size:Int)-(I.size:Int)):Int).toNat) j.size)=I)))) else (some false)
def hO (j:Q1) (I:Q1):Option (Q1):=(eK j I).bind λo=>if o then (cK (0<=(i64.wrap ((j.size:Int)-(I.size:Int)))/\(i64.wrap ((j.size:Int)-(I.size:Int)))<=(j.size:Int)) (some (j.extract 0 ((i64.wrap ((j.size:Int)-(I.size:Int)):Int).toNat)))) else (some j)
def my (j:Q1) (I:Q1):Option (Q1):=(hO j I).bind λo=>some o
def oC (j:Q1) (I:Q1):Option (Int):=(fD j I).bind λo=>some o
def vz (J:Q1) (j:Q1) (O:Int) (I:(Q1×Int)->Option (Int)):Option (Int):=(oC j J).bind λo=>if decide (o=(-1)) then (some O) else (cK (0<=(i64.wrap (o+(J.size:Int)))/\(i64.wrap (o+(J.size:Int)))<=(j.size:Int)) (I (j.extract ((i64.wrap (o+(J.size:Int)):Int).toNat) j.size,i64.wrap (O+1))))
def qD (j:Q1) (J:Q1):Option (Int):=if decide ((J.size:Int)=0) then none else (if decide ((J.size:Int)=1) then (idx (iY J) 0 λI=>some (NW j I.n)) else (fX (λo n=>vz J o.1 o.2 n) eY (j,0)))
def lT (o:Q1) (j:List Q1) (J:Int):Option ((List Q1)):=idx j J λI=>cK (0<=(i64.wrap (J+1))/\(i64.wrap (J+1))<=((j.set ((J:Int).toNat) o).length:Int)) (some (sJ (j.set ((J:Int).toNat) o) 0 ((i64.wrap (J+1):Int).toNat)))
def oa (R:Q1) (Z:Q1) (O:Int) (n106:Int) (j:Q1) (I:List Q1) (Y:Int) (J:(Q1×List Q1×Int)->Option ((List Q1))):Option ((List Q1)):=if decide (Y<(i64.wrap ((min n106 (i64.wrap ((R.size:Int)+1)))-1))) then ((oC j Z).bind λo=>if decide (o<0) then (lT j I Y) else (cK (0<=(i64.wrap (o+O))/\(i64.wrap (o+O))<=(j.size:Int)) (idx I Y λU=>cK (0<=(i64.wrap (o+(Z.size:Int)))/\(i64.wrap (o+(Z.size:Int)))<=(j.size:Int)) (J (j.extract ((i64.wrap (o+(Z.size:Int)):Int).toNat) j.size,(I.set ((Y:Int).toNat) (j.extract 0 ((i64.wrap (o+O):Int).toNat))),i64.wrap (Y+1)))))) else (lT j I Y)
def lU (j:Q1) (O:Q1) (J:Int) (I:Int):Option ((List Q1)):=cK (0<=(min I (i64.wrap ((j.size:Int)+1)))/\(min I (i64.wrap ((j.size:Int)+1)))*16<=140737488355328) (fX (λo n=>oa j O J I o.1 o.2.1 o.2.2 n) eY (j,(List.replicate (min I (i64.wrap ((j.size:Int)+1)):Int).toNat ((⟨#[]⟩):Q1)),0))
def qk (j:Q1) (O:Q1) (J:Int) (o:Int):Option ((List Q1)):=if decide (o=0) then (some ([]:List Q1)) else (if decide (O=(⟨#[]⟩)) then none else (if decide (o<0) then ((qD j O).bind λI=>lU j O J (i64.wrap (I+1))) else (lU j O J o)))
def oD (j:Q1) (I:Q1):Option ((List Q1)):=(qk j I 0 (-1)).bind λo=>some o
def np (j:Q1) (I:Q1):Option (Bool):=(eK j I).bind λo=>some o
def lV (j:Q1) (o:Q1) (J:Int):Option (aV×Int):=(kB (aV.mk j o J)).bind λI=>if !decide (I=0) then (some ((aV.mk (⟨#[]⟩) (⟨#[]⟩) 0),I)) else (some ((aV.mk j o J),0))
def lW (o:((List Q1))) (R:(bB×Bool)) (O:Int) (I:Q1) (J:Q1):Option (aV×Int):=if R.1.n then (idx o (i64.wrap (O-1)) λj=>cK (j.size<=281474976710656) (if (xB j).2 then (some ((aV.mk (⟨#[]⟩) (⟨#[]⟩) 0),5)) else (cK (-9223372036854775808<=((xB j).1)/\((xB j).1)<=9223372036854775807) (idx o (i64.wrap (O-1)) λU=>if !decide ((gV ((xB j).1))=U) then (some ((aV.mk (⟨#[]⟩) (⟨#[]⟩) 0),5)) else (lV I J ((xB j).1)))))) else (lV I J 0)
def i_ (j:((List Q1))) (o:(bB×Bool)) (O:Int):Option (aV×Int):=if (!o.2) || (!decide ((j.length:Int)=O)) then (some ((aV.mk (⟨#[]⟩) (⟨#[]⟩) 0),5)) else (idx j 0 λI=>if o.1.name then (idx j 1 λJ=>lW j o O I J) else (lW j o O I (⟨#[]⟩)))
def jA (o:((List Q1))) (j:(bB×Bool)) (I:Int):Option (aV×Int):=if j.1.n then (i_ o j (i64.wrap (I+1))) else (i_ o j I)
def qz (I:Q1):Option (aV×Int):=if decide (8192<(I.size:Int)) then (some ((aV.mk (⟨#[]⟩) (⟨#[]⟩) 0),2)) else ((oD I (⟨#[32]⟩)).bind λj=>idx j 0 λJ=>(kY J).bind λo=>if o.1.name then (jA j o (i64.wrap (1+1))) else (jA j o 1))
def lx (j:(Int×List aE)->Option ((List aE)×Int×Int)) (I:Int) (o:List aE):Option ((List aE)×Int×Int):=j (I,o)
def rI (J:Nat) (R:Q1) (O:Int) (I:List aE) (o:(Int×List aE)->Option ((List aE)×Int×Int)):Option ((List aE)×Int×Int):=(qz R).bind λj=>if !decide (j.2=0) then (some (([]:List aE),(J:Int),j.2)) else (if decide (j.1.iB=(⟨#[116,101,108,108]⟩)) then (lx o O I) else (if decide (j.1.iB=(⟨#[119,97,105,116]⟩)) then (if decide (200000<(i64.wrap (O+j.1.N))) then (some (([]:List aE),(J:Int),12)) else (lx o (i64.wrap (O+j.1.N)) I)) else (cK ((I.length+([(aE.mk O j.1.iB j.1.Name j.1.N)]).length)*48<=140737488355328) (lx o O (I++([(aE.mk O j.1.iB j.1.Name j.1.N)]))))))
def pw (O:Q1) (time:Int):Option ((List aE)×Int×Int):=if decide (8192<(O.size:Int)) then (some (([]:List aE),0,2)) else (if (decide (time<0)) || (decide (200000<time)) then (some (([]:List aE),0,12)) else (if decide (O=(⟨#[]⟩)) then (some (([]:List aE),0,0)) else ((my O (⟨#[10]⟩)).bind λI=>(oD I (⟨#[10]⟩)).bind λo=>(np O (⟨#[10]⟩)).bind λJ=>if !J then (some (([]:List aE),(i64.wrap ((o.length:Int)-1)),5)) else (dM (λk y j n=>rI k y j.1 j.2 n) (λj=>some (j.2,0,0)) 0 o (time,([]:List aE))))))
def q_ (j:aE):Option (Q1):=cK (-9223372036854775808<=j.Time/\j.Time<=9223372036854775807) (cK ((gV j.Time).size+(⟨#[32]⟩:Q1).size<=maxLen) (cK (((gV j.Time)++(⟨#[32]⟩)).size+j.Kind.size<=maxLen) (cK ((((gV j.Time)++(⟨#[32]⟩))++j.Kind).size+(⟨#[32]⟩:Q1).size<=maxLen) (cK (((((gV j.Time)++(⟨#[32]⟩))++j.Kind)++(⟨#[32]⟩)).size+j.Name.size<=maxLen) (cK ((((((gV j.Time)++(⟨#[32]⟩))++j.Kind)++(⟨#[32]⟩))++j.Name).size+(⟨#[32]⟩:Q1).size<=maxLen) (cK (-9223372036854775808<=j.Value/\j.Value<=9223372036854775807) (cK (((((((gV j.Time)++(⟨#[32]⟩))++j.Kind)++(⟨#[32]⟩))++j.Name)++(⟨#[32]⟩)).size+(gV j.Value).size<=maxLen) (some (((((((gV j.Time)++(⟨#[32]⟩))++j.Kind)++(⟨#[32]⟩))++j.Name)++(⟨#[32]⟩))++(gV j.Value))))))))))
def uE (I:Nat) (o:U8) (J:Int) (j:Int->Option (Int)):Option (Int):=j (u64.wrap ((u64.wrap ((BitVec.ofInt (u64).bits J ^^^ BitVec.ofInt (u64).bits (u64.wrap (o.n))).toNat))*1099511628211))
def pq (o:Int) (I:Q1):Option (Int):=cK (I.size+(⟨#[10]⟩:Q1).size<=maxLen) (cK ((I++(⟨#[10]⟩)).size<=maxLen) (dM (λk y j n=>uE k y j n) (λj=>some j) 0 (iY (I++(⟨#[10]⟩))) o))
def nt (R:Nat) (o:aE) (O:Int) (j:Int->Option (Int)):Option (Int):=(q_ o).bind λI=>(pq O I).bind λJ=>j J
def mi (o:bG):Option (Int):=dM (λk y j n=>nt k y j n) (λj=>some j) 0 o.jL 14695981039346656037
def kE (j:aP):Option (Int):=(mi j.log).bind λo=>some o
def me (o:Q1) (j:aP):Option (Bool):=(bM j.on o).bind λI=>some (!I)
def iV (J:(List Q1)) (j:aP) (o:Nat) (I:Unit->Option (Int)):Option (Int):=idx J (o:Int) λR=>(me R j).bind λU=>if U then (some (o:Int)) else (I ())
def fC (o:(List Q1)) (j:aP):Option (Int):=jW (λk I n=>iV o j k n) (λ_=>some (-1)) ((o.length:Int):Int).toNat 0 ()
def dU (I:Int) (j:(List Q1×Int×Int)->Option ((List Q1))) (o:List Q1) (J:Int):Option ((List Q1)):=j (o,J,i64.wrap (I+1))
def iL (Z:aP) (j:List Q1) (O:Int) (Y:Int) (o:(List Q1×Int×Int)->Option ((List Q1))):Option ((List Q1)):=if decide (Y<(j.length:Int)) then (idx j Y λI=>(me I Z).bind λJ=>if !J then (idx j O λR=>dU Y o (j.set ((O:Int).toNat) I) (i64.wrap (O+1))) else (dU Y o j O)) else (cK (0<=O/\O<=(j.length:Int)) (cK (0<=O/\O<=((j.take (O).toNat++List.replicate (j.length-(O).toNat) ((⟨#[]⟩):Q1)).length:Int)) (some (sJ (j.take (O).toNat++List.replicate (j.length-(O).toNat) ((⟨#[]⟩):Q1)) 0 ((O:Int).toNat)))))
def dZ (j:(List Q1)) (J:aP):Option ((List Q1)):=(fC j J).bind λo=>if decide (o=(-1)) then (some j) else (fX (λI n=>iL J I.1 I.2.1 I.2.2 n) eY (j,o,i64.wrap (o+1)))
def pB (j:aP):Option ((List Q1)):=(qi j.cH).bind λo=>(dZ o j).bind λI=>some I
def lM (o:(List Q1)) (I:(List Q1)) (j:Nat) (J:Unit->Option (Bool)):Option (Bool):=idx o (j:Int) λR=>idx I (j:Int) λU=>if !decide (R=U) then (some false) else (J ())
def gZ (j:(List Q1)) (o:(List Q1)):Option (Bool):=if !decide ((j.length:Int)=(o.length:Int)) then (some false) else (jW (λk I n=>lM j o k n) (λ_=>some true) ((j.length:Int):Int).toNat 0 ())
def e_ (j:(Q1×Int×aP)->Option (Bool)) (o:Q1) (I:Int) (J:aP):Option (Bool):=j (o,I,J)
def nQ (R:Nat) (o:aE) (I:aP) (j:aP->Option (Bool)):Option (Bool):=(gB I o).bind λJ=>j J.2
def jC (Y:Nat) (j:aV) (J:Q1) (O:Int) (R:aP) (I:(Q1×Int×aP)->Option (Bool)):Option (Bool):=(qA j).bind λo=>if !decide (o.2=0) then (e_ I J O R) else (cK (o.1.size+(⟨#[10]⟩:Q1).size<=maxLen) (cK (J.size+(o.1++(⟨#[10]⟩)).size<=maxLen) (if decide (j.iB=(⟨#[119,97,105,116]⟩)) then (e_ I (J++(o.1++(⟨#[10]⟩))) (i64.wrap (O+j.N)) R) else (if decide (j.iB=(⟨#[116,101,108,108]⟩)) then (e_ I (J++(o.1++(⟨#[10]⟩))) O R) else ((gB R (aE.mk O j.iB j.Name j.N)).bind λU=>e_ I (J++(o.1++(⟨#[10]⟩))) O U.2)))))
def iU (QM:cM) (o:(List aV)):Option (Bool):=(nR QM).bind λR=>(rm R).bind λI=>C8 I.1 ((rm R).bind λU=>C8 U.1 ((eP).bind λQW=>(eP).bind λQN=>some (QN && (decide (I.2=U.2)))) (λZ=>(eP).bind λQX=>(eP).bind λQO=>some (QO && (decide (I.2=U.2))))) (λO=>(rm R).bind λQP=>C8 QP.1 ((eP).bind λQY=>(eP).bind λQZ=>some false) (λY=>(eP).bind λQQ=>if (!QQ) || (!decide (I.2=0)) then ((eP).bind λQ0=>some false) else (cK (0<=(min (o.length:Int) 7)/\(min (o.length:Int) 7)<=(o.length:Int)) (dM (λk y j n=>jC k y j.1 j.2.1 j.2.2 n) (λj=>(pw j.1 0).bind λQL=>if !decide (QL.2.2=0) then (some false) else (dM (λk y J n=>nQ k y J n) (λJ=>(kE j.2.2).bind λQR=>(kE J).bind λQS=>if decide (QR=QS) then ((pB j.2.2).bind λQT=>(pB J).bind λQU=>(gZ QT QU).bind λQV=>some QV) else (some false)) 0 QL.1 Y)) 0 (sJ o 0 ((min (o.length:Int) 7:Int).toNat)) (⟨#[]⟩,0,O)))))
end Go.Sim
namespace Go.Sim
open Go Go.RowKit
open _root_.Go.IntKind (i64 u64 u32 u8)
def Gd {R:Type} (o:Option R) (Q:R->Prop):Prop:=∃ r,o=some r/\Q r
section
variable {R α β σ:Type}{Q Q':R->Prop}
theorem Gd.mono {o:Option R} (h:Gd o Q) (k:∀ r,Q r->Q' r):Gd o Q':=by
 obtain ⟨r,e,q⟩:=h; exact ⟨r,e,k r q⟩
theorem Gd.ret {r:R} (h:Q r):Gd (some r) Q:=⟨r,rfl,h⟩
theorem Gd.nd {p:Prop}[Decidable p] {k:Option R} (h:p) (I:Gd k Q):Gd (cK p k) Q:=by
 unfold Sim.cK; rw [Rb h]; exact I
theorem Gd.eN {o:Option α}{k:α->Option R}{P:α->Prop} (h:Gd o P) (I:∀ a,P a->Gd (k a) Q):Gd (o.bind k) Q:=by
 obtain ⟨a,rfl,q⟩:=h; exact I a q
theorem Gd.bind_eq {o:Option α}{a:α}{k:α->Option R} (h:o=some a) (I:Gd (k a) Q):Gd (o.bind k) Q:=by
 subst h; exact I
theorem Gd.ite {b:Bool}{p q:Option R} (I:b=true->Gd p Q) (J:b=false->Gd q Q):Gd (if b=true then p else q) Q:=by
 cases b
 ·simpa using J rfl
 ·simpa using I rfl
theorem Gd.ix {l:List α}{i:Int}{k:α->Option R}{y:α} (I:0<=i) (O:l[i.toNat]? = some y) (J:Gd (k y) Q):Gd (idx l i k) Q:=by
 unfold Sim.idx; rw [Rb I,O]; exact J
theorem Gd.gK {l:List α}{i:Nat}{k:α->Option R} (h:i<l.length) (I:Gd (k l[i]) Q):Gd (Sim.idx l (i:Int) k) Q:=
 Gd.ix (by omega) (Q4 (by simpa using h)) I
theorem Gd.opt {o:Option α}{a:Option R}{f:α->Option R} (I:o=none->Gd a Q) (J:∀ s,o=some s->Gd (f s) Q):Gd (C8 o a f) Q:=by
 cases o with
 | none=>exact I rfl
 | some s=>exact J s rfl
theorem Gd.dM {J:Nat->α->σ->(σ->Option R)->Option R}{k:σ->Option R} (I:Nat->List α->σ->Prop)
  (Y:∀ i y ys s n,I i (y::ys) s->(∀ O,I (i+1) ys O->Gd (n O) Q)->Gd (J i y s n) Q) (Z:∀ i s,I i [] s->Gd (k s) Q):
  ∀ (l:List α) (i:Nat) (s:σ),I i l s->Gd (dM J k i l s) Q
 | [],i,s,h=>Z i s h
 | y::ys,i,s,h=>Y i y ys s _ h (λO h'=>Gd.dM I Y Z ys (i+1) O h')
theorem Gd.jW {J:Nat->σ->(σ->Option R)->Option R}{k:σ->Option R} (I:Nat->Nat->σ->Prop)
  (Y:∀ m i s n,I (m+1) i s->(∀ O,I m (i+1) O->Gd (n O) Q)->Gd (J i s n) Q) (Z:∀ i s,I 0 i s->Gd (k s) Q):
  ∀ (m i:Nat) (s:σ),I m i s->Gd (jW J k m i s) Q
 | 0,i,s,h=>Z i s h
 | m+1,i,s,h=>Y m i s _ h (λO h'=>Gd.jW I Y Z m (i+1) O h')
theorem Gd.fX {J:σ->(σ->Option R)->Option R} (I:σ->Prop) (Y:σ->Nat)
  (Z:∀ s n,I s->(∀ O,I O->Y O<Y s->Gd (n O) Q)->Gd (J s n) Q):
  ∀ (m:Nat) (s:σ),I s->Y s<m->Gd (fX J m s) Q
 | 0,s,_,h=>by omega
 | m+1,s,hI,h=>Z s _ hI (λO h' hlt=>Gd.fX I Y Z m O h' (by omega))
theorem Gd.eq {o:Option R}{r:R}:Gd o (λx=>x=r)↔o=Option.some r:=by
 constructor
 ·rintro ⟨x,h,rfl⟩; exact h
 ·intro h; exact ⟨r,h,rfl⟩
end
theorem bJ {n:Int} (h:-9223372036854775808<=n/\n<=9223372036854775807):i64.wrap n=n:=yd h.1 h.2
theorem Gd.seen {R α O:Type}{Q:R->Prop}{J:Nat->α->O->(O->Option R)->Option R}{k:O->Option R}{l:List α} (I:List α->O->Prop)
  (hb:∀ i y s n pre,(∃ Y,l=pre++y::Y)->I pre s->(∀ Z,I (pre++[y]) Z->Gd (n Z) Q)->Gd (J i y s n) Q) (hk:∀ s,I l s->Gd (k s) Q) (s:O) (hs:I [] s):Gd (Sim.dM J k 0 l s) Q:=by
 have key:∀ (ys pre:List α) (i:Nat) (s:O),l=pre++ys->I pre s->Gd (Sim.dM J k i ys s) Q:=by
  intro ys
  induction ys with
  | nil=>intro pre i s hl hs; rw [RR] at hl; subst hl; exact hk s hs
  | cons y ys ih=>
   intro pre i s hl hs;exact hb i y s _ pre ⟨ys,hl⟩ hs (λZ hs'=>ih (pre++[y]) (i+1) Z (by rw [hl]; simp) hs')
 exact key l [] 0 s rfl hs
theorem xu {α:Type}{l pre:List α}{y:α} (h:∃ I,l=pre++y::I):pre.length<l.length/\y ∈ l/\∀ x ∈ pre,x ∈ l:=by
 obtain ⟨I,rfl⟩:=h;exact ⟨by simp,by simp,λx J=>Q6 _ J⟩
theorem Fz {α:Type}[DecidableEq α]:∀ (a b:List α),a.Nodup->(∀ x ∈ a,x ∈ b)->a.length<=b.length
 | [],_,_,_=>Nat.zero_le _
 | x::xs,b,hn,h=>by
  rw [Uv] at hn;have I:=h x (Q9 ..);have O:=Fz xs (b.erase x) hn.2 (λy J=>(List.mem_erase_of_ne (λe:y=x=>hn.1 (by rw [<- e]; exact J))).2 (h y (Rc _ J)))
  rw [List.length_erase_of_mem I] at O;have:0<b.length:=List.length_pos_of_mem I;simp only [Rd]; omega
end Go.Sim
