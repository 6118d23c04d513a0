/-
  The proof, part A2.
-/
import Derived.Lib.Bytealg
import Derived.Laws.Externs
import Derived.Lib.LaidTab
import Derived.Lib.AppendIntMem
import Derived.Lib.ItoaNum
import Derived.Lib.AtoiAll
import Derived.Lib.SmallJoins
import Derived.Laws.BytesString
import Derived.Laws.IdiomStrings
import Derived.Lib.ParseIntBMem
import Derived.Laws.IdiomRangeMap
import Derived.Lib.UnsafeStr
import Derived.Lib.Builder
import Derived.Lib.AppendStr
import Derived.Laws.Bits64b
import Derived.Test.YtpapfdodclhffaaGreatDoorSqA1
set_option linter.unusedVariables false
set_option linter.unusedSimpArgs false
set_option linter.unusedSectionVars false
set_option linter.unnecessarySimpa false
namespace Go.Sim
abbrev UR := @Int.fdiv_eq_ediv_of_nonneg
abbrev T_ := @Int.le_refl
abbrev VS := @Int.toNat_of_nonneg
abbrev VT := @Go.Lib.strCells_length
abbrev UU := @List.Perm.append_left
abbrev Xq := @List.drop_succ_cons
abbrev UE := @List.getElem?_replicate
abbrev Sx := @List.getElem?_set_ne
abbrev SC := @List.getElem?_set_self
abbrev Ut := @List.getElem_map
abbrev Tx := @List.length_drop
abbrev Tp := @List.length_set
abbrev Wq := @List.mem_of_mem_drop
abbrev Uu := @List.mem_of_mem_take
abbrev UL := @List.replicate_succ
abbrev Wh := @List.set_getElem_self
abbrev TA := @List.take_append_drop
abbrev U9 := @List.take_append_of_le_length
abbrev Sh := @List.take_of_length_le
abbrev WV := @List.take_zero
abbrev VW := @List.zipWith_append
abbrev UN := @Nat.add_comm
abbrev TZ := @Nat.lt_or_ge
abbrev U3 := @Nat.mod_lt
end Go.Sim
namespace Go.Sim
open Go Go.RowKit
open _root_.Go.IntKind (i64 u64 u32 u8)
def QA (H:Hp) (v:RV) (n sz:Nat) (xs:List RV):Prop:=
 xs.length=n*sz/\(∀ u ∈ xs,u.oneCell'=true) /\
 (((∃ a,v=.slice a 0 0)/\n=0)\/∃ b off cap arr T fz,v=.slice (some ⟨b,off,none⟩) n cap/\H b=some (.cells arr T fz)/\∀ j u,xs[j]? = some u->arr[off+j]? = some u)
theorem QA.shape {H:Hp}{v:RV}{n sz:Nat}{xs:List RV} (h:QA H v n sz xs):∃ o c,v=.slice o n c:=by
 rcases h.2.2 with ⟨⟨a,rfl⟩,rfl⟩ | ⟨b,off,cap,arr,T,fz,rfl,_⟩ <;> exact ⟨_,_,rfl⟩
theorem QA.isNil {H:Hp}{n m c sz:Nat}{xs:List RV} (h:QA H (.slice none m c) n sz xs):n=0/\xs=[]:=by
 rcases h.2.2 with ⟨_,I⟩ | ⟨b,off,cap,arr,T,fz,I,_⟩
 ·subst I; exact ⟨rfl,Sv (by rw [h.1,TC])⟩
 ·cases I
section
variable {B:Nat}{w0 w:World}{H:Hp}{M:List b_}
end
section
variable {x:Cx}{ops:Array Oper}{Q:mj}{rest:List Oper}{H:Hp}{M M':List b_}{L L':Env}
variable {d:Nat}{ty:TypeId}{pos:String}{aft:Array Edge}{g:Option (Nat×Bool)}
theorem EV {o:Oper} (hd:o.dst=none) (hg:gd ops L o=some true)
  (I:∀ a w,Sl x.N L a->St x.B x.w0 H M w->∃ v Y,(execOp a.eval o).run x.P w=.ok (.value v) Y/\∃ H' M',St x.B x.w0 H' M' Y/\W x ops Q rest H' M' L):
  W x ops Q (o::rest) H M L:=by
 intro a w hs ht;obtain ⟨v,Y,hr,H',M',J,k⟩:=I a w hs ht;refine Wz λK Z=>?_;rw [R9 (hs.gd hg)];unfold Oper.wp;rw [hr];simp only [Oper.upon,hd];exact Z _ _ (k _ _ hs J)
theorem rD {t e:TypeId}{sz len cap l h m:Nat}{y:Operand}{lo hi mx:Option Operand}{ad:Option Addr}
  (Z:gd ops L ⟨some d,.slice t y lo hi mx,ty,pos,aft,g⟩=some true) (hN:Nat.blt d x.N=true)
  (Y:∀ w,(underlying t).run x.P w=.ok (.slice e) w) (hs:∀ w,(sizeOf e).run x.P w=.ok sz w) (hy:ev L y=some (.slice ad len cap)) (J:mx=none\/∃ o,hi=some o)
  (O:Is L mx cap cap m) (hh:Is L hi len m h) (hl:Is L lo 0 h l)
  {v':RV} (hv:Value.slice (if m=l then ad else ad.map (·.add (l*sz))) (h-l) (m-l)=v')
  (k:W x ops Q rest H M ((d,v')::L)):
  W x ops Q (⟨some d,.slice t y lo hi mx,ty,pos,aft,g⟩::rest) H M L:=
 gL rfl Z hN (λc w I ht=>by
  rw [<- hv];simp only [execOp,I.ev hy,Se,va Y hs (L1 J) (O.bd I) (hh.bd I) (hl.bd I),Sb,Sk]) k
theorem F4 {α:Type}[aK α] {H0:Hp}{t e:TypeId}{bytes n i j gb off cap cu:Nat}{z:RV}{y u:Operand}{xs:List RV}{l:List α}{bu:Addr}
  (hg:gd ops L ⟨some d,.call ⟨.builtin .append,#[y,u],#[t,t]⟩,ty,pos,aft,g⟩=some true) (hN:Nat.blt d x.N=true)
  (hT:x.P.underlying t=some (.slice e)) (hi:OG x.P e (aK.sz α) bytes z) (hz:z.cells.size=aK.sz α) (hs:Nat.blt 0 (aK.sz α)=true)
  (hx:Rw H0 (.slice (some ⟨gb,off,none⟩) l.length cap) xs l) (hij:i<j) (hj:j<=l.length)
  (hy:ev L y=some (.slice (some ⟨gb,off,none⟩) i cap)) (hu:ev L u=some (.slice (some bu) (l.length-j) cu)) (hbu:j<l.length->bu=⟨gb,off+j*aK.sz α,none⟩)
  (k:∀ J I xs',Rw H0 (.slice (some ⟨J,I,none⟩) (l.take i++l.drop j).length cap) xs' (l.take i++l.drop j)->l.length<=cap ->
   W x ops Q rest H (.row (.slice (some ⟨J,I,none⟩) (l.take i++l.drop j).length cap) e (aK.sz α) (l.take i++l.drop j).length xs'::M) ((d,.slice (some ⟨J,I,none⟩) (l.take i++l.drop j).length cap)::L)):
  W x ops Q (⟨some d,.call ⟨.builtin .append,#[y,u],#[t,t]⟩,ty,pos,aft,g⟩::rest) H (.row (.slice (some ⟨gb,off,none⟩) l.length cap) e (aK.sz α) n xs::M) L:=by
 obtain ⟨inf,h1,h2,h3,h4⟩:=hi.ex;have hs':0<aK.sz α:=by simpa [S_] using hs
 refine tT rfl hg hN λa w hsl ht=>?_;have hown:iU w e (aK.sz α) (.slice (some ⟨gb,off,none⟩) l.length cap) n xs:=ht.ok _ (R6 ..);have hlen:=hx.rd.len;have hone:=hx.rd.one;rcases hown.2 with ⟨h0,_⟩ | ⟨gb2,off2,cap2,cur,he,hgb,hnc,hcm,hcs,Z⟩
 ·cases h0
 cases he;have hmi:i*aK.sz α<=l.length*aK.sz α:=Si _ (by omega)
 have hmj:j*aK.sz α<=l.length*aK.sz α:=Si _ hj;have hown':iU w e (aK.sz α) (.slice (some ⟨gb,off,none⟩) i cap) i (xs.take (i*aK.sz α)):=by
  refine ⟨by rw [Ss,hlen]; omega,.inr ⟨gb,off,cap,cur,rfl,hgb,by omega,hcm,hcs,?_⟩⟩
  rw [<- Z,Wj,S7 hmi]
 have hl2:(xs.drop (j*aK.sz α)).length=(l.length-j)*aK.sz α:=by rw [Tx,hlen,Nat.sub_mul]
 have hcell:∀ q u,(xs.drop (j*aK.sz α))[q]? = some u->w.cell? (bu.add q)=some u:=by
  intro q u hq;have hjl:j<l.length:=by
   by_cases h:j<l.length
   ·exact h
   ·have:l.length-j=0:=by omega
    have hnil:xs.drop (j*aK.sz α)=[]:=Sv (by rw [hl2,this,TC])
    rw [hnil] at hq;cases hq
  rw [hbu hjl,SZ];refine WW hgb rfl ?_;rw [SK,<- Z,SU] at hq
  split at hq
  ·rw [SK] at hq
   simpa [Uv] using hq
  ·cases hq
 obtain ⟨v',w',hr,ho,hgr,hfr,Y⟩:=FI (P:=x.P) (ty:=ty) hT h1 h4 h2 hz hs' hown' (a:=bu) (m:=l.length-j) (c:=cu) (news:=xs.drop (j*aK.sz α)) hl2 hcell
  (λu hu=>hone u (Wq hu)) (by simp only [Value.lX]; omega)
 have hln:(l.take i++l.drop j).length=i+(l.length-j):=by simp; omega
 obtain ⟨rfl,_⟩ | ⟨J,I,lX,cur',rfl,hgb',hnc',hcm',hcs',htake'⟩:=ho.2
 ·simp only [Value.lX] at Y
  omega
 ·simp only [Value.lX] at Y
  subst Y;refine ⟨.slice (some ⟨J,I,none⟩) (l.take i++l.drop j).length lX,w',?_,H,
   .row (.slice (some ⟨J,I,none⟩) (l.take i++l.drop j).length lX) e (aK.sz α) (l.take i++l.drop j).length (xs.take (i*aK.sz α)++xs.drop (j*aK.sz α))::M,?_,k J I _ ⟨?_,_,_,_,rfl⟩ hnc⟩
  ·rw [hln]
   simp [execOp,resolve,invoke,builtin,hsl.ev hy,hsl.ev hu,hr]
  ·rw [hln]
   exact ht.EN (r':=.row (.slice (some ⟨J,I,none⟩) (i+(l.length-j)) lX) e (aK.sz α) (i+(l.length-j)) (xs.take (i*aK.sz α)++xs.drop (j*aK.sz α))) hgr ho hfr
  ·exact (hx.rd.split i).1.app (hx.rd.split j).2
theorem zZ {zs:List RV} (h:∀ u ∈ zs,u.oneCell'=true) (Y:0<zs.length) (n:Nat):∀ u ∈ (Builtin.zeroCells zs.toArray n).toList,u.oneCell'=true:=by
 intro u J;unfold Builtin.zeroCells at J;simp only [Array.toList_map,UF,Array.toList_range,SV] at J;obtain ⟨q,_,rfl⟩:=J;have I:q%zs.length<zs.length:=U3 _ Y;have:zs.toArray[q%zs.length]! = zs[q%zs.length]:=by simp [I]
 rw [this];exact h _ (Sz _)
theorem F7 {t e:TypeId}{sz m n2 c2 n Y off cap:Nat}{y:Operand}{z:RV}{zs xs:List RV}
  (hg:gd ops L ⟨none,.call ⟨.builtin .clear,#[y],#[t]⟩,ty,pos,aft,g⟩=some true)
  (hT:x.P.underlying t=some (.slice e)) (hz:∀ w,(zeroValue e).run x.P w=.ok z w) (hzs:z.cells=zs.toArray) (hzl:zs.length=sz) (h1:zs.all Value.oneCell'=true) (hs:Nat.blt 0 sz=true)
  (hy:ev L y=some (.slice (some ⟨Y,off+m*sz,none⟩) n2 c2)) (hc:m+n2<=cap)
  (k:W x ops Q rest H (.row (.slice (some ⟨Y,off,none⟩) m cap) e sz n xs::M) L):
  W x ops Q (⟨none,.call ⟨.builtin .clear,#[y],#[t]⟩,ty,pos,aft,g⟩::rest) H (.row (.slice (some ⟨Y,off,none⟩) m cap) e sz n xs::M) L:=by
 have hs':0<sz:=by simpa [S_] using hs
 refine EV rfl hg λa w hsl ht=>?_;have I:iU w e sz (.slice (some ⟨Y,off,none⟩) m cap) n xs:=ht.ok _ (R6 ..);rcases I.2 with ⟨h0,_⟩ | ⟨gb2,off2,cap2,cur,he,hgb,hnc,hcm,hcs,Z⟩
 ·cases h0
 cases he;cases n2 with
 | zero=>
  refine ⟨.tuple #[],w,?_,H,_,ht,k⟩;simp [execOp,resolve,invoke,builtin,hsl.ev hy,Builtin.clear_,Tm hT]
 | succ q=>
  have J:(Builtin.zeroCells z.cells (q+1)).toList.length=(q+1)*sz:=by
   unfold Builtin.zeroCells; rw [hzs]; simp [hzl]
  have hmul:(m+(q+1))*sz<=cap*sz:=Si _ hc;rw [So] at hmul;have hone:∀ u ∈ (Builtin.zeroCells z.cells (q+1)).toList,u.oneCell'=true:=by
   rw [hzs]; exact zZ (λu hu=>Tg.1 h1 u hu) (by omega) _
  obtain ⟨w',hst,hh,hgr⟩:=jN (P:=x.P) Y (off+m*sz) e (Builtin.zeroCells z.cells (q+1)).toList 0 cur.toList w (by simpa using hgb) (by rw [J]; simp; omega) hone
  refine ⟨.tuple #[],w',?_,H,_,ht.EN (r':=.row (.slice (some ⟨Y,off,none⟩) m cap) e sz m xs) hgr ⟨I.1,.inr ⟨Y,off,cap,_,rfl,hh,hnc,hcm,?_,?_⟩⟩ (λb hb=>.inl hb),k⟩
  ·simp [execOp,resolve,invoke,builtin,hsl.ev hy,Builtin.clear_,Tm hT,hz,hst]
  ·simpa [oT] using hcs
  ·rw [Uk,Tt,vT _ _ _ (by rw [J]; simp; omega)]
   have hd:(cur.toList.take (off+m*sz)).drop off=xs:=by rw [Um,TN]; exact Z
   rw [Sr,Ui (by simp; omega),hd,<- I.1]
   exact UY
end
theorem GY {P:Program}{w:World}{t tu ty e:TypeId}{sz n gb off cap a dl dc sl sc:Nat}{b:Addr}{xs news:List RV} (hT:P.underlying t=some (.slice e)) (hs:∀ w,(sizeOf e).run P w=.ok sz w)
  (Y:iU w e sz (.slice (some ⟨gb,off,none⟩) n cap) n xs) (ha:a+dl<=n)
  (hl:news.length=min sl dl*sz) (Z:∀ j u,news[j]? = some u->w.cell? (b.add j)=some u) (h1:∀ u ∈ news,u.oneCell'=true):
  ∃ w',(Builtin.copy_ #[t,tu] ty #[.slice (some ⟨gb,off+a*sz,none⟩) dl dc,.slice (some b) sl sc]).run P w=.ok (.int .i64 (min sl dl:Nat)) w' /\
   iU w' e sz (.slice (some ⟨gb,off,none⟩) n cap) n (xs.take (a*sz)++news++xs.drop ((a+min sl dl)*sz))/\w.grownBy w' (some gb):=by
 rcases Y.2 with ⟨h0,_⟩ | ⟨gb2,off2,cap2,I,he,hgb,hnc,hcm,hcs,J⟩
 ·cases h0
 cases he;have hxl:xs.length=n*sz:=Y.1;have O:(a+min sl dl)*sz<=n*sz:=Si _ (by omega)
 have hmc:n*sz<=cap*sz:=Si _ hnc;have hadd:(a+min sl dl)*sz=a*sz+min sl dl*sz:=So ..;have hf:=WC (P:=P) w sz (min sl dl) b sl sc news hl Z;obtain ⟨w',hst,hh,hgr⟩:=jN (P:=P) gb (off+a*sz) e news 0 I.toList w (by simpa using hgb) (by simp; omega) h1
 refine ⟨w',?_,⟨?_,.inr ⟨gb,off,cap,_,rfl,hh,hnc,hcm,?_,?_⟩⟩,hgr⟩
 ·simp [Builtin.copy_,Tm hT,hs,Builtin.lenOf,hf,hst,goInt]
 ·simp only [Sg,Ss,Tx,hl,hxl]; omega
 ·simpa [oT] using hcs
 ·rw [Uk,Tt,vT _ _ _ (by simp; omega)]
  have hx1:xs.take (a*sz)=(I.toList.take (off+a*sz)).drop off:=by
   rw [<- J,Wj,S7 (by omega),Um,TN]
  have hx2:xs.drop ((a+min sl dl)*sz)=(I.toList.drop (off+a*sz+news.length)).take (n*sz-(a+min sl dl)*sz):=by
   rw [<- J,Um,TW]; congr 2; omega
  rw [hx1,hx2,Sr,Ui (by simp; omega),<- Sr]
  have hlen:((I.toList.take (off+a*sz)).drop off++news).length=a*sz+min sl dl*sz:=by
   rw [Sg,Tx,Ss,hl]; simp; omega
  have e:n*sz=((I.toList.take (off+a*sz)).drop off++news).length+(n*sz-(a+min sl dl)*sz):=by rw [hlen]; omega
  conv=>lhs; rw [e]
  rw [List.take_length_add_append]
section
variable {x:Cx}{ops:Array Oper}{Q:mj}{rest:List Oper}{H:Hp}{M M':List b_}{L L':Env}
variable {d:Nat}{ty:TypeId}{pos:String}{aft:Array Edge}{g:Option (Nat×Bool)}
theorem zw {c:Code}{v:RV}{e:TypeId}{sz n:Nat}{xs:List RV} (h0:0<n)
  (k:∀ I off cap,v=.slice (some ⟨I,off,none⟩) n cap->n<=cap->Go.Sim.C x c Q H (.row v e sz n xs::M) L):Go.Sim.C x c Q H (.row v e sz n xs::M) L:=by
 intro a w hs ht;have Y:iU w e sz v n xs:=ht.ok _ (R6 ..);rcases Y.2 with ⟨_,h⟩ | ⟨I,off,cap,Z,he,_,J,_⟩
 ·omega
 ·exact k I off cap he J a w hs ht
theorem Iz {α:Type}[aK α] {t tu e:TypeId}{y u:Operand}{v vu:RV}{xs:List RV}{l ys:List α}
  (hg:gd ops L ⟨some d,.call ⟨.builtin .copy,#[y,u],#[t,tu]⟩,ty,pos,aft,g⟩=some true) (hN:Nat.blt d x.N=true)
  (hT:x.P.underlying t=some (.slice e)) (hsz:∀ w,(sizeOf e).run x.P w=.ok (aK.sz α) w) (hs:Nat.blt 0 (aK.sz α)=true)
  (hy:ev L y=some v) (Z:ev L u=some vu) (hx:Rw H v xs l) (hR:aU H vu ys) (h0:0<ys.length)
  (k:∀ xs',Rw H v xs' (ys.take (min ys.length l.length)++l.drop (min ys.length l.length))->W x ops Q rest H (.row v e (aK.sz α) l.length xs'::M) ((d,.int .i64 (min ys.length l.length:Nat))::L)):
  W x ops Q (⟨some d,.call ⟨.builtin .copy,#[y,u],#[t,tu]⟩,ty,pos,aft,g⟩::rest) H (.row v e (aK.sz α) l.length xs::M) L:=by
 refine tT rfl hg hN λa w I ht=>?_;have J:iU w e (aK.sz α) v l.length xs:=ht.ok _ (R6 ..);obtain ⟨cs,hcs,hcase⟩:=hR.flat;rcases hcase with ⟨_,rfl⟩ | ⟨hc,b,Y,c,rfl⟩
 ·simp at h0
 by_cases hl0:l.length=0
 ·have hm0:min ys.length l.length=0:=by omega
  refine ⟨.int .i64 (min ys.length l.length:Nat),w,?_,H,_,ht,k xs (by rw [hm0]; simpa using hx)⟩
  have hf:(Builtin.firstCells (aK.sz α) 0 (.slice (some ⟨b,Y,none⟩) ys.length c)).run x.P w=.ok #[] w:=
   WC (P:=x.P) w (aK.sz α) 0 ⟨b,Y,none⟩ ys.length c [] (by simp) (by simp)
  rw [hm0];rcases J.2 with ⟨rfl,_⟩ | ⟨gb,off,cap,cur,rfl,_⟩
  ·simp [execOp,resolve,invoke,builtin,I.ev hy,I.ev Z,Builtin.copy_,Tm hT,hsz,Builtin.lenOf,hf,goInt]
  ·simp [execOp,resolve,invoke,builtin,I.ev hy,I.ev Z,Builtin.copy_,Tm hT,hsz,Builtin.lenOf,hf,goInt,hl0,storeCells]
 rcases J.2 with ⟨_,h⟩ | ⟨gb,off,cap,cur,rfl,_⟩
 ·exact absurd h hl0
 obtain ⟨w',hr,ho,hgr⟩:=GY (P:=x.P) (tu:=tu) (ty:=ty) (a:=0) (dl:=l.length) (dc:=cap) (b:=⟨b,Y,none⟩) (sl:=ys.length) (sc:=c) (news:=cs.take (min ys.length l.length*aK.sz α)) hT hsz J (by omega)
  (by rw [Ss,hcs.len]; exact S7 (Si _ (by omega)))
  (λj u Z=>by
   rw [SU] at Z
   split at Z
   ·exact ((hc j u Z).at (x:=x) (M:=.row (.slice (some ⟨gb,off,none⟩) l.length cap) e (aK.sz α) l.length xs::M)) w ht
   ·cases Z) (λu Z=>hcs.one u (Uu Z))
 rw [TC,WV,TG,Sp] at ho;rw [TC,Tt] at hr;refine ⟨.int .i64 (min ys.length l.length:Nat),w',?_,H,_,ht.EN (r':=.row (.slice (some ⟨gb,off,none⟩) l.length cap) e (aK.sz α) l.length _) hgr ho (λb hb=>.inl hb),k _ ⟨(hcs.split _).1.app (hx.rd.split _).2,_,_,_,rfl⟩⟩;simp [execOp,resolve,invoke,builtin,I.ev hy,I.ev Z,hr]
theorem CS {α:Type}[aK α] {t tu e:TypeId}{I off cap q dc sc:Nat}{y u:Operand}{xs:List RV}{l:List α}
  (hg:gd ops L ⟨some d,.call ⟨.builtin .copy,#[y,u],#[t,tu]⟩,ty,pos,aft,g⟩=some true) (hN:Nat.blt d x.N=true)
  (hT:x.P.underlying t=some (.slice e)) (hsz:∀ w,(sizeOf e).run x.P w=.ok (aK.sz α) w) (hs:Nat.blt 0 (aK.sz α)=true)
  (hx:Rw H (.slice (some ⟨I,off,none⟩) l.length cap) xs l) (hq:q<=l.length)
  (hy:ev L y=some (.slice (some ⟨I,off+q*aK.sz α,none⟩) (l.length-q) dc)) (hu:ev L u=some (.slice (some ⟨I,off,none⟩) q sc))
  (k:∀ xs',Rw H (.slice (some ⟨I,off,none⟩) l.length cap) xs' (l.take q++l.take (min q (l.length-q))++l.drop (q+min q (l.length-q))) ->
   W x ops Q rest H (.row (.slice (some ⟨I,off,none⟩) l.length cap) e (aK.sz α) l.length xs'::M) ((d,.int .i64 (min q (l.length-q):Nat))::L)):
  W x ops Q (⟨some d,.call ⟨.builtin .copy,#[y,u],#[t,tu]⟩,ty,pos,aft,g⟩::rest) H (.row (.slice (some ⟨I,off,none⟩) l.length cap) e (aK.sz α) l.length xs::M) L:=by
 refine tT rfl hg hN λa w hsl ht=>?_;have Y:iU w e (aK.sz α) (.slice (some ⟨I,off,none⟩) l.length cap) l.length xs:=ht.ok _ (R6 ..);have hlen:=hx.rd.len;have hone:=hx.rd.one;have hmm:min q (l.length-q)*aK.sz α<=l.length*aK.sz α:=Si _ (by omega)
 have Z:∀ j u,(xs.take (min q (l.length-q)*aK.sz α))[j]? = some u->w.cell? ((⟨I,off,none⟩:Addr).add j)=some u:=by
  intro j u J;rcases Y.2 with ⟨h0,_⟩ | ⟨gb2,off2,cap2,cur,he,hgb,hnc,hcm,hcs,htake⟩
  ·cases h0
  cases he;rw [SZ];refine WW hgb rfl ?_;rw [SU] at J
  split at J
  ·rw [<- htake,SU] at J
   split at J
   ·rw [SK] at J; simpa using J
   ·cases J
  ·cases J
 obtain ⟨w',hr,ho,hgr⟩:=GY (P:=x.P) (tu:=tu) (ty:=ty) (a:=q) (dl:=l.length-q) (dc:=dc) (b:=⟨I,off,none⟩) (sl:=q) (sc:=sc) (news:=xs.take (min q (l.length-q)*aK.sz α)) hT hsz Y (by omega)
  (by rw [Ss,hlen]; omega) Z (λu hu=>hone u (Uu hu))
 refine ⟨.int .i64 (min q (l.length-q):Nat),w',?_,H,_,ht.EN (r':=.row (.slice (some ⟨I,off,none⟩) l.length cap) e (aK.sz α) l.length _) hgr ho (λb hb=>.inl hb),k _ ⟨?_,_,_,_,rfl⟩⟩
 ·simp [execOp,resolve,invoke,builtin,hsl.ev hy,hsl.ev hu,hr]
 ·exact ((hx.rd.split q).1.app (hx.rd.split (min q (l.length-q))).1).app (hx.rd.split (q+min q (l.length-q))).2
end
theorem F8 {x:Cx}{ops:Array Oper}{Q:mj}{rest:List Oper}{H:Hp}{M:List b_}{L:Env}{d:Nat}{f:FuncId}{args:List Operand}{J:Array TypeId}{ty:TypeId}{pos:String}{aft:Array Edge}{g:Option (Nat×Bool)}{vs:List RV}{v:RV}
  (hx:∀ w,(callFunc f vs.toArray).run x.P w=.ok (.value v) w)
  (Y:gd ops L ⟨some d,.call ⟨.value (.func f),args.toArray,J⟩,ty,pos,aft,g⟩=some true) (hN:Nat.blt d x.N=true)
  (Z:Aq L args=some vs) (k:W x ops Q rest H M ((d,v)::L)):
  W x ops Q (⟨some d,.call ⟨.value (.func f),args.toArray,J⟩,ty,pos,aft,g⟩::rest) H M L:=
 gL rfl Y hN (λa w hs ht=>by
  have I:args.toArray.map a.eval=vs.toArray:=by simp [hs.Aq Z]
  simp only [execOp,resolve,I,Act.eval,Deferred.ofValue,Se,Sk,Sb,invoke];simp [hx]) k
def OU (s:RU) (c:Int):Int:=Go.Lib.indexByte s.data.toList c.toNat.toUInt8
theorem Gy {P:Program}{f:FuncId}{I:Func} (Z:P.funcs[f]? = some I) (h1:(I.name == "runtime.NumGoroutine")=false) (h2:I.body.isNone=true) (J:Extern.findNext I=none) (Y:Extern.find I=some Extern.BytealgIndexByte.indexByte) (s:RU) (c:Int):
  ∀ w,(callFunc f [.string s,.int .u8 c].toArray).run P w=.ok (.value (.int .i64 (OU s c))) w:=λw=>by
 rw [run_callFunc_extern Z h1 h2 J Y,show [Value.string s,.int .u8 c].toArray=#[.string s,.int .u8 c] from rfl,Go.Lib.run_indexByteString]
 rfl
section
variable {x:Cx}{ops:Array Oper}{Q:mj}{rest:List Oper}{H:Hp}{M M':List b_}{L L':Env}
variable {d:Nat}{ty:TypeId}{pos:String}{aft:Array Edge}{g:Option (Nat×Bool)}
theorem KM {t e:TypeId}{y:Operand}{ad:Option Addr}{J:Nat}
  (Z:gd ops L ⟨none,.call ⟨.builtin .clear,#[y],#[t]⟩,ty,pos,aft,g⟩=some true)
  (Y:x.P.underlying t=some (.slice e)) (hy:ev L y=some (.slice ad 0 J)) (k:W x ops Q rest H M L):
  W x ops Q (⟨none,.call ⟨.builtin .clear,#[y],#[t]⟩,ty,pos,aft,g⟩::rest) H M L:=
 EV rfl Z λa w I ht=>⟨.tuple #[],w,by
  cases ad <;> simp [execOp,resolve,invoke,builtin,I.ev hy,Builtin.clear_,Tm Y],H,M,ht,k⟩
theorem F6 {t e:TypeId}{sz m n Z off cap i c2:Nat}{y:Operand}{z:RV}{zs xs:List RV}
  (hg:gd ops L ⟨none,.call ⟨.builtin .clear,#[y],#[t]⟩,ty,pos,aft,g⟩=some true)
  (hT:x.P.underlying t=some (.slice e)) (hz:∀ w,(zeroValue e).run x.P w=.ok z w) (hzs:z.cells=zs.toArray) (hzl:zs.length=sz) (h1:zs.all Value.oneCell'=true) (hs:Nat.blt 0 sz=true)
  (hi:i<m) (hy:ev L y=some (.slice (some ⟨Z,off+i*sz,none⟩) (m-i) c2))
  (k:W x ops Q rest H (.row (.slice (some ⟨Z,off,none⟩) m cap) e sz m (xs.take (i*sz)++(Builtin.zeroCells z.cells (m-i)).toList)::M) L):
  W x ops Q (⟨none,.call ⟨.builtin .clear,#[y],#[t]⟩,ty,pos,aft,g⟩::rest) H (.row (.slice (some ⟨Z,off,none⟩) m cap) e sz n xs::M) L:=by
 have hs':0<sz:=by simpa [S_] using hs
 refine EV rfl hg λa w hsl ht=>?_;have J:iU w e sz (.slice (some ⟨Z,off,none⟩) m cap) n xs:=ht.ok _ (R6 ..);rcases J.2 with ⟨h0,_⟩ | ⟨gb2,off2,cap2,Y,he,hgb,hnc,hcm,hcs,htake⟩
 ·cases h0
 cases he;obtain ⟨q,hq⟩:∃ q,m-i=q+1:=⟨m-i-1,by omega⟩
 have I:(Builtin.zeroCells z.cells (m-i)).toList.length=(m-i)*sz:=by
  unfold Builtin.zeroCells; rw [hzs]; simp [hzl]
 have hmul:m*sz<=cap*sz:=Si _ hnc;have hsplit:i*sz+(m-i)*sz=m*sz:=by rw [<- So]; congr 1; omega
 have hone:∀ u ∈ (Builtin.zeroCells z.cells (m-i)).toList,u.oneCell'=true:=by
  rw [hzs]; exact zZ (λu hu=>Tg.1 h1 u hu) (by omega) _
 obtain ⟨w',hst,hh,hgr⟩:=jN (P:=x.P) Z (off+i*sz) e (Builtin.zeroCells z.cells (m-i)).toList 0 Y.toList w (by simpa using hgb) (by rw [I]; simp; omega) hone
 refine ⟨.tuple #[],w',?_,H,_,ht.EN (r':=.row (.slice (some ⟨Z,off,none⟩) m cap) e sz m (xs.take (i*sz)++(Builtin.zeroCells z.cells (m-i)).toList)) hgr ⟨?_,.inr ⟨Z,off,cap,_,rfl,hh,hnc,hcm,?_,?_⟩⟩ (λb hb=>.inl hb),k⟩
 ·rw [hq] at hst hy
  simp [execOp,resolve,invoke,builtin,hsl.ev hy,Builtin.clear_,Tm hT,hz,hst]
 ·rw [Sg,Ss,I,J.1]
  omega
 ·simpa [oT] using hcs
 ·rw [Uk,Tt,vT _ _ _ (by rw [I]; simp; omega)]
  have hd:(Y.toList.take (off+i*sz)).drop off=xs.take (i*sz):=by
   rw [Um,TN,<- htake,Wj,S7 (by omega)]
  have hlen2:((Y.toList.take (off+i*sz)).drop off++(Builtin.zeroCells z.cells (m-i)).toList).length=m*sz:=by
   rw [Sg,hd,Ss,I,J.1]; omega
  rw [Sr,Ui (by simp; omega),<- Sr,<- hlen2]
  rw [UY,hd]
theorem w4 {α:Type}[aK α] {t e:TypeId}{n:Nat}{y lo:Operand}{v:RV}{z:RV}{zs xs:List RV}{l:List α}{ze:α}{kk:IntKind}{i:Int}{ty2:TypeId}{Z:String}{J:Array Edge}{g2:Option (Nat×Bool)}
  (hg:gd ops L ⟨some d,.slice t y (some lo) none none,ty,pos,aft,g⟩=some true) (hN:Nat.blt d x.N=true)
  (hg2:∀ u,gd ops ((d,u)::L) ⟨none,.call ⟨.builtin .clear,#[.tmp d],#[t]⟩,ty2,Z,J,g2⟩=some true)
  (hT:x.P.underlying t=some (.slice e)) (hT2:∀ w,(underlying t).run x.P w=.ok (.slice e) w) (hsz:∀ w,(sizeOf e).run x.P w=.ok (aK.sz α) w)
  (hz:∀ w,(zeroValue e).run x.P w=.ok z w) (hzs:z.cells=zs.toArray) (h1:zs.all Value.oneCell'=true) (hs:Nat.blt 0 (aK.sz α)=true) (hE:aK.E H zs ze)
  (hy:ev L y=some v) (hlo:ev L lo=some (.int kk i)) (hx:Rw H v xs l) (hb:0<=i/\i<=(l.length:Int))
  (k:∀ u I,Rw H v I (l.take i.toNat++List.replicate (l.length-i.toNat) ze)->W x ops Q rest H (.row v e (aK.sz α) (l.take i.toNat++List.replicate (l.length-i.toNat) ze).length I::M) ((d,u)::L)):
  W x ops Q (⟨some d,.slice t y (some lo) none none,ty,pos,aft,g⟩::⟨none,.call ⟨.builtin .clear,#[.tmp d],#[t]⟩,ty2,Z,J,g2⟩::rest) H (.row v e (aK.sz α) n xs::M) L:=by
 obtain ⟨hb0,hb1⟩:=hb;obtain ⟨q,rfl⟩:∃ q:Nat,i=q:=⟨i.toNat,by omega⟩
 have hql:q<=l.length:=by omega
 rw [RZ] at k;have hs':0<aK.sz α:=by simpa [S_] using hs
 have hlen:(l.take q++List.replicate (l.length-q) ze).length=l.length:=by simp; omega
 have hlk:∀ u,ev ((d,u)::L) (.tmp d)=some u:=λu=>by simp [ev,uU]
 have hn:∀ {a:Act}{w:World},St x.B x.w0 H (.row v e (aK.sz α) n xs::M) w->n=l.length:=λ{a w} ht=>by
  have hok:iU w e (aK.sz α) v n xs:=ht.ok _ (R6 ..);have h1:=hx.rd.len;rw [hok.1] at h1;exact TM hs' h1
 have same:l.length=q->∀ {L2:Env},(∀ I,Rw H v I (l.take q++List.replicate (l.length-q) ze)->W x ops Q rest H (.row v e (aK.sz α) (l.take q++List.replicate (l.length-q) ze).length I::M) L2)->W x ops Q rest H (.row v e (aK.sz α) n xs::M) L2:=by
  intro hq L2 kk a w Y ht;have hnn:=hn (a:=a) ht;subst hnn;have e:l.take q++List.replicate (l.length-q) ze=l:=by rw [hq,Tk,<- hq,TY]; simp
  have:=kk xs (by rw [e]; exact hx)
  rw [e] at this;exact this a w Y ht
 intro a w Y ht;have hnn:=hn (a:=a) ht;subst hnn;have hok:iU w e (aK.sz α) v l.length xs:=ht.ok _ (R6 ..)
 revert a w
 suffices hh:∀ (oo:Option Addr) (cap:Nat),v=.slice oo l.length cap->l.length<=cap->(q<l.length->∃ gb off,oo=some ⟨gb,off,none⟩) ->
   W x ops Q (⟨some d,.slice t y (some lo) none none,ty,pos,aft,g⟩::⟨none,.call ⟨.builtin .clear,#[.tmp d],#[t]⟩,ty2,Z,J,g2⟩::rest) H (.row v e (aK.sz α) l.length xs::M) L by
  intro a w Y ht hok;rcases hok.2 with ⟨e0,h0⟩ | ⟨gb,off,cap,cur,e0,_,hnc,_⟩
  ·exact hh none 0 (by rw [h0]; exact e0) (by omega) (λh=>by omega) a w Y ht
  ·exact hh (some ⟨gb,off,none⟩) cap e0 hnc (λ_=>⟨gb,off,rfl⟩) a w Y ht
 intro oo cap hv hnc hsome;subst hv
 by_cases hq:l.length=q
 ·refine rD (m:=cap) (h:=l.length) (l:=q) hg hN hT2 hsz hy (.inl rfl) (.inl ⟨rfl,rfl⟩) (.inl ⟨rfl,rfl⟩) (.inr ⟨_,_,_,rfl,hlo,by omega,by omega,by omega⟩) (v':=.slice (if cap=q then oo else oo.map (·.add (q*aK.sz α))) 0 (cap-q)) (by rw [hq,Tk]) ?_
  exact KM (hg2 _) hT (hlk _) (same hq (λI hx'=>k _ I hx'))
 ·obtain ⟨gb,off,rfl⟩:=hsome (by omega)
  refine rD (m:=cap) (h:=l.length) (l:=q) hg hN hT2 hsz hy (.inl rfl) (.inl ⟨rfl,rfl⟩) (.inl ⟨rfl,rfl⟩) (.inr ⟨_,_,_,rfl,hlo,by omega,by omega,by omega⟩) (v':=.slice (some ⟨gb,off+q*aK.sz α,none⟩) (l.length-q) (cap-q)) (by rw [R8 (by omega),Tq,SZ]) ?_
  have hzl:zs.length=aK.sz α:=aK.len hE;refine F6 (i:=q) (sz:=aK.sz α) (hg2 _) hT hz hzs hzl h1 hs (by omega) (hlk _) ?_
  have hcells:(Builtin.zeroCells z.cells (l.length-q)).toList=(List.range ((l.length-q)*aK.sz α)).map (zs.toArray[·%zs.length]!):=by
   unfold Builtin.zeroCells;rw [hzs];simp [hzl]
  have hrw:Rw H (.slice (some ⟨gb,off,none⟩) l.length cap) (xs.take (q*aK.sz α)++(Builtin.zeroCells z.cells (l.length-q)).toList) (l.take q++List.replicate (l.length-q) ze):=
   ⟨(hx.rd.split q).1.app (by rw [hcells]; exact Oc hE hzl _),_,_,_,rfl⟩
  have:=k (.slice (some ⟨gb,off+q*aK.sz α,none⟩) (l.length-q) (cap-q)) _ hrw;rw [hlen] at this;exact this
end
theorem Il (k:Nat):pL .u64 (k:Int) 32=((k / 4294967296:Nat):Int):=by
 unfold pL;rw [show (2:Int) ^ (min (32:Int).toNat u64.bits)=4294967296 from rfl];rw [UR _ (by decide)]
 omega
def Ie {α:Type} (s:List α) (n:Int):List α:=(List.replicate n.toNat s).flatten
theorem zq {α:Type} (a:α) (m:Nat):Ie [a] (m:Int)=List.replicate m a:=by
 unfold Ie;rw [RZ]
 induction m with
 | zero=>rfl
 | succ m ih=>rw [UL,UL,List.flatten_cons,ih]; rfl
theorem GV {α:Type}{a:α}{l:List α}{q:Nat} (h:l.take q=List.replicate q a) (I:q<=l.length):
  (l.take q++l.take (min q (l.length-q))++l.drop (q+min q (l.length-q))).take (q+min q (l.length-q))=List.replicate (q+min q (l.length-q)) a:=by
 have h2:l.take (min q (l.length-q))=List.replicate (min q (l.length-q)) a:=by
  have:=SJ (List.take (min q (l.length-q))) h
  rwa [Wj,List.take_replicate,show min (min q (l.length-q)) q=min q (l.length-q) by omega] at this
 rw [h,h2,List.replicate_append_replicate];rw [U9 (by simp),Sh (by simp)]
section
variable {B:Nat}{w0 w w':World}{H:Hp}{M:List b_}
theorem St.var? (ht:St B w0 H M w) {P:Program}{n:String}{g:Nat} (J:P.globalNamed n=some g) (I:g<B):w.var? P n=w0.var? P n:=by
 unfold World.var?;rw [J];simp only [UT];rw [ht.below.block g I]
theorem St.under (ht:St B w0 H M w) (I:Below w.heap.size w w'):St B w0 H M w':=
 ht.grow ⟨I.os,I.tape,I.output,I.size,λi hi _=>I.block i hi⟩
theorem St.Rf (ht:St B w0 H M w) {P:Program}{n:String}{g:Nat}{k:IntKind}{zs:List Int} (J:Lib.TabIs P w0 n k zs) (Y:P.globalNamed n=some g) (I:g<B):Lib.TabIs P w n k zs:=
 (ht.var? Y I).trans J
end
theorem FT {P:Program}{W:World}{n:String}{g:Nat}{cs:Array RV} (I:P.globalNamed n=some g) (h:W.var? P n=some cs):g<W.heap.size:=by
 unfold World.var? at h;rw [I] at h;simp only [UT] at h
 split at h
 ·rename_i o _ _ ho
  exact (Tw.1 ho).1
 ·cases h
def Of (v:RV) (b:Bool):Prop:=(b=false/\v=.nilIface)\/(b=true/\∃ T p,v=.iface T p)
section
variable {x:Cx}{ops:Array Oper}{Q:mj}{rest:List Oper}{H:Hp}{M:List b_}{L:Env}
variable {d:Nat}{ty:TypeId}{pos:String}{aft:Array Edge}{g:Option (Nat×Bool)}
theorem MQ {t u:TypeId}{y:Operand}{v:RV}{b:Bool}{ms:Array (String×TypeId)} (J:∀ w,(underlying t).run x.P w=.ok (.interface ms) w) (he:Of v b) (hg:gd ops L ⟨some d,.binOp .neq t y (.const .nilIface) u,ty,pos,aft,g⟩=some true) (hN:Nat.blt d x.N=true)
  (Y:ev L y=some v) (k:W x ops Q rest H M ((d,.bool b)::L)):W x ops Q (⟨some d,.binOp .neq t y (.const .nilIface) u,ty,pos,aft,g⟩::rest) H M L:=
 gL rfl hg hN (λc w hs _=>by
  have Z:c.eval (.const .nilIface)=.nilIface:=rfl;rcases he with ⟨rfl,rfl⟩ | ⟨rfl,T,p,rfl⟩
  ·have key:∀ k,(Op.equalIn (k+1) t .nilIface .nilIface).run x.P w=.ok true w:=λk=>by
    unfold Op.equalIn;simp [J]
   have I:(Op.equal t .nilIface .nilIface).run x.P w=.ok true w:=key 9999;simp only [execOp,hs.ev Y,Z,Se,eqGuard,binOp];simp [I]
  ·have key:∀ k,(Op.equalIn (k+1) t (.iface T p) .nilIface).run x.P w=.ok false w:=λk=>by
    unfold Op.equalIn;simp [J]
   have I:(Op.equal t (.iface T p) .nilIface).run x.P w=.ok false w:=key 9999;simp only [execOp,hs.ev Y,Z,Se,eqGuard,binOp];simp [I]) k
def AP (l:List U8):RU:=⟨(l.map λy=>UInt8.ofNat y.n.toNat).toArray⟩
theorem Dd:∀ (ns:List Int) (r:RU),ns.foldl (λr n=>r.push (UInt8.ofNat n.toNat)) r=⟨r.data++(ns.map λn=>UInt8.ofNat n.toNat).toArray⟩
 | [],r=>by simp
 | n::ns,r=>by
  rw [List.foldl_cons,Dd ns];simp [ByteArray.push]
theorem aU.bytes {H:Hp}{v:RV}{l:List U8} (hR:aU H v l) {B:Nat}{w0 w:World}{M:List b_}{P:Program} (ht:St B w0 H M w):(Conv.bytesToString v).run P w=.ok (.string (AP l)) w:=by
 rcases hR with ⟨⟨a,rfl⟩,rfl⟩ | ⟨b,off,cap,arr,T,fz,rfl,h2,h3,Z,h5,h6⟩
 ·cases a with
  | none=>rfl
  | some a=>
   rw [run_bytesToString w a 0 0 [] (by simp [loadCells,loadCellsFrom,Sk])]
   rfl
 ·have hl:=run_loadCells_list (P:=P) w ⟨b,off,none⟩ ((l.map λy=>y.n).map (Value.int .u8)) (λj v Y=>by
   rw [SD,SD,Option.map_map,V9] at Y;obtain ⟨y,hy,rfl⟩:=Y;obtain ⟨cs,J,q2⟩:=h6 j y hy;have J:cs=[.int .u8 y.n]:=J;have:=q2 0 (.int .u8 y.n) (by rw [J]; rfl)
   have hb:=ht.vZ b _ Z;rw [SZ];simp only [World.cell?,hb];simpa [aK.sz] using this)
  simp only [Uc] at hl;rw [run_bytesToString w ⟨b,off,none⟩ l.length cap _ hl,Dd];have I:ByteArray.empty.data=#[]:=rfl;rw [I];simp [AP,List.map_map,Function.comp_def]
end
def ny (n:Int):RU:=⟨(Lib.itoa n).toArray⟩
def NG (s:RU):Int×Bool:=match Lib.parseUintM 4294967295 0 s.data.toList with
 | .ok v=>((v:Int),false)
 | .range=>(4294967295,true)
 | _=>(0,true)
end Go.Sim
namespace Go.Sim
open Go
open _root_.Go.IntKind (i64 u64 u32 u8)
abbrev xB (b c:Nat) (seen:Array Nat):Obj:=.mapIter (some b) c seen c
theorem Kd {P:Program}{w:World}{ty:TypeId}{b c Z:Nat}{seen:Array Nat}{es:Array MapEntry} (hi:w.heap[Z]? = some (xB b c seen)) (hb:w.heap[b]? = some (.map es c)) (J:∀ e ∈ es.toList,e.born<c):
  ((∀ e ∈ es.toList,seen.contains e.born=true)/\(Instr.next (.pointer (some ⟨Z,0,none⟩)) false ty).run P w=.ok (.tuple #[.bool false]) w) \/
  ∃ e ∈ es.toList,seen.contains e.born=false/\∃ n,(Instr.next (.pointer (some ⟨Z,0,none⟩)) false ty).run P w=.ok (.tuple #[.bool true,e.key,e.val]) { w with drawn:=n,heap:=w.heap.setIfInBounds Z (xB b c (seen.push e.born)) }:=by
 simp only [Instr.next,getObj,Se,Sem.run,hi,hb,Result.andThen,next_test_false seen es c c J (Sj _),Te,TV];have I:∀ x ∈ (Array.filter (λe=>!seen.contains e.born) es).toList,x ∈ es.toList/\seen.contains x.born=false:=λx hx=>by simpa using hx
 have Y:Array.filter (λe=>!seen.contains e.born) es=#[]->∀ e ∈ es.toList,seen.contains e.born=true:=λh e he=>by
  rw [Array.filter_eq_empty_iff] at h;have:=h e (by simpa using he)
  simpa using this
 generalize Array.filter (λe=>!seen.contains e.born) es=K at I Y ⊢;have e1:K.filter (λx=>decide (x.born<c))=K:=Array.filter_eq_self.2 (λx hx=>by
  have:=J x (I x (by simpa using hx)).1
  simpa using this)
 have e2:K.filter (λx=>decide (x.born≥c))=#[]:=by
  rw [Array.filter_eq_empty_iff];intro x hx;have:=J x (I x (by simpa using hx)).1
  simp;omega
 simp only [e1,e2,Array.append_empty]
 by_cases h0:K.size=0
 ·left
  have:K=#[]:=Array.eq_empty_of_size_eq_zero h0;subst this;refine ⟨Y rfl,?_⟩;simp [choose,Sem.run,Question.forced]
 ·right
  have hne:K.isEmpty=false:=by simp [Array.isEmpty,h0]
  simp only [hne,Te,TV,Array.empty_append,Array.size_map];have hch:∃ (j n:Nat),j<K.size/\(choose (Question.mapNext K.size)).run P w=.ok j { w with drawn:=n }:=by
   by_cases hf:K.size<=1
   ·exact ⟨0,w.drawn,by omega,by simp [choose,Sem.run,Question.forced,hf]⟩
   ·exact ⟨_,w.drawn+1,U3 _ (by omega),by
     simp only [choose,Sem.run,Question.forced,SO,hf,TV,Question.cut]
     rfl⟩
  obtain ⟨j,n,hj,hrun⟩:=hch;obtain ⟨m1,m2⟩:=I K[j] (by simp)
  refine ⟨K[j],m1,m2,n,?_⟩;have hset:∀ o,(setObj Z o).run P { w with drawn:=n }=.ok () { w with drawn:=n,heap:=w.heap.setIfInBounds Z o }:=λo=>by simp [setObj,Sem.run,hi]
  simp only [hrun,Array.getElem?_map,U1 hj,Tq,Se,hset,Result.andThen]
  rfl
theorem Ig {P:Program}{w:World}{b c I:Nat}{seen:Array Nat}{es:Array MapEntry}{e:MapEntry} (hi:w.heap[I]? = some (xB b c (seen.push e.born))) (J:w.heap[b]? = some (.map es c)) (he:e ∈ es.toList) (hn:(es.toList.map (·.born)).Nodup):
  (Instr.entry (.pointer (some ⟨I,0,none⟩))).run P w=.ok (.tuple #[e.key,e.val]) w:=by
 have Y:es.find? (·.born == e.born)=some e:=by rw [<- Array.find?_toList]; exact find_born e es.toList hn he
 simp only [Instr.entry,getObj,Se,Sem.run,hi,J,Result.andThen,Array.back?_push,bne_self_eq_false,Te,TV,Y]
 rfl
section
variable {x:Cx}{ops:Array Oper}{Q:mj}{rest:List Oper}{H:Hp}{M M':List b_}{L L':Env}
variable {d:Nat}{ty:TypeId}{pos:String}{aft:Array Edge}{g:Option (Nat×Bool)}
variable {κ ν:Type}[DecidableEq κ] [yG κ] [MV ν]
theorem KT {t key e:TypeId}{b c:Nat}{y:Operand}{es:Array MapEntry} (O:b_.obj b (.map es c) ∈ M)
  (Z:gd ops L ⟨some d,.range t y,ty,pos,aft,g⟩=some true) (hN:Nat.blt d x.N=true)
  (J:∀ w,(underlying t).run x.P w=.ok (.map key e) w) (hy:ev L y=some (.map (some b)))
  (k:∀ I,W x ops Q rest H (.obj I (xB b c #[])::M) ((d,.pointer (some ⟨I,0,none⟩))::L)):
  W x ops Q (⟨some d,.range t y,ty,pos,aft,g⟩::rest) H M L:=
 tT rfl Z hN (λa w hs ht=>⟨_,w.alloc (xB b c #[]),by
  have Y:=ht.xo O;simp only [execOp,hs.ev hy,Instr.range,Se,J,Sb,ye Y,Sk,newObj,Sem.run,World.alloc],_,_,ht.alloc _,k _⟩)
theorem MS {b c I:Nat}{y:Operand}{seen:Array Nat}{es:Array MapEntry}{l:List (κ×ν)} (O:b_.obj b (.map es c) ∈ M) (h:tR es c l)
  (hg:gd ops L ⟨some d,.next y false,ty,pos,aft,g⟩=some true) (hN:Nat.blt d x.N=true) (Y:ev L y=some (.pointer (some ⟨I,0,none⟩)))
  (k1:(∀ e ∈ es.toList,seen.contains e.born=true)->W x ops Q rest H (.obj I (xB b c seen)::M) ((d,.tuple #[.bool false])::L))
  (k2:∀ e ∈ es.toList,seen.contains e.born=false->W x ops Q rest H (.obj I (xB b c (seen.push e.born))::M) ((d,.tuple #[.bool true,e.key,e.val])::L)):
  W x ops Q (⟨some d,.next y false,ty,pos,aft,g⟩::rest) H (.obj I (xB b c seen)::M) L:=
 tT rfl hg hN (λa w hs ht=>by
  have hi:=ht.xo (R6 ..);have Z:=ht.xo (Sa _ O);have J:I<w.heap.size:=(Tw.1 hi).1;rcases Kd (P:=x.P) (ty:=ty) hi Z h.lt with ⟨hall,hr⟩ | ⟨e,he,hne,n,hr⟩
  ·exact ⟨_,w,by simp only [execOp,hs.ev Y,Se,hr,Sb,Sk],_,_,ht,k1 hall⟩
  ·refine ⟨_,{ w with drawn:=n,heap:=w.heap.setIfInBounds I (xB b c (seen.push e.born)) },by simp only [execOp,hs.ev Y,Se,hr,Sb,Sk],_,_,?_,k2 e he hne⟩
   have h1:=ht.EN (r':=.obj I (xB b c (seen.push e.born))) (zc w I (xB b c (seen.push e.born))) (by simp [b_.ok,J]) (λ_ hc=>.inl hc)
   exact h1.drewN n)
theorem KN {b c I:Nat}{y:Operand}{seen:Array Nat}{es:Array MapEntry}{l:List (κ×ν)}{e:MapEntry} (hi:b_.obj I (xB b c (seen.push e.born)) ∈ M) (O:b_.obj b (.map es c) ∈ M) (h:tR es c l) (he:e ∈ es.toList) {J Y:RV} (hk:e.key=J) (hv:e.val=Y)
  (Z:gd ops L ⟨some d,.entry y,ty,pos,aft,g⟩=some true) (hN:Nat.blt d x.N=true) (hy:ev L y=some (.pointer (some ⟨I,0,none⟩)))
  (k:W x ops Q rest H M ((d,.tuple #[J,Y])::L)):
  W x ops Q (⟨some d,.entry y,ty,pos,aft,g⟩::rest) H M L:=
 gL rfl Z hN (λa w hs ht=>by
  subst hk; subst hv
  simp only [execOp,hs.ev hy,Se,Ig (P:=x.P) (ht.xo hi) (ht.xo O) he h.nd,Sb,Sk]) k
end
theorem tR.pick {κ ν:Type}[DecidableEq κ] [yG κ] [MV ν] {es:Array MapEntry}{c:Nat}{l:List (κ×ν)} (h:tR es c l) {e:MapEntry} (he:e ∈ es.toList):∃ (i:Nat) (p:κ×ν),es.toList[i]? = some e/\l[i]? = some p/\e.key=MV.mv p.1/\e.val=MV.mv p.2:=by
 obtain ⟨i,hi,rfl⟩:=Ti.1 he;have h1:(es.toList.map λe=>(e.key,e.val))[i]? = (l.map λp=>(MV.mv p.1,MV.mv p.2))[i]? := by rw [h.eq]
 rw [SD,SD,RY hi] at h1;cases I:l[i]? with
 | none=>rw [I] at h1; simp at h1
 | some p=>
  rw [I] at h1;simp only [Tq,Sn,UB] at h1;exact ⟨i,p,RY hi,I,h1.1,h1.2⟩
def AL {α:Type} (es:Array MapEntry) (seen:Array Nat) (l:List α) (P:α->Bool):Prop:=∀ (i:Nat) (p:α),l[i]? = some p->∀ e,es.toList[i]? = some e->seen.contains e.born=true->P p=false
theorem AL.nil {α:Type}{es:Array MapEntry}{l:List α}{P:α->Bool}:AL es #[] l P:=λi p I e he h=>by simp at h
theorem AL.push {κ ν:Type}[DecidableEq κ] [yG κ] [MV ν] {es:Array MapEntry}{c:Nat}{seen:Array Nat}{l:List (κ×ν)}{P:κ×ν->Bool} (hs:AL es seen l P) (h:tR es c l) {i:Nat}{p:κ×ν}{e:MapEntry}
  (hi:es.toList[i]? = some e) (hp:l[i]? = some p) (hP:P p=false):AL es (seen.push e.born) l P:=λj q hq e' he' J=>by
 by_cases hj:i=j
 ·subst hj
  rw [hp] at hq;obtain rfl:=RX hq;exact hP
 ·refine hs j q hq e' he' ?_
  have hne:e'.born≠e.born:=λhb=>by
   obtain ⟨h1,h2⟩:=R3.1 hi;obtain ⟨h3,h4⟩:=R3.1 he';have hpw:=Vp.1 h.nd;have Y:i<(es.toList.map (·.born)).length:=by simpa using h1
   have Z:j<(es.toList.map (·.born)).length:=by simpa using h3
   rcases Nat.lt_or_gt_of_ne hj with I | I
   ·exact hpw i j Y Z I (by rw [Ut,Ut,h2,h4]; exact hb.symm)
   ·exact hpw j i Z Y I (by rw [Ut,Ut,h2,h4]; exact hb)
  simp at J ⊢;rcases J with J | J
  ·exact J
  ·exact absurd J hne
theorem AL.none {κ ν:Type}[DecidableEq κ] [yG κ] [MV ν] {es:Array MapEntry}{c:Nat}{seen:Array Nat}{l:List (κ×ν)}{P:κ×ν->Bool} (hs:AL es seen l P) (h:tR es c l) (I:∀ e ∈ es.toList,seen.contains e.born=true):l.any P=false:=by
 rw [List.any_eq_false];intro p Z;obtain ⟨i,hi,rfl⟩:=Ti.1 Z;have Y:es.toList.length=l.length:=by have:=SJ List.length h.eq; simpa using this
 have J:i<es.toList.length:=by omega
 have:=hs i l[i] (RY hi) es.toList[i] (RY J) (I _ (Sz J));simp [this]
theorem OI {α:Type}{l:List α}{P:α->Bool}{i:Nat}{p:α} (I:l[i]? = some p) (hP:P p=true):l.any P=true:=
 List.any_eq_true.2 ⟨p,Sd I,hP⟩
def FO (es:Array MapEntry) (seen:Array Nat):Nat:=(es.toList.filter λe=>!seen.contains e.born).length
theorem Km {es:Array MapEntry}{seen:Array Nat}{e:MapEntry} (he:e ∈ es.toList) (h:seen.contains e.born=false):FO es (seen.push e.born)<FO es seen:=by
 unfold FO;refine filter_lt (λe=>!seen.contains e.born) (λJ=>!(seen.push e.born).contains J.born) (λy I=>?_) e (by simp only [h]; rfl) (by simp) es.toList he
 simp at I ⊢;exact I.1
end Go.Sim
namespace Go.Sim
open Go Go.RowKit
open _root_.Go.IntKind (i64 u64 u32 u8)
def Qv (b:Nat) (p:RV):Prop:=p=.pointer none\/p=.pointer (some ⟨b,0,none⟩)
theorem Ch (s:RU):Lib.strCells s=(lz s).map (λy=>Value.int .u8 y.n):=by
 simp [Lib.strCells,lz,Function.comp_def]
theorem rL.u8 (H:Hp) (l:List U8):rL H (l.map λy=>Value.int .u8 y.n) l:=by
 induction l with
 | nil=>exact rL.nil
 | cons y l ih=>exact ⟨[.int .u8 y.n],_,rfl,rfl,ih⟩
theorem BL {P:Program}{w:World}{t u ty e:TypeId}{i:TypeInfo} (ht:P.underlying t=some (.slice e)) (hu:P.underlying u=some .string) (hi:P.info? e=some i) (hz:i.zero=some (.int .u8 0))
  (J:i.size=1) (hby:i.bytes=1) {v:RV}{n:Nat}{xs:List RV} (hown:iU w e 1 v n xs) (s:RU) (h63:n+s.size<=maxLen) (hbytes:n+s.size<=140737488355328):
  ∃ v' w',(Builtin.append_ #[t,u] ty #[v,.string s]).run P w=.ok v' w'/\iU w' e 1 v' (n+s.size) (xs++Lib.strCells s)/\w.grownBy w' v.ownBlock /\
   (∀ b,v'.ownBlock=some b->v.ownBlock=some b\/w.heap.size<=b):=by
 have hsmall:n+s.size<=9223372036854775807:=by simp only [maxLen] at h63; omega
 have hxl:xs.length=n:=by simpa using hown.1
 have Y:(xs++Lib.strCells s).length=(n+s.size)*1:=by rw [Sg,hxl,VT,UO]
 have Z:∀ (vf:Nat) (row:Option Nat),
   iU (w.drew.alloc (.cells (xs.toArray++(Lib.strCells s).toArray++Builtin.zeroCells (Value.int .u8 0).cells (grownCap w (n+s.size) vf e-(n+s.size))) e)) e 1
    (.slice (some ⟨w.heap.size,0,none⟩) (n+s.size) (grownCap w (n+s.size) vf e)) (n+s.size) (xs++Lib.strCells s) /\
   w.grownBy (w.drew.alloc (.cells (xs.toArray++(Lib.strCells s).toArray++Builtin.zeroCells (Value.int .u8 0).cells (grownCap w (n+s.size) vf e-(n+s.size))) e)) row:=by
  intro vf row;have hge:=Xv w (n+s.size) vf e;have hcm:grownCap w (n+s.size) vf e<=maxLen:=WO w (n+s.size) vf e h63;refine ⟨⟨Y,.inr ⟨w.heap.size,0,_,_,rfl,WY w.drew _,hge,hcm,?_,?_⟩⟩,⟨rfl,rfl,rfl,by simp,λk hk _=>heap_alloc_old w.drew _ (h:=hk)⟩⟩
  ·have hz1:(Value.int u8 0).cells.size=1:=rfl
   simp only [Array.size_append,UF,size_zeroCells,hz1,hxl,VT];omega
  ·simp only [Tr,Xp,Sr]
   rw [<- Sr,<- Y];exact UY
 rcases hown.2 with ⟨rfl,rfl⟩ | ⟨g,off,cap,cur,rfl,hg,hnc,hcm,hcs,htake⟩
 ·have hx:xs=[]:=Sv hxl
  subst hx
  by_cases O:s.size=0
  ·have hn:Lib.strCells s=[]:=Sv (by rw [VT]; exact O)
   refine ⟨.slice none 0 0,w,?_,by rw [O,hn]; exact iU.nil w e 1,⟨rfl,rfl,rfl,Sj _,λ_ _ _=>rfl⟩,by simp [Value.ownBlock]⟩
   have hf:=Lib.run_firstCells_string (P:=P) w 1 s;rw [O] at hf;simp [Builtin.append_,Tm ht,Tm hu,sizeOf,typeInfo,hi,J,Builtin.lenOf,O,hf]
  ·have hr:=run_append_nil_string (P:=P) w t u ty e i (.int .u8 0) ht hu hi hz s (by omega) (by omega) (by rw [hby]; omega)
   have I:=Z 0 (Value.ownBlock (.slice none 0 0));simp only [Sp,TG,Array.empty_append] at I ⊢;have e1:(s.data.map λb=>Value.int .u8 b.toNat)=(Lib.strCells s).toArray:=by
    apply Array.ext';simp [Lib.strCells]
   rw [e1] at hr;exact ⟨_,_,hr,I.1,I.2,λb hb=>.inr (by simp only [Value.ownBlock,Sn] at hb; omega)⟩
 ·have hcs':off+cap<=cur.size:=by simpa using hcs
  by_cases hroom:n+s.size<=cap
  ·have hf:=Lib.run_firstCells_string (P:=P) w 1 s
   obtain ⟨w',hst,hh,I⟩:=jN (P:=P) g (off+n) e (Lib.strCells s) 0 cur.toList w (by simpa using hg) (by rw [VT]; simp; omega) (Lib.strCells_oneCell s)
   refine ⟨.slice (some ⟨g,off,none⟩) (n+s.size) cap,w',?_,⟨Y,.inr ⟨g,off,cap,_,rfl,hh,hroom,hcm,?_,?_⟩⟩,I,λb hb=>.inl hb⟩
   ·simp [Builtin.append_,Tm ht,Tm hu,sizeOf,typeInfo,hi,J,Builtin.lenOf,hroom,hf,SZ,hst]
   ·simpa [oT] using hcs
   ·rw [Uk,Tt,vT _ _ _ (by rw [VT]; simp; omega)]
    have hd:(cur.toList.take (off+n)).drop off=xs:=by rw [Um,TN]; simpa using htake
    rw [Sr,Ui (by simp; omega),hd,<- Sr,<- Y]
    exact UY
  ·have holds:∀ j u,xs[j]? = some u->w.cell? ((⟨g,off,none⟩:Addr).add j)=some u:=by
    intro j u hu;rw [SZ];refine WW hg rfl ?_;rw [<- htake,SU] at hu
    split at hu
    ·rw [SK] at hu; simpa using hu
    ·cases hu
   have hr:=Lib.run_append_grow_string (P:=P) w t u ty e i (.int .u8 0) ht hu hi hz ⟨g,off,none⟩ n cap xs (by rw [J]; simpa using hxl) holds s (by omega) (by omega) (by rw [hby]; exact Xt (by omega) (by omega))
   have I:=Z cap (Value.ownBlock (.slice (some ⟨g,off,none⟩) n cap));exact ⟨_,_,hr,I.1,I.2,λb hb=>.inr (by simp only [Value.ownBlock,Sn] at hb; omega)⟩
section
variable {x:Cx}{ops:Array Oper}{Q:mj}{rest:List Oper}{H:Hp}{M M':List b_}{L L':Env}
variable {d:Nat}{ty:TypeId}{pos:String}{aft:Array Edge}{g:Option (Nat×Bool)}
theorem F5 {t u e:TypeId}{n:Nat}{y z:Operand}{v:RV}{xs:List RV}{l:List U8}{s:RU}
  (hg:gd ops L ⟨some d,.call ⟨.builtin .append,#[y,z],#[t,u]⟩,ty,pos,aft,g⟩=some true) (hN:Nat.blt d x.N=true)
  (hT:x.P.underlying t=some (.slice e)) (hU:x.P.underlying u=some .string) (hi:OG x.P e 1 1 (.int .u8 0))
  (hy:ev L y=some v) (hz:ev L z=some (.string s)) (hx:Rw H v xs l) (hb:l.length+s.size<=140737488355328)
  (k:∀ v' Z,Rw H v' Z (l++lz s)->W x ops Q rest H (.row v' e (aK.sz U8) (l++lz s).length Z::M) ((d,v')::L)):
  W x ops Q (⟨some d,.call ⟨.builtin .append,#[y,z],#[t,u]⟩,ty,pos,aft,g⟩::rest) H (.row v e (aK.sz U8) n xs::M) L:=by
 obtain ⟨i,h1,h2,h3,h4⟩:=hi.ex;refine tT rfl hg hN λa w Y ht=>?_;have I:iU w e 1 v n xs:=ht.ok _ (R6 ..);have hn:n=l.length:=by
  have:=hx.rd.len;rw [I.1] at this;exact TM (Nat.zero_lt_one) this
 subst hn;obtain ⟨v',w',hr,ho,hgr,hfr⟩:=BL (P:=x.P) (ty:=ty) hT hU h1 h4 h2 h3 I s (by unfold maxLen; omega) hb
 have J:(l++lz s).length=l.length+s.size:=by rw [Sg,Aj]
 have hok:b_.ok w' (.row v' e (aK.sz U8) (l++lz s).length (xs++Lib.strCells s)):=by rw [J]; exact ho
 refine ⟨v',w',?_,H,_,ht.EN (r':=.row v' e (aK.sz U8) (l++lz s).length (xs++Lib.strCells s)) hgr hok hfr,k v' _ ⟨?_,ho.shape⟩⟩
 ·simp [execOp,resolve,invoke,builtin,Y.ev hy,Y.ev hz,hr]
 ·rw [Ch]
  exact hx.rd.app (rL.u8 H _)
theorem Ga {t e u:TypeId}{y z:Operand}{a:Addr} (hi:∃ j,x.P.info? e=some j) (J:gd ops L ⟨some d,.binOp .neq t y z u,ty,pos,aft,g⟩=some true) (hN:Nat.blt d x.N=true)
  (I:x.P.underlying t=some (.pointer e)) (Z:ev L y=some (.pointer (some a))) (hz:ev L z=some (.pointer (some a)))
  (k:W x ops Q rest H M ((d,.bool false)::L)):W x ops Q (⟨some d,.binOp .neq t y z u,ty,pos,aft,g⟩::rest) H M L:=
 gL rfl J hN (λc w hs _=>by
  obtain ⟨j,Y⟩:=hi;have h:=Lib.run_neq_ptr_same (P:=x.P) w a I Y;simp only [execOp,hs.ev Z,hs.ev hz,Se,eqGuard];simp [h]) k
theorem EE {B:Nat}{w0 w:World}{b:Nat}{cs:List RV}{T:TypeId} (ht:St B w0 H M w) (O:b_.obj b (.cells cs.toArray T (0,0)) ∈ M):w.shape? b=some (T,cs.length):=by
 have h:=ht.xo O;simp [World.shape?,h]
theorem Hi {src I T e:TypeId}{y:Operand}{b o:Nat}{cs:List RV} (O:b_.obj b (.cells cs.toArray e (0,0)) ∈ M) (ho:Nat.blt o cs.length=true)
  (hi:∃ j,x.P.info? T=some j/\Nat.beq j.size 0=false) (hg:gd ops L ⟨some d,.convert src I y,ty,pos,aft,g⟩=some true) (hN:Nat.blt d x.N=true)
  (hs:x.P.underlying src=some (.pointer T)) (Z:x.P.underlying I=some .unsafePointer) (hy:ev L y=some (.pointer (some ⟨b,o,none⟩)))
  (k:W x ops Q rest H M ((d,.pointer (some ⟨b,o,none⟩))::L)):W x ops Q (⟨some d,.convert src I y,ty,pos,aft,g⟩::rest) H M L:=
 gL rfl hg hN (λc w Y ht=>by
  obtain ⟨j,hj,J⟩:=hi;have h:=Lib.run_to_unsafe (P:=x.P) w ⟨b,o,none⟩ hs Z hj (λe=>by rw [e] at J; cases J) (EE ht O) (by simpa [S_] using ho)
  simp only [execOp,Y.ev hy,Se,h,Sb,Sk]) k
theorem EU {src I T e:TypeId}{y:Operand}{b o:Nat}{cs:List RV} (O:b_.obj b (.cells cs.toArray e (0,0)) ∈ M)
  (hi:∃ j,x.P.info? T=some j) (hl:liesAt x.P x.P.depth e (cs.length / x.P.cellsOf e) o T 1=true) (Z:gd ops L ⟨some d,.convert src I y,ty,pos,aft,g⟩=some true) (hN:Nat.blt d x.N=true)
  (hs:x.P.underlying src=some .unsafePointer) (Y:x.P.underlying I=some (.pointer T)) (hy:ev L y=some (.pointer (some ⟨b,o,none⟩)))
  (k:W x ops Q rest H M ((d,.pointer (some ⟨b,o,none⟩))::L)):W x ops Q (⟨some d,.convert src I y,ty,pos,aft,g⟩::rest) H M L:=
 gL rfl Z hN (λc w J ht=>by
  obtain ⟨j,hj⟩:=hi;have h:=Lib.run_from_unsafe (P:=x.P) w ⟨b,o,none⟩ hs Y hj (EE ht O) hl;simp only [execOp,J.ev hy,Se,h,Sb,Sk]) k
theorem Fy {P:Program}{f:FuncId}{I:Func} (Z:P.funcs[f]? = some I) (h1:(I.name == "runtime.NumGoroutine")=false) (h2:I.body.isNone=true) (J:Extern.findNext I=none) (Y:Extern.find I=some Extern.AbiNoEscape.same) (v:RV):
  ∀ w,(callFunc f [v].toArray).run P w=.ok (.value v) w:=λw=>by
 rw [run_callFunc_extern Z h1 h2 J Y,show [v].toArray=#[v] from rfl,Lib.run_noEscape]
 rfl
theorem Ge {J:Array TypeId}{y:Operand}{a:Addr}{n c:Nat} (Z:gd ops L ⟨some d,.call ⟨.builtin .unsafeSliceData,#[y],J⟩,ty,pos,aft,g⟩=some true) (hN:Nat.blt d x.N=true)
  (hy:ev L y=some (.slice (some a) n c)) (Y:c≠0) (k:W x ops Q rest H M ((d,.pointer (some a))::L)):
  W x ops Q (⟨some d,.call ⟨.builtin .unsafeSliceData,#[y],J⟩,ty,pos,aft,g⟩::rest) H M L:=
 gL rfl Z hN (λs w I ht=>by
  have h:=Lib.run_unsafeSliceData_row (P:=x.P) w J ty a n c Y;simp [execOp,resolve,invoke,builtin,I.ev hy,h]) k
theorem zt {P:Program} (w:World):∀ (l:List U8) (a:Addr) (acc:RU),(∀ j y,l[j]? = some y->w.cell? (a.add j)=some (.int .u8 y.n)) ->
  (loadBytes a acc l.length).run P w=.ok ⟨acc.data++(l.map λy=>UInt8.ofNat y.n.toNat).toArray⟩ w
 | [],a,acc,_=>by simp [loadBytes]
 | y::l,a,acc,h=>by
  have J:w.cell? a=some (.int .u8 y.n):=by
   have:=h 0 y rfl;simpa [Addr.add] using this
  have ih:=zt (P:=P) w l (a.add 1) (acc.push (UInt8.ofNat y.n.toNat)) (λj z Z=>by
   have:=h (j+1) z (by simpa using Z)
   have e:(a.add 1).add j=a.add (j+1):=by
    unfold Addr.add
    by_cases I:j=0
    ·subst I; simp
    ·simp [I]; omega
   rw [e]; exact this)
  have Y:(y.n.toNat).toUInt8=UInt8.ofNat y.n.toNat:=rfl;simp only [R_,loadBytes,Se,run_load,J,Result.andThen,Y];rw [ih]
  congr 1
  apply ByteArray.ext;simp [ByteArray.push]
theorem D6 {P:Program}{e:TypeId} (Y:P.cellsOf e=1) (I off n:Nat) (hn:off+n<=I):liesAt P P.depth e I off e n=true:=by
 have J:P.depth=(2*(P.types.size+Made.depth)+1)+1:=rfl;rw [J];simp only [liesAt,TI]
 left
 rw [J];simp [rowAt,Y,hn,sameLayout,Nat.mod_one]
theorem Gf {pt it e:TypeId}{y z:Operand}{I off n cap:Nat}{xs:List RV}{l:List U8}
  (hg:gd ops L ⟨some d,.call ⟨.builtin .unsafeString,#[y,z],#[pt,it]⟩,ty,pos,aft,g⟩=some true) (hN:Nat.blt d x.N=true)
  (hp:x.P.underlying pt=some (.pointer e)) (hc:x.P.cellsOf e=1)
  (hy:ev L y=some (.pointer (some ⟨I,off,none⟩))) (hz:ev L z=some (.int .i64 (l.length:Int))) (h0:0<l.length)
  (hx:Rw H (.slice (some ⟨I,off,none⟩) n cap) xs l)
  (k:W x ops Q rest H M ((d,.string (AP l))::L)):
  W x ops Q (⟨some d,.call ⟨.builtin .unsafeString,#[y,z],#[pt,it]⟩,ty,pos,aft,g⟩::rest) H (.row (.slice (some ⟨I,off,none⟩) n cap) e (aK.sz U8) n xs::M) L:=by
 refine tT rfl hg hN λa w hsl ht=>?_;have J:iU w e 1 (.slice (some ⟨I,off,none⟩) n cap) n xs:=ht.ok _ (R6 ..);have hn:n=l.length:=by
  have:=hx.rd.len;rw [J.1] at this;exact TM (Nat.zero_lt_one) this
 rcases J.2 with ⟨h,_⟩ | ⟨g',off',lX,Y,he,hgc,hnc,hcm,hcs,htake⟩
 ·cases h
 cases he;have hcs':off+cap<=Y.size:=by simpa using hcs
 have hsh:w.shape? I=some (e,Y.size):=by simp [World.shape?,hgc]
 have Z:∀ j y,l[j]? = some y->w.cell? ((⟨I,off,none⟩:Addr).add j)=some (.int .u8 y.n):=by
  intro j y hj;obtain ⟨cs,h1,h2⟩:=hx.rd.get j y hj;have h1:cs=[.int .u8 y.n]:=h1;have h3:=h2 0 (.int .u8 y.n) (by rw [h1]; rfl)
  rw [SZ];refine WW hgc rfl ?_;rw [<- htake,SU] at h3
  split at h3
  ·rw [SK] at h3
   simpa [aK.sz] using h3
  ·cases h3
 have hlb:=zt (P:=x.P) w l ⟨I,off,none⟩ .empty Z;have hlies:=D6 (P:=x.P) hc (Y.size / x.P.cellsOf e) off l.length (by rw [hc,Nat.div_one]; omega)
 have hmax:i64.max=9223372036854775807:=rfl;have hl0:l.length≠0:=by omega
 have h63':¬ (9223372036854775807:Int)<(l.length:Int):=by unfold maxLen at hcm; omega
 have hneg:¬ (l.length:Int)<0:=by omega
 have hrun:(Builtin.unsafeString_ #[pt,it] ty #[.pointer (some ⟨I,off,none⟩),.int .i64 l.length]).run x.P w=.ok (.string (AP l)) (w.freeze ⟨I,off,none⟩ l.length):=by
  have hdef:Builtin.unsafeString_ #[pt,it] ty #[.pointer (some ⟨I,off,none⟩),.int .i64 l.length] =
    (do
     let n <- asInt (.int .i64 l.length)
     if n<0 then runtimePanic (.error "unsafe.String: len out of range")
     if n > i64.max then unsupported (.unsafePointer "String: a length above the largest int")
     if n=0 then pure (.string .empty)
     else if <- variablesAt ⟨I,off,none⟩ (<- elemOf pt) n.toNat then do
      let s <- loadBytes ⟨I,off,none⟩ .empty n.toNat
      freeze ⟨I,off,none⟩ n.toNat
      pure (.string s)
     else unsupported (.unsafePointer "String: not so many bytes at ptr")):=rfl
  rw [hdef];have he0:ByteArray.empty.data=#[]:=rfl;simp [asInt,asIntOf,hmax,h63',hneg,hl0,variablesAt,hsh,elemOf,Tm hp,hlies,hlb,AP]
 have hgr:w.grownBy (w.freeze ⟨I,off,none⟩ l.length) (some I):=by
  unfold World.freeze
  split
  ·exact ⟨rfl,rfl,rfl,Sj _,λ_ _ _=>rfl⟩
  ·exact ⟨rfl,rfl,rfl,by simp,λq hq hne=>by
    simp only [W8];rw [R8 (by intro e; exact hne (by rw [e]))]⟩
 have h1:=ht.EN (r':=.row (.slice none 0 0) 0 1 0 []) hgr (iU.nil _ _ _) (by intro b hb; simp [b_.AU,Value.ownBlock] at hb)
 refine ⟨.string (AP l),w.freeze ⟨I,off,none⟩ l.length,?_,H,M,h1.tail,k⟩;simp [execOp,resolve,invoke,builtin,hsl.ev hy,hsl.ev hz,hrun]
end
end Go.Sim
namespace Go.Sim
open Go
open _root_.Go.IntKind (i64 u64 u32 u8)
def rowsOf (T:TypeId) (sz:Nat) {α:Type} (ws:List (RV×List RV)) (ls:List (List α)):List b_:=List.zipWith (λw l=>b_.row w.1 T sz l.length w.2) ws ls
structure Mx {α:Type}[aK α] (T1 T2:TypeId) (H:Hp) (v:RV) (hs:List RV) (mx:List b_) (sg:List Nat) (ls:List (List α)):Prop where
 ex:∃ (xs:List RV) (ws:List (RV×List RV)),mx=.row v T1 1 sg.length xs::rowsOf T2 (aK.sz α) ws ls/\ws.length=ls.length/\ws.map (·.1)=hs/\(∀ (k:Nat) (w:RV×List RV) (l:List α),ws[k]? = some w->ls[k]? = some l->Rw H w.1 w.2 l) /\
  xs.length=sg.length/\(∀ (i k:Nat),sg[i]? = some k->∃ w:RV×List RV,ws[k]? = some w/\xs[i]? = some w.1)
 sl:∃ a n c,v=.slice a n c
section
variable {α:Type}[aK α] {T1 T2:TypeId}{H H':Hp}{v:RV}{hs:List RV}{mx:List b_}{sg:List Nat}{ls:List (List α)}
theorem Mx.mono (h:Mx T1 T2 H v hs mx sg ls) (J:H.le H'):Mx T1 T2 H' v hs mx sg ls:=by
 obtain ⟨xs,ws,h1,h2,I,Y,Z,h5⟩:=h.ex;exact ⟨⟨xs,ws,h1,h2,I,λk w l a b=>(Y k w l a b).mono J,Z,h5⟩,h.sl⟩
theorem HK {ws:List (RV×List RV)}{k:Nat}{w:RV} (J:ws.map (·.1)=hs) (I:hs[k]? = some w):∃ u,ws[k]? = some u/\u.1=w:=by
 rw [<- J,SD] at I;cases e:ws[k]? with
 | none=>rw [e] at I; simp at I
 | some u=>rw [e] at I; exact ⟨u,rfl,RX I⟩
theorem Mx.row (h:Mx T1 T2 H v hs mx sg ls) {k:Nat}{w:RV} (hw:hs[k]? = some w):∃ (xs:List RV) (m1 m2:List b_),k<ls.length/\mx=m1++.row w T2 (aK.sz α) ((ls[k]?).getD []).length xs::m2/\Rw H w xs ((ls[k]?).getD []) /\
  ∀ (H':Hp) (I:List RV) (l':List α),H.le H'->Rw H' w I l'->Mx T1 T2 H' v hs (m1++.row w T2 (aK.sz α) l'.length I::m2) sg (ls.set k l'):=by
 obtain ⟨oxs,ws,rfl,h2,h2',h3,h4,h5⟩:=h.ex;have hh:=hw;clear hw;obtain ⟨w,hw,rfl⟩:=HK h2' hh;have J:k<ws.length:=(R3.1 hw).1;have hk:k<ls.length:=by omega
 have hl:=RY hk;have hwe:ws[k]=w:=by rw [RY J] at hw; exact RX hw
 have hsp:∀ (ws:List (RV×List RV)) (ls:List (List α)) (h1:k<ws.length) (h2:k<ls.length),rowsOf T2 (aK.sz α) ws ls=rowsOf T2 (aK.sz α) (ws.take k) (ls.take k)++.row ws[k].1 T2 (aK.sz α) ls[k].length ws[k].2::rowsOf T2 (aK.sz α) (ws.drop (k+1)) (ls.drop (k+1)):=λws ls h1 h2=>by
  have e1:ws=ws.take k++ws[k]::ws.drop (k+1):=by rw [<- SF h1,TA]
  have e2:ls=ls.take k++ls[k]::ls.drop (k+1):=by rw [<- SF h2,TA]
  have e3:rowsOf T2 (aK.sz α) ws ls=rowsOf T2 (aK.sz α) (ws.take k++ws[k]::ws.drop (k+1)) (ls.take k++ls[k]::ls.drop (k+1)):=by rw [<- e1,<- e2]
  rw [e3];unfold rowsOf;rw [VW (by simp; omega)]
  rfl
 have hg:(ls[k]?).getD []=ls[k]:=by rw [hl]; rfl
 rw [hg];refine ⟨w.2,.row v T1 1 sg.length oxs::rowsOf T2 (aK.sz α) (ws.take k) (ls.take k),rowsOf T2 (aK.sz α) (ws.drop (k+1)) (ls.drop (k+1)),hk,?_,h3 k w _ hw hl,λH' I l' hle hr=>⟨⟨oxs,ws.set k (w.1,I),?_,by simp [h2],?_,λj u l Z Y=>?_,h4,λi' j hj=>?_⟩,h.sl⟩⟩
 ·rw [hsp ws ls J hk,hwe]; rfl
 ·rw [hsp (ws.set k (w.1,I)) (ls.set k l') (by simpa using J) (by simpa using hk)]
  have t1:(ws.set k (w.1,I)).take k=ws.take k:=Vb (Sj k);have t2:(ls.set k l').take k=ls.take k:=Vb (Sj k);have t3:(ws.set k (w.1,I)).drop (k+1)=ws.drop (k+1):=UK (Th k);have t4:(ls.set k l').drop (k+1)=ls.drop (k+1):=UK (Th k);rw [t1,t2,t3,t4];simp
 ·rw [List.map_set,h2']
  obtain ⟨e1,e2⟩:=R3.1 hh;rw [<- e2,Wh]
 ·by_cases e:k=j
  ·subst e
   rw [SC J] at Z;rw [SC hk] at Y;obtain rfl:=RX Z;obtain rfl:=RX Y;exact hr
  ·rw [Sx e] at Z Y
   exact (h3 j u l Z Y).mono hle
 ·obtain ⟨u,Z,hx'⟩:=h5 i' j hj
  by_cases e:k=j
  ·subst e
   rw [hw] at Z;obtain rfl:=RX Z;exact ⟨(w.1,I),by rw [SC J],hx'⟩
  ·exact ⟨u,by rw [Sx e]; exact Z,hx'⟩
theorem Mx.outer (h:Mx T1 T2 H v hs mx sg ls):∃ J m2,mx=.row v T1 1 sg.length J::m2/\J.length=sg.length/\(∀ (i k:Nat),sg[i]? = some k->∃ w,hs[k]? = some w/\J[i]? = some w) /\
  (∀ (i k:Nat) (w:RV),i<sg.length->hs[k]? = some w->Mx T1 T2 H v hs (.row v T1 1 (sg.set i k).length (J.set i w)::m2) (sg.set i k) ls) /\
  (∀ (i:Nat) (w:RV) (xs:List RV) (l:List α),i<sg.length->Rw H w xs l->Mx T1 T2 H v (hs++[w]) (.row v T1 1 (sg.set i ls.length).length (J.set i w)::(m2++[.row w T2 (aK.sz α) l.length xs])) (sg.set i ls.length) (ls++[l])):=by
 obtain ⟨J,ws,rfl,h2,h2',h3,h4,h5⟩:=h.ex;refine ⟨J,_,rfl,h4,λi k hk=>?_,λi k w hi hw=>?_,λi w xs l hi hr=>?_⟩
 ·obtain ⟨u,Y,hx⟩:=h5 i k hk
  exact ⟨u.1,by rw [<- h2',SD,Y]; rfl,hx⟩
 ·obtain ⟨u,Y,rfl⟩:=HK h2' hw
  refine ⟨⟨J.set i u.1,ws,rfl,h2,h2',h3,by simp [h4],λi' k' I=>?_⟩,h.sl⟩
  by_cases e:i=i'
  ·subst e
   rw [SC hi] at I;obtain rfl:=RX I;exact ⟨u,Y,by rw [SC (by omega)]⟩
  ·rw [Sx e] at I
   obtain ⟨u',hu',hx'⟩:=h5 i' k' I;exact ⟨u',hu',by rw [Sx e]; exact hx'⟩
 ·refine ⟨⟨J.set i w,ws++[(w,xs)],?_,by simp [h2],by simp [h2'],λj u l' Y Z=>?_,by simp [h4],λi' k' I=>?_⟩,h.sl⟩
  ·unfold rowsOf
   rw [VW h2]
   rfl
  ·rcases TZ j ls.length with hj | hj
   ·rw [S9 (by omega)] at Y Z
    exact h3 j u l' Y Z
   ·rw [SB (by omega)] at Y Z
    rw [h2] at Y;cases e:j-ls.length with
    | zero=>
     rw [e] at Y Z;obtain rfl:=RX Y;obtain rfl:=RX Z;exact hr
    | succ m=>rw [e] at Y; simp at Y
  ·by_cases e:i=i'
   ·subst e
    rw [SC hi] at I;obtain rfl:=RX I;exact ⟨(w,xs),by rw [SB (by omega),h2,Tk]; rfl,by rw [SC (by omega)]⟩
   ·rw [Sx e] at I
    obtain ⟨u',hu',hx'⟩:=h5 i' k' I;exact ⟨u',by rw [S9 (R3.1 hu').1]; exact hu',by rw [Sx e]; exact hx'⟩
end
structure Jr where
 mk ::
instance:aK Jr where
 sz:=1
 E _ cs _:=cs=[.slice none 0 0]
 len h:=by rw [h]; rfl
 mono _ h:=h
 one h c hc:=by rw [h] at hc; simp at hc; subst hc; rfl
theorem DB {H:Hp}:∀ {n:Nat}{xs:List RV},rL H xs (List.replicate n Jr.mk)->xs=List.replicate n (.slice none 0 0)
 | 0,xs,h=>h
 | n+1,xs,h=>by
  obtain ⟨cs,r,rfl,he,I⟩:=h;have he:cs=[.slice none 0 0]:=he;rw [he,DB I]; rfl
section
variable {α:Type}[aK α] {T1 T2:TypeId}{H H':Hp}{v:RV}{hs:List RV}{mx:List b_}{sg:List Nat}{ls:List (List α)}
theorem Mx.make {n:Nat}{I:List RV} (h:Rw H v I (List.replicate n Jr.mk)):Mx T1 T2 H v [.slice none 0 0] (.row v T1 1 (List.replicate n 0).length I::[.row (.slice none 0 0) T2 (aK.sz α) 0 []]) (List.replicate n 0) ([[]]:List (List α)):=by
 have Y:=DB h.rd;refine ⟨⟨I,[(.slice none 0 0,[])],rfl,rfl,rfl,λk w l J hl=>?_,by rw [Y]; simp,λi k Z=>?_⟩,h.sl⟩
 ·cases k with
  | zero=>
   obtain rfl:=RX J;obtain rfl:=RX hl;exact Rw.nil
  | succ k=>simp at J
 ·obtain ⟨hi,he⟩:=R3.1 Z
  rw [List.getElem_replicate] at he;subst he;refine ⟨_,rfl,?_⟩;rw [Y,UE,R9 (by simpa using hi)]
theorem Df {B:Nat}{w0 w:World}{M:List b_} (hs:0<aK.sz α):∀ (ws:List (RV×List RV)) (ls:List (List α)) (H:Hp),ws.length=ls.length ->
  (∀ (k:Nat) (u:RV×List RV) (l:List α),ws[k]? = some u->ls[k]? = some l->Rw H u.1 u.2 l)->St B w0 H (rowsOf T2 (aK.sz α) ws ls++M) w ->
  ∃ H',H.le H'/\St B w0 H' M w/\∀ (k:Nat) (u:RV×List RV) (l:List α),ws[k]? = some u->ls[k]? = some l->aU H' u.1 l
 | [],[],H,_,_,ht=>⟨H,SP _,ht,λk u l J _=>by simp at J⟩
 | [],_::_,H,hl,_,_=>by simp at hl
 | _::_,[],H,hl,_,_=>by simp at hl
 | u::ws,l::ls,H,hl,hr,ht=>by
  have ht:St B w0 H (.row u.1 T2 (aK.sz α) l.length u.2::(rowsOf T2 (aK.sz α) ws ls++M)) w:=ht;obtain ⟨H1,h1,h2,h3⟩:=ht.xA (hr 0 u l rfl rfl).rd hs;obtain ⟨H2,Z,g2,g3⟩:=Df hs ws ls H1 (by simpa using hl) (λk Y l' J I=>(hr (k+1) Y l' (by simpa using J) (by simpa using I)).mono h1) h2
  refine ⟨H2,Ww h1 Z,g2,λk Y l' J I=>?_⟩;cases k with
  | zero=>
   obtain rfl:=RX J;obtain rfl:=RX I;exact h3.mono Z
  | succ k=>exact g3 k Y l' (by simpa using J) (by simpa using I)
theorem EG {H:Hp}:∀ (xs:List RV) (l:List (List α)),xs.length=l.length->(∀ (i:Nat) (y:RV) (e:List α),xs[i]? = some y->l[i]? = some e->aU H y e)->rL H xs l
 | [],[],_,_=>rfl
 | [],_::_,h,_=>by simp at h
 | _::_,[],h,_=>by simp at h
 | y::xs,e::l,h,hr=>⟨[y],xs,rfl,⟨y,rfl,hr 0 y e rfl rfl⟩,EG xs l (by simpa using h) (λi Y I J he=>hr (i+1) Y I (by simpa using J) (by simpa using he))⟩
def sY (sg:List Nat) (ls:List (List α)):List (List α):=sg.map λk=>(ls[k]?).getD []
theorem St.Gv {B:Nat}{w0 w:World}{M:List b_} (ht:St B w0 H (mx++M) w) (h:Mx T1 T2 H v hs mx sg ls) (h0:0<aK.sz α):∃ H',H.le H'/\St B w0 H' M w/\aU H' v (sY sg ls):=by
 obtain ⟨I,ws,rfl,h2,_,h3,h4,h5⟩:=h.ex;have ht1:St B w0 H (rowsOf T2 (aK.sz α) ws ls++(.row v T1 1 sg.length I::M)) w:=ht.perm (by
  rw [Ur];exact List.perm_middle.symm)
 obtain ⟨H1,g1,g2,g3⟩:=Df h0 ws ls H h2 h3 ht1;have hv:(sY sg ls).length=sg.length:=by unfold sY; simp
 have hrd:rL H1 I (sY sg ls):=EG I _ (by rw [hv]; exact h4) (λi y e hy he=>by
  unfold sY at he;rw [SD] at he;cases Y:sg[i]? with
  | none=>rw [Y] at he; simp at he
  | some k=>
   rw [Y] at he;obtain ⟨u,hu,hx⟩:=h5 i k Y;rw [hy] at hx;obtain rfl:=RX hx;have Z:k<ls.length:=by rw [<- h2]; exact (R3.1 hu).1
   have hl:=RY Z;simp only [Tq,Sn] at he;rw [hl,Ug] at he;rw [<- he];exact g3 k u _ hu hl)
 have J:St B w0 H1 (.row v T1 (aK.sz (List α)) sg.length I::M) w:=g2;obtain ⟨H2,k1,k2,k3⟩:=J.xA hrd Nat.one_pos;exact ⟨H2,Ww g1 k1,k2,k3⟩
end
section
variable {x:Cx}{ops:Array Oper}{Q:mj}{rest:List Oper}{H:Hp}{M:List b_}{L:Env}
theorem Hh {α:Type}[aK α] {T1 T2:TypeId}{v:RV}{hs:List RV}{mx:List b_}{sg:List Nat}{ls:List (List α)} (h:Mx T1 T2 H v hs mx sg ls) (J:Nat.blt 0 (aK.sz α)=true)
  (k:∀ H',H.le H'->aU H' v (sY sg ls)->W x ops Q rest H' M L):W x ops Q rest H (mx++M) L:=by
 intro a w I ht;obtain ⟨H',h1,h2,Y⟩:=St.Gv ht h (by simpa [S_] using J)
 exact k H' h1 Y a w I h2
variable {d:Nat}{ty:TypeId}{pos:String}{aft:Array Edge}{g:Option (Nat×Bool)}
theorem uj (pre J Y I:List b_) (r:b_):(pre++((J++r::Y)++I)).Perm (r::(pre++((J++Y)++I))):=by
 have h1:(pre++((J++r::Y)++I))=(pre++J)++r::(Y++I):=by simp
 have h2:(r::(pre++((J++Y)++I)))=r::((pre++J)++(Y++I)):=by simp
 rw [h1,h2];exact List.perm_middle
theorem Mx.get {α:Type}[aK α] {T1 T2:TypeId}{v:RV}{hs:List RV}{mx:List b_}{sg:List Nat}{ls:List (List α)} (h:Mx T1 T2 H v hs mx sg ls) {k:Nat}{w:RV} (J:hs[k]? = some w):
  ∃ xs:List RV,b_.row w T2 (aK.sz α) ((ls[k]?).getD []).length xs ∈ mx/\Rw H w xs ((ls[k]?).getD []):=by
 obtain ⟨xs,Y,Z,_,he,I,_⟩:=h.row J;exact ⟨xs,by rw [he]; exact S8 _ (R6 ..),I⟩
theorem uz {α:Type}[aK α] {T1 T2 T:TypeId}{m:Nat}{y z:Operand}{v u w:RV}{ad:Addr}{hs cs:List RV}{pre mx:List b_}{sg:List Nat}{ls:List (List α)}{k j:Nat}{e2:α}
  (h:Mx T1 T2 H v hs mx sg ls) (hx:hs[k]? = some w) (hj:j<((ls[k]?).getD []).length) (Y:aK.E H cs e2)
  (hg:gd ops L ⟨none,.store T y z,ty,pos,aft,g⟩=some true) (hn:∀ w,(sizeOf T).run x.P w=.ok m w) (O:m=aK.sz α) (h0:Nat.blt 0 (aK.sz α)=true)
  (hy:ev L y=some (.pointer (some ad))) (Z:ad=(Value.base w).add (j*aK.sz α)) (hz:ev L z=some u) (hv:u.cells=cs.toArray)
  (kk:∀ J,Mx T1 T2 H v hs J sg (ls.set k (((ls[k]?).getD []).set j e2))->W x ops Q rest H (pre++(J++M)) L):
  W x ops Q (⟨none,.store T y z,ty,pos,aft,g⟩::rest) H (pre++(mx++M)) L:=by
 obtain ⟨xs,m1,m2,hk,rfl,hr,hup⟩:=h.row hx;have hcl:=aK.len Y;have hs':0<aK.sz α:=by simpa [S_] using h0
 have he:=RY hj;obtain ⟨c,hc,hgc⟩:=hr.elem he;have hccl:=aK.len hc;have ho:over c 0 cs=cs:=by
  rw [vT cs c 0 (by omega),WV,TG,List.drop_eq_nil_of_le (by omega),SN]
 obtain ⟨p1,_,_⟩:=Rw.put (k:=j) (o:=0) (e2:=e2) hr he hc hgc (by simp [US]; omega) ho Y
 have I:j*aK.sz α+cs.length<=xs.length:=by
  have hlen:=hr.rd.len;have:(j+1)*aK.sz α<=((ls[k]?).getD []).length*aK.sz α:=Si _ hj;rw [So,Wx] at this;omega
 refine mg (uj pre m1 m2 M _) ?_;refine y6 (i:=j*aK.sz α) (cs:=cs) hg hn hy Z hz hv (by omega) I (by simp [S_]; omega) (aK.one Y) ?_
 have h2:=hup H _ _ (SP _) p1;rw [Tp,Tt] at h2;refine mg (uj pre m1 m2 M _).symm ?_;exact kk _ h2
theorem IC {α:Type}[aK α] {T1 T2 T:TypeId}{y z:Operand}{v w:RV}{ad:Addr}{hs:List RV}{pre mx:List b_}{sg:List Nat}{ls:List (List α)}{i k:Nat}
  (h:Mx T1 T2 H v hs mx sg ls) (hi:i<sg.length) (hx:hs[k]? = some w)
  (hg:gd ops L ⟨none,.store T y z,ty,pos,aft,g⟩=some true) (hn:∀ w,(sizeOf T).run x.P w=.ok 1 w)
  (hy:ev L y=some (.pointer (some ad))) (Z:ad=(Value.base v).add (i*1)) (hz:ev L z=some w)
  (kk:∀ J,Mx T1 T2 H v hs J (sg.set i k) ls->W x ops Q rest H (pre++(J++M)) L):
  W x ops Q (⟨none,.store T y z,ty,pos,aft,g⟩::rest) H (pre++(mx++M)) L:=by
 obtain ⟨_,_,_,_,_,hr,_⟩:=h.row hx;obtain ⟨Y,m2,rfl,hl,_,I,_⟩:=h.outer;refine mg (uj pre [] m2 M _) ?_;refine y6 (i:=i*1) (cs:=[w]) hg hn hy Z hz hr.cells rfl (by simp; omega) rfl (λc hc=>by simp at hc; subst hc; exact hr.one) ?_
 have h2:=I i k w hi hx;rw [Tp] at h2;have e:over Y (i*1) [w]=Y.set i w:=by rw [UO]; rfl
 rw [e];refine mg (uj pre [] m2 M _).symm ?_;exact kk _ h2
theorem ET {α:Type}[aK α] {T1 T2 T:TypeId}{y z:Operand}{v w:RV}{ad:Addr}{hs xs:List RV}{pre mx:List b_}{sg:List Nat}{ls:List (List α)}{l:List α}{i:Nat}
  (h:Mx T1 T2 H v hs mx sg ls) (hi:i<sg.length) (hr:Rw H w xs l)
  (hg:gd ops L ⟨none,.store T y z,ty,pos,aft,g⟩=some true) (hn:∀ w,(sizeOf T).run x.P w=.ok 1 w)
  (hy:ev L y=some (.pointer (some ad))) (had:ad=(Value.base v).add (i*1)) (hz:ev L z=some w)
  (kk:∀ Z,Mx T1 T2 H v (hs++[w]) Z (sg.set i ls.length) (ls++[l])->W x ops Q rest H (pre++(Z++M)) L):
  W x ops Q (⟨none,.store T y z,ty,pos,aft,g⟩::rest) H (.row w T2 (aK.sz α) l.length xs::(pre++(mx++M))) L:=by
 obtain ⟨I,J,rfl,hl,_,_,Y⟩:=h.outer;have p1:(b_.row w T2 (aK.sz α) l.length xs::(pre++((.row v T1 1 sg.length I::J)++M))).Perm (.row v T1 1 sg.length I::(.row w T2 (aK.sz α) l.length xs::(pre++(J++M)))):=
  ((uj pre [] J M _).cons _).trans (List.Perm.swap _ _ _)
 refine mg p1 ?_;refine y6 (i:=i*1) (cs:=[w]) hg hn hy had hz hr.cells rfl (by simp; omega) rfl (λc hc=>by simp at hc; subst hc; exact hr.one) ?_
 have h2:=Y i w xs l hi hr;rw [Tp] at h2;have e:over I (i*1) [w]=I.set i w:=by rw [UO]; rfl
 rw [e];have p2:(b_.row v T1 1 sg.length (I.set i w)::(.row w T2 (aK.sz α) l.length xs::(pre++(J++M)))).Perm (pre++((.row v T1 1 sg.length (I.set i w)::(J++[.row w T2 (aK.sz α) l.length xs]))++M)):=by
  refine (uj pre [] (J++[.row w T2 (aK.sz α) l.length xs]) M _).trans ?_ |>.symm;refine List.Perm.cons _ ?_;have:=uj pre J [] M (.row w T2 (aK.sz α) l.length xs);simpa using this
 refine mg p2 ?_;exact kk _ h2
def vA (sz n:Nat):RV->RV
 | .slice (some ⟨b,off,sp⟩) len cap=>.slice (some ⟨b,if cap=n then off else off+n*sz,sp⟩) (len-n) (cap-n)
 | y=>y
theorem iU.sub {w:World}{T:TypeId}{sz n m:Nat}{v:RV}{xs:List RV} (h:iU w T sz v n xs) (O:m<=n):iU w T sz (vA sz m v) (n-m) (xs.drop (m*sz)):=by
 obtain ⟨hl,hh⟩:=h;refine ⟨by rw [Tx,hl,Nat.sub_mul],?_⟩
 rcases hh with ⟨rfl,h0⟩ | ⟨Y,off,cap,J,rfl,hg,hnc,hcm,hcs,I⟩
 ·exact .inl ⟨rfl,by omega⟩
 ·have h1:m*sz+(cap-m)*sz=cap*sz:=by rw [<- So,Nat.add_sub_cancel' (by omega)]
  have h2:m*sz+(n-m)*sz=n*sz:=by rw [<- So,Nat.add_sub_cancel' O]
  by_cases hc:cap=m
  ·have Z:n=m:=by omega
   refine .inr ⟨Y,off,cap-m,J,by show Value.slice (some ⟨Y,if cap=m then off else off+m*sz,none⟩) _ _=_; rw [R9 hc],hg,by omega,by omega,by omega,?_⟩
   rw [<- I,Um,Z,Tk,Tk,TC,WV,WV]
  ·refine .inr ⟨Y,off+m*sz,cap-m,J,by show Value.slice (some ⟨Y,if cap=m then off else off+m*sz,none⟩) _ _=_; rw [R8 hc],hg,by omega,by omega,by omega,?_⟩
   rw [<- I,Um,TW]
   congr 1
   omega
theorem Kl {sz m:Nat} (v:RV):(vA sz m v).ownBlock=v.ownBlock:=by
 unfold vA
 split
 ·rename_i b off sp len cap
  cases sp <;> rfl
 ·rfl
theorem St.same {B:Nat}{w0 w:World}{r r':b_} (h:St B w0 H (r::M) w) (I:r'.ok w) (Y:r'.wg=r.wg):St B w0 H (r'::M) w:=by
 refine ⟨h.below,h.le,h.vZ,λs hs=>?_,λs hs b J=>?_,?_⟩
 ·rcases SQ.1 hs with rfl | hs
  ·exact I
  ·exact h.ok s (Sa _ hs)
 ·rcases SQ.1 hs with rfl | hs
  ·exact h.lo r (R6 ..) b (by rw [<- Y]; exact J)
  ·exact h.lo s (Sa _ hs) b J
 ·have:=h.nd
  simp only [Tn,Y] at this ⊢;exact this
theorem Rw.sub {α:Type}[aK α] {v:RV}{xs:List RV}{l:List α} (h:Rw H v xs l) {m:Nat} (O:m<=l.length):Rw H (vA (aK.sz α) m v) (xs.drop (m*aK.sz α)) (l.drop m):=by
 refine ⟨?_,?_⟩
 ·have key:∀ (m:Nat) (xs:List RV) (l:List α),rL H xs l->m<=l.length->rL H (xs.drop (m*aK.sz α)) (l.drop m):=by
   intro m
   induction m with
   | zero=>intro xs l h _; simpa using h
   | succ m ih=>
    intro xs l h O;cases l with
    | nil=>simp at O
    | cons e l=>
     obtain ⟨c,r,rfl,he,J⟩:=h;have I:=aK.len he;rw [Xq,So,Wx,UN,<- TW,<- I,List.drop_left,I];exact ih r l J (by simpa using O)
  exact key m xs l h.rd O
 ·obtain ⟨a,n,c,rfl⟩:=h.sl
  cases a with
  | none=>exact ⟨_,_,_,rfl⟩
  | some ad=>obtain ⟨b,off,sp⟩:=ad; exact ⟨_,_,_,rfl⟩
theorem MT {α:Type}[aK α] {T1 T2 T:TypeId}{y z:Operand}{v w:RV}{ad:Addr}{hs:List RV}{pre mx:List b_}{sg:List Nat}{ls:List (List α)}{i k n:Nat}
  (h:Mx T1 T2 H v hs mx sg ls) (hi:i<sg.length) (hx:hs[k]? = some w) (hn':n<=((ls[k]?).getD []).length) (hone:∀ j:Nat,sg[j]? = some k->j=i)
  (hg:gd ops L ⟨none,.store T y z,ty,pos,aft,g⟩=some true) (hn:∀ w,(sizeOf T).run x.P w=.ok 1 w)
  (hy:ev L y=some (.pointer (some ad))) (had:ad=(Value.base v).add (i*1)) (hz:ev L z=some (vA (aK.sz α) n w))
  (kk:∀ mx',Mx T1 T2 H v (hs.set k (vA (aK.sz α) n w)) mx' (sg.set i k) (ls.set k (((ls[k]?).getD []).drop n))->W x ops Q rest H (pre++(mx'++M)) L):
  W x ops Q (⟨none,.store T y z,ty,pos,aft,g⟩::rest) H (pre++(mx++M)) L:=by
 obtain ⟨I,ws,rfl,h2,h2',h3,h4,h5⟩:=h.ex;obtain ⟨u,hu,rfl⟩:=HK h2' hx;have Z:k<ws.length:=(R3.1 hu).1;have hk:k<ls.length:=by omega
 have hl:=RY hk;have hwe:ws[k]=u:=by rw [RY Z] at hu; exact RX hu
 have hgd:(ls[k]?).getD []=ls[k]:=by rw [hl]; rfl
 rw [hgd] at hn' kk;have hr:=h3 k u _ hu hl;have hrs:=hr.sub hn';have hsp:∀ (ws:List (RV×List RV)) (ls:List (List α)) (h1:k<ws.length) (h2:k<ls.length),rowsOf T2 (aK.sz α) ws ls=rowsOf T2 (aK.sz α) (ws.take k) (ls.take k)++.row ws[k].1 T2 (aK.sz α) ls[k].length ws[k].2::rowsOf T2 (aK.sz α) (ws.drop (k+1)) (ls.drop (k+1)):=λws ls h1 h2=>by
  have e1:ws=ws.take k++ws[k]::ws.drop (k+1):=by rw [<- SF h1,TA]
  have e2:ls=ls.take k++ls[k]::ls.drop (k+1):=by rw [<- SF h2,TA]
  have e3:rowsOf T2 (aK.sz α) ws ls=rowsOf T2 (aK.sz α) (ws.take k++ws[k]::ws.drop (k+1)) (ls.take k++ls[k]::ls.drop (k+1)):=by rw [<- e1,<- e2]
  rw [e3];unfold rowsOf;rw [VW (by simp; omega)]
  rfl
 generalize hA:rowsOf T2 (aK.sz α) (ws.take k) (ls.take k)=A at hsp;generalize hB:rowsOf T2 (aK.sz α) (ws.drop (k+1)) (ls.drop (k+1))=Bq at hsp;have hrows:rowsOf T2 (aK.sz α) ws ls=A++.row u.1 T2 (aK.sz α) ls[k].length u.2::Bq:=by
  rw [<- hA,<- hB];have e1:ws=ws.take k++ws[k]::ws.drop (k+1):=by rw [<- SF Z,TA]
  have e2:ls=ls.take k++ls[k]::ls.drop (k+1):=by rw [<- SF hk,TA]
  have e3:rowsOf T2 (aK.sz α) ws ls=rowsOf T2 (aK.sz α) (ws.take k++ws[k]::ws.drop (k+1)) (ls.take k++ls[k]::ls.drop (k+1)):=by rw [<- e1,<- e2]
  rw [e3];unfold rowsOf;rw [VW (by simp; omega),<- hwe]
  rfl
 have hrows2:rowsOf T2 (aK.sz α) (ws.set k (vA (aK.sz α) n u.1,u.2.drop (n*aK.sz α))) (ls.set k (ls[k].drop n))=A++.row (vA (aK.sz α) n u.1) T2 (aK.sz α) (ls[k].drop n).length (u.2.drop (n*aK.sz α))::Bq:=by
  rw [<- hA,<- hB];have e1:ws.set k (vA (aK.sz α) n u.1,u.2.drop (n*aK.sz α))=ws.take k++(vA (aK.sz α) n u.1,u.2.drop (n*aK.sz α))::ws.drop (k+1):=by rw [Vy,R9 Z]
  have e2:ls.set k (ls[k].drop n)=ls.take k++ls[k].drop n::ls.drop (k+1):=by rw [Vy,R9 hk]
  rw [e1,e2];unfold rowsOf;rw [VW (by simp; omega)]
  rfl
 have hnew:Mx T1 T2 H v (hs.set k (vA (aK.sz α) n u.1)) (.row v T1 1 (sg.set i k).length (I.set i (vA (aK.sz α) n u.1))::rowsOf T2 (aK.sz α) (ws.set k (vA (aK.sz α) n u.1,u.2.drop (n*aK.sz α))) (ls.set k (ls[k].drop n))) (sg.set i k) (ls.set k (ls[k].drop n)):=by
  refine ⟨⟨_,_,rfl,by simp [h2],by rw [List.map_set,h2'],λj u' l' J hl'=>?_,by simp [h4],λi' k' Y=>?_⟩,h.sl⟩
  ·by_cases e:k=j
   ·subst e
    rw [SC Z] at J;rw [SC hk] at hl';obtain rfl:=RX J;obtain rfl:=RX hl';exact hrs
   ·rw [Sx e] at J hl'
    exact h3 j u' l' J hl'
  ·by_cases e:i=i'
   ·subst e
    rw [SC hi] at Y;obtain rfl:=RX Y;exact ⟨_,by rw [SC Z],by rw [SC (by omega)]⟩
   ·rw [Sx e] at Y
    obtain ⟨u',J,hx'⟩:=h5 i' k' Y;have hne:k≠k':=λe2=>by subst e2; exact e (hone i' Y).symm
    exact ⟨u',by rw [Sx hne]; exact J,by rw [Sx e]; exact hx'⟩
 refine mg (uj pre [] (rowsOf T2 (aK.sz α) ws ls) M _) ?_;refine y6 (i:=i*1) (cs:=[vA (aK.sz α) n u.1]) hg hn hy had hz hrs.cells rfl (by simp; omega) rfl (λc hc=>by simp at hc; subst hc; exact hrs.one) ?_
 have e:over I (i*1) [vA (aK.sz α) n u.1]=I.set i (vA (aK.sz α) n u.1):=by rw [UO]; rfl
 rw [e];refine mg (uj pre [] (rowsOf T2 (aK.sz α) ws ls) M _).symm ?_;rw [TG,hrows];have p1:(pre++((.row v T1 1 sg.length (I.set i (vA (aK.sz α) n u.1))::(A++.row u.1 T2 (aK.sz α) ls[k].length u.2::Bq))++M)).Perm (.row u.1 T2 (aK.sz α) ls[k].length u.2::(pre++(((.row v T1 1 sg.length (I.set i (vA (aK.sz α) n u.1))::A)++Bq)++M))):=
  uj pre (.row v T1 1 sg.length (I.set i (vA (aK.sz α) n u.1))::A) Bq M _
 refine mg p1 ?_;intro a w0' hsl ht;have hok:=ht.ok _ (R6 ..);have hs2:St x.B x.w0 H (.row (vA (aK.sz α) n u.1) T2 (aK.sz α) (ls[k].drop n).length (u.2.drop (n*aK.sz α))::(pre++(((.row v T1 1 sg.length (I.set i (vA (aK.sz α) n u.1))::A)++Bq)++M))) w0':=by
  refine ht.same ?_ (SJ Option.toList (Kl u.1));have h1:iU w0' T2 (aK.sz α) u.1 ls[k].length u.2:=hok;have:=h1.sub hn';rw [<- Tx] at this;exact this
 have p2:=(uj pre (.row v T1 1 sg.length (I.set i (vA (aK.sz α) n u.1))::A) Bq M (.row (vA (aK.sz α) n u.1) T2 (aK.sz α) (ls[k].drop n).length (u.2.drop (n*aK.sz α)))).symm;refine kk _ hnew a w0' hsl ?_;rw [hrows2,Tp];exact hs2.perm p2
theorem KS {α:Type}[aK α] {T2 t e:TypeId}{y lo:Operand}{w:RV}{xs:List RV}{l:List α}{n:Nat}{kk:IntKind}
  (O:b_.row w T2 (aK.sz α) l.length xs ∈ M) (hn:n<=l.length)
  (hg:gd ops L ⟨some d,.slice t y (some lo) none none,ty,pos,aft,g⟩=some true) (hN:Nat.blt d x.N=true)
  (hT:∀ w,(underlying t).run x.P w=.ok (.slice e) w) (hs:∀ w,(sizeOf e).run x.P w=.ok (aK.sz α) w) (hy:ev L y=some w) (J:ev L lo=some (.int kk (n:Int)))
  (k:W x ops Q rest H M ((d,vA (aK.sz α) n w)::L)):
  W x ops Q (⟨some d,.slice t y (some lo) none none,ty,pos,aft,g⟩::rest) H M L:=by
 intro a I Y ht;have hok:iU I T2 (aK.sz α) w l.length xs:=ht.ok _ O;rcases hok.2 with ⟨rfl,h0⟩ | ⟨gb,off,cap,cur,rfl,_,hnc,_⟩
 ·obtain rfl:n=0:=by omega
  exact rD (m:=0) (h:=0) (l:=0) hg hN hT hs hy (.inl rfl) (.inl ⟨rfl,rfl⟩) (.inl ⟨rfl,rfl⟩) (.inr ⟨lo,kk,_,rfl,J,T_ _,T_ _,rfl⟩) rfl k a I Y ht
 ·refine rD (m:=cap) (h:=l.length) (l:=n) hg hN hT hs hy (.inl rfl) (.inl ⟨rfl,rfl⟩) (.inl ⟨rfl,rfl⟩) (.inr ⟨lo,kk,_,rfl,J,by omega,by omega,by omega⟩) ?_ k a I Y ht
  show _=Value.slice (some ⟨gb,if cap=n then off else off+n*aK.sz α,none⟩) (l.length-n) (cap-n)
  by_cases Z:cap=n
  ·rw [R9 Z,R9 Z]
  ·rw [R8 Z,R8 Z]
   rw [Tq,SZ]
end
theorem Fw (pre os mx M:List b_):(pre++(mx++(os++M))).Perm (pre++(os++(mx++M))):=
 UU pre (List.perm_append_comm_assoc mx os M)
theorem Dy (pre mx M:List b_):(pre++(mx++M)).Perm (mx++(pre++M)):=List.perm_append_comm_assoc pre mx M
def lone (sg:List Nat) (i k:Nat):Bool:=(List.range sg.length).all λj=>sg[j]? != some k || j == i
theorem J1 {sg:List Nat}{i k:Nat} (h:lone sg i k=true) (j:Nat) (I:sg[j]? = some k):j=i:=by
 unfold lone at h;rw [Tg] at h;have hl:=(R3.1 I).1;have:=h j (by simpa using hl)
 rw [I] at this;simpa using this
theorem Nt {sg:List Nat}{i k:Nat} (h:∀ j,sg[j]? = some k->j=i):lone sg i k=true:=by
 unfold lone;rw [Tg];intro j I
 by_cases e:sg[j]? = some k
 ·simp [h j e]
 ·simp [e]
section
variable {x:Cx}{ops:Array Oper}{Q:mj}{rest:List Oper}{H:Hp}{M:List b_}{L:Env}{d:Nat}{ty:TypeId}{pos:String}{aft:Array Edge}{g:Option (Nat×Bool)}
variable {α:Type}[aK α] {T1 T2:TypeId}{v:RV}{hs:List RV}{mx:List b_}{sg:List Nat}{ls:List (List α)}
theorem zx {t e:TypeId}{y:Operand} (h:Mx T1 T2 H v hs mx sg ls) (I:∀ s ∈ mx,s ∈ M) (Y:gd ops L ⟨some d,.call ⟨.builtin .len,#[y],#[t]⟩,ty,pos,aft,g⟩=some true) (hN:Nat.blt d x.N=true)
  (J:∀ w,(underlying t).run x.P w=.ok (.slice e) w) (Z:ev L y=some v) (k:W x ops Q rest H M ((d,.int .i64 (sg.length:Int))::L)):
  W x ops Q (⟨some d,.call ⟨.builtin .len,#[y],#[t]⟩,ty,pos,aft,g⟩::rest) H M L:=by
 obtain ⟨oxs,m2,he,_⟩:=h.outer;exact Ah (I _ (by rw [he]; exact R6 ..)) Y hN J Z k
theorem fN {t e:TypeId}{y z:Operand}{kk:IntKind}{i:Int}{p:Nat} (h:Mx T1 T2 H v hs mx sg ls) (I:∀ s ∈ mx,s ∈ M)
  (hg:gd ops L ⟨some d,.indexAddr t y z,ty,pos,aft,g⟩=some true) (hN:Nat.blt d x.N=true)
  (Z:∀ w,(underlying t).run x.P w=.ok (.slice e) w) (J:∀ w,(sizeOf e).run x.P w=.ok 1 w)
  (hy:ev L y=some v) (hz:ev L z=some (.int kk i)) (Y:0<=i) (h1:sg[i.toNat]? = some p)
  (k:W x ops Q rest H M ((d,.pointer (some ((Value.base v).add (i.toNat*1))))::L)):
  W x ops Q (⟨some d,.indexAddr t y z,ty,pos,aft,g⟩::rest) H M L:=by
 obtain ⟨oxs,m2,he,_⟩:=h.outer;exact AM (I _ (by rw [he]; exact R6 ..)) hg hN Z J hy hz Y (R3.1 h1).1 k
theorem kI {T:TypeId}{y:Operand}{ad:Addr}{i p:Nat} (h:Mx T1 T2 H v hs mx sg ls) (J:∀ s ∈ mx,s ∈ M) (h1:sg[i]? = some p)
  (hg:gd ops L ⟨some d,.load T y,ty,pos,aft,g⟩=some true) (hN:Nat.blt d x.N=true)
  (Z:∀ w,(isAgg T).run x.P w=.ok false w) (hy:ev L y=some (.pointer (some ad))) (Y:ad=(Value.base v).add (i*1))
  (k:∀ w,hs[p]? = some w->W x ops Q rest H M ((d,w)::L)):W x ops Q (⟨some d,.load T y,ty,pos,aft,g⟩::rest) H M L:=by
 obtain ⟨oxs,m2,he,_,I,_⟩:=h.outer;obtain ⟨w,hw,hx⟩:=I i p h1;subst Y;refine rP hg hN Z hy (DO (J _ (by rw [he]; exact R6 ..)) ?_) (k w hw)
 rw [UO]; exact hx
theorem IA {t e:TypeId}{y:Operand}{w:RV}{p:Nat} (h:Mx T1 T2 H v hs mx sg ls) (I:∀ s ∈ mx,s ∈ M) (Z:hs[p]? = some w) (Y:gd ops L ⟨some d,.call ⟨.builtin .len,#[y],#[t]⟩,ty,pos,aft,g⟩=some true) (hN:Nat.blt d x.N=true)
  (J:∀ w,(underlying t).run x.P w=.ok (.slice e) w) (hy:ev L y=some w) (k:W x ops Q rest H M ((d,.int .i64 (((ls[p]?).getD []).length:Int))::L)):
  W x ops Q (⟨some d,.call ⟨.builtin .len,#[y],#[t]⟩,ty,pos,aft,g⟩::rest) H M L:=by
 obtain ⟨xs,O,_⟩:=h.get Z;exact Ah (I _ O) Y hN J hy k
theorem ly {t e:TypeId}{y z:Operand}{kk:IntKind}{j:Int}{w:RV}{p n:Nat}{a:α} (h:Mx T1 T2 H v hs mx sg ls) (I:∀ s ∈ mx,s ∈ M) (hw:hs[p]? = some w)
  (hg:gd ops L ⟨some d,.indexAddr t y z,ty,pos,aft,g⟩=some true) (hN:Nat.blt d x.N=true)
  (Z:∀ w,(underlying t).run x.P w=.ok (.slice e) w) (J:∀ w,(sizeOf e).run x.P w=.ok n w) (hn:n=aK.sz α)
  (hy:ev L y=some w) (hz:ev L z=some (.int kk j)) (Y:0<=j) (h1:((ls[p]?).getD [])[j.toNat]? = some a)
  (k:W x ops Q rest H M ((d,.pointer (some ((Value.base w).add (j.toNat*aK.sz α))))::L)):
  W x ops Q (⟨some d,.indexAddr t y z,ty,pos,aft,g⟩::rest) H M L:=by
 subst hn;obtain ⟨xs,O,_⟩:=h.get hw;exact AM (I _ O) hg hN Z J hy hz Y (R3.1 h1).1 k
theorem rC {T:TypeId}{y:Operand}{ad:Addr}{w:RV}{p j n:Nat}{a:α} (h:Mx T1 T2 H v hs mx sg ls) (I:∀ s ∈ mx,s ∈ M) (hw:hs[p]? = some w) (h1:((ls[p]?).getD [])[j]? = some a)
  (hg:gd ops L ⟨some d,.load T y,ty,pos,aft,g⟩=some true) (hN:Nat.blt d x.N=true)
  (hT:∀ w,(isAgg T).run x.P w=.ok true w) (hn:∀ w,(sizeOf T).run x.P w=.ok n w) (Y:n=aK.sz α) (hy:ev L y=some (.pointer (some ad))) (J:ad=(Value.base w).add (j*aK.sz α))
  (k:∀ cs,aK.E H cs a->W x ops Q rest H M ((d,.agg cs.toArray)::L)):W x ops Q (⟨some d,.load T y,ty,pos,aft,g⟩::rest) H M L:=by
 subst Y;subst J;obtain ⟨xs,O,hr⟩:=h.get hw;obtain ⟨c,Z,hc⟩:=hr.elem h1;exact jZ hg hN hT hn hy (zC (I _ O) hc) (aK.len Z) (k c Z)
theorem KR {t e:TypeId}{y lo:Operand}{w:RV}{p n:Nat}{j:Int}{kk:IntKind} (h:Mx T1 T2 H v hs mx sg ls) (I:∀ s ∈ mx,s ∈ M) (hw:hs[p]? = some w) (Z:0<=j) (h1:j<=(((ls[p]?).getD []).length:Int))
  (hg:gd ops L ⟨some d,.slice t y (some lo) none none,ty,pos,aft,g⟩=some true) (hN:Nat.blt d x.N=true)
  (hT:∀ w,(underlying t).run x.P w=.ok (.slice e) w) (Y:∀ w,(sizeOf e).run x.P w=.ok n w) (hn:n=aK.sz α) (hy:ev L y=some w) (J:ev L lo=some (.int kk j))
  (k:W x ops Q rest H M ((d,vA (aK.sz α) j.toNat w)::L)):
  W x ops Q (⟨some d,.slice t y (some lo) none none,ty,pos,aft,g⟩::rest) H M L:=by
 subst hn;obtain ⟨xs,O,hr⟩:=h.get hw;exact KS (l:=(ls[p]?).getD []) (n:=j.toNat) (I _ O) (by omega) hg hN hT Y hy (by rw [J,VS Z]) k
theorem BR {pre:List b_} (h:Mx T1 T2 H v hs mx sg ls) (I:Nat.blt 0 (aK.sz α)=true)
  (k:∀ H',H.le H'->aU H' v (sY sg ls)->W x ops Q rest H' (pre++M) L):W x ops Q rest H (pre++(mx++M)) L:=
 mg (Dy pre mx M) (Hh h I k)
theorem BP {e:Exit}{pre:List b_} (h:Mx T1 T2 H v hs mx sg ls) (J:Nat.blt 0 (aK.sz α)=true)
  (k:∀ H',H.le H'->aU H' v (sY sg ls)->E x e Q H' (pre++M) L):E x e Q H (pre++(mx++M)) L:=by
 refine Hf (Dy pre mx M) ?_;intro a w I ht;obtain ⟨H',h1,h2,Y⟩:=St.Gv ht h (by simpa [S_] using J)
 exact k H' h1 Y a w I h2
theorem CW {t e:TypeId}{bytes:Nat}{y y2:Operand}{n:Int}{pre:List b_} (T2:TypeId) (α:Type) [aK α]
  (hg:gd ops L ⟨some d,.makeSlice t y y2,ty,pos,aft,g⟩=some true) (hN:Nat.blt d x.N=true)
  (hT:x.P.underlying t=some (.slice e)) (hi:OG x.P e 1 bytes (.slice none 0 0)) (Y:Nat.blt 0 bytes=true)
  (hy:ev L y=some (.int .i64 n)) (Z:ev L y2=some (.int .i64 n)) (h0:0<=n) (hb:n*bytes<=140737488355328)
  (k:∀ v' I,Mx e T2 H v' [.slice none 0 0] I (List.replicate n.toNat 0) ([[]]:List (List α))->W x ops Q rest H (pre++(I++M)) ((d,v')::L)):
  W x ops Q (⟨some d,.makeSlice t y y2,ty,pos,aft,g⟩::rest) H (pre++M) L:=by
 refine gQ (α:=Jr) (zs:=[.slice none 0 0]) (ze:=Jr.mk) hg hN hT hi rfl rfl Y rfl hy Z h0 hb ?_;intro v' J hr;refine AN T2 (aK.sz α) ?_;have O:=Mx.make (α:=α) (T1:=e) (T2:=T2) hr;refine mg (M':=pre++((.row v' e 1 (List.replicate n.toNat 0).length J::[.row (.slice none 0 0) T2 (aK.sz α) 0 []])++M)) ?_ (k v' _ O);have e1:(List.replicate n.toNat Jr.mk).length=(List.replicate n.toNat 0).length:=by simp
 rw [e1];refine (List.Perm.swap _ _ _).trans ?_;exact (Dy pre [.row v' e 1 (List.replicate n.toNat 0).length J,.row (.slice none 0 0) T2 (aK.sz α) 0 []] M).symm
end
def LA:List Int:=[1,10,100,1000,10000,100000,1000000,10000000,100000000,1000000000,10000000000,100000000000,1000000000000,10000000000000,100000000000000,1000000000000000,10000000000000000,100000000000000000,1000000000000000000,10000000000000000000]
def Nd:List Int:=[0,1,28,2,29,14,24,3,30,22,20,15,25,17,4,8,31,27,13,23,21,19,16,7,26,12,18,6,11,5,10,9]
def Nf:List Int:=[0,1,56,2,57,49,28,3,61,58,42,50,38,29,17,4,62,47,59,36,45,43,51,22,53,39,33,30,24,18,12,5,63,55,48,27,60,41,37,16,46,35,44,21,52,32,23,11,54,26,40,15,34,20,31,10,25,14,19,9,13,8,7,6]
structure aX where
 Name:RU
 A:RU
 B_:RU
 uS:Bool
 Open:Bool
 deriving DecidableEq
instance:aK aX where
 sz:=5
 E H cs x:=cs=[.string (x.Name),.string (x.A),.string (x.B_),.bool (x.uS),.bool (x.Open)]
 len h:=by obtain rfl:=h; rfl
 mono hle h:=by obtain rfl:=h; exact rfl
 one h:=by obtain rfl:=h; exact (dA rfl (dA rfl (dA rfl (dA rfl (dA rfl TJ)))))
instance:Flat aX:=⟨λh=>h⟩
structure aS where
 Name:RU
 qD:RU
 To:RU
 X:Int
 B6:Int
 Shift:Int
 tI:Int
 wZ:Int
 B1:Int
 deriving DecidableEq
instance:aK aS where
 sz:=9
 E H cs x:=cs=[.string (x.Name),.string (x.qD),.string (x.To),.int .i64 (x.X),.int .i64 (x.B6),.int .i64 (x.Shift),.int .i64 (x.tI),.int .i64 (x.wZ),.int .i64 (x.B1)]
 len h:=by obtain rfl:=h; rfl
 mono hle h:=by obtain rfl:=h; exact rfl
 one h:=by obtain rfl:=h; exact (dA rfl (dA rfl (dA rfl (dA rfl (dA rfl (dA rfl (dA rfl (dA rfl (dA rfl TJ)))))))))
instance:Flat aS:=⟨λh=>h⟩
structure bK where
 Name:RU
 Node:RU
 kB:Int
 rB:Int
 Bi:Int
 deriving DecidableEq
instance:aK bK where
 sz:=5
 E H cs x:=cs=[.string (x.Name),.string (x.Node),.int .i64 (x.kB),.int .i64 (x.rB),.int .i64 (x.Bi)]
 len h:=by obtain rfl:=h; rfl
 mono hle h:=by obtain rfl:=h; exact rfl
 one h:=by obtain rfl:=h; exact (dA rfl (dA rfl (dA rfl (dA rfl (dA rfl TJ)))))
instance:Flat bK:=⟨λh=>h⟩
structure aI where
 Name:RU
 Node:RU
 dY:Int
 deriving DecidableEq
instance:aK aI where
 sz:=3
 E H cs x:=cs=[.string (x.Name),.string (x.Node),.int .i64 (x.dY)]
 len h:=by obtain rfl:=h; rfl
 mono hle h:=by obtain rfl:=h; exact rfl
 one h:=by obtain rfl:=h; exact (dA rfl (dA rfl (dA rfl TJ)))
instance:Flat aI:=⟨λh=>h⟩
structure bW where
 Name:RU
 Node:RU
 sf:Int
 Discharge:Int
 s6:Int
 deriving DecidableEq
instance:aK bW where
 sz:=5
 E H cs x:=cs=[.string (x.Name),.string (x.Node),.int .i64 (x.sf),.int .i64 (x.Discharge),.int .i64 (x.s6)]
 len h:=by obtain rfl:=h; rfl
 mono hle h:=by obtain rfl:=h; exact rfl
 one h:=by obtain rfl:=h; exact (dA rfl (dA rfl (dA rfl (dA rfl (dA rfl TJ)))))
instance:Flat bW:=⟨λh=>h⟩
structure aG where
 bP:(List RU)
 aT:(List aX)
 aL:(List aS)
 dI:(List bK)
 bM:(List aI)
 cB:(List bW)
 deriving DecidableEq
instance:aK aG where
 sz:=6
 E H cs x:=∃ v0 v1 v2 v3 v4 v5:RV,cs=[v0,v1,v2,v3,v4,v5]/\aU H v0 x.bP/\aU H v1 x.aT/\aU H v2 x.aL/\aU H v3 x.dI/\aU H v4 x.bM/\aU H v5 x.cB
 len h:=by obtain ⟨v0,v1,v2,v3,v4,v5,rfl,h0,h1,h2,h3,h4,h5⟩:=h; rfl
 mono hle h:=by obtain ⟨v0,v1,v2,v3,v4,v5,rfl,h0,h1,h2,h3,h4,h5⟩:=h; exact ⟨v0,v1,v2,v3,v4,v5,rfl,h0.mono hle,h1.mono hle,h2.mono hle,h3.mono hle,h4.mono hle,h5.mono hle⟩
 one h:=by obtain ⟨v0,v1,v2,v3,v4,v5,rfl,h0,h1,h2,h3,h4,h5⟩:=h; exact (dA (aU.pH h0) (dA (aU.pH h1) (dA (aU.pH h2) (dA (aU.pH h3) (dA (aU.pH h4) (dA (aU.pH h5) TJ))))))
structure bE where
 Kind:Int
 Name:RU
 A:Int
 B_:Int
 deriving DecidableEq
instance:aK bE where
 sz:=4
 E H cs x:=cs=[.int .i64 (x.Kind),.string (x.Name),.int .i64 (x.A),.int .i64 (x.B_)]
 len h:=by obtain rfl:=h; rfl
 mono hle h:=by obtain rfl:=h; exact rfl
 one h:=by obtain rfl:=h; exact (dA rfl (dA rfl (dA rfl (dA rfl TJ))))
instance:Flat bE:=⟨λh=>h⟩
structure aR where
 Close:Bool
 Switch:RU
 um:(List bE)
 deriving DecidableEq
instance:aK aR where
 sz:=3
 E H cs x:=∃ v2:RV,cs=[.bool (x.Close),.string (x.Switch),v2]/\aU H v2 x.um
 len h:=by obtain ⟨v2,rfl,h0⟩:=h; rfl
 mono hle h:=by obtain ⟨v2,rfl,h0⟩:=h; exact ⟨v2,rfl,h0.mono hle⟩
 one h:=by obtain ⟨v2,rfl,h0⟩:=h; exact (dA rfl (dA rfl (dA (aU.pH h0) TJ)))
structure aN where
 bN:aG
 jO:(List aR)
 deriving DecidableEq
instance:aK aN where
 sz:=7
 E H cs x:=∃ v0 v1 v2 v3 v4 v5 v6:RV,cs=[v0,v1,v2,v3,v4,v5,v6]/\aU H v0 x.bN.bP/\aU H v1 x.bN.aT/\aU H v2 x.bN.aL/\aU H v3 x.bN.dI/\aU H v4 x.bN.bM/\aU H v5 x.bN.cB/\aU H v6 x.jO
 len h:=by obtain ⟨v0,v1,v2,v3,v4,v5,v6,rfl,h0,h1,h2,h3,h4,h5,h6⟩:=h; rfl
 mono hle h:=by obtain ⟨v0,v1,v2,v3,v4,v5,v6,rfl,h0,h1,h2,h3,h4,h5,h6⟩:=h; exact ⟨v0,v1,v2,v3,v4,v5,v6,rfl,h0.mono hle,h1.mono hle,h2.mono hle,h3.mono hle,h4.mono hle,h5.mono hle,h6.mono hle⟩
 one h:=by obtain ⟨v0,v1,v2,v3,v4,v5,v6,rfl,h0,h1,h2,h3,h4,h5,h6⟩:=h; exact (dA (aU.pH h0) (dA (aU.pH h1) (dA (aU.pH h2) (dA (aU.pH h3) (dA (aU.pH h4) (dA (aU.pH h5) (dA (aU.pH h6) TJ)))))))
structure aB where
 Time:Int
 Kind:RU
 Name:RU
 Value:Int
 deriving DecidableEq
instance:aK aB where
 sz:=4
 E H cs x:=cs=[.int .i64 (x.Time),.string (x.Kind),.string (x.Name),.int .i64 (x.Value)]
 len h:=by obtain rfl:=h; rfl
 mono hle h:=by obtain rfl:=h; exact rfl
 one h:=by obtain rfl:=h; exact (dA rfl (dA rfl (dA rfl (dA rfl TJ))))
instance:Flat aB:=⟨λh=>h⟩
structure aF where
 minus:Bool
 words:(List cL)
 deriving DecidableEq
instance:aK aF where
 sz:=2
 E H cs x:=∃ v1:RV,cs=[.bool (x.minus),v1]/\aU H v1 x.words
 len h:=by obtain ⟨v1,rfl,h0⟩:=h; rfl
 mono hle h:=by obtain ⟨v1,rfl,h0⟩:=h; exact ⟨v1,rfl,h0.mono hle⟩
 one h:=by obtain ⟨v1,rfl,h0⟩:=h; exact (dA rfl (dA (aU.pH h0) TJ))
structure aA where
 N:aF
 D:aF
 deriving DecidableEq
instance:aK aA where
 sz:=4
 E H cs x:=∃ v1 v3:RV,cs=[.bool (x.N.minus),v1,.bool (x.D.minus),v3]/\aU H v1 x.N.words/\aU H v3 x.D.words
 len h:=by obtain ⟨v1,v3,rfl,h0,h1⟩:=h; rfl
 mono hle h:=by obtain ⟨v1,v3,rfl,h0,h1⟩:=h; exact ⟨v1,v3,rfl,h0.mono hle,h1.mono hle⟩
 one h:=by obtain ⟨v1,v3,rfl,h0,h1⟩:=h; exact (dA rfl (dA (aU.pH h0) (dA rfl (dA (aU.pH h1) TJ))))
structure cM where
 ml:(List aS)
 nt:(List aA)
 tK:(List Int)
 over:(List Bool)
 time:Int
 deriving DecidableEq
instance:aK cM where
 sz:=5
 E H cs x:=∃ v0 v1 v2 v3:RV,cs=[v0,v1,v2,v3,.int .i64 (x.time)]/\aU H v0 x.ml/\aU H v1 x.nt/\aU H v2 x.tK/\aU H v3 x.over
 len h:=by obtain ⟨v0,v1,v2,v3,rfl,h0,h1,h2,h3⟩:=h; rfl
 mono hle h:=by obtain ⟨v0,v1,v2,v3,rfl,h0,h1,h2,h3⟩:=h; exact ⟨v0,v1,v2,v3,rfl,h0.mono hle,h1.mono hle,h2.mono hle,h3.mono hle⟩
 one h:=by obtain ⟨v0,v1,v2,v3,rfl,h0,h1,h2,h3⟩:=h; exact (dA (aU.pH h0) (dA (aU.pH h1) (dA (aU.pH h2) (dA (aU.pH h3) (dA rfl TJ)))))
structure dB where
 iJ:(List RU)
 kV:(List RU)
 deriving DecidableEq
instance:aK dB where
 sz:=2
 E H cs x:=∃ v0 v1:RV,cs=[v0,v1]/\aU H v0 x.iJ/\aU H v1 x.kV
 len h:=by obtain ⟨v0,v1,rfl,h0,h1⟩:=h; rfl
 mono hle h:=by obtain ⟨v0,v1,rfl,h0,h1⟩:=h; exact ⟨v0,v1,rfl,h0.mono hle,h1.mono hle⟩
 one h:=by obtain ⟨v0,v1,rfl,h0,h1⟩:=h; exact (dA (aU.pH h0) (dA (aU.pH h1) TJ))
structure bV where
 lT:(List aB)
 deriving DecidableEq
instance:aK bV where
 sz:=1
 E H cs x:=∃ v0:RV,cs=[v0]/\aU H v0 x.lT
 len h:=by obtain ⟨v0,rfl,h0⟩:=h; rfl
 mono hle h:=by obtain ⟨v0,rfl,h0⟩:=h; exact ⟨v0,rfl,h0.mono hle⟩
 one h:=by obtain ⟨v0,rfl,h0⟩:=h; exact (dA (aU.pH h0) TJ)
structure bH where
 eD:aG
 rules:(List aR)
 on:(List RU)
 held:(List RU)
 watch:cM
 state:dB
 time:Int
 log:bV
 over:(List RU)
 deriving DecidableEq
structure dU where
 a0:bH
 a1:bH
 deriving DecidableEq
structure cP where
 a0:(List aB)
 a1:(List aB)
 deriving DecidableEq
instance:aK cP where
 sz:=2
 E H cs x:=∃ v0 v1:RV,cs=[v0,v1]/\aU H v0 x.a0/\aU H v1 x.a1
 len h:=by obtain ⟨v0,v1,rfl,h0,h1⟩:=h; rfl
 mono hle h:=by obtain ⟨v0,v1,rfl,h0,h1⟩:=h; exact ⟨v0,v1,rfl,h0.mono hle,h1.mono hle⟩
 one h:=by obtain ⟨v0,v1,rfl,h0,h1⟩:=h; exact (dA (aU.pH h0) (dA (aU.pH h1) TJ))
structure aP where
 Term:Int
 Number:Int
 Ea:Bool
 Event:aB
 deriving DecidableEq
instance:aK aP where
 sz:=7
 E H cs x:=cs=[.int .i64 (x.Term),.int .i64 (x.Number),.bool (x.Ea),.int .i64 (x.Event.Time),.string (x.Event.Kind),.string (x.Event.Name),.int .i64 (x.Event.Value)]
 len h:=by obtain rfl:=h; rfl
 mono hle h:=by obtain rfl:=h; exact rfl
 one h:=by obtain rfl:=h; exact (dA rfl (dA rfl (dA rfl (dA rfl (dA rfl (dA rfl (dA rfl TJ)))))))
instance:Flat aP:=⟨λh=>h⟩
structure aC where
 nY:aN
 kQ:dU
 events:cP
 fM:(List aP)
 term:Int
 done:Int
 mT:Int
 deriving DecidableEq
structure bC where
 seen:(List (RU×Bool))
 nodes:(List RU)
 deriving DecidableEq
structure bL where
 rA:(List Int)
 cH:(List Int)
 deriving DecidableEq
instance:aK bL where
 sz:=2
 E H cs x:=∃ v0 v1:RV,cs=[v0,v1]/\aU H v0 x.rA/\aU H v1 x.cH
 len h:=by obtain ⟨v0,v1,rfl,h0,h1⟩:=h; rfl
 mono hle h:=by obtain ⟨v0,v1,rfl,h0,h1⟩:=h; exact ⟨v0,v1,rfl,h0.mono hle,h1.mono hle⟩
 one h:=by obtain ⟨v0,v1,rfl,h0,h1⟩:=h; exact (dA (aU.pH h0) (dA (aU.pH h1) TJ))
structure cS where
 a0:Int
 a1:Int
 deriving DecidableEq
instance:aK cS where
 sz:=2
 E H cs x:=cs=[.int .i64 (x.a0),.int .i64 (x.a1)]
 len h:=by obtain rfl:=h; rfl
 mono hle h:=by obtain rfl:=h; exact rfl
 one h:=by obtain rfl:=h; exact (dA rfl (dA rfl TJ))
instance:Flat cS:=⟨λh=>h⟩
structure cC where
 kB:Int
 rB:Int
 dY:Int
 deriving DecidableEq
instance:aK cC where
 sz:=3
 E H cs x:=cs=[.int .i64 (x.kB),.int .i64 (x.rB),.int .i64 (x.dY)]
 len h:=by obtain rfl:=h; rfl
 mono hle h:=by obtain rfl:=h; exact rfl
 one h:=by obtain rfl:=h; exact (dA rfl (dA rfl (dA rfl TJ)))
instance:Flat cC:=⟨λh=>h⟩
structure bJ where
 xg:bL
 qD:(List Int)
 To:(List Int)
 B_:(List aA)
 C:(List aA)
 sd:(List Int)
 sE:(List (List aA))
 deriving DecidableEq
instance:aK bJ where
 sz:=8
 E H cs x:=∃ v0 v1 v2 v3 v4 v5 v6 v7:RV,cs=[v0,v1,v2,v3,v4,v5,v6,v7]/\aU H v0 x.xg.rA/\aU H v1 x.xg.cH/\aU H v2 x.qD/\aU H v3 x.To/\aU H v4 x.B_/\aU H v5 x.C/\aU H v6 x.sd/\aU H v7 x.sE
 len h:=by obtain ⟨v0,v1,v2,v3,v4,v5,v6,v7,rfl,h0,h1,h2,h3,h4,h5,h6,h7⟩:=h; rfl
 mono hle h:=by obtain ⟨v0,v1,v2,v3,v4,v5,v6,v7,rfl,h0,h1,h2,h3,h4,h5,h6,h7⟩:=h; exact ⟨v0,v1,v2,v3,v4,v5,v6,v7,rfl,h0.mono hle,h1.mono hle,h2.mono hle,h3.mono hle,h4.mono hle,h5.mono hle,h6.mono hle,h7.mono hle⟩
 one h:=by obtain ⟨v0,v1,v2,v3,v4,v5,v6,v7,rfl,h0,h1,h2,h3,h4,h5,h6,h7⟩:=h; exact (dA (aU.pH h0) (dA (aU.pH h1) (dA (aU.pH h2) (dA (aU.pH h3) (dA (aU.pH h4) (dA (aU.pH h5) (dA (aU.pH h6) (dA (aU.pH h7) TJ))))))))
structure dS where
 n:aG
 on:(List RU)
 deriving DecidableEq
instance:aK dS where
 sz:=7
 E H cs x:=∃ v0 v1 v2 v3 v4 v5 v6:RV,cs=[v0,v1,v2,v3,v4,v5,v6]/\aU H v0 x.n.bP/\aU H v1 x.n.aT/\aU H v2 x.n.aL/\aU H v3 x.n.dI/\aU H v4 x.n.bM/\aU H v5 x.n.cB/\aU H v6 x.on
 len h:=by obtain ⟨v0,v1,v2,v3,v4,v5,v6,rfl,h0,h1,h2,h3,h4,h5,h6⟩:=h; rfl
 mono hle h:=by obtain ⟨v0,v1,v2,v3,v4,v5,v6,rfl,h0,h1,h2,h3,h4,h5,h6⟩:=h; exact ⟨v0,v1,v2,v3,v4,v5,v6,rfl,h0.mono hle,h1.mono hle,h2.mono hle,h3.mono hle,h4.mono hle,h5.mono hle,h6.mono hle⟩
 one h:=by obtain ⟨v0,v1,v2,v3,v4,v5,v6,rfl,h0,h1,h2,h3,h4,h5,h6⟩:=h; exact (dA (aU.pH h0) (dA (aU.pH h1) (dA (aU.pH h2) (dA (aU.pH h3) (dA (aU.pH h4) (dA (aU.pH h5) (dA (aU.pH h6) TJ)))))))
structure aW where
 Name:RU
 Aa:Bool
 deriving DecidableEq
instance:aK aW where
 sz:=2
 E H cs x:=cs=[.string (x.Name),.bool (x.Aa)]
 len h:=by obtain rfl:=h; rfl
 mono hle h:=by obtain rfl:=h; exact rfl
 one h:=by obtain rfl:=h; exact (dA rfl (dA rfl TJ))
instance:Flat aW:=⟨λh=>h⟩
def py (I:Nat) (j:U8) (o:Unit->Option (Bool)):Option (Bool):=if !(((decide (65<=j.n)) && (decide (j.n<=90))) || (((decide (0<(I:Int))) && (decide (48<=j.n))) && (decide (j.n<=57)))) then (some false) else (o ())
def bX (j:RU):Option (Bool):=cZ (j.size<=maxLen) (eL (λk y o n=>py k y n) (λ_=>some ((decide (1<=(j.size:Int))) && (decide ((j.size:Int)<=8)))) 0 (lz j) ())
def mU (I:(List RU)) (J:RU) (j:Nat) (o:Unit->Option (Int)):Option (Int):=idx I (j:Int) λR=>if decide (J=R) then (some (j:Int)) else (o ())
def bU (j:(List RU)) (o:RU):Option (Int):=lH (λk I n=>mU j o k n) (λ_=>some (-1)) ((j.length:Int):Int).toNat 0 ()
def cI (j:(List RU)) (o:RU):Option (Bool):=(bU j o).bind λI=>some (decide (0<=I))
def jV (j:bC) (name:RU) (nodes:(List RU)) (R:Nat) (I:RU) (o:Unit->Option (Int×bC)):Option (Int×bC):=(cI j.nodes I).bind λJ=>if !J then (some (6,(bC.mk (wY j.seen name true) j.nodes))) else (o ())
def cX (j:bC) (name:RU) (nodes:(List RU)):Option (Int×bC):=(bX name).bind λo=>if !o then (some (5,j)) else (if (sX j.seen name).getD false then (some (7,j)) else (eL (λk y R n=>jV j name nodes k y n) (λ_=>if decide ((nodes.length:Int)=2) then (idx nodes 0 λI=>idx nodes 1 λJ=>if decide (I=J) then (some (3,(bC.mk (wY j.seen name true) j.nodes))) else (some (0,(bC.mk (wY j.seen name true) j.nodes)))) else (some (0,(bC.mk (wY j.seen name true) j.nodes)))) 0 nodes ()))
def cA (I:Int) (o:Int) (j:Int):Bool:=((decide (I<o)) || (decide (j<I)))
def kO (j:aS):Int:=if (((((cA j.X 1 10000) || (cA j.B6 500 1500)) || (cA j.Shift (-1000) 1000)) || (cA j.tI 0 100000)) || (cA j.wZ j.tI 100000)) || (cA j.B1 0 200000) then 4 else 0
def bI (j:Int):Bool:=(!(cA j 0 100000))
def lf (I:bC) (U:Nat) (j:bW) (R:(List (RU×Bool))) (J:(List (RU×Bool))->Option (Int×bC)):Option (Int×bC):=(cX (bC.mk R I.nodes) j.Name ([j.Node])).bind λo=>if !decide (o.1=0) then (some (o.1,(bC.mk o.2.seen I.nodes))) else (if ((!(bI j.sf)) || (!(bI j.Discharge))) || (!(bI j.s6)) then (some (4,(bC.mk o.2.seen I.nodes))) else (J o.2.seen))
def k_ (o:bC) (U:Nat) (I:aI) (R:(List (RU×Bool))) (J:(List (RU×Bool))->Option (Int×bC)):Option (Int×bC):=(cX (bC.mk R o.nodes) I.Name ([I.Node])).bind λj=>if !decide (j.1=0) then (some (j.1,(bC.mk j.2.seen o.nodes))) else (if !(bI I.dY) then (some (4,(bC.mk j.2.seen o.nodes))) else (J j.2.seen))
def kZ (I:bC) (U:Nat) (j:bK) (R:(List (RU×Bool))) (J:(List (RU×Bool))->Option (Int×bC)):Option (Int×bC):=(cX (bC.mk R I.nodes) j.Name ([j.Node])).bind λo=>if !decide (o.1=0) then (some (o.1,(bC.mk o.2.seen I.nodes))) else (if ((!(bI j.kB)) || (cA j.rB j.kB 100000)) || (!(bI j.Bi)) then (some (4,(bC.mk o.2.seen I.nodes))) else (J o.2.seen))
def iQ (j:bC) (o:aG):Option (Int×bC):=eL (λk y I n=>kZ j k y I n) (λI=>eL (λk y J n=>k_ j k y J n) (λJ=>eL (λk y R n=>lf j k y R n) (λR=>some (0,(bC.mk R j.nodes))) 0 o.cB J) 0 o.bM I) 0 o.dI j.seen
def oA (J:aG) (U:Nat) (j:aS) (R:(List (RU×Bool))) (I:(List (RU×Bool))->Option (Int)):Option (Int):=(cX (bC.mk R J.bP) j.Name ([j.qD,j.To])).bind λo=>if !decide (o.1=0) then (some o.1) else (if !decide ((kO j)=0) then (some (kO j)) else (I o.2.seen))
def oz (J:aG) (U:Nat) (j:aX) (R:(List (RU×Bool))) (I:(List (RU×Bool))->Option (Int)):Option (Int):=(cX (bC.mk R J.bP) j.Name ([j.A,j.B_])).bind λo=>if !decide (o.1=0) then (some o.1) else (I o.2.seen)
def oy (I:aG) (U:Nat) (J:RU) (R:(List (RU×Bool))) (o:(List (RU×Bool))->Option (Int)):Option (Int):=(cX (bC.mk R I.bP) J []).bind λj=>if !decide (j.1=0) then (some j.1) else (o j.2.seen)
def cR (j:aG):Option (Int):=if (((((decide (24<(j.bP.length:Int))) || (decide (32<(j.aT.length:Int)))) || (decide (24<(j.aL.length:Int)))) || (decide (10<(j.dI.length:Int)))) || (decide (12<(j.bM.length:Int)))) || (decide (4<(j.cB.length:Int))) then (some 2) else (eL (λk y o n=>oy j k y o n) (λo=>eL (λk y I n=>oz j k y I n) (λI=>eL (λk y J n=>oA j k y J n) (λJ=>(iQ (bC.mk J j.bP) j).bind λR=>some R.1) 0 j.aL I) 0 j.aT o) 0 j.bP ([]:(List (RU×Bool))))
def e_ (j:List Int->Option (Int)) (o:List Int):Option (Int):=j o
def fJ (o:List Int) (J:List Int->Option (Int)) (I:bE) (j:Nat) (R:Bool):Option (Int):=if R then (if decide ((j:Int)=0) then (some 3) else (if decide (I.B_=(i64.wrap ((j:Int)-1))) then (idx (o.set (((j:Int):Int).toNat) ((j:Int))) (i64.wrap ((j:Int)-1)) λU=>if decide (U=0) then (some 3) else (idx (o.set (((j:Int):Int).toNat) ((j:Int))) (i64.wrap ((j:Int)-1)) λY=>if !decide (I.A=(i64.wrap (Y-1))) then (some 3) else (idx (o.set (((j:Int):Int).toNat) ((j:Int))) I.A λZ=>idx (o.set (((j:Int):Int).toNat) ((j:Int))) (j:Int) λRF=>e_ J ((o.set (((j:Int):Int).toNat) ((j:Int))).set (((j:Int):Int).toNat) Z)))) else (some 3))) else (if (!decide (I.A=0)) || (!decide (I.B_=0)) then (some 3) else (e_ J (o.set (((j:Int):Int).toNat) ((j:Int)))))
def lG (o:List Int) (J:List Int->Option (Int)) (I:bE) (j:Nat) (R:Bool):Option (Int):=if R then (if decide ((j:Int)=0) then (some 3) else (if decide (I.B_=(i64.wrap ((j:Int)-1))) then (idx (o.set (((j:Int):Int).toNat) ((j:Int))) (i64.wrap ((j:Int)-1)) λU=>if decide (U=0) then (some 3) else (idx (o.set (((j:Int):Int).toNat) ((j:Int))) (i64.wrap ((j:Int)-1)) λY=>if !decide (I.A=(i64.wrap (Y-1))) then (some 3) else (idx (o.set (((j:Int):Int).toNat) ((j:Int))) I.A λZ=>idx (o.set (((j:Int):Int).toNat) ((j:Int))) (j:Int) λRF=>e_ J ((o.set (((j:Int):Int).toNat) ((j:Int))).set (((j:Int):Int).toNat) Z)))) else (some 3))) else (if (!decide (I.A=0)) || (!decide (I.B_=0)) then (some 3) else (e_ J (o.set (((j:Int):Int).toNat) ((j:Int)))))
def pI (j:Nat) (o:bE) (I:List Int) (J:List Int->Option (Int)):Option (Int):=if (decide (o.Kind<0)) || (decide (6<o.Kind)) then (some 1) else (if (decide (o.Kind=2)) || (decide (o.Kind=3)) then ((bX o.Name).bind λU=>if !U then (some 6) else (idx I (j:Int) λRF=>if decide (o.Kind=4) then (if ((decide ((j:Int)=0)) || (!decide (o.A=(i64.wrap ((j:Int)-1))))) || (!decide (o.B_=0)) then (some 3) else (idx (I.set (((j:Int):Int).toNat) ((j:Int))) o.A λR=>idx (I.set (((j:Int):Int).toNat) ((j:Int))) (j:Int) λZ=>e_ J ((I.set (((j:Int):Int).toNat) ((j:Int))).set (((j:Int):Int).toNat) R))) else (if decide (o.Kind=5) then (lG I J o j (decide (o.Kind=5))) else (lG I J o j (decide (o.Kind=6)))))) else (if !decide (o.Name=(⟨#[]⟩)) then (some 3) else (idx I (j:Int) λRG=>if decide (o.Kind=4) then (if ((decide ((j:Int)=0)) || (!decide (o.A=(i64.wrap ((j:Int)-1))))) || (!decide (o.B_=0)) then (some 3) else (idx (I.set (((j:Int):Int).toNat) ((j:Int))) o.A λY=>idx (I.set (((j:Int):Int).toNat) ((j:Int))) (j:Int) λRH=>e_ J ((I.set (((j:Int):Int).toNat) ((j:Int))).set (((j:Int):Int).toNat) Y))) else (if decide (o.Kind=5) then (fJ I J o j (decide (o.Kind=5))) else (fJ I J o j (decide (o.Kind=6)))))))
def lM (j:(List bE)):Option (Int):=if decide (40<(j.length:Int)) then (some 2) else (if decide ((j.length:Int)=0) then (some 3) else (cZ (0<=(j.length:Int)/\(j.length:Int)*8<=140737488355328) (eL (λk y o n=>pI k y o n) (λo=>idx o (i64.wrap ((j.length:Int)-1)) λI=>if !decide (I=0) then (some 3) else (some 0)) 0 j (List.replicate ((j.length:Int):Int).toNat (0:Int)))))
def sn (R:Nat) (j:aR) (I:Unit->Option (Int)):Option (Int):=(bX j.Switch).bind λJ=>if !J then (some 6) else ((lM j.um).bind λo=>if !decide (o=0) then (some o) else (I ()))
def nQ (j:(List aR)):Option (Int):=if decide (24<(j.length:Int)) then (some 2) else (eL (λk y o n=>sn k y n) (λ_=>some 0) 0 j ())
def vy (J:Nat) (j:aI) (o:List RU) (I:List RU->Option ((List RU))):Option ((List RU)):=cZ ((o.length+([j.Name]).length)*16<=140737488355328) (I (o++([j.Name])))
def sJ (o:aG):Option ((List RU)):=eL (λk y j n=>vy k y j n) (λj=>some j) 0 o.bM ([]:List RU)
def qq (o:aI) (j:RU):Bool:=(decide (o.Name=j))
def eJ (J:(List aI)) (j:RU) (o:Nat) (I:Unit->Option (Int)):Option (Int):=idx J (o:Int) λR=>if (qq R j) then (some (o:Int)) else (I ())
def dK (o:(List aI)) (j:RU):Option (Int):=lH (λk I n=>eJ o j k n) (λ_=>some (-1)) ((o.length:Int):Int).toNat 0 ()
def dC (o:(List aI)) (j:RU):Option (Bool):=(dK o j).bind λI=>some (decide (0<=I))
def rj (J:aG) (on:(List RU)) (j:Nat) (o:RU) (I:Unit->Option (Int)):Option (Int):=(dC J.bM o).bind λR=>if !R then (some 6) else (cZ (0<=(j:Int)/\(j:Int)<=(on.length:Int)) ((cI (pM on 0 (((j:Int):Int).toNat)) o).bind λU=>if U then (some 7) else (I ())))
def fG (j:aG) (on:(List RU)):Option (Int):=(cR j).bind λo=>if !decide (o=0) then (some o) else (eL (λk y I n=>rj j on k y n) (λ_=>some 0) 0 on ())
def lv (j:aG):Option (aG):=cZ (j.bP.length*16<=140737488355328) (cZ (j.aT.length*56<=140737488355328) (cZ (j.aL.length*96<=140737488355328) (cZ (j.dI.length*56<=140737488355328) (cZ (j.bM.length*40<=140737488355328) (cZ (j.cB.length*56<=140737488355328) (some j))))))
def nj (o:aI) (j:(List RU)):Option (Bool):=(cI j o.Name).bind λI=>some (!I)
def jQ (J:(List aI)) (j:(List RU)) (o:Nat) (I:Unit->Option (Int)):Option (Int):=idx J (o:Int) λR=>(nj R j).bind λU=>if U then (some (o:Int)) else (I ())
def f_ (o:(List aI)) (j:(List RU)):Option (Int):=lH (λk I n=>jQ o j k n) (λ_=>some (-1)) ((o.length:Int):Int).toNat 0 ()
def eH (I:Int) (j:(List aI×Int×Int)->Option ((List aI))) (o:List aI) (J:Int):Option ((List aI)):=j (o,J,i64.wrap (I+1))
def jD (del_0:(List RU)) (j:List aI) (Y:Int) (Z:Int) (o:(List aI×Int×Int)->Option ((List aI))):Option ((List aI)):=if decide (Z<(j.length:Int)) then (idx j Z λI=>(nj I del_0).bind λJ=>if !J then (idx j Y λR=>eH Z o (j.set ((Y:Int).toNat) I) (i64.wrap (Y+1))) else (eH Z o j Y)) else (cZ (0<=Y/\Y<=(j.length:Int)) (cZ (0<=Y/\Y<=((j.take (Y).toNat++List.replicate (j.length-(Y).toNat) ((aI.mk (⟨#[]⟩) (⟨#[]⟩) 0):aI)).length:Int)) (some (pM (j.take (Y).toNat++List.replicate (j.length-(Y).toNat) ((aI.mk (⟨#[]⟩) (⟨#[]⟩) 0):aI)) 0 ((Y:Int).toNat)))))
def eX (j:(List aI)) (J:(List RU)):Option ((List aI)):=(f_ j J).bind λo=>if decide (o=(-1)) then (some j) else (iV (λI n=>jD J I.1 I.2.1 I.2.2 n) gO (j,o,i64.wrap (o+1)))
def qP (o:aG) (on:(List RU)):Option (aG):=(lv o).bind λj=>(eX j.bM on).bind λI=>some (aG.mk j.bP j.aT j.aL j.dI I j.cB)
def pA (j:aG) (on:(List RU)):Option (aG×Int):=(fG j on).bind λo=>if !decide (o=0) then (some ((aG.mk ([]:List RU) ([]:List aX) ([]:List aS) ([]:List bK) ([]:List aI) ([]:List bW)),o)) else ((qP j on).bind λI=>some (I,0))
def pD (j:(List cS×List Int)->Option ((List cS)×(List Int))) (o:List cS) (I:List Int):Option ((List cS)×(List Int)):=j (o,I)
def tF (U:aG) (j:Bool) (Y:Nat) (o:aX) (I:List cS) (J:List Int) (R:(List cS×List Int)->Option ((List cS)×(List Int))):Option ((List cS)×(List Int)):=if decide (o.Open=j) then ((bU U.bP o.A).bind λZ=>(bU U.bP o.B_).bind λRF=>cZ ((I.length+([(cS.mk Z RF)]).length)*16<=140737488355328) (cZ ((J.length+([((Y:Int))]:List Int).length)*8<=140737488355328) (pD R (I++([(cS.mk Z RF)])) (J++([((Y:Int))]:List Int))))) else (pD R I J)
def rI (I:aG) (o:Bool):Option ((List cS)×(List Int)):=eL (λk y j n=>tF I o k y j.1 j.2 n) (λj=>some (j.1,j.2)) 0 I.aT (([]:List cS),([]:List Int))
def uH (o:Int) (J:Nat) (j:cS) (I:Unit->Option (Int)):Option (Int):=if decide (j.a0<0) then (some 4) else (if decide (o<=j.a0) then (some 4) else (if decide (j.a1<0) then (some 4) else (if decide (o<=j.a1) then (some 4) else (I ()))))
def s9 (j:Int) (o:(List cS)):Option (Int):=if ((decide (j<0)) || (decide (24<j))) || (decide (64<(o.length:Int))) then (some 2) else (eL (λk y I n=>uH j k y n) (λ_=>some 0) 0 o ())
def nV (j:Int) (o:Int):Int×Int:=((u64.wrap ((u64.wrap ((u64.wrap ((pL .u64 j 32)*(pL .u64 o 32)))+(pL .u64 (u64.wrap ((u64.wrap ((pL .u64 j 32)*(u64.wrap ((BitVec.ofInt (u64).bits o &&& BitVec.ofInt (u64).bits 4294967295).toNat))))+(pL .u64 (u64.wrap ((u64.wrap ((BitVec.ofInt (u64).bits j &&& BitVec.ofInt (u64).bits 4294967295).toNat))*(u64.wrap ((BitVec.ofInt (u64).bits o &&& BitVec.ofInt (u64).bits 4294967295).toNat)))) 32))) 32)))+(pL .u64 (u64.wrap ((u64.wrap ((BitVec.ofInt (u64).bits (u64.wrap ((u64.wrap ((pL .u64 j 32)*(u64.wrap ((BitVec.ofInt (u64).bits o &&& BitVec.ofInt (u64).bits 4294967295).toNat))))+(pL .u64 (u64.wrap ((u64.wrap ((BitVec.ofInt (u64).bits j &&& BitVec.ofInt (u64).bits 4294967295).toNat))*(u64.wrap ((BitVec.ofInt (u64).bits o &&& BitVec.ofInt (u64).bits 4294967295).toNat)))) 32))) &&& BitVec.ofInt (u64).bits 4294967295).toNat))+(u64.wrap ((u64.wrap ((BitVec.ofInt (u64).bits j &&& BitVec.ofInt (u64).bits 4294967295).toNat))*(pL .u64 o 32))))) 32))),(u64.wrap (j*o)))
def tk (j:Int) (o:Int):Int×Int:=((((nV j o)).1),(((nV j o)).2))
def lK (j:(List Int×Int)->Option ((List Int))) (o:List Int) (I:Int):Option ((List Int)):=j (o,I)
def fL (j:(List Int×List Int)->Option ((List Int))) (o:List Int) (I:List Int):Option ((List Int)):=j (o,I)
def rW (Y:Int) (U:Int) (o:Int) (Z:Nat) (j:cS) (I:List Int) (J:List Int) (R:(List Int×List Int)->Option ((List Int))):Option ((List Int)):=if decide ((Z:Int)=Y) then (fL R I J) else (if decide (j.a0=o) then (idx I (i64.wrap ((i64.wrap (j.a0+j.a1))-o)) λRE=>if decide (RE<0) then (idx I (i64.wrap ((i64.wrap (j.a0+j.a1))-o)) λRG=>cZ ((J.length+([(i64.wrap ((i64.wrap (j.a0+j.a1))-o))]:List Int).length)*8<=140737488355328) (fL R (I.set ((i64.wrap ((i64.wrap (j.a0+j.a1))-o):Int).toNat) U) (J++([(i64.wrap ((i64.wrap (j.a0+j.a1))-o))]:List Int)))) else (fL R I J)) else (if !decide (j.a1=o) then (fL R I J) else (idx I (i64.wrap ((i64.wrap (j.a0+j.a1))-o)) λRF=>if decide (RF<0) then (idx I (i64.wrap ((i64.wrap (j.a0+j.a1))-o)) λRH=>cZ ((J.length+([(i64.wrap ((i64.wrap (j.a0+j.a1))-o))]:List Int).length)*8<=140737488355328) (fL R (I.set ((i64.wrap ((i64.wrap (j.a0+j.a1))-o):Int).toNat) U) (J++([(i64.wrap ((i64.wrap (j.a0+j.a1))-o))]:List Int)))) else (fL R I J))))
def rV (RE:(List cS)) (Y:Int) (I:Int) (R:(List Int×Int)->Option ((List Int))) (J:List Int) (j:List Int) (U:(List Int×List Int)->Option ((List Int))):Option ((List Int)):=if decide (0<(j.length:Int)) then (idx j 0 λZ=>cZ (0<=1/\1<=(j.length:Int)) (eL (λk y o n=>rW Y I Z k y o.1 o.2 n) (λo=>U (o.1,o.2)) 0 RE (J,(pM j (1:Int).toNat j.length)))) else (lK R J (i64.wrap (I+1)))
def rU (Z:(List cS)) (Y:Int) (I:Nat) (j:List Int) (o:Int) (J:(List Int×Int)->Option ((List Int))):Option ((List Int)):=idx j (I:Int) λU=>if decide (0<=U) then (lK J j o) else (idx j (I:Int) λRE=>iV (λR n=>rV Z Y o J R.1 R.2 n) gO ((j.set (((I:Int):Int).toNat) o),([((I:Int))]:List Int)))
def qC (o:Int) (I:(List cS)) (J:Int):Option ((List Int)):=cZ (([((-1))]:List Int).length=1/\0<=o/\o*8<=140737488355328) (cZ (o<=9223372036854775807) (lH (λk j n=>rU I J k j.1 j.2 n) (λj=>some j.1) (o:Int).toNat 0 ((Ie ([((-1))]:List Int) o),0)))
def kW (j:Int) (o:(List cS)):Option ((List Int)×Int):=(s9 j o).bind λI=>if !decide (I=0) then (some (([]:List Int),I)) else ((qC j o (-1)).bind λJ=>some (J,0))
def pS (j:aG):Option ((List Int)):=(rI j false).bind λo=>(kW (j.bP.length:Int) o.1).bind λI=>some I.1
def uh (j:aG) (o:((List Int))) (RG:Nat) (I:aS) (J:List cS) (Y:List cS->Option (bL)):Option (bL):=(bU j.bP I.qD).bind λZ=>idx o Z λR=>(bU j.bP I.To).bind λRF=>idx o RF λU=>cZ ((J.length+([(cS.mk R U)]).length)*16<=140737488355328) (Y (J++([(cS.mk R U)])))
def ug (I:Nat) (o:Int) (J:Int) (j:Int->Option (bL)):Option (bL):=j (max J (i64.wrap (o+1)))
def fE (j:aG):Option (bL):=(pS j).bind λo=>eL (λk y I n=>ug k y I n) (λI=>eL (λk y J n=>uh j o k y J n) (λJ=>(kW I J).bind λR=>some (bL.mk o R.1)) 0 j.aL ([]:List cS)) 0 o 0
def sP (I:Nat) (o:Int) (J:Int) (j:Int->Option (Int)):Option (Int):=j (max J (i64.wrap (o+1)))
def nf (o:aG):Option (Int):=(fE o).bind λI=>eL (λk y j n=>sP k y j n) (λj=>some j) 0 I.cH 0
def n8 (o:aG) (j:bL) (Y:RU):Option (Int):=(bU o.bP Y).bind λI=>idx j.rA I λJ=>idx j.cH J λR=>some R
def tX (U:aG) (Y:(bL)) (RF:Nat) (I:aI) (j:List cC) (R:List cC->Option ((List cC))):Option ((List cC)):=(n8 U Y I.Node).bind λo=>idx j o λZ=>idx j o λJ=>R (j.set ((o:Int).toNat) (cC.mk J.kB J.rB (i64.wrap (Z.dY+I.dY))))
def tW (U:aG) (Y:(bL)) (Z:Nat) (o:bK) (J:List cC) (R:List cC->Option ((List cC))):Option ((List cC)):=(n8 U Y o.Node).bind λI=>idx J I λj=>R ((J.set ((I:Int).toNat) (cC.mk (i64.wrap (j.kB+o.kB)) j.rB j.dY)).set ((I:Int).toNat) (cC.mk (i64.wrap (j.kB+o.kB)) (i64.wrap (j.rB+o.rB)) j.dY))
def sq (j:aG):Option ((List cC)):=(fE j).bind λR=>(nf j).bind λo=>cZ (0<=o/\o*24<=140737488355328) (eL (λk y I n=>tW j R k y I n) (λI=>eL (λk y J n=>tX j R k y J n) (λJ=>some J) 0 j.bM I) 0 j.dI (List.replicate (o:Int).toNat ((cC.mk 0 0 0):cC)))
def pX (j:Int):Bool:=(decide (0<j))
def iB (I:(List Int)) (j:Nat) (o:Unit->Option (Int)):Option (Int):=idx I (j:Int) λJ=>if (pX J) then (some (j:Int)) else (o ())
def fW (j:(List Int)):Option (Int):=lH (λk o n=>iB j k n) (λ_=>some (-1)) ((j.length:Int):Int).toNat 0 ()
def eO (j:(List Int)):Option (Bool):=(fW j).bind λo=>some (decide (0<=o))
def ng (I:List Int) (j:List Int) (o:(List Int×List Int)->Option ((List Int)×Int)) (J:(Int)) (R:Int) (Y:Int):Option ((List Int)×Int):=cZ ((j.length+([Y]:List Int).length)*8<=140737488355328) (o ((I.set ((J:Int).toNat) (i64.wrap (R-Y))),(j++([Y]:List Int))))
def tz (Y:aG) (Z:(bL)) (RF:Nat) (o:bK) (I:List Int) (U:List Int) (J:(List Int×List Int)->Option ((List Int)×Int)):Option ((List Int)×Int):=(n8 Y Z o.Node).bind λR=>idx I R λj=>if decide (o.kB<=j) then (ng I U J R j (min o.rB j)) else (ng I U J R j 0)
def tx (J:Nat) (j:cC) (o:List Int) (I:List Int->Option ((List Int)×Int)):Option ((List Int)×Int):=cZ ((o.length+([j.dY]:List Int).length)*8<=140737488355328) (I (o++([j.dY]:List Int)))
def n7 (j:aG):Option ((List Int)×Int):=(cR j).bind λJ=>if !decide (J=0) then (some (([]:List Int),J)) else ((fE j).bind λR=>(sq j).bind λU=>eL (λk y I n=>tx k y I n) (λI=>eL (λk y o n=>tz j R k y o.1 o.2 n) (λo=>(eO o.1).bind λY=>if Y then (some (([]:List Int),14)) else (some (o.2,0))) 0 j.dI (I,([]:List Int))) 0 U ([]:List Int))
def uG (I:Nat) (j:Int) (o:Unit->Option ((List Int)×Int)):Option ((List Int)×Int):=if (decide (j<(-100000))) || (decide (100000<j)) then (some (([]:List Int),4)) else (o ())
def uF (R:aG) (Y:Nat) (I:aI) (j:List Int) (J:List Int->Option ((List Int)×Int)):Option ((List Int)×Int):=(bU R.bP I.Node).bind λo=>idx j o λU=>idx j o λZ=>J (j.set ((o:Int).toNat) (i64.wrap (U-I.dY)))
def uE (U:aG) (Y:(List Int)) (j:Nat) (o:bW) (I:List Int) (R:List Int->Option ((List Int)×Int)):Option ((List Int)×Int):=idx Y (j:Int) λZ=>if decide (Z<(i64.wrap (0-o.sf))) then (some (([]:List Int),17)) else (idx Y (j:Int) λRE=>if decide (o.Discharge<RE) then (some (([]:List Int),17)) else ((bU U.bP o.Node).bind λJ=>idx I J λRF=>idx Y (j:Int) λRG=>idx I J λRH=>R (I.set ((J:Int).toNat) (i64.wrap (RF+RG)))))
def uD (Z:aG) (Y:(List Int)) (o:Nat) (I:bK) (j:List Int) (J:List Int->Option ((List Int)×Int)):Option ((List Int)×Int):=idx Y (o:Int) λRE=>if decide (RE=0) then ((bU Z.bP I.Node).bind λR=>idx j R λRF=>idx Y (o:Int) λRG=>idx j R λRM=>J (j.set ((R:Int).toNat) (i64.wrap (RF+RG)))) else (idx Y (o:Int) λRH=>if decide (RH<I.kB) then (some (([]:List Int),17)) else (idx Y (o:Int) λRI=>if decide (I.rB<RI) then (some (([]:List Int),17)) else ((bU Z.bP I.Node).bind λU=>idx j U λRJ=>idx Y (o:Int) λRK=>idx j U λRN=>J (j.set ((U:Int).toNat) (i64.wrap (RJ+RK))))))
def s8 (j:aG) (Z:(List Int)) (Y:(List Int)):Option ((List Int)×Int):=(cR j).bind λR=>if !decide (R=0) then (some (([]:List Int),R)) else (if (!decide ((Z.length:Int)=(j.dI.length:Int))) || (!decide ((Y.length:Int)=(j.cB.length:Int))) then (some (([]:List Int),3)) else (cZ (0<=(j.bP.length:Int)/\(j.bP.length:Int)*8<=140737488355328) (eL (λk y I n=>uD j Z k y I n) (λI=>eL (λk y J n=>uE j Y k y J n) (λJ=>eL (λk y o n=>uF j k y o n) (λo=>eL (λk y U n=>uG k y n) (λ_=>some (o,0)) 0 o ()) 0 j.bM J) 0 j.cB I) 0 j.dI (List.replicate ((j.bP.length:Int):Int).toNat (0:Int)))))
def iP (j:aG):Option ((List Int)×Int):=(n7 j).bind λo=>if !decide (o.2=0) then (some (([]:List Int),o.2)) else (cZ (0<=(j.cB.length:Int)/\(j.cB.length:Int)*8<=140737488355328) ((s8 j o.1 (List.replicate ((j.cB.length:Int):Int).toNat (0:Int))).bind λI=>some (I.1,I.2)))
def vm (o:(bL)) (U:Nat) (j:Int) (I:(List (Int×Int))) (R:(List (Int×Int))->Option (Int)):Option (Int):=if (decide (j<(-100000))) || (decide (100000<j)) then (some 4) else (idx o.rA (U:Int) λY=>idx o.cH Y λJ=>R (wY I J (i64.wrap (((sX I J).getD (0:Int))+j))))
def q6 (j:aG) (Y:(List Int)):Option (Int):=(cR j).bind λI=>if !decide (I=0) then (some I) else (if !decide ((Y.length:Int)=(j.bP.length:Int)) then (some 3) else ((fE j).bind λJ=>eL (λk y o n=>vm J k y o n) (λo=>if (o.any (λR=>!decide (R.2=0))) then (some 14) else (some 0)) 0 Y ([]:(List (Int×Int)))))
def pQ (minus:Bool) (j:(List cL)):Option (aF):=if minus then (some (aF.mk (decide (0<(j.length:Int))) j)) else (some (aF.mk false j))
def vr (minus:Bool) (j:(List cL)) (o:(List cL)->Option (aF)):Option (aF):=if decide (0<(j.length:Int)) then (idx j (i64.wrap ((j.length:Int)-1)) λI=>if decide (I.n=0) then (cZ (0<=(i64.wrap ((j.length:Int)-1))/\(i64.wrap ((j.length:Int)-1))<=(j.length:Int)) (o (pM j 0 ((i64.wrap ((j.length:Int)-1):Int).toNat)))) else (pQ minus j)) else (pQ minus j)
def kN (minus:Bool) (j:(List cL)):Option (aF):=iV (λo n=>vr minus o n) gO j
def rM (j:Int) (I:Int):Option (aF):=(kN (decide (j<0)) ([⟨u32.wrap (I)⟩,⟨u32.wrap (pL .u64 I 32)⟩]:List cL)).bind λo=>some o
def n9 (j:Int):Option (aF):=if decide (j<0) then (rM j (u64.wrap (0-(u64.wrap (j))))) else (rM j (u64.wrap (j)))
def mP (j:aF):Option (aF):=(kN (!j.minus) j.words).bind λo=>some o
def gH (j:aF):Int:=if decide ((j.words.length:Int)=0) then 0 else (if j.minus then (-1) else 1)
def sS (j:(List cL)) (o:(List cL)) (Y:Int) (I:Int->Option (Int)):Option (Int):=if decide (0<=Y) then (idx j Y λJ=>idx o Y λR=>if !decide (J.n=R.n) then (idx j Y λU=>idx o Y λZ=>if decide (U.n<Z.n) then (some (-1)) else (some 1)) else (I (i64.wrap (Y-1)))) else (some 0)
def oX (j:(List cL)) (o:(List cL)):Option (Int):=if !decide ((j.length:Int)=(o.length:Int)) then (some (i64.wrap ((j.length:Int)-(o.length:Int)))) else (iV (λI n=>sS j o I n) gO (i64.wrap ((j.length:Int)-1)))
def sT (R:(List cL)) (j:Int) (o:List cL) (Z:Int) (Y:Int) (J:(List cL×Int×Int)->Option ((List cL)×Int)):Option ((List cL)×Int):=if decide (0<=Y) then (idx R Y λI=>cZ ((u64.wrap (j))≠0) (idx o Y λU=>cZ ((u64.wrap (j))≠0) (J ((o.set ((Y:Int).toNat) ⟨u32.wrap (u64.wrap (Int.tdiv (u64.wrap ((BitVec.ofInt (u64).bits (vc .u64 Z 32) ||| BitVec.ofInt (u64).bits (u64.wrap (I.n))).toNat)) (u64.wrap (j))))⟩),Int.tmod (u64.wrap ((BitVec.ofInt (u64).bits (vc .u64 Z 32) ||| BitVec.ofInt (u64).bits (u64.wrap (I.n))).toNat)) (u64.wrap (j)),i64.wrap (Y-1))))) else (some (o,(u32.wrap (Z))))
def oZ (j:(List cL)) (I:Int):Option ((List cL)×Int):=cZ (0<=(j.length:Int)/\(j.length:Int)*4<=140737488355328) (iV (λo n=>sT j I o.1 o.2.1 o.2.2 n) gO ((List.replicate ((j.length:Int):Int).toNat (⟨0⟩:cL)),0,i64.wrap ((j.length:Int)-1)))
def l_ (I:Int) (J:Int):Option (Int):=idx (lz (⟨#[0,1,2,2,3,3,3,3,4,4,4,4,4,4,4,4,5,5,5,5,5,5,5,5,5,5,5,5,5,5,5,5,6,6,6,6,6,6,6,6,6,6,6,6,6,6,6,6,6,6,6,6,6,6,6,6,6,6,6,6,6,6,6,6,7,7,7,7,7,7,7,7,7,7,7,7,7,7,7,7,7,7,7,7,7,7,7,7,7,7,7,7,7,7,7,7,7,7,7,7,7,7,7,7,7,7,7,7,7,7,7,7,7,7,7,7,7,7,7,7,7,7,7,7,7,7,7,7,8,8,8,8,8,8,8,8,8,8,8,8,8,8,8,8,8,8,8,8,8,8,8,8,8,8,8,8,8,8,8,8,8,8,8,8,8,8,8,8,8,8,8,8,8,8,8,8,8,8,8,8,8,8,8,8,8,8,8,8,8,8,8,8,8,8,8,8,8,8,8,8,8,8,8,8,8,8,8,8,8,8,8,8,8,8,8,8,8,8,8,8,8,8,8,8,8,8,8,8,8,8,8,8,8,8,8,8,8,8,8,8,8,8,8,8,8,8,8,8,8,8,8,8,8,8,8,8]⟩)) (u8.wrap (I)) λj=>some (i64.wrap (J+(i64.wrap (j.n))))
def mb (I:Int) (J:Int):Option (Int):=if decide (256<=I) then (l_ (pL .u32 I 8) (i64.wrap (J+8))) else (l_ I J)
def r8 (j:Int):Option (Int):=if decide (65536<=j) then (mb (pL .u32 j 16) 16) else (mb j 0)
def kY (j:Int):Option (Int):=(r8 j).bind λo=>some (i64.wrap (32-o))
def tE (j:Int) (o:Nat) (I:cL) (J:List cL) (Y:Int) (R:(List cL×Int)->Option ((List cL))):Option ((List cL)):=cZ (0<=j) (idx J (o:Int) λU=>R ((J.set (((o:Int):Int).toNat) ⟨u32.wrap (u64.wrap ((BitVec.ofInt (u64).bits Y ||| BitVec.ofInt (u64).bits (vc .u64 (u64.wrap (I.n)) j)).toNat))⟩),pL .u64 (u64.wrap ((BitVec.ofInt (u64).bits Y ||| BitVec.ofInt (u64).bits (vc .u64 (u64.wrap (I.n)) j)).toNat)) 32))
def pR (j:(List cL)) (I:Int):Option ((List cL)):=cZ (0<=(i64.wrap ((j.length:Int)+1))/\(i64.wrap ((j.length:Int)+1))*4<=140737488355328) (eL (λk y o n=>tE I k y o.1 o.2 n) (λo=>idx o.1 (j.length:Int) λJ=>some (o.1.set (((j.length:Int):Int).toNat) ⟨u32.wrap (o.2)⟩)) 0 j ((List.replicate (i64.wrap ((j.length:Int)+1):Int).toNat (⟨0⟩:cL)),0))
def l9 (o:List cL) (j:Int) (I:(List cL×List cL×Int)->Option ((List cL)×(List cL))) (J:List cL) (R:Int):Option ((List cL)×(List cL)):=idx o j λU=>I ((o.set ((j:Int).toNat) ⟨u32.wrap (R)⟩),J,i64.wrap (j-1))
def qb (Z:(List cL)) (RF:((List cL))) (o:Int) (j:Nat) (I:List cL) (J:Int) (Y:(List cL×Int)->Option ((List cL)×(List cL))):Option ((List cL)×(List cL)):=idx I (i64.wrap ((j:Int)+o)) λR=>idx (pM RF 0 (((Z.length:Int):Int).toNat)) (j:Int) λU=>idx I (i64.wrap ((j:Int)+o)) λRG=>Y ((I.set ((i64.wrap ((j:Int)+o):Int).toNat) ⟨u32.wrap (u64.wrap (J+(u64.wrap ((u64.wrap (R.n))+(u64.wrap (U.n))))))⟩),pL .u64 (u64.wrap (J+(u64.wrap ((u64.wrap (R.n))+(u64.wrap (U.n)))))) 32)
def qa (RG:(List cL)) (RH:((List cL))) (o:Int) (I:Int) (j:Nat) (J:List cL) (Y:Int) (R:Int) (RF:(List cL×Int×Int)->Option ((List cL)×(List cL))):Option ((List cL)×(List cL)):=idx (pM RH 0 (((RG.length:Int):Int).toNat)) (j:Int) λU=>idx J (i64.wrap ((j:Int)+o)) λZ=>idx J (i64.wrap ((j:Int)+o)) λRI=>RF ((J.set ((i64.wrap ((j:Int)+o):Int).toNat) ⟨u32.wrap (i64.wrap (Y+(i64.wrap ((i64.wrap (Z.n))-(i64.wrap (u64.wrap ((BitVec.ofInt (u64).bits (u64.wrap (R+(u64.wrap (I*(u64.wrap (U.n)))))) &&& BitVec.ofInt (u64).bits 4294967295).toNat)))))))⟩),pL .i64 (i64.wrap (Y+(i64.wrap ((i64.wrap (Z.n))-(i64.wrap (u64.wrap ((BitVec.ofInt (u64).bits (u64.wrap (R+(u64.wrap (I*(u64.wrap (U.n)))))) &&& BitVec.ofInt (u64).bits 4294967295).toNat))))))) 32,pL .u64 (u64.wrap (R+(u64.wrap (I*(u64.wrap (U.n)))))) 32)
def gY (I:(List cL)) (RF:((List cL))) (Z:List cL) (RG:List cL) (o:Int) (Y:(List cL×List cL×Int)->Option ((List cL)×(List cL))) (R:Int):Option ((List cL)×(List cL)):=lH (λk j n=>qa I RF o R k j.1 j.2.1 j.2.2 n) (λj=>idx j.1 (i64.wrap (o+(I.length:Int))) λU=>idx j.1 (i64.wrap (o+(I.length:Int))) λRI=>if decide ((i64.wrap (j.2.1+(i64.wrap ((i64.wrap (U.n))-(i64.wrap (j.2.2))))))<0) then (lH (λk J n=>qb I RF o k J.1 J.2 n) (λJ=>idx J.1 (i64.wrap (o+(I.length:Int))) λRH=>idx J.1 (i64.wrap (o+(I.length:Int))) λRJ=>l9 Z o Y (J.1.set ((i64.wrap (o+(I.length:Int)):Int).toNat) ⟨u32.wrap (RH.n+(u32.wrap (J.2)))⟩) (u64.wrap (R-1))) ((I.length:Int):Int).toNat 0 ((j.1.set ((i64.wrap (o+(I.length:Int)):Int).toNat) ⟨u32.wrap (i64.wrap (j.2.1+(i64.wrap ((i64.wrap (U.n))-(i64.wrap (j.2.2))))))⟩),0)) else (l9 Z o Y (j.1.set ((i64.wrap (o+(I.length:Int)):Int).toNat) ⟨u32.wrap (i64.wrap (j.2.1+(i64.wrap ((i64.wrap (U.n))-(i64.wrap (j.2.2))))))⟩) R)) ((I.length:Int):Int).toNat 0 (RG,0,0)
def qc (j:(List cL)) (J:((List cL))) (Z:List cL) (R:List cL) (U:Int) (Y:(List cL×List cL×Int)->Option ((List cL)×(List cL))) (o:Int) (I:Int) (RF:(Int×Int)->Option ((List cL)×(List cL))):Option ((List cL)×(List cL)):=if decide (4294967296<=o) then (idx (pM J 0 (((j.length:Int):Int).toNat)) (i64.wrap ((j.length:Int)-1)) λRG=>if decide (4294967296<=(u64.wrap (I+(u64.wrap (RG.n))))) then (gY j J Z R U Y (u64.wrap (o-1))) else (RF (u64.wrap (o-1),u64.wrap (I+(u64.wrap (RG.n)))))) else (idx (pM J 0 (((j.length:Int):Int).toNat)) (i64.wrap ((j.length:Int)-2)) λRI=>idx R (i64.wrap ((i64.wrap (U+(j.length:Int)))-2)) λRJ=>if decide ((u64.wrap ((BitVec.ofInt (u64).bits (vc .u64 I 32) ||| BitVec.ofInt (u64).bits (u64.wrap (RJ.n))).toNat))<(u64.wrap (o*(u64.wrap (RI.n))))) then (idx (pM J 0 (((j.length:Int):Int).toNat)) (i64.wrap ((j.length:Int)-1)) λRH=>if decide (4294967296<=(u64.wrap (I+(u64.wrap (RH.n))))) then (gY j J Z R U Y (u64.wrap (o-1))) else (RF (u64.wrap (o-1),u64.wrap (I+(u64.wrap (RH.n)))))) else (gY j J Z R U Y o))
def nG (R:(Int)) (o:List cL) (j:Nat) (I:List cL) (J:List cL->Option ((List cL)×(List cL))):Option ((List cL)×(List cL)):=idx o (i64.wrap ((j:Int)+1)) λU=>idx o (j:Int) λY=>cZ (0<=R) (idx I (j:Int) λZ=>J (I.set (((j:Int):Int).toNat) ⟨u32.wrap (pL .u64 (u64.wrap ((BitVec.ofInt (u64).bits (vc .u64 (u64.wrap (U.n)) 32) ||| BitVec.ofInt (u64).bits (u64.wrap (Y.n))).toNat)) R)⟩))
def p_ (j:(List cL)) (RJ:(Int)) (R:((List cL))) (U:List cL) (o:List cL) (I:Int) (RI:(List cL×List cL×Int)->Option ((List cL)×(List cL))):Option ((List cL)×(List cL)):=if decide (0<=I) then (idx o (i64.wrap (I+(j.length:Int))) λY=>idx o (i64.wrap ((i64.wrap (I+(j.length:Int)))-1)) λZ=>idx (pM R 0 (((j.length:Int):Int).toNat)) (i64.wrap ((j.length:Int)-1)) λRF=>cZ ((u64.wrap (RF.n))≠0) (idx (pM R 0 (((j.length:Int):Int).toNat)) (i64.wrap ((j.length:Int)-1)) λRG=>cZ ((u64.wrap (RG.n))≠0) (iV (λRH n=>qc j R U o I RI RH.1 RH.2 n) gO (u64.wrap (Int.tdiv (u64.wrap ((BitVec.ofInt (u64).bits (vc .u64 (u64.wrap (Y.n)) 32) ||| BitVec.ofInt (u64).bits (u64.wrap (Z.n))).toNat)) (u64.wrap (RF.n))),Int.tmod (u64.wrap ((BitVec.ofInt (u64).bits (vc .u64 (u64.wrap (Y.n)) 32) ||| BitVec.ofInt (u64).bits (u64.wrap (Z.n))).toNat)) (u64.wrap (RG.n)))))) else (cZ (0<=(j.length:Int)/\(j.length:Int)*4<=140737488355328) (lH (λk J n=>nG RJ o k J n) (λJ=>some (U,J)) ((j.length:Int):Int).toNat 0 (List.replicate ((j.length:Int):Int).toNat (⟨0⟩:cL))))
def oY (o:(List cL)) (j:(List cL)):Option ((List cL)×(List cL)):=(oX o j).bind λY=>if decide (Y<0) then (some ([],o)) else (if decide ((j.length:Int)=1) then (idx j 0 λZ=>(oZ o Z.n).bind λR=>some (R.1,([⟨R.2⟩]:List cL))) else (idx j (i64.wrap ((j.length:Int)-1)) λRF=>(kY RF.n).bind λJ=>(pR o J).bind λRG=>(pR j J).bind λU=>cZ (0<=(j.length:Int)/\(j.length:Int)<=(U.length:Int)) (cZ (0<=(i64.wrap ((i64.wrap ((o.length:Int)-(j.length:Int)))+1))/\(i64.wrap ((i64.wrap ((o.length:Int)-(j.length:Int)))+1))*4<=140737488355328) (iV (λI n=>p_ j J U I.1 I.2.1 I.2.2 n) gO ((List.replicate (i64.wrap ((i64.wrap ((o.length:Int)-(j.length:Int)))+1):Int).toNat (⟨0⟩:cL)),RG,i64.wrap ((o.length:Int)-(j.length:Int)))))))
def tY (j:Bool) (o:(List cL)):Option (aF):=some (aF.mk j o)
def wy (o:Bool) (j:(List cL)) (Y:Bool) (I:(List cL)) (U:(Bool×(List cL)×Bool×(List cL))->Option (aF)):Option (aF):=if !decide ((gH (aF.mk o j))=0) then ((oY I j).bind λJ=>cZ (J.2.length*4<=140737488355328) ((kN false J.2).bind λR=>U (R.minus,R.words,o,j))) else (tY Y I)
def qV (o:aF) (I:aF):Option (aF):=iV (λj n=>wy j.1 j.2.1 j.2.2.1 j.2.2.2 n) gO (false,I.words,false,o.words)
def mI (j:List cL) (I:(List cL×Int)->Option ((List cL))) (o:Nat) (Y:Int):Option ((List cL)):=idx j (o:Int) λJ=>I ((j.set (((o:Int):Int).toNat) ⟨u32.wrap (Y)⟩),pL .u64 Y 32)
def sR (U:(List cL)) (I:(List cL)) (j:Nat) (J:List cL) (Y:Int) (o:(List cL×Int)->Option ((List cL))):Option ((List cL)):=idx U (j:Int) λR=>if decide ((j:Int)<(I.length:Int)) then (idx I (j:Int) λZ=>mI J o j (u64.wrap ((u64.wrap (Y+(u64.wrap (R.n))))+(u64.wrap (Z.n))))) else (mI J o j (u64.wrap (Y+(u64.wrap (R.n)))))
def mJ (j:(List cL)) (I:(List cL)):Option ((List cL)):=cZ (0<=(i64.wrap ((j.length:Int)+1))/\(i64.wrap ((j.length:Int)+1))*4<=140737488355328) (lH (λk o n=>sR j I k o.1 o.2 n) (λo=>idx o.1 (j.length:Int) λJ=>some (o.1.set (((j.length:Int):Int).toNat) ⟨u32.wrap (o.2)⟩)) ((j.length:Int):Int).toNat 0 ((List.replicate (i64.wrap ((j.length:Int)+1):Int).toNat (⟨0⟩:cL)),0))
def qO (j:(List cL)) (o:(List cL)):Option ((List cL)):=if decide ((j.length:Int)<(o.length:Int)) then (mJ o j) else (mJ j o)
def mK (j:List cL) (I:(List cL×Int)->Option ((List cL))) (o:Nat) (Y:Int):Option ((List cL)):=idx j (o:Int) λJ=>I ((j.set (((o:Int):Int).toNat) ⟨u32.wrap (Y)⟩),pL .i64 Y 32)
def sU (U:(List cL)) (I:(List cL)) (j:Nat) (J:List cL) (Y:Int) (o:(List cL×Int)->Option ((List cL))):Option ((List cL)):=idx U (j:Int) λR=>if decide ((j:Int)<(I.length:Int)) then (idx I (j:Int) λZ=>mK J o j (i64.wrap ((i64.wrap (Y+(i64.wrap (R.n))))-(i64.wrap (Z.n))))) else (mK J o j (i64.wrap (Y+(i64.wrap (R.n)))))
def o9 (j:(List cL)) (I:(List cL)):Option ((List cL)):=cZ (0<=(j.length:Int)/\(j.length:Int)*4<=140737488355328) (lH (λk o n=>sU j I k o.1 o.2 n) (λo=>some o.1) ((j.length:Int):Int).toNat 0 ((List.replicate ((j.length:Int):Int).toNat (⟨0⟩:cL)),0))
def mO (j:aF) (o:aF):Option (aF):=if decide (j.minus=o.minus) then ((qO j.words o.words).bind λI=>(kN j.minus I).bind λJ=>some J) else ((oX j.words o.words).bind λR=>if decide (0<=R) then ((o9 j.words o.words).bind λU=>(kN j.minus U).bind λY=>some Y) else ((o9 o.words j.words).bind λZ=>(kN o.minus Z).bind λRF=>some RF))
def pN (j:aF) (o:aF):Option (aF):=(mP o).bind λI=>(mO j I).bind λJ=>some J
def m_ (I:Bool) (j:(List cL)) (J:Bool) (o:(List cL)):Option (aF×aF):=some ((aF.mk J o),(aF.mk I j))
def dO (I:aF) (R:aF):Option (aF×aF):=(oY I.words R.words).bind λj=>cZ (j.1.length*4<=140737488355328) ((kN I.minus j.1).bind λJ=>cZ (j.2.length*4<=140737488355328) ((kN I.minus j.2).bind λo=>if o.minus then ((n9 1).bind λZ=>(pN J Z).bind λU=>(mO o R).bind λY=>m_ Y.minus Y.words U.minus U.words) else (m_ o.minus o.words J.minus J.words)))
def oW (o:Bool) (j:(List cL)) (Y:Bool) (I:(List cL)):Option (aA):=if decide ((j.length:Int)=1) then (idx j 0 λRK=>if decide (RK.n=1) then (some (aA.mk (aF.mk Y I) (aF.mk o j))) else ((qV (aF.mk Y I) (aF.mk o j)).bind λJ=>if decide ((J.words.length:Int)=1) then (idx J.words 0 λRM=>if decide (RM.n=1) then (some (aA.mk (aF.mk Y I) (aF.mk o j))) else ((dO (aF.mk false I) J).bind λU=>(dO (aF.mk o j) J).bind λRG=>if Y then (some (aA.mk (aF.mk (decide (0<(U.1.words.length:Int))) U.1.words) RG.1)) else (some (aA.mk (aF.mk false U.1.words) RG.1)))) else ((dO (aF.mk false I) J).bind λZ=>(dO (aF.mk o j) J).bind λRH=>if Y then (some (aA.mk (aF.mk (decide (0<(Z.1.words.length:Int))) Z.1.words) RH.1)) else (some (aA.mk (aF.mk false Z.1.words) RH.1))))) else ((qV (aF.mk Y I) (aF.mk o j)).bind λR=>if decide ((R.words.length:Int)=1) then (idx R.words 0 λRN=>if decide (RN.n=1) then (some (aA.mk (aF.mk Y I) (aF.mk o j))) else ((dO (aF.mk false I) R).bind λRE=>(dO (aF.mk o j) R).bind λRI=>if Y then (some (aA.mk (aF.mk (decide (0<(RE.1.words.length:Int))) RE.1.words) RI.1)) else (some (aA.mk (aF.mk false RE.1.words) RI.1)))) else ((dO (aF.mk false I) R).bind λRF=>(dO (aF.mk o j) R).bind λRJ=>if Y then (some (aA.mk (aF.mk (decide (0<(RF.1.words.length:Int))) RF.1.words) RJ.1)) else (some (aA.mk (aF.mk false RF.1.words) RJ.1))))
def oQ (o:aF) (j:aF):Option (aA):=if j.minus then ((mP o).bind λI=>(mP j).bind λJ=>oW J.minus J.words I.minus I.words) else (oW j.minus j.words o.minus o.words)
def sG (j:Int) (o:Int):Option (aA):=(n9 j).bind λI=>(n9 o).bind λJ=>(oQ I J).bind λR=>some R
def tB (J:cL) (j:Nat) (o:Nat) (R:cL) (I:List cL) (Y:Int) (Z:(List cL×Int)->Option (aF)):Option (aF):=idx I (i64.wrap ((j:Int)+(o:Int))) λU=>idx I (i64.wrap ((j:Int)+(o:Int))) λRE=>Z ((I.set ((i64.wrap ((j:Int)+(o:Int)):Int).toNat) ⟨u32.wrap (u64.wrap (Y+(u64.wrap ((u64.wrap (U.n))+(u64.wrap ((u64.wrap (J.n))*(u64.wrap (R.n))))))))⟩),pL .u64 (u64.wrap (Y+(u64.wrap ((u64.wrap (U.n))+(u64.wrap ((u64.wrap (J.n))*(u64.wrap (R.n)))))))) 32)
def tA (o:aF) (I:Nat) (R:cL) (U:List cL) (J:List cL->Option (aF)):Option (aF):=eL (λk y j n=>tB R I k y j.1 j.2 n) (λj=>idx j.1 (i64.wrap ((I:Int)+(o.words.length:Int))) λY=>J (j.1.set ((i64.wrap ((I:Int)+(o.words.length:Int)):Int).toNat) ⟨u32.wrap (j.2)⟩)) 0 o.words (U,0)
def gI (j:aF) (o:aF):Option (aF):=cZ (0<=(i64.wrap ((j.words.length:Int)+(o.words.length:Int)))/\(i64.wrap ((j.words.length:Int)+(o.words.length:Int)))*4<=140737488355328) (eL (λk y I n=>tA o k y I n) (λI=>(kN (!decide (j.minus=o.minus)) I).bind λJ=>some J) 0 j.words (List.replicate (i64.wrap ((j.words.length:Int)+(o.words.length:Int)):Int).toNat (⟨0⟩:cL)))
def mQ (j:aA) (o:aA):Option (aA):=(gI j.N o.N).bind λI=>(gI j.D o.D).bind λJ=>(oQ I J).bind λR=>some R
def lQ (j:Int):Option (aA):=(n9 j).bind λo=>(n9 1).bind λI=>some (aA.mk o I)
def oR (j:Int):Option ((List aA)):=(lQ 0).bind λo=>cZ (([o]).length=1/\0<=j/\j*64<=140737488355328) (some (Ie ([o]) j))
def pK (I:(List Int)) (J:Int) (j:Nat) (o:Unit->Option (Int)):Option (Int):=idx I (j:Int) λR=>if decide (J=R) then (some (j:Int)) else (o ())
def mC (j:(List Int)) (o:Int):Option (Int):=lH (λk I n=>pK j o k n) (λ_=>some (-1)) ((j.length:Int):Int).toNat 0 ()
def nc (j:bJ) (I:Int):Option (Int):=(mC j.sd I).bind λo=>some o
def jU (j:aA) (o:aA):Option (aA):=(gI j.N o.D).bind λI=>(gI o.N j.D).bind λJ=>(mO I J).bind λR=>(gI j.D o.D).bind λU=>(oQ R U).bind λY=>some Y
def pP (j:aA):Option (aA):=(mP j.N).bind λo=>some (aA.mk o j.D)
def lu (j:aA) (o:aA):Option (aA):=(pP o).bind λI=>(jU j I).bind λJ=>some J
def xj (I:Nat) (J:(List aA)) (j:List Nat) (o:List (List aA)) (R:(List Nat×List (List aA))->Option ((List Nat×List (List aA)))):Option ((List Nat×List (List aA))):=cZ ((([]:List aA).length+J.length)*64<=140737488355328) (idx j (I:Int) λU=>R ((j.set (((I:Int):Int).toNat) o.length),(o++[([]:List aA)++J])))
def wD (o:(List (List aA))):Option ((List Nat×List (List aA))):=cZ (0<=(o.length:Int)/\(o.length:Int)*24<=140737488355328) (eL (λk y j n=>xj k y j.1 j.2 n) (λj=>some (j.1,j.2)) 0 o ((List.replicate ((o.length:Int):Int).toNat 0),([[]])))
def dW (j:aA):Int:=(gH j.N)
def rH (j:aA) (o:aA):Option (aA):=(gI j.N o.D).bind λI=>(gI j.D o.N).bind λJ=>(oQ I J).bind λR=>some R
def qd (J:Int) (j:(List Int×Int×List Nat×List (List aA))->Option ((List Nat×List (List aA))×(List Int))) (R:List Int) (o:List Nat) (I:List (List aA)):Option ((List Nat×List (List aA))×(List Int)):=j (R,i64.wrap (J+1),o,I)
def lL (j:List (List aA)->Option ((List Nat×List (List aA))×(List Int))) (o:List (List aA)):Option ((List Nat×List (List aA))×(List Int)):=j o
def nU (I:Int) (j:(Int×List (List aA))->Option ((List Nat×List (List aA))×(List Int))) (o:List (List aA)):Option ((List Nat×List (List aA))×(List Int)):=j (i64.wrap (I+1),o)
def qh (I:List Int) (J:List Nat) (R:Int) (U:Nat) (Y:Nat) (RH:List (List aA)->Option ((List Nat×List (List aA))×(List Int))) (Z:Nat) (RI:aA) (o:Int) (j:List (List aA)) (RG:(Int×List (List aA))->Option ((List Nat×List (List aA))×(List Int))):Option ((List Nat×List (List aA))×(List Int)):=idx ((J.set (((I.length:Int):Int).toNat) U).set ((R:Int).toNat) Y) (Z:Int) λRJ=>if decide (o<(((j[RJ]?).getD []).length:Int)) then (idx ((J.set (((I.length:Int):Int).toNat) U).set ((R:Int).toNat) Y) (I.length:Int) λRK=>idx ((j[RK]?).getD []) o λRM=>if !decide ((dW RM)=0) then (idx ((J.set (((I.length:Int):Int).toNat) U).set ((R:Int).toNat) Y) (Z:Int) λRF=>idx ((J.set (((I.length:Int):Int).toNat) U).set ((R:Int).toNat) Y) (Z:Int) λRN=>idx ((j[RN]?).getD []) o λRO=>idx ((J.set (((I.length:Int):Int).toNat) U).set ((R:Int).toNat) Y) (I.length:Int) λRP=>idx ((j[RP]?).getD []) o λRQ=>(mQ RI RQ).bind λRR=>(lu RO RR).bind λRS=>idx ((j[RF]?).getD []) o λRT=>nU o RG (j.set RF (((j[RF]?).getD []).set ((o:Int).toNat) RS))) else (nU o RG j)) else (lL RH j)
def r7 (o:List Int) (U:Int) (J:List Nat) (Y:Int) (Z:Nat) (RF:Nat) (I:Nat) (j:List (List aA)) (R:List (List aA)->Option ((List Nat×List (List aA))×(List Int))):Option ((List Nat×List (List aA))×(List Int)):=if decide ((I:Int)=(o.length:Int)) then (lL R j) else (idx ((J.set (((o.length:Int):Int).toNat) Z).set ((Y:Int).toNat) RF) (I:Int) λRH=>idx ((j[RH]?).getD []) U λRI=>if decide ((dW RI)=0) then (lL R j) else (idx ((J.set (((o.length:Int):Int).toNat) Z).set ((Y:Int).toNat) RF) (I:Int) λRJ=>idx ((j[RJ]?).getD []) U λRK=>iV (λRG n=>qh o J Y Z RF R I RK RG.1 RG.2 n) gO (U,j)))
def qe (j:List Int) (Z:Int) (o:List Nat) (RH:(List Int×Int×List Nat×List (List aA))->Option ((List Nat×List (List aA))×(List Int))) (J:Int) (R:Nat) (U:Nat) (RJ:aA) (Y:Int) (I:List (List aA)) (RI:(Int×List (List aA))->Option ((List Nat×List (List aA))×(List Int))):Option ((List Nat×List (List aA))×(List Int)):=idx ((o.set (((j.length:Int):Int).toNat) R).set ((J:Int).toNat) U) (j.length:Int) λRK=>if decide (Y<(((I[RK]?).getD []).length:Int)) then (idx ((o.set (((j.length:Int):Int).toNat) R).set ((J:Int).toNat) U) (j.length:Int) λRF=>idx ((o.set (((j.length:Int):Int).toNat) R).set ((J:Int).toNat) U) (j.length:Int) λRM=>idx ((I[RM]?).getD []) Y λRN=>(rH RN RJ).bind λRO=>idx ((I[RF]?).getD []) Y λRP=>RI (i64.wrap (Y+1),(I.set RF (((I[RF]?).getD []).set ((Y:Int).toNat) RO)))) else (cZ ((((o.set (((j.length:Int):Int).toNat) R).set ((J:Int).toNat) U).length:Int)<=9223372036854775807) (lH (λk RG n=>r7 j Z o J R U k RG n) (λRG=>cZ ((j.length+([Z]:List Int).length)*8<=140737488355328) (qd Z RH (j++([Z]:List Int)) ((o.set (((j.length:Int):Int).toNat) R).set ((J:Int).toNat) U) RG)) ((((o.set (((j.length:Int):Int).toNat) R).set ((J:Int).toNat) U).length:Int):Int).toNat 0 I))
def qi (o:List Int) (J:Int) (j:List Nat) (R:List (List aA)) (Y:(List Int×Int×List Nat×List (List aA))->Option ((List Nat×List (List aA))×(List Int))) (I:Int):Option ((List Nat×List (List aA))×(List Int)):=if decide (I=(j.length:Int)) then (qd J Y o j R) else (idx j I λU=>idx j (o.length:Int) λZ=>idx j (o.length:Int) λRI=>idx (j.set (((o.length:Int):Int).toNat) U) I λRJ=>idx ((j.set (((o.length:Int):Int).toNat) U).set ((I:Int).toNat) Z) (o.length:Int) λRG=>idx ((R[RG]?).getD []) J λRH=>iV (λRF n=>qe o J j Y I U Z RH RF.1 RF.2 n) gO (J,R))
def t_ (U:List Int) (J:Int) (j:List Nat) (I:List (List aA)) (R:(List Int×Int×List Nat×List (List aA))->Option ((List Nat×List (List aA))×(List Int))) (o:Int) (Y:Int->Option ((List Nat×List (List aA))×(List Int))):Option ((List Nat×List (List aA))×(List Int)):=if decide (o<(j.length:Int)) then (idx j o λZ=>idx ((I[Z]?).getD []) J λRF=>if decide ((dW RF)=0) then (Y (i64.wrap (o+1))) else (qi U J j I R o)) else (qi U J j I R o)
def nT (Y:Int) (j:List Int) (J:Int) (o:List Nat) (I:List (List aA)) (R:(List Int×Int×List Nat×List (List aA))->Option ((List Nat×List (List aA))×(List Int))):Option ((List Nat×List (List aA))×(List Int)):=if (decide (J<Y)) && (decide ((j.length:Int)<(o.length:Int))) then (iV (λU n=>t_ j J o I R U n) gO (j.length:Int)) else (some ((o,I),j))
def sH (I:(List (List aA))) (J:Int):Option ((List Nat×List (List aA))×(List Int)):=(wD I).bind λo=>iV (λj n=>nT J j.1 j.2.1 j.2.2.1 j.2.2.2 n) gO (([]:List Int),0,o.1,o.2)
def uM (R:(List (List aA))) (J:Nat) (j:List Nat) (I:List (List aA)) (U:(List Nat×List (List aA))->Option ((List (List aA))×Bool)):Option ((List (List aA))×Bool):=idx j (J:Int) λo=>cZ (0<=(R.length:Int)/\(R.length:Int)<=(((I[o]?).getD []).length:Int)) (idx j (J:Int) λY=>cZ (lone j (((J:Int):Int).toNat) o=true) (U ((j.set (((J:Int):Int).toNat) o),(I.set o (((I[o]?).getD []).drop ((R.length:Int):Int).toNat)))))
def uL (R:(List (List aA))) (j:Nat) (J:List Nat) (o:List (List aA)) (Z:(List Nat×List (List aA))->Option ((List (List aA))×Bool)):Option ((List (List aA))×Bool):=idx R (j:Int) λI=>cZ ((([]:List aA).length+I.length)*64<=140737488355328) ((oR (R.length:Int)).bind λU=>cZ (((([]:List aA)++I).length+U.length)*64<=140737488355328) (idx J (j:Int) λRG=>idx (J.set (((j:Int):Int).toNat) o.length) (j:Int) λY=>(lQ 1).bind λRF=>idx (((o++[(([]:List aA)++I)++U])[Y]?).getD []) (i64.wrap ((R.length:Int)+(j:Int))) λRH=>Z ((J.set (((j:Int):Int).toNat) o.length),((o++[(([]:List aA)++I)++U]).set Y ((((o++[(([]:List aA)++I)++U])[Y]?).getD []).set ((i64.wrap ((R.length:Int)+(j:Int)):Int).toNat) RF)))))
def rO (j:(List (List aA))):Option ((List (List aA))×Bool):=cZ (0<=(j.length:Int)/\(j.length:Int)*24<=140737488355328) (lH (λk o n=>uL j k o.1 o.2 n) (λo=>(sH (sY o.1 o.2) (j.length:Int)).bind λI=>if decide ((I.2.length:Int)<(j.length:Int)) then (some ([],false)) else (cZ ((I.1.1.length:Int)<=9223372036854775807) (lH (λk J n=>uM j k J.1 J.2 n) (λJ=>some (sY J.1 J.2,true)) ((I.1.1.length:Int):Int).toNat 0 (I.1.1,I.1.2)))) ((j.length:Int):Int).toNat 0 ((List.replicate ((j.length:Int):Int).toNat 0),([[]])))
def iM (j:List (List aA)->Option (bJ)) (o:List (List aA)):Option (bJ):=j o
def kT (R:List Nat) (Z:List (List aA)->Option (bJ)) (RF:aA) (J:(Int)) (o:(Int)) (j:List (List aA)):Option (bJ):=if (decide (0<=J)) && (decide (0<=o)) then (idx R J λI=>idx R o λU=>idx R J λRG=>idx ((j[RG]?).getD []) o λRH=>(lu RH RF).bind λY=>idx R o λRI=>idx ((j[RI]?).getD []) J λRJ=>(lu RJ RF).bind λRK=>idx ((j[I]?).getD []) o λRM=>idx (((j.set I (((j[I]?).getD []).set ((o:Int).toNat) Y))[U]?).getD []) J λRN=>iM Z ((j.set I (((j[I]?).getD []).set ((o:Int).toNat) Y)).set U ((((j.set I (((j[I]?).getD []).set ((o:Int).toNat) Y))[U]?).getD []).set ((J:Int).toNat) RK))) else (iM Z j)
def kU (I:List Nat) (U:List (List aA)->Option (bJ)) (J:aA) (Y:(Int)) (j:(Int)) (o:List (List aA)):Option (bJ):=if decide (0<=j) then (idx I j λR=>idx I j λZ=>idx ((o[Z]?).getD []) j λRF=>(jU RF J).bind λRG=>idx ((o[R]?).getD []) j λRH=>kT I U J Y j (o.set R (((o[R]?).getD []).set ((j:Int).toNat) RG))) else (kT I U J Y j o)
def lZ (I:bJ) (J:List Nat) (Y:Nat) (U:aA) (o:List (List aA)) (R:List (List aA)->Option (bJ)):Option (bJ):=idx I.qD (Y:Int) λRG=>(nc I RG).bind λj=>idx I.To (Y:Int) λRH=>(nc I RH).bind λRF=>idx I.qD (Y:Int) λRI=>idx I.To (Y:Int) λRJ=>if decide (RI=RJ) then (iM R o) else (if decide (0<=j) then (idx J j λZ=>idx J j λRK=>idx ((o[RK]?).getD []) j λRM=>(jU RM U).bind λRN=>idx ((o[Z]?).getD []) j λRO=>kU J R U j RF (o.set Z (((o[Z]?).getD []).set ((j:Int).toNat) RN))) else (kU J R U j RF o))
def q9 (R:bJ) (I:Nat) (j:List Nat) (o:List (List aA)) (J:(List Nat×List (List aA))->Option (bJ)):Option (bJ):=(oR (R.sd.length:Int)).bind λU=>idx j (I:Int) λY=>J ((j.set (((I:Int):Int).toNat) o.length),(o++[U]))
def ot (j:bJ):Option (bJ):=cZ (0<=(j.sd.length:Int)/\(j.sd.length:Int)*24<=140737488355328) (cZ (((List.replicate ((j.sd.length:Int):Int).toNat 0).length:Int)<=9223372036854775807) (lH (λk o n=>q9 j k o.1 o.2 n) (λo=>eL (λk y I n=>lZ j o.1 k y I n) (λI=>(rO (sY o.1 I)).bind λJ=>some (bJ.mk j.xg j.qD j.To j.B_ j.C j.sd J.1)) 0 j.B_ o.2) (((List.replicate ((j.sd.length:Int):Int).toNat 0).length:Int):Int).toNat 0 ((List.replicate ((j.sd.length:Int):Int).toNat 0),([[]]))))
def sF (o:(List (Int×Bool))) (j:((List (Int×Bool))×List Int)->Option ((Option bJ))) (I:Int) (J:List Int):Option ((Option bJ)):=j ((wY o I true),J)
def xV (R:Nat) (j:Int) (o:(List (Int×Bool))) (I:List Int) (J:((List (Int×Bool))×List Int)->Option ((Option bJ))):Option ((Option bJ)):=if (sX o j).getD false then (cZ ((I.length+([((R:Int))]:List Int).length)*8<=140737488355328) (sF o J j (I++([((R:Int))]:List Int)))) else (sF o J j I)
def xU (I:aG) (J:(bL)) (RN:Nat) (j:aS) (R:List Int) (U:List Int) (Y:List aA) (Z:List aA) (RI:(List Int×List Int×List aA×List aA)->Option ((Option bJ))):Option ((Option bJ)):=(bU I.bP j.qD).bind λRJ=>idx J.rA RJ λRF=>cZ ((R.length+([RF]:List Int).length)*8<=140737488355328) ((bU I.bP j.To).bind λRK=>idx J.rA RK λRG=>cZ ((U.length+([RG]:List Int).length)*8<=140737488355328) ((sG 1000000 (i64.wrap (j.X*j.B6))).bind λo=>cZ ((Y.length+([o]).length)*64<=140737488355328) ((sG (i64.wrap (0-j.Shift)) 1000).bind λRM=>(mQ o RM).bind λRH=>cZ ((Z.length+([RH]).length)*64<=140737488355328) (RI ((R++([RF]:List Int)),(U++([RG]:List Int)),(Y++([o])),(Z++([RH])))))))
def xC (I:aG):Option ((Option bJ)):=(fE I).bind λJ=>eL (λk y j n=>xU I J k y j.1 j.2.1 j.2.2.1 j.2.2.2 n) (λj=>eL (λk y o n=>xV k y o.1 o.2 n) (λo=>(ot (bJ.mk J j.1 j.2.1 j.2.2.1 j.2.2.2 o.2 [])).bind λR=>some (some R)) 0 J.cH (([]:(List (Int×Bool))),([]:List Int))) 0 I.aL (([]:List Int),([]:List Int),([]:List aA),([]:List aA))
def gZ (j:bJ):Int:=(j.xg.cH.length:Int)
def sk (R:Nat) (J:Int) (j:List aA) (I:List aA->Option ((List aA))):Option ((List aA)):=(lQ J).bind λo=>cZ ((j.length+([o]).length)*64<=140737488355328) (I (j++([o])))
def sj (J:bJ) (R:Nat) (U:Int) (j:List Int) (I:List Int->Option ((List aA))):Option ((List aA)):=idx J.xg.rA (R:Int) λo=>idx j o λY=>idx j o λZ=>I (j.set ((o:Int).toNat) (i64.wrap (Y+U)))
def pV (j:bJ) (J:(List Int)):Option ((List aA)):=cZ (0<=(gZ j)/\(gZ j)*8<=140737488355328) (eL (λk y o n=>sj j k y o n) (λo=>eL (λk y I n=>sk k y I n) (λI=>some I) 0 o ([]:List aA)) 0 J (List.replicate ((gZ j):Int).toNat (0:Int)))
def nF (j:(Bool×(List cL)×Bool×(List cL))->Option (aA)) (o:Bool) (I:(List cL)) (J:Bool) (R:(List cL)):Option (aA):=j (o,I,J,R)
def wx (Z:(List aA)) (RF:(List aA)) (o:Nat) (J:Bool) (R:(List cL)) (U:Bool) (Y:(List cL)) (j:(Bool×(List cL)×Bool×(List cL))->Option (aA)):Option (aA):=idx Z (o:Int) λRG=>if decide ((dW RG)=0) then (nF j J R U Y) else (idx RF (o:Int) λRH=>if !decide ((dW RH)=0) then (idx Z (o:Int) λRI=>idx RF (o:Int) λRJ=>(mQ RI RJ).bind λRK=>(jU (aA.mk (aF.mk J R) (aF.mk U Y)) RK).bind λI=>nF j I.N.minus I.N.words I.D.minus I.D.words) else (nF j J R U Y))
def u7 (I:(List aA)) (J:(List aA)):Option (aA):=(lQ 0).bind λo=>lH (λk j n=>wx I J k j.1 j.2.1 j.2.2.1 j.2.2.2 n) (λj=>some (aA.mk (aF.mk j.1 j.2.1) (aF.mk j.2.2.1 j.2.2.2))) ((I.length:Int):Int).toNat 0 (o.N.minus,o.N.words,o.D.minus,o.D.words)
def q8 (J:bJ) (R:List aA) (U:Nat) (j:Int) (o:List aA) (I:List aA->Option ((List aA))):Option ((List aA)):=idx J.sE (U:Int) λY=>(u7 Y R).bind λZ=>idx o j λRF=>I (o.set ((j:Int).toNat) Z)
def q7 (J:(List aA)) (j:Nat) (R:Int) (o:List aA) (I:List aA->Option ((List aA))):Option ((List aA)):=idx J R λU=>idx o (j:Int) λY=>I (o.set (((j:Int):Int).toNat) U)
def oh (j:bJ) (J:(List aA)):Option ((List aA)):=cZ (0<=(j.sd.length:Int)/\(j.sd.length:Int)*64<=140737488355328) (eL (λk y o n=>q7 J k y o n) (λo=>(oR (gZ j)).bind λR=>eL (λk y I n=>q8 j o k y I n) (λI=>some I) 0 j.sd R) 0 j.sd (List.replicate ((j.sd.length:Int):Int).toNat ((aA.mk (aF.mk false []) (aF.mk false [])):aA)))
def oN (o:bJ) (I:Nat) (U:aA) (j:List aA) (Z:List aA->Option ((List aA))):Option ((List aA)):=idx o.qD (I:Int) λJ=>idx o.qD (I:Int) λRF=>idx j RF λRG=>(lu RG U).bind λR=>idx j J λRK=>idx o.To (I:Int) λY=>idx o.To (I:Int) λRH=>idx (j.set ((J:Int).toNat) R) RH λRI=>(jU RI U).bind λRJ=>idx (j.set ((J:Int).toNat) R) Y λRM=>Z ((j.set ((J:Int).toNat) R).set ((Y:Int).toNat) RJ)
def og (j:bJ) (I:(List aA)):Option ((List aA)):=cZ (I.length*64<=140737488355328) (eL (λk y o n=>oN j k y o n) (λo=>(oh j o).bind λJ=>some J) 0 j.C I)
def mG (J:Int) (I:(Int×List U8)->Option (RU×Bool)) (j:cL) (o:List U8):Option (RU×Bool):=cZ (o.length+(ny (u64.wrap (j.n))).size<=140737488355328) (I (i64.wrap (J-1),(o++lz (ny (u64.wrap (j.n))))))
def mH (j:List U8) (o:RU):Option (RU×Bool):=some (o,(decide (((AP j).size:Int)<=2000)))
def qI (R:aF) (J:List cL) (Y:Int) (j:List U8) (I:(Int×List U8)->Option (RU×Bool)):Option (RU×Bool):=if decide (0<=Y) then (idx J Y λo=>cZ (0<=(u64.wrap (o.n))/\(u64.wrap (o.n))<=18446744073709551615) (if decide (Y<(i64.wrap ((J.length:Int)-1))) then (cZ (0<=((ny (u64.wrap (o.n))).size:Int)/\((ny (u64.wrap (o.n))).size:Int)<=((⟨#[48,48,48,48,48,48,48,48,48]⟩:RU).size:Int)) (cZ (j.length+((⟨#[48,48,48,48,48,48,48,48,48]⟩:RU).extract ((((ny (u64.wrap (o.n))).size:Int):Int).toNat) ((⟨#[48,48,48,48,48,48,48,48,48]⟩:RU).size)).size<=140737488355328) (mG Y I o (j++lz ((⟨#[48,48,48,48,48,48,48,48,48]⟩:RU).extract ((((ny (u64.wrap (o.n))).size:Int):Int).toNat) ((⟨#[48,48,48,48,48,48,48,48,48]⟩:RU).size)))))) else (mG Y I o j))) else (cZ (0<j.length) (if R.minus then (cZ ((⟨#[45]⟩:RU).size+(AP j).size<=maxLen) (mH j ((⟨#[45]⟩:RU)++(AP j)))) else (mH j (AP j))))
def sQ (U:aF) (j:List cL) (I:(List cL)) (R:(List cL×(List cL))->Option (RU×Bool)):Option (RU×Bool):=if decide (0<(I.length:Int)) then ((oZ I 1000000000).bind λo=>cZ ((j.length+([⟨o.2⟩]:List cL).length)*4<=140737488355328) ((kN false o.1).bind λY=>R ((j++([⟨o.2⟩]:List cL)),Y.words))) else (iV (λJ n=>qI U j J.1 J.2 n) gO (i64.wrap ((j.length:Int)-1),([]:List U8)))
def l8 (j:aF):Option (RU×Bool):=if decide ((j.words.length:Int)=0) then (some ((⟨#[48]⟩),true)) else (if decide (210<(j.words.length:Int)) then (some ((⟨#[]⟩),false)) else (iV (λo n=>sQ j o.1 o.2 n) gO (([]:List cL),j.words)))
def qM (I:aA):Option (RU×Bool):=(l8 I.N).bind λj=>if !j.2 then (some ((⟨#[]⟩),false)) else ((l8 I.D).bind λo=>if decide (o.1=(⟨#[49]⟩)) then (some (j.1,o.2)) else (cZ (j.1.size+(⟨#[47]⟩:RU).size<=maxLen) (cZ ((j.1++(⟨#[47]⟩)).size+o.1.size<=maxLen) (some (((j.1++(⟨#[47]⟩))++o.1),o.2)))))
def uK (j:Nat) (R:aA) (o:List RU) (J:List RU->Option ((List RU)×Bool)):Option ((List RU)×Bool):=(qM R).bind λI=>if !I.2 then (some (([]:List RU),false)) else (idx o (j:Int) λU=>J (o.set (((j:Int):Int).toNat) I.1))
def uV (j:(List aA)):Option ((List RU)×Bool):=cZ (0<=(j.length:Int)/\(j.length:Int)*16<=140737488355328) (eL (λk y o n=>uK k y o n) (λo=>some (o,true)) 0 j (List.replicate ((j.length:Int):Int).toNat ((⟨#[]⟩):RU)))
def o_ (o:(List aA)):Option ((List RU)×Int):=(uV o).bind λj=>if !j.2 then (some (([]:List RU),2)) else (some (j.1,0))
def rQ (j:bJ) (I:(List aA)) (o:Nat) (Y:aA) (J:List aA) (U:List aA->Option ((List aA))):Option ((List aA)):=idx j.B_ (o:Int) λZ=>idx j.qD (o:Int) λRF=>idx I RF λRG=>idx j.To (o:Int) λRH=>idx I RH λRI=>(lu RG RI).bind λRJ=>(mQ Z RJ).bind λRK=>(jU RK Y).bind λR=>cZ ((J.length+([R]).length)*64<=140737488355328) (U (J++([R])))
def pn (o:bJ) (I:(List aA)):Option ((List aA)):=eL (λk y j n=>rQ o I k y j n) (λj=>some j) 0 o.C ([]:List aA)
def q_ (j:aG) (Z:(List Int)):Option (dB×Int):=(q6 j Z).bind λo=>if !decide (o=0) then (some ((dB.mk ([]:List RU) ([]:List RU)),o)) else ((xC j).bind λU=>AA U none (λY=>(pV Y Z).bind λRD=>(og Y RD).bind λI=>(o_ I).bind λJ=>(pn Y I).bind λRE=>(o_ RE).bind λR=>if (!decide (J.2=0)) || (!decide (R.2=0)) then (some ((dB.mk ([]:List RU) ([]:List RU)),2)) else (some ((dB.mk J.1 R.1),0))))
def gX (j:RU) (o:Int):Int:=(OU j o)
def jT (j:RU) (I:RU):Option (Int):=if (decide ((I.size:Int)=0)) || (decide (I=j)) then (some 0) else (if decide ((I.size:Int)=1) then (idx (lz I) 0 λo=>some (gX j o.n)) else (if decide ((j.size:Int)<=(I.size:Int)) then (some (-1)) else none))
def kX (j:RU) (I:RU):Option (RU×RU×Bool):=(jT j I).bind λo=>if decide (0<=o) then (cZ (0<=o/\o<=(j.size:Int)) (cZ (0<=(i64.wrap (o+(I.size:Int)))/\(i64.wrap (o+(I.size:Int)))<=(j.size:Int)) (some ((j.extract 0 ((o:Int).toNat)),(j.extract ((i64.wrap (o+(I.size:Int)):Int).toNat) j.size),true)))) else (some (j,(⟨#[]⟩),false))
def oS (o:RU) (I:RU):Option (RU×RU×Bool):=(kX o I).bind λj=>some (j.1,j.2.1,j.2.2)
def fS (o:RU) (j:RU):Option (Bool):=if decide ((j.size:Int)<=(o.size:Int)) then (cZ (0<=(j.size:Int)/\(j.size:Int)<=(o.size:Int)) (some (decide ((o.extract 0 (((j.size:Int):Int).toNat))=j)))) else (some false)
def oJ (o:RU) (j:RU):Option (Bool):=(fS o j).bind λI=>some I
def jY (o:RU) (j:RU):Option (RU):=(fS o j).bind λI=>if I then (cZ (0<=(j.size:Int)/\(j.size:Int)<=(o.size:Int)) (some (o.extract (((j.size:Int):Int).toNat) o.size))) else (some o)
def mf (o:RU) (j:RU):Option (RU):=(jY o j).bind λI=>some I
def th (o:(Bool)) (I:Bool) (j:(List cL)):Option (aF):=if o then (some (aF.mk (decide (0<(j.length:Int))) j)) else (some (aF.mk false j))
def vq (U:(Bool)) (j:RU) (o:Bool) (I:(List cL)) (R:(RU×Bool×(List cL))->Option (aF)):Option (aF):=if decide (0<(j.size:Int)) then (cZ (0<=(i64.wrap ((Int.tmod (i64.wrap ((j.size:Int)-1)) 9)+1))/\(i64.wrap ((Int.tmod (i64.wrap ((j.size:Int)-1)) 9)+1))<=(j.size:Int)) (cZ ((j.extract 0 ((i64.wrap ((Int.tmod (i64.wrap ((j.size:Int)-1)) 9)+1):Int).toNat)).size≠0/\(j.extract 0 ((i64.wrap ((Int.tmod (i64.wrap ((j.size:Int)-1)) 9)+1):Int).toNat)).size<=281474976710656/\(NG (j.extract 0 ((i64.wrap ((Int.tmod (i64.wrap ((j.size:Int)-1)) 9)+1):Int).toNat))).2=false) ((n9 1000000000).bind λY=>(gI (aF.mk o I) Y).bind λZ=>(n9 (i64.wrap ((NG (j.extract 0 ((i64.wrap ((Int.tmod (i64.wrap ((j.size:Int)-1)) 9)+1):Int).toNat))).1))).bind λRF=>(mO Z RF).bind λJ=>cZ (0<=(i64.wrap ((Int.tmod (i64.wrap ((j.size:Int)-1)) 9)+1))/\(i64.wrap ((Int.tmod (i64.wrap ((j.size:Int)-1)) 9)+1))<=(j.size:Int)) (R (j.extract ((i64.wrap ((Int.tmod (i64.wrap ((j.size:Int)-1)) 9)+1):Int).toNat) j.size,J.minus,J.words))))) else (th U o I)
def mu (o:RU):Option (aF):=(oJ o (⟨#[45]⟩)).bind λI=>(mf o (⟨#[45]⟩)).bind λJ=>iV (λj n=>vq I j.1 j.2.1 j.2.2 n) gO (J,false,[])
def rN (o:RU):Option (aA):=(oS o (⟨#[47]⟩)).bind λj=>if !j.2.2 then ((mu j.1).bind λI=>(n9 1).bind λJ=>some (aA.mk I J)) else ((mu j.1).bind λR=>(mu j.2.1).bind λU=>some (aA.mk R U))
def pO (j:aA):Option (aA):=if decide ((dW j)<0) then ((pP j).bind λo=>some o) else (some j)
def te (j:aF) (o:aF):Option (Int):=(pN j o).bind λI=>some (gH I)
def n_ (j:aA) (o:aA):Option (Int):=(gI j.N o.D).bind λI=>(gI o.N j.D).bind λJ=>(te I J).bind λR=>some R
def qu (j:List RU->Option ((List RU))) (o:List RU):Option ((List RU)):=j o
def ud (nt:(List RU)) (J:Nat) (j:aS) (o:List RU) (I:List RU->Option ((List RU))):Option ((List RU)):=idx nt (J:Int) λR=>(rN R).bind λU=>(pO U).bind λY=>(lQ j.tI).bind λZ=>(n_ Y Z).bind λRF=>if decide (0<RF) then (cZ ((o.length+([j.Name]).length)*16<=140737488355328) (qu I (o++([j.Name])))) else (qu I o)
def pB (o:aG) (nt:(List RU)):Option ((List RU)):=eL (λk y j n=>ud nt k y j n) (λj=>some j) 0 o.aL ([]:List RU)
def iI (o:aG):Option (dB×(List RU)×Int):=(iP o).bind λI=>if !decide (I.2=0) then (some ((dB.mk ([]:List RU) ([]:List RU)),([]:List RU),I.2)) else ((q_ o I.1).bind λj=>if !decide (j.2=0) then (some ((dB.mk ([]:List RU) ([]:List RU)),([]:List RU),j.2)) else ((pB o j.1.kV).bind λJ=>some (j.1,J,0)))
def fB (I:aG) (on:(List RU)):Option (dB×(List RU)×Int):=(pA I on).bind λj=>if !decide (j.2=0) then (some ((dB.mk ([]:List RU) ([]:List RU)),([]:List RU),j.2)) else ((iI j.1).bind λo=>some (o.1,o.2.1,o.2.2))
def qv (j:aN):Option (Int):=(cR j.bN).bind λo=>if !decide (o=0) then (some o) else ((nQ j.jO).bind λI=>if !decide (I=0) then (some I) else (if decide (5<(j.bN.bM.length:Int)) then (some 2) else ((sJ j.bN).bind λJ=>(fB j.bN J).bind λR=>some R.2.2)))
def mi:bV:=(bV.mk ([]:List aB))
def rf (j:aG):Option ((Option cM)×Int):=(cR j).bind λo=>if !decide (o=0) then (some (none,o)) else ((lv j).bind λI=>(oR (j.aL.length:Int)).bind λJ=>cZ (0<=(j.aL.length:Int)/\(j.aL.length:Int)*8<=140737488355328) (cZ (0<=(j.aL.length:Int)/\(j.aL.length:Int)*1<=140737488355328) (some ((some (cM.mk I.aL J (List.replicate ((j.aL.length:Int):Int).toNat (0:Int)) (List.replicate ((j.aL.length:Int):Int).toNat (false:Bool)) 0)),0))))
def xl (j:Nat) (o:List aR) (R:List aR->Option ((Option bH)×Int)):Option ((Option bH)×Int):=idx o (j:Int) λI=>cZ (I.um.length*40<=140737488355328) (idx o (j:Int) λJ=>R (o.set (((j:Int):Int).toNat) (aR.mk J.Close J.Switch I.um)))
def nk (j:aN):Option ((Option bH)×Int):=(qv j).bind λR=>if !decide (R=0) then (some (none,R)) else ((lv j.bN).bind λo=>cZ (j.jO.length*48<=140737488355328) ((sJ j.bN).bind λI=>lH (λk J n=>xl k J n) (λJ=>(rf o).bind λU=>AA U.1 ((fB o I).bind λRE=>none) (λY=>(fB o I).bind λZ=>some ((some (bH.mk o J I [] Y Z.1 0 ((mi)) [])),0))) ((j.jO.length:Int):Int).toNat 0 j.jO))
def oD (j:bH):Option (aG):=(lv j.eD).bind λo=>some o
def vz (j:Nat) (o:List aR) (R:List aR->Option ((Option aC)×Int)):Option ((Option aC)×Int):=idx o (j:Int) λI=>cZ (I.um.length*40<=140737488355328) (idx o (j:Int) λJ=>R (o.set (((j:Int):Int).toNat) (aR.mk J.Close J.Switch I.um)))
def oO (j:aN):Option ((Option aC)×Int):=(nk j).bind λo=>AA o.1 (if !decide (o.2=0) then (some (none,o.2)) else none) (λY=>if !decide (o.2=0) then (some (none,o.2)) else ((nk j).bind λI=>AA I.1 (if !decide (I.2=0) then (some (none,I.2)) else none) (λZ=>if !decide (I.2=0) then (some (none,I.2)) else ((oD Y).bind λR=>cZ (j.jO.length*48<=140737488355328) (lH (λk J n=>vz k J n) (λJ=>some ((some (aC.mk (aN.mk R J) (dU.mk Y Z) (cP.mk ([]:List aB) ([]:List aB)) ([]:List aP) 1 0 0)),0)) ((j.jO.length:Int):Int).toNat 0 j.jO)))))
def rT (I:Nat) (j:U8) (o:Unit->Option (Bool)):Option (Bool):=if (decide (j.n<97)) || (decide (122<j.n)) then (some false) else (o ())
def iL (j:RU):Option (Bool):=cZ (j.size<=maxLen) (eL (λk y o n=>rT k y n) (λ_=>some ((decide (1<=(j.size:Int))) && (decide ((j.size:Int)<=8)))) 0 (lz j) ())
def eP (j:aB):Option (Int):=if (decide (j.Time<0)) || (decide (200000<j.Time)) then (some 12) else ((iL j.Kind).bind λo=>if o then ((bX j.Name).bind λI=>if !I then (some 6) else (if (decide (j.Value<(-1000000))) || (decide (1000000<j.Value)) then (some 4) else (some 0))) else (some 6))
def mX (j:bV):Option ((List aB)):=cZ (j.lT.length*48<=140737488355328) (some j.lT)
def qw (o:aI) (j:aB):Bool:=(decide (o.Name=j.Name))
def iH (J:(List aI)) (j:aB) (o:Nat) (I:Unit->Option (Int)):Option (Int):=idx J (o:Int) λR=>if (qw R j) then (some (o:Int)) else (I ())
def eK (o:(List aI)) (j:aB):Option (Int):=lH (λk I n=>iH o j k n) (λ_=>some (-1)) ((o.length:Int):Int).toNat 0 ()
def qx (o:bK) (j:aB):Bool:=(decide (o.Name=j.Name))
def iY (J:(List bK)) (j:aB) (o:Nat) (I:Unit->Option (Int)):Option (Int):=idx J (o:Int) λR=>if (qx R j) then (some (o:Int)) else (I ())
def eT (o:(List bK)) (j:aB):Option (Int):=lH (λk I n=>iY o j k n) (λ_=>some (-1)) ((o.length:Int):Int).toNat 0 ()
def pF (o:aX) (j:aB):Bool:=(decide (o.Name=j.Name))
def gS (J:(List aX)) (j:aB) (o:Nat) (I:Unit->Option (Int)):Option (Int):=idx J (o:Int) λR=>if (pF R j) then (some (o:Int)) else (I ())
def dT (o:(List aX)) (j:aB):Option (Int):=lH (λk I n=>gS o j k n) (λ_=>some (-1)) ((o.length:Int):Int).toNat 0 ()
def mF (o:aW) (j:RU):Bool:=(decide (o.Name=j))
def dP (J:(List aW)) (j:RU) (o:Nat) (I:Unit->Option (Int)):Option (Int):=idx J (o:Int) λR=>if (mF R j) then (some (o:Int)) else (I ())
def cV (o:(List aW)) (j:RU):Option (Int):=lH (λk I n=>dP o j k n) (λ_=>some (-1)) ((o.length:Int):Int).toNat 0 ()
def mr (j:(List aW)) (name:RU):Option (Int):=(cV j name).bind λo=>some o
def pw (o:(List aW)) (j:Nat) (I:aW) (J:Unit->Option (Int)):Option (Int):=(bX I.Name).bind λR=>if !R then (some 6) else (cZ (0<=(j:Int)/\(j:Int)<=(o.length:Int)) ((mr (pM o 0 (((j:Int):Int).toNat)) I.Name).bind λU=>if decide (0<=U) then (some 7) else (J ())))
def l7 (j:(List aW)):Option (Int):=if decide (32<(j.length:Int)) then (some 2) else (eL (λk y o n=>pw j k y n) (λ_=>some 0) 0 j ())
def eG (j:List Bool->Option (Bool)) (o:List Bool):Option (Bool):=j o
def so (Y:(List aW)) (o:Nat) (J:bE) (j:List Bool) (I:List Bool->Option (Bool)):Option (Bool):=(mr Y J.Name).bind λR=>if decide (J.Kind=0) then (idx j (o:Int) λRJ=>eG I (j.set (((o:Int):Int).toNat) true)) else (if decide (J.Kind=2) then (if decide (0<=R) then (idx Y R λU=>idx j (o:Int) λRK=>eG I (j.set (((o:Int):Int).toNat) (!U.Aa))) else (idx j (o:Int) λRM=>eG I (j.set (((o:Int):Int).toNat) false))) else (if decide (J.Kind=3) then (if decide (0<=R) then (idx Y R λZ=>idx j (o:Int) λRN=>eG I (j.set (((o:Int):Int).toNat) Z.Aa)) else (idx j (o:Int) λRO=>eG I (j.set (((o:Int):Int).toNat) false))) else (if decide (J.Kind=4) then (idx j J.A λRE=>idx j (o:Int) λRP=>eG I (j.set (((o:Int):Int).toNat) (!RE))) else (if decide (J.Kind=5) then (idx j J.A λRF=>if RF then (idx j J.B_ λRG=>idx j (o:Int) λRQ=>eG I (j.set (((o:Int):Int).toNat) RG)) else (idx j (o:Int) λRR=>eG I (j.set (((o:Int):Int).toNat) false))) else (if decide (J.Kind=6) then (idx j J.A λRH=>if RH then (idx j (o:Int) λRS=>eG I (j.set (((o:Int):Int).toNat) true)) else (idx j J.B_ λRI=>idx j (o:Int) λRT=>eG I (j.set (((o:Int):Int).toNat) RI))) else (eG I j))))))
def nR (j:(List bE)) (J:(List aW)):Option (Bool):=cZ (0<=(j.length:Int)/\(j.length:Int)*1<=140737488355328) (eL (λk y o n=>so J k y o n) (λo=>idx o (i64.wrap ((j.length:Int)-1)) λI=>some I) 0 j (List.replicate ((j.length:Int):Int).toNat (false:Bool)))
def jJ (j:List Int->Option ((List Int)×Int)) (o:List Int):Option ((List Int)×Int):=j o
def re (Z:(List aW)) (Y:Bool) (name:RU) (J:Nat) (I:aR) (o:List Int) (j:List Int->Option ((List Int)×Int)):Option ((List Int)×Int):=if decide (I.Close=Y) then (if decide (I.Switch=name) then ((nR I.um Z).bind λR=>if !R then (cZ ((o.length+([((J:Int))]:List Int).length)*8<=140737488355328) (jJ j (o++([((J:Int))]:List Int)))) else (jJ j o)) else (jJ j o)) else (jJ j o)
def ox (o:(List aR)) (Y:(List aW)) (Z:Bool) (name:RU):Option ((List Int)×Int):=(nQ o).bind λI=>if !decide (I=0) then (some (([]:List Int),I)) else ((l7 Y).bind λJ=>if !decide (J=0) then (some (([]:List Int),J)) else ((mr Y name).bind λR=>if decide (R<0) then (some (([]:List Int),8)) else (eL (λk y j n=>re Y Z name k y j n) (λj=>some (j,0)) 0 o ([]:List Int))))
def mZ (o:(List aR)) (J:(List aW)) (I:Bool) (name:RU):Option (Bool×Int):=(ox o J I name).bind λj=>some (((decide (j.2=0)) && (decide ((j.1.length:Int)=0))),j.2)
def rp (J:Nat) (j:aX) (o:List aW) (I:List aW->Option (Int×dS)):Option (Int×dS):=cZ ((o.length+([(aW.mk j.Name (!j.Open))]).length)*24<=140737488355328) (I (o++([(aW.mk j.Name (!j.Open))])))
def oF (U:bH) (j:dS) (o:aB):Option (Int×dS):=(dT j.n.aT o).bind λI=>if decide (I<0) then (some (8,j)) else (if !decide (o.Value=0) then (some (1,j)) else (idx j.n.aT I λY=>if !decide (Y.Open=(decide (o.Kind=(⟨#[99,108,111,115,101]⟩)))) then (some (11,j)) else ((cI U.held o.Name).bind λZ=>if Z then (some (18,j)) else (eL (λk y R n=>rp k y R n) (λR=>(mZ U.rules R (decide (o.Kind=(⟨#[99,108,111,115,101]⟩))) o.Name).bind λRF=>if !RF.1 then (some (19,j)) else (idx j.n.aT I λJ=>some (0,(dS.mk (aG.mk j.n.bP (j.n.aT.set ((I:Int).toNat) (aX.mk J.Name J.A J.B_ J.uS (!(decide (o.Kind=(⟨#[99,108,111,115,101]⟩)))))) j.n.aL j.n.dI j.n.bM j.n.cB) j.on)))) 0 j.n.aT ([]:List aW)))))
def kG (j:dS) (o:List bK) (I:List aI) (J:List RU):Option (Int×dS):=some (0,(dS.mk (aG.mk j.n.bP j.n.aT j.n.aL o I j.n.cB) J))
def lN (Z:bH) (j:dS) (o:aB) (I:(Int)) (J:(Int)) (RF:Bool):Option (Int×dS):=if RF then ((oF Z j o).bind λU=>some (U.1,U.2)) else (if decide (o.Kind=(⟨#[108,111,97,100]⟩)) then (if decide (I<0) then (some (8,j)) else (if (decide (o.Value<0)) || (decide (100000<o.Value)) then (some (4,j)) else (idx j.n.bM I λY=>kG j j.n.dI (j.n.bM.set ((I:Int).toNat) (aI.mk Y.Name Y.Node o.Value)) j.on))) else (if decide (o.Kind=(⟨#[103,101,110]⟩)) then (if decide (J<0) then (some (8,j)) else (idx j.n.dI J λRG=>if (decide (o.Value<RG.kB)) || (decide (100000<o.Value)) then (some (4,j)) else (idx j.n.dI J λR=>kG j (j.n.dI.set ((J:Int).toNat) (bK.mk R.Name R.Node R.kB o.Value R.Bi)) j.n.bM j.on))) else (if decide (o.Kind=(⟨#[98,97,99,107]⟩)) then (if decide (I<0) then (some (8,j)) else ((cI j.on o.Name).bind λRH=>if RH then (some (11,j)) else (idx j.n.bM I λRI=>if !decide (o.Value=RI.dY) then (some (1,j)) else (cZ ((j.on.length+([o.Name]).length)*16<=140737488355328) (kG j j.n.dI j.n.bM (j.on++([o.Name]))))))) else (if decide (o.Kind=(⟨#[119,97,105,116]⟩)) then (if !decide (o.Value=0) then (some (1,j)) else (kG j j.n.dI j.n.bM j.on)) else (some (1,j))))))
def pC (I:bH) (o:dS) (j:aB):Option (Int×dS):=(eK o.n.bM j).bind λJ=>(eT o.n.dI j).bind λR=>if decide (j.Kind=(⟨#[111,112,101,110]⟩)) then (lN I o j J R (decide (j.Kind=(⟨#[111,112,101,110]⟩)))) else (lN I o j J R (decide (j.Kind=(⟨#[99,108,111,115,101]⟩))))
def wG (I:Nat) (j:U8) (o:Unit->Option (Int)):Option (Int):=if (decide (j.n<48)) || (decide (57<j.n)) then (some 5) else (o ())
def qW (j:RU):Option (Int):=cZ (j.size<=maxLen) (eL (λk y I n=>wG k y n) (λ_=>if decide (j=(⟨#[]⟩)) then (some 5) else (if decide (1<(j.size:Int)) then (idx (lz j) 0 λo=>if decide (o.n=48) then (some 5) else (if decide (2000<(j.size:Int)) then (some 2) else (some 0))) else (if decide (2000<(j.size:Int)) then (some 2) else (some 0)))) 0 (lz j) ())
def xX (I:RU) (J:RU) (R:Nat) (o:Unit->Option (aF×aF×Int)):Option (aF×aF×Int):=idx [I,J] (R:Int) λU=>(qW U).bind λj=>if !decide (j=0) then (some ((aF.mk false []),(aF.mk false []),j)) else (o ())
def xG (j:RU) (o:RU):Option (aF×aF×Int):=lH (λk R n=>xX j o k n) (λ_=>(mu j).bind λI=>(mu o).bind λJ=>some (I,J,0)) (2:Int).toNat 0 ()
def xW (o:aF):Option (RU×Int):=(l8 o).bind λj=>if !j.2 then (some ((⟨#[]⟩),2)) else (some (j.1,0))
def xF (I:RU) (J:RU):Option (RU×Int):=(xG I J).bind λj=>if !decide (j.2.2=0) then (some ((⟨#[]⟩),j.2.2)) else ((qV j.1 j.2.1).bind λR=>(xW R).bind λo=>some (o.1,o.2))
def ub:Option (Int):=some 0
def nH (I:RU) (J:(RU)) (j:(RU×RU×Bool)) (o:(Int)) (Y:Int):Option (Int):=if ((decide (o=5)) || (decide (Y=5))) || ((decide (j.1=(⟨#[48]⟩))) && (decide ((J.size:Int)<(I.size:Int)))) then (some 5) else (if (!decide (o=0)) || (!decide (Y=0)) then (some 2) else (if j.2.2 then ((xF j.1 j.2.1).bind λR=>if ((decide (j.2.1=(⟨#[48]⟩))) || (decide (j.2.1=(⟨#[49]⟩)))) || (!decide (R.1=(⟨#[49]⟩))) then (some 3) else ub) else ub))
def qX (o:RU):Option (Int):=(mf o (⟨#[45]⟩)).bind λI=>(oS I (⟨#[47]⟩)).bind λj=>(qW j.1).bind λJ=>if j.2.2 then ((qW j.2.1).bind λR=>nH o I j J R) else (nH o I j J 0)
def ua (J:Nat) (I:RU) (o:Unit->Option (Int)):Option (Int):=(qX I).bind λj=>if !decide (j=0) then (some j) else (o ())
def ss (j:(List RU)):Option (Int):=eL (λk y o n=>ua k y n) (λ_=>some 0) 0 j ()
def r9 (j:(List RU)):Option (Int):=if decide (40<(j.length:Int)) then (some 2) else ((ss j).bind λo=>some o)
def mw (j:List RU->Option ((List RU))) (o:List RU):Option ((List RU)):=j o
def rh (J:cM) (R:Nat) (I:aS) (j:List RU) (o:List RU->Option ((List RU))):Option ((List RU)):=idx J.over (R:Int) λU=>if U then (cZ ((j.length+([I.Name]).length)*16<=140737488355328) (mw o (j++([I.Name])))) else (mw o j)
def mL (o:cM):Option ((List RU)):=eL (λk y j n=>rh o k y j n) (λj=>some j) 0 o.ml ([]:List RU)
def jK (j:(List aA×List Int×List Bool)->Option ((List RU)×Int×cM)) (o:List aA) (I:List Int) (J:List Bool):Option ((List RU)×Int×cM):=j (o,I,J)
def ri (nt:(List RU)) (Y:Int) (j:Nat) (RE:aS) (U:List aA) (o:List Int) (I:List Bool) (R:(List aA×List Int×List Bool)->Option ((List RU)×Int×cM)):Option ((List RU)×Int×cM):=idx nt (j:Int) λRF=>(rN RF).bind λRG=>(pO RG).bind λJ=>idx U (j:Int) λRN=>(lQ RE.tI).bind λRH=>(n_ J RH).bind λRI=>if decide (RI<=0) then (idx o (j:Int) λRO=>idx I (j:Int) λRP=>jK R (U.set (((j:Int):Int).toNat) J) (o.set (((j:Int):Int).toNat) 0) (I.set (((j:Int):Int).toNat) false)) else (idx o (j:Int) λZ=>idx o (j:Int) λRQ=>idx (o.set (((j:Int):Int).toNat) (i64.wrap (Z+Y))) (j:Int) λRJ=>if decide (RE.B1<RJ) then (idx I (j:Int) λRR=>jK R (U.set (((j:Int):Int).toNat) J) (o.set (((j:Int):Int).toNat) (i64.wrap (Z+Y))) (I.set (((j:Int):Int).toNat) true)) else ((lQ RE.wZ).bind λRK=>(n_ J RK).bind λRM=>if decide (0<RM) then (idx I (j:Int) λRS=>jK R (U.set (((j:Int):Int).toNat) J) (o.set (((j:Int):Int).toNat) (i64.wrap (Z+Y))) (I.set (((j:Int):Int).toNat) true)) else (jK R (U.set (((j:Int):Int).toNat) J) (o.set (((j:Int):Int).toNat) (i64.wrap (Z+Y))) I)))
def oB (j:cM) (nt:(List RU)) (Y:Int):Option ((List RU)×Int×cM):=(r9 nt).bind λI=>if !decide (I=0) then (some (([]:List RU),I,j)) else (if !decide ((nt.length:Int)=(j.ml.length:Int)) then (some (([]:List RU),3,j)) else (if (decide (Y<1)) || (decide ((i64.wrap (200000-j.time))<Y)) then (some (([]:List RU),12,j)) else (eL (λk y o n=>ri nt Y k y o.1 o.2.1 o.2.2 n) (λo=>(mL (cM.mk j.ml o.1 o.2.1 o.2.2 (i64.wrap (j.time+Y)))).bind λJ=>some (J,0,(cM.mk j.ml o.1 o.2.1 o.2.2 (i64.wrap (j.time+Y))))) 0 j.ml (j.nt,j.tK,j.over))))
def gC (j:bV) (o:aB):Option (Int×Int×bV):=(eP o).bind λI=>if !decide (I=0) then (some (0,I,j)) else (if decide (0<(j.lT.length:Int)) then (idx j.lT (i64.wrap ((j.lT.length:Int)-1)) λJ=>if decide (o.Time<J.Time) then (some (0,12,j)) else (if decide ((j.lT.length:Int)=300) then (some (0,9,j)) else (cZ ((j.lT.length+([o]).length)*48<=140737488355328) (some ((i64.wrap ((j.lT.length:Int)+1)),0,(bV.mk (j.lT++([o])))))))) else (if decide ((j.lT.length:Int)=300) then (some (0,9,j)) else (cZ ((j.lT.length+([o]).length)*48<=140737488355328) (some ((i64.wrap ((j.lT.length:Int)+1)),0,(bV.mk (j.lT++([o]))))))))
def lW (o:RU) (j:(List RU)):Option (Bool):=(cI j o).bind λI=>some (!I)
def kD (J:(List RU)) (j:(List RU)) (o:Nat) (I:Unit->Option (Int)):Option (Int):=idx J (o:Int) λR=>(lW R j).bind λU=>if U then (some (o:Int)) else (I ())
def gM (o:(List RU)) (j:(List RU)):Option (Int):=lH (λk I n=>kD o j k n) (λ_=>some (-1)) ((o.length:Int):Int).toNat 0 ()
def eR (I:Int) (j:(List RU×Int×Int)->Option ((List RU))) (o:List RU) (J:Int):Option ((List RU)):=j (o,J,i64.wrap (I+1))
def jW (del_0:(List RU)) (j:List RU) (Y:Int) (Z:Int) (o:(List RU×Int×Int)->Option ((List RU))):Option ((List RU)):=if decide (Z<(j.length:Int)) then (idx j Z λI=>(lW I del_0).bind λJ=>if !J then (idx j Y λR=>eR Z o (j.set ((Y:Int).toNat) I) (i64.wrap (Y+1))) else (eR Z o j Y)) else (cZ (0<=Y/\Y<=(j.length:Int)) (cZ (0<=Y/\Y<=((j.take (Y).toNat++List.replicate (j.length-(Y).toNat) ((⟨#[]⟩):RU)).length:Int)) (some (pM (j.take (Y).toNat++List.replicate (j.length-(Y).toNat) ((⟨#[]⟩):RU)) 0 ((Y:Int).toNat)))))
def fD (j:(List RU)) (J:(List RU)):Option ((List RU)):=(gM j J).bind λo=>if decide (o=(-1)) then (some j) else (iV (λI n=>jW J I.1 I.2.1 I.2.2 n) gO (j,o,i64.wrap (o+1)))
def lg (o:RU) (j:(List RU)):Option (Bool):=(cI j o).bind λI=>some I
def jR (J:(List RU)) (j:(List RU)) (o:Nat) (I:Unit->Option (Int)):Option (Int):=idx J (o:Int) λR=>(lg R j).bind λU=>if U then (some (o:Int)) else (I ())
def gA (o:(List RU)) (j:(List RU)):Option (Int):=lH (λk I n=>jR o j k n) (λ_=>some (-1)) ((o.length:Int):Int).toNat 0 ()
def eI (I:Int) (j:(List RU×Int×Int)->Option ((List RU))) (o:List RU) (J:Int):Option ((List RU)):=j (o,J,i64.wrap (I+1))
def jE (del_0:(List RU)) (j:List RU) (Y:Int) (Z:Int) (o:(List RU×Int×Int)->Option ((List RU))):Option ((List RU)):=if decide (Z<(j.length:Int)) then (idx j Z λI=>(lg I del_0).bind λJ=>if !J then (idx j Y λR=>eI Z o (j.set ((Y:Int).toNat) I) (i64.wrap (Y+1))) else (eI Z o j Y)) else (cZ (0<=Y/\Y<=(j.length:Int)) (cZ (0<=Y/\Y<=((j.take (Y).toNat++List.replicate (j.length-(Y).toNat) ((⟨#[]⟩):RU)).length:Int)) (some (pM (j.take (Y).toNat++List.replicate (j.length-(Y).toNat) ((⟨#[]⟩):RU)) 0 ((Y:Int).toNat)))))
def eY (j:(List RU)) (J:(List RU)):Option ((List RU)):=(gA j J).bind λo=>if decide (o=(-1)) then (some j) else (iV (λI n=>jE J I.1 I.2.1 I.2.2 n) gO (j,o,i64.wrap (o+1)))
def mR (o:aG):Option (Int):=(iI o).bind λj=>if (decide (j.2.2=0)) && (decide (0<(j.2.1.length:Int))) then (some 17) else (some j.2.2)
def pz (off:(List RU)) (j:(List RU)) (o:aG):Option (Bool):=cZ (j.length*16<=140737488355328) ((eY j off).bind λI=>(qP o I).bind λJ=>(mR J).bind λR=>some (decide (R=0)))
def lj (self:(List RU)->(List RU)->Int->Int->(List RU)->aG->Option ((List RU)×Bool)) (names:(List RU)) (off:(List RU)) (many:Int) (Y:(List RU)) (Z:aG) (J:Int) (I:Int->Option ((List RU)×Bool)):Option ((List RU)×Bool):=if decide (J<(names.length:Int)) then (cZ (0<=(off.length:Int)/\(off.length:Int)<=(off.length:Int)) (idx names J λj=>cZ (((pM off 0 (((off.length:Int):Int).toNat)).length+([j]).length)*16<=140737488355328) ((self names ((pM off 0 (((off.length:Int):Int).toNat))++([j])) (i64.wrap (J+1)) (i64.wrap (many-1)) Y Z).bind λo=>if o.2 then (some (o.1,true)) else (I (i64.wrap (J+1)))))) else (some (([]:List RU),false))
def fK (self:(List RU)->(List RU)->Int->Int->(List RU)->aG->Option ((List RU)×Bool)) (names:(List RU)) (off:(List RU)) (j:Int) (many:Int) (J:(List RU)) (Y:aG):Option ((List RU)×Bool):=if decide (many=0) then ((pz off J Y).bind λo=>some (off,o)) else (iV (λI n=>lj self names off many J Y I n) gO j)
def eM:Nat->(List RU)->(List RU)->Int->Int->(List RU)->aG->Option ((List RU)×Bool)
 | 0=>λ_ _ _ _ _ _=>none
 | n+1=>fK (eM n)
def lS (names:(List RU)) (off:(List RU)) (j:Int) (many:Int) (I:(List RU)) (J:aG):Option ((List RU)×Bool):=eM gO names off j many I J
def oC (j:List RU->Option ((List RU)×Int)) (o:List RU):Option ((List RU)×Int):=j o
def sW (J:aG) (j:List RU) (Y:Int) (I:Int->Option ((List RU)×Int)):Option ((List RU)×Int):=if decide (Y<=(j.length:Int)) then ((lS j ([]:List RU) 0 Y j J).bind λo=>if o.2 then (some (o.1,0)) else (I (i64.wrap (Y+1)))) else (some (([]:List RU),8))
def sV (on:(List RU)) (R:Nat) (j:aI) (o:List RU) (I:List RU->Option ((List RU)×Int)):Option ((List RU)×Int):=(cI on j.Name).bind λJ=>if J then (cZ ((o.length+([j.Name]).length)*16<=140737488355328) (oC I (o++([j.Name])))) else (oC I o)
def pd (j:aG) (on:(List RU)):Option ((List RU)×Int):=(fG j on).bind λI=>if !decide (I=0) then (some (([]:List RU),I)) else (if decide (5<(on.length:Int)) then (some (([]:List RU),2)) else (eL (λk y o n=>sV on k y o n) (λo=>iV (λJ n=>sW j o J n) gO 0) 0 j.bM ([]:List RU)))
def pG (o:aI) (j:RU):Bool:=(decide (o.Name=j))
def iG (J:(List aI)) (j:RU) (o:Nat) (I:Unit->Option (Int)):Option (Int):=idx J (o:Int) λR=>if (pG R j) then (some (o:Int)) else (I ())
def eC (o:(List aI)) (j:RU):Option (Int):=lH (λk I n=>iG o j k n) (λ_=>some (-1)) ((o.length:Int):Int).toNat 0 ()
def kH (o:RU) (j:(List RU)):Option (Bool):=(cI j o).bind λI=>some I
def jF (J:(List RU)) (j:(List RU)) (o:Nat) (I:Unit->Option (Int)):Option (Int):=idx J (o:Int) λR=>(kH R j).bind λU=>if U then (some (o:Int)) else (I ())
def fX (o:(List RU)) (j:(List RU)):Option (Int):=lH (λk I n=>jF o j k n) (λ_=>some (-1)) ((o.length:Int):Int).toNat 0 ()
def eB (I:Int) (j:(List RU×Int×Int)->Option ((List RU))) (o:List RU) (J:Int):Option ((List RU)):=j (o,J,i64.wrap (I+1))
def iX (del_0:(List RU)) (j:List RU) (Y:Int) (Z:Int) (o:(List RU×Int×Int)->Option ((List RU))):Option ((List RU)):=if decide (Z<(j.length:Int)) then (idx j Z λI=>(kH I del_0).bind λJ=>if !J then (idx j Y λR=>eB Z o (j.set ((Y:Int).toNat) I) (i64.wrap (Y+1))) else (eB Z o j Y)) else (cZ (0<=Y/\Y<=(j.length:Int)) (cZ (0<=Y/\Y<=((j.take (Y).toNat++List.replicate (j.length-(Y).toNat) ((⟨#[]⟩):RU)).length:Int)) (some (pM (j.take (Y).toNat++List.replicate (j.length-(Y).toNat) ((⟨#[]⟩):RU)) 0 ((Y:Int).toNat)))))
def eS (j:(List RU)) (J:(List RU)):Option ((List RU)):=(fX j J).bind λo=>if decide (o=(-1)) then (some j) else (iV (λI n=>iX J I.1 I.2.1 I.2.2 n) gO (j,o,i64.wrap (o+1)))
def rq (o:bH) (U:Nat) (I:RU) (J:List aB) (j:List aB->Option (bH)):Option (bH):=(gC (bV.mk J) (aB.mk o.time (⟨#[112,114,111,111,102]⟩) I 0)).bind λR=>j R.2.2.lT
def rr (j:bH) (Z:Nat) (o:RU) (J:List aB) (I:List aB->Option (bH)):Option (bH):=(eC j.eD.bM o).bind λR=>idx j.eD.bM R λU=>(gC (bV.mk J) (aB.mk j.time (⟨#[115,104,101,100]⟩) o U.dY)).bind λY=>I Y.2.2.lT
def oG (j:bH) (over:(List RU)):Option (bH):=(pd j.eD j.on).bind λo=>if !decide (o.2=0) then (eL (λk y I n=>rq j k y I n) (λI=>some (bH.mk j.eD j.rules j.on j.held j.watch j.state j.time (bV.mk I) over)) 0 over j.log.lT) else (eL (λk y J n=>rr j k y J n) (λJ=>(eS j.on o.1).bind λR=>(fB j.eD R).bind λU=>some (bH.mk j.eD j.rules R j.held j.watch U.1 j.time (bV.mk J) j.over)) 0 o.1 j.log.lT)
def oE (j:(List aS)) (o:List aA) (I:List Int) (J:List Bool) (R:Int) (U:List aB) (Y:(List RU)) (Z:(List aX)) (RF:(List aS)) (RG:(List bK)) (RH:(List aI)) (RI:(List bW)) (RJ:(List aR)) (RK:List RU) (RM:(List RU)) (RN:(List RU)) (RO:(List RU)) (RP:Int) (RQ:(List RU)):Option (Int×bH):=some (0,(bH.mk (aG.mk Y Z RF RG RH RI) RJ RK RM (cM.mk j o I J R) (dB.mk RN RO) RP (bV.mk U) RQ))
def lJ (I:bH) (R:aB) (o:(Int×dS)) (J:(dB×(List RU)×Int)) (U:(List aS)) (Z:List aA) (RE:List Int) (RF:List Bool) (Y:Int):Option (Int×bH):=(gC I.log R).bind λRG=>(mL (cM.mk U Z RE RF Y)).bind λRI=>(fD J.2.1 RI).bind λRH=>if decide (0<(RH.length:Int)) then ((oG (bH.mk o.2.n I.rules o.2.on I.held (cM.mk U Z RE RF Y) J.1 R.Time RG.2.2 []) RH).bind λj=>oE j.watch.ml j.watch.nt j.watch.tK j.watch.over j.watch.time j.log.lT j.eD.bP j.eD.aT j.eD.aL j.eD.dI j.eD.bM j.eD.cB j.rules j.on j.held j.state.iJ j.state.kV j.time j.over) else (oE U Z RE RF Y RG.2.2.lT o.2.n.bP o.2.n.aT o.2.n.aL o.2.n.dI o.2.n.bM o.2.n.cB I.rules o.2.on I.held J.1.iJ J.1.kV R.Time ([]))
def kz (j:bH) (o:aB):Option (Int×bH):=(eP o).bind λU=>if !decide (U=0) then (some (U,j)) else (if decide (o.Time<j.time) then (some (12,j)) else ((mX j.log).bind λY=>if decide (200<=(Y.length:Int)) then (some (9,j)) else ((lv j.eD).bind λZ=>cZ (j.on.length*16<=140737488355328) ((pC j (dS.mk Z j.on) o).bind λI=>if !decide (I.1=0) then (some (I.1,j)) else ((fB I.2.n I.2.on).bind λJ=>if !decide (J.2.2=0) then (some (J.2.2,j)) else (if (decide (o.Kind=(⟨#[98,97,99,107]⟩))) && (decide (0<(J.2.1.length:Int))) then (some (17,j)) else (if decide (1<=(i64.wrap (o.Time-j.time))) then ((oB j.watch j.state.kV (i64.wrap (o.Time-j.time))).bind λR=>lJ j o I J R.2.2.ml R.2.2.nt R.2.2.tK R.2.2.over R.2.2.time) else (lJ j o I J j.watch.ml j.watch.nt j.watch.tK j.watch.over j.watch.time))))))))
def lO (j:aC) (I:Int):Option (aP):=idx j.events.a0 (i64.wrap (I-1)) λo=>some (aP.mk j.term I false o)
def lq (j:aC) (o:(List aP)):Option (Int×aC):=if decide (40<(i64.wrap ((j.fM.length:Int)+(o.length:Int)))) then (some (9,j)) else (cZ ((j.fM.length+o.length)*72<=140737488355328) (some (0,(aC.mk j.nY j.kQ j.events (j.fM++o) j.term j.done j.mT))))
def gF (j:aC) (o:aB):Option (Int×Int×aC):=if (decide ((j.events.a0.length:Int)=60)) || (decide ((j.fM.length:Int)=40)) then (some (0,9,j)) else ((kz j.kQ.a0 o).bind λI=>if !decide (I.1=0) then (some (0,I.1,(aC.mk j.nY (dU.mk I.2 j.kQ.a1) j.events j.fM j.term j.done j.mT))) else (cZ ((j.events.a0.length+([o]).length)*48<=140737488355328) ((lO (aC.mk j.nY (dU.mk I.2 j.kQ.a1) (cP.mk (j.events.a0++([o])) j.events.a1) j.fM j.term j.done j.mT) ((j.events.a0++([o])).length:Int)).bind λR=>(lq (aC.mk j.nY (dU.mk I.2 j.kQ.a1) (cP.mk (j.events.a0++([o])) j.events.a1) j.fM j.term j.done j.mT) ([R])).bind λJ=>some (((j.events.a0++([o])).length:Int),J.1,J.2))))
def np (j:aC) (o:Int):Option (aP×Int×aC):=if (decide (o<0)) || (decide ((j.fM.length:Int)<=o)) then (some ((aP.mk 0 0 false (aB.mk 0 (⟨#[]⟩) (⟨#[]⟩) 0)),8,j)) else (idx j.fM o λI=>cZ (0<=o/\o<(i64.wrap (o+1))/\(i64.wrap (o+1))<=(j.fM.length:Int)) (some (I,0,(aC.mk j.nY j.kQ j.events (j.fM.take (o).toNat++j.fM.drop (i64.wrap (o+1)).toNat) j.term j.done j.mT))))
def kA (j:(aP×Int×aC)) (I:Int) (J:Int):Option (Int×aC):=some (0,(aC.mk j.2.2.nY j.2.2.kQ j.2.2.events j.2.2.fM j.2.2.term I J))
def g_ (j:(aP×Int×aC)) (o:List aB) (J:bH):Option (Int×aC):=(lq (aC.mk j.2.2.nY (dU.mk j.2.2.kQ.a0 J) (cP.mk j.2.2.events.a0 o) j.2.2.fM j.2.2.term j.2.2.done j.2.2.mT) ([(aP.mk j.2.2.term ((o.length:Int)) true (aB.mk 0 (⟨#[]⟩) (⟨#[]⟩) 0))])).bind λI=>some (I.1,I.2)
def fC (I:aC) (J:Int):Option (Int×aC):=(np I J).bind λj=>if !decide (j.2.1=0) then (some (j.2.1,j.2.2)) else (if decide (j.1.Term<j.2.2.term) then (kA j j.2.2.done j.2.2.mT) else (if j.1.Ea then (kA j (max j.2.2.done j.1.Number) (max j.2.2.mT (max j.2.2.done j.1.Number))) else (if decide (j.1.Number=(i64.wrap ((j.2.2.events.a1.length:Int)+1))) then ((kz j.2.2.kQ.a1 j.1.Event).bind λo=>if decide (o.1=0) then (cZ ((j.2.2.events.a1.length+([j.1.Event]).length)*48<=140737488355328) (g_ j (j.2.2.events.a1++([j.1.Event])) o.2)) else (g_ j j.2.2.events.a1 o.2)) else (g_ j j.2.2.events.a1 j.2.2.kQ.a1))))
def si (j:aB):Option (RU):=cZ (-9223372036854775808<=j.Time/\j.Time<=9223372036854775807) (cZ ((ny j.Time).size+(⟨#[32]⟩:RU).size<=maxLen) (cZ (((ny j.Time)++(⟨#[32]⟩)).size+j.Kind.size<=maxLen) (cZ ((((ny j.Time)++(⟨#[32]⟩))++j.Kind).size+(⟨#[32]⟩:RU).size<=maxLen) (cZ (((((ny j.Time)++(⟨#[32]⟩))++j.Kind)++(⟨#[32]⟩)).size+j.Name.size<=maxLen) (cZ ((((((ny j.Time)++(⟨#[32]⟩))++j.Kind)++(⟨#[32]⟩))++j.Name).size+(⟨#[32]⟩:RU).size<=maxLen) (cZ (-9223372036854775808<=j.Value/\j.Value<=9223372036854775807) (cZ (((((((ny j.Time)++(⟨#[32]⟩))++j.Kind)++(⟨#[32]⟩))++j.Name)++(⟨#[32]⟩)).size+(ny j.Value).size<=maxLen) (some (((((((ny j.Time)++(⟨#[32]⟩))++j.Kind)++(⟨#[32]⟩))++j.Name)++(⟨#[32]⟩))++(ny j.Value))))))))))
def vC (I:Nat) (o:U8) (J:Int) (j:Int->Option (Int)):Option (Int):=j (u64.wrap ((u64.wrap ((BitVec.ofInt (u64).bits J ^^^ BitVec.ofInt (u64).bits (u64.wrap (o.n))).toNat))*1099511628211))
def qL (o:Int) (I:RU):Option (Int):=cZ (I.size+(⟨#[10]⟩:RU).size<=maxLen) (cZ ((I++(⟨#[10]⟩)).size<=maxLen) (eL (λk y j n=>vC k y j n) (λj=>some j) 0 (lz (I++(⟨#[10]⟩))) o))
def oM (R:Nat) (o:aB) (Y:Int) (j:Int->Option (Int)):Option (Int):=(si o).bind λI=>(qL Y I).bind λJ=>j J
def nB (o:bV):Option (Int):=eL (λk y j n=>oM k y j n) (λj=>some j) 0 o.lT 14695981039346656037
def jL (j:bH):Option (Int):=(nB j.log).bind λo=>some o
def gP (j:aC):Option (Int×Int):=(jL j.kQ.a0).bind λo=>(jL j.kQ.a1).bind λI=>some (o,I)
def aZ (j:aC):Int:=j.mT
def mY (j:Int) (I:Int):Option (Int):=some (i64.wrap (j+I))
def jI (I:Int) (j:Int) (o:Int):Option (Int):=cZ ((i64.wrap ((i64.wrap (o-j))+1))≠0) (if decide ((Int.tmod I (i64.wrap ((i64.wrap (o-j))+1)))<0) then (mY j (i64.wrap ((Int.tmod I (i64.wrap ((i64.wrap (o-j))+1)))+(i64.wrap ((i64.wrap (o-j))+1))))) else (mY j (Int.tmod I (i64.wrap ((i64.wrap (o-j))+1)))))
def hO (o:aC) (I:Int):Option (Int×aC):=(np o I).bind λj=>some (j.2.1,j.2.2)
def qR (j:aC) (o:List aP) (Y:Int) (R:(List aP×Int)->Option (Int×aC)):Option (Int×aC):=if decide (Y<=(j.events.a0.length:Int)) then ((lO j Y).bind λI=>cZ ((o.length+([I]).length)*72<=140737488355328) (R ((o++([I])),i64.wrap (Y+1)))) else ((lq j o).bind λJ=>some (J.1,J.2))
def gE (j:aC):Option (Int×aC):=iV (λo n=>qR j o.1 o.2 n) gO (([]:List aP),i64.wrap (j.done+1))
def fZ (j:aC):Option (Int×aC):=if decide ((j.events.a1.length:Int)<j.mT) then (some (20,j)) else ((nk j.nY).bind λo=>(o.1).bind λI=>some (0,(aC.mk j.nY (dU.mk j.kQ.a1 I) (cP.mk j.events.a1 ([]:List aB)) j.fM (i64.wrap (j.term+1)) 0 j.mT)))
def fR (j:aC):Option ((List aB)):=cZ (j.events.a0.length*48<=140737488355328) (some j.events.a0)
end Go.Sim
namespace Go.Sim
open Go Go.RowKit
open _root_.Go.IntKind (i64 u64 u32 u8)
def Gd {R:Type} (o:Option R) (Q:R->Prop):Prop:=∃ r,o=some r/\Q r
section
variable {R α β σ:Type}{Q Q':R->Prop}
theorem Gd.mono {o:Option R} (h:Gd o Q) (k:∀ r,Q r->Q' r):Gd o Q':=by
 obtain ⟨r,e,q⟩:=h; exact ⟨r,e,k r q⟩
theorem Gd.ret {r:R} (h:Q r):Gd (some r) Q:=⟨r,rfl,h⟩
theorem Gd.nd {p:Prop}[Decidable p] {k:Option R} (h:p) (I:Gd k Q):Gd (cZ p k) Q:=by
 unfold Sim.cZ; rw [R9 h]; exact I
theorem Gd.fH {o:Option α}{k:α->Option R}{P:α->Prop} (h:Gd o P) (I:∀ a,P a->Gd (k a) Q):Gd (o.bind k) Q:=by
 obtain ⟨a,rfl,q⟩:=h; exact I a q
theorem Gd.bind_eq {o:Option α}{a:α}{k:α->Option R} (h:o=some a) (I:Gd (k a) Q):Gd (o.bind k) Q:=by
 subst h; exact I
theorem Gd.ite {b:Bool}{p q:Option R} (h1:b=true->Gd p Q) (h2:b=false->Gd q Q):Gd (if b=true then p else q) Q:=by
 cases b
 ·simpa using h2 rfl
 ·simpa using h1 rfl
theorem Gd.ix {l:List α}{i:Int}{k:α->Option R}{y:α} (I:0<=i) (Y:l[i.toNat]? = some y) (J:Gd (k y) Q):Gd (idx l i k) Q:=by
 unfold Sim.idx; rw [R9 I,Y]; exact J
theorem Gd.iT {l:List α}{i:Nat}{k:α->Option R} (h:i<l.length) (I:Gd (k l[i]) Q):Gd (Sim.idx l (i:Int) k) Q:=
 Gd.ix (by omega) (RY (by simpa using h)) I
theorem Gd.opt {o:Option α}{a:Option R}{f:α->Option R} (h1:o=none->Gd a Q) (h2:∀ s,o=some s->Gd (f s) Q):Gd (AA o a f) Q:=by
 cases o with
 | none=>exact h1 rfl
 | some s=>exact h2 s rfl
theorem Gd.eL {J:Nat->α->σ->(σ->Option R)->Option R}{k:σ->Option R} (I:Nat->List α->σ->Prop)
  (Z:∀ i y ys s n,I i (y::ys) s->(∀ Y,I (i+1) ys Y->Gd (n Y) Q)->Gd (J i y s n) Q) (hk:∀ i s,I i [] s->Gd (k s) Q):
  ∀ (l:List α) (i:Nat) (s:σ),I i l s->Gd (eL J k i l s) Q
 | [],i,s,h=>hk i s h
 | y::ys,i,s,h=>Z i y ys s _ h (λY h'=>Gd.eL I Z hk ys (i+1) Y h')
theorem Gd.lH {J:Nat->σ->(σ->Option R)->Option R}{k:σ->Option R} (I:Nat->Nat->σ->Prop)
  (Z:∀ m i s n,I (m+1) i s->(∀ Y,I m (i+1) Y->Gd (n Y) Q)->Gd (J i s n) Q) (hk:∀ i s,I 0 i s->Gd (k s) Q):
  ∀ (m i:Nat) (s:σ),I m i s->Gd (lH J k m i s) Q
 | 0,i,s,h=>hk i s h
 | m+1,i,s,h=>Z m i s _ h (λY h'=>Gd.lH I Z hk m (i+1) Y h')
theorem Gd.iV {J:σ->(σ->Option R)->Option R} (I:σ->Prop) (Z:σ->Nat)
  (hb:∀ s n,I s->(∀ Y,I Y->Z Y<Z s->Gd (n Y) Q)->Gd (J s n) Q):
  ∀ (m:Nat) (s:σ),I s->Z s<m->Gd (iV J m s) Q
 | 0,s,_,h=>by omega
 | m+1,s,hI,h=>hb s _ hI (λY h' hlt=>Gd.iV I Z hb m Y h' (by omega))
theorem Gd.eq {o:Option R}{r:R}:Gd o (λx=>x=r)↔o=Option.some r:=by
 constructor
 ·rintro ⟨x,h,rfl⟩; exact h
 ·intro h; exact ⟨r,h,rfl⟩
end
theorem bZ {n:Int} (h:-9223372036854775808<=n/\n<=9223372036854775807):i64.wrap n=n:=zd h.1 h.2
theorem Gd.seen {R α Y:Type}{Q:R->Prop}{J:Nat->α->Y->(Y->Option R)->Option R}{k:Y->Option R}{l:List α} (I:List α->Y->Prop)
  (hb:∀ i y s n pre,(∃ Z,l=pre++y::Z)->I pre s->(∀ s',I (pre++[y]) s'->Gd (n s') Q)->Gd (J i y s n) Q) (hk:∀ s,I l s->Gd (k s) Q) (s:Y) (hs:I [] s):Gd (Sim.eL J k 0 l s) Q:=by
 have key:∀ (ys pre:List α) (i:Nat) (s:Y),l=pre++ys->I pre s->Gd (Sim.eL J k i ys s) Q:=by
  intro ys
  induction ys with
  | nil=>intro pre i s hl hs; rw [SN] at hl; subst hl; exact hk s hs
  | cons y ys ih=>
   intro pre i s hl hs;exact hb i y s _ pre ⟨ys,hl⟩ hs (λs' hs'=>ih (pre++[y]) (i+1) s' (by rw [hl]; simp) hs')
 exact key l [] 0 s rfl hs
theorem yc {α:Type}{l pre:List α}{y:α} (h:∃ I,l=pre++y::I):pre.length<l.length/\y ∈ l/\∀ x ∈ pre,x ∈ l:=by
 obtain ⟨I,rfl⟩:=h;exact ⟨by simp,by simp,λx J=>R2 _ J⟩
theorem GP {α:Type}[DecidableEq α]:∀ (a b:List α),a.Nodup->(∀ x ∈ a,x ∈ b)->a.length<=b.length
 | [],_,_,_=>Nat.zero_le _
 | x::xs,b,hn,h=>by
  rw [V0] at hn;have I:=h x (R6 ..);have h1:=GP xs (b.erase x) hn.2 (λy J=>(List.mem_erase_of_ne (λe:y=x=>hn.1 (by rw [<- e]; exact J))).2 (h y (Sa _ J)))
  rw [List.length_erase_of_mem I] at h1;have:0<b.length:=List.length_pos_of_mem I;simp only [R_]; omega
end Go.Sim
