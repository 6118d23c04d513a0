/-
  The proof, part F3.
-/
import Derived.Test.YthomhaphclgbcaaGreatDoorSqF2
set_option linter.unusedVariables false
set_option linter.unusedSimpArgs false
set_option linter.unusedSectionVars false
set_option linter.unnecessarySimpa false
namespace Go.Sim
open Go
open _root_.Go.IntKind (i64 u64 u32 u8)
structure CZ (s:cH):Prop where
 n:px s.bS
 r:∀ r ∈ s.oH,zP r
structure NJ (s:cH) (r:Rm):Prop where
 n:r.bR=s.bS
 on:r.on=nm s.bS
 he:r.held=[]
 w:oY s.bS=some (some r.watch,0)
 ti:r.time=0
 lo:r.log.jK=[]
 ov:r.over=[]
theorem L7 {s:cH} (hz:CZ s):Gd (sB s) (λq=>(∃ e,e≠0/\q=(none,e)/\pf s=some e)\/∃ r,q=(some r,0)/\Inv r/\NJ s r):=by
 suffices h:Gd (pf s) (λe=>e=0->bV s.bS=some 0/\x_ s.oH/\s.bS.bA.length<=5/\∃ st ov,c_ s.bS (nm s.bS)=some (st,ov,0)/\Lh s.bS (nm s.bS) st ov) by
  obtain ⟨e,he,Y⟩:=h;unfold sB;refine Gd.bind_eq he (Gd.ite (λh=>Gd.ret (.inl ⟨e,by simpa using h,rfl,he⟩)) (λh=>?_))
  have O:e=0:=by simpa using h
  subst O;obtain ⟨hc,J,h5,st,ov,hst,hsg⟩:=Y rfl;have Z:=hsg.v;obtain ⟨w,hw,hwo⟩:=KA hc Z;have hrl:=J.1;refine Gd.bind_eq (copy_eq Z) (Gd.nd (by omega) (Gd.bind_eq (yX _ Z.l5) ?_))
  refine Gd.jQ (λm i (l:List BQ)=>i+m=s.oH.length/\l=s.oH) ?_ ?_ ((s.oH.length:Int):Int).toNat 0 s.oH ⟨by omega,rfl⟩
  ·rintro m i l nx ⟨hi,rfl⟩ hnx
   have I:i<s.oH.length:=by omega
   unfold uP;refine Gd.gS I (Gd.nd ?_ (Gd.gS I (hnx _ ⟨by omega,?_⟩)))
   ·have hco:=(J.2 _ (PC I)).2
    obtain ⟨f,hf,hfk⟩:=vx s.oH[i].vX (hz.r _ (PC I)).2;rw [hco] at hf;have:=(hfk (O4 hf).symm).len;omega
   ·exact Ta I
  ·rintro i l ⟨_,rfl⟩
   refine Gd.bind_eq hw (Gd.opt (λk=>by simp at k) (λw' hw'=>?_))
   obtain rfl:=O4 hw';refine Gd.bind_eq hst (Gd.ret (.inr ⟨_,rfl,⟨hz.n,⟨J,hz.r⟩,⟨DG Z,λx hx=>hx⟩,h5,⟨ov,hsg⟩,hwo,by simp,by simp [kE],by simp [kE],by simp,by simp [kE]⟩,⟨rfl,rfl,rfl,hw,rfl,rfl,rfl⟩⟩))
 unfold pf;obtain ⟨e,he,Y⟩:=Tu s.bS hz.n;refine Gd.bind_eq he (Gd.ite (λh=>Gd.ret (λk=>absurd k (by simpa using h))) (λh=>?_))
 have O:e=0:=by simpa using h
 subst O;have Z:=Y rfl;refine Gd.eE (By s.oH hz.r) (λf hf=>Gd.ite (λh=>Gd.ret (λk=>absurd k (by simpa using h))) (λh=>?_))
 have J:=hf.1 (by simpa using h)
 refine Gd.ite (λ_=>Gd.ret (λh=>by simp at h)) (λh5=>Gd.bind_eq (yX _ Z.l5) (Gd.eE (P:=λq=>(q.2.2=0->Lh s.bS (nm s.bS) q.1 q.2.1)/\c_ s.bS (nm s.bS)=some q) ?_ (λq hq=>Gd.ret (λO=>⟨he,J,by have:=Pc h5; omega,q.1,q.2.1,?_,hq.1 O⟩))))
 ·obtain ⟨q,hq,_,hs⟩:=zQ hz.n (nm s.bS)
  exact ⟨q,hq,hs,hq⟩
 ·rw [hq.2]
  obtain ⟨a,b,c⟩:=q;simp only at O;rw [O]
theorem IU {r:Rm} (h:Inv r):kV r=some r.bR:=by
 obtain ⟨ov,hs⟩:=h.st;unfold kV;rw [copy_eq hs.v]; rfl
def zD (r:Rm):List BA:=(nm r.bR).filter (λx=>decide (x ∈ r.on))
theorem L_ (r:Rm) (x:BA):lJ x r=some (!decide (x ∈ r.on)):=by
 unfold lJ;rw [qS];simp
theorem I0 (r:Rm) (A:List BA) (hA:A.length<=1000):Gd (dU A r) (λq=>q=A.filter (λx=>decide (x ∈ r.on))):=
 Aj (λx=>lJ x r) (λx=>decide (x ∈ r.on)) (L_ r) ⟨#[]⟩ A (by omega)
theorem IZ {r:Rm} (h:Inv r):nf r=some (zD r):=by
 obtain ⟨ov,hs⟩:=h.st;have I:=hs.v.l5;rw [<- Gd.eq];unfold nf;refine Gd.bind_eq (yX _ I) (Gd.eE (I0 r _ (by rw [xU]; omega)) (λq J=>Gd.ret ?_))
 rw [J]; rfl
structure OG (e:Ev):Prop where
 t:0<=e.Time/\e.Time<=200000
 v:-1000000<=e.Value/\e.Value<=1000000
 k:e.Kind.size<=8
 n:e.Name.size<=8
def Hu:Rm->List Ev->Rm->Prop
 | r,[],r'=>r'=r
 | r,e::es,r'=>∃ I,kB r e=some (0,I)/\Hu I es r'
theorem Hu.add:∀ {es:List Ev}{I r r':Rm}{e:Ev},Hu I es r->kB r e=some (0,r')->Hu I (es++[e]) r'
 | [],_,_,_,_,h,hs=>by
  obtain rfl:=h;exact ⟨_,hs,rfl⟩
 | _::_,_,_,_,_,⟨r1,h1,h⟩,hs=>⟨r1,h1,Hu.add h hs⟩
theorem EV {r:Rm}{x:BA} (I:x ∈ nm r.bR):x ∈ zD r↔x ∈ r.on:=by
 unfold zD;simp [I]
theorem Cv {r:Rm} (I:oh r.bR):zk r.bR (zD r):=
 ⟨(DG I).sublist TQ,λx J=>(PY.1 J).1⟩
theorem K0 {r:Rm} (h:Inv r):kJ r.bR (zD r)=some (pE r.bR r.on,0):=by
 obtain ⟨ov,hs⟩:=h.st;rw [zx hs.v ((Cv hs.v).JH hs.cn hs.v.l5),w6 (λx I=>EV I)]
theorem G4 {r:Rm} (h:Inv r) (hre:gP r.bR r.on=some ([],8)):gP r.bR (zD r)=some ([],8):=by
 obtain ⟨ov,hs⟩:=h.st;have hol:=h.on.len;have h5:=h.ll;have O:=Cv (r:=r) hs.v;have hol2:=O.len;obtain ⟨q,I,hc⟩:=w8 h.sz hs.v r.on hs.JH (by omega) (zD r) rfl
 rw [hre] at I;have I:=O4 I;subst I;have hno:∀ s,s.Sublist (zD r)->¬ zl r.bR (zD r) s:=by
  rcases hc with ⟨h0,_⟩ | ⟨_,Z⟩
  ·simp at h0
  ·exact Z
 obtain ⟨q,I,hc⟩:=w8 h.sz hs.v (zD r) (O.JH hs.cn hs.v.l5) (by omega) (zD r) (by
  show zD r=(nm r.bR).filter (λx=>decide (x ∈ zD r));refine List.filter_congr (λx hx=>?_);exact Uz.2 (EV hx).symm)
 rw [I];rcases hc with ⟨_,Y,J,_⟩ | ⟨Z,_⟩
 ·exact absurd J (hno _ Y)
 ·rw [Z]
theorem Je {n:Net}{p:List Int} (h:eO n=some (p,0)):∃ q,gI n=some q/\q.2=0:=by
 unfold eO at h;cases J:gI n with
 | none=>rw [J] at h; cases h
 | some q=>
  refine ⟨q,rfl,?_⟩;rw [J] at h
  by_cases I:q.2=0
  ·exact I
  ·simp [I] at h
theorem CL {α:Type}{l:List α}{k:Nat}{x:α} (h:x ∈ se l 0 k):x ∈ l:=by
 unfold se at h;exact RF (by simpa using h)
theorem Ja {r:Rm} (h:Inv r):oD r=some r.over:=by
 have I:=h.ol;rw [<- Gd.eq];unfold oD;exact Gd.nd (by omega) (Gd.ret rfl)
structure LD (r:Rm):Prop where
 i:Inv r
 o:r.over≠[]->gP r.bR r.on=some ([],8)
theorem LD.step {r r':Rm}{e:Ev} (hi:Inv r') (hd:MC r e r'):LD r':=by
 refine ⟨hi,λI=>?_⟩;obtain ⟨on1,hon,st1,ov1,ex,hst,hex,hc⟩:=hd.x;rcases hc with ⟨h0,O,hs,J,_⟩ | ⟨Y,O,hs,J,_⟩ | ⟨off,ev,_,O,Z,_,J,_⟩
 ·exact absurd J I
 ·rw [O]; exact Y
 ·exact absurd J I
theorem Fe {r:Rm} (h:Inv r):∃ q,gI (pE r.bR r.on)=some q/\q.2=0:=by
 obtain ⟨ov,hs⟩:=h.st;obtain ⟨p,hi,_⟩:=hs.OF;exact Je hi
theorem L9 {r:Rm} (h:LD r) (hne:r.over≠[]) {on:List BA} (hs:on.Sublist (zD r)):
  ∃ q,c_ r.bR on=some q/\¬ (q.2.2=0/\q.2.1=[]):=by
 obtain ⟨ov,Y⟩:=h.i.st;have Z:=Y.v;have J:=Cv (r:=r) Z;have hon:zk r.bR on:=⟨J.nd.sublist hs,λx I=>J.s x (hs.subset I)⟩;obtain ⟨q,hq⟩:=A4 (h.i.sz.pE on);refine ⟨q,C0 Z (hon.JH Y.cn Z.l5) hq,λhk=>?_⟩;have ho:=(BD hq).2 hk;have hl5:(zD r).length<=5:=P0 J.len h.i.ll;obtain ⟨q2,O,hc⟩:=w8 h.i.sz Z (zD r) (J.JH Y.cn Z.l5) hl5 (zD r) (by
  show zD r=(nm r.bR).filter (λx=>decide (x ∈ zD r));refine List.filter_congr (λx I=>?_);exact Uz.2 (EV I).symm)
 rw [G4 h.i (h.o hne)] at O;have O:=O4 O;subst O;rcases hc with ⟨h0,_⟩ | ⟨_,hno⟩
 ·simp at h0
 ·refine hno ((zD r).filter (λx=>!decide (x ∈ on))) TQ ?_
  unfold zl zg;rw [w6 (b:=on) (λx I=>?_)]
  ·exact ho
  ·unfold vi
   rw [PY];constructor
   ·rintro ⟨h1,h2⟩
    by_cases I:x ∈ on
    ·exact I
    ·have h3:x ∈ (zD r).filter (λx=>!decide (x ∈ on)):=PY.2 ⟨h1,by simp [I]⟩
     simp [h3] at h2
   ·intro I
    refine ⟨hs.subset I,?_⟩;have h3:x ∉ (zD r).filter (λx=>!decide (x ∈ on)):=λk=>by
     have:=(PY.1 k).2;simp [I] at this
    simp [h3]
theorem G9:∀ m:Nat,m<=5->rB .i64 1 (m:Int)<=9223372036854775807
 | 0,_=>by decide
 | 1,_=>by decide
 | 2,_=>by decide
 | 3,_=>by decide
 | 4,_=>by decide
 | 5,_=>by decide
 | m+6,h=>by omega
theorem G5 {r:Rm} (h:LD r) {e:Ev} (he:CW e) {Q:Bool->Prop}{nx:Rm->Option Bool} (k:Nat) (hn:∀ r',LD r'->Gd (nx r') Q):Gd (lv k e r nx) Q:=by
 unfold lv;refine Gd.eE (KG h.i he) (λq hq=>Gd.ite (λk0=>?_) (λk0=>?_))
 ·unfold eD
  exact hn _ (by rw [hq.2.1 (by simpa using k0)]; exact h)
 have k0:q.1=0:=by simpa using k0
 have hi:=hq.1;have hr:=LD.step hi (hq.2.2 k0);obtain ⟨sh,hsh,Z⟩:=Fe hi;refine Gd.bind_eq (IU hi) (Gd.bind_eq (IZ hi) (Gd.bind_eq (K0 hi) (Gd.bind_eq hsh (Gd.ite (λk=>by simp [Z] at k) (λ_=>Gd.bind_eq (Ja hi) (Gd.ite (λ_=>?_) (λI=>?_)))))))
 ·unfold eD
  exact hn _ hr
 have I:q.2.over≠[]:=λk=>by rw [k] at I; simp at I
 obtain ⟨ov,J⟩:=hi.st;have hl5:(zD q.2).length<=5:=P0 (Cv (r:=q.2) J.v).len hi.ll;refine Gd.bind_eq (IZ hi) (Gd.nd (by omega) (Gd.nd (G9 _ hl5) ?_))
 refine Gd.jQ (λ_ _ _=>True) (λm i _ nx2 _ hn2=>?_) (λ_ _ _=>?_) _ _ _ O0
 ·unfold ny
  refine Gd.bind_eq (IZ hi) (Gd.dR (λ_ ys s=>∃ pre,zD q.2=pre++ys/\s.Sublist pre) (λj y ys s nx3 hI Y=>?_) (λj s hI=>?_) _ _ _ ⟨[],rfl,QQ _⟩)
  ·obtain ⟨pre,O,hs⟩:=hI
   have hl:=P4 List.length O;have hsl:=hs.length_le;rw [Pj] at hl;unfold nB i_;refine Gd.nd (by omega) (Gd.ite (λ_=>Gd.nd ?_ (Y _ ⟨pre++[y],by simp [O],hs.append (QQ _)⟩)) (λ_=>Y _ ⟨pre++[y],by simp [O],hs.trans (List.sublist_append_left _ _)⟩))
   simp only [Pa,TW]; omega
  ·obtain ⟨pre,O,hs⟩:=hI
   rw [PH] at O;rw [<- O] at hs;obtain ⟨st,J,hno⟩:=L9 hr I hs;refine Gd.bind_eq (IU hi) (Gd.bind_eq J (Gd.ite (λk=>?_) (λ_=>hn2 _ O0)));rw [QC] at k;refine absurd ⟨O6 k.1,?_⟩ hno;have:=O6 k.2;exact List.length_eq_zero_iff.1 (by omega)
 ·unfold eD
  exact hn _ hr
theorem Ex:ox=some true:=by kernel_rfl
theorem J0 {s:cH} (I:CZ s):Gd (mZ s) CZ:=by
 unfold mZ;exact Gd.nd (by omega) (Gd.nd (by omega) (Gd.ret ⟨⟨I.n.nd,I.n.sw,I.n.br,λx J=>I.n.gn x (CL J),λx J=>I.n.ld x (CL J),I.n.st⟩,I.r⟩))
theorem BS (s:cH) (J:CZ s) (l:List Ev) (hl:∀ e ∈ l,CW e):jF s l=some true:=by
 rw [<- Gd.eq];unfold jF;refine Gd.bind_eq Ex (Gd.ite (λk=>by simp at k) (λ_=>Gd.eE (J0 J) (λs' O=>Gd.eE (L7 O) (λq hq=>?_))))
 rcases hq with ⟨e,he,rfl,hc⟩ | ⟨r,rfl,hi,Z⟩
 ·exact Gd.opt (λ_=>Gd.bind_eq hc (Gd.ret (by simp))) (λ_ h=>by simp at h)
 refine Gd.opt (λh=>by simp at h) (λr' I=>?_)
 obtain rfl:=O4 I;refine Gd.ite (λk=>by simp at k) (λ_=>Gd.nd (by omega) ?_)
 exact Gd.dR (Q:=λx=>x=true) (λ_ ys r=>(∀ y ∈ ys,CW y)/\LD r) (λi y ys r nx h hn=>G5 h.2 (h.1 y (O5 ..)) i (λr' Y=>hn r' ⟨λz J=>h.1 z (O9 _ J),Y⟩))
  (λ_ _ _=>Gd.ret rfl) _ _ _ ⟨λy hy=>hl y (CL hy),⟨hi,λk=>absurd Z.ov k⟩⟩
end Go.Sim
