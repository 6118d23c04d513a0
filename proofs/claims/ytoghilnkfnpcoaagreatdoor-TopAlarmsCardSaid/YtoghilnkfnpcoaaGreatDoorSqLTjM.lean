/-
  The law of TjM.
-/
import Derived.OpenShut
import Derived.HandedShaped
import Derived.Handed
import Derived.Lay
import Derived.LaidByTextLater
import Derived.Stop.LaidErr
import Derived.Test.YtoghilnkfnpcoaaGreatDoorSqC4
set_option linter.unusedVariables false
set_option linter.unusedSimpArgs false
set_option linter.unusedSectionVars false
set_option linter.unnecessarySimpa false
namespace Go.Sim
abbrev QI := @Go.DataW.trod_struct
abbrev Pf := @Go.Proofs.Tryz.underlying3
abbrev RS := @Go.Proofs.Tryz.underlying4
abbrev O0 := @Go.Proofs.Tryz.underlying9
end Go.Sim
namespace Go.Sim
open Go Go.RowKit Go.ChangeShapes Go.WideShapes Go.ChangeAt
open _root_.Go.IntKind (i64 u64 u32 u8)
theorem Jv:ownKnob Proofs.Tryz.prog.godebug=none:=by kernel_rfl
theorem HA:laidOutB Proofs.Tryz.prog=true:=by kernel_rfl
instance:Ok aF:=⟨λx=>ok x.Of/\ok x.By⟩
instance:Ok eJ:=⟨λx=>ok x.Name/\ok x.A/\ok x.B_/\ok x.Bj/\ok x.Open⟩
instance:Ok aZ:=⟨λx=>ok x.Name/\ok x.pK/\ok x.To/\ok x.X/\ok x.AN/\ok x.Shift/\ok x.t_/\ok x.yY/\ok x.DB⟩
instance:Ok fH:=⟨λx=>ok x.Name/\ok x.Node/\ok x.lO/\ok x.q8/\ok x.DC⟩
instance:Ok aJ:=⟨λx=>ok x.Name/\ok x.Node/\ok x.fX⟩
instance:Ok fZ:=⟨λx=>ok x.Name/\ok x.Node/\ok x.sy/\ok x.Discharge/\ok x.uC⟩
instance:Ok aG:=⟨λx=>ok x.cA/\ok x.dE/\ok x.aU/\ok x.kF/\ok x.eS/\ok x.eK⟩
theorem J8:qQ Proofs.Tryz.prog 35 aF:=by
 intro Hd enc w J cs d h;obtain ⟨xs,n,rfl,rfl,hl,I,O⟩:=QI Proofs.Tryz.underlying35 h;obtain ⟨x0,Y,o0⟩:=dF (α:=N2) I O 0 (o:=0) rfl rfl (by kernel_rfl) (jY O0)
 obtain ⟨x1,e1,Z⟩:=dF (α:=N2) I O 1 (o:=1) rfl rfl (by kernel_rfl) (jY O0)
 exact ⟨⟨x0,x1⟩,piece (o:=0) Y (by rfl) (piece (o:=1) e1 (by rfl) (tm hl (by kernel_rfl))),⟨o0,Z⟩⟩
theorem J0:qQ Proofs.Tryz.prog 22 (List aF):=q7 Proofs.Tryz.underlying22 (by kernel_rfl) rfl J8
theorem J1:qQ Proofs.Tryz.prog 23 (List N2):=q7 Proofs.Tryz.underlying23 (by kernel_rfl) rfl (jY O0)
theorem II:qQ Proofs.Tryz.prog 149 eJ:=by
 intro Hd enc w O cs d h;obtain ⟨xs,n,rfl,rfl,hl,I,J⟩:=QI Proofs.Tryz.underlying149 h;obtain ⟨x0,Y,o0⟩:=dF (α:=N2) I J 0 (o:=0) rfl rfl (by kernel_rfl) (jY O0)
 obtain ⟨x1,e1,o1⟩:=dF (α:=N2) I J 1 (o:=1) rfl rfl (by kernel_rfl) (jY O0)
 obtain ⟨x2,e2,o2⟩:=dF (α:=N2) I J 2 (o:=2) rfl rfl (by kernel_rfl) (jY O0)
 obtain ⟨x3,Z,o3⟩:=dF (α:=Bool) I J 3 (o:=3) rfl rfl (by kernel_rfl) (AH RS)
 obtain ⟨x4,e4,o4⟩:=dF (α:=Bool) I J 4 (o:=4) rfl rfl (by kernel_rfl) (AH RS)
 exact ⟨⟨x0,x1,x2,x3,x4⟩,piece (o:=0) Y (by rfl) (piece (o:=1) e1 (by rfl) (piece (o:=2) e2 (by rfl) (piece (o:=3) Z (by rfl) (piece (o:=4) e4 (by rfl) (tm hl (by kernel_rfl)))))),⟨o0,o1,o2,o3,o4⟩⟩
theorem J2:qQ Proofs.Tryz.prog 24 (List eJ):=q7 Proofs.Tryz.underlying24 (by kernel_rfl) rfl II
theorem IH:qQ Proofs.Tryz.prog 114 aZ:=by
 intro Hd enc w O cs d h;obtain ⟨xs,n,rfl,rfl,hl,I,J⟩:=QI Proofs.Tryz.underlying114 h;obtain ⟨x0,Y,o0⟩:=dF (α:=N2) I J 0 (o:=0) rfl rfl (by kernel_rfl) (jY O0)
 obtain ⟨x1,e1,o1⟩:=dF (α:=N2) I J 1 (o:=1) rfl rfl (by kernel_rfl) (jY O0)
 obtain ⟨x2,e2,o2⟩:=dF (α:=N2) I J 2 (o:=2) rfl rfl (by kernel_rfl) (jY O0)
 obtain ⟨x3,Z,o3⟩:=dF (α:=Int) I J 3 (o:=3) rfl rfl (by kernel_rfl) (nf Pf)
 obtain ⟨x4,e4,o4⟩:=dF (α:=Int) I J 4 (o:=4) rfl rfl (by kernel_rfl) (nf Pf)
 obtain ⟨x5,e5,o5⟩:=dF (α:=Int) I J 5 (o:=5) rfl rfl (by kernel_rfl) (nf Pf)
 obtain ⟨x6,e6,o6⟩:=dF (α:=Int) I J 6 (o:=6) rfl rfl (by kernel_rfl) (nf Pf)
 obtain ⟨x7,e7,o7⟩:=dF (α:=Int) I J 7 (o:=7) rfl rfl (by kernel_rfl) (nf Pf)
 obtain ⟨x8,e8,o8⟩:=dF (α:=Int) I J 8 (o:=8) rfl rfl (by kernel_rfl) (nf Pf)
 exact ⟨⟨x0,x1,x2,x3,x4,x5,x6,x7,x8⟩,piece (o:=0) Y (by rfl) (piece (o:=1) e1 (by rfl) (piece (o:=2) e2 (by rfl) (piece (o:=3) Z (by rfl) (piece (o:=4) e4 (by rfl) (piece (o:=5) e5 (by rfl) (piece (o:=6) e6 (by rfl) (piece (o:=7) e7 (by rfl) (piece (o:=8) e8 (by rfl) (tm hl (by kernel_rfl)))))))))),⟨o0,o1,o2,o3,o4,o5,o6,o7,o8⟩⟩
theorem J3:qQ Proofs.Tryz.prog 25 (List aZ):=q7 Proofs.Tryz.underlying25 (by kernel_rfl) rfl IH
theorem IJ:qQ Proofs.Tryz.prog 156 fH:=by
 intro Hd enc w O cs d h;obtain ⟨xs,n,rfl,rfl,hl,I,J⟩:=QI Proofs.Tryz.underlying156 h;obtain ⟨x0,Y,o0⟩:=dF (α:=N2) I J 0 (o:=0) rfl rfl (by kernel_rfl) (jY O0)
 obtain ⟨x1,e1,o1⟩:=dF (α:=N2) I J 1 (o:=1) rfl rfl (by kernel_rfl) (jY O0)
 obtain ⟨x2,e2,o2⟩:=dF (α:=Int) I J 2 (o:=2) rfl rfl (by kernel_rfl) (nf Pf)
 obtain ⟨x3,Z,o3⟩:=dF (α:=Int) I J 3 (o:=3) rfl rfl (by kernel_rfl) (nf Pf)
 obtain ⟨x4,e4,o4⟩:=dF (α:=Int) I J 4 (o:=4) rfl rfl (by kernel_rfl) (nf Pf)
 exact ⟨⟨x0,x1,x2,x3,x4⟩,piece (o:=0) Y (by rfl) (piece (o:=1) e1 (by rfl) (piece (o:=2) e2 (by rfl) (piece (o:=3) Z (by rfl) (piece (o:=4) e4 (by rfl) (tm hl (by kernel_rfl)))))),⟨o0,o1,o2,o3,o4⟩⟩
theorem J4:qQ Proofs.Tryz.prog 26 (List fH):=q7 Proofs.Tryz.underlying26 (by kernel_rfl) rfl IJ
theorem J9:qQ Proofs.Tryz.prog 42 aJ:=by
 intro Hd enc w O cs d h;obtain ⟨xs,n,rfl,rfl,hl,I,J⟩:=QI Proofs.Tryz.underlying42 h;obtain ⟨x0,Y,o0⟩:=dF (α:=N2) I J 0 (o:=0) rfl rfl (by kernel_rfl) (jY O0)
 obtain ⟨x1,e1,Z⟩:=dF (α:=N2) I J 1 (o:=1) rfl rfl (by kernel_rfl) (jY O0)
 obtain ⟨x2,e2,o2⟩:=dF (α:=Int) I J 2 (o:=2) rfl rfl (by kernel_rfl) (nf Pf)
 exact ⟨⟨x0,x1,x2⟩,piece (o:=0) Y (by rfl) (piece (o:=1) e1 (by rfl) (piece (o:=2) e2 (by rfl) (tm hl (by kernel_rfl)))),⟨o0,Z,o2⟩⟩
theorem J5:qQ Proofs.Tryz.prog 27 (List aJ):=q7 Proofs.Tryz.underlying27 (by kernel_rfl) rfl J9
theorem IK:qQ Proofs.Tryz.prog 160 fZ:=by
 intro Hd enc w O cs d h;obtain ⟨xs,n,rfl,rfl,hl,I,J⟩:=QI Proofs.Tryz.underlying160 h;obtain ⟨x0,Y,o0⟩:=dF (α:=N2) I J 0 (o:=0) rfl rfl (by kernel_rfl) (jY O0)
 obtain ⟨x1,e1,o1⟩:=dF (α:=N2) I J 1 (o:=1) rfl rfl (by kernel_rfl) (jY O0)
 obtain ⟨x2,e2,o2⟩:=dF (α:=Int) I J 2 (o:=2) rfl rfl (by kernel_rfl) (nf Pf)
 obtain ⟨x3,Z,o3⟩:=dF (α:=Int) I J 3 (o:=3) rfl rfl (by kernel_rfl) (nf Pf)
 obtain ⟨x4,e4,o4⟩:=dF (α:=Int) I J 4 (o:=4) rfl rfl (by kernel_rfl) (nf Pf)
 exact ⟨⟨x0,x1,x2,x3,x4⟩,piece (o:=0) Y (by rfl) (piece (o:=1) e1 (by rfl) (piece (o:=2) e2 (by rfl) (piece (o:=3) Z (by rfl) (piece (o:=4) e4 (by rfl) (tm hl (by kernel_rfl)))))),⟨o0,o1,o2,o3,o4⟩⟩
theorem J6:qQ Proofs.Tryz.prog 28 (List fZ):=q7 Proofs.Tryz.underlying28 (by kernel_rfl) rfl IK
theorem J7:qQ Proofs.Tryz.prog 30 aG:=by
 intro Hd enc w fuel cs d h;obtain ⟨xs,n,rfl,rfl,hl,I,J⟩:=QI Proofs.Tryz.underlying30 h;obtain ⟨x0,⟨v0_0,e0,O⟩,o0⟩:=dF (α:=(List N2)) I J 0 (o:=0) rfl rfl (by kernel_rfl) J1
 obtain ⟨x1,⟨v1_0,e1,Y⟩,o1⟩:=dF (α:=(List eJ)) I J 1 (o:=1) rfl rfl (by kernel_rfl) J2
 obtain ⟨x2,⟨v2_0,e2,Z⟩,o2⟩:=dF (α:=(List aZ)) I J 2 (o:=2) rfl rfl (by kernel_rfl) J3
 obtain ⟨x3,⟨v3_0,e3,h3_0⟩,o3⟩:=dF (α:=(List fH)) I J 3 (o:=3) rfl rfl (by kernel_rfl) J4
 obtain ⟨x4,⟨v4_0,e4,h4_0⟩,o4⟩:=dF (α:=(List aJ)) I J 4 (o:=4) rfl rfl (by kernel_rfl) J5
 obtain ⟨x5,⟨v5_0,e5,h5_0⟩,o5⟩:=dF (α:=(List fZ)) I J 5 (o:=5) rfl rfl (by kernel_rfl) J6
 exact ⟨⟨x0,x1,x2,x3,x4,x5⟩,⟨v0_0,v1_0,v2_0,v3_0,v4_0,v5_0,piece (o:=0) e0 (by rfl) (piece (o:=1) e1 (by rfl) (piece (o:=2) e2 (by rfl) (piece (o:=3) e3 (by rfl) (piece (o:=4) e4 (by rfl) (piece (o:=5) e5 (by rfl) (tm hl (by kernel_rfl))))))),O,Y,Z,h3_0,h4_0,h5_0⟩,⟨o0,o1,o2,o3,o4,o5⟩⟩
theorem zI {W:World} (O:laidMetH Proofs.Tryz.prog Proofs.YtoghilnkfnpcoaaGreatDoor.Rows.topAlarmsRow.laid W):wh W.heap.size W:=by
 rw [MakeChecks.laidMetH_plain _ _ _ (by kernel_rfl)] at O
 have t4:Lib.TabIs Proofs.Tryz.prog W "math/bits.deBruijn32tab" .u8 MK:=Lib.tabIs_of_head Nq (by kernel_rfl:(Proofs.Tryz.prog.globals[4]?).map (·.type)=some 285) Proofs.Tryz.underlying285 Proofs.Tryz.underlying5 (by kernel_rfl) (by kernel_rfl) (show laidMet Proofs.Tryz.prog (("math/bits.deBruijn32tab", Lib.tabData .u8 MK)::_) W from O)
 have Y:=laidMet.tail O;have t5:Lib.TabIs Proofs.Tryz.prog W "math/bits.deBruijn64tab" .u8 ML:=Lib.tabIs_of_head Nh (by kernel_rfl:(Proofs.Tryz.prog.globals[5]?).map (·.type)=some 286) Proofs.Tryz.underlying286 Proofs.Tryz.underlying5 (by kernel_rfl) (by kernel_rfl) (show laidMet Proofs.Tryz.prog (("math/bits.deBruijn64tab", Lib.tabData .u8 ML)::_) W from Y)
 have Z:=laidMet.tail Y;have t3:Lib.TabIs Proofs.Tryz.prog W "internal/strconv.uint64pow10" .u64 Mq:=Lib.tabIs_of_head Ng (by kernel_rfl:(Proofs.Tryz.prog.globals[3]?).map (·.type)=some 282) Proofs.Tryz.underlying282 Proofs.Tryz.underlying136 (by kernel_rfl) (by kernel_rfl) (show laidMet Proofs.Tryz.prog (("internal/strconv.uint64pow10", Lib.tabData .u64 Mq)::_) W from Z)
 have h3:=laidMet.tail Z;have J: "*" ++ "errors.errorString" = "*errors.errorString" := by decide
 have I:∀ u,Proofs.Tryz.prog.typeName? 3 u=some "*errors.errorString" -> u=278:=λu h=>typeName_ptr_named (nm:= "errors.errorString") (by rw [J]; kernel_rfl) (by kernel_rfl) (by decide) u (by rw [J]; exact h)
 obtain ⟨a2,s2,e2,-⟩:=laid_sentinel h3 Np (by kernel_rfl:(Proofs.Tryz.prog.globals[2]?).map (·.type)=some 213) Proofs.Tryz.underlying213 I Proofs.Tryz.underlying278 Proofs.Tryz.underlying280 rfl rfl O0 (by kernel_rfl) (by kernel_rfl)
 have h4:=laidMet.tail h3;obtain ⟨a1,s1,e1,-⟩:=laid_sentinel h4 No (by kernel_rfl:(Proofs.Tryz.prog.globals[1]?).map (·.type)=some 213) Proofs.Tryz.underlying213 I Proofs.Tryz.underlying278 Proofs.Tryz.underlying280 rfl rfl O0 (by kernel_rfl) (by kernel_rfl)
 exact { lt:=Ld Nh t5,t4:=t4,t5:=t5,t3:=t3,e2:=⟨_,_,e2⟩,e1:=⟨_,_,e1⟩ }
set_option maxRecDepth 100000 in
theorem yC (hp:∀ (x0:(List aF)) (x1:aG) (x2:Int),ok x0->ok x1->CW x2->kN x0 x1 x2=some true) (os:Os) (J:os.Started) (Hd:Type) (enc:TypeId×N3->Hd):
  ReturnsInHanded {} Proofs.Tryz.checked os 3 .any (λw args=>(Proofs.YtoghilnkfnpcoaaGreatDoor.Rows.topAlarmsSpec.pre enc Proofs.Tryz.prog Proofs.Tryz.f3 Proofs.YtoghilnkfnpcoaaGreatDoor.Rows.topAlarmsRow.domain false w args/\laidMetH Proofs.Tryz.prog Proofs.YtoghilnkfnpcoaaGreatDoor.Rows.topAlarmsRow.laid w)/\sizedMet enc Proofs.Tryz.prog Proofs.Tryz.f3 (OpenSpec.ofChange Proofs.YtoghilnkfnpcoaaGreatDoor.Rows.topAlarmsSpec) false w args) (Proofs.YtoghilnkfnpcoaaGreatDoor.Rows.topAlarmsSpec.post enc Proofs.Tryz.prog Proofs.Tryz.f3 false true false false):=by
 refine returnsInHanded_of_change_and (C:=Proofs.Tryz.checked) (X:=λw _=>laidMetH Proofs.Tryz.prog Proofs.YtoghilnkfnpcoaaGreatDoor.Rows.topAlarmsRow.laid w) (λ_ _ _ hh h=>h.of_heap hh) Jv J (by kernel_rfl) Proofs.Tryz.func3
  (ChangeSpec.witness_shaped (enc:=enc) (C:=Proofs.Tryz.checked) (os:=os) (X:=λw _=>laidMetH Proofs.Tryz.prog Proofs.YtoghilnkfnpcoaaGreatDoor.Rows.topAlarmsRow.laid w) false (World.laidAll Proofs.Tryz.prog os Proofs.YtoghilnkfnpcoaaGreatDoor.Rows.topAlarmsRow.laid) #[.slice none 0 0,.agg #[.slice none 0 0,.slice none 0 0,.slice none 0 0,.slice none 0 0,.slice none 0 0,.slice none 0 0],.int .i64 0] 8 (World.laidAll_os _ _ _)
   (World.shaped_of_ZipB (by kernel_rfl) (by kernel_rfl)) (by kernel_rfl) (by kernel_rfl) (by kernel_rfl)
   (by rw [MakeChecks.laidMetH_plain _ _ _ (by kernel_rfl)]; exact laidMet_laidAll _ (by kernel_rfl) (by kernel_rfl))) ?_
 intro W base args ds gs O Y hW hcnd _ hL _;have I:∀ (j:Nat) t v,Proofs.Tryz.f3.params[j]? = some t->args[j]? = some v->Value.okWide Proofs.Tryz.prog W .any base t v:=Y
 haveI:wh W.heap.size W:=zI hL
 have hW2:DataW.Whole enc Proofs.Tryz.prog Proofs.Tryz.f3.params.toList Proofs.YtoghilnkfnpcoaaGreatDoor.Rows.topAlarmsSpec.vars false W args.toList ds gs O:=hW;obtain ⟨p,q,hA0,hV,rfl,hfz,hnd⟩:=hW;have hA:DataW.TrodAll enc Proofs.Tryz.prog W 0 (λ_=>true) true Proofs.Tryz.f3.params.toList args.toList ds p:=hA0;rw [Proofs.Tryz.params3] at hA I;obtain ⟨v0,vs0,d0,ds0,p0,q0,hargs,rfl,rfl,h0,r0⟩:=trodAll_cons hA;obtain ⟨v1,vs1,d1,ds1,p1,q1,rfl,rfl,rfl,h1,r1⟩:=trodAll_cons r0;obtain ⟨v2,vs2,d2,ds2,p2,q2,rfl,rfl,rfl,h2,r2⟩:=trodAll_cons r1
 obtain ⟨rfl,rfl,rfl⟩:=trodAll_nil r2;obtain rfl:args=#[v0,v1,v2]:=by cases args; simp_all
 obtain ⟨x0,e0,ok0⟩:=FA Proofs.Tryz.underlying22 J0 (I 0 22 v0 rfl rfl) h0;obtain ⟨x1,cs1,rfl,⟨v1_0,v1_1,v1_2,v1_3,v1_4,v1_5,rfl,Z,e1_1,e1_2,e1_3,e1_4,e1_5⟩,ok1⟩:=DG Proofs.Tryz.underlying30 J7 (I 1 30 v1 rfl rfl) h1;obtain ⟨x2,rfl,ok2⟩:=Ja Pf (I 2 3 v2 rfl rfl) h2;have hc:=uY (hp x0 x1 x2 ok0 ok1 ok2) e0 Z e1_1 e1_2 e1_3 e1_4 e1_5 (St.begin W);refine hc.mono λe W' h=>?_;cases e with
 | returned v=>
  obtain ⟨H',M',hst,hphi⟩:=h;obtain ⟨_,_,rfl⟩:=hphi;exact ⟨_,rfl,HB HA rfl rfl RS (by kernel_rfl) hW2 (λ_=>rfl) hst.below⟩
 | _=>exact h.elim
theorem AR (Z:∀ (J:(List aF)) (O:aG) (Y:Int),ok J->ok O->CW Y->kN J O Y=some true):Proofs.YtoghilnkfnpcoaaGreatDoor.Rows.TopAlarmsSaid:=
 OpenClaim.holds_of_wide 3 Proofs.Tryz.f3 rfl rfl rfl rfl rfl rfl rfl ⟨rfl,rfl,rfl,rfl,rfl⟩ rfl rfl rfl rfl rfl (by kernel_rfl) Proofs.Tryz.func3 (by kernel_rfl)
  (N9 (by kernel_rfl)) (by unfold Func.isWrapper; first | (rw [Oc (by decide +kernel)]; kernel_rfl) | (rw [Ob (by decide +kernel)]; exact ⟨rfl,rfl⟩))
  (λos I H enc _=>yC Z os I H enc)
end Go.Sim
