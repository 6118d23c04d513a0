/-
  The law of TjC.
-/
import Derived.OpenShut
import Derived.HandedShaped
import Derived.Handed
import Derived.Lay
import Derived.LaidByTextLater
import Derived.Stop.LaidErr
import Derived.Test.YtcebojaeckebiaaGreatDoorSqC4
set_option linter.unusedVariables false
set_option linter.unusedSimpArgs false
set_option linter.unusedSectionVars false
set_option linter.unnecessarySimpa false
namespace Go.Sim
abbrev Tb := @Go.DataW.trod_struct
abbrev R7 := @Go.Proofs.Tryz.underlying3
abbrev Ur := @Go.Proofs.Tryz.underlying4
abbrev RV := @Go.Proofs.Tryz.underlying9
abbrev Va := @Go.laidMet.tail
end Go.Sim
namespace Go.Sim
open Go Go.RowKit Go.ChangeShapes Go.WideShapes Go.ChangeAt
open _root_.Go.IntKind (i64 u64 u32 u8)
theorem Ma:ownKnob Proofs.Tryz.prog.godebug=none:=by kernel_rfl
theorem Kz:laidOutB Proofs.Tryz.prog=true:=by kernel_rfl
instance:Ok a_:=⟨λx=>ok x.Name/\ok x.A/\ok x.B_/\ok x.wZ/\ok x.Open⟩
instance:Ok aR:=⟨λx=>ok x.Name/\ok x.pO/\ok x.To/\ok x.X/\ok x.CW/\ok x.Shift/\ok x.tY/\ok x.xV/\ok x.DE⟩
instance:Ok bK:=⟨λx=>ok x.Name/\ok x.Node/\ok x.iX/\ok x.q9/\ok x.C1⟩
instance:Ok aH:=⟨λx=>ok x.Name/\ok x.Node/\ok x.dA⟩
instance:Ok cL:=⟨λx=>ok x.Name/\ok x.Node/\ok x.sK/\ok x.Discharge/\ok x.u6⟩
instance:Ok aF:=⟨λx=>ok x.bH/\ok x.aN/\ok x.aK/\ok x.dS/\ok x.bF/\ok x.bY⟩
instance:Ok bO:=⟨λx=>ok x.Kind/\ok x.Name/\ok x.A/\ok x.B_⟩
instance:Ok bA:=⟨λx=>ok x.Close/\ok x.Switch/\ok x.xF⟩
instance:Ok cM:=⟨λx=>ok x.bX/\ok x.pG⟩
instance:Ok aV:=⟨λx=>ok x.iB/\ok x.Name/\ok x.N⟩
theorem MP:pd Proofs.Tryz.prog 22 (List Q1):=oY Proofs.Tryz.underlying22 (by kernel_rfl) rfl (fL RV)
theorem Ln:pd Proofs.Tryz.prog 111 a_:=by
 intro Hd enc w O cs d h;obtain ⟨xs,n,rfl,rfl,hl,I,J⟩:=Tb Proofs.Tryz.underlying111 h;obtain ⟨x0,Y,o0⟩:=bU (α:=Q1) I J 0 (o:=0) rfl rfl (by kernel_rfl) (fL RV)
 obtain ⟨x1,Z,o1⟩:=bU (α:=Q1) I J 1 (o:=1) rfl rfl (by kernel_rfl) (fL RV)
 obtain ⟨x2,e2,o2⟩:=bU (α:=Q1) I J 2 (o:=2) rfl rfl (by kernel_rfl) (fL RV)
 obtain ⟨x3,e3,o3⟩:=bU (α:=Bool) I J 3 (o:=3) rfl rfl (by kernel_rfl) (zq Ur)
 obtain ⟨x4,e4,o4⟩:=bU (α:=Bool) I J 4 (o:=4) rfl rfl (by kernel_rfl) (zq Ur)
 exact ⟨⟨x0,x1,x2,x3,x4⟩,piece (o:=0) Y (by rfl) (piece (o:=1) Z (by rfl) (piece (o:=2) e2 (by rfl) (piece (o:=3) e3 (by rfl) (piece (o:=4) e4 (by rfl) (qI hl (by kernel_rfl)))))),⟨o0,o1,o2,o3,o4⟩⟩
theorem MQ:pd Proofs.Tryz.prog 23 (List a_):=oY Proofs.Tryz.underlying23 (by kernel_rfl) rfl Ln
theorem Lo:pd Proofs.Tryz.prog 114 aR:=by
 intro Hd enc w O cs d h;obtain ⟨xs,n,rfl,rfl,hl,I,J⟩:=Tb Proofs.Tryz.underlying114 h;obtain ⟨x0,Y,o0⟩:=bU (α:=Q1) I J 0 (o:=0) rfl rfl (by kernel_rfl) (fL RV)
 obtain ⟨x1,Z,o1⟩:=bU (α:=Q1) I J 1 (o:=1) rfl rfl (by kernel_rfl) (fL RV)
 obtain ⟨x2,e2,o2⟩:=bU (α:=Q1) I J 2 (o:=2) rfl rfl (by kernel_rfl) (fL RV)
 obtain ⟨x3,e3,o3⟩:=bU (α:=Int) I J 3 (o:=3) rfl rfl (by kernel_rfl) (kR R7)
 obtain ⟨x4,e4,o4⟩:=bU (α:=Int) I J 4 (o:=4) rfl rfl (by kernel_rfl) (kR R7)
 obtain ⟨x5,e5,o5⟩:=bU (α:=Int) I J 5 (o:=5) rfl rfl (by kernel_rfl) (kR R7)
 obtain ⟨x6,e6,o6⟩:=bU (α:=Int) I J 6 (o:=6) rfl rfl (by kernel_rfl) (kR R7)
 obtain ⟨x7,e7,o7⟩:=bU (α:=Int) I J 7 (o:=7) rfl rfl (by kernel_rfl) (kR R7)
 obtain ⟨x8,e8,o8⟩:=bU (α:=Int) I J 8 (o:=8) rfl rfl (by kernel_rfl) (kR R7)
 exact ⟨⟨x0,x1,x2,x3,x4,x5,x6,x7,x8⟩,piece (o:=0) Y (by rfl) (piece (o:=1) Z (by rfl) (piece (o:=2) e2 (by rfl) (piece (o:=3) e3 (by rfl) (piece (o:=4) e4 (by rfl) (piece (o:=5) e5 (by rfl) (piece (o:=6) e6 (by rfl) (piece (o:=7) e7 (by rfl) (piece (o:=8) e8 (by rfl) (qI hl (by kernel_rfl)))))))))),⟨o0,o1,o2,o3,o4,o5,o6,o7,o8⟩⟩
theorem MR:pd Proofs.Tryz.prog 24 (List aR):=oY Proofs.Tryz.underlying24 (by kernel_rfl) rfl Lo
theorem Lp:pd Proofs.Tryz.prog 117 bK:=by
 intro Hd enc w O cs d h;obtain ⟨xs,n,rfl,rfl,hl,I,J⟩:=Tb Proofs.Tryz.underlying117 h;obtain ⟨x0,Y,o0⟩:=bU (α:=Q1) I J 0 (o:=0) rfl rfl (by kernel_rfl) (fL RV)
 obtain ⟨x1,Z,o1⟩:=bU (α:=Q1) I J 1 (o:=1) rfl rfl (by kernel_rfl) (fL RV)
 obtain ⟨x2,e2,o2⟩:=bU (α:=Int) I J 2 (o:=2) rfl rfl (by kernel_rfl) (kR R7)
 obtain ⟨x3,e3,o3⟩:=bU (α:=Int) I J 3 (o:=3) rfl rfl (by kernel_rfl) (kR R7)
 obtain ⟨x4,e4,o4⟩:=bU (α:=Int) I J 4 (o:=4) rfl rfl (by kernel_rfl) (kR R7)
 exact ⟨⟨x0,x1,x2,x3,x4⟩,piece (o:=0) Y (by rfl) (piece (o:=1) Z (by rfl) (piece (o:=2) e2 (by rfl) (piece (o:=3) e3 (by rfl) (piece (o:=4) e4 (by rfl) (qI hl (by kernel_rfl)))))),⟨o0,o1,o2,o3,o4⟩⟩
theorem MS:pd Proofs.Tryz.prog 25 (List bK):=oY Proofs.Tryz.underlying25 (by kernel_rfl) rfl Lp
theorem Lq:pd Proofs.Tryz.prog 120 aH:=by
 intro Hd enc w O cs d h;obtain ⟨xs,n,rfl,rfl,hl,I,J⟩:=Tb Proofs.Tryz.underlying120 h;obtain ⟨x0,Y,o0⟩:=bU (α:=Q1) I J 0 (o:=0) rfl rfl (by kernel_rfl) (fL RV)
 obtain ⟨x1,Z,o1⟩:=bU (α:=Q1) I J 1 (o:=1) rfl rfl (by kernel_rfl) (fL RV)
 obtain ⟨x2,e2,o2⟩:=bU (α:=Int) I J 2 (o:=2) rfl rfl (by kernel_rfl) (kR R7)
 exact ⟨⟨x0,x1,x2⟩,piece (o:=0) Y (by rfl) (piece (o:=1) Z (by rfl) (piece (o:=2) e2 (by rfl) (qI hl (by kernel_rfl)))),⟨o0,o1,o2⟩⟩
theorem MT:pd Proofs.Tryz.prog 26 (List aH):=oY Proofs.Tryz.underlying26 (by kernel_rfl) rfl Lq
theorem Lr:pd Proofs.Tryz.prog 123 cL:=by
 intro Hd enc w O cs d h;obtain ⟨xs,n,rfl,rfl,hl,I,J⟩:=Tb Proofs.Tryz.underlying123 h;obtain ⟨x0,Y,o0⟩:=bU (α:=Q1) I J 0 (o:=0) rfl rfl (by kernel_rfl) (fL RV)
 obtain ⟨x1,Z,o1⟩:=bU (α:=Q1) I J 1 (o:=1) rfl rfl (by kernel_rfl) (fL RV)
 obtain ⟨x2,e2,o2⟩:=bU (α:=Int) I J 2 (o:=2) rfl rfl (by kernel_rfl) (kR R7)
 obtain ⟨x3,e3,o3⟩:=bU (α:=Int) I J 3 (o:=3) rfl rfl (by kernel_rfl) (kR R7)
 obtain ⟨x4,e4,o4⟩:=bU (α:=Int) I J 4 (o:=4) rfl rfl (by kernel_rfl) (kR R7)
 exact ⟨⟨x0,x1,x2,x3,x4⟩,piece (o:=0) Y (by rfl) (piece (o:=1) Z (by rfl) (piece (o:=2) e2 (by rfl) (piece (o:=3) e3 (by rfl) (piece (o:=4) e4 (by rfl) (qI hl (by kernel_rfl)))))),⟨o0,o1,o2,o3,o4⟩⟩
theorem MU:pd Proofs.Tryz.prog 27 (List cL):=oY Proofs.Tryz.underlying27 (by kernel_rfl) rfl Lr
theorem MW:pd Proofs.Tryz.prog 29 aF:=by
 intro Hd enc w fuel cs d h;obtain ⟨xs,n,rfl,rfl,hl,I,J⟩:=Tb Proofs.Tryz.underlying29 h;obtain ⟨x0,⟨v0_0,e0,O⟩,o0⟩:=bU (α:=(List Q1)) I J 0 (o:=0) rfl rfl (by kernel_rfl) MP
 obtain ⟨x1,⟨v1_0,e1,Y⟩,o1⟩:=bU (α:=(List a_)) I J 1 (o:=1) rfl rfl (by kernel_rfl) MQ
 obtain ⟨x2,⟨v2_0,e2,Z⟩,o2⟩:=bU (α:=(List aR)) I J 2 (o:=2) rfl rfl (by kernel_rfl) MR
 obtain ⟨x3,⟨v3_0,e3,h3_0⟩,o3⟩:=bU (α:=(List bK)) I J 3 (o:=3) rfl rfl (by kernel_rfl) MS
 obtain ⟨x4,⟨v4_0,e4,h4_0⟩,o4⟩:=bU (α:=(List aH)) I J 4 (o:=4) rfl rfl (by kernel_rfl) MT
 obtain ⟨x5,⟨v5_0,e5,h5_0⟩,o5⟩:=bU (α:=(List cL)) I J 5 (o:=5) rfl rfl (by kernel_rfl) MU
 exact ⟨⟨x0,x1,x2,x3,x4,x5⟩,⟨v0_0,v1_0,v2_0,v3_0,v4_0,v5_0,piece (o:=0) e0 (by rfl) (piece (o:=1) e1 (by rfl) (piece (o:=2) e2 (by rfl) (piece (o:=3) e3 (by rfl) (piece (o:=4) e4 (by rfl) (piece (o:=5) e5 (by rfl) (qI hl (by kernel_rfl))))))),O,Y,Z,h3_0,h4_0,h5_0⟩,⟨o0,o1,o2,o3,o4,o5⟩⟩
theorem M6:pd Proofs.Tryz.prog 73 bO:=by
 intro Hd enc w O cs d h;obtain ⟨xs,n,rfl,rfl,hl,I,J⟩:=Tb Proofs.Tryz.underlying73 h;obtain ⟨x0,Y,o0⟩:=bU (α:=Int) I J 0 (o:=0) rfl rfl (by kernel_rfl) (kR R7)
 obtain ⟨x1,Z,o1⟩:=bU (α:=Q1) I J 1 (o:=1) rfl rfl (by kernel_rfl) (fL RV)
 obtain ⟨x2,e2,o2⟩:=bU (α:=Int) I J 2 (o:=2) rfl rfl (by kernel_rfl) (kR R7)
 obtain ⟨x3,e3,o3⟩:=bU (α:=Int) I J 3 (o:=3) rfl rfl (by kernel_rfl) (kR R7)
 exact ⟨⟨x0,x1,x2,x3⟩,piece (o:=0) Y (by rfl) (piece (o:=1) Z (by rfl) (piece (o:=2) e2 (by rfl) (piece (o:=3) e3 (by rfl) (qI hl (by kernel_rfl))))),⟨o0,o1,o2,o3⟩⟩
theorem M4:pd Proofs.Tryz.prog 58 (List bO):=oY Proofs.Tryz.underlying58 (by kernel_rfl) rfl M6
theorem M5:pd Proofs.Tryz.prog 60 bA:=by
 intro Hd enc w Z cs d h;obtain ⟨xs,n,rfl,rfl,hl,I,Y⟩:=Tb Proofs.Tryz.underlying60 h;obtain ⟨x0,e0,o0⟩:=bU (α:=Bool) I Y 0 (o:=0) rfl rfl (by kernel_rfl) (zq Ur)
 obtain ⟨x1,e1,o1⟩:=bU (α:=Q1) I Y 1 (o:=1) rfl rfl (by kernel_rfl) (fL RV)
 obtain ⟨x2,⟨O,e2,J⟩,o2⟩:=bU (α:=(List bO)) I Y 2 (o:=2) rfl rfl (by kernel_rfl) M4
 exact ⟨⟨x0,x1,x2⟩,⟨O,piece (o:=0) e0 (by rfl) (piece (o:=1) e1 (by rfl) (piece (o:=2) e2 (by rfl) (qI hl (by kernel_rfl)))),J⟩,⟨o0,o1,o2⟩⟩
theorem MX:pd Proofs.Tryz.prog 30 (List bA):=oY Proofs.Tryz.underlying30 (by kernel_rfl) rfl M5
theorem MY:pd Proofs.Tryz.prog 32 cM:=by
 intro Hd enc w fuel cs d h;obtain ⟨xs,n,rfl,rfl,hl,I,hf⟩:=Tb Proofs.Tryz.underlying32 h;obtain ⟨x0,⟨v0_0,v0_1,v0_2,v0_3,v0_4,v0_5,e0,J,O,Y,Z,h0_4,h0_5⟩,o0⟩:=bU (α:=aF) I hf 0 (o:=0) rfl rfl (by kernel_rfl) MW
 obtain ⟨x1,⟨v1_0,e1,h1_0⟩,o1⟩:=bU (α:=(List bA)) I hf 1 (o:=6) rfl rfl (by kernel_rfl) MX
 exact ⟨⟨x0,x1⟩,⟨v0_0,v0_1,v0_2,v0_3,v0_4,v0_5,v1_0,piece (o:=0) e0 (by rfl) (piece (o:=6) e1 (by rfl) (qI hl (by kernel_rfl))),J,O,Y,Z,h0_4,h0_5,h1_0⟩,⟨o0,o1⟩⟩
theorem M3:pd Proofs.Tryz.prog 41 aV:=by
 intro Hd enc w O cs d h;obtain ⟨xs,n,rfl,rfl,hl,I,J⟩:=Tb Proofs.Tryz.underlying41 h;obtain ⟨x0,Y,o0⟩:=bU (α:=Q1) I J 0 (o:=0) rfl rfl (by kernel_rfl) (fL RV)
 obtain ⟨x1,Z,o1⟩:=bU (α:=Q1) I J 1 (o:=1) rfl rfl (by kernel_rfl) (fL RV)
 obtain ⟨x2,e2,o2⟩:=bU (α:=Int) I J 2 (o:=2) rfl rfl (by kernel_rfl) (kR R7)
 exact ⟨⟨x0,x1,x2⟩,piece (o:=0) Y (by rfl) (piece (o:=1) Z (by rfl) (piece (o:=2) e2 (by rfl) (qI hl (by kernel_rfl)))),⟨o0,o1,o2⟩⟩
theorem MZ:pd Proofs.Tryz.prog 33 (List aV):=oY Proofs.Tryz.underlying33 (by kernel_rfl) rfl M3
theorem By {W:World} (O:laidMetH Proofs.Tryz.prog Proofs.YtcebojaeckebiaaGreatDoor.Rows.topScriptRow.laid W):wg W.heap.size W:=by
 rw [MakeChecks.laidMetH_plain _ _ _ (by kernel_rfl)] at O
 have t6:Lib.TabIs Proofs.Tryz.prog W "math/bits.deBruijn32tab" .u8 P3:=Lib.tabIs_of_head Qs (by kernel_rfl:(Proofs.Tryz.prog.globals[6]?).map (·.type)=some 317) Proofs.Tryz.underlying317 Proofs.Tryz.underlying5 (by kernel_rfl) (by kernel_rfl) (show laidMet Proofs.Tryz.prog (("math/bits.deBruijn32tab", Lib.tabData .u8 P3)::_) W from O)
 have Y:=Va O;have t7:Lib.TabIs Proofs.Tryz.prog W "math/bits.deBruijn64tab" .u8 P4:=Lib.tabIs_of_head Qm (by kernel_rfl:(Proofs.Tryz.prog.globals[7]?).map (·.type)=some 318) Proofs.Tryz.underlying318 Proofs.Tryz.underlying5 (by kernel_rfl) (by kernel_rfl) (show laidMet Proofs.Tryz.prog (("math/bits.deBruijn64tab", Lib.tabData .u8 P4)::_) W from Y)
 have Z:=Va Y;have t0:Lib.TabIs Proofs.Tryz.prog W "internal/strconv.uint64pow10" .u64 O3:=Lib.tabIs_of_head P2 (by kernel_rfl:(Proofs.Tryz.prog.globals[0]?).map (·.type)=some 262) Proofs.Tryz.underlying262 Proofs.Tryz.underlying50 (by kernel_rfl) (by kernel_rfl) (show laidMet Proofs.Tryz.prog (("internal/strconv.uint64pow10", Lib.tabData .u64 O3)::_) W from Z)
 have h3:=Va Z;have h4:=Va h3;have J: "*" ++ "errors.errorString" = "*errors.errorString" := by decide
 have I:∀ u,Proofs.Tryz.prog.typeName? 3 u=some "*errors.errorString" -> u=303:=λu h=>typeName_ptr_named (nm:= "errors.errorString") (by rw [J]; kernel_rfl) (by kernel_rfl) (by decide) u (by rw [J]; exact h)
 obtain ⟨a3,s3,e3,-⟩:=laid_sentinel h4 Ql (by kernel_rfl:(Proofs.Tryz.prog.globals[3]?).map (·.type)=some 158) Proofs.Tryz.underlying158 I Proofs.Tryz.underlying303 Proofs.Tryz.underlying305 rfl rfl RV (by kernel_rfl) (by kernel_rfl)
 have h5:=Va h4;obtain ⟨a2,s2,e2,-⟩:=laid_sentinel h5 Qk (by kernel_rfl:(Proofs.Tryz.prog.globals[2]?).map (·.type)=some 158) Proofs.Tryz.underlying158 I Proofs.Tryz.underlying303 Proofs.Tryz.underlying305 rfl rfl RV (by kernel_rfl) (by kernel_rfl)
 have h6:=Va h5;exact { lt:=Ot Qm t7,t6:=t6,t7:=t7,t0:=t0,e3:=⟨_,_,e3⟩,e2:=⟨_,_,e2⟩ }
set_option maxRecDepth 100000 in
theorem Al (hp:∀ (x0:cM) (x1:(List aV)),ok x0->ok x1->iU x0 x1=some true) (os:Os) (J:os.Started) (Hd:Type) (enc:TypeId×Q2->Hd):
  ReturnsInHanded {} Proofs.Tryz.checked os 3 .any (λw args=>(Proofs.YtcebojaeckebiaaGreatDoor.Rows.topScriptSpec.pre enc Proofs.Tryz.prog Proofs.Tryz.f3 Proofs.YtcebojaeckebiaaGreatDoor.Rows.topScriptRow.domain false w args/\laidMetH Proofs.Tryz.prog Proofs.YtcebojaeckebiaaGreatDoor.Rows.topScriptRow.laid w)/\sizedMet enc Proofs.Tryz.prog Proofs.Tryz.f3 (OpenSpec.ofChange Proofs.YtcebojaeckebiaaGreatDoor.Rows.topScriptSpec) false w args) (Proofs.YtcebojaeckebiaaGreatDoor.Rows.topScriptSpec.post enc Proofs.Tryz.prog Proofs.Tryz.f3 false true false false):=by
 refine returnsInHanded_of_change_and (C:=Proofs.Tryz.checked) (X:=λw _=>laidMetH Proofs.Tryz.prog Proofs.YtcebojaeckebiaaGreatDoor.Rows.topScriptRow.laid w) (λ_ _ _ hh h=>h.of_heap hh) Ma J (by kernel_rfl) Proofs.Tryz.func3
  (ChangeSpec.witness_shaped (enc:=enc) (C:=Proofs.Tryz.checked) (os:=os) (X:=λw _=>laidMetH Proofs.Tryz.prog Proofs.YtcebojaeckebiaaGreatDoor.Rows.topScriptRow.laid w) false (World.laidAll Proofs.Tryz.prog os Proofs.YtcebojaeckebiaaGreatDoor.Rows.topScriptRow.laid) #[.agg #[.slice none 0 0,.slice none 0 0,.slice none 0 0,.slice none 0 0,.slice none 0 0,.slice none 0 0,.slice none 0 0],.slice none 0 0] 8 (World.laidAll_os _ _ _)
   (World.shaped_of_ZipB (by kernel_rfl) (by kernel_rfl)) (by kernel_rfl) (by kernel_rfl) (by kernel_rfl)
   (by rw [MakeChecks.laidMetH_plain _ _ _ (by kernel_rfl)]; exact laidMet_laidAll _ (by kernel_rfl) (by kernel_rfl))) ?_
 intro W base args ds gs O Y hW hcnd _ hL _;have I:∀ (j:Nat) t v,Proofs.Tryz.f3.params[j]? = some t->args[j]? = some v->Value.okWide Proofs.Tryz.prog W .any base t v:=Y
 haveI:wg W.heap.size W:=By hL
 have hW2:DataW.Whole enc Proofs.Tryz.prog Proofs.Tryz.f3.params.toList Proofs.YtcebojaeckebiaaGreatDoor.Rows.topScriptSpec.vars false W args.toList ds gs O:=hW;obtain ⟨p,q,hA0,hV,rfl,hfz,hnd⟩:=hW;have hA:DataW.TrodAll enc Proofs.Tryz.prog W 0 (λ_=>true) true Proofs.Tryz.f3.params.toList args.toList ds p:=hA0;rw [Proofs.Tryz.params3] at hA I;obtain ⟨v0,vs0,d0,ds0,p0,q0,hargs,rfl,rfl,h0,r0⟩:=trodAll_cons hA;obtain ⟨v1,vs1,d1,ds1,p1,q1,rfl,rfl,rfl,h1,r1⟩:=trodAll_cons r0;obtain ⟨rfl,rfl,rfl⟩:=trodAll_nil r1;obtain rfl:args=#[v0,v1]:=by cases args; simp_all
 obtain ⟨x0,cs0,rfl,⟨v0_0,v0_1,v0_2,v0_3,v0_4,v0_5,v0_6,rfl,Z,e0_1,e0_2,e0_3,e0_4,e0_5,e0_6⟩,ok0⟩:=F8 Proofs.Tryz.underlying32 MY (I 0 32 v0 rfl rfl) h0;obtain ⟨x1,e1,ok1⟩:=Ik Proofs.Tryz.underlying33 MZ (I 1 33 v1 rfl rfl) h1;have hc:=vG (hp x0 x1 ok0 ok1) Z e0_1 e0_2 e0_3 e0_4 e0_5 e0_6 e1 (St.begin W);refine hc.mono λe W' h=>?_;cases e with
 | returned v=>
  obtain ⟨H',M',hst,hphi⟩:=h;obtain ⟨_,_,rfl⟩:=hphi;exact ⟨_,rfl,KA Kz rfl rfl Ur (by kernel_rfl) hW2 (λ_=>rfl) hst.below⟩
 | _=>exact h.elim
theorem C2 (Y:∀ (J:cM) (O:(List aV)),ok J->ok O->iU J O=some true):Proofs.YtcebojaeckebiaaGreatDoor.Rows.TopScriptSaid:=
 OpenClaim.holds_of_wide 3 Proofs.Tryz.f3 rfl rfl rfl rfl rfl rfl rfl ⟨rfl,rfl,rfl,rfl,rfl⟩ rfl rfl rfl rfl rfl (by kernel_rfl) Proofs.Tryz.func3 (by kernel_rfl)
  (Q_ (by kernel_rfl)) (by unfold Func.isWrapper; first | (rw [Rb (by decide +kernel)]; kernel_rfl) | (rw [Ra (by decide +kernel)]; exact ⟨rfl,rfl⟩))
  (λos I H enc _=>Al Y os I H enc)
end Go.Sim
