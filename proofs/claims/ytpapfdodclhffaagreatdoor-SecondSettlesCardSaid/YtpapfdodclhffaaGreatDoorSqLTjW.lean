/-
  The law of TjW.
-/
import Derived.OpenShut
import Derived.HandedShaped
import Derived.Handed
import Derived.Lay
import Derived.LaidByTextLater
import Derived.Stop.LaidErr
import Derived.Test.YtpapfdodclhffaaGreatDoorSqCTjW
set_option linter.unusedVariables false
set_option linter.unusedSimpArgs false
set_option linter.unusedSectionVars false
set_option linter.unnecessarySimpa false
namespace Go.Sim
abbrev Vo := @Go.ChangeSpec.witness_shaped
abbrev Sm := @Go.DataW.trod_struct
abbrev TO := @Go.Lib.tabIs_of_head
abbrev TR := @Go.MakeChecks.laidMetH_plain
abbrev VY := @Go.OpenClaim.holds_of_wide
abbrev Vq := @Go.Proofs.Tryz.underlying116
abbrev Vr := @Go.Proofs.Tryz.underlying118
abbrev Vs := @Go.Proofs.Tryz.underlying120
abbrev Vt := @Go.Proofs.Tryz.underlying127
abbrev Vu := @Go.Proofs.Tryz.underlying140
abbrev TS := @Go.Proofs.Tryz.underlying214
abbrev VB := @Go.Proofs.Tryz.underlying22
abbrev VC := @Go.Proofs.Tryz.underlying23
abbrev VD := @Go.Proofs.Tryz.underlying24
abbrev VE := @Go.Proofs.Tryz.underlying25
abbrev VF := @Go.Proofs.Tryz.underlying26
abbrev VG := @Go.Proofs.Tryz.underlying27
abbrev VH := @Go.Proofs.Tryz.underlying29
abbrev R4 := @Go.Proofs.Tryz.underlying3
abbrev VI := @Go.Proofs.Tryz.underlying30
abbrev Vv := @Go.Proofs.Tryz.underlying306
abbrev T3 := @Go.Proofs.Tryz.underlying32
abbrev TT := @Go.Proofs.Tryz.underlying323
abbrev TU := @Go.Proofs.Tryz.underlying325
abbrev Vw := @Go.Proofs.Tryz.underlying326
abbrev Vx := @Go.Proofs.Tryz.underlying327
abbrev T4 := @Go.Proofs.Tryz.underlying33
abbrev T5 := @Go.Proofs.Tryz.underlying34
abbrev S5 := @Go.Proofs.Tryz.underlying4
abbrev VJ := @Go.Proofs.Tryz.underlying46
abbrev Ua := @Go.Proofs.Tryz.underlying5
abbrev VK := @Go.Proofs.Tryz.underlying56
abbrev VL := @Go.Proofs.Tryz.underlying71
abbrev VM := @Go.Proofs.Tryz.underlying73
abbrev VN := @Go.Proofs.Tryz.underlying76
abbrev R5 := @Go.Proofs.Tryz.underlying9
abbrev W6 := @Go.World.laidAll_os
abbrev Ws := @Go.World.shaped_of_ZipB
abbrev T7 := @Go.laidMet.tail
abbrev Xi := @Go.laidMet_laidAll
abbrev Vl := @Go.laid_sentinel
abbrev U_ := @Go.returnsInHanded_of_change_and
abbrev WU := @Go.typeName_ptr_named
end Go.Sim
namespace Go.Sim
open Go Go.RowKit Go.ChangeShapes Go.WideShapes Go.ChangeAt
open _root_.Go.IntKind (i64 u64 u32 u8)
theorem xT:ownKnob Proofs.Tryz.prog.godebug=none:=by kernel_rfl
theorem wu:laidOutB Proofs.Tryz.prog=true:=by kernel_rfl
instance:Ok aX:=⟨λx=>ok x.Name/\ok x.A/\ok x.B_/\ok x.uS/\ok x.Open⟩
instance:Ok aS:=⟨λx=>ok x.Name/\ok x.qD/\ok x.To/\ok x.X/\ok x.B6/\ok x.Shift/\ok x.tI/\ok x.wZ/\ok x.B1⟩
instance:Ok bK:=⟨λx=>ok x.Name/\ok x.Node/\ok x.kB/\ok x.rB/\ok x.Bi⟩
instance:Ok aI:=⟨λx=>ok x.Name/\ok x.Node/\ok x.dY⟩
instance:Ok bW:=⟨λx=>ok x.Name/\ok x.Node/\ok x.sf/\ok x.Discharge/\ok x.s6⟩
instance:Ok aG:=⟨λx=>ok x.bP/\ok x.aT/\ok x.aL/\ok x.dI/\ok x.bM/\ok x.cB⟩
instance:Ok bE:=⟨λx=>ok x.Kind/\ok x.Name/\ok x.A/\ok x.B_⟩
instance:Ok aR:=⟨λx=>ok x.Close/\ok x.Switch/\ok x.um⟩
instance:Ok aN:=⟨λx=>ok x.bN/\ok x.jO⟩
instance:Ok aB:=⟨λx=>ok x.Time/\ok x.Kind/\ok x.Name/\ok x.Value⟩
theorem yj:eF Proofs.Tryz.prog 22 (List RU):=cU VB (by kernel_rfl) rfl (bA R5)
theorem wR:eF Proofs.Tryz.prog 127 aX:=by
 intro Hd enc w Y cs d h;obtain ⟨xs,n,rfl,rfl,hl,I,J⟩:=Sm Vt h;obtain ⟨x0,Z,o0⟩:=aD (α:=RU) I J 0 (o:=0) rfl rfl (by kernel_rfl) (bA R5)
 obtain ⟨x1,e1,o1⟩:=aD (α:=RU) I J 1 (o:=1) rfl rfl (by kernel_rfl) (bA R5)
 obtain ⟨x2,e2,o2⟩:=aD (α:=RU) I J 2 (o:=2) rfl rfl (by kernel_rfl) (bA R5)
 obtain ⟨x3,e3,o3⟩:=aD (α:=Bool) I J 3 (o:=3) rfl rfl (by kernel_rfl) (od S5)
 obtain ⟨x4,e4,o4⟩:=aD (α:=Bool) I J 4 (o:=4) rfl rfl (by kernel_rfl) (od S5)
 exact ⟨⟨x0,x1,x2,x3,x4⟩,piece (o:=0) Z (by rfl) (piece (o:=1) e1 (by rfl) (piece (o:=2) e2 (by rfl) (piece (o:=3) e3 (by rfl) (piece (o:=4) e4 (by rfl) (dZ hl (by kernel_rfl)))))),⟨o0,o1,o2,o3,o4⟩⟩
theorem yk:eF Proofs.Tryz.prog 23 (List aX):=cU VC (by kernel_rfl) rfl wR
theorem wO:eF Proofs.Tryz.prog 116 aS:=by
 intro Hd enc w Y cs d h;obtain ⟨xs,n,rfl,rfl,hl,I,J⟩:=Sm Vq h;obtain ⟨x0,Z,o0⟩:=aD (α:=RU) I J 0 (o:=0) rfl rfl (by kernel_rfl) (bA R5)
 obtain ⟨x1,e1,o1⟩:=aD (α:=RU) I J 1 (o:=1) rfl rfl (by kernel_rfl) (bA R5)
 obtain ⟨x2,e2,o2⟩:=aD (α:=RU) I J 2 (o:=2) rfl rfl (by kernel_rfl) (bA R5)
 obtain ⟨x3,e3,o3⟩:=aD (α:=Int) I J 3 (o:=3) rfl rfl (by kernel_rfl) (bR R4)
 obtain ⟨x4,e4,o4⟩:=aD (α:=Int) I J 4 (o:=4) rfl rfl (by kernel_rfl) (bR R4)
 obtain ⟨x5,e5,o5⟩:=aD (α:=Int) I J 5 (o:=5) rfl rfl (by kernel_rfl) (bR R4)
 obtain ⟨x6,e6,o6⟩:=aD (α:=Int) I J 6 (o:=6) rfl rfl (by kernel_rfl) (bR R4)
 obtain ⟨x7,e7,o7⟩:=aD (α:=Int) I J 7 (o:=7) rfl rfl (by kernel_rfl) (bR R4)
 obtain ⟨x8,e8,o8⟩:=aD (α:=Int) I J 8 (o:=8) rfl rfl (by kernel_rfl) (bR R4)
 exact ⟨⟨x0,x1,x2,x3,x4,x5,x6,x7,x8⟩,piece (o:=0) Z (by rfl) (piece (o:=1) e1 (by rfl) (piece (o:=2) e2 (by rfl) (piece (o:=3) e3 (by rfl) (piece (o:=4) e4 (by rfl) (piece (o:=5) e5 (by rfl) (piece (o:=6) e6 (by rfl) (piece (o:=7) e7 (by rfl) (piece (o:=8) e8 (by rfl) (dZ hl (by kernel_rfl)))))))))),⟨o0,o1,o2,o3,o4,o5,o6,o7,o8⟩⟩
theorem yl:eF Proofs.Tryz.prog 24 (List aS):=cU VD (by kernel_rfl) rfl wO
theorem wP:eF Proofs.Tryz.prog 118 bK:=by
 intro Hd enc w Y cs d h;obtain ⟨xs,n,rfl,rfl,hl,I,J⟩:=Sm Vr h;obtain ⟨x0,Z,o0⟩:=aD (α:=RU) I J 0 (o:=0) rfl rfl (by kernel_rfl) (bA R5)
 obtain ⟨x1,e1,o1⟩:=aD (α:=RU) I J 1 (o:=1) rfl rfl (by kernel_rfl) (bA R5)
 obtain ⟨x2,e2,o2⟩:=aD (α:=Int) I J 2 (o:=2) rfl rfl (by kernel_rfl) (bR R4)
 obtain ⟨x3,e3,o3⟩:=aD (α:=Int) I J 3 (o:=3) rfl rfl (by kernel_rfl) (bR R4)
 obtain ⟨x4,e4,o4⟩:=aD (α:=Int) I J 4 (o:=4) rfl rfl (by kernel_rfl) (bR R4)
 exact ⟨⟨x0,x1,x2,x3,x4⟩,piece (o:=0) Z (by rfl) (piece (o:=1) e1 (by rfl) (piece (o:=2) e2 (by rfl) (piece (o:=3) e3 (by rfl) (piece (o:=4) e4 (by rfl) (dZ hl (by kernel_rfl)))))),⟨o0,o1,o2,o3,o4⟩⟩
theorem ym:eF Proofs.Tryz.prog 25 (List bK):=cU VE (by kernel_rfl) rfl wP
theorem wQ:eF Proofs.Tryz.prog 120 aI:=by
 intro Hd enc w Y cs d h;obtain ⟨xs,n,rfl,rfl,hl,I,J⟩:=Sm Vs h;obtain ⟨x0,Z,o0⟩:=aD (α:=RU) I J 0 (o:=0) rfl rfl (by kernel_rfl) (bA R5)
 obtain ⟨x1,e1,o1⟩:=aD (α:=RU) I J 1 (o:=1) rfl rfl (by kernel_rfl) (bA R5)
 obtain ⟨x2,e2,o2⟩:=aD (α:=Int) I J 2 (o:=2) rfl rfl (by kernel_rfl) (bR R4)
 exact ⟨⟨x0,x1,x2⟩,piece (o:=0) Z (by rfl) (piece (o:=1) e1 (by rfl) (piece (o:=2) e2 (by rfl) (dZ hl (by kernel_rfl)))),⟨o0,o1,o2⟩⟩
theorem yn:eF Proofs.Tryz.prog 26 (List aI):=cU VF (by kernel_rfl) rfl wQ
theorem wS:eF Proofs.Tryz.prog 140 bW:=by
 intro Hd enc w Y cs d h;obtain ⟨xs,n,rfl,rfl,hl,I,J⟩:=Sm Vu h;obtain ⟨x0,Z,o0⟩:=aD (α:=RU) I J 0 (o:=0) rfl rfl (by kernel_rfl) (bA R5)
 obtain ⟨x1,e1,o1⟩:=aD (α:=RU) I J 1 (o:=1) rfl rfl (by kernel_rfl) (bA R5)
 obtain ⟨x2,e2,o2⟩:=aD (α:=Int) I J 2 (o:=2) rfl rfl (by kernel_rfl) (bR R4)
 obtain ⟨x3,e3,o3⟩:=aD (α:=Int) I J 3 (o:=3) rfl rfl (by kernel_rfl) (bR R4)
 obtain ⟨x4,e4,o4⟩:=aD (α:=Int) I J 4 (o:=4) rfl rfl (by kernel_rfl) (bR R4)
 exact ⟨⟨x0,x1,x2,x3,x4⟩,piece (o:=0) Z (by rfl) (piece (o:=1) e1 (by rfl) (piece (o:=2) e2 (by rfl) (piece (o:=3) e3 (by rfl) (piece (o:=4) e4 (by rfl) (dZ hl (by kernel_rfl)))))),⟨o0,o1,o2,o3,o4⟩⟩
theorem yo:eF Proofs.Tryz.prog 27 (List bW):=cU VG (by kernel_rfl) rfl wS
theorem yp:eF Proofs.Tryz.prog 29 aG:=by
 intro Hd enc w fuel cs d h;obtain ⟨xs,n,rfl,rfl,hl,I,J⟩:=Sm VH h;obtain ⟨x0,⟨v0_0,e0,Y⟩,o0⟩:=aD (α:=(List RU)) I J 0 (o:=0) rfl rfl (by kernel_rfl) yj
 obtain ⟨x1,⟨v1_0,e1,Z⟩,o1⟩:=aD (α:=(List aX)) I J 1 (o:=1) rfl rfl (by kernel_rfl) yk
 obtain ⟨x2,⟨v2_0,e2,h2_0⟩,o2⟩:=aD (α:=(List aS)) I J 2 (o:=2) rfl rfl (by kernel_rfl) yl
 obtain ⟨x3,⟨v3_0,e3,h3_0⟩,o3⟩:=aD (α:=(List bK)) I J 3 (o:=3) rfl rfl (by kernel_rfl) ym
 obtain ⟨x4,⟨v4_0,e4,h4_0⟩,o4⟩:=aD (α:=(List aI)) I J 4 (o:=4) rfl rfl (by kernel_rfl) yn
 obtain ⟨x5,⟨v5_0,e5,h5_0⟩,o5⟩:=aD (α:=(List bW)) I J 5 (o:=5) rfl rfl (by kernel_rfl) yo
 exact ⟨⟨x0,x1,x2,x3,x4,x5⟩,⟨v0_0,v1_0,v2_0,v3_0,v4_0,v5_0,piece (o:=0) e0 (by rfl) (piece (o:=1) e1 (by rfl) (piece (o:=2) e2 (by rfl) (piece (o:=3) e3 (by rfl) (piece (o:=4) e4 (by rfl) (piece (o:=5) e5 (by rfl) (dZ hl (by kernel_rfl))))))),Y,Z,h2_0,h3_0,h4_0,h5_0⟩,⟨o0,o1,o2,o3,o4,o5⟩⟩
theorem yz:eF Proofs.Tryz.prog 76 bE:=by
 intro Hd enc w Y cs d h;obtain ⟨xs,n,rfl,rfl,hl,I,J⟩:=Sm VN h;obtain ⟨x0,Z,o0⟩:=aD (α:=Int) I J 0 (o:=0) rfl rfl (by kernel_rfl) (bR R4)
 obtain ⟨x1,e1,o1⟩:=aD (α:=RU) I J 1 (o:=1) rfl rfl (by kernel_rfl) (bA R5)
 obtain ⟨x2,e2,o2⟩:=aD (α:=Int) I J 2 (o:=2) rfl rfl (by kernel_rfl) (bR R4)
 obtain ⟨x3,e3,o3⟩:=aD (α:=Int) I J 3 (o:=3) rfl rfl (by kernel_rfl) (bR R4)
 exact ⟨⟨x0,x1,x2,x3⟩,piece (o:=0) Z (by rfl) (piece (o:=1) e1 (by rfl) (piece (o:=2) e2 (by rfl) (piece (o:=3) e3 (by rfl) (dZ hl (by kernel_rfl))))),⟨o0,o1,o2,o3⟩⟩
theorem yx:eF Proofs.Tryz.prog 71 (List bE):=cU VL (by kernel_rfl) rfl yz
theorem yy:eF Proofs.Tryz.prog 73 aR:=by
 intro Hd enc w fuel cs d h;obtain ⟨xs,n,rfl,rfl,hl,I,Z⟩:=Sm VM h;obtain ⟨x0,e0,o0⟩:=aD (α:=Bool) I Z 0 (o:=0) rfl rfl (by kernel_rfl) (od S5)
 obtain ⟨x1,e1,o1⟩:=aD (α:=RU) I Z 1 (o:=1) rfl rfl (by kernel_rfl) (bA R5)
 obtain ⟨x2,⟨Y,e2,J⟩,o2⟩:=aD (α:=(List bE)) I Z 2 (o:=2) rfl rfl (by kernel_rfl) yx
 exact ⟨⟨x0,x1,x2⟩,⟨Y,piece (o:=0) e0 (by rfl) (piece (o:=1) e1 (by rfl) (piece (o:=2) e2 (by rfl) (dZ hl (by kernel_rfl)))),J⟩,⟨o0,o1,o2⟩⟩
theorem yq:eF Proofs.Tryz.prog 30 (List aR):=cU VI (by kernel_rfl) rfl yy
theorem yt:eF Proofs.Tryz.prog 32 aN:=by
 intro Hd enc w fuel cs d h;obtain ⟨xs,n,rfl,rfl,hl,I,hf⟩:=Sm T3 h;obtain ⟨x0,⟨v0_0,v0_1,v0_2,v0_3,v0_4,v0_5,e0,J,Y,Z,h0_3,h0_4,h0_5⟩,o0⟩:=aD (α:=aG) I hf 0 (o:=0) rfl rfl (by kernel_rfl) yp
 obtain ⟨x1,⟨v1_0,e1,h1_0⟩,o1⟩:=aD (α:=(List aR)) I hf 1 (o:=6) rfl rfl (by kernel_rfl) yq
 exact ⟨⟨x0,x1⟩,⟨v0_0,v0_1,v0_2,v0_3,v0_4,v0_5,v1_0,piece (o:=0) e0 (by rfl) (piece (o:=6) e1 (by rfl) (dZ hl (by kernel_rfl))),J,Y,Z,h0_3,h0_4,h0_5,h1_0⟩,⟨o0,o1⟩⟩
theorem yw:eF Proofs.Tryz.prog 46 aB:=by
 intro Hd enc w Y cs d h;obtain ⟨xs,n,rfl,rfl,hl,I,J⟩:=Sm VJ h;obtain ⟨x0,Z,o0⟩:=aD (α:=Int) I J 0 (o:=0) rfl rfl (by kernel_rfl) (bR R4)
 obtain ⟨x1,e1,o1⟩:=aD (α:=RU) I J 1 (o:=1) rfl rfl (by kernel_rfl) (bA R5)
 obtain ⟨x2,e2,o2⟩:=aD (α:=RU) I J 2 (o:=2) rfl rfl (by kernel_rfl) (bA R5)
 obtain ⟨x3,e3,o3⟩:=aD (α:=Int) I J 3 (o:=3) rfl rfl (by kernel_rfl) (bR R4)
 exact ⟨⟨x0,x1,x2,x3⟩,piece (o:=0) Z (by rfl) (piece (o:=1) e1 (by rfl) (piece (o:=2) e2 (by rfl) (piece (o:=3) e3 (by rfl) (dZ hl (by kernel_rfl))))),⟨o0,o1,o2,o3⟩⟩
theorem yu:eF Proofs.Tryz.prog 33 (List aB):=cU T4 (by kernel_rfl) rfl yw
theorem yv:eF Proofs.Tryz.prog 34 (List Int):=cU T5 (by kernel_rfl) rfl (bR R4)
theorem Ac {W:World} (Y:laidMetH Proofs.Tryz.prog Proofs.YtpapfdodclhffaaGreatDoor.Rows.secondSettlesRow.laid W):vH W.heap.size W:=by
 rw [TR _ _ _ (by kernel_rfl)] at Y
 have t4:Lib.TabIs Proofs.Tryz.prog W "math/bits.deBruijn32tab" .u8 Nd:=TO QG (by kernel_rfl:(Proofs.Tryz.prog.globals[4]?).map (·.type)=some 326) Vw Ua (by kernel_rfl) (by kernel_rfl) (show laidMet Proofs.Tryz.prog (("math/bits.deBruijn32tab", Lib.tabData .u8 Nd)::_) W from Y)
 have h1:=T7 Y;have t5:Lib.TabIs Proofs.Tryz.prog W "math/bits.deBruijn64tab" .u8 Nf:=TO Om (by kernel_rfl:(Proofs.Tryz.prog.globals[5]?).map (·.type)=some 327) Vx Ua (by kernel_rfl) (by kernel_rfl) (show laidMet Proofs.Tryz.prog (("math/bits.deBruijn64tab", Lib.tabData .u8 Nf)::_) W from h1)
 have h2:=T7 h1;have t3:Lib.TabIs Proofs.Tryz.prog W "internal/strconv.uint64pow10" .u64 LA:=TO PD (by kernel_rfl:(Proofs.Tryz.prog.globals[3]?).map (·.type)=some 306) Vv VK (by kernel_rfl) (by kernel_rfl) (show laidMet Proofs.Tryz.prog (("internal/strconv.uint64pow10", Lib.tabData .u64 LA)::_) W from h2)
 have Z:=T7 h2;have J: "*" ++ "errors.errorString" = "*errors.errorString" := by decide
 have I:∀ u,Proofs.Tryz.prog.typeName? 3 u=some "*errors.errorString" -> u=323:=λu h=>WU (nm:= "errors.errorString") (by rw [J]; kernel_rfl) (by kernel_rfl) (by decide) u (by rw [J]; exact h)
 obtain ⟨a2,s2,e2,-⟩:=Vl Z QF (by kernel_rfl:(Proofs.Tryz.prog.globals[2]?).map (·.type)=some 214) TS I TT TU rfl rfl R5 (by kernel_rfl) (by kernel_rfl)
 have h4:=T7 Z;obtain ⟨a1,s1,e1,-⟩:=Vl h4 QE (by kernel_rfl:(Proofs.Tryz.prog.globals[1]?).map (·.type)=some 214) TS I TT TU rfl rfl R5 (by kernel_rfl) (by kernel_rfl)
 exact { lt:=FT Om t5,t4:=t4,t5:=t5,t3:=t3,e2:=⟨_,_,e2⟩,e1:=⟨_,_,e1⟩ }
set_option maxRecDepth 100000 in
theorem yY (hp:∀ (x0:aN) (x1:(List aB)) (x2:(List Int)),ok x0->ok x1->ok x2->gR x0 x1 x2=some true) (os:Os) (J:os.Started) (Hd:Type) (enc:TypeId×RV->Hd):
  ReturnsInHanded {} Proofs.Tryz.checked os 5 .any (λw args=>(Proofs.YtpapfdodclhffaaGreatDoor.Rows.secondSettlesSpec.pre enc Proofs.Tryz.prog Proofs.Tryz.f5 Proofs.YtpapfdodclhffaaGreatDoor.Rows.secondSettlesRow.domain false w args/\laidMetH Proofs.Tryz.prog Proofs.YtpapfdodclhffaaGreatDoor.Rows.secondSettlesRow.laid w)/\sizedMet enc Proofs.Tryz.prog Proofs.Tryz.f5 (OpenSpec.ofChange Proofs.YtpapfdodclhffaaGreatDoor.Rows.secondSettlesSpec) false w args) (Proofs.YtpapfdodclhffaaGreatDoor.Rows.secondSettlesSpec.post enc Proofs.Tryz.prog Proofs.Tryz.f5 false true false false):=by
 refine U_ (C:=Proofs.Tryz.checked) (X:=λw _=>laidMetH Proofs.Tryz.prog Proofs.YtpapfdodclhffaaGreatDoor.Rows.secondSettlesRow.laid w) (λ_ _ _ hh h=>h.of_heap hh) xT J (by kernel_rfl) Proofs.Tryz.func5
  (Vo (enc:=enc) (C:=Proofs.Tryz.checked) (os:=os) (X:=λw _=>laidMetH Proofs.Tryz.prog Proofs.YtpapfdodclhffaaGreatDoor.Rows.secondSettlesRow.laid w) false (World.laidAll Proofs.Tryz.prog os Proofs.YtpapfdodclhffaaGreatDoor.Rows.secondSettlesRow.laid) #[.agg #[.slice none 0 0,.slice none 0 0,.slice none 0 0,.slice none 0 0,.slice none 0 0,.slice none 0 0,.slice none 0 0],.slice none 0 0,.slice none 0 0] 8 (W6 _ _ _)
   (Ws (by kernel_rfl) (by kernel_rfl)) (by kernel_rfl) (by kernel_rfl) (by kernel_rfl)
   (by rw [TR _ _ _ (by kernel_rfl)]; exact Xi _ (by kernel_rfl) (by kernel_rfl))) ?_
 intro W base args ds gs Y Z hW hcnd _ hL _;have I:∀ (j:Nat) t v,Proofs.Tryz.f5.params[j]? = some t->args[j]? = some v->Value.okWide Proofs.Tryz.prog W .any base t v:=Z
 haveI:vH W.heap.size W:=Ac hL
 have hW2:DataW.Whole enc Proofs.Tryz.prog Proofs.Tryz.f5.params.toList Proofs.YtpapfdodclhffaaGreatDoor.Rows.secondSettlesSpec.vars false W args.toList ds gs Y:=hW;obtain ⟨p,q,hA0,hV,rfl,hfz,hnd⟩:=hW;have hA:DataW.TrodAll enc Proofs.Tryz.prog W 0 (λ_=>true) true Proofs.Tryz.f5.params.toList args.toList ds p:=hA0;rw [Proofs.Tryz.params5] at hA I;obtain ⟨v0,vs0,d0,ds0,p0,q0,hargs,rfl,rfl,h0,r0⟩:=trodAll_cons hA;obtain ⟨v1,vs1,d1,ds1,p1,q1,rfl,rfl,rfl,h1,r1⟩:=trodAll_cons r0;obtain ⟨v2,vs2,d2,ds2,p2,q2,rfl,rfl,rfl,h2,r2⟩:=trodAll_cons r1
 obtain ⟨rfl,rfl,rfl⟩:=trodAll_nil r2;obtain rfl:args=#[v0,v1,v2]:=by cases args; simp_all
 obtain ⟨x0,cs0,rfl,⟨v0_0,v0_1,v0_2,v0_3,v0_4,v0_5,v0_6,rfl,e0_0,e0_1,e0_2,e0_3,e0_4,e0_5,e0_6⟩,ok0⟩:=xQ T3 yt (I 0 32 v0 rfl rfl) h0;obtain ⟨x1,e1,ok1⟩:=tM T4 yu (I 1 33 v1 rfl rfl) h1;obtain ⟨x2,e2,ok2⟩:=tM T5 yv (I 2 34 v2 rfl rfl) h2;have hc:=ur (hp x0 x1 x2 ok0 ok1 ok2) e0_0 e0_1 e0_2 e0_3 e0_4 e0_5 e0_6 e1 e2 (St.begin W);refine hc.mono λe W' h=>?_;cases e with
 | returned v=>
  obtain ⟨H',M',hst,hphi⟩:=h;obtain ⟨_,_,rfl⟩:=hphi;exact ⟨_,rfl,AX wu rfl rfl S5 (by kernel_rfl) hW2 (λ_=>rfl) hst.below⟩
 | _=>exact h.elim
theorem AK (hp:∀ (J:aN) (Y:(List aB)) (Z:(List Int)),ok J->ok Y->ok Z->gR J Y Z=some true):Proofs.YtpapfdodclhffaaGreatDoor.Rows.SecondSettlesSaid:=
 VY 5 Proofs.Tryz.f5 rfl rfl rfl rfl rfl rfl rfl ⟨rfl,rfl,rfl,rfl,rfl⟩ rfl rfl rfl rfl rfl (by kernel_rfl) Proofs.Tryz.func5 (by kernel_rfl)
  (R7 (by kernel_rfl)) (by unfold Func.isWrapper; first | (rw [R9 (by decide +kernel)]; kernel_rfl) | (rw [R8 (by decide +kernel)]; exact ⟨rfl,rfl⟩))
  (λos I H enc _=>yY hp os I H enc)
end Go.Sim
