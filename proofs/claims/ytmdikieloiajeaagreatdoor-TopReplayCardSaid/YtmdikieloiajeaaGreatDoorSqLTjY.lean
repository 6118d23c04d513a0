/-
  The law of TjY.
-/
import Derived.OpenShut
import Derived.HandedShaped
import Derived.Handed
import Derived.Lay
import Derived.LaidByTextLater
import Derived.Stop.LaidErr
import Derived.Test.YtmdikieloiajeaaGreatDoorSqC4
set_option linter.unusedVariables false
set_option linter.unusedSimpArgs false
set_option linter.unusedSectionVars false
set_option linter.unnecessarySimpa false
namespace Go.Sim
abbrev TR := @Go.DataW.trod_struct
abbrev SH := @Go.Proofs.Tryz.underlying3
abbrev U6 := @Go.Proofs.Tryz.underlying4
abbrev SD := @Go.Proofs.Tryz.underlying9
abbrev VQ := @Go.laidMet.tail
end Go.Sim
namespace Go.Sim
open Go Go.RowKit Go.ChangeShapes Go.WideShapes Go.ChangeAt
open _root_.Go.IntKind (i64 u64 u32 u8)
theorem MC:ownKnob Proofs.Tryz.prog.godebug=none:=by kernel_rfl
theorem KV:laidOutB Proofs.Tryz.prog=true:=by kernel_rfl
instance:Ok aZ:=⟨λx=>ok x.Name/\ok x.A/\ok x.B_/\ok x.xo/\ok x.Open⟩
instance:Ok aQ:=⟨λx=>ok x.Name/\ok x.qe/\ok x.To/\ok x.X/\ok x.C1/\ok x.Shift/\ok x.uu/\ok x.yh/\ok x.DR⟩
instance:Ok bH:=⟨λx=>ok x.Name/\ok x.Node/\ok x.jC/\ok x.rr/\ok x.C5⟩
instance:Ok aH:=⟨λx=>ok x.Name/\ok x.Node/\ok x.c_⟩
instance:Ok cJ:=⟨λx=>ok x.Name/\ok x.Node/\ok x.sZ/\ok x.Discharge/\ok x.vz⟩
instance:Ok aD:=⟨λx=>ok x.bF/\ok x.aO/\ok x.aJ/\ok x.dS/\ok x.bE/\ok x.bW⟩
instance:Ok bM:=⟨λx=>ok x.Kind/\ok x.Name/\ok x.A/\ok x.B_⟩
instance:Ok bA:=⟨λx=>ok x.Close/\ok x.Switch/\ok x.xT⟩
instance:Ok cK:=⟨λx=>ok x.bU/\ok x.pL⟩
instance:Ok aE:=⟨λx=>ok x.Time/\ok x.Kind/\ok x.Name/\ok x.Value⟩
theorem No:pG Proofs.Tryz.prog 22 (List RI):=pC Proofs.Tryz.underlying22 (by kernel_rfl) rfl (fO SD)
theorem LM:pG Proofs.Tryz.prog 111 aZ:=by
 intro Hd enc w Y cs d h;obtain ⟨xs,n,rfl,rfl,hl,I,J⟩:=TR Proofs.Tryz.underlying111 h;obtain ⟨x0,Z,o0⟩:=bP (α:=RI) I J 0 (o:=0) rfl rfl (by kernel_rfl) (fO SD)
 obtain ⟨x1,e1,o1⟩:=bP (α:=RI) I J 1 (o:=1) rfl rfl (by kernel_rfl) (fO SD)
 obtain ⟨x2,e2,o2⟩:=bP (α:=RI) I J 2 (o:=2) rfl rfl (by kernel_rfl) (fO SD)
 obtain ⟨x3,e3,o3⟩:=bP (α:=Bool) I J 3 (o:=3) rfl rfl (by kernel_rfl) (zH U6)
 obtain ⟨x4,e4,o4⟩:=bP (α:=Bool) I J 4 (o:=4) rfl rfl (by kernel_rfl) (zH U6)
 exact ⟨⟨x0,x1,x2,x3,x4⟩,piece (o:=0) Z (by rfl) (piece (o:=1) e1 (by rfl) (piece (o:=2) e2 (by rfl) (piece (o:=3) e3 (by rfl) (piece (o:=4) e4 (by rfl) (qY hl (by kernel_rfl)))))),⟨o0,o1,o2,o3,o4⟩⟩
theorem Np:pG Proofs.Tryz.prog 23 (List aZ):=pC Proofs.Tryz.underlying23 (by kernel_rfl) rfl LM
theorem LN:pG Proofs.Tryz.prog 114 aQ:=by
 intro Hd enc w Y cs d h;obtain ⟨xs,n,rfl,rfl,hl,I,J⟩:=TR Proofs.Tryz.underlying114 h;obtain ⟨x0,Z,o0⟩:=bP (α:=RI) I J 0 (o:=0) rfl rfl (by kernel_rfl) (fO SD)
 obtain ⟨x1,e1,o1⟩:=bP (α:=RI) I J 1 (o:=1) rfl rfl (by kernel_rfl) (fO SD)
 obtain ⟨x2,e2,o2⟩:=bP (α:=RI) I J 2 (o:=2) rfl rfl (by kernel_rfl) (fO SD)
 obtain ⟨x3,e3,o3⟩:=bP (α:=Int) I J 3 (o:=3) rfl rfl (by kernel_rfl) (kC SH)
 obtain ⟨x4,e4,o4⟩:=bP (α:=Int) I J 4 (o:=4) rfl rfl (by kernel_rfl) (kC SH)
 obtain ⟨x5,e5,o5⟩:=bP (α:=Int) I J 5 (o:=5) rfl rfl (by kernel_rfl) (kC SH)
 obtain ⟨x6,e6,o6⟩:=bP (α:=Int) I J 6 (o:=6) rfl rfl (by kernel_rfl) (kC SH)
 obtain ⟨x7,e7,o7⟩:=bP (α:=Int) I J 7 (o:=7) rfl rfl (by kernel_rfl) (kC SH)
 obtain ⟨x8,e8,o8⟩:=bP (α:=Int) I J 8 (o:=8) rfl rfl (by kernel_rfl) (kC SH)
 exact ⟨⟨x0,x1,x2,x3,x4,x5,x6,x7,x8⟩,piece (o:=0) Z (by rfl) (piece (o:=1) e1 (by rfl) (piece (o:=2) e2 (by rfl) (piece (o:=3) e3 (by rfl) (piece (o:=4) e4 (by rfl) (piece (o:=5) e5 (by rfl) (piece (o:=6) e6 (by rfl) (piece (o:=7) e7 (by rfl) (piece (o:=8) e8 (by rfl) (qY hl (by kernel_rfl)))))))))),⟨o0,o1,o2,o3,o4,o5,o6,o7,o8⟩⟩
theorem Nq:pG Proofs.Tryz.prog 24 (List aQ):=pC Proofs.Tryz.underlying24 (by kernel_rfl) rfl LN
theorem LO:pG Proofs.Tryz.prog 117 bH:=by
 intro Hd enc w Y cs d h;obtain ⟨xs,n,rfl,rfl,hl,I,J⟩:=TR Proofs.Tryz.underlying117 h;obtain ⟨x0,Z,o0⟩:=bP (α:=RI) I J 0 (o:=0) rfl rfl (by kernel_rfl) (fO SD)
 obtain ⟨x1,e1,o1⟩:=bP (α:=RI) I J 1 (o:=1) rfl rfl (by kernel_rfl) (fO SD)
 obtain ⟨x2,e2,o2⟩:=bP (α:=Int) I J 2 (o:=2) rfl rfl (by kernel_rfl) (kC SH)
 obtain ⟨x3,e3,o3⟩:=bP (α:=Int) I J 3 (o:=3) rfl rfl (by kernel_rfl) (kC SH)
 obtain ⟨x4,e4,o4⟩:=bP (α:=Int) I J 4 (o:=4) rfl rfl (by kernel_rfl) (kC SH)
 exact ⟨⟨x0,x1,x2,x3,x4⟩,piece (o:=0) Z (by rfl) (piece (o:=1) e1 (by rfl) (piece (o:=2) e2 (by rfl) (piece (o:=3) e3 (by rfl) (piece (o:=4) e4 (by rfl) (qY hl (by kernel_rfl)))))),⟨o0,o1,o2,o3,o4⟩⟩
theorem Nr:pG Proofs.Tryz.prog 25 (List bH):=pC Proofs.Tryz.underlying25 (by kernel_rfl) rfl LO
theorem LP:pG Proofs.Tryz.prog 120 aH:=by
 intro Hd enc w Y cs d h;obtain ⟨xs,n,rfl,rfl,hl,I,J⟩:=TR Proofs.Tryz.underlying120 h;obtain ⟨x0,Z,o0⟩:=bP (α:=RI) I J 0 (o:=0) rfl rfl (by kernel_rfl) (fO SD)
 obtain ⟨x1,e1,o1⟩:=bP (α:=RI) I J 1 (o:=1) rfl rfl (by kernel_rfl) (fO SD)
 obtain ⟨x2,e2,o2⟩:=bP (α:=Int) I J 2 (o:=2) rfl rfl (by kernel_rfl) (kC SH)
 exact ⟨⟨x0,x1,x2⟩,piece (o:=0) Z (by rfl) (piece (o:=1) e1 (by rfl) (piece (o:=2) e2 (by rfl) (qY hl (by kernel_rfl)))),⟨o0,o1,o2⟩⟩
theorem Ns:pG Proofs.Tryz.prog 26 (List aH):=pC Proofs.Tryz.underlying26 (by kernel_rfl) rfl LP
theorem LQ:pG Proofs.Tryz.prog 123 cJ:=by
 intro Hd enc w Y cs d h;obtain ⟨xs,n,rfl,rfl,hl,I,J⟩:=TR Proofs.Tryz.underlying123 h;obtain ⟨x0,Z,o0⟩:=bP (α:=RI) I J 0 (o:=0) rfl rfl (by kernel_rfl) (fO SD)
 obtain ⟨x1,e1,o1⟩:=bP (α:=RI) I J 1 (o:=1) rfl rfl (by kernel_rfl) (fO SD)
 obtain ⟨x2,e2,o2⟩:=bP (α:=Int) I J 2 (o:=2) rfl rfl (by kernel_rfl) (kC SH)
 obtain ⟨x3,e3,o3⟩:=bP (α:=Int) I J 3 (o:=3) rfl rfl (by kernel_rfl) (kC SH)
 obtain ⟨x4,e4,o4⟩:=bP (α:=Int) I J 4 (o:=4) rfl rfl (by kernel_rfl) (kC SH)
 exact ⟨⟨x0,x1,x2,x3,x4⟩,piece (o:=0) Z (by rfl) (piece (o:=1) e1 (by rfl) (piece (o:=2) e2 (by rfl) (piece (o:=3) e3 (by rfl) (piece (o:=4) e4 (by rfl) (qY hl (by kernel_rfl)))))),⟨o0,o1,o2,o3,o4⟩⟩
theorem Nt:pG Proofs.Tryz.prog 27 (List cJ):=pC Proofs.Tryz.underlying27 (by kernel_rfl) rfl LQ
theorem Nu:pG Proofs.Tryz.prog 29 aD:=by
 intro Hd enc w fuel cs d h;obtain ⟨xs,n,rfl,rfl,hl,I,J⟩:=TR Proofs.Tryz.underlying29 h;obtain ⟨x0,⟨v0_0,e0,Y⟩,o0⟩:=bP (α:=(List RI)) I J 0 (o:=0) rfl rfl (by kernel_rfl) No
 obtain ⟨x1,⟨v1_0,e1,Z⟩,o1⟩:=bP (α:=(List aZ)) I J 1 (o:=1) rfl rfl (by kernel_rfl) Np
 obtain ⟨x2,⟨v2_0,e2,h2_0⟩,o2⟩:=bP (α:=(List aQ)) I J 2 (o:=2) rfl rfl (by kernel_rfl) Nq
 obtain ⟨x3,⟨v3_0,e3,h3_0⟩,o3⟩:=bP (α:=(List bH)) I J 3 (o:=3) rfl rfl (by kernel_rfl) Nr
 obtain ⟨x4,⟨v4_0,e4,h4_0⟩,o4⟩:=bP (α:=(List aH)) I J 4 (o:=4) rfl rfl (by kernel_rfl) Ns
 obtain ⟨x5,⟨v5_0,e5,h5_0⟩,o5⟩:=bP (α:=(List cJ)) I J 5 (o:=5) rfl rfl (by kernel_rfl) Nt
 exact ⟨⟨x0,x1,x2,x3,x4,x5⟩,⟨v0_0,v1_0,v2_0,v3_0,v4_0,v5_0,piece (o:=0) e0 (by rfl) (piece (o:=1) e1 (by rfl) (piece (o:=2) e2 (by rfl) (piece (o:=3) e3 (by rfl) (piece (o:=4) e4 (by rfl) (piece (o:=5) e5 (by rfl) (qY hl (by kernel_rfl))))))),Y,Z,h2_0,h3_0,h4_0,h5_0⟩,⟨o0,o1,o2,o3,o4,o5⟩⟩
theorem NB:pG Proofs.Tryz.prog 75 bM:=by
 intro Hd enc w Y cs d h;obtain ⟨xs,n,rfl,rfl,hl,I,J⟩:=TR Proofs.Tryz.underlying75 h;obtain ⟨x0,Z,o0⟩:=bP (α:=Int) I J 0 (o:=0) rfl rfl (by kernel_rfl) (kC SH)
 obtain ⟨x1,e1,o1⟩:=bP (α:=RI) I J 1 (o:=1) rfl rfl (by kernel_rfl) (fO SD)
 obtain ⟨x2,e2,o2⟩:=bP (α:=Int) I J 2 (o:=2) rfl rfl (by kernel_rfl) (kC SH)
 obtain ⟨x3,e3,o3⟩:=bP (α:=Int) I J 3 (o:=3) rfl rfl (by kernel_rfl) (kC SH)
 exact ⟨⟨x0,x1,x2,x3⟩,piece (o:=0) Z (by rfl) (piece (o:=1) e1 (by rfl) (piece (o:=2) e2 (by rfl) (piece (o:=3) e3 (by rfl) (qY hl (by kernel_rfl))))),⟨o0,o1,o2,o3⟩⟩
theorem Nz:pG Proofs.Tryz.prog 66 (List bM):=pC Proofs.Tryz.underlying66 (by kernel_rfl) rfl NB
theorem NA:pG Proofs.Tryz.prog 68 bA:=by
 intro Hd enc w fuel cs d h;obtain ⟨xs,n,rfl,rfl,hl,I,Z⟩:=TR Proofs.Tryz.underlying68 h;obtain ⟨x0,e0,o0⟩:=bP (α:=Bool) I Z 0 (o:=0) rfl rfl (by kernel_rfl) (zH U6)
 obtain ⟨x1,e1,o1⟩:=bP (α:=RI) I Z 1 (o:=1) rfl rfl (by kernel_rfl) (fO SD)
 obtain ⟨x2,⟨Y,e2,J⟩,o2⟩:=bP (α:=(List bM)) I Z 2 (o:=2) rfl rfl (by kernel_rfl) Nz
 exact ⟨⟨x0,x1,x2⟩,⟨Y,piece (o:=0) e0 (by rfl) (piece (o:=1) e1 (by rfl) (piece (o:=2) e2 (by rfl) (qY hl (by kernel_rfl)))),J⟩,⟨o0,o1,o2⟩⟩
theorem Nv:pG Proofs.Tryz.prog 30 (List bA):=pC Proofs.Tryz.underlying30 (by kernel_rfl) rfl NA
theorem Nw:pG Proofs.Tryz.prog 32 cK:=by
 intro Hd enc w fuel cs d h;obtain ⟨xs,n,rfl,rfl,hl,I,hf⟩:=TR Proofs.Tryz.underlying32 h;obtain ⟨x0,⟨v0_0,v0_1,v0_2,v0_3,v0_4,v0_5,e0,J,Y,Z,h0_3,h0_4,h0_5⟩,o0⟩:=bP (α:=aD) I hf 0 (o:=0) rfl rfl (by kernel_rfl) Nu
 obtain ⟨x1,⟨v1_0,e1,h1_0⟩,o1⟩:=bP (α:=(List bA)) I hf 1 (o:=6) rfl rfl (by kernel_rfl) Nv
 exact ⟨⟨x0,x1⟩,⟨v0_0,v0_1,v0_2,v0_3,v0_4,v0_5,v1_0,piece (o:=0) e0 (by rfl) (piece (o:=6) e1 (by rfl) (qY hl (by kernel_rfl))),J,Y,Z,h0_3,h0_4,h0_5,h1_0⟩,⟨o0,o1⟩⟩
theorem Ny:pG Proofs.Tryz.prog 42 aE:=by
 intro Hd enc w Y cs d h;obtain ⟨xs,n,rfl,rfl,hl,I,J⟩:=TR Proofs.Tryz.underlying42 h;obtain ⟨x0,Z,o0⟩:=bP (α:=Int) I J 0 (o:=0) rfl rfl (by kernel_rfl) (kC SH)
 obtain ⟨x1,e1,o1⟩:=bP (α:=RI) I J 1 (o:=1) rfl rfl (by kernel_rfl) (fO SD)
 obtain ⟨x2,e2,o2⟩:=bP (α:=RI) I J 2 (o:=2) rfl rfl (by kernel_rfl) (fO SD)
 obtain ⟨x3,e3,o3⟩:=bP (α:=Int) I J 3 (o:=3) rfl rfl (by kernel_rfl) (kC SH)
 exact ⟨⟨x0,x1,x2,x3⟩,piece (o:=0) Z (by rfl) (piece (o:=1) e1 (by rfl) (piece (o:=2) e2 (by rfl) (piece (o:=3) e3 (by rfl) (qY hl (by kernel_rfl))))),⟨o0,o1,o2,o3⟩⟩
theorem Nx:pG Proofs.Tryz.prog 33 (List aE):=pC Proofs.Tryz.underlying33 (by kernel_rfl) rfl Ny
theorem BI {W:World} (Y:laidMetH Proofs.Tryz.prog Proofs.YtmdikieloiajeaaGreatDoor.Rows.topReplayRow.laid W):uL W.heap.size W:=by
 rw [MakeChecks.laidMetH_plain _ _ _ (by kernel_rfl)] at Y
 have t6:Lib.TabIs Proofs.Tryz.prog W "math/bits.deBruijn32tab" .u8 Qx:=Lib.tabIs_of_head QY (by kernel_rfl:(Proofs.Tryz.prog.globals[6]?).map (·.type)=some 296) Proofs.Tryz.underlying296 Proofs.Tryz.underlying5 (by kernel_rfl) (by kernel_rfl) (show laidMet Proofs.Tryz.prog (("math/bits.deBruijn32tab", Lib.tabData .u8 Qx)::_) W from Y)
 have Z:=VQ Y;have t7:Lib.TabIs Proofs.Tryz.prog W "math/bits.deBruijn64tab" .u8 Qg:=Lib.tabIs_of_head Qw (by kernel_rfl:(Proofs.Tryz.prog.globals[7]?).map (·.type)=some 297) Proofs.Tryz.underlying297 Proofs.Tryz.underlying5 (by kernel_rfl) (by kernel_rfl) (show laidMet Proofs.Tryz.prog (("math/bits.deBruijn64tab", Lib.tabData .u8 Qg)::_) W from Z)
 have h2:=VQ Z;have t3:Lib.TabIs Proofs.Tryz.prog W "internal/strconv.uint64pow10" .u64 Pj:=Lib.tabIs_of_head Qf (by kernel_rfl:(Proofs.Tryz.prog.globals[3]?).map (·.type)=some 231) Proofs.Tryz.underlying231 Proofs.Tryz.underlying52 (by kernel_rfl) (by kernel_rfl) (show laidMet Proofs.Tryz.prog (("internal/strconv.uint64pow10", Lib.tabData .u64 Pj)::_) W from h2)
 have h3:=VQ h2;have h4:=VQ h3;have J: "*" ++ "errors.errorString" = "*errors.errorString" := by decide
 have I:∀ u,Proofs.Tryz.prog.typeName? 3 u=some "*errors.errorString" -> u=269:=λu h=>typeName_ptr_named (nm:= "errors.errorString") (by rw [J]; kernel_rfl) (by kernel_rfl) (by decide) u (by rw [J]; exact h)
 obtain ⟨a2,s2,e2,-⟩:=laid_sentinel h4 QR (by kernel_rfl:(Proofs.Tryz.prog.globals[2]?).map (·.type)=some 101) Proofs.Tryz.underlying101 I Proofs.Tryz.underlying269 Proofs.Tryz.underlying271 rfl rfl SD (by kernel_rfl) (by kernel_rfl)
 have h5:=VQ h4;obtain ⟨a1,s1,e1,-⟩:=laid_sentinel h5 QQ (by kernel_rfl:(Proofs.Tryz.prog.globals[1]?).map (·.type)=some 101) Proofs.Tryz.underlying101 I Proofs.Tryz.underlying269 Proofs.Tryz.underlying271 rfl rfl SD (by kernel_rfl) (by kernel_rfl)
 have h6:=VQ h5;exact { lt:=O0 Qw t7,t6:=t6,t7:=t7,t3:=t3,e2:=⟨_,_,e2⟩,e1:=⟨_,_,e1⟩ }
set_option maxRecDepth 100000 in
theorem Ay (hp:∀ (x0:cK) (x1:(List aE)),ok x0->ok x1->iZ x0 x1=some true) (os:Os) (J:os.Started) (Hd:Type) (enc:TypeId×RJ->Hd):
  ReturnsInHanded {} Proofs.Tryz.checked os 3 .any (λw args=>(Proofs.YtmdikieloiajeaaGreatDoor.Rows.topReplaySpec.pre enc Proofs.Tryz.prog Proofs.Tryz.f3 Proofs.YtmdikieloiajeaaGreatDoor.Rows.topReplayRow.domain false w args/\laidMetH Proofs.Tryz.prog Proofs.YtmdikieloiajeaaGreatDoor.Rows.topReplayRow.laid w)/\sizedMet enc Proofs.Tryz.prog Proofs.Tryz.f3 (OpenSpec.ofChange Proofs.YtmdikieloiajeaaGreatDoor.Rows.topReplaySpec) false w args) (Proofs.YtmdikieloiajeaaGreatDoor.Rows.topReplaySpec.post enc Proofs.Tryz.prog Proofs.Tryz.f3 false true false false):=by
 refine returnsInHanded_of_change_and (C:=Proofs.Tryz.checked) (X:=λw _=>laidMetH Proofs.Tryz.prog Proofs.YtmdikieloiajeaaGreatDoor.Rows.topReplayRow.laid w) (λ_ _ _ hh h=>h.of_heap hh) MC J (by kernel_rfl) Proofs.Tryz.func3
  (ChangeSpec.witness_shaped (enc:=enc) (C:=Proofs.Tryz.checked) (os:=os) (X:=λw _=>laidMetH Proofs.Tryz.prog Proofs.YtmdikieloiajeaaGreatDoor.Rows.topReplayRow.laid w) false (World.laidAll Proofs.Tryz.prog os Proofs.YtmdikieloiajeaaGreatDoor.Rows.topReplayRow.laid) #[.agg #[.slice none 0 0,.slice none 0 0,.slice none 0 0,.slice none 0 0,.slice none 0 0,.slice none 0 0,.slice none 0 0],.slice none 0 0] 8 (World.laidAll_os _ _ _)
   (World.shaped_of_ZipB (by kernel_rfl) (by kernel_rfl)) (by kernel_rfl) (by kernel_rfl) (by kernel_rfl)
   (by rw [MakeChecks.laidMetH_plain _ _ _ (by kernel_rfl)]; exact laidMet_laidAll _ (by kernel_rfl) (by kernel_rfl))) ?_
 intro W base args ds gs Y Z hW hcnd _ hL _;have I:∀ (j:Nat) t v,Proofs.Tryz.f3.params[j]? = some t->args[j]? = some v->Value.okWide Proofs.Tryz.prog W .any base t v:=Z
 haveI:uL W.heap.size W:=BI hL
 have hW2:DataW.Whole enc Proofs.Tryz.prog Proofs.Tryz.f3.params.toList Proofs.YtmdikieloiajeaaGreatDoor.Rows.topReplaySpec.vars false W args.toList ds gs Y:=hW;obtain ⟨p,q,hA0,hV,rfl,hfz,hnd⟩:=hW;have hA:DataW.TrodAll enc Proofs.Tryz.prog W 0 (λ_=>true) true Proofs.Tryz.f3.params.toList args.toList ds p:=hA0;rw [Proofs.Tryz.params3] at hA I;obtain ⟨v0,vs0,d0,ds0,p0,q0,hargs,rfl,rfl,h0,r0⟩:=trodAll_cons hA;obtain ⟨v1,vs1,d1,ds1,p1,q1,rfl,rfl,rfl,h1,r1⟩:=trodAll_cons r0;obtain ⟨rfl,rfl,rfl⟩:=trodAll_nil r1;obtain rfl:args=#[v0,v1]:=by cases args; simp_all
 obtain ⟨x0,cs0,rfl,⟨v0_0,v0_1,v0_2,v0_3,v0_4,v0_5,v0_6,rfl,e0_0,e0_1,e0_2,e0_3,e0_4,e0_5,e0_6⟩,ok0⟩:=Gy Proofs.Tryz.underlying32 Nw (I 0 32 v0 rfl rfl) h0;obtain ⟨x1,e1,ok1⟩:=IM Proofs.Tryz.underlying33 Nx (I 1 33 v1 rfl rfl) h1;have hc:=wc (hp x0 x1 ok0 ok1) e0_0 e0_1 e0_2 e0_3 e0_4 e0_5 e0_6 e1 (St.begin W);refine hc.mono λe W' h=>?_;cases e with
 | returned v=>
  obtain ⟨H',M',hst,hphi⟩:=h;obtain ⟨_,_,rfl⟩:=hphi;exact ⟨_,rfl,KW KV rfl rfl U6 (by kernel_rfl) hW2 (λ_=>rfl) hst.below⟩
 | _=>exact h.elim
theorem C6 (Z:∀ (J:cK) (Y:(List aE)),ok J->ok Y->iZ J Y=some true):Proofs.YtmdikieloiajeaaGreatDoor.Rows.TopReplaySaid:=
 OpenClaim.holds_of_wide 3 Proofs.Tryz.f3 rfl rfl rfl rfl rfl rfl rfl ⟨rfl,rfl,rfl,rfl,rfl⟩ rfl rfl rfl rfl rfl (by kernel_rfl) Proofs.Tryz.func3 (by kernel_rfl)
  (RT (by kernel_rfl)) (by unfold Func.isWrapper; first | (rw [RU (by decide +kernel)]; kernel_rfl) | (rw [RS (by decide +kernel)]; exact ⟨rfl,rfl⟩))
  (λos I H enc _=>Ay Z os I H enc)
end Go.Sim
