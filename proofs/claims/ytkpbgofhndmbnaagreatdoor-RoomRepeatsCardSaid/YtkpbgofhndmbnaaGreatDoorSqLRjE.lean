/-
  The law of RjE.
-/
import Derived.OpenShut
import Derived.HandedShaped
import Derived.Handed
import Derived.Lay
import Derived.LaidByTextLater
import Derived.Stop.LaidErr
import Derived.Test.YtkpbgofhndmbnaaGreatDoorSqC4
set_option linter.unusedVariables false
set_option linter.unusedSimpArgs false
set_option linter.unusedSectionVars false
set_option linter.unnecessarySimpa false
namespace Go.Sim
abbrev Ry := @Go.DataW.trod_struct
abbrev Tv := @Go.Lib.tabIs_of_head
abbrev Tz := @Go.MakeChecks.laidMetH_plain
abbrev TA := @Go.Proofs.Tryz.underlying219
abbrev QF := @Go.Proofs.Tryz.underlying3
abbrev TB := @Go.Proofs.Tryz.underlying309
abbrev TC := @Go.Proofs.Tryz.underlying311
abbrev TI := @Go.Proofs.Tryz.underlying32
abbrev TJ := @Go.Proofs.Tryz.underlying33
abbrev So := @Go.Proofs.Tryz.underlying4
abbrev TS := @Go.Proofs.Tryz.underlying5
abbrev QC := @Go.Proofs.Tryz.underlying9
abbrev TK := @Go.laidMet.tail
end Go.Sim
namespace Go.Sim
open Go Go.RowKit Go.ChangeShapes Go.WideShapes Go.ChangeAt
open _root_.Go.IntKind (i64 u64 u32 u8)
theorem DA:ownKnob Proofs.Tryz.prog.godebug=none:=by kernel_rfl
theorem BF:laidOutB Proofs.Tryz.prog=true:=by kernel_rfl
instance:Ok aS:=⟨λx=>ok x.Name/\ok x.A/\ok x.B_/\ok x.vq/\ok x.Open⟩
instance:Ok aK:=⟨λx=>ok x.Name/\ok x.pQ/\ok x.To/\ok x.X/\ok x.A0/\ok x.Shift/\ok x.s6/\ok x.w_/\ok x.Cm⟩
instance:Ok bE:=⟨λx=>ok x.Name/\ok x.Node/\ok x.jJ/\ok x.qU/\ok x.AX⟩
instance:Ok aF:=⟨λx=>ok x.Name/\ok x.Node/\ok x.dB⟩
instance:Ok bS:=⟨λx=>ok x.Name/\ok x.Node/\ok x.r8/\ok x.Discharge/\ok x.tM⟩
instance:Ok aE:=⟨λx=>ok x.bD/\ok x.aL/\ok x.aH/\ok x.cR/\ok x.bB/\ok x.bM⟩
instance:Ok bF:=⟨λx=>ok x.Kind/\ok x.Name/\ok x.A/\ok x.B_⟩
instance:Ok aY:=⟨λx=>ok x.Close/\ok x.Switch/\ok x.wK⟩
instance:Ok aX:=⟨λx=>ok x.bK/\ok x.nL⟩
instance:Ok aB:=⟨λx=>ok x.Time/\ok x.Kind/\ok x.Name/\ok x.Value⟩
theorem DY:jR Proofs.Tryz.prog 22 (List Qm):=gJ Proofs.Tryz.underlying22 (by kernel_rfl) rfl (cH QC)
theorem D9:jR Proofs.Tryz.prog 41 aS:=by
 intro Hd enc w O cs d h;obtain ⟨xs,n,rfl,rfl,hl,I,J⟩:=Ry Proofs.Tryz.underlying41 h;obtain ⟨x0,Y,o0⟩:=aO (α:=Qm) I J 0 (o:=0) rfl rfl (by kernel_rfl) (cH QC)
 obtain ⟨x1,e1,o1⟩:=aO (α:=Qm) I J 1 (o:=1) rfl rfl (by kernel_rfl) (cH QC)
 obtain ⟨x2,e2,o2⟩:=aO (α:=Qm) I J 2 (o:=2) rfl rfl (by kernel_rfl) (cH QC)
 obtain ⟨x3,Z,o3⟩:=aO (α:=Bool) I J 3 (o:=3) rfl rfl (by kernel_rfl) (tF So)
 obtain ⟨x4,e4,o4⟩:=aO (α:=Bool) I J 4 (o:=4) rfl rfl (by kernel_rfl) (tF So)
 exact ⟨⟨x0,x1,x2,x3,x4⟩,piece (o:=0) Y (by rfl) (piece (o:=1) e1 (by rfl) (piece (o:=2) e2 (by rfl) (piece (o:=3) Z (by rfl) (piece (o:=4) e4 (by rfl) (jO hl (by kernel_rfl)))))),⟨o0,o1,o2,o3,o4⟩⟩
theorem DZ:jR Proofs.Tryz.prog 23 (List aS):=gJ Proofs.Tryz.underlying23 (by kernel_rfl) rfl D9
theorem Cb:jR Proofs.Tryz.prog 120 aK:=by
 intro Hd enc w O cs d h;obtain ⟨xs,n,rfl,rfl,hl,I,J⟩:=Ry Proofs.Tryz.underlying120 h;obtain ⟨x0,Y,o0⟩:=aO (α:=Qm) I J 0 (o:=0) rfl rfl (by kernel_rfl) (cH QC)
 obtain ⟨x1,e1,o1⟩:=aO (α:=Qm) I J 1 (o:=1) rfl rfl (by kernel_rfl) (cH QC)
 obtain ⟨x2,e2,o2⟩:=aO (α:=Qm) I J 2 (o:=2) rfl rfl (by kernel_rfl) (cH QC)
 obtain ⟨x3,Z,o3⟩:=aO (α:=Int) I J 3 (o:=3) rfl rfl (by kernel_rfl) (dV QF)
 obtain ⟨x4,e4,o4⟩:=aO (α:=Int) I J 4 (o:=4) rfl rfl (by kernel_rfl) (dV QF)
 obtain ⟨x5,e5,o5⟩:=aO (α:=Int) I J 5 (o:=5) rfl rfl (by kernel_rfl) (dV QF)
 obtain ⟨x6,e6,o6⟩:=aO (α:=Int) I J 6 (o:=6) rfl rfl (by kernel_rfl) (dV QF)
 obtain ⟨x7,e7,o7⟩:=aO (α:=Int) I J 7 (o:=7) rfl rfl (by kernel_rfl) (dV QF)
 obtain ⟨x8,e8,o8⟩:=aO (α:=Int) I J 8 (o:=8) rfl rfl (by kernel_rfl) (dV QF)
 exact ⟨⟨x0,x1,x2,x3,x4,x5,x6,x7,x8⟩,piece (o:=0) Y (by rfl) (piece (o:=1) e1 (by rfl) (piece (o:=2) e2 (by rfl) (piece (o:=3) Z (by rfl) (piece (o:=4) e4 (by rfl) (piece (o:=5) e5 (by rfl) (piece (o:=6) e6 (by rfl) (piece (o:=7) e7 (by rfl) (piece (o:=8) e8 (by rfl) (jO hl (by kernel_rfl)))))))))),⟨o0,o1,o2,o3,o4,o5,o6,o7,o8⟩⟩
theorem D1:jR Proofs.Tryz.prog 24 (List aK):=gJ Proofs.Tryz.underlying24 (by kernel_rfl) rfl Cb
theorem Cc:jR Proofs.Tryz.prog 152 bE:=by
 intro Hd enc w O cs d h;obtain ⟨xs,n,rfl,rfl,hl,I,J⟩:=Ry Proofs.Tryz.underlying152 h;obtain ⟨x0,Y,o0⟩:=aO (α:=Qm) I J 0 (o:=0) rfl rfl (by kernel_rfl) (cH QC)
 obtain ⟨x1,e1,o1⟩:=aO (α:=Qm) I J 1 (o:=1) rfl rfl (by kernel_rfl) (cH QC)
 obtain ⟨x2,e2,o2⟩:=aO (α:=Int) I J 2 (o:=2) rfl rfl (by kernel_rfl) (dV QF)
 obtain ⟨x3,Z,o3⟩:=aO (α:=Int) I J 3 (o:=3) rfl rfl (by kernel_rfl) (dV QF)
 obtain ⟨x4,e4,o4⟩:=aO (α:=Int) I J 4 (o:=4) rfl rfl (by kernel_rfl) (dV QF)
 exact ⟨⟨x0,x1,x2,x3,x4⟩,piece (o:=0) Y (by rfl) (piece (o:=1) e1 (by rfl) (piece (o:=2) e2 (by rfl) (piece (o:=3) Z (by rfl) (piece (o:=4) e4 (by rfl) (jO hl (by kernel_rfl)))))),⟨o0,o1,o2,o3,o4⟩⟩
theorem D2:jR Proofs.Tryz.prog 25 (List bE):=gJ Proofs.Tryz.underlying25 (by kernel_rfl) rfl Cc
theorem Ea:jR Proofs.Tryz.prog 55 aF:=by
 intro Hd enc w O cs d h;obtain ⟨xs,n,rfl,rfl,hl,I,J⟩:=Ry Proofs.Tryz.underlying55 h;obtain ⟨x0,Y,o0⟩:=aO (α:=Qm) I J 0 (o:=0) rfl rfl (by kernel_rfl) (cH QC)
 obtain ⟨x1,e1,Z⟩:=aO (α:=Qm) I J 1 (o:=1) rfl rfl (by kernel_rfl) (cH QC)
 obtain ⟨x2,e2,o2⟩:=aO (α:=Int) I J 2 (o:=2) rfl rfl (by kernel_rfl) (dV QF)
 exact ⟨⟨x0,x1,x2⟩,piece (o:=0) Y (by rfl) (piece (o:=1) e1 (by rfl) (piece (o:=2) e2 (by rfl) (jO hl (by kernel_rfl)))),⟨o0,Z,o2⟩⟩
theorem D3:jR Proofs.Tryz.prog 26 (List aF):=gJ Proofs.Tryz.underlying26 (by kernel_rfl) rfl Ea
theorem Cd:jR Proofs.Tryz.prog 156 bS:=by
 intro Hd enc w O cs d h;obtain ⟨xs,n,rfl,rfl,hl,I,J⟩:=Ry Proofs.Tryz.underlying156 h;obtain ⟨x0,Y,o0⟩:=aO (α:=Qm) I J 0 (o:=0) rfl rfl (by kernel_rfl) (cH QC)
 obtain ⟨x1,e1,o1⟩:=aO (α:=Qm) I J 1 (o:=1) rfl rfl (by kernel_rfl) (cH QC)
 obtain ⟨x2,e2,o2⟩:=aO (α:=Int) I J 2 (o:=2) rfl rfl (by kernel_rfl) (dV QF)
 obtain ⟨x3,Z,o3⟩:=aO (α:=Int) I J 3 (o:=3) rfl rfl (by kernel_rfl) (dV QF)
 obtain ⟨x4,e4,o4⟩:=aO (α:=Int) I J 4 (o:=4) rfl rfl (by kernel_rfl) (dV QF)
 exact ⟨⟨x0,x1,x2,x3,x4⟩,piece (o:=0) Y (by rfl) (piece (o:=1) e1 (by rfl) (piece (o:=2) e2 (by rfl) (piece (o:=3) Z (by rfl) (piece (o:=4) e4 (by rfl) (jO hl (by kernel_rfl)))))),⟨o0,o1,o2,o3,o4⟩⟩
theorem D4:jR Proofs.Tryz.prog 27 (List bS):=gJ Proofs.Tryz.underlying27 (by kernel_rfl) rfl Cd
theorem D5:jR Proofs.Tryz.prog 29 aE:=by
 intro Hd enc w fuel cs d h;obtain ⟨xs,n,rfl,rfl,hl,I,J⟩:=Ry Proofs.Tryz.underlying29 h;obtain ⟨x0,⟨v0_0,e0,O⟩,o0⟩:=aO (α:=(List Qm)) I J 0 (o:=0) rfl rfl (by kernel_rfl) DY
 obtain ⟨x1,⟨v1_0,e1,Y⟩,o1⟩:=aO (α:=(List aS)) I J 1 (o:=1) rfl rfl (by kernel_rfl) DZ
 obtain ⟨x2,⟨v2_0,e2,Z⟩,o2⟩:=aO (α:=(List aK)) I J 2 (o:=2) rfl rfl (by kernel_rfl) D1
 obtain ⟨x3,⟨v3_0,e3,h3_0⟩,o3⟩:=aO (α:=(List bE)) I J 3 (o:=3) rfl rfl (by kernel_rfl) D2
 obtain ⟨x4,⟨v4_0,e4,h4_0⟩,o4⟩:=aO (α:=(List aF)) I J 4 (o:=4) rfl rfl (by kernel_rfl) D3
 obtain ⟨x5,⟨v5_0,e5,h5_0⟩,o5⟩:=aO (α:=(List bS)) I J 5 (o:=5) rfl rfl (by kernel_rfl) D4
 exact ⟨⟨x0,x1,x2,x3,x4,x5⟩,⟨v0_0,v1_0,v2_0,v3_0,v4_0,v5_0,piece (o:=0) e0 (by rfl) (piece (o:=1) e1 (by rfl) (piece (o:=2) e2 (by rfl) (piece (o:=3) e3 (by rfl) (piece (o:=4) e4 (by rfl) (piece (o:=5) e5 (by rfl) (jO hl (by kernel_rfl))))))),O,Y,Z,h3_0,h4_0,h5_0⟩,⟨o0,o1,o2,o3,o4,o5⟩⟩
theorem Ee:jR Proofs.Tryz.prog 97 bF:=by
 intro Hd enc w O cs d h;obtain ⟨xs,n,rfl,rfl,hl,I,J⟩:=Ry Proofs.Tryz.underlying97 h;obtain ⟨x0,Y,o0⟩:=aO (α:=Int) I J 0 (o:=0) rfl rfl (by kernel_rfl) (dV QF)
 obtain ⟨x1,e1,o1⟩:=aO (α:=Qm) I J 1 (o:=1) rfl rfl (by kernel_rfl) (cH QC)
 obtain ⟨x2,e2,o2⟩:=aO (α:=Int) I J 2 (o:=2) rfl rfl (by kernel_rfl) (dV QF)
 obtain ⟨x3,Z,o3⟩:=aO (α:=Int) I J 3 (o:=3) rfl rfl (by kernel_rfl) (dV QF)
 exact ⟨⟨x0,x1,x2,x3⟩,piece (o:=0) Y (by rfl) (piece (o:=1) e1 (by rfl) (piece (o:=2) e2 (by rfl) (piece (o:=3) Z (by rfl) (jO hl (by kernel_rfl))))),⟨o0,o1,o2,o3⟩⟩
theorem Eb:jR Proofs.Tryz.prog 87 (List bF):=gJ Proofs.Tryz.underlying87 (by kernel_rfl) rfl Ee
theorem Ec:jR Proofs.Tryz.prog 89 aY:=by
 intro Hd enc w Z cs d h;obtain ⟨xs,n,rfl,rfl,hl,I,Y⟩:=Ry Proofs.Tryz.underlying89 h;obtain ⟨x0,e0,o0⟩:=aO (α:=Bool) I Y 0 (o:=0) rfl rfl (by kernel_rfl) (tF So)
 obtain ⟨x1,e1,o1⟩:=aO (α:=Qm) I Y 1 (o:=1) rfl rfl (by kernel_rfl) (cH QC)
 obtain ⟨x2,⟨O,e2,J⟩,o2⟩:=aO (α:=(List bF)) I Y 2 (o:=2) rfl rfl (by kernel_rfl) Eb
 exact ⟨⟨x0,x1,x2⟩,⟨O,piece (o:=0) e0 (by rfl) (piece (o:=1) e1 (by rfl) (piece (o:=2) e2 (by rfl) (jO hl (by kernel_rfl)))),J⟩,⟨o0,o1,o2⟩⟩
theorem D6:jR Proofs.Tryz.prog 30 (List aY):=gJ Proofs.Tryz.underlying30 (by kernel_rfl) rfl Ec
theorem D7:jR Proofs.Tryz.prog 32 aX:=by
 intro Hd enc w fuel cs d h;obtain ⟨xs,n,rfl,rfl,hl,I,hf⟩:=Ry TI h;obtain ⟨x0,⟨v0_0,v0_1,v0_2,v0_3,v0_4,v0_5,e0,J,O,Y,Z,h0_4,h0_5⟩,o0⟩:=aO (α:=aE) I hf 0 (o:=0) rfl rfl (by kernel_rfl) D5
 obtain ⟨x1,⟨v1_0,e1,h1_0⟩,o1⟩:=aO (α:=(List aY)) I hf 1 (o:=6) rfl rfl (by kernel_rfl) D6
 exact ⟨⟨x0,x1⟩,⟨v0_0,v0_1,v0_2,v0_3,v0_4,v0_5,v1_0,piece (o:=0) e0 (by rfl) (piece (o:=6) e1 (by rfl) (jO hl (by kernel_rfl))),J,O,Y,Z,h0_4,h0_5,h1_0⟩,⟨o0,o1⟩⟩
theorem D_:jR Proofs.Tryz.prog 45 aB:=by
 intro Hd enc w O cs d h;obtain ⟨xs,n,rfl,rfl,hl,I,J⟩:=Ry Proofs.Tryz.underlying45 h;obtain ⟨x0,Y,o0⟩:=aO (α:=Int) I J 0 (o:=0) rfl rfl (by kernel_rfl) (dV QF)
 obtain ⟨x1,e1,o1⟩:=aO (α:=Qm) I J 1 (o:=1) rfl rfl (by kernel_rfl) (cH QC)
 obtain ⟨x2,e2,o2⟩:=aO (α:=Qm) I J 2 (o:=2) rfl rfl (by kernel_rfl) (cH QC)
 obtain ⟨x3,Z,o3⟩:=aO (α:=Int) I J 3 (o:=3) rfl rfl (by kernel_rfl) (dV QF)
 exact ⟨⟨x0,x1,x2,x3⟩,piece (o:=0) Y (by rfl) (piece (o:=1) e1 (by rfl) (piece (o:=2) e2 (by rfl) (piece (o:=3) Z (by rfl) (jO hl (by kernel_rfl))))),⟨o0,o1,o2,o3⟩⟩
theorem D8:jR Proofs.Tryz.prog 33 (List aB):=gJ TJ (by kernel_rfl) rfl D_
theorem zK {W:World} (O:laidMetH Proofs.Tryz.prog Proofs.YtkpbgofhndmbnaaGreatDoor.Rows.roomRepeatsRow.laid W):vY W.heap.size W:=by
 rw [Tz _ _ _ (by kernel_rfl)] at O
 have t4:Lib.TabIs Proofs.Tryz.prog W "math/bits.deBruijn32tab" .u8 Oh:=Tv PH (by kernel_rfl:(Proofs.Tryz.prog.globals[4]?).map (·.type)=some 318) Proofs.Tryz.underlying318 TS (by kernel_rfl) (by kernel_rfl) (show laidMet Proofs.Tryz.prog (("math/bits.deBruijn32tab", Lib.tabData .u8 Oh)::_) W from O)
 have Y:=TK O;have t5:Lib.TabIs Proofs.Tryz.prog W "math/bits.deBruijn64tab" .u8 Oi:=Tv O5 (by kernel_rfl:(Proofs.Tryz.prog.globals[5]?).map (·.type)=some 319) Proofs.Tryz.underlying319 TS (by kernel_rfl) (by kernel_rfl) (show laidMet Proofs.Tryz.prog (("math/bits.deBruijn64tab", Lib.tabData .u8 Oi)::_) W from Y)
 have Z:=TK Y;have t3:Lib.TabIs Proofs.Tryz.prog W "internal/strconv.uint64pow10" .u64 Ni:=Tv O4 (by kernel_rfl:(Proofs.Tryz.prog.globals[3]?).map (·.type)=some 313) Proofs.Tryz.underlying313 Proofs.Tryz.underlying72 (by kernel_rfl) (by kernel_rfl) (show laidMet Proofs.Tryz.prog (("internal/strconv.uint64pow10", Lib.tabData .u64 Ni)::_) W from Z)
 have h3:=TK Z;have J: "*" ++ "errors.errorString" = "*errors.errorString" := by decide
 have I:∀ u,Proofs.Tryz.prog.typeName? 3 u=some "*errors.errorString" -> u=309:=λu h=>typeName_ptr_named (nm:= "errors.errorString") (by rw [J]; kernel_rfl) (by kernel_rfl) (by decide) u (by rw [J]; exact h)
 obtain ⟨a2,s2,e2,-⟩:=laid_sentinel h3 PG (by kernel_rfl:(Proofs.Tryz.prog.globals[2]?).map (·.type)=some 219) TA I TB TC rfl rfl QC (by kernel_rfl) (by kernel_rfl)
 have h4:=TK h3;obtain ⟨a1,s1,e1,-⟩:=laid_sentinel h4 PF (by kernel_rfl:(Proofs.Tryz.prog.globals[1]?).map (·.type)=some 219) TA I TB TC rfl rfl QC (by kernel_rfl) (by kernel_rfl)
 exact { lt:=KY O5 t5,t4:=t4,t5:=t5,t3:=t3,e2:=⟨_,_,e2⟩,e1:=⟨_,_,e1⟩ }
set_option maxRecDepth 100000 in
theorem yD (hp:∀ (x0:aX) (x1:(List aB)),ok x0->ok x1->gE x0 x1=some true) (os:Os) (J:os.Started) (Hd:Type) (enc:TypeId×Qn->Hd):
  ReturnsInHanded {} Proofs.Tryz.checked os 6 .any (λw args=>(Proofs.YtkpbgofhndmbnaaGreatDoor.Rows.roomRepeatsSpec.pre enc Proofs.Tryz.prog Proofs.Tryz.f6 Proofs.YtkpbgofhndmbnaaGreatDoor.Rows.roomRepeatsRow.domain false w args/\laidMetH Proofs.Tryz.prog Proofs.YtkpbgofhndmbnaaGreatDoor.Rows.roomRepeatsRow.laid w)/\sizedMet enc Proofs.Tryz.prog Proofs.Tryz.f6 (OpenSpec.ofChange Proofs.YtkpbgofhndmbnaaGreatDoor.Rows.roomRepeatsSpec) false w args) (Proofs.YtkpbgofhndmbnaaGreatDoor.Rows.roomRepeatsSpec.post enc Proofs.Tryz.prog Proofs.Tryz.f6 false true false false):=by
 refine returnsInHanded_of_change_and (C:=Proofs.Tryz.checked) (X:=λw _=>laidMetH Proofs.Tryz.prog Proofs.YtkpbgofhndmbnaaGreatDoor.Rows.roomRepeatsRow.laid w) (λ_ _ _ hh h=>h.of_heap hh) DA J (by kernel_rfl) Proofs.Tryz.func6
  (ChangeSpec.witness_shaped (enc:=enc) (C:=Proofs.Tryz.checked) (os:=os) (X:=λw _=>laidMetH Proofs.Tryz.prog Proofs.YtkpbgofhndmbnaaGreatDoor.Rows.roomRepeatsRow.laid w) false (World.laidAll Proofs.Tryz.prog os Proofs.YtkpbgofhndmbnaaGreatDoor.Rows.roomRepeatsRow.laid) #[.agg #[.slice none 0 0,.slice none 0 0,.slice none 0 0,.slice none 0 0,.slice none 0 0,.slice none 0 0,.slice none 0 0],.slice none 0 0] 8 (World.laidAll_os _ _ _)
   (World.shaped_of_ZipB (by kernel_rfl) (by kernel_rfl)) (by kernel_rfl) (by kernel_rfl) (by kernel_rfl)
   (by rw [Tz _ _ _ (by kernel_rfl)]; exact laidMet_laidAll _ (by kernel_rfl) (by kernel_rfl))) ?_
 intro W base args ds gs O Y hW hcnd _ hL _;have I:∀ (j:Nat) t v,Proofs.Tryz.f6.params[j]? = some t->args[j]? = some v->Value.okWide Proofs.Tryz.prog W .any base t v:=Y
 haveI:vY W.heap.size W:=zK hL
 have hW2:DataW.Whole enc Proofs.Tryz.prog Proofs.Tryz.f6.params.toList Proofs.YtkpbgofhndmbnaaGreatDoor.Rows.roomRepeatsSpec.vars false W args.toList ds gs O:=hW;obtain ⟨p,q,hA0,hV,rfl,hfz,hnd⟩:=hW;have hA:DataW.TrodAll enc Proofs.Tryz.prog W 0 (λ_=>true) true Proofs.Tryz.f6.params.toList args.toList ds p:=hA0;rw [Proofs.Tryz.params6] at hA I;obtain ⟨v0,vs0,d0,ds0,p0,q0,hargs,rfl,rfl,h0,r0⟩:=trodAll_cons hA;obtain ⟨v1,vs1,d1,ds1,p1,q1,rfl,rfl,rfl,h1,r1⟩:=trodAll_cons r0;obtain ⟨rfl,rfl,rfl⟩:=trodAll_nil r1;obtain rfl:args=#[v0,v1]:=by cases args; simp_all
 obtain ⟨x0,cs0,rfl,⟨v0_0,v0_1,v0_2,v0_3,v0_4,v0_5,v0_6,rfl,Z,e0_1,e0_2,e0_3,e0_4,e0_5,e0_6⟩,ok0⟩:=Be TI D7 (I 0 32 v0 rfl rfl) h0;obtain ⟨x1,e1,ok1⟩:=CC TJ D8 (I 1 33 v1 rfl rfl) h1;have hc:=tV (hp x0 x1 ok0 ok1) Z e0_1 e0_2 e0_3 e0_4 e0_5 e0_6 e1 (St.begin W);refine hc.mono λe W' h=>?_;cases e with
 | returned v=>
  obtain ⟨H',M',hst,hphi⟩:=h;obtain ⟨_,_,rfl⟩:=hphi;exact ⟨_,rfl,EX BF rfl rfl So (by kernel_rfl) hW2 (λ_=>rfl) hst.below⟩
 | _=>exact h.elim
theorem Aq (Y:∀ (J:aX) (O:(List aB)),ok J->ok O->gE J O=some true):Proofs.YtkpbgofhndmbnaaGreatDoor.Rows.RoomRepeatsSaid:=
 OpenClaim.holds_of_wide 6 Proofs.Tryz.f6 rfl rfl rfl rfl rfl rfl rfl ⟨rfl,rfl,rfl,rfl,rfl⟩ rfl rfl rfl rfl rfl (by kernel_rfl) Proofs.Tryz.func6 (by kernel_rfl)
  (Qv (by kernel_rfl)) (by unfold Func.isWrapper; first | (rw [Qx (by decide +kernel)]; kernel_rfl) | (rw [Qw (by decide +kernel)]; exact ⟨rfl,rfl⟩))
  (λos I H enc _=>yD Y os I H enc)
end Go.Sim
