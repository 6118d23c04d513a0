/-
  The law of TjR.
-/
import Derived.OpenShut
import Derived.HandedShaped
import Derived.Handed
import Derived.Lay
import Derived.LaidByTextLater
import Derived.Stop.LaidErr
import Derived.Test.YthomhaphclgbcaaGreatDoorSqC4
set_option linter.unusedVariables false
set_option linter.unusedSimpArgs false
set_option linter.unusedSectionVars false
set_option linter.unnecessarySimpa false
namespace Go.Sim
abbrev QX := @Go.DataW.trod_struct
abbrev PS := @Go.Proofs.Tryz.underlying3
abbrev Sd := @Go.Proofs.Tryz.underlying4
abbrev PL := @Go.Proofs.Tryz.underlying9
end Go.Sim
namespace Go.Sim
open Go Go.RowKit Go.ChangeShapes Go.WideShapes Go.ChangeAt
open _root_.Go.IntKind (i64 u64 u32 u8)
theorem J_:ownKnob Proofs.Tryz.prog.godebug=none:=by kernel_rfl
theorem ID:laidOutB Proofs.Tryz.prog=true:=by kernel_rfl
instance:Ok aX:=⟨λx=>ok x.Name/\ok x.A/\ok x.B_/\ok x.vr/\ok x.Open⟩
instance:Ok aP:=⟨λx=>ok x.Name/\ok x.oN/\ok x.To/\ok x.X/\ok x.A_/\ok x.Shift/\ok x.sN/\ok x.wz/\ok x.BO⟩
instance:Ok bE:=⟨λx=>ok x.Name/\ok x.Node/\ok x.iJ/\ok x.qa/\ok x.Bc⟩
instance:Ok aF:=⟨λx=>ok x.Name/\ok x.Node/\ok x.cW⟩
instance:Ok cE:=⟨λx=>ok x.Name/\ok x.Node/\ok x.rD/\ok x.Discharge/\ok x.tP⟩
instance:Ok aD:=⟨λx=>ok x.bC/\ok x.aM/\ok x.aG/\ok x.dL/\ok x.bA/\ok x.bT⟩
instance:Ok bJ:=⟨λx=>ok x.Kind/\ok x.Name/\ok x.A/\ok x.B_⟩
instance:Ok aZ:=⟨λx=>ok x.Close/\ok x.Switch/\ok x.vX⟩
instance:Ok cH:=⟨λx=>ok x.bS/\ok x.oH⟩
instance:Ok aH:=⟨λx=>ok x.Time/\ok x.Kind/\ok x.Name/\ok x.Value⟩
theorem KK:og Proofs.Tryz.prog 22 (List OX):=oa Proofs.Tryz.underlying22 (by kernel_rfl) rfl (e_ PL)
theorem Jw:og Proofs.Tryz.prog 116 aX:=by
 intro Hd enc w O cs d h;obtain ⟨xs,n,rfl,rfl,hl,I,J⟩:=QX Proofs.Tryz.underlying116 h;obtain ⟨x0,Y,o0⟩:=bM (α:=OX) I J 0 (o:=0) rfl rfl (by kernel_rfl) (e_ PL)
 obtain ⟨x1,e1,o1⟩:=bM (α:=OX) I J 1 (o:=1) rfl rfl (by kernel_rfl) (e_ PL)
 obtain ⟨x2,e2,o2⟩:=bM (α:=OX) I J 2 (o:=2) rfl rfl (by kernel_rfl) (e_ PL)
 obtain ⟨x3,Z,o3⟩:=bM (α:=Bool) I J 3 (o:=3) rfl rfl (by kernel_rfl) (xV Sd)
 obtain ⟨x4,e4,o4⟩:=bM (α:=Bool) I J 4 (o:=4) rfl rfl (by kernel_rfl) (xV Sd)
 exact ⟨⟨x0,x1,x2,x3,x4⟩,piece (o:=0) Y (by rfl) (piece (o:=1) e1 (by rfl) (piece (o:=2) e2 (by rfl) (piece (o:=3) Z (by rfl) (piece (o:=4) e4 (by rfl) (pK hl (by kernel_rfl)))))),⟨o0,o1,o2,o3,o4⟩⟩
theorem KL:og Proofs.Tryz.prog 23 (List aX):=oa Proofs.Tryz.underlying23 (by kernel_rfl) rfl Jw
theorem Ju:og Proofs.Tryz.prog 110 aP:=by
 intro Hd enc w O cs d h;obtain ⟨xs,n,rfl,rfl,hl,I,J⟩:=QX Proofs.Tryz.underlying110 h;obtain ⟨x0,Y,o0⟩:=bM (α:=OX) I J 0 (o:=0) rfl rfl (by kernel_rfl) (e_ PL)
 obtain ⟨x1,e1,o1⟩:=bM (α:=OX) I J 1 (o:=1) rfl rfl (by kernel_rfl) (e_ PL)
 obtain ⟨x2,e2,o2⟩:=bM (α:=OX) I J 2 (o:=2) rfl rfl (by kernel_rfl) (e_ PL)
 obtain ⟨x3,Z,o3⟩:=bM (α:=Int) I J 3 (o:=3) rfl rfl (by kernel_rfl) (jI PS)
 obtain ⟨x4,e4,o4⟩:=bM (α:=Int) I J 4 (o:=4) rfl rfl (by kernel_rfl) (jI PS)
 obtain ⟨x5,e5,o5⟩:=bM (α:=Int) I J 5 (o:=5) rfl rfl (by kernel_rfl) (jI PS)
 obtain ⟨x6,e6,o6⟩:=bM (α:=Int) I J 6 (o:=6) rfl rfl (by kernel_rfl) (jI PS)
 obtain ⟨x7,e7,o7⟩:=bM (α:=Int) I J 7 (o:=7) rfl rfl (by kernel_rfl) (jI PS)
 obtain ⟨x8,e8,o8⟩:=bM (α:=Int) I J 8 (o:=8) rfl rfl (by kernel_rfl) (jI PS)
 exact ⟨⟨x0,x1,x2,x3,x4,x5,x6,x7,x8⟩,piece (o:=0) Y (by rfl) (piece (o:=1) e1 (by rfl) (piece (o:=2) e2 (by rfl) (piece (o:=3) Z (by rfl) (piece (o:=4) e4 (by rfl) (piece (o:=5) e5 (by rfl) (piece (o:=6) e6 (by rfl) (piece (o:=7) e7 (by rfl) (piece (o:=8) e8 (by rfl) (pK hl (by kernel_rfl)))))))))),⟨o0,o1,o2,o3,o4,o5,o6,o7,o8⟩⟩
theorem KM:og Proofs.Tryz.prog 24 (List aP):=oa Proofs.Tryz.underlying24 (by kernel_rfl) rfl Ju
theorem Jt:og Proofs.Tryz.prog 103 bE:=by
 intro Hd enc w O cs d h;obtain ⟨xs,n,rfl,rfl,hl,I,J⟩:=QX Proofs.Tryz.underlying103 h;obtain ⟨x0,Y,o0⟩:=bM (α:=OX) I J 0 (o:=0) rfl rfl (by kernel_rfl) (e_ PL)
 obtain ⟨x1,e1,o1⟩:=bM (α:=OX) I J 1 (o:=1) rfl rfl (by kernel_rfl) (e_ PL)
 obtain ⟨x2,e2,o2⟩:=bM (α:=Int) I J 2 (o:=2) rfl rfl (by kernel_rfl) (jI PS)
 obtain ⟨x3,Z,o3⟩:=bM (α:=Int) I J 3 (o:=3) rfl rfl (by kernel_rfl) (jI PS)
 obtain ⟨x4,e4,o4⟩:=bM (α:=Int) I J 4 (o:=4) rfl rfl (by kernel_rfl) (jI PS)
 exact ⟨⟨x0,x1,x2,x3,x4⟩,piece (o:=0) Y (by rfl) (piece (o:=1) e1 (by rfl) (piece (o:=2) e2 (by rfl) (piece (o:=3) Z (by rfl) (piece (o:=4) e4 (by rfl) (pK hl (by kernel_rfl)))))),⟨o0,o1,o2,o3,o4⟩⟩
theorem KN:og Proofs.Tryz.prog 25 (List bE):=oa Proofs.Tryz.underlying25 (by kernel_rfl) rfl Jt
theorem Jv:og Proofs.Tryz.prog 112 aF:=by
 intro Hd enc w O cs d h;obtain ⟨xs,n,rfl,rfl,hl,I,J⟩:=QX Proofs.Tryz.underlying112 h;obtain ⟨x0,Y,o0⟩:=bM (α:=OX) I J 0 (o:=0) rfl rfl (by kernel_rfl) (e_ PL)
 obtain ⟨x1,e1,Z⟩:=bM (α:=OX) I J 1 (o:=1) rfl rfl (by kernel_rfl) (e_ PL)
 obtain ⟨x2,e2,o2⟩:=bM (α:=Int) I J 2 (o:=2) rfl rfl (by kernel_rfl) (jI PS)
 exact ⟨⟨x0,x1,x2⟩,piece (o:=0) Y (by rfl) (piece (o:=1) e1 (by rfl) (piece (o:=2) e2 (by rfl) (pK hl (by kernel_rfl)))),⟨o0,Z,o2⟩⟩
theorem KO:og Proofs.Tryz.prog 26 (List aF):=oa Proofs.Tryz.underlying26 (by kernel_rfl) rfl Jv
theorem Jx:og Proofs.Tryz.prog 122 cE:=by
 intro Hd enc w O cs d h;obtain ⟨xs,n,rfl,rfl,hl,I,J⟩:=QX Proofs.Tryz.underlying122 h;obtain ⟨x0,Y,o0⟩:=bM (α:=OX) I J 0 (o:=0) rfl rfl (by kernel_rfl) (e_ PL)
 obtain ⟨x1,e1,o1⟩:=bM (α:=OX) I J 1 (o:=1) rfl rfl (by kernel_rfl) (e_ PL)
 obtain ⟨x2,e2,o2⟩:=bM (α:=Int) I J 2 (o:=2) rfl rfl (by kernel_rfl) (jI PS)
 obtain ⟨x3,Z,o3⟩:=bM (α:=Int) I J 3 (o:=3) rfl rfl (by kernel_rfl) (jI PS)
 obtain ⟨x4,e4,o4⟩:=bM (α:=Int) I J 4 (o:=4) rfl rfl (by kernel_rfl) (jI PS)
 exact ⟨⟨x0,x1,x2,x3,x4⟩,piece (o:=0) Y (by rfl) (piece (o:=1) e1 (by rfl) (piece (o:=2) e2 (by rfl) (piece (o:=3) Z (by rfl) (piece (o:=4) e4 (by rfl) (pK hl (by kernel_rfl)))))),⟨o0,o1,o2,o3,o4⟩⟩
theorem KP:og Proofs.Tryz.prog 27 (List cE):=oa Proofs.Tryz.underlying27 (by kernel_rfl) rfl Jx
theorem KQ:og Proofs.Tryz.prog 29 aD:=by
 intro Hd enc w fuel cs d h;obtain ⟨xs,n,rfl,rfl,hl,I,J⟩:=QX Proofs.Tryz.underlying29 h;obtain ⟨x0,⟨v0_0,e0,O⟩,o0⟩:=bM (α:=(List OX)) I J 0 (o:=0) rfl rfl (by kernel_rfl) KK
 obtain ⟨x1,⟨v1_0,e1,Y⟩,o1⟩:=bM (α:=(List aX)) I J 1 (o:=1) rfl rfl (by kernel_rfl) KL
 obtain ⟨x2,⟨v2_0,e2,Z⟩,o2⟩:=bM (α:=(List aP)) I J 2 (o:=2) rfl rfl (by kernel_rfl) KM
 obtain ⟨x3,⟨v3_0,e3,h3_0⟩,o3⟩:=bM (α:=(List bE)) I J 3 (o:=3) rfl rfl (by kernel_rfl) KN
 obtain ⟨x4,⟨v4_0,e4,h4_0⟩,o4⟩:=bM (α:=(List aF)) I J 4 (o:=4) rfl rfl (by kernel_rfl) KO
 obtain ⟨x5,⟨v5_0,e5,h5_0⟩,o5⟩:=bM (α:=(List cE)) I J 5 (o:=5) rfl rfl (by kernel_rfl) KP
 exact ⟨⟨x0,x1,x2,x3,x4,x5⟩,⟨v0_0,v1_0,v2_0,v3_0,v4_0,v5_0,piece (o:=0) e0 (by rfl) (piece (o:=1) e1 (by rfl) (piece (o:=2) e2 (by rfl) (piece (o:=3) e3 (by rfl) (piece (o:=4) e4 (by rfl) (piece (o:=5) e5 (by rfl) (pK hl (by kernel_rfl))))))),O,Y,Z,h3_0,h4_0,h5_0⟩,⟨o0,o1,o2,o3,o4,o5⟩⟩
theorem KX:og Proofs.Tryz.prog 75 bJ:=by
 intro Hd enc w O cs d h;obtain ⟨xs,n,rfl,rfl,hl,I,J⟩:=QX Proofs.Tryz.underlying75 h;obtain ⟨x0,Y,o0⟩:=bM (α:=Int) I J 0 (o:=0) rfl rfl (by kernel_rfl) (jI PS)
 obtain ⟨x1,e1,o1⟩:=bM (α:=OX) I J 1 (o:=1) rfl rfl (by kernel_rfl) (e_ PL)
 obtain ⟨x2,e2,o2⟩:=bM (α:=Int) I J 2 (o:=2) rfl rfl (by kernel_rfl) (jI PS)
 obtain ⟨x3,Z,o3⟩:=bM (α:=Int) I J 3 (o:=3) rfl rfl (by kernel_rfl) (jI PS)
 exact ⟨⟨x0,x1,x2,x3⟩,piece (o:=0) Y (by rfl) (piece (o:=1) e1 (by rfl) (piece (o:=2) e2 (by rfl) (piece (o:=3) Z (by rfl) (pK hl (by kernel_rfl))))),⟨o0,o1,o2,o3⟩⟩
theorem KV:og Proofs.Tryz.prog 64 (List bJ):=oa Proofs.Tryz.underlying64 (by kernel_rfl) rfl KX
theorem KW:og Proofs.Tryz.prog 66 aZ:=by
 intro Hd enc w Z cs d h;obtain ⟨xs,n,rfl,rfl,hl,I,Y⟩:=QX Proofs.Tryz.underlying66 h;obtain ⟨x0,e0,o0⟩:=bM (α:=Bool) I Y 0 (o:=0) rfl rfl (by kernel_rfl) (xV Sd)
 obtain ⟨x1,e1,o1⟩:=bM (α:=OX) I Y 1 (o:=1) rfl rfl (by kernel_rfl) (e_ PL)
 obtain ⟨x2,⟨O,e2,J⟩,o2⟩:=bM (α:=(List bJ)) I Y 2 (o:=2) rfl rfl (by kernel_rfl) KV
 exact ⟨⟨x0,x1,x2⟩,⟨O,piece (o:=0) e0 (by rfl) (piece (o:=1) e1 (by rfl) (piece (o:=2) e2 (by rfl) (pK hl (by kernel_rfl)))),J⟩,⟨o0,o1,o2⟩⟩
theorem KR:og Proofs.Tryz.prog 30 (List aZ):=oa Proofs.Tryz.underlying30 (by kernel_rfl) rfl KW
theorem KS:og Proofs.Tryz.prog 32 cH:=by
 intro Hd enc w fuel cs d h;obtain ⟨xs,n,rfl,rfl,hl,I,hf⟩:=QX Proofs.Tryz.underlying32 h;obtain ⟨x0,⟨v0_0,v0_1,v0_2,v0_3,v0_4,v0_5,e0,J,O,Y,Z,h0_4,h0_5⟩,o0⟩:=bM (α:=aD) I hf 0 (o:=0) rfl rfl (by kernel_rfl) KQ
 obtain ⟨x1,⟨v1_0,e1,h1_0⟩,o1⟩:=bM (α:=(List aZ)) I hf 1 (o:=6) rfl rfl (by kernel_rfl) KR
 exact ⟨⟨x0,x1⟩,⟨v0_0,v0_1,v0_2,v0_3,v0_4,v0_5,v1_0,piece (o:=0) e0 (by rfl) (piece (o:=6) e1 (by rfl) (pK hl (by kernel_rfl))),J,O,Y,Z,h0_4,h0_5,h1_0⟩,⟨o0,o1⟩⟩
theorem KU:og Proofs.Tryz.prog 42 aH:=by
 intro Hd enc w O cs d h;obtain ⟨xs,n,rfl,rfl,hl,I,J⟩:=QX Proofs.Tryz.underlying42 h;obtain ⟨x0,Y,o0⟩:=bM (α:=Int) I J 0 (o:=0) rfl rfl (by kernel_rfl) (jI PS)
 obtain ⟨x1,e1,o1⟩:=bM (α:=OX) I J 1 (o:=1) rfl rfl (by kernel_rfl) (e_ PL)
 obtain ⟨x2,e2,o2⟩:=bM (α:=OX) I J 2 (o:=2) rfl rfl (by kernel_rfl) (e_ PL)
 obtain ⟨x3,Z,o3⟩:=bM (α:=Int) I J 3 (o:=3) rfl rfl (by kernel_rfl) (jI PS)
 exact ⟨⟨x0,x1,x2,x3⟩,piece (o:=0) Y (by rfl) (piece (o:=1) e1 (by rfl) (piece (o:=2) e2 (by rfl) (piece (o:=3) Z (by rfl) (pK hl (by kernel_rfl))))),⟨o0,o1,o2,o3⟩⟩
theorem KT:og Proofs.Tryz.prog 33 (List aH):=oa Proofs.Tryz.underlying33 (by kernel_rfl) rfl KU
theorem BR {W:World} (O:laidMetH Proofs.Tryz.prog Proofs.YthomhaphclgbcaaGreatDoor.Rows.topRoomRow.laid W):xD W.heap.size W:=by
 rw [MakeChecks.laidMetH_plain _ _ _ (by kernel_rfl)] at O
 have t4:Lib.TabIs Proofs.Tryz.prog W "math/bits.deBruijn32tab" .u8 NU:=Lib.tabIs_of_head Oj (by kernel_rfl:(Proofs.Tryz.prog.globals[4]?).map (·.type)=some 302) Proofs.Tryz.underlying302 Proofs.Tryz.underlying5 (by kernel_rfl) (by kernel_rfl) (show laidMet Proofs.Tryz.prog (("math/bits.deBruijn32tab", Lib.tabData .u8 NU)::_) W from O)
 have Y:=laidMet.tail O;have t5:Lib.TabIs Proofs.Tryz.prog W "math/bits.deBruijn64tab" .u8 NV:=Lib.tabIs_of_head Ob (by kernel_rfl:(Proofs.Tryz.prog.globals[5]?).map (·.type)=some 303) Proofs.Tryz.underlying303 Proofs.Tryz.underlying5 (by kernel_rfl) (by kernel_rfl) (show laidMet Proofs.Tryz.prog (("math/bits.deBruijn64tab", Lib.tabData .u8 NV)::_) W from Y)
 have Z:=laidMet.tail Y;have t3:Lib.TabIs Proofs.Tryz.prog W "internal/strconv.uint64pow10" .u64 NC:=Lib.tabIs_of_head Oa (by kernel_rfl:(Proofs.Tryz.prog.globals[3]?).map (·.type)=some 299) Proofs.Tryz.underlying299 Proofs.Tryz.underlying205 (by kernel_rfl) (by kernel_rfl) (show laidMet Proofs.Tryz.prog (("internal/strconv.uint64pow10", Lib.tabData .u64 NC)::_) W from Z)
 have h3:=laidMet.tail Z;have J: "*" ++ "errors.errorString" = "*errors.errorString" := by decide
 have I:∀ u,Proofs.Tryz.prog.typeName? 3 u=some "*errors.errorString" -> u=287:=λu h=>typeName_ptr_named (nm:= "errors.errorString") (by rw [J]; kernel_rfl) (by kernel_rfl) (by decide) u (by rw [J]; exact h)
 obtain ⟨a2,s2,e2,-⟩:=laid_sentinel h3 Oi (by kernel_rfl:(Proofs.Tryz.prog.globals[2]?).map (·.type)=some 207) Proofs.Tryz.underlying207 I Proofs.Tryz.underlying287 Proofs.Tryz.underlying289 rfl rfl PL (by kernel_rfl) (by kernel_rfl)
 have h4:=laidMet.tail h3;obtain ⟨a1,s1,e1,-⟩:=laid_sentinel h4 Oh (by kernel_rfl:(Proofs.Tryz.prog.globals[1]?).map (·.type)=some 207) Proofs.Tryz.underlying207 I Proofs.Tryz.underlying287 Proofs.Tryz.underlying289 rfl rfl PL (by kernel_rfl) (by kernel_rfl)
 exact { lt:=Mi Ob t5,t4:=t4,t5:=t5,t3:=t3,e2:=⟨_,_,e2⟩,e1:=⟨_,_,e1⟩ }
set_option maxRecDepth 100000 in
theorem zR (hp:∀ (x0:cH) (x1:(List aH)),ok x0->ok x1->jF x0 x1=some true) (os:Os) (J:os.Started) (Hd:Type) (enc:TypeId×OY->Hd):
  ReturnsInHanded {} Proofs.Tryz.checked os 3 .any (λw args=>(Proofs.YthomhaphclgbcaaGreatDoor.Rows.topRoomSpec.pre enc Proofs.Tryz.prog Proofs.Tryz.f3 Proofs.YthomhaphclgbcaaGreatDoor.Rows.topRoomRow.domain false w args/\laidMetH Proofs.Tryz.prog Proofs.YthomhaphclgbcaaGreatDoor.Rows.topRoomRow.laid w)/\sizedMet enc Proofs.Tryz.prog Proofs.Tryz.f3 (OpenSpec.ofChange Proofs.YthomhaphclgbcaaGreatDoor.Rows.topRoomSpec) false w args) (Proofs.YthomhaphclgbcaaGreatDoor.Rows.topRoomSpec.post enc Proofs.Tryz.prog Proofs.Tryz.f3 false true false false):=by
 refine returnsInHanded_of_change_and (C:=Proofs.Tryz.checked) (X:=λw _=>laidMetH Proofs.Tryz.prog Proofs.YthomhaphclgbcaaGreatDoor.Rows.topRoomRow.laid w) (λ_ _ _ hh h=>h.of_heap hh) J_ J (by kernel_rfl) Proofs.Tryz.func3
  (ChangeSpec.witness_shaped (enc:=enc) (C:=Proofs.Tryz.checked) (os:=os) (X:=λw _=>laidMetH Proofs.Tryz.prog Proofs.YthomhaphclgbcaaGreatDoor.Rows.topRoomRow.laid w) false (World.laidAll Proofs.Tryz.prog os Proofs.YthomhaphclgbcaaGreatDoor.Rows.topRoomRow.laid) #[.agg #[.slice none 0 0,.slice none 0 0,.slice none 0 0,.slice none 0 0,.slice none 0 0,.slice none 0 0,.slice none 0 0],.slice none 0 0] 8 (World.laidAll_os _ _ _)
   (World.shaped_of_ZipB (by kernel_rfl) (by kernel_rfl)) (by kernel_rfl) (by kernel_rfl) (by kernel_rfl)
   (by rw [MakeChecks.laidMetH_plain _ _ _ (by kernel_rfl)]; exact laidMet_laidAll _ (by kernel_rfl) (by kernel_rfl))) ?_
 intro W base args ds gs O Y hW hcnd _ hL _;have I:∀ (j:Nat) t v,Proofs.Tryz.f3.params[j]? = some t->args[j]? = some v->Value.okWide Proofs.Tryz.prog W .any base t v:=Y
 haveI:xD W.heap.size W:=BR hL
 have hW2:DataW.Whole enc Proofs.Tryz.prog Proofs.Tryz.f3.params.toList Proofs.YthomhaphclgbcaaGreatDoor.Rows.topRoomSpec.vars false W args.toList ds gs O:=hW;obtain ⟨p,q,hA0,hV,rfl,hfz,hnd⟩:=hW;have hA:DataW.TrodAll enc Proofs.Tryz.prog W 0 (λ_=>true) true Proofs.Tryz.f3.params.toList args.toList ds p:=hA0;rw [Proofs.Tryz.params3] at hA I;obtain ⟨v0,vs0,d0,ds0,p0,q0,hargs,rfl,rfl,h0,r0⟩:=trodAll_cons hA;obtain ⟨v1,vs1,d1,ds1,p1,q1,rfl,rfl,rfl,h1,r1⟩:=trodAll_cons r0;obtain ⟨rfl,rfl,rfl⟩:=trodAll_nil r1;obtain rfl:args=#[v0,v1]:=by cases args; simp_all
 obtain ⟨x0,cs0,rfl,⟨v0_0,v0_1,v0_2,v0_3,v0_4,v0_5,v0_6,rfl,Z,e0_1,e0_2,e0_3,e0_4,e0_5,e0_6⟩,ok0⟩:=Ee Proofs.Tryz.underlying32 KS (I 0 32 v0 rfl rfl) h0;obtain ⟨x1,e1,ok1⟩:=Gp Proofs.Tryz.underlying33 KT (I 1 33 v1 rfl rfl) h1;have hc:=u6 (hp x0 x1 ok0 ok1) Z e0_1 e0_2 e0_3 e0_4 e0_5 e0_6 e1 (St.begin W);refine hc.mono λe W' h=>?_;cases e with
 | returned v=>
  obtain ⟨H',M',hst,hphi⟩:=h;obtain ⟨_,_,rfl⟩:=hphi;exact ⟨_,rfl,IE ID rfl rfl Sd (by kernel_rfl) hW2 (λ_=>rfl) hst.below⟩
 | _=>exact h.elim
theorem C1 (Y:∀ (J:cH) (O:(List aH)),ok J->ok O->jF J O=some true):Proofs.YthomhaphclgbcaaGreatDoor.Rows.TopRoomSaid:=
 OpenClaim.holds_of_wide 3 Proofs.Tryz.f3 rfl rfl rfl rfl rfl rfl rfl ⟨rfl,rfl,rfl,rfl,rfl⟩ rfl rfl rfl rfl rfl (by kernel_rfl) Proofs.Tryz.func3 (by kernel_rfl)
  (O6 (by kernel_rfl)) (by unfold Func.isWrapper; first | (rw [O8 (by decide +kernel)]; kernel_rfl) | (rw [O7 (by decide +kernel)]; exact ⟨rfl,rfl⟩))
  (λos I H enc _=>zR Y os I H enc)
end Go.Sim
