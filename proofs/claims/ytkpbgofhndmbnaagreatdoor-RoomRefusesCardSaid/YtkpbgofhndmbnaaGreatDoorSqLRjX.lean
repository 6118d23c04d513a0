/-
  The law of RjX.
-/
import Derived.OpenShut
import Derived.HandedShaped
import Derived.Handed
import Derived.Lay
import Derived.LaidByTextLater
import Derived.Stop.LaidErr
import Derived.Test.YtkpbgofhndmbnaaGreatDoorSqC4
set_option linter.unusedVariables false
set_option linter.unusedSimpArgs false
set_option linter.unusedSectionVars false
set_option linter.unnecessarySimpa false
namespace Go.Sim
abbrev Ul := @Go.ChangeSpec.witness_shaped
abbrev Q2 := @Go.DataW.trod_struct
abbrev SC := @Go.Lib.tabIs_of_head
abbrev SE := @Go.MakeChecks.laidMetH_plain
abbrev U3 := @Go.OpenClaim.holds_of_wide
abbrev Up := @Go.Proofs.Tryz.underlying120
abbrev Uq := @Go.Proofs.Tryz.underlying152
abbrev Ur := @Go.Proofs.Tryz.underlying156
abbrev SF := @Go.Proofs.Tryz.underlying219
abbrev UD := @Go.Proofs.Tryz.underlying22
abbrev UE := @Go.Proofs.Tryz.underlying23
abbrev UF := @Go.Proofs.Tryz.underlying24
abbrev UG := @Go.Proofs.Tryz.underlying25
abbrev UH := @Go.Proofs.Tryz.underlying26
abbrev UI := @Go.Proofs.Tryz.underlying27
abbrev UJ := @Go.Proofs.Tryz.underlying29
abbrev Qv := @Go.Proofs.Tryz.underlying3
abbrev UK := @Go.Proofs.Tryz.underlying30
abbrev SG := @Go.Proofs.Tryz.underlying309
abbrev SH := @Go.Proofs.Tryz.underlying311
abbrev Us := @Go.Proofs.Tryz.underlying313
abbrev Ut := @Go.Proofs.Tryz.underlying318
abbrev Uu := @Go.Proofs.Tryz.underlying319
abbrev SM := @Go.Proofs.Tryz.underlying32
abbrev SN := @Go.Proofs.Tryz.underlying33
abbrev RK := @Go.Proofs.Tryz.underlying4
abbrev UL := @Go.Proofs.Tryz.underlying41
abbrev UM := @Go.Proofs.Tryz.underlying45
abbrev S0 := @Go.Proofs.Tryz.underlying5
abbrev UN := @Go.Proofs.Tryz.underlying55
abbrev UO := @Go.Proofs.Tryz.underlying72
abbrev UP := @Go.Proofs.Tryz.underlying87
abbrev UQ := @Go.Proofs.Tryz.underlying89
abbrev Qt := @Go.Proofs.Tryz.underlying9
abbrev UR := @Go.Proofs.Tryz.underlying97
abbrev Vl := @Go.World.shaped_of_ZipB
abbrev SP := @Go.laidMet.tail
abbrev Ue := @Go.laid_sentinel
abbrev T3 := @Go.returnsInHanded_of_change_and
end Go.Sim
namespace Go.Sim
open Go Go.RowKit Go.ChangeShapes Go.WideShapes Go.ChangeAt
open _root_.Go.IntKind (i64 u64 u32 u8)
theorem zk:ownKnob Proofs.Tryz.prog.godebug=none:=by kernel_rfl
theorem xC:laidOutB Proofs.Tryz.prog=true:=by kernel_rfl
instance:Ok aV:=⟨λx=>ok x.Name/\ok x.A/\ok x.B_/\ok x.um/\ok x.Open⟩
instance:Ok aP:=⟨λx=>ok x.Name/\ok x.pI/\ok x.To/\ok x.X/\ok x.AZ/\ok x.Shift/\ok x.sC/\ok x.vZ/\ok x.Bh⟩
instance:Ok bD:=⟨λx=>ok x.Name/\ok x.Node/\ok x.jC/\ok x.qH/\ok x.AL⟩
instance:Ok aG:=⟨λx=>ok x.Name/\ok x.Node/\ok x.dA⟩
instance:Ok bW:=⟨λx=>ok x.Name/\ok x.Node/\ok x.rB/\ok x.Discharge/\ok x.sB⟩
instance:Ok aD:=⟨λx=>ok x.bF/\ok x.aN/\ok x.aI/\ok x.dB/\ok x.bC/\ok x.bS⟩
instance:Ok bB:=⟨λx=>ok x.Kind/\ok x.Name/\ok x.A/\ok x.B_⟩
instance:Ok aT:=⟨λx=>ok x.Close/\ok x.Switch/\ok x.vY⟩
instance:Ok aX:=⟨λx=>ok x.bN/\ok x.nf⟩
instance:Ok aE:=⟨λx=>ok x.Time/\ok x.Kind/\ok x.Name/\ok x.Value⟩
theorem zC:eZ Proofs.Tryz.prog 22 (List Qi):=d_ UD (by kernel_rfl) rfl (bH Qt)
theorem zM:eZ Proofs.Tryz.prog 41 aV:=by
 intro Hd enc w fuel cs d h;obtain ⟨xs,n,rfl,rfl,hl,hlen,hf⟩:=Q2 UL h;obtain ⟨x0,e0,o0⟩:=aF (α:=Qi) hlen hf 0 (o:=0) rfl rfl (by kernel_rfl) (bH Qt)
 obtain ⟨x1,e1,o1⟩:=aF (α:=Qi) hlen hf 1 (o:=1) rfl rfl (by kernel_rfl) (bH Qt)
 obtain ⟨x2,e2,o2⟩:=aF (α:=Qi) hlen hf 2 (o:=2) rfl rfl (by kernel_rfl) (bH Qt)
 obtain ⟨x3,e3,o3⟩:=aF (α:=Bool) hlen hf 3 (o:=3) rfl rfl (by kernel_rfl) (qp RK)
 obtain ⟨x4,e4,o4⟩:=aF (α:=Bool) hlen hf 4 (o:=4) rfl rfl (by kernel_rfl) (qp RK)
 exact ⟨⟨x0,x1,x2,x3,x4⟩,piece (o:=0) e0 (by rfl) (piece (o:=1) e1 (by rfl) (piece (o:=2) e2 (by rfl) (piece (o:=3) e3 (by rfl) (piece (o:=4) e4 (by rfl) (eO hl (by kernel_rfl)))))),⟨o0,o1,o2,o3,o4⟩⟩
theorem zD:eZ Proofs.Tryz.prog 23 (List aV):=d_ UE (by kernel_rfl) rfl zM
theorem xR:eZ Proofs.Tryz.prog 120 aP:=by
 intro Hd enc w fuel cs d h;obtain ⟨xs,n,rfl,rfl,hl,hlen,hf⟩:=Q2 Up h;obtain ⟨x0,e0,o0⟩:=aF (α:=Qi) hlen hf 0 (o:=0) rfl rfl (by kernel_rfl) (bH Qt)
 obtain ⟨x1,e1,o1⟩:=aF (α:=Qi) hlen hf 1 (o:=1) rfl rfl (by kernel_rfl) (bH Qt)
 obtain ⟨x2,e2,o2⟩:=aF (α:=Qi) hlen hf 2 (o:=2) rfl rfl (by kernel_rfl) (bH Qt)
 obtain ⟨x3,e3,o3⟩:=aF (α:=Int) hlen hf 3 (o:=3) rfl rfl (by kernel_rfl) (bZ Qv)
 obtain ⟨x4,e4,o4⟩:=aF (α:=Int) hlen hf 4 (o:=4) rfl rfl (by kernel_rfl) (bZ Qv)
 obtain ⟨x5,e5,o5⟩:=aF (α:=Int) hlen hf 5 (o:=5) rfl rfl (by kernel_rfl) (bZ Qv)
 obtain ⟨x6,e6,o6⟩:=aF (α:=Int) hlen hf 6 (o:=6) rfl rfl (by kernel_rfl) (bZ Qv)
 obtain ⟨x7,e7,o7⟩:=aF (α:=Int) hlen hf 7 (o:=7) rfl rfl (by kernel_rfl) (bZ Qv)
 obtain ⟨x8,e8,o8⟩:=aF (α:=Int) hlen hf 8 (o:=8) rfl rfl (by kernel_rfl) (bZ Qv)
 exact ⟨⟨x0,x1,x2,x3,x4,x5,x6,x7,x8⟩,piece (o:=0) e0 (by rfl) (piece (o:=1) e1 (by rfl) (piece (o:=2) e2 (by rfl) (piece (o:=3) e3 (by rfl) (piece (o:=4) e4 (by rfl) (piece (o:=5) e5 (by rfl) (piece (o:=6) e6 (by rfl) (piece (o:=7) e7 (by rfl) (piece (o:=8) e8 (by rfl) (eO hl (by kernel_rfl)))))))))),⟨o0,o1,o2,o3,o4,o5,o6,o7,o8⟩⟩
theorem zE:eZ Proofs.Tryz.prog 24 (List aP):=d_ UF (by kernel_rfl) rfl xR
theorem xS:eZ Proofs.Tryz.prog 152 bD:=by
 intro Hd enc w fuel cs d h;obtain ⟨xs,n,rfl,rfl,hl,hlen,hf⟩:=Q2 Uq h;obtain ⟨x0,e0,o0⟩:=aF (α:=Qi) hlen hf 0 (o:=0) rfl rfl (by kernel_rfl) (bH Qt)
 obtain ⟨x1,e1,o1⟩:=aF (α:=Qi) hlen hf 1 (o:=1) rfl rfl (by kernel_rfl) (bH Qt)
 obtain ⟨x2,e2,o2⟩:=aF (α:=Int) hlen hf 2 (o:=2) rfl rfl (by kernel_rfl) (bZ Qv)
 obtain ⟨x3,e3,o3⟩:=aF (α:=Int) hlen hf 3 (o:=3) rfl rfl (by kernel_rfl) (bZ Qv)
 obtain ⟨x4,e4,o4⟩:=aF (α:=Int) hlen hf 4 (o:=4) rfl rfl (by kernel_rfl) (bZ Qv)
 exact ⟨⟨x0,x1,x2,x3,x4⟩,piece (o:=0) e0 (by rfl) (piece (o:=1) e1 (by rfl) (piece (o:=2) e2 (by rfl) (piece (o:=3) e3 (by rfl) (piece (o:=4) e4 (by rfl) (eO hl (by kernel_rfl)))))),⟨o0,o1,o2,o3,o4⟩⟩
theorem zF:eZ Proofs.Tryz.prog 25 (List bD):=d_ UG (by kernel_rfl) rfl xS
theorem zO:eZ Proofs.Tryz.prog 55 aG:=by
 intro Hd enc w fuel cs d h;obtain ⟨xs,n,rfl,rfl,hl,hlen,hf⟩:=Q2 UN h;obtain ⟨x0,e0,o0⟩:=aF (α:=Qi) hlen hf 0 (o:=0) rfl rfl (by kernel_rfl) (bH Qt)
 obtain ⟨x1,e1,o1⟩:=aF (α:=Qi) hlen hf 1 (o:=1) rfl rfl (by kernel_rfl) (bH Qt)
 obtain ⟨x2,e2,o2⟩:=aF (α:=Int) hlen hf 2 (o:=2) rfl rfl (by kernel_rfl) (bZ Qv)
 exact ⟨⟨x0,x1,x2⟩,piece (o:=0) e0 (by rfl) (piece (o:=1) e1 (by rfl) (piece (o:=2) e2 (by rfl) (eO hl (by kernel_rfl)))),⟨o0,o1,o2⟩⟩
theorem zG:eZ Proofs.Tryz.prog 26 (List aG):=d_ UH (by kernel_rfl) rfl zO
theorem xT:eZ Proofs.Tryz.prog 156 bW:=by
 intro Hd enc w fuel cs d h;obtain ⟨xs,n,rfl,rfl,hl,hlen,hf⟩:=Q2 Ur h;obtain ⟨x0,e0,o0⟩:=aF (α:=Qi) hlen hf 0 (o:=0) rfl rfl (by kernel_rfl) (bH Qt)
 obtain ⟨x1,e1,o1⟩:=aF (α:=Qi) hlen hf 1 (o:=1) rfl rfl (by kernel_rfl) (bH Qt)
 obtain ⟨x2,e2,o2⟩:=aF (α:=Int) hlen hf 2 (o:=2) rfl rfl (by kernel_rfl) (bZ Qv)
 obtain ⟨x3,e3,o3⟩:=aF (α:=Int) hlen hf 3 (o:=3) rfl rfl (by kernel_rfl) (bZ Qv)
 obtain ⟨x4,e4,o4⟩:=aF (α:=Int) hlen hf 4 (o:=4) rfl rfl (by kernel_rfl) (bZ Qv)
 exact ⟨⟨x0,x1,x2,x3,x4⟩,piece (o:=0) e0 (by rfl) (piece (o:=1) e1 (by rfl) (piece (o:=2) e2 (by rfl) (piece (o:=3) e3 (by rfl) (piece (o:=4) e4 (by rfl) (eO hl (by kernel_rfl)))))),⟨o0,o1,o2,o3,o4⟩⟩
theorem zH:eZ Proofs.Tryz.prog 27 (List bW):=d_ UI (by kernel_rfl) rfl xT
theorem zI:eZ Proofs.Tryz.prog 29 aD:=by
 intro Hd enc w fuel cs d h;obtain ⟨xs,n,rfl,rfl,hl,hlen,hf⟩:=Q2 UJ h;obtain ⟨x0,⟨v0_0,e0,h0_0⟩,o0⟩:=aF (α:=(List Qi)) hlen hf 0 (o:=0) rfl rfl (by kernel_rfl) zC
 obtain ⟨x1,⟨v1_0,e1,h1_0⟩,o1⟩:=aF (α:=(List aV)) hlen hf 1 (o:=1) rfl rfl (by kernel_rfl) zD
 obtain ⟨x2,⟨v2_0,e2,h2_0⟩,o2⟩:=aF (α:=(List aP)) hlen hf 2 (o:=2) rfl rfl (by kernel_rfl) zE
 obtain ⟨x3,⟨v3_0,e3,h3_0⟩,o3⟩:=aF (α:=(List bD)) hlen hf 3 (o:=3) rfl rfl (by kernel_rfl) zF
 obtain ⟨x4,⟨v4_0,e4,h4_0⟩,o4⟩:=aF (α:=(List aG)) hlen hf 4 (o:=4) rfl rfl (by kernel_rfl) zG
 obtain ⟨x5,⟨v5_0,e5,h5_0⟩,o5⟩:=aF (α:=(List bW)) hlen hf 5 (o:=5) rfl rfl (by kernel_rfl) zH
 exact ⟨⟨x0,x1,x2,x3,x4,x5⟩,⟨v0_0,v1_0,v2_0,v3_0,v4_0,v5_0,piece (o:=0) e0 (by rfl) (piece (o:=1) e1 (by rfl) (piece (o:=2) e2 (by rfl) (piece (o:=3) e3 (by rfl) (piece (o:=4) e4 (by rfl) (piece (o:=5) e5 (by rfl) (eO hl (by kernel_rfl))))))),h0_0,h1_0,h2_0,h3_0,h4_0,h5_0⟩,⟨o0,o1,o2,o3,o4,o5⟩⟩
theorem zR:eZ Proofs.Tryz.prog 97 bB:=by
 intro Hd enc w fuel cs d h;obtain ⟨xs,n,rfl,rfl,hl,hlen,hf⟩:=Q2 UR h;obtain ⟨x0,e0,o0⟩:=aF (α:=Int) hlen hf 0 (o:=0) rfl rfl (by kernel_rfl) (bZ Qv)
 obtain ⟨x1,e1,o1⟩:=aF (α:=Qi) hlen hf 1 (o:=1) rfl rfl (by kernel_rfl) (bH Qt)
 obtain ⟨x2,e2,o2⟩:=aF (α:=Int) hlen hf 2 (o:=2) rfl rfl (by kernel_rfl) (bZ Qv)
 obtain ⟨x3,e3,o3⟩:=aF (α:=Int) hlen hf 3 (o:=3) rfl rfl (by kernel_rfl) (bZ Qv)
 exact ⟨⟨x0,x1,x2,x3⟩,piece (o:=0) e0 (by rfl) (piece (o:=1) e1 (by rfl) (piece (o:=2) e2 (by rfl) (piece (o:=3) e3 (by rfl) (eO hl (by kernel_rfl))))),⟨o0,o1,o2,o3⟩⟩
theorem zP:eZ Proofs.Tryz.prog 87 (List bB):=d_ UP (by kernel_rfl) rfl zR
theorem zQ:eZ Proofs.Tryz.prog 89 aT:=by
 intro Hd enc w fuel cs d h;obtain ⟨xs,n,rfl,rfl,hl,hlen,hf⟩:=Q2 UQ h;obtain ⟨x0,e0,o0⟩:=aF (α:=Bool) hlen hf 0 (o:=0) rfl rfl (by kernel_rfl) (qp RK)
 obtain ⟨x1,e1,o1⟩:=aF (α:=Qi) hlen hf 1 (o:=1) rfl rfl (by kernel_rfl) (bH Qt)
 obtain ⟨x2,⟨v2_0,e2,h2_0⟩,o2⟩:=aF (α:=(List bB)) hlen hf 2 (o:=2) rfl rfl (by kernel_rfl) zP
 exact ⟨⟨x0,x1,x2⟩,⟨v2_0,piece (o:=0) e0 (by rfl) (piece (o:=1) e1 (by rfl) (piece (o:=2) e2 (by rfl) (eO hl (by kernel_rfl)))),h2_0⟩,⟨o0,o1,o2⟩⟩
theorem zJ:eZ Proofs.Tryz.prog 30 (List aT):=d_ UK (by kernel_rfl) rfl zQ
theorem zK:eZ Proofs.Tryz.prog 32 aX:=by
 intro Hd enc w fuel cs d h;obtain ⟨xs,n,rfl,rfl,hl,hlen,hf⟩:=Q2 SM h;obtain ⟨x0,⟨v0_0,v0_1,v0_2,v0_3,v0_4,v0_5,e0,h0_0,h0_1,h0_2,h0_3,h0_4,h0_5⟩,o0⟩:=aF (α:=aD) hlen hf 0 (o:=0) rfl rfl (by kernel_rfl) zI
 obtain ⟨x1,⟨v1_0,e1,h1_0⟩,o1⟩:=aF (α:=(List aT)) hlen hf 1 (o:=6) rfl rfl (by kernel_rfl) zJ
 exact ⟨⟨x0,x1⟩,⟨v0_0,v0_1,v0_2,v0_3,v0_4,v0_5,v1_0,piece (o:=0) e0 (by rfl) (piece (o:=6) e1 (by rfl) (eO hl (by kernel_rfl))),h0_0,h0_1,h0_2,h0_3,h0_4,h0_5,h1_0⟩,⟨o0,o1⟩⟩
theorem zN:eZ Proofs.Tryz.prog 45 aE:=by
 intro Hd enc w fuel cs d h;obtain ⟨xs,n,rfl,rfl,hl,hlen,hf⟩:=Q2 UM h;obtain ⟨x0,e0,o0⟩:=aF (α:=Int) hlen hf 0 (o:=0) rfl rfl (by kernel_rfl) (bZ Qv)
 obtain ⟨x1,e1,o1⟩:=aF (α:=Qi) hlen hf 1 (o:=1) rfl rfl (by kernel_rfl) (bH Qt)
 obtain ⟨x2,e2,o2⟩:=aF (α:=Qi) hlen hf 2 (o:=2) rfl rfl (by kernel_rfl) (bH Qt)
 obtain ⟨x3,e3,o3⟩:=aF (α:=Int) hlen hf 3 (o:=3) rfl rfl (by kernel_rfl) (bZ Qv)
 exact ⟨⟨x0,x1,x2,x3⟩,piece (o:=0) e0 (by rfl) (piece (o:=1) e1 (by rfl) (piece (o:=2) e2 (by rfl) (piece (o:=3) e3 (by rfl) (eO hl (by kernel_rfl))))),⟨o0,o1,o2,o3⟩⟩
theorem zL:eZ Proofs.Tryz.prog 33 (List aE):=d_ SN (by kernel_rfl) rfl zN
theorem zZ {W:World} (h0:laidMetH Proofs.Tryz.prog Proofs.YtkpbgofhndmbnaaGreatDoor.Rows.roomRefusesRow.laid W):vo W.heap.size W:=by
 rw [SE _ _ _ (by kernel_rfl)] at h0
 have t4:Lib.TabIs Proofs.Tryz.prog W "math/bits.deBruijn32tab" .u8 Ni:=SC Pj (by kernel_rfl:(Proofs.Tryz.prog.globals[4]?).map (·.type)=some 318) Ut S0 (by kernel_rfl) (by kernel_rfl) (show laidMet Proofs.Tryz.prog (("math/bits.deBruijn32tab", Lib.tabData .u8 Ni)::_) W from h0)
 have h1:=SP h0;have t5:Lib.TabIs Proofs.Tryz.prog W "math/bits.deBruijn64tab" .u8 Nj:=SC N3 (by kernel_rfl:(Proofs.Tryz.prog.globals[5]?).map (·.type)=some 319) Uu S0 (by kernel_rfl) (by kernel_rfl) (show laidMet Proofs.Tryz.prog (("math/bits.deBruijn64tab", Lib.tabData .u8 Nj)::_) W from h1)
 have h2:=SP h1;have t3:Lib.TabIs Proofs.Tryz.prog W "internal/strconv.uint64pow10" .u64 Lt:=SC Ol (by kernel_rfl:(Proofs.Tryz.prog.globals[3]?).map (·.type)=some 313) Us UO (by kernel_rfl) (by kernel_rfl) (show laidMet Proofs.Tryz.prog (("internal/strconv.uint64pow10", Lib.tabData .u64 Lt)::_) W from h2)
 have h3:=SP h2;have star: "*" ++ "errors.errorString" = "*errors.errorString" := by decide
 have rowe:∀ u,Proofs.Tryz.prog.typeName? 3 u=some "*errors.errorString" -> u=309:=λu h=>typeName_ptr_named (nm:= "errors.errorString") (by rw [star]; kernel_rfl) (by kernel_rfl) (by decide) u (by rw [star]; exact h)
 obtain ⟨a2,s2,e2,-⟩:=Ue h3 Ph (by kernel_rfl:(Proofs.Tryz.prog.globals[2]?).map (·.type)=some 219) SF rowe SG SH rfl rfl Qt (by kernel_rfl) (by kernel_rfl)
 have h4:=SP h3;obtain ⟨a1,s1,e1,-⟩:=Ue h4 Pg (by kernel_rfl:(Proofs.Tryz.prog.globals[1]?).map (·.type)=some 219) SF rowe SG SH rfl rfl Qt (by kernel_rfl) (by kernel_rfl)
 exact { lt:=GO N3 t5,t4:=t4,t5:=t5,t3:=t3,e2:=⟨_,_,e2⟩,e1:=⟨_,_,e1⟩ }
set_option maxRecDepth 100000 in
theorem yB (hp:∀ (x0:aX) (x1:(List aE)),ok x0->ok x1->gB x0 x1=some true) (os:Os) (started:os.Started) (Hd:Type) (enc:TypeId×Qj->Hd):
  ReturnsInHanded {} Proofs.Tryz.checked os 7 .any (λw args=>(Proofs.YtkpbgofhndmbnaaGreatDoor.Rows.roomRefusesSpec.pre enc Proofs.Tryz.prog Proofs.Tryz.f7 Proofs.YtkpbgofhndmbnaaGreatDoor.Rows.roomRefusesRow.domain false w args/\laidMetH Proofs.Tryz.prog Proofs.YtkpbgofhndmbnaaGreatDoor.Rows.roomRefusesRow.laid w)/\sizedMet enc Proofs.Tryz.prog Proofs.Tryz.f7 (OpenSpec.ofChange Proofs.YtkpbgofhndmbnaaGreatDoor.Rows.roomRefusesSpec) false w args) (Proofs.YtkpbgofhndmbnaaGreatDoor.Rows.roomRefusesSpec.post enc Proofs.Tryz.prog Proofs.Tryz.f7 false true false false):=by
 refine T3 (C:=Proofs.Tryz.checked) (X:=λw _=>laidMetH Proofs.Tryz.prog Proofs.YtkpbgofhndmbnaaGreatDoor.Rows.roomRefusesRow.laid w) (λ_ _ _ hh h=>h.of_heap hh) zk started (by kernel_rfl) Proofs.Tryz.func7
  (Ul (enc:=enc) (C:=Proofs.Tryz.checked) (os:=os) (X:=λw _=>laidMetH Proofs.Tryz.prog Proofs.YtkpbgofhndmbnaaGreatDoor.Rows.roomRefusesRow.laid w) false (World.laidAll Proofs.Tryz.prog os Proofs.YtkpbgofhndmbnaaGreatDoor.Rows.roomRefusesRow.laid) #[.agg #[.slice none 0 0,.slice none 0 0,.slice none 0 0,.slice none 0 0,.slice none 0 0,.slice none 0 0,.slice none 0 0],.slice none 0 0] 8 (World.laidAll_os _ _ _)
   (Vl (by kernel_rfl) (by kernel_rfl)) (by kernel_rfl) (by kernel_rfl) (by kernel_rfl)
   (by rw [SE _ _ _ (by kernel_rfl)]; exact laidMet_laidAll _ (by kernel_rfl) (by kernel_rfl))) ?_
 intro W base args ds gs before hval0 hW hcnd _ hL _;have hval:∀ (j:Nat) t v,Proofs.Tryz.f7.params[j]? = some t->args[j]? = some v->Value.okWide Proofs.Tryz.prog W .any base t v:=hval0
 haveI:vo W.heap.size W:=zZ hL
 have hW2:DataW.Whole enc Proofs.Tryz.prog Proofs.Tryz.f7.params.toList Proofs.YtkpbgofhndmbnaaGreatDoor.Rows.roomRefusesSpec.vars false W args.toList ds gs before:=hW;obtain ⟨p,q,hA0,hV,rfl,hfz,hnd⟩:=hW;have hA:DataW.TrodAll enc Proofs.Tryz.prog W 0 (λ_=>true) true Proofs.Tryz.f7.params.toList args.toList ds p:=hA0;rw [Proofs.Tryz.params7] at hA hval;obtain ⟨v0,vs0,d0,ds0,p0,q0,hargs,rfl,rfl,h0,r0⟩:=trodAll_cons hA;obtain ⟨v1,vs1,d1,ds1,p1,q1,rfl,rfl,rfl,h1,r1⟩:=trodAll_cons r0;obtain ⟨rfl,rfl,rfl⟩:=trodAll_nil r1;obtain rfl:args=#[v0,v1]:=by cases args; simp_all
 obtain ⟨x0,cs0,rfl,⟨v0_0,v0_1,v0_2,v0_3,v0_4,v0_5,v0_6,rfl,e0_0,e0_1,e0_2,e0_3,e0_4,e0_5,e0_6⟩,ok0⟩:=yE SM zK (hval 0 32 v0 rfl rfl) h0;obtain ⟨x1,e1,ok1⟩:=Ab SN zL (hval 1 33 v1 rfl rfl) h1;have hc:=tS (hp x0 x1 ok0 ok1) e0_0 e0_1 e0_2 e0_3 e0_4 e0_5 e0_6 e1 (St.begin W);refine hc.mono λe W' h=>?_;cases e with
 | returned v=>
  obtain ⟨H',M',hst,hphi⟩:=h;obtain ⟨_,_,rfl⟩:=hphi;exact ⟨_,rfl,B3 xC rfl rfl RK (by kernel_rfl) hW2 (λ_=>rfl) hst.below⟩
 | _=>exact h.elim
theorem AM (hp:∀ (x0:aX) (x1:(List aE)),ok x0->ok x1->gB x0 x1=some true):Proofs.YtkpbgofhndmbnaaGreatDoor.Rows.RoomRefusesSaid:=
 U3 7 Proofs.Tryz.f7 rfl rfl rfl rfl rfl rfl rfl ⟨rfl,rfl,rfl,rfl,rfl⟩ rfl rfl rfl rfl rfl (by kernel_rfl) Proofs.Tryz.func7 (by kernel_rfl)
  (Qr (by kernel_rfl)) (by unfold Func.isWrapper; first | (rw [Qu (by decide +kernel)]; kernel_rfl) | (rw [Qs (by decide +kernel)]; exact ⟨rfl,rfl⟩))
  (λos started H enc _=>yB hp os started H enc)
end Go.Sim
