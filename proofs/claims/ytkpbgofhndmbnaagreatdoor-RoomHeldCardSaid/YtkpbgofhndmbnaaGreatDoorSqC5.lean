/-
  The proof, part C5.
-/
import Derived.Test.YtkpbgofhndmbnaaGreatDoorSqC4
set_option linter.unusedVariables false
set_option linter.unusedSimpArgs false
set_option linter.unusedSectionVars false
set_option linter.unnecessarySimpa false
namespace Go.Sim
open Go Go.RowKit Go.ChangeShapes Go.WideShapes Go.ChangeAt
open _root_.Go.IntKind (i64 u64 u32 u8)
theorem J0:ownKnob Proofs.Tryz.prog.godebug=none:=by kernel_rfl
theorem IC:laidOutB Proofs.Tryz.prog=true:=by kernel_rfl
instance:Ok aK:=⟨λx=>ok x.Name/\ok x.A/\ok x.B_/\ok x.lZ/\ok x.Open⟩
instance:Ok aO:=⟨λx=>ok x.Name/\ok x.oS/\ok x.To/\ok x.X/\ok x.A5/\ok x.Shift/\ok x.sK/\ok x.wz/\ok x.BN⟩
instance:Ok bB:=⟨λx=>ok x.Name/\ok x.Node/\ok x.iH/\ok x.pX/\ok x.A9⟩
instance:Ok aE:=⟨λx=>ok x.Name/\ok x.Node/\ok x.cV⟩
instance:Ok bS:=⟨λx=>ok x.Name/\ok x.Node/\ok x.rA/\ok x.Discharge/\ok x.tM⟩
instance:Ok aD:=⟨λx=>ok x.a_/\ok x.aH/\ok x.aG/\ok x.cR/\ok x.aY/\ok x.bM⟩
instance:Ok bH:=⟨λx=>ok x.Kind/\ok x.Name/\ok x.A/\ok x.B_⟩
instance:Ok aX:=⟨λx=>ok x.Close/\ok x.Switch/\ok x.vU⟩
instance:Ok cI:=⟨λx=>ok x.bZ/\ok x.oM⟩
instance:Ok aI:=⟨λx=>ok x.Time/\ok x.Kind/\ok x.Name/\ok x.Value⟩
theorem KB:oy Proofs.Tryz.prog 22 (List ByteArray):=ot Proofs.Tryz.underlying22 (by kernel_rfl) rfl (fB PJ)
theorem KL:oy Proofs.Tryz.prog 41 aK:=by
 intro Hd enc w fuel cs d h;obtain ⟨xs,n,rfl,rfl,hl,hlen,hf⟩:=QV Proofs.Tryz.underlying41 h;obtain ⟨x0,e0,o0⟩:=bN (α:=ByteArray) hlen hf 0 (o:=0) rfl rfl (by kernel_rfl) (fB PJ)
 obtain ⟨x1,e1,o1⟩:=bN (α:=ByteArray) hlen hf 1 (o:=1) rfl rfl (by kernel_rfl) (fB PJ)
 obtain ⟨x2,e2,o2⟩:=bN (α:=ByteArray) hlen hf 2 (o:=2) rfl rfl (by kernel_rfl) (fB PJ)
 obtain ⟨x3,e3,o3⟩:=bN (α:=Bool) hlen hf 3 (o:=3) rfl rfl (by kernel_rfl) (xP Sa)
 obtain ⟨x4,e4,o4⟩:=bN (α:=Bool) hlen hf 4 (o:=4) rfl rfl (by kernel_rfl) (xP Sa)
 exact ⟨⟨x0,x1,x2,x3,x4⟩,piece (o:=0) e0 (by rfl) (piece (o:=1) e1 (by rfl) (piece (o:=2) e2 (by rfl) (piece (o:=3) e3 (by rfl) (piece (o:=4) e4 (by rfl) (pI hl (by kernel_rfl)))))),⟨o0,o1,o2,o3,o4⟩⟩
theorem KC:oy Proofs.Tryz.prog 23 (List aK):=ot Proofs.Tryz.underlying23 (by kernel_rfl) rfl KL
theorem Jm:oy Proofs.Tryz.prog 120 aO:=by
 intro Hd enc w fuel cs d h;obtain ⟨xs,n,rfl,rfl,hl,hlen,hf⟩:=QV Proofs.Tryz.underlying120 h;obtain ⟨x0,e0,o0⟩:=bN (α:=ByteArray) hlen hf 0 (o:=0) rfl rfl (by kernel_rfl) (fB PJ)
 obtain ⟨x1,e1,o1⟩:=bN (α:=ByteArray) hlen hf 1 (o:=1) rfl rfl (by kernel_rfl) (fB PJ)
 obtain ⟨x2,e2,o2⟩:=bN (α:=ByteArray) hlen hf 2 (o:=2) rfl rfl (by kernel_rfl) (fB PJ)
 obtain ⟨x3,e3,o3⟩:=bN (α:=Int) hlen hf 3 (o:=3) rfl rfl (by kernel_rfl) (i_ PI)
 obtain ⟨x4,e4,o4⟩:=bN (α:=Int) hlen hf 4 (o:=4) rfl rfl (by kernel_rfl) (i_ PI)
 obtain ⟨x5,e5,o5⟩:=bN (α:=Int) hlen hf 5 (o:=5) rfl rfl (by kernel_rfl) (i_ PI)
 obtain ⟨x6,e6,o6⟩:=bN (α:=Int) hlen hf 6 (o:=6) rfl rfl (by kernel_rfl) (i_ PI)
 obtain ⟨x7,e7,o7⟩:=bN (α:=Int) hlen hf 7 (o:=7) rfl rfl (by kernel_rfl) (i_ PI)
 obtain ⟨x8,e8,o8⟩:=bN (α:=Int) hlen hf 8 (o:=8) rfl rfl (by kernel_rfl) (i_ PI)
 exact ⟨⟨x0,x1,x2,x3,x4,x5,x6,x7,x8⟩,piece (o:=0) e0 (by rfl) (piece (o:=1) e1 (by rfl) (piece (o:=2) e2 (by rfl) (piece (o:=3) e3 (by rfl) (piece (o:=4) e4 (by rfl) (piece (o:=5) e5 (by rfl) (piece (o:=6) e6 (by rfl) (piece (o:=7) e7 (by rfl) (piece (o:=8) e8 (by rfl) (pI hl (by kernel_rfl)))))))))),⟨o0,o1,o2,o3,o4,o5,o6,o7,o8⟩⟩
theorem KD:oy Proofs.Tryz.prog 24 (List aO):=ot Proofs.Tryz.underlying24 (by kernel_rfl) rfl Jm
theorem Jn:oy Proofs.Tryz.prog 152 bB:=by
 intro Hd enc w fuel cs d h;obtain ⟨xs,n,rfl,rfl,hl,hlen,hf⟩:=QV Proofs.Tryz.underlying152 h;obtain ⟨x0,e0,o0⟩:=bN (α:=ByteArray) hlen hf 0 (o:=0) rfl rfl (by kernel_rfl) (fB PJ)
 obtain ⟨x1,e1,o1⟩:=bN (α:=ByteArray) hlen hf 1 (o:=1) rfl rfl (by kernel_rfl) (fB PJ)
 obtain ⟨x2,e2,o2⟩:=bN (α:=Int) hlen hf 2 (o:=2) rfl rfl (by kernel_rfl) (i_ PI)
 obtain ⟨x3,e3,o3⟩:=bN (α:=Int) hlen hf 3 (o:=3) rfl rfl (by kernel_rfl) (i_ PI)
 obtain ⟨x4,e4,o4⟩:=bN (α:=Int) hlen hf 4 (o:=4) rfl rfl (by kernel_rfl) (i_ PI)
 exact ⟨⟨x0,x1,x2,x3,x4⟩,piece (o:=0) e0 (by rfl) (piece (o:=1) e1 (by rfl) (piece (o:=2) e2 (by rfl) (piece (o:=3) e3 (by rfl) (piece (o:=4) e4 (by rfl) (pI hl (by kernel_rfl)))))),⟨o0,o1,o2,o3,o4⟩⟩
theorem KE:oy Proofs.Tryz.prog 25 (List bB):=ot Proofs.Tryz.underlying25 (by kernel_rfl) rfl Jn
theorem KN:oy Proofs.Tryz.prog 55 aE:=by
 intro Hd enc w fuel cs d h;obtain ⟨xs,n,rfl,rfl,hl,hlen,hf⟩:=QV Proofs.Tryz.underlying55 h;obtain ⟨x0,e0,o0⟩:=bN (α:=ByteArray) hlen hf 0 (o:=0) rfl rfl (by kernel_rfl) (fB PJ)
 obtain ⟨x1,e1,o1⟩:=bN (α:=ByteArray) hlen hf 1 (o:=1) rfl rfl (by kernel_rfl) (fB PJ)
 obtain ⟨x2,e2,o2⟩:=bN (α:=Int) hlen hf 2 (o:=2) rfl rfl (by kernel_rfl) (i_ PI)
 exact ⟨⟨x0,x1,x2⟩,piece (o:=0) e0 (by rfl) (piece (o:=1) e1 (by rfl) (piece (o:=2) e2 (by rfl) (pI hl (by kernel_rfl)))),⟨o0,o1,o2⟩⟩
theorem KF:oy Proofs.Tryz.prog 26 (List aE):=ot Proofs.Tryz.underlying26 (by kernel_rfl) rfl KN
theorem Jo:oy Proofs.Tryz.prog 156 bS:=by
 intro Hd enc w fuel cs d h;obtain ⟨xs,n,rfl,rfl,hl,hlen,hf⟩:=QV Proofs.Tryz.underlying156 h;obtain ⟨x0,e0,o0⟩:=bN (α:=ByteArray) hlen hf 0 (o:=0) rfl rfl (by kernel_rfl) (fB PJ)
 obtain ⟨x1,e1,o1⟩:=bN (α:=ByteArray) hlen hf 1 (o:=1) rfl rfl (by kernel_rfl) (fB PJ)
 obtain ⟨x2,e2,o2⟩:=bN (α:=Int) hlen hf 2 (o:=2) rfl rfl (by kernel_rfl) (i_ PI)
 obtain ⟨x3,e3,o3⟩:=bN (α:=Int) hlen hf 3 (o:=3) rfl rfl (by kernel_rfl) (i_ PI)
 obtain ⟨x4,e4,o4⟩:=bN (α:=Int) hlen hf 4 (o:=4) rfl rfl (by kernel_rfl) (i_ PI)
 exact ⟨⟨x0,x1,x2,x3,x4⟩,piece (o:=0) e0 (by rfl) (piece (o:=1) e1 (by rfl) (piece (o:=2) e2 (by rfl) (piece (o:=3) e3 (by rfl) (piece (o:=4) e4 (by rfl) (pI hl (by kernel_rfl)))))),⟨o0,o1,o2,o3,o4⟩⟩
theorem KG:oy Proofs.Tryz.prog 27 (List bS):=ot Proofs.Tryz.underlying27 (by kernel_rfl) rfl Jo
theorem KH:oy Proofs.Tryz.prog 29 aD:=by
 intro Hd enc w fuel cs d h;obtain ⟨xs,n,rfl,rfl,hl,hlen,hf⟩:=QV Proofs.Tryz.underlying29 h;obtain ⟨x0,⟨v0_0,e0,h0_0⟩,o0⟩:=bN (α:=(List ByteArray)) hlen hf 0 (o:=0) rfl rfl (by kernel_rfl) KB
 obtain ⟨x1,⟨v1_0,e1,h1_0⟩,o1⟩:=bN (α:=(List aK)) hlen hf 1 (o:=1) rfl rfl (by kernel_rfl) KC
 obtain ⟨x2,⟨v2_0,e2,h2_0⟩,o2⟩:=bN (α:=(List aO)) hlen hf 2 (o:=2) rfl rfl (by kernel_rfl) KD
 obtain ⟨x3,⟨v3_0,e3,h3_0⟩,o3⟩:=bN (α:=(List bB)) hlen hf 3 (o:=3) rfl rfl (by kernel_rfl) KE
 obtain ⟨x4,⟨v4_0,e4,h4_0⟩,o4⟩:=bN (α:=(List aE)) hlen hf 4 (o:=4) rfl rfl (by kernel_rfl) KF
 obtain ⟨x5,⟨v5_0,e5,h5_0⟩,o5⟩:=bN (α:=(List bS)) hlen hf 5 (o:=5) rfl rfl (by kernel_rfl) KG
 exact ⟨⟨x0,x1,x2,x3,x4,x5⟩,⟨v0_0,v1_0,v2_0,v3_0,v4_0,v5_0,piece (o:=0) e0 (by rfl) (piece (o:=1) e1 (by rfl) (piece (o:=2) e2 (by rfl) (piece (o:=3) e3 (by rfl) (piece (o:=4) e4 (by rfl) (piece (o:=5) e5 (by rfl) (pI hl (by kernel_rfl))))))),h0_0,h1_0,h2_0,h3_0,h4_0,h5_0⟩,⟨o0,o1,o2,o3,o4,o5⟩⟩
theorem KQ:oy Proofs.Tryz.prog 97 bH:=by
 intro Hd enc w fuel cs d h;obtain ⟨xs,n,rfl,rfl,hl,hlen,hf⟩:=QV Proofs.Tryz.underlying97 h;obtain ⟨x0,e0,o0⟩:=bN (α:=Int) hlen hf 0 (o:=0) rfl rfl (by kernel_rfl) (i_ PI)
 obtain ⟨x1,e1,o1⟩:=bN (α:=ByteArray) hlen hf 1 (o:=1) rfl rfl (by kernel_rfl) (fB PJ)
 obtain ⟨x2,e2,o2⟩:=bN (α:=Int) hlen hf 2 (o:=2) rfl rfl (by kernel_rfl) (i_ PI)
 obtain ⟨x3,e3,o3⟩:=bN (α:=Int) hlen hf 3 (o:=3) rfl rfl (by kernel_rfl) (i_ PI)
 exact ⟨⟨x0,x1,x2,x3⟩,piece (o:=0) e0 (by rfl) (piece (o:=1) e1 (by rfl) (piece (o:=2) e2 (by rfl) (piece (o:=3) e3 (by rfl) (pI hl (by kernel_rfl))))),⟨o0,o1,o2,o3⟩⟩
theorem KO:oy Proofs.Tryz.prog 87 (List bH):=ot Proofs.Tryz.underlying87 (by kernel_rfl) rfl KQ
theorem KP:oy Proofs.Tryz.prog 89 aX:=by
 intro Hd enc w fuel cs d h;obtain ⟨xs,n,rfl,rfl,hl,hlen,hf⟩:=QV Proofs.Tryz.underlying89 h;obtain ⟨x0,e0,o0⟩:=bN (α:=Bool) hlen hf 0 (o:=0) rfl rfl (by kernel_rfl) (xP Sa)
 obtain ⟨x1,e1,o1⟩:=bN (α:=ByteArray) hlen hf 1 (o:=1) rfl rfl (by kernel_rfl) (fB PJ)
 obtain ⟨x2,⟨v2_0,e2,h2_0⟩,o2⟩:=bN (α:=(List bH)) hlen hf 2 (o:=2) rfl rfl (by kernel_rfl) KO
 exact ⟨⟨x0,x1,x2⟩,⟨v2_0,piece (o:=0) e0 (by rfl) (piece (o:=1) e1 (by rfl) (piece (o:=2) e2 (by rfl) (pI hl (by kernel_rfl)))),h2_0⟩,⟨o0,o1,o2⟩⟩
theorem KI:oy Proofs.Tryz.prog 30 (List aX):=ot Proofs.Tryz.underlying30 (by kernel_rfl) rfl KP
theorem KJ:oy Proofs.Tryz.prog 32 cI:=by
 intro Hd enc w fuel cs d h;obtain ⟨xs,n,rfl,rfl,hl,hlen,hf⟩:=QV Proofs.Tryz.underlying32 h;obtain ⟨x0,⟨v0_0,v0_1,v0_2,v0_3,v0_4,v0_5,e0,h0_0,h0_1,h0_2,h0_3,h0_4,h0_5⟩,o0⟩:=bN (α:=aD) hlen hf 0 (o:=0) rfl rfl (by kernel_rfl) KH
 obtain ⟨x1,⟨v1_0,e1,h1_0⟩,o1⟩:=bN (α:=(List aX)) hlen hf 1 (o:=6) rfl rfl (by kernel_rfl) KI
 exact ⟨⟨x0,x1⟩,⟨v0_0,v0_1,v0_2,v0_3,v0_4,v0_5,v1_0,piece (o:=0) e0 (by rfl) (piece (o:=6) e1 (by rfl) (pI hl (by kernel_rfl))),h0_0,h0_1,h0_2,h0_3,h0_4,h0_5,h1_0⟩,⟨o0,o1⟩⟩
theorem KM:oy Proofs.Tryz.prog 45 aI:=by
 intro Hd enc w fuel cs d h;obtain ⟨xs,n,rfl,rfl,hl,hlen,hf⟩:=QV Proofs.Tryz.underlying45 h;obtain ⟨x0,e0,o0⟩:=bN (α:=Int) hlen hf 0 (o:=0) rfl rfl (by kernel_rfl) (i_ PI)
 obtain ⟨x1,e1,o1⟩:=bN (α:=ByteArray) hlen hf 1 (o:=1) rfl rfl (by kernel_rfl) (fB PJ)
 obtain ⟨x2,e2,o2⟩:=bN (α:=ByteArray) hlen hf 2 (o:=2) rfl rfl (by kernel_rfl) (fB PJ)
 obtain ⟨x3,e3,o3⟩:=bN (α:=Int) hlen hf 3 (o:=3) rfl rfl (by kernel_rfl) (i_ PI)
 exact ⟨⟨x0,x1,x2,x3⟩,piece (o:=0) e0 (by rfl) (piece (o:=1) e1 (by rfl) (piece (o:=2) e2 (by rfl) (piece (o:=3) e3 (by rfl) (pI hl (by kernel_rfl))))),⟨o0,o1,o2,o3⟩⟩
theorem KK:oy Proofs.Tryz.prog 33 (List aI):=ot Proofs.Tryz.underlying33 (by kernel_rfl) rfl KM
theorem A_ {W:World} (h0:laidMetH Proofs.Tryz.prog Proofs.YtkpbgofhndmbnaaGreatDoor.Rows.roomHeldRow.laid W):xf W.heap.size W:=by
 rw [MakeChecks.laidMetH_plain _ _ _ (by kernel_rfl)] at h0
 have t4:Lib.TabIs Proofs.Tryz.prog W "math/bits.deBruijn32tab" .u8 NO:=Lib.tabIs_of_head Oi (by kernel_rfl:(Proofs.Tryz.prog.globals[4]?).map (·.type)=some 318) Proofs.Tryz.underlying318 Proofs.Tryz.underlying5 (by kernel_rfl) (by kernel_rfl) (show laidMet Proofs.Tryz.prog (("math/bits.deBruijn32tab", Lib.tabData .u8 NO)::_) W from h0)
 have h1:=laidMet.tail h0;have t5:Lib.TabIs Proofs.Tryz.prog W "math/bits.deBruijn64tab" .u8 NP:=Lib.tabIs_of_head Oa (by kernel_rfl:(Proofs.Tryz.prog.globals[5]?).map (·.type)=some 319) Proofs.Tryz.underlying319 Proofs.Tryz.underlying5 (by kernel_rfl) (by kernel_rfl) (show laidMet Proofs.Tryz.prog (("math/bits.deBruijn64tab", Lib.tabData .u8 NP)::_) W from h1)
 have h2:=laidMet.tail h1;have t3:Lib.TabIs Proofs.Tryz.prog W "internal/strconv.uint64pow10" .u64 Nx:=Lib.tabIs_of_head N_ (by kernel_rfl:(Proofs.Tryz.prog.globals[3]?).map (·.type)=some 313) Proofs.Tryz.underlying313 Proofs.Tryz.underlying72 (by kernel_rfl) (by kernel_rfl) (show laidMet Proofs.Tryz.prog (("internal/strconv.uint64pow10", Lib.tabData .u64 Nx)::_) W from h2)
 have h3:=laidMet.tail h2;have star: "*" ++ "errors.errorString" = "*errors.errorString" := by decide
 have rowe:∀ u,Proofs.Tryz.prog.typeName? 3 u=some "*errors.errorString" -> u=309:=λu h=>typeName_ptr_named (nm:= "errors.errorString") (by rw [star]; kernel_rfl) (by kernel_rfl) (by decide) u (by rw [star]; exact h)
 obtain ⟨a2,s2,e2,-⟩:=laid_sentinel h3 Oh (by kernel_rfl:(Proofs.Tryz.prog.globals[2]?).map (·.type)=some 219) Proofs.Tryz.underlying219 rowe Proofs.Tryz.underlying309 Proofs.Tryz.underlying311 rfl rfl PJ (by kernel_rfl) (by kernel_rfl)
 have h4:=laidMet.tail h3;obtain ⟨a1,s1,e1,-⟩:=laid_sentinel h4 Og (by kernel_rfl:(Proofs.Tryz.prog.globals[1]?).map (·.type)=some 219) Proofs.Tryz.underlying219 rowe Proofs.Tryz.underlying309 Proofs.Tryz.underlying311 rfl rfl PJ (by kernel_rfl) (by kernel_rfl)
 exact { lt:=Ma Oa t5,t4:=t4,t5:=t5,t3:=t3,e2:=⟨_,_,e2⟩,e1:=⟨_,_,e1⟩ }
set_option maxRecDepth 100000 in
theorem zg (hp:∀ (x0:cI) (x1:(List aI)) (x2:Int),ok x0->ok x1->Dn x2->gP x0 x1 x2=some true) (os:Os) (started:os.Started) (Hd:Type) (enc:TypeId×Value->Hd):
  ReturnsInHanded {} Proofs.Tryz.checked os 3 .any (λw args=>(Proofs.YtkpbgofhndmbnaaGreatDoor.Rows.roomHeldSpec.pre enc Proofs.Tryz.prog Proofs.Tryz.f3 Proofs.YtkpbgofhndmbnaaGreatDoor.Rows.roomHeldRow.domain false w args/\laidMetH Proofs.Tryz.prog Proofs.YtkpbgofhndmbnaaGreatDoor.Rows.roomHeldRow.laid w)/\sizedMet enc Proofs.Tryz.prog Proofs.Tryz.f3 (OpenSpec.ofChange Proofs.YtkpbgofhndmbnaaGreatDoor.Rows.roomHeldSpec) false w args) (Proofs.YtkpbgofhndmbnaaGreatDoor.Rows.roomHeldSpec.post enc Proofs.Tryz.prog Proofs.Tryz.f3 false true false false):=by
 refine returnsInHanded_of_change_and (C:=Proofs.Tryz.checked) (X:=λw _=>laidMetH Proofs.Tryz.prog Proofs.YtkpbgofhndmbnaaGreatDoor.Rows.roomHeldRow.laid w) (λ_ _ _ hh h=>h.of_heap hh) J0 started (by kernel_rfl) Proofs.Tryz.func3
  (ChangeSpec.witness_shaped (enc:=enc) (C:=Proofs.Tryz.checked) (os:=os) (X:=λw _=>laidMetH Proofs.Tryz.prog Proofs.YtkpbgofhndmbnaaGreatDoor.Rows.roomHeldRow.laid w) false (World.laidAll Proofs.Tryz.prog os Proofs.YtkpbgofhndmbnaaGreatDoor.Rows.roomHeldRow.laid) #[.agg #[.slice none 0 0,.slice none 0 0,.slice none 0 0,.slice none 0 0,.slice none 0 0,.slice none 0 0,.slice none 0 0],.slice none 0 0,.int .i64 0] 8 (World.laidAll_os _ _ _)
   (World.shaped_of_ZipB (by kernel_rfl) (by kernel_rfl)) (by kernel_rfl) (by kernel_rfl) (by kernel_rfl)
   (by rw [MakeChecks.laidMetH_plain _ _ _ (by kernel_rfl)]; exact laidMet_laidAll _ (by kernel_rfl) (by kernel_rfl))) ?_
 intro W base args ds gs before hval0 hW hcnd _ hL _;have hval:∀ (j:Nat) t v,Proofs.Tryz.f3.params[j]? = some t->args[j]? = some v->Value.okWide Proofs.Tryz.prog W .any base t v:=hval0
 haveI:xf W.heap.size W:=A_ hL
 have hW2:DataW.Whole enc Proofs.Tryz.prog Proofs.Tryz.f3.params.toList Proofs.YtkpbgofhndmbnaaGreatDoor.Rows.roomHeldSpec.vars false W args.toList ds gs before:=hW;obtain ⟨p,q,hA0,hV,rfl,hfz,hnd⟩:=hW;have hA:DataW.TrodAll enc Proofs.Tryz.prog W 0 (λ_=>true) true Proofs.Tryz.f3.params.toList args.toList ds p:=hA0;rw [Proofs.Tryz.params3] at hA hval;obtain ⟨v0,vs0,d0,ds0,p0,q0,hargs,rfl,rfl,h0,r0⟩:=trodAll_cons hA;obtain ⟨v1,vs1,d1,ds1,p1,q1,rfl,rfl,rfl,h1,r1⟩:=trodAll_cons r0;obtain ⟨v2,vs2,d2,ds2,p2,q2,rfl,rfl,rfl,h2,r2⟩:=trodAll_cons r1
 obtain ⟨rfl,rfl,rfl⟩:=trodAll_nil r2;obtain rfl:args=#[v0,v1,v2]:=by cases args; simp_all
 obtain ⟨x0,cs0,rfl,⟨v0_0,v0_1,v0_2,v0_3,v0_4,v0_5,v0_6,rfl,e0_0,e0_1,e0_2,e0_3,e0_4,e0_5,e0_6⟩,ok0⟩:=Ef Proofs.Tryz.underlying32 KJ (hval 0 32 v0 rfl rfl) h0;obtain ⟨x1,e1,ok1⟩:=Gp Proofs.Tryz.underlying33 KK (hval 1 33 v1 rfl rfl) h1;obtain ⟨x2,rfl,ok2⟩:=JI PI (hval 2 3 v2 rfl rfl) h2;have hc:=tS (hp x0 x1 x2 ok0 ok1 ok2) e0_0 e0_1 e0_2 e0_3 e0_4 e0_5 e0_6 e1 (St.begin W);refine hc.mono λe W' h=>?_;cases e with
 | returned v=>
  obtain ⟨H',M',hst,hphi⟩:=h;obtain ⟨_,_,rfl⟩:=hphi;exact ⟨_,rfl,ID IC rfl rfl Sa (by kernel_rfl) hW2 (λ_=>rfl) hst.below⟩
 | _=>exact h.elim
theorem BP (hp:∀ (x0:cI) (x1:(List aI)) (x2:Int),ok x0->ok x1->Dn x2->gP x0 x1 x2=some true):Proofs.YtkpbgofhndmbnaaGreatDoor.Rows.RoomHeldSaid:=
 OpenClaim.holds_of_wide 3 Proofs.Tryz.f3 rfl rfl rfl rfl rfl rfl rfl ⟨rfl,rfl,rfl,rfl,rfl⟩ rfl rfl rfl rfl rfl (by kernel_rfl) Proofs.Tryz.func3 (by kernel_rfl)
  (O1 (by kernel_rfl)) (by unfold Func.isWrapper; first | (rw [O3 (by decide +kernel)]; kernel_rfl) | (rw [O2 (by decide +kernel)]; exact ⟨rfl,rfl⟩))
  (λos started H enc _=>zg hp os started H enc)
end Go.Sim
