/-
  Short forms: one step for many lines of a printed proof.
-/
import Derived.Test.YticgbjeijocojaaMg7
import Derived.KernelRfl
set_option linter.unusedVariables false
set_option linter.unusedSimpArgs false
namespace Go.Sim
open Go
set_option linter.unusedVariables false
set_option linter.unusedSimpArgs false
set_option linter.unusedSectionVars false
set_option linter.unnecessarySimpa false

section
variable {P : Program} {x : Cx P} {ops : Array Oper} {Q : Post} {rest : List Oper} {H : Hp} {M : List Res} {L : Env} {e : Exit} {c : Code}
theorem isW (k : W x ops Q rest H M L) : W x ops Q rest H M L := k
theorem isE (k : E x e Q H M L) : E x e Q H M L := k
theorem isC (k : Go.Sim.C x c Q H M L) : Go.Sim.C x c Q H M L := k
end

section
variable {P : Program} {x : Cx P} {ops : Array Oper} {Q : Post} {rest : List Oper} {H : Hp} {M : List Res} {L : Env} {d : Nat} {ty : TypeId} {pos : String} {aft : Array Edge} {g : Option (Nat × Bool)}
/-- A field's address, whatever the type. -/
theorem fq {T : TypeId} {y : Operand} {ad : Addr} {f n o ft bo : Nat} {fs : Array Field} {nm tg pp : String} {em : Bool} (k : W x ops Q rest H M ((d, .pointer (some (ad.add o))) :: L))
    (hy : ev L y = some (.pointer (some ad)) := by rfl) (hT : ∀ w, (underlying T).run P w = .ok (.struct fs) w := by exact fun _ => rfl) (hf : fs[f]? = some ⟨nm, ft, o, em, tg, pp, bo⟩ := by rfl) (hn : ∀ w, (sizeOf ft).run P w = .ok n w := by exact fun _ => rfl)
    (hn0 : Nat.beq n 0 = false := by rfl) (hg : gd ops L ⟨some d, .fieldAddr T y f, ty, pos, aft, g⟩ = some true := by rfl) (hN : Nat.blt d x.N = true := by rfl) :
    W x ops Q (⟨some d, .fieldAddr T y f, ty, pos, aft, g⟩ :: rest) H M L := W_field hg hN hT hf hn hn0 rfl hy k
theorem lq {T b i U : Nat} {fz : Nat × Nat} {y : Operand} {l : List Value} {v : Value} (k : W x ops Q rest H M ((d, v) :: L)) (hy : ev L y = some (.pointer (some ⟨b, i, none⟩)) := by rfl)
    (hm : Res.obj b (.cells l.toArray U fz) ∈ M := by (repeat first | exact List.Mem.head _ | refine List.Mem.tail _ ?_); done) (hc : l[i]? = some v := by rfl) (hT : ∀ w, (isAgg T).run P w = .ok false w := by exact fun _ => rfl)
    (hg : gd ops L ⟨some d, .load T y, ty, pos, aft, g⟩ = some true := by rfl) (hN : Nat.blt d x.N = true := by rfl) : W x ops Q (⟨some d, .load T y, ty, pos, aft, g⟩ :: rest) H M L :=
  W_load hg hN hT hy (own_at hm hc) k
theorem lqa {T b U n : Nat} {fz : Nat × Nat} {y : Operand} {l : List Value} (k : W x ops Q rest H M ((d, .agg l.toArray) :: L)) (hy : ev L y = some (.pointer (some ⟨b, 0, none⟩)) := by rfl)
    (hm : Res.obj b (.cells l.toArray U fz) ∈ M := by (repeat first | exact List.Mem.head _ | refine List.Mem.tail _ ?_); done) (hT : ∀ w, (isAgg T).run P w = .ok true w := by exact fun _ => rfl) (hn : ∀ w, (sizeOf T).run P w = .ok n w := by exact fun _ => rfl) (hl : l.length = n := by rfl)
    (hg : gd ops L ⟨some d, .load T y, ty, pos, aft, g⟩ = some true := by rfl) (hN : Nat.blt d x.N = true := by rfl) : W x ops Q (⟨some d, .load T y, ty, pos, aft, g⟩ :: rest) H M L :=
  W_loadAgg hg hN hT hn hy (own_all hm) hl k
theorem loq {v : Value} {T : TypeId} {sz n : Nat} {xs : List Value} {t e : TypeId} {y : Operand} (k : W x ops Q rest H M ((d, .int .i64 n) :: L)) (hy : ev L y = some v := by rfl) (hm : Res.row v T sz n xs ∈ M := by (repeat first | exact List.Mem.head _ | refine List.Mem.tail _ ?_); done)
    (hT : ∀ w, (underlying t).run P w = .ok (.slice e) w := by exact fun _ => rfl) (hg : gd ops L ⟨some d, .call ⟨.builtin .len, #[y], #[t]⟩, ty, pos, aft, g⟩ = some true := by rfl) (hN : Nat.blt d x.N = true := by rfl) :
    W x ops Q (⟨some d, .call ⟨.builtin .len, #[y], #[t]⟩, ty, pos, aft, g⟩ :: rest) H M L := W_lenO hm hg hN hT hy k
end
section
variable {P : Program} {x : Cx P} {ops : Array Oper} {Q : Post} {rest : List Oper} {H : Hp} {M : List Res} {L : Env} {d : Nat} {ty : TypeId} {pos : String} {aft : Array Edge} {g : Option (Nat × Bool)} {y z c : Operand} {T U : TypeId} {n : Nat} {o : Oper} {op : BinOp} {uo : UnOp} {tys : Array TypeId} {fn : Fn} {ys bs : Array Operand}
/-- Which operation comes. -/
theorem isWc (k : W x ops Q (o :: rest) H M L) : W x ops Q (o :: rest) H M L := k
theorem p1 (k : W x ops Q (⟨some d, .move y, ty, pos, aft, g⟩ :: rest) H M L) : W x ops Q (⟨some d, .move y, ty, pos, aft, g⟩ :: rest) H M L := k
theorem p2 (k : W x ops Q (⟨some d, .assign y, ty, pos, aft, g⟩ :: rest) H M L) : W x ops Q (⟨some d, .assign y, ty, pos, aft, g⟩ :: rest) H M L := k
theorem p3 (k : W x ops Q (⟨some d, .fieldAddr T y n, ty, pos, aft, g⟩ :: rest) H M L) : W x ops Q (⟨some d, .fieldAddr T y n, ty, pos, aft, g⟩ :: rest) H M L := k
theorem p4 (k : W x ops Q (⟨some d, .load T y, ty, pos, aft, g⟩ :: rest) H M L) : W x ops Q (⟨some d, .load T y, ty, pos, aft, g⟩ :: rest) H M L := k
theorem p5 (k : W x ops Q (⟨some d, .binOp op T y z U, ty, pos, aft, g⟩ :: rest) H M L) : W x ops Q (⟨some d, .binOp op T y z U, ty, pos, aft, g⟩ :: rest) H M L := k
theorem p6 (k : W x ops Q (⟨some d, .pick c y z, ty, pos, aft, g⟩ :: rest) H M L) : W x ops Q (⟨some d, .pick c y z, ty, pos, aft, g⟩ :: rest) H M L := k
theorem p7 (k : W x ops Q (⟨some d, .extract y n, ty, pos, aft, g⟩ :: rest) H M L) : W x ops Q (⟨some d, .extract y n, ty, pos, aft, g⟩ :: rest) H M L := k
theorem p8 (k : W x ops Q (⟨some d, .nilCheck y, ty, pos, aft, g⟩ :: rest) H M L) : W x ops Q (⟨some d, .nilCheck y, ty, pos, aft, g⟩ :: rest) H M L := k
theorem p9 (k : W x ops Q (⟨some d, .unOp uo T y, ty, pos, aft, g⟩ :: rest) H M L) : W x ops Q (⟨some d, .unOp uo T y, ty, pos, aft, g⟩ :: rest) H M L := k
theorem pa (k : W x ops Q (⟨some d, .convert T U y, ty, pos, aft, g⟩ :: rest) H M L) : W x ops Q (⟨some d, .convert T U y, ty, pos, aft, g⟩ :: rest) H M L := k
theorem pb (k : W x ops Q (⟨some d, .makeFunc fn ys bs, ty, pos, aft, g⟩ :: rest) H M L) : W x ops Q (⟨some d, .makeFunc fn ys bs, ty, pos, aft, g⟩ :: rest) H M L := k
theorem pc (k : W x ops Q (⟨some d, .call ⟨.builtin .len, #[y], #[T]⟩, ty, pos, aft, g⟩ :: rest) H M L) : W x ops Q (⟨some d, .call ⟨.builtin .len, #[y], #[T]⟩, ty, pos, aft, g⟩ :: rest) H M L := k
theorem pg {j : Nat} {w : Bool} {oo : Op} {dd : Option Nat} (k : W x ops Q (⟨dd, oo, ty, pos, aft, some (j, w)⟩ :: rest) H M L) : W x ops Q (⟨dd, oo, ty, pos, aft, some (j, w)⟩ :: rest) H M L := k
end
/-- One plain operation. -/
theorem wo1 {P Q : Prop} (k : Q) (h : Q → P := by
    intro k
    refine isWc ?_; first
      | (with_reducible refine p1 ?_); refine W_move rfl rfl rfl ?_
      | (with_reducible refine p2 ?_); refine W_assign rfl rfl rfl ?_
      | (with_reducible refine p3 ?_); refine fq ?_
      | (with_reducible refine p4 ?_); first
        | refine lq ?_
        | refine lqa ?_
      | (with_reducible refine p5 ?_); refine W_bin rfl rfl rfl rfl rfl ?_
      | (with_reducible refine p8 ?_); refine W_nilCheck rfl rfl rfl ?_
      | (with_reducible refine p7 ?_); refine W_extract rfl rfl rfl rfl ?_
      | (with_reducible refine p6 ?_); refine W_pick rfl rfl rfl rfl ?_
      | (with_reducible refine p9 ?_); refine W_un rfl rfl rfl rfl ?_
      | (with_reducible refine pa ?_); refine W_convInt rfl rfl (fun _ => rfl) (fun _ => rfl) rfl ?_
      | (with_reducible refine pc ?_); refine loq ?_
      | (with_reducible refine pg ?_); first
        | refine W_no rfl rfl rfl ?_
        | refine W_no_ rfl rfl ?_
    exact k) : P := h k
/-- One end of a region. -/
theorem ec1 {P Q : Prop} (k : Q) (h : Q → P := by
    intro k
    first
      | refine W_end ?_
      | (with_reducible refine isE ?_); first
        | with_reducible refine E_then ?_
        | with_reducible refine E_exit_then ?_
        | with_reducible refine E_normal_block ?_
        | with_reducible refine E_ret_then ?_
        | with_reducible refine E_ret_block ?_
        | with_reducible refine E_exit_hit ?_
        | refine E_exit_miss rfl ?_
      | (with_reducible refine isC ?_); first
        | with_reducible refine C_region ?_
        | with_reducible refine C_skip ?_
        | with_reducible refine C_exit ?_
        | with_reducible refine C_ret ?_
    exact k) : P := h k
/-- Plain operations. -/
theorem wo {P Q : Prop} (k : Q) (h : Q → P := by
    intro k
    repeat first
      | refine wo1 ?_
    exact k) : P := h k
/-- Plain operations, and ends of regions: as many as there are. -/
theorem go {P Q : Prop} (k : Q) (h : Q → P := by
    intro k
    repeat first
      | refine wo1 ?_
      | refine ec1 ?_
    exact k) : P := h k
/-- The same, but not into what comes next. -/
theorem gj {P Q : Prop} (k : Q) (h : Q → P := by
    intro k
    repeat first
      | refine wo1 ?_
      | refine W_end ?_
      | (with_reducible refine isE ?_); first
        | with_reducible refine E_exit_then ?_
        | with_reducible refine E_normal_block ?_
        | with_reducible refine E_ret_then ?_
        | with_reducible refine E_ret_block ?_
        | with_reducible refine E_exit_hit ?_
        | refine E_exit_miss rfl ?_
      | (with_reducible refine isC ?_); first
        | with_reducible refine C_region ?_
        | with_reducible refine C_skip ?_
        | with_reducible refine C_exit ?_
        | with_reducible refine C_ret ?_
    exact k) : P := h k
/-- The same, and into what comes next, but no further. -/
theorem gt {P Q : Prop} (k : Q) (h : Q → P := by
    intro k
    repeat first
      | refine wo1 ?_
      | refine W_end ?_
      | (with_reducible refine isE ?_); first
        | with_reducible refine E_exit_then ?_
        | with_reducible refine E_normal_block ?_
        | with_reducible refine E_ret_then ?_
        | with_reducible refine E_ret_block ?_
        | with_reducible refine E_exit_hit ?_
        | refine E_exit_miss rfl ?_
      | (with_reducible refine isC ?_); first
        | with_reducible refine C_region ?_
        | with_reducible refine C_skip ?_
        | with_reducible refine C_exit ?_
        | with_reducible refine C_ret ?_
    with_reducible refine E_then ?_
    exact k) : P := h k
/-- A sequence, with the plain operations ahead of it and behind. -/
theorem gs {P Q : Prop} (k : Q) (h : Q → P := by
    intro k
    repeat first
      | refine wo1 ?_
      | refine ec1 ?_
    refine C_seq ?_
    repeat first
      | refine wo1 ?_
      | refine ec1 ?_
    exact k) : P := h k

theorem g2 {P Q : Prop} (k : Q) (h : Q → P := by
    intro k
    refine gs ?_
    refine gs ?_
    exact k) : P := h k
/-- A value, and nothing besides. -/
abbrev ph (a : Value) : Hp → List Res → Value → Prop := fun _ rs v => [] = rs ∧ a = v
def nn (n : Nat) : List (List Nat) := List.replicate n []
section
variable {P : Program} {x : Cx P} {ops : Array Oper} {Q : Post} {H H' : Hp} {M : List Res} {L : Env} {t : Nat} {ps : Option Nat} {v : Value} {φ : Hp → List Res → Value → Prop}
theorem o0 (h : φ H [] v) : W x ops (OneT x H M L (some t) ps φ) [] H M ((t, v) :: L) := W_end (OneT_end [] (Hp.le_refl _) h)
theorem oe (rs : List Res) (hle : H.le H') (h : φ H' rs v) : W x ops (OneT x H M L (some t) ps φ) [] H' (rs ++ M) ((t, v) :: L) := W_end (OneT_end rs hle h)
end
theorem om {P : Prop} (h : P := by
    intro HX hX X Rest hR
    repeat (rintro _ _ ⟨rfl, rfl⟩)
    intro hU hUp
    repeat first
      | refine isWc ?_; first
        | (with_reducible refine p1 ?_); refine W_move rfl rfl rfl ?_
        | (with_reducible refine p2 ?_); refine W_assign rfl rfl rfl ?_
        | (with_reducible refine p3 ?_); refine fq ?_
        | (with_reducible refine p4 ?_); first
          | refine lq (hm := by first | ((repeat first | exact List.Mem.head _ | refine List.Mem.tail _ ?_); done) | (refine hR _ ?_; (repeat first | exact List.Mem.head _ | refine List.Mem.tail _ ?_); done) | (refine hU _ ?_; (repeat first | exact List.Mem.head _ | refine List.Mem.tail _ ?_); done)) ?_
          | refine lqa (hm := by first | ((repeat first | exact List.Mem.head _ | refine List.Mem.tail _ ?_); done) | (refine hR _ ?_; (repeat first | exact List.Mem.head _ | refine List.Mem.tail _ ?_); done) | (refine hU _ ?_; (repeat first | exact List.Mem.head _ | refine List.Mem.tail _ ?_); done)) ?_
        | (with_reducible refine p5 ?_); refine W_bin rfl rfl rfl rfl rfl ?_
        | (with_reducible refine p8 ?_); refine W_nilCheck rfl rfl rfl ?_
        | (with_reducible refine p7 ?_); refine W_extract rfl rfl rfl rfl ?_
        | (with_reducible refine p6 ?_); refine W_pick rfl rfl rfl rfl ?_
        | (with_reducible refine p9 ?_); refine W_un rfl rfl rfl rfl ?_
        | (with_reducible refine pa ?_); refine W_convInt rfl rfl (fun _ => rfl) (fun _ => rfl) rfl ?_
        | (with_reducible refine pb ?_); refine W_makeFunc rfl rfl rfl rfl ?_
        | (with_reducible refine pc ?_); refine loq (hm := by first | ((repeat first | exact List.Mem.head _ | refine List.Mem.tail _ ?_); done) | (refine hR _ ?_; (repeat first | exact List.Mem.head _ | refine List.Mem.tail _ ?_); done) | (refine hU _ ?_; (repeat first | exact List.Mem.head _ | refine List.Mem.tail _ ?_); done)) ?_
        | (with_reducible refine pg ?_); first
          | refine W_no rfl rfl rfl ?_
          | refine W_no_ rfl rfl ?_
    exact o0 ⟨rfl, rfl⟩) : P := h
theorem omb {P q : Prop} (hb : q) (h : q → P := by
    intro hb
    intro HX hX X Rest hR
    repeat (rintro _ _ ⟨rfl, rfl⟩)
    intro hU hUp
    repeat first
      | refine isWc ?_; first
        | (with_reducible refine p1 ?_); refine W_move rfl rfl rfl ?_
        | (with_reducible refine p2 ?_); refine W_assign rfl rfl rfl ?_
        | (with_reducible refine p3 ?_); refine fq ?_
        | (with_reducible refine p4 ?_); first
          | refine lq (hm := by first | ((repeat first | exact List.Mem.head _ | refine List.Mem.tail _ ?_); done) | (refine hR _ ?_; (repeat first | exact List.Mem.head _ | refine List.Mem.tail _ ?_); done) | (refine hU _ ?_; (repeat first | exact List.Mem.head _ | refine List.Mem.tail _ ?_); done)) ?_
          | refine lqa (hm := by first | ((repeat first | exact List.Mem.head _ | refine List.Mem.tail _ ?_); done) | (refine hR _ ?_; (repeat first | exact List.Mem.head _ | refine List.Mem.tail _ ?_); done) | (refine hU _ ?_; (repeat first | exact List.Mem.head _ | refine List.Mem.tail _ ?_); done)) ?_
        | (with_reducible refine p5 ?_); refine W_bin rfl rfl rfl rfl rfl ?_
        | (with_reducible refine p8 ?_); refine W_nilCheck rfl rfl rfl ?_
        | (with_reducible refine p7 ?_); refine W_extract rfl rfl rfl rfl ?_
        | (with_reducible refine p6 ?_); refine W_pick rfl rfl rfl rfl ?_
        | (with_reducible refine p9 ?_); refine W_un rfl rfl rfl rfl ?_
        | (with_reducible refine pa ?_); refine W_convInt rfl rfl (fun _ => rfl) (fun _ => rfl) rfl ?_
        | (with_reducible refine pb ?_); refine W_makeFunc rfl rfl rfl rfl ?_
        | (with_reducible refine pc ?_); refine loq (hm := by first | ((repeat first | exact List.Mem.head _ | refine List.Mem.tail _ ?_); done) | (refine hR _ ?_; (repeat first | exact List.Mem.head _ | refine List.Mem.tail _ ?_); done) | (refine hU _ ?_; (repeat first | exact List.Mem.head _ | refine List.Mem.tail _ ?_); done)) ?_
        | (with_reducible refine pg ?_); first
          | refine W_no rfl rfl rfl ?_
          | refine W_no_ rfl rfl ?_
    exact o0 ⟨rfl, (by first | rfl | (rw [hb]; try rfl))⟩) : P := h hb
/-- What plain operations have brought about. -/
theorem dr {P Q : Prop} (k : Q) (h : Q → P := by
    intro k
    repeat (rintro _ _ ⟨rfl, rfl⟩)
    exact k) : P := h k
/-- The same, and on. -/
theorem dz {P Q : Prop} (k : Q) (h : Q → P := by
    intro k
    repeat (rintro _ _ ⟨rfl, rfl⟩)
    refine isW ?_
    exact k) : P := h k
theorem ma {P : Prop} (h : P := by
    repeat' first
      | exact trivial
      | exact eq_monoT _ _
      | refine ⟨?_, ?_⟩
      | (intro H1 H2 rs v hle
         repeat' first
           | exact fun h => h
           | exact fun h => RdS.mono hle h
           | exact fun h => Rw.mono hle h
           | exact fun h => RdC.mono hle h
           | exact fun h => HCells.mono hle h
           | exact fun h => Mx.mono h hle
           | refine Exists.imp (fun _ => ?_)
           | refine And.imp ?_ ?_)) : P := h
theorem rg0 {P : Program} {x : Cx P} {l : List Oper} {Q : Post} {H : Hp} {M : List Res} {L : Env} {id : Nat} (hmix : P.follows .mixedOrders = true) (m : Nat) (F : List (Hp → List Res → Value → Prop)) (C U : List (List Nat)) (I : List (List Res)) (live : List Nat)
    (hop : HopsT x l (phiT F) C U [] (inR m I) H M L 0 (l.take m))
    (k : ∀ H', H.le H' → DepT l (phiT F) H' (List.range m) L (inR m I) (fun L' R => W x l.toArray Q (l.drop m) H' (takeT live R M) L'))
    (hB : orderB l m = true := by kernel_rfl) (hml : Nat.ble m l.length = true := by rfl) (hD : dstsB2 l m L = true := by rfl) (hNd : dstsN2 l m = true := by rfl)
    (hT : tokB l m (m + I.length) C U live = true := by kernel_rfl) (hmono : MonoTL F := by exact ma) : Go.Sim.C x (.region id l.toArray true) Q H (I.flatten ++ M) L :=
  C_region_tok0 m (phiT F) C U I live hmix hB hml hD hNd hT (phiT_mono hmono) hop k
def spG : Nat → Nat → List (Nat × List Nat) → List (List Nat)
  | 0, _, _ => []
  | n + 1, i, [] => [] :: spG n (i + 1) []
  | n + 1, i, (j, c) :: l => bif Nat.beq i j then c :: spG n (i + 1) l else [] :: spG n (i + 1) ((j, c) :: l)
/-- A list of lists of which few are not empty. -/
def sp (n : Nat) (l : List (Nat × List Nat)) : List (List Nat) := spG n 0 l
theorem rgx {P : Program} {x : Cx P} {l : List Oper} {Q : Post} {H : Hp} {M M0 : List Res} {L : Env} {id : Nat} {I : List (List Res)} (hmix : P.follows .mixedOrders = true) (m : Nat) (F : List (Hp → List Res → Value → Prop)) (C U : List (List Nat)) (ix live : List Nat)
    (hI : tokR ix M = some (I, M0))
    (hop : HopsT x l (phiT F) C U [] (inR m I) H M0 L 0 (l.take m))
    (k : ∀ H', H.le H' → DepT l (phiT F) H' (List.range m) L (inR m I) (fun L' R => W x l.toArray Q (l.drop m) H' (takeT live R M0) L'))
    (hB : orderB l m = true := by kernel_rfl) (hml : Nat.ble m l.length = true := by rfl) (hD : dstsB2 l m L = true := by rfl) (hNd : dstsN2 l m = true := by rfl)
    (hT : tokB l m (m + I.length) C U live = true := by kernel_rfl) (hmono : MonoTL F := by exact ma) : Go.Sim.C x (.region id l.toArray true) Q H M L :=
  C_perm (tokR_perm hI) (rg0 hmix m F C U I live hop k hB hml hD hNd hT hmono)
theorem rgp {P : Program} {x : Cx P} {l : List Oper} {Q : Post} {H : Hp} {M : List Res} {L : Env} {id : Nat} (hmix : P.follows .mixedOrders = true) (m : Nat) (F : List (Hp → List Res → Value → Prop))
    (hop : HopsT x l (phiT F) (nn m) (nn m) [] (inR m []) H M L 0 (l.take m))
    (k : ∀ H', H.le H' → DepT l (phiT F) H' (List.range m) L (inR m []) (fun L' R => W x l.toArray Q (l.drop m) H' (takeT (List.range m) R M) L'))
    (hB : orderB l m = true := by kernel_rfl) (hml : Nat.ble m l.length = true := by rfl) (hD : dstsB2 l m L = true := by rfl) (hNd : dstsN2 l m = true := by rfl)
    (hT : tokB l m m (nn m) (nn m) (List.range m) = true := by kernel_rfl) (hmono : MonoTL F := by exact ma) : Go.Sim.C x (.region id l.toArray true) Q H M L :=
  C_region_tok0 m (phiT F) (nn m) (nn m) [] (List.range m) hmix hB hml hD hNd hT (phiT_mono hmono) hop k

/-! ### Loops, ways that meet -/
theorem forI_nm {α σ R : Type} {B : Nat → α → σ → (σ → Option R) → Option R} {K : σ → Option R} {l : List α} {s : σ} {r : Option R} {i : Nat} (h : forI B K i l s = r) :
    ∃ F : Nat → List α → σ → Option R, (∀ i y ys s, F i (y :: ys) s = B i y s (F (i + 1) ys)) ∧ (∀ i s, F i [] s = K s) ∧ F i l s = r := ⟨forI B K, fun _ _ _ _ => rfl, fun _ _ => rfl, h⟩
theorem forN_nm {σ R : Type} {B : Nat → σ → (σ → Option R) → Option R} {K : σ → Option R} {m : Nat} {s : σ} {r : Option R} {i : Nat} (h : forN B K m i s = r) :
    ∃ F : Nat → Nat → σ → Option R, (∀ m i s, F (m + 1) i s = B i s (F m (i + 1))) ∧ (∀ i s, F 0 i s = K s) ∧ F m i s = r := ⟨forN B K, fun _ _ _ => rfl, fun _ _ => rfl, h⟩
theorem loopF_nm {σ R : Type} {B : σ → (σ → Option R) → Option R} {m : Nat} {s : σ} {r : Option R} (h : loopF B m s = r) :
    ∃ F : Nat → σ → Option R, (∀ m s, F (m + 1) s = B s (F m)) ∧ (∀ s, F 0 s = none) ∧ F m s = r := ⟨loopF B, fun _ _ => rfl, fun _ => rfl, h⟩
section
variable {P : Program} {x : Cx P} {Q : Post} {H : Hp} {M M' : List Res} {L L' : Env} {e : Exit} {c : Code}
theorem kj (k : E x e Q H M L') (hL : Kept L L' := by repeat first | exact trivial | refine ⟨rfl, ?_⟩) : E x e Q H M L := E_keep hL (List.Perm.refl _) k
theorem kp (k : E x e Q H M' L') (hM : M.Perm M') (hL : Kept L L' := by repeat first | exact trivial | refine ⟨rfl, ?_⟩) : E x e Q H M L := E_keep hL hM k
theorem ckl (S : Heads) (n : Nat) (h0 : S n H M L') (step : ∀ n H M L, S n H M L → Go.Sim.C x c (Exit.then (Back x S n) Q) H M L) (hL : Kept L L' := by repeat first | exact trivial | refine ⟨rfl, ?_⟩) : Go.Sim.C x (.loop c) Q H M L :=
  C_keep hL (List.Perm.refl _) (C_loop S n h0 step)
theorem ckp (hM : M.Perm M') (S : Heads) (n : Nat) (h0 : S n H M' L') (step : ∀ n H M L, S n H M L → Go.Sim.C x c (Exit.then (Back x S n) Q) H M L) (hL : Kept L L' := by repeat first | exact trivial | refine ⟨rfl, ?_⟩) : Go.Sim.C x (.loop c) Q H M L :=
  C_keep hL hM (C_loop S n h0 step)
/-- Ways that meet: u and m: the slots and the resources that stay as they are. -/
theorem cj {m : List Res} {d : Code} (u : Env) (ix : List Nat) (e : Nat) (S : Env → List Res → Meet) (rest : ∀ H M L, S u m H M L → Go.Sim.C x d Q H M L)
    (k : (∀ H M L, S u m H M L → E x .normal (Exit.then (wpK x.w0 d Q) Q) H M L) → Go.Sim.C x c (Exit.then (wpK x.w0 d Q) Q) H M L) (hm : pickR ix e M = some m := by rfl) (hu : Kept L u := by repeat first | exact trivial | refine ⟨rfl, ?_⟩) : Go.Sim.C x (.seq c d) Q H M L :=
  C_seq_join (S u m) rest k
/-- A loop's head. -/
theorem cl {m : List Res} (u : Env) (jx : List Nat) (e : Nat) (ix : List Nat) (d : Nat) (S : Env → List Res → Heads) (n : Nat) (hm : pickR jx e M = some m) (h0 : S u m n H M' L') (step : ∀ n H M L, S u m n H M L → Go.Sim.C x c (Exit.then (Back x (S u m) n) Q) H M L)
    (h : pickR ix d M = some M' := by rfl) (hu : Kept L u := by repeat first | exact trivial | refine ⟨rfl, ?_⟩) (hL : Kept L L' := by repeat first | exact trivial | refine ⟨rfl, ?_⟩) : Go.Sim.C x (.loop c) Q H M L :=
  ckx ix d (S u m) n h0 step h hL
theorem cd {α : Type} {o : Operand} {p q : Code} {b : Bool} {u v r : α} (hm : (if b = true then u else v) = r) (hb : ev L o = some (.bool b)) (k1 : b = true → u = r → Go.Sim.C x p Q H M L) (k2 : b = false → v = r → Go.Sim.C x q Q H M L) : Go.Sim.C x (.cond o p q) Q H M L :=
  C_cond hb (fun h => k1 h (ite_t' h hm)) (fun h => k2 h (ite_f' h hm))
theorem cT {o : Operand} {p q : Code} (hb : ev L o = some (.bool true)) (k : Go.Sim.C x p Q H M L) : Go.Sim.C x (.cond o p q) Q H M L := C_cond hb (fun _ => k) (fun h => Bool.noConfusion h)
theorem cF {o : Operand} {p q : Code} (hb : ev L o = some (.bool false)) (k : Go.Sim.C x q Q H M L) : Go.Sim.C x (.cond o p q) Q H M L := C_cond hb (fun h => Bool.noConfusion h) (fun _ => k)
end
theorem sb {a b : Bool} (h : a = b) : some (Value.bool a) = some (Value.bool b) := by rw [h]
theorem bl2 : (∀ b, (b && true) = b) ∧ (∀ b, (true && b) = b) ∧ (∀ b, (false && b) = false) ∧ (∀ b, (b && false) = false) ∧ (∀ b, (b || true) = true) ∧ (∀ b, (true || b) = true) ∧ (∀ b, (b || false) = b) ∧ (∀ b, (false || b) = b) ∧ (!true) = false ∧ (!false) = true ∧ (∀ α : Type, (none : Option α).isNone = true) ∧ (∀ (α : Type) (a : α), (some a).isNone = false) := by
  refine ⟨?_, ?_, ?_, ?_, ?_, ?_, ?_, ?_, rfl, rfl, fun _ => rfl, fun _ _ => rfl⟩ <;> intro b <;> cases b <;> rfl
section
variable {P : Program} {x : Cx P} {ops : Array Oper} {Q : Post} {rest : List Oper} {H : Hp} {M : List Res} {L : Env} {d : Nat} {ty : TypeId} {pos : String} {aft : Array Edge} {g : Option (Nat × Bool)}
theorem lo {T b i U : Nat} {fz : Nat × Nat} {y : Operand} {l : List Value} {v : Value} (hT : ∀ w, (isAgg T).run P w = .ok false w) (hy : ev L y = some (.pointer (some ⟨b, i, none⟩))) (hm : Res.obj b (.cells l.toArray U fz) ∈ M) (hc : l[i]? = some v)
    (k : W x ops Q rest H M ((d, v) :: L)) (hg : gd ops L ⟨some d, .load T y, ty, pos, aft, g⟩ = some true := by rfl) (hN : Nat.blt d x.N = true := by rfl) : W x ops Q (⟨some d, .load T y, ty, pos, aft, g⟩ :: rest) H M L :=
  W_load hg hN hT hy (own_at hm hc) k
theorem la {T b U n : Nat} {fz : Nat × Nat} {y : Operand} {l : List Value} (hT : ∀ w, (isAgg T).run P w = .ok true w) (hn : ∀ w, (sizeOf T).run P w = .ok n w) (hy : ev L y = some (.pointer (some ⟨b, 0, none⟩))) (hm : Res.obj b (.cells l.toArray U fz) ∈ M) (hl : l.length = n)
    (k : W x ops Q rest H M ((d, .agg l.toArray) :: L)) (hg : gd ops L ⟨some d, .load T y, ty, pos, aft, g⟩ = some true := by rfl) (hN : Nat.blt d x.N = true := by rfl) : W x ops Q (⟨some d, .load T y, ty, pos, aft, g⟩ :: rest) H M L :=
  W_loadAgg hg hN hT hn hy (own_all hm) hl k
theorem fi {T : TypeId} {y : Operand} {ad : Addr} {f n : Nat} {fs : Array Field} {fd : Field} (o : Nat) (hT : ∀ w, (underlying T).run P w = .ok (.struct fs) w) (hf : fs[f]? = some fd) (hn : ∀ w, (sizeOf fd.type).run P w = .ok n w) (hy : ev L y = some (.pointer (some ad)))
    (k : W x ops Q rest H M ((d, .pointer (some (ad.add o))) :: L)) (ho : fd.offset = o := by rfl) (hn0 : Nat.beq n 0 = false := by rfl) (hg : gd ops L ⟨some d, .fieldAddr T y f, ty, pos, aft, g⟩ = some true := by rfl) (hN : Nat.blt d x.N = true := by rfl) :
    W x ops Q (⟨some d, .fieldAddr T y f, ty, pos, aft, g⟩ :: rest) H M L := W_field hg hN hT hf hn hn0 ho hy k
end
end Go.Sim
