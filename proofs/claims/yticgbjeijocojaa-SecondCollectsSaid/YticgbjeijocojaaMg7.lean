/-
  Parts of a row as values; cells that are lent as they are; what slices.Delete and slices.Repeat need.
  Two operations more: nil[:0], append(nil, make(n)...).
  Resources named by their places: what is brought to the front, what is kept, what a region takes.
-/
import Derived.Test.YticgbjeijocojaaMg6
import Derived.Lib.Bytealg
import Derived.Conc.AtomicLaws
import Derived.Laws.Externs
import Derived.Lib.AppendZeros
set_option linter.unusedVariables false
set_option linter.unusedSimpArgs false
section
set_option linter.unusedSimpArgs false
set_option linter.unusedVariables false
namespace Go.Sim
open Go Go.RowKit
set_option linter.unusedVariables false
set_option linter.unusedSimpArgs false
set_option linter.unusedSectionVars false
set_option linter.unnecessarySimpa false

/-- A slice whose cells are known. -/
def SlC (H : Hp) (v : Value) (n sz : Nat) (xs : List Value) : Prop :=
  xs.length = n * sz ∧ (∀ u ∈ xs, u.oneCell' = true) ∧
  (((∃ a, v = .slice a 0 0) ∧ n = 0) ∨ ∃ b off cap arr T fz, v = .slice (some ⟨b, off, none⟩) n cap ∧ H b = some (.cells arr T fz) ∧ ∀ j u, xs[j]? = some u → arr[off + j]? = some u)
theorem SlC.shape {H : Hp} {v : Value} {n sz : Nat} {xs : List Value} (h : SlC H v n sz xs) : ∃ o c, v = .slice o n c := by
  rcases h.2.2 with ⟨⟨a, rfl⟩, rfl⟩ | ⟨b, off, cap, arr, T, fz, rfl, _⟩ <;> exact ⟨_, _, rfl⟩
theorem SlC.isNil {H : Hp} {n m c sz : Nat} {xs : List Value} (h : SlC H (.slice none m c) n sz xs) : n = 0 ∧ xs = [] := by
  rcases h.2.2 with ⟨_, h0⟩ | ⟨b, off, cap, arr, T, fz, h0, _⟩
  · subst h0; exact ⟨rfl, List.eq_nil_of_length_eq_zero (by rw [h.1, Nat.zero_mul])⟩
  · cases h0

/-- A call of a function that the model itself answers. -/
theorem W_extern {P : Program} {x : Cx P} {ops : Array Oper} {Q : Post} {rest : List Oper} {H : Hp} {M : List Res} {L : Env} {d : Nat} {f : FuncId} {args : List Operand} {tys : Array TypeId} {ty : TypeId} {pos : String} {aft : Array Edge} {g : Option (Nat × Bool)} {vs : List Value} {v : Value}
    (hx : ∀ w, (callFunc f vs.toArray).run P w = .ok (.value v) w ∧ ∃ e, (callFunc f vs.toArray).events P w #[] = #[e] ∧ outB e.loc = true)
    (hg : gd ops L ⟨some d, .call ⟨.value (.func f), args.toArray, tys⟩, ty, pos, aft, g⟩ = some true) (hN : Nat.blt d x.N = true)
    (hv : evs L args = some vs) (k : W x ops Q rest H M ((d, v) :: L)) :
    W x ops Q (⟨some d, .call ⟨.value (.func f), args.toArray, tys⟩, ty, pos, aft, g⟩ :: rest) H M L :=
  W_read rfl hg hN (fun a w hs ht => by
    have hargs : args.toArray.map a.eval = vs.toArray := by simp [hs.evs hv]
    have hT : execOp a.eval ⟨some d, .call ⟨.value (.func f), args.toArray, tys⟩, ty, pos, aft, g⟩ = callFunc f vs.toArray := by
      simp [execOp, resolve, hargs, Act.eval, Deferred.ofValue, invoke]
    rw [hT]
    refine ⟨(hx w).1, fun e he => ?_⟩
    obtain ⟨e0, h1, h2⟩ := (hx w).2
    rw [h1] at he
    simp at he
    exact .inr (.inr (by rw [he]; exact h2))) k
/-- What strings.Compare answers. -/
def cmpS (a b : ByteArray) : Int := Extern.BytealgCompare.cmp a b
theorem run_cmpS {P : Program} (a b : ByteArray) (w : World) : (Extern.BytealgCompare.compare #[.string a, .string b]).run P w = .ok (.int .i64 (cmpS a b)) w := by
  change Sem.run P (do pure (goInt (Extern.BytealgCompare.cmp (← Extern.Bytes.bytesOf (.string a)) (← Extern.Bytes.bytesOf (.string b))))) w = _
  simp only [Extern.Bytes.bytesOf, Sem.run_bind, Sem.run_pure, Result.andThen]
  rfl
theorem cmpS_extern {P : Program} {f : FuncId} {fn : Func} (hf : P.funcs[f]? = some fn) (h1 : (fn.name == "runtime.NumGoroutine") = false) (h2 : fn.body.isNone = true) (h3 : Extern.findNext fn = none) (h4 : Extern.find fn = some Extern.BytealgCompare.compare) (a b : ByteArray) :
    ∀ w, (callFunc f [.string a, .string b].toArray).run P w = .ok (.value (.int .i64 (cmpS a b))) w ∧ ∃ e, (callFunc f [.string a, .string b].toArray).events P w #[] = #[e] ∧ outB e.loc = true := fun w => by
  constructor
  · rw [run_callFunc_extern hf h1 h2 h3 h4, show [Value.string a, .string b].toArray = #[.string a, .string b] from rfl, run_cmpS]
    rfl
  · refine ⟨?e, ?h1, ?h2⟩
    case h1 =>
      rw [Conc.events_callFunc_extern hf h1 h2 h3 h4, show [Value.string a, .string b].toArray = #[.string a, .string b] from rfl]
      rfl
    case h2 => rfl
end Go.Sim
end

section
namespace Go.Sim
open Go
set_option linter.unusedVariables false
set_option linter.unusedSimpArgs false

theorem events_append_nil_zeros {P : Program} (w : World) (t tn ty e : TypeId) (i : TypeInfo) (z : Value) (k kn : IntKind) (ht : P.underlying t = some (.slice e)) (htn : P.underlying tn = some (.int kn)) (hi : P.info? e = some i) (hz : i.zero = some z)
    (n : Nat) (h0 : 0 < n) (hs : 0 < i.size) (h63 : (n : Int) ≤ 9223372036854775807) (h48 : n * i.bytes ≤ 281474976710656) :
    ∀ e ∈ (Builtin.append_ #[t, tn] ty #[.slice none 0 0, .int k n]).events P w #[], ∃ m, e = ⟨.mark m, false, true⟩ ∧ Conc.Neutral m := by
  have hn : n ≠ 0 := by omega
  have hw : IntKind.i64.wrap (n : Int) = n := by rw [IntKind.wrap_i64]; omega
  have h63' : ¬ (9223372036854775807 < (n : Int)) := by omega
  have h48' : ¬ (281474976710656 < Builtin.nextslicecap n 0 * i.bytes) := by rw [nextslicecap_zero h0]; omega
  have h48i : ¬ (281474976710656 < (n : Int) * (i.bytes : Int)) := by
    rw [← Int.natCast_mul]
    omega
  have hneg : ¬ ((n : Int) < 0) := by omega
  have hns : ¬ (n * i.size = 0) := Nat.mul_ne_zero hn (by omega)
  simp [Builtin.append_, run_underlying ht, run_underlying htn, sizeOf, typeInfo, zeroValue, hi, hz, asInt, asIntOf, hw, hn, hneg, hns, h63', h48', h48i, Question.forced, run_firstCells_none, newRow, grownCap]
  intro ev hev
  have hev' : ev ∈ (askRoom ((Question.appendCap n 0 e).cut (w.tape w.drawn (Question.appendCap n 0 e)) * i.bytes)).events P w.drew #[] := by simpa [Builtin.firstCells] using hev
  exact (Conc.events_askRoom _ _ _ ev hev').elim (by simp) id

theorem Conc.events_append_op2 {P : Program} {o : Oper} {a : Act} {w : World} (s x : Operand) (t tn : TypeId) (ho : o.op = .call { callee := .builtin .append, args := #[s, x], argTypes := #[t, tn] }) {vs vx : Value} (hs : a.eval s = vs) (hx : a.eval x = vx) :
    (execOp a.eval o).events P w #[] = (Builtin.append_ #[t, tn] o.type #[vs, vx]).events P w #[] := by
  simp [execOp, ho, resolve, invoke, builtin, hs, hx]

section
variable {P : Program} {x : Cx P} {ops : Array Oper} {Q : Post} {rest : List Oper} {H : Hp} {M M' : List Res} {L L' : Env}
variable {d : Nat} {ty : TypeId} {pos : String} {aft : Array Edge} {g : Option (Nat × Bool)}

theorem W_sliceNil {t e : TypeId} {sz : Nat} {y z : Operand} {kk : IntKind} (hg : gd ops L ⟨some d, .slice t y none (some z) none, ty, pos, aft, g⟩ = some true) (hN : Nat.blt d x.N = true)
    (hT : ∀ w, (underlying t).run P w = .ok (.slice e) w) (hs : ∀ w, (sizeOf e).run P w = .ok sz w) (hy : ev L y = some (.slice none 0 0)) (hz : ev L z = some (.int kk 0))
    (k : W x ops Q rest H M ((d, .slice none 0 0) :: L)) :
    W x ops Q (⟨some d, .slice t y none (some z) none, ty, pos, aft, g⟩ :: rest) H M L :=
  W_pure0 rfl hg hN (fun c w hsl ht => by
    have hr := run_sliceAt (P := P) (w := w) (t := t) (e := e) (sz := sz) (len := 0) (cap := 0) (a := none) (lo := none) (hi := some (.int kk 0)) (mx := none) (l := 0) (h := 0) (m := 0) hT hs (.inl rfl) (.inl ⟨rfl, rfl⟩) (.inr ⟨kk, 0, rfl, by omega, by omega, rfl⟩) (.inl ⟨rfl, rfl⟩)
    have he := ev_sliceAt (P := P) (w := w) (es := #[]) (t := t) (e := e) (sz := sz) (len := 0) (cap := 0) (a := none) (lo := none) (hi := some (.int kk 0)) (mx := none) (l := 0) (h := 0) (m := 0) hT hs (.inl rfl) (.inl ⟨rfl, rfl⟩) (.inr ⟨kk, 0, rfl, by omega, by omega, rfl⟩) (.inl ⟨rfl, rfl⟩)
    simp only [Nat.sub_self, if_true] at hr
    exact ⟨by simp only [execOp, hsl.ev hy, hsl.ev hz, Option.map_none, Option.map_some, Sem.run_bind, hr, Result.andThen_ok, Sem.run_pure], by simp only [execOp, hsl.ev hy, hsl.ev hz, Option.map_none, Option.map_some, Sem.events_bind, hr, he, Result.evThen_ok, Sem.events_pure]⟩) k
theorem zero_rd {α : Type} [Rep α] {H : Hp} {zs : List Value} {ze : α} (hE : Rep.E H zs ze) (hzl : zs.length = Rep.sz α) : ∀ q, RdC H ((List.range (q * Rep.sz α)).map (zs.toArray[· % zs.length]!)) (List.replicate q ze) := by
  intro q
  induction q with
  | zero => rw [Nat.zero_mul]; exact rfl
  | succ q ih =>
    have hsplit : (List.range ((q + 1) * Rep.sz α)).map (zs.toArray[· % zs.length]!) = zs ++ (List.range (q * Rep.sz α)).map (zs.toArray[· % zs.length]!) := by
      apply List.ext_getElem?
      intro j
      rw [List.getElem?_append, List.getElem?_map]
      by_cases hj : j < zs.length
      · rw [if_pos hj, List.getElem?_range (by rw [Nat.add_mul]; omega)]
        simp [Nat.mod_eq_of_lt hj, hj]
      · rw [if_neg hj, List.getElem?_map]
        by_cases hj2 : j < (q + 1) * Rep.sz α
        · rw [List.getElem?_range hj2, List.getElem?_range (by rw [Nat.add_mul] at hj2; omega)]
          simp only [Option.map_some]
          rw [← Nat.mod_eq_sub_mod (by omega)]
        · rw [List.getElem?_eq_none (by simp; omega), List.getElem?_eq_none (by rw [Nat.add_mul] at hj2; simp; omega)]
    rw [hsplit]
    exact ⟨zs, _, rfl, hE, ih⟩
theorem W_growNil {α : Type} [Rep α] {t tn e : TypeId} {bytes : Nat} {z : Value} {zs : List Value} {ze : α} {y u : Operand} {kk : IntKind} {n : Int}
    (hg : gd ops L ⟨some d, .call ⟨.builtin .append, #[y, u], #[t, tn]⟩, ty, pos, aft, g⟩ = some true) (hN : Nat.blt d x.N = true)
    (hT : P.underlying t = some (.slice e)) (hTn : P.underlying tn = some (.int .i64)) (hi : TyI P e (Rep.sz α) bytes z) (hz : z.cells = zs.toArray) (hs : Nat.blt 0 (Rep.sz α) = true) (hb0 : Nat.blt 0 bytes = true)
    (hE : Rep.E (fun _ => none) zs ze) (hy : ev L y = some (.slice none 0 0)) (hu : ev L u = some (.int kk n)) (h0 : 0 < n) (hb : n * bytes ≤ 281474976710656)
    (k : ∀ v' xs' (l : List α), Rw H v' xs' l → l.length = n.toNat → n ≤ Value.cap' v' → W x ops Q rest H (.row v' e (Rep.sz α) l.length xs' :: M) ((d, v') :: L)) :
    W x ops Q (⟨some d, .call ⟨.builtin .append, #[y, u], #[t, tn]⟩, ty, pos, aft, g⟩ :: rest) H M L := by
  obtain ⟨i, h1, h2, h3, h4⟩ := hi.ex
  obtain ⟨m, rfl⟩ : ∃ m : Nat, n = m := ⟨n.toNat, by omega⟩
  have hs' : 0 < Rep.sz α := by simpa [Nat.blt_eq] using hs
  have hb0' : 0 < bytes := by simpa [Nat.blt_eq] using hb0
  have hm0 : 0 < m := by omega
  have hcast : ((m * bytes : Nat) : Int) = (m : Int) * (bytes : Int) := Int.natCast_mul m bytes
  have hbn : m * bytes ≤ 281474976710656 := by omega
  have hm : m ≤ m * bytes := Nat.le_mul_of_pos_right _ hb0'
  have hmax : m ≤ maxLen := by unfold maxLen; omega
  have hE' : Rep.E H zs ze := Rep.mono (fun _ _ h => by cases h) hE
  have hzl : zs.length = Rep.sz α := Rep.len hE
  have hrd := zero_rd hE' hzl m
  have hlr : (List.replicate m ze).length = m := List.length_replicate
  refine W_run rfl hg hN fun a w hsl ht => ?_
  have hev := events_append_nil_zeros (P := P) w t tn ty e i z kk .i64 hT hTn h1 h4 m hm0 (by omega) (by omega) (by rw [h3]; omega)
  have hr := Go.Lib.run_append_nil_zeros (P := P) w t tn ty e i z kk .i64 hT hTn h1 h4 m hm0 (by omega) (by omega) (by rw [h3]; omega)
  have hge := grownCap_ge w m 0 e
  have hcm : grownCap w m 0 e ≤ maxLen := grownCap_le_maxLen w m 0 e hmax
  have hcells : (Builtin.zeroCells z.cells m).toList = (List.range (m * Rep.sz α)).map (zs.toArray[· % zs.length]!) := by
    unfold Builtin.zeroCells
    rw [hz]
    simp [hzl]
  have hgr : w.grownBy (w.drew.alloc (.cells (Builtin.zeroCells z.cells m ++ Builtin.zeroCells z.cells (grownCap w m 0 e - m)) e)) none := ⟨rfl, rfl, rfl, by simp, fun k hk _ => heap_alloc_old w.drew _ (h := hk)⟩
  refine ⟨.slice (some ⟨w.heap.size, 0, none⟩) m (grownCap w m 0 e), w.drew.alloc (.cells (Builtin.zeroCells z.cells m ++ Builtin.zeroCells z.cells (grownCap w m 0 e - m)) e), ?_, fun hnews => ⟨Did.of_grown hgr (by simp) ?_, H,
    .row (.slice (some ⟨w.heap.size, 0, none⟩) m (grownCap w m 0 e)) e (Rep.sz α) (List.replicate m ze).length (Builtin.zeroCells z.cells m).toList :: M,
    ht.add (r' := .row (.slice (some ⟨w.heap.size, 0, none⟩) m (grownCap w m 0 e)) e (Rep.sz α) (List.replicate m ze).length (Builtin.zeroCells z.cells m).toList) hgr ?_ hnews ?_, k _ _ (List.replicate m ze) ⟨by rw [hcells]; exact hrd, _, _, _, rfl⟩ (by rw [hlr]; rfl) (by simp only [Value.cap']; omega)⟩⟩
  · simp [execOp, resolve, invoke, builtin, hsl.ev hy, hsl.ev hu, hr]
  · rw [Conc.events_append_op2 (P := P) y u t tn rfl (hsl.ev hy) (hsl.ev hu)]
    exact fun e he => .inr (.inl (let ⟨m, h1, h2⟩ := hev e he; ⟨m, h1, .inl h2⟩))
  · show OwnsR _ e (Rep.sz α) _ (List.replicate m ze).length _
    rw [hlr]
    have hlen : (Builtin.zeroCells z.cells m).toList.length = m * Rep.sz α := by rw [hcells]; simp
    refine ⟨hlen, .inr ⟨w.heap.size, 0, grownCap w m 0 e, _, rfl, heap_alloc_new w.drew _, hge, hcm, ?_, ?_⟩⟩
    · have hz2 : z.cells.size = Rep.sz α := by rw [hz]; simpa using hzl
      simp only [Array.size_append, size_zeroCells, hz2, Nat.zero_add, ← Nat.add_mul]
      rw [show m + (grownCap w m 0 e - m) = grownCap w m 0 e from by omega]
      exact Nat.le_refl _
    · rw [List.drop_zero, Array.toList_append, ← hlen]
      exact List.take_left
  · intro b hb'
    simp only [Res.foot, Value.ownBlock, Option.some.injEq] at hb'
    omega
end
end Go.Sim
end

section
namespace Go.Sim
open Go
set_option linter.unusedVariables false

/-- Resource number n, and the others. -/
def nthR : Nat → List Res → Option (Res × List Res)
  | _, [] => none
  | 0, r :: l => some (r, l)
  | n + 1, r :: l => match nthR n l with
    | some (s, l') => some (s, r :: l')
    | none => none
theorem nthR_perm : ∀ {n : Nat} {l : List Res} {r : Res} {l' : List Res}, nthR n l = some (r, l') → l.Perm (r :: l')
  | _, [], _, _, h => by simp [nthR] at h
  | 0, s :: l, r, l', h => by simp only [nthR, Option.some.injEq, Prod.mk.injEq] at h; rw [h.1, h.2]
  | n + 1, s :: l, r, l', h => by
    simp only [nthR] at h
    split at h
    · rename_i q l2 e
      simp only [Option.some.injEq, Prod.mk.injEq] at h
      obtain ⟨rfl, rfl⟩ := h
      exact ((nthR_perm e).cons s).trans (List.Perm.swap _ _ _)
    · cases h
/-- The resources come to stand as told: each number counts among those that are left. -/
def permR : List Nat → List Res → Option (List Res)
  | [], l => some l
  | i :: is, l => match nthR i l with
    | some (r, l') => (match permR is l' with
      | some l'' => some (r :: l'')
      | none => none)
    | none => none
theorem permR_perm : ∀ {ix : List Nat} {l l' : List Res}, permR ix l = some l' → l.Perm l'
  | [], l, l', h => by simp only [permR, Option.some.injEq] at h; rw [h]
  | i :: is, l, l', h => by
    simp only [permR] at h
    split at h
    · rename_i r l1 e
      split at h
      · rename_i l2 e2
        simp only [Option.some.injEq] at h
        subst h
        exact (nthR_perm e).trans ((permR_perm e2).cons r)
      · cases h
    · cases h
def dropR : Nat → List Res → Option (List Res)
  | 0, l => some l
  | _ + 1, [] => none
  | n + 1, _ :: l => dropR n l
theorem dropR_sub : ∀ {n : Nat} {l l' : List Res}, dropR n l = some l' → l'.Sublist l
  | 0, l, l', h => by simp only [dropR, Option.some.injEq] at h; rw [h]; exact List.Sublist.refl _
  | n + 1, [], l', h => by simp [dropR] at h
  | n + 1, r :: l, l', h => (dropR_sub (n := n) (l := l) h).cons r
/-- These resources, and not the d that are left of those ahead. -/
def pickR : List Nat → Nat → List Res → Option (List Res)
  | [], d, l => dropR d l
  | i :: is, d, l => match nthR i l with
    | some (r, l') => (match pickR is d l' with
      | some l'' => some (r :: l'')
      | none => none)
    | none => none
theorem pickR_sub : ∀ {ix : List Nat} {d : Nat} {l l' : List Res}, pickR ix d l = some l' → ∃ k, l.Perm k ∧ l'.Sublist k
  | [], d, l, l', h => ⟨l, List.Perm.refl _, dropR_sub h⟩
  | i :: is, d, l, l', h => by
    simp only [pickR] at h
    split at h
    · rename_i r l1 e
      split at h
      · rename_i l2 e2
        simp only [Option.some.injEq] at h
        subst h
        obtain ⟨k, hk, hs⟩ := pickR_sub e2
        exact ⟨r :: k, (nthR_perm e).trans (hk.cons r), hs.cons_cons r⟩
      · cases h
    · cases h
/-- What a region takes: each resource by itself; and what stays. -/
def tokR : List Nat → List Res → Option (List (List Res) × List Res)
  | [], l => some ([], l)
  | i :: is, l => match nthR i l with
    | some (r, l') => (match tokR is l' with
      | some (I, m) => some ([r] :: I, m)
      | none => none)
    | none => none
theorem tokR_perm : ∀ {ix : List Nat} {l : List Res} {I : List (List Res)} {m : List Res}, tokR ix l = some (I, m) → l.Perm (I.flatten ++ m)
  | [], l, I, m, h => by simp only [tokR, Option.some.injEq, Prod.mk.injEq] at h; obtain ⟨rfl, rfl⟩ := h; exact List.Perm.refl _
  | i :: is, l, I, m, h => by
    simp only [tokR] at h
    split at h
    · rename_i r l1 e
      split at h
      · rename_i I2 m2 e2
        simp only [Option.some.injEq, Prod.mk.injEq] at h
        obtain ⟨rfl, rfl⟩ := h
        simpa using (nthR_perm e).trans ((tokR_perm e2).cons r)
      · cases h
    · cases h
section
variable {P : Program} {x : Cx P} {ops : Array Oper} {Q : Post} {rest : List Oper} {H : Hp} {M M' : List Res} {L L' : Env} {e : Exit} {c : Code}
theorem Wp (ix : List Nat) (k : W x ops Q rest H M' L) (h : permR ix M = some M' := by rfl) : W x ops Q rest H M L := W_perm (permR_perm h) k
theorem Cp (ix : List Nat) (k : Sim.C x c Q H M' L) (h : permR ix M = some M' := by rfl) : Sim.C x c Q H M L := C_perm (permR_perm h) k
theorem Ep (ix : List Nat) (k : E x e Q H M' L) (h : permR ix M = some M' := by rfl) : E x e Q H M L := E_perm (permR_perm h) k
theorem Ek (ix : List Nat) (d : Nat) (k : E x e Q H M' L) (h : pickR ix d M = some M' := by rfl) : E x e Q H M L := by
  obtain ⟨n, hp, hs⟩ := pickR_sub h
  exact E_perm hp (E_drop hs k)
theorem Ck (ix : List Nat) (d : Nat) (k : Sim.C x c Q H M' L) (h : pickR ix d M = some M' := by rfl) : Sim.C x c Q H M L := by
  obtain ⟨n, hp, hs⟩ := pickR_sub h
  exact C_perm hp (fun a w s t => k a w s (t.sub hs))
theorem kx (ix : List Nat) (d : Nat) (k : E x e Q H M' L') (h : pickR ix d M = some M' := by rfl) (hL : Kept L L' := by repeat first | exact trivial | refine ⟨rfl, ?_⟩) : E x e Q H M L :=
  Ek ix d (E_keep hL (List.Perm.refl _) k) h
theorem ckx (ix : List Nat) (d : Nat) (S : Heads) (n : Nat) (h0 : S n H M' L') (step : ∀ n H M L, S n H M L → Sim.C x c (Exit.then (Back x S n) Q) H M L) (h : pickR ix d M = some M' := by rfl) (hL : Kept L L' := by repeat first | exact trivial | refine ⟨rfl, ?_⟩) : Sim.C x (.loop c) Q H M L :=
  Ck ix d (C_keep hL (List.Perm.refl _) (C_loop S n h0 step)) h
end
/-- Cells with new values from a place on. -/
def setE : Nat → Value → List Value → Option (List Value)
  | _, _, [] => none
  | 0, v, _ :: l => some (v :: l)
  | n + 1, v, u :: l => match setE n v l with
    | some l' => some (u :: l')
    | none => none
def overE : List Value → Nat → List Value → Option (List Value)
  | l, _, [] => some l
  | l, k, v :: vs => match setE k v l with
    | some l' => overE l' (k + 1) vs
    | none => none
theorem setE_eq : ∀ {n : Nat} {v : Value} {l l' : List Value}, setE n v l = some l' → l.set n v = l' ∧ n < l.length
  | _, _, [], _, h => by simp [setE] at h
  | 0, v, u :: l, l', h => by simp only [setE, Option.some.injEq] at h; subst h; exact ⟨rfl, by simp⟩
  | n + 1, v, u :: l, l', h => by
    simp only [setE] at h
    split at h
    · rename_i l2 e
      simp only [Option.some.injEq] at h
      subst h
      obtain ⟨h1, h2⟩ := setE_eq e
      exact ⟨by simp [h1], by simp; omega⟩
    · cases h
theorem overE_eq : ∀ {vs : List Value} {l : List Value} {k : Nat} {l' : List Value}, overE l k vs = some l' → over l k vs = l' ∧ (vs = [] ∨ k + vs.length ≤ l.length)
  | [], l, k, l', h => by simp only [overE, Option.some.injEq] at h; subst h; exact ⟨rfl, .inl rfl⟩
  | v :: vs, l, k, l', h => by
    simp only [overE] at h
    split at h
    · rename_i l2 e
      obtain ⟨h1, h2⟩ := setE_eq e
      obtain ⟨h3, h4⟩ := overE_eq h
      refine ⟨by simp only [over]; rw [h1]; exact h3, .inr ?_⟩
      have hl : l2.length = l.length := by rw [← h1]; simp
      rcases h4 with rfl | h4
      · simp; omega
      · simp only [List.length_cons]; omega
    · cases h
/-- The first n are spelled out. -/
def idR : Nat → List Res → Option (List Res)
  | 0, l => some l
  | _ + 1, [] => none
  | n + 1, r :: l => match idR n l with
    | some l' => some (r :: l')
    | none => none
theorem idR_eq : ∀ {n : Nat} {l l' : List Res}, idR n l = some l' → l = l'
  | 0, l, l', h => by simpa [idR] using h
  | n + 1, [], l', h => by simp [idR] at h
  | n + 1, r :: l, l', h => by
    simp only [idR] at h
    split at h
    · rename_i l2 e
      simp only [Option.some.injEq] at h
      subst h
      rw [idR_eq e]
    · cases h
section
variable {P : Program} {x : Cx P} {ops : Array Oper} {Q : Post} {rest : List Oper} {H : Hp} {M M' M1 : List Res} {rs : List Res} {L L' : Env} {e : Exit} {c : Code}
theorem Wu (n : Nat) (k : W x ops Q rest H M' L) (h : M = packOf rs :: M1 := by rfl) (h2 : idR n (rs ++ M1) = some M' := by rfl) : W x ops Q rest H M L := fun a w hs ht => k a w hs (by rw [← idR_eq h2]; rw [h] at ht; exact ht.unpack)
theorem Cu (n : Nat) (k : Sim.C x c Q H M' L) (h : M = packOf rs :: M1 := by rfl) (h2 : idR n (rs ++ M1) = some M' := by rfl) : Sim.C x c Q H M L := fun a w hs ht => k a w hs (by rw [← idR_eq h2]; rw [h] at ht; exact ht.unpack)
theorem Wkq (rs : List Res) (k : W x ops Q rest H (packOf rs :: M1) L) (h : rs ++ M1 = M := by rfl) : W x ops Q rest H M L := fun a w hs ht => k a w hs (by rw [← h] at ht; exact ht.pack)
theorem Ek' (rs : List Res) (k : E x e Q H (packOf rs :: M1) L) (h : rs ++ M1 = M := by rfl) : E x e Q H M L := fun a w hs ht => k a w hs (by rw [← h] at ht; exact ht.pack)
end
end Go.Sim
end
