/-
  How Go's data read as Lean's; loops; a function's beginning and end; the combinators of the models.
  A region that draws its order: each operation is shown once, from what it waits for; whatever order is drawn, the facts are the same.
  A region that draws its order, whose operations may make and use up resources ("tokens"): whatever order is drawn, the facts are the same.
  Small lemmas that the printed proofs name.
-/
import Derived.Test.YticgbjeijocojaaMg2
set_option linter.unusedVariables false
set_option linter.unusedSimpArgs false
section
set_option linter.unusedSimpArgs false
set_option linter.unusedVariables false
namespace Go.Sim
open Go Go.RowKit Go.Conc

/-! ### Data -/
class Rep (α : Type) where
  sz : Nat
  E : Hp → List Value → α → Prop
  len : ∀ {H cs x}, E H cs x → cs.length = sz
  mono : ∀ {H H' cs x}, H.le H' → E H cs x → E H' cs x
  one : ∀ {H cs x}, E H cs x → ∀ c ∈ cs, c.oneCell' = true

instance : Rep Int where
  sz := 1
  E _ cs n := cs = [.int .i64 n]
  len h := by rw [h]; rfl
  mono _ h := h
  one h c hc := by rw [h] at hc; simp at hc; subst hc; rfl
instance : Rep Bool where
  sz := 1
  E _ cs b := cs = [.bool b]
  len h := by rw [h]; rfl
  mono _ h := h
  one h c hc := by rw [h] at hc; simp at hc; subst hc; rfl
instance : Rep ByteArray where
  sz := 1
  E _ cs s := cs = [.string s]
  len h := by rw [h]; rfl
  mono _ h := h
  one h c hc := by rw [h] at hc; simp at hc; subst hc; rfl
instance : Rep UInt8 where
  sz := 1
  E _ cs n := cs = [.int .u8 n.toNat]
  len h := by rw [h]; rfl
  mono _ h := h
  one h c hc := by rw [h] at hc; simp at hc; subst hc; rfl
instance : Rep UInt32 where
  sz := 1
  E _ cs n := cs = [.int .u32 n.toNat]
  len h := by rw [h]; rfl
  mono _ h := h
  one h c hc := by rw [h] at hc; simp at hc; subst hc; rfl
instance : Rep UInt64 where
  sz := 1
  E _ cs n := cs = [.int .u64 n.toNat]
  len h := by rw [h]; rfl
  mono _ h := h
  one h c hc := by rw [h] at hc; simp at hc; subst hc; rfl

/-- A slice that reads as a list. -/
def RdS {α : Type} [Rep α] (H : Hp) (v : Value) (xs : List α) : Prop :=
  ((∃ a, v = .slice a 0 0) ∧ xs = []) ∨
  ∃ b off cap arr T fz, v = .slice (some ⟨b, off, none⟩) xs.length cap ∧ xs.length ≤ cap ∧ cap ≤ maxLen ∧ H b = some (.cells arr T fz) ∧ off + cap * Rep.sz α ≤ arr.size ∧
    ∀ k e, xs[k]? = some e → ∃ cs, Rep.E H cs e ∧ ∀ j c, cs[j]? = some c → arr[off + k * Rep.sz α + j]? = some c

theorem RdS.mono {α : Type} [Rep α] {H H' : Hp} {v : Value} {xs : List α} (hle : H.le H') (h : RdS H v xs) : RdS H' v xs := by
  rcases h with h | ⟨b, off, cap, arr, T, fz, h1, h2, h3, h4, h5, h6⟩
  · exact .inl h
  · exact .inr ⟨b, off, cap, arr, T, fz, h1, h2, h3, hle _ _ h4, h5, fun k e he => let ⟨cs, a, b⟩ := h6 k e he; ⟨cs, Rep.mono hle a, b⟩⟩

instance {α : Type} [Rep α] : Rep (List α) where
  sz := 1
  E H cs xs := ∃ v, cs = [v] ∧ RdS H v xs
  len h := by obtain ⟨v, rfl, _⟩ := h; rfl
  mono hle h := by obtain ⟨v, e, hv⟩ := h; exact ⟨v, e, hv.mono hle⟩
  one h c hc := by
    obtain ⟨v, rfl, hv⟩ := h
    simp at hc; subst hc
    rcases hv with ⟨⟨a, rfl⟩, _⟩ | ⟨b, off, cap, arr, T, fz, rfl, _⟩ <;> rfl

/-- The address of what lies k cells behind a slice's beginning. -/
def Value.base : Value → Addr
  | .slice (some a) _ _ => a
  | _ => ⟨0, 0, none⟩
def Value.cap' : Value → Nat
  | .slice _ _ c => c
  | _ => 0

theorem RdS.len {α : Type} [Rep α] {H : Hp} {v : Value} {xs : List α} (h : RdS H v xs) : ∃ a c, v = .slice a xs.length c ∧ xs.length ≤ c ∧ c ≤ maxLen := by
  rcases h with ⟨⟨a, rfl⟩, rfl⟩ | ⟨b, off, cap, arr, T, fz, rfl, h2, h3, _⟩
  · exact ⟨a, 0, rfl, Nat.le_refl _, by unfold maxLen; omega⟩
  · exact ⟨_, cap, rfl, h2, h3⟩

theorem RdS.val {α : Type} [Rep α] {H : Hp} {v : Value} {xs : List α} (h : RdS H v xs) {k : Nat} {e : α} (he : xs[k]? = some e) : v = .slice (some (Value.base v)) xs.length (Value.cap' v) := by
  rcases h with ⟨⟨a, rfl⟩, rfl⟩ | ⟨b, off, cap, arr, T, fz, rfl, _⟩
  · simp at he
  · rfl

/-- An element's cells. -/
theorem RdS.elem {α : Type} [Rep α] {H : Hp} {v : Value} {xs : List α} (h : RdS H v xs) {k : Nat} {e : α} (he : xs[k]? = some e) :
    ∃ cs, Rep.E H cs e ∧ HCells H ((Value.base v).add (k * Rep.sz α)) cs := by
  rcases h with ⟨⟨a, rfl⟩, rfl⟩ | ⟨b, off, cap, arr, T, fz, rfl, h2, h3, h4, h5, h6⟩
  · simp at he
  · obtain ⟨cs, h7, h8⟩ := h6 k e he
    refine ⟨cs, h7, fun j c hc => ⟨arr, T, fz, ?_, ?_, ?_⟩⟩
    · simp only [Value.base, Addr.add_lit]; exact h4
    · simp only [Value.base, Addr.add_lit]
    · simp only [Value.base, Addr.add_lit]; exact h8 j c hc

/-! ### Indexing a slice that reads -/
section
variable {P : Program} {x : Cx P} {ops : Array Oper} {Q : Post} {rest : List Oper} {H : Hp} {M M' : List Res} {L L' : Env}
variable {d : Nat} {ty : TypeId} {pos : String} {aft : Array Edge} {g : Option (Nat × Bool)}

theorem W_indexS {α : Type} [Rep α] {t e : TypeId} {y z : Operand} {v : Value} {xs : List α} {el : α} {kk : IntKind} {i : Int} (hg : gd ops L ⟨some d, .indexAddr t y z, ty, pos, aft, g⟩ = some true) (hN : Nat.blt d x.N = true)
    (hT : ∀ w, (underlying t).run x.P w = .ok (.slice e) w) (hs : ∀ w, (sizeOf e).run x.P w = .ok (Rep.sz α) w)
    (hy : ev L y = some v) (hR : RdS H v xs) (hz : ev L z = some (.int kk i)) (h0 : 0 ≤ i) (he : xs[i.toNat]? = some el)
    (k : W x ops Q rest H M ((d, .pointer (some ((Value.base v).add (i.toNat * Rep.sz α)))) :: L)) :
    W x ops Q (⟨some d, .indexAddr t y z, ty, pos, aft, g⟩ :: rest) H M L :=
  W_indexA hg hN hT hs (by rw [hy, ← hR.val he]) hz h0 (by rcases List.getElem?_eq_some_iff.1 he with ⟨h, _⟩; exact h) k

theorem W_lenR {α : Type} [Rep α] {t e : TypeId} {y : Operand} {v : Value} {xs : List α} (hg : gd ops L ⟨some d, .call ⟨.builtin .len, #[y], #[t]⟩, ty, pos, aft, g⟩ = some true) (hN : Nat.blt d x.N = true)
    (hT : ∀ w, (underlying t).run x.P w = .ok (.slice e) w) (hy : ev L y = some v) (hR : RdS H v xs) (k : W x ops Q rest H M ((d, .int .i64 xs.length) :: L)) :
    W x ops Q (⟨some d, .call ⟨.builtin .len, #[y], #[t]⟩, ty, pos, aft, g⟩ :: rest) H M L := by
  obtain ⟨a, c, rfl, _⟩ := hR.len
  exact W_lenS hg hN hT hy k
end

/-! ### Stores into an owned block -/
/-- vs laid over l from place k on. -/
def over (l : List Value) (k : Nat) : List Value → List Value
  | [] => l
  | v :: vs => over (l.set k v) (k + 1) vs

theorem over_length (vs : List Value) : ∀ (l : List Value) (k : Nat), (over l k vs).length = l.length := by
  induction vs with
  | nil => intro l k; rfl
  | cons v vs ih => intro l k; simp [over, ih]

theorem run_storeCells_obj {P : Program} (b o : Nat) (T : TypeId) : ∀ (vs : List Value) (i : Nat) (l : List Value) (w : World), w.heap[b]? = some (.cells l.toArray T (0, 0)) →
    o + i + vs.length ≤ l.length → (∀ v ∈ vs, v.oneCell' = true) →
    ∃ w', (storeCells ⟨b, o, none⟩ vs i).run P w = .ok () w' ∧ w'.heap[b]? = some (.cells (over l (o + i) vs).toArray T (0, 0)) ∧ w.grownBy w' (some b)
  | [], i, l, w, h, _, _ => ⟨w, rfl, h, ⟨rfl, rfl, rfl, Nat.le_refl _, fun _ _ _ => rfl⟩⟩
  | v :: vs, i, l, w, h, hb, h1 => by
    have hlt : o + i < l.length := by simp at hb; omega
    have hc : w.cell? ⟨b, o + i, none⟩ = some l[o + i] := cell_of (w := w) (ad := ⟨b, o + i, none⟩) h rfl (by simp [hlt])
    have hf : w.frozen? ⟨b, o + i, none⟩ = false := by simp [World.frozen?, h]
    have h' : (w.setCell ⟨b, o + i, none⟩ v).heap[b]? = some (.cells (l.set (o + i) v).toArray T (0, 0)) := by
      simp [World.setCell, Array.getElem?_modify, h]
    obtain ⟨w', hr, hh, hg⟩ := run_storeCells_obj (P := P) b o T vs (i + 1) (l.set (o + i) v) (w.setCell ⟨b, o + i, none⟩ v) h' (by simp at hb ⊢; omega) (fun u hu => h1 u (List.mem_cons_of_mem _ hu))
    refine ⟨w', ?_, ?_, ?_⟩
    · have hv := h1 v (List.mem_cons_self ..)
      simp only [storeCells, Sem.run_bind, store, Addr.add_lit]
      have : (Sem.store Mode.plain ⟨b, o + i, none⟩ v (Sem.pure ())).run P w = .ok () (w.setCell ⟨b, o + i, none⟩ v) := by
        cases v <;> first
          | (simp [Sem.run, hc, hf]; done)
          | simp [Value.oneCell'] at hv
      rw [this]
      simpa using hr
    · simpa [over, Nat.add_assoc] using hh
    · exact ⟨hg.os, hg.tape, hg.output, by have := hg.size; simpa [World.setCell] using this, fun k hk hne => by
        rw [hg.block k (by simpa [World.setCell] using hk) hne]
        exact Below.heap_setCell _ _ _ _ (by intro e; subst e; exact hne rfl)⟩

theorem events_storeCells_obj {P : Program} (b o : Nat) (T : TypeId) {Ok : Event → Prop} (hok : ∀ j, Ok ⟨.cell ⟨b, j, none⟩, true, false⟩) : ∀ (vs : List Value) (i : Nat) (l : List Value) (w : World) (es : Array Event), w.heap[b]? = some (.cells l.toArray T (0, 0)) →
    o + i + vs.length ≤ l.length → (∀ v ∈ vs, v.oneCell' = true) → (∀ e ∈ es, Ok e) → ∀ e ∈ (storeCells ⟨b, o, none⟩ vs i).events P w es, Ok e
  | [], i, l, w, es, h, _, _, he => by simpa [storeCells] using he
  | v :: vs, i, l, w, es, h, hb, h1, he => by
    have hlt : o + i < l.length := by simp at hb; omega
    have hc : w.cell? ⟨b, o + i, none⟩ = some l[o + i] := cell_of (w := w) (ad := ⟨b, o + i, none⟩) h rfl (by simp [hlt])
    have hf : w.frozen? ⟨b, o + i, none⟩ = false := by simp [World.frozen?, h]
    have h' : (w.setCell ⟨b, o + i, none⟩ v).heap[b]? = some (.cells (l.set (o + i) v).toArray T (0, 0)) := by
      simp [World.setCell, Array.getElem?_modify, h]
    have ih := events_storeCells_obj (P := P) b o T hok vs (i + 1) (l.set (o + i) v) (w.setCell ⟨b, o + i, none⟩ v) (es.push ⟨.cell ⟨b, o + i, none⟩, true, false⟩) h' (by simp at hb ⊢; omega) (fun u hu => h1 u (List.mem_cons_of_mem _ hu))
      (fun e hm => (Array.mem_push.1 hm).elim (he e) fun q => q ▸ hok _)
    have hv := h1 v (List.mem_cons_self ..)
    have hrun : (Sem.store Mode.plain ⟨b, o + i, none⟩ v (Sem.pure ())).run P w = .ok () (w.setCell ⟨b, o + i, none⟩ v) := by
      cases v <;> first
        | (simp [Sem.run, hc, hf]; done)
        | simp [Value.oneCell'] at hv
    have hev : (Sem.store Mode.plain ⟨b, o + i, none⟩ v (Sem.pure ())).events P w es = es.push ⟨.cell ⟨b, o + i, none⟩, true, false⟩ := by
      have e0 : (Mode.plain == Mode.atomic) = false := rfl
      cases v <;> first
        | (simp [Sem.events, Sem.runT, hc, hf, e0]; done)
        | simp [Value.oneCell'] at hv
    simp only [storeCells, store, Addr.add_lit]
    rw [Sem.events_bind, hrun]
    simp only [hev]
    exact ih

theorem Did.of_grown {P : Program} {c : Bs P} {w w' : World} {row : Option Nat} {es : Array Event} (hg : w.grownBy w' row) (hr : ∀ b, row = some b → c.K b) (he : ∀ e ∈ es, Ev1 c w'.heap.size e) : Did c w w' es :=
  ⟨hg.tape, hg.os, hg.output, hg.size, fun b hb hk => hg.block b hb fun e => hk (hr b e.symm), he⟩

section
variable {P : Program} {x : Cx P} {ops : Array Oper} {Q : Post} {rest : List Oper} {H : Hp} {M M' : List Res} {L L' : Env}
variable {ty : TypeId} {pos : String} {aft : Array Edge} {g : Option (Nat × Bool)}

/-- A store into an owned block, which stands first. -/
theorem W_store {T E : TypeId} {n : Nat} {y z : Operand} {b o : Nat} {l cs out : List Value} {v : Value} (hg : gd ops L ⟨none, .store T y z, ty, pos, aft, g⟩ = some true)
    (hn : ∀ w, (sizeOf T).run x.P w = .ok n w) (hy : ev L y = some (.pointer (some ⟨b, o, none⟩))) (hz : ev L z = some v) (hv : v.cells = cs.toArray) (hl : cs.length = n)
    (hb : Nat.ble (o + cs.length) l.length = true) (h1 : ∀ c ∈ cs, c.oneCell' = true) (ho : over l o cs = out)
    (k : W x ops Q rest H (.obj b (.cells out.toArray E (0, 0)) :: M) L) :
    W x ops Q (⟨none, .store T y z, ty, pos, aft, g⟩ :: rest) H (.obj b (.cells l.toArray E (0, 0)) :: M) L :=
  W_skip rfl hg (fun a w hs ht => by
    subst ho
    have hob := ht.obj_ok (List.mem_cons_self ..)
    have hK := ht.kown _ (List.mem_cons_self ..) b (by simp [Res.feet])
    obtain ⟨w', hr, hh, hgr⟩ := run_storeCells_obj (P := P) b o E cs 0 l w hob (by simpa [Nat.ble_eq] using hb) h1
    have hev := events_storeCells_obj (P := P) b o E (Ok := Ev1 x.w0 w'.heap.size) (fun j => .inl ⟨_, true, rfl, Nat.lt_of_lt_of_le (Array.getElem?_eq_some_iff.1 hob).1 hgr.size, .inl hK⟩) cs 0 l w #[] hob (by simpa [Nat.ble_eq] using hb) h1 (by simp)
    refine ⟨w', ?_, fun n => ⟨Did.of_grown hgr (fun c e => by cases e; exact hK) ?_, H, _, ht.upd (r' := .obj b (.cells (over l o cs).toArray E (0, 0))) hgr hh n (fun c hc => .inl hc), k⟩⟩
    · simp [execOp, hs.ev hy, hs.ev hz, Instr.storeAt, Instr.sureAddr, storeVar, hn, hl, hv, hr]
    · intro e he
      simp [execOp, hs.ev hy, hs.ev hz, Instr.storeAt, Instr.sureAddr, storeVar, hn, hl, hv, hr, Sem.events_bind] at he
      exact hev e he)
theorem over_all {l cs : List Value} (h : Nat.beq cs.length l.length = true) : over l 0 cs = cs := by
  have h' : cs.length = l.length := Nat.eq_of_beq_eq_true h
  have key : ∀ (vs pre : List Value) (l : List Value), l.length = pre.length + vs.length → l.take pre.length = pre → over l pre.length vs = pre ++ vs := by
    intro vs
    induction vs with
    | nil => intro pre l h1 h2; simp at h1; simp only [over, List.append_nil]; rw [← h2, List.take_of_length_le (by omega)]
    | cons v vs ih =>
      intro pre l h1 h2
      simp only [List.length_cons] at h1
      have := ih (pre ++ [v]) (l.set pre.length v) (by simp; omega) (by
        simp only [List.length_append, List.length_singleton]
        rw [List.take_succ_eq_append_getElem (by simp; omega), List.take_set_of_le (Nat.le_refl _), h2]
        simp)
      simp only [over]
      simpa using this
  simpa using key cs [] l (by simpa using h'.symm) rfl
end

/-! ### Loops -/
theorem least {p : Nat → Prop} : ∀ n, p n → ∃ m, p m ∧ ∀ k, p k → m ≤ k := by
  intro n
  induction n using Nat.strongRecOn with
  | _ n ih =>
    intro h
    by_cases hh : ∃ m, m < n ∧ p m
    · obtain ⟨m, hm, hp⟩ := hh; exact ih m hm hp
    · exact ⟨n, h, fun k hk => by
        by_cases e : k < n
        · exact absurd ⟨k, e, hk⟩ hh
        · omega⟩

/-- The states at a loop's head: a number that goes down, and the facts. -/
abbrev Heads := Nat → Hp → List Res → Env → Prop
def Back {P : Program} (x : Cx P) (S : Heads) (n : Nat) (a : Act) (w : World) : Prop :=
  ∃ m, m < n ∧ ∃ H M L, S m H M L ∧ Sl x.N L a ∧ St x.B x.w0 H M w

theorem C_loop {P : Program} {x : Cx P} {c : Code} {Q : Post} {H : Hp} {M : List Res} {L : Env} (S : Heads) (n : Nat) (h0 : S n H M L)
    (step : ∀ n H M L, S n H M L → C x c (Exit.then (Back x S n) Q) H M L) : C x (.loop c) Q H M L := by
  intro a w hs ht
  refine wpK_loopN (fun n a w => ∃ H M L, S n H M L ∧ Sl x.N L a ∧ St x.B x.w0 H M w) ⟨H, M, L, h0, hs, ht⟩ ?_
  intro n a w ⟨H, M, L, h, hs, ht⟩
  exact step n H M L h a w hs ht

theorem E_back {P : Program} {x : Cx P} {S : Heads} {Q : Post} {H : Hp} {M : List Res} {L : Env} {n m : Nat} (hm : m < n) (h : S m H M L) : E x .normal (Exit.then (Back x S n) Q) H M L :=
  fun _ _ hs ht => ⟨m, hm, H, M, L, h, hs, ht⟩

/-! ### The exits -/
section
variable {P : Program} {x : Cx P} {Q : Post} {H : Hp} {M : List Res} {L : Env} {K : Act → World → Prop}
theorem E_ret_then (h : E x .ret Q H M L) : E x .ret (Exit.then K Q) H M L := h
theorem E_ret_block {id : Nat} (h : E x .ret Q H M L) : E x .ret (Exit.inBlock id Q) H M L := h
theorem E_exit_then {id : Nat} (h : E x (.exit id) Q H M L) : E x (.exit id) (Exit.then K Q) H M L := h
theorem E_exit_hit {id : Nat} (h : E x .normal Q H M L) : E x (.exit id) (Exit.inBlock id Q) H M L := fun a w hs ht => by
  simp only [Exit.inBlock, if_true]; exact h a w hs ht
theorem E_exit_miss {id id' : Nat} (hne : Nat.beq id id' = false) (h : E x (.exit id) Q H M L) : E x (.exit id) (Exit.inBlock id' Q) H M L := fun a w hs ht => by
  have : ¬ id = id' := fun e => by subst e; simp at hne
  simp only [Exit.inBlock, if_neg this]; exact h a w hs ht
theorem E_normal_block {id : Nat} (h : E x .normal Q H M L) : E x .normal (Exit.inBlock id Q) H M L := h
end

/-- The places where ways meet: what is known there. -/
abbrev Meet := Hp → List Res → Env → Prop
theorem C_seq_join {P : Program} {x : Cx P} {c d : Code} {Q : Post} {H : Hp} {M : List Res} {L : Env} (S : Meet) (rest : ∀ H M L, S H M L → C x d Q H M L)
    (k : (∀ H M L, S H M L → E x .normal (Exit.then (wpK x.w0 d Q) Q) H M L) → C x c (Exit.then (wpK x.w0 d Q) Q) H M L) : C x (.seq c d) Q H M L :=
  C_seq (k fun H M L h => E_then (rest H M L h))
/-- A region's end where ways meet. -/
theorem E_join {P : Program} {x : Cx P} {Q : Post} {e : Exit} {H : Hp} {M : List Res} {L : Env} (S : Meet) (rest : ∀ H M L, S H M L → E x e Q H M L) (h : S H M L) : E x e Q H M L := rest H M L h

/-! ### Ranges -/
theorem rng_t {α : Type} {xs ys : List α} {k : Nat} (h : xs.drop k = ys) (hb : decide ((k : Int) < (xs.length : Int)) = true) :
    ∃ y zs, ys = y :: zs ∧ xs[k]? = some y ∧ xs.drop (k + 1) = zs := by
  have hk : k < xs.length := by have := of_decide_eq_true hb; omega
  refine ⟨xs[k], xs.drop (k + 1), ?_, List.getElem?_eq_getElem hk, rfl⟩
  rw [← h, List.drop_eq_getElem_cons hk]
theorem rng_f {α : Type} {xs ys : List α} {k : Nat} (h : xs.drop k = ys) (hb : decide ((k : Int) < (xs.length : Int)) = false) : ys = [] := by
  have hk : xs.length ≤ k := by have := of_decide_eq_false hb; omega
  rw [← h, List.drop_eq_nil_of_le hk]
theorem i64_of {n : Int} (h0 : -9223372036854775808 ≤ n) (h1 : n ≤ 9223372036854775807) : IntKind.i64.wrap n = n := by
  simp only [IntKind.wrap, IntKind.bits, IntKind.signed, Bool.true_and]
  split <;> rename_i h <;> simp at h <;> omega
theorem i64_succ {α : Type} {xs : List α} {k : Nat} {y : α} (h : xs[k]? = some y) (hl : xs.length ≤ maxLen) : IntKind.i64.wrap ((k : Int) + 1) = ((k + 1 : Nat) : Int) := by
  have hk := (List.getElem?_eq_some_iff.1 h).1
  unfold maxLen at hl
  rw [i64_of (by omega) (by omega)]; rfl
theorem i64_succN {k n : Nat} (h : k < n) (hl : n ≤ maxLen) : IntKind.i64.wrap ((k : Int) + 1) = ((k + 1 : Nat) : Int) := by
  unfold maxLen at hl
  rw [i64_of (by omega) (by omega)]; rfl
theorem RdS.lenMax {α : Type} [Rep α] {H : Hp} {v : Value} {xs : List α} (h : RdS H v xs) : xs.length ≤ maxLen := by
  obtain ⟨a, c, _, h1, h2⟩ := h.len; omega

/-! ### A function's beginning and end -/
def envOf : Nat → List Value → Env
  | _, [] => []
  | i, v :: vs => (i, v) :: envOf (i + 1) vs

theorem envOf_get (N : Nat) : ∀ (vs : List Value) (i : Nat) (t : Nat) (v : Value) (pre : List Value), pre.length = i → lk (envOf i vs) t = some v →
    ((pre ++ vs).toArray ++ Array.replicate (N - (pre ++ vs).length) undef)[t]? = some v := by
  intro vs
  induction vs with
  | nil => intro i t v pre _ h; simp [envOf, lk] at h
  | cons u vs ih =>
    intro i t v pre hp h
    simp only [envOf, lk_cons] at h
    split at h
    · rename_i e; subst e; cases h
      simp [Array.getElem?_append, ← hp]
    · have := ih (i + 1) t v (pre ++ [u]) (by simp [hp]) h
      simpa using this

/-- What the body of a callee must achieve. -/
def bodyPostK (P : Program) (fn : Func) (R : Rt P) : Exit → Act → World → Prop
  | .normal, a, w | .ret, a, w => a.defers = [] ∧ ∃ v, ResultsC P fn a.tmps v ∧ R.post v w
  | _, _, _ => False

theorem resK0 {P : Program} {fn : Func} (hr : fn.results = #[]) (tmps : Array Value) : ResultsC P fn tmps (.tuple #[]) := resultsC_none hr tmps
theorem resK1 {P : Program} {fn : Func} {tmps : Array Value} {t : Nat} {v : Value} (hr : fn.results = #[.tmp t]) (h : tmps[t]? = some v) : ResultsC P fn tmps v := by
  have := resultsC_tmp (P := P) hr tmps; simpa [Array.getD_eq_getD_getElem?, h] using this
theorem resK2 {P : Program} {fn : Func} {tmps : Array Value} {t u : Nat} {v w : Value} (hr : fn.results = #[.tmp t, .tmp u]) (h : tmps[t]? = some v) (h2 : tmps[u]? = some w) : ResultsC P fn tmps (.tuple #[v, w]) := by
  have := resultsC_tmp2 (P := P) hr tmps; simpa [Array.getD_eq_getD_getElem?, h, h2] using this
theorem resK3 {P : Program} {fn : Func} {tmps : Array Value} {t u s : Nat} {v w z : Value} (hr : fn.results = #[.tmp t, .tmp u, .tmp s]) (h : tmps[t]? = some v) (h2 : tmps[u]? = some w) (h3 : tmps[s]? = some z) : ResultsC P fn tmps (.tuple #[v, w, z]) :=
  fun W => ⟨by simp [results, hr, Array.getD_eq_getD_getElem?, h, h2, h3], by simp [results, hr]⟩

theorem callsK_of_wpK {P : Program} {f : FuncId} {fn : Func} {d : Code} {args : Array Value} {w : World} {R : Rt P} (hf : P.funcs[f]? = some fn) (hb : fn.body = some d) (hnm : (fn.name == "runtime.NumGoroutine") = false)
    (h : wpK R.c d (bodyPostK P fn R) { tmps := args ++ Array.replicate (fn.ntmps - args.size) undef, defers := [] } w) : Calls P f args w R := by
  refine ⟨⟨fn, d, hf, hnm, hb⟩, ?_⟩
  intro cf cs Stop hc
  rw [enter_at args hf hb]
  have hleave : ∀ (a' : Act) (w' : World) (todo : List Item), (a'.defers = [] ∧ ∃ v, ResultsC P fn a'.tmps v ∧ R.post v w') →
      Walks R.c Stop (G { (base f).at a' todo with mode := .returning } (cf :: cs)) w' := by
    rintro a' w' todo ⟨hd, v, hr, hp⟩
    exact Walks.move rfl (fun w1 => stepG_leave (b := base f) rfl hd hf (hr w1).1 (hr w1).2) fun w1 h1 => (hc v w' hp).rely h1
  refine h (base f) [] _ Stop (by simp [base]) fun e a' w' q => ?_
  cases e with
  | normal => exact Walks.move rfl (fun w1 => stepG_end) fun w1 h1 => (hleave a' w' [] q).rely h1
  | ret => exact fun todo => hleave a' w' todo q
  | exit id => exact q.elim
  | goto l => exact q.elim
  | panic ch => exact q.elim
  | outgrown => exact q.elim

theorem enter {P : Program} {f : FuncId} {fn : Func} {c : Code} {vs : List Value} {N B : Nat} {w0 : Bs P} {w : World} {H : Hp} {M : List Res} {Φ : Hp → List Res → Value → Prop}
    (hf : P.funcs[f]? = some fn) (hb : fn.body = some c) (hN : fn.ntmps = N) (hle : Nat.ble vs.length N = true) (ht : St B w0 H M w)
    (k : C ⟨N, B, w0⟩ c (bodyPostK P fn (Ret B w0 Φ)) H M (envOf 0 vs)) (hnm : (fn.name == "runtime.NumGoroutine") = false := by rfl) : Calls P f vs.toArray w (Ret B w0 Φ) := by
  refine callsK_of_wpK hf hb hnm (k _ w ⟨?_, rfl, ?_⟩ ht)
  · have : vs.length ≤ N := by simpa [Nat.ble_eq] using hle
    simp [hN]; omega
  · intro t v h
    have := envOf_get N vs 0 t v [] rfl h
    simpa [hN] using this

section
variable {P : Program} {N B : Nat} {w0 : Bs P} {fn : Func} {Φ : Hp → List Res → Value → Prop} {H : Hp} {M : List Res} {L : Env}
theorem end1 {t : Nat} {v : Value} (hr : fn.results = #[.tmp t]) (hl : lk L t = some v) (h : Φ H M v) : E ⟨N, B, w0⟩ .ret (bodyPostK P fn (Ret B w0 Φ)) H M L :=
  fun a w hs ht => ⟨hs.dfr, v, by have := resultsC_tmp (P := P) hr a.tmps; simpa [Array.getD_eq_getD_getElem?, hs.get t v hl] using this, H, M, ht, h⟩
theorem end2 {t u : Nat} {v1 v2 : Value} (hr : fn.results = #[.tmp t, .tmp u]) (hl : lk L t = some v1) (hl2 : lk L u = some v2) (h : Φ H M (.tuple #[v1, v2])) : E ⟨N, B, w0⟩ .ret (bodyPostK P fn (Ret B w0 Φ)) H M L :=
  fun a w hs ht => ⟨hs.dfr, .tuple #[v1, v2], by have := resultsC_tmp2 (P := P) hr a.tmps; simpa [Array.getD_eq_getD_getElem?, hs.get t v1 hl, hs.get u v2 hl2] using this, H, M, ht, h⟩
end

/-! ### The models' combinators -/
section
variable {α σ R : Type}
def idx (l : List α) (i : Int) (k : α → Option R) : Option R :=
  if 0 ≤ i then match l[i.toNat]? with
    | some y => k y
    | none => none
  else none
theorem idx_some {l : List α} {i : Int} {k : α → Option R} {r : R} (h : idx l i k = some r) : ∃ y, 0 ≤ i ∧ l[i.toNat]? = some y ∧ k y = some r := by
  unfold idx at h
  split at h
  · cases hl : l[i.toNat]? with
    | none => rw [hl] at h; cases h
    | some y => rw [hl] at h; exact ⟨y, ‹_›, rfl, h⟩
  · cases h
/-- A check that must hold (else Go panics, or memory does not suffice). -/
def need (p : Prop) [Decidable p] (k : Option R) : Option R := if p then k else none
theorem need_some {p : Prop} [Decidable p] {k : Option R} {r : R} (h : need p k = some r) : p ∧ k = some r := by
  unfold need at h
  split at h
  · exact ⟨‹_›, h⟩
  · cases h
theorem bind_some {o : Option α} {k : α → Option R} {r : R} (h : o.bind k = some r) : ∃ y, o = some y ∧ k y = some r := by
  cases o with
  | none => cases h
  | some y => exact ⟨y, rfl, h⟩
theorem ite_t {b : Bool} {p q : Option R} {r : R} (hb : b = true) (h : (if b = true then p else q) = some r) : p = some r := by rw [if_pos hb] at h; exact h
theorem ite_f {b : Bool} {p q : Option R} {r : R} (hb : b = false) (h : (if b = true then p else q) = some r) : q = some r := by rw [if_neg (by simp [hb])] at h; exact h
/-- 'for range l': the body gets an element, the state and what to do next. -/
def forL (body : α → σ → (σ → Option R) → Option R) (k : σ → Option R) : List α → σ → Option R
  | [], s => k s
  | y :: ys, s => body y s (forL body k ys)
/-- 'for i := range l'. -/
def forI (body : Nat → α → σ → (σ → Option R) → Option R) (k : σ → Option R) : Nat → List α → σ → Option R
  | _, [], s => k s
  | i, y :: ys, s => body i y s (forI body k (i + 1) ys)
/-- 'for i := range n', n - i rounds to go. -/
def forN (body : Nat → σ → (σ → Option R) → Option R) (k : σ → Option R) : Nat → Nat → σ → Option R
  | 0, _, s => k s
  | n + 1, i, s => body i s (forN body k n (i + 1))
/-- 'for'. -/
def loopF (body : σ → (σ → Option R) → Option R) : Nat → σ → Option R
  | 0, _ => none
  | n + 1, s => body s (loopF body n)
def FUEL : Nat := 1152921504606846976
end
end Go.Sim
end

section
set_option linter.unusedSimpArgs false
set_option linter.unusedVariables false
namespace Go.Sim
open Go Go.RowKit

theorem lk_append (X Y : Env) (t : Nat) : lk (X ++ Y) t = (lk X t).or (lk Y t) := by
  induction X with
  | nil => simp [lk]
  | cons p X ih =>
    obtain ⟨u, v⟩ := p
    simp only [List.cons_append, lk_cons]
    split <;> simp [ih]

theorem lk_mem {X : Env} {t : Nat} {v : Value} (h : lk X t = some v) : (t, v) ∈ X := by
  induction X with
  | nil => simp [lk] at h
  | cons p X ih =>
    obtain ⟨u, w⟩ := p
    rw [lk_cons] at h
    split at h
    · rename_i e; subst e; cases h; exact List.mem_cons_self ..
    · exact List.mem_cons_of_mem _ (ih h)

theorem Sl.more {N : Nat} {L X : Env} {a : Act} (h : Sl N L a) (hX : ∀ t v, (t, v) ∈ X → a.tmps[t]? = some v) : Sl N (L ++ X) a :=
  ⟨h.size, h.dfr, fun t v ht => by
    rw [lk_append] at ht
    cases hl : lk L t with
    | some u => rw [hl] at ht; simp at ht; subst ht; exact h.get t _ hl
    | none => rw [hl] at ht; simp at ht; exact hX t v (lk_mem ht)⟩

theorem Sl.cons {N : Nat} {L : Env} {a : Act} {t : Nat} {v : Value} (h : Sl N L a) (hv : a.tmps[t]? = some v) : Sl N ((t, v) :: L) a :=
  ⟨h.size, h.dfr, fun u w hu => by
    rw [lk_cons] at hu
    split at hu
    · rename_i e; subst e; cases hu; exact hv
    · exact h.get u w hu⟩

theorem Sl.left {N : Nat} {L X : Env} {a : Act} (h : Sl N (L ++ X) a) : Sl N L a :=
  ⟨h.size, h.dfr, fun t v ht => h.get t v (by rw [lk_append, ht]; rfl)⟩

/-- What an operation waits for. -/
def waitsFor (o : Oper) : List Nat := (o.after.toList.filter fun e => Region.binds .any e).map (·.on)

/-- The first m operations may come in any order that their edges allow; each later one waits for all before it. -/
def anyB (l : List Oper) (m : Nat) : Bool :=
  l.zipIdx.all fun p => (waitsFor p.1).all (fun j => Nat.blt j p.2) && (Nat.blt p.2 m || (List.range p.2).all fun j => (waitsFor p.1).contains j)

def dstsB (l : List Oper) (m : Nat) (L : Env) : Bool :=
  (l.take m).all (fun o => match o.dst with
    | some t => (lk L t).isNone
    | none => false)
def dstsN (l : List Oper) (m : Nat) : Bool := decide (((l.take m).map (·.dst)).Nodup)

def Dep (l : List Oper) (Φ : Nat → Hp → Value → Prop) (H : Hp) : List Nat → Env → (Env → Prop) → Prop
  | [], L, k => k L
  | j :: js, L, k => match (l[j]?).bind (·.dst) with
    | some t => ∀ v, Φ j H v → Dep l Φ H js ((t, v) :: L) k
    | none => Dep l Φ H js L k

/-- What one operation must bring about. -/
def One {P : Program} (x : Cx P) (H : Hp) (M : List Res) (L : Env) (t : Nat) (φ : Hp → Value → Prop) : Post := fun e a w =>
  e = .normal ∧ ∃ v H', Sl x.N ((t, v) :: L) a ∧ H.le H' ∧ St x.B x.w0 H' M w ∧ φ H' v

theorem One_end {P : Program} {x : Cx P} {H H' : Hp} {M : List Res} {L : Env} {t : Nat} {v : Value} {φ : Hp → Value → Prop} (hle : H.le H') (h : φ H' v) : E x .normal (One x H M L t φ) H' M ((t, v) :: L) :=
  fun _ _ hs ht => ⟨rfl, v, H', hs, hle, ht, h⟩

def Hops {P : Program} (x : Cx P) (l : List Oper) (Φ : Nat → Hp → Value → Prop) (H : Hp) (M : List Res) (L : Env) : Nat → List Oper → Prop
  | _, [] => True
  | i, o :: r => (∀ H', H.le H' → ∀ X, Dep l Φ H' (waitsFor o) (L ++ X) (fun L' => W x l.toArray (One x H' M L' (o.dst.getD 0) (Φ i)) [o] H' M L')) ∧ Hops x l Φ H M L (i + 1) r

theorem Hops.at {P : Program} {x : Cx P} {l : List Oper} {Φ : Nat → Hp → Value → Prop} {H : Hp} {M : List Res} {L : Env} : ∀ {r : List Oper} {i : Nat}, Hops x l Φ H M L i r → ∀ j o, r[j]? = some o →
    ∀ H', H.le H' → ∀ X, Dep l Φ H' (waitsFor o) (L ++ X) (fun L' => W x l.toArray (One x H' M L' (o.dst.getD 0) (Φ (i + j))) [o] H' M L')
  | [], _, _, j, o, h => by simp at h
  | p :: r, i, hh, 0, o, h => by simp at h; subst h; exact hh.1
  | p :: r, i, hh, j + 1, o, h => by
    have := Hops.at hh.2 j o (by simpa using h)
    rwa [show i + 1 + j = i + (j + 1) from by omega] at this

theorem Dep.use {l : List Oper} {Φ : Nat → Hp → Value → Prop} {H : Hp} {a : Act} {N : Nat} : ∀ {js : List Nat} {L : Env} {k : Env → Prop}, Dep l Φ H js L k → Sl N L a →
    (∀ j ∈ js, ∀ t, (l[j]?).bind (·.dst) = some t → ∃ v, a.tmps[t]? = some v ∧ Φ j H v) → ∃ Y, k (Y ++ L) ∧ Sl N (Y ++ L) a ∧ ∀ t v, (t, v) ∈ Y → a.tmps[t]? = some v
  | [], L, k, h, hs, _ => ⟨[], h, hs, by simp⟩
  | j :: js, L, k, h, hs, hv => by
    unfold Dep at h
    cases hd : (l[j]?).bind (·.dst) with
    | none =>
      rw [hd] at h
      exact Dep.use h hs (fun i hi => hv i (List.mem_cons_of_mem _ hi))
    | some t =>
      rw [hd] at h
      obtain ⟨v, h1, h2⟩ := hv j (List.mem_cons_self ..) t hd
      obtain ⟨Y, h3, h4, h5⟩ := Dep.use (h v h2) (hs.cons h1) (fun i hi => hv i (List.mem_cons_of_mem _ hi))
      refine ⟨Y ++ [(t, v)], by simpa using h3, by simpa using h4, ?_⟩
      intro u w hm
      rcases List.mem_append.1 hm with hm | hm
      · exact h5 u w hm
      · simp at hm; obtain ⟨rfl, rfl⟩ := hm; exact h1

theorem mem_ready {ops : Array Oper} {listed : Array Bool} {i : Nat} : i ∈ Region.ready .any ops listed ↔ i < ops.size ∧ listed.getD i true = false ∧ ∃ o, ops[i]? = some o ∧ ∀ j ∈ waitsFor o, listed.getD j false = true := by
  unfold Region.ready waitsFor
  simp only [List.mem_filter, List.mem_range, Bool.and_eq_true, Bool.not_eq_true']
  refine and_congr_right fun hi => and_congr_right fun _ => ?_
  have : ops[i]? = some ops[i] := Array.getElem?_eq_getElem hi
  simp only [this, Option.map_some, Option.getD_some, Array.all_eq_true', Option.some.injEq, List.mem_map, List.mem_filter, Array.mem_toList_iff, Bool.or_eq_true, Bool.not_eq_true']
  constructor
  · intro h
    refine ⟨_, rfl, ?_⟩
    rintro j ⟨e, ⟨he, hb⟩, rfl⟩
    rcases h e he with h | h
    · rw [h] at hb; cases hb
    · exact h
  · rintro ⟨o, rfl, h⟩ e he
    cases hb : Region.binds .any e with
    | false => exact .inl rfl
    | true => exact .inr (h _ ⟨e, ⟨he, hb⟩, rfl⟩)

section
variable {P : Program} {x : Cx P} {l : List Oper} {m : Nat} {Φ : Nat → Hp → Value → Prop} {H : Hp} {M : List Res} {L : Env} {Q : Post}

theorem anyB_on (hB : anyB l m = true) {i : Nat} {o : Oper} (ho : l[i]? = some o) : (∀ j ∈ waitsFor o, j < i) ∧ (i < m ∨ ∀ j, j < i → j ∈ waitsFor o) := by
  unfold anyB at hB
  rw [List.all_eq_true] at hB
  have := hB (o, i) (by rw [List.mem_zipIdx_iff_getElem?]; simpa using ho)
  simp only [Bool.and_eq_true, Bool.or_eq_true, List.all_eq_true, Nat.blt_eq, List.contains_iff_mem, List.mem_range] at this
  exact ⟨this.1, this.2⟩

theorem getD_set (b : Array Bool) (i j : Nat) (d : Bool) (hi : i < b.size) : (b.setIfInBounds i true).getD j d = if j = i then true else b.getD j d := by
  simp only [Array.getD_eq_getD_getElem?, Array.getElem?_setIfInBounds]
  by_cases e : i = j
  · subst e; simp [hi]
  · simp [e, Ne.symm e]

/-- How many are still to come. -/
def left (l : List Oper) (listed : Array Bool) : Nat := (List.range l.length).countP fun i => !listed.getD i true

theorem left_set {listed : Array Bool} {i : Nat} (hsz : listed.size = l.length) (hi : i < l.length) (hl : listed.getD i true = false) : left l (listed.setIfInBounds i true) + 1 = left l listed := by
  unfold left
  have key : ∀ n, i < n → n ≤ l.length → (List.range n).countP (fun j => !(listed.setIfInBounds i true).getD j true) + 1 = (List.range n).countP (fun j => !listed.getD j true) := by
    intro n
    induction n with
    | zero => omega
    | succ n ih =>
      intro h1 h2
      rw [List.range_succ, List.countP_append, List.countP_append]
      by_cases e : i = n
      · subst e
        have : ∀ n, n ≤ i → (List.range n).countP (fun j => !(listed.setIfInBounds i true).getD j true) = (List.range n).countP (fun j => !listed.getD j true) := by
          intro n hn
          refine List.countP_congr fun j hj => ?_
          have hj' := List.mem_range.1 hj
          rw [getD_set _ _ _ _ (by omega), if_neg (by omega)]
        rw [this i (Nat.le_refl _)]
        simp only [List.countP_cons, List.countP_nil, getD_set _ _ _ _ (by omega : i < listed.size), hl, if_true]
        simp
      · have := ih (by omega) (by omega)
        have h3 : (listed.setIfInBounds i true).getD n true = listed.getD n true := by rw [getD_set _ _ _ _ (by omega), if_neg (by omega)]
        simp only [List.countP_cons, List.countP_nil, h3]
        omega
  exact key l.length hi (Nat.le_refl _)

end
end Go.Sim
end

section
set_option linter.unusedSimpArgs false
set_option linter.unusedVariables false
namespace Go.Sim
open Go Go.RowKit
set_option linter.unusedVariables false
set_option linter.unusedSimpArgs false
set_option linter.unusedSectionVars false
set_option linter.unnecessarySimpa false

/-! ### What must have happened before an operation -/
def maskOf (acc : List Nat) (o : Oper) : Nat := (waitsFor o).foldl (fun m j => m ||| ((1 <<< j) ||| acc.getD j 0)) 0
def masks : List Nat → List Oper → List Nat
  | acc, [] => acc
  | acc, o :: r => masks (acc ++ [maskOf acc o]) r

theorem maskOf_bit {acc : List Nat} {j : Nat} : ∀ (ws : List Nat) (z : Nat), (ws.foldl (fun m j => m ||| ((1 <<< j) ||| acc.getD j 0)) z).testBit j = true →
    z.testBit j = true ∨ ∃ q ∈ ws, j = q ∨ (acc.getD q 0).testBit j = true
  | [], z, h => .inl h
  | q :: ws, z, h => by
    rcases maskOf_bit ws _ h with h | ⟨r, hr, h⟩
    · rw [Nat.testBit_or, Nat.testBit_or, Bool.or_eq_true, Bool.or_eq_true] at h
      rcases h with h | h | h
      · exact .inl h
      · refine .inr ⟨q, List.mem_cons_self .., .inl ?_⟩
        rw [Nat.shiftLeft_eq, Nat.one_mul, Nat.testBit_two_pow] at h
        simpa using (of_decide_eq_true h).symm
      · exact .inr ⟨q, List.mem_cons_self .., .inr h⟩
    · exact .inr ⟨r, List.mem_cons_of_mem _ hr, h⟩

theorem masks_ok {l : List Oper} {listed : Nat → Prop} (dc : ∀ i o, l[i]? = some o → listed i → ∀ j ∈ waitsFor o, listed j) :
    ∀ (r : List Oper) (acc : List Nat), (∀ i o, r[i]? = some o → l[acc.length + i]? = some o) →
      (∀ i, i < acc.length → ∀ o, l[i]? = some o → (∀ q ∈ waitsFor o, listed q) → ∀ j, (acc.getD i 0).testBit j = true → listed j) →
      ∀ i, i < acc.length + r.length → ∀ o, l[i]? = some o → (∀ q ∈ waitsFor o, listed q) → ∀ j, ((masks acc r).getD i 0).testBit j = true → listed j
  | [], acc, _, h, i, hi, o, ho, hw, j, hj => h i (by simpa using hi) o ho hw j hj
  | p :: r, acc, hr, h, i, hi, o, ho, hw, j, hj => by
    refine masks_ok dc r (acc ++ [maskOf acc p]) (fun k q hk => ?_) ?_ i (by simp at hi ⊢; omega) o ho hw j hj
    · have := hr (k + 1) q (by simpa using hk)
      rw [List.length_append, List.length_singleton]
      rwa [show acc.length + 1 + k = acc.length + (k + 1) by omega]
    · intro k hk q hq hqw b hb
      by_cases hkl : k < acc.length
      · refine h k hkl q hq hqw b ?_
        rw [List.getD_eq_getElem?_getD, List.getElem?_append_left hkl] at hb
        rw [List.getD_eq_getElem?_getD]; exact hb
      · have hke : k = acc.length := by simp at hk; omega
        subst hke
        have hp : p = q := by
          have := hr 0 p rfl
          rw [Nat.add_zero, hq] at this
          exact (Option.some.inj this).symm
        subst hp
        rw [List.getD_eq_getElem?_getD, List.getElem?_append_right (Nat.le_refl _), Nat.sub_self] at hb
        simp only [List.getElem?_cons_zero, Option.getD_some] at hb
        unfold maskOf at hb
        rcases maskOf_bit _ _ hb with h0 | ⟨q, hqm, rfl | hqb⟩
        · simp at h0
        · exact hqw b hqm
        · by_cases hql : q < acc.length
          · have hlq := hqw q hqm
            cases hoq : l[q]? with
            | none => 
              have : acc.length < l.length := (List.getElem?_eq_some_iff.1 hq).1
              have := List.getElem?_eq_none_iff.1 hoq
              omega
            | some oq => exact h q hql oq hoq (dc q oq hoq hlq) b hqb
          · rw [List.getD_eq_getElem?_getD, List.getElem?_eq_none (by omega)] at hqb
            simp at hqb

/-- The first m operations may come in any order that their edges allow; each later one has to wait for all before it. -/
def orderB (l : List Oper) (m : Nat) : Bool :=
  l.zipIdx.all (fun p => (waitsFor p.1).all fun j => Nat.blt j p.2) &&
  l.zipIdx.all fun p => Nat.blt p.2 m || (List.range p.2).all fun j => ((masks [] l).getD p.2 0).testBit j

theorem orderB_lt {l : List Oper} {m : Nat} (hB : orderB l m = true) {i : Nat} {o : Oper} (ho : l[i]? = some o) : ∀ j ∈ waitsFor o, j < i := by
  unfold orderB at hB
  rw [Bool.and_eq_true, List.all_eq_true] at hB
  have := hB.1 (o, i) (by rw [List.mem_zipIdx_iff_getElem?]; simpa using ho)
  simpa only [List.all_eq_true, Nat.blt_eq] using this
theorem orderB_all {l : List Oper} {m : Nat} (hB : orderB l m = true) {listed : Nat → Prop} (dc : ∀ i o, l[i]? = some o → listed i → ∀ j ∈ waitsFor o, listed j)
    {i : Nat} {o : Oper} (ho : l[i]? = some o) (hm : m ≤ i) (hw : ∀ q ∈ waitsFor o, listed q) : ∀ j, j < i → listed j := by
  unfold orderB at hB
  rw [Bool.and_eq_true, List.all_eq_true, List.all_eq_true] at hB
  have h2 := hB.2 (o, i) (by rw [List.mem_zipIdx_iff_getElem?]; simpa using ho)
  simp only [Bool.or_eq_true, Nat.blt_eq, List.all_eq_true, List.mem_range] at h2
  have hi : i < l.length := (List.getElem?_eq_some_iff.1 ho).1
  intro j hj
  rcases h2 with h2 | h2
  · omega
  · exact masks_ok dc l [] (fun k q hk => by simpa using hk) (fun k hk => by simp at hk) i (by simpa using hi) o ho hw j (h2 j hj)

/-! ### Tokens -/
/-- The resources of some tokens. -/
def takeT : List Nat → (Nat → List Res) → List Res → List Res
  | [], _, M => M
  | c :: cs, R, M => R c ++ takeT cs R M
theorem takeT_eq (cs : List Nat) (R : Nat → List Res) (M : List Res) : takeT cs R M = cs.flatMap R ++ M := by
  induction cs with
  | nil => rfl
  | cons c cs ih => rw [takeT, ih, List.flatMap_cons, List.append_assoc]
def updT (R : Nat → List Res) (i : Nat) (rs : List Res) : Nat → List Res := fun k => bif Nat.beq k i then rs else R k
theorem updT_self (R : Nat → List Res) (i : Nat) (rs : List Res) : updT R i rs i = rs := by simp [updT]
theorem updT_ne (R : Nat → List Res) (i k : Nat) (rs : List Res) (h : k ≠ i) : updT R i rs k = R k := by
  unfold updT
  cases hb : Nat.beq k i with
  | false => rfl
  | true => exact absurd (Nat.eq_of_beq_eq_true hb) h

abbrev Fct := Nat → Hp → List Res → Value → Prop

def putE : Option Nat → Value → Env → Env
  | some t, v, L => (t, v) :: L
  | none, _, L => L
/-- The slot that holds the address at which an operation stores, if the region writes it. -/
def lnk (l : List Oper) (j : Nat) : Option Nat := match l[j]? with
  | none => none
  | some o => match o.dst with
    | some _ => none
    | none => match o.op with
      | .store _ (.tmp s) _ => bif (waitsFor o).any (fun w => match (l[w]?).bind (·.dst) with
        | some u => Nat.beq u s
        | none => false) then some s else none
      | _ => none
theorem lnk_ok {l : List Oper} {j s : Nat} (h : lnk l j = some s) : ∃ o, l[j]? = some o ∧ o.dst = none ∧ ∃ w ∈ waitsFor o, (l[w]?).bind (·.dst) = some s := by
  unfold lnk at h
  split at h
  · cases h
  · rename_i o ho
    split at h
    · cases h
    · rename_i hd
      split at h
      · rename_i T s' z hop
        cases hb : (waitsFor o).any (fun w => match (l[w]?).bind (·.dst) with
          | some u => Nat.beq u s'
          | none => false) with
        | false => rw [hb] at h; cases h
        | true =>
          rw [hb] at h
          cases h
          rw [List.any_eq_true] at hb
          obtain ⟨w, hw, hb⟩ := hb
          refine ⟨o, ho, hd, w, hw, ?_⟩
          split at hb
          · rename_i u hu
            rw [hu, Nat.eq_of_beq_eq_true hb]
          · cases hb
      · cases h
def DepT (l : List Oper) (Φ : Fct) (H : Hp) : List Nat → Env → (Nat → List Res) → (Env → (Nat → List Res) → Prop) → Prop
  | [], L, R, k => k L R
  | j :: js, L, R, k => match (l[j]?).bind (·.dst) with
    | some t => ∀ v rs, Φ j H rs v → DepT l Φ H js ((t, v) :: L) (updT R j rs) k
    | none => match lnk l j with
      | none => ∀ rs, Φ j H rs undef → DepT l Φ H js L (updT R j rs) k
      | some s => ∀ v rs, (∀ u, lk L s = some u → v = u) → Φ j H rs v → DepT l Φ H js L (updT R j rs) k

/-- What one operation must bring about. -/
def lnkd (L : Env) (v : Value) : Option Nat → Option Nat → Prop
  | some _, _ => True
  | none, none => v = undef
  | none, some s => lk L s = some v
def OneT {P : Program} (x : Cx P) (H : Hp) (M : List Res) (L : Env) (t ps : Option Nat) (φ : Hp → List Res → Value → Prop) : Post := fun e a w =>
  e = .normal ∧ ∃ v H' rs, Sl x.N (putE t v L) a ∧ lnkd L v t ps ∧ H.le H' ∧ St x.B x.w0 H' (rs ++ M) w ∧ φ H' rs v

theorem OneT_end {P : Program} {x : Cx P} {H H' : Hp} {M : List Res} {L : Env} {t : Nat} {ps : Option Nat} {v : Value} {φ : Hp → List Res → Value → Prop} (rs : List Res) (hle : H.le H') (h : φ H' rs v) : E x .normal (OneT x H M L (some t) ps φ) H' (rs ++ M) ((t, v) :: L) :=
  fun _ _ hs ht => ⟨rfl, v, H', rs, hs, trivial, hle, ht, h⟩
theorem OneT_end_ {P : Program} {x : Cx P} {H H' : Hp} {M : List Res} {L : Env} {φ : Hp → List Res → Value → Prop} (rs : List Res) (hle : H.le H') (h : φ H' rs undef) : E x .normal (OneT x H M L none none φ) H' (rs ++ M) L :=
  fun _ _ hs ht => ⟨rfl, undef, H', rs, hs, rfl, hle, ht, h⟩
theorem OneT_endL {P : Program} {x : Cx P} {H H' : Hp} {M : List Res} {L : Env} {s : Nat} {v : Value} {φ : Hp → List Res → Value → Prop} (hl : lk L s = some v) (rs : List Res) (hle : H.le H') (h : φ H' rs v) : E x .normal (OneT x H M L none (some s) φ) H' (rs ++ M) L :=
  fun _ _ hs ht => ⟨rfl, v, H', rs, hs, hl, hle, ht, h⟩

/-- The tokens that come from outside. -/
def inR (m : Nat) (I : List (List Res)) : Nat → List Res := fun k => if k < m then [] else I.getD (k - m) []

def HopsT {P : Program} (x : Cx P) (l : List Oper) (Φ : Fct) (C U : List (List Nat)) (Es : List Env) (R0 : Nat → List Res) (H : Hp) (M : List Res) (L : Env) : Nat → List Oper → Prop
  | _, [] => True
  | i, o :: r => (∀ H', H.le H' → ∀ X Rest, (∀ s ∈ M, s ∈ Rest) → DepT l Φ H' (waitsFor o) (Es.getD i [] ++ (L ++ X)) R0 (fun L' R => (∀ s ∈ takeT (U.getD i []) R [], s ∈ Rest) → (∃ Rr, (takeT (U.getD i []) R Rr).Perm Rest) → W x l.toArray (OneT x H' Rest L' o.dst (lnk l i) (Φ i)) [o] H' (takeT (C.getD i []) R Rest) L')) ∧
      HopsT x l Φ C U Es R0 H M L (i + 1) r

theorem HopsT.at {P : Program} {x : Cx P} {l : List Oper} {Φ : Fct} {C U : List (List Nat)} {Es : List Env} {R0 : Nat → List Res} {H : Hp} {M : List Res} {L : Env} : ∀ {r : List Oper} {i : Nat}, HopsT x l Φ C U Es R0 H M L i r → ∀ j o, r[j]? = some o →
    ∀ H', H.le H' → ∀ X Rest, (∀ s ∈ M, s ∈ Rest) → DepT l Φ H' (waitsFor o) (Es.getD (i + j) [] ++ (L ++ X)) R0 (fun L' R => (∀ s ∈ takeT (U.getD (i + j) []) R [], s ∈ Rest) → (∃ Rr, (takeT (U.getD (i + j) []) R Rr).Perm Rest) → W x l.toArray (OneT x H' Rest L' o.dst (lnk l (i + j)) (Φ (i + j))) [o] H' (takeT (C.getD (i + j) []) R Rest) L')
  | [], _, _, j, o, h => by simp at h
  | p :: r, i, hh, 0, o, h => by simp at h; subst h; exact hh.1
  | p :: r, i, hh, j + 1, o, h => by
    have := HopsT.at hh.2 j o (by simpa using h)
    rwa [show i + 1 + j = i + (j + 1) from by omega] at this

def holdsAt (a : Act) (v : Value) : Option Nat → Option Nat → Prop
  | some t, _ => a.tmps[t]? = some v
  | none, none => v = undef
  | none, some s => a.tmps[s]? = some v
theorem DepT.use {l : List Oper} {Φ : Fct} {H : Hp} {a : Act} {N : Nat} {Rt : Nat → List Res} : ∀ {js : List Nat} {L : Env} {R : Nat → List Res} {k : Env → (Nat → List Res) → Prop}, DepT l Φ H js L R k → Sl N L a →
    (∀ j ∈ js, ∃ v, holdsAt a v ((l[j]?).bind (·.dst)) (lnk l j) ∧ Φ j H (Rt j) v) →
    ∃ Y R', k (Y ++ L) R' ∧ Sl N (Y ++ L) a ∧ (∀ t v, (t, v) ∈ Y → a.tmps[t]? = some v) ∧ (∀ q, q ∈ js → R' q = Rt q) ∧ ∀ q, q ∉ js → R' q = R q
  | [], L, R, k, h, hs, _ => ⟨[], R, h, hs, by simp, by simp, fun q _ => rfl⟩
  | j :: js, L, R, k, h, hs, hv => by
    obtain ⟨v, h1, h2⟩ := hv j (List.mem_cons_self ..)
    have fin : ∀ {R' : Nat → List Res}, (∀ q, q ∈ js → R' q = Rt q) → (∀ q, q ∉ js → R' q = updT R j (Rt j) q) → (∀ q, q ∈ j :: js → R' q = Rt q) ∧ ∀ q, q ∉ j :: js → R' q = R q := by
      intro R' h6 h7
      constructor
      · intro q hq
        by_cases hqj : q ∈ js
        · exact h6 q hqj
        · rcases List.mem_cons.1 hq with rfl | hq
          · rw [h7 _ hqj, updT_self]
          · exact absurd hq hqj
      · intro q hq
        rw [h7 q (fun h => hq (List.mem_cons_of_mem _ h)), updT_ne _ _ _ _ (fun e => hq (by rw [e]; exact List.mem_cons_self ..))]
    unfold DepT at h
    cases ht : (l[j]?).bind (·.dst) with
    | none =>
      rw [ht] at h h1
      cases hk : lnk l j with
      | none =>
        rw [hk] at h h1
        simp only [holdsAt] at h1
        subst h1
        obtain ⟨Y, R', h3, h4, h5, h6, h7⟩ := DepT.use (h (Rt j) h2) hs (fun i hi => hv i (List.mem_cons_of_mem _ hi))
        exact ⟨Y, R', h3, h4, h5, (fin h6 h7).1, (fin h6 h7).2⟩
      | some s =>
        rw [hk] at h h1
        simp only [holdsAt] at h1
        obtain ⟨Y, R', h3, h4, h5, h6, h7⟩ := DepT.use (h v (Rt j) (fun u hu => by have := hs.get s u hu; rw [h1] at this; exact Option.some.inj this) h2) hs (fun i hi => hv i (List.mem_cons_of_mem _ hi))
        exact ⟨Y, R', h3, h4, h5, (fin h6 h7).1, (fin h6 h7).2⟩
    | some t =>
      rw [ht] at h h1
      simp only [holdsAt] at h1
      obtain ⟨Y, R', h3, h4, h5, h6, h7⟩ := DepT.use (h v (Rt j) h2) (hs.cons h1) (fun i hi => hv i (List.mem_cons_of_mem _ hi))
      refine ⟨Y ++ [(t, v)], R', by simpa using h3, by simpa using h4, ?_, (fin h6 h7).1, (fin h6 h7).2⟩
      intro u w hm
      rcases List.mem_append.1 hm with hm | hm
      · exact h5 u w hm
      · simp at hm; obtain ⟨rfl, rfl⟩ := hm; exact h1

/-- The slots of the extra facts are written only behind the operation that looks at them. -/
def extraB (l : List Oper) (m : Nat) (Es : List Env) : Bool :=
  (List.range m).all fun i => ((Es.getD i []).map (·.1)).all fun t => (List.range m).all fun w => match (l[w]?).bind (·.dst) with
    | some u => !Nat.beq u t || ((masks [] l).getD w 0).testBit i
    | none => true
def dstsB2 (l : List Oper) (m : Nat) (L : Env) : Bool :=
  (l.take m).all (fun o => match o.dst with
    | some t => (lk L t).isNone
    | none => true)
def dstsN2 (l : List Oper) (m : Nat) : Bool := decide (((l.take m).filterMap (·.dst)).Nodup)

def tokB (l : List Oper) (m K : Nat) (C U : List (List Nat)) (live : List Nat) : Bool :=
  ((List.range m).all fun i => (U.getD i []).all fun u => (Nat.ble m u || match l[i]? with
    | some o => (waitsFor o).contains u
    | none => false) && Nat.blt u K && (List.range m).all fun i' => !(C.getD i' []).contains u || ((masks [] l).getD i' 0).testBit i) &&
  Nat.beq C.length m && (List.range m).all (fun i => (C.getD i []).all fun c => Nat.ble m c || match l[i]? with
    | some o => (waitsFor o).contains c
    | none => false) &&
  (C.flatten ++ live).all (fun c => Nat.blt c K) && ((List.range K).all fun k => Nat.beq ((C.flatten ++ live).count k) 1) && (List.range m).all fun i => decide ((U.getD i []).Nodup)

section
variable {P : Program} {x : Cx P} {l : List Oper} {m K : Nat} {Φ : Fct} {C U : List (List Nat)} {live : List Nat} {I : List (List Res)} {Es : List Env} {H : Hp} {M : List Res} {L L0 : Env} {Q : Post}

structure TokOk (l : List Oper) (m K : Nat) (C U : List (List Nat)) (live : List Nat) : Prop where
  len : C.length = m
  wait : ∀ i o, i < m → l[i]? = some o → ∀ c ∈ C.getD i [], m ≤ c ∨ c ∈ waitsFor o
  lt : ∀ c ∈ C.flatten ++ live, c < K
  nd : (C.flatten ++ live).Nodup
  all : ∀ k, k < K → k ∈ C.flatten ++ live
  useW : ∀ i o, i < m → l[i]? = some o → ∀ u ∈ U.getD i [], (m ≤ u ∨ u ∈ waitsFor o) ∧ u < K
  useC : ∀ i, i < m → ∀ u ∈ U.getD i [], ∀ i', i' < m → u ∈ C.getD i' [] → ((masks [] l).getD i' 0).testBit i = true
  useN : ∀ i, i < m → (U.getD i []).Nodup

theorem tokB_ok (h : tokB l m K C U live = true) : TokOk l m K C U live := by
  unfold tokB at h
  simp only [Bool.and_eq_true] at h
  obtain ⟨⟨⟨⟨⟨h0, h1⟩, h2⟩, h3⟩, h4⟩, h5⟩ := h
  rw [List.all_eq_true] at h0 h2 h3 h4 h5
  have hU : ∀ i, i < m → ∀ u ∈ U.getD i [], ((Nat.ble m u || match l[i]? with
    | some o => (waitsFor o).contains u
    | none => false) = true ∧ u < K) ∧ ∀ i', i' < m → u ∈ C.getD i' [] → ((masks [] l).getD i' 0).testBit i = true := by
    intro i hi u hu
    have := h0 i (List.mem_range.2 hi)
    rw [List.all_eq_true] at this
    have := this u hu
    rw [Bool.and_eq_true, Bool.and_eq_true, List.all_eq_true] at this
    refine ⟨⟨this.1.1, by simpa [Nat.blt_eq] using this.1.2⟩, fun i' hi' hc => ?_⟩
    have h5 := this.2 i' (List.mem_range.2 hi')
    rw [Bool.or_eq_true] at h5
    rcases h5 with h5 | h5
    · have h6 : (C.getD i' []).contains u = true := by rw [List.contains_iff_mem]; exact hc
      rw [h6] at h5; cases h5
    · exact h5
  have hc : ∀ k, k < K → (C.flatten ++ live).count k = 1 := fun k hk => Nat.eq_of_beq_eq_true (h4 k (List.mem_range.2 hk))
  have hlt : ∀ c ∈ C.flatten ++ live, c < K := fun c hc => by simpa [Nat.blt_eq] using h3 c hc
  refine ⟨Nat.eq_of_beq_eq_true h1, ?_, hlt, ?_, ?_, ?_, fun i hi u hu => (hU i hi u hu).2, fun i hi => of_decide_eq_true (h5 i (List.mem_range.2 hi))⟩
  · intro i o hi ho c hc
    have := h2 i (List.mem_range.2 hi)
    rw [List.all_eq_true] at this
    have := this c hc
    rw [ho] at this
    simpa [Bool.or_eq_true, Nat.ble_eq, List.contains_iff_mem] using this
  · rw [List.nodup_iff_count]
    intro a
    by_cases ha : a < K
    · rw [hc a ha]; exact Nat.le_refl _
    · rw [List.count_eq_zero.2 (fun hm => ha (hlt a hm))]; omega
  · intro k hk
    rw [← List.count_pos_iff, hc k hk]; omega
  · intro i o hi ho u hu
    have := (hU i hi u hu).1
    rw [ho] at this
    refine ⟨?_, this.2⟩
    have h5 := this.1
    rw [Bool.or_eq_true] at h5
    rcases h5 with h5 | h5
    · exact .inl (by simpa [Nat.ble_eq] using h5)
    · exact .inr (by simpa [List.contains_iff_mem] using h5)

theorem TokOk.uniq (h : TokOk l m K C U live) {i i' k : Nat} (hi : k ∈ C.getD i []) (hi' : k ∈ C.getD i' []) : i = i' := by
  have hnd := (List.nodup_append.1 h.nd).1
  unfold List.Nodup at hnd
  rw [List.pairwise_flatten] at hnd
  have hpw := List.pairwise_iff_getElem.1 hnd.2
  have g1 : i < C.length := by
    by_cases e : i < C.length
    · exact e
    · rw [List.getD_eq_getElem?_getD, List.getElem?_eq_none (by omega)] at hi; simp at hi
  have g2 : i' < C.length := by
    by_cases e : i' < C.length
    · exact e
    · rw [List.getD_eq_getElem?_getD, List.getElem?_eq_none (by omega)] at hi'; simp at hi'
  rw [List.getD_eq_getElem?_getD, List.getElem?_eq_getElem g1] at hi
  rw [List.getD_eq_getElem?_getD, List.getElem?_eq_getElem g2] at hi'
  simp only [Option.getD_some] at hi hi'
  rcases Nat.lt_trichotomy i i' with q | q | q
  · exact absurd rfl (hpw i i' g1 g2 q _ hi _ hi')
  · exact q
  · exact absurd rfl (hpw i' i g2 g1 q _ hi' _ hi)
theorem TokOk.mem (h : TokOk l m K C U live) {i k : Nat} (hi : k ∈ C.getD i []) : k ∈ C.flatten := by
  have g1 : i < C.length := by
    by_cases e : i < C.length
    · exact e
    · rw [List.getD_eq_getElem?_getD, List.getElem?_eq_none (by omega)] at hi; simp at hi
  rw [List.getD_eq_getElem?_getD, List.getElem?_eq_getElem g1] at hi
  exact List.mem_flatten.2 ⟨_, List.getElem_mem g1, hi⟩
theorem TokOk.ndC (h : TokOk l m K C U live) (i : Nat) : (C.getD i []).Nodup := by
  have hnd := (List.nodup_append.1 h.nd).1
  unfold List.Nodup at hnd
  rw [List.pairwise_flatten] at hnd
  by_cases e : i < C.length
  · rw [List.getD_eq_getElem?_getD, List.getElem?_eq_getElem e]; exact hnd.1 _ (List.getElem_mem e)
  · rw [List.getD_eq_getElem?_getD, List.getElem?_eq_none (by omega)]; simp

/-- Which tokens are there. -/
def alive (m : Nat) (C : List (List Nat)) (listed : Array Bool) (k : Nat) : Bool := (Nat.ble m k || listed.getD k false) && !(List.range m).any fun i => listed.getD i false && (C.getD i []).contains k
theorem alive_iff {listed : Array Bool} {k : Nat} : alive m C listed k = true ↔ (m ≤ k ∨ listed.getD k false = true) ∧ ∀ i, i < m → listed.getD i false = true → k ∉ C.getD i [] := by
  unfold alive
  simp only [Bool.and_eq_true, Bool.or_eq_true, Nat.ble_eq, Bool.not_eq_true', List.any_eq_false, List.mem_range, List.contains_iff_mem]
  constructor
  · rintro ⟨h1, h2⟩; exact ⟨h1, fun i hi hl hm => h2 i hi ⟨hl, hm⟩⟩
  · rintro ⟨h1, h2⟩; exact ⟨h1, fun i hi ⟨hl, hm⟩ => h2 i hi hl hm⟩

/-- The tail, in its order. -/
theorem tail_tok (hB : orderB l m = true) : ∀ (f i : Nat) (listed : Array Bool) (a : Act) (w : World), m ≤ i → listed.size = l.length → i ≤ l.length → l.length ≤ i + f →
    (∀ j, j < l.length → listed.getD j true = decide (j < i)) → listK x.w0 l.toArray Q (l.drop i) a w → anyK x.w0 .any l.toArray Q f listed a w
  | 0, i, listed, a, w, hm, hsz, hf0, hf, hl, h => by
    have hi : i = l.length := by omega
    refine ⟨?_, by rw [hi, List.drop_length] at h; exact h⟩
    rw [List.eq_nil_iff_forall_not_mem]
    intro j hj
    obtain ⟨h1, h2, _⟩ := mem_ready.1 hj
    rw [hl j (by simpa using h1)] at h2
    simp at h1 h2; omega
  | f + 1, i, listed, a, w, hm, hsz, hf0, hf, hl, h => by
    by_cases e2 : i = l.length
    · have hempty : Region.ready .any l.toArray listed = [] := by
        rw [List.eq_nil_iff_forall_not_mem]
        intro j hj
        obtain ⟨q1, q2, _⟩ := mem_ready.1 hj
        rw [hl j (by simpa using q1)] at q2
        simp at q1 q2; omega
      exact ⟨fun _ => by rw [e2, List.drop_length] at h; exact h, fun j hj => by rw [hempty] at hj; cases hj⟩
    · have hi : i < l.length := by omega
      have ho : l[i]? = some l[i] := List.getElem?_eq_getElem hi
      have hget : ∀ j, j < l.length → listed.getD j false = decide (j < i) := fun j hj => by
        have := hl j hj
        simp only [Array.getD_eq_getD_getElem?] at this ⊢
        rw [Array.getElem?_eq_getElem (by omega)] at this ⊢
        simpa using this
      have hmem : i ∈ Region.ready .any l.toArray listed := by
        refine mem_ready.2 ⟨by simpa using hi, by rw [hl i hi]; simp, l[i], by simp, fun j hj => ?_⟩
        have hj' := orderB_lt hB ho j hj
        rw [hget j (by omega)]; simpa using hj'
      have huniq : ∀ j ∈ Region.ready .any l.toArray listed, j = i := by
        intro j hj
        obtain ⟨q1, q2, o, ho', hw⟩ := mem_ready.1 hj
        have q1' : j < l.length := by simpa using q1
        rw [hl j q1'] at q2
        have hji : i ≤ j := by simpa using q2
        by_cases e : j = i
        · exact e
        · exfalso
          have := orderB_all hB (listed := fun q => q < i) (fun k o hk hki q hq => by have := orderB_lt hB hk q hq; omega) (i := j) (o := o) (by simpa using ho') (by omega)
            (fun q hq => by
              have h1 := hw q hq
              have h2 := orderB_lt hB (i := j) (o := o) (by simpa using ho') q hq
              rw [hget q (by omega)] at h1
              simpa using h1) i (by omega)
          omega
      refine ⟨fun he => (by rw [he] at hmem; cases hmem), fun j hj => ?_⟩
      obtain rfl := huniq j hj
      unfold anyOp
      rw [show l.toArray[j]? = some l[j] from by simp]
      rw [List.drop_eq_getElem_cons hi] at h
      have step : ∀ a w, listK x.w0 l.toArray Q (l.drop (j + 1)) a w → anyK x.w0 .any l.toArray Q f (listed.setIfInBounds j true) a w := fun a w hh =>
        tail_tok hB f (j + 1) _ a w (by omega) (by simpa using hsz) (by omega) (by omega) (fun k hk => by
          rw [getD_set _ _ _ _ (by omega), hl k hk]
          by_cases e : k = j
          · subst e; simp
          · simp [e]; omega) hh
      unfold listK at h
      dsimp only
      obtain ⟨hgg, h⟩ := h
      refine ⟨hgg, ?_⟩
      split
      · rename_i hw; rw [if_pos hw] at h; exact OpK_mono step h
      · rename_i hw; rw [if_neg hw] at h; exact step _ _ h

theorem perm_tok {A B : List Nat} (ha : A.Nodup) (hb : B.Nodup) (h : ∀ a, a ∈ A ↔ a ∈ B) (R : Nat → List Res) (M : List Res) : (A.flatMap R ++ M).Perm (B.flatMap R ++ M) :=
  (((List.perm_ext_iff_of_nodup ha hb).2 h).flatMap_right R).append_right M
theorem flatMap_cong {A : List Nat} {R R' : Nat → List Res} (h : ∀ a ∈ A, R a = R' a) : A.flatMap R = A.flatMap R' := by
  induction A with
  | nil => rfl
  | cons a A ih => rw [List.flatMap_cons, List.flatMap_cons, h a (List.mem_cons_self ..), ih fun b hb => h b (List.mem_cons_of_mem _ hb)]

theorem pre_tok (hB : orderB l m = true) (hml : m ≤ l.length) (hD : dstsB2 l m L0 = true) (hX0 : extraB l m Es = true) (hL0 : ∀ t v, lk L0 t = some v → lk L t = some v) (hE : ∀ i t v, lk (Es.getD i []) t = some v → lk L t = some v) (hNd : dstsN2 l m = true) (hT : TokOk l m K C U live) (hmK : m ≤ K)
    (hmono : ∀ i H1 H2 rs v, H1.le H2 → Φ i H1 rs v → Φ i H2 rs v)
    (hop : HopsT x l Φ C U Es (inR m I) H M L0 0 (l.take m))
    (k : ∀ H', H.le H' → DepT l Φ H' (List.range m) L0 (inR m I) (fun L' R => W x l.toArray Q (l.drop m) H' (takeT live R M) L')) :
    ∀ (fuel : Nat) (listed : Array Bool) (a : Act) (w : World) (H' : Hp) (R : Nat → List Res), listed.size = l.length → left l listed ≤ fuel → (∀ j, m ≤ j → j < l.length → listed.getD j true = false) →
      (∀ i o, l[i]? = some o → listed.getD i false = true → ∀ j ∈ waitsFor o, listed.getD j false = true) →
      H.le H' → St x.B x.w0 H' (((List.range K).filter (alive m C listed)).flatMap R ++ M) w → Sl x.N [] a → (∀ t v, lk L t = some v → (∀ w o, w < m → l[w]? = some o → o.dst = some t → listed.getD w false = false) → a.tmps[t]? = some v) → (∀ q, m ≤ q → R q = inR m I q) →
      (∀ i o, i < m → l[i]? = some o → listed.getD i true = true → ∃ v, holdsAt a v o.dst (lnk l i) ∧ Φ i H' (R i) v) →
      anyK x.w0 .any l.toArray Q fuel listed a w := by
  have hdst : ∀ i o t, i < m → l[i]? = some o → o.dst = some t → lk L0 t = none := by
    intro i o t him ho hd
    have htake : (l.take m)[i]? = some o := by rw [List.getElem?_take, if_pos him]; exact ho
    unfold dstsB2 at hD
    rw [List.all_eq_true] at hD
    have := hD o (List.mem_of_getElem? htake)
    rw [hd] at this; simpa using this
  -- when all of the first m are done
  have fin : ∀ (fuel : Nat) (listed : Array Bool) (a : Act) (w : World) (H' : Hp) (R : Nat → List Res), listed.size = l.length → left l listed ≤ fuel → (∀ j, m ≤ j → j < l.length → listed.getD j true = false) →
      H.le H' → St x.B x.w0 H' (((List.range K).filter (alive m C listed)).flatMap R ++ M) w → Sl x.N [] a → (∀ t v, lk L t = some v → (∀ w o, w < m → l[w]? = some o → o.dst = some t → listed.getD w false = false) → a.tmps[t]? = some v) → (∀ q, m ≤ q → R q = inR m I q) →
      (∀ i o, i < m → l[i]? = some o → listed.getD i true = true → ∃ v, holdsAt a v o.dst (lnk l i) ∧ Φ i H' (R i) v) →
      (∀ j, j < m → listed.getD j true = true) → anyK x.w0 .any l.toArray Q fuel listed a w := by
    intro fuel listed a w H' R hsz hf htl hle ht hs0 hsl hin hv hall
    have hs : Sl x.N L0 a := ⟨hs0.size, hs0.dfr, fun t v h => hsl t v (hL0 t v h) (fun w o hw ho hd => by rw [hdst w o t hw ho hd] at h; cases h)⟩
    have hget : ∀ j, j < l.length → listed.getD j false = listed.getD j true := fun j hj => by
      simp only [Array.getD_eq_getD_getElem?]
      rw [Array.getElem?_eq_getElem (by omega)]; rfl
    obtain ⟨Y, R', h1, h2, _, h3, h4⟩ := DepT.use (Rt := R) (k H' hle) hs (fun j hj => by
      have hj' := List.mem_range.1 hj
      have ho : l[j]? = some l[j] := List.getElem?_eq_getElem (by omega)
      rw [ho]
      exact hv j _ hj' ho (hall j hj'))
    have hR : ∀ q, R' q = R q := fun q => by
      by_cases hq : q < m
      · exact h3 q (List.mem_range.2 hq)
      · rw [h4 q (fun h => hq (List.mem_range.1 h)), hin q (by omega)]
    have hwl : listK x.w0 l.toArray Q (l.drop m) a w := by
      refine h1 a w h2 (ht.perm ?_)
      rw [takeT_eq, flatMap_cong (R := R') (R' := R) (fun q _ => hR q)]
      refine perm_tok (List.nodup_range.filter _) (List.nodup_append.1 hT.nd).2.1 ?_ R M
      intro q
      rw [List.mem_filter, List.mem_range, alive_iff]
      constructor
      · rintro ⟨h5, h6, h7⟩
        rcases List.mem_append.1 (hT.all q h5) with h8 | h8
        · exfalso
          obtain ⟨c, hc, hqc⟩ := List.mem_flatten.1 h8
          obtain ⟨i, hi, rfl⟩ := List.mem_iff_getElem.1 hc
          have him : i < m := by rw [← hT.len]; exact hi
          refine h7 i him (by rw [hget i (by omega)]; exact hall i him) ?_
          rw [List.getD_eq_getElem?_getD, List.getElem?_eq_getElem hi]; exact hqc
        · exact h8
      · intro hq
        refine ⟨hT.lt q (List.mem_append_right _ hq), ?_, ?_⟩
        · by_cases e : m ≤ q
          · exact .inl e
          · exact .inr (by rw [hget q (by omega)]; exact hall q (by omega))
        · intro i him _ hc
          exact (List.nodup_append.1 hT.nd).2.2 q (hT.mem hc) q hq rfl
    have hl : ∀ j, j < l.length → listed.getD j true = decide (j < m) := by
      intro j hj
      by_cases e : j < m
      · rw [hall j e]; simp [e]
      · rw [htl j (by omega) hj]; simp [e]
    have hcount : l.length ≤ m + fuel := by
      have : l.length - m ≤ left l listed := by
        unfold left
        have h1 : (List.range l.length).countP (fun i => !listed.getD i true) = (List.range l.length).countP (fun i => decide (m ≤ i)) := by
          refine List.countP_congr fun j hj => ?_
          rw [hl j (List.mem_range.1 hj)]
          simp
        rw [h1]
        have h2 : ∀ n, (List.range n).countP (fun i => decide (m ≤ i)) = n - m := by
          intro n
          induction n with
          | zero => simp
          | succ n ihn =>
            rw [List.range_succ, List.countP_append, ihn]
            simp only [List.countP_cons, List.countP_nil]
            by_cases e : m ≤ n
            · simp [e]; omega
            · simp [e]; omega
        rw [h2]; exact Nat.le_refl _
      omega
    exact tail_tok hB fuel m listed a w (Nat.le_refl _) hsz hml hcount hl hwl
  intro fuel
  induction fuel with
  | zero =>
    intro listed a w H' R hsz hf htl hdc hle ht hs0 hsl hin hv
    refine fin 0 listed a w H' R hsz hf htl hle ht hs0 hsl hin hv (fun j hj => ?_)
    have : left l listed = 0 := by omega
    unfold left at this
    rw [List.countP_eq_zero] at this
    have := this j (List.mem_range.2 (by omega))
    simpa using this
  | succ fuel ih =>
    intro listed a w H' R hsz hf htl hdc hle ht hs0 hsl hin hv
    by_cases hall : ∀ j, j < m → listed.getD j true = true
    · exact fin (fuel + 1) listed a w H' R hsz hf htl hle ht hs0 hsl hin hv hall
    · have hs : Sl x.N L0 a := ⟨hs0.size, hs0.dfr, fun t v h => hsl t v (hL0 t v h) (fun w o hw ho hd => by rw [hdst w o t hw ho hd] at h; cases h)⟩
      have hget : ∀ j, j < l.length → listed.getD j false = listed.getD j true := fun j hj => by
        simp only [Array.getD_eq_getD_getElem?]
        rw [Array.getElem?_eq_getElem (by omega)]; rfl
      have hex : ∃ j, j < m ∧ listed.getD j true = false := by
        refine Classical.byContradiction fun hno => hall fun j hj => ?_
        cases hb : listed.getD j true with
        | true => rfl
        | false => exact absurd ⟨j, hj, hb⟩ hno
      obtain ⟨j0, ⟨hj0, hf0⟩, hleast⟩ := least (p := fun j => j < m ∧ listed.getD j true = false) hex.choose hex.choose_spec
      have hne : Region.ready .any l.toArray listed ≠ [] := by
        intro he
        have hlt : j0 < l.length := by omega
        have ho : l[j0]? = some l[j0] := List.getElem?_eq_getElem hlt
        have : j0 ∈ Region.ready .any l.toArray listed := by
          refine mem_ready.2 ⟨by simpa using hlt, hf0, l[j0], by simp, fun j hj => ?_⟩
          have hj' := orderB_lt hB ho j hj
          rw [hget j (by omega)]
          cases hb : listed.getD j true with
          | true => rfl
          | false => have := hleast j ⟨by omega, hb⟩; omega
        rw [he] at this; cases this
      refine ⟨fun he => absurd he hne, fun i hi => ?_⟩
      obtain ⟨h1, h2, o, ho', hw⟩ := mem_ready.1 hi
      have h1' : i < l.length := by simpa using h1
      have ho : l[i]? = some o := by simpa using ho'
      have him : i < m := by
        by_cases e : i < m
        · exact e
        · exfalso
          have := orderB_all hB (listed := fun q => listed.getD q false = true) (fun k o hk hki q hq => hdc k o hk hki q hq) ho (by omega) hw j0 (by omega)
          rw [hget j0 (by omega), hf0] at this; cases this
      have htake : (l.take m)[i]? = some o := by rw [List.getElem?_take, if_pos him]; exact ho
      have hnl : listed.getD i false = false := by rw [hget i h1']; exact h2
      -- the tokens
      have hCal : ∀ c ∈ C.getD i [], c ∈ (List.range K).filter (alive m C listed) := by
        intro c hc
        rw [List.mem_filter, List.mem_range, alive_iff]
        refine ⟨hT.lt c (List.mem_append_left _ (hT.mem hc)), ?_, ?_⟩
        · rcases hT.wait i o him ho c hc with h | h
          · exact .inl h
          · exact .inr (hw c h)
        · intro i' hi' hl' hc'
          have := hT.uniq hc hc'
          subst this
          rw [hnl] at hl'; cases hl'
      let A := (List.range K).filter (alive m C listed)
      let Bs := A.filter (fun c => !(C.getD i []).contains c)
      have hAnd : A.Nodup := List.nodup_range.filter _
      have hBnd : Bs.Nodup := hAnd.filter _
      have hperm : (A.flatMap R ++ M).Perm ((C.getD i [] ++ Bs).flatMap R ++ M) := by
        refine perm_tok hAnd ?_ ?_ R M
        · refine List.nodup_append.2 ⟨hT.ndC i, hBnd, ?_⟩
          rintro a ha b hb rfl
          have := (List.mem_filter.1 hb).2
          simp at this
          exact this (by simpa [List.getD_eq_getElem?_getD] using ha)
        · intro q
          rw [List.mem_append]
          constructor
          · intro hq
            by_cases hqc : q ∈ C.getD i []
            · exact .inl hqc
            · exact .inr (List.mem_filter.2 ⟨hq, by simpa using hqc⟩)
          · rintro (hq | hq)
            · exact hCal q hq
            · exact (List.mem_filter.1 hq).1
      have ht1 := ht.perm hperm
      rw [List.flatMap_append, List.append_assoc] at ht1
      let Rest := Bs.flatMap R ++ M
      -- all that has been done so far
      let X1 : Env := (List.range m).filterMap fun j => if listed.getD j true then (l[j]?).bind fun o => o.dst.map fun u => (u, a.tmps.getD u undef) else none
      let X2 : Env := (L.map (·.1)).filterMap fun t => if (List.range m).all (fun w => match (l[w]?).bind (·.dst) with
        | some u => !Nat.beq u t || !listed.getD w false
        | none => true) then (lk L t).map fun v => (t, v) else none
      let X : Env := X1 ++ X2
      have hX2 : ∀ u v, (u, v) ∈ X2 → a.tmps[u]? = some v := by
        intro u v hm
        obtain ⟨t, ht', hh⟩ := List.mem_filterMap.1 hm
        split at hh
        · rename_i hall2
          rw [Option.map_eq_some_iff] at hh
          obtain ⟨v', hv', hh⟩ := hh
          cases hh
          refine hsl _ _ hv' (fun w' o' hw' ho' hd' => ?_)
          rw [List.all_eq_true] at hall2
          have h9 := hall2 w' (List.mem_range.2 hw')
          rw [ho'] at h9
          simp only [Option.bind_some, hd'] at h9
          have h10 : Nat.beq u u = true := Nat.beq_refl u
          rw [h10] at h9
          simpa using h9
        · cases hh
      have hX1 : ∀ u v, (u, v) ∈ X1 → a.tmps[u]? = some v := by
        intro u v hm
        obtain ⟨j, hj, hh⟩ := List.mem_filterMap.1 hm
        split at hh
        · rename_i hlj
          rw [Option.bind_eq_some_iff] at hh
          obtain ⟨oj, hoj, hh⟩ := hh
          rw [Option.map_eq_some_iff] at hh
          obtain ⟨u', hu', hh⟩ := hh
          cases hh
          obtain ⟨v', hv', _⟩ := hv j oj (List.mem_range.1 hj) hoj hlj
          rw [hu'] at hv'
          simp only [holdsAt] at hv'
          simp [Array.getD_eq_getD_getElem?, hv']
        · cases hh
      have hX : ∀ u v, (u, v) ∈ X → a.tmps[u]? = some v := fun u v hm => (List.mem_append.1 hm).elim (hX1 u v) (hX2 u v)
      have hdep := (HopsT.at hop i o htake) H' hle X Rest (fun s hs => List.mem_append_right _ hs)
      simp only [Nat.zero_add] at hdep
      have hwl : ∀ j ∈ waitsFor o, j < m ∧ listed.getD j true = true := fun j hj => by
        have h3 := orderB_lt hB ho j hj
        refine ⟨by omega, ?_⟩
        rw [← hget j (by omega)]; exact hw j hj
      have hEi : ∀ t v, lk (Es.getD i []) t = some v → a.tmps[t]? = some v := by
        intro t v h
        refine hsl t v (hE i t v h) (fun w' o' hw' ho' hd' => ?_)
        cases hlw : listed.getD w' false with
        | false => rfl
        | true =>
          exfalso
          unfold extraB at hX0
          rw [List.all_eq_true] at hX0
          have h1 := hX0 i (List.mem_range.2 him)
          rw [List.all_eq_true] at h1
          have h2 := h1 t (List.mem_map.2 ⟨_, lk_mem h, rfl⟩)
          rw [List.all_eq_true] at h2
          have h3 := h2 w' (List.mem_range.2 hw')
          rw [ho'] at h3
          simp only [Option.bind_some, hd'] at h3
          have h10 : Nat.beq t t = true := Nat.beq_refl t
          rw [h10] at h3
          simp only [Bool.not_true, Bool.false_or] at h3
          have := masks_ok (listed := fun q => listed.getD q false = true) (fun k o hk hki q hq => hdc k o hk hki q hq) l [] (fun k q hk => by simpa using hk) (fun k hk => by simp at hk) w' (by simp; omega) o' ho' (fun q hq => hdc w' o' ho' hlw q hq) i h3
          rw [hnl] at this; cases this
      have hsE : Sl x.N (Es.getD i [] ++ (L0 ++ X)) a := by
        refine ⟨hs.size, hs.dfr, fun t v h => ?_⟩
        rw [lk_append] at h
        cases hl : lk (Es.getD i []) t with
        | some u => rw [hl] at h; simp at h; subst h; exact hEi t _ hl
        | none => rw [hl] at h; simp at h; exact (hs.more hX).get t v h
      obtain ⟨Y, R', hk, hsY, hY, hR1, hR2⟩ := DepT.use (Rt := R) hdep hsE (fun j hj => by
        have hj' := hwl j hj
        have hoj : l[j]? = some l[j] := List.getElem?_eq_getElem (by omega)
        rw [hoj]
        exact hv j _ hj'.1 hoj hj'.2)
      have hRC : ∀ c ∈ C.getD i [], R' c = R c := by
        intro c hc
        rcases hT.wait i o him ho c hc with h | h
        · rw [hR2 c (fun hcm => by have := hwl c hcm; omega), hin c h]
        · exact hR1 c h
      have hRU : ∀ u ∈ U.getD i [], R' u = R u := by
        intro u hu
        have h5 := hT.useW i o him ho u hu
        rcases h5.1 with h | h
        · rw [hR2 u (fun hcm => by have := hwl u hcm; omega), hin u h]
        · exact hR1 u h
      have hUB : ∀ u ∈ U.getD i [], u ∈ Bs := by
        intro u hu
        have h5 := hT.useW i o him ho u hu
        refine List.mem_filter.2 ⟨List.mem_filter.2 ⟨List.mem_range.2 h5.2, alive_iff.2 ⟨?_, ?_⟩⟩, ?_⟩
        · rcases h5.1 with h | h
          · exact .inl h
          · exact .inr (hw u h)
        · intro i' hi' hl' hc'
          have h6 := hT.useC i him u hu i' hi' hc'
          have hoi : l[i']? = some l[i'] := List.getElem?_eq_getElem (by omega)
          have := masks_ok (listed := fun q => listed.getD q false = true) (fun k o hk hki q hq => hdc k o hk hki q hq) l [] (fun k q hk => by simpa using hk) (fun k hk => by simp at hk) i' (by simp; omega) _ hoi (fun q hq => hdc i' _ hoi hl' q hq) i h6
          rw [hnl] at this; cases this
        · have h7 : u ∉ C.getD i [] := by
            intro hc
            have h6 := hT.useC i him u hu i him hc
            have hoi : l[i]? = some o := ho
            have := masks_ok (listed := fun q => q < i) (fun k o hk hki q hq => by have := orderB_lt hB hk q hq; omega) l [] (fun k q hk => by simpa using hk) (fun k hk => by simp at hk) i (by simpa using h1') o hoi (fun q hq => orderB_lt hB ho q hq) i h6
            omega
          simpa using h7
      have hUR : ∀ s ∈ takeT (U.getD i []) R' [], s ∈ Rest := by
        rw [takeT_eq, List.append_nil]
        intro s hs
        obtain ⟨u, hu, hsu⟩ := List.mem_flatMap.1 hs
        rw [hRU u hu] at hsu
        exact List.mem_append_left _ (List.mem_flatMap.2 ⟨u, hUB u hu, hsu⟩)
      have hUP : ∃ Rr, (takeT (U.getD i []) R' Rr).Perm Rest := by
        refine ⟨(Bs.filter fun c => !(U.getD i []).contains c).flatMap R ++ M, ?_⟩
        rw [takeT_eq, flatMap_cong (R := R') (R' := R) hRU, ← List.append_assoc, ← List.flatMap_append]
        refine perm_tok ?_ hBnd ?_ R M
        · refine List.nodup_append.2 ⟨hT.useN i him, hBnd.filter _, ?_⟩
          rintro a ha b hb rfl
          have := (List.mem_filter.1 hb).2
          simp at this
          exact this (by simpa [List.getD_eq_getElem?_getD] using ha)
        · intro q
          rw [List.mem_append]
          constructor
          · rintro (hq | hq)
            · exact hUB q hq
            · exact (List.mem_filter.1 hq).1
          · intro hq
            by_cases hqu : q ∈ U.getD i []
            · exact .inl hqu
            · exact .inr (List.mem_filter.2 ⟨hq, by simpa using hqu⟩)
      have hone := hk hUR hUP a w hsY (by
        rw [takeT_eq, flatMap_cong (R := R') (R' := R) hRC]
        exact ht1)
      have fin2 : ∀ a' w', OneT x H' Rest (Y ++ (Es.getD i [] ++ (L0 ++ X))) o.dst (lnk l i) (Φ i) .normal a' w' → anyK x.w0 .any l.toArray Q fuel (listed.setIfInBounds i true) a' w' := by
        rintro a' w' ⟨_, v, H2, rs, hs2, hnv, hle2, ht2, hφ⟩
        have hcv : holdsAt a' v o.dst (lnk l i) := by
          cases hd : o.dst with
          | none =>
            cases hk : lnk l i with
            | none => rw [hd, hk] at hnv; exact hnv
            | some s => rw [hd, hk] at hnv; rw [hd] at hs2; exact hs2.get s v hnv
          | some t => rw [hd] at hs2; exact hs2.get t v (by simp only [putE]; rw [lk_cons]; simp)
        have hput : ∀ u, o.dst ≠ some u → lk (putE o.dst v (Y ++ (Es.getD i [] ++ (L0 ++ X)))) u = lk (Y ++ (Es.getD i [] ++ (L0 ++ X))) u := by
          intro u hne
          cases hd : o.dst with
          | none => rfl
          | some t =>
            simp only [putE]
            rw [lk_cons, if_neg (fun e => hne (by rw [hd, e]))]
        have hYt : ∀ u z, (u, z) ∈ Y ++ X → o.dst ≠ some u → a'.tmps[u]? = some z := by
          intro u z hm hne
          have hz : a.tmps[u]? = some z := by
            rcases List.mem_append.1 hm with hm | hm
            · exact hY u z hm
            · exact hX u z hm
          have hlk : ∃ z', lk (Y ++ (Es.getD i [] ++ (L0 ++ X))) u = some z' := by
            have hsome : ∀ {E : Env} {u : Nat} {z : Value}, (u, z) ∈ E → ∃ z', lk E u = some z' := by
              intro E u z
              induction E with
              | nil => simp
              | cons p E ihE =>
                obtain ⟨q, r⟩ := p
                intro hm
                rw [lk_cons]
                split
                · exact ⟨_, rfl⟩
                · rename_i hne
                  rcases List.mem_cons.1 hm with e | hm
                  · cases e; exact absurd rfl hne
                  · exact ihE hm
            rcases List.mem_append.1 hm with hm | hm
            · exact hsome (List.mem_append_left _ hm)
            · exact hsome (List.mem_append_right _ (List.mem_append_right _ (List.mem_append_right _ hm)))
          obtain ⟨z', hz'⟩ := hlk
          have e1 := hsY.get u z' hz'
          rw [hz] at e1
          cases e1
          exact hs2.get u z (by rw [hput u hne]; exact hz')
        have hset : ∀ j, (listed.setIfInBounds i true).getD j false = if j = i then true else listed.getD j false := fun j => getD_set _ _ _ _ (by omega)
        refine ih (listed.setIfInBounds i true) a' w' H2 (updT R i rs) (by simpa using hsz) (by have := left_set (l := l) hsz h1' h2; omega) (fun j hj hjl => by rw [getD_set _ _ _ _ (by omega), if_neg (by omega)]; exact htl j hj hjl) ?_ (Hp.le_trans hle hle2) ?_ ?_ ?_ ?_ ?_
        · intro j oj hoj hlj q hq
          rw [hset] at hlj ⊢
          split at hlj
          · rename_i e; subst e
            rw [ho] at hoj; cases hoj
            split
            · rfl
            · exact hw q hq
          · split
            · rfl
            · exact hdc j oj hoj hlj q hq
        · -- the resources
          have hiB : i ∉ Bs := by
            intro hmB
            have := (List.mem_filter.1 hmB).1
            rw [List.mem_filter, alive_iff] at this
            rcases this.2.1 with h | h
            · omega
            · rw [hnl] at h; cases h
          have e1 : rs ++ Rest = ((i :: Bs).flatMap (updT R i rs)) ++ M := by
            rw [List.flatMap_cons, updT_self, flatMap_cong (A := Bs) (R := updT R i rs) (R' := R) (fun q hq => updT_ne _ _ _ _ (fun e => hiB (by rw [← e]; exact hq))), List.append_assoc]
          rw [e1] at ht2
          refine ht2.perm (perm_tok (List.nodup_cons.2 ⟨hiB, hBnd⟩) (List.nodup_range.filter _) ?_ _ M)
          intro q
          rw [List.mem_cons, List.mem_filter, List.mem_filter, List.mem_filter, List.mem_range, alive_iff, alive_iff]
          constructor
          · rintro (rfl | ⟨⟨hqK, hq1, hq2⟩, hq3⟩)
            · refine ⟨by omega, .inr (by rw [hset, if_pos rfl]), ?_⟩
              intro i' hi' hl' hc'
              rw [hset] at hl'
              split at hl'
              · rename_i e; subst e
                rcases hT.wait i' o hi' ho _ hc' with h | h
                · omega
                · have := orderB_lt hB ho _ h; omega
              · have hoi : l[i']? = some l[i'] := List.getElem?_eq_getElem (by omega)
                rcases hT.wait i' _ hi' hoi _ hc' with h | h
                · omega
                · have := hdc i' _ hoi hl' _ h
                  rw [hnl] at this; cases this
            · refine ⟨hqK, ?_, ?_⟩
              · rcases hq1 with h | h
                · exact .inl h
                · exact .inr (by rw [hset]; split <;> simp [h])
              · intro i' hi' hl' hc'
                rw [hset] at hl'
                split at hl'
                · rename_i e; subst e
                  simp at hq3
                  exact hq3 (by simpa [List.getD_eq_getElem?_getD] using hc')
                · exact hq2 i' hi' hl' hc'
          · rintro ⟨hqK, hq1, hq2⟩
            by_cases hqi : q = i
            · exact .inl hqi
            · refine .inr ⟨⟨hqK, ?_, ?_⟩, ?_⟩
              · rcases hq1 with h | h
                · exact .inl h
                · rw [hset, if_neg hqi] at h; exact .inr h
              · intro i' hi' hl' hc'
                exact hq2 i' hi' (by rw [hset]; split <;> simp [hl']) hc'
              · have := hq2 i him (by rw [hset, if_pos rfl])
                simpa using this
        · exact ⟨hs2.size, hs2.dfr, fun u z hu => by simp [lk] at hu⟩
        · intro u z hu hun
          have hne : o.dst ≠ some u := fun e => by
            have := hun i o him ho e
            rw [hset, if_pos rfl] at this; cases this
          refine hYt u z (List.mem_append_right _ (List.mem_append_right _ (List.mem_filterMap.2 ⟨u, List.mem_map.2 ⟨_, lk_mem hu, rfl⟩, ?_⟩))) hne
          rw [if_pos, hu]
          · rfl
          · rw [List.all_eq_true]
            intro w' hw'
            have hw'' := List.mem_range.1 hw'
            have hoi : l[w']? = some l[w'] := List.getElem?_eq_getElem (by omega)
            rw [hoi]
            simp only [Option.bind_some]
            cases hd' : l[w'].dst with
            | none => rfl
            | some q =>
              by_cases e : q = u
              · subst e
                have h9 := hun w' _ hw'' hoi hd'
                rw [hset] at h9
                split at h9
                · cases h9
                · simp [h9]
              · have : Nat.beq q u = false := by
                  cases hb : Nat.beq q u with
                  | false => rfl
                  | true => exact absurd (Nat.eq_of_beq_eq_true hb) e
                simp [this]
        · intro q hq
          rw [updT_ne _ _ _ _ (by omega)]; exact hin q hq
        · intro j oj hjm hoj hlj
          rw [getD_set _ _ _ _ (by omega)] at hlj
          by_cases e : j = i
          · subst e
            rw [ho] at hoj; cases hoj
            rw [updT_self]
            exact ⟨v, hcv, hφ⟩
          · rw [if_neg e] at hlj
            rw [updT_ne _ _ _ _ e]
            obtain ⟨z, hz, hφj⟩ := hv j oj hjm hoj hlj
            refine ⟨z, ?_, hmono _ _ _ _ _ hle2 hφj⟩
            have hNd2 : ∀ (j : Nat) (oj : Oper) (u : Nat), j < m → l[j]? = some oj → j ≠ i → oj.dst = some u → o.dst ≠ some u := by
              intro j oj u hjm hoj e hdj e2
              unfold dstsN2 at hNd
              have hnd := of_decide_eq_true hNd
              have hnd2 : (l.take m).Pairwise (fun o1 o2 => ∀ u, o1.dst = some u → ∀ u', o2.dst = some u' → u ≠ u') := by
                unfold List.Nodup at hnd
                rw [List.pairwise_filterMap] at hnd
                exact hnd.imp fun h u hu u' hu' => h u hu u' hu'
              have htj : (l.take m)[j]? = some oj := by rw [List.getElem?_take, if_pos hjm]; exact hoj
              obtain ⟨hi', p1⟩ := List.getElem?_eq_some_iff.1 htake
              obtain ⟨hj', p2⟩ := List.getElem?_eq_some_iff.1 htj
              have hpw := List.pairwise_iff_getElem.1 hnd2
              rcases Nat.lt_or_gt_of_ne e with q | q
              · exact hpw j i hj' hi' q u (by rw [p2]; exact hdj) u (by rw [p1]; exact e2) rfl
              · exact hpw i j hi' hj' q u (by rw [p1]; exact e2) u (by rw [p2]; exact hdj) rfl
            have hkeep : ∀ (j : Nat) (oj : Oper) (u : Nat), j < m → l[j]? = some oj → listed.getD j true = true → j ≠ i → oj.dst = some u → a.tmps[u]? = some z → a'.tmps[u]? = some z := by
              intro j oj u hjm hoj hlj e hdj hz
              refine hYt u z (List.mem_append_right _ (List.mem_append_left _ (List.mem_filterMap.2 ⟨j, List.mem_range.2 hjm, ?_⟩))) (hNd2 j oj u hjm hoj e hdj)
              simp [hlj, hoj, hdj, Array.getD_eq_getD_getElem?, hz]
            cases hdj : oj.dst with
            | none =>
              rw [hdj] at hz
              cases hk : lnk l j with
              | none => rw [hk] at hz; exact hz
              | some s =>
                rw [hk] at hz
                simp only [holdsAt] at hz ⊢
                obtain ⟨o2, ho2, _, w2, hw2, hd2⟩ := lnk_ok hk
                rw [hoj] at ho2; cases ho2
                have hlt2 := orderB_lt hB hoj w2 hw2
                have hl2 := hdc j oj hoj (by rw [hget j (by omega)]; exact hlj) w2 hw2
                have hne2 : w2 ≠ i := by rintro rfl; rw [hnl] at hl2; cases hl2
                rw [Option.bind_eq_some_iff] at hd2
                obtain ⟨ow, how, hdw⟩ := hd2
                exact hkeep w2 ow s (by omega) how (by rw [← hget w2 (by omega)]; exact hl2) hne2 hdw hz
            | some u =>
              rw [hdj] at hz
              simp only [holdsAt] at hz ⊢
              exact hkeep j oj u hjm hoj hlj e hdj hz
      unfold anyOp
      rw [show l.toArray[i]? = some o from by simpa using ho]
      unfold listK at hone
      dsimp only
      obtain ⟨hgg, hone⟩ := hone
      refine ⟨hgg, ?_⟩
      by_cases hwn : Region.wanted o (yielded l.toArray a.tmps) = true
      · rw [if_pos hwn] at hone ⊢
        exact OpK_mono (fun a1 w1 h => fin2 a1 w1 h) hone
      · rw [if_neg hwn] at hone ⊢
        exact fin2 _ _ hone

def KeptL (L : Env) : List Env → Prop
  | [] => True
  | E :: r => Kept L E ∧ KeptL L r
theorem KeptL.get {L : Env} : ∀ {Es : List Env}, KeptL L Es → ∀ i t v, lk (Es.getD i []) t = some v → lk L t = some v
  | [], _, i, t, v, h => by simp [lk] at h
  | E :: r, hk, 0, t, v, h => hk.1.lk t v (by simpa using h)
  | E :: r, hk, i + 1, t, v, h => KeptL.get hk.2 i t v (by simpa using h)
/-- **A region that draws its order.** -/
theorem any_tok (m : Nat) (Φ : Fct) (C U : List (List Nat)) (I : List (List Res)) (live : List Nat) (L0 : Env) (Es : List Env) (hmix : P.follows .mixedOrders = true) (hB : orderB l m = true) (hml : Nat.ble m l.length = true) (hD : dstsB2 l m L0 = true) (hX : extraB l m Es = true) (hL0 : ∀ t v, lk L0 t = some v → lk L t = some v) (hE : KeptL L Es) (hNd : dstsN2 l m = true)
    (hT : tokB l m (m + I.length) C U live = true)
    (hmono : ∀ i H1 H2 rs v, H1.le H2 → Φ i H1 rs v → Φ i H2 rs v)
    (hop : HopsT x l Φ C U Es (inR m I) H M L0 0 (l.take m))
    (k : ∀ H', H.le H' → DepT l Φ H' (List.range m) L0 (inR m I) (fun L' R => W x l.toArray Q (l.drop m) H' (takeT live R M) L')) : ∀ a w, Sl x.N L a → St x.B x.w0 H (I.flatten ++ M) w → ∀ w1, Oth x.w0 w w1 → anyK x.w0 .any l.toArray Q l.toArray.size (Array.replicate l.toArray.size false) a { w1 with drawn := w1.drawn + 1 } := by
  intro a w hs ht w1 h1
  have ht := ht.oth h1
  have hml' : m ≤ l.length := by simpa [Nat.ble_eq] using hml
  have hlist : ∀ j, (Array.replicate l.toArray.size false).getD j true = if j < l.length then false else true := by
    intro j
    simp only [Array.getD_eq_getD_getElem?, Array.getElem?_replicate, List.size_toArray]
    split <;> simp
  have hlist2 : ∀ j, (Array.replicate l.toArray.size false).getD j false = false := by
    intro j
    simp only [Array.getD_eq_getD_getElem?, Array.getElem?_replicate, List.size_toArray]
    split <;> simp
  have hstart : ((List.range (m + I.length)).filter (alive m C (Array.replicate l.toArray.size false))).flatMap (inR m I) = I.flatten := by
    rw [List.range_add, List.filter_append]
    have e1 : (List.range m).filter (alive m C (Array.replicate l.toArray.size false)) = [] := by
      rw [List.filter_eq_nil_iff]
      intro q hq
      rw [alive_iff]
      rintro ⟨h | h, _⟩
      · have := List.mem_range.1 hq; omega
      · rw [hlist2] at h; cases h
    have e2 : ((List.range I.length).map (m + ·)).filter (alive m C (Array.replicate l.toArray.size false)) = (List.range I.length).map (m + ·) := by
      rw [List.filter_eq_self]
      intro q hq
      obtain ⟨r, hr, rfl⟩ := List.mem_map.1 hq
      rw [alive_iff]
      exact ⟨.inl (by omega), fun i _ h => by rw [hlist2] at h; cases h⟩
    rw [e1, e2, List.nil_append, List.flatMap_map]
    have e3 : (List.range I.length).flatMap (fun q => inR m I (m + q)) = ((List.range I.length).map fun q => I.getD q []).flatten := by
      rw [List.flatMap_def]
      congr 1
      refine List.map_congr_left fun q _ => ?_
      unfold inR
      rw [if_neg (by omega), Nat.add_sub_cancel_left]
    rw [e3]
    congr 1
    apply List.ext_getElem?
    intro q
    rw [List.getElem?_map]
    by_cases hq : q < I.length
    · rw [List.getElem?_range hq, List.getElem?_eq_getElem hq]; simp [List.getD_eq_getElem?_getD, hq]
    · rw [List.getElem?_eq_none (by simp; omega), List.getElem?_eq_none (by omega)]; rfl
  refine pre_tok (Q := Q) (K := m + I.length) hB hml' hD hX hL0 (fun i t v h => hE.get i t v h) hNd (tokB_ok hT) (by omega) hmono hop k l.toArray.size _ a _ H (inR m I) (by simp) ?_ (fun j hj hjl => by rw [hlist, if_pos hjl]) (fun i o _ h => by rw [hlist2] at h; cases h) (Hp.le_refl _) ?_ ⟨hs.size, hs.dfr, fun t v h => by simp [lk] at h⟩ (fun t v h _ => hs.get t v h) (fun _ _ => rfl) ?_
  · unfold left
    exact Nat.le_trans (List.countP_le_length ..) (by simp)
  · rw [hstart]; exact ht.drewN _
  · intro i o hi ho hl
    rw [hlist, if_pos (by omega)] at hl
    cases hl
theorem C_region_tok {id : Nat} (m : Nat) (Φ : Fct) (C U : List (List Nat)) (I : List (List Res)) (live : List Nat) (L0 : Env) (Es : List Env) (hmix : P.follows .mixedOrders = true) (hB : orderB l m = true) (hml : Nat.ble m l.length = true) (hD : dstsB2 l m L0 = true) (hX : extraB l m Es = true) (hL0 : ∀ t v, lk L0 t = some v → lk L t = some v) (hE : KeptL L Es) (hNd : dstsN2 l m = true)
    (hT : tokB l m (m + I.length) C U live = true)
    (hmono : ∀ i H1 H2 rs v, H1.le H2 → Φ i H1 rs v → Φ i H2 rs v)
    (hop : HopsT x l Φ C U Es (inR m I) H M L0 0 (l.take m))
    (k : ∀ H', H.le H' → DepT l Φ H' (List.range m) L0 (inR m I) (fun L' R => W x l.toArray Q (l.drop m) H' (takeT live R M) L')) : Go.Sim.C x (.region id l.toArray true) Q H (I.flatten ++ M) L :=
  fun a w hs ht => wpK_region_any hmix fun w1 h1 => any_tok m Φ C U I live L0 Es hmix hB hml hD hX hL0 hE hNd hT hmono hop k a w hs ht w1 h1
theorem C_region_tok0 {id : Nat} (m : Nat) (Φ : Fct) (C U : List (List Nat)) (I : List (List Res)) (live : List Nat) (hmix : P.follows .mixedOrders = true) (hB : orderB l m = true) (hml : Nat.ble m l.length = true) (hD : dstsB2 l m L = true) (hNd : dstsN2 l m = true)
    (hT : tokB l m (m + I.length) C U live = true)
    (hmono : ∀ i H1 H2 rs v, H1.le H2 → Φ i H1 rs v → Φ i H2 rs v)
    (hop : HopsT x l Φ C U [] (inR m I) H M L 0 (l.take m))
    (k : ∀ H', H.le H' → DepT l Φ H' (List.range m) L (inR m I) (fun L' R => W x l.toArray Q (l.drop m) H' (takeT live R M) L')) : Go.Sim.C x (.region id l.toArray true) Q H (I.flatten ++ M) L :=
  C_region_tok m Φ C U I live L [] hmix hB hml hD (by unfold extraB; simp) (fun _ _ h => h) trivial hNd hT hmono hop k
end
end Go.Sim
end

section
set_option linter.unusedSimpArgs false
set_option linter.unusedVariables false
namespace Go.Sim
open Go Go.RowKit

structure U8 where
  n : Int
  deriving DecidableEq
structure U16 where
  n : Int
  deriving DecidableEq
structure U32 where
  n : Int
  deriving DecidableEq
structure U64 where
  n : Int
  deriving DecidableEq
structure I32 where
  n : Int
  deriving DecidableEq
instance : Rep U8 where
  sz := 1
  E _ cs x := cs = [.int .u8 x.n]
  len h := by rw [h]; rfl
  mono _ h := h
  one h c hc := by rw [h] at hc; simp at hc; subst hc; rfl
instance : Rep U16 where
  sz := 1
  E _ cs x := cs = [.int .u16 x.n]
  len h := by rw [h]; rfl
  mono _ h := h
  one h c hc := by rw [h] at hc; simp at hc; subst hc; rfl
instance : Rep U32 where
  sz := 1
  E _ cs x := cs = [.int .u32 x.n]
  len h := by rw [h]; rfl
  mono _ h := h
  one h c hc := by rw [h] at hc; simp at hc; subst hc; rfl
instance : Rep U64 where
  sz := 1
  E _ cs x := cs = [.int .u64 x.n]
  len h := by rw [h]; rfl
  mono _ h := h
  one h c hc := by rw [h] at hc; simp at hc; subst hc; rfl
instance : Rep I32 where
  sz := 1
  E _ cs x := cs = [.int .i32 x.n]
  len h := by rw [h]; rfl
  mono _ h := h
  one h c hc := by rw [h] at hc; simp at hc; subst hc; rfl

theorem RdS.nil {α : Type} [Rep α] {H : Hp} : RdS H (.slice none 0 0) ([] : List α) := .inl ⟨⟨_, rfl⟩, rfl⟩
theorem RdS.cells {α : Type} [Rep α] {H : Hp} {v : Value} {xs : List α} (h : RdS H v xs) : v.cells = [v].toArray := by
  obtain ⟨a, c, rfl, _⟩ := h.len; rfl
theorem RdS.one1 {α : Type} [Rep α] {H : Hp} {v : Value} {xs : List α} (h : RdS H v xs) : v.oneCell' = true := by
  obtain ⟨a, c, rfl, _⟩ := h.len; rfl
theorem all_nil : ∀ c ∈ ([] : List Value), c.oneCell' = true := by intro c hc; cases hc
theorem all_cons {v : Value} {l : List Value} (h : v.oneCell' = true) (k : ∀ c ∈ l, c.oneCell' = true) : ∀ c ∈ v :: l, c.oneCell' = true := by
  intro c hc
  rcases List.mem_cons.1 hc with rfl | hc
  · exact h
  · exact k c hc
theorem HCells.one {H : Hp} {ad : Addr} {cs : List Value} (h : HCells H ad cs) (j : Nat) {c : Value} (hc : cs[j]? = some c) : HCell H (ad.add j) c := h j c hc
/-- A part of a run of cells. -/
theorem HCells.part {H : Hp} {ad : Addr} {cs ds : List Value} {k : Nat} (h : HCells H ad cs) (hd : (cs.drop k).take ds.length = ds) : HCells H (ad.add k) ds := by
  intro j c hc
  have hj : j < ds.length := (List.getElem?_eq_some_iff.1 hc).1
  have : cs[k + j]? = some c := by
    rw [← hd, List.getElem?_take, if_pos hj, List.getElem?_drop] at hc; exact hc
  have := h (k + j) c this
  have e : (ad.add k).add j = ad.add (k + j) := by
    unfold Addr.add
    by_cases h1 : k = 0
    · subst h1; simp
    · by_cases h2 : j = 0
      · subst h2; simp
      · simp [h1, h2, Nat.add_assoc]
  rw [e]; exact this
theorem own_part {P : Program} {x : Cx P} {H : Hp} {M : List Res} {b k : Nat} {l ds : List Value} {T : TypeId} {fz : Nat × Nat}
    (hm : Res.obj b (.cells l.toArray T fz) ∈ M) (hd : (l.drop k).take ds.length = ds) : CellsAt x H M ⟨b, k, none⟩ ds := by
  intro j c hc
  have hj : j < ds.length := (List.getElem?_eq_some_iff.1 hc).1
  rw [Addr.add_lit]
  refine own_at hm ?_
  rw [← hd, List.getElem?_take, if_pos hj, List.getElem?_drop] at hc; exact hc

theorem E_keepJ {P : Program} {x : Cx P} {e : Exit} {Q : Post} {H : Hp} {M M' : List Res} {L L' : Env} (k : E x e Q H M' L') (hM : M.Perm M') (hL : Kept L L') : E x e Q H M L := E_keep hL hM k

def phi (l : List (Hp → Value → Prop)) (i : Nat) : Hp → Value → Prop := l.getD i (fun _ _ => True)
def Mono (p : Hp → Value → Prop) : Prop := ∀ H1 H2 v, H1.le H2 → p H1 v → p H2 v
def MonoL : List (Hp → Value → Prop) → Prop
  | [] => True
  | p :: l => Mono p ∧ MonoL l
theorem phi_mono {l : List (Hp → Value → Prop)} (h : MonoL l) : ∀ i H1 H2 v, H1.le H2 → phi l i H1 v → phi l i H2 v := by
  induction l with
  | nil => intro i H1 H2 v _ _; exact trivial
  | cons p l ih =>
    intro i H1 H2 v hle hp
    cases i with
    | zero => exact h.1 H1 H2 v hle hp
    | succ i => exact ih h.2 i H1 H2 v hle hp
theorem eq_mono (c : Value) : Mono (fun _ v => v = c) := fun _ _ _ _ h => h
theorem ite_t' {α : Type} {b : Bool} {p q r : α} (hb : b = true) (h : (if b = true then p else q) = r) : p = r := by rw [if_pos hb] at h; exact h
theorem ite_f' {α : Type} {b : Bool} {p q r : α} (hb : b = false) (h : (if b = true then p else q) = r) : q = r := by rw [if_neg (by simp [hb])] at h; exact h

section
variable {P : Program} {N B : Nat} {w0 : Bs P} {fn : Func} {H H0 : Hp} {M : List Res} {L : Env}
theorem end1_s {φ : Value → Prop} {t : Nat} {v : Value} (hr : fn.results = #[.tmp t]) (hl : lk L t = some v) (hle : H0.le H) (h : φ v) :
    E ⟨N, B, w0⟩ .ret (bodyPostK P fn (Ret B w0 fun H' M' v => H0 = H' ∧ M = M' ∧ φ v)) H M L :=
  fun a w hs ht => ⟨hs.dfr, v, resK1 hr (hs.get t v hl), H0, M, ht.weak hle, rfl, rfl, h⟩
theorem end2_s {φ : Value → Prop} {t u : Nat} {v1 v2 : Value} (hr : fn.results = #[.tmp t, .tmp u]) (hl : lk L t = some v1) (hl2 : lk L u = some v2) (hle : H0.le H) (h : φ (.tuple #[v1, v2])) :
    E ⟨N, B, w0⟩ .ret (bodyPostK P fn (Ret B w0 fun H' M' v => H0 = H' ∧ M = M' ∧ φ v)) H M L :=
  fun a w hs ht => ⟨hs.dfr, .tuple #[v1, v2], resK2 hr (hs.get t v1 hl) (hs.get u v2 hl2), H0, M, ht.weak hle, rfl, rfl, h⟩
theorem end3_s {φ : Value → Prop} {t u s : Nat} {v1 v2 v3 : Value} (hr : fn.results = #[.tmp t, .tmp u, .tmp s]) (hl : lk L t = some v1) (hl2 : lk L u = some v2) (hl3 : lk L s = some v3) (hle : H0.le H) (h : φ (.tuple #[v1, v2, v3])) :
    E ⟨N, B, w0⟩ .ret (bodyPostK P fn (Ret B w0 fun H' M' v => H0 = H' ∧ M = M' ∧ φ v)) H M L :=
  fun a w hs ht => ⟨hs.dfr, .tuple #[v1, v2, v3], resK3 hr (hs.get t v1 hl) (hs.get u v2 hl2) (hs.get s v3 hl3), H0, M, ht.weak hle, rfl, rfl, h⟩
end
end Go.Sim
end
