/-
  How Go's data read as Lean's; loops; a function's beginning and end; the combinators of the models.
-/
import Derived.Test.YtfmhkgnbceoclaaSimC
namespace Go.Sim
open Go Go.RowKit

/-! ### Data -/
class Rep (α : Type) where
  sz : Nat
  E : Hp → List Value → α → Prop
  len : ∀ {H cs x}, E H cs x → cs.length = sz
  mono : ∀ {H H' cs x}, H.le H' → E H cs x → E H' cs x
  one : ∀ {H cs x}, E H cs x → ∀ c ∈ cs, c.oneCell' = true

instance : Rep Int where
  sz := 1
  E _ cs n := cs = [.int .i64 n]
  len h := by rw [h]; rfl
  mono _ h := h
  one h c hc := by rw [h] at hc; simp at hc; subst hc; rfl
instance : Rep Bool where
  sz := 1
  E _ cs b := cs = [.bool b]
  len h := by rw [h]; rfl
  mono _ h := h
  one h c hc := by rw [h] at hc; simp at hc; subst hc; rfl
instance : Rep ByteArray where
  sz := 1
  E _ cs s := cs = [.string s]
  len h := by rw [h]; rfl
  mono _ h := h
  one h c hc := by rw [h] at hc; simp at hc; subst hc; rfl
instance : Rep UInt8 where
  sz := 1
  E _ cs n := cs = [.int .u8 n.toNat]
  len h := by rw [h]; rfl
  mono _ h := h
  one h c hc := by rw [h] at hc; simp at hc; subst hc; rfl
instance : Rep UInt32 where
  sz := 1
  E _ cs n := cs = [.int .u32 n.toNat]
  len h := by rw [h]; rfl
  mono _ h := h
  one h c hc := by rw [h] at hc; simp at hc; subst hc; rfl
instance : Rep UInt64 where
  sz := 1
  E _ cs n := cs = [.int .u64 n.toNat]
  len h := by rw [h]; rfl
  mono _ h := h
  one h c hc := by rw [h] at hc; simp at hc; subst hc; rfl

/-- A slice that reads as a list. -/
def RdS {α : Type} [Rep α] (H : Hp) (v : Value) (xs : List α) : Prop :=
  ((∃ a, v = .slice a 0 0) ∧ xs = []) ∨
  ∃ b off cap arr T fz, v = .slice (some ⟨b, off, none⟩) xs.length cap ∧ xs.length ≤ cap ∧ cap ≤ maxLen ∧ H b = some (.cells arr T fz) ∧ off + cap * Rep.sz α ≤ arr.size ∧
    ∀ k e, xs[k]? = some e → ∃ cs, Rep.E H cs e ∧ ∀ j c, cs[j]? = some c → arr[off + k * Rep.sz α + j]? = some c

theorem RdS.mono {α : Type} [Rep α] {H H' : Hp} {v : Value} {xs : List α} (hle : H.le H') (h : RdS H v xs) : RdS H' v xs := by
  rcases h with h | ⟨b, off, cap, arr, T, fz, h1, h2, h3, h4, h5, h6⟩
  · exact .inl h
  · exact .inr ⟨b, off, cap, arr, T, fz, h1, h2, h3, hle _ _ h4, h5, fun k e he => let ⟨cs, a, b⟩ := h6 k e he; ⟨cs, Rep.mono hle a, b⟩⟩

instance {α : Type} [Rep α] : Rep (List α) where
  sz := 1
  E H cs xs := ∃ v, cs = [v] ∧ RdS H v xs
  len h := by obtain ⟨v, rfl, _⟩ := h; rfl
  mono hle h := by obtain ⟨v, e, hv⟩ := h; exact ⟨v, e, hv.mono hle⟩
  one h c hc := by
    obtain ⟨v, rfl, hv⟩ := h
    simp at hc; subst hc
    rcases hv with ⟨⟨a, rfl⟩, _⟩ | ⟨b, off, cap, arr, T, fz, rfl, _⟩ <;> rfl

/-- The address of what lies k cells behind a slice's beginning. -/
def Value.base : Value → Addr
  | .slice (some a) _ _ => a
  | _ => ⟨0, 0, none⟩
def Value.cap' : Value → Nat
  | .slice _ _ c => c
  | _ => 0

theorem RdS.len {α : Type} [Rep α] {H : Hp} {v : Value} {xs : List α} (h : RdS H v xs) : ∃ a c, v = .slice a xs.length c ∧ xs.length ≤ c ∧ c ≤ maxLen := by
  rcases h with ⟨⟨a, rfl⟩, rfl⟩ | ⟨b, off, cap, arr, T, fz, rfl, h2, h3, _⟩
  · exact ⟨a, 0, rfl, Nat.le_refl _, by unfold maxLen; omega⟩
  · exact ⟨_, cap, rfl, h2, h3⟩

theorem RdS.val {α : Type} [Rep α] {H : Hp} {v : Value} {xs : List α} (h : RdS H v xs) {k : Nat} {e : α} (he : xs[k]? = some e) : v = .slice (some (Value.base v)) xs.length (Value.cap' v) := by
  rcases h with ⟨⟨a, rfl⟩, rfl⟩ | ⟨b, off, cap, arr, T, fz, rfl, _⟩
  · simp at he
  · rfl

/-- An element's cells. -/
theorem RdS.elem {α : Type} [Rep α] {H : Hp} {v : Value} {xs : List α} (h : RdS H v xs) {k : Nat} {e : α} (he : xs[k]? = some e) :
    ∃ cs, Rep.E H cs e ∧ HCells H ((Value.base v).add (k * Rep.sz α)) cs := by
  rcases h with ⟨⟨a, rfl⟩, rfl⟩ | ⟨b, off, cap, arr, T, fz, rfl, h2, h3, h4, h5, h6⟩
  · simp at he
  · obtain ⟨cs, h7, h8⟩ := h6 k e he
    refine ⟨cs, h7, fun j c hc => ⟨arr, T, fz, ?_, ?_, ?_⟩⟩
    · simp only [Value.base, Addr.add_lit]; exact h4
    · simp only [Value.base, Addr.add_lit]
    · simp only [Value.base, Addr.add_lit]; exact h8 j c hc

/-! ### Indexing a slice that reads -/
section
variable {x : Cx} {ops : Array Oper} {Q : Post} {rest : List Oper} {H : Hp} {M M' : List Res} {L L' : Env}
variable {d : Nat} {ty : TypeId} {pos : String} {aft : Array Edge} {g : Option (Nat × Bool)}

theorem W_indexS {α : Type} [Rep α] {t e : TypeId} {y z : Operand} {v : Value} {xs : List α} {el : α} {kk : IntKind} {i : Int} (hg : gd ops L ⟨some d, .indexAddr t y z, ty, pos, aft, g⟩ = some true) (hN : Nat.blt d x.N = true)
    (hT : ∀ w, (underlying t).run x.P w = .ok (.slice e) w) (hs : ∀ w, (sizeOf e).run x.P w = .ok (Rep.sz α) w)
    (hy : ev L y = some v) (hR : RdS H v xs) (hz : ev L z = some (.int kk i)) (h0 : 0 ≤ i) (he : xs[i.toNat]? = some el)
    (k : W x ops Q rest H M ((d, .pointer (some ((Value.base v).add (i.toNat * Rep.sz α)))) :: L)) :
    W x ops Q (⟨some d, .indexAddr t y z, ty, pos, aft, g⟩ :: rest) H M L :=
  W_indexA hg hN hT hs (by rw [hy, ← hR.val he]) hz h0 (by rcases List.getElem?_eq_some_iff.1 he with ⟨h, _⟩; exact h) k

theorem W_lenR {α : Type} [Rep α] {t e : TypeId} {y : Operand} {v : Value} {xs : List α} (hg : gd ops L ⟨some d, .call ⟨.builtin .len, #[y], #[t]⟩, ty, pos, aft, g⟩ = some true) (hN : Nat.blt d x.N = true)
    (hT : ∀ w, (underlying t).run x.P w = .ok (.slice e) w) (hy : ev L y = some v) (hR : RdS H v xs) (k : W x ops Q rest H M ((d, .int .i64 xs.length) :: L)) :
    W x ops Q (⟨some d, .call ⟨.builtin .len, #[y], #[t]⟩, ty, pos, aft, g⟩ :: rest) H M L := by
  obtain ⟨a, c, rfl, _⟩ := hR.len
  exact W_lenS hg hN hT hy k
end

/-! ### Stores into an owned block -/
/-- vs laid over l from place k on. -/
def over (l : List Value) (k : Nat) : List Value → List Value
  | [] => l
  | v :: vs => over (l.set k v) (k + 1) vs

theorem over_length (vs : List Value) : ∀ (l : List Value) (k : Nat), (over l k vs).length = l.length := by
  induction vs with
  | nil => intro l k; rfl
  | cons v vs ih => intro l k; simp [over, ih]

theorem run_storeCells_obj {P : Program} (b o : Nat) (T : TypeId) : ∀ (vs : List Value) (i : Nat) (l : List Value) (w : World), w.heap[b]? = some (.cells l.toArray T (0, 0)) →
    o + i + vs.length ≤ l.length → (∀ v ∈ vs, v.oneCell' = true) →
    ∃ w', (storeCells ⟨b, o, none⟩ vs i).run P w = .ok () w' ∧ w'.heap[b]? = some (.cells (over l (o + i) vs).toArray T (0, 0)) ∧ w.grownBy w' (some b)
  | [], i, l, w, h, _, _ => ⟨w, rfl, h, ⟨rfl, rfl, rfl, Nat.le_refl _, fun _ _ _ => rfl⟩⟩
  | v :: vs, i, l, w, h, hb, h1 => by
    have hlt : o + i < l.length := by simp at hb; omega
    have hc : w.cell? ⟨b, o + i, none⟩ = some l[o + i] := cell_of (w := w) (ad := ⟨b, o + i, none⟩) h rfl (by simp [hlt])
    have hf : w.frozen? ⟨b, o + i, none⟩ = false := by simp [World.frozen?, h]
    have h' : (w.setCell ⟨b, o + i, none⟩ v).heap[b]? = some (.cells (l.set (o + i) v).toArray T (0, 0)) := by
      simp [World.setCell, Array.getElem?_modify, h]
    obtain ⟨w', hr, hh, hg⟩ := run_storeCells_obj (P := P) b o T vs (i + 1) (l.set (o + i) v) (w.setCell ⟨b, o + i, none⟩ v) h' (by simp at hb ⊢; omega) (fun u hu => h1 u (List.mem_cons_of_mem _ hu))
    refine ⟨w', ?_, ?_, ?_⟩
    · have hv := h1 v (List.mem_cons_self ..)
      simp only [storeCells, Sem.run_bind, store, Addr.add_lit]
      have : (Sem.store Mode.plain ⟨b, o + i, none⟩ v (Sem.pure ())).run P w = .ok () (w.setCell ⟨b, o + i, none⟩ v) := by
        cases v <;> first
          | (simp [Sem.run, hc, hf]; done)
          | simp [Value.oneCell'] at hv
      rw [this]
      simpa using hr
    · simpa [over, Nat.add_assoc] using hh
    · exact ⟨hg.os, hg.tape, hg.output, by have := hg.size; simpa [World.setCell] using this, fun k hk hne => by
        rw [hg.block k (by simpa [World.setCell] using hk) hne]
        exact Below.heap_setCell _ _ _ _ (by intro e; subst e; exact hne rfl)⟩

section
variable {x : Cx} {ops : Array Oper} {Q : Post} {rest : List Oper} {H : Hp} {M M' : List Res} {L L' : Env}
variable {ty : TypeId} {pos : String} {aft : Array Edge} {g : Option (Nat × Bool)}

/-- A store into an owned block, which stands first. -/
theorem W_store {T E : TypeId} {n : Nat} {y z : Operand} {b o : Nat} {l cs out : List Value} {v : Value} (hg : gd ops L ⟨none, .store T y z, ty, pos, aft, g⟩ = some true)
    (hn : ∀ w, (sizeOf T).run x.P w = .ok n w) (hy : ev L y = some (.pointer (some ⟨b, o, none⟩))) (hz : ev L z = some v) (hv : v.cells = cs.toArray) (hl : cs.length = n)
    (hb : Nat.ble (o + cs.length) l.length = true) (h1 : ∀ c ∈ cs, c.oneCell' = true) (ho : over l o cs = out)
    (k : W x ops Q rest H (.obj b (.cells out.toArray E (0, 0)) :: M) L) :
    W x ops Q (⟨none, .store T y z, ty, pos, aft, g⟩ :: rest) H (.obj b (.cells l.toArray E (0, 0)) :: M) L :=
  W_skip rfl hg (fun a w hs ht => by
    subst ho
    have hob := ht.obj_ok (List.mem_cons_self ..)
    obtain ⟨w', hr, hh, hgr⟩ := run_storeCells_obj (P := x.P) b o E cs 0 l w hob (by simpa [Nat.ble_eq] using hb) h1
    refine ⟨w', ?_, H, _, ht.upd (r' := .obj b (.cells (over l o cs).toArray E (0, 0))) hgr hh (fun c hc => .inl hc), k⟩
    simp [execOp, hs.ev hy, hs.ev hz, Instr.storeAt, Instr.sureAddr, storeVar, hn, hl, hv, hr])
theorem over_all {l cs : List Value} (h : Nat.beq cs.length l.length = true) : over l 0 cs = cs := by
  have h' : cs.length = l.length := Nat.eq_of_beq_eq_true h
  have key : ∀ (vs pre : List Value) (l : List Value), l.length = pre.length + vs.length → l.take pre.length = pre → over l pre.length vs = pre ++ vs := by
    intro vs
    induction vs with
    | nil => intro pre l h1 h2; simp at h1; simp only [over, List.append_nil]; rw [← h2, List.take_of_length_le (by omega)]
    | cons v vs ih =>
      intro pre l h1 h2
      simp only [List.length_cons] at h1
      have := ih (pre ++ [v]) (l.set pre.length v) (by simp; omega) (by
        simp only [List.length_append, List.length_singleton]
        rw [List.take_succ_eq_append_getElem (by simp; omega), List.take_set_of_le (Nat.le_refl _), h2]
        simp)
      simp only [over]
      simpa using this
  simpa using key cs [] l (by simpa using h'.symm) rfl
end

/-! ### Loops -/
theorem least {p : Nat → Prop} : ∀ n, p n → ∃ m, p m ∧ ∀ k, p k → m ≤ k := by
  intro n
  induction n using Nat.strongRecOn with
  | _ n ih =>
    intro h
    by_cases hh : ∃ m, m < n ∧ p m
    · obtain ⟨m, hm, hp⟩ := hh; exact ih m hm hp
    · exact ⟨n, h, fun k hk => by
        by_cases e : k < n
        · exact absurd ⟨k, e, hk⟩ hh
        · omega⟩

theorem wp_loopN {P : Program} {Q : Post} {c : Code} (J : Nat → Act → World → Prop) {n : Nat} {a : Act} {w : World} (h0 : J n a w)
    (round : ∀ n a w, J n a w → c.wp P (Exit.then (fun a' w' => ∃ m, m < n ∧ J m a' w') Q) a w) : (Code.loop c).wp P Q a w := by
  have hex : ∀ a w, (∃ n, J n a w) → ∃ m, J m a w ∧ ∀ k, J k a w → m ≤ k := fun a w ⟨n, h⟩ => least n h
  let μ : Act → World → Nat := fun a w => Classical.epsilon (fun m => J m a w ∧ ∀ k, J k a w → m ≤ k)
  have hμ : ∀ a w, (∃ n, J n a w) → J (μ a w) a w ∧ ∀ k, J k a w → μ a w ≤ k := fun a w h => Classical.epsilon_spec (p := fun m => J m a w ∧ ∀ k, J k a w → m ≤ k) (hex a w h)
  refine wp_loop (fun a w => ∃ n, J n a w) μ ⟨n, h0⟩ fun a w h => ?_
  refine wp_mono (round (μ a w) a w (hμ a w h).1) ?_
  intro e a' w' hq
  cases e with
  | normal =>
    obtain ⟨m, hm, hJ⟩ := hq
    exact ⟨⟨m, hJ⟩, Nat.lt_of_le_of_lt ((hμ a' w' ⟨m, hJ⟩).2 m hJ) hm⟩
  | _ => exact hq

/-- The states at a loop's head: a number that goes down, and the facts. -/
abbrev Heads := Nat → Hp → List Res → Env → Prop
def Back (x : Cx) (S : Heads) (n : Nat) (a : Act) (w : World) : Prop :=
  ∃ m, m < n ∧ ∃ H M L, S m H M L ∧ Sl x.N L a ∧ St x.B x.w0 H M w

theorem C_loop {x : Cx} {c : Code} {Q : Post} {H : Hp} {M : List Res} {L : Env} (S : Heads) (n : Nat) (h0 : S n H M L)
    (step : ∀ n H M L, S n H M L → C x c (Exit.then (Back x S n) Q) H M L) : C x (.loop c) Q H M L := by
  intro a w hs ht
  refine wp_loopN (fun n a w => ∃ H M L, S n H M L ∧ Sl x.N L a ∧ St x.B x.w0 H M w) ⟨H, M, L, h0, hs, ht⟩ ?_
  intro n a w ⟨H, M, L, h, hs, ht⟩
  exact step n H M L h a w hs ht

theorem E_back {x : Cx} {S : Heads} {Q : Post} {H : Hp} {M : List Res} {L : Env} {n m : Nat} (hm : m < n) (h : S m H M L) : E x .normal (Exit.then (Back x S n) Q) H M L :=
  fun _ _ hs ht => ⟨m, hm, H, M, L, h, hs, ht⟩

/-! ### The exits -/
section
variable {x : Cx} {Q : Post} {H : Hp} {M : List Res} {L : Env} {K : Act → World → Prop}
theorem E_ret_then (h : E x .ret Q H M L) : E x .ret (Exit.then K Q) H M L := h
theorem E_ret_block {id : Nat} (h : E x .ret Q H M L) : E x .ret (Exit.inBlock id Q) H M L := h
theorem E_exit_then {id : Nat} (h : E x (.exit id) Q H M L) : E x (.exit id) (Exit.then K Q) H M L := h
theorem E_exit_hit {id : Nat} (h : E x .normal Q H M L) : E x (.exit id) (Exit.inBlock id Q) H M L := fun a w hs ht => by
  simp only [Exit.inBlock, if_true]; exact h a w hs ht
theorem E_exit_miss {id id' : Nat} (hne : Nat.beq id id' = false) (h : E x (.exit id) Q H M L) : E x (.exit id) (Exit.inBlock id' Q) H M L := fun a w hs ht => by
  have : ¬ id = id' := fun e => by subst e; simp at hne
  simp only [Exit.inBlock, if_neg this]; exact h a w hs ht
theorem E_normal_block {id : Nat} (h : E x .normal Q H M L) : E x .normal (Exit.inBlock id Q) H M L := h
end

/-- The places where ways meet: what is known there. -/
abbrev Meet := Hp → List Res → Env → Prop
theorem C_seq_join {x : Cx} {c d : Code} {Q : Post} {H : Hp} {M : List Res} {L : Env} (S : Meet) (rest : ∀ H M L, S H M L → C x d Q H M L)
    (k : (∀ H M L, S H M L → E x .normal (Exit.then (d.wp x.P Q) Q) H M L) → C x c (Exit.then (d.wp x.P Q) Q) H M L) : C x (.seq c d) Q H M L :=
  C_seq (k fun H M L h => E_then (rest H M L h))
/-- A region's end where ways meet. -/
theorem E_join {x : Cx} {Q : Post} {e : Exit} {H : Hp} {M : List Res} {L : Env} (S : Meet) (rest : ∀ H M L, S H M L → E x e Q H M L) (h : S H M L) : E x e Q H M L := rest H M L h

/-! ### Ranges -/
theorem rng_t {α : Type} {xs ys : List α} {k : Nat} (h : xs.drop k = ys) (hb : decide ((k : Int) < (xs.length : Int)) = true) :
    ∃ y zs, ys = y :: zs ∧ xs[k]? = some y ∧ xs.drop (k + 1) = zs := by
  have hk : k < xs.length := by have := of_decide_eq_true hb; omega
  refine ⟨xs[k], xs.drop (k + 1), ?_, List.getElem?_eq_getElem hk, rfl⟩
  rw [← h, List.drop_eq_getElem_cons hk]
theorem rng_f {α : Type} {xs ys : List α} {k : Nat} (h : xs.drop k = ys) (hb : decide ((k : Int) < (xs.length : Int)) = false) : ys = [] := by
  have hk : xs.length ≤ k := by have := of_decide_eq_false hb; omega
  rw [← h, List.drop_eq_nil_of_le hk]
theorem i64_of {n : Int} (h0 : -9223372036854775808 ≤ n) (h1 : n ≤ 9223372036854775807) : IntKind.i64.wrap n = n := by
  simp only [IntKind.wrap, IntKind.bits, IntKind.signed, Bool.true_and]
  split <;> rename_i h <;> simp at h <;> omega
theorem i64_succ {α : Type} {xs : List α} {k : Nat} {y : α} (h : xs[k]? = some y) (hl : xs.length ≤ maxLen) : IntKind.i64.wrap ((k : Int) + 1) = ((k + 1 : Nat) : Int) := by
  have hk := (List.getElem?_eq_some_iff.1 h).1
  unfold maxLen at hl
  rw [i64_of (by omega) (by omega)]; rfl
theorem i64_succN {k n : Nat} (h : k < n) (hl : n ≤ maxLen) : IntKind.i64.wrap ((k : Int) + 1) = ((k + 1 : Nat) : Int) := by
  unfold maxLen at hl
  rw [i64_of (by omega) (by omega)]; rfl
theorem RdS.lenMax {α : Type} [Rep α] {H : Hp} {v : Value} {xs : List α} (h : RdS H v xs) : xs.length ≤ maxLen := by
  obtain ⟨a, c, _, h1, h2⟩ := h.len; omega

/-! ### A function's beginning and end -/
def envOf : Nat → List Value → Env
  | _, [] => []
  | i, v :: vs => (i, v) :: envOf (i + 1) vs

theorem envOf_get (N : Nat) : ∀ (vs : List Value) (i : Nat) (t : Nat) (v : Value) (pre : List Value), pre.length = i → lk (envOf i vs) t = some v →
    ((pre ++ vs).toArray ++ Array.replicate (N - (pre ++ vs).length) undef)[t]? = some v := by
  intro vs
  induction vs with
  | nil => intro i t v pre _ h; simp [envOf, lk] at h
  | cons u vs ih =>
    intro i t v pre hp h
    simp only [envOf, lk_cons] at h
    split at h
    · rename_i e; subst e; cases h
      simp [Array.getElem?_append, ← hp]
    · have := ih (i + 1) t v (pre ++ [u]) (by simp [hp]) h
      simpa using this

theorem enter {P : Program} {f : FuncId} {fn : Func} {c : Code} {vs : List Value} {N B : Nat} {w0 w : World} {H : Hp} {M : List Res} {Φ : Hp → List Res → Value → Prop}
    (hf : P.funcs[f]? = some fn) (hb : fn.body = some c) (hN : fn.ntmps = N) (hle : Nat.ble vs.length N = true) (ht : St B w0 H M w)
    (k : C ⟨P, N, B, w0⟩ c (bodyPost P fn (Ret B w0 Φ)) H M (envOf 0 vs)) : Calls P f vs.toArray w (Ret B w0 Φ) := by
  refine calls_of_wp hf hb (k _ w ⟨?_, rfl, ?_⟩ ht)
  · have : vs.length ≤ N := by simpa [Nat.ble_eq] using hle
    simp [hN]; omega
  · intro t v h
    have := envOf_get N vs 0 t v [] rfl h
    simpa [hN] using this

section
variable {P : Program} {N B : Nat} {w0 : World} {fn : Func} {Φ : Hp → List Res → Value → Prop} {H : Hp} {M : List Res} {L : Env}
theorem end1 {t : Nat} {v : Value} (hr : fn.results = #[.tmp t]) (hl : lk L t = some v) (h : Φ H M v) : E ⟨P, N, B, w0⟩ .ret (bodyPost P fn (Ret B w0 Φ)) H M L :=
  fun a w hs ht => ⟨hs.dfr, v, by rw [results_tmp hr]; simp [Array.getD_eq_getD_getElem?, hs.get t v hl], H, M, ht, h⟩
theorem end2 {t u : Nat} {v1 v2 : Value} (hr : fn.results = #[.tmp t, .tmp u]) (hl : lk L t = some v1) (hl2 : lk L u = some v2) (h : Φ H M (.tuple #[v1, v2])) : E ⟨P, N, B, w0⟩ .ret (bodyPost P fn (Ret B w0 Φ)) H M L :=
  fun a w hs ht => ⟨hs.dfr, .tuple #[v1, v2], by rw [results_tmp2 hr]; simp [Array.getD_eq_getD_getElem?, hs.get t v1 hl, hs.get u v2 hl2], H, M, ht, h⟩
end

/-! ### The models' combinators -/
section
variable {α σ R : Type}
def idx (l : List α) (i : Int) (k : α → Option R) : Option R :=
  if 0 ≤ i then match l[i.toNat]? with
    | some y => k y
    | none => none
  else none
theorem idx_some {l : List α} {i : Int} {k : α → Option R} {r : R} (h : idx l i k = some r) : ∃ y, 0 ≤ i ∧ l[i.toNat]? = some y ∧ k y = some r := by
  unfold idx at h
  split at h
  · cases hl : l[i.toNat]? with
    | none => rw [hl] at h; cases h
    | some y => rw [hl] at h; exact ⟨y, ‹_›, rfl, h⟩
  · cases h
/-- A check that must hold (else Go panics, or memory does not suffice). -/
def need (p : Prop) [Decidable p] (k : Option R) : Option R := if p then k else none
theorem need_some {p : Prop} [Decidable p] {k : Option R} {r : R} (h : need p k = some r) : p ∧ k = some r := by
  unfold need at h
  split at h
  · exact ⟨‹_›, h⟩
  · cases h
theorem bind_some {o : Option α} {k : α → Option R} {r : R} (h : o.bind k = some r) : ∃ y, o = some y ∧ k y = some r := by
  cases o with
  | none => cases h
  | some y => exact ⟨y, rfl, h⟩
theorem ite_t {b : Bool} {p q : Option R} {r : R} (hb : b = true) (h : (if b = true then p else q) = some r) : p = some r := by rw [if_pos hb] at h; exact h
theorem ite_f {b : Bool} {p q : Option R} {r : R} (hb : b = false) (h : (if b = true then p else q) = some r) : q = some r := by rw [if_neg (by simp [hb])] at h; exact h
/-- 'for range l': the body gets an element, the state and what to do next. -/
def forL (body : α → σ → (σ → Option R) → Option R) (k : σ → Option R) : List α → σ → Option R
  | [], s => k s
  | y :: ys, s => body y s (forL body k ys)
/-- 'for i := range l'. -/
def forI (body : Nat → α → σ → (σ → Option R) → Option R) (k : σ → Option R) : Nat → List α → σ → Option R
  | _, [], s => k s
  | i, y :: ys, s => body i y s (forI body k (i + 1) ys)
/-- 'for i := range n', n - i rounds to go. -/
def forN (body : Nat → σ → (σ → Option R) → Option R) (k : σ → Option R) : Nat → Nat → σ → Option R
  | 0, _, s => k s
  | n + 1, i, s => body i s (forN body k n (i + 1))
/-- 'for'. -/
def loopF (body : σ → (σ → Option R) → Option R) : Nat → σ → Option R
  | 0, _ => none
  | n + 1, s => body s (loopF body n)
def FUEL : Nat := 1152921504606846976
end
end Go.Sim
