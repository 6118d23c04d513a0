/-
  Owned rows: slices that a function made and may change.
-/
import Derived.Test.YtfmhkgnbceoclaaSimH
namespace Go.Sim
open Go Go.RowKit
set_option linter.unusedVariables false
set_option linter.unusedSimpArgs false
set_option linter.unusedSectionVars false
set_option linter.unnecessarySimpa false

/-- What is known of an owned row: its cells read as a list; its value takes one cell. -/
structure Rw {α : Type} [Rep α] (H : Hp) (v : Value) (xs : List Value) (l : List α) : Prop where
  rd : RdC H xs l
  sl : ∃ a n c, v = .slice a n c

section
variable {α : Type} [Rep α] {H H' : Hp} {v : Value} {xs : List Value} {l : List α}
theorem Rw.mono (hle : H.le H') (h : Rw H v xs l) : Rw H' v xs l := ⟨h.rd.mono hle, h.sl⟩
theorem Rw.one (h : Rw H v xs l) : v.oneCell' = true := by obtain ⟨a, n, c, rfl⟩ := h.sl; rfl
theorem Rw.cells (h : Rw H v xs l) : v.cells = [v].toArray := by obtain ⟨a, n, c, rfl⟩ := h.sl; rfl
theorem Rw.nil : Rw H (.slice none 0 0) [] ([] : List α) := ⟨rfl, _, _, _, rfl⟩
/-- An element of a row. -/
theorem Rw.elem (h : Rw H v xs l) {k : Nat} {e : α} (he : l[k]? = some e) : ∃ c, Rep.E H c e ∧ ∀ j u, c[j]? = some u → xs[k * Rep.sz α + j]? = some u := h.rd.get k e he

theorem over_get (vs : List Value) : ∀ (l : List Value) (k j : Nat), k + vs.length ≤ l.length → (over l k vs)[j]? = if k ≤ j ∧ j < k + vs.length then vs[j - k]? else l[j]? := by
  intro l k j h
  rw [over_eq vs l k h, List.append_assoc, List.getElem?_append]
  simp only [List.length_take, Nat.min_eq_left (show k ≤ l.length by omega)]
  by_cases h1 : j < k
  · rw [if_pos h1, if_neg (by omega), List.getElem?_take, if_pos h1]
  · rw [if_neg h1, List.getElem?_append]
    by_cases h2 : j - k < vs.length
    · rw [if_pos h2, if_pos (by omega)]
    · rw [if_neg h2, if_neg (by omega), List.getElem?_drop]
      congr 1; omega

/-- A part of an element is written anew. -/
theorem Rw.put {c cs out : List Value} {k o : Nat} {e e2 : α} (h : Rw H v xs l) (he : l[k]? = some e) (hc : Rep.E H c e) (hg : ∀ j u, c[j]? = some u → xs[k * Rep.sz α + j]? = some u)
    (hb : Nat.ble (o + cs.length) c.length = true) (ho : over c o cs = out) (hE : Rep.E H out e2) :
    Rw H v (over xs (k * Rep.sz α + o) cs) (l.set k e2) ∧ (l.set k e2)[k]? = some e2 ∧ ∀ j u, out[j]? = some u → (over xs (k * Rep.sz α + o) cs)[k * Rep.sz α + j]? = some u := by
  have hk : k < l.length := (List.getElem?_eq_some_iff.1 he).1
  have hlen := h.rd.len
  have hcl := Rep.len hc
  have hb' : o + cs.length ≤ c.length := by simpa [Nat.ble_eq] using hb
  have hkk : (k + 1) * Rep.sz α ≤ l.length * Rep.sz α := Nat.mul_le_mul_right _ hk
  rw [Nat.add_mul, Nat.one_mul] at hkk
  have hin : k * Rep.sz α + o + cs.length ≤ xs.length := by omega
  have key : over xs (k * Rep.sz α + o) cs = xs.take (k * Rep.sz α) ++ out ++ xs.drop ((k + 1) * Rep.sz α) := by
    apply List.ext_getElem?
    intro j
    rw [over_get _ _ _ _ hin, List.append_assoc, List.getElem?_append]
    simp only [List.length_take, Nat.min_eq_left (show k * Rep.sz α ≤ xs.length by omega)]
    have hol : out.length = Rep.sz α := by rw [← ho, over_length, hcl]
    by_cases h1 : j < k * Rep.sz α
    · rw [if_pos h1, if_neg (by omega), List.getElem?_take, if_pos h1]
    · rw [if_neg h1, List.getElem?_append, hol]
      by_cases h2 : j - k * Rep.sz α < Rep.sz α
      · rw [if_pos h2, ← ho, over_get _ _ _ _ hb']
        by_cases h3 : k * Rep.sz α + o ≤ j ∧ j < k * Rep.sz α + o + cs.length
        · rw [if_pos h3, if_pos (by omega)]; congr 1; omega
        · rw [if_neg h3, if_neg (by omega)]
          have hj : j - k * Rep.sz α < c.length := by omega
          have := hg (j - k * Rep.sz α) _ (List.getElem?_eq_getElem hj)
          rw [List.getElem?_eq_getElem hj, ← this]; congr 1; omega
      · rw [if_neg h2, if_neg (by omega), List.getElem?_drop]
        congr 1; rw [Nat.add_mul]; omega
  refine ⟨⟨?_, h.sl⟩, by simp [hk], fun j u hu => ?_⟩
  · rw [key]; exact h.rd.put hk hE
  · have hj : j < out.length := (List.getElem?_eq_some_iff.1 hu).1
    have hol : out.length = Rep.sz α := by rw [← ho, over_length, hcl]
    rw [key, List.append_assoc, List.getElem?_append_right (by simp; omega), List.getElem?_append_left (by simp; omega)]
    simp only [List.length_take, Nat.min_eq_left (show k * Rep.sz α ≤ xs.length by omega)]
    rw [show k * Rep.sz α + j - k * Rep.sz α = j by omega]; exact hu
end

section
variable {x : Cx} {ops : Array Oper} {Q : Post} {rest : List Oper} {H : Hp} {M M' : List Res} {L L' : Env}
variable {d : Nat} {ty : TypeId} {pos : String} {aft : Array Edge} {g : Option (Nat × Bool)}

theorem row_at {v : Value} {T : TypeId} {sz n i : Nat} {xs : List Value} {c : Value} (hm : Res.row v T sz n xs ∈ M) (hc : xs[i]? = some c) : CellAt x H M ((Value.base v).add i) c := by
  intro w ht
  have hok : OwnsR w T sz v n xs := ht.ok _ hm
  have hi := (List.getElem?_eq_some_iff.1 hc).1
  rcases hok.2 with ⟨rfl, h0⟩ | ⟨gb, off, cap, cur, rfl, hg, hnc, hcm, hcs, htake⟩
  · exfalso
    have := hok.1
    subst h0
    simp at this; subst this
    simp at hc
  · rw [show Value.base (Value.slice (some ⟨gb, off, none⟩) n cap) = ⟨gb, off, none⟩ from rfl, Addr.add_lit]
    refine cell_of hg rfl ?_
    rw [← htake, List.getElem?_take] at hc
    split at hc
    · rw [List.getElem?_drop] at hc; simpa using hc
    · cases hc
theorem add_add (a : Addr) (i j : Nat) : (a.add i).add j = a.add (i + j) := by
  unfold Addr.add
  by_cases h1 : i = 0 <;> by_cases h2 : j = 0 <;> simp [h1, h2, Nat.add_assoc]
theorem row_cells {v : Value} {T : TypeId} {sz n i : Nat} {xs cs : List Value} (hm : Res.row v T sz n xs ∈ M) (hc : ∀ j u, cs[j]? = some u → xs[i + j]? = some u) : CellsAt x H M ((Value.base v).add i) cs := by
  intro j c hj
  rw [add_add]
  exact row_at hm (hc j c hj)
theorem row_part {v : Value} {T : TypeId} {sz n i o : Nat} {xs cs ds : List Value} (hm : Res.row v T sz n xs ∈ M) (hc : ∀ j u, cs[j]? = some u → xs[i + j]? = some u) (hd : (cs.drop o).take ds.length = ds) :
    CellsAt x H M (((Value.base v).add i).add o) ds := by
  rw [add_add]
  refine row_cells hm fun j u hu => ?_
  rw [Nat.add_assoc]
  refine hc _ u ?_
  rw [← hd, List.getElem?_take] at hu
  split at hu
  · rw [List.getElem?_drop] at hu; exact hu
  · cases hu
theorem row_one {v : Value} {T : TypeId} {sz n i o : Nat} {xs cs : List Value} {c : Value} (hm : Res.row v T sz n xs ∈ M) (hc : ∀ j u, cs[j]? = some u → xs[i + j]? = some u) (hd : cs[o]? = some c) :
    CellAt x H M (((Value.base v).add i).add o) c := by
  rw [add_add]; exact row_at hm (hc o c hd)
theorem row_one0 {v : Value} {T : TypeId} {sz n i : Nat} {xs cs : List Value} {c : Value} (hm : Res.row v T sz n xs ∈ M) (hc : ∀ j u, cs[j]? = some u → xs[i + j]? = some u) (hd : cs[0]? = some c) :
    CellAt x H M ((Value.base v).add i) c := row_at hm (hc 0 c hd)

theorem W_lenO {v : Value} {T : TypeId} {sz n : Nat} {xs : List Value} {t e : TypeId} {y : Operand} (hm : Res.row v T sz n xs ∈ M) (hg : gd ops L ⟨some d, .call ⟨.builtin .len, #[y], #[t]⟩, ty, pos, aft, g⟩ = some true) (hN : Nat.blt d x.N = true)
    (hT : ∀ w, (underlying t).run x.P w = .ok (.slice e) w) (hy : ev L y = some v) (k : W x ops Q rest H M ((d, .int .i64 n) :: L)) :
    W x ops Q (⟨some d, .call ⟨.builtin .len, #[y], #[t]⟩, ty, pos, aft, g⟩ :: rest) H M L :=
  W_pure rfl hg hN (fun c w hs ht => by
    have hok : OwnsR w T sz v n xs := ht.ok _ hm
    rcases hok.2 with ⟨rfl, rfl⟩ | ⟨gb, off, cap, cur, rfl, _⟩ <;>
      simp [execOp, resolve, invoke, builtin, hs.ev hy, Builtin.len_, hT, goInt]) k

theorem W_indexO {v : Value} {T : TypeId} {sz n : Nat} {xs : List Value} {t e : TypeId} {y z : Operand} {kk : IntKind} {i : Int} (hm : Res.row v T sz n xs ∈ M)
    (hg : gd ops L ⟨some d, .indexAddr t y z, ty, pos, aft, g⟩ = some true) (hN : Nat.blt d x.N = true)
    (hT : ∀ w, (underlying t).run x.P w = .ok (.slice e) w) (hs : ∀ w, (sizeOf e).run x.P w = .ok sz w)
    (hy : ev L y = some v) (hz : ev L z = some (.int kk i)) (h0 : 0 ≤ i) (h1 : i.toNat < n)
    (k : W x ops Q rest H M ((d, .pointer (some ((Value.base v).add (i.toNat * sz)))) :: L)) :
    W x ops Q (⟨some d, .indexAddr t y z, ty, pos, aft, g⟩ :: rest) H M L :=
  W_pure rfl hg hN (fun c w hsl ht => by
    have h1' : i < (n : Int) := by omega
    have hok : OwnsR w T sz v n xs := ht.ok _ hm
    rcases hok.2 with ⟨rfl, rfl⟩ | ⟨gb, off, cap, cur, rfl, _⟩
    · omega
    · simp [execOp, hsl.ev hy, hsl.ev hz, Instr.indexAt, asIntOf, hT, hs, h0, h1', Value.base]) k

/-- A store into an owned row, which stands first. -/
theorem W_storeO {T E : TypeId} {m sz n i : Nat} {y z : Operand} {v u : Value} {ad : Addr} {xs cs : List Value} (hg : gd ops L ⟨none, .store T y z, ty, pos, aft, g⟩ = some true)
    (hn : ∀ w, (sizeOf T).run x.P w = .ok m w) (hy : ev L y = some (.pointer (some ad))) (had : ad = (Value.base v).add i) (hz : ev L z = some u) (hv : u.cells = cs.toArray) (hl : cs.length = m)
    (hb : i + cs.length ≤ xs.length) (hpos : Nat.blt 0 cs.length = true) (h1 : ∀ c ∈ cs, c.oneCell' = true)
    (k : W x ops Q rest H (.row v E sz n (over xs i cs) :: M) L) :
    W x ops Q (⟨none, .store T y z, ty, pos, aft, g⟩ :: rest) H (.row v E sz n xs :: M) L :=
  W_skip rfl hg (fun a w hs ht => by
    subst had
    have hok : OwnsR w E sz v n xs := ht.ok _ (List.mem_cons_self ..)
    have hpos' : 0 < cs.length := by simpa [Nat.blt_eq] using hpos
    rcases hok.2 with ⟨rfl, rfl⟩ | ⟨gb, off, cap, cur, rfl, hgb, hnc, hcm, hcs, htake⟩
    · have h0 := hok.1; rw [Nat.zero_mul] at h0; omega
    · have hmul : n * sz ≤ cap * sz := Nat.mul_le_mul_right _ hnc
      have hxl := hok.1
      obtain ⟨w', hr, hh, hgr⟩ := run_storeCells_obj (P := x.P) gb (off + i) E cs 0 cur.toList w (by simpa using hgb) (by simp; omega) h1
      refine ⟨w', ?_, H, _, ht.upd (r' := .row (.slice (some ⟨gb, off, none⟩) n cap) E sz n (over xs i cs)) hgr ?_ (fun c hc => .inl hc), k⟩
      · simp [execOp, hs.ev hy, hs.ev hz, Instr.storeAt, Instr.sureAddr, storeVar, hn, hl, hv, Value.base, Addr.add_lit, hr]
      · refine ⟨by rw [over_length]; exact hxl, .inr ⟨gb, off, cap, _, rfl, hh, hnc, hcm, by simpa [over_length] using hcs, ?_⟩⟩
        rw [List.toList_toArray, Nat.add_zero]
        apply List.ext_getElem?
        intro j
        rw [List.getElem?_take, List.getElem?_drop, over_get _ _ _ _ (by simp; omega), over_get _ _ _ _ hb, ← htake, List.getElem?_take, List.getElem?_drop]
        by_cases hj : j < n * sz
        · simp only [if_pos hj]
          by_cases h3 : i ≤ j ∧ j < i + cs.length
          · rw [if_pos h3, if_pos (by omega)]; congr 1; omega
          · rw [if_neg h3, if_neg (by omega)]
        · simp only [if_neg hj]
          rw [if_neg (by omega)])
end
end Go.Sim
