/-
  Slices that the walk owns: rows; literals; append; what is owned becomes what only is read.
-/
import Derived.Test.YtfmhkgnbceoclaaSimF
namespace Go.Sim
open Go Go.RowKit

/-- Cells, one element's behind the other's, that read as a list. -/
def RdC {α : Type} [Rep α] (H : Hp) : List Value → List α → Prop
  | cs, [] => cs = []
  | cs, y :: ys => ∃ c r, cs = c ++ r ∧ Rep.E H c y ∧ RdC H r ys

section
variable {α : Type} [Rep α] {H H' : Hp}
theorem RdC.nil : RdC H [] ([] : List α) := rfl
theorem RdC.cons {c r : List Value} {y : α} {ys : List α} (h : Rep.E H c y) (k : RdC H r ys) : RdC H (c ++ r) (y :: ys) := ⟨c, r, rfl, h, k⟩
theorem RdC.mono (hle : H.le H') : ∀ {cs : List Value} {ys : List α}, RdC H cs ys → RdC H' cs ys
  | _, [], h => h
  | _, _ :: _, ⟨c, r, e, h, k⟩ => ⟨c, r, e, Rep.mono hle h, RdC.mono hle k⟩
theorem RdC.len : ∀ {cs : List Value} {ys : List α}, RdC H cs ys → cs.length = ys.length * Rep.sz α
  | _, [], h => by rw [show _ = [] from h]; simp
  | _, _ :: ys, ⟨c, r, e, h, k⟩ => by rw [e, List.length_append, Rep.len h, RdC.len k, List.length_cons, Nat.add_mul]; omega
theorem RdC.app : ∀ {cs ds : List Value} {ys zs : List α}, RdC H cs ys → RdC H ds zs → RdC H (cs ++ ds) (ys ++ zs)
  | _, ds, [], zs, h, k => by rw [show _ = [] from h]; simpa using k
  | _, ds, y :: ys, zs, ⟨c, r, e, h, k⟩, k2 => ⟨c, r ++ ds, by rw [e, List.append_assoc], h, RdC.app k k2⟩
theorem RdC.one : ∀ {cs : List Value} {ys : List α}, RdC H cs ys → ∀ c ∈ cs, c.oneCell' = true
  | _, [], h => by rw [show _ = [] from h]; simp
  | _, _ :: _, ⟨c, r, e, h, k⟩ => by
    intro d hd
    rw [e] at hd
    rcases List.mem_append.1 hd with hd | hd
    · exact Rep.one h d hd
    · exact RdC.one k d hd
theorem RdC.get : ∀ {cs : List Value} {ys : List α}, RdC H cs ys → ∀ k e, ys[k]? = some e → ∃ c, Rep.E H c e ∧ ∀ j v, c[j]? = some v → cs[k * Rep.sz α + j]? = some v
  | _, [], h, k, e, he => by simp at he
  | _, y :: ys, ⟨c, r, e, h, k⟩, 0, x, hx => by
    simp at hx; subst hx
    exact ⟨c, h, fun j v hv => by rw [e, Nat.zero_mul, Nat.zero_add, List.getElem?_append_left (List.getElem?_eq_some_iff.1 hv).1]; exact hv⟩
  | _, y :: ys, ⟨c, r, e, h, k⟩, n + 1, x, hx => by
    obtain ⟨d, h1, h2⟩ := RdC.get k n x (by simpa using hx)
    refine ⟨d, h1, fun j v hv => ?_⟩
    rw [e, List.getElem?_append_right (by rw [Rep.len h, Nat.add_mul]; omega), Rep.len h]
    rw [show (n + 1) * Rep.sz α + j - Rep.sz α = n * Rep.sz α + j from by rw [Nat.add_mul]; omega]
    exact h2 j v hv
theorem RdC.split : ∀ {cs : List Value} {ys : List α} (k : Nat), RdC H cs ys → RdC H (cs.take (k * Rep.sz α)) (ys.take k) ∧ RdC H (cs.drop (k * Rep.sz α)) (ys.drop k)
  | cs, ys, 0, h => by rw [Nat.zero_mul]; exact ⟨rfl, h⟩
  | _, [], k + 1, h => by rw [show _ = [] from h, List.take_nil, List.drop_nil, List.take_nil, List.drop_nil]; exact ⟨rfl, rfl⟩
  | _, y :: ys, k + 1, ⟨c, r, e, h, k2⟩ => by
    obtain ⟨h1, h2⟩ := RdC.split k k2
    have hl := Rep.len h
    subst e
    have e1 : (k + 1) * Rep.sz α = c.length + k * Rep.sz α := by rw [Nat.add_mul, hl]; omega
    rw [e1, List.take_length_add_append, List.drop_length_add_append]
    exact ⟨⟨c, _, rfl, h, h1⟩, h2⟩
theorem RdC.put {cs c : List Value} {ys : List α} {y : α} {k : Nat} (h : RdC H cs ys) (hk : k < ys.length) (hy : Rep.E H c y) :
    RdC H (cs.take (k * Rep.sz α) ++ c ++ cs.drop ((k + 1) * Rep.sz α)) (ys.set k y) := by
  obtain ⟨h1, _⟩ := h.split k
  obtain ⟨_, h2⟩ := h.split (k + 1)
  have : ys.set k y = ys.take k ++ y :: ys.drop (k + 1) := by rw [List.set_eq_take_append_cons_drop, if_pos hk]
  rw [this, List.append_assoc]
  exact h1.app (RdC.cons hy h2)

/-- The cells of a slice that reads, as one list. -/
theorem RdS.flat {v : Value} {ys : List α} (h : RdS H v ys) : ∃ cs, RdC H cs ys ∧ ((∃ a, v = .slice a 0 0) ∧ ys = [] ∨ HCells H (Value.base v) cs ∧ ∃ b off c, v = .slice (some ⟨b, off, none⟩) ys.length c) := by
  rcases h with ⟨⟨a, rfl⟩, rfl⟩ | ⟨b, off, cap, arr, T, fz, rfl, h2, h3, h4, h5, h6⟩
  · exact ⟨[], RdC.nil, .inl ⟨⟨a, rfl⟩, rfl⟩⟩
  · have key : ∀ (zs : List α) (k : Nat), (∀ j e, zs[j]? = some e → ∃ cs, Rep.E H cs e ∧ ∀ i c, cs[i]? = some c → arr[off + (k + j) * Rep.sz α + i]? = some c) →
        ∃ cs, RdC H cs zs ∧ ∀ i c, cs[i]? = some c → arr[off + k * Rep.sz α + i]? = some c := by
      intro zs
      induction zs with
      | nil => intro k _; exact ⟨[], RdC.nil, by simp⟩
      | cons z zs ih =>
        intro k hz
        obtain ⟨c, hc, hcc⟩ := hz 0 z rfl
        obtain ⟨r, hr, hrr⟩ := ih (k + 1) (fun j e he => by
          obtain ⟨cs, q1, q2⟩ := hz (j + 1) e (by simpa using he)
          exact ⟨cs, q1, fun i c hc => by rw [show k + 1 + j = k + (j + 1) from by omega]; exact q2 i c hc⟩)
        refine ⟨c ++ r, RdC.cons hc hr, fun i d hd => ?_⟩
        rw [List.getElem?_append] at hd
        split at hd
        · simpa using hcc i d hd
        · rename_i hn
          have := hrr _ d hd
          rw [Rep.len hc] at this hn
          rw [show off + k * Rep.sz α + i = off + (k + 1) * Rep.sz α + (i - Rep.sz α) from by rw [Nat.add_mul]; omega]
          exact this
    obtain ⟨cs, hcs, hh⟩ := key ys 0 (fun j e he => by simpa using h6 j e he)
    refine ⟨cs, hcs, .inr ⟨fun i c hc => ⟨arr, T, fz, ?_, ?_, ?_⟩, b, off, cap, rfl⟩⟩
    · simp only [Value.base, Addr.add_lit]; exact h4
    · simp only [Value.base, Addr.add_lit]
    · simp only [Value.base, Addr.add_lit]; simpa using hh i c hc
end

/-- A type's row in the program's table. -/
structure TyI (P : Program) (T : TypeId) (sz bytes : Nat) (z : Value) : Prop where
  ex : ∃ i, P.info? T = some i ∧ i.size = sz ∧ i.bytes = bytes ∧ i.zero = some z


/-- An owned row becomes memory that only is read. -/
theorem St.freezeRow {α : Type} [Rep α] {B : Nat} {w0 w : World} {H : Hp} {M : List Res} {v : Value} {T : TypeId} {n : Nat} {xs : List Value} {ys : List α}
    (h : St B w0 H (.row v T (Rep.sz α) n xs :: M) w) (hx : RdC H xs ys) (hs : 0 < Rep.sz α) : ∃ H', H.le H' ∧ St B w0 H' M w ∧ RdS H' v ys := by
  have hok := h.ok _ (List.mem_cons_self ..)
  obtain ⟨hl, hh⟩ := hok
  have hn : n = ys.length := by
    have := hx.len
    rw [hl] at this
    exact Nat.eq_of_mul_eq_mul_right hs this
  subst hn
  rcases hh with ⟨rfl, h0⟩ | ⟨g, off, cap, cur, rfl, hg, hnc, hcm, hcs, htake⟩
  · refine ⟨H, Hp.le_refl _, h.tail, .inl ⟨⟨_, rfl⟩, List.eq_nil_of_length_eq_zero h0⟩⟩
  · have h' : St B w0 H (.obj g (.cells cur T (0, 0)) :: M) w := by
      refine ⟨h.below, h.le, h.hin, ?_, ?_, h.nd⟩
      · intro r hr
        rcases List.mem_cons.1 hr with rfl | hr
        · exact hg
        · exact h.tail.ok r hr
      · intro r hr
        rcases List.mem_cons.1 hr with rfl | hr
        · exact h.lo (.row _ T (Rep.sz α) ys.length xs) (List.mem_cons_self ..)
        · exact h.tail.lo r hr
    obtain ⟨hle, hst⟩ := h'.freeze
    refine ⟨_, hle, hst, .inr ⟨g, off, cap, cur, T, (0, 0), rfl, hnc, hcm, Hp.add_self _ _ _, hcs, ?_⟩⟩
    intro k e he
    obtain ⟨c, h1, h2⟩ := (hx.mono hle).get k e he
    refine ⟨c, h1, fun j d hd => ?_⟩
    have := h2 j d hd
    rw [← htake, List.getElem?_take] at this
    split at this
    · rw [List.getElem?_drop] at this; simpa [Nat.add_assoc] using this
    · cases this

theorem over_eq : ∀ (vs l : List Value) (k : Nat), k + vs.length ≤ l.length → over l k vs = l.take k ++ vs ++ l.drop (k + vs.length)
  | [], l, k, _ => by simp [over]
  | v :: vs, l, k, h => by
    simp only [List.length_cons] at h
    rw [over, over_eq vs _ _ (by simp; omega)]
    have hk : k < l.length := by omega
    rw [List.take_succ_eq_append_getElem (by simpa using hk)]
    simp only [List.getElem_set_self, List.length_cons]
    rw [List.take_set_of_le (by omega), List.drop_set_of_lt (by omega)]
    simp only [List.append_assoc, List.cons_append, List.nil_append]
    rw [show k + 1 + vs.length = k + (vs.length + 1) from by omega]

/-- append to an owned slice, of cells that can be read. -/
theorem run_append_R {P : Program} {w : World} {t ty e : TypeId} {i : TypeInfo} {z : Value} {size bytes : Nat} (ht : P.underlying t = some (.slice e)) (hi : P.info? e = some i) (hz : i.zero = some z)
    (hsize : i.size = size) (hby : i.bytes = bytes) (hzs : z.cells.size = size) (hsz : 0 < size)
    {v : Value} {n : Nat} {xs : List Value} (hown : OwnsR w e size v n xs)
    {a : Addr} {m c : Nat} {news : List Value} (hl : news.length = m * size) (hnews : ∀ j u, news[j]? = some u → w.cell? (a.add j) = some u) (h1 : ∀ u ∈ news, u.oneCell' = true)
    (h63 : n + m ≤ maxLen) (hbytes : (n + m) * bytes ≤ 140737488355328) :
    ∃ v' w', (Builtin.append_ #[t, t] ty #[v, .slice (some a) m c]).run P w = .ok v' w' ∧ OwnsR w' e size v' (n + m) (xs ++ news) ∧ w.grownBy w' v.ownBlock ∧
      (∀ b, v'.ownBlock = some b → v.ownBlock = some b ∨ w.heap.size ≤ b) := by
  subst hsize
  subst hby
  have hsmall : n + m ≤ 9223372036854775807 := by simp only [maxLen] at h63; omega
  have hlen : (xs ++ news).length = (n + m) * i.size := by rw [List.length_append, hown.1, hl, Nat.add_mul]
  have grown : ∀ (old : Nat) (row : Option Nat),
      OwnsR (w.drew.alloc (.cells (xs.toArray ++ news.toArray ++ Builtin.zeroCells z.cells (grownCap w (n + m) old e - (n + m))) e)) e i.size
        (.slice (some ⟨w.heap.size, 0, none⟩) (n + m) (grownCap w (n + m) old e)) (n + m) (xs ++ news) ∧
      w.grownBy (w.drew.alloc (.cells (xs.toArray ++ news.toArray ++ Builtin.zeroCells z.cells (grownCap w (n + m) old e - (n + m))) e)) row := by
    intro old row
    have hge := grownCap_ge w (n + m) old e
    have hcm : grownCap w (n + m) old e ≤ maxLen := grownCap_le_maxLen w (n + m) old e h63
    refine ⟨⟨hlen, .inr ⟨w.heap.size, 0, _, _, rfl, heap_alloc_new w.drew _, hge, hcm, ?_, ?_⟩⟩, ⟨rfl, rfl, rfl, by simp, fun k hk _ => heap_alloc_old w.drew _ hk⟩⟩
    · simp only [Array.size_append, List.size_toArray, size_zeroCells, hzs, hown.1, hl, ← Nat.add_mul, Nat.zero_add]
      rw [show n + m + (grownCap w (n + m) old e - (n + m)) = grownCap w (n + m) old e from by omega]
      exact Nat.le_refl _
    · simp only [List.drop_zero, Array.toList_append, List.append_assoc]
      rw [← List.append_assoc, ← hlen]
      exact List.take_left
  rcases hown.2 with ⟨rfl, rfl⟩ | ⟨g, off, cap, cur, rfl, hg, hnc, hcm, hcs, htake⟩
  · have hx : xs = [] := List.eq_nil_of_length_eq_zero (by simpa using hown.1)
    subst hx
    by_cases hm : m = 0
    · subst hm
      have hn : news = [] := List.eq_nil_of_length_eq_zero (by simpa using hl)
      subst hn
      refine ⟨.slice none 0 0, w, ?_, OwnsR.nil w e i.size, ⟨rfl, rfl, rfl, Nat.le_refl _, fun _ _ _ => rfl⟩, by simp [Value.ownBlock]⟩
      simp [Builtin.append_, run_underlying ht, sizeOf, typeInfo, hi, Builtin.lenOf, Builtin.firstCells, loadCells, loadCellsFrom]
    · have hr := run_append_nil (P := P) w t ty e i z ht hi hz a m c news hl hnews (by omega) (by omega) (by have hb := hbytes; simp only [Nat.zero_add] at hb; omega)
      have hgr := grown 0 (Value.ownBlock (.slice none 0 0))
      simp only [Nat.zero_add, List.nil_append, Array.empty_append] at hgr ⊢
      exact ⟨_, _, hr, hgr.1, hgr.2, fun b hb => .inr (by simp only [Value.ownBlock, Option.some.injEq] at hb; omega)⟩
  · by_cases hroom : n + m ≤ cap
    · have hfit : off + n * i.size + news.length ≤ cur.size := by
        have : (n + m) * i.size ≤ cap * i.size := Nat.mul_le_mul_right _ hroom
        rw [Nat.add_mul] at this
        omega
      have hf := run_firstCells_some (P := P) w i.size m a m c news hl hnews
      obtain ⟨w', hst, hh, hgr⟩ := run_storeCells_obj (P := P) g (off + n * i.size) e news 0 cur.toList w (by simpa using hg) (by simpa using hfit) h1
      refine ⟨.slice (some ⟨g, off, none⟩) (n + m) cap, w', ?_, ⟨hlen, .inr ⟨g, off, cap, _, rfl, hh, hroom, hcm, ?_, ?_⟩⟩, hgr, fun b hb => .inl hb⟩
      · simp [Builtin.append_, run_underlying ht, sizeOf, typeInfo, hi, Builtin.lenOf, hroom, hf, Addr.add_lit, hst]
      · simpa [over_length] using hcs
      · rw [List.toList_toArray, Nat.add_zero, over_eq _ _ _ (by simpa using hfit)]
        have hd : (cur.toList.take (off + n * i.size)).drop off = xs := by rw [List.drop_take, Nat.add_sub_cancel_left]; exact htake
        rw [List.append_assoc, List.drop_append_of_le_length (by simp; omega), hd, ← List.append_assoc, ← hlen]
        exact List.take_left
    · have holds : ∀ j u, xs[j]? = some u → w.cell? ((⟨g, off, none⟩ : Addr).add j) = some u := by
        intro j u hu
        rw [Addr.add_lit]
        refine cell_of hg rfl ?_
        rw [← htake, List.getElem?_take] at hu
        split at hu
        · rw [List.getElem?_drop] at hu; simpa using hu
        · cases hu
      have hr := run_append_grow (P := P) w t ty e i z ht hi hz ⟨g, off, none⟩ n cap xs hown.1 holds a m c news hl hnews (by omega) (by omega) (growslice_fits (by omega) hbytes)
      have hgr := grown cap (Value.ownBlock (.slice (some ⟨g, off, none⟩) n cap))
      exact ⟨_, _, hr, hgr.1, hgr.2, fun b hb => .inr (by simp only [Value.ownBlock, Option.some.injEq] at hb; omega)⟩

section
variable {x : Cx} {ops : Array Oper} {Q : Post} {rest : List Oper} {H : Hp} {M M' : List Res} {L L' : Env}
variable {d : Nat} {ty : TypeId} {pos : String} {aft : Array Edge} {g : Option (Nat × Bool)}

theorem W_freeze {α : Type} [Rep α] {v : Value} {T : TypeId} {n : Nat} {xs : List Value} {ys : List α} (hx : RdC H xs ys) (hs : Nat.blt 0 (Rep.sz α) = true)
    (k : ∀ H', H.le H' → RdS H' v ys → W x ops Q rest H' M L) : W x ops Q rest H (.row v T (Rep.sz α) n xs :: M) L := by
  intro a w hsl ht
  obtain ⟨H', h1, h2, h3⟩ := ht.freezeRow hx (by simpa [Nat.blt_eq] using hs)
  exact k H' h1 h3 a w hsl h2
theorem E_freeze {α : Type} [Rep α] {e : Exit} {v : Value} {T : TypeId} {n : Nat} {xs : List Value} {ys : List α} (hx : RdC H xs ys) (hs : Nat.blt 0 (Rep.sz α) = true)
    (k : ∀ H', H.le H' → RdS H' v ys → E x e Q H' M L) : E x e Q H (.row v T (Rep.sz α) n xs :: M) L := by
  intro a w hsl ht
  obtain ⟨H', h1, h2, h3⟩ := ht.freezeRow hx (by simpa [Nat.blt_eq] using hs)
  exact k H' h1 h3 a w hsl h2
theorem C_freeze {α : Type} [Rep α] {c : Code} {v : Value} {T : TypeId} {n : Nat} {xs : List Value} {ys : List α} (hx : RdC H xs ys) (hs : Nat.blt 0 (Rep.sz α) = true)
    (k : ∀ H', H.le H' → RdS H' v ys → C x c Q H' M L) : C x c Q H (.row v T (Rep.sz α) n xs :: M) L := by
  intro a w hsl ht
  obtain ⟨H', h1, h2, h3⟩ := ht.freezeRow hx (by simpa [Nat.blt_eq] using hs)
  exact k H' h1 h3 a w hsl h2
theorem W_nilRow (T : TypeId) (sz : Nat) (k : W x ops Q rest H (.row (.slice none 0 0) T sz 0 [] :: M) L) : W x ops Q rest H M L :=
  fun a w hsl ht => k a w hsl (ht.nilRow T sz)
theorem E_nilRow {e : Exit} (T : TypeId) (sz : Nat) (k : E x e Q H (.row (.slice none 0 0) T sz 0 [] :: M) L) : E x e Q H M L :=
  fun a w hsl ht => k a w hsl (ht.nilRow T sz)
theorem C_nilRow {c : Code} (T : TypeId) (sz : Nat) (k : C x c Q H (.row (.slice none 0 0) T sz 0 [] :: M) L) : C x c Q H M L :=
  fun a w hsl ht => k a w hsl (ht.nilRow T sz)

/-- 'append(out, xs...)': out is owned and stands first; xs only is read. -/
theorem W_append {α : Type} [Rep α] {t e : TypeId} {bytes n : Nat} {z : Value} {y u : Operand} {v vu : Value} {xs : List Value} {l ys : List α}
    (hg : gd ops L ⟨some d, .call ⟨.builtin .append, #[y, u], #[t, t]⟩, ty, pos, aft, g⟩ = some true) (hN : Nat.blt d x.N = true)
    (hT : x.P.underlying t = some (.slice e)) (hi : TyI x.P e (Rep.sz α) bytes z) (hz : z.cells.size = Rep.sz α) (hs : Nat.blt 0 (Rep.sz α) = true) (hb0 : Nat.blt 0 bytes = true)
    (hy : ev L y = some v) (hu : ev L u = some vu) (hx : RdC H xs l) (hR : RdS H vu ys) (hb : (l.length + ys.length) * bytes ≤ 140737488355328)
    (k : ∀ v' n' xs', RdC H xs' (l ++ ys) → W x ops Q rest H (.row v' e (Rep.sz α) n' xs' :: M) ((d, v') :: L)) :
    W x ops Q (⟨some d, .call ⟨.builtin .append, #[y, u], #[t, t]⟩, ty, pos, aft, g⟩ :: rest) H (.row v e (Rep.sz α) n xs :: M) L := by
  obtain ⟨i, h1, h2, h3, h4⟩ := hi.ex
  have hs' : 0 < Rep.sz α := by simpa [Nat.blt_eq] using hs
  have hb0' : 0 < bytes := by simpa [Nat.blt_eq] using hb0
  have hmax : l.length + ys.length ≤ maxLen := by
    have : l.length + ys.length ≤ (l.length + ys.length) * bytes := Nat.le_mul_of_pos_right _ hb0'
    unfold maxLen; omega
  refine W_run rfl hg hN fun a w hsl ht => ?_
  have hown : OwnsR w e (Rep.sz α) v n xs := ht.ok _ (List.mem_cons_self ..)
  have hn : n = l.length := by
    have := hx.len
    rw [hown.1] at this
    exact Nat.eq_of_mul_eq_mul_right hs' this
  subst hn
  obtain ⟨cs, hcs, hcase⟩ := hR.flat
  rcases hcase with ⟨⟨ea, rfl⟩, rfl⟩ | ⟨hc, b, off, c, rfl⟩
  · have hcs' : cs = [] := hcs
    subst hcs'
    refine ⟨v, w, ?_, H, _, ht, k v _ xs (by simpa using hx)⟩
    rcases hown.2 with ⟨rfl, h0⟩ | ⟨g, off, cap, cur, rfl, hg2, hnc, _⟩ <;> cases ea
    · simp [execOp, resolve, invoke, builtin, hsl.ev hy, hsl.ev hu, Builtin.append_, run_underlying hT, sizeOf, typeInfo, h1, Builtin.lenOf, Builtin.firstCells]
    · simp [execOp, resolve, invoke, builtin, hsl.ev hy, hsl.ev hu, Builtin.append_, run_underlying hT, sizeOf, typeInfo, h1, Builtin.lenOf, Builtin.firstCells, loadCells, loadCellsFrom]
    · simp [execOp, resolve, invoke, builtin, hsl.ev hy, hsl.ev hu, Builtin.append_, run_underlying hT, sizeOf, typeInfo, h1, Builtin.lenOf, Builtin.firstCells, storeCells, hnc]
    · simp [execOp, resolve, invoke, builtin, hsl.ev hy, hsl.ev hu, Builtin.append_, run_underlying hT, sizeOf, typeInfo, h1, Builtin.lenOf, Builtin.firstCells, storeCells, hnc, loadCells, loadCellsFrom]
  · obtain ⟨v', w', hr, ho, hgr, hfr⟩ := run_append_R (P := x.P) (ty := ty) hT h1 h4 h2 h3 hz hs' hown (a := ⟨b, off, none⟩) (m := ys.length) (c := c) (news := cs) hcs.len
      (fun j u hu => ((hc j u hu).at (x := x) (M := .row v e (Rep.sz α) l.length xs :: M)) w ht) hcs.one hmax hb
    refine ⟨v', w', ?_, H, _, ht.upd (r' := .row v' e (Rep.sz α) (l.length + ys.length) (xs ++ cs)) hgr ho hfr, k v' _ _ (hx.app hcs)⟩
    simp [execOp, resolve, invoke, builtin, hsl.ev hy, hsl.ev hu, hr]
end
end Go.Sim
