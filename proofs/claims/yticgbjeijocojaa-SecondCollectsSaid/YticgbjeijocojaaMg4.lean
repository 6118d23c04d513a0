/-
  Slices that the walk owns: rows; literals; append; what is owned becomes what only is read.
  Struct literals and slice literals.
  Owned rows: slices that a function made and may change.
  Owned rows: how they are made, cut and lengthened.
  Owned rows: appending to a full slice that only is read; slice literals that are owned.
  Strings: their bytes, parts, joins.
  What is lent for the time of a call comes back; function values; shifts; strings.
-/
import Derived.Test.YticgbjeijocojaaMg3
import Derived.Conc.AppendWalk
set_option linter.unusedVariables false
set_option linter.unusedSimpArgs false
section
set_option linter.unusedSimpArgs false
set_option linter.unusedVariables false
namespace Go.Sim
open Go Go.RowKit Go.Conc

/-- Cells, one element's behind the other's, that read as a list. -/
def RdC {α : Type} [Rep α] (H : Hp) : List Value → List α → Prop
  | cs, [] => cs = []
  | cs, y :: ys => ∃ c r, cs = c ++ r ∧ Rep.E H c y ∧ RdC H r ys

section
variable {α : Type} [Rep α] {H H' : Hp}
theorem RdC.nil : RdC H [] ([] : List α) := rfl
theorem RdC.cons {c r : List Value} {y : α} {ys : List α} (h : Rep.E H c y) (k : RdC H r ys) : RdC H (c ++ r) (y :: ys) := ⟨c, r, rfl, h, k⟩
theorem RdC.mono (hle : H.le H') : ∀ {cs : List Value} {ys : List α}, RdC H cs ys → RdC H' cs ys
  | _, [], h => h
  | _, _ :: _, ⟨c, r, e, h, k⟩ => ⟨c, r, e, Rep.mono hle h, RdC.mono hle k⟩
theorem RdC.len : ∀ {cs : List Value} {ys : List α}, RdC H cs ys → cs.length = ys.length * Rep.sz α
  | _, [], h => by rw [show _ = [] from h]; simp
  | _, _ :: ys, ⟨c, r, e, h, k⟩ => by rw [e, List.length_append, Rep.len h, RdC.len k, List.length_cons, Nat.add_mul]; omega
theorem RdC.app : ∀ {cs ds : List Value} {ys zs : List α}, RdC H cs ys → RdC H ds zs → RdC H (cs ++ ds) (ys ++ zs)
  | _, ds, [], zs, h, k => by rw [show _ = [] from h]; simpa using k
  | _, ds, y :: ys, zs, ⟨c, r, e, h, k⟩, k2 => ⟨c, r ++ ds, by rw [e, List.append_assoc], h, RdC.app k k2⟩
theorem RdC.one : ∀ {cs : List Value} {ys : List α}, RdC H cs ys → ∀ c ∈ cs, c.oneCell' = true
  | _, [], h => by rw [show _ = [] from h]; simp
  | _, _ :: _, ⟨c, r, e, h, k⟩ => by
    intro d hd
    rw [e] at hd
    rcases List.mem_append.1 hd with hd | hd
    · exact Rep.one h d hd
    · exact RdC.one k d hd
theorem RdC.get : ∀ {cs : List Value} {ys : List α}, RdC H cs ys → ∀ k e, ys[k]? = some e → ∃ c, Rep.E H c e ∧ ∀ j v, c[j]? = some v → cs[k * Rep.sz α + j]? = some v
  | _, [], h, k, e, he => by simp at he
  | _, y :: ys, ⟨c, r, e, h, k⟩, 0, x, hx => by
    simp at hx; subst hx
    exact ⟨c, h, fun j v hv => by rw [e, Nat.zero_mul, Nat.zero_add, List.getElem?_append_left (List.getElem?_eq_some_iff.1 hv).1]; exact hv⟩
  | _, y :: ys, ⟨c, r, e, h, k⟩, n + 1, x, hx => by
    obtain ⟨d, h1, h2⟩ := RdC.get k n x (by simpa using hx)
    refine ⟨d, h1, fun j v hv => ?_⟩
    rw [e, List.getElem?_append_right (by rw [Rep.len h, Nat.add_mul]; omega), Rep.len h]
    rw [show (n + 1) * Rep.sz α + j - Rep.sz α = n * Rep.sz α + j from by rw [Nat.add_mul]; omega]
    exact h2 j v hv
theorem RdC.split : ∀ {cs : List Value} {ys : List α} (k : Nat), RdC H cs ys → RdC H (cs.take (k * Rep.sz α)) (ys.take k) ∧ RdC H (cs.drop (k * Rep.sz α)) (ys.drop k)
  | cs, ys, 0, h => by rw [Nat.zero_mul]; exact ⟨rfl, h⟩
  | _, [], k + 1, h => by rw [show _ = [] from h, List.take_nil, List.drop_nil, List.take_nil, List.drop_nil]; exact ⟨rfl, rfl⟩
  | _, y :: ys, k + 1, ⟨c, r, e, h, k2⟩ => by
    obtain ⟨h1, h2⟩ := RdC.split k k2
    have hl := Rep.len h
    subst e
    have e1 : (k + 1) * Rep.sz α = c.length + k * Rep.sz α := by rw [Nat.add_mul, hl]; omega
    rw [e1, List.take_length_add_append, List.drop_length_add_append]
    exact ⟨⟨c, _, rfl, h, h1⟩, h2⟩
theorem RdC.put {cs c : List Value} {ys : List α} {y : α} {k : Nat} (h : RdC H cs ys) (hk : k < ys.length) (hy : Rep.E H c y) :
    RdC H (cs.take (k * Rep.sz α) ++ c ++ cs.drop ((k + 1) * Rep.sz α)) (ys.set k y) := by
  obtain ⟨h1, _⟩ := h.split k
  obtain ⟨_, h2⟩ := h.split (k + 1)
  have : ys.set k y = ys.take k ++ y :: ys.drop (k + 1) := by rw [List.set_eq_take_append_cons_drop, if_pos hk]
  rw [this, List.append_assoc]
  exact h1.app (RdC.cons hy h2)

/-- The cells of a slice that reads, as one list. -/
theorem RdS.flat {v : Value} {ys : List α} (h : RdS H v ys) : ∃ cs, RdC H cs ys ∧ ((∃ a, v = .slice a 0 0) ∧ ys = [] ∨ HCells H (Value.base v) cs ∧ ∃ b off c, v = .slice (some ⟨b, off, none⟩) ys.length c) := by
  rcases h with ⟨⟨a, rfl⟩, rfl⟩ | ⟨b, off, cap, arr, T, fz, rfl, h2, h3, h4, h5, h6⟩
  · exact ⟨[], RdC.nil, .inl ⟨⟨a, rfl⟩, rfl⟩⟩
  · have key : ∀ (zs : List α) (k : Nat), (∀ j e, zs[j]? = some e → ∃ cs, Rep.E H cs e ∧ ∀ i c, cs[i]? = some c → arr[off + (k + j) * Rep.sz α + i]? = some c) →
        ∃ cs, RdC H cs zs ∧ ∀ i c, cs[i]? = some c → arr[off + k * Rep.sz α + i]? = some c := by
      intro zs
      induction zs with
      | nil => intro k _; exact ⟨[], RdC.nil, by simp⟩
      | cons z zs ih =>
        intro k hz
        obtain ⟨c, hc, hcc⟩ := hz 0 z rfl
        obtain ⟨r, hr, hrr⟩ := ih (k + 1) (fun j e he => by
          obtain ⟨cs, q1, q2⟩ := hz (j + 1) e (by simpa using he)
          exact ⟨cs, q1, fun i c hc => by rw [show k + 1 + j = k + (j + 1) from by omega]; exact q2 i c hc⟩)
        refine ⟨c ++ r, RdC.cons hc hr, fun i d hd => ?_⟩
        rw [List.getElem?_append] at hd
        split at hd
        · simpa using hcc i d hd
        · rename_i hn
          have := hrr _ d hd
          rw [Rep.len hc] at this hn
          rw [show off + k * Rep.sz α + i = off + (k + 1) * Rep.sz α + (i - Rep.sz α) from by rw [Nat.add_mul]; omega]
          exact this
    obtain ⟨cs, hcs, hh⟩ := key ys 0 (fun j e he => by simpa using h6 j e he)
    refine ⟨cs, hcs, .inr ⟨fun i c hc => ⟨arr, T, fz, ?_, ?_, ?_⟩, b, off, cap, rfl⟩⟩
    · simp only [Value.base, Addr.add_lit]; exact h4
    · simp only [Value.base, Addr.add_lit]
    · simp only [Value.base, Addr.add_lit]; simpa using hh i c hc
end

/-- A type's row in the program's table. -/
structure TyI (P : Program) (T : TypeId) (sz bytes : Nat) (z : Value) : Prop where
  ex : ∃ i, P.info? T = some i ∧ i.size = sz ∧ i.bytes = bytes ∧ i.zero = some z


/-- An owned row becomes memory that only is read. -/
theorem St.freezeRow {α : Type} [Rep α] {B : Nat} {P : Program} {w0 : Bs P} {w : World} {H : Hp} {M : List Res} {v : Value} {T : TypeId} {n : Nat} {xs : List Value} {ys : List α}
    (h : St B w0 H (.row v T (Rep.sz α) n xs :: M) w) (hx : RdC H xs ys) (hs : 0 < Rep.sz α) : ∃ H', H.le H' ∧ St B w0 H' M w ∧ RdS H' v ys := by
  have hok := h.ok _ (List.mem_cons_self ..)
  obtain ⟨hl, hh⟩ := hok
  have hn : n = ys.length := by
    have := hx.len
    rw [hl] at this
    exact Nat.eq_of_mul_eq_mul_right hs this
  subst hn
  rcases hh with ⟨rfl, h0⟩ | ⟨g, off, cap, cur, rfl, hg, hnc, hcm, hcs, htake⟩
  · refine ⟨H, Hp.le_refl _, h.tail, .inl ⟨⟨_, rfl⟩, List.eq_nil_of_length_eq_zero h0⟩⟩
  · have h' : St B w0 H (.obj g (.cells cur T (0, 0)) :: M) w := by
      refine ⟨h.below, h.le, h.hin, ?_, ?_, h.nd, h.kin, ?_, h.rlow⟩
      · intro r hr
        rcases List.mem_cons.1 hr with rfl | hr
        · exact hg
        · exact h.tail.ok r hr
      · intro r hr
        rcases List.mem_cons.1 hr with rfl | hr
        · exact h.lo (.row _ T (Rep.sz α) ys.length xs) (List.mem_cons_self ..)
        · exact h.tail.lo r hr
      · intro r hr
        rcases List.mem_cons.1 hr with rfl | hr
        · exact h.kown (.row _ T (Rep.sz α) ys.length xs) (List.mem_cons_self ..)
        · exact h.tail.kown r hr
    obtain ⟨hle, hst⟩ := h'.freeze
    refine ⟨_, hle, hst, .inr ⟨g, off, cap, cur, T, (0, 0), rfl, hnc, hcm, Hp.add_self _ _ _, hcs, ?_⟩⟩
    intro k e he
    obtain ⟨c, h1, h2⟩ := (hx.mono hle).get k e he
    refine ⟨c, h1, fun j d hd => ?_⟩
    have := h2 j d hd
    rw [← htake, List.getElem?_take] at this
    split at this
    · rw [List.getElem?_drop] at this; simpa [Nat.add_assoc] using this
    · cases this

theorem over_eq : ∀ (vs l : List Value) (k : Nat), k + vs.length ≤ l.length → over l k vs = l.take k ++ vs ++ l.drop (k + vs.length)
  | [], l, k, _ => by simp [over]
  | v :: vs, l, k, h => by
    simp only [List.length_cons] at h
    rw [over, over_eq vs _ _ (by simp; omega)]
    have hk : k < l.length := by omega
    rw [List.take_succ_eq_append_getElem (by simpa using hk)]
    simp only [List.getElem_set_self, List.length_cons]
    rw [List.take_set_of_le (by omega), List.drop_set_of_lt (by omega)]
    simp only [List.append_assoc, List.cons_append, List.nil_append]
    rw [show k + 1 + vs.length = k + (vs.length + 1) from by omega]

/-- append to an owned slice, of cells that can be read. -/
theorem run_append_R {P : Program} {w : World} {t ty e : TypeId} {i : TypeInfo} {z : Value} {size bytes : Nat} (ht : P.underlying t = some (.slice e)) (hi : P.info? e = some i) (hz : i.zero = some z)
    (hsize : i.size = size) (hby : i.bytes = bytes) (hzs : z.cells.size = size) (hsz : 0 < size)
    {v : Value} {n : Nat} {xs : List Value} (hown : OwnsR w e size v n xs)
    {a : Addr} {m c : Nat} {news : List Value} (hl : news.length = m * size) (hnews : ∀ j u, news[j]? = some u → w.cell? (a.add j) = some u) (h1 : ∀ u ∈ news, u.oneCell' = true)
    (h63 : n + m ≤ maxLen) (hbytes : (n + m) * bytes ≤ 140737488355328) :
    ∃ v' w', (Builtin.append_ #[t, t] ty #[v, .slice (some a) m c]).run P w = .ok v' w' ∧ OwnsR w' e size v' (n + m) (xs ++ news) ∧ w.grownBy w' v.ownBlock ∧
      (∀ b, v'.ownBlock = some b → v.ownBlock = some b ∨ w.heap.size ≤ b) := by
  subst hsize
  subst hby
  have hsmall : n + m ≤ 9223372036854775807 := by simp only [maxLen] at h63; omega
  have hlen : (xs ++ news).length = (n + m) * i.size := by rw [List.length_append, hown.1, hl, Nat.add_mul]
  have grown : ∀ (old : Nat) (row : Option Nat),
      OwnsR (w.drew.alloc (.cells (xs.toArray ++ news.toArray ++ Builtin.zeroCells z.cells (grownCap w (n + m) old e - (n + m))) e)) e i.size
        (.slice (some ⟨w.heap.size, 0, none⟩) (n + m) (grownCap w (n + m) old e)) (n + m) (xs ++ news) ∧
      w.grownBy (w.drew.alloc (.cells (xs.toArray ++ news.toArray ++ Builtin.zeroCells z.cells (grownCap w (n + m) old e - (n + m))) e)) row := by
    intro old row
    have hge := grownCap_ge w (n + m) old e
    have hcm : grownCap w (n + m) old e ≤ maxLen := grownCap_le_maxLen w (n + m) old e h63
    refine ⟨⟨hlen, .inr ⟨w.heap.size, 0, _, _, rfl, heap_alloc_new w.drew _, hge, hcm, ?_, ?_⟩⟩, ⟨rfl, rfl, rfl, by simp, fun k hk _ => heap_alloc_old w.drew _ (h := hk)⟩⟩
    · simp only [Array.size_append, List.size_toArray, size_zeroCells, hzs, hown.1, hl, ← Nat.add_mul, Nat.zero_add]
      rw [show n + m + (grownCap w (n + m) old e - (n + m)) = grownCap w (n + m) old e from by omega]
      exact Nat.le_refl _
    · simp only [List.drop_zero, Array.toList_append, List.append_assoc]
      rw [← List.append_assoc, ← hlen]
      exact List.take_left
  rcases hown.2 with ⟨rfl, rfl⟩ | ⟨g, off, cap, cur, rfl, hg, hnc, hcm, hcs, htake⟩
  · have hx : xs = [] := List.eq_nil_of_length_eq_zero (by simpa using hown.1)
    subst hx
    by_cases hm : m = 0
    · subst hm
      have hn : news = [] := List.eq_nil_of_length_eq_zero (by simpa using hl)
      subst hn
      refine ⟨.slice none 0 0, w, ?_, OwnsR.nil w e i.size, ⟨rfl, rfl, rfl, Nat.le_refl _, fun _ _ _ => rfl⟩, by simp [Value.ownBlock]⟩
      simp [Builtin.append_, run_underlying ht, sizeOf, typeInfo, hi, Builtin.lenOf, Builtin.firstCells, loadCells, loadCellsFrom]
    · have hr := run_append_nil (P := P) w t ty e i z ht hi hz a m c news hl hnews (by omega) (by omega) (by have hb := hbytes; simp only [Nat.zero_add] at hb; omega)
      have hgr := grown 0 (Value.ownBlock (.slice none 0 0))
      simp only [Nat.zero_add, List.nil_append, Array.empty_append] at hgr ⊢
      exact ⟨_, _, hr, hgr.1, hgr.2, fun b hb => .inr (by simp only [Value.ownBlock, Option.some.injEq] at hb; omega)⟩
  · by_cases hroom : n + m ≤ cap
    · have hfit : off + n * i.size + news.length ≤ cur.size := by
        have : (n + m) * i.size ≤ cap * i.size := Nat.mul_le_mul_right _ hroom
        rw [Nat.add_mul] at this
        omega
      have hf := run_firstCells_some (P := P) w i.size m a m c news hl hnews
      obtain ⟨w', hst, hh, hgr⟩ := run_storeCells_obj (P := P) g (off + n * i.size) e news 0 cur.toList w (by simpa using hg) (by simpa using hfit) h1
      refine ⟨.slice (some ⟨g, off, none⟩) (n + m) cap, w', ?_, ⟨hlen, .inr ⟨g, off, cap, _, rfl, hh, hroom, hcm, ?_, ?_⟩⟩, hgr, fun b hb => .inl hb⟩
      · simp [Builtin.append_, run_underlying ht, sizeOf, typeInfo, hi, Builtin.lenOf, hroom, hf, Addr.add_lit, hst]
      · simpa [over_length] using hcs
      · rw [List.toList_toArray, Nat.add_zero, over_eq _ _ _ (by simpa using hfit)]
        have hd : (cur.toList.take (off + n * i.size)).drop off = xs := by rw [List.drop_take, Nat.add_sub_cancel_left]; exact htake
        rw [List.append_assoc, List.drop_append_of_le_length (by simp; omega), hd, ← List.append_assoc, ← hlen]
        exact List.take_left
    · have holds : ∀ j u, xs[j]? = some u → w.cell? ((⟨g, off, none⟩ : Addr).add j) = some u := by
        intro j u hu
        rw [Addr.add_lit]
        refine cell_of hg rfl ?_
        rw [← htake, List.getElem?_take] at hu
        split at hu
        · rw [List.getElem?_drop] at hu; simpa using hu
        · cases hu
      have hr := run_append_grow (P := P) w t ty e i z ht hi hz ⟨g, off, none⟩ n cap xs hown.1 holds a m c news hl hnews (by omega) (by omega) (growslice_fits (by omega) hbytes)
      have hgr := grown cap (Value.ownBlock (.slice (some ⟨g, off, none⟩) n cap))
      exact ⟨_, _, hr, hgr.1, hgr.2, fun b hb => .inr (by simp only [Value.ownBlock, Option.some.injEq] at hb; omega)⟩

theorem events_firstCells {P : Program} {w : World} {Ok : Event → Prop} {size n l c : Nat} {a : Addr} {cs : List Value} {es : Array Event} (hl : cs.length = n * size)
    (hc : ∀ j u, cs[j]? = some u → w.cell? (a.add j) = some u ∧ Ok ⟨.cell (a.add j), false, false⟩) (he : ∀ e ∈ es, Ok e) :
    ∀ e ∈ (Builtin.firstCells size n (.slice (some a) l c)).events P w es, Ok e := by
  have := events_loadCellsFrom (P := P) (w := w) (ad := a) (Ok := Ok) cs 0 #[] es (fun j c hc' => by rw [Nat.zero_add]; exact hc j c hc') he
  rw [hl] at this
  exact this

/-- What append lists: reads of the source's cells, accesses to its own block, neutral marks. -/
theorem events_append_R {P : Program} {w : World} {Ok : Event → Prop} {t ty e : TypeId} {i : TypeInfo} {z : Value} {size bytes : Nat} (ht : P.underlying t = some (.slice e)) (hi : P.info? e = some i) (hz : i.zero = some z)
    (hsize : i.size = size) (hby : i.bytes = bytes)
    {v : Value} {n : Nat} {xs : List Value} (hown : OwnsR w e size v n xs)
    {a : Addr} {m c : Nat} {news : List Value} (hl : news.length = m * size) (hnews : ∀ j u, news[j]? = some u → w.cell? (a.add j) = some u ∧ Ok ⟨.cell (a.add j), false, false⟩) (h1 : ∀ u ∈ news, u.oneCell' = true)
    (h63 : n + m ≤ maxLen) (hbytes : (n + m) * bytes ≤ 140737488355328)
    (hok : ∀ g, v.ownBlock = some g → ∀ j wr, Ok ⟨.cell ⟨g, j, none⟩, wr, false⟩) (hneu : ∀ m, Neutral m → Ok ⟨.mark m, false, true⟩) :
    ∀ ev ∈ (Builtin.append_ #[t, t] ty #[v, .slice (some a) m c]).events P w #[], Ok ev := by
  subst hsize
  subst hby
  have hsmall : n + m ≤ 9223372036854775807 := by simp only [maxLen] at h63; omega
  have none0 : ∀ e ∈ (#[] : Array Event), Ok e := by intro e he; simp at he
  have hnw : ∀ j u, news[j]? = some u → w.cell? (a.add j) = some u := fun j u h => (hnews j u h).1
  have askr : ∀ (w' : World) (k : Nat) (es : Array Event), (∀ e ∈ es, Ok e) → ∀ e ∈ (askRoom k).events P w' es, Ok e := fun w' k es hes e he =>
    (Conc.events_askRoom _ _ _ e he).elim (hes e) fun ⟨m, hm, hn⟩ => hm ▸ hneu m hn
  intro ev hev
  rcases hown.2 with ⟨rfl, rfl⟩ | ⟨g, off, cap, cur, rfl, hg, hnc, hcm, hcs, htake⟩
  · have hx : xs = [] := List.eq_nil_of_length_eq_zero (by simpa using hown.1)
    subst hx
    by_cases hm : m = 0
    · subst hm
      simp [Builtin.append_, run_underlying ht, sizeOf, typeInfo, hi, Builtin.lenOf] at hev
      exact events_firstCells (P := P) (w := w) (cs := news) hl hnews none0 ev (by simpa using hev)
    · have h63' : ¬ (9223372036854775807 < (m : Int)) := by omega
      have h48' : ¬ (281474976710656 < Builtin.nextslicecap m 0 * i.bytes) := by rw [nextslicecap_zero (by omega)]; simp only [Nat.zero_add] at hbytes; omega
      have hf := run_firstCells_some (P := P) w.drew i.size m a m c news hl (by simpa using hnw)
      simp [Builtin.append_, run_underlying ht, sizeOf, typeInfo, zeroValue, hi, hz, Builtin.lenOf, hm, h63', h48', Question.forced, run_firstCells_none, hf, newRow] at hev
      refine events_firstCells (P := P) (w := w.drew) (cs := news) hl (fun j u h => by simpa using hnews j u h) (fun e he => ?_) ev hev
      exact askr _ _ _ none0 e (by simpa [Builtin.firstCells] using he)
  · have hob : ∀ j wr, Ok ⟨.cell ⟨g, j, none⟩, wr, false⟩ := hok g (by simp [Value.ownBlock])
    have holds : ∀ j u, xs[j]? = some u → w.cell? ((⟨g, off, none⟩ : Addr).add j) = some u := by
      intro j u hu
      rw [Addr.add_lit]
      refine cell_of hg rfl ?_
      rw [← htake, List.getElem?_take] at hu
      split at hu
      · rw [List.getElem?_drop] at hu; simpa using hu
      · cases hu
    by_cases hroom : n + m ≤ cap
    · have hfit : off + n * i.size + news.length ≤ cur.size := by
        have : (n + m) * i.size ≤ cap * i.size := Nat.mul_le_mul_right _ hroom
        rw [Nat.add_mul] at this
        omega
      have hf := run_firstCells_some (P := P) w i.size m a m c news hl hnw
      simp [Builtin.append_, run_underlying ht, sizeOf, typeInfo, hi, Builtin.lenOf, hroom, hf, Addr.add_lit] at hev
      refine events_storeCells_obj (P := P) g (off + n * i.size) e (fun j => hob j true) news 0 cur.toList w _ (by simpa using hg) (by simpa using hfit) h1 (fun e he => ?_) ev hev
      exact events_firstCells (P := P) (w := w) (cs := news) hl hnews none0 e he
    · have hn : ¬ (n + m ≤ cap) := hroom
      have h63' : ¬ (9223372036854775807 < ((n : Int) + (m : Int))) := by omega
      have h48' : ¬ (281474976710656 < Builtin.nextslicecap (n + m) cap * i.bytes) := by have := growslice_fits (need := n + m) (old := cap) (bytes := i.bytes) (by omega) hbytes; omega
      have hf := run_firstCells_some (P := P) w.drew i.size m a m c news hl (by simpa using hnw)
      have hfo := run_firstCells_some (P := P) w.drew i.size n ⟨g, off, none⟩ n cap xs hown.1 (by simpa using holds)
      simp [Builtin.append_, run_underlying ht, sizeOf, typeInfo, zeroValue, hi, hz, Builtin.lenOf, hn, h63', h48', Question.forced, hf, hfo, newRow] at hev
      refine events_firstCells (P := P) (w := w.drew) (cs := news) hl (fun j u h => by simpa using hnews j u h) (fun e he => ?_) ev hev
      refine events_firstCells (P := P) (w := w.drew) (cs := xs) hown.1 (fun j u h => ⟨by simpa using holds j u h, by rw [Addr.add_lit]; exact hob _ _⟩) (fun e he => ?_) e he
      exact askr _ _ _ none0 e he

section
variable {P : Program} {x : Cx P} {ops : Array Oper} {Q : Post} {rest : List Oper} {H : Hp} {M M' : List Res} {L L' : Env}
variable {d : Nat} {ty : TypeId} {pos : String} {aft : Array Edge} {g : Option (Nat × Bool)}

theorem W_freeze {α : Type} [Rep α] {v : Value} {T : TypeId} {n : Nat} {xs : List Value} {ys : List α} (hx : RdC H xs ys) (hs : Nat.blt 0 (Rep.sz α) = true)
    (k : ∀ H', H.le H' → RdS H' v ys → W x ops Q rest H' M L) : W x ops Q rest H (.row v T (Rep.sz α) n xs :: M) L := by
  intro a w hsl ht
  obtain ⟨H', h1, h2, h3⟩ := ht.freezeRow hx (by simpa [Nat.blt_eq] using hs)
  exact k H' h1 h3 a w hsl h2
theorem E_freeze {α : Type} [Rep α] {e : Exit} {v : Value} {T : TypeId} {n : Nat} {xs : List Value} {ys : List α} (hx : RdC H xs ys) (hs : Nat.blt 0 (Rep.sz α) = true)
    (k : ∀ H', H.le H' → RdS H' v ys → E x e Q H' M L) : E x e Q H (.row v T (Rep.sz α) n xs :: M) L := by
  intro a w hsl ht
  obtain ⟨H', h1, h2, h3⟩ := ht.freezeRow hx (by simpa [Nat.blt_eq] using hs)
  exact k H' h1 h3 a w hsl h2
theorem C_freeze {α : Type} [Rep α] {c : Code} {v : Value} {T : TypeId} {n : Nat} {xs : List Value} {ys : List α} (hx : RdC H xs ys) (hs : Nat.blt 0 (Rep.sz α) = true)
    (k : ∀ H', H.le H' → RdS H' v ys → C x c Q H' M L) : C x c Q H (.row v T (Rep.sz α) n xs :: M) L := by
  intro a w hsl ht
  obtain ⟨H', h1, h2, h3⟩ := ht.freezeRow hx (by simpa [Nat.blt_eq] using hs)
  exact k H' h1 h3 a w hsl h2
theorem W_nilRow (T : TypeId) (sz : Nat) (k : W x ops Q rest H (.row (.slice none 0 0) T sz 0 [] :: M) L) : W x ops Q rest H M L :=
  fun a w hsl ht => k a w hsl (ht.nilRow T sz)
theorem E_nilRow {e : Exit} (T : TypeId) (sz : Nat) (k : E x e Q H (.row (.slice none 0 0) T sz 0 [] :: M) L) : E x e Q H M L :=
  fun a w hsl ht => k a w hsl (ht.nilRow T sz)
theorem C_nilRow {c : Code} (T : TypeId) (sz : Nat) (k : C x c Q H (.row (.slice none 0 0) T sz 0 [] :: M) L) : C x c Q H M L :=
  fun a w hsl ht => k a w hsl (ht.nilRow T sz)

/-- 'append(out, xs...)': out is owned and stands first; xs only is read. -/
theorem W_append {α : Type} [Rep α] {t e : TypeId} {bytes n : Nat} {z : Value} {y u : Operand} {v vu : Value} {xs : List Value} {l ys : List α}
    (hg : gd ops L ⟨some d, .call ⟨.builtin .append, #[y, u], #[t, t]⟩, ty, pos, aft, g⟩ = some true) (hN : Nat.blt d x.N = true)
    (hT : P.underlying t = some (.slice e)) (hi : TyI P e (Rep.sz α) bytes z) (hz : z.cells.size = Rep.sz α) (hs : Nat.blt 0 (Rep.sz α) = true) (hb0 : Nat.blt 0 bytes = true)
    (hy : ev L y = some v) (hu : ev L u = some vu) (hx : RdC H xs l) (hR : RdS H vu ys) (hb : (l.length + ys.length) * bytes ≤ 140737488355328)
    (k : ∀ v' n' xs', RdC H xs' (l ++ ys) → W x ops Q rest H (.row v' e (Rep.sz α) n' xs' :: M) ((d, v') :: L)) :
    W x ops Q (⟨some d, .call ⟨.builtin .append, #[y, u], #[t, t]⟩, ty, pos, aft, g⟩ :: rest) H (.row v e (Rep.sz α) n xs :: M) L := by
  obtain ⟨i, h1, h2, h3, h4⟩ := hi.ex
  have hs' : 0 < Rep.sz α := by simpa [Nat.blt_eq] using hs
  have hb0' : 0 < bytes := by simpa [Nat.blt_eq] using hb0
  have hmax : l.length + ys.length ≤ maxLen := by
    have : l.length + ys.length ≤ (l.length + ys.length) * bytes := Nat.le_mul_of_pos_right _ hb0'
    unfold maxLen; omega
  refine W_run rfl hg hN fun a w hsl ht => ?_
  have hown : OwnsR w e (Rep.sz α) v n xs := ht.ok _ (List.mem_cons_self ..)
  have hn : n = l.length := by
    have := hx.len
    rw [hown.1] at this
    exact Nat.eq_of_mul_eq_mul_right hs' this
  subst hn
  obtain ⟨cs, hcs, hcase⟩ := hR.flat
  rcases hcase with ⟨⟨ea, rfl⟩, rfl⟩ | ⟨hc, b, off, c, rfl⟩
  · have hcs' : cs = [] := hcs
    subst hcs'
    have hA : (Builtin.append_ #[t, t] ty #[v, .slice ea 0 0]).run P w = .ok v w ∧ (Builtin.append_ #[t, t] ty #[v, .slice ea 0 0]).events P w #[] = #[] := by
      rcases hown.2 with ⟨rfl, h0⟩ | ⟨g, off, cap, cur, rfl, hg2, hnc, _⟩ <;> cases ea
      · constructor <;> simp [Builtin.append_, run_underlying hT, sizeOf, typeInfo, h1, Builtin.lenOf, Builtin.firstCells]
      · constructor <;> simp [Builtin.append_, run_underlying hT, sizeOf, typeInfo, h1, Builtin.lenOf, Builtin.firstCells, loadCells, loadCellsFrom]
      · constructor <;> simp [Builtin.append_, run_underlying hT, sizeOf, typeInfo, h1, Builtin.lenOf, Builtin.firstCells, storeCells, hnc]
      · constructor <;> simp [Builtin.append_, run_underlying hT, sizeOf, typeInfo, h1, Builtin.lenOf, Builtin.firstCells, storeCells, hnc, loadCells, loadCellsFrom]
    refine ⟨v, w, ?_, fun _ => ⟨?_, H, _, ht, k v _ xs (by simpa using hx)⟩⟩
    · simp [execOp, resolve, invoke, builtin, hsl.ev hy, hsl.ev hu, hA.1]
    · rw [Conc.events_append_op (P := P) y u t rfl (hsl.ev hy) (hsl.ev hu), hA.2]; exact Did.idle _
  · obtain ⟨v', w', hr, ho, hgr, hfr⟩ := run_append_R (P := P) (ty := ty) hT h1 h4 h2 h3 hz hs' hown (a := ⟨b, off, none⟩) (m := ys.length) (c := c) (news := cs) hcs.len
      (fun j u hu => (((hc j u hu).at (x := x) (M := .row v e (Rep.sz α) l.length xs :: M)) w ht).1) hcs.one hmax hb
    have hK : ∀ g, v.ownBlock = some g → x.w0.K g := fun g hg => ht.kown _ (List.mem_cons_self ..) g (by simp [Res.feet, hg])
    have hev := events_append_R (P := P) (ty := ty) (Ok := Ev1 x.w0 w'.heap.size) hT h1 h4 h2 h3 hown (a := ⟨b, off, none⟩) (m := ys.length) (c := c) (news := cs) hcs.len
      (fun j u hu => by
        have hce := (hc j u hu).at (x := x) (M := .row v e (Rep.sz α) l.length xs :: M)
        refine ⟨(hce w ht).1, ?_⟩
        rcases hce.ev ht with ⟨ad, wr, e1, e2, e3⟩ | ⟨m, e1, _⟩ | e1
        · exact .inl ⟨ad, wr, e1, Nat.lt_of_lt_of_le e2 hgr.size, e3⟩
        · cases e1
        · exact (Bool.false_ne_true e1).elim) hcs.one hmax hb
      (fun g hg j wr => .inl ⟨_, wr, rfl, Nat.lt_of_lt_of_le (OwnsR.lt hown hg) hgr.size, .inl (hK g hg)⟩) (fun m hm => .inr (.inl ⟨m, rfl, .inl hm⟩))
    refine ⟨v', w', ?_, fun n => ⟨Did.of_grown hgr hK ?_, H, _, ht.upd (r' := .row v' e (Rep.sz α) (l.length + ys.length) (xs ++ cs)) hgr ho n hfr, k v' _ _ (hx.app hcs)⟩⟩
    · simp [execOp, resolve, invoke, builtin, hsl.ev hy, hsl.ev hu, hr]
    · rw [Conc.events_append_op (P := P) y u t rfl (hsl.ev hy) (hsl.ev hu)]
      exact hev
end
end Go.Sim
end

section
set_option linter.unusedSimpArgs false
set_option linter.unusedVariables false
namespace Go.Sim
open Go Go.RowKit

/-- Each value's cells. -/
def CellsL : List Value → List (List Value) → Prop
  | [], [] => True
  | v :: vs, c :: cs => v.cells = c.toArray ∧ CellsL vs cs
  | _, _ => False

/-- The parts laid over the zero. -/
def laid (places : List (Nat × Nat)) : List Value → List (Nat × List Value) → Option (List Value)
  | z, [] => some z
  | z, (i, c) :: r => match places[i]? with
    | none => none
    | some (off, size) => if Nat.beq c.length size && Nat.ble (off + c.length) z.length then laid places (over z off c) r else none

theorem foldl_over : ∀ (c : List Value) (z : List Value) (off k : Nat), (c.zipIdx k).foldl (fun cs (p : Value × Nat) => cs.setIfInBounds (off + p.2) p.1) z.toArray = (over z (off + k) c).toArray
  | [], z, off, k => rfl
  | v :: c, z, off, k => by
    rw [List.zipIdx_cons, List.foldl_cons]
    simp only [List.setIfInBounds_toArray]
    rw [foldl_over c _ off (k + 1), over]
    rfl

theorem fill_laid {place : Nat → Option (Nat × Nat)} {places : List (Nat × Nat)} (hp : ∀ i o, places[i]? = some o → place i = some o) :
    ∀ (is : List Nat) (vs : List Value) (css : List (List Value)) (z out : List Value), CellsL vs css → is.length = vs.length → laid places z (is.zip css) = some out →
      Instr.fill place z.toArray (is.zip vs) = some out.toArray
  | [], [], _, z, out, _, _, h => by simp [laid] at h; simp [Instr.fill, h]
  | [], _ :: _, _, _, _, _, hl, _ => by simp at hl
  | _ :: _, [], _, _, _, _, hl, _ => by simp at hl
  | i :: is, v :: vs, [], _, _, hc, _, _ => hc.elim
  | i :: is, v :: vs, c :: css, z, out, ⟨hv, hc⟩, hl, h => by
    simp only [List.zip_cons_cons, laid] at h
    cases hpl : places[i]? with
    | none => simp [hpl] at h
    | some o =>
      obtain ⟨off, size⟩ := o
      simp only [hpl] at h
      split at h
      · rename_i hb
        simp only [Bool.and_eq_true, Nat.ble_eq] at hb
        have hsz : c.length = size := Nat.eq_of_beq_eq_true hb.1
        simp only [List.zip_cons_cons, Instr.fill, hp i _ hpl, hv]
        have h1 : ((c.toArray.size ≠ size || off + c.toArray.size > z.toArray.size : Bool)) = false := by
          simp [hsz]; rw [← hsz]; exact hb.2
        rw [if_neg (by simp only [h1]; simp)]
        have h2 := foldl_over c z off 0
        have h3 : c.toArray.zipIdx.foldl (fun cs (p : Value × Nat) => cs.setIfInBounds (off + p.2) p.1) z.toArray = (over z off c).toArray := by
          rw [← Array.foldl_toList]
          simpa using h2
        have ih := fill_laid hp is vs css (over z off c) out hc (by simpa using hl) h
        rw [← ih]
        exact congrArg (fun q => Instr.fill place q (is.zip vs)) h3
      · cases h

theorem rngN_t {k m : Nat} {e : Int} (hd : k + m = e.toNat) (hb : decide ((k : Int) < e) = true) : ∃ m', m = m' + 1 ∧ k + 1 + m' = e.toNat ∧ k < e.toNat := by
  have := of_decide_eq_true hb
  exact ⟨m - 1, by omega, by omega, by omega⟩
theorem rngN_f {k m : Nat} {e : Int} (hd : k + m = e.toNat) (hb : decide ((k : Int) < e) = false) : m = 0 := by
  have := of_decide_eq_false hb
  omega
theorem toNat_max {e : Int} (h : e ≤ 9223372036854775807) : e.toNat ≤ maxLen := by unfold maxLen; omega
theorem wrap_max (n : Int) : IntKind.i64.wrap n ≤ 9223372036854775807 := by
  simp only [IntKind.wrap, IntKind.bits, IntKind.signed, Bool.true_and]
  split <;> rename_i h <;> simp at h <;> omega
theorem len_max {α : Type} {xs : List α} (h : xs.length ≤ maxLen) : (xs.length : Int) ≤ 9223372036854775807 := by unfold maxLen at h; omega

section
variable {P : Program} {x : Cx P} {ops : Array Oper} {Q : Post} {rest : List Oper} {H : Hp} {M M' : List Res} {L L' : Env}
variable {d : Nat} {ty : TypeId} {pos : String} {aft : Array Edge} {g : Option (Nat × Bool)}

theorem evs_zip {N : Nat} {a : Act} (hs : Sl N L a) {ps : List (Nat × Operand)} {vs : List Value} (hv : evs L (ps.map (·.2)) = some vs) :
    (ps.toArray.map fun (p : Nat × Operand) => (p.1, a.eval p.2)) = ((ps.map (·.1)).zip vs).toArray := by
  have h := hs.evs hv
  subst h
  clear hv
  simp only [List.map_map, List.map_toArray]
  congr 1
  induction ps with
  | nil => rfl
  | cons p ps ih => simp only [List.map_cons, List.zip_cons_cons, Function.comp, ih]

/-- It lists nothing. -/
def Mute {α : Type} (P : Program) (s : Sem α) : Prop := ∀ w es, s.events P w es = es
theorem Mute.bind {P : Program} {α β : Type} {s : Sem α} {f : α → Sem β} (h : Mute P s) (k : ∀ a, Mute P (f a)) : Mute P (s >>= f) := fun w es => by
  rw [Sem.events_bind, h w es]
  cases s.run P w with
  | ok a w' => exact k a w' es
  | halt x w' => rfl
theorem Mute.pure {P : Program} {α : Type} (a : α) : Mute P (Pure.pure a : Sem α) := fun _ _ => rfl
theorem Mute.mapL {P : Program} {α β : Type} {f : α → Sem β} (h : ∀ a, Mute P (f a)) : ∀ l : List α, Mute P (l.mapM f)
  | [] => by rw [List.mapM_nil]; exact Mute.pure _
  | a :: l => by rw [List.mapM_cons]; exact (h a).bind fun b => (Mute.mapL h l).bind fun c => Mute.pure _
theorem Mute.mapA {P : Program} {α β : Type} {f : α → Sem β} (h : ∀ a, Mute P (f a)) (l : Array α) : Mute P (l.mapM f) := by
  rw [Array.mapM_eq_mapM_toList]
  intro w es
  rw [Sem.events_map]
  exact Mute.mapL h _ w es
theorem mute_sizeOf {P : Program} (T : TypeId) : Mute P (sizeOf T) := fun w es => by simp

/-- A struct literal. -/
theorem W_build {T : TypeId} {ps : List (Nat × Operand)} {vs : List Value} {css : List (List Value)} {z : Value} {zs out : List Value} {fs : Array Field} {places : List (Nat × Nat)}
    (hg : gd ops L ⟨some d, .build T ps.toArray, ty, pos, aft, g⟩ = some true) (hN : Nat.blt d x.N = true)
    (hv : evs L (ps.map (·.2)) = some vs) (hc : CellsL vs css)
    (hz : ∀ w, (zeroValue T).run P w = .ok z w) (hzs : z.cells = zs.toArray) (hT : ∀ w, (underlying T).run P w = .ok (.struct fs) w)
    (hp : ∀ w, (fs.mapM fun f => do pure (f.offset, ← sizeOf f.type) : Sem (Array (Nat × Nat))).run P w = .ok places.toArray w)
    (ho : laid places zs ((ps.map (·.1)).zip css) = some out)
    (k : W x ops Q rest H M ((d, .agg out.toArray) :: L)) :
    W x ops Q (⟨some d, .build T ps.toArray, ty, pos, aft, g⟩ :: rest) H M L :=
  W_pure0 rfl hg hN (fun a w hs ht => by
    have hl : (ps.map (·.1)).length = vs.length := by rw [← hs.evs hv]; simp
    have hf := fill_laid (place := fun i : Nat => places[i]?) (places := places) (fun _ _ h => h) (ps.map (·.1)) vs css zs out hc hl ho
    have hps := evs_zip hs hv
    have e : (fun i : Nat => places.toArray[i]?) = fun i : Nat => places[i]? := by funext i; simp
    have hm : ∀ es, (fs.mapM fun f => do Pure.pure (f.offset, ← sizeOf f.type) : Sem (Array (Nat × Nat))).events P w es = es := fun es => Mute.mapA (fun f => (mute_sizeOf f.type).bind fun n => Mute.pure _) fs w es
    refine ⟨?_, ?_⟩
    · simp only [execOp, Instr.build, Sem.run_bind, hz, Result.andThen_ok, hT, hzs]
      rw [hp]
      simp only [Result.andThen_ok]
      simp only [hps, e, hf, Sem.run_pure, Result.andThen_ok]
    · simp only [execOp, Instr.build, Sem.events_bind, Sem.run_bind, hz, Result.andThen_ok, Result.evThen_ok, hT, hzs, events_zeroValue, events_underlying, hm]
      rw [hp]
      simp only [Result.evThen_ok, hps, e, hf, Sem.events_pure]
      simp [hT, hp, hps, e, hf]) k

/-- A slice literal: it lies in new memory that from now on only is read. -/
theorem W_buildSlice {α : Type} [Rep α] {T e : TypeId} {n : Nat} {ps : List (Nat × Operand)} {vs : List Value} {css : List (List Value)} {z : Value} {zs out : List Value} {places : List (Nat × Nat)} {ys : List α}
    (hg : gd ops L ⟨some d, .buildSlice T n ps.toArray, ty, pos, aft, g⟩ = some true) (hN : Nat.blt d x.N = true)
    (hv : evs L (ps.map (·.2)) = some vs) (hc : CellsL vs css)
    (hT : ∀ w, (underlying T).run P w = .ok (.slice e) w) (hs : ∀ w, (sizeOf e).run P w = .ok (Rep.sz α) w) (hs0 : Nat.blt 0 (Rep.sz α) = true)
    (hz : ∀ w, (zeroValue e).run P w = .ok z w) (hzs : (Array.range (n * Rep.sz α)).map (z.cells[· % z.cells.size]!) = zs.toArray)
    (hpl : places = (List.range n).map fun i => (i * Rep.sz α, Rep.sz α)) (hn : Nat.ble (n * Rep.sz α) 16777216 = true) (hnn : Nat.blt 0 n = true)
    (ho : laid places zs ((ps.map (·.1)).zip css) = some out) (hr : RdC H out ys) (hyn : ys.length = n)
    (k : ∀ b v H', v = .slice (some ⟨b, 0, none⟩) n n → H.le H' → RdS H' v ys → W x ops Q rest H' M ((d, v) :: L)) :
    W x ops Q (⟨some d, .buildSlice T n ps.toArray, ty, pos, aft, g⟩ :: rest) H M L := by
  refine W_run rfl hg hN fun a w hsl ht => ?_
  have hl : (ps.map (·.1)).length = vs.length := by rw [← hsl.evs hv]; simp
  have hs0' : 0 < Rep.sz α := by simpa [Nat.blt_eq] using hs0
  have hn' : n * Rep.sz α ≤ 16777216 := by simpa [Nat.ble_eq] using hn
  have hnn' : 0 < n := by simpa [Nat.blt_eq] using hnn
  have hpos : 0 < n * Rep.sz α := Nat.mul_pos hnn' hs0'
  have hf := fill_laid (place := fun i => some (i * Rep.sz α, Rep.sz α)) (places := places) (fun i o h => by
    rw [hpl, List.getElem?_map] at h
    cases hh : (List.range n)[i]? with
    | none => rw [hh] at h; cases h
    | some j =>
      rw [hh] at h
      have : j = i := by
        have := List.getElem?_eq_some_iff.1 hh
        simpa using this.2.symm
      subst this
      simpa using h) (ps.map (·.1)) vs css zs out hc hl ho
  have hps := evs_zip hsl hv
  have hsz : out.length = n * Rep.sz α := by rw [hr.len, hyn]
  refine ⟨.slice (some ⟨w.heap.size, 0, none⟩) n n, w.alloc (.cells out.toArray e), ?_, fun hN2 => ⟨?_, H.add w.heap.size (.cells out.toArray e), M, (ht.alloc _ hN2).freeze.2, ?_⟩⟩
  · have h1 : ¬ (2 ^ 24 < n * Rep.sz α) := by omega
    have h2 : ¬ (n * Rep.sz α = 0) := by omega
    simp only [execOp, Instr.buildSlice, Sem.run_bind, hT, Result.andThen_ok, hs, gt_iff_lt, h1, h2, if_false, hz, Sem.run_pure]
    simp only [hps]
    have hf' : Instr.fill (fun i => some (i * Rep.sz α, Rep.sz α)) ((Array.range (n * Rep.sz α)).map (z.cells[· % z.cells.size]!)) ((List.map (fun x => x.fst) ps).zip vs) = some out.toArray := by
      rw [hzs]; exact hf
    simp only [hf', newRow, newObj, Sem.run_bind, Sem.run_pure, Sem.run, Result.andThen_ok, World.alloc]
  · have h1 : ¬ (2 ^ 24 < n * Rep.sz α) := by omega
    have h2 : ¬ (n * Rep.sz α = 0) := by omega
    have hf' : Instr.fill (fun i => some (i * Rep.sz α, Rep.sz α)) ((Array.range (n * Rep.sz α)).map (z.cells[· % z.cells.size]!)) ((List.map (fun x => x.fst) ps).zip vs) = some out.toArray := by
      rw [hzs]; exact hf
    have he : (execOp a.eval ⟨some d, .buildSlice T n ps.toArray, ty, pos, aft, g⟩).events P w #[] = #[] := by
      simp only [execOp, Instr.buildSlice, Sem.events_bind, Sem.run_bind, hT, Result.andThen_ok, Result.evThen_ok, hs, gt_iff_lt, h1, h2, if_false, hz, Sem.run_pure, events_underlying, events_sizeOf, events_zeroValue, Sem.events_ite]
      simp only [hps, hf', newRow, Sem.run_bind, Sem.events_bind, Sem.events_pure, events_newObj]
      simp
    rw [he]; exact Did.alloc _ _
  · refine k w.heap.size _ _ rfl (ht.alloc _ hN2).freeze.1 (.inr ⟨w.heap.size, 0, n, out.toArray, e, (0, 0), by rw [hyn], by omega, ?_, Hp.add_self _ _ _, by simp [hsz], ?_⟩)
    · unfold maxLen
      have : n ≤ n * Rep.sz α := Nat.le_mul_of_pos_right _ hs0'
      omega
    · intro j el hel
      obtain ⟨c, q1, q2⟩ := (hr.mono (ht.alloc (.cells out.toArray e) hN2).freeze.1).get j el hel
      exact ⟨c, q1, fun i u hu => by simpa using q2 i u hu⟩
end
end Go.Sim
end

section
set_option linter.unusedSimpArgs false
set_option linter.unusedVariables false
namespace Go.Sim
open Go Go.RowKit
set_option linter.unusedVariables false
set_option linter.unusedSimpArgs false
set_option linter.unusedSectionVars false
set_option linter.unnecessarySimpa false

/-- What is known of an owned row: its cells read as a list; its value takes one cell. -/
structure Rw {α : Type} [Rep α] (H : Hp) (v : Value) (xs : List Value) (l : List α) : Prop where
  rd : RdC H xs l
  sl : ∃ a n c, v = .slice a n c

section
variable {α : Type} [Rep α] {H H' : Hp} {v : Value} {xs : List Value} {l : List α}
theorem Rw.mono (hle : H.le H') (h : Rw H v xs l) : Rw H' v xs l := ⟨h.rd.mono hle, h.sl⟩
theorem Rw.one (h : Rw H v xs l) : v.oneCell' = true := by obtain ⟨a, n, c, rfl⟩ := h.sl; rfl
theorem Rw.cells (h : Rw H v xs l) : v.cells = [v].toArray := by obtain ⟨a, n, c, rfl⟩ := h.sl; rfl
theorem Rw.nil : Rw H (.slice none 0 0) [] ([] : List α) := ⟨rfl, _, _, _, rfl⟩
/-- An element of a row. -/
theorem Rw.elem (h : Rw H v xs l) {k : Nat} {e : α} (he : l[k]? = some e) : ∃ c, Rep.E H c e ∧ ∀ j u, c[j]? = some u → xs[k * Rep.sz α + j]? = some u := h.rd.get k e he

theorem over_get (vs : List Value) : ∀ (l : List Value) (k j : Nat), k + vs.length ≤ l.length → (over l k vs)[j]? = if k ≤ j ∧ j < k + vs.length then vs[j - k]? else l[j]? := by
  intro l k j h
  rw [over_eq vs l k h, List.append_assoc, List.getElem?_append]
  simp only [List.length_take, Nat.min_eq_left (show k ≤ l.length by omega)]
  by_cases h1 : j < k
  · rw [if_pos h1, if_neg (by omega), List.getElem?_take, if_pos h1]
  · rw [if_neg h1, List.getElem?_append]
    by_cases h2 : j - k < vs.length
    · rw [if_pos h2, if_pos (by omega)]
    · rw [if_neg h2, if_neg (by omega), List.getElem?_drop]
      congr 1; omega

/-- A part of an element is written anew. -/
theorem Rw.put {c cs out : List Value} {k o : Nat} {e e2 : α} (h : Rw H v xs l) (he : l[k]? = some e) (hc : Rep.E H c e) (hg : ∀ j u, c[j]? = some u → xs[k * Rep.sz α + j]? = some u)
    (hb : Nat.ble (o + cs.length) c.length = true) (ho : over c o cs = out) (hE : Rep.E H out e2) :
    Rw H v (over xs (k * Rep.sz α + o) cs) (l.set k e2) ∧ (l.set k e2)[k]? = some e2 ∧ ∀ j u, out[j]? = some u → (over xs (k * Rep.sz α + o) cs)[k * Rep.sz α + j]? = some u := by
  have hk : k < l.length := (List.getElem?_eq_some_iff.1 he).1
  have hlen := h.rd.len
  have hcl := Rep.len hc
  have hb' : o + cs.length ≤ c.length := by simpa [Nat.ble_eq] using hb
  have hkk : (k + 1) * Rep.sz α ≤ l.length * Rep.sz α := Nat.mul_le_mul_right _ hk
  rw [Nat.add_mul, Nat.one_mul] at hkk
  have hin : k * Rep.sz α + o + cs.length ≤ xs.length := by omega
  have key : over xs (k * Rep.sz α + o) cs = xs.take (k * Rep.sz α) ++ out ++ xs.drop ((k + 1) * Rep.sz α) := by
    apply List.ext_getElem?
    intro j
    rw [over_get _ _ _ _ hin, List.append_assoc, List.getElem?_append]
    simp only [List.length_take, Nat.min_eq_left (show k * Rep.sz α ≤ xs.length by omega)]
    have hol : out.length = Rep.sz α := by rw [← ho, over_length, hcl]
    by_cases h1 : j < k * Rep.sz α
    · rw [if_pos h1, if_neg (by omega), List.getElem?_take, if_pos h1]
    · rw [if_neg h1, List.getElem?_append, hol]
      by_cases h2 : j - k * Rep.sz α < Rep.sz α
      · rw [if_pos h2, ← ho, over_get _ _ _ _ hb']
        by_cases h3 : k * Rep.sz α + o ≤ j ∧ j < k * Rep.sz α + o + cs.length
        · rw [if_pos h3, if_pos (by omega)]; congr 1; omega
        · rw [if_neg h3, if_neg (by omega)]
          have hj : j - k * Rep.sz α < c.length := by omega
          have := hg (j - k * Rep.sz α) _ (List.getElem?_eq_getElem hj)
          rw [List.getElem?_eq_getElem hj, ← this]; congr 1; omega
      · rw [if_neg h2, if_neg (by omega), List.getElem?_drop]
        congr 1; rw [Nat.add_mul]; omega
  refine ⟨⟨?_, h.sl⟩, by simp [hk], fun j u hu => ?_⟩
  · rw [key]; exact h.rd.put hk hE
  · have hj : j < out.length := (List.getElem?_eq_some_iff.1 hu).1
    have hol : out.length = Rep.sz α := by rw [← ho, over_length, hcl]
    rw [key, List.append_assoc, List.getElem?_append_right (by simp; omega), List.getElem?_append_left (by simp; omega)]
    simp only [List.length_take, Nat.min_eq_left (show k * Rep.sz α ≤ xs.length by omega)]
    rw [show k * Rep.sz α + j - k * Rep.sz α = j by omega]; exact hu
end

section
variable {P : Program} {x : Cx P} {ops : Array Oper} {Q : Post} {rest : List Oper} {H : Hp} {M M' : List Res} {L L' : Env}
variable {d : Nat} {ty : TypeId} {pos : String} {aft : Array Edge} {g : Option (Nat × Bool)}

theorem row_at {v : Value} {T : TypeId} {sz n i : Nat} {xs : List Value} {c : Value} (hm : Res.row v T sz n xs ∈ M) (hc : xs[i]? = some c) : CellAt x H M ((Value.base v).add i) c := by
  intro w ht
  have hok : OwnsR w T sz v n xs := ht.ok _ hm
  have hi := (List.getElem?_eq_some_iff.1 hc).1
  rcases hok.2 with ⟨rfl, h0⟩ | ⟨gb, off, cap, cur, rfl, hg, hnc, hcm, hcs, htake⟩
  · exfalso
    have := hok.1
    subst h0
    simp at this; subst this
    simp at hc
  · rw [show Value.base (Value.slice (some ⟨gb, off, none⟩) n cap) = ⟨gb, off, none⟩ from rfl, Addr.add_lit]
    refine ⟨cell_of (ad := ⟨gb, off + i, none⟩) hg rfl ?_, .inl (ht.kown _ hm gb (by simp [Res.feet, Value.ownBlock]))⟩
    rw [← htake, List.getElem?_take] at hc
    split at hc
    · rw [List.getElem?_drop] at hc; simpa using hc
    · cases hc
theorem add_add (a : Addr) (i j : Nat) : (a.add i).add j = a.add (i + j) := by
  unfold Addr.add
  by_cases h1 : i = 0 <;> by_cases h2 : j = 0 <;> simp [h1, h2, Nat.add_assoc]
theorem row_cells {v : Value} {T : TypeId} {sz n i : Nat} {xs cs : List Value} (hm : Res.row v T sz n xs ∈ M) (hc : ∀ j u, cs[j]? = some u → xs[i + j]? = some u) : CellsAt x H M ((Value.base v).add i) cs := by
  intro j c hj
  rw [add_add]
  exact row_at hm (hc j c hj)
theorem row_part {v : Value} {T : TypeId} {sz n i o : Nat} {xs cs ds : List Value} (hm : Res.row v T sz n xs ∈ M) (hc : ∀ j u, cs[j]? = some u → xs[i + j]? = some u) (hd : (cs.drop o).take ds.length = ds) :
    CellsAt x H M (((Value.base v).add i).add o) ds := by
  rw [add_add]
  refine row_cells hm fun j u hu => ?_
  rw [Nat.add_assoc]
  refine hc _ u ?_
  rw [← hd, List.getElem?_take] at hu
  split at hu
  · rw [List.getElem?_drop] at hu; exact hu
  · cases hu
theorem row_one {v : Value} {T : TypeId} {sz n i o : Nat} {xs cs : List Value} {c : Value} (hm : Res.row v T sz n xs ∈ M) (hc : ∀ j u, cs[j]? = some u → xs[i + j]? = some u) (hd : cs[o]? = some c) :
    CellAt x H M (((Value.base v).add i).add o) c := by
  rw [add_add]; exact row_at hm (hc o c hd)
theorem row_one0 {v : Value} {T : TypeId} {sz n i : Nat} {xs cs : List Value} {c : Value} (hm : Res.row v T sz n xs ∈ M) (hc : ∀ j u, cs[j]? = some u → xs[i + j]? = some u) (hd : cs[0]? = some c) :
    CellAt x H M ((Value.base v).add i) c := row_at hm (hc 0 c hd)

theorem W_lenO {v : Value} {T : TypeId} {sz n : Nat} {xs : List Value} {t e : TypeId} {y : Operand} (hm : Res.row v T sz n xs ∈ M) (hg : gd ops L ⟨some d, .call ⟨.builtin .len, #[y], #[t]⟩, ty, pos, aft, g⟩ = some true) (hN : Nat.blt d x.N = true)
    (hT : ∀ w, (underlying t).run P w = .ok (.slice e) w) (hy : ev L y = some v) (k : W x ops Q rest H M ((d, .int .i64 n) :: L)) :
    W x ops Q (⟨some d, .call ⟨.builtin .len, #[y], #[t]⟩, ty, pos, aft, g⟩ :: rest) H M L :=
  W_pure0 rfl hg hN (fun c w hs ht => by
    refine ⟨?_, ?_⟩
    all_goals
      have hok : OwnsR w T sz v n xs := ht.ok _ hm
      rcases hok.2 with ⟨rfl, rfl⟩ | ⟨gb, off, cap, cur, rfl, _⟩ <;>
        simp [execOp, resolve, invoke, builtin, hs.ev hy, Builtin.len_, hT, goInt]) k

theorem W_indexO {v : Value} {T : TypeId} {sz n : Nat} {xs : List Value} {t e : TypeId} {y z : Operand} {kk : IntKind} {i : Int} (hm : Res.row v T sz n xs ∈ M)
    (hg : gd ops L ⟨some d, .indexAddr t y z, ty, pos, aft, g⟩ = some true) (hN : Nat.blt d x.N = true)
    (hT : ∀ w, (underlying t).run P w = .ok (.slice e) w) (hs : ∀ w, (sizeOf e).run P w = .ok sz w)
    (hy : ev L y = some v) (hz : ev L z = some (.int kk i)) (h0 : 0 ≤ i) (h1 : i.toNat < n)
    (k : W x ops Q rest H M ((d, .pointer (some ((Value.base v).add (i.toNat * sz)))) :: L)) :
    W x ops Q (⟨some d, .indexAddr t y z, ty, pos, aft, g⟩ :: rest) H M L :=
  W_pure0 rfl hg hN (fun c w hsl ht => by
    refine ⟨?_, ?_⟩
    all_goals
      have h1' : i < (n : Int) := by omega
      have hok : OwnsR w T sz v n xs := ht.ok _ hm
      rcases hok.2 with ⟨rfl, rfl⟩ | ⟨gb, off, cap, cur, rfl, _⟩
      · omega
      · simp [execOp, hsl.ev hy, hsl.ev hz, Instr.indexAt, asIntOf, hT, hs, h0, h1', Value.base]) k

/-- A store into an owned row, which stands first. -/
theorem W_storeO {T E : TypeId} {m sz n i : Nat} {y z : Operand} {v u : Value} {ad : Addr} {xs cs : List Value} (hg : gd ops L ⟨none, .store T y z, ty, pos, aft, g⟩ = some true)
    (hn : ∀ w, (sizeOf T).run P w = .ok m w) (hy : ev L y = some (.pointer (some ad))) (had : ad = (Value.base v).add i) (hz : ev L z = some u) (hv : u.cells = cs.toArray) (hl : cs.length = m)
    (hb : i + cs.length ≤ xs.length) (hpos : Nat.blt 0 cs.length = true) (h1 : ∀ c ∈ cs, c.oneCell' = true)
    (k : W x ops Q rest H (.row v E sz n (over xs i cs) :: M) L) :
    W x ops Q (⟨none, .store T y z, ty, pos, aft, g⟩ :: rest) H (.row v E sz n xs :: M) L :=
  W_skip rfl hg (fun a w hs ht => by
    subst had
    have hok : OwnsR w E sz v n xs := ht.ok _ (List.mem_cons_self ..)
    have hpos' : 0 < cs.length := by simpa [Nat.blt_eq] using hpos
    rcases hok.2 with ⟨rfl, rfl⟩ | ⟨gb, off, cap, cur, rfl, hgb, hnc, hcm, hcs, htake⟩
    · have h0 := hok.1; rw [Nat.zero_mul] at h0; omega
    · have hmul : n * sz ≤ cap * sz := Nat.mul_le_mul_right _ hnc
      have hxl := hok.1
      obtain ⟨w', hr, hh, hgr⟩ := run_storeCells_obj (P := P) gb (off + i) E cs 0 cur.toList w (by simpa using hgb) (by simp; omega) h1
      have hK : x.w0.K gb := ht.kown _ (List.mem_cons_self ..) gb (by simp [Res.feet, Value.ownBlock])
      have hev := events_storeCells_obj (P := P) gb (off + i) E (Ok := Ev1 x.w0 w'.heap.size) (fun j => .inl ⟨_, true, rfl, Nat.lt_of_lt_of_le (Array.getElem?_eq_some_iff.1 hgb).1 hgr.size, .inl hK⟩) cs 0 cur.toList w #[] (by simpa using hgb) (by simp; omega) h1 (by simp)
      refine ⟨w', ?_, fun hN2 => ⟨Did.of_grown hgr (fun c e => by cases e; exact hK) ?_, H, _, ht.upd (r' := .row (.slice (some ⟨gb, off, none⟩) n cap) E sz n (over xs i cs)) hgr ?_ hN2 (fun c hc => .inl hc), k⟩⟩
      · simp [execOp, hs.ev hy, hs.ev hz, Instr.storeAt, Instr.sureAddr, storeVar, hn, hl, hv, Value.base, Addr.add_lit, hr]
      · intro e he
        simp [execOp, hs.ev hy, hs.ev hz, Instr.storeAt, Instr.sureAddr, storeVar, hn, hl, hv, Value.base, Addr.add_lit, hr, Sem.events_bind] at he
        exact hev e he
      · refine ⟨by rw [over_length]; exact hxl, .inr ⟨gb, off, cap, _, rfl, hh, hnc, hcm, by simpa [over_length] using hcs, ?_⟩⟩
        rw [List.toList_toArray, Nat.add_zero]
        apply List.ext_getElem?
        intro j
        rw [List.getElem?_take, List.getElem?_drop, over_get _ _ _ _ (by simp; omega), over_get _ _ _ _ hb, ← htake, List.getElem?_take, List.getElem?_drop]
        by_cases hj : j < n * sz
        · simp only [if_pos hj]
          by_cases h3 : i ≤ j ∧ j < i + cs.length
          · rw [if_pos h3, if_pos (by omega)]; congr 1; omega
          · rw [if_neg h3, if_neg (by omega)]
        · simp only [if_neg hj]
          rw [if_neg (by omega)])
end
end Go.Sim
end

section
set_option linter.unusedSimpArgs false
set_option linter.unusedVariables false
namespace Go.Sim
open Go Go.RowKit
set_option linter.unusedVariables false
set_option linter.unusedSimpArgs false
set_option linter.unusedSectionVars false
set_option linter.unnecessarySimpa false

section
variable {P : Program} {x : Cx P} {ops : Array Oper} {Q : Post} {rest : List Oper} {H : Hp} {M M' : List Res} {L L' : Env}
variable {d : Nat} {ty : TypeId} {pos : String} {aft : Array Edge} {g : Option (Nat × Bool)}

theorem OwnsR.shape {w : World} {T : TypeId} {sz n : Nat} {v : Value} {xs : List Value} (h : OwnsR w T sz v n xs) : ∃ a n c, v = .slice a n c := by
  rcases h.2 with ⟨rfl, _⟩ | ⟨gb, off, cap, cur, rfl, _⟩ <;> exact ⟨_, _, _, rfl⟩

/-- 'append(out, xs...)': out is owned and stands first; xs only is read. -/
theorem W_appendO {α : Type} [Rep α] {t e : TypeId} {bytes n : Nat} {z : Value} {y u : Operand} {v vu : Value} {xs : List Value} {l ys : List α}
    (hg : gd ops L ⟨some d, .call ⟨.builtin .append, #[y, u], #[t, t]⟩, ty, pos, aft, g⟩ = some true) (hN : Nat.blt d x.N = true)
    (hT : P.underlying t = some (.slice e)) (hi : TyI P e (Rep.sz α) bytes z) (hz : z.cells.size = Rep.sz α) (hs : Nat.blt 0 (Rep.sz α) = true) (hb0 : Nat.blt 0 bytes = true)
    (hy : ev L y = some v) (hu : ev L u = some vu) (hx : Rw H v xs l) (hR : RdS H vu ys) (hb : ((l.length + ys.length) * bytes : Nat) ≤ 140737488355328)
    (k : ∀ v' xs', Rw H v' xs' (l ++ ys) → W x ops Q rest H (.row v' e (Rep.sz α) (l ++ ys).length xs' :: M) ((d, v') :: L)) :
    W x ops Q (⟨some d, .call ⟨.builtin .append, #[y, u], #[t, t]⟩, ty, pos, aft, g⟩ :: rest) H (.row v e (Rep.sz α) n xs :: M) L := by
  refine W_append hg hN hT hi hz hs hb0 hy hu hx.rd hR hb fun v' n' xs' hx' => ?_
  intro a w hsl ht
  have hok : OwnsR w e (Rep.sz α) v' n' xs' := ht.ok _ (List.mem_cons_self ..)
  have hn : n' = (l ++ ys).length := by
    have h1 := hx'.len
    rw [hok.1] at h1
    exact Nat.eq_of_mul_eq_mul_right (by simpa [Nat.blt_eq] using hs) h1
  subst hn
  exact k v' xs' ⟨hx', hok.shape⟩ a w hsl ht

/-- An owned row with new memory. -/
theorem St.newRow {α : Type} [Rep α] {B : Nat} {P : Program} {w0 : Bs P} {w : World} {cells : List Value} {e : TypeId} {l : List α} (ht : St B w0 H M w) (hr : RdC H cells l) (hm : l.length ≤ maxLen) (hN : News w0 w (w.alloc (.cells cells.toArray e))) :
    St B w0 H (.row (.slice (some ⟨w.heap.size, 0, none⟩) l.length l.length) e (Rep.sz α) l.length cells :: M) (w.alloc (.cells cells.toArray e)) := by
  have h := ht.alloc (.cells cells.toArray e) hN
  have hl := hr.len
  refine ⟨h.below, h.le, h.hin, ?_, ?_, h.nd, h.kin, ?_, h.rlow⟩
  · intro r hr'
    rcases List.mem_cons.1 hr' with rfl | hr'
    · refine ⟨hl, .inr ⟨w.heap.size, 0, l.length, cells.toArray, rfl, h.ok _ (List.mem_cons_self ..), Nat.le_refl _, hm, by simp only [List.size_toArray]; omega, ?_⟩⟩
      rw [← hl, List.toList_toArray, List.drop_zero, List.take_length]
    · exact h.ok r (List.mem_cons_of_mem _ hr')
  · intro r hr'
    rcases List.mem_cons.1 hr' with rfl | hr'
    · exact h.lo (.obj w.heap.size (.cells cells.toArray e)) (List.mem_cons_self ..)
    · exact h.lo r (List.mem_cons_of_mem _ hr')
  · intro r hr'
    rcases List.mem_cons.1 hr' with rfl | hr'
    · exact h.kown (.obj w.heap.size (.cells cells.toArray e)) (List.mem_cons_self ..)
    · exact h.kown r (List.mem_cons_of_mem _ hr')

/-- 'make([]T, n)'. -/
theorem W_makeSlice {α : Type} [Rep α] {t e : TypeId} {bytes : Nat} {z : Value} {zs : List Value} {ze : α} {y y2 : Operand} {n : Int}
    (hg : gd ops L ⟨some d, .makeSlice t y y2, ty, pos, aft, g⟩ = some true) (hN : Nat.blt d x.N = true)
    (hT : P.underlying t = some (.slice e)) (hi : TyI P e (Rep.sz α) bytes z) (hz : z.cells = zs.toArray) (hs : Nat.blt 0 (Rep.sz α) = true) (hb0 : Nat.blt 0 bytes = true)
    (hE : Rep.E H zs ze) (hy : ev L y = some (.int .i64 n)) (hy2 : ev L y2 = some (.int .i64 n)) (h0 : 0 ≤ n) (hb : n * bytes ≤ 140737488355328)
    (k : ∀ v' xs', Rw H v' xs' (List.replicate n.toNat ze) → W x ops Q rest H (.row v' e (Rep.sz α) (List.replicate n.toNat ze).length xs' :: M) ((d, v') :: L)) :
    W x ops Q (⟨some d, .makeSlice t y y2, ty, pos, aft, g⟩ :: rest) H M L := by
  obtain ⟨i, h1, h2, h3, h4⟩ := hi.ex
  obtain ⟨m, rfl⟩ : ∃ m : Nat, n = m := ⟨n.toNat, by omega⟩
  have hs' : 0 < Rep.sz α := by simpa [Nat.blt_eq] using hs
  have hb0' : 0 < bytes := by simpa [Nat.blt_eq] using hb0
  have hcast : ((m * bytes : Nat) : Int) = (m : Int) * (bytes : Int) := Int.natCast_mul m bytes
  have hbn : m * bytes ≤ 140737488355328 := by omega
  have hm : m ≤ m * bytes := Nat.le_mul_of_pos_right _ hb0'
  have hzl : zs.length = Rep.sz α := Rep.len hE
  have hmax : m ≤ maxLen := by unfold maxLen; omega
  have hw : IntKind.i64.wrap (m : Int) = m := i64_of (by omega) (by omega)
  simp only [Int.toNat_natCast] at k
  have hrd : ∀ q, RdC H ((List.range (q * Rep.sz α)).map (zs.toArray[· % zs.length]!)) (List.replicate q ze) := by
    intro q
    induction q with
    | zero => rw [Nat.zero_mul]; exact rfl
    | succ q ih =>
      have hsplit : (List.range ((q + 1) * Rep.sz α)).map (zs.toArray[· % zs.length]!) = zs ++ (List.range (q * Rep.sz α)).map (zs.toArray[· % zs.length]!) := by
        apply List.ext_getElem?
        intro j
        rw [List.getElem?_append, List.getElem?_map]
        by_cases hj : j < zs.length
        · rw [if_pos hj, List.getElem?_range (by rw [Nat.add_mul]; omega)]
          simp [Nat.mod_eq_of_lt hj, hj]
        · rw [if_neg hj, List.getElem?_map]
          by_cases hj2 : j < (q + 1) * Rep.sz α
          · rw [List.getElem?_range hj2, List.getElem?_range (by rw [Nat.add_mul] at hj2; omega)]
            simp only [Option.map_some]
            rw [← Nat.mod_eq_sub_mod (by omega)]
          · rw [List.getElem?_eq_none (by simp; omega), List.getElem?_eq_none (by rw [Nat.add_mul] at hj2; simp; omega)]
      rw [hsplit]
      exact ⟨zs, _, rfl, hE, ih⟩
  have hlr : (List.replicate m ze).length = m := List.length_replicate
  refine W_run rfl hg hN fun a w hsl ht => ?_
  have hev : (execOp a.eval ⟨some d, .makeSlice t y y2, ty, pos, aft, g⟩).events P w #[] = #[] := by
    have := Conc.events_make (P := P) w t e i z hT h1 h4 .i64 .i64 m m (by omega) (Int.le_refl _) (by rw [h3, Int.mul_comm]; omega) (by omega) (by rw [h3]; simpa using hbn) #[]
    simp only [execOp, hsl.ev hy, hsl.ev hy2, Sem.events_bind, this]
    cases (Instr.makeSlice t (.int .i64 m) (.int .i64 m)).run P w <;> rfl
  refine ⟨.slice (some ⟨w.heap.size, 0, none⟩) (List.replicate m ze).length (List.replicate m ze).length, _, ?_, fun hN2 => ⟨by rw [hev]; exact Did.alloc _ _, H, _, St.newRow (e := e) ht (hrd m) (by rw [hlr]; exact hmax) hN2, k _ _ ⟨hrd m, _, _, _, rfl⟩⟩⟩
  have e1 : ¬ ((i.bytes : Int) * (m : Int) > 2 ^ 48) := by
    rw [h3, Int.mul_comm]
    omega
  have e3 : ¬ (m * i.bytes > roomBytes) := by rw [h3]; unfold roomBytes; omega
  have e4 : ¬ ((m : Int) < 0) := by omega
  have hti : ∀ w, (typeInfo e).run P w = .ok i w := fun w => by simp [typeInfo, h1]
  have hsz : ∀ w, (sizeOf e).run P w = .ok (Rep.sz α) w := fun w => by simp [sizeOf, hti, h2]
  have hzv : ∀ w, (zeroValue e).run P w = .ok z w := fun w => by simp [zeroValue, hti, h4]
  have hun : ∀ w, (underlying t).run P w = .ok (.slice e) w := fun w => run_underlying hT w
  have hnr : ∀ c w, (newRow e c).run P w = .ok ⟨w.heap.size, 0, none⟩ (w.alloc (.cells c e)) := fun c w => by
    simp only [newRow, newObj, Sem.run_bind, Sem.run_pure, Sem.run, Result.andThen_ok, World.alloc]
  rw [hlr]
  by_cases hm0 : m * Rep.sz α = 0
  · have : m = 0 := by
      rcases Nat.mul_eq_zero.1 hm0 with h | h <;> omega
    subst this
    simp only [execOp, hsl.ev hy, hsl.ev hy2, Instr.makeSlice, Sem.run_bind, hun, Result.andThen_ok, asInt, asIntOf, Sem.run_pure, hti, hw, e1, e4, decide_false, Bool.or_self, Bool.false_eq_true, if_false, Int.toNat_natCast, askRoom, hsz, hm0, if_true, hnr, gt_iff_lt, Int.lt_irrefl, Nat.zero_mul, Nat.not_lt_zero]
    simp [Array.range]
  · have e6 : (Array.range (m * Rep.sz α)).map (fun j => zs.toArray[j % zs.toArray.size]!) = ((List.range (m * Rep.sz α)).map (zs.toArray[· % zs.length]!)).toArray := by
      apply Array.ext'
      simp
    simp only [execOp, hsl.ev hy, hsl.ev hy2, Instr.makeSlice, Sem.run_bind, hun, Result.andThen_ok, asInt, asIntOf, Sem.run_pure, hti, hw, e1, e4, decide_false, Bool.or_self, Bool.false_eq_true, if_false, Int.toNat_natCast, askRoom, e3, hsz, hm0, hzv, hz, e6, hnr, gt_iff_lt, Int.lt_irrefl]

/-! ### Slice expressions -/
theorem run_sliceBound {P : Program} {w : World} {kk : IntKind} {i : Int} {y : Nat} {c : BoundsCode} (h0 : 0 ≤ i) (h1 : i ≤ y) : (Instr.sliceBound (.int kk i) y c).run P w = .ok i.toNat w := by
  simp [Instr.sliceBound, asIntOf, h0, h1]
/-- A bound: not written (then it is dflt), or a number from 0 to top. -/
def Bd (o : Option Value) (dflt top r : Nat) : Prop := (o = none ∧ r = dflt) ∨ ∃ kk i, o = some (.int kk i) ∧ 0 ≤ i ∧ i ≤ top ∧ i.toNat = r
/-- low, high (where none: the length), and the capacity of what comes out. -/
theorem run_sliceBounds {P : Program} {w : World} {len cap : Nat} {lo hi mx : Option Value} {l h m : Nat}
    (hmh : mx = none ∨ ∃ v, hi = some v) (hm : Bd mx cap cap m) (hh : Bd hi len m h) (hl : Bd lo 0 h l) :
    (Instr.sliceBounds true len cap lo hi mx).run P w = .ok (l, h, m) w := by
  rcases hm with ⟨rfl, rfl⟩ | ⟨km, im, rfl, m0, m1, rfl⟩
  · rcases hh with ⟨rfl, rfl⟩ | ⟨kh, ih, rfl, h0, h1, rfl⟩
    · rcases hl with ⟨rfl, rfl⟩ | ⟨kl, il, rfl, l0, l1, rfl⟩
      · simp only [Instr.sliceBounds, Sem.run_bind, Sem.run_pure, Result.andThen_ok]
      · simp only [Instr.sliceBounds, Sem.run_bind, Sem.run_pure, Result.andThen_ok, run_sliceBound l0 l1]
    · rcases hl with ⟨rfl, rfl⟩ | ⟨kl, il, rfl, l0, l1, rfl⟩
      · simp only [Instr.sliceBounds, Sem.run_bind, Sem.run_pure, Result.andThen_ok, run_sliceBound h0 h1]
      · simp only [Instr.sliceBounds, Sem.run_bind, Sem.run_pure, Result.andThen_ok, run_sliceBound h0 h1, run_sliceBound l0 l1]
  · rcases hmh with hmh | ⟨v, rfl⟩
    · cases hmh
    · rcases hh with ⟨hh, _⟩ | ⟨kh, ih, hh, h0, h1, rfl⟩
      · cases hh
      · obtain rfl := Option.some.inj hh
        rcases hl with ⟨rfl, rfl⟩ | ⟨kl, il, rfl, l0, l1, rfl⟩
        · simp only [Instr.sliceBounds, Sem.run_bind, Sem.run_pure, Result.andThen_ok, run_sliceBound m0 m1, run_sliceBound h0 h1]
        · simp only [Instr.sliceBounds, Sem.run_bind, Sem.run_pure, Result.andThen_ok, run_sliceBound m0 m1, run_sliceBound h0 h1, run_sliceBound l0 l1]
/-- The same, on operands. -/
def BdO (L : Env) (o : Option Operand) (dflt top r : Nat) : Prop := (o = none ∧ r = dflt) ∨ ∃ o' kk i, o = some o' ∧ ev L o' = some (.int kk i) ∧ 0 ≤ i ∧ i ≤ top ∧ i.toNat = r
theorem BdO.bd {N : Nat} {a : Act} {o : Option Operand} {dflt top r : Nat} (hs : Sl N L a) (h : BdO L o dflt top r) : Bd (o.map a.eval) dflt top r := by
  rcases h with ⟨rfl, rfl⟩ | ⟨o', kk, i, rfl, he, h0, h1, rfl⟩
  · exact .inl ⟨rfl, rfl⟩
  · exact .inr ⟨kk, i, by simp [hs.ev he], h0, h1, rfl⟩
theorem run_sliceAt {P : Program} {w : World} {t e : TypeId} {sz len cap : Nat} {a : Option Addr} {lo hi mx : Option Value} {l h m : Nat} (hT : ∀ w, (underlying t).run P w = .ok (.slice e) w) (hs : ∀ w, (sizeOf e).run P w = .ok sz w)
    (hmh : mx = none ∨ ∃ v, hi = some v) (hm : Bd mx cap cap m) (hh : Bd hi len m h) (hl : Bd lo 0 h l) :
    (Instr.sliceAt t (.slice a len cap) lo hi mx).run P w = .ok (.slice (if m = l then a else a.map (·.add (l * sz))) (h - l) (m - l)) w := by
  simp only [Instr.sliceAt, Sem.run_bind, hT, Result.andThen_ok, Instr.slice, run_sliceBounds hmh hm hh hl, hs, Sem.run_pure]

theorem ev_sliceBound {P : Program} {w : World} {es : Array Event} {kk : IntKind} {i : Int} {y : Nat} {c : BoundsCode} (h0 : 0 ≤ i) (h1 : i ≤ y) : (Instr.sliceBound (.int kk i) y c).events P w es = es := by
  simp [Instr.sliceBound, asIntOf, h0, h1]
theorem ev_sliceBounds {P : Program} {w : World} {es : Array Event} {len cap : Nat} {lo hi mx : Option Value} {l h m : Nat}
    (hmh : mx = none ∨ ∃ v, hi = some v) (hm : Bd mx cap cap m) (hh : Bd hi len m h) (hl : Bd lo 0 h l) :
    (Instr.sliceBounds true len cap lo hi mx).events P w es = es := by
  rcases hm with ⟨rfl, rfl⟩ | ⟨km, im, rfl, m0, m1, rfl⟩
  · rcases hh with ⟨rfl, rfl⟩ | ⟨kh, ih, rfl, h0, h1, rfl⟩
    · rcases hl with ⟨rfl, rfl⟩ | ⟨kl, il, rfl, l0, l1, rfl⟩
      · simp [Instr.sliceBounds]
      · simp [Instr.sliceBounds, run_sliceBound l0 l1, ev_sliceBound l0 l1]
    · rcases hl with ⟨rfl, rfl⟩ | ⟨kl, il, rfl, l0, l1, rfl⟩
      · simp [Instr.sliceBounds, run_sliceBound h0 h1, ev_sliceBound h0 h1]
      · simp [Instr.sliceBounds, run_sliceBound h0 h1, run_sliceBound l0 l1, ev_sliceBound h0 h1, ev_sliceBound l0 l1]
  · rcases hmh with hmh | ⟨v, rfl⟩
    · cases hmh
    · rcases hh with ⟨hh, _⟩ | ⟨kh, ih, hh, h0, h1, rfl⟩
      · cases hh
      · obtain rfl := Option.some.inj hh
        rcases hl with ⟨rfl, rfl⟩ | ⟨kl, il, rfl, l0, l1, rfl⟩
        · simp [Instr.sliceBounds, run_sliceBound m0 m1, run_sliceBound h0 h1, ev_sliceBound m0 m1, ev_sliceBound h0 h1]
        · simp [Instr.sliceBounds, run_sliceBound m0 m1, run_sliceBound h0 h1, run_sliceBound l0 l1, ev_sliceBound m0 m1, ev_sliceBound h0 h1, ev_sliceBound l0 l1]
theorem ev_sliceAt {P : Program} {w : World} {es : Array Event} {t e : TypeId} {sz len cap : Nat} {a : Option Addr} {lo hi mx : Option Value} {l h m : Nat} (hT : ∀ w, (underlying t).run P w = .ok (.slice e) w) (hs : ∀ w, (sizeOf e).run P w = .ok sz w)
    (hmh : mx = none ∨ ∃ v, hi = some v) (hm : Bd mx cap cap m) (hh : Bd hi len m h) (hl : Bd lo 0 h l) :
    (Instr.sliceAt t (.slice a len cap) lo hi mx).events P w es = es := by
  simp [Instr.sliceAt, hT, Instr.slice, run_sliceBounds hmh hm hh hl, ev_sliceBounds hmh hm hh hl, hs]

theorem mx_hi {a : Act} {mx hi : Option Operand} (h : mx = none ∨ ∃ o, hi = some o) : mx.map a.eval = none ∨ ∃ v, hi.map a.eval = some v := by
  rcases h with rfl | ⟨o, rfl⟩
  · exact .inl rfl
  · exact .inr ⟨_, rfl⟩

/-- A part of a slice that only is read; the capacity is kept, or cut to the part's end ('x[:i:i]'). -/
theorem W_sliceR {α : Type} [Rep α] {t e : TypeId} {y : Operand} {lo hi mx : Option Operand} {v : Value} {xs : List α} {l h : Nat} (hg : gd ops L ⟨some d, .slice t y lo hi mx, ty, pos, aft, g⟩ = some true) (hN : Nat.blt d x.N = true)
    (hT : ∀ w, (underlying t).run P w = .ok (.slice e) w) (hs : ∀ w, (sizeOf e).run P w = .ok (Rep.sz α) w)
    (hy : ev L y = some v) (hR : RdS H v xs) (hlh : l ≤ h) (hhx : h ≤ xs.length) (hmh : mx = none ∨ ∃ o, hi = some o)
    (hm : ∀ cap, h ≤ cap → BdO L mx cap cap (if mx = none then cap else h)) (hh : ∀ m, h ≤ m → BdO L hi xs.length m h) (hl : BdO L lo 0 h l)
    (k : ∀ v', RdS H v' ((xs.drop l).take (h - l)) → (mx ≠ none → Value.cap' v' = h - l) → W x ops Q rest H M ((d, v') :: L)) :
    W x ops Q (⟨some d, .slice t y lo hi mx, ty, pos, aft, g⟩ :: rest) H M L := by
  have hlen : ((xs.drop l).take (h - l)).length = h - l := by simp; omega
  rcases hR with ⟨⟨a0, rfl⟩, rfl⟩ | ⟨b, off, cap, arr, T, fz, rfl, h2, h3, h4, h5, h6⟩
  · have hl0 : l = 0 := by simp at hhx; omega
    have hh0 : h = 0 := by simp at hhx; omega
    subst hl0; subst hh0
    have hif : (if mx = none then 0 else 0) = 0 := by split <;> rfl
    refine W_pure0 (v := .slice a0 0 0) rfl hg hN (fun c w hsl ht => ?_) (k _ (.inl ⟨⟨_, rfl⟩, by simp⟩) (fun _ => rfl))
    have hm' := (hm 0 (Nat.le_refl _)).bd hsl
    rw [hif] at hm'
    have hr := run_sliceAt (P := P) (w := w) (len := 0) (cap := 0) (a := a0) hT hs (mx_hi hmh) hm' ((hh 0 (Nat.le_refl _)).bd hsl) (hl.bd hsl)
    have he := ev_sliceAt (P := P) (w := w) (es := #[]) (len := 0) (cap := 0) (a := a0) hT hs (mx_hi hmh) hm' ((hh 0 (Nat.le_refl _)).bd hsl) (hl.bd hsl)
    simp only [Nat.sub_self, if_true] at hr
    refine ⟨?_, ?_⟩
    · simp only [execOp, hsl.ev hy, Sem.run_bind, hr, Result.andThen_ok, Sem.run_pure]
    · simp only [execOp, hsl.ev hy, Sem.events_bind, hr, he, Result.evThen_ok, Sem.events_pure]
  · have hmc : h ≤ (if mx = none then cap else h) ∧ (if mx = none then cap else h) ≤ cap := by split <;> omega
    generalize hmm : (if mx = none then cap else h) = m at hmc
    refine W_pure0 (v := .slice (if m = l then some ⟨b, off, none⟩ else some ((⟨b, off, none⟩ : Addr).add (l * Rep.sz α))) (h - l) (m - l)) rfl hg hN (fun c w hsl ht => ?_) (k _ ?_ ?_)
    · have hm' := (hm cap (by omega)).bd hsl
      rw [hmm] at hm'
      refine ⟨?_, ?_⟩
      · simp only [execOp, hsl.ev hy, Sem.run_bind, run_sliceAt hT hs (mx_hi hmh) hm' ((hh m hmc.1).bd hsl) (hl.bd hsl), Result.andThen_ok, Sem.run_pure]
        split <;> rfl
      · simp only [execOp, hsl.ev hy, Sem.events_bind, run_sliceAt hT hs (mx_hi hmh) hm' ((hh m hmc.1).bd hsl) (hl.bd hsl), ev_sliceAt hT hs (mx_hi hmh) hm' ((hh m hmc.1).bd hsl) (hl.bd hsl), Result.evThen_ok, Sem.events_pure]
    · by_cases hml : m = l
      · have : h - l = 0 := by omega
        have e0 : m - l = 0 := by omega
        rw [if_pos hml, this, e0]
        exact .inl ⟨⟨_, rfl⟩, by simp⟩
      · rw [if_neg hml, Addr.add_lit]
        have hmul : l * Rep.sz α + (m - l) * Rep.sz α ≤ cap * Rep.sz α := by
          rw [← Nat.add_mul]; exact Nat.mul_le_mul_right _ (by omega)
        refine .inr ⟨b, off + l * Rep.sz α, m - l, arr, T, fz, by rw [hlen], by omega, by omega, h4, by omega, fun j el hel => ?_⟩
        rw [List.getElem?_take] at hel
        split at hel
        · rw [List.getElem?_drop] at hel
          obtain ⟨cs, q1, q2⟩ := h6 (l + j) el hel
          refine ⟨cs, q1, fun i c hc => ?_⟩
          rw [show off + l * Rep.sz α + j * Rep.sz α + i = off + (l + j) * Rep.sz α + i by rw [Nat.add_mul]; omega]
          exact q2 i c hc
        · cases hel
    · intro hne
      rw [if_neg hne] at hmm
      subst hmm; rfl

/-- A part of an owned row, from its beginning or not: the rest is given up. -/
theorem W_sliceOC {α : Type} [Rep α] {t e T : TypeId} {n : Nat} {y : Operand} {lo hi : Option Operand} {v : Value} {cs : List Value} {xs : List α} {l h : Nat} (hg : gd ops L ⟨some d, .slice t y lo hi none, ty, pos, aft, g⟩ = some true) (hN : Nat.blt d x.N = true)
    (hT : ∀ w, (underlying t).run P w = .ok (.slice e) w) (hs : ∀ w, (sizeOf e).run P w = .ok (Rep.sz α) w) (hs0 : Nat.blt 0 (Rep.sz α) = true)
    (hy : ev L y = some v) (hR : Rw H v cs xs) (hlh : l ≤ h) (hhx : h ≤ xs.length)
    (hh : ∀ m, h ≤ m → BdO L hi xs.length m h) (hl : BdO L lo 0 h l)
    (k : ∀ v' cs', Rw H v' cs' ((xs.drop l).take (h - l)) → Value.cap' v' = Value.cap' v - l → W x ops Q rest H (.row v' T (Rep.sz α) ((xs.drop l).take (h - l)).length cs' :: M) ((d, v') :: L)) :
    W x ops Q (⟨some d, .slice t y lo hi none, ty, pos, aft, g⟩ :: rest) H (.row v T (Rep.sz α) n cs :: M) L := by
  have hlen : ((xs.drop l).take (h - l)).length = h - l := by simp; omega
  refine W_run rfl hg hN fun a w hsl ht => ?_
  have hok : OwnsR w T (Rep.sz α) v n cs := ht.ok _ (List.mem_cons_self ..)
  have hn : n = xs.length := by
    have h1 := hR.rd.len
    rw [hok.1] at h1
    exact Nat.eq_of_mul_eq_mul_right (by simpa [Nat.blt_eq] using hs0) h1
  subst hn
  have hrd := (hR.rd.split h).1.split l
  have hrd2 : RdC H ((cs.take (h * Rep.sz α)).drop (l * Rep.sz α)) ((xs.drop l).take (h - l)) := by
    have := hrd.2
    rwa [List.drop_take (l := xs)] at this
  have hcl := hrd2.len
  rcases hok.2 with ⟨rfl, h0⟩ | ⟨gb, off, cap, cur, rfl, hgb, hnc, hcm, hcs, htake⟩
  · have hl0 : l = 0 := by omega
    have hh0 : h = 0 := by omega
    subst hl0; subst hh0
    refine ⟨.slice none 0 0, w, ?_, fun _ => ⟨?_, H, _, ?_, k _ [] (by simpa using (Rw.nil : Rw H (.slice none 0 0) [] ([] : List α))) rfl⟩⟩
    · have hh' := (hh 0 (Nat.le_refl _)).bd hsl
      rw [h0] at hh'
      have hr := run_sliceAt (P := P) (w := w) (len := 0) (cap := 0) (a := none) (mx := none) hT hs (.inl rfl) (.inl ⟨rfl, rfl⟩) hh' (hl.bd hsl)
      simp only [Nat.sub_self, if_true] at hr
      simp only [execOp, hsl.ev hy, Sem.run_bind, Option.map_none, hr, Result.andThen_ok, Sem.run_pure]
    · have hh' := (hh 0 (Nat.le_refl _)).bd hsl
      rw [h0] at hh'
      have hr := run_sliceAt (P := P) (w := w) (len := 0) (cap := 0) (a := none) (mx := none) hT hs (.inl rfl) (.inl ⟨rfl, rfl⟩) hh' (hl.bd hsl)
      have he := ev_sliceAt (P := P) (w := w) (es := #[]) (len := 0) (cap := 0) (a := none) (mx := none) hT hs (.inl rfl) (.inl ⟨rfl, rfl⟩) hh' (hl.bd hsl)
      simp only [execOp, hsl.ev hy, Sem.events_bind, Option.map_none, hr, he, Result.evThen_ok, Sem.events_pure]
      exact Did.idle _
    · have := ht.tail.nilRow T (Rep.sz α)
      simpa using this
  · refine ⟨.slice (if cap = l then some ⟨gb, off, none⟩ else some ((⟨gb, off, none⟩ : Addr).add (l * Rep.sz α))) (h - l) (cap - l), w, ?_, fun _ => ⟨?_, H, _, ?_, k _ _ ⟨hrd2, _, _, _, rfl⟩ rfl⟩⟩
    · simp only [execOp, hsl.ev hy, Sem.run_bind, run_sliceAt (mx := none) (m := cap) hT hs (.inl rfl) (.inl ⟨rfl, rfl⟩) ((hh cap (by omega)).bd hsl) (hl.bd hsl), Option.map_none, Result.andThen_ok, Sem.run_pure]
      split <;> rfl
    · simp only [execOp, hsl.ev hy, Sem.events_bind, run_sliceAt (mx := none) (m := cap) hT hs (.inl rfl) (.inl ⟨rfl, rfl⟩) ((hh cap (by omega)).bd hsl) (hl.bd hsl), ev_sliceAt (mx := none) (m := cap) hT hs (.inl rfl) (.inl ⟨rfl, rfl⟩) ((hh cap (by omega)).bd hsl) (hl.bd hsl), Option.map_none, Result.evThen_ok, Sem.events_pure]
      exact Did.idle _
    · have hgr : w.grownBy w (Res.foot (.row (.slice (some ⟨gb, off, none⟩) xs.length cap) T (Rep.sz α) xs.length cs)) := ⟨rfl, rfl, rfl, Nat.le_refl _, fun _ _ _ => rfl⟩
      rw [hlen]
      have hmul : l * Rep.sz α + (cap - l) * Rep.sz α = cap * Rep.sz α := by rw [← Nat.add_mul]; congr 1; omega
      have hmul2 : h * Rep.sz α = l * Rep.sz α + (h - l) * Rep.sz α := by rw [← Nat.add_mul]; congr 1; omega
      have hmul3 : h * Rep.sz α ≤ xs.length * Rep.sz α := Nat.mul_le_mul_right _ hhx
      have hxl : cs.length = xs.length * Rep.sz α := hok.1
      by_cases hcl2 : cap = l
      · have e1 : h - l = 0 := by omega
        have e2 : cap - l = 0 := by omega
        rw [if_pos hcl2, e1, e2]
        have e3 : (cs.take (h * Rep.sz α)).drop (l * Rep.sz α) = [] := by
          apply List.eq_nil_of_length_eq_zero; rw [hcl, hlen, e1, Nat.zero_mul]
        rw [e3]
        exact ht.upd (r' := .row (.slice (some ⟨gb, off, none⟩) 0 0) T (Rep.sz α) 0 []) hgr ⟨by simp, .inr ⟨gb, off, 0, cur, rfl, hgb, Nat.le_refl _, by unfold maxLen; omega, by omega, by simp⟩⟩ (News.same _) (fun c hc => .inl hc)
      · rw [if_neg hcl2, Addr.add_lit]
        refine ht.upd (r' := .row (.slice (some ⟨gb, off + l * Rep.sz α, none⟩) (h - l) (cap - l)) T (Rep.sz α) (h - l) _) hgr ⟨?_, .inr ⟨gb, off + l * Rep.sz α, cap - l, cur, rfl, hgb, by omega, by omega, by omega, ?_⟩⟩ (News.same _) (fun c hc => .inl hc)
        · rw [hcl, hlen]
        · rw [← htake, List.take_take, Nat.min_eq_left hmul3, List.drop_take, List.drop_drop]
          congr 1; omega
theorem W_sliceO {α : Type} [Rep α] {t e T : TypeId} {n : Nat} {y : Operand} {lo hi : Option Operand} {v : Value} {cs : List Value} {xs : List α} {l h : Nat} (hg : gd ops L ⟨some d, .slice t y lo hi none, ty, pos, aft, g⟩ = some true) (hN : Nat.blt d x.N = true)
    (hT : ∀ w, (underlying t).run P w = .ok (.slice e) w) (hs : ∀ w, (sizeOf e).run P w = .ok (Rep.sz α) w) (hs0 : Nat.blt 0 (Rep.sz α) = true)
    (hy : ev L y = some v) (hR : Rw H v cs xs) (hlh : l ≤ h) (hhx : h ≤ xs.length)
    (hh : ∀ m, h ≤ m → BdO L hi xs.length m h) (hl : BdO L lo 0 h l)
    (k : ∀ v' cs', Rw H v' cs' ((xs.drop l).take (h - l)) → W x ops Q rest H (.row v' T (Rep.sz α) ((xs.drop l).take (h - l)).length cs' :: M) ((d, v') :: L)) :
    W x ops Q (⟨some d, .slice t y lo hi none, ty, pos, aft, g⟩ :: rest) H (.row v T (Rep.sz α) n cs :: M) L :=
  W_sliceOC hg hN hT hs hs0 hy hR hlh hhx hh hl (fun v' cs' h _ => k v' cs' h)
end
end Go.Sim
end

section
set_option linter.unusedSimpArgs false
set_option linter.unusedVariables false
namespace Go.Sim
open Go Go.RowKit
set_option linter.unusedVariables false
set_option linter.unusedSimpArgs false
set_option linter.unusedSectionVars false
set_option linter.unnecessarySimpa false

/-- A part of a list: from l to h. -/
def slc {α : Type} (xs : List α) (l h : Nat) : List α := (xs.drop l).take (h - l)
theorem slc_len {α : Type} (xs : List α) (l h : Nat) : (slc xs l h).length = min (h - l) (xs.length - l) := by simp [slc]
theorem Rw.room {α : Type} [Rep α] {H : Hp} {v : Value} {xs : List Value} {l : List α} (h : Rw H v xs l) {k : Nat} {e : α} (he : l[k]? = some e) {o m : Nat} (hb : Nat.ble (o + m) (Rep.sz α) = true) : k * Rep.sz α + o + m ≤ xs.length := by
  have hk : k < l.length := (List.getElem?_eq_some_iff.1 he).1
  have hkk : (k + 1) * Rep.sz α ≤ l.length * Rep.sz α := Nat.mul_le_mul_right _ hk
  have hb' : o + m ≤ Rep.sz α := by simpa [Nat.ble_eq] using hb
  rw [h.rd.len]
  rw [Nat.add_mul, Nat.one_mul] at hkk
  omega
theorem row_ad0 (a : Addr) (i : Nat) : a.add i = a.add (i + 0) := rfl
theorem row_ad (a : Addr) (i o : Nat) : (a.add i).add o = a.add (i + o) := add_add a i o

section
variable {P : Program} {x : Cx P} {ops : Array Oper} {Q : Post} {rest : List Oper} {H : Hp} {M M' : List Res} {L L' : Env}
variable {d : Nat} {ty : TypeId} {pos : String} {aft : Array Edge} {g : Option (Nat × Bool)}

/-- A slice literal without elements. -/
theorem W_build0 (α : Type) [Rep α] {T e : TypeId}
    (hg : gd ops L ⟨some d, .buildSlice T 0 #[], ty, pos, aft, g⟩ = some true) (hN : Nat.blt d x.N = true)
    (hT : ∀ w, (underlying T).run P w = .ok (.slice e) w) (hs : ∀ w, (sizeOf e).run P w = .ok (Rep.sz α) w)
    (k : ∀ v' xs', Rw H v' xs' ([] : List α) → W x ops Q rest H (.row v' e (Rep.sz α) ([] : List α).length xs' :: M) ((d, v') :: L)) :
    W x ops Q (⟨some d, .buildSlice T 0 #[], ty, pos, aft, g⟩ :: rest) H M L := by
  refine W_run rfl hg hN fun a w hsl ht => ?_
  have hnr : ∀ c w, (newRow e c).run P w = .ok ⟨w.heap.size, 0, none⟩ (w.alloc (.cells c e)) := fun c w => by
    simp only [newRow, newObj, Sem.run_bind, Sem.run_pure, Sem.run, Result.andThen_ok, World.alloc]
  have hev : (execOp a.eval ⟨some d, .buildSlice T 0 #[], ty, pos, aft, g⟩).events P w #[] = #[] := by
    simp [execOp, Instr.buildSlice, hT, hs, Instr.fill, Array.range, newRow]
  refine ⟨.slice (some ⟨w.heap.size, 0, none⟩) 0 0, _, ?_, fun hN2 => ⟨by rw [hev]; exact Did.alloc _ _, H, _, St.newRow (α := α) (cells := []) (l := []) (e := e) ht rfl (by unfold maxLen; simp) hN2, k _ _ ⟨rfl, _, _, _, rfl⟩⟩⟩
  simp only [execOp, Instr.buildSlice, Sem.run_bind, hT, hs, Result.andThen_ok, Nat.zero_mul, Nat.not_lt_zero, gt_iff_lt, if_false, if_true, Sem.run_pure]
  simp [Instr.fill, hnr, Array.range]
end
end Go.Sim
end

section
set_option linter.unusedSimpArgs false
set_option linter.unusedVariables false
namespace Go.Sim
open Go Go.RowKit
set_option linter.unusedVariables false
set_option linter.unusedSimpArgs false
set_option linter.unusedSectionVars false
set_option linter.unnecessarySimpa false

/-- A string's bytes. -/
def bytesL (s : ByteArray) : List U8 := s.data.toList.map fun b => ⟨b.toNat⟩

section
variable {P : Program} {x : Cx P} {ops : Array Oper} {Q : Post} {rest : List Oper} {H : Hp} {M M' : List Res} {L L' : Env}
variable {d : Nat} {ty : TypeId} {pos : String} {aft : Array Edge} {g : Option (Nat × Bool)}

def bcells (s : ByteArray) (cap : Nat) : Array Value := s.data.map (fun b : UInt8 => Value.int .u8 b.toNat) ++ Array.replicate (cap - s.size) (Value.int .u8 0)
theorem freeze_alloc (w : World) (c : Array Value) (e : TypeId) : (w.alloc (.cells c e)).freeze ⟨w.heap.size, c.size, none⟩ 1 = w.alloc (.cells c e (c.size, c.size + 1)) := by
  have key : ∀ (f : Obj → Obj), f (.cells c e) = .cells c e (c.size, c.size + 1) → (w.heap.push (.cells c e)).modify w.heap.size f = w.heap.push (.cells c e (c.size, c.size + 1)) := by
    intro f hf
    apply Array.ext_getElem?
    intro i
    rw [Array.getElem?_modify, Array.getElem?_push, Array.getElem?_push]
    by_cases h : w.heap.size = i
    · subst h; simp [hf]
    · rw [if_neg h, if_neg (fun q => h q.symm), if_neg (fun q => h q.symm)]
  unfold World.freeze
  rw [if_neg (by omega)]
  show ({ w with heap := (w.heap.push (.cells c e)).modify w.heap.size _ } : World) = { w with heap := w.heap.push (.cells c e (c.size, c.size + 1)) }
  rw [key _ (by simp)]
theorem bytesL_len (s : ByteArray) : (bytesL s).length = s.size := by unfold bytesL; rw [List.length_map, Array.length_toList]; rfl
theorem run_stringToBytes {P : Program} {w : World} {e : TypeId} {s : ByteArray} :
    (Conv.stringToBytes e s).run P w = .ok (.slice (some ⟨w.heap.size, 0, none⟩) s.size (grownCap w s.size 0 e))
      (w.drew.alloc (.cells (bcells s (grownCap w s.size 0 e)) e ((bcells s (grownCap w s.size 0 e)).size, (bcells s (grownCap w s.size 0 e)).size + 1))) := by
  have hch : (choose (.appendCap s.size 0 e)).run P w = .ok (grownCap w s.size 0 e) w.drew := by
    simp only [choose, Sem.run, Question.forced, Bool.false_eq_true, if_false]; rfl
  have hnr : ∀ (c : Array Value) (w : World), (newRow e c).run P w = .ok ⟨w.heap.size, 0, none⟩ (w.alloc (.cells c e)) := fun c w => by
    simp only [newRow, newObj, Sem.run_bind, Sem.run_pure, Sem.run, Result.andThen_ok, World.alloc]
  have hms : ∀ (c : Array Value) (w : World), (markStringish ⟨w.heap.size, 0, none⟩).run P (w.alloc (.cells c e)) = .ok () (w.alloc (.cells c e (c.size, c.size + 1))) := fun c w => by
    have hsh : (w.alloc (.cells c e)).shape? w.heap.size = some (e, c.size) := by
      have : (w.alloc (.cells c e)).heap[w.heap.size]? = some (.cells c e) := heap_alloc_new w _
      simp only [World.shape?, this]
    simp only [markStringish, shape, Sem.run_bind, Sem.run, hsh, Result.andThen_ok, Go.freeze, freeze_alloc]
  simp only [Conv.stringToBytes, Sem.run_bind, hch, Result.andThen_ok, hnr]
  have := hms (bcells s (grownCap w s.size 0 e)) w.drew
  simp only [bcells] at this ⊢
  rw [show (w.drew.heap.size) = w.heap.size from rfl] at this ⊢
  rw [this]
  rfl
theorem mute_stringToBytes {P : Program} (e : TypeId) (s : ByteArray) : Mute P (Conv.stringToBytes e s) := by
  unfold Conv.stringToBytes
  refine Mute.bind (fun w es => by simp) fun cap => ?_
  refine Mute.bind (fun w es => by simp [newRow]) fun a => ?_
  refine Mute.bind ?_ fun _ => Mute.pure _
  unfold markStringish
  refine Mute.bind (fun w es => by simp) fun r => ?_
  split
  · exact fun w es => by simp
  · exact Mute.pure _
theorem W_convBytes {t u e : TypeId} {y : Operand} {s : ByteArray} (hg : gd ops L ⟨some d, .convert t u y, ty, pos, aft, g⟩ = some true) (hN : Nat.blt d x.N = true)
    (ht : ∀ w, (underlying t).run P w = .ok .string w) (hu : ∀ w, (underlying u).run P w = .ok (.slice e) w) (he : ∀ w, (underlying e).run P w = .ok (.int .u8) w)
    (hy : ev L y = some (.string s)) (hs : s.size ≤ maxLen)
    (k : ∀ v H', H.le H' → RdS H' v (bytesL s) → W x ops Q rest H' M ((d, v) :: L)) :
    W x ops Q (⟨some d, .convert t u y, ty, pos, aft, g⟩ :: rest) H M L := by
  refine W_run rfl hg hN fun a w hsl h => ?_
  have hge := grownCap_ge w s.size 0 e
  have hcm : grownCap w s.size 0 e ≤ maxLen := grownCap_le_maxLen w s.size 0 e hs
  have h' : St x.B x.w0 H M w.drew := h.drewN (w.drawn + 1)
  generalize hcap : grownCap w s.size 0 e = cap at hge hcm
  have hev : (execOp a.eval ⟨some d, .convert t u y, ty, pos, aft, g⟩).events P w #[] = #[] := by
    simp only [execOp, hsl.ev hy, convert, Sem.events_bind, Sem.run_bind, ht, hu, he, Result.andThen_ok, Result.evThen_ok, events_underlying, mute_stringToBytes (P := P) e s w #[]]
    cases (Conv.stringToBytes e s).run P w <;> rfl
  refine ⟨.slice (some ⟨w.heap.size, 0, none⟩) s.size cap, w.drew.alloc (.cells (bcells s cap) e ((bcells s cap).size, (bcells s cap).size + 1)), ?_, fun hN2 => ?_⟩
  rotate_left
  have ha := (h'.alloc (.cells (bcells s cap) e ((bcells s cap).size, (bcells s cap).size + 1)) hN2).freeze
  refine ⟨?_, _, M, ha.2, k _ _ ha.1 (.inr ⟨w.heap.size, 0, cap, _, e, _, ?_, ?_, hcm, Hp.add_self _ _ _, ?_, ?_⟩)⟩
  · rw [hev]
    exact ⟨rfl, rfl, rfl, by simp [World.size_alloc], fun b hb _ => heap_alloc_old w.drew _ (h := hb), by simp⟩
  rotate_left 4
  · have hr := run_stringToBytes (P := P) (w := w) (e := e) (s := s)
    rw [hcap] at hr
    simp only [execOp, hsl.ev hy, convert, Sem.run_bind, ht, hu, he, Result.andThen_ok, hr, Sem.run_pure]
  · rw [bytesL_len]
  · rw [bytesL_len]; exact hge
  · have e0 : s.size = s.data.size := rfl
    simp [Rep.sz, bcells]
    omega
  · intro j el hel
    refine ⟨[.int .u8 el.n], rfl, fun i c hc => ?_⟩
    have hi : i = 0 := by
      have := (List.getElem?_eq_some_iff.1 hc).1
      simp at this; omega
    subst hi
    simp at hc; subst hc
    have hj := (List.getElem?_eq_some_iff.1 hel).1
    simp [bytesL] at hel hj
    obtain ⟨b, hb, rfl⟩ := hel
    simp only [Rep.sz, Nat.zero_add, Nat.mul_one, Nat.add_zero, bcells]
    rw [Array.getElem?_append_left (by simpa using hj), Array.getElem?_map, hb]
    rfl

theorem run_equalNil {P : Program} {w : World} {t e : TypeId} {o : Option Addr} {n c : Nat} (hT : ∀ w, (underlying t).run P w = .ok (.slice e) w) : (Op.equal t (.slice o n c) (.slice none 0 0)).run P w = .ok o.isNone w := by
  have key : ∀ k, (Op.equalIn (k + 1) t (.slice o n c) (.slice none 0 0)).run P w = .ok o.isNone w := fun k => by
    unfold Op.equalIn
    cases o <;> simp [hT]
  exact key 9999
theorem mute_equalNil {P : Program} {w : World} {es : Array Event} {t e : TypeId} {o : Option Addr} {n c : Nat} (hT : ∀ w, (underlying t).run P w = .ok (.slice e) w) : (Op.equal t (.slice o n c) (.slice none 0 0)).events P w es = es := by
  have key : ∀ k, (Op.equalIn (k + 1) t (.slice o n c) (.slice none 0 0)).events P w es = es := fun k => by
    unfold Op.equalIn
    cases o <;> simp [hT]
  exact key 9999
theorem W_eqNil {t e u : TypeId} {y z : Operand} {o : Option Addr} {n c : Nat} (hg : gd ops L ⟨some d, .binOp .eql t y z u, ty, pos, aft, g⟩ = some true) (hN : Nat.blt d x.N = true)
    (hT : ∀ w, (underlying t).run P w = .ok (.slice e) w) (hy : ev L y = some (.slice o n c)) (hz : ev L z = some (.slice none 0 0))
    (k : W x ops Q rest H M ((d, .bool o.isNone) :: L)) :
    W x ops Q (⟨some d, .binOp .eql t y z u, ty, pos, aft, g⟩ :: rest) H M L :=
  W_pure0 rfl hg hN (fun a w hs _ => by
    refine ⟨?_, ?_⟩
    · simp only [execOp, hs.ev hy, hs.ev hz, Sem.run_bind, eqGuard, binOp, run_equalNil hT, Result.andThen_ok, Sem.run_pure]
      rfl
    · simp [execOp, hs.ev hy, hs.ev hz, eqGuard, binOp, run_equalNil hT, mute_equalNil hT]) k
theorem W_neNil {t e u : TypeId} {y z : Operand} {o : Option Addr} {n c : Nat} (hg : gd ops L ⟨some d, .binOp .neq t y z u, ty, pos, aft, g⟩ = some true) (hN : Nat.blt d x.N = true)
    (hT : ∀ w, (underlying t).run P w = .ok (.slice e) w) (hy : ev L y = some (.slice o n c)) (hz : ev L z = some (.slice none 0 0))
    (k : W x ops Q rest H M ((d, .bool (!o.isNone)) :: L)) :
    W x ops Q (⟨some d, .binOp .neq t y z u, ty, pos, aft, g⟩ :: rest) H M L :=
  W_pure0 rfl hg hN (fun a w hs _ => by
    refine ⟨?_, ?_⟩
    · simp only [execOp, hs.ev hy, hs.ev hz, Sem.run_bind, eqGuard, binOp, run_equalNil hT, Result.andThen_ok, Sem.run_pure]
      rfl
    · simp [execOp, hs.ev hy, hs.ev hz, eqGuard, binOp, run_equalNil hT, mute_equalNil hT]) k
end
end Go.Sim
end

section
set_option linter.unusedSimpArgs false
set_option linter.unusedVariables false
namespace Go.Sim
open Go Go.RowKit
set_option linter.unusedVariables false
set_option linter.unusedSimpArgs false
set_option linter.unusedSectionVars false
set_option linter.unnecessarySimpa false

/-! ### Lending -/
section
variable {B : Nat} {P : Program} {w0 : Bs P} {w : World} {H : Hp} {M : List Res}

/-- An owned row is lent: it reads, and comes back. -/
theorem St.lendRow {α : Type} [Rep α] {v : Value} {T : TypeId} {n : Nat} {xs : List Value} {ys : List α}
    (h : St B w0 H (.row v T (Rep.sz α) n xs :: M) w) (hx : Rw H v xs ys) (hs : Nat.blt 0 (Rep.sz α) = true) :
    ∃ H', H.le H' ∧ St B w0 H' M w ∧ RdS H' v ys ∧ ∀ M' w', St B w0 H' M' w' → St B w0 H (.row v T (Rep.sz α) n xs :: M') w' := by
  have hs' : 0 < Rep.sz α := by simpa [Nat.blt_eq] using hs
  have hok := h.ok _ (List.mem_cons_self ..)
  have hlo := h.lo _ (List.mem_cons_self ..)
  obtain ⟨hl, hh⟩ := hok
  have hn : n = ys.length := by
    have := hx.rd.len
    rw [hl] at this
    exact Nat.eq_of_mul_eq_mul_right hs' this
  subst hn
  rcases hh with ⟨rfl, h0⟩ | ⟨g, off, cap, cur, rfl, hg, hnc, hcm, hcs, htake⟩
  · refine ⟨H, Hp.le_refl _, h.tail, .inl ⟨⟨_, rfl⟩, List.eq_nil_of_length_eq_zero h0⟩, fun M' w' h' => ?_⟩
    have hx0 : xs = [] := List.eq_nil_of_length_eq_zero (by rw [hl, h0, Nat.zero_mul])
    rw [h0, hx0]
    exact h'.nilRow T _
  · have h' : St B w0 H (.obj g (.cells cur T (0, 0)) :: M) w := by
      refine ⟨h.below, h.le, h.hin, ?_, ?_, h.nd, h.kin, ?_, h.rlow⟩
      · intro r hr
        rcases List.mem_cons.1 hr with rfl | hr
        · exact hg
        · exact h.tail.ok r hr
      · intro r hr
        rcases List.mem_cons.1 hr with rfl | hr
        · exact hlo
        · exact h.tail.lo r hr
      · intro r hr
        rcases List.mem_cons.1 hr with rfl | hr
        · exact h.kown (.row _ T (Rep.sz α) ys.length xs) (List.mem_cons_self ..)
        · exact h.tail.kown r hr
    obtain ⟨hle, hst⟩ := h'.freeze
    refine ⟨_, hle, hst, .inr ⟨g, off, cap, cur, T, (0, 0), rfl, hnc, hcm, Hp.add_self _ _ _, hcs, ?_⟩, fun M' w' hb => ?_⟩
    · intro k e he
      obtain ⟨c, h1, h2⟩ := (hx.rd.mono hle).get k e he
      refine ⟨c, h1, fun j d hd => ?_⟩
      have := h2 j d hd
      rw [← htake, List.getElem?_take] at this
      split at this
      · rw [List.getElem?_drop] at this; simpa [Nat.add_assoc] using this
      · cases this
    · have ht := St.thaw (H := H) hb (hlo g (List.Mem.head _)).1 hle (hlo g (List.Mem.head _)).2 (Hp.add_self _ _ _)
      refine ⟨ht.below, ht.le, ht.hin, ?_, ?_, ht.nd, ht.kin, ?_, ht.rlow⟩
      rotate_left 2
      · intro r hr
        rcases List.mem_cons.1 hr with rfl | hr
        · exact ht.kown (.obj g _) (List.mem_cons_self ..)
        · exact ht.tail.kown r hr
      · intro r hr
        rcases List.mem_cons.1 hr with rfl | hr
        · exact ⟨hl, .inr ⟨g, off, cap, cur, rfl, ht.ok _ (List.mem_cons_self ..), hnc, hcm, hcs, htake⟩⟩
        · exact ht.tail.ok r hr
      · intro r hr
        rcases List.mem_cons.1 hr with rfl | hr
        · exact ht.lo (.obj g _) (List.mem_cons_self ..)
        · exact ht.tail.lo r hr

/-- What was lent comes back behind a call that adds no facts. -/
theorem lend_back {f : FuncId} {args : Array Value} {H1 : Hp} {r : Res} {φ : List Res → Value → Prop}
    (back : ∀ M' w', St B w0 H1 M' w' → St B w0 H (r :: M') w') (h : Calls P f args w (Ret B w0 fun H' M' v => H1 = H' ∧ φ M' v)) :
    Calls P f args w (Ret B w0 fun H' M' v => H = H' ∧ ∃ M2, r :: M2 = M' ∧ φ M2 v) :=
  h.mono rfl fun v w' he => by
    obtain ⟨H2, M', h1, h2, h3⟩ := he
    subst h2
    exact ⟨H, r :: M', back M' w' h1, rfl, M', rfl, h3⟩
end

section
variable {P : Program} {x : Cx P} {ops : Array Oper} {Q : Post} {rest : List Oper} {H : Hp} {M M' : List Res} {L L' : Env}
variable {d : Nat} {ty : TypeId} {pos : String} {aft : Array Edge} {g : Option (Nat × Bool)}

/-! ### Function values -/
theorem W_makeFunc {fn : Fn} {first caps : List Operand} {vs cs : List Value} (hg : gd ops L ⟨some d, .makeFunc fn first.toArray caps.toArray, ty, pos, aft, g⟩ = some true) (hN : Nat.blt d x.N = true)
    (hv : evs L first = some vs) (hc : evs L caps = some cs) (k : W x ops Q rest H M ((d, .func fn vs.toArray cs.toArray) :: L)) :
    W x ops Q (⟨some d, .makeFunc fn first.toArray caps.toArray, ty, pos, aft, g⟩ :: rest) H M L :=
  W_pure0 rfl hg hN (fun a w hs _ => ⟨by simp [execOp, Instr.makeFunc, hs.evs hv, hs.evs hc], by simp [execOp, Instr.makeFunc, hs.evs hv, hs.evs hc]⟩) k

/-! ### Shifts -/
def shlV (k : IntKind) (a b : Int) : Int := k.wrap (a * 2 ^ (min b.toNat k.bits))
def shrV (k : IntKind) (a b : Int) : Int := a.fdiv (2 ^ (min b.toNat k.bits))
theorem W_shl {t u : TypeId} {y z : Operand} {k k2 : IntKind} {a b : Int} (hg : gd ops L ⟨some d, .binOp .shl t y z u, ty, pos, aft, g⟩ = some true) (hN : Nat.blt d x.N = true)
    (hy : ev L y = some (.int k a)) (hz : ev L z = some (.int k2 b)) (hb : 0 ≤ b) (kk : W x ops Q rest H M ((d, .int k (shlV k a b)) :: L)) :
    W x ops Q (⟨some d, .binOp .shl t y z u, ty, pos, aft, g⟩ :: rest) H M L :=
  W_pure0 rfl hg hN (fun c w hs _ => by
    refine ⟨?_, ?_⟩
    all_goals
      have : ¬ b < 0 := by omega
      simp [execOp, hs.ev hy, hs.ev hz, eqGuard, binOp, Op.shift, this, shlV]) kk
theorem W_shr {t u : TypeId} {y z : Operand} {k k2 : IntKind} {a b : Int} (hg : gd ops L ⟨some d, .binOp .shr t y z u, ty, pos, aft, g⟩ = some true) (hN : Nat.blt d x.N = true)
    (hy : ev L y = some (.int k a)) (hz : ev L z = some (.int k2 b)) (hb : 0 ≤ b) (kk : W x ops Q rest H M ((d, .int k (shrV k a b)) :: L)) :
    W x ops Q (⟨some d, .binOp .shr t y z u, ty, pos, aft, g⟩ :: rest) H M L :=
  W_pure0 rfl hg hN (fun c w hs _ => by
    refine ⟨?_, ?_⟩
    all_goals
      have : ¬ b < 0 := by omega
      simp [execOp, hs.ev hy, hs.ev hz, eqGuard, binOp, Op.shift, this, shrV]) kk

/-! ### Numbers -/
theorem W_convInt {t u : TypeId} {y : Operand} {k k2 : IntKind} {n : Int} (hg : gd ops L ⟨some d, .convert t u y, ty, pos, aft, g⟩ = some true) (hN : Nat.blt d x.N = true)
    (ht : ∀ w, (underlying t).run P w = .ok (.int k2) w) (hu : ∀ w, (underlying u).run P w = .ok (.int k) w) (hy : ev L y = some (.int k2 n))
    (kk : W x ops Q rest H M ((d, .int k (k.wrap n)) :: L)) :
    W x ops Q (⟨some d, .convert t u y, ty, pos, aft, g⟩ :: rest) H M L :=
  W_pure0 rfl hg hN (fun c w hs _ => ⟨by simp [execOp, hs.ev hy, convert, ht, hu, Conv.intToInt], by simp [execOp, hs.ev hy, convert, ht, hu, Conv.intToInt]⟩) kk
theorem W_convStr {t u : TypeId} {y : Operand} {s : ByteArray} (hg : gd ops L ⟨some d, .convert t u y, ty, pos, aft, g⟩ = some true) (hN : Nat.blt d x.N = true)
    (ht : ∀ w, (underlying t).run P w = .ok .string w) (hu : ∀ w, (underlying u).run P w = .ok .string w) (hy : ev L y = some (.string s))
    (kk : W x ops Q rest H M ((d, .string s) :: L)) :
    W x ops Q (⟨some d, .convert t u y, ty, pos, aft, g⟩ :: rest) H M L :=
  W_pure0 rfl hg hN (fun c w hs _ => ⟨by simp [execOp, hs.ev hy, convert, ht, hu], by simp [execOp, hs.ev hy, convert, ht, hu]⟩) kk

/-! ### Strings -/
theorem W_addStr {t u : TypeId} {y z : Operand} {a b : ByteArray} (hg : gd ops L ⟨some d, .binOp .add t y z u, ty, pos, aft, g⟩ = some true) (hN : Nat.blt d x.N = true)
    (hy : ev L y = some (.string a)) (hz : ev L z = some (.string b)) (hb : a.size + b.size ≤ maxLen) (kk : W x ops Q rest H M ((d, .string (a ++ b)) :: L)) :
    W x ops Q (⟨some d, .binOp .add t y z u, ty, pos, aft, g⟩ :: rest) H M L :=
  W_pure0 rfl hg hN (fun c w hs _ => by
    refine ⟨?_, ?_⟩
    all_goals
      have : ¬ (((a.size + b.size : Nat) : Int) > IntKind.i64.max) := by
        simp only [IntKind.max, IntKind.signed, IntKind.bits]; unfold maxLen at hb; simp; omega
      simp only [execOp, hs.ev hy, hs.ev hz, eqGuard, binOp, Op.stringOp, Sem.run_bind]
      simp only [if_neg this]
      simp) kk
theorem bytesL_get {s : ByteArray} {k : Nat} {c : U8} (h : (bytesL s)[k]? = some c) : ∃ b : UInt8, s[k]? = some b ∧ c = ⟨b.toNat⟩ := by
  simp only [bytesL, List.getElem?_map, Option.map_eq_some_iff] at h
  obtain ⟨b, hb, rfl⟩ := h
  refine ⟨b, ?_, rfl⟩
  obtain ⟨hk, e⟩ := List.getElem?_eq_some_iff.1 hb
  have hk' : k < s.size := by simpa using hk
  rw [getElem?_pos s k hk']
  rw [← e]; rfl
theorem W_indexStr {t : TypeId} {y z : Operand} {s : ByteArray} {kk : IntKind} {i : Int} {c : U8} (hg : gd ops L ⟨some d, .index t y z, ty, pos, aft, g⟩ = some true) (hN : Nat.blt d x.N = true)
    (hT : ∀ w, (underlying t).run P w = .ok .string w) (hy : ev L y = some (.string s)) (hz : ev L z = some (.int kk i)) (h0 : 0 ≤ i) (he : (bytesL s)[i.toNat]? = some c)
    (k : W x ops Q rest H M ((d, .int .u8 c.n) :: L)) :
    W x ops Q (⟨some d, .index t y z, ty, pos, aft, g⟩ :: rest) H M L :=
  W_pure0 rfl hg hN (fun a w hs _ => by
    refine ⟨?_, ?_⟩
    all_goals
      obtain ⟨b, hb, rfl⟩ := bytesL_get he
      simp [execOp, hs.ev hy, hs.ev hz, Instr.index, asIntOf, hT, h0, hb]) k
end
end Go.Sim
end
