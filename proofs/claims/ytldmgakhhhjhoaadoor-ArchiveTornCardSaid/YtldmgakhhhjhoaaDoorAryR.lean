/-
  Recover, in plain Lean.
-/
import Derived.Test.YtldmgakhhhjhoaaDoorAryT
namespace Go.Sim
open Go
set_option linter.unusedVariables false
set_option linter.unusedSimpArgs false
set_option linter.unusedSectionVars false
set_option linter.unnecessarySimpa false

theorem atoiB_rng (s : ByteArray) : -9223372036854775808 ≤ (atoiB s).1 ∧ (atoiB s).1 ≤ 9223372036854775807 := by
  unfold atoiB
  cases h : Lib.atoiAll s.data.toList with
  | ok v => exact Lib.atoiAll_bounds h
  | range =>
    simp only
    unfold Lib.atoiSat
    split <;> exact ⟨by decide, by decide⟩
  | _ => exact ⟨by show (-9223372036854775808 : Int) ≤ 0; omega, by show (0 : Int) ≤ 9223372036854775807; omega⟩
theorem len5 {α : Type} {l : List α} (h : l.length = 5) : ∃ a b c d e, l = [a, b, c, d, e] := by
  match l, h with
  | [a, b, c, d, e], _ => exact ⟨a, b, c, d, e, rfl⟩
theorem word_size {s : List UInt8} {x : List UInt8} (h : x ∈ splitL 32 s) : x.length ≤ s.length := by
  have : ∀ (ws : List (List UInt8)), x ∈ ws → x.length ≤ (joinL 32 ws).length := by
    intro ws
    induction ws with
    | nil => intro h; cases h
    | cons a r ih =>
      intro h
      cases r with
      | nil => rw [List.mem_singleton] at h; subst h; exact Nat.le_refl _
      | cons b r =>
        rw [joinL, List.length_append, List.length_cons]
        rcases List.mem_cons.1 h with rfl | h
        · omega
        · have := ih h; omega
  have := this _ h
  rwa [join_split] at this
/-- What stands next in a text is the row of an event that may be added. -/
def Next (N : Int) (l : List Ev) (rest : List UInt8) (e : Ev) (r' : List UInt8) : Prop := rest = rowP N e ++ 10 :: r' ∧ Fits l e
theorem step_gd {s : ByteArray} {l : List Ev} {N : Int} {rest : List UInt8} {p : List UInt8} {at_ : Int} {nx : Int × Int × List Ev → Option ((Option S_archive_Archive) × Int × Int)} {Q : (Option S_archive_Archive) × Int × Int → Prop}
    (hs : s.size ≤ 65536) (hl : Arc l) (hS : bl s = p ++ rest) (hat : at_ = (p.length : Int))
    (hret : (∀ e r', ¬ Next N l rest e r') → Q (some ⟨l⟩, at_, 0))
    (hnx : ∀ e r', Next N l rest e r' → Gd (nx (at_ + ((rowP N e).length + 1 : Nat), digP N (lineP e), l ++ [e])) Q) :
    Gd (m_archive_Recover_b2 s at_ N l nx) Q := by
  subst hat
  have hz : s.size = p.length + rest.length := by rw [← bl_len, hS]; simp
  have hex : s.extract ((p.length : Int).toNat) s.size = ba rest := by
    refine bl_inj ?_
    rw [bl_extract, Int.toNat_natCast, hS, List.take_of_length_le (by simp; omega), bl_ba]
    simp
  unfold m_archive_Recover_b2
  rw [hex]
  refine Gd.nd ⟨by omega, by omega⟩ ?_
  have hrs : (ba rest).size ≤ 65536 := by rw [ba_size]; omega
  rcases indexByte_cases 10 rest with ⟨hno, _⟩ | ⟨a, b, hab, ha, _⟩
  · have hno' : (10 : UInt8) ∉ bl (ba rest) := by rw [bl_ba]; exact hno
    refine Gd.bind_eq (cut_none hno') (Gd.bind_eq (split_eq (ba rest) 32 (by omega)) (Gd.ite (fun _ => Gd.ret (hret fun e r' h => ?_)) (fun h => by simp at h)))
    rw [h.1] at hno
    exact hno (by simp)
  have hsa : (ba a).size ≤ 65536 := by rw [ba_size]; have := congrArg List.length hab; simp at this; omega
  refine Gd.bind_eq (cut_some (s := ba rest) (by rw [bl_ba]; exact hab) ha (by omega)) ?_
  have hal : a.length ≤ 65536 := by rw [ba_size] at hsa; exact hsa
  have hsp := split_eq (ba a) 32 (by omega)
  rw [bl_ba] at hsp
  -- what an event that stands here looks like
  have hev : ∀ e r', Next N l rest e r' → a = rowP N e ∧ EvOk e := fun e r' h => ⟨(first_nl ha (row10 N h.2.1) (hab.symm.trans h.1)).1, h.2.1⟩
  have hws : ∀ w ∈ (splitL 32 a).map ba, w.size ≤ 65536 := fun w hw => by
    obtain ⟨x, hx, rfl⟩ := List.mem_map.1 hw
    have := word_size hx
    rw [ba_size] at hsa ⊢
    omega
  have hwl : ∀ e r', Next N l rest e r' → (splitL 32 a).map ba = [itoaB e.Time, e.Kind, e.Name, itoaB e.Value, fmt (digP N (lineP e))] := fun e r' h => by
    obtain ⟨h1, h2⟩ := hev e r' h
    rw [h1, row_words N h2]
    simp only [List.map_cons, List.map_nil, ba_bl]
    rfl
  generalize hL : (splitL 32 a).map ba = L at hsp hws hwl
  refine Gd.bind_eq hsp ?_
  refine Gd.ite (fun h => Gd.ret (hret fun e r' hn => ?_)) (fun h => ?_)
  · rw [hwl e r' hn] at h
    simp at h
  have h5 : L.length = 5 := by
    simp only [Bool.not_true, Bool.false_or, Bool.not_eq_false', decide_eq_true_eq] at h
    omega
  obtain ⟨w0, w1, w2, w3, w4, rfl⟩ := len5 h5
  have r0 := atoiB_rng w0; have r3 := atoiB_rng w3
  have s0 := hws w0 (by simp); have s1 := hws w1 (by simp); have s2 := hws w2 (by simp); have s3 := hws w3 (by simp)
  refine Gd.ix (y := w0) (by omega) rfl (Gd.nd (by omega) (Gd.ix (y := w3) (by omega) rfl (Gd.nd (by omega) (Gd.ix (y := w1) (by omega) rfl (Gd.ix (y := w2) (by omega) rfl ?_)))))
  have hlo : LineOk (S_api_Event.mk ((atoiB w0).1) w1 w2 ((atoiB w3).1)) := ⟨r0, r3, by simp only; omega, by simp only; omega⟩
  have hww : ∀ e r', Next N l rest e r' → S_api_Event.mk ((atoiB w0).1) w1 w2 ((atoiB w3).1) = e ∧ (atoiB w0).2 = false ∧ (atoiB w3).2 = false := fun e r' h => by
    have hw := hwl e r' h
    have he := (hev e r' h).2
    simp only [List.cons.injEq] at hw
    obtain ⟨q0, q1, q2, q3, _⟩ := hw
    rw [q0, q1, q2, q3, atoi_itoa he.tr, atoi_itoa he.vr]
    exact ⟨rfl, rfl, rfl⟩
  have c0 : ∀ b, (atoiB w0).2 = b → b = true → ∀ e r', ¬ Next N l rest e r' := fun b hb ht e r' h => by
    have := (hww e r' h).2.1; rw [hb, ht] at this; cases this
  have c3 : ∀ b, (atoiB w3).2 = b → b = true → ∀ e r', ¬ Next N l rest e r' := fun b hb ht e r' h => by
    have := (hww e r' h).2.2; rw [hb, ht] at this; cases this
  have hwe : ∀ e r', Next N l rest e r' → S_api_Event.mk ((atoiB w0).1) w1 w2 ((atoiB w3).1) = e := fun e r' h => (hww e r' h).1
  have hll := lineP_len hlo
  have k1 := hlo.k; have k2 := hlo.n
  have q1 : w1.size ≤ 65536 := s1
  have q2 : w2.size ≤ 65536 := s2
  have hlen : (lineP (S_api_Event.mk ((atoiB w0).1) w1 w2 ((atoiB w3).1))).length ≤ 200000 := by simp only at hll; omega
  have hline := line_eq hlo
  generalize S_api_Event.mk ((atoiB w0).1) w1 w2 ((atoiB w3).1) = e at hline hlen hwe hlo
  have hdig := digest_eq N (ba (lineP e)) (by rw [ba_size]; omega)
  rw [bl_ba] at hdig
  obtain ⟨hfm, hfx⟩ := fmt_eq (digP_rng N (lineP e))
  have hf65 := hfx.1
  have z1 : (⟨#[32]⟩ : ByteArray).size = 1 := rfl
  refine Gd.bind_eq hline (Gd.bind_eq hdig (Gd.ite (fun h => Gd.ret (hret (c0 _ rfl h))) (fun _ => Gd.ite (fun h => Gd.ret (hret (c3 _ rfl h))) (fun _ => Gd.bind_eq hline (Gd.nd ?_ (Gd.bind_eq hfm (Gd.nd ?_ ?_)))))))
  · rw [ba_size, z1]; simp only [maxLen]; omega
  · simp only [size_app, ba_size, z1, maxLen]; omega
  have hrow : (ba (lineP e) ++ ⟨#[32]⟩) ++ fmt (digP N (lineP e)) = ba (rowP N e) := by
    refine bl_inj ?_
    rw [bl_app, bl_app, bl_ba, bl_ba, rowP]
    show (lineP e ++ [32]) ++ _ = _
    simp
  rw [hrow]
  refine Gd.ite (fun h => Gd.ret (hret fun e' r' hn => ?_)) (fun h => ?_)
  · have := (hev e' r' hn).1
    rw [hwe e' r' hn, ← this] at h
    simp at h
  have hra : rowP N e = a := by
    have : ba (rowP N e) = ba a := by simpa using h
    have := congrArg bl this
    rwa [bl_ba, bl_ba] at this
  have k1' := hlo.k; have k2' := hlo.n
  refine Gd.bnd (append_gd hl ⟨by simp only [maxLen]; omega, by simp only [maxLen]; omega⟩) ?_
  rintro r (⟨hf, rfl⟩ | ⟨hf, h1, h2, h3⟩)
  · refine Gd.ite (fun h => by simp at h) (fun _ => ?_)
    have := hnx e b ⟨by rw [hra]; exact hab, hf⟩
    have hrl : (rowP N e).length ≤ 65536 := by rw [hra]; exact hal
    rw [ba_size, ← hra]
    rw [wrap_id (n := ((rowP N e).length : Int) + 1) ⟨by omega, by omega⟩, wrap_id ⟨by omega, by omega⟩]
    exact this
  · refine Gd.ite (fun h => Gd.ret ?_) (fun h => by simp at h; exact absurd h h1)
    rw [h3]
    refine hret fun e' r' hn => hf ?_
    rw [hwe e' r' hn]; exact hn.2
theorem Arc.part {l : List Ev} {e : Ev} {r : List Ev} (h : Arc (l ++ e :: r)) : Fits l e := by
  have h1 := h.len
  have h2 := h.up
  rw [List.pairwise_append] at h2
  exact ⟨h.ok e (by simp), by simp at h1; omega, fun x hx => h2.2.2 x hx e (by simp)⟩
theorem Arc.left {l r : List Ev} (h : Arc (l ++ r)) : Arc l := by
  have h1 := h.len
  have h2 := h.up
  rw [List.pairwise_append] at h2
  exact ⟨by simp at h1; omega, fun x hx => h.ok x (by simp [hx]), h2.1⟩
/-- What is recovered of a text that begins with the rows of an archive. -/
theorem recover_gd {s : ByteArray} {l0 : List Ev} {rest : List UInt8} (hs : s.size ≤ 65536) (hl : Arc l0) (hS : bl s = textP FNV l0 ++ rest) :
    Gd (m_archive_Recover s) (fun r => ∃ l1, Arc (l0 ++ l1) ∧ r = (some ⟨l0 ++ l1⟩, ((textP FNV (l0 ++ l1)).length : Int), 0) ∧ (∃ r', bl s = textP FNV (l0 ++ l1) ++ r') ∧ ((10 : UInt8) ∉ rest → l1 = [])) := by
  unfold m_archive_Recover
  refine Gd.ite (fun h => by simp at h; omega) (fun _ => Gd.opt (fun h => by cases h) (fun sp hsp => ?_))
  obtain rfl : sp = ⟨[]⟩ := (Option.some.inj hsp).symm
  refine Gd.loopF (fun (z : Int × Int × List Ev) => ∃ r', Arc z.2.2 ∧ z.1 = ((textP FNV z.2.2).length : Int) ∧ z.2.1 = dgs FNV z.2.2 ∧ bl s = textP FNV z.2.2 ++ r' ∧ ((∃ e l2, l0 = z.2.2 ++ e :: l2) ∨ ∃ l1, z.2.2 = l0 ++ l1 ∧ ((10 : UInt8) ∉ rest → l1 = []))) (fun z => s.size + 1 - z.1.toNat) ?_ FUEL _ ?_ (by simp only [FUEL]; omega)
  · rintro ⟨a, n, l⟩ nx ⟨r', hA, h1, h2, h3, h4⟩ hnx
    simp only at hA h1 h2 h3 h4 hnx ⊢
    subst h2
    have hsz : s.size = (textP FNV l).length + r'.length := by rw [← bl_len, h3]; simp
    refine step_gd hs hA h3 h1 (fun hno => ?_) (fun e r2 hN => ?_)
    · rcases h4 with ⟨e, l2, rfl⟩ | ⟨l1, rfl, hq⟩
      · exfalso
        rw [textP_app] at hS
        rw [h3, List.append_assoc] at hS
        have hr := List.append_cancel_left hS
        rw [textP, List.append_assoc] at hr
        exact hno e _ ⟨hr, hl.part⟩
      · exact ⟨l1, hA, by rw [h1], ⟨r', h3⟩, hq⟩
    · refine hnx _ ⟨r2, hA.add hN.2, ?_, by rw [dgs_app], ?_, ?_⟩ ?_
      · simp only
        rw [textP_snoc, h1]; simp
      · simp only
        rw [textP_snoc, h3, hN.1]; simp
      · rcases h4 with ⟨e0, l2, rfl⟩ | ⟨l1, rfl, hq⟩
        · have hr : r' = rowP (dgs FNV l) e0 ++ 10 :: (textP (digP (dgs FNV l) (lineP e0)) l2 ++ rest) := by
            rw [textP_app] at hS
            rw [h3, List.append_assoc] at hS
            have hr := List.append_cancel_left hS
            rw [textP, List.append_assoc] at hr
            exact hr
          rw [hN.1] at hr
          have he0 : EvOk e0 := hl.part.1
          have := (first_nl (row10 _ hN.2.1) (row10 _ he0) hr).1
          have := row_inj hN.2.1 he0 this
          subst this
          cases l2 with
          | nil => exact .inr ⟨[], by simp, fun _ => rfl⟩
          | cons e1 l3 => exact .inl ⟨e1, l3, by simp⟩
        · refine .inr ⟨l1 ++ [e], by simp, fun h10 => ?_⟩
          have := hq h10
          subst this
          rw [List.append_nil] at h3
          rw [h3] at hS
          have := List.append_cancel_left hS
          rw [← this, hN.1] at h10
          exact absurd (by simp) h10
      · rw [hN.1] at hsz
        simp only [List.length_append, List.length_cons] at hsz
        rw [h1]
        omega
  · refine ⟨bl s, Arc.nil, by simp [textP], by simp [dgs], by simp [textP], ?_⟩
    cases l0 with
    | nil => exact .inr ⟨[], rfl, fun _ => rfl⟩
    | cons e l => exact .inl ⟨e, l, rfl⟩
end Go.Sim
