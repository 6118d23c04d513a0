/-
  Archives that are recovered, in plain Lean: what goes on, and what was cut.
-/
import Derived.Test.YtldmgakhhhjhoaaDoorAryR
namespace Go.Sim
open Go
set_option linter.unusedVariables false
set_option linter.unusedSimpArgs false
set_option linter.unusedSectionVars false
set_option linter.unnecessarySimpa false

theorem fact_true : m_gridhallkeep4_archiveFact = some true := by kernel_rfl
theorem arc_text {a : List Ev} (h : Arc a) : m_archive_Archive_Text ⟨a⟩ = some (ba (textP FNV a)) := text_eq h.ok h.len
theorem recover_all {a : List Ev} (h : Arc a) (hn : a.length ≤ 12) : m_archive_Recover (ba (textP FNV a)) = some (some ⟨a⟩, ((textP FNV a).length : Int), 0) := by
  have hl := textP_len a FNV h.ok
  obtain ⟨r, hr, l1, _, rfl, _, hq⟩ := recover_gd (s := ba (textP FNV a)) (rest := []) (by rw [ba_size]; omega) h (by rw [bl_ba]; simp)
  have := hq (by simp)
  subst this
  rw [List.append_nil] at hr
  exact hr
theorem ArchiveContinues_of (l : List Ev) (x : Ev) (hl : ∀ e ∈ l, EvSz e) (hx : EvSz x) : m_gridhallkeep4_ArchiveContinues l x = some true := by
  rw [← Gd.eq]
  unfold m_gridhallkeep4_ArchiveContinues
  refine Gd.bnd (archiveOf_gd l hl) ?_
  rintro o ⟨a, rfl, ha, hn⟩
  refine Gd.opt (fun h => by cases h) (fun sp hsp => ?_)
  obtain rfl : sp = ⟨a⟩ := (Option.some.inj hsp).symm
  refine Gd.bind_eq fact_true (Gd.ite (fun h => by simp at h) (fun _ => Gd.bind_eq (arc_text ha) (Gd.bind_eq (recover_all ha hn) (Gd.opt (fun h => by cases h) (fun sp hsp => ?_)))))
  obtain rfl : sp = ⟨a⟩ := (Option.some.inj hsp).symm
  refine Gd.ite (fun h => by simp at h) (fun _ => ?_)
  obtain ⟨r, hr, hq⟩ := append_gd ha hx
  refine Gd.bind_eq hr (Gd.bind_eq hr (Gd.ite (fun _ => Gd.ite (fun _ => ?_) (fun h => by simp at h)) (fun h => by simp at h)))
  have hb : ∃ b, r.2.2 = ⟨b⟩ ∧ Arc b := by
    rcases hq with ⟨hf, rfl⟩ | ⟨_, _, _, h⟩
    · exact ⟨_, rfl, ha.add hf⟩
    · exact ⟨_, h, ha⟩
  obtain ⟨b, hb, hab⟩ := hb
  rw [hb]
  refine Gd.bind_eq (arc_text hab) (Gd.bind_eq (arc_text hab) (Gd.ite (fun _ => Gd.bind_eq (digests_some hab.ok) (Gd.bind_eq (digests_some hab.ok) (Gd.ret (by simp)))) (fun h => by simp at h)))

/-! ### Texts that were cut -/
theorem text_count : ∀ (l : List Ev) (n : Int), (∀ e ∈ l, EvOk e) → (textP n l).count 10 = l.length
  | [], _, _ => rfl
  | e :: l, n, h => by
    rw [textP, List.count_append, List.count_cons_self, text_count l _ (fun x hx => h x (List.mem_cons_of_mem _ hx)), List.count_eq_zero.2 (row10 n (h e (by simp))), List.length_cons]
    omega
theorem take_text : ∀ (l : List Ev) (n : Int) (k : Nat), (∀ e ∈ l, EvOk e) → k ≤ (textP n l).length →
    ∃ m p, m ≤ l.length ∧ (textP n l).take k = textP n (l.take m) ++ p ∧ (10 : UInt8) ∉ p
  | [], n, k, _, hk => ⟨0, [], Nat.le_refl _, by simp [textP], by simp⟩
  | e :: l, n, k, h, hk => by
    have h10 := row10 n (h e (by simp))
    by_cases hc : k ≤ (rowP n e).length
    · refine ⟨0, (rowP n e).take k, by omega, ?_, fun hm => h10 (List.mem_of_mem_take hm)⟩
      rw [textP, List.take_append_of_le_length hc]; simp [textP]
    · obtain ⟨k', rfl⟩ : ∃ k', k = (rowP n e).length + 1 + k' := ⟨k - (rowP n e).length - 1, by omega⟩
      simp only [textP, List.length_append, List.length_cons] at hk
      obtain ⟨m, p, hm, h1, h2⟩ := take_text l (digP n (lineP e)) k' (fun x hx => h x (List.mem_cons_of_mem _ hx)) (by omega)
      refine ⟨m + 1, p, by simp; omega, ?_, h2⟩
      rw [List.take_succ_cons, textP, textP, show rowP n e ++ 10 :: textP (digP n (lineP e)) l = (rowP n e ++ [10]) ++ textP (digP n (lineP e)) l by simp]
      have e1 : (rowP n e).length + 1 + k' - (rowP n e ++ [10]).length = k' := by
        rw [List.length_append, List.length_singleton]; omega
      have e2 : (rowP n e ++ [10]).length ≤ (rowP n e).length + 1 + k' := by
        rw [List.length_append, List.length_singleton]; omega
      rw [List.take_append, List.take_of_length_le e2, e1, h1]
      simp
theorem last_eq {s : ByteArray} {q p : List UInt8} (hs : s.size ≤ 1000000) (h : bl s = q ++ p) (hp : (10 : UInt8) ∉ p) (hq : q = [] ∨ ∃ a, q = a ++ [10]) : m_strings_LastIndex s (ba [10]) = some ((q.length : Int) - 1) := by
  have hz : s.size = q.length + p.length := by rw [← bl_len, h]; simp
  have key : Gd (m_internal_bytealg_LastIndexByteString s 10) (fun r => r = (q.length : Int) - 1) := by
    unfold m_internal_bytealg_LastIndexByteString
    have w0 : IntKind.i64.wrap ((s.size : Int) - 1) = (s.size : Int) - 1 := wrap_id ⟨by omega, by omega⟩
    rw [w0]
    refine Gd.loopF (fun (i : Int) => (q.length : Int) - 1 ≤ i ∧ i < (s.size : Int)) (fun i => (i + 1).toNat) ?_ FUEL _ ⟨by omega, by omega⟩ (by simp only [FUEL]; omega)
    rintro i nx ⟨h1, h2⟩ hnx
    unfold m_internal_bytealg_LastIndexByteString_b1
    refine Gd.ite (fun hi => ?_) (fun hi => Gd.ret ?_)
    · have hi : 0 ≤ i := by simpa using hi
      obtain ⟨k, rfl⟩ : ∃ k : Nat, i = k := ⟨i.toNat, by omega⟩
      obtain ⟨c, hcx⟩ : ∃ c, (bl s)[k]? = some c := ⟨_, List.getElem?_eq_getElem (by rw [bl_len]; omega)⟩
      have hy : (bytesL s)[(k : Int).toNat]? = some ⟨c.toNat⟩ := by
        show ((bl s).map fun b : UInt8 => (⟨b.toNat⟩ : U8))[k]? = _
        rw [List.getElem?_map, hcx]; rfl
      refine Gd.ix (by omega) hy (Gd.ite (fun hc => Gd.ret ?_) (fun hc => ?_))
      · have hc : c = 10 := by
          have : (c.toNat : Int) = 10 := by simpa using hc
          exact UInt8.toNat_inj.1 (by show _ = 10; omega)
        by_cases hkq : k < q.length
        · omega
        · exfalso
          rw [h, List.getElem?_append_right (by omega)] at hcx
          have := List.mem_of_getElem? hcx
          rw [hc] at this; exact hp this
      · by_cases hkq : q.length ≤ k
        · rw [wrap_id ⟨by omega, by omega⟩]
          exact hnx _ ⟨by omega, by omega⟩ (by omega)
        · exfalso
          rcases hq with rfl | ⟨a, rfl⟩
          · simp at hkq
          · have hka : k = a.length := by simp at h1 hkq; omega
            subst hka
            have : (bl s)[a.length]? = some 10 := by rw [h]; simp
            rw [hcx] at this
            rw [Option.some.inj this] at hc
            simp at hc
    · have hi : i < 0 := by simpa using hi
      omega
  obtain ⟨r, hr, rfl⟩ := key
  unfold m_strings_LastIndex
  rw [if_neg (by simp [ba_size]), if_pos (by simp [ba_size]), bytesL_one]
  refine Gd.eq.1 (Gd.ix (y := ⟨10⟩) (by omega) rfl (Gd.bind_eq hr (Gd.ret rfl)))
theorem text_end : ∀ (l : List Ev) (n : Int), textP n l = [] ∨ ∃ a, textP n l = a ++ [10]
  | [], _ => .inl rfl
  | e :: l, n => by
    rcases text_end l (digP n (lineP e)) with h | ⟨a, h⟩
    · exact .inr ⟨rowP n e, by rw [textP, h]⟩
    · exact .inr ⟨rowP n e ++ 10 :: a, by rw [textP, h]; simp⟩
theorem ArchiveTorn_of (l : List Ev) (n : Int) (hl : ∀ e ∈ l, EvSz e) : m_gridhallkeep4_ArchiveTorn l n = some true := by
  rw [← Gd.eq]
  unfold m_gridhallkeep4_ArchiveTorn
  refine Gd.bnd (archiveOf_gd l hl) ?_
  rintro o ⟨a, rfl, ha, hn⟩
  refine Gd.opt (fun h => by cases h) (fun sp hsp => ?_)
  obtain rfl : sp = ⟨a⟩ := (Option.some.inj hsp).symm
  have hlen := textP_len a FNV ha.ok
  have hz : (ba (textP FNV a)).size = (textP FNV a).length := ba_size _
  refine Gd.bind_eq fact_true (Gd.ite (fun h => by simp at h) (fun _ => Gd.bind_eq (arc_text ha) (Gd.bnd (cut_gd n 0 _ ⟨by omega, by omega, by omega⟩) (fun t ht => Gd.nd ht ?_))))
  obtain ⟨k, rfl⟩ : ∃ k : Nat, t = k := ⟨t.toNat, by omega⟩
  have hk : k ≤ (textP FNV a).length := by omega
  obtain ⟨m, p, hm, hp1, hp2⟩ := take_text a FNV k ha.ok hk
  have hbs : bl ((ba (textP FNV a)).extract 0 ((k : Int).toNat)) = textP FNV (a.take m) ++ p := by
    rw [bl_extract, bl_ba, Int.toNat_natCast, List.drop_zero, hp1]
  have hss : ((ba (textP FNV a)).extract 0 ((k : Int).toNat)).size = k := by
    rw [← bl_len, bl_extract, bl_ba, Int.toNat_natCast, List.drop_zero, List.length_take]; omega
  generalize (ba (textP FNV a)).extract 0 ((k : Int).toNat) = s at hbs hss
  have hat : Arc (a.take m) := by
    have : Arc (a.take m ++ a.drop m) := by rw [List.take_append_drop]; exact ha
    exact this.left
  obtain ⟨r, hr, l1, _, rfl, _, hq⟩ := recover_gd (s := s) (by omega) hat hbs
  have := hq hp2
  subst this
  rw [List.append_nil] at hr
  have hused : (textP FNV (a.take m)).length ≤ k := by rw [← hss, ← bl_len, hbs]; simp
  refine Gd.bind_eq hr (Gd.opt (fun h => by cases h) (fun sp hsp => ?_))
  obtain rfl : sp = ⟨a.take m⟩ := (Option.some.inj hsp).symm
  have hcnt : m_strings_Count s (ba [10]) = some (m : Int) := by
    rw [count_eq, hbs, List.count_append, text_count _ _ hat.ok, List.count_eq_zero.2 hp2, List.length_take]
    congr 2; omega
  refine Gd.ite (fun h => ?_) (fun _ => Gd.nd ht (Gd.bind_eq hcnt (Gd.bind_eq (all_eq hat.len) (Gd.bind_eq (all_eq ha.len) (Gd.nd ⟨by omega, by omega⟩ ?_)))))
  · simp at h; omega
  have hslc : slc a 0 ((m : Int).toNat) = a.take m := by simp [slc]
  rw [hslc]
  refine Gd.bnd (equal_gd (a.take m) (a.take m)) (fun r hr => ?_)
  rw [hr.2 rfl]
  refine Gd.ite (fun _ => Gd.bind_eq (arc_text hat) (Gd.nd ⟨by simp only; omega, by simp only; omega⟩ (Gd.ite (fun _ => Gd.nd ht (Gd.bind_eq (last_eq (by omega) hbs hp2 (text_end _ _)) (Gd.ite (fun _ => Gd.bind_eq (all_eq ha.len) (Gd.ite (fun _ => Gd.ret rfl) (fun h => ?_))) (fun h => ?_)))) (fun h => ?_)))) (fun h => by cases h)
  · have : m = a.length := by simp at h; omega
    rw [this, List.take_length]
    exact Gd.bind_eq (digests_some ha.ok) (Gd.bind_eq (digests_some ha.ok) (Gd.ret (by simp)))
  · rw [wrap_id ⟨by omega, by omega⟩] at h
    simp at h
  · exfalso
    have : ba (textP FNV (a.take m)) = (ba (textP FNV a)).extract 0 (((textP FNV (a.take m)).length : Int).toNat) := by
      refine bl_inj ?_
      rw [bl_extract, bl_ba, bl_ba, Int.toNat_natCast, List.drop_zero]
      have h1 : textP FNV a = textP FNV (a.take m) ++ (p ++ (textP FNV a).drop k) := by
        rw [← List.append_assoc, ← hp1, List.take_append_drop]
      rw [h1, List.take_append_of_le_length (Nat.le_refl _), List.take_length]
    simp only at h
    rw [← this] at h
    simp at h
end Go.Sim
