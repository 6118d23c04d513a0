/-
  A text of which one byte was changed, in plain Lean.
-/
import Derived.Test.YtldmgakhhhjhoaaDoorAspR
namespace Go.Sim
open Go
set_option linter.unusedVariables false
set_option linter.unusedSimpArgs false
set_option linter.unusedSectionVars false
set_option linter.unnecessarySimpa false

theorem fact_true : m_gridhallkeep4_archiveFact = some true := by kernel_rfl
theorem arc_text {a : List Ev} (h : Arc a) : m_archive_Archive_Text ⟨a⟩ = some (ba (textP FNV a)) := text_eq h.ok h.len
theorem text_count : ∀ (l : List Ev) (n : Int), (∀ e ∈ l, EvOk e) → (textP n l).count 10 = l.length
  | [], _, _ => rfl
  | e :: l, n, h => by
    rw [textP, List.count_append, List.count_cons_self, text_count l _ (fun x hx => h x (List.mem_cons_of_mem _ hx)), List.count_eq_zero.2 (row10 n (h e (by simp))), List.length_cons]
    omega
theorem take_text : ∀ (l : List Ev) (n : Int) (k : Nat), (∀ e ∈ l, EvOk e) → k ≤ (textP n l).length →
    ∃ m p, m ≤ l.length ∧ (textP n l).take k = textP n (l.take m) ++ p ∧ (10 : UInt8) ∉ p
  | [], n, k, _, hk => ⟨0, [], Nat.le_refl _, by simp [textP], by simp⟩
  | e :: l, n, k, h, hk => by
    have h10 := row10 n (h e (by simp))
    by_cases hc : k ≤ (rowP n e).length
    · refine ⟨0, (rowP n e).take k, by omega, ?_, fun hm => h10 (List.mem_of_mem_take hm)⟩
      rw [textP, List.take_append_of_le_length hc]; simp [textP]
    · obtain ⟨k', rfl⟩ : ∃ k', k = (rowP n e).length + 1 + k' := ⟨k - (rowP n e).length - 1, by omega⟩
      simp only [textP, List.length_append, List.length_cons] at hk
      obtain ⟨m, p, hm, h1, h2⟩ := take_text l (digP n (lineP e)) k' (fun x hx => h x (List.mem_cons_of_mem _ hx)) (by omega)
      refine ⟨m + 1, p, by simp; omega, ?_, h2⟩
      rw [List.take_succ_cons, textP, textP, show rowP n e ++ 10 :: textP (digP n (lineP e)) l = (rowP n e ++ [10]) ++ textP (digP n (lineP e)) l by simp]
      have e1 : (rowP n e).length + 1 + k' - (rowP n e ++ [10]).length = k' := by
        rw [List.length_append, List.length_singleton]; omega
      have e2 : (rowP n e ++ [10]).length ≤ (rowP n e).length + 1 + k' := by
        rw [List.length_append, List.length_singleton]; omega
      rw [List.take_append, List.take_of_length_le e2, e1, h1]
      simp

/-! ### Bytes and their text -/
def u8s (l : List UInt8) : List U8 := l.map fun b : UInt8 => (⟨b.toNat⟩ : U8)
theorem bl_bstr (l : List U8) : bl (bstr l) = l.map fun y => UInt8.ofNat y.n.toNat := by simp [bstr, bl]
theorem bl_bstr_u8s (l : List UInt8) : bl (bstr (u8s l)) = l := by
  rw [bl_bstr, u8s, List.map_map]
  have : ∀ b ∈ l, ((fun y : U8 => UInt8.ofNat y.n.toNat) ∘ fun b : UInt8 => (⟨b.toNat⟩ : U8)) b = b := fun b _ => by simp
  exact (List.map_congr_left this).trans (List.map_id _)
theorem bytesL_u8s (s : ByteArray) : bytesL s = u8s (bl s) := rfl
theorem u8w (n : Int) : IntKind.u8.wrap n = n % 256 := by simp [IntKind.wrap, IntKind.bits, IntKind.signed]
/-- The byte that is written. -/
def newB (c : UInt8) (by_ : Int) : Int := IntKind.u8.wrap ((BitVec.ofInt (IntKind.u8).bits (c.toNat : Int) ^^^ BitVec.ofInt (IntKind.u8).bits by_).toNat)
theorem newB_iff (c : UInt8) {b : Int} (h : 0 ≤ b ∧ b ≤ 255) : UInt8.ofNat (newB c b).toNat = c ↔ b = 0 := by
  have hc : c.toNat < 256 := c.toNat_lt
  have e1 : (BitVec.ofInt (IntKind.u8).bits (c.toNat : Int)) = BitVec.ofNat 8 c.toNat := by
    show BitVec.ofInt 8 (c.toNat : Int) = _
    rw [BitVec.ofInt_natCast]
  obtain ⟨k, rfl⟩ : ∃ k : Nat, b = k := ⟨b.toNat, by omega⟩
  have e2 : (BitVec.ofInt (IntKind.u8).bits (k : Int)) = BitVec.ofNat 8 k := by
    show BitVec.ofInt 8 (k : Int) = _
    rw [BitVec.ofInt_natCast]
  have hv : newB c (k : Int) = ((c.toNat ^^^ k : Nat) : Int) := by
    unfold newB
    rw [e1, e2, u8w]
    have hlt : (BitVec.ofNat 8 c.toNat ^^^ BitVec.ofNat 8 k).toNat = c.toNat ^^^ k := by
      rw [BitVec.toNat_xor, BitVec.toNat_ofNat, BitVec.toNat_ofNat, Nat.mod_eq_of_lt (by omega), Nat.mod_eq_of_lt (by omega)]
    have hb : (BitVec.ofNat 8 c.toNat ^^^ BitVec.ofNat 8 k).toNat < 256 := BitVec.isLt _
    show (((BitVec.ofNat 8 c.toNat ^^^ BitVec.ofNat 8 k).toNat : Nat) : Int) % 256 = _
    rw [hlt] at hb ⊢
    omega
  have hx : c.toNat ^^^ k < 256 := Nat.xor_lt_two_pow (n := 8) (by omega) (by omega)
  rw [hv, Int.toNat_natCast]
  constructor
  · intro h
    have h2 : c.toNat ^^^ k = c.toNat := by
      have := congrArg UInt8.toNat h
      rw [UInt8.toNat_ofNat', Nat.mod_eq_of_lt (by omega)] at this
      exact this
    have h3 : c.toNat ^^^ (c.toNat ^^^ k) = 0 := by rw [h2, Nat.xor_self]
    rw [← Nat.xor_assoc, Nat.xor_self, Nat.zero_xor] at h3
    omega
  · intro h
    have : k = 0 := by omega
    subst this
    rw [Nat.xor_zero]
    simp

theorem ArchiveSpoilt_of (l : List Ev) (at_ b : Int) (hl : ∀ e ∈ l, EvSz e) (hb : 0 ≤ b ∧ b ≤ 255) : m_gridhallkeep4_ArchiveSpoilt l at_ b = some true := by
  rw [← Gd.eq]
  unfold m_gridhallkeep4_ArchiveSpoilt
  refine Gd.bnd (archiveOf_gd l hl) ?_
  rintro o ⟨a, rfl, ha, hn⟩
  refine Gd.opt (fun h => by cases h) (fun sp hsp => ?_)
  obtain rfl : sp = ⟨a⟩ := (Option.some.inj hsp).symm
  have hlen := textP_len a FNV ha.ok
  refine Gd.bind_eq fact_true (Gd.ite (fun h => by simp at h) (fun _ => Gd.bind_eq (arc_text ha) (Gd.nd (by rw [ba_size]; simp only [maxLen]; omega) ?_)))
  rw [bytesL_u8s, bl_ba]
  have hul : (u8s (textP FNV a)).length = (textP FNV a).length := by simp [u8s]
  rw [hul]
  refine Gd.ite (fun _ => Gd.ret rfl) (fun h0 => ?_)
  have hpos : 0 < (textP FNV a).length := by simp at h0; exact List.length_pos_iff.2 (by simpa using h0)
  have hw : IntKind.i64.wrap (((textP FNV a).length : Int) - 1) = ((textP FNV a).length : Int) - 1 := wrap_id ⟨by omega, by omega⟩
  rw [hw]
  refine Gd.bnd (cut_gd at_ 0 _ ⟨by omega, by omega, by omega⟩) (fun t ht => Gd.nd ⟨by omega, by omega⟩ ?_)
  obtain ⟨k, rfl⟩ : ∃ k : Nat, t = k := ⟨t.toNat, by omega⟩
  have hk : k < (textP FNV a).length := by omega
  obtain ⟨m, p, hm, hp1, hp2⟩ := take_text a FNV k ha.ok (by omega)
  have hat : Arc (a.take m) := by
    have : Arc (a.take m ++ a.drop m) := by rw [List.take_append_drop]; exact ha
    exact this.left
  have htm : (a.take m).length = m := by rw [List.length_take]; omega
  have hcnt : m_strings_Count (bstr ((u8s (textP FNV a)).take ((k : Int).toNat))) (ba [10]) = some (m : Int) := by
    have e : (u8s (textP FNV a)).take ((k : Int).toNat) = u8s ((textP FNV a).take k) := by simp [u8s]
    rw [e, count_eq, bl_bstr_u8s, hp1, List.count_append, text_count _ _ hat.ok, List.count_eq_zero.2 hp2, htm]
    rfl
  obtain ⟨c, hc⟩ : ∃ c, (textP FNV a)[k]? = some c := ⟨_, List.getElem?_eq_getElem hk⟩
  have hy : (u8s (textP FNV a))[(k : Int).toNat]? = some ⟨c.toNat⟩ := by
    simp [u8s, hc]
  refine Gd.bind_eq hcnt (Gd.ix (by omega) hy (Gd.ix (by omega) hy ?_))
  have hbs : bl (bstr (((u8s (textP FNV a)).set ((k : Int).toNat) ⟨newB c b⟩).take (textP FNV a).length)) = (textP FNV a).set k (UInt8.ofNat (newB c b).toNat) := by
    rw [List.take_of_length_le (by rw [List.length_set]; omega), bl_bstr, List.map_set, Int.toNat_natCast, ← bl_bstr, bl_bstr_u8s]
  show Gd ((m_archive_Recover (bstr (((u8s (textP FNV a)).set ((k : Int).toNat) ⟨newB c b⟩).take (textP FNV a).length))).bind _) _
  have hss : (bstr (((u8s (textP FNV a)).set ((k : Int).toNat) ⟨newB c b⟩).take (textP FNV a).length)).size = (textP FNV a).length := by
    rw [← bl_len, hbs, List.length_set]
  generalize bstr (((u8s (textP FNV a)).set ((k : Int).toNat) ⟨newB c b⟩).take (textP FNV a).length) = s at hbs hss
  have hsplit : bl s = textP FNV (a.take m) ++ (p ++ UInt8.ofNat (newB c b).toNat :: (textP FNV a).drop (k + 1)) := by
    rw [hbs, List.set_eq_take_append_cons_drop, if_pos hk, hp1, List.append_assoc]
  obtain ⟨r, hr, l1, hA, rfl, ⟨r', hr'⟩, _⟩ := recover_gd (s := s) (by omega) hat hsplit
  have hB : (a.take m ++ l1 = a) ↔ b = 0 := by
    rw [← newB_iff c hb]
    constructor
    · intro he
      rw [he, hbs] at hr'
      have hl' := congrArg List.length hr'
      simp at hl'
      subst hl'
      rw [List.append_nil] at hr'
      have := congrArg (fun l : List UInt8 => l[k]?) hr'
      rw [List.getElem?_set_self hk, hc] at this
      exact Option.some.inj this
    · intro he
      rw [he] at hbs
      have hs2 : bl s = textP FNV a ++ [] := by
        rw [hbs, List.append_nil]
        apply List.ext_getElem?
        intro i
        by_cases hi : i = k
        · subst hi; rw [List.getElem?_set_self hk, hc]
        · rw [List.getElem?_set_ne (fun h => hi h.symm)]
      obtain ⟨r2, hr2, l2, _, rfl, _, hq⟩ := recover_gd (s := s) (by omega) ha hs2
      have := hq (by simp)
      subst this
      rw [List.append_nil, hr] at hr2
      have := congrArg (fun o => o.map (·.1)) hr2
      simp at this
      exact this
  refine Gd.bind_eq hr (Gd.opt (fun h => by cases h) (fun sp hsp => ?_))
  obtain rfl : sp = ⟨a.take m ++ l1⟩ := (Option.some.inj hsp).symm
  refine Gd.ite (fun h => by simp at h) (fun _ => Gd.bind_eq (all_eq hA.len) (Gd.ite (fun _ => Gd.bind_eq (all_eq hA.len) (Gd.nd ⟨by omega, by simp; omega⟩ (Gd.bind_eq (all_eq ha.len) (Gd.nd ⟨by omega, by omega⟩ ?_)))) (fun h => ?_)))
  · have e1 : slc (a.take m ++ l1) 0 ((m : Int).toNat) = a.take m := by
      simp only [slc, List.drop_zero, Int.toNat_natCast, Nat.sub_zero]
      rw [List.take_append_of_le_length (by omega), List.take_of_length_le (by omega)]
    have e2 : slc a 0 ((m : Int).toNat) = a.take m := by simp [slc]
    rw [e1, e2]
    refine Gd.bnd (equal_gd (a.take m) (a.take m)) (fun r hr => ?_)
    rw [hr.2 rfl]
    refine Gd.ite (fun _ => Gd.bind_eq (all_eq hA.len) (Gd.bind_eq (all_eq ha.len) (Gd.bnd (equal_gd _ _) (fun r hr => Gd.ret ?_)))) (fun h => by cases h)
    rw [hB] at hr
    cases r with
    | true => simp [hr.1 rfl]
    | false =>
      have : ¬ b = 0 := fun h => by have := hr.2 h; cases this
      simp [this]
  · simp at h; omega
end Go.Sim
