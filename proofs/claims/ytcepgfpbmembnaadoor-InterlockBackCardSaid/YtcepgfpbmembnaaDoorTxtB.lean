/-
  Texts, in plain Lean: what strings.Split gives; lines.
-/
import Derived.Test.YtcepgfpbmembnaaDoorModB
import Derived.Test.YtcepgfpbmembnaaDoorSimW
import Derived.KernelRfl
namespace Go.Sim
open Go
set_option linter.unusedVariables false
set_option linter.unusedSimpArgs false
set_option linter.unusedSectionVars false
set_option linter.unnecessarySimpa false

/-! ### Bytes -/
abbrev bl (s : ByteArray) : List UInt8 := s.data.toList
def ba (l : List UInt8) : ByteArray := ⟨l.toArray⟩
@[simp] theorem bl_ba (l : List UInt8) : bl (ba l) = l := rfl
@[simp] theorem ba_bl (s : ByteArray) : ba (bl s) = s := by
  show (⟨s.data.toList.toArray⟩ : ByteArray) = s
  rw [Array.toArray_toList]
theorem bl_inj {a b : ByteArray} (h : bl a = bl b) : a = b := by rw [← ba_bl a, h, ba_bl]
theorem bl_len (s : ByteArray) : (bl s).length = s.size := by show s.data.toList.length = s.data.size; exact Array.length_toList
theorem ba_size (l : List UInt8) : (ba l).size = l.length := (bl_len (ba l)).symm
theorem bl_app (a b : ByteArray) : bl (a ++ b) = bl a ++ bl b := by show (a ++ b).data.toList = _; simp
theorem ba_app (a b : List UInt8) : ba a ++ ba b = ba (a ++ b) := bl_inj (bl_app _ _)
theorem bl_extract (s : ByteArray) (i j : Nat) : bl (s.extract i j) = ((bl s).take j).drop i := by
  show (s.extract i j).data.toList = (s.data.toList.take j).drop i
  simp [ByteArray.data_extract, Array.toList_extract, List.drop_take]
theorem size_app (a b : ByteArray) : (a ++ b).size = a.size + b.size := by rw [← bl_len, bl_app, List.length_append, bl_len, bl_len]

/-! ### Where a byte is -/
theorem indexByte_cases (c : UInt8) : ∀ (l : List UInt8), (c ∉ l ∧ Lib.indexByte l c = -1) ∨ ∃ a b, l = a ++ c :: b ∧ c ∉ a ∧ Lib.indexByte l c = a.length
  | [] => .inl ⟨by simp, rfl⟩
  | x :: l => by
    by_cases e : x = c
    · subst e
      exact .inr ⟨[], l, rfl, by simp, by simp [Lib.indexByte]⟩
    · have hb : (x == c) = false := by simpa using e
      rcases indexByte_cases c l with ⟨h1, h2⟩ | ⟨a, b, rfl, h2, h3⟩
      · refine .inl ⟨by simp [h1]; exact fun h => e h.symm, ?_⟩
        simp [Lib.indexByte, hb, h2]
      · refine .inr ⟨x :: a, b, rfl, by simp [h2]; exact fun h => e h.symm, ?_⟩
        simp only [Lib.indexByte, hb, h3]
        rw [if_neg (by simp), if_neg (by simp)]
        simp only [List.length_cons]; omega
theorem bytesL_one (c : UInt8) : bytesL (ba [c]) = [⟨c.toNat⟩] := by simp [bytesL, ba]
theorem toNat_toUInt8 (c : UInt8) : ((c.toNat : Int)).toNat.toUInt8 = c := by simp
theorem index_eq (s : ByteArray) (c : UInt8) : m_strings_Index s (ba [c]) = some (Lib.indexByte (bl s) c) := by
  unfold m_strings_Index m_internal_stringslite_Index m_internal_stringslite_IndexByte
  by_cases e : ba [c] = s
  · subst e
    rw [if_pos (by simp)]
    simp [Lib.indexByte]
  · rw [if_neg (by simp [ba_size, e]), if_pos (by simp [ba_size]), bytesL_one]
    simp [idx, idxB]
theorem count_eq (s : ByteArray) (c : UInt8) : m_strings_Count s (ba [c]) = some (((bl s).count c : Nat) : Int) := by
  unfold m_strings_Count
  rw [if_neg (by simp [ba_size]), if_pos (by simp [ba_size]), bytesL_one]
  simp [idx, cntB, Lib.countByte]

/-! ### strings.Split -/
def splitL (c : UInt8) : List UInt8 → List (List UInt8)
  | [] => [[]]
  | b :: l => if b = c then [] :: splitL c l else match splitL c l with
    | [] => [[b]]
    | h :: t => (b :: h) :: t
theorem splitL_none {c : UInt8} : ∀ {l : List UInt8}, c ∉ l → splitL c l = [l]
  | [], _ => rfl
  | b :: l, h => by
    have h1 : b ≠ c := fun e => h (by rw [e]; exact List.mem_cons_self ..)
    rw [splitL, if_neg h1, splitL_none (l := l) (fun hm => h (List.mem_cons_of_mem _ hm))]
theorem splitL_cons {c : UInt8} {r : List UInt8} : ∀ {a : List UInt8}, c ∉ a → splitL c (a ++ c :: r) = a :: splitL c r
  | [], _ => by rw [List.nil_append, splitL, if_pos rfl]
  | b :: a, h => by
    have h1 : b ≠ c := fun e => h (by rw [e]; exact List.mem_cons_self ..)
    rw [List.cons_append, splitL, if_neg h1, splitL_cons (a := a) (fun hm => h (List.mem_cons_of_mem _ hm))]
theorem splitL_len (c : UInt8) (l : List UInt8) : (splitL c l).length = l.count c + 1 := by
  have key : ∀ (n : Nat) (l : List UInt8), l.length ≤ n → (splitL c l).length = l.count c + 1 := by
    intro n
    induction n with
    | zero => intro l h; have : l = [] := List.eq_nil_of_length_eq_zero (by omega); subst this; rfl
    | succ n ih =>
      intro l h
      rcases indexByte_cases c l with ⟨h1, _⟩ | ⟨a, b, rfl, h2, _⟩
      · rw [splitL_none h1, List.count_eq_zero.2 h1]; rfl
      · rw [splitL_cons h2, List.length_cons, ih b (by simp at h; omega), List.count_append, List.count_eq_zero.2 h2, List.count_cons_self]; omega
  exact key _ l (Nat.le_refl _)
theorem splitL_mem {c : UInt8} {l : List UInt8} : ∀ w ∈ splitL c l, c ∉ w := by
  have key : ∀ (n : Nat) (l : List UInt8), l.length ≤ n → ∀ w ∈ splitL c l, c ∉ w := by
    intro n
    induction n with
    | zero => intro l h; have : l = [] := List.eq_nil_of_length_eq_zero (by omega); subst this; simp [splitL]
    | succ n ih =>
      intro l h w hw
      rcases indexByte_cases c l with ⟨h1, _⟩ | ⟨a, b, rfl, h2, _⟩
      · rw [splitL_none h1, List.mem_singleton] at hw; subst hw; exact h1
      · rw [splitL_cons h2, List.mem_cons] at hw
        rcases hw with rfl | hw
        · exact h2
        · exact ih b (by simp at h; omega) w hw
  exact key _ l (Nat.le_refl _)
/-- The pieces, put together again. -/
def joinL (c : UInt8) : List (List UInt8) → List UInt8
  | [] => []
  | [w] => w
  | w :: v :: r => w ++ c :: joinL c (v :: r)
theorem join_split (c : UInt8) (l : List UInt8) : joinL c (splitL c l) = l := by
  have key : ∀ (n : Nat) (l : List UInt8), l.length ≤ n → joinL c (splitL c l) = l := by
    intro n
    induction n with
    | zero => intro l h; have : l = [] := List.eq_nil_of_length_eq_zero (by omega); subst this; rfl
    | succ n ih =>
      intro l h
      rcases indexByte_cases c l with ⟨h1, _⟩ | ⟨a, b, rfl, h2, _⟩
      · rw [splitL_none h1]; rfl
      · have hb := ih b (by simp at h; omega)
        have hne : splitL c b ≠ [] := fun e => by have := splitL_len c b; rw [e] at this; simp at this
        rw [splitL_cons h2]
        cases hs : splitL c b with
        | nil => exact absurd hs hne
        | cons v r => rw [joinL, ← hs, hb]
  exact key _ l (Nat.le_refl _)

theorem extract_at {s : ByteArray} {a b : List UInt8} {c : UInt8} (h : bl s = a ++ c :: b) : s.extract 0 a.length = ba a ∧ s.extract (a.length + 1) s.size = ba b := by
  have hz : s.size = a.length + 1 + b.length := by rw [← bl_len, h]; simp; omega
  constructor
  · refine bl_inj ?_
    rw [bl_extract, h, bl_ba]; simp
  · refine bl_inj ?_
    rw [bl_extract, h, bl_ba, hz, List.take_of_length_le (by simp; omega)]
    rw [show a ++ c :: b = (a ++ [c]) ++ b by simp, List.drop_append_of_le_length (by simp), List.drop_of_length_le (by simp)]; simp
theorem split_eq (s : ByteArray) (c : UInt8) (hs : s.size ≤ 1000000) : m_strings_Split s (ba [c]) = some ((splitL c (bl s)).map ba) := by
  unfold m_strings_Split m_strings_genSplit
  have hcnt : (bl s).count c ≤ s.size := by rw [← bl_len]; exact List.count_le_length
  rw [if_neg (by decide), if_neg (by simp only [decide_eq_true_eq]; intro h; have := congrArg ByteArray.size h; rw [ba_size] at this; exact Nat.noConfusion this), if_pos (by decide), count_eq]
  simp only [Option.bind_some]
  generalize hc : (bl s).count c = cnt at hcnt
  have w1 : IntKind.i64.wrap ((cnt : Int) + 1) = (cnt : Int) + 1 := wrap_id ⟨by omega, by omega⟩
  have w2 : IntKind.i64.wrap ((s.size : Int) + 1) = (s.size : Int) + 1 := wrap_id ⟨by omega, by omega⟩
  have hmin : min ((cnt : Int) + 1) ((s.size : Int) + 1) = (cnt : Int) + 1 := by omega
  have w3 : IntKind.i64.wrap ((cnt : Int) + 1 - 1) = (cnt : Int) := by rw [wrap_id ⟨by omega, by omega⟩]; omega
  unfold m_strings_genSplit_b4
  rw [w1, w2, hmin]
  suffices h : Gd (need (0 ≤ ((cnt : Int) + 1) ∧ ((cnt : Int) + 1) * 16 ≤ 140737488355328) (loopF (fun s252 n => m_strings_genSplit_b3 s (ba [c]) 0 ((cnt : Int) + 1) s252.1 s252.2.1 s252.2.2 n) FUEL (s, (List.replicate ((cnt : Int) + 1).toNat ((⟨#[]⟩) : ByteArray)), 0)))
      (fun r => r = (splitL c (bl s)).map ba) by
    obtain ⟨r, hr, rfl⟩ := h
    rw [hr]; rfl
  refine Gd.nd ⟨by omega, by omega⟩ (Gd.loopF (fun (z : ByteArray × List ByteArray × Int) => ∃ (k : Nat) (dn : List (List UInt8)), z.2.2 = k ∧ k ≤ cnt ∧ dn.length = k ∧ z.2.1 = dn.map ba ++ List.replicate (cnt + 1 - k) (⟨#[]⟩ : ByteArray) ∧ splitL c (bl s) = dn ++ splitL c (bl z.1) ∧ z.1.size ≤ s.size)
    (fun z => (cnt + 1 - z.2.2.toNat)) ?_ FUEL _ ⟨0, [], rfl, by omega, rfl, by simp, by simp, Nat.le_refl _⟩ (by simp only [FUEL]; omega))
  rintro ⟨s', l, i⟩ nx ⟨k, dn, rfl, hk, hdn, rfl, hsp, hsz⟩ hnx
  simp only at hsp hsz hnx ⊢
  have hcount : (bl s').count c = cnt - k := by
    have h1 := splitL_len c (bl s)
    rw [hsp, List.length_append, splitL_len, hdn, hc] at h1
    omega
  unfold m_strings_genSplit_b3
  rw [w2, hmin, w3]
  refine Gd.ite (fun h1 => ?_) (fun h1 => ?_)
  · have h1 : k < cnt := by simpa using h1
    refine Gd.bind_eq (index_eq s' c) ?_
    rcases indexByte_cases c (bl s') with ⟨hno, _⟩ | ⟨a, b, hab, ha, hi⟩
    · rw [List.count_eq_zero.2 hno] at hcount; omega
    · have hsl : a.length + 1 ≤ s'.size := by rw [← bl_len, hab]; simp
      rw [hi]
      have w4 : IntKind.i64.wrap ((a.length : Int) + 0) = (a.length : Int) := by rw [Int.add_zero]; exact wrap_id ⟨by omega, by omega⟩
      have w5 : IntKind.i64.wrap ((a.length : Int) + ((ba [c]).size : Int)) = (a.length : Int) + 1 := by rw [ba_size]; exact wrap_id ⟨by simp; omega, by simp; omega⟩
      have w6 : IntKind.i64.wrap ((k : Int) + 1) = ((k + 1 : Nat) : Int) := by rw [wrap_id ⟨by omega, by omega⟩]; omega
      rw [w4, w5, w6]
      obtain ⟨x1, x2⟩ := extract_at hab
      refine Gd.ite (fun h => by simp at h; omega) (fun _ => Gd.nd ⟨by omega, by omega⟩ (Gd.idxN (by simp; omega) (Gd.nd ⟨by omega, by omega⟩ (hnx _ ⟨k + 1, dn ++ [a], rfl, by omega, by simp [hdn], ?_, ?_, ?_⟩ (by simp; omega)))))
      · simp only [Int.toNat_natCast]
        rw [x1, List.set_append_right _ _ (by simp [hdn]), show k - (dn.map ba).length = 0 by simp [hdn], show cnt + 1 - k = (cnt + 1 - (k + 1)) + 1 by omega, List.replicate_succ, List.set_cons_zero]
        simp
      · simp only
        rw [show ((a.length : Int) + 1).toNat = a.length + 1 by omega, x2, bl_ba, hsp, hab, splitL_cons ha]
        simp
      · simp only
        rw [show ((a.length : Int) + 1).toNat = a.length + 1 by omega, x2, ba_size]
        have : s'.size = a.length + 1 + b.length := by rw [← bl_len, hab]; simp; omega
        omega
  · have h1 : k = cnt := by have : ¬ k < cnt := by simpa using h1
                            omega
    subst h1
    have hno : c ∉ bl s' := List.count_eq_zero.1 (by omega)
    have w6 : IntKind.i64.wrap ((k : Int) + 1) = ((k + 1 : Nat) : Int) := by rw [wrap_id ⟨by omega, by omega⟩]; omega
    unfold m_strings_genSplit_b2
    rw [w6]
    have hset : (dn.map ba ++ List.replicate (k + 1 - k) (⟨#[]⟩ : ByteArray)).set ((k : Int)).toNat s' = dn.map ba ++ [s'] := by
      rw [Int.toNat_natCast, List.set_append_right _ _ (by simp [hdn]), show k - (dn.map ba).length = 0 by simp [hdn], show k + 1 - k = 0 + 1 by omega, List.replicate_succ, List.set_cons_zero]
      rfl
    refine Gd.idxN (by simp [hdn]) ?_
    rw [hset]
    refine Gd.nd ⟨by omega, by simp [hdn]⟩ (Gd.ret ?_)
    rw [hsp, splitL_none hno]
    simp [slc]
    exact List.take_of_length_le (by simp [hdn])

/-! ### Texts of lines -/
theorem split_join {c : UInt8} : ∀ {ws : List (List UInt8)}, ws ≠ [] → (∀ w ∈ ws, c ∉ w) → splitL c (joinL c ws) = ws
  | [], h, _ => absurd rfl h
  | [w], _, h => splitL_none (h w (by simp))
  | w :: v :: r, _, h => by
    rw [joinL, splitL_cons (h w (by simp)), split_join (ws := v :: r) (by simp) (fun x hx => h x (List.mem_cons_of_mem _ hx))]
def linesT (ls : List (List UInt8)) : List UInt8 := ls.flatMap fun l => l ++ [10]
theorem linesT_app (a : List (List UInt8)) (l : List UInt8) : linesT (a ++ [l]) = linesT a ++ (l ++ [10]) := by simp [linesT]
theorem linesT_join : ∀ {ls : List (List UInt8)}, ls ≠ [] → linesT ls = joinL 10 ls ++ [10]
  | [], h => absurd rfl h
  | [w], _ => by simp [linesT, joinL]
  | w :: v :: r, _ => by
    have := linesT_join (ls := v :: r) (by simp)
    rw [show linesT (w :: v :: r) = (w ++ [10]) ++ linesT (v :: r) from rfl, this, joinL]
    simp
theorem linesT_count {ls : List (List UInt8)} (h : ∀ w ∈ ls, (10 : UInt8) ∉ w) : (linesT ls).count 10 = ls.length := by
  induction ls with
  | nil => rfl
  | cons w r ih =>
    rw [show linesT (w :: r) = (w ++ [10]) ++ linesT r from rfl, List.count_append, List.count_append, List.count_eq_zero.2 (h w (by simp)), ih (fun x hx => h x (List.mem_cons_of_mem _ hx))]
    simp; omega
theorem suffix_eq (l : List UInt8) (c d : UInt8) (hl : l.length < 1000000) : m_internal_stringslite_HasSuffix (ba (l ++ [c])) (ba [d]) = some (decide (c = d)) := by
  unfold m_internal_stringslite_HasSuffix
  have h1 : (ba (l ++ [c])).size = l.length + 1 := by rw [ba_size]; simp
  have h2 : (ba [d]).size = 1 := rfl
  have w : IntKind.i64.wrap (((ba (l ++ [c])).size : Int) - ((ba [d]).size : Int)) = (l.length : Int) := by
    rw [h1, h2, wrap_id ⟨by omega, by omega⟩]; omega
  rw [if_pos (by rw [h1, h2]; simp; omega), w]
  unfold need
  rw [if_pos ⟨by omega, by rw [h1]; omega⟩]
  have : (ba (l ++ [c])).extract (l.length : Int).toNat (ba (l ++ [c])).size = ba [c] := by
    refine bl_inj ?_
    rw [bl_extract, h1, bl_ba, bl_ba, List.take_of_length_le (by simp)]
    simp
  rw [this]
  congr 1
  by_cases e : c = d
  · subst e; simp
  · rw [decide_eq_false e, decide_eq_false]
    intro h
    have := congrArg bl h
    rw [bl_ba, bl_ba] at this
    exact e (by simpa using this)
theorem trim_eq (l : List UInt8) (hl : l.length < 1000000) : m_strings_TrimSuffix (ba (l ++ [10])) (ba [10]) = some (ba l) := by
  unfold m_strings_TrimSuffix m_internal_stringslite_TrimSuffix
  rw [suffix_eq _ _ _ hl]
  have h1 : (ba (l ++ [10])).size = l.length + 1 := by rw [ba_size]; simp
  have w : IntKind.i64.wrap (((ba (l ++ [10])).size : Int) - ((ba [10]).size : Int)) = (l.length : Int) := by
    rw [h1, show (ba [10]).size = 1 from rfl, wrap_id ⟨by omega, by omega⟩]; omega
  simp only [Option.bind_some, decide_true, if_true]
  rw [w]
  unfold need
  rw [if_pos ⟨by omega, by rw [h1]; omega⟩]
  simp only [Option.bind_some, Option.some.injEq]
  refine bl_inj ?_
  rw [bl_extract, bl_ba, bl_ba]
  simp
theorem trim_ne (l : List UInt8) (c : UInt8) (h : c ≠ 10) (hl : l.length < 1000000) : m_strings_TrimSuffix (ba (l ++ [c])) (ba [10]) = some (ba (l ++ [c])) := by
  unfold m_strings_TrimSuffix m_internal_stringslite_TrimSuffix
  rw [suffix_eq _ _ _ hl, decide_eq_false h]
  rfl
theorem has_eq (l : List UInt8) (c : UInt8) (hl : l.length < 1000000) : m_strings_HasSuffix (ba (l ++ [c])) (ba [10]) = some (decide (c = 10)) := by
  unfold m_strings_HasSuffix
  rw [suffix_eq _ _ _ hl]; rfl

end Go.Sim
