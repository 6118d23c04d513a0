/-
  Printed by a program: each Go function computes its model.
-/
import Derived.Test.YtfakgoeoclfoaaaGreatDoorConL2
namespace Go.Sim
open Go Go.Proofs.Tryz
set_option linter.unusedVariables false
set_option linter.unusedSimpArgs false
set_option maxRecDepth 100000
theorem m_internal_stringslite_TrimPrefix_c {B : Nat} {w0 w : World} [Tabs B w0] {H : Hp} {M : List Res} {p0_s : ByteArray} {p1_prefix : ByteArray} {r : ByteArray} (hm : m_internal_stringslite_TrimPrefix p0_s p1_prefix = some r) (ht : St B w0 H (M) w) :
  Calls prog 74 [.string (p0_s), .string (p1_prefix)].toArray w (Ret B w0 fun H' M' v => H = H' ∧ M = M' ∧ .string (r) = v) := by
 unfold m_internal_stringslite_TrimPrefix at hm
 refine enter func74 rfl rfl rfl ht ?_
 refine C_seq (C_region ?_)
 refine W_assign rfl rfl rfl ?_
 refine W_end (E_then (C_seq (C_seq (C_region ?_))))
 refine W_move rfl rfl rfl ?_
 refine W_move rfl rfl rfl ?_
 obtain ⟨r101, hc102, hm⟩ := bind_some hm
 refine W_call call78 rfl rfl rfl (fun w ht => by have h := m_internal_stringslite_HasPrefix_c (hm := hc102)  ht; exact h) ?_
 rintro _ _ _ ⟨rfl, rfl, rfl⟩
 refine W_end (E_then ?_)
 refine C_cond (b := r101) rfl (fun hb103 => ?_) (fun hb103 => ?_)
 ·have hm := ite_t' hb103 hm
  refine C_seq (C_region ?_)
  refine W_move rfl rfl rfl ?_
  refine W_move rfl rfl rfl ?_
  refine W_lenStr rfl rfl runUnderlying9 rfl ?_
  obtain ⟨hz104, hm⟩ := need_some hm
  refine W_sliceStr (l := ((p1_prefix.size : Int) : Int).toNat) (h := p0_s.size) rfl rfl runUnderlying9 rfl (.inl ⟨rfl, rfl⟩) (.inr ⟨_, _, _, rfl, rfl, by omega, by omega, rfl⟩) ?_
  refine W_assign rfl rfl rfl ?_
  refine W_end (E_then (C_ret (E_ret_then ?_)))
  obtain rfl := Option.some.inj hm
  refine E_weak (Hp.le_refl _) ?_
  exact end1 rfl rfl ⟨rfl, rfl, rfl⟩
 ·have hm := ite_f' hb103 hm
  refine C_skip (E_then (C_seq (C_region ?_)))
  refine W_move rfl rfl rfl ?_
  refine W_assign rfl rfl rfl ?_
  refine W_end (E_then (C_ret ?_))
  obtain rfl := Option.some.inj hm
  refine E_weak (Hp.le_refl _) ?_
  exact end1 rfl rfl ⟨rfl, rfl, rfl⟩

theorem m_strings_TrimPrefix_c {B : Nat} {w0 w : World} [Tabs B w0] {H : Hp} {M : List Res} {p0_s : ByteArray} {p1_prefix : ByteArray} {r : ByteArray} (hm : m_strings_TrimPrefix p0_s p1_prefix = some r) (ht : St B w0 H (M) w) :
  Calls prog 60 [.string (p0_s), .string (p1_prefix)].toArray w (Ret B w0 fun H' M' v => H = H' ∧ M = M' ∧ .string (r) = v) := by
 unfold m_strings_TrimPrefix at hm
 refine enter func60 rfl rfl rfl ht ?_
 refine C_seq (C_region ?_)
 refine W_assign rfl rfl rfl ?_
 refine W_end (E_then (C_seq (C_region ?_)))
 refine W_move rfl rfl rfl ?_
 refine W_move rfl rfl rfl ?_
 obtain ⟨r101, hc102, hm⟩ := bind_some hm
 refine W_call call74 rfl rfl rfl (fun w ht => by have h := m_internal_stringslite_TrimPrefix_c (hm := hc102)  ht; exact h) ?_
 rintro _ _ _ ⟨rfl, rfl, rfl⟩
 refine W_assign rfl rfl rfl ?_
 refine W_end (E_then (C_ret ?_))
 obtain rfl := Option.some.inj hm
 refine E_weak (Hp.le_refl _) ?_
 exact end1 rfl rfl ⟨rfl, rfl, rfl⟩

theorem m_internal_stringslite_IndexByte_c {B : Nat} {w0 w : World} [Tabs B w0] {H : Hp} {M : List Res} {p0_s : ByteArray} {p1_c : Int} {r : Int} (hm : m_internal_stringslite_IndexByte p0_s p1_c = r) (ht : St B w0 H (M) w) :
  Calls prog 85 [.string (p0_s), .int .u8 (p1_c)].toArray w (Ret B w0 fun H' M' v => H = H' ∧ M = M' ∧ .int .i64 (r) = v) := by
 unfold m_internal_stringslite_IndexByte at hm
 refine enter func85 rfl rfl rfl ht ?_
 refine C_seq (C_region ?_)
 refine W_assign rfl rfl rfl ?_
 refine W_end (E_then (C_seq (C_region ?_)))
 refine W_move rfl rfl rfl ?_
 refine W_move rfl rfl rfl ?_
 refine W_extern (idxB_extern func101 (by kernel_rfl) (by kernel_rfl) (by kernel_rfl) (by kernel_rfl) _ _) rfl rfl rfl ?_
 refine W_assign rfl rfl rfl ?_
 refine W_end (E_then (C_ret ?_))
 obtain rfl := hm
 refine E_weak (Hp.le_refl _) ?_
 exact end1 rfl rfl ⟨rfl, rfl, rfl⟩

theorem m_internal_stringslite_Index_c {B : Nat} {w0 w : World} [Tabs B w0] {H : Hp} {M : List Res} {p0_s : ByteArray} {substr : ByteArray} {r : Int} (hm : m_internal_stringslite_Index p0_s substr = some r) (ht : St B w0 H (M) w) :
  Calls prog 77 [.string (p0_s), .string (substr)].toArray w (Ret B w0 fun H' M' v => H = H' ∧ M = M' ∧ .int .i64 (r) = v) := by
 unfold m_internal_stringslite_Index at hm
 refine enter func77 rfl rfl rfl ht ?_
 refine C_seq (C_region ?_)
 refine W_assign rfl rfl rfl ?_
 refine W_end (E_then (C_seq (C_region ?_)))
 refine W_move rfl rfl rfl ?_
 refine W_lenStr rfl rfl runUnderlying9 rfl ?_
 refine W_assign rfl rfl rfl ?_
 refine W_end (E_then (C_seq (C_block ?_)))
 refine C_seq_join (fun H' M' L' => H = H' ∧ M = M' ∧ [(0, .string (p0_s)), (1, .string (substr)), (5, .int .i64 ((substr.size : Int))), (16, .bool ((decide ((substr.size : Int) = 0)) || (decide (substr = p0_s))))] = L') ?_ (fun J102 => ?_)
 ·rintro _ _ _ ⟨rfl, rfl, rfl⟩
  refine C_cond (b := (decide ((substr.size : Int) = 0)) || (decide (substr = p0_s))) rfl (fun hb103 => ?_) (fun hb103 => ?_)
  ·have hm := ite_t' hb103 hm
   refine C_seq (C_region ?_)
   refine W_assign rfl rfl rfl ?_
   refine W_end (E_then (C_ret (E_ret_block (E_ret_then ?_))))
   obtain rfl := Option.some.inj hm
   refine E_weak (Hp.le_refl _) ?_
   exact end1 rfl rfl ⟨rfl, rfl, rfl⟩
  ·have hm := ite_f' hb103 hm
   refine C_seq (C_region ?_)
   refine W_move rfl rfl rfl ?_
   refine W_bin rfl rfl rfl rfl rfl ?_
   refine W_assign rfl rfl rfl ?_
   refine W_end (E_then ?_)
   refine C_cond (b := decide ((substr.size : Int) = 1)) rfl (fun hb104 => ?_) (fun hb104 => ?_)
   ·have hm := ite_t' hb104 hm
    refine C_seq (C_region ?_)
    refine W_move rfl rfl rfl ?_
    refine W_move rfl rfl rfl ?_
    obtain ⟨y105, h106, he107, hm⟩ := idx_some hm
    refine W_indexStr rfl rfl runUnderlying9 rfl rfl h106 he107 ?_
    refine W_call call85 rfl rfl rfl (fun w ht => by have h := m_internal_stringslite_IndexByte_c (hm := (rfl : m_internal_stringslite_IndexByte p0_s y105.n = _))  ht; exact h) ?_
    rintro _ _ _ ⟨rfl, rfl, rfl⟩
    refine W_assign rfl rfl rfl ?_
    refine W_end (E_then (C_ret (E_ret_block (E_ret_then ?_))))
    obtain rfl := Option.some.inj hm
    refine E_weak (Hp.le_refl _) ?_
    exact end1 rfl rfl ⟨rfl, rfl, rfl⟩
   ·have hm := ite_f' hb104 hm
    refine C_seq (C_region ?_)
    refine W_move rfl rfl rfl ?_
    refine W_move rfl rfl rfl ?_
    refine W_lenStr rfl rfl runUnderlying9 rfl ?_
    refine W_bin rfl rfl rfl rfl rfl ?_
    refine W_assign rfl rfl rfl ?_
    refine W_end (E_then ?_)
    refine C_cond (b := decide ((p0_s.size : Int) ≤ (substr.size : Int))) rfl (fun hb108 => ?_) (fun hb108 => ?_)
    ·have hm := ite_t' hb108 hm
     refine C_seq (C_region ?_)
     refine W_assign rfl rfl rfl ?_
     refine W_end (E_then (C_ret (E_ret_block (E_ret_then ?_))))
     obtain rfl := Option.some.inj hm
     refine E_weak (Hp.le_refl _) ?_
     exact end1 rfl rfl ⟨rfl, rfl, rfl⟩
    ·have hm := ite_f' hb108 hm
     refine C_seq ?_
     cases hm
 ·refine C_region ?_
  refine W_move rfl rfl rfl ?_
  refine W_bin rfl rfl rfl rfl rfl ?_
  refine W_move rfl rfl rfl ?_
  cases hb109 : (decide ((substr.size : Int) = 0))
  ·refine W_move rfl rfl rfl ?_
   refine W_move rfl rfl rfl ?_
   refine W_bin rfl rfl rfl rfl rfl ?_
   refine W_pick rfl rfl rfl rfl ?_
   refine W_assign rfl rfl rfl ?_
   refine W_end ?_
   exact E_keepJ (J102 _ _ _ ⟨rfl, rfl, rfl⟩) (List.Perm.refl _) ⟨rfl, rfl, rfl, (by show some (Value.bool (decide (substr = p0_s))) = some (Value.bool ((decide ((substr.size : Int) = 0)) || (decide (substr = p0_s)))); first | (simp only [hb109, Bool.and_true, Bool.true_and, Bool.false_and, Bool.and_false, Bool.or_true, Bool.true_or, Bool.or_false, Bool.false_or, Bool.not_true, Bool.not_false]; done) | (simp only [hb109]; first | done | simp only [Bool.and_true, Bool.true_and, Bool.false_and, Bool.and_false, Bool.or_true, Bool.true_or, Bool.or_false, Bool.false_or, Bool.not_true, Bool.not_false])), trivial⟩
  ·refine W_no rfl rfl rfl ?_
   refine W_no rfl rfl rfl ?_
   refine W_no rfl rfl rfl ?_
   refine W_pick rfl rfl rfl rfl ?_
   refine W_assign rfl rfl rfl ?_
   refine W_end ?_
   exact E_keepJ (J102 _ _ _ ⟨rfl, rfl, rfl⟩) (List.Perm.refl _) ⟨rfl, rfl, rfl, (by show some (Value.bool (true)) = some (Value.bool ((decide ((substr.size : Int) = 0)) || (decide (substr = p0_s)))); first | (simp only [hb109, Bool.and_true, Bool.true_and, Bool.false_and, Bool.and_false, Bool.or_true, Bool.true_or, Bool.or_false, Bool.false_or, Bool.not_true, Bool.not_false]; done) | (simp only [hb109]; first | done | simp only [Bool.and_true, Bool.true_and, Bool.false_and, Bool.and_false, Bool.or_true, Bool.true_or, Bool.or_false, Bool.false_or, Bool.not_true, Bool.not_false])), trivial⟩

theorem m_internal_stringslite_Cut_c {B : Nat} {w0 w : World} [Tabs B w0] {H : Hp} {M : List Res} {p0_s : ByteArray} {sep : ByteArray} {r : ByteArray × ByteArray × Bool} (hm : m_internal_stringslite_Cut p0_s sep = some r) (ht : St B w0 H (M) w) :
  Calls prog 63 [.string (p0_s), .string (sep)].toArray w (Ret B w0 fun H' M' v => H = H' ∧ M = M' ∧ .tuple #[.string (r.1), .string (r.2.1), .bool (r.2.2)] = v) := by
 unfold m_internal_stringslite_Cut at hm
 refine enter func63 rfl rfl rfl ht ?_
 refine C_seq (C_region ?_)
 refine W_assign rfl rfl rfl ?_
 refine W_assign rfl rfl rfl ?_
 refine W_assign rfl rfl rfl ?_
 refine W_end (E_then (C_seq (C_seq (C_region ?_))))
 refine W_move rfl rfl rfl ?_
 refine W_move rfl rfl rfl ?_
 obtain ⟨r101, hc102, hm⟩ := bind_some hm
 refine W_call call77 rfl rfl rfl (fun w ht => by have h := m_internal_stringslite_Index_c (hm := hc102)  ht; exact h) ?_
 rintro _ _ _ ⟨rfl, rfl, rfl⟩
 refine W_assign rfl rfl rfl ?_
 refine W_end (E_then (C_seq (C_region ?_)))
 refine W_move rfl rfl rfl ?_
 refine W_bin rfl rfl rfl rfl rfl ?_
 refine W_end (E_then ?_)
 refine C_cond (b := decide (0 ≤ r101)) rfl (fun hb103 => ?_) (fun hb103 => ?_)
 ·have hm := ite_t' hb103 hm
  refine C_seq ?_
  obtain ⟨hz104, hm⟩ := need_some hm
  obtain ⟨hz105, hm⟩ := need_some hm
  refine C_region_tok 10 (phiT [(fun H rs v => [] = rs ∧ .string (p0_s) = v), (fun H rs v => [] = rs ∧ .int .i64 (r101) = v), (fun H rs v => [] = rs ∧ .string (p0_s.extract 0 ((r101 : Int).toNat)) = v), (fun H rs v => [] = rs ∧ .string (p0_s) = v), (fun H rs v => [] = rs ∧ .int .i64 (r101) = v), (fun H rs v => [] = rs ∧ .string (sep) = v), (fun H rs v => [] = rs ∧ .int .i64 ((sep.size : Int)) = v), (fun H rs v => [] = rs ∧ .int .i64 (IntKind.i64.wrap (r101 + (sep.size : Int))) = v), (fun H rs v => [] = rs ∧ .string (p0_s.extract ((IntKind.i64.wrap (r101 + (sep.size : Int)) : Int).toNat) p0_s.size) = v), (fun H rs v => [] = rs ∧ .string (p0_s.extract 0 ((r101 : Int).toNat)) = v)]) [[], [], [], [], [], [], [], [], [], []] [[], [], [], [], [], [], [], [], [], []] [] [0, 1, 2, 3, 4, 5, 6, 7, 8, 9] [(0, .string (p0_s)), (1, .string (sep)), (5, .string (⟨#[]⟩)), (6, .bool (false)), (7, .int .i64 (r101)), (8, .string (p0_s)), (9, .string (sep)), (10, .int .i64 (r101)), (11, .int .i64 (r101)), (12, .bool (decide (0 ≤ r101)))] [[], [], [], [], [], [], [], [], [], []] Facts.mixed (by kernel_rfl) (by rfl) (by rfl) (by kernel_rfl) (Kept.lk ⟨rfl, rfl, rfl, rfl, rfl, rfl, rfl, rfl, rfl, rfl, trivial⟩) ⟨trivial, trivial, trivial, trivial, trivial, trivial, trivial, trivial, trivial, trivial, trivial⟩ (by rfl) (by kernel_rfl) (phiT_mono ⟨eq_monoT _ _, eq_monoT _ _, eq_monoT _ _, eq_monoT _ _, eq_monoT _ _, eq_monoT _ _, eq_monoT _ _, eq_monoT _ _, eq_monoT _ _, eq_monoT _ _, trivial⟩) ⟨?_, ?_, ?_, ?_, ?_, ?_, ?_, ?_, ?_, ?_, trivial⟩ ?_
  ·intro HX hX X Rest hR
   intro hU hUp
   refine W_move rfl rfl rfl ?_
   exact W_end (OneT_end [] (Hp.le_refl _) ⟨rfl, rfl⟩)
  ·intro HX hX X Rest hR
   intro hU hUp
   refine W_move rfl rfl rfl ?_
   exact W_end (OneT_end [] (Hp.le_refl _) ⟨rfl, rfl⟩)
  ·intro HX hX X Rest hR
   rintro _ _ ⟨rfl, rfl⟩
   rintro _ _ ⟨rfl, rfl⟩
   intro hU hUp
   refine W_sliceStr (l := 0) (h := (r101 : Int).toNat) rfl rfl runUnderlying9 rfl (.inr ⟨_, _, _, rfl, rfl, by omega, by omega, rfl⟩) (.inl ⟨rfl, rfl⟩) ?_
   exact W_end (OneT_end [] (Hp.le_refl _) ⟨rfl, rfl⟩)
  ·intro HX hX X Rest hR
   intro hU hUp
   refine W_move rfl rfl rfl ?_
   exact W_end (OneT_end [] (Hp.le_refl _) ⟨rfl, rfl⟩)
  ·intro HX hX X Rest hR
   intro hU hUp
   refine W_move rfl rfl rfl ?_
   exact W_end (OneT_end [] (Hp.le_refl _) ⟨rfl, rfl⟩)
  ·intro HX hX X Rest hR
   intro hU hUp
   refine W_move rfl rfl rfl ?_
   exact W_end (OneT_end [] (Hp.le_refl _) ⟨rfl, rfl⟩)
  ·intro HX hX X Rest hR
   rintro _ _ ⟨rfl, rfl⟩
   intro hU hUp
   refine W_lenStr rfl rfl runUnderlying9 rfl ?_
   exact W_end (OneT_end [] (Hp.le_refl _) ⟨rfl, rfl⟩)
  ·intro HX hX X Rest hR
   rintro _ _ ⟨rfl, rfl⟩
   rintro _ _ ⟨rfl, rfl⟩
   intro hU hUp
   refine W_bin rfl rfl rfl rfl rfl ?_
   exact W_end (OneT_end [] (Hp.le_refl _) ⟨rfl, rfl⟩)
  ·intro HX hX X Rest hR
   rintro _ _ ⟨rfl, rfl⟩
   rintro _ _ ⟨rfl, rfl⟩
   intro hU hUp
   refine W_sliceStr (l := (IntKind.i64.wrap (r101 + (sep.size : Int)) : Int).toNat) (h := p0_s.size) rfl rfl runUnderlying9 rfl (.inl ⟨rfl, rfl⟩) (.inr ⟨_, _, _, rfl, rfl, by omega, by omega, rfl⟩) ?_
   exact W_end (OneT_end [] (Hp.le_refl _) ⟨rfl, rfl⟩)
  ·intro HX hX X Rest hR
   rintro _ _ ⟨rfl, rfl⟩
   rintro _ _ ⟨rfl, rfl⟩
   rintro _ _ ⟨rfl, rfl⟩
   rintro _ _ ⟨rfl, rfl⟩
   intro hU hUp
   refine W_assign rfl rfl rfl ?_
   exact W_end (OneT_end [] (Hp.le_refl _) ⟨rfl, rfl⟩)
  intro H106 hle107
  rintro _ _ ⟨rfl, rfl⟩
  rintro _ _ ⟨rfl, rfl⟩
  rintro _ _ ⟨rfl, rfl⟩
  rintro _ _ ⟨rfl, rfl⟩
  rintro _ _ ⟨rfl, rfl⟩
  rintro _ _ ⟨rfl, rfl⟩
  rintro _ _ ⟨rfl, rfl⟩
  rintro _ _ ⟨rfl, rfl⟩
  rintro _ _ ⟨rfl, rfl⟩
  rintro _ _ ⟨rfl, rfl⟩
  refine W_assign rfl rfl rfl ?_
  refine W_assign rfl rfl rfl ?_
  refine W_end (E_then (C_ret (E_ret_then ?_)))
  obtain rfl := Option.some.inj hm
  refine E_weak hle107 ?_
  exact end3 rfl rfl rfl rfl ⟨rfl, rfl, rfl⟩
 ·have hm := ite_f' hb103 hm
  refine C_skip (E_then (C_seq (C_region ?_)))
  refine W_move rfl rfl rfl ?_
  refine W_assign rfl rfl rfl ?_
  refine W_assign rfl rfl rfl ?_
  refine W_assign rfl rfl rfl ?_
  refine W_end (E_then (C_ret ?_))
  obtain rfl := Option.some.inj hm
  refine E_weak (Hp.le_refl _) ?_
  exact end3 rfl rfl rfl rfl ⟨rfl, rfl, rfl⟩

theorem m_strings_Cut_c {B : Nat} {w0 w : World} [Tabs B w0] {H : Hp} {M : List Res} {p0_s : ByteArray} {sep : ByteArray} {r : ByteArray × ByteArray × Bool} (hm : m_strings_Cut p0_s sep = some r) (ht : St B w0 H (M) w) :
  Calls prog 48 [.string (p0_s), .string (sep)].toArray w (Ret B w0 fun H' M' v => H = H' ∧ M = M' ∧ .tuple #[.string (r.1), .string (r.2.1), .bool (r.2.2)] = v) := by
 unfold m_strings_Cut at hm
 refine enter func48 rfl rfl rfl ht ?_
 refine C_seq (C_region ?_)
 refine W_assign rfl rfl rfl ?_
 refine W_assign rfl rfl rfl ?_
 refine W_assign rfl rfl rfl ?_
 refine W_end (E_then (C_seq (C_region ?_)))
 refine W_move rfl rfl rfl ?_
 refine W_move rfl rfl rfl ?_
 obtain ⟨r101, hc102, hm⟩ := bind_some hm
 refine W_call call63 rfl rfl rfl (fun w ht => by have h := m_internal_stringslite_Cut_c (hm := hc102)  ht; exact h) ?_
 rintro _ _ _ ⟨rfl, rfl, rfl⟩
 refine W_extract rfl rfl rfl rfl ?_
 refine W_extract rfl rfl rfl rfl ?_
 refine W_extract rfl rfl rfl rfl ?_
 refine W_assign rfl rfl rfl ?_
 refine W_assign rfl rfl rfl ?_
 refine W_assign rfl rfl rfl ?_
 refine W_end (E_then (C_ret ?_))
 obtain rfl := Option.some.inj hm
 refine E_weak (Hp.le_refl _) ?_
 exact end3 rfl rfl rfl rfl ⟨rfl, rfl, rfl⟩

theorem m_nat_Check_c {B : Nat} {w0 w : World} [Tabs B w0] {H : Hp} {M : List Res} {p0_s : ByteArray} {r : Int} (hm : m_nat_Check p0_s = some r) (ht : St B w0 H (M) w) :
  Calls prog 61 [.string (p0_s)].toArray w (Ret B w0 fun H' M' v => H = H' ∧ M = M' ∧ .int .i64 (r) = v) := by
 unfold m_nat_Check at hm
 refine enter func61 rfl rfl rfl ht ?_
 refine C_seq (C_region ?_)
 refine W_assign rfl rfl rfl ?_
 refine W_end (E_then (C_seq (C_seq (C_region ?_))))
 refine W_move rfl rfl rfl ?_
 obtain ⟨hz101, hm⟩ := need_some hm
 refine W_convBytes rfl rfl runUnderlying9 runUnderlying104 runUnderlying5 rfl hz101 ?_
 intro v102 H103 hle104 h105
 refine W_lenR rfl rfl runUnderlying104 rfl h105 ?_
 refine W_move rfl rfl rfl ?_
 refine W_end (E_then (C_block ?_))
 refine C_keep (L' := [(0, .string (p0_s)), (6, v102), (7, .int .i64 (((bytesL p0_s).length : Int))), (8, .int .i64 (((0 : Nat) : Int)))]) ⟨rfl, rfl, rfl, rfl, trivial⟩ (List.Perm.refl _) ?_
 refine C_loop (fun n H' M' L' => ∃ (k106 : Nat) (zs124' : List U8), (bytesL p0_s).drop k106 = zs124' ∧ zs124'.length = n ∧ forI (fun k y s119 n => m_nat_Check_b1 k y n) (fun _ => if decide (p0_s = (⟨#[]⟩)) then (some 5) else (if decide (1 < (p0_s.size : Int)) then (idx (bytesL p0_s) 0 fun y137 => if decide (y137.n = 48) then (some 5) else (if decide (2000 < (p0_s.size : Int)) then (some 2) else (some 0))) else (if decide (2000 < (p0_s.size : Int)) then (some 2) else (some 0)))) k106 zs124' () = some r ∧ H103.le H' ∧ M = M' ∧ [(0, .string (p0_s)), (6, v102), (7, .int .i64 (((bytesL p0_s).length : Int))), (8, .int .i64 ((k106 : Int)))] = L') _ ⟨0, _, rfl, rfl, hm, (Hp.le_refl _), rfl, rfl⟩ ?_
 rintro _ H117 _ _ ⟨k106, zs124', hd126, rfl, hm, hle118, rfl, rfl⟩
 refine C_seq (C_region ?_)
 refine W_bin rfl rfl rfl rfl rfl ?_
 refine W_end (E_then (C_seq ?_))
 refine C_cond (b := decide ((k106 : Int) < ((bytesL p0_s).length : Int))) rfl (fun hb128 => ?_) (fun hb128 => ?_)
 ·obtain ⟨y123, zs124, rfl, hy125, hd127⟩ := rng_t hd126 hb128
  have hm : m_nat_Check_b1 k106 y123 (forI (fun k y s119 n => m_nat_Check_b1 k y n) (fun _ => if decide (p0_s = (⟨#[]⟩)) then (some 5) else (if decide (1 < (p0_s.size : Int)) then (idx (bytesL p0_s) 0 fun y137 => if decide (y137.n = 48) then (some 5) else (if decide (2000 < (p0_s.size : Int)) then (some 2) else (some 0))) else (if decide (2000 < (p0_s.size : Int)) then (some 2) else (some 0)))) (k106 + 1) zs124) = some r := hm
  generalize hn121 : forI (fun k y s119 n => m_nat_Check_b1 k y n) (fun _ => if decide (p0_s = (⟨#[]⟩)) then (some 5) else (if decide (1 < (p0_s.size : Int)) then (idx (bytesL p0_s) 0 fun y137 => if decide (y137.n = 48) then (some 5) else (if decide (2000 < (p0_s.size : Int)) then (some 2) else (some 0))) else (if decide (2000 < (p0_s.size : Int)) then (some 2) else (some 0)))) (k106 + 1) zs124 = nx120 at hm
  unfold m_nat_Check_b1 at hm
  refine C_skip (E_then (C_seq (C_block (C_seq (C_region ?_)))))
  obtain ⟨_, rfl, hc129⟩ := (h105).elem hy125
  refine W_indexS rfl rfl runUnderlying104 sizeOf5 rfl (h105.mono hle118) rfl (Int.natCast_nonneg _) hy125 ?_
  refine W_load rfl rfl isAgg5 rfl (HCells.one (hc129.mono hle118) 0 rfl).at ?_
  refine W_assign rfl rfl rfl ?_
  refine W_end (E_then ?_)
  refine C_seq_join (fun H' M' L' => H117 = H' ∧ M = M' ∧ [(0, .string (p0_s)), (6, v102), (7, .int .i64 (((bytesL p0_s).length : Int))), (8, .int .i64 ((k106 : Int))), (17, .bool ((decide (y123.n < 48)) || (decide (57 < y123.n))))] = L') ?_ (fun J131 => ?_)
  ·rintro _ _ _ ⟨rfl, rfl, rfl⟩
   refine C_cond (b := (decide (y123.n < 48)) || (decide (57 < y123.n))) rfl (fun hb132 => ?_) (fun hb132 => ?_)
   ·have hm := ite_t' hb132 hm
    refine C_seq (C_region ?_)
    refine W_assign rfl rfl rfl ?_
    refine W_end (E_then (C_ret (E_ret_block (E_ret_then (E_ret_then (E_ret_block (E_ret_then ?_)))))))
    obtain rfl := Option.some.inj hm
    refine E_weak (Hp.le_trans hle104 hle118) ?_
    exact end1 rfl rfl ⟨rfl, rfl, rfl⟩
   ·have hm := ite_f' hb132 hm
    refine C_skip (E_normal_block (E_then (C_region ?_)))
    refine W_bin rfl rfl rfl rfl rfl ?_
    refine W_move rfl rfl rfl ?_
    refine W_end ?_
    exact E_keepJ (E_back (Nat.lt_succ_self _) ⟨k106 + 1, zs124, hd127, rfl, (by rw [hn121]; exact hm), hle118, rfl, rfl⟩) (List.Perm.refl _) ⟨rfl, rfl, rfl, (congrArg (fun z => some (Value.int .i64 z)) (i64_succ hy125 ((h105.mono hle118)).lenMax)), trivial⟩
  ·refine C_region ?_
   refine W_move rfl rfl rfl ?_
   refine W_bin rfl rfl rfl rfl rfl ?_
   refine W_move rfl rfl rfl ?_
   cases hb133 : (decide (y123.n < 48))
   ·refine W_move rfl rfl rfl ?_
    refine W_bin rfl rfl rfl rfl rfl ?_
    refine W_pick rfl rfl rfl rfl ?_
    refine W_end ?_
    exact E_keepJ (J131 _ _ _ ⟨rfl, rfl, rfl⟩) (List.Perm.refl _) ⟨rfl, rfl, rfl, rfl, (by show some (Value.bool (decide (57 < y123.n))) = some (Value.bool ((decide (y123.n < 48)) || (decide (57 < y123.n)))); first | (simp only [hb133, Bool.and_true, Bool.true_and, Bool.false_and, Bool.and_false, Bool.or_true, Bool.true_or, Bool.or_false, Bool.false_or, Bool.not_true, Bool.not_false]; done) | (simp only [hb133]; first | done | simp only [Bool.and_true, Bool.true_and, Bool.false_and, Bool.and_false, Bool.or_true, Bool.true_or, Bool.or_false, Bool.false_or, Bool.not_true, Bool.not_false])), trivial⟩
   ·refine W_no rfl rfl rfl ?_
    refine W_no rfl rfl rfl ?_
    refine W_pick rfl rfl rfl rfl ?_
    refine W_end ?_
    exact E_keepJ (J131 _ _ _ ⟨rfl, rfl, rfl⟩) (List.Perm.refl _) ⟨rfl, rfl, rfl, rfl, (by show some (Value.bool (true)) = some (Value.bool ((decide (y123.n < 48)) || (decide (57 < y123.n)))); first | (simp only [hb133, Bool.and_true, Bool.true_and, Bool.false_and, Bool.and_false, Bool.or_true, Bool.true_or, Bool.or_false, Bool.false_or, Bool.not_true, Bool.not_false]; done) | (simp only [hb133]; first | done | simp only [Bool.and_true, Bool.true_and, Bool.false_and, Bool.and_false, Bool.or_true, Bool.true_or, Bool.or_false, Bool.false_or, Bool.not_true, Bool.not_false])), trivial⟩
 ·obtain rfl := rng_f hd126 hb128
  have hm : (if decide (p0_s = (⟨#[]⟩)) then (some 5) else (if decide (1 < (p0_s.size : Int)) then (idx (bytesL p0_s) 0 fun y137 => if decide (y137.n = 48) then (some 5) else (if decide (2000 < (p0_s.size : Int)) then (some 2) else (some 0))) else (if decide (2000 < (p0_s.size : Int)) then (some 2) else (some 0)))) = some r := hm
  refine C_exit (E_exit_then (E_exit_then (E_exit_hit (E_then (C_seq (C_block (C_seq (C_region ?_))))))))
  refine W_move rfl rfl rfl ?_
  refine W_bin rfl rfl rfl rfl rfl ?_
  refine W_move rfl rfl rfl ?_
  cases hb134 : (decide (p0_s = (⟨#[]⟩)))
  ·have hm := ite_f' hb134 hm
   refine W_move rfl rfl rfl ?_
   refine W_lenStr rfl rfl runUnderlying9 rfl ?_
   refine W_bin rfl rfl rfl rfl rfl ?_
   refine W_move rfl rfl rfl ?_
   cases hb135 : (decide (1 < (p0_s.size : Int)))
   ·have hm := ite_f' hb135 hm
    refine W_no rfl rfl rfl ?_
    refine W_no rfl rfl rfl ?_
    refine W_no rfl rfl rfl ?_
    refine W_pick rfl rfl rfl rfl ?_
    refine W_pick rfl rfl rfl rfl ?_
    refine W_assign rfl rfl rfl ?_
    refine W_end (E_then ?_)
    refine C_cond (b := false) rfl (fun hb => Bool.noConfusion hb) (fun _ => ?_)
    refine C_seq (C_region ?_)
    refine W_move rfl rfl rfl ?_
    refine W_lenStr rfl rfl runUnderlying9 rfl ?_
    refine W_bin rfl rfl rfl rfl rfl ?_
    refine W_assign rfl rfl rfl ?_
    refine W_end (E_then ?_)
    refine C_cond (b := decide (2000 < (p0_s.size : Int))) rfl (fun hb136 => ?_) (fun hb136 => ?_)
    ·have hm := ite_t' hb136 hm
     refine C_seq (C_region ?_)
     refine W_assign rfl rfl rfl ?_
     refine W_end (E_then (C_ret (E_ret_block (E_ret_then ?_))))
     obtain rfl := Option.some.inj hm
     refine E_weak (Hp.le_trans hle104 hle118) ?_
     exact end1 rfl rfl ⟨rfl, rfl, rfl⟩
    ·have hm := ite_f' hb136 hm
     refine C_skip (E_normal_block (E_then (C_seq (C_region ?_))))
     refine W_assign rfl rfl rfl ?_
     refine W_end (E_then (C_ret ?_))
     obtain rfl := Option.some.inj hm
     refine E_weak (Hp.le_trans hle104 hle118) ?_
     exact end1 rfl rfl ⟨rfl, rfl, rfl⟩
   ·have hm := ite_t' hb135 hm
    refine W_move rfl rfl rfl ?_
    obtain ⟨y137, h138, he139, hm⟩ := idx_some hm
    refine W_indexStr rfl rfl runUnderlying9 rfl rfl h138 he139 ?_
    refine W_bin rfl rfl rfl rfl rfl ?_
    refine W_pick rfl rfl rfl rfl ?_
    refine W_pick rfl rfl rfl rfl ?_
    refine W_assign rfl rfl rfl ?_
    refine W_end (E_then ?_)
    refine C_cond (b := decide (y137.n = 48)) rfl (fun hb140 => ?_) (fun hb140 => ?_)
    ·have hm := ite_t' hb140 hm
     refine C_seq (C_region ?_)
     refine W_assign rfl rfl rfl ?_
     refine W_end (E_then (C_ret (E_ret_block (E_ret_then ?_))))
     obtain rfl := Option.some.inj hm
     refine E_weak (Hp.le_trans hle104 hle118) ?_
     exact end1 rfl rfl ⟨rfl, rfl, rfl⟩
    ·have hm := ite_f' hb140 hm
     refine C_seq (C_region ?_)
     refine W_move rfl rfl rfl ?_
     refine W_lenStr rfl rfl runUnderlying9 rfl ?_
     refine W_bin rfl rfl rfl rfl rfl ?_
     refine W_assign rfl rfl rfl ?_
     refine W_end (E_then ?_)
     refine C_cond (b := decide (2000 < (p0_s.size : Int))) rfl (fun hb141 => ?_) (fun hb141 => ?_)
     ·have hm := ite_t' hb141 hm
      refine C_seq (C_region ?_)
      refine W_assign rfl rfl rfl ?_
      refine W_end (E_then (C_ret (E_ret_block (E_ret_then ?_))))
      obtain rfl := Option.some.inj hm
      refine E_weak (Hp.le_trans hle104 hle118) ?_
      exact end1 rfl rfl ⟨rfl, rfl, rfl⟩
     ·have hm := ite_f' hb141 hm
      refine C_skip (E_normal_block (E_then (C_seq (C_region ?_))))
      refine W_assign rfl rfl rfl ?_
      refine W_end (E_then (C_ret ?_))
      obtain rfl := Option.some.inj hm
      refine E_weak (Hp.le_trans hle104 hle118) ?_
      exact end1 rfl rfl ⟨rfl, rfl, rfl⟩
  ·have hm := ite_t' hb134 hm
   refine W_no rfl rfl rfl ?_
   refine W_no rfl rfl rfl ?_
   refine W_no rfl rfl rfl ?_
   refine W_no rfl rfl rfl ?_
   refine W_no rfl rfl rfl ?_
   refine W_no rfl rfl rfl ?_
   refine W_no rfl rfl rfl ?_
   refine W_no rfl rfl rfl ?_
   refine W_pick rfl rfl rfl rfl ?_
   refine W_assign rfl rfl rfl ?_
   refine W_end (E_then ?_)
   refine C_cond (b := true) rfl (fun _ => ?_) (fun hb => Bool.noConfusion hb)
   refine C_seq (C_region ?_)
   refine W_assign rfl rfl rfl ?_
   refine W_end (E_then (C_ret (E_ret_block (E_ret_then ?_))))
   obtain rfl := Option.some.inj hm
   refine E_weak (Hp.le_trans hle104 hle118) ?_
   exact end1 rfl rfl ⟨rfl, rfl, rfl⟩

theorem m_strings_HasPrefix_c {B : Nat} {w0 w : World} [Tabs B w0] {H : Hp} {M : List Res} {p0_s : ByteArray} {p1_prefix : ByteArray} {r : Bool} (hm : m_strings_HasPrefix p0_s p1_prefix = some r) (ht : St B w0 H (M) w) :
  Calls prog 64 [.string (p0_s), .string (p1_prefix)].toArray w (Ret B w0 fun H' M' v => H = H' ∧ M = M' ∧ .bool (r) = v) := by
 unfold m_strings_HasPrefix at hm
 refine enter func64 rfl rfl rfl ht ?_
 refine C_seq (C_region ?_)
 refine W_assign rfl rfl rfl ?_
 refine W_end (E_then (C_seq (C_region ?_)))
 refine W_move rfl rfl rfl ?_
 refine W_move rfl rfl rfl ?_
 obtain ⟨r101, hc102, hm⟩ := bind_some hm
 refine W_call call78 rfl rfl rfl (fun w ht => by have h := m_internal_stringslite_HasPrefix_c (hm := hc102)  ht; exact h) ?_
 rintro _ _ _ ⟨rfl, rfl, rfl⟩
 refine W_assign rfl rfl rfl ?_
 refine W_end (E_then (C_ret ?_))
 obtain rfl := Option.some.inj hm
 refine E_weak (Hp.le_refl _) ?_
 exact end1 rfl rfl ⟨rfl, rfl, rfl⟩

theorem puint79_c {B : Nat} {w0 w : World} [Tabs B w0] {H : Hp} {M : List Res} {s : ByteArray} (hs : s.size ≠ 0 ∧ s.size ≤ 281474976710656) (ht : St B w0 H M w) :
  Calls prog 79 [.string s, .int .i64 10, .int .i64 32].toArray w (Ret B w0 fun H' M' v => H = H' ∧ ∃ ev : Value, M = M' ∧ .tuple #[.int .u64 (puB s).1, ev] = v ∧ IsErr ev (puB s).2) := by
 refine (internal_strconv_ParseUint_10_b32 s hs.1 (by omega) w).mono ?_
 rintro e w' ⟨rfl, rfl⟩
 have hu := ht.under (Joins.below_bytesWorld w.heap.size w 5 s (Nat.le_refl _))
 unfold puB
 cases h : Lib.parseUintM 4294967295 0 s.data.toList with
 | ok v => exact ⟨H, M, hu, rfl, .nilIface, rfl, rfl, .inl ⟨rfl, rfl⟩⟩
 | range => exact ⟨H, M, hu, rfl, _, rfl, rfl, .inr ⟨rfl, _, _, rfl⟩⟩
 | _ => exact ⟨H, M, hu, rfl, _, rfl, rfl, .inr ⟨rfl, _, _, rfl⟩⟩

theorem puo65_c {B : Nat} {w0 w : World} [Tabs B w0] {H : Hp} {M : List Res} {s : ByteArray} (hs : s.size ≠ 0 ∧ s.size ≤ 281474976710656 ∧ (puB s).2 = false) (ht : St B w0 H M w) :
  Calls prog 65 [.string s, .int .i64 10, .int .i64 32].toArray w (Ret B w0 fun H' M' v => H = H' ∧ M = M' ∧ .tuple #[.int .u64 (puB s).1, .nilIface] = v) := by
 refine enter func65 rfl rfl rfl ht ?_
 refine C_seq (C_region ?_)
 refine W_assign rfl rfl rfl ?_
 refine W_assign rfl rfl rfl ?_
 refine W_end (E_then (C_seq (C_region ?_)))
 refine W_move rfl rfl rfl ?_
 refine W_move rfl rfl rfl ?_
 refine W_move rfl rfl rfl ?_
 refine W_call call79 rfl rfl rfl (fun w ht => by have h := puint79_c ⟨hs.1, hs.2.1⟩ ht; exact h) ?_
 rintro _ _ _ ⟨rfl, ev, rfl, rfl, he⟩
 rw [hs.2.2] at he
 refine W_move rfl rfl rfl ?_
 refine W_extract rfl rfl rfl rfl ?_
 refine W_extract rfl rfl rfl rfl ?_
 refine W_assign rfl rfl rfl ?_
 refine W_assign rfl rfl rfl ?_
 refine W_end (E_then (C_seq (C_seq (C_region ?_))))
 refine W_move rfl rfl rfl ?_
 refine W_errNe runUnderlying97 he rfl rfl rfl ?_
 refine W_end (E_then ?_)
 refine C_cond (b := false) rfl (fun hb => Bool.noConfusion hb) (fun _ => ?_)
 refine C_skip (E_then (C_seq (C_region ?_)))
 refine W_move rfl rfl rfl ?_
 refine W_assign rfl rfl rfl ?_
 refine W_assign rfl rfl rfl ?_
 refine W_end (E_then (C_ret ?_))
 exact end2 rfl rfl rfl ⟨rfl, rfl, rfl⟩

theorem m_large_Read_c {B : Nat} {w0 w : World} [Tabs B w0] {H : Hp} {M : List Res} {p0_s : ByteArray} {r : S_large_Int} (hm : m_large_Read p0_s = some r) (ht : St B w0 H (M) w) :
  Calls prog 49 [.string (p0_s)].toArray w (Ret B w0 fun H' M' v => H.le H' ∧ ∃ qv0 : Value, M = M' ∧ .agg [.bool (r.minus), qv0].toArray = v ∧ RdS H' qv0 r.words) := by
 unfold m_large_Read at hm
 refine enter func49 rfl rfl rfl ht ?_
 refine C_seq (C_region ?_)
 refine W_alloc (cs := [.bool (false), .slice none 0 0]) rfl rfl zeroValue48 rfl (fun b101 => ?_)
 refine W_end (E_then (C_seq (C_region ?_)))
 refine W_move rfl rfl rfl ?_
 obtain ⟨r102, hc103, hm⟩ := bind_some hm
 refine W_call call64 rfl rfl rfl (fun w ht => by have h := m_strings_HasPrefix_c (hm := hc103)  ht; exact h) ?_
 rintro _ _ _ ⟨rfl, rfl, rfl⟩
 refine W_assign rfl rfl rfl ?_
 refine W_end (E_then (C_seq (C_region ?_)))
 refine W_move rfl rfl rfl ?_
 obtain ⟨r104, hc105, hm⟩ := bind_some hm
 refine W_call call60 rfl rfl rfl (fun w ht => by have h := m_strings_TrimPrefix_c (hm := hc105)  ht; exact h) ?_
 rintro _ _ _ ⟨rfl, rfl, rfl⟩
 refine W_assign rfl rfl rfl ?_
 refine W_end (E_then (C_seq (C_region ?_)))
 refine W_build (css := []) (zs := [.bool (false), .slice none 0 0]) (out := [.bool (false), .slice none 0 0]) (places := [(0, 1), (1, 1)]) rfl rfl rfl trivial zeroValue48 rfl runUnderlying48 (fun w => by kernel_rfl) rfl ?_
 refine W_alloc (cs := [.bool (false), .slice none 0 0]) rfl rfl zeroValue48 rfl (fun b106 => ?_)
 refine W_store (cs := [.bool (false), .slice none 0 0]) (out := [.bool (false), .slice none 0 0]) rfl sizeOf48 rfl rfl rfl rfl rfl (all_cons rfl (all_cons rfl all_nil)) (over_all rfl) ?_
 refine W_end (E_then ?_)
 refine C_seq_join (fun H' M' L' => ∃ c251 : Bool, ∃ l253 : (List U32), ∃ v252 : Value, m_large_Read_b2 r102 c251 l253 = some r ∧ RdS H' v252 l253 ∧ H.le H' ∧ .obj b106 (.cells [.bool (c251), v252].toArray 48 (0, 0)) :: .obj b101 (.cells ([.bool (false), .slice none 0 0] : List Value).toArray 48 (0, 0)) :: M = M' ∧ [(2, .pointer (some ⟨b101, 0, none⟩)), (3, .bool (r102)), (4, .pointer (some ⟨b106, 0, none⟩))] = L') ?_ (fun J257 => ?_)
 ·rintro H255 _ _ ⟨c251, l253, v252, hm, h254, hle256, rfl, rfl⟩
  unfold m_large_Read_b2 at hm
  refine C_seq (C_region ?_)
  refine W_move rfl rfl rfl ?_
  refine W_move rfl rfl rfl ?_
  cases hb258 : (r102)
  ·have hm := ite_f' hb258 hm
   refine W_no rfl rfl rfl ?_
   refine W_no rfl rfl rfl ?_
   refine W_no rfl rfl rfl ?_
   refine W_no rfl rfl rfl ?_
   refine W_pick rfl rfl rfl rfl ?_
   refine W_field (o := 0) rfl rfl runUnderlying48 rfl sizeOf4 rfl rfl rfl ?_
   refine W_store (cs := [.bool (false)]) (out := [.bool (false), v252]) rfl sizeOf4 rfl rfl rfl rfl rfl (all_cons rfl all_nil) rfl ?_
   refine W_end (E_then (C_seq (C_region ?_)))
   refine W_loadAgg rfl rfl isAgg48 sizeOf48 rfl (own_all (List.mem_cons_self ..)) rfl ?_
   refine W_perm (List.Perm.swap _ _ _) ?_
   refine W_store (cs := [.bool (false), v252]) (out := [.bool (false), v252]) rfl sizeOf48 rfl rfl rfl rfl rfl (all_cons rfl (all_cons (RdS.one1 h254) all_nil)) (over_all rfl) ?_
   refine W_end (E_then (C_ret ?_))
   obtain rfl := Option.some.inj hm
   exact endC1 (Hp.le_refl _) rfl (ResV.agg rfl isAgg48 sizeOf48 (List.mem_cons_self ..) rfl) (List.Sublist.cons _ (List.Sublist.cons _ (List.Sublist.refl _))) (List.Perm.refl _) ⟨hle256, v252, rfl, rfl, h254⟩
  ·have hm := ite_t' hb258 hm
   refine W_field (o := 1) rfl rfl runUnderlying48 rfl sizeOf46 rfl rfl rfl ?_
   refine W_load rfl rfl isAgg46 rfl (own_at (List.mem_cons_self ..) rfl) ?_
   refine W_lenR rfl rfl runUnderlying46 rfl h254 ?_
   refine W_bin rfl rfl rfl rfl rfl ?_
   refine W_pick rfl rfl rfl rfl ?_
   refine W_field (o := 0) rfl rfl runUnderlying48 rfl sizeOf4 rfl rfl rfl ?_
   refine W_store (cs := [.bool (decide (0 < (l253.length : Int)))]) (out := [.bool (decide (0 < (l253.length : Int))), v252]) rfl sizeOf4 rfl rfl rfl rfl rfl (all_cons rfl all_nil) rfl ?_
   refine W_end (E_then (C_seq (C_region ?_)))
   refine W_loadAgg rfl rfl isAgg48 sizeOf48 rfl (own_all (List.mem_cons_self ..)) rfl ?_
   refine W_perm (List.Perm.swap _ _ _) ?_
   refine W_store (cs := [.bool (decide (0 < (l253.length : Int))), v252]) (out := [.bool (decide (0 < (l253.length : Int))), v252]) rfl sizeOf48 rfl rfl rfl rfl rfl (all_cons rfl (all_cons (RdS.one1 h254) all_nil)) (over_all rfl) ?_
   refine W_end (E_then (C_ret ?_))
   obtain rfl := Option.some.inj hm
   exact endC1 (Hp.le_refl _) rfl (ResV.agg rfl isAgg48 sizeOf48 (List.mem_cons_self ..) rfl) (List.Sublist.cons _ (List.Sublist.cons _ (List.Sublist.refl _))) (List.Perm.refl _) ⟨hle256, v252, rfl, rfl, h254⟩
 ·refine C_block ?_
  refine C_keep (L' := [(0, .string (r104)), (2, .pointer (some ⟨b101, 0, none⟩)), (3, .bool (r102)), (4, .pointer (some ⟨b106, 0, none⟩))]) ⟨rfl, rfl, rfl, rfl, trivial⟩ (List.Perm.refl _) ?_
  refine C_loop (fun n H' M' L' => ∃ s349 : ByteArray, ∃ c350 : Bool, ∃ l352 : (List U32), ∃ v351 : Value, loopF (fun s356 n => m_large_Read_b3 r102 s356.1 s356.2.1 s356.2.2 n) n (s349, c350, l352) = some r ∧ RdS H' v351 l352 ∧ H.le H' ∧ .obj b106 (.cells [.bool (c350), v351].toArray 48 (0, 0)) :: .obj b101 (.cells ([.bool (false), .slice none 0 0] : List Value).toArray 48 (0, 0)) :: M = M' ∧ [(0, .string (s349)), (2, .pointer (some ⟨b101, 0, none⟩)), (3, .bool (r102)), (4, .pointer (some ⟨b106, 0, none⟩))] = L') FUEL ⟨r104, false, [], (.slice none 0 0), hm, RdS.nil, (Hp.le_refl _), rfl, rfl⟩ ?_
  rintro n359 H354 _ _ ⟨s349, c350, l352, v351, hm, h353, hle355, rfl, rfl⟩
  cases n359 with
  | zero => cases hm
  | succ n359 =>
   have hm : m_large_Read_b3 r102 s349 c350 l352 (loopF (fun s356 n => m_large_Read_b3 r102 s356.1 s356.2.1 s356.2.2 n) n359) = some r := hm
   generalize hn358 : loopF (fun s356 n => m_large_Read_b3 r102 s356.1 s356.2.1 s356.2.2 n) n359 = nx357 at hm
   unfold m_large_Read_b3 at hm
   refine C_seq (C_seq (C_region ?_))
   refine W_move rfl rfl rfl ?_
   refine W_lenStr rfl rfl runUnderlying9 rfl ?_
   refine W_bin rfl rfl rfl rfl rfl ?_
   refine W_end (E_then ?_)
   refine C_cond (b := decide (0 < (s349.size : Int))) rfl (fun hb365 => ?_) (fun hb365 => ?_)
   ·have hm := ite_t' hb365 hm
    refine C_skip (E_then (C_block (C_seq (C_region ?_))))
    refine W_move rfl rfl rfl ?_
    refine W_lenStr rfl rfl runUnderlying9 rfl ?_
    refine W_bin rfl rfl rfl rfl rfl ?_
    refine W_rem rfl rfl rfl rfl (by decide) ?_
    refine W_bin rfl rfl rfl rfl rfl ?_
    refine W_assign rfl rfl rfl ?_
    refine W_end (E_then (C_seq (C_region ?_)))
    refine W_move rfl rfl rfl ?_
    refine W_move rfl rfl rfl ?_
    obtain ⟨hz366, hm⟩ := need_some hm
    refine W_sliceStr (l := 0) (h := (IntKind.i64.wrap ((Int.tmod (IntKind.i64.wrap ((s349.size : Int) - 1)) 9) + 1) : Int).toNat) rfl rfl runUnderlying9 rfl (.inr ⟨_, _, _, rfl, rfl, by omega, by omega, rfl⟩) (.inl ⟨rfl, rfl⟩) ?_
    obtain ⟨hz367, hm⟩ := need_some hm
    refine W_call call65 rfl rfl rfl (fun w ht => by have h := puo65_c hz367 ht; exact h) ?_
    rintro _ _ _ ⟨rfl, rfl, rfl⟩
    refine W_move rfl rfl rfl ?_
    refine W_extract rfl rfl rfl rfl ?_
    refine W_extract rfl rfl rfl rfl ?_
    refine W_assign rfl rfl rfl ?_
    refine W_assign rfl rfl rfl ?_
    refine W_end (E_then (C_seq ?_))
    obtain ⟨r368, hc369, hm⟩ := bind_some hm
    obtain ⟨r374, hc375, hm⟩ := bind_some hm
    refine C_region_tok0 5 (phiT [(fun H rs v => [] = rs ∧ .agg [.bool (c350), v351].toArray = v), (fun H rs v => ∃ v380 : Value, [] = rs ∧ .agg [.bool (r368.minus), v380].toArray = v ∧ RdS H v380 r368.words), (fun H rs v => ∃ v384 : Value, [] = rs ∧ .agg [.bool (r374.minus), v384].toArray = v ∧ RdS H v384 r374.words), (fun H rs v => [] = rs ∧ .int .u64 ((puB (s349.extract 0 ((IntKind.i64.wrap ((Int.tmod (IntKind.i64.wrap ((s349.size : Int) - 1)) 9) + 1) : Int).toNat))).1) = v), (fun H rs v => [] = rs ∧ .int .i64 (IntKind.i64.wrap ((puB (s349.extract 0 ((IntKind.i64.wrap ((Int.tmod (IntKind.i64.wrap ((s349.size : Int) - 1)) 9) + 1) : Int).toNat))).1)) = v)]) [[], [], [], [], []] [[], [], [], [], []] [] [0, 1, 2, 3, 4] Facts.mixed (by kernel_rfl) (by rfl) (by rfl) (by rfl) (by kernel_rfl) (phiT_mono ⟨eq_monoT _ _, (by rintro H1 H2 rs v hle ⟨v380, rfl, rfl, h381⟩; exact ⟨v380, rfl, rfl, (h381.mono hle)⟩), (by rintro H1 H2 rs v hle ⟨v384, rfl, rfl, h385⟩; exact ⟨v384, rfl, rfl, (h385.mono hle)⟩), eq_monoT _ _, eq_monoT _ _, trivial⟩) ⟨?_, ?_, ?_, ?_, ?_, trivial⟩ ?_
    ·intro HX hX X Rest hR
     intro hU hUp
     refine W_loadAgg rfl rfl isAgg48 sizeOf48 rfl (own_all (hR _ (List.mem_cons_self ..))) rfl ?_
     exact W_end (OneT_end [] (Hp.le_refl _) ⟨rfl, rfl⟩)
    ·intro HX hX X Rest hR
     intro hU hUp
     refine W_call call41 rfl rfl rfl (fun w ht => by have h := m_large_Of_c (hm := hc369)  ht; exact h) ?_
     rintro _ H382 _ ⟨hle383, v380, rfl, rfl, h381⟩
     exact W_end (OneT_end [] hle383 ⟨v380, rfl, rfl, (h381)⟩)
    ·intro HX hX X Rest hR
     rintro _ _ ⟨rfl, rfl⟩
     rintro _ _ ⟨v380, rfl, rfl, h381⟩
     rintro _ _ ⟨v380, rfl, rfl, h381⟩
     intro hU hUp
     refine W_call call44 rfl rfl rfl (fun w ht => by have h := m_large_Int_Mul_c (hm := hc375) (h353.mono hX) h381 ht; exact h) ?_
     rintro _ H386 _ ⟨hle387, v384, rfl, rfl, h385⟩
     exact W_end (OneT_end [] hle387 ⟨v384, rfl, rfl, (h385)⟩)
    ·intro HX hX X Rest hR
     intro hU hUp
     refine W_move rfl rfl rfl ?_
     exact W_end (OneT_end [] (Hp.le_refl _) ⟨rfl, rfl⟩)
    ·intro HX hX X Rest hR
     rintro _ _ ⟨rfl, rfl⟩
     intro hU hUp
     refine W_convInt rfl rfl runUnderlying85 runUnderlying3 rfl ?_
     exact W_end (OneT_end [] (Hp.le_refl _) ⟨rfl, rfl⟩)
    intro H388 hle389
    rintro _ _ ⟨rfl, rfl⟩
    rintro _ _ ⟨v380, rfl, rfl, h381⟩
    rintro _ _ ⟨v384, rfl, rfl, h385⟩
    rintro _ _ ⟨rfl, rfl⟩
    rintro _ _ ⟨rfl, rfl⟩
    obtain ⟨r390, hc391, hm⟩ := bind_some hm
    refine W_call call41 rfl rfl rfl (fun w ht => by have h := m_large_Of_c (hm := hc391)  ht; exact h) ?_
    rintro _ H394 _ ⟨hle395, v392, rfl, rfl, h393⟩
    obtain ⟨r396, hc397, hm⟩ := bind_some hm
    refine W_call call45 rfl rfl rfl (fun w ht => by have h := m_large_Int_Add_c (hm := hc397) (h385.mono hle395) h393 ht; exact h) ?_
    rintro _ H400 _ ⟨hle401, v398, rfl, rfl, h399⟩
    refine W_store (cs := [.bool (r396.minus), v398]) (out := [.bool (r396.minus), v398]) rfl sizeOf48 rfl rfl rfl rfl rfl (all_cons rfl (all_cons (RdS.one1 h399) all_nil)) (over_all rfl) ?_
    refine W_end (E_then (C_region ?_))
    refine W_move rfl rfl rfl ?_
    refine W_move rfl rfl rfl ?_
    obtain ⟨hz402, hm⟩ := need_some hm
    refine W_sliceStr (l := (IntKind.i64.wrap ((Int.tmod (IntKind.i64.wrap ((s349.size : Int) - 1)) 9) + 1) : Int).toNat) (h := s349.size) rfl rfl runUnderlying9 rfl (.inl ⟨rfl, rfl⟩) (.inr ⟨_, _, _, rfl, rfl, by omega, by omega, rfl⟩) ?_
    refine W_assign rfl rfl rfl ?_
    refine W_end (E_normal_block ?_)
    exact E_keepJ (E_back (Nat.lt_succ_self _) ⟨s349.extract ((IntKind.i64.wrap ((Int.tmod (IntKind.i64.wrap ((s349.size : Int) - 1)) 9) + 1) : Int).toNat) s349.size, r396.minus, r396.words, v398, (by rw [hn358]; exact hm), h399, (Hp.le_trans (Hp.le_trans (Hp.le_trans hle355 hle389) hle395) hle401), rfl, rfl⟩) (List.Perm.refl _) ⟨rfl, rfl, rfl, rfl, trivial⟩
   ·have hm := ite_f' hb365 hm
    refine C_exit (E_exit_then (E_exit_then (E_exit_hit ?_)))
    exact E_keepJ (J257 _ _ _ ⟨c350, l352, v351, hm, h353, hle355, rfl, rfl⟩) (List.Perm.refl _) ⟨rfl, rfl, rfl, trivial⟩

theorem m_nat_two_c {B : Nat} {w0 w : World} [Tabs B w0] {H : Hp} {M : List Res} {p0_a : ByteArray} {p1_b : ByteArray} {r : S_large_Int × S_large_Int × Int} (hm : m_nat_two p0_a p1_b = some r) (ht : St B w0 H (M) w) :
  Calls prog 75 [.string (p0_a), .string (p1_b)].toArray w (Ret B w0 fun H' M' v => H.le H' ∧ ∃ qv0 : Value, ∃ qv1 : Value, M = M' ∧ .tuple #[.agg [.bool (r.1.minus), qv0].toArray, .agg [.bool (r.2.1.minus), qv1].toArray, .int .i64 (r.2.2)] = v ∧ RdS H' qv0 r.1.words ∧ RdS H' qv1 r.2.1.words) := by
 unfold m_nat_two at hm
 refine enter func75 rfl rfl rfl ht ?_
 refine C_seq (C_region ?_)
 refine W_alloc (cs := [.bool (false), .slice none 0 0]) rfl rfl zeroValue48 rfl (fun b101 => ?_)
 refine W_alloc (cs := [.bool (false), .slice none 0 0]) rfl rfl zeroValue48 rfl (fun b102 => ?_)
 refine W_assign rfl rfl rfl ?_
 refine W_end (E_then (C_seq (C_seq (C_region ?_))))
 refine W_move rfl rfl rfl ?_
 refine W_move rfl rfl rfl ?_
 refine W_buildArr (css := [[.string (p0_a)], [.string (p1_b)]]) (zs := [.string (⟨#[]⟩), .string (⟨#[]⟩)]) (out := [.string (p0_a), .string (p1_b)]) (places := [(0, 1), (1, 1)]) rfl rfl rfl ⟨rfl, rfl, trivial⟩ zeroValue122 rfl runUnderlying122 sizeOf9 rfl rfl ?_
 refine W_move rfl rfl rfl ?_
 refine W_end (E_then (C_block ?_))
 refine C_keep (L' := [(0, .string (p0_a)), (1, .string (p1_b)), (4, .pointer (some ⟨b101, 0, none⟩)), (5, .pointer (some ⟨b102, 0, none⟩)), (12, .agg [.string (p0_a), .string (p1_b)].toArray), (13, .int .i64 (((0 : Nat) : Int)))]) ⟨rfl, rfl, rfl, rfl, rfl, rfl, trivial⟩ (List.Perm.refl _) ?_
 refine C_loop (fun n H' M' L' => ∃ (k103 : Nat) (zs123' : Nat), k103 + zs123' = (2 : Int).toNat ∧ zs123' = n ∧ forN (fun k s118 n => m_nat_two_b1 p0_a p1_b k n) (fun _ => (m_large_Read p0_a).bind fun r134 => (m_large_Read p1_b).bind fun r140 => some (r134, r140, 0)) zs123' k103 () = some r ∧ H.le H' ∧ .obj b102 (.cells ([.bool (false), .slice none 0 0] : List Value).toArray 48 (0, 0)) :: .obj b101 (.cells ([.bool (false), .slice none 0 0] : List Value).toArray 48 (0, 0)) :: M = M' ∧ [(0, .string (p0_a)), (1, .string (p1_b)), (4, .pointer (some ⟨b101, 0, none⟩)), (5, .pointer (some ⟨b102, 0, none⟩)), (12, .agg [.string (p0_a), .string (p1_b)].toArray), (13, .int .i64 ((k103 : Int)))] = L') _ ⟨0, _, Nat.zero_add _, rfl, hm, (Hp.le_refl _), rfl, rfl⟩ ?_
 rintro _ H116 _ _ ⟨k103, zs123', hd125, rfl, hm, hle117, rfl, rfl⟩
 refine C_seq (C_region ?_)
 refine W_bin rfl rfl rfl rfl rfl ?_
 refine W_end (E_then (C_seq ?_))
 refine C_cond (b := decide ((k103 : Int) < 2)) rfl (fun hb127 => ?_) (fun hb127 => ?_)
 ·obtain ⟨zs123, rfl, hd126, hy124⟩ := rngN_t hd125 hb127
  have hm : m_nat_two_b1 p0_a p1_b k103 (forN (fun k s118 n => m_nat_two_b1 p0_a p1_b k n) (fun _ => (m_large_Read p0_a).bind fun r134 => (m_large_Read p1_b).bind fun r140 => some (r134, r140, 0)) zs123 (k103 + 1)) = some r := hm
  generalize hn120 : forN (fun k s118 n => m_nat_two_b1 p0_a p1_b k n) (fun _ => (m_large_Read p0_a).bind fun r134 => (m_large_Read p1_b).bind fun r140 => some (r134, r140, 0)) zs123 (k103 + 1) = nx119 at hm
  unfold m_nat_two_b1 at hm
  refine C_skip (E_then (C_seq (C_block (C_seq (C_region ?_)))))
  obtain ⟨y128, h129, he130, hm⟩ := idx_some hm
  refine W_indexV rfl rfl runUnderlying122 isAgg9 sizeOf9 rfl rfl h129 (List.getElem?_eq_some_iff.1 he130).1 (cells_map (f := Value.string) (l := [p0_a, p1_b]) he130) ?_
  refine W_assign rfl rfl rfl ?_
  refine W_end (E_then (C_seq (C_region ?_)))
  refine W_move rfl rfl rfl ?_
  obtain ⟨r131, hc132, hm⟩ := bind_some hm
  refine W_call call61 rfl rfl rfl (fun w ht => by have h := m_nat_Check_c (hm := hc132)  ht; exact h) ?_
  rintro _ _ _ ⟨rfl, rfl, rfl⟩
  refine W_assign rfl rfl rfl ?_
  refine W_end (E_then (C_seq (C_region ?_)))
  refine W_move rfl rfl rfl ?_
  refine W_bin rfl rfl rfl rfl rfl ?_
  refine W_end (E_then ?_)
  refine C_cond (b := !decide (r131 = 0)) rfl (fun hb133 => ?_) (fun hb133 => ?_)
  ·have hm := ite_t' hb133 hm
   refine C_seq (C_region ?_)
   refine W_build (css := []) (zs := [.bool (false), .slice none 0 0]) (out := [.bool (false), .slice none 0 0]) (places := [(0, 1), (1, 1)]) rfl rfl rfl trivial zeroValue48 rfl runUnderlying48 (fun w => by kernel_rfl) rfl ?_
   refine W_build (css := []) (zs := [.bool (false), .slice none 0 0]) (out := [.bool (false), .slice none 0 0]) (places := [(0, 1), (1, 1)]) rfl rfl rfl trivial zeroValue48 rfl runUnderlying48 (fun w => by kernel_rfl) rfl ?_
   refine W_move rfl rfl rfl ?_
   refine W_perm (List.Perm.swap _ _ _) ?_
   refine W_store (cs := [.bool (false), .slice none 0 0]) (out := [.bool (false), .slice none 0 0]) rfl sizeOf48 rfl rfl rfl rfl rfl (all_cons rfl (all_cons rfl all_nil)) (over_all rfl) ?_
   refine W_perm (List.Perm.swap _ _ _) ?_
   refine W_store (cs := [.bool (false), .slice none 0 0]) (out := [.bool (false), .slice none 0 0]) rfl sizeOf48 rfl rfl rfl rfl rfl (all_cons rfl (all_cons rfl all_nil)) (over_all rfl) ?_
   refine W_assign rfl rfl rfl ?_
   refine W_end (E_then (C_ret (E_ret_block (E_ret_then (E_ret_then (E_ret_block (E_ret_then ?_)))))))
   obtain rfl := Option.some.inj hm
   exact endC3 (Hp.le_refl _) rfl (ResV.agg rfl isAgg48 sizeOf48 (List.mem_cons_of_mem _ (List.mem_cons_self ..)) rfl) (ResV.agg rfl isAgg48 sizeOf48 (List.mem_cons_self ..) rfl) (ResV.tmp rfl) (List.Sublist.cons _ (List.Sublist.cons _ (List.Sublist.refl _))) (List.Perm.refl _) ⟨hle117, (.slice none 0 0), (.slice none 0 0), rfl, rfl, RdS.nil, RdS.nil⟩
  ·have hm := ite_f' hb133 hm
   refine C_skip (E_normal_block (E_then (C_region ?_)))
   refine W_bin rfl rfl rfl rfl rfl ?_
   refine W_move rfl rfl rfl ?_
   refine W_end ?_
   exact E_keepJ (E_back (Nat.lt_succ_self _) ⟨k103 + 1, zs123, hd126, rfl, (by rw [hn120]; exact hm), hle117, rfl, rfl⟩) (List.Perm.refl _) ⟨rfl, rfl, rfl, rfl, rfl, (congrArg (fun z => some (Value.int .i64 z)) (i64_succN hy124 (toNat_max (by decide)))), trivial⟩
 ·obtain rfl := rngN_f hd125 hb127
  have hm : ((m_large_Read p0_a).bind fun r134 => (m_large_Read p1_b).bind fun r140 => some (r134, r140, 0)) = some r := hm
  refine C_exit (E_exit_then (E_exit_then (E_exit_hit (E_then (C_seq (C_region ?_))))))
  refine W_move rfl rfl rfl ?_
  obtain ⟨r134, hc135, hm⟩ := bind_some hm
  refine W_call call49 rfl rfl rfl (fun w ht => by have h := m_large_Read_c (hm := hc135)  ht; exact h) ?_
  rintro _ H138 _ ⟨hle139, v136, rfl, rfl, h137⟩
  refine W_move rfl rfl rfl ?_
  obtain ⟨r140, hc141, hm⟩ := bind_some hm
  refine W_call call49 rfl rfl rfl (fun w ht => by have h := m_large_Read_c (hm := hc141)  ht; exact h) ?_
  rintro _ H144 _ ⟨hle145, v142, rfl, rfl, h143⟩
  refine W_perm (List.Perm.swap _ _ _) ?_
  refine W_store (cs := [.bool (r134.minus), v136]) (out := [.bool (r134.minus), v136]) rfl sizeOf48 rfl rfl rfl rfl rfl (all_cons rfl (all_cons (RdS.one1 (h137.mono hle145)) all_nil)) (over_all rfl) ?_
  refine W_perm (List.Perm.swap _ _ _) ?_
  refine W_store (cs := [.bool (r140.minus), v142]) (out := [.bool (r140.minus), v142]) rfl sizeOf48 rfl rfl rfl rfl rfl (all_cons rfl (all_cons (RdS.one1 h143) all_nil)) (over_all rfl) ?_
  refine W_assign rfl rfl rfl ?_
  refine W_end (E_then (C_ret ?_))
  obtain rfl := Option.some.inj hm
  exact endC3 (Hp.le_refl _) rfl (ResV.agg rfl isAgg48 sizeOf48 (List.mem_cons_of_mem _ (List.mem_cons_self ..)) rfl) (ResV.agg rfl isAgg48 sizeOf48 (List.mem_cons_self ..) rfl) (ResV.tmp rfl) (List.Sublist.cons _ (List.Sublist.cons _ (List.Sublist.refl _))) (List.Perm.refl _) ⟨(Hp.le_trans (Hp.le_trans hle117 hle139) hle145), v136, v142, rfl, rfl, (h137.mono hle145), h143⟩

theorem m_nat_text_c {B : Nat} {w0 w : World} [Tabs B w0] {H : Hp} {M : List Res} {p0_a : S_large_Int} {v0 : Value} {r : ByteArray × Int} (hm : m_nat_text p0_a = some r) (h0 : RdS H v0 p0_a.words) (ht : St B w0 H (M) w) :
  Calls prog 76 [.agg [.bool (p0_a.minus), v0].toArray].toArray w (Ret B w0 fun H' M' v => H = H' ∧ M = M' ∧ .tuple #[.string (r.1), .int .i64 (r.2)] = v) := by
 unfold m_nat_text at hm
 refine enter func76 rfl rfl rfl ht ?_
 refine C_seq (C_region ?_)
 refine W_box (cs := [.bool (p0_a.minus), v0]) rfl rfl rfl rfl (fun b101 => ?_)
 refine W_assign rfl rfl rfl ?_
 refine W_assign rfl rfl rfl ?_
 refine W_end (E_then (C_seq (C_region ?_)))
 refine W_loadAgg rfl rfl isAgg48 sizeOf48 rfl (own_all (List.mem_cons_self ..)) rfl ?_
 obtain ⟨r102, hc103, hm⟩ := bind_some hm
 refine W_call call51 rfl rfl rfl (fun w ht => by have h := m_large_Int_Text_c (hm := hc103) h0 ht; exact h) ?_
 rintro _ _ _ ⟨rfl, rfl, rfl⟩
 refine W_move rfl rfl rfl ?_
 refine W_extract rfl rfl rfl rfl ?_
 refine W_extract rfl rfl rfl rfl ?_
 refine W_assign rfl rfl rfl ?_
 refine W_assign rfl rfl rfl ?_
 refine W_end (E_then (C_seq (C_seq (C_region ?_))))
 refine W_move rfl rfl rfl ?_
 refine W_un rfl rfl rfl rfl ?_
 refine W_end (E_then ?_)
 refine C_cond (b := !r102.2) rfl (fun hb104 => ?_) (fun hb104 => ?_)
 ·have hm := ite_t' hb104 hm
  refine C_seq (C_region ?_)
  refine W_assign rfl rfl rfl ?_
  refine W_assign rfl rfl rfl ?_
  refine W_end (E_then (C_ret (E_ret_then ?_)))
  obtain rfl := Option.some.inj hm
  refine E_drop (List.Sublist.cons _ (List.Sublist.refl _)) ?_
  refine E_weak (Hp.le_refl _) ?_
  exact end2 rfl rfl rfl ⟨rfl, rfl, rfl⟩
 ·have hm := ite_f' hb104 hm
  refine C_skip (E_then (C_seq (C_region ?_)))
  refine W_move rfl rfl rfl ?_
  refine W_assign rfl rfl rfl ?_
  refine W_assign rfl rfl rfl ?_
  refine W_end (E_then (C_ret ?_))
  obtain rfl := Option.some.inj hm
  refine E_drop (List.Sublist.cons _ (List.Sublist.refl _)) ?_
  refine E_weak (Hp.le_refl _) ?_
  exact end2 rfl rfl rfl ⟨rfl, rfl, rfl⟩

theorem m_nat_Gcd_c {B : Nat} {w0 w : World} [Tabs B w0] {H : Hp} {M : List Res} {p0_a : ByteArray} {p1_b : ByteArray} {r : ByteArray × Int} (hm : m_nat_Gcd p0_a p1_b = some r) (ht : St B w0 H (M) w) :
  Calls prog 62 [.string (p0_a), .string (p1_b)].toArray w (Ret B w0 fun H' M' v => H = H' ∧ M = M' ∧ .tuple #[.string (r.1), .int .i64 (r.2)] = v) := by
 unfold m_nat_Gcd at hm
 refine enter func62 rfl rfl rfl ht ?_
 refine C_seq (C_region ?_)
 refine W_assign rfl rfl rfl ?_
 refine W_assign rfl rfl rfl ?_
 refine W_end (E_then (C_seq (C_region ?_)))
 refine W_move rfl rfl rfl ?_
 refine W_move rfl rfl rfl ?_
 obtain ⟨r101, hc102, hm⟩ := bind_some hm
 refine W_call call75 rfl rfl rfl (fun w ht => by have h := m_nat_two_c (hm := hc102)  ht; exact h) ?_
 rintro _ H107 _ ⟨hle108, v103, v105, rfl, rfl, h104, h106⟩
 refine W_move rfl rfl rfl ?_
 refine W_extract rfl rfl rfl rfl ?_
 refine W_extract rfl rfl rfl rfl ?_
 refine W_extract rfl rfl rfl rfl ?_
 refine W_alloc (cs := [.bool (false), .slice none 0 0]) rfl rfl zeroValue48 rfl (fun b109 => ?_)
 refine W_alloc (cs := [.bool (false), .slice none 0 0]) rfl rfl zeroValue48 rfl (fun b110 => ?_)
 refine W_perm (List.Perm.swap _ _ _) ?_
 refine W_store (cs := [.bool (r101.1.minus), v103]) (out := [.bool (r101.1.minus), v103]) rfl sizeOf48 rfl rfl rfl rfl rfl (all_cons rfl (all_cons (RdS.one1 h104) all_nil)) (over_all rfl) ?_
 refine W_perm (List.Perm.swap _ _ _) ?_
 refine W_store (cs := [.bool (r101.2.1.minus), v105]) (out := [.bool (r101.2.1.minus), v105]) rfl sizeOf48 rfl rfl rfl rfl rfl (all_cons rfl (all_cons (RdS.one1 h106) all_nil)) (over_all rfl) ?_
 refine W_assign rfl rfl rfl ?_
 refine W_end (E_then (C_seq (C_seq (C_region ?_))))
 refine W_move rfl rfl rfl ?_
 refine W_bin rfl rfl rfl rfl rfl ?_
 refine W_end (E_then ?_)
 refine C_cond (b := !decide (r101.2.2 = 0)) rfl (fun hb111 => ?_) (fun hb111 => ?_)
 ·have hm := ite_t' hb111 hm
  refine C_seq (C_region ?_)
  refine W_move rfl rfl rfl ?_
  refine W_assign rfl rfl rfl ?_
  refine W_assign rfl rfl rfl ?_
  refine W_end (E_then (C_ret (E_ret_then ?_)))
  obtain rfl := Option.some.inj hm
  refine E_drop (List.Sublist.cons _ (List.Sublist.cons _ (List.Sublist.refl _))) ?_
  refine E_weak hle108 ?_
  exact end2 rfl rfl rfl ⟨rfl, rfl, rfl⟩
 ·have hm := ite_f' hb111 hm
  refine C_skip (E_then (C_seq (C_region ?_)))
  refine W_loadAgg rfl rfl isAgg48 sizeOf48 rfl (own_all (List.mem_cons_of_mem _ (List.mem_cons_self ..))) rfl ?_
  refine W_loadAgg rfl rfl isAgg48 sizeOf48 rfl (own_all (List.mem_cons_self ..)) rfl ?_
  obtain ⟨r112, hc113, hm⟩ := bind_some hm
  refine W_call call53 rfl rfl rfl (fun w ht => by have h := m_large_Gcd_c (hm := hc113) h104 h106 ht; exact h) ?_
  rintro _ H116 _ ⟨hle117, v114, rfl, rfl, h115⟩
  obtain ⟨r118, hc119, hm⟩ := bind_some hm
  refine W_call call76 rfl rfl rfl (fun w ht => by have h := m_nat_text_c (hm := hc119) h115 ht; exact h) ?_
  rintro _ _ _ ⟨rfl, rfl, rfl⟩
  refine W_extract rfl rfl rfl rfl ?_
  refine W_extract rfl rfl rfl rfl ?_
  refine W_assign rfl rfl rfl ?_
  refine W_assign rfl rfl rfl ?_
  refine W_end (E_then (C_ret ?_))
  obtain rfl := Option.some.inj hm
  refine E_drop (List.Sublist.cons _ (List.Sublist.cons _ (List.Sublist.refl _))) ?_
  refine E_weak (Hp.le_trans hle108 hle117) ?_
  exact end2 rfl rfl rfl ⟨rfl, rfl, rfl⟩

theorem m_rat_Check_c {B : Nat} {w0 w : World} [Tabs B w0] {H : Hp} {M : List Res} {p0_r : ByteArray} {r : Int} (hm : m_rat_Check p0_r = some r) (ht : St B w0 H (M) w) :
  Calls prog 47 [.string (p0_r)].toArray w (Ret B w0 fun H' M' v => H = H' ∧ M = M' ∧ .int .i64 (r) = v) := by
 unfold m_rat_Check at hm
 refine enter func47 rfl rfl rfl ht ?_
 refine C_seq (C_region ?_)
 refine W_assign rfl rfl rfl ?_
 refine W_end (E_then (C_seq (C_region ?_)))
 refine W_move rfl rfl rfl ?_
 obtain ⟨r101, hc102, hm⟩ := bind_some hm
 refine W_call call60 rfl rfl rfl (fun w ht => by have h := m_strings_TrimPrefix_c (hm := hc102)  ht; exact h) ?_
 rintro _ _ _ ⟨rfl, rfl, rfl⟩
 refine W_assign rfl rfl rfl ?_
 refine W_end (E_then (C_seq (C_region ?_)))
 refine W_move rfl rfl rfl ?_
 obtain ⟨r103, hc104, hm⟩ := bind_some hm
 refine W_call call48 rfl rfl rfl (fun w ht => by have h := m_strings_Cut_c (hm := hc104)  ht; exact h) ?_
 rintro _ _ _ ⟨rfl, rfl, rfl⟩
 refine W_move rfl rfl rfl ?_
 refine W_extract rfl rfl rfl rfl ?_
 refine W_extract rfl rfl rfl rfl ?_
 refine W_extract rfl rfl rfl rfl ?_
 refine W_assign rfl rfl rfl ?_
 refine W_assign rfl rfl rfl ?_
 refine W_assign rfl rfl rfl ?_
 refine W_end (E_then (C_seq (C_region ?_)))
 refine W_move rfl rfl rfl ?_
 obtain ⟨r105, hc106, hm⟩ := bind_some hm
 refine W_call call61 rfl rfl rfl (fun w ht => by have h := m_nat_Check_c (hm := hc106)  ht; exact h) ?_
 rintro _ _ _ ⟨rfl, rfl, rfl⟩
 refine W_assign rfl rfl rfl ?_
 refine W_assign rfl rfl rfl ?_
 refine W_end (E_then ?_)
 refine C_seq_join (fun H' M' L' => ∃ n110 : Int, m_rat_Check_b2 p0_r r101 r103 r105 n110 = some r ∧ H = H' ∧ M = M' ∧ [(0, .string (p0_r)), (3, .string (r101)), (4, .string (r103.1)), (5, .string (r103.2.1)), (6, .bool (r103.2.2)), (7, .int .i64 (r105)), (8, .int .i64 (n110))] = L') ?_ (fun J111 => ?_)
 ·rintro _ _ _ ⟨n110, hm, rfl, rfl, rfl⟩
  unfold m_rat_Check_b2 at hm
  refine C_seq (C_block ?_)
  refine C_seq_join (fun H' M' L' => H = H' ∧ M = M' ∧ [(4, .string (r103.1)), (5, .string (r103.2.1)), (6, .bool (r103.2.2)), (7, .int .i64 (r105)), (8, .int .i64 (n110)), (24, .bool (((decide (r105 = 5)) || (decide (n110 = 5))) || ((decide (r103.1 = (⟨#[48]⟩))) && (decide ((r101.size : Int) < (p0_r.size : Int))))))] = L') ?_ (fun J115 => ?_)
  ·rintro _ _ _ ⟨rfl, rfl, rfl⟩
   refine C_cond (b := ((decide (r105 = 5)) || (decide (n110 = 5))) || ((decide (r103.1 = (⟨#[48]⟩))) && (decide ((r101.size : Int) < (p0_r.size : Int))))) rfl (fun hb116 => ?_) (fun hb116 => ?_)
   ·have hm := ite_t' hb116 hm
    refine C_seq (C_region ?_)
    refine W_assign rfl rfl rfl ?_
    refine W_end (E_then (C_ret (E_ret_block (E_ret_then ?_))))
    obtain rfl := Option.some.inj hm
    refine E_weak (Hp.le_refl _) ?_
    exact end1 rfl rfl ⟨rfl, rfl, rfl⟩
   ·have hm := ite_f' hb116 hm
    refine C_seq_join (fun H' M' L' => H = H' ∧ M = M' ∧ [(4, .string (r103.1)), (5, .string (r103.2.1)), (6, .bool (r103.2.2)), (42, .bool ((!decide (r105 = 0)) || (!decide (n110 = 0))))] = L') ?_ (fun J118 => ?_)
    ·rintro _ _ _ ⟨rfl, rfl, rfl⟩
     refine C_cond (b := (!decide (r105 = 0)) || (!decide (n110 = 0))) rfl (fun hb119 => ?_) (fun hb119 => ?_)
     ·have hm := ite_t' hb119 hm
      refine C_seq (C_region ?_)
      refine W_assign rfl rfl rfl ?_
      refine W_end (E_then (C_ret (E_ret_block (E_ret_then ?_))))
      obtain rfl := Option.some.inj hm
      refine E_weak (Hp.le_refl _) ?_
      exact end1 rfl rfl ⟨rfl, rfl, rfl⟩
     ·have hm := ite_f' hb119 hm
      refine C_skip (E_normal_block (E_then ?_))
      refine C_seq_join (fun H' M' L' => m_rat_Check_b1 = some r ∧ H = H' ∧ M = M' ∧ [] = L') ?_ (fun J129 => ?_)
      ·rintro _ _ _ ⟨hm, rfl, rfl, rfl⟩
       unfold m_rat_Check_b1 at hm
       refine C_seq (C_region ?_)
       refine W_assign rfl rfl rfl ?_
       refine W_end (E_then (C_ret ?_))
       obtain rfl := Option.some.inj hm
       refine E_weak (Hp.le_refl _) ?_
       exact end1 rfl rfl ⟨rfl, rfl, rfl⟩
      ·refine C_seq (C_region ?_)
       refine W_move rfl rfl rfl ?_
       refine W_end (E_then ?_)
       refine C_cond (b := r103.2.2) rfl (fun hb130 => ?_) (fun hb130 => ?_)
       ·have hm := ite_t' hb130 hm
        refine C_seq (C_region ?_)
        refine W_move rfl rfl rfl ?_
        refine W_move rfl rfl rfl ?_
        obtain ⟨r131, hc132, hm⟩ := bind_some hm
        refine W_call call62 rfl rfl rfl (fun w ht => by have h := m_nat_Gcd_c (hm := hc132)  ht; exact h) ?_
        rintro _ _ _ ⟨rfl, rfl, rfl⟩
        refine W_move rfl rfl rfl ?_
        refine W_extract rfl rfl rfl rfl ?_
        refine W_extract rfl rfl rfl rfl ?_
        refine W_assign rfl rfl rfl ?_
        refine W_assign rfl rfl rfl ?_
        refine W_end (E_then ?_)
        refine C_seq_join (fun H' M' L' => H = H' ∧ M = M' ∧ [(65, .bool (((decide (r103.2.1 = (⟨#[48]⟩))) || (decide (r103.2.1 = (⟨#[49]⟩)))) || (!decide (r131.1 = (⟨#[49]⟩)))))] = L') ?_ (fun J135 => ?_)
        ·rintro _ _ _ ⟨rfl, rfl, rfl⟩
         refine C_cond (b := ((decide (r103.2.1 = (⟨#[48]⟩))) || (decide (r103.2.1 = (⟨#[49]⟩)))) || (!decide (r131.1 = (⟨#[49]⟩)))) rfl (fun hb136 => ?_) (fun hb136 => ?_)
         ·have hm := ite_t' hb136 hm
          refine C_seq (C_region ?_)
          refine W_assign rfl rfl rfl ?_
          refine W_end (E_then (C_ret (E_ret_then ?_)))
          obtain rfl := Option.some.inj hm
          refine E_weak (Hp.le_refl _) ?_
          exact end1 rfl rfl ⟨rfl, rfl, rfl⟩
         ·have hm := ite_f' hb136 hm
          refine C_skip ?_
          exact E_keepJ (J129 _ _ _ ⟨hm, rfl, rfl, rfl⟩) (List.Perm.refl _) trivial
        ·refine C_region ?_
         refine W_move rfl rfl rfl ?_
         refine W_bin rfl rfl rfl rfl rfl ?_
         refine W_move rfl rfl rfl ?_
         cases hb137 : (decide (r103.2.1 = (⟨#[48]⟩)))
         ·refine W_move rfl rfl rfl ?_
          refine W_bin rfl rfl rfl rfl rfl ?_
          refine W_pick rfl rfl rfl rfl ?_
          refine W_move rfl rfl rfl ?_
          cases hb138 : (decide (r103.2.1 = (⟨#[49]⟩)))
          ·refine W_move rfl rfl rfl ?_
           refine W_bin rfl rfl rfl rfl rfl ?_
           refine W_pick rfl rfl rfl rfl ?_
           refine W_end ?_
           exact E_keepJ (J135 _ _ _ ⟨rfl, rfl, rfl⟩) (List.Perm.refl _) ⟨(by show some (Value.bool (!decide (r131.1 = (⟨#[49]⟩)))) = some (Value.bool (((decide (r103.2.1 = (⟨#[48]⟩))) || (decide (r103.2.1 = (⟨#[49]⟩)))) || (!decide (r131.1 = (⟨#[49]⟩))))); first | (simp only [hb116, hb119, hb130, hb137, hb138, Bool.and_true, Bool.true_and, Bool.false_and, Bool.and_false, Bool.or_true, Bool.true_or, Bool.or_false, Bool.false_or, Bool.not_true, Bool.not_false]; done) | (simp only [hb116, hb119, hb130, hb137, hb138]; first | done | simp only [Bool.and_true, Bool.true_and, Bool.false_and, Bool.and_false, Bool.or_true, Bool.true_or, Bool.or_false, Bool.false_or, Bool.not_true, Bool.not_false])), trivial⟩
          ·refine W_no rfl rfl rfl ?_
           refine W_no rfl rfl rfl ?_
           refine W_pick rfl rfl rfl rfl ?_
           refine W_end ?_
           exact E_keepJ (J135 _ _ _ ⟨rfl, rfl, rfl⟩) (List.Perm.refl _) ⟨(by show some (Value.bool (true)) = some (Value.bool (((decide (r103.2.1 = (⟨#[48]⟩))) || (decide (r103.2.1 = (⟨#[49]⟩)))) || (!decide (r131.1 = (⟨#[49]⟩))))); first | (simp only [hb116, hb119, hb130, hb137, hb138, Bool.and_true, Bool.true_and, Bool.false_and, Bool.and_false, Bool.or_true, Bool.true_or, Bool.or_false, Bool.false_or, Bool.not_true, Bool.not_false]; done) | (simp only [hb116, hb119, hb130, hb137, hb138]; first | done | simp only [Bool.and_true, Bool.true_and, Bool.false_and, Bool.and_false, Bool.or_true, Bool.true_or, Bool.or_false, Bool.false_or, Bool.not_true, Bool.not_false])), trivial⟩
         ·refine W_no rfl rfl rfl ?_
          refine W_no rfl rfl rfl ?_
          refine W_pick rfl rfl rfl rfl ?_
          refine W_move rfl rfl rfl ?_
          refine W_no rfl rfl rfl ?_
          refine W_no rfl rfl rfl ?_
          refine W_pick rfl rfl rfl rfl ?_
          refine W_end ?_
          exact E_keepJ (J135 _ _ _ ⟨rfl, rfl, rfl⟩) (List.Perm.refl _) ⟨(by show some (Value.bool (true)) = some (Value.bool (((decide (r103.2.1 = (⟨#[48]⟩))) || (decide (r103.2.1 = (⟨#[49]⟩)))) || (!decide (r131.1 = (⟨#[49]⟩))))); first | (simp only [hb116, hb119, hb130, hb137, Bool.and_true, Bool.true_and, Bool.false_and, Bool.and_false, Bool.or_true, Bool.true_or, Bool.or_false, Bool.false_or, Bool.not_true, Bool.not_false]; done) | (simp only [hb116, hb119, hb130, hb137]; first | done | simp only [Bool.and_true, Bool.true_and, Bool.false_and, Bool.and_false, Bool.or_true, Bool.true_or, Bool.or_false, Bool.false_or, Bool.not_true, Bool.not_false])), trivial⟩
       ·have hm := ite_f' hb130 hm
        refine C_skip ?_
        exact E_keepJ (J129 _ _ _ ⟨hm, rfl, rfl, rfl⟩) (List.Perm.refl _) trivial
    ·refine C_region ?_
     refine W_move rfl rfl rfl ?_
     refine W_bin rfl rfl rfl rfl rfl ?_
     refine W_move rfl rfl rfl ?_
     cases hb139 : (decide (r105 = 0))
     ·refine W_no rfl rfl rfl ?_
      refine W_no rfl rfl rfl ?_
      refine W_pick rfl rfl rfl rfl ?_
      refine W_assign rfl rfl rfl ?_
      refine W_end ?_
      exact E_keepJ (J118 _ _ _ ⟨rfl, rfl, rfl⟩) (List.Perm.refl _) ⟨rfl, rfl, rfl, (by show some (Value.bool (true)) = some (Value.bool ((!decide (r105 = 0)) || (!decide (n110 = 0)))); first | (simp only [hb116, hb139, Bool.and_true, Bool.true_and, Bool.false_and, Bool.and_false, Bool.or_true, Bool.true_or, Bool.or_false, Bool.false_or, Bool.not_true, Bool.not_false]; done) | (simp only [hb116, hb139]; first | done | simp only [Bool.and_true, Bool.true_and, Bool.false_and, Bool.and_false, Bool.or_true, Bool.true_or, Bool.or_false, Bool.false_or, Bool.not_true, Bool.not_false])), trivial⟩
     ·refine W_move rfl rfl rfl ?_
      refine W_bin rfl rfl rfl rfl rfl ?_
      refine W_pick rfl rfl rfl rfl ?_
      refine W_assign rfl rfl rfl ?_
      refine W_end ?_
      exact E_keepJ (J118 _ _ _ ⟨rfl, rfl, rfl⟩) (List.Perm.refl _) ⟨rfl, rfl, rfl, (by show some (Value.bool (!decide (n110 = 0))) = some (Value.bool ((!decide (r105 = 0)) || (!decide (n110 = 0)))); first | (simp only [hb116, hb139, Bool.and_true, Bool.true_and, Bool.false_and, Bool.and_false, Bool.or_true, Bool.true_or, Bool.or_false, Bool.false_or, Bool.not_true, Bool.not_false]; done) | (simp only [hb116, hb139]; first | done | simp only [Bool.and_true, Bool.true_and, Bool.false_and, Bool.and_false, Bool.or_true, Bool.true_or, Bool.or_false, Bool.false_or, Bool.not_true, Bool.not_false])), trivial⟩
  ·refine C_region ?_
   refine W_move rfl rfl rfl ?_
   refine W_bin rfl rfl rfl rfl rfl ?_
   refine W_move rfl rfl rfl ?_
   cases hb140 : (decide (r105 = 5))
   ·refine W_move rfl rfl rfl ?_
    refine W_bin rfl rfl rfl rfl rfl ?_
    refine W_pick rfl rfl rfl rfl ?_
    refine W_move rfl rfl rfl ?_
    cases hb141 : (decide (n110 = 5))
    ·refine W_move rfl rfl rfl ?_
     refine W_bin rfl rfl rfl rfl rfl ?_
     refine W_move rfl rfl rfl ?_
     cases hb142 : (decide (r103.1 = (⟨#[48]⟩)))
     ·refine W_no rfl rfl rfl ?_
      refine W_no rfl rfl rfl ?_
      refine W_no rfl rfl rfl ?_
      refine W_no rfl rfl rfl ?_
      refine W_no rfl rfl rfl ?_
      refine W_pick rfl rfl rfl rfl ?_
      refine W_pick rfl rfl rfl rfl ?_
      refine W_assign rfl rfl rfl ?_
      refine W_end ?_
      exact E_keepJ (J115 _ _ _ ⟨rfl, rfl, rfl⟩) (List.Perm.refl _) ⟨rfl, rfl, rfl, rfl, rfl, (by show some (Value.bool (false)) = some (Value.bool (((decide (r105 = 5)) || (decide (n110 = 5))) || ((decide (r103.1 = (⟨#[48]⟩))) && (decide ((r101.size : Int) < (p0_r.size : Int)))))); first | (simp only [hb140, hb141, hb142, Bool.and_true, Bool.true_and, Bool.false_and, Bool.and_false, Bool.or_true, Bool.true_or, Bool.or_false, Bool.false_or, Bool.not_true, Bool.not_false]; done) | (simp only [hb140, hb141, hb142]; first | done | simp only [Bool.and_true, Bool.true_and, Bool.false_and, Bool.and_false, Bool.or_true, Bool.true_or, Bool.or_false, Bool.false_or, Bool.not_true, Bool.not_false])), trivial⟩
     ·refine W_move rfl rfl rfl ?_
      refine W_lenStr rfl rfl runUnderlying9 rfl ?_
      refine W_move rfl rfl rfl ?_
      refine W_lenStr rfl rfl runUnderlying25 rfl ?_
      refine W_bin rfl rfl rfl rfl rfl ?_
      refine W_pick rfl rfl rfl rfl ?_
      refine W_pick rfl rfl rfl rfl ?_
      refine W_assign rfl rfl rfl ?_
      refine W_end ?_
      exact E_keepJ (J115 _ _ _ ⟨rfl, rfl, rfl⟩) (List.Perm.refl _) ⟨rfl, rfl, rfl, rfl, rfl, (by show some (Value.bool (decide ((r101.size : Int) < (p0_r.size : Int)))) = some (Value.bool (((decide (r105 = 5)) || (decide (n110 = 5))) || ((decide (r103.1 = (⟨#[48]⟩))) && (decide ((r101.size : Int) < (p0_r.size : Int)))))); first | (simp only [hb140, hb141, hb142, Bool.and_true, Bool.true_and, Bool.false_and, Bool.and_false, Bool.or_true, Bool.true_or, Bool.or_false, Bool.false_or, Bool.not_true, Bool.not_false]; done) | (simp only [hb140, hb141, hb142]; first | done | simp only [Bool.and_true, Bool.true_and, Bool.false_and, Bool.and_false, Bool.or_true, Bool.true_or, Bool.or_false, Bool.false_or, Bool.not_true, Bool.not_false])), trivial⟩
    ·refine W_no rfl rfl rfl ?_
     refine W_no rfl rfl rfl ?_
     refine W_no rfl rfl rfl ?_
     refine W_no rfl rfl rfl ?_
     refine W_no rfl rfl rfl ?_
     refine W_no rfl rfl rfl ?_
     refine W_no rfl rfl rfl ?_
     refine W_no rfl rfl rfl ?_
     refine W_no rfl rfl rfl ?_
     refine W_pick rfl rfl rfl rfl ?_
     refine W_assign rfl rfl rfl ?_
     refine W_end ?_
     exact E_keepJ (J115 _ _ _ ⟨rfl, rfl, rfl⟩) (List.Perm.refl _) ⟨rfl, rfl, rfl, rfl, rfl, (by show some (Value.bool (true)) = some (Value.bool (((decide (r105 = 5)) || (decide (n110 = 5))) || ((decide (r103.1 = (⟨#[48]⟩))) && (decide ((r101.size : Int) < (p0_r.size : Int)))))); first | (simp only [hb140, hb141, Bool.and_true, Bool.true_and, Bool.false_and, Bool.and_false, Bool.or_true, Bool.true_or, Bool.or_false, Bool.false_or, Bool.not_true, Bool.not_false]; done) | (simp only [hb140, hb141]; first | done | simp only [Bool.and_true, Bool.true_and, Bool.false_and, Bool.and_false, Bool.or_true, Bool.true_or, Bool.or_false, Bool.false_or, Bool.not_true, Bool.not_false])), trivial⟩
   ·refine W_no rfl rfl rfl ?_
    refine W_no rfl rfl rfl ?_
    refine W_pick rfl rfl rfl rfl ?_
    refine W_move rfl rfl rfl ?_
    refine W_no rfl rfl rfl ?_
    refine W_no rfl rfl rfl ?_
    refine W_no rfl rfl rfl ?_
    refine W_no rfl rfl rfl ?_
    refine W_no rfl rfl rfl ?_
    refine W_no rfl rfl rfl ?_
    refine W_no rfl rfl rfl ?_
    refine W_no rfl rfl rfl ?_
    refine W_no rfl rfl rfl ?_
    refine W_pick rfl rfl rfl rfl ?_
    refine W_assign rfl rfl rfl ?_
    refine W_end ?_
    exact E_keepJ (J115 _ _ _ ⟨rfl, rfl, rfl⟩) (List.Perm.refl _) ⟨rfl, rfl, rfl, rfl, rfl, (by show some (Value.bool (true)) = some (Value.bool (((decide (r105 = 5)) || (decide (n110 = 5))) || ((decide (r103.1 = (⟨#[48]⟩))) && (decide ((r101.size : Int) < (p0_r.size : Int)))))); first | (simp only [hb140, Bool.and_true, Bool.true_and, Bool.false_and, Bool.and_false, Bool.or_true, Bool.true_or, Bool.or_false, Bool.false_or, Bool.not_true, Bool.not_false]; done) | (simp only [hb140]; first | done | simp only [Bool.and_true, Bool.true_and, Bool.false_and, Bool.and_false, Bool.or_true, Bool.true_or, Bool.or_false, Bool.false_or, Bool.not_true, Bool.not_false])), trivial⟩
 ·refine C_seq (C_region ?_)
  refine W_move rfl rfl rfl ?_
  refine W_end (E_then ?_)
  refine C_cond (b := r103.2.2) rfl (fun hb143 => ?_) (fun hb143 => ?_)
  ·have hm := ite_t' hb143 hm
   refine C_region ?_
   refine W_move rfl rfl rfl ?_
   obtain ⟨r144, hc145, hm⟩ := bind_some hm
   refine W_call call61 rfl rfl rfl (fun w ht => by have h := m_nat_Check_c (hm := hc145)  ht; exact h) ?_
   rintro _ _ _ ⟨rfl, rfl, rfl⟩
   refine W_assign rfl rfl rfl ?_
   refine W_end ?_
   exact E_keepJ (J111 _ _ _ ⟨r144, hm, rfl, rfl, rfl⟩) (List.Perm.refl _) ⟨rfl, rfl, rfl, rfl, rfl, rfl, rfl, trivial⟩
  ·have hm := ite_f' hb143 hm
   refine C_skip ?_
   exact E_keepJ (J111 _ _ _ ⟨0, hm, rfl, rfl, rfl⟩) (List.Perm.refl _) ⟨rfl, rfl, rfl, rfl, rfl, rfl, rfl, trivial⟩

theorem m_rat_CheckAll_c {B : Nat} {w0 w : World} [Tabs B w0] {H : Hp} {M : List Res} {p0_l : (List ByteArray)} {v0 : Value} {r : Int} (hm : m_rat_CheckAll p0_l = some r) (h0 : RdS H v0 p0_l) (ht : St B w0 H (M) w) :
  Calls prog 35 [v0].toArray w (Ret B w0 fun H' M' v => H = H' ∧ M = M' ∧ .int .i64 (r) = v) := by
 unfold m_rat_CheckAll at hm
 refine enter func35 rfl rfl rfl ht ?_
 refine C_seq (C_region ?_)
 refine W_assign rfl rfl rfl ?_
 refine W_end (E_then (C_seq (C_seq (C_region ?_))))
 refine W_move rfl rfl rfl ?_
 refine W_lenR rfl rfl runUnderlying33 rfl h0 ?_
 refine W_move rfl rfl rfl ?_
 refine W_end (E_then (C_block ?_))
 refine C_keep (L' := [(6, v0), (7, .int .i64 ((p0_l.length : Int))), (8, .int .i64 (((0 : Nat) : Int)))]) ⟨rfl, rfl, rfl, trivial⟩ (List.Perm.refl _) ?_
 refine C_loop (fun n H' M' L' => ∃ (k101 : Nat) (zs117' : List ByteArray), (p0_l).drop k101 = zs117' ∧ zs117'.length = n ∧ forI (fun k y s112 n => m_rat_CheckAll_b1 k y n) (fun _ => some 0) k101 zs117' () = some r ∧ H.le H' ∧ M = M' ∧ [(6, v0), (7, .int .i64 ((p0_l.length : Int))), (8, .int .i64 ((k101 : Int)))] = L') _ ⟨0, _, rfl, rfl, hm, (Hp.le_refl _), rfl, rfl⟩ ?_
 rintro _ H110 _ _ ⟨k101, zs117', hd119, rfl, hm, hle111, rfl, rfl⟩
 refine C_seq (C_region ?_)
 refine W_bin rfl rfl rfl rfl rfl ?_
 refine W_end (E_then (C_seq ?_))
 refine C_cond (b := decide ((k101 : Int) < (p0_l.length : Int))) rfl (fun hb121 => ?_) (fun hb121 => ?_)
 ·obtain ⟨y116, zs117, rfl, hy118, hd120⟩ := rng_t hd119 hb121
  have hm : m_rat_CheckAll_b1 k101 y116 (forI (fun k y s112 n => m_rat_CheckAll_b1 k y n) (fun _ => some 0) (k101 + 1) zs117) = some r := hm
  generalize hn114 : forI (fun k y s112 n => m_rat_CheckAll_b1 k y n) (fun _ => some 0) (k101 + 1) zs117 = nx113 at hm
  unfold m_rat_CheckAll_b1 at hm
  refine C_skip (E_then (C_seq (C_block (C_seq (C_region ?_)))))
  obtain ⟨_, rfl, hc122⟩ := (h0).elem hy118
  refine W_indexS rfl rfl runUnderlying33 sizeOf25 rfl (h0.mono hle111) rfl (Int.natCast_nonneg _) hy118 ?_
  refine W_load rfl rfl isAgg25 rfl (HCells.one (hc122.mono hle111) 0 rfl).at ?_
  refine W_assign rfl rfl rfl ?_
  refine W_end (E_then (C_seq (C_region ?_)))
  refine W_move rfl rfl rfl ?_
  obtain ⟨r123, hc124, hm⟩ := bind_some hm
  refine W_call call47 rfl rfl rfl (fun w ht => by have h := m_rat_Check_c (hm := hc124)  ht; exact h) ?_
  rintro _ _ _ ⟨rfl, rfl, rfl⟩
  refine W_assign rfl rfl rfl ?_
  refine W_end (E_then (C_seq (C_region ?_)))
  refine W_move rfl rfl rfl ?_
  refine W_bin rfl rfl rfl rfl rfl ?_
  refine W_end (E_then ?_)
  refine C_cond (b := !decide (r123 = 0)) rfl (fun hb125 => ?_) (fun hb125 => ?_)
  ·have hm := ite_t' hb125 hm
   refine C_seq (C_region ?_)
   refine W_move rfl rfl rfl ?_
   refine W_assign rfl rfl rfl ?_
   refine W_end (E_then (C_ret (E_ret_block (E_ret_then (E_ret_then (E_ret_block (E_ret_then ?_)))))))
   obtain rfl := Option.some.inj hm
   refine E_weak hle111 ?_
   exact end1 rfl rfl ⟨rfl, rfl, rfl⟩
  ·have hm := ite_f' hb125 hm
   refine C_skip (E_normal_block (E_then (C_region ?_)))
   refine W_bin rfl rfl rfl rfl rfl ?_
   refine W_move rfl rfl rfl ?_
   refine W_end ?_
   exact E_keepJ (E_back (Nat.lt_succ_self _) ⟨k101 + 1, zs117, hd120, rfl, (by rw [hn114]; exact hm), hle111, rfl, rfl⟩) (List.Perm.refl _) ⟨rfl, rfl, (congrArg (fun z => some (Value.int .i64 z)) (i64_succ hy118 ((h0.mono hle111)).lenMax)), trivial⟩
 ·obtain rfl := rng_f hd119 hb121
  have hm : (some 0) = some r := hm
  refine C_exit (E_exit_then (E_exit_then (E_exit_hit (E_then (C_seq (C_region ?_))))))
  refine W_assign rfl rfl rfl ?_
  refine W_end (E_then (C_ret ?_))
  obtain rfl := Option.some.inj hm
  refine E_weak hle111 ?_
  exact end1 rfl rfl ⟨rfl, rfl, rfl⟩

theorem m_large_Parse_c {B : Nat} {w0 w : World} [Tabs B w0] {H : Hp} {M : List Res} {p0_r : ByteArray} {r : S_large_Rat} (hm : m_large_Parse p0_r = some r) (ht : St B w0 H (M) w) :
  Calls prog 37 [.string (p0_r)].toArray w (Ret B w0 fun H' M' v => H.le H' ∧ ∃ qv0 : Value, ∃ qv1 : Value, M = M' ∧ .agg [.bool (r.N.minus), qv0, .bool (r.D.minus), qv1].toArray = v ∧ RdS H' qv0 r.N.words ∧ RdS H' qv1 r.D.words) := by
 unfold m_large_Parse at hm
 refine enter func37 rfl rfl rfl ht ?_
 refine C_seq (C_region ?_)
 refine W_alloc (cs := [.bool (false), .slice none 0 0, .bool (false), .slice none 0 0]) rfl rfl zeroValue50 rfl (fun b101 => ?_)
 refine W_end (E_then (C_seq (C_region ?_)))
 refine W_move rfl rfl rfl ?_
 obtain ⟨r102, hc103, hm⟩ := bind_some hm
 refine W_call call48 rfl rfl rfl (fun w ht => by have h := m_strings_Cut_c (hm := hc103)  ht; exact h) ?_
 rintro _ _ _ ⟨rfl, rfl, rfl⟩
 refine W_move rfl rfl rfl ?_
 refine W_extract rfl rfl rfl rfl ?_
 refine W_extract rfl rfl rfl rfl ?_
 refine W_extract rfl rfl rfl rfl ?_
 refine W_assign rfl rfl rfl ?_
 refine W_assign rfl rfl rfl ?_
 refine W_assign rfl rfl rfl ?_
 refine W_end (E_then (C_seq (C_seq (C_region ?_))))
 refine W_move rfl rfl rfl ?_
 refine W_un rfl rfl rfl rfl ?_
 refine W_end (E_then ?_)
 refine C_cond (b := !r102.2.2) rfl (fun hb104 => ?_) (fun hb104 => ?_)
 ·have hm := ite_t' hb104 hm
  refine C_seq (C_region ?_)
  refine W_move rfl rfl rfl ?_
  obtain ⟨r105, hc106, hm⟩ := bind_some hm
  refine W_call call49 rfl rfl rfl (fun w ht => by have h := m_large_Read_c (hm := hc106)  ht; exact h) ?_
  rintro _ H109 _ ⟨hle110, v107, rfl, rfl, h108⟩
  obtain ⟨r111, hc112, hm⟩ := bind_some hm
  refine W_call call41 rfl rfl rfl (fun w ht => by have h := m_large_Of_c (hm := hc112)  ht; exact h) ?_
  rintro _ H115 _ ⟨hle116, v113, rfl, rfl, h114⟩
  refine W_build (css := [[.bool (r105.minus), v107], [.bool (r111.minus), v113]]) (zs := [.bool (false), .slice none 0 0, .bool (false), .slice none 0 0]) (out := [.bool (r105.minus), v107, .bool (r111.minus), v113]) (places := [(0, 2), (2, 2)]) rfl rfl rfl ⟨rfl, rfl, trivial⟩ zeroValue50 rfl runUnderlying50 (fun w => by kernel_rfl) rfl ?_
  refine W_store (cs := [.bool (r105.minus), v107, .bool (r111.minus), v113]) (out := [.bool (r105.minus), v107, .bool (r111.minus), v113]) rfl sizeOf50 rfl rfl rfl rfl rfl (all_cons rfl (all_cons (RdS.one1 (h108.mono hle116)) (all_cons rfl (all_cons (RdS.one1 h114) all_nil)))) (over_all rfl) ?_
  refine W_end (E_then (C_ret (E_ret_then ?_)))
  obtain rfl := Option.some.inj hm
  exact endC1 (Hp.le_refl _) rfl (ResV.agg rfl isAgg50 sizeOf50 (List.mem_cons_self ..) rfl) (List.Sublist.cons _ (List.Sublist.refl _)) (List.Perm.refl _) ⟨(Hp.le_trans hle110 hle116), v107, v113, rfl, rfl, (h108.mono hle116), h114⟩
 ·have hm := ite_f' hb104 hm
  refine C_skip (E_then (C_seq (C_region ?_)))
  refine W_move rfl rfl rfl ?_
  obtain ⟨r117, hc118, hm⟩ := bind_some hm
  refine W_call call49 rfl rfl rfl (fun w ht => by have h := m_large_Read_c (hm := hc118)  ht; exact h) ?_
  rintro _ H121 _ ⟨hle122, v119, rfl, rfl, h120⟩
  refine W_move rfl rfl rfl ?_
  obtain ⟨r123, hc124, hm⟩ := bind_some hm
  refine W_call call49 rfl rfl rfl (fun w ht => by have h := m_large_Read_c (hm := hc124)  ht; exact h) ?_
  rintro _ H127 _ ⟨hle128, v125, rfl, rfl, h126⟩
  refine W_build (css := [[.bool (r117.minus), v119], [.bool (r123.minus), v125]]) (zs := [.bool (false), .slice none 0 0, .bool (false), .slice none 0 0]) (out := [.bool (r117.minus), v119, .bool (r123.minus), v125]) (places := [(0, 2), (2, 2)]) rfl rfl rfl ⟨rfl, rfl, trivial⟩ zeroValue50 rfl runUnderlying50 (fun w => by kernel_rfl) rfl ?_
  refine W_store (cs := [.bool (r117.minus), v119, .bool (r123.minus), v125]) (out := [.bool (r117.minus), v119, .bool (r123.minus), v125]) rfl sizeOf50 rfl rfl rfl rfl rfl (all_cons rfl (all_cons (RdS.one1 (h120.mono hle128)) (all_cons rfl (all_cons (RdS.one1 h126) all_nil)))) (over_all rfl) ?_
  refine W_end (E_then (C_ret ?_))
  obtain rfl := Option.some.inj hm
  exact endC1 (Hp.le_refl _) rfl (ResV.agg rfl isAgg50 sizeOf50 (List.mem_cons_self ..) rfl) (List.Sublist.cons _ (List.Sublist.refl _)) (List.Perm.refl _) ⟨(Hp.le_trans hle122 hle128), v119, v125, rfl, rfl, (h120.mono hle128), h126⟩

theorem m_rat_op__large_Rat_Add_c {B : Nat} {w0 w : World} [Tabs B w0] {H : Hp} {M : List Res} {p0_a : ByteArray} {p1_b : ByteArray} {r : ByteArray × Int} (hm : m_rat_op__large_Rat_Add p0_a p1_b = some r) (ht : St B w0 H (M) w) :
  Calls prog 32 [.string (p0_a), .string (p1_b), .func (.func 31) [].toArray [].toArray].toArray w (Ret B w0 fun H' M' v => H = H' ∧ M = M' ∧ .tuple #[.string (r.1), .int .i64 (r.2)] = v) := by
 unfold m_rat_op__large_Rat_Add at hm
 refine enter func32 rfl rfl rfl ht ?_
 refine C_seq (C_region ?_)
 refine W_assign rfl rfl rfl ?_
 refine W_assign rfl rfl rfl ?_
 refine W_end (E_then (C_seq (C_seq (C_region ?_))))
 refine W_move rfl rfl rfl ?_
 refine W_move rfl rfl rfl ?_
 refine W_buildSliceO (α := ByteArray) (css := [[.string (p0_a)], [.string (p1_b)]]) (zs := [.string (⟨#[]⟩), .string (⟨#[]⟩)]) (out := [.string (p0_a), .string (p1_b)]) (ys := [p0_a, p1_b]) rfl rfl rfl ⟨rfl, rfl, trivial⟩ runUnderlying33 sizeOf25 rfl zeroValue25 (by kernel_rfl) rfl rfl rfl rfl ⟨[.string (p0_a)], [.string (p1_b)], rfl, rfl, ⟨[.string (p1_b)], [], rfl, rfl, rfl⟩⟩ rfl ?_
 intro v101 xs102 hr103
 obtain ⟨r104, hc105, hm⟩ := bind_some hm
 refine W_call call35 rfl rfl rfl (fun w ht => by obtain ⟨H0_, hl0_, ht0_, hr0_, bk0_⟩ := ht.lendRow hr103 rfl; have h := m_rat_CheckAll_c (hm := hc105) hr0_ ht0_; exact lend_back bk0_ (h)) ?_
 rintro _ _ _ ⟨rfl, ⟨_, rfl, rfl, rfl⟩⟩
 refine W_assign rfl rfl rfl ?_
 refine W_end (E_then (C_seq (C_region ?_)))
 refine W_move rfl rfl rfl ?_
 refine W_bin rfl rfl rfl rfl rfl ?_
 refine W_end (E_then ?_)
 refine C_cond (b := !decide (r104 = 0)) rfl (fun hb106 => ?_) (fun hb106 => ?_)
 ·have hm := ite_t' hb106 hm
  refine C_seq (C_region ?_)
  refine W_move rfl rfl rfl ?_
  refine W_assign rfl rfl rfl ?_
  refine W_assign rfl rfl rfl ?_
  refine W_end (E_then (C_ret (E_ret_then ?_)))
  obtain rfl := Option.some.inj hm
  refine E_drop (List.Sublist.cons _ (List.Sublist.refl _)) ?_
  refine E_weak (Hp.le_refl _) ?_
  exact end2 rfl rfl rfl ⟨rfl, rfl, rfl⟩
 ·have hm := ite_f' hb106 hm
  refine C_skip (E_then (C_seq (C_region ?_)))
  refine W_move rfl rfl rfl ?_
  refine W_move rfl rfl rfl ?_
  obtain ⟨r107, hc108, hm⟩ := bind_some hm
  refine W_call call37 rfl rfl rfl (fun w ht => by have h := m_large_Parse_c (hm := hc108)  ht; exact h) ?_
  rintro _ H113 _ ⟨hle114, v109, v111, rfl, rfl, h110, h112⟩
  refine W_move rfl rfl rfl ?_
  obtain ⟨r115, hc116, hm⟩ := bind_some hm
  refine W_call call37 rfl rfl rfl (fun w ht => by have h := m_large_Parse_c (hm := hc116)  ht; exact h) ?_
  rintro _ H121 _ ⟨hle122, v117, v119, rfl, rfl, h118, h120⟩
  obtain ⟨r123, hc124, hm⟩ := bind_some hm
  refine W_callv call31 rfl rfl rfl rfl (fun w ht => by have h := m_large_Rat_Add_c (hm := hc124) (h110.mono hle122) (h112.mono hle122) h118 h120 ht; exact h) ?_
  rintro _ H129 _ ⟨hle130, v125, v127, rfl, rfl, h126, h128⟩
  obtain ⟨r131, hc132, hm⟩ := bind_some hm
  refine W_call call23 rfl rfl rfl (fun w ht => by have h := m_rat_text_c (hm := hc132) h126 h128 ht; exact h) ?_
  rintro _ _ _ ⟨rfl, rfl, rfl⟩
  refine W_extract rfl rfl rfl rfl ?_
  refine W_extract rfl rfl rfl rfl ?_
  refine W_assign rfl rfl rfl ?_
  refine W_assign rfl rfl rfl ?_
  refine W_end (E_then (C_ret ?_))
  obtain rfl := Option.some.inj hm
  refine E_drop (List.Sublist.cons _ (List.Sublist.refl _)) ?_
  refine E_weak (Hp.le_trans (Hp.le_trans hle114 hle122) hle130) ?_
  exact end2 rfl rfl rfl ⟨rfl, rfl, rfl⟩

theorem m_rat_Add_c {B : Nat} {w0 w : World} [Tabs B w0] {H : Hp} {M : List Res} {p0_a : ByteArray} {p1_b : ByteArray} {r : ByteArray × Int} (hm : m_rat_Add p0_a p1_b = some r) (ht : St B w0 H (M) w) :
  Calls prog 12 [.string (p0_a), .string (p1_b)].toArray w (Ret B w0 fun H' M' v => H = H' ∧ M = M' ∧ .tuple #[.string (r.1), .int .i64 (r.2)] = v) := by
 unfold m_rat_Add at hm
 refine enter func12 rfl rfl rfl ht ?_
 refine C_seq (C_region ?_)
 refine W_assign rfl rfl rfl ?_
 refine W_assign rfl rfl rfl ?_
 refine W_end (E_then (C_seq (C_region ?_)))
 refine W_move rfl rfl rfl ?_
 refine W_move rfl rfl rfl ?_
 obtain ⟨r101, hc102, hm⟩ := bind_some hm
 refine W_call call32 rfl rfl rfl (fun w ht => by have h := m_rat_op__large_Rat_Add_c (hm := hc102)  ht; exact h) ?_
 rintro _ _ _ ⟨rfl, rfl, rfl⟩
 refine W_extract rfl rfl rfl rfl ?_
 refine W_extract rfl rfl rfl rfl ?_
 refine W_assign rfl rfl rfl ?_
 refine W_assign rfl rfl rfl ?_
 refine W_end (E_then (C_ret ?_))
 obtain rfl := Option.some.inj hm
 refine E_weak (Hp.le_refl _) ?_
 exact end2 rfl rfl rfl ⟨rfl, rfl, rfl⟩

theorem m_forecast_Line_c {B : Nat} {w0 w : World} [Tabs B w0] {H : Hp} {M : List Res} {p0_l : (List Int)} {v0 : Value} {r : ByteArray × ByteArray × Int} (hm : m_forecast_Line p0_l = some r) (h0 : RdS H v0 p0_l) (ht : St B w0 H (M) w) :
  Calls prog 33 [v0].toArray w (Ret B w0 fun H' M' v => H = H' ∧ M = M' ∧ .tuple #[.string (r.1), .string (r.2.1), .int .i64 (r.2.2)] = v) := by
 unfold m_forecast_Line at hm
 refine enter func33 rfl rfl rfl ht ?_
 refine C_seq (C_region ?_)
 refine W_assign rfl rfl rfl ?_
 refine W_assign rfl rfl rfl ?_
 refine W_assign rfl rfl rfl ?_
 refine W_end (E_then (C_seq (C_seq (C_region ?_))))
 refine W_move rfl rfl rfl ?_
 obtain ⟨r101, hc102, hm⟩ := bind_some hm
 refine W_call call25 rfl rfl rfl (fun w ht => by have h := m_forecast_Check_c (hm := hc102) h0 ht; exact h) ?_
 rintro _ _ _ ⟨rfl, rfl, rfl⟩
 refine W_assign rfl rfl rfl ?_
 refine W_end (E_then (C_seq (C_region ?_)))
 refine W_move rfl rfl rfl ?_
 refine W_bin rfl rfl rfl rfl rfl ?_
 refine W_end (E_then ?_)
 refine C_cond (b := !decide (r101 = 0)) rfl (fun hb103 => ?_) (fun hb103 => ?_)
 ·have hm := ite_t' hb103 hm
  refine C_seq (C_region ?_)
  refine W_move rfl rfl rfl ?_
  refine W_assign rfl rfl rfl ?_
  refine W_assign rfl rfl rfl ?_
  refine W_assign rfl rfl rfl ?_
  refine W_end (E_then (C_ret (E_ret_then ?_)))
  obtain rfl := Option.some.inj hm
  refine E_weak (Hp.le_refl _) ?_
  exact end3 rfl rfl rfl rfl ⟨rfl, rfl, rfl⟩
 ·have hm := ite_f' hb103 hm
  refine C_skip (E_then (C_seq (C_region ?_)))
  refine W_move rfl rfl rfl ?_
  obtain ⟨r104, hc105, hm⟩ := bind_some hm
  refine W_call call28 rfl rfl rfl (fun w ht => by have h := m_forecast_line_c (hm := hc105) h0 ht; exact h) ?_
  rintro _ H114 _ ⟨hle115, v106, v108, v110, v112, rfl, rfl, h107, h109, h111, h113⟩
  refine W_move rfl rfl rfl ?_
  refine W_extract rfl rfl rfl rfl ?_
  refine W_extract rfl rfl rfl rfl ?_
  refine W_extract rfl rfl rfl rfl ?_
  refine W_alloc (cs := [.bool (false), .slice none 0 0, .bool (false), .slice none 0 0]) rfl rfl zeroValue50 rfl (fun b116 => ?_)
  refine W_alloc (cs := [.bool (false), .slice none 0 0, .bool (false), .slice none 0 0]) rfl rfl zeroValue50 rfl (fun b117 => ?_)
  refine W_perm (List.Perm.swap _ _ _) ?_
  refine W_store (cs := [.bool (r104.1.N.minus), v106, .bool (r104.1.D.minus), v108]) (out := [.bool (r104.1.N.minus), v106, .bool (r104.1.D.minus), v108]) rfl sizeOf50 rfl rfl rfl rfl rfl (all_cons rfl (all_cons (RdS.one1 h107) (all_cons rfl (all_cons (RdS.one1 h109) all_nil)))) (over_all rfl) ?_
  refine W_perm (List.Perm.swap _ _ _) ?_
  refine W_store (cs := [.bool (r104.2.1.N.minus), v110, .bool (r104.2.1.D.minus), v112]) (out := [.bool (r104.2.1.N.minus), v110, .bool (r104.2.1.D.minus), v112]) rfl sizeOf50 rfl rfl rfl rfl rfl (all_cons rfl (all_cons (RdS.one1 h111) (all_cons rfl (all_cons (RdS.one1 h113) all_nil)))) (over_all rfl) ?_
  refine W_assign rfl rfl rfl ?_
  refine W_end (E_then (C_seq (C_seq (C_region ?_))))
  refine W_move rfl rfl rfl ?_
  refine W_bin rfl rfl rfl rfl rfl ?_
  refine W_end (E_then ?_)
  refine C_cond (b := !decide (r104.2.2 = 0)) rfl (fun hb118 => ?_) (fun hb118 => ?_)
  ·have hm := ite_t' hb118 hm
   refine C_seq (C_region ?_)
   refine W_move rfl rfl rfl ?_
   refine W_assign rfl rfl rfl ?_
   refine W_assign rfl rfl rfl ?_
   refine W_assign rfl rfl rfl ?_
   refine W_end (E_then (C_ret (E_ret_then ?_)))
   obtain rfl := Option.some.inj hm
   refine E_drop (List.Sublist.cons _ (List.Sublist.cons _ (List.Sublist.refl _))) ?_
   refine E_weak hle115 ?_
   exact end3 rfl rfl rfl rfl ⟨rfl, rfl, rfl⟩
  ·have hm := ite_f' hb118 hm
   refine C_skip (E_then (C_seq (C_region ?_)))
   refine W_loadAgg rfl rfl isAgg50 sizeOf50 rfl (own_all (List.mem_cons_of_mem _ (List.mem_cons_self ..))) rfl ?_
   obtain ⟨r119, hc120, hm⟩ := bind_some hm
   refine W_call call26 rfl rfl rfl (fun w ht => by have h := m_forecast_text_c (hm := hc120) h107 h109 ht; exact h) ?_
   rintro _ _ _ ⟨rfl, rfl, rfl⟩
   refine W_move rfl rfl rfl ?_
   refine W_extract rfl rfl rfl rfl ?_
   refine W_extract rfl rfl rfl rfl ?_
   refine W_assign rfl rfl rfl ?_
   refine W_assign rfl rfl rfl ?_
   refine W_end (E_then (C_seq (C_region ?_)))
   refine W_loadAgg rfl rfl isAgg50 sizeOf50 rfl (own_all (List.mem_cons_self ..)) rfl ?_
   obtain ⟨r121, hc122, hm⟩ := bind_some hm
   refine W_call call26 rfl rfl rfl (fun w ht => by have h := m_forecast_text_c (hm := hc122) h111 h113 ht; exact h) ?_
   rintro _ _ _ ⟨rfl, rfl, rfl⟩
   refine W_move rfl rfl rfl ?_
   refine W_extract rfl rfl rfl rfl ?_
   refine W_extract rfl rfl rfl rfl ?_
   refine W_assign rfl rfl rfl ?_
   refine W_assign rfl rfl rfl ?_
   refine W_end (E_then (C_seq (C_region ?_)))
   refine W_move rfl rfl rfl ?_
   refine W_move rfl rfl rfl ?_
   refine W_assign rfl rfl rfl ?_
   refine W_assign rfl rfl rfl ?_
   refine W_assign rfl rfl rfl ?_
   refine W_end (E_then (C_ret ?_))
   obtain rfl := Option.some.inj hm
   refine E_drop (List.Sublist.cons _ (List.Sublist.cons _ (List.Sublist.refl _))) ?_
   refine E_weak hle115 ?_
   exact end3 rfl rfl rfl rfl ⟨rfl, rfl, rfl⟩

theorem m_rat_Sum_c {B : Nat} {w0 w : World} [Tabs B w0] {H : Hp} {M : List Res} {p0_l : (List ByteArray)} {v0 : Value} {r : ByteArray × Int} (hm : m_rat_Sum p0_l = some r) (h0 : RdS H v0 p0_l) (ht : St B w0 H (M) w) :
  Calls prog 16 [v0].toArray w (Ret B w0 fun H' M' v => H = H' ∧ M = M' ∧ .tuple #[.string (r.1), .int .i64 (r.2)] = v) := by
 unfold m_rat_Sum at hm
 refine enter func16 rfl rfl rfl ht ?_
 refine C_seq (C_region ?_)
 refine W_assign rfl rfl rfl ?_
 refine W_assign rfl rfl rfl ?_
 refine W_end (E_then (C_seq (C_seq (C_region ?_))))
 refine W_move rfl rfl rfl ?_
 refine W_lenR rfl rfl runUnderlying33 rfl h0 ?_
 refine W_bin rfl rfl rfl rfl rfl ?_
 refine W_end (E_then ?_)
 refine C_cond (b := decide (256 < (p0_l.length : Int))) rfl (fun hb101 => ?_) (fun hb101 => ?_)
 ·have hm := ite_t' hb101 hm
  refine C_seq (C_region ?_)
  refine W_assign rfl rfl rfl ?_
  refine W_assign rfl rfl rfl ?_
  refine W_end (E_then (C_ret (E_ret_then ?_)))
  obtain rfl := Option.some.inj hm
  refine E_weak (Hp.le_refl _) ?_
  exact end2 rfl rfl rfl ⟨rfl, rfl, rfl⟩
 ·have hm := ite_f' hb101 hm
  refine C_skip (E_then (C_seq (C_seq (C_region ?_))))
  refine W_move rfl rfl rfl ?_
  obtain ⟨r102, hc103, hm⟩ := bind_some hm
  refine W_call call35 rfl rfl rfl (fun w ht => by have h := m_rat_CheckAll_c (hm := hc103) h0 ht; exact h) ?_
  rintro _ _ _ ⟨rfl, rfl, rfl⟩
  refine W_assign rfl rfl rfl ?_
  refine W_end (E_then (C_seq (C_region ?_)))
  refine W_move rfl rfl rfl ?_
  refine W_bin rfl rfl rfl rfl rfl ?_
  refine W_end (E_then ?_)
  refine C_cond (b := !decide (r102 = 0)) rfl (fun hb104 => ?_) (fun hb104 => ?_)
  ·have hm := ite_t' hb104 hm
   refine C_seq (C_region ?_)
   refine W_move rfl rfl rfl ?_
   refine W_assign rfl rfl rfl ?_
   refine W_assign rfl rfl rfl ?_
   refine W_end (E_then (C_ret (E_ret_then ?_)))
   obtain rfl := Option.some.inj hm
   refine E_weak (Hp.le_refl _) ?_
   exact end2 rfl rfl rfl ⟨rfl, rfl, rfl⟩
  ·have hm := ite_f' hb104 hm
   refine C_skip (E_then (C_seq (C_region ?_)))
   refine W_assign rfl rfl rfl ?_
   refine W_end (E_then (C_seq (C_seq (C_region ?_))))
   refine W_move rfl rfl rfl ?_
   refine W_lenR rfl rfl runUnderlying33 rfl h0 ?_
   refine W_move rfl rfl rfl ?_
   refine W_end (E_then (C_block ?_))
   refine C_keep (L' := [(5, .string (⟨#[48]⟩)), (18, v0), (19, .int .i64 ((p0_l.length : Int))), (20, .int .i64 (((0 : Nat) : Int)))]) ⟨rfl, rfl, rfl, rfl, trivial⟩ (List.Perm.refl _) ?_
   refine C_loop (fun n H' M' L' => ∃ (k105 : Nat) (zs124' : List ByteArray), ∃ s116 : ByteArray, (p0_l).drop k105 = zs124' ∧ zs124'.length = n ∧ forI (fun k y s119 n => m_rat_Sum_b1 k y s119 n) (fun s119 => some (s119, 0)) k105 zs124' s116 = some r ∧ H.le H' ∧ M = M' ∧ [(5, .string (s116)), (18, v0), (19, .int .i64 ((p0_l.length : Int))), (20, .int .i64 ((k105 : Int)))] = L') _ ⟨0, _, ⟨#[48]⟩, rfl, rfl, hm, (Hp.le_refl _), rfl, rfl⟩ ?_
   rintro _ H117 _ _ ⟨k105, zs124', s116, hd126, rfl, hm, hle118, rfl, rfl⟩
   refine C_seq (C_region ?_)
   refine W_bin rfl rfl rfl rfl rfl ?_
   refine W_end (E_then (C_seq ?_))
   refine C_cond (b := decide ((k105 : Int) < (p0_l.length : Int))) rfl (fun hb128 => ?_) (fun hb128 => ?_)
   ·obtain ⟨y123, zs124, rfl, hy125, hd127⟩ := rng_t hd126 hb128
    have hm : m_rat_Sum_b1 k105 y123 s116 (forI (fun k y s119 n => m_rat_Sum_b1 k y s119 n) (fun s119 => some (s119, 0)) (k105 + 1) zs124) = some r := hm
    generalize hn121 : forI (fun k y s119 n => m_rat_Sum_b1 k y s119 n) (fun s119 => some (s119, 0)) (k105 + 1) zs124 = nx120 at hm
    unfold m_rat_Sum_b1 at hm
    refine C_skip (E_then (C_seq (C_block (C_seq (C_region ?_)))))
    obtain ⟨_, rfl, hc129⟩ := (h0).elem hy125
    refine W_indexS rfl rfl runUnderlying33 sizeOf25 rfl (h0.mono hle118) rfl (Int.natCast_nonneg _) hy125 ?_
    refine W_load rfl rfl isAgg25 rfl (HCells.one (hc129.mono hle118) 0 rfl).at ?_
    refine W_assign rfl rfl rfl ?_
    refine W_end (E_then (C_seq (C_region ?_)))
    refine W_move rfl rfl rfl ?_
    refine W_move rfl rfl rfl ?_
    obtain ⟨r130, hc131, hm⟩ := bind_some hm
    refine W_call call12 rfl rfl rfl (fun w ht => by have h := m_rat_Add_c (hm := hc131)  ht; exact h) ?_
    rintro _ _ _ ⟨rfl, rfl, rfl⟩
    refine W_move rfl rfl rfl ?_
    refine W_extract rfl rfl rfl rfl ?_
    refine W_extract rfl rfl rfl rfl ?_
    refine W_assign rfl rfl rfl ?_
    refine W_assign rfl rfl rfl ?_
    refine W_end (E_then (C_seq (C_seq (C_region ?_))))
    refine W_move rfl rfl rfl ?_
    refine W_bin rfl rfl rfl rfl rfl ?_
    refine W_end (E_then ?_)
    refine C_cond (b := !decide (r130.2 = 0)) rfl (fun hb132 => ?_) (fun hb132 => ?_)
    ·have hm := ite_t' hb132 hm
     refine C_seq (C_region ?_)
     refine W_move rfl rfl rfl ?_
     refine W_assign rfl rfl rfl ?_
     refine W_assign rfl rfl rfl ?_
     refine W_end (E_then (C_ret (E_ret_then (E_ret_block (E_ret_then (E_ret_then (E_ret_block (E_ret_then ?_))))))))
     obtain rfl := Option.some.inj hm
     refine E_weak hle118 ?_
     exact end2 rfl rfl rfl ⟨rfl, rfl, rfl⟩
    ·have hm := ite_f' hb132 hm
     refine C_skip (E_then (C_region ?_))
     refine W_move rfl rfl rfl ?_
     refine W_assign rfl rfl rfl ?_
     refine W_end (E_normal_block (E_then (C_region ?_)))
     refine W_bin rfl rfl rfl rfl rfl ?_
     refine W_move rfl rfl rfl ?_
     refine W_end ?_
     exact E_keepJ (E_back (Nat.lt_succ_self _) ⟨k105 + 1, zs124, r130.1, hd127, rfl, (by rw [hn121]; exact hm), hle118, rfl, rfl⟩) (List.Perm.refl _) ⟨rfl, rfl, rfl, (congrArg (fun z => some (Value.int .i64 z)) (i64_succ hy125 ((h0.mono hle118)).lenMax)), trivial⟩
   ·obtain rfl := rng_f hd126 hb128
    have hm : (some (s116, 0)) = some r := hm
    refine C_exit (E_exit_then (E_exit_then (E_exit_hit (E_then (C_seq (C_region ?_))))))
    refine W_move rfl rfl rfl ?_
    refine W_assign rfl rfl rfl ?_
    refine W_assign rfl rfl rfl ?_
    refine W_end (E_then (C_ret ?_))
    obtain rfl := Option.some.inj hm
    refine E_weak hle118 ?_
    exact end2 rfl rfl rfl ⟨rfl, rfl, rfl⟩

theorem m_gridhallkeep4_forecastFact_c {B : Nat} {w0 w : World} [Tabs B w0] {H : Hp} {M : List Res} {r : Bool} (hm : m_gridhallkeep4_forecastFact = some r) (ht : St B w0 H (M) w) :
  Calls prog 13 [].toArray w (Ret B w0 fun H' M' v => H = H' ∧ M = M' ∧ .bool (r) = v) := by
 unfold m_gridhallkeep4_forecastFact at hm
 refine enter func13 rfl rfl rfl ht ?_
 refine C_seq (C_region ?_)
 refine W_assign rfl rfl rfl ?_
 refine W_end (E_then (C_seq (C_region ?_)))
 refine W_buildSliceO (α := Int) (css := [[.int .i64 (1)], [.int .i64 (2)], [.int .i64 (5)]]) (zs := [.int .i64 (0), .int .i64 (0), .int .i64 (0)]) (out := [.int .i64 (1), .int .i64 (2), .int .i64 (5)]) (ys := ([1, 2, 5] : List Int)) rfl rfl rfl ⟨rfl, rfl, rfl, trivial⟩ runUnderlying22 sizeOf3 rfl zeroValue3 (by kernel_rfl) rfl rfl rfl rfl ⟨[.int .i64 (1)], [.int .i64 (2), .int .i64 (5)], rfl, rfl, ⟨[.int .i64 (2)], [.int .i64 (5)], rfl, rfl, ⟨[.int .i64 (5)], [], rfl, rfl, rfl⟩⟩⟩ rfl ?_
 intro v101 xs102 hr103
 obtain ⟨r104, hc105, hm⟩ := bind_some hm
 refine W_call call33 rfl rfl rfl (fun w ht => by obtain ⟨H0_, hl0_, ht0_, hr0_, bk0_⟩ := ht.lendRow hr103 rfl; have h := m_forecast_Line_c (hm := hc105) hr0_ ht0_; exact lend_back bk0_ (h)) ?_
 rintro _ _ _ ⟨rfl, ⟨_, rfl, rfl, rfl⟩⟩
 refine W_move rfl rfl rfl ?_
 refine W_extract rfl rfl rfl rfl ?_
 refine W_extract rfl rfl rfl rfl ?_
 refine W_extract rfl rfl rfl rfl ?_
 refine W_assign rfl rfl rfl ?_
 refine W_assign rfl rfl rfl ?_
 refine W_assign rfl rfl rfl ?_
 refine W_end (E_then (C_seq (C_region ?_)))
 refine W_buildSliceO (α := Int) (css := [[.int .i64 (1)], [.int .i64 (2)], [.int .i64 (5)]]) (zs := [.int .i64 (0), .int .i64 (0), .int .i64 (0)]) (out := [.int .i64 (1), .int .i64 (2), .int .i64 (5)]) (ys := ([1, 2, 5] : List Int)) rfl rfl rfl ⟨rfl, rfl, rfl, trivial⟩ runUnderlying22 sizeOf3 rfl zeroValue3 (by kernel_rfl) rfl rfl rfl rfl ⟨[.int .i64 (1)], [.int .i64 (2), .int .i64 (5)], rfl, rfl, ⟨[.int .i64 (2)], [.int .i64 (5)], rfl, rfl, ⟨[.int .i64 (5)], [], rfl, rfl, rfl⟩⟩⟩ rfl ?_
 intro v106 xs107 hr108
 obtain ⟨r109, hc110, hm⟩ := bind_some hm
 refine W_call call10 rfl rfl rfl (fun w ht => by obtain ⟨H0_, hl0_, ht0_, hr0_, bk0_⟩ := ht.lendRow hr108 rfl; have h := m_forecast_Mean_c (hm := hc110) hr0_ ht0_; exact lend_back bk0_ (h)) ?_
 rintro _ _ _ ⟨rfl, ⟨_, rfl, rfl, rfl⟩⟩
 refine W_move rfl rfl rfl ?_
 refine W_extract rfl rfl rfl rfl ?_
 refine W_extract rfl rfl rfl rfl ?_
 refine W_assign rfl rfl rfl ?_
 refine W_assign rfl rfl rfl ?_
 refine W_end (E_then (C_seq (C_region ?_)))
 refine W_buildSliceO (α := ByteArray) (css := [[.string (⟨#[49, 47, 50]⟩)], [.string (⟨#[49, 47, 50]⟩)]]) (zs := [.string (⟨#[]⟩), .string (⟨#[]⟩)]) (out := [.string (⟨#[49, 47, 50]⟩), .string (⟨#[49, 47, 50]⟩)]) (ys := [(⟨#[49, 47, 50]⟩), (⟨#[49, 47, 50]⟩)]) rfl rfl rfl ⟨rfl, rfl, trivial⟩ runUnderlying33 sizeOf25 rfl zeroValue25 (by kernel_rfl) rfl rfl rfl rfl ⟨[.string (⟨#[49, 47, 50]⟩)], [.string (⟨#[49, 47, 50]⟩)], rfl, rfl, ⟨[.string (⟨#[49, 47, 50]⟩)], [], rfl, rfl, rfl⟩⟩ rfl ?_
 intro v111 xs112 hr113
 obtain ⟨r114, hc115, hm⟩ := bind_some hm
 refine W_call call16 rfl rfl rfl (fun w ht => by obtain ⟨H0_, hl0_, ht0_, hr0_, bk0_⟩ := ht.lendRow hr113 rfl; have h := m_rat_Sum_c (hm := hc115) hr0_ ht0_; exact lend_back bk0_ (h)) ?_
 rintro _ _ _ ⟨rfl, ⟨_, rfl, rfl, rfl⟩⟩
 refine W_move rfl rfl rfl ?_
 refine W_extract rfl rfl rfl rfl ?_
 refine W_extract rfl rfl rfl rfl ?_
 refine W_assign rfl rfl rfl ?_
 refine W_assign rfl rfl rfl ?_
 refine W_end (E_then ?_)
 refine C_seq_join (fun H' M' L' => H = H' ∧ M = M' ∧ [(0, .bool (((((((decide (r104.2.2 = 0)) && (decide (r109.2 = 0))) && (decide (r114.2 = 0))) && (decide (r104.1 = (⟨#[50]⟩)))) && (decide (r104.2.1 = (⟨#[50, 47, 51]⟩)))) && (decide (r109.1 = (⟨#[55, 47, 50]⟩)))) && (decide (r114.1 = (⟨#[49]⟩)))))] = L') ?_ (fun J122 => ?_)
 ·rintro _ _ _ ⟨rfl, rfl, rfl⟩
  refine C_ret ?_
  obtain rfl := Option.some.inj hm
  refine E_weak (Hp.le_refl _) ?_
  exact end1 rfl rfl ⟨rfl, rfl, rfl⟩
 ·refine C_region ?_
  refine W_move rfl rfl rfl ?_
  refine W_bin rfl rfl rfl rfl rfl ?_
  refine W_move rfl rfl rfl ?_
  cases hb123 : (decide (r104.2.2 = 0))
  ·refine W_no rfl rfl rfl ?_
   refine W_no rfl rfl rfl ?_
   refine W_pick rfl rfl rfl rfl ?_
   refine W_move rfl rfl rfl ?_
   refine W_no rfl rfl rfl ?_
   refine W_no rfl rfl rfl ?_
   refine W_pick rfl rfl rfl rfl ?_
   refine W_move rfl rfl rfl ?_
   refine W_no rfl rfl rfl ?_
   refine W_no rfl rfl rfl ?_
   refine W_pick rfl rfl rfl rfl ?_
   refine W_move rfl rfl rfl ?_
   refine W_no rfl rfl rfl ?_
   refine W_no rfl rfl rfl ?_
   refine W_pick rfl rfl rfl rfl ?_
   refine W_move rfl rfl rfl ?_
   refine W_no rfl rfl rfl ?_
   refine W_no rfl rfl rfl ?_
   refine W_pick rfl rfl rfl rfl ?_
   refine W_move rfl rfl rfl ?_
   refine W_no rfl rfl rfl ?_
   refine W_no rfl rfl rfl ?_
   refine W_pick rfl rfl rfl rfl ?_
   refine W_assign rfl rfl rfl ?_
   refine W_end ?_
   refine E_drop (List.Sublist.cons _ (List.Sublist.cons _ (List.Sublist.cons _ (List.Sublist.refl _)))) ?_
   exact E_keepJ (J122 _ _ _ ⟨rfl, rfl, rfl⟩) (List.Perm.refl _) ⟨(by show some (Value.bool (false)) = some (Value.bool (((((((decide (r104.2.2 = 0)) && (decide (r109.2 = 0))) && (decide (r114.2 = 0))) && (decide (r104.1 = (⟨#[50]⟩)))) && (decide (r104.2.1 = (⟨#[50, 47, 51]⟩)))) && (decide (r109.1 = (⟨#[55, 47, 50]⟩)))) && (decide (r114.1 = (⟨#[49]⟩))))); first | (simp only [hb123, Bool.and_true, Bool.true_and, Bool.false_and, Bool.and_false, Bool.or_true, Bool.true_or, Bool.or_false, Bool.false_or, Bool.not_true, Bool.not_false]; done) | (simp only [hb123]; first | done | simp only [Bool.and_true, Bool.true_and, Bool.false_and, Bool.and_false, Bool.or_true, Bool.true_or, Bool.or_false, Bool.false_or, Bool.not_true, Bool.not_false])), trivial⟩
  ·refine W_move rfl rfl rfl ?_
   refine W_bin rfl rfl rfl rfl rfl ?_
   refine W_pick rfl rfl rfl rfl ?_
   refine W_move rfl rfl rfl ?_
   cases hb124 : (decide (r109.2 = 0))
   ·refine W_no rfl rfl rfl ?_
    refine W_no rfl rfl rfl ?_
    refine W_pick rfl rfl rfl rfl ?_
    refine W_move rfl rfl rfl ?_
    refine W_no rfl rfl rfl ?_
    refine W_no rfl rfl rfl ?_
    refine W_pick rfl rfl rfl rfl ?_
    refine W_move rfl rfl rfl ?_
    refine W_no rfl rfl rfl ?_
    refine W_no rfl rfl rfl ?_
    refine W_pick rfl rfl rfl rfl ?_
    refine W_move rfl rfl rfl ?_
    refine W_no rfl rfl rfl ?_
    refine W_no rfl rfl rfl ?_
    refine W_pick rfl rfl rfl rfl ?_
    refine W_move rfl rfl rfl ?_
    refine W_no rfl rfl rfl ?_
    refine W_no rfl rfl rfl ?_
    refine W_pick rfl rfl rfl rfl ?_
    refine W_assign rfl rfl rfl ?_
    refine W_end ?_
    refine E_drop (List.Sublist.cons _ (List.Sublist.cons _ (List.Sublist.cons _ (List.Sublist.refl _)))) ?_
    exact E_keepJ (J122 _ _ _ ⟨rfl, rfl, rfl⟩) (List.Perm.refl _) ⟨(by show some (Value.bool (false)) = some (Value.bool (((((((decide (r104.2.2 = 0)) && (decide (r109.2 = 0))) && (decide (r114.2 = 0))) && (decide (r104.1 = (⟨#[50]⟩)))) && (decide (r104.2.1 = (⟨#[50, 47, 51]⟩)))) && (decide (r109.1 = (⟨#[55, 47, 50]⟩)))) && (decide (r114.1 = (⟨#[49]⟩))))); first | (simp only [hb123, hb124, Bool.and_true, Bool.true_and, Bool.false_and, Bool.and_false, Bool.or_true, Bool.true_or, Bool.or_false, Bool.false_or, Bool.not_true, Bool.not_false]; done) | (simp only [hb123, hb124]; first | done | simp only [Bool.and_true, Bool.true_and, Bool.false_and, Bool.and_false, Bool.or_true, Bool.true_or, Bool.or_false, Bool.false_or, Bool.not_true, Bool.not_false])), trivial⟩
   ·refine W_move rfl rfl rfl ?_
    refine W_bin rfl rfl rfl rfl rfl ?_
    refine W_pick rfl rfl rfl rfl ?_
    refine W_move rfl rfl rfl ?_
    cases hb125 : (decide (r114.2 = 0))
    ·refine W_no rfl rfl rfl ?_
     refine W_no rfl rfl rfl ?_
     refine W_pick rfl rfl rfl rfl ?_
     refine W_move rfl rfl rfl ?_
     refine W_no rfl rfl rfl ?_
     refine W_no rfl rfl rfl ?_
     refine W_pick rfl rfl rfl rfl ?_
     refine W_move rfl rfl rfl ?_
     refine W_no rfl rfl rfl ?_
     refine W_no rfl rfl rfl ?_
     refine W_pick rfl rfl rfl rfl ?_
     refine W_move rfl rfl rfl ?_
     refine W_no rfl rfl rfl ?_
     refine W_no rfl rfl rfl ?_
     refine W_pick rfl rfl rfl rfl ?_
     refine W_assign rfl rfl rfl ?_
     refine W_end ?_
     refine E_drop (List.Sublist.cons _ (List.Sublist.cons _ (List.Sublist.cons _ (List.Sublist.refl _)))) ?_
     exact E_keepJ (J122 _ _ _ ⟨rfl, rfl, rfl⟩) (List.Perm.refl _) ⟨(by show some (Value.bool (false)) = some (Value.bool (((((((decide (r104.2.2 = 0)) && (decide (r109.2 = 0))) && (decide (r114.2 = 0))) && (decide (r104.1 = (⟨#[50]⟩)))) && (decide (r104.2.1 = (⟨#[50, 47, 51]⟩)))) && (decide (r109.1 = (⟨#[55, 47, 50]⟩)))) && (decide (r114.1 = (⟨#[49]⟩))))); first | (simp only [hb123, hb124, hb125, Bool.and_true, Bool.true_and, Bool.false_and, Bool.and_false, Bool.or_true, Bool.true_or, Bool.or_false, Bool.false_or, Bool.not_true, Bool.not_false]; done) | (simp only [hb123, hb124, hb125]; first | done | simp only [Bool.and_true, Bool.true_and, Bool.false_and, Bool.and_false, Bool.or_true, Bool.true_or, Bool.or_false, Bool.false_or, Bool.not_true, Bool.not_false])), trivial⟩
    ·refine W_move rfl rfl rfl ?_
     refine W_bin rfl rfl rfl rfl rfl ?_
     refine W_pick rfl rfl rfl rfl ?_
     refine W_move rfl rfl rfl ?_
     cases hb126 : (decide (r104.1 = (⟨#[50]⟩)))
     ·refine W_no rfl rfl rfl ?_
      refine W_no rfl rfl rfl ?_
      refine W_pick rfl rfl rfl rfl ?_
      refine W_move rfl rfl rfl ?_
      refine W_no rfl rfl rfl ?_
      refine W_no rfl rfl rfl ?_
      refine W_pick rfl rfl rfl rfl ?_
      refine W_move rfl rfl rfl ?_
      refine W_no rfl rfl rfl ?_
      refine W_no rfl rfl rfl ?_
      refine W_pick rfl rfl rfl rfl ?_
      refine W_assign rfl rfl rfl ?_
      refine W_end ?_
      refine E_drop (List.Sublist.cons _ (List.Sublist.cons _ (List.Sublist.cons _ (List.Sublist.refl _)))) ?_
      exact E_keepJ (J122 _ _ _ ⟨rfl, rfl, rfl⟩) (List.Perm.refl _) ⟨(by show some (Value.bool (false)) = some (Value.bool (((((((decide (r104.2.2 = 0)) && (decide (r109.2 = 0))) && (decide (r114.2 = 0))) && (decide (r104.1 = (⟨#[50]⟩)))) && (decide (r104.2.1 = (⟨#[50, 47, 51]⟩)))) && (decide (r109.1 = (⟨#[55, 47, 50]⟩)))) && (decide (r114.1 = (⟨#[49]⟩))))); first | (simp only [hb123, hb124, hb125, hb126, Bool.and_true, Bool.true_and, Bool.false_and, Bool.and_false, Bool.or_true, Bool.true_or, Bool.or_false, Bool.false_or, Bool.not_true, Bool.not_false]; done) | (simp only [hb123, hb124, hb125, hb126]; first | done | simp only [Bool.and_true, Bool.true_and, Bool.false_and, Bool.and_false, Bool.or_true, Bool.true_or, Bool.or_false, Bool.false_or, Bool.not_true, Bool.not_false])), trivial⟩
     ·refine W_move rfl rfl rfl ?_
      refine W_bin rfl rfl rfl rfl rfl ?_
      refine W_pick rfl rfl rfl rfl ?_
      refine W_move rfl rfl rfl ?_
      cases hb127 : (decide (r104.2.1 = (⟨#[50, 47, 51]⟩)))
      ·refine W_no rfl rfl rfl ?_
       refine W_no rfl rfl rfl ?_
       refine W_pick rfl rfl rfl rfl ?_
       refine W_move rfl rfl rfl ?_
       refine W_no rfl rfl rfl ?_
       refine W_no rfl rfl rfl ?_
       refine W_pick rfl rfl rfl rfl ?_
       refine W_assign rfl rfl rfl ?_
       refine W_end ?_
       refine E_drop (List.Sublist.cons _ (List.Sublist.cons _ (List.Sublist.cons _ (List.Sublist.refl _)))) ?_
       exact E_keepJ (J122 _ _ _ ⟨rfl, rfl, rfl⟩) (List.Perm.refl _) ⟨(by show some (Value.bool (false)) = some (Value.bool (((((((decide (r104.2.2 = 0)) && (decide (r109.2 = 0))) && (decide (r114.2 = 0))) && (decide (r104.1 = (⟨#[50]⟩)))) && (decide (r104.2.1 = (⟨#[50, 47, 51]⟩)))) && (decide (r109.1 = (⟨#[55, 47, 50]⟩)))) && (decide (r114.1 = (⟨#[49]⟩))))); first | (simp only [hb123, hb124, hb125, hb126, hb127, Bool.and_true, Bool.true_and, Bool.false_and, Bool.and_false, Bool.or_true, Bool.true_or, Bool.or_false, Bool.false_or, Bool.not_true, Bool.not_false]; done) | (simp only [hb123, hb124, hb125, hb126, hb127]; first | done | simp only [Bool.and_true, Bool.true_and, Bool.false_and, Bool.and_false, Bool.or_true, Bool.true_or, Bool.or_false, Bool.false_or, Bool.not_true, Bool.not_false])), trivial⟩
      ·refine W_move rfl rfl rfl ?_
       refine W_bin rfl rfl rfl rfl rfl ?_
       refine W_pick rfl rfl rfl rfl ?_
       refine W_move rfl rfl rfl ?_
       cases hb128 : (decide (r109.1 = (⟨#[55, 47, 50]⟩)))
       ·refine W_no rfl rfl rfl ?_
        refine W_no rfl rfl rfl ?_
        refine W_pick rfl rfl rfl rfl ?_
        refine W_assign rfl rfl rfl ?_
        refine W_end ?_
        refine E_drop (List.Sublist.cons _ (List.Sublist.cons _ (List.Sublist.cons _ (List.Sublist.refl _)))) ?_
        exact E_keepJ (J122 _ _ _ ⟨rfl, rfl, rfl⟩) (List.Perm.refl _) ⟨(by show some (Value.bool (false)) = some (Value.bool (((((((decide (r104.2.2 = 0)) && (decide (r109.2 = 0))) && (decide (r114.2 = 0))) && (decide (r104.1 = (⟨#[50]⟩)))) && (decide (r104.2.1 = (⟨#[50, 47, 51]⟩)))) && (decide (r109.1 = (⟨#[55, 47, 50]⟩)))) && (decide (r114.1 = (⟨#[49]⟩))))); first | (simp only [hb123, hb124, hb125, hb126, hb127, hb128, Bool.and_true, Bool.true_and, Bool.false_and, Bool.and_false, Bool.or_true, Bool.true_or, Bool.or_false, Bool.false_or, Bool.not_true, Bool.not_false]; done) | (simp only [hb123, hb124, hb125, hb126, hb127, hb128]; first | done | simp only [Bool.and_true, Bool.true_and, Bool.false_and, Bool.and_false, Bool.or_true, Bool.true_or, Bool.or_false, Bool.false_or, Bool.not_true, Bool.not_false])), trivial⟩
       ·refine W_move rfl rfl rfl ?_
        refine W_bin rfl rfl rfl rfl rfl ?_
        refine W_pick rfl rfl rfl rfl ?_
        refine W_assign rfl rfl rfl ?_
        refine W_end ?_
        refine E_drop (List.Sublist.cons _ (List.Sublist.cons _ (List.Sublist.cons _ (List.Sublist.refl _)))) ?_
        exact E_keepJ (J122 _ _ _ ⟨rfl, rfl, rfl⟩) (List.Perm.refl _) ⟨(by show some (Value.bool (decide (r114.1 = (⟨#[49]⟩)))) = some (Value.bool (((((((decide (r104.2.2 = 0)) && (decide (r109.2 = 0))) && (decide (r114.2 = 0))) && (decide (r104.1 = (⟨#[50]⟩)))) && (decide (r104.2.1 = (⟨#[50, 47, 51]⟩)))) && (decide (r109.1 = (⟨#[55, 47, 50]⟩)))) && (decide (r114.1 = (⟨#[49]⟩))))); first | (simp only [hb123, hb124, hb125, hb126, hb127, hb128, Bool.and_true, Bool.true_and, Bool.false_and, Bool.and_false, Bool.or_true, Bool.true_or, Bool.or_false, Bool.false_or, Bool.not_true, Bool.not_false]; done) | (simp only [hb123, hb124, hb125, hb126, hb127, hb128]; first | done | simp only [Bool.and_true, Bool.true_and, Bool.false_and, Bool.and_false, Bool.or_true, Bool.true_or, Bool.or_false, Bool.false_or, Bool.not_true, Bool.not_false])), trivial⟩

theorem m_gridhallkeep4_ForecastShifts_c {B : Nat} {w0 w : World} [Tabs B w0] {H : Hp} {M : List Res} {p0_l : (List Int)} {p1_by : Int} {p2_k : Int} {v0 : Value} {r : Bool} (hm : m_gridhallkeep4_ForecastShifts p0_l p1_by p2_k = some r) (h0 : RdS H v0 p0_l) (ht : St B w0 H (M) w) :
  Calls prog 3 [v0, .int .i64 (p1_by), .int .i64 (p2_k)].toArray w (Ret B w0 fun H' M' v => H = H' ∧ M = M' ∧ .bool (r) = v) := by
 unfold m_gridhallkeep4_ForecastShifts at hm
 refine enter func3 rfl rfl rfl ht ?_
 refine C_seq (C_region ?_)
 refine W_assign rfl rfl rfl ?_
 refine W_end (E_then (C_seq (C_region ?_)))
 refine W_move rfl rfl rfl ?_
 refine W_move rfl rfl rfl ?_
 refine W_lenR rfl rfl runUnderlying22 rfl h0 ?_
 refine W_min rfl rfl rfl rfl ?_
 obtain ⟨hz101, hm⟩ := need_some hm
 refine W_sliceR (α := Int) (l := 0) (h := (min (p0_l.length : Int) 12 : Int).toNat) (xs := p0_l) rfl rfl runUnderlying22 sizeOf3 rfl h0 (by omega) (by omega) (.inl rfl) (fun cap hcap => by rw [if_pos rfl]; exact (.inl ⟨rfl, rfl⟩)) (fun m hmm => (.inr ⟨_, _, _, rfl, rfl, by omega, by omega, rfl⟩)) (.inl ⟨rfl, rfl⟩) ?_
 intro v102 h103 hc104
 obtain ⟨hz105, hm⟩ := need_some hm
 refine W_call call7 rfl rfl rfl (fun w ht => by have h := clone7_c (s := slc p0_l 0 ((min (p0_l.length : Int) 12 : Int).toNat)) h103 hz105 ht; exact h) ?_
 rintro _ _ _ ⟨rfl, v106, xs107, rfl, rfl, hr108⟩
 have hr108 := hr108 H
 refine W_assign rfl rfl rfl ?_
 refine W_end (E_then (C_seq (C_region ?_)))
 refine W_move rfl rfl rfl ?_
 obtain ⟨r109, hc110, hm⟩ := bind_some hm
 refine W_call call8 rfl rfl rfl (fun w ht => by have h := m_gridhallref4_Cut_c (hm := hc110)  ht; exact h) ?_
 rintro _ _ _ ⟨rfl, rfl, rfl⟩
 refine W_move rfl rfl rfl ?_
 obtain ⟨r111, hc112, hm⟩ := bind_some hm
 refine W_call call8 rfl rfl rfl (fun w ht => by have h := m_gridhallref4_Cut_c (hm := hc112)  ht; exact h) ?_
 rintro _ _ _ ⟨rfl, rfl, rfl⟩
 refine W_assign rfl rfl rfl ?_
 refine W_assign rfl rfl rfl ?_
 refine W_end (E_then (C_seq (C_region ?_)))
 refine W_assign rfl rfl rfl ?_
 refine W_end (E_then (C_seq (C_seq (C_region ?_))))
 refine W_move rfl rfl rfl ?_
 refine W_lenO (List.mem_cons_self ..) rfl rfl runUnderlying22 rfl ?_
 refine W_move rfl rfl rfl ?_
 refine W_end (E_then (C_block ?_))
 refine C_rowMax (List.mem_cons_self ..) (fun hmx200 => ?_)
 refine C_nilRow 3 (Rep.sz Int) ?_
 refine C_keep (L' := [(0, v106), (1, .int .i64 (r109)), (2, .int .i64 (r111)), (7, (.slice none 0 0)), (34, v106), (35, .int .i64 (((slc p0_l 0 ((min (p0_l.length : Int) 12 : Int).toNat)).length : Int))), (36, .int .i64 (((0 : Nat) : Int)))]) ⟨rfl, rfl, rfl, rfl, rfl, rfl, rfl, trivial⟩ (List.Perm.swap _ _ _) ?_
 refine C_loop (fun n H' M' L' => ∃ (k113 : Nat) (zs202' : Nat), ∃ l188 : List Int, ∃ l192 : List Int, ∃ xs187 : List Value, ∃ v190 : Value, ∃ xs191 : List Value, k113 + zs202' = (((slc p0_l 0 ((min (p0_l.length : Int) 12 : Int).toNat)).length : Int) : Int).toNat ∧ zs202' = n ∧ forN (fun k s196 n => m_gridhallkeep4_ForecastShifts_b1 r109 k s196.1 s196.2 n) (fun s196 => (m_rat_Of r109 1).bind fun r236 => (m_forecast_Mean s196.1 r111).bind fun r238 => (m_forecast_Mean s196.2 r111).bind fun r240 => (m_forecast_Ahead s196.1 r111).bind fun r242 => (m_forecast_Ahead s196.2 r111).bind fun r244 => if ((!decide (r236.2 = 0)) || (!decide (r238.2 = r240.2))) || (!decide (r242.2 = r244.2)) then (some false) else (if decide (r238.2 = 0) then ((m_rat_Add r238.1 r236.1).bind fun r276 => if (!decide (r276.2 = 0)) || (!decide (r276.1 = r240.1)) then (some false) else (m_gridhallkeep4_ForecastShifts_b3 r236 r242 r244)) else (m_gridhallkeep4_ForecastShifts_b3 r236 r242 r244))) zs202' k113 (l188, l192) = some r ∧ Rw H' v106 xs187 l188 ∧ Rw H' v190 xs191 l192 ∧ H.le H' ∧ .row v106 3 (Rep.sz Int) l188.length xs187 :: .row v190 3 (Rep.sz Int) l192.length xs191 :: M = M' ∧ [(0, v106), (1, .int .i64 (r109)), (2, .int .i64 (r111)), (7, v190), (34, v106), (35, .int .i64 (((slc p0_l 0 ((min (p0_l.length : Int) 12 : Int).toNat)).length : Int))), (36, .int .i64 ((k113 : Int)))] = L') _ ⟨0, _, (slc p0_l 0 ((min (p0_l.length : Int) 12 : Int).toNat)), ([] : List Int), xs107, (.slice none 0 0), ([]), Nat.zero_add _, rfl, hm, hr108, Rw.nil, (Hp.le_refl _), rfl, rfl⟩ ?_
 rintro _ H194 _ _ ⟨k113, zs202', l188, l192, xs187, v190, xs191, hd204, rfl, hm, hr189, hr193, hle195, rfl, rfl⟩
 refine C_seq (C_region ?_)
 refine W_bin rfl rfl rfl rfl rfl ?_
 refine W_end (E_then (C_seq ?_))
 refine C_cond (b := decide ((k113 : Int) < ((slc p0_l 0 ((min (p0_l.length : Int) 12 : Int).toNat)).length : Int))) rfl (fun hb206 => ?_) (fun hb206 => ?_)
 ·obtain ⟨zs202, rfl, hd205, hy203⟩ := rngN_t hd204 hb206
  have hm : m_gridhallkeep4_ForecastShifts_b1 r109 k113 l188 l192 (forN (fun k s196 n => m_gridhallkeep4_ForecastShifts_b1 r109 k s196.1 s196.2 n) (fun s196 => (m_rat_Of r109 1).bind fun r236 => (m_forecast_Mean s196.1 r111).bind fun r238 => (m_forecast_Mean s196.2 r111).bind fun r240 => (m_forecast_Ahead s196.1 r111).bind fun r242 => (m_forecast_Ahead s196.2 r111).bind fun r244 => if ((!decide (r236.2 = 0)) || (!decide (r238.2 = r240.2))) || (!decide (r242.2 = r244.2)) then (some false) else (if decide (r238.2 = 0) then ((m_rat_Add r238.1 r236.1).bind fun r276 => if (!decide (r276.2 = 0)) || (!decide (r276.1 = r240.1)) then (some false) else (m_gridhallkeep4_ForecastShifts_b3 r236 r242 r244)) else (m_gridhallkeep4_ForecastShifts_b3 r236 r242 r244))) zs202 (k113 + 1)) = some r := hm
  generalize hn198 : forN (fun k s196 n => m_gridhallkeep4_ForecastShifts_b1 r109 k s196.1 s196.2 n) (fun s196 => (m_rat_Of r109 1).bind fun r236 => (m_forecast_Mean s196.1 r111).bind fun r238 => (m_forecast_Mean s196.2 r111).bind fun r240 => (m_forecast_Ahead s196.1 r111).bind fun r242 => (m_forecast_Ahead s196.2 r111).bind fun r244 => if ((!decide (r236.2 = 0)) || (!decide (r238.2 = r240.2))) || (!decide (r242.2 = r244.2)) then (some false) else (if decide (r238.2 = 0) then ((m_rat_Add r238.1 r236.1).bind fun r276 => if (!decide (r276.2 = 0)) || (!decide (r276.1 = r240.1)) then (some false) else (m_gridhallkeep4_ForecastShifts_b3 r236 r242 r244)) else (m_gridhallkeep4_ForecastShifts_b3 r236 r242 r244))) zs202 (k113 + 1) = nx197 at hm
  unfold m_gridhallkeep4_ForecastShifts_b1 at hm
  refine C_skip (E_then (C_seq (C_block (C_seq (C_region ?_)))))
  refine W_move rfl rfl rfl ?_
  obtain ⟨y207, h208, he209, hm⟩ := idx_some hm
  refine W_indexO (List.mem_cons_self ..) rfl rfl runUnderlying22 sizeOf3 rfl rfl h208 (List.getElem?_eq_some_iff.1 he209).1 ?_
  obtain ⟨_, rfl, hg210⟩ := (hr189).elem he209
  refine W_load rfl rfl isAgg3 rfl (row_one0 (List.mem_cons_self ..) hg210 rfl) ?_
  refine W_assign rfl rfl rfl ?_
  refine W_assign rfl rfl rfl ?_
  refine W_end (E_then (C_seq (C_region ?_)))
  refine W_move rfl rfl rfl ?_
  refine W_move rfl rfl rfl ?_
  refine W_move rfl rfl rfl ?_
  obtain ⟨r211, hc212, hm⟩ := bind_some hm
  refine W_call call8 rfl rfl rfl (fun w ht => by have h := m_gridhallref4_Cut_c (hm := hc212)  ht; exact h) ?_
  rintro _ _ _ ⟨rfl, rfl, rfl⟩
  obtain ⟨y213, h214, he215, hm⟩ := idx_some hm
  refine W_indexO (List.mem_cons_self ..) rfl rfl runUnderlying22 sizeOf3 rfl rfl h214 (List.getElem?_eq_some_iff.1 he215).1 ?_
  obtain ⟨_, rfl, hg216⟩ := (hr189).elem he215
  obtain ⟨hr217, he218, hg219⟩ := Rw.put (cs := [.int .i64 (r211)]) (o := 0) (c := [.int .i64 (y213)]) (out := [.int .i64 (r211)]) (e2 := r211) hr189 he215 rfl hg216 rfl rfl rfl
  refine W_storeO2 (i := ((k113 : Int) : Int).toNat * Rep.sz Int + 0) (cs := [.int .i64 (r211)]) rfl sizeOf3 rfl (row_ad0 _ _) rfl rfl rfl (Rw.room hr189 he215 rfl) rfl (all_cons rfl all_nil) (n' := (l188.set (((k113 : Int) : Int).toNat) r211).length) List.length_set ?_
  generalize over xs187 (((k113 : Int) : Int).toNat * Rep.sz Int + 0) [.int .i64 (r211)] = xs220 at hr217 hg219 ⊢
  refine W_end (E_then (C_region ?_))
  refine W_move rfl rfl rfl ?_
  refine W_move rfl rfl rfl ?_
  refine W_move rfl rfl rfl ?_
  obtain ⟨y221, h222, he223, hm⟩ := idx_some hm
  refine W_indexO (List.mem_cons_self ..) rfl rfl runUnderlying22 sizeOf3 rfl rfl h222 (List.getElem?_eq_some_iff.1 he223).1 ?_
  obtain ⟨_, rfl, hg224⟩ := (hr217).elem he223
  refine W_load rfl rfl isAgg3 rfl (row_one0 (List.mem_cons_self ..) hg224 rfl) ?_
  refine W_move rfl rfl rfl ?_
  refine W_bin rfl rfl rfl rfl rfl ?_
  refine W_buildSlice (α := Int) (css := [[.int .i64 (IntKind.i64.wrap (y221 + r109))]]) (zs := [.int .i64 (0)]) (out := [.int .i64 (IntKind.i64.wrap (y221 + r109))]) (ys := ([(IntKind.i64.wrap (y221 + r109))] : List Int)) rfl rfl rfl ⟨rfl, trivial⟩ runUnderlying22 sizeOf3 rfl zeroValue3 (by kernel_rfl) rfl rfl rfl rfl ⟨[.int .i64 (IntKind.i64.wrap (y221 + r109))], [], rfl, rfl, rfl⟩ rfl ?_
  intro b225 v226 H227 hv228 hle229 h230
  have hc231 : Value.cap' v226 = ([(IntKind.i64.wrap (y221 + r109))] : List Int).length := by rw [hv228]; rfl
  obtain ⟨hz232, hm⟩ := need_some hm
  refine W_perm (List.Perm.swap _ _ _) ?_
  refine W_appendO (α := Int) (l := l192) (ys := ([(IntKind.i64.wrap (y221 + r109))] : List Int)) rfl rfl underlying22 ⟨_, rfl, rfl, rfl, rfl⟩ rfl rfl rfl rfl rfl (hr193.mono hle229) h230 hz232 ?_
  intro v233 xs234 hr235
  refine W_assign rfl rfl rfl ?_
  refine W_end (E_normal_block (E_then (C_region ?_)))
  refine W_bin rfl rfl rfl rfl rfl ?_
  refine W_move rfl rfl rfl ?_
  refine W_end ?_
  exact E_keepJ (E_back (Nat.lt_succ_self _) ⟨k113 + 1, zs202, (l188.set (((k113 : Int) : Int).toNat) r211), (l192 ++ ([(IntKind.i64.wrap (y221 + r109))] : List Int)), xs220, v233, xs234, hd205, rfl, (by rw [hn198]; exact hm), (hr217.mono hle229), hr235, (Hp.le_trans hle195 hle229), rfl, rfl⟩) (List.Perm.swap _ _ _) ⟨rfl, rfl, rfl, rfl, rfl, rfl, (congrArg (fun z => some (Value.int .i64 z)) (i64_succN hy203 (toNat_max (len_max hmx200)))), trivial⟩
 ·obtain rfl := rngN_f hd204 hb206
  have hm : ((m_rat_Of r109 1).bind fun r236 => (m_forecast_Mean l188 r111).bind fun r238 => (m_forecast_Mean l192 r111).bind fun r240 => (m_forecast_Ahead l188 r111).bind fun r242 => (m_forecast_Ahead l192 r111).bind fun r244 => if ((!decide (r236.2 = 0)) || (!decide (r238.2 = r240.2))) || (!decide (r242.2 = r244.2)) then (some false) else (if decide (r238.2 = 0) then ((m_rat_Add r238.1 r236.1).bind fun r276 => if (!decide (r276.2 = 0)) || (!decide (r276.1 = r240.1)) then (some false) else (m_gridhallkeep4_ForecastShifts_b3 r236 r242 r244)) else (m_gridhallkeep4_ForecastShifts_b3 r236 r242 r244))) = some r := hm
  refine C_exit (E_exit_then (E_exit_then (E_exit_hit (E_then (C_seq (C_region ?_))))))
  refine W_move rfl rfl rfl ?_
  obtain ⟨r236, hc237, hm⟩ := bind_some hm
  refine W_call call9 rfl rfl rfl (fun w ht => by have h := m_rat_Of_c (hm := hc237)  ht; exact h) ?_
  rintro _ _ _ ⟨rfl, rfl, rfl⟩
  refine W_move rfl rfl rfl ?_
  refine W_extract rfl rfl rfl rfl ?_
  refine W_extract rfl rfl rfl rfl ?_
  refine W_assign rfl rfl rfl ?_
  refine W_assign rfl rfl rfl ?_
  refine W_end (E_then (C_seq (C_region ?_)))
  refine W_move rfl rfl rfl ?_
  refine W_move rfl rfl rfl ?_
  obtain ⟨r238, hc239, hm⟩ := bind_some hm
  refine W_call call10 rfl rfl rfl (fun w ht => by obtain ⟨H0_, hl0_, ht0_, hr0_, bk0_⟩ := ht.lendRow hr189 rfl; have h := m_forecast_Mean_c (hm := hc239) hr0_ ht0_; exact lend_back bk0_ (h)) ?_
  rintro _ _ _ ⟨rfl, ⟨_, rfl, rfl, rfl⟩⟩
  refine W_move rfl rfl rfl ?_
  refine W_extract rfl rfl rfl rfl ?_
  refine W_extract rfl rfl rfl rfl ?_
  refine W_assign rfl rfl rfl ?_
  refine W_assign rfl rfl rfl ?_
  refine W_end (E_then (C_seq (C_region ?_)))
  refine W_move rfl rfl rfl ?_
  refine W_move rfl rfl rfl ?_
  refine W_perm (List.Perm.swap _ _ _) ?_
  obtain ⟨r240, hc241, hm⟩ := bind_some hm
  refine W_call call10 rfl rfl rfl (fun w ht => by obtain ⟨H0_, hl0_, ht0_, hr0_, bk0_⟩ := ht.lendRow hr193 rfl; have h := m_forecast_Mean_c (hm := hc241) hr0_ ht0_; exact lend_back bk0_ (h)) ?_
  rintro _ _ _ ⟨rfl, ⟨_, rfl, rfl, rfl⟩⟩
  refine W_move rfl rfl rfl ?_
  refine W_extract rfl rfl rfl rfl ?_
  refine W_extract rfl rfl rfl rfl ?_
  refine W_assign rfl rfl rfl ?_
  refine W_assign rfl rfl rfl ?_
  refine W_end (E_then (C_seq (C_region ?_)))
  refine W_move rfl rfl rfl ?_
  refine W_move rfl rfl rfl ?_
  refine W_perm (List.Perm.swap _ _ _) ?_
  obtain ⟨r242, hc243, hm⟩ := bind_some hm
  refine W_call call11 rfl rfl rfl (fun w ht => by obtain ⟨H0_, hl0_, ht0_, hr0_, bk0_⟩ := ht.lendRow hr189 rfl; have h := m_forecast_Ahead_c (hm := hc243) hr0_ ht0_; exact lend_back bk0_ (h)) ?_
  rintro _ _ _ ⟨rfl, ⟨_, rfl, rfl, rfl⟩⟩
  refine W_move rfl rfl rfl ?_
  refine W_extract rfl rfl rfl rfl ?_
  refine W_extract rfl rfl rfl rfl ?_
  refine W_assign rfl rfl rfl ?_
  refine W_assign rfl rfl rfl ?_
  refine W_end (E_then (C_seq (C_region ?_)))
  refine W_move rfl rfl rfl ?_
  refine W_move rfl rfl rfl ?_
  refine W_perm (List.Perm.swap _ _ _) ?_
  obtain ⟨r244, hc245, hm⟩ := bind_some hm
  refine W_call call11 rfl rfl rfl (fun w ht => by obtain ⟨H0_, hl0_, ht0_, hr0_, bk0_⟩ := ht.lendRow hr193 rfl; have h := m_forecast_Ahead_c (hm := hc245) hr0_ ht0_; exact lend_back bk0_ (h)) ?_
  rintro _ _ _ ⟨rfl, ⟨_, rfl, rfl, rfl⟩⟩
  refine W_move rfl rfl rfl ?_
  refine W_extract rfl rfl rfl rfl ?_
  refine W_extract rfl rfl rfl rfl ?_
  refine W_assign rfl rfl rfl ?_
  refine W_assign rfl rfl rfl ?_
  refine W_end (E_then (C_seq ?_))
  refine C_seq_join (fun H' M' L' => H194 = H' ∧ M = M' ∧ [(10, .string (r236.1)), (12, .string (r238.1)), (13, .int .i64 (r238.2)), (14, .string (r240.1)), (16, .string (r242.1)), (17, .int .i64 (r242.2)), (18, .string (r244.1)), (96, .bool (((!decide (r236.2 = 0)) || (!decide (r238.2 = r240.2))) || (!decide (r242.2 = r244.2))))] = L') ?_ (fun J248 => ?_)
  ·rintro _ _ _ ⟨rfl, rfl, rfl⟩
   refine C_cond (b := ((!decide (r236.2 = 0)) || (!decide (r238.2 = r240.2))) || (!decide (r242.2 = r244.2))) rfl (fun hb249 => ?_) (fun hb249 => ?_)
   ·have hm := ite_t' hb249 hm
    refine C_seq (C_region ?_)
    refine W_assign rfl rfl rfl ?_
    refine W_end (E_then (C_ret (E_ret_then ?_)))
    obtain rfl := Option.some.inj hm
    refine E_weak hle195 ?_
    exact end1 rfl rfl ⟨rfl, rfl, rfl⟩
   ·have hm := ite_f' hb249 hm
    refine C_skip (E_then ?_)
    refine C_seq_join (fun H' M' L' => m_gridhallkeep4_ForecastShifts_b3 r236 r242 r244 = some r ∧ H194 = H' ∧ M = M' ∧ [(10, .string (r236.1)), (16, .string (r242.1)), (17, .int .i64 (r242.2)), (18, .string (r244.1))] = L') ?_ (fun J257 => ?_)
    ·rintro _ _ _ ⟨hm, rfl, rfl, rfl⟩
     unfold m_gridhallkeep4_ForecastShifts_b3 at hm
     refine C_seq_join (fun H' M' L' => m_gridhallkeep4_ForecastShifts_b2 = some r ∧ H194 = H' ∧ M = M' ∧ [] = L') ?_ (fun J265 => ?_)
     ·rintro _ _ _ ⟨hm, rfl, rfl, rfl⟩
      unfold m_gridhallkeep4_ForecastShifts_b2 at hm
      refine C_seq (C_region ?_)
      obtain ⟨r266, hc267, hm⟩ := bind_some hm
      refine W_call call13 rfl rfl rfl (fun w ht => by have h := m_gridhallkeep4_forecastFact_c (hm := hc267)  ht; exact h) ?_
      rintro _ _ _ ⟨rfl, rfl, rfl⟩
      refine W_assign rfl rfl rfl ?_
      refine W_end (E_then (C_ret ?_))
      obtain rfl := Option.some.inj hm
      refine E_weak hle195 ?_
      exact end1 rfl rfl ⟨rfl, rfl, rfl⟩
     ·refine C_seq (C_region ?_)
      refine W_move rfl rfl rfl ?_
      refine W_bin rfl rfl rfl rfl rfl ?_
      refine W_end (E_then ?_)
      refine C_cond (b := decide (r242.2 = 0)) rfl (fun hb268 => ?_) (fun hb268 => ?_)
      ·have hm := ite_t' hb268 hm
       refine C_seq (C_region ?_)
       refine W_move rfl rfl rfl ?_
       refine W_move rfl rfl rfl ?_
       obtain ⟨r269, hc270, hm⟩ := bind_some hm
       refine W_call call12 rfl rfl rfl (fun w ht => by have h := m_rat_Add_c (hm := hc270)  ht; exact h) ?_
       rintro _ _ _ ⟨rfl, rfl, rfl⟩
       refine W_move rfl rfl rfl ?_
       refine W_extract rfl rfl rfl rfl ?_
       refine W_extract rfl rfl rfl rfl ?_
       refine W_assign rfl rfl rfl ?_
       refine W_assign rfl rfl rfl ?_
       refine W_end (E_then ?_)
       refine C_seq_join (fun H' M' L' => H194 = H' ∧ M = M' ∧ [(126, .bool ((!decide (r269.2 = 0)) || (!decide (r269.1 = r244.1))))] = L') ?_ (fun J272 => ?_)
       ·rintro _ _ _ ⟨rfl, rfl, rfl⟩
        refine C_cond (b := (!decide (r269.2 = 0)) || (!decide (r269.1 = r244.1))) rfl (fun hb273 => ?_) (fun hb273 => ?_)
        ·have hm := ite_t' hb273 hm
         refine C_seq (C_region ?_)
         refine W_assign rfl rfl rfl ?_
         refine W_end (E_then (C_ret (E_ret_then ?_)))
         obtain rfl := Option.some.inj hm
         refine E_weak hle195 ?_
         exact end1 rfl rfl ⟨rfl, rfl, rfl⟩
        ·have hm := ite_f' hb273 hm
         refine C_skip ?_
         exact E_keepJ (J265 _ _ _ ⟨hm, rfl, rfl, rfl⟩) (List.Perm.refl _) trivial
       ·refine C_region ?_
        refine W_move rfl rfl rfl ?_
        refine W_bin rfl rfl rfl rfl rfl ?_
        refine W_move rfl rfl rfl ?_
        cases hb274 : (decide (r269.2 = 0))
        ·refine W_no rfl rfl rfl ?_
         refine W_no rfl rfl rfl ?_
         refine W_no rfl rfl rfl ?_
         refine W_pick rfl rfl rfl rfl ?_
         refine W_end ?_
         exact E_keepJ (J272 _ _ _ ⟨rfl, rfl, rfl⟩) (List.Perm.refl _) ⟨(by show some (Value.bool (true)) = some (Value.bool ((!decide (r269.2 = 0)) || (!decide (r269.1 = r244.1)))); first | (simp only [hb249, hb268, hb274, Bool.and_true, Bool.true_and, Bool.false_and, Bool.and_false, Bool.or_true, Bool.true_or, Bool.or_false, Bool.false_or, Bool.not_true, Bool.not_false]; done) | (simp only [hb249, hb268, hb274]; first | done | simp only [Bool.and_true, Bool.true_and, Bool.false_and, Bool.and_false, Bool.or_true, Bool.true_or, Bool.or_false, Bool.false_or, Bool.not_true, Bool.not_false])), trivial⟩
        ·refine W_move rfl rfl rfl ?_
         refine W_move rfl rfl rfl ?_
         refine W_bin rfl rfl rfl rfl rfl ?_
         refine W_pick rfl rfl rfl rfl ?_
         refine W_end ?_
         exact E_keepJ (J272 _ _ _ ⟨rfl, rfl, rfl⟩) (List.Perm.refl _) ⟨(by show some (Value.bool (!decide (r269.1 = r244.1))) = some (Value.bool ((!decide (r269.2 = 0)) || (!decide (r269.1 = r244.1)))); first | (simp only [hb249, hb268, hb274, Bool.and_true, Bool.true_and, Bool.false_and, Bool.and_false, Bool.or_true, Bool.true_or, Bool.or_false, Bool.false_or, Bool.not_true, Bool.not_false]; done) | (simp only [hb249, hb268, hb274]; first | done | simp only [Bool.and_true, Bool.true_and, Bool.false_and, Bool.and_false, Bool.or_true, Bool.true_or, Bool.or_false, Bool.false_or, Bool.not_true, Bool.not_false])), trivial⟩
      ·have hm := ite_f' hb268 hm
       refine C_skip ?_
       exact E_keepJ (J265 _ _ _ ⟨hm, rfl, rfl, rfl⟩) (List.Perm.refl _) trivial
    ·refine C_seq (C_region ?_)
     refine W_move rfl rfl rfl ?_
     refine W_bin rfl rfl rfl rfl rfl ?_
     refine W_end (E_then ?_)
     refine C_cond (b := decide (r238.2 = 0)) rfl (fun hb275 => ?_) (fun hb275 => ?_)
     ·have hm := ite_t' hb275 hm
      refine C_seq (C_region ?_)
      refine W_move rfl rfl rfl ?_
      refine W_move rfl rfl rfl ?_
      obtain ⟨r276, hc277, hm⟩ := bind_some hm
      refine W_call call12 rfl rfl rfl (fun w ht => by have h := m_rat_Add_c (hm := hc277)  ht; exact h) ?_
      rintro _ _ _ ⟨rfl, rfl, rfl⟩
      refine W_move rfl rfl rfl ?_
      refine W_extract rfl rfl rfl rfl ?_
      refine W_extract rfl rfl rfl rfl ?_
      refine W_assign rfl rfl rfl ?_
      refine W_assign rfl rfl rfl ?_
      refine W_end (E_then ?_)
      refine C_seq_join (fun H' M' L' => H194 = H' ∧ M = M' ∧ [(10, .string (r236.1)), (16, .string (r242.1)), (17, .int .i64 (r242.2)), (18, .string (r244.1)), (111, .bool ((!decide (r276.2 = 0)) || (!decide (r276.1 = r240.1))))] = L') ?_ (fun J279 => ?_)
      ·rintro _ _ _ ⟨rfl, rfl, rfl⟩
       refine C_cond (b := (!decide (r276.2 = 0)) || (!decide (r276.1 = r240.1))) rfl (fun hb280 => ?_) (fun hb280 => ?_)
       ·have hm := ite_t' hb280 hm
        refine C_seq (C_region ?_)
        refine W_assign rfl rfl rfl ?_
        refine W_end (E_then (C_ret (E_ret_then ?_)))
        obtain rfl := Option.some.inj hm
        refine E_weak hle195 ?_
        exact end1 rfl rfl ⟨rfl, rfl, rfl⟩
       ·have hm := ite_f' hb280 hm
        refine C_skip ?_
        exact E_keepJ (J257 _ _ _ ⟨hm, rfl, rfl, rfl⟩) (List.Perm.refl _) ⟨rfl, rfl, rfl, rfl, trivial⟩
      ·refine C_region ?_
       refine W_move rfl rfl rfl ?_
       refine W_bin rfl rfl rfl rfl rfl ?_
       refine W_move rfl rfl rfl ?_
       cases hb281 : (decide (r276.2 = 0))
       ·refine W_no rfl rfl rfl ?_
        refine W_no rfl rfl rfl ?_
        refine W_no rfl rfl rfl ?_
        refine W_pick rfl rfl rfl rfl ?_
        refine W_end ?_
        exact E_keepJ (J279 _ _ _ ⟨rfl, rfl, rfl⟩) (List.Perm.refl _) ⟨rfl, rfl, rfl, rfl, (by show some (Value.bool (true)) = some (Value.bool ((!decide (r276.2 = 0)) || (!decide (r276.1 = r240.1)))); first | (simp only [hb249, hb275, hb281, Bool.and_true, Bool.true_and, Bool.false_and, Bool.and_false, Bool.or_true, Bool.true_or, Bool.or_false, Bool.false_or, Bool.not_true, Bool.not_false]; done) | (simp only [hb249, hb275, hb281]; first | done | simp only [Bool.and_true, Bool.true_and, Bool.false_and, Bool.and_false, Bool.or_true, Bool.true_or, Bool.or_false, Bool.false_or, Bool.not_true, Bool.not_false])), trivial⟩
       ·refine W_move rfl rfl rfl ?_
        refine W_move rfl rfl rfl ?_
        refine W_bin rfl rfl rfl rfl rfl ?_
        refine W_pick rfl rfl rfl rfl ?_
        refine W_end ?_
        exact E_keepJ (J279 _ _ _ ⟨rfl, rfl, rfl⟩) (List.Perm.refl _) ⟨rfl, rfl, rfl, rfl, (by show some (Value.bool (!decide (r276.1 = r240.1))) = some (Value.bool ((!decide (r276.2 = 0)) || (!decide (r276.1 = r240.1)))); first | (simp only [hb249, hb275, hb281, Bool.and_true, Bool.true_and, Bool.false_and, Bool.and_false, Bool.or_true, Bool.true_or, Bool.or_false, Bool.false_or, Bool.not_true, Bool.not_false]; done) | (simp only [hb249, hb275, hb281]; first | done | simp only [Bool.and_true, Bool.true_and, Bool.false_and, Bool.and_false, Bool.or_true, Bool.true_or, Bool.or_false, Bool.false_or, Bool.not_true, Bool.not_false])), trivial⟩
     ·have hm := ite_f' hb275 hm
      refine C_skip ?_
      exact E_keepJ (J257 _ _ _ ⟨hm, rfl, rfl, rfl⟩) (List.Perm.refl _) ⟨rfl, rfl, rfl, rfl, trivial⟩
  ·refine C_region ?_
   refine W_move rfl rfl rfl ?_
   refine W_bin rfl rfl rfl rfl rfl ?_
   refine W_move rfl rfl rfl ?_
   cases hb282 : (decide (r236.2 = 0))
   ·refine W_no rfl rfl rfl ?_
    refine W_no rfl rfl rfl ?_
    refine W_no rfl rfl rfl ?_
    refine W_pick rfl rfl rfl rfl ?_
    refine W_move rfl rfl rfl ?_
    refine W_no rfl rfl rfl ?_
    refine W_no rfl rfl rfl ?_
    refine W_no rfl rfl rfl ?_
    refine W_pick rfl rfl rfl rfl ?_
    refine W_end ?_
    refine E_drop (List.Sublist.cons _ (List.Sublist.cons _ (List.Sublist.refl _))) ?_
    exact E_keepJ (J248 _ _ _ ⟨rfl, rfl, rfl⟩) (List.Perm.refl _) ⟨rfl, rfl, rfl, rfl, rfl, rfl, rfl, (by show some (Value.bool (true)) = some (Value.bool (((!decide (r236.2 = 0)) || (!decide (r238.2 = r240.2))) || (!decide (r242.2 = r244.2)))); first | (simp only [hb282, Bool.and_true, Bool.true_and, Bool.false_and, Bool.and_false, Bool.or_true, Bool.true_or, Bool.or_false, Bool.false_or, Bool.not_true, Bool.not_false]; done) | (simp only [hb282]; first | done | simp only [Bool.and_true, Bool.true_and, Bool.false_and, Bool.and_false, Bool.or_true, Bool.true_or, Bool.or_false, Bool.false_or, Bool.not_true, Bool.not_false])), trivial⟩
   ·refine W_move rfl rfl rfl ?_
    refine W_move rfl rfl rfl ?_
    refine W_bin rfl rfl rfl rfl rfl ?_
    refine W_pick rfl rfl rfl rfl ?_
    refine W_move rfl rfl rfl ?_
    cases hb283 : (decide (r238.2 = r240.2))
    ·refine W_no rfl rfl rfl ?_
     refine W_no rfl rfl rfl ?_
     refine W_no rfl rfl rfl ?_
     refine W_pick rfl rfl rfl rfl ?_
     refine W_end ?_
     refine E_drop (List.Sublist.cons _ (List.Sublist.cons _ (List.Sublist.refl _))) ?_
     exact E_keepJ (J248 _ _ _ ⟨rfl, rfl, rfl⟩) (List.Perm.refl _) ⟨rfl, rfl, rfl, rfl, rfl, rfl, rfl, (by show some (Value.bool (true)) = some (Value.bool (((!decide (r236.2 = 0)) || (!decide (r238.2 = r240.2))) || (!decide (r242.2 = r244.2)))); first | (simp only [hb282, hb283, Bool.and_true, Bool.true_and, Bool.false_and, Bool.and_false, Bool.or_true, Bool.true_or, Bool.or_false, Bool.false_or, Bool.not_true, Bool.not_false]; done) | (simp only [hb282, hb283]; first | done | simp only [Bool.and_true, Bool.true_and, Bool.false_and, Bool.and_false, Bool.or_true, Bool.true_or, Bool.or_false, Bool.false_or, Bool.not_true, Bool.not_false])), trivial⟩
    ·refine W_move rfl rfl rfl ?_
     refine W_move rfl rfl rfl ?_
     refine W_bin rfl rfl rfl rfl rfl ?_
     refine W_pick rfl rfl rfl rfl ?_
     refine W_end ?_
     refine E_drop (List.Sublist.cons _ (List.Sublist.cons _ (List.Sublist.refl _))) ?_
     exact E_keepJ (J248 _ _ _ ⟨rfl, rfl, rfl⟩) (List.Perm.refl _) ⟨rfl, rfl, rfl, rfl, rfl, rfl, rfl, (by show some (Value.bool (!decide (r242.2 = r244.2))) = some (Value.bool (((!decide (r236.2 = 0)) || (!decide (r238.2 = r240.2))) || (!decide (r242.2 = r244.2)))); first | (simp only [hb282, hb283, Bool.and_true, Bool.true_and, Bool.false_and, Bool.and_false, Bool.or_true, Bool.true_or, Bool.or_false, Bool.false_or, Bool.not_true, Bool.not_false]; done) | (simp only [hb282, hb283]; first | done | simp only [Bool.and_true, Bool.true_and, Bool.false_and, Bool.and_false, Bool.or_true, Bool.true_or, Bool.or_false, Bool.false_or, Bool.not_true, Bool.not_false])), trivial⟩

theorem m_forecast_Residuals_c {B : Nat} {w0 w : World} [Tabs B w0] {H : Hp} {M : List Res} {p0_l : (List Int)} {v0 : Value} {r : (List ByteArray) × Int} (hm : m_forecast_Residuals p0_l = some r) (h0 : RdS H v0 p0_l) (ht : St B w0 H (M) w) :
  Calls prog 14 [v0].toArray w (Ret B w0 fun H' M' v => H = H' ∧ ∃ qv0 : Value, ∃ qxs0 : List Value, .row qv0 25 (Rep.sz ByteArray) r.1.length qxs0 :: M = M' ∧ .tuple #[qv0, .int .i64 (r.2)] = v ∧ RwF qv0 qxs0 r.1) := by
 unfold m_forecast_Residuals at hm
 refine enter func14 rfl rfl rfl ht ?_
 refine C_seq (C_region ?_)
 refine W_assign rfl rfl rfl ?_
 refine W_assign rfl rfl rfl ?_
 refine W_end (E_then (C_seq (C_seq (C_region ?_))))
 refine W_move rfl rfl rfl ?_
 obtain ⟨r101, hc102, hm⟩ := bind_some hm
 refine W_call call25 rfl rfl rfl (fun w ht => by have h := m_forecast_Check_c (hm := hc102) h0 ht; exact h) ?_
 rintro _ _ _ ⟨rfl, rfl, rfl⟩
 refine W_assign rfl rfl rfl ?_
 refine W_end (E_then (C_seq (C_region ?_)))
 refine W_move rfl rfl rfl ?_
 refine W_bin rfl rfl rfl rfl rfl ?_
 refine W_end (E_then ?_)
 refine C_cond (b := !decide (r101 = 0)) rfl (fun hb103 => ?_) (fun hb103 => ?_)
 ·have hm := ite_t' hb103 hm
  refine C_seq (C_region ?_)
  refine W_move rfl rfl rfl ?_
  refine W_assign rfl rfl rfl ?_
  refine W_assign rfl rfl rfl ?_
  refine W_end (E_then (C_ret (E_ret_then ?_)))
  refine E_nilRow 25 (Rep.sz ByteArray) ?_
  obtain rfl := Option.some.inj hm
  refine E_weak (Hp.le_refl _) ?_
  exact end2 rfl rfl rfl ⟨rfl, (.slice none 0 0), [], rfl, rfl, (Rw.nil (H := H)).toF⟩
 ·have hm := ite_f' hb103 hm
  refine C_skip (E_then (C_seq (C_region ?_)))
  refine W_move rfl rfl rfl ?_
  obtain ⟨r104, hc105, hm⟩ := bind_some hm
  refine W_call call28 rfl rfl rfl (fun w ht => by have h := m_forecast_line_c (hm := hc105) h0 ht; exact h) ?_
  rintro _ H114 _ ⟨hle115, v106, v108, v110, v112, rfl, rfl, h107, h109, h111, h113⟩
  refine W_move rfl rfl rfl ?_
  refine W_extract rfl rfl rfl rfl ?_
  refine W_extract rfl rfl rfl rfl ?_
  refine W_extract rfl rfl rfl rfl ?_
  refine W_alloc (cs := [.bool (false), .slice none 0 0, .bool (false), .slice none 0 0]) rfl rfl zeroValue50 rfl (fun b116 => ?_)
  refine W_alloc (cs := [.bool (false), .slice none 0 0, .bool (false), .slice none 0 0]) rfl rfl zeroValue50 rfl (fun b117 => ?_)
  refine W_perm (List.Perm.swap _ _ _) ?_
  refine W_store (cs := [.bool (r104.1.N.minus), v106, .bool (r104.1.D.minus), v108]) (out := [.bool (r104.1.N.minus), v106, .bool (r104.1.D.minus), v108]) rfl sizeOf50 rfl rfl rfl rfl rfl (all_cons rfl (all_cons (RdS.one1 h107) (all_cons rfl (all_cons (RdS.one1 h109) all_nil)))) (over_all rfl) ?_
  refine W_perm (List.Perm.swap _ _ _) ?_
  refine W_store (cs := [.bool (r104.2.1.N.minus), v110, .bool (r104.2.1.D.minus), v112]) (out := [.bool (r104.2.1.N.minus), v110, .bool (r104.2.1.D.minus), v112]) rfl sizeOf50 rfl rfl rfl rfl rfl (all_cons rfl (all_cons (RdS.one1 h111) (all_cons rfl (all_cons (RdS.one1 h113) all_nil)))) (over_all rfl) ?_
  refine W_assign rfl rfl rfl ?_
  refine W_end (E_then (C_seq (C_seq (C_region ?_))))
  refine W_move rfl rfl rfl ?_
  refine W_bin rfl rfl rfl rfl rfl ?_
  refine W_end (E_then ?_)
  refine C_cond (b := !decide (r104.2.2 = 0)) rfl (fun hb118 => ?_) (fun hb118 => ?_)
  ·have hm := ite_t' hb118 hm
   refine C_seq (C_region ?_)
   refine W_move rfl rfl rfl ?_
   refine W_assign rfl rfl rfl ?_
   refine W_assign rfl rfl rfl ?_
   refine W_end (E_then (C_ret (E_ret_then ?_)))
   refine E_nilRow 25 (Rep.sz ByteArray) ?_
   obtain rfl := Option.some.inj hm
   refine E_drop (List.Sublist.cons_cons _ (List.Sublist.cons _ (List.Sublist.cons _ (List.Sublist.refl _)))) ?_
   refine E_weak hle115 ?_
   exact end2 rfl rfl rfl ⟨rfl, (.slice none 0 0), [], rfl, rfl, (Rw.nil (H := H)).toF⟩
  ·have hm := ite_f' hb118 hm
   refine C_skip (E_then (C_seq (C_region ?_)))
   refine W_assign rfl rfl rfl ?_
   refine W_end (E_then (C_seq (C_seq (C_region ?_))))
   refine W_move rfl rfl rfl ?_
   refine W_lenR rfl rfl runUnderlying22 rfl (h0.mono hle115) ?_
   refine W_move rfl rfl rfl ?_
   refine W_end (E_then (C_block ?_))
   refine C_nilRow 25 (Rep.sz ByteArray) ?_
   refine C_keep (L' := [(5, .pointer (some ⟨b116, 0, none⟩)), (6, .pointer (some ⟨b117, 0, none⟩)), (8, (.slice none 0 0)), (27, v0), (28, .int .i64 ((p0_l.length : Int))), (29, .int .i64 (((0 : Nat) : Int)))]) ⟨rfl, rfl, rfl, rfl, rfl, rfl, trivial⟩ (List.Perm.refl _) ?_
   refine C_loop (fun n H' M' L' => ∃ (k119 : Nat) (zs315' : List Int), ∃ l306 : List ByteArray, ∃ v304 : Value, ∃ xs305 : List Value, (p0_l).drop k119 = zs315' ∧ zs315'.length = n ∧ forI (fun k y s310 n => m_forecast_Residuals_b1 r104 k y s310 n) (fun s310 => some (s310, 0)) k119 zs315' l306 = some r ∧ Rw H' v304 xs305 l306 ∧ H114.le H' ∧ .row v304 25 (Rep.sz ByteArray) l306.length xs305 :: .obj b117 (.cells [.bool (r104.2.1.N.minus), v110, .bool (r104.2.1.D.minus), v112].toArray 50 (0, 0)) :: .obj b116 (.cells [.bool (r104.1.N.minus), v106, .bool (r104.1.D.minus), v108].toArray 50 (0, 0)) :: M = M' ∧ [(5, .pointer (some ⟨b116, 0, none⟩)), (6, .pointer (some ⟨b117, 0, none⟩)), (8, v304), (27, v0), (28, .int .i64 ((p0_l.length : Int))), (29, .int .i64 ((k119 : Int)))] = L') _ ⟨0, _, ([] : List ByteArray), (.slice none 0 0), ([]), rfl, rfl, hm, Rw.nil, (Hp.le_refl _), rfl, rfl⟩ ?_
   rintro _ H308 _ _ ⟨k119, zs315', l306, v304, xs305, hd317, rfl, hm, hr307, hle309, rfl, rfl⟩
   refine C_seq (C_region ?_)
   refine W_bin rfl rfl rfl rfl rfl ?_
   refine W_end (E_then (C_seq ?_))
   refine C_cond (b := decide ((k119 : Int) < (p0_l.length : Int))) rfl (fun hb319 => ?_) (fun hb319 => ?_)
   ·obtain ⟨y314, zs315, rfl, hy316, hd318⟩ := rng_t hd317 hb319
    have hm : m_forecast_Residuals_b1 r104 k119 y314 l306 (forI (fun k y s310 n => m_forecast_Residuals_b1 r104 k y s310 n) (fun s310 => some (s310, 0)) (k119 + 1) zs315) = some r := hm
    generalize hn312 : forI (fun k y s310 n => m_forecast_Residuals_b1 r104 k y s310 n) (fun s310 => some (s310, 0)) (k119 + 1) zs315 = nx311 at hm
    unfold m_forecast_Residuals_b1 at hm
    refine C_skip (E_then (C_seq (C_block (C_seq (C_region ?_)))))
    refine W_move rfl rfl rfl ?_
    obtain ⟨_, rfl, hc320⟩ := (h0).elem hy316
    refine W_indexS rfl rfl runUnderlying22 sizeOf3 rfl ((h0.mono hle115).mono hle309) rfl (Int.natCast_nonneg _) hy316 ?_
    refine W_load rfl rfl isAgg3 rfl (HCells.one ((hc320.mono hle115).mono hle309) 0 rfl).at ?_
    refine W_assign rfl rfl rfl ?_
    refine W_assign rfl rfl rfl ?_
    refine W_end (E_then (C_seq ?_))
    obtain ⟨r321, hc322, hm⟩ := bind_some hm
    obtain ⟨r329, hc330, hm⟩ := bind_some hm
    obtain ⟨r337, hc338, hm⟩ := bind_some hm
    obtain ⟨r345, hc346, hm⟩ := bind_some hm
    obtain ⟨r353, hc354, hm⟩ := bind_some hm
    obtain ⟨r361, hc362, hm⟩ := bind_some hm
    refine C_region_tok0 14 (phiT [(fun H rs v => [] = rs ∧ .int .i64 (y314) = v), (fun H rs v => ∃ v363 : Value, ∃ v365 : Value, [] = rs ∧ .agg [.bool (r321.N.minus), v363, .bool (r321.D.minus), v365].toArray = v ∧ RdS H v363 r321.N.words ∧ RdS H v365 r321.D.words), (fun H rs v => [] = rs ∧ .agg [.bool (r104.1.N.minus), v106, .bool (r104.1.D.minus), v108].toArray = v), (fun H rs v => [] = rs ∧ .int .i64 ((k119 : Int)) = v), (fun H rs v => ∃ v369 : Value, ∃ v371 : Value, [] = rs ∧ .agg [.bool (r329.N.minus), v369, .bool (r329.D.minus), v371].toArray = v ∧ RdS H v369 r329.N.words ∧ RdS H v371 r329.D.words), (fun H rs v => ∃ v375 : Value, ∃ v377 : Value, [] = rs ∧ .agg [.bool (r337.N.minus), v375, .bool (r337.D.minus), v377].toArray = v ∧ RdS H v375 r337.N.words ∧ RdS H v377 r337.D.words), (fun H rs v => [] = rs ∧ .agg [.bool (r104.2.1.N.minus), v110, .bool (r104.2.1.D.minus), v112].toArray = v), (fun H rs v => ∃ v381 : Value, ∃ v383 : Value, [] = rs ∧ .agg [.bool (r345.N.minus), v381, .bool (r345.D.minus), v383].toArray = v ∧ RdS H v381 r345.N.words ∧ RdS H v383 r345.D.words), (fun H rs v => ∃ v387 : Value, ∃ v389 : Value, [] = rs ∧ .agg [.bool (r353.N.minus), v387, .bool (r353.D.minus), v389].toArray = v ∧ RdS H v387 r353.N.words ∧ RdS H v389 r353.D.words), (fun H rs v => [] = rs ∧ .tuple #[.string (r361.1), .int .i64 (r361.2)] = v), (fun H rs v => [] = rs ∧ .tuple #[.string (r361.1), .int .i64 (r361.2)] = v), (fun H rs v => [] = rs ∧ .string (r361.1) = v), (fun H rs v => [] = rs ∧ .int .i64 (r361.2) = v), (fun H rs v => [] = rs ∧ .string (r361.1) = v)]) [[], [], [], [], [], [], [], [], [], [], [], [], [], []] [[], [], [], [], [], [], [], [], [], [], [], [], [], []] [] [0, 1, 2, 3, 4, 5, 6, 7, 8, 9, 10, 11, 12, 13] Facts.mixed (by kernel_rfl) (by rfl) (by rfl) (by rfl) (by kernel_rfl) (phiT_mono ⟨eq_monoT _ _, (by rintro H1 H2 rs v hle ⟨v363, v365, rfl, rfl, h364, h366⟩; exact ⟨v363, v365, rfl, rfl, (h364.mono hle), (h366.mono hle)⟩), eq_monoT _ _, eq_monoT _ _, (by rintro H1 H2 rs v hle ⟨v369, v371, rfl, rfl, h370, h372⟩; exact ⟨v369, v371, rfl, rfl, (h370.mono hle), (h372.mono hle)⟩), (by rintro H1 H2 rs v hle ⟨v375, v377, rfl, rfl, h376, h378⟩; exact ⟨v375, v377, rfl, rfl, (h376.mono hle), (h378.mono hle)⟩), eq_monoT _ _, (by rintro H1 H2 rs v hle ⟨v381, v383, rfl, rfl, h382, h384⟩; exact ⟨v381, v383, rfl, rfl, (h382.mono hle), (h384.mono hle)⟩), (by rintro H1 H2 rs v hle ⟨v387, v389, rfl, rfl, h388, h390⟩; exact ⟨v387, v389, rfl, rfl, (h388.mono hle), (h390.mono hle)⟩), eq_monoT _ _, eq_monoT _ _, eq_monoT _ _, eq_monoT _ _, eq_monoT _ _, trivial⟩) ⟨?_, ?_, ?_, ?_, ?_, ?_, ?_, ?_, ?_, ?_, ?_, ?_, ?_, ?_, trivial⟩ ?_
    ·intro HX hX X Rest hR
     intro hU hUp
     refine W_move rfl rfl rfl ?_
     exact W_end (OneT_end [] (Hp.le_refl _) ⟨rfl, rfl⟩)
    ·intro HX hX X Rest hR
     rintro _ _ ⟨rfl, rfl⟩
     intro hU hUp
     refine W_call call30 rfl rfl rfl (fun w ht => by have h := m_large_Whole_c (hm := hc322)  ht; exact h) ?_
     rintro _ H367 _ ⟨hle368, v363, v365, rfl, rfl, h364, h366⟩
     exact W_end (OneT_end [] hle368 ⟨v363, v365, rfl, rfl, (h364), (h366)⟩)
    ·intro HX hX X Rest hR
     intro hU hUp
     refine W_loadAgg rfl rfl isAgg50 sizeOf50 rfl (own_all (hR _ (List.mem_cons_of_mem _ (List.mem_cons_of_mem _ (List.mem_cons_self ..))))) rfl ?_
     exact W_end (OneT_end [] (Hp.le_refl _) ⟨rfl, rfl⟩)
    ·intro HX hX X Rest hR
     intro hU hUp
     refine W_move rfl rfl rfl ?_
     exact W_end (OneT_end [] (Hp.le_refl _) ⟨rfl, rfl⟩)
    ·intro HX hX X Rest hR
     rintro _ _ ⟨rfl, rfl⟩
     rintro _ _ ⟨v363, v365, rfl, rfl, h364, h366⟩
     intro hU hUp
     refine W_call call30 rfl rfl rfl (fun w ht => by have h := m_large_Whole_c (hm := hc330)  ht; exact h) ?_
     rintro _ H373 _ ⟨hle374, v369, v371, rfl, rfl, h370, h372⟩
     exact W_end (OneT_end [] hle374 ⟨v369, v371, rfl, rfl, (h370), (h372)⟩)
    ·intro HX hX X Rest hR
     rintro _ _ ⟨rfl, rfl⟩
     rintro _ _ ⟨v369, v371, rfl, rfl, h370, h372⟩
     rintro _ _ ⟨v369, v371, rfl, rfl, h370, h372⟩
     intro hU hUp
     refine W_call call29 rfl rfl rfl (fun w ht => by have h := m_large_Rat_Mul_c (hm := hc338) ((h107.mono hle309).mono hX) ((h109.mono hle309).mono hX) h370 h372 ht; exact h) ?_
     rintro _ H379 _ ⟨hle380, v375, v377, rfl, rfl, h376, h378⟩
     exact W_end (OneT_end [] hle380 ⟨v375, v377, rfl, rfl, (h376), (h378)⟩)
    ·intro HX hX X Rest hR
     intro hU hUp
     refine W_loadAgg rfl rfl isAgg50 sizeOf50 rfl (own_all (hR _ (List.mem_cons_of_mem _ (List.mem_cons_self ..)))) rfl ?_
     exact W_end (OneT_end [] (Hp.le_refl _) ⟨rfl, rfl⟩)
    ·intro HX hX X Rest hR
     rintro _ _ ⟨v375, v377, rfl, rfl, h376, h378⟩
     rintro _ _ ⟨rfl, rfl⟩
     rintro _ _ ⟨v375, v377, rfl, rfl, h376, h378⟩
     intro hU hUp
     refine W_call call31 rfl rfl rfl (fun w ht => by have h := m_large_Rat_Add_c (hm := hc346) h376 h378 ((h111.mono hle309).mono hX) ((h113.mono hle309).mono hX) ht; exact h) ?_
     rintro _ H385 _ ⟨hle386, v381, v383, rfl, rfl, h382, h384⟩
     exact W_end (OneT_end [] hle386 ⟨v381, v383, rfl, rfl, (h382), (h384)⟩)
    ·intro HX hX X Rest hR
     rintro _ _ ⟨v363, v365, rfl, rfl, h364, h366⟩
     rintro _ _ ⟨v381, v383, rfl, rfl, h382, h384⟩
     rintro _ _ ⟨v381, v383, rfl, rfl, h382, h384⟩
     intro hU hUp
     refine W_call call34 rfl rfl rfl (fun w ht => by have h := m_large_Rat_Sub_c (hm := hc354) h364 h366 h382 h384 ht; exact h) ?_
     rintro _ H391 _ ⟨hle392, v387, v389, rfl, rfl, h388, h390⟩
     exact W_end (OneT_end [] hle392 ⟨v387, v389, rfl, rfl, (h388), (h390)⟩)
    ·intro HX hX X Rest hR
     rintro _ _ ⟨v387, v389, rfl, rfl, h388, h390⟩
     rintro _ _ ⟨v387, v389, rfl, rfl, h388, h390⟩
     intro hU hUp
     refine W_call call26 rfl rfl rfl (fun w ht => by have h := m_forecast_text_c (hm := hc362) h388 h390 ht; exact h) ?_
     rintro _ _ _ ⟨rfl, rfl, rfl⟩
     exact W_end (OneT_end [] (Hp.le_refl _) ⟨rfl, rfl⟩)
    ·intro HX hX X Rest hR
     rintro _ _ ⟨rfl, rfl⟩
     intro hU hUp
     refine W_move rfl rfl rfl ?_
     exact W_end (OneT_end [] (Hp.le_refl _) ⟨rfl, rfl⟩)
    ·intro HX hX X Rest hR
     rintro _ _ ⟨rfl, rfl⟩
     intro hU hUp
     refine W_extract rfl rfl rfl rfl ?_
     exact W_end (OneT_end [] (Hp.le_refl _) ⟨rfl, rfl⟩)
    ·intro HX hX X Rest hR
     rintro _ _ ⟨rfl, rfl⟩
     intro hU hUp
     refine W_extract rfl rfl rfl rfl ?_
     exact W_end (OneT_end [] (Hp.le_refl _) ⟨rfl, rfl⟩)
    ·intro HX hX X Rest hR
     rintro _ _ ⟨rfl, rfl⟩
     rintro _ _ ⟨rfl, rfl⟩
     rintro _ _ ⟨rfl, rfl⟩
     rintro _ _ ⟨v363, v365, rfl, rfl, h364, h366⟩
     rintro _ _ ⟨rfl, rfl⟩
     rintro _ _ ⟨rfl, rfl⟩
     rintro _ _ ⟨v369, v371, rfl, rfl, h370, h372⟩
     rintro _ _ ⟨v375, v377, rfl, rfl, h376, h378⟩
     rintro _ _ ⟨rfl, rfl⟩
     rintro _ _ ⟨v381, v383, rfl, rfl, h382, h384⟩
     rintro _ _ ⟨v387, v389, rfl, rfl, h388, h390⟩
     rintro _ _ ⟨rfl, rfl⟩
     rintro _ _ ⟨rfl, rfl⟩
     rintro _ _ ⟨rfl, rfl⟩
     intro hU hUp
     refine W_assign rfl rfl rfl ?_
     exact W_end (OneT_end [] (Hp.le_refl _) ⟨rfl, rfl⟩)
    intro H393 hle394
    rintro _ _ ⟨rfl, rfl⟩
    rintro _ _ ⟨v363, v365, rfl, rfl, h364, h366⟩
    rintro _ _ ⟨rfl, rfl⟩
    rintro _ _ ⟨rfl, rfl⟩
    rintro _ _ ⟨v369, v371, rfl, rfl, h370, h372⟩
    rintro _ _ ⟨v375, v377, rfl, rfl, h376, h378⟩
    rintro _ _ ⟨rfl, rfl⟩
    rintro _ _ ⟨v381, v383, rfl, rfl, h382, h384⟩
    rintro _ _ ⟨v387, v389, rfl, rfl, h388, h390⟩
    rintro _ _ ⟨rfl, rfl⟩
    rintro _ _ ⟨rfl, rfl⟩
    rintro _ _ ⟨rfl, rfl⟩
    rintro _ _ ⟨rfl, rfl⟩
    rintro _ _ ⟨rfl, rfl⟩
    refine W_assign rfl rfl rfl ?_
    refine W_end (E_then (C_region ?_))
    refine W_move rfl rfl rfl ?_
    refine W_move rfl rfl rfl ?_
    refine W_buildSlice (α := ByteArray) (css := [[.string (r361.1)]]) (zs := [.string (⟨#[]⟩)]) (out := [.string (r361.1)]) (ys := [r361.1]) rfl rfl rfl ⟨rfl, trivial⟩ runUnderlying33 sizeOf25 rfl zeroValue25 (by kernel_rfl) rfl rfl rfl rfl ⟨[.string (r361.1)], [], rfl, rfl, rfl⟩ rfl ?_
    intro b395 v396 H397 hv398 hle399 h400
    have hc401 : Value.cap' v396 = ([r361.1]).length := by rw [hv398]; rfl
    obtain ⟨hz402, hm⟩ := need_some hm
    refine W_appendO (α := ByteArray) (l := l306) (ys := [r361.1]) rfl rfl underlying33 ⟨_, rfl, rfl, rfl, rfl⟩ rfl rfl rfl rfl rfl ((hr307.mono hle394).mono hle399) h400 hz402 ?_
    intro v403 xs404 hr405
    refine W_assign rfl rfl rfl ?_
    refine W_end (E_normal_block (E_then (C_region ?_)))
    refine W_bin rfl rfl rfl rfl rfl ?_
    refine W_move rfl rfl rfl ?_
    refine W_end ?_
    exact E_keepJ (E_back (Nat.lt_succ_self _) ⟨k119 + 1, zs315, (l306 ++ ([r361.1])), v403, xs404, hd318, rfl, (by rw [hn312]; exact hm), hr405, (Hp.le_trans (Hp.le_trans hle309 hle394) hle399), rfl, rfl⟩) (List.Perm.refl _) ⟨rfl, rfl, rfl, rfl, rfl, (congrArg (fun z => some (Value.int .i64 z)) (i64_succ hy316 (((h0.mono hle115).mono hle309)).lenMax)), trivial⟩
   ·obtain rfl := rng_f hd317 hb319
    have hm : (some (l306, 0)) = some r := hm
    refine C_exit (E_exit_then (E_exit_then (E_exit_hit (E_then (C_seq (C_region ?_))))))
    refine W_move rfl rfl rfl ?_
    refine W_assign rfl rfl rfl ?_
    refine W_assign rfl rfl rfl ?_
    refine W_end (E_then (C_ret ?_))
    obtain rfl := Option.some.inj hm
    refine E_drop (List.Sublist.cons_cons _ (List.Sublist.cons _ (List.Sublist.cons _ (List.Sublist.refl _)))) ?_
    refine E_weak (Hp.le_trans hle115 hle309) ?_
    exact end2 rfl rfl rfl ⟨rfl, v304, xs305, rfl, rfl, (hr307).toF⟩

theorem m_rat_op__large_Rat_Mul_c {B : Nat} {w0 w : World} [Tabs B w0] {H : Hp} {M : List Res} {p0_a : ByteArray} {p1_b : ByteArray} {r : ByteArray × Int} (hm : m_rat_op__large_Rat_Mul p0_a p1_b = some r) (ht : St B w0 H (M) w) :
  Calls prog 32 [.string (p0_a), .string (p1_b), .func (.func 29) [].toArray [].toArray].toArray w (Ret B w0 fun H' M' v => H = H' ∧ M = M' ∧ .tuple #[.string (r.1), .int .i64 (r.2)] = v) := by
 unfold m_rat_op__large_Rat_Mul at hm
 refine enter func32 rfl rfl rfl ht ?_
 refine C_seq (C_region ?_)
 refine W_assign rfl rfl rfl ?_
 refine W_assign rfl rfl rfl ?_
 refine W_end (E_then (C_seq (C_seq (C_region ?_))))
 refine W_move rfl rfl rfl ?_
 refine W_move rfl rfl rfl ?_
 refine W_buildSliceO (α := ByteArray) (css := [[.string (p0_a)], [.string (p1_b)]]) (zs := [.string (⟨#[]⟩), .string (⟨#[]⟩)]) (out := [.string (p0_a), .string (p1_b)]) (ys := [p0_a, p1_b]) rfl rfl rfl ⟨rfl, rfl, trivial⟩ runUnderlying33 sizeOf25 rfl zeroValue25 (by kernel_rfl) rfl rfl rfl rfl ⟨[.string (p0_a)], [.string (p1_b)], rfl, rfl, ⟨[.string (p1_b)], [], rfl, rfl, rfl⟩⟩ rfl ?_
 intro v101 xs102 hr103
 obtain ⟨r104, hc105, hm⟩ := bind_some hm
 refine W_call call35 rfl rfl rfl (fun w ht => by obtain ⟨H0_, hl0_, ht0_, hr0_, bk0_⟩ := ht.lendRow hr103 rfl; have h := m_rat_CheckAll_c (hm := hc105) hr0_ ht0_; exact lend_back bk0_ (h)) ?_
 rintro _ _ _ ⟨rfl, ⟨_, rfl, rfl, rfl⟩⟩
 refine W_assign rfl rfl rfl ?_
 refine W_end (E_then (C_seq (C_region ?_)))
 refine W_move rfl rfl rfl ?_
 refine W_bin rfl rfl rfl rfl rfl ?_
 refine W_end (E_then ?_)
 refine C_cond (b := !decide (r104 = 0)) rfl (fun hb106 => ?_) (fun hb106 => ?_)
 ·have hm := ite_t' hb106 hm
  refine C_seq (C_region ?_)
  refine W_move rfl rfl rfl ?_
  refine W_assign rfl rfl rfl ?_
  refine W_assign rfl rfl rfl ?_
  refine W_end (E_then (C_ret (E_ret_then ?_)))
  obtain rfl := Option.some.inj hm
  refine E_drop (List.Sublist.cons _ (List.Sublist.refl _)) ?_
  refine E_weak (Hp.le_refl _) ?_
  exact end2 rfl rfl rfl ⟨rfl, rfl, rfl⟩
 ·have hm := ite_f' hb106 hm
  refine C_skip (E_then (C_seq (C_region ?_)))
  refine W_move rfl rfl rfl ?_
  refine W_move rfl rfl rfl ?_
  obtain ⟨r107, hc108, hm⟩ := bind_some hm
  refine W_call call37 rfl rfl rfl (fun w ht => by have h := m_large_Parse_c (hm := hc108)  ht; exact h) ?_
  rintro _ H113 _ ⟨hle114, v109, v111, rfl, rfl, h110, h112⟩
  refine W_move rfl rfl rfl ?_
  obtain ⟨r115, hc116, hm⟩ := bind_some hm
  refine W_call call37 rfl rfl rfl (fun w ht => by have h := m_large_Parse_c (hm := hc116)  ht; exact h) ?_
  rintro _ H121 _ ⟨hle122, v117, v119, rfl, rfl, h118, h120⟩
  obtain ⟨r123, hc124, hm⟩ := bind_some hm
  refine W_callv call29 rfl rfl rfl rfl (fun w ht => by have h := m_large_Rat_Mul_c (hm := hc124) (h110.mono hle122) (h112.mono hle122) h118 h120 ht; exact h) ?_
  rintro _ H129 _ ⟨hle130, v125, v127, rfl, rfl, h126, h128⟩
  obtain ⟨r131, hc132, hm⟩ := bind_some hm
  refine W_call call23 rfl rfl rfl (fun w ht => by have h := m_rat_text_c (hm := hc132) h126 h128 ht; exact h) ?_
  rintro _ _ _ ⟨rfl, rfl, rfl⟩
  refine W_extract rfl rfl rfl rfl ?_
  refine W_extract rfl rfl rfl rfl ?_
  refine W_assign rfl rfl rfl ?_
  refine W_assign rfl rfl rfl ?_
  refine W_end (E_then (C_ret ?_))
  obtain rfl := Option.some.inj hm
  refine E_drop (List.Sublist.cons _ (List.Sublist.refl _)) ?_
  refine E_weak (Hp.le_trans (Hp.le_trans hle114 hle122) hle130) ?_
  exact end2 rfl rfl rfl ⟨rfl, rfl, rfl⟩

theorem m_rat_Mul_c {B : Nat} {w0 w : World} [Tabs B w0] {H : Hp} {M : List Res} {p0_a : ByteArray} {p1_b : ByteArray} {r : ByteArray × Int} (hm : m_rat_Mul p0_a p1_b = some r) (ht : St B w0 H (M) w) :
  Calls prog 15 [.string (p0_a), .string (p1_b)].toArray w (Ret B w0 fun H' M' v => H = H' ∧ M = M' ∧ .tuple #[.string (r.1), .int .i64 (r.2)] = v) := by
 unfold m_rat_Mul at hm
 refine enter func15 rfl rfl rfl ht ?_
 refine C_seq (C_region ?_)
 refine W_assign rfl rfl rfl ?_
 refine W_assign rfl rfl rfl ?_
 refine W_end (E_then (C_seq (C_region ?_)))
 refine W_move rfl rfl rfl ?_
 refine W_move rfl rfl rfl ?_
 obtain ⟨r101, hc102, hm⟩ := bind_some hm
 refine W_call call32 rfl rfl rfl (fun w ht => by have h := m_rat_op__large_Rat_Mul_c (hm := hc102)  ht; exact h) ?_
 rintro _ _ _ ⟨rfl, rfl, rfl⟩
 refine W_extract rfl rfl rfl rfl ?_
 refine W_extract rfl rfl rfl rfl ?_
 refine W_assign rfl rfl rfl ?_
 refine W_assign rfl rfl rfl ?_
 refine W_end (E_then (C_ret ?_))
 obtain rfl := Option.some.inj hm
 refine E_weak (Hp.le_refl _) ?_
 exact end2 rfl rfl rfl ⟨rfl, rfl, rfl⟩

theorem m_gridhallkeep4_ForecastResiduals_c {B : Nat} {w0 w : World} [Tabs B w0] {H : Hp} {M : List Res} {p0_l : (List Int)} {v0 : Value} {r : Bool} (hm : m_gridhallkeep4_ForecastResiduals p0_l = some r) (h0 : RdS H v0 p0_l) (ht : St B w0 H (M) w) :
  Calls prog 4 [v0].toArray w (Ret B w0 fun H' M' v => H = H' ∧ M = M' ∧ .bool (r) = v) := by
 unfold m_gridhallkeep4_ForecastResiduals at hm
 refine enter func4 rfl rfl rfl ht ?_
 refine C_seq (C_region ?_)
 refine W_assign rfl rfl rfl ?_
 refine W_end (E_then (C_seq (C_region ?_)))
 refine W_move rfl rfl rfl ?_
 refine W_move rfl rfl rfl ?_
 refine W_lenR rfl rfl runUnderlying22 rfl h0 ?_
 refine W_min rfl rfl rfl rfl ?_
 obtain ⟨hz101, hm⟩ := need_some hm
 refine W_sliceR (α := Int) (l := 0) (h := (min (p0_l.length : Int) 12 : Int).toNat) (xs := p0_l) rfl rfl runUnderlying22 sizeOf3 rfl h0 (by omega) (by omega) (.inl rfl) (fun cap hcap => by rw [if_pos rfl]; exact (.inl ⟨rfl, rfl⟩)) (fun m hmm => (.inr ⟨_, _, _, rfl, rfl, by omega, by omega, rfl⟩)) (.inl ⟨rfl, rfl⟩) ?_
 intro v102 h103 hc104
 refine W_assign rfl rfl rfl ?_
 refine W_end (E_then (C_seq (C_region ?_)))
 refine W_move rfl rfl rfl ?_
 obtain ⟨r105, hc106, hm⟩ := bind_some hm
 refine W_call call14 rfl rfl rfl (fun w ht => by have h := m_forecast_Residuals_c (hm := hc106) h103 ht; exact h) ?_
 rintro _ _ _ ⟨rfl, v107, xs108, rfl, rfl, h109⟩
 have h109 := h109 H
 refine W_move rfl rfl rfl ?_
 refine W_extract rfl rfl rfl rfl ?_
 refine W_extract rfl rfl rfl rfl ?_
 refine W_assign rfl rfl rfl ?_
 refine W_assign rfl rfl rfl ?_
 refine W_end (E_then (C_seq (C_seq (C_region ?_))))
 refine W_move rfl rfl rfl ?_
 refine W_bin rfl rfl rfl rfl rfl ?_
 refine W_end (E_then ?_)
 refine C_cond (b := !decide (r105.2 = 0)) rfl (fun hb110 => ?_) (fun hb110 => ?_)
 ·have hm := ite_t' hb110 hm
  obtain ⟨r114, hc115, hm⟩ := bind_some hm
  refine C_seq_join (fun H' M' L' => H = H' ∧ M = M' ∧ [(2, .bool (r114 && (decide ((r105.1.length : Int) = 0))))] = L') ?_ (fun J116 => ?_)
  ·rintro _ _ _ ⟨rfl, rfl, rfl⟩
   refine C_ret (E_ret_then ?_)
   obtain rfl := Option.some.inj hm
   refine E_weak (Hp.le_refl _) ?_
   exact end1 rfl rfl ⟨rfl, rfl, rfl⟩
  ·refine C_region ?_
   refine W_call call13 rfl rfl rfl (fun w ht => by have h := m_gridhallkeep4_forecastFact_c (hm := hc115)  ht; exact h) ?_
   rintro _ _ _ ⟨rfl, rfl, rfl⟩
   refine W_move rfl rfl rfl ?_
   cases hb117 : (r114)
   ·refine W_no rfl rfl rfl ?_
    refine W_no rfl rfl rfl ?_
    refine W_no rfl rfl rfl ?_
    refine W_pick rfl rfl rfl rfl ?_
    refine W_assign rfl rfl rfl ?_
    refine W_end ?_
    refine E_drop (List.Sublist.cons _ (List.Sublist.refl _)) ?_
    exact E_keepJ (J116 _ _ _ ⟨rfl, rfl, rfl⟩) (List.Perm.refl _) ⟨(by show some (Value.bool (false)) = some (Value.bool (r114 && (decide ((r105.1.length : Int) = 0)))); first | (simp only [hb110, hb117, Bool.and_true, Bool.true_and, Bool.false_and, Bool.and_false, Bool.or_true, Bool.true_or, Bool.or_false, Bool.false_or, Bool.not_true, Bool.not_false]; done) | (simp only [hb110, hb117]; first | done | simp only [Bool.and_true, Bool.true_and, Bool.false_and, Bool.and_false, Bool.or_true, Bool.true_or, Bool.or_false, Bool.false_or, Bool.not_true, Bool.not_false])), trivial⟩
   ·refine W_move rfl rfl rfl ?_
    refine W_lenO (List.mem_cons_self ..) rfl rfl runUnderlying33 rfl ?_
    refine W_bin rfl rfl rfl rfl rfl ?_
    refine W_pick rfl rfl rfl rfl ?_
    refine W_assign rfl rfl rfl ?_
    refine W_end ?_
    refine E_drop (List.Sublist.cons _ (List.Sublist.refl _)) ?_
    exact E_keepJ (J116 _ _ _ ⟨rfl, rfl, rfl⟩) (List.Perm.refl _) ⟨(by show some (Value.bool (decide ((r105.1.length : Int) = 0))) = some (Value.bool (r114 && (decide ((r105.1.length : Int) = 0)))); first | (simp only [hb110, hb117, Bool.and_true, Bool.true_and, Bool.false_and, Bool.and_false, Bool.or_true, Bool.true_or, Bool.or_false, Bool.false_or, Bool.not_true, Bool.not_false]; done) | (simp only [hb110, hb117]; first | done | simp only [Bool.and_true, Bool.true_and, Bool.false_and, Bool.and_false, Bool.or_true, Bool.true_or, Bool.or_false, Bool.false_or, Bool.not_true, Bool.not_false])), trivial⟩
 ·have hm := ite_f' hb110 hm
  refine C_skip (E_then (C_seq (C_seq (C_region ?_))))
  refine W_move rfl rfl rfl ?_
  refine W_lenO (List.mem_cons_self ..) rfl rfl runUnderlying33 rfl ?_
  refine W_move rfl rfl rfl ?_
  refine W_lenR rfl rfl runUnderlying22 rfl h103 ?_
  refine W_bin rfl rfl rfl rfl rfl ?_
  refine W_end (E_then ?_)
  refine C_cond (b := !decide ((r105.1.length : Int) = ((slc p0_l 0 ((min (p0_l.length : Int) 12 : Int).toNat)).length : Int))) rfl (fun hb118 => ?_) (fun hb118 => ?_)
  ·have hm := ite_t' hb118 hm
   refine C_seq (C_region ?_)
   refine W_assign rfl rfl rfl ?_
   refine W_end (E_then (C_ret (E_ret_then ?_)))
   obtain rfl := Option.some.inj hm
   refine E_drop (List.Sublist.cons _ (List.Sublist.refl _)) ?_
   refine E_weak (Hp.le_refl _) ?_
   exact end1 rfl rfl ⟨rfl, rfl, rfl⟩
  ·have hm := ite_f' hb118 hm
   refine C_skip (E_then (C_seq (C_region ?_)))
   refine W_assign rfl rfl rfl ?_
   refine W_end (E_then (C_seq (C_seq (C_region ?_))))
   refine W_move rfl rfl rfl ?_
   refine W_lenO (List.mem_cons_self ..) rfl rfl runUnderlying33 rfl ?_
   refine W_move rfl rfl rfl ?_
   refine W_end (E_then (C_block ?_))
   refine C_rowMax (List.mem_cons_self ..) (fun hmx182 => ?_)
   refine C_nilRow 25 (Rep.sz ByteArray) ?_
   refine C_keep (L' := [(3, v107), (5, (.slice none 0 0)), (39, v107), (40, .int .i64 ((r105.1.length : Int))), (41, .int .i64 (((0 : Nat) : Int)))]) ⟨rfl, rfl, rfl, rfl, rfl, trivial⟩ (List.Perm.refl _) ?_
   refine C_loop (fun n H' M' L' => ∃ (k119 : Nat) (zs184' : List ByteArray), ∃ l174 : List ByteArray, ∃ v172 : Value, ∃ xs173 : List Value, (r105.1).drop k119 = zs184' ∧ zs184'.length = n ∧ forI (fun k y s178 n => m_gridhallkeep4_ForecastResiduals_b1 k y s178 n) (fun s178 => (m_rat_Sum r105.1).bind fun r209 => (m_rat_Sum s178).bind fun r211 => (m_gridhallkeep4_forecastFact).bind fun r219 => some ((((r219 && (decide (r209.2 = 0))) && (decide (r211.2 = 0))) && (decide (r209.1 = (⟨#[48]⟩)))) && (decide (r211.1 = (⟨#[48]⟩))))) k119 zs184' l174 = some r ∧ Rw H' v172 xs173 l174 ∧ H.le H' ∧ .row v172 25 (Rep.sz ByteArray) l174.length xs173 :: .row v107 25 (Rep.sz ByteArray) r105.1.length xs108 :: M = M' ∧ [(3, v107), (5, v172), (39, v107), (40, .int .i64 ((r105.1.length : Int))), (41, .int .i64 ((k119 : Int)))] = L') _ ⟨0, _, ([] : List ByteArray), (.slice none 0 0), ([]), rfl, rfl, hm, Rw.nil, (Hp.le_refl _), rfl, rfl⟩ ?_
   rintro _ H176 _ _ ⟨k119, zs184', l174, v172, xs173, hd186, rfl, hm, hr175, hle177, rfl, rfl⟩
   refine C_seq (C_region ?_)
   refine W_bin rfl rfl rfl rfl rfl ?_
   refine W_end (E_then (C_seq ?_))
   refine C_cond (b := decide ((k119 : Int) < (r105.1.length : Int))) rfl (fun hb188 => ?_) (fun hb188 => ?_)
   ·obtain ⟨y183, zs184, rfl, hy185, hd187⟩ := rng_t hd186 hb188
    have hm : m_gridhallkeep4_ForecastResiduals_b1 k119 y183 l174 (forI (fun k y s178 n => m_gridhallkeep4_ForecastResiduals_b1 k y s178 n) (fun s178 => (m_rat_Sum r105.1).bind fun r209 => (m_rat_Sum s178).bind fun r211 => (m_gridhallkeep4_forecastFact).bind fun r219 => some ((((r219 && (decide (r209.2 = 0))) && (decide (r211.2 = 0))) && (decide (r209.1 = (⟨#[48]⟩)))) && (decide (r211.1 = (⟨#[48]⟩))))) (k119 + 1) zs184) = some r := hm
    generalize hn180 : forI (fun k y s178 n => m_gridhallkeep4_ForecastResiduals_b1 k y s178 n) (fun s178 => (m_rat_Sum r105.1).bind fun r209 => (m_rat_Sum s178).bind fun r211 => (m_gridhallkeep4_forecastFact).bind fun r219 => some ((((r219 && (decide (r209.2 = 0))) && (decide (r211.2 = 0))) && (decide (r209.1 = (⟨#[48]⟩)))) && (decide (r211.1 = (⟨#[48]⟩))))) (k119 + 1) zs184 = nx179 at hm
    unfold m_gridhallkeep4_ForecastResiduals_b1 at hm
    refine C_skip (E_then (C_seq (C_block (C_seq (C_region ?_)))))
    refine W_move rfl rfl rfl ?_
    refine W_indexO (List.mem_cons_of_mem _ (List.mem_cons_self ..)) rfl rfl runUnderlying33 sizeOf25 rfl rfl (Int.natCast_nonneg _) (List.getElem?_eq_some_iff.1 hy185).1 ?_
    obtain ⟨_, rfl, hg189⟩ := (h109).elem hy185
    refine W_load rfl rfl isAgg25 rfl (row_one0 (List.mem_cons_of_mem _ (List.mem_cons_self ..)) hg189 rfl) ?_
    refine W_assign rfl rfl rfl ?_
    refine W_assign rfl rfl rfl ?_
    refine W_end (E_then (C_seq (C_region ?_)))
    refine W_move rfl rfl rfl ?_
    obtain ⟨r190, hc191, hm⟩ := bind_some hm
    refine W_call call9 rfl rfl rfl (fun w ht => by have h := m_rat_Of_c (hm := hc191)  ht; exact h) ?_
    rintro _ _ _ ⟨rfl, rfl, rfl⟩
    refine W_move rfl rfl rfl ?_
    refine W_extract rfl rfl rfl rfl ?_
    refine W_extract rfl rfl rfl rfl ?_
    refine W_assign rfl rfl rfl ?_
    refine W_assign rfl rfl rfl ?_
    refine W_end (E_then (C_seq (C_region ?_)))
    refine W_move rfl rfl rfl ?_
    refine W_move rfl rfl rfl ?_
    obtain ⟨r192, hc193, hm⟩ := bind_some hm
    refine W_call call15 rfl rfl rfl (fun w ht => by have h := m_rat_Mul_c (hm := hc193)  ht; exact h) ?_
    rintro _ _ _ ⟨rfl, rfl, rfl⟩
    refine W_move rfl rfl rfl ?_
    refine W_extract rfl rfl rfl rfl ?_
    refine W_extract rfl rfl rfl rfl ?_
    refine W_assign rfl rfl rfl ?_
    refine W_assign rfl rfl rfl ?_
    refine W_end (E_then (C_seq ?_))
    refine C_seq_join (fun H' M' L' => H176 = H' ∧ .row v172 25 (Rep.sz ByteArray) l174.length xs173 :: .row v107 25 (Rep.sz ByteArray) r105.1.length xs108 :: M = M' ∧ [(3, v107), (5, v172), (10, .string (r192.1)), (39, v107), (40, .int .i64 ((r105.1.length : Int))), (41, .int .i64 ((k119 : Int))), (62, .bool ((!decide (r190.2 = 0)) || (!decide (r192.2 = 0))))] = L') ?_ (fun J195 => ?_)
    ·rintro _ _ _ ⟨rfl, rfl, rfl⟩
     refine C_cond (b := (!decide (r190.2 = 0)) || (!decide (r192.2 = 0))) rfl (fun hb196 => ?_) (fun hb196 => ?_)
     ·have hm := ite_t' hb196 hm
      refine C_seq (C_region ?_)
      refine W_assign rfl rfl rfl ?_
      refine W_end (E_then (C_ret (E_ret_then (E_ret_block (E_ret_then (E_ret_then (E_ret_block (E_ret_then ?_))))))))
      obtain rfl := Option.some.inj hm
      refine E_drop (List.Sublist.cons _ (List.Sublist.cons _ (List.Sublist.refl _))) ?_
      refine E_weak hle177 ?_
      exact end1 rfl rfl ⟨rfl, rfl, rfl⟩
     ·have hm := ite_f' hb196 hm
      refine C_skip (E_then (C_region ?_))
      refine W_move rfl rfl rfl ?_
      refine W_move rfl rfl rfl ?_
      refine W_buildSlice (α := ByteArray) (css := [[.string (r192.1)]]) (zs := [.string (⟨#[]⟩)]) (out := [.string (r192.1)]) (ys := [r192.1]) rfl rfl rfl ⟨rfl, trivial⟩ runUnderlying33 sizeOf25 rfl zeroValue25 (by kernel_rfl) rfl rfl rfl rfl ⟨[.string (r192.1)], [], rfl, rfl, rfl⟩ rfl ?_
      intro b197 v198 H199 hv200 hle201 h202
      have hc203 : Value.cap' v198 = ([r192.1]).length := by rw [hv200]; rfl
      obtain ⟨hz204, hm⟩ := need_some hm
      refine W_appendO (α := ByteArray) (l := l174) (ys := [r192.1]) rfl rfl underlying33 ⟨_, rfl, rfl, rfl, rfl⟩ rfl rfl rfl rfl rfl (hr175.mono hle201) h202 hz204 ?_
      intro v205 xs206 hr207
      refine W_assign rfl rfl rfl ?_
      refine W_end (E_normal_block (E_then (C_region ?_)))
      refine W_bin rfl rfl rfl rfl rfl ?_
      refine W_move rfl rfl rfl ?_
      refine W_end ?_
      exact E_keepJ (E_back (Nat.lt_succ_self _) ⟨k119 + 1, zs184, (l174 ++ ([r192.1])), v205, xs206, hd187, rfl, (by rw [hn180]; exact hm), hr207, (Hp.le_trans hle177 hle201), rfl, rfl⟩) (List.Perm.refl _) ⟨rfl, rfl, rfl, rfl, (congrArg (fun z => some (Value.int .i64 z)) (i64_succ hy185 hmx182)), trivial⟩
    ·refine C_region ?_
     refine W_move rfl rfl rfl ?_
     refine W_bin rfl rfl rfl rfl rfl ?_
     refine W_move rfl rfl rfl ?_
     cases hb208 : (decide (r190.2 = 0))
     ·refine W_no rfl rfl rfl ?_
      refine W_no rfl rfl rfl ?_
      refine W_pick rfl rfl rfl rfl ?_
      refine W_end ?_
      exact E_keepJ (J195 _ _ _ ⟨rfl, rfl, rfl⟩) (List.Perm.refl _) ⟨rfl, rfl, rfl, rfl, rfl, rfl, (by show some (Value.bool (true)) = some (Value.bool ((!decide (r190.2 = 0)) || (!decide (r192.2 = 0)))); first | (simp only [hb110, hb118, hb208, Bool.and_true, Bool.true_and, Bool.false_and, Bool.and_false, Bool.or_true, Bool.true_or, Bool.or_false, Bool.false_or, Bool.not_true, Bool.not_false]; done) | (simp only [hb110, hb118, hb208]; first | done | simp only [Bool.and_true, Bool.true_and, Bool.false_and, Bool.and_false, Bool.or_true, Bool.true_or, Bool.or_false, Bool.false_or, Bool.not_true, Bool.not_false])), trivial⟩
     ·refine W_move rfl rfl rfl ?_
      refine W_bin rfl rfl rfl rfl rfl ?_
      refine W_pick rfl rfl rfl rfl ?_
      refine W_end ?_
      exact E_keepJ (J195 _ _ _ ⟨rfl, rfl, rfl⟩) (List.Perm.refl _) ⟨rfl, rfl, rfl, rfl, rfl, rfl, (by show some (Value.bool (!decide (r192.2 = 0))) = some (Value.bool ((!decide (r190.2 = 0)) || (!decide (r192.2 = 0)))); first | (simp only [hb110, hb118, hb208, Bool.and_true, Bool.true_and, Bool.false_and, Bool.and_false, Bool.or_true, Bool.true_or, Bool.or_false, Bool.false_or, Bool.not_true, Bool.not_false]; done) | (simp only [hb110, hb118, hb208]; first | done | simp only [Bool.and_true, Bool.true_and, Bool.false_and, Bool.and_false, Bool.or_true, Bool.true_or, Bool.or_false, Bool.false_or, Bool.not_true, Bool.not_false])), trivial⟩
   ·obtain rfl := rng_f hd186 hb188
    have hm : ((m_rat_Sum r105.1).bind fun r209 => (m_rat_Sum l174).bind fun r211 => (m_gridhallkeep4_forecastFact).bind fun r219 => some ((((r219 && (decide (r209.2 = 0))) && (decide (r211.2 = 0))) && (decide (r209.1 = (⟨#[48]⟩)))) && (decide (r211.1 = (⟨#[48]⟩))))) = some r := hm
    refine C_exit (E_exit_then (E_exit_then (E_exit_hit (E_then (C_seq (C_region ?_))))))
    refine W_move rfl rfl rfl ?_
    refine W_perm (List.Perm.swap _ _ _) ?_
    obtain ⟨r209, hc210, hm⟩ := bind_some hm
    refine W_call call16 rfl rfl rfl (fun w ht => by obtain ⟨H0_, hl0_, ht0_, hr0_, bk0_⟩ := ht.lendRow (h109.mono hle177) rfl; have h := m_rat_Sum_c (hm := hc210) hr0_ ht0_; exact lend_back bk0_ (h)) ?_
    rintro _ _ _ ⟨rfl, ⟨_, rfl, rfl, rfl⟩⟩
    refine W_move rfl rfl rfl ?_
    refine W_extract rfl rfl rfl rfl ?_
    refine W_extract rfl rfl rfl rfl ?_
    refine W_assign rfl rfl rfl ?_
    refine W_assign rfl rfl rfl ?_
    refine W_end (E_then (C_seq (C_region ?_)))
    refine W_move rfl rfl rfl ?_
    refine W_perm (List.Perm.swap _ _ _) ?_
    obtain ⟨r211, hc212, hm⟩ := bind_some hm
    refine W_call call16 rfl rfl rfl (fun w ht => by obtain ⟨H0_, hl0_, ht0_, hr0_, bk0_⟩ := ht.lendRow hr175 rfl; have h := m_rat_Sum_c (hm := hc212) hr0_ ht0_; exact lend_back bk0_ (h)) ?_
    rintro _ _ _ ⟨rfl, ⟨_, rfl, rfl, rfl⟩⟩
    refine W_move rfl rfl rfl ?_
    refine W_extract rfl rfl rfl rfl ?_
    refine W_extract rfl rfl rfl rfl ?_
    refine W_assign rfl rfl rfl ?_
    refine W_assign rfl rfl rfl ?_
    refine W_end (E_then ?_)
    obtain ⟨r219, hc220, hm⟩ := bind_some hm
    refine C_seq_join (fun H' M' L' => H176 = H' ∧ M = M' ∧ [(2, .bool ((((r219 && (decide (r209.2 = 0))) && (decide (r211.2 = 0))) && (decide (r209.1 = (⟨#[48]⟩)))) && (decide (r211.1 = (⟨#[48]⟩)))))] = L') ?_ (fun J221 => ?_)
    ·rintro _ _ _ ⟨rfl, rfl, rfl⟩
     refine C_ret ?_
     obtain rfl := Option.some.inj hm
     refine E_weak hle177 ?_
     exact end1 rfl rfl ⟨rfl, rfl, rfl⟩
    ·refine C_region ?_
     refine W_call call13 rfl rfl rfl (fun w ht => by have h := m_gridhallkeep4_forecastFact_c (hm := hc220)  ht; exact h) ?_
     rintro _ _ _ ⟨rfl, rfl, rfl⟩
     refine W_move rfl rfl rfl ?_
     cases hb222 : (r219)
     ·refine W_no rfl rfl rfl ?_
      refine W_no rfl rfl rfl ?_
      refine W_pick rfl rfl rfl rfl ?_
      refine W_move rfl rfl rfl ?_
      refine W_no rfl rfl rfl ?_
      refine W_no rfl rfl rfl ?_
      refine W_pick rfl rfl rfl rfl ?_
      refine W_move rfl rfl rfl ?_
      refine W_no rfl rfl rfl ?_
      refine W_no rfl rfl rfl ?_
      refine W_pick rfl rfl rfl rfl ?_
      refine W_move rfl rfl rfl ?_
      refine W_no rfl rfl rfl ?_
      refine W_no rfl rfl rfl ?_
      refine W_pick rfl rfl rfl rfl ?_
      refine W_assign rfl rfl rfl ?_
      refine W_end ?_
      refine E_drop (List.Sublist.cons _ (List.Sublist.cons _ (List.Sublist.refl _))) ?_
      exact E_keepJ (J221 _ _ _ ⟨rfl, rfl, rfl⟩) (List.Perm.refl _) ⟨(by show some (Value.bool (false)) = some (Value.bool ((((r219 && (decide (r209.2 = 0))) && (decide (r211.2 = 0))) && (decide (r209.1 = (⟨#[48]⟩)))) && (decide (r211.1 = (⟨#[48]⟩))))); first | (simp only [hb110, hb118, hb222, Bool.and_true, Bool.true_and, Bool.false_and, Bool.and_false, Bool.or_true, Bool.true_or, Bool.or_false, Bool.false_or, Bool.not_true, Bool.not_false]; done) | (simp only [hb110, hb118, hb222]; first | done | simp only [Bool.and_true, Bool.true_and, Bool.false_and, Bool.and_false, Bool.or_true, Bool.true_or, Bool.or_false, Bool.false_or, Bool.not_true, Bool.not_false])), trivial⟩
     ·refine W_move rfl rfl rfl ?_
      refine W_bin rfl rfl rfl rfl rfl ?_
      refine W_pick rfl rfl rfl rfl ?_
      refine W_move rfl rfl rfl ?_
      cases hb223 : (decide (r209.2 = 0))
      ·refine W_no rfl rfl rfl ?_
       refine W_no rfl rfl rfl ?_
       refine W_pick rfl rfl rfl rfl ?_
       refine W_move rfl rfl rfl ?_
       refine W_no rfl rfl rfl ?_
       refine W_no rfl rfl rfl ?_
       refine W_pick rfl rfl rfl rfl ?_
       refine W_move rfl rfl rfl ?_
       refine W_no rfl rfl rfl ?_
       refine W_no rfl rfl rfl ?_
       refine W_pick rfl rfl rfl rfl ?_
       refine W_assign rfl rfl rfl ?_
       refine W_end ?_
       refine E_drop (List.Sublist.cons _ (List.Sublist.cons _ (List.Sublist.refl _))) ?_
       exact E_keepJ (J221 _ _ _ ⟨rfl, rfl, rfl⟩) (List.Perm.refl _) ⟨(by show some (Value.bool (false)) = some (Value.bool ((((r219 && (decide (r209.2 = 0))) && (decide (r211.2 = 0))) && (decide (r209.1 = (⟨#[48]⟩)))) && (decide (r211.1 = (⟨#[48]⟩))))); first | (simp only [hb110, hb118, hb222, hb223, Bool.and_true, Bool.true_and, Bool.false_and, Bool.and_false, Bool.or_true, Bool.true_or, Bool.or_false, Bool.false_or, Bool.not_true, Bool.not_false]; done) | (simp only [hb110, hb118, hb222, hb223]; first | done | simp only [Bool.and_true, Bool.true_and, Bool.false_and, Bool.and_false, Bool.or_true, Bool.true_or, Bool.or_false, Bool.false_or, Bool.not_true, Bool.not_false])), trivial⟩
      ·refine W_move rfl rfl rfl ?_
       refine W_bin rfl rfl rfl rfl rfl ?_
       refine W_pick rfl rfl rfl rfl ?_
       refine W_move rfl rfl rfl ?_
       cases hb224 : (decide (r211.2 = 0))
       ·refine W_no rfl rfl rfl ?_
        refine W_no rfl rfl rfl ?_
        refine W_pick rfl rfl rfl rfl ?_
        refine W_move rfl rfl rfl ?_
        refine W_no rfl rfl rfl ?_
        refine W_no rfl rfl rfl ?_
        refine W_pick rfl rfl rfl rfl ?_
        refine W_assign rfl rfl rfl ?_
        refine W_end ?_
        refine E_drop (List.Sublist.cons _ (List.Sublist.cons _ (List.Sublist.refl _))) ?_
        exact E_keepJ (J221 _ _ _ ⟨rfl, rfl, rfl⟩) (List.Perm.refl _) ⟨(by show some (Value.bool (false)) = some (Value.bool ((((r219 && (decide (r209.2 = 0))) && (decide (r211.2 = 0))) && (decide (r209.1 = (⟨#[48]⟩)))) && (decide (r211.1 = (⟨#[48]⟩))))); first | (simp only [hb110, hb118, hb222, hb223, hb224, Bool.and_true, Bool.true_and, Bool.false_and, Bool.and_false, Bool.or_true, Bool.true_or, Bool.or_false, Bool.false_or, Bool.not_true, Bool.not_false]; done) | (simp only [hb110, hb118, hb222, hb223, hb224]; first | done | simp only [Bool.and_true, Bool.true_and, Bool.false_and, Bool.and_false, Bool.or_true, Bool.true_or, Bool.or_false, Bool.false_or, Bool.not_true, Bool.not_false])), trivial⟩
       ·refine W_move rfl rfl rfl ?_
        refine W_bin rfl rfl rfl rfl rfl ?_
        refine W_pick rfl rfl rfl rfl ?_
        refine W_move rfl rfl rfl ?_
        cases hb225 : (decide (r209.1 = (⟨#[48]⟩)))
        ·refine W_no rfl rfl rfl ?_
         refine W_no rfl rfl rfl ?_
         refine W_pick rfl rfl rfl rfl ?_
         refine W_assign rfl rfl rfl ?_
         refine W_end ?_
         refine E_drop (List.Sublist.cons _ (List.Sublist.cons _ (List.Sublist.refl _))) ?_
         exact E_keepJ (J221 _ _ _ ⟨rfl, rfl, rfl⟩) (List.Perm.refl _) ⟨(by show some (Value.bool (false)) = some (Value.bool ((((r219 && (decide (r209.2 = 0))) && (decide (r211.2 = 0))) && (decide (r209.1 = (⟨#[48]⟩)))) && (decide (r211.1 = (⟨#[48]⟩))))); first | (simp only [hb110, hb118, hb222, hb223, hb224, hb225, Bool.and_true, Bool.true_and, Bool.false_and, Bool.and_false, Bool.or_true, Bool.true_or, Bool.or_false, Bool.false_or, Bool.not_true, Bool.not_false]; done) | (simp only [hb110, hb118, hb222, hb223, hb224, hb225]; first | done | simp only [Bool.and_true, Bool.true_and, Bool.false_and, Bool.and_false, Bool.or_true, Bool.true_or, Bool.or_false, Bool.false_or, Bool.not_true, Bool.not_false])), trivial⟩
        ·refine W_move rfl rfl rfl ?_
         refine W_bin rfl rfl rfl rfl rfl ?_
         refine W_pick rfl rfl rfl rfl ?_
         refine W_assign rfl rfl rfl ?_
         refine W_end ?_
         refine E_drop (List.Sublist.cons _ (List.Sublist.cons _ (List.Sublist.refl _))) ?_
         exact E_keepJ (J221 _ _ _ ⟨rfl, rfl, rfl⟩) (List.Perm.refl _) ⟨(by show some (Value.bool (decide (r211.1 = (⟨#[48]⟩)))) = some (Value.bool ((((r219 && (decide (r209.2 = 0))) && (decide (r211.2 = 0))) && (decide (r209.1 = (⟨#[48]⟩)))) && (decide (r211.1 = (⟨#[48]⟩))))); first | (simp only [hb110, hb118, hb222, hb223, hb224, hb225, Bool.and_true, Bool.true_and, Bool.false_and, Bool.and_false, Bool.or_true, Bool.true_or, Bool.or_false, Bool.false_or, Bool.not_true, Bool.not_false]; done) | (simp only [hb110, hb118, hb222, hb223, hb224, hb225]; first | done | simp only [Bool.and_true, Bool.true_and, Bool.false_and, Bool.and_false, Bool.or_true, Bool.true_or, Bool.or_false, Bool.false_or, Bool.not_true, Bool.not_false])), trivial⟩

theorem m_gridhallkeep4_ForecastExact_1_c {B : Nat} {w0 w : World} [Tabs B w0] {H : Hp} {M : List Res} {p0_x : ByteArray} {r : Bool} (hm : m_gridhallkeep4_ForecastExact_1 p0_x = r) (ht : St B w0 H (M) w) :
  Calls prog 18 [.string (p0_x)].toArray w (Ret B w0 fun H' M' v => H = H' ∧ M = M' ∧ .bool (r) = v) := by
 unfold m_gridhallkeep4_ForecastExact_1 at hm
 refine enter func18 rfl rfl rfl ht ?_
 refine C_seq (C_region ?_)
 refine W_assign rfl rfl rfl ?_
 refine W_end (E_then (C_seq (C_region ?_)))
 refine W_move rfl rfl rfl ?_
 refine W_bin rfl rfl rfl rfl rfl ?_
 refine W_assign rfl rfl rfl ?_
 refine W_end (E_then (C_ret ?_))
 obtain rfl := hm
 refine E_weak (Hp.le_refl _) ?_
 exact end1 rfl rfl ⟨rfl, rfl, rfl⟩

theorem m_slices_IndexFunc_api_Rat_api_Rat__gridhallkeep4_ForecastExact_1_c {B : Nat} {w0 w : World} [Tabs B w0] {H : Hp} {M : List Res} {p0_s : (List ByteArray)} {v0 : Value} {r : Int} (hm : m_slices_IndexFunc_api_Rat_api_Rat__gridhallkeep4_ForecastExact_1 p0_s = some r) (h0 : RdS H v0 p0_s) (ht : St B w0 H (M) w) :
  Calls prog 36 [v0, .func (.func 18) [].toArray [].toArray].toArray w (Ret B w0 fun H' M' v => H = H' ∧ M = M' ∧ .int .i64 (r) = v) := by
 unfold m_slices_IndexFunc_api_Rat_api_Rat__gridhallkeep4_ForecastExact_1 at hm
 refine enter func36 rfl rfl rfl ht ?_
 refine C_seq (C_region ?_)
 refine W_assign rfl rfl rfl ?_
 refine W_end (E_then (C_seq (C_seq (C_region ?_))))
 refine W_move rfl rfl rfl ?_
 refine W_lenR rfl rfl runUnderlying33 rfl h0 ?_
 refine W_move rfl rfl rfl ?_
 refine W_end (E_then (C_block ?_))
 refine C_keep (L' := [(0, v0), (1, .func (.func 18) [].toArray [].toArray), (7, .int .i64 ((p0_s.length : Int))), (8, .int .i64 (((0 : Nat) : Int)))]) ⟨rfl, rfl, rfl, rfl, trivial⟩ (List.Perm.refl _) ?_
 refine C_loop (fun n H' M' L' => ∃ (k101 : Nat) (zs119' : Nat), k101 + zs119' = ((p0_s.length : Int) : Int).toNat ∧ zs119' = n ∧ forN (fun k s114 n => m_slices_IndexFunc_api_Rat_api_Rat__gridhallkeep4_ForecastExact_1_b1 p0_s k n) (fun _ => some (-1)) zs119' k101 () = some r ∧ H.le H' ∧ M = M' ∧ [(0, v0), (1, .func (.func 18) [].toArray [].toArray), (7, .int .i64 ((p0_s.length : Int))), (8, .int .i64 ((k101 : Int)))] = L') _ ⟨0, _, Nat.zero_add _, rfl, hm, (Hp.le_refl _), rfl, rfl⟩ ?_
 rintro _ H112 _ _ ⟨k101, zs119', hd121, rfl, hm, hle113, rfl, rfl⟩
 refine C_seq (C_region ?_)
 refine W_bin rfl rfl rfl rfl rfl ?_
 refine W_end (E_then (C_seq ?_))
 refine C_cond (b := decide ((k101 : Int) < (p0_s.length : Int))) rfl (fun hb123 => ?_) (fun hb123 => ?_)
 ·obtain ⟨zs119, rfl, hd122, hy120⟩ := rngN_t hd121 hb123
  have hm : m_slices_IndexFunc_api_Rat_api_Rat__gridhallkeep4_ForecastExact_1_b1 p0_s k101 (forN (fun k s114 n => m_slices_IndexFunc_api_Rat_api_Rat__gridhallkeep4_ForecastExact_1_b1 p0_s k n) (fun _ => some (-1)) zs119 (k101 + 1)) = some r := hm
  generalize hn116 : forN (fun k s114 n => m_slices_IndexFunc_api_Rat_api_Rat__gridhallkeep4_ForecastExact_1_b1 p0_s k n) (fun _ => some (-1)) zs119 (k101 + 1) = nx115 at hm
  unfold m_slices_IndexFunc_api_Rat_api_Rat__gridhallkeep4_ForecastExact_1_b1 at hm
  refine C_skip (E_then (C_seq (C_block (C_seq (C_region ?_)))))
  refine W_move rfl rfl rfl ?_
  refine W_assign rfl rfl rfl ?_
  refine W_end (E_then (C_seq (C_region ?_)))
  refine W_move rfl rfl rfl ?_
  refine W_move rfl rfl rfl ?_
  refine W_move rfl rfl rfl ?_
  obtain ⟨y124, h125, he126, hm⟩ := idx_some hm
  obtain ⟨_, rfl, hc127⟩ := (h0).elem he126
  refine W_indexS rfl rfl runUnderlying33 sizeOf25 rfl (h0.mono hle113) rfl h125 he126 ?_
  refine W_load rfl rfl isAgg25 rfl (HCells.one (hc127.mono hle113) 0 rfl).at ?_
  refine W_callv call18 rfl rfl rfl rfl (fun w ht => by have h := m_gridhallkeep4_ForecastExact_1_c (hm := (rfl : m_gridhallkeep4_ForecastExact_1 y124 = _))  ht; exact h) ?_
  rintro _ _ _ ⟨rfl, rfl, rfl⟩
  refine W_end (E_then ?_)
  refine C_cond (b := (m_gridhallkeep4_ForecastExact_1 y124)) rfl (fun hb128 => ?_) (fun hb128 => ?_)
  ·have hm := ite_t' hb128 hm
   refine C_seq (C_region ?_)
   refine W_move rfl rfl rfl ?_
   refine W_assign rfl rfl rfl ?_
   refine W_end (E_then (C_ret (E_ret_block (E_ret_then (E_ret_then (E_ret_block (E_ret_then ?_)))))))
   obtain rfl := Option.some.inj hm
   refine E_weak hle113 ?_
   exact end1 rfl rfl ⟨rfl, rfl, rfl⟩
  ·have hm := ite_f' hb128 hm
   refine C_skip (E_normal_block (E_then (C_region ?_)))
   refine W_bin rfl rfl rfl rfl rfl ?_
   refine W_move rfl rfl rfl ?_
   refine W_end ?_
   exact E_keepJ (E_back (Nat.lt_succ_self _) ⟨k101 + 1, zs119, hd122, rfl, (by rw [hn116]; exact hm), hle113, rfl, rfl⟩) (List.Perm.refl _) ⟨rfl, rfl, rfl, (congrArg (fun z => some (Value.int .i64 z)) (i64_succN hy120 (toNat_max (len_max (h0).lenMax)))), trivial⟩
 ·obtain rfl := rngN_f hd121 hb123
  have hm : (some (-1)) = some r := hm
  refine C_exit (E_exit_then (E_exit_then (E_exit_hit (E_then (C_seq (C_region ?_))))))
  refine W_assign rfl rfl rfl ?_
  refine W_end (E_then (C_ret ?_))
  obtain rfl := Option.some.inj hm
  refine E_weak hle113 ?_
  exact end1 rfl rfl ⟨rfl, rfl, rfl⟩

theorem m_slices_ContainsFunc_api_Rat_api_Rat__gridhallkeep4_ForecastExact_1_c {B : Nat} {w0 w : World} [Tabs B w0] {H : Hp} {M : List Res} {p0_s : (List ByteArray)} {v0 : Value} {r : Bool} (hm : m_slices_ContainsFunc_api_Rat_api_Rat__gridhallkeep4_ForecastExact_1 p0_s = some r) (h0 : RdS H v0 p0_s) (ht : St B w0 H (M) w) :
  Calls prog 17 [v0, .func (.func 18) [].toArray [].toArray].toArray w (Ret B w0 fun H' M' v => H = H' ∧ M = M' ∧ .bool (r) = v) := by
 unfold m_slices_ContainsFunc_api_Rat_api_Rat__gridhallkeep4_ForecastExact_1 at hm
 refine enter func17 rfl rfl rfl ht ?_
 refine C_seq (C_region ?_)
 refine W_assign rfl rfl rfl ?_
 refine W_end (E_then (C_seq (C_region ?_)))
 refine W_move rfl rfl rfl ?_
 refine W_move rfl rfl rfl ?_
 obtain ⟨r101, hc102, hm⟩ := bind_some hm
 refine W_call call36 rfl rfl rfl (fun w ht => by have h := m_slices_IndexFunc_api_Rat_api_Rat__gridhallkeep4_ForecastExact_1_c (hm := hc102) h0 ht; exact h) ?_
 rintro _ _ _ ⟨rfl, rfl, rfl⟩
 refine W_bin rfl rfl rfl rfl rfl ?_
 refine W_assign rfl rfl rfl ?_
 refine W_end (E_then (C_ret ?_))
 obtain rfl := Option.some.inj hm
 refine E_weak (Hp.le_refl _) ?_
 exact end1 rfl rfl ⟨rfl, rfl, rfl⟩
end Go.Sim
