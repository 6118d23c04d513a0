/-
  Printed by a program: each Go function computes its model.
-/
import Derived.Test.YtilchbhmaflhfaaDoorModL
import Derived.Test.YtilchbhmaflhfaaDoorRows
import Derived.KernelRfl
import Derived.Test.YtilchbhmaflhfaaDoorShelf
namespace Go.Sim
open Go Go.Proofs.Tryd
set_option linter.unusedVariables false
set_option linter.unusedSimpArgs false
set_option maxRecDepth 100000
theorem Facts.mixed : Proofs.Tryd.prog.follows .mixedOrders = true := by kernel_rfl

class Tabs (B : Nat) (w0 : World) : Prop where
  lt : 6 ≤ B
  e1 : ∃ T p, w0.var? Proofs.Tryd.prog "strconv.ErrSyntax" = some #[.iface T p]
  e2 : ∃ T p, w0.var? Proofs.Tryd.prog "strconv.ErrRange" = some #[.iface T p]
  t3 : Lib.TabIs Proofs.Tryd.prog w0 "internal/strconv.uint64pow10" .u64 gt3
  t4 : Lib.TabIs Proofs.Tryd.prog w0 "math/bits.deBruijn32tab" .u8 gt4
  t5 : Lib.TabIs Proofs.Tryd.prog w0 "math/bits.deBruijn64tab" .u8 gt5
theorem Tabs.below {B : Nat} {w0 : World} [h : Tabs B w0] {g : Nat} (hg : Nat.blt g 6 = true) : g < B := by
  have := h.lt
  have : g < 6 := by simpa [Nat.blt_eq] using hg
  omega
theorem gn1 : Proofs.Tryd.prog.globalNamed "strconv.ErrSyntax" = some 1 := by kernel_rfl
theorem gn2 : Proofs.Tryd.prog.globalNamed "strconv.ErrRange" = some 2 := by kernel_rfl
theorem gn3 : Proofs.Tryd.prog.globalNamed "internal/strconv.uint64pow10" = some 3 := by kernel_rfl
theorem gn4 : Proofs.Tryd.prog.globalNamed "math/bits.deBruijn32tab" = some 4 := by kernel_rfl
theorem gn5 : Proofs.Tryd.prog.globalNamed "math/bits.deBruijn64tab" = some 5 := by kernel_rfl

theorem m_swing_Check_1_c {B : Nat} {w0 w : World} [Tabs B w0] {H : Hp} {M : List Res} {p0_n : Int} {p1_low : Int} {p2_high : Int} {r : Bool} (hm : m_swing_Check_1 p0_n p1_low p2_high = r) (ht : St B w0 H (M) w) :
  Calls prog 25 [.int .i64 (p0_n), .int .i64 (p1_low), .int .i64 (p2_high)].toArray w (Ret B w0 fun H' M' v => H = H' ∧ M = M' ∧ .bool (r) = v) := by
 unfold m_swing_Check_1 at hm
 refine enter func25 rfl rfl rfl ht ?_
 refine C_seq (C_region ?_)
 refine W_assign rfl rfl rfl ?_
 refine W_end (E_then ?_)
 refine C_seq_join (fun H' M' L' => H = H' ∧ M = M' ∧ [(6, .bool ((decide (p0_n < p1_low)) || (decide (p2_high < p0_n))))] = L') ?_ (fun J102 => ?_)
 ·rintro _ _ _ ⟨rfl, rfl, rfl⟩
  refine C_ret ?_
  obtain rfl := hm
  refine E_weak (Hp.le_refl _) ?_
  exact end1 rfl rfl ⟨rfl, rfl, rfl⟩
 ·refine C_region ?_
  refine W_move rfl rfl rfl ?_
  refine W_move rfl rfl rfl ?_
  refine W_bin rfl rfl rfl rfl rfl ?_
  refine W_move rfl rfl rfl ?_
  cases hb103 : (decide (p0_n < p1_low))
  ·refine W_move rfl rfl rfl ?_
   refine W_move rfl rfl rfl ?_
   refine W_bin rfl rfl rfl rfl rfl ?_
   refine W_pick rfl rfl rfl rfl ?_
   refine W_assign rfl rfl rfl ?_
   refine W_end ?_
   exact E_keepJ (J102 _ _ _ ⟨rfl, rfl, rfl⟩) (List.Perm.refl _) ⟨(by show some (Value.bool (decide (p2_high < p0_n))) = some (Value.bool ((decide (p0_n < p1_low)) || (decide (p2_high < p0_n)))); first | (simp only [hb103, Bool.and_true, Bool.true_and, Bool.false_and, Bool.and_false, Bool.or_true, Bool.true_or, Bool.or_false, Bool.false_or, Bool.not_true, Bool.not_false]; done) | (simp only [hb103]; first | done | simp only [Bool.and_true, Bool.true_and, Bool.false_and, Bool.and_false, Bool.or_true, Bool.true_or, Bool.or_false, Bool.false_or, Bool.not_true, Bool.not_false])), trivial⟩
  ·refine W_no rfl rfl rfl ?_
   refine W_no rfl rfl rfl ?_
   refine W_no rfl rfl rfl ?_
   refine W_pick rfl rfl rfl rfl ?_
   refine W_assign rfl rfl rfl ?_
   refine W_end ?_
   exact E_keepJ (J102 _ _ _ ⟨rfl, rfl, rfl⟩) (List.Perm.refl _) ⟨(by show some (Value.bool (true)) = some (Value.bool ((decide (p0_n < p1_low)) || (decide (p2_high < p0_n)))); first | (simp only [hb103, Bool.and_true, Bool.true_and, Bool.false_and, Bool.and_false, Bool.or_true, Bool.true_or, Bool.or_false, Bool.false_or, Bool.not_true, Bool.not_false]; done) | (simp only [hb103]; first | done | simp only [Bool.and_true, Bool.true_and, Bool.false_and, Bool.and_false, Bool.or_true, Bool.true_or, Bool.or_false, Bool.false_or, Bool.not_true, Bool.not_false])), trivial⟩

theorem m_internal_stringslite_HasPrefix_c {B : Nat} {w0 w : World} [Tabs B w0] {H : Hp} {M : List Res} {p0_s : ByteArray} {p1_prefix : ByteArray} {r : Bool} (hm : m_internal_stringslite_HasPrefix p0_s p1_prefix = some r) (ht : St B w0 H (M) w) :
  Calls prog 72 [.string (p0_s), .string (p1_prefix)].toArray w (Ret B w0 fun H' M' v => H = H' ∧ M = M' ∧ .bool (r) = v) := by
 unfold m_internal_stringslite_HasPrefix at hm
 refine enter func72 rfl rfl rfl ht ?_
 refine C_seq (C_region ?_)
 refine W_assign rfl rfl rfl ?_
 refine W_end (E_then (C_seq (C_region ?_)))
 refine W_move rfl rfl rfl ?_
 refine W_lenStr rfl rfl runUnderlying9 rfl ?_
 refine W_move rfl rfl rfl ?_
 refine W_lenStr rfl rfl runUnderlying9 rfl ?_
 refine W_bin rfl rfl rfl rfl rfl ?_
 refine W_move rfl rfl rfl ?_
 cases hb101 : (decide ((p1_prefix.size : Int) ≤ (p0_s.size : Int)))
 ·have hm := ite_f' hb101 hm
  refine W_no rfl rfl rfl ?_
  refine W_no rfl rfl rfl ?_
  refine W_no rfl rfl rfl ?_
  refine W_no rfl rfl rfl ?_
  refine W_no rfl rfl rfl ?_
  refine W_no rfl rfl rfl ?_
  refine W_pick rfl rfl rfl rfl ?_
  refine W_assign rfl rfl rfl ?_
  refine W_end (E_then (C_ret ?_))
  obtain rfl := Option.some.inj hm
  refine E_weak (Hp.le_refl _) ?_
  exact end1 rfl rfl ⟨rfl, rfl, rfl⟩
 ·have hm := ite_t' hb101 hm
  refine W_move rfl rfl rfl ?_
  refine W_move rfl rfl rfl ?_
  refine W_lenStr rfl rfl runUnderlying9 rfl ?_
  obtain ⟨hz102, hm⟩ := need_some hm
  refine W_sliceStr (l := 0) (h := ((p1_prefix.size : Int) : Int).toNat) rfl rfl runUnderlying9 rfl (.inr ⟨_, _, _, rfl, rfl, by omega, by omega, rfl⟩) (.inl ⟨rfl, rfl⟩) ?_
  refine W_move rfl rfl rfl ?_
  refine W_bin rfl rfl rfl rfl rfl ?_
  refine W_pick rfl rfl rfl rfl ?_
  refine W_assign rfl rfl rfl ?_
  refine W_end (E_then (C_ret ?_))
  obtain rfl := Option.some.inj hm
  refine E_weak (Hp.le_refl _) ?_
  exact end1 rfl rfl ⟨rfl, rfl, rfl⟩

theorem m_internal_stringslite_TrimPrefix_c {B : Nat} {w0 w : World} [Tabs B w0] {H : Hp} {M : List Res} {p0_s : ByteArray} {p1_prefix : ByteArray} {r : ByteArray} (hm : m_internal_stringslite_TrimPrefix p0_s p1_prefix = some r) (ht : St B w0 H (M) w) :
  Calls prog 55 [.string (p0_s), .string (p1_prefix)].toArray w (Ret B w0 fun H' M' v => H = H' ∧ M = M' ∧ .string (r) = v) := by
 unfold m_internal_stringslite_TrimPrefix at hm
 refine enter func55 rfl rfl rfl ht ?_
 refine C_seq (C_region ?_)
 refine W_assign rfl rfl rfl ?_
 refine W_end (E_then (C_seq (C_seq (C_region ?_))))
 refine W_move rfl rfl rfl ?_
 refine W_move rfl rfl rfl ?_
 obtain ⟨r101, hc102, hm⟩ := bind_some hm
 refine W_call call72 rfl rfl rfl (fun w ht => by have h := m_internal_stringslite_HasPrefix_c (hm := hc102)  ht; exact h) ?_
 rintro _ _ _ ⟨rfl, rfl, rfl⟩
 refine W_end (E_then ?_)
 refine C_cond (b := r101) rfl (fun hb103 => ?_) (fun hb103 => ?_)
 ·have hm := ite_t' hb103 hm
  refine C_seq (C_region ?_)
  refine W_move rfl rfl rfl ?_
  refine W_move rfl rfl rfl ?_
  refine W_lenStr rfl rfl runUnderlying9 rfl ?_
  obtain ⟨hz104, hm⟩ := need_some hm
  refine W_sliceStr (l := ((p1_prefix.size : Int) : Int).toNat) (h := p0_s.size) rfl rfl runUnderlying9 rfl (.inl ⟨rfl, rfl⟩) (.inr ⟨_, _, _, rfl, rfl, by omega, by omega, rfl⟩) ?_
  refine W_assign rfl rfl rfl ?_
  refine W_end (E_then (C_ret (E_ret_then ?_)))
  obtain rfl := Option.some.inj hm
  refine E_weak (Hp.le_refl _) ?_
  exact end1 rfl rfl ⟨rfl, rfl, rfl⟩
 ·have hm := ite_f' hb103 hm
  refine C_skip (E_then (C_seq (C_region ?_)))
  refine W_move rfl rfl rfl ?_
  refine W_assign rfl rfl rfl ?_
  refine W_end (E_then (C_ret ?_))
  obtain rfl := Option.some.inj hm
  refine E_weak (Hp.le_refl _) ?_
  exact end1 rfl rfl ⟨rfl, rfl, rfl⟩

theorem m_strings_TrimPrefix_c {B : Nat} {w0 w : World} [Tabs B w0] {H : Hp} {M : List Res} {p0_s : ByteArray} {p1_prefix : ByteArray} {r : ByteArray} (hm : m_strings_TrimPrefix p0_s p1_prefix = some r) (ht : St B w0 H (M) w) :
  Calls prog 41 [.string (p0_s), .string (p1_prefix)].toArray w (Ret B w0 fun H' M' v => H = H' ∧ M = M' ∧ .string (r) = v) := by
 unfold m_strings_TrimPrefix at hm
 refine enter func41 rfl rfl rfl ht ?_
 refine C_seq (C_region ?_)
 refine W_assign rfl rfl rfl ?_
 refine W_end (E_then (C_seq (C_region ?_)))
 refine W_move rfl rfl rfl ?_
 refine W_move rfl rfl rfl ?_
 obtain ⟨r101, hc102, hm⟩ := bind_some hm
 refine W_call call55 rfl rfl rfl (fun w ht => by have h := m_internal_stringslite_TrimPrefix_c (hm := hc102)  ht; exact h) ?_
 rintro _ _ _ ⟨rfl, rfl, rfl⟩
 refine W_assign rfl rfl rfl ?_
 refine W_end (E_then (C_ret ?_))
 obtain rfl := Option.some.inj hm
 refine E_weak (Hp.le_refl _) ?_
 exact end1 rfl rfl ⟨rfl, rfl, rfl⟩

theorem m_internal_stringslite_IndexByte_c {B : Nat} {w0 w : World} [Tabs B w0] {H : Hp} {M : List Res} {p0_s : ByteArray} {p1_c : Int} {r : Int} (hm : m_internal_stringslite_IndexByte p0_s p1_c = r) (ht : St B w0 H (M) w) :
  Calls prog 80 [.string (p0_s), .int .u8 (p1_c)].toArray w (Ret B w0 fun H' M' v => H = H' ∧ M = M' ∧ .int .i64 (r) = v) := by
 unfold m_internal_stringslite_IndexByte at hm
 refine enter func80 rfl rfl rfl ht ?_
 refine C_seq (C_region ?_)
 refine W_assign rfl rfl rfl ?_
 refine W_end (E_then (C_seq (C_region ?_)))
 refine W_move rfl rfl rfl ?_
 refine W_move rfl rfl rfl ?_
 refine W_extern (idxB_extern func96 (by kernel_rfl) (by kernel_rfl) (by kernel_rfl) (by kernel_rfl) _ _) rfl rfl rfl ?_
 refine W_assign rfl rfl rfl ?_
 refine W_end (E_then (C_ret ?_))
 obtain rfl := hm
 refine E_weak (Hp.le_refl _) ?_
 exact end1 rfl rfl ⟨rfl, rfl, rfl⟩

theorem m_internal_stringslite_Index_c {B : Nat} {w0 w : World} [Tabs B w0] {H : Hp} {M : List Res} {p0_s : ByteArray} {substr : ByteArray} {r : Int} (hm : m_internal_stringslite_Index p0_s substr = some r) (ht : St B w0 H (M) w) :
  Calls prog 73 [.string (p0_s), .string (substr)].toArray w (Ret B w0 fun H' M' v => H = H' ∧ M = M' ∧ .int .i64 (r) = v) := by
 unfold m_internal_stringslite_Index at hm
 refine enter func73 rfl rfl rfl ht ?_
 refine C_seq (C_region ?_)
 refine W_assign rfl rfl rfl ?_
 refine W_end (E_then (C_seq (C_region ?_)))
 refine W_move rfl rfl rfl ?_
 refine W_lenStr rfl rfl runUnderlying9 rfl ?_
 refine W_assign rfl rfl rfl ?_
 refine W_end (E_then (C_seq (C_block ?_)))
 refine C_seq_join (fun H' M' L' => H = H' ∧ M = M' ∧ [(0, .string (p0_s)), (1, .string (substr)), (5, .int .i64 ((substr.size : Int))), (16, .bool ((decide ((substr.size : Int) = 0)) || (decide (substr = p0_s))))] = L') ?_ (fun J102 => ?_)
 ·rintro _ _ _ ⟨rfl, rfl, rfl⟩
  refine C_cond (b := (decide ((substr.size : Int) = 0)) || (decide (substr = p0_s))) rfl (fun hb103 => ?_) (fun hb103 => ?_)
  ·have hm := ite_t' hb103 hm
   refine C_seq (C_region ?_)
   refine W_assign rfl rfl rfl ?_
   refine W_end (E_then (C_ret (E_ret_block (E_ret_then ?_))))
   obtain rfl := Option.some.inj hm
   refine E_weak (Hp.le_refl _) ?_
   exact end1 rfl rfl ⟨rfl, rfl, rfl⟩
  ·have hm := ite_f' hb103 hm
   refine C_seq (C_region ?_)
   refine W_move rfl rfl rfl ?_
   refine W_bin rfl rfl rfl rfl rfl ?_
   refine W_assign rfl rfl rfl ?_
   refine W_end (E_then ?_)
   refine C_cond (b := decide ((substr.size : Int) = 1)) rfl (fun hb104 => ?_) (fun hb104 => ?_)
   ·have hm := ite_t' hb104 hm
    refine C_seq (C_region ?_)
    refine W_move rfl rfl rfl ?_
    refine W_move rfl rfl rfl ?_
    obtain ⟨y105, h106, he107, hm⟩ := idx_some hm
    refine W_indexStr rfl rfl runUnderlying9 rfl rfl h106 he107 ?_
    refine W_call call80 rfl rfl rfl (fun w ht => by have h := m_internal_stringslite_IndexByte_c (hm := (rfl : m_internal_stringslite_IndexByte p0_s y105.n = _))  ht; exact h) ?_
    rintro _ _ _ ⟨rfl, rfl, rfl⟩
    refine W_assign rfl rfl rfl ?_
    refine W_end (E_then (C_ret (E_ret_block (E_ret_then ?_))))
    obtain rfl := Option.some.inj hm
    refine E_weak (Hp.le_refl _) ?_
    exact end1 rfl rfl ⟨rfl, rfl, rfl⟩
   ·have hm := ite_f' hb104 hm
    refine C_seq (C_region ?_)
    refine W_move rfl rfl rfl ?_
    refine W_move rfl rfl rfl ?_
    refine W_lenStr rfl rfl runUnderlying9 rfl ?_
    refine W_bin rfl rfl rfl rfl rfl ?_
    refine W_assign rfl rfl rfl ?_
    refine W_end (E_then ?_)
    refine C_cond (b := decide ((p0_s.size : Int) ≤ (substr.size : Int))) rfl (fun hb108 => ?_) (fun hb108 => ?_)
    ·have hm := ite_t' hb108 hm
     refine C_seq (C_region ?_)
     refine W_assign rfl rfl rfl ?_
     refine W_end (E_then (C_ret (E_ret_block (E_ret_then ?_))))
     obtain rfl := Option.some.inj hm
     refine E_weak (Hp.le_refl _) ?_
     exact end1 rfl rfl ⟨rfl, rfl, rfl⟩
    ·have hm := ite_f' hb108 hm
     refine C_seq ?_
     cases hm
 ·refine C_region ?_
  refine W_move rfl rfl rfl ?_
  refine W_bin rfl rfl rfl rfl rfl ?_
  refine W_move rfl rfl rfl ?_
  cases hb109 : (decide ((substr.size : Int) = 0))
  ·refine W_move rfl rfl rfl ?_
   refine W_move rfl rfl rfl ?_
   refine W_bin rfl rfl rfl rfl rfl ?_
   refine W_pick rfl rfl rfl rfl ?_
   refine W_assign rfl rfl rfl ?_
   refine W_end ?_
   exact E_keepJ (J102 _ _ _ ⟨rfl, rfl, rfl⟩) (List.Perm.refl _) ⟨rfl, rfl, rfl, (by show some (Value.bool (decide (substr = p0_s))) = some (Value.bool ((decide ((substr.size : Int) = 0)) || (decide (substr = p0_s)))); first | (simp only [hb109, Bool.and_true, Bool.true_and, Bool.false_and, Bool.and_false, Bool.or_true, Bool.true_or, Bool.or_false, Bool.false_or, Bool.not_true, Bool.not_false]; done) | (simp only [hb109]; first | done | simp only [Bool.and_true, Bool.true_and, Bool.false_and, Bool.and_false, Bool.or_true, Bool.true_or, Bool.or_false, Bool.false_or, Bool.not_true, Bool.not_false])), trivial⟩
  ·refine W_no rfl rfl rfl ?_
   refine W_no rfl rfl rfl ?_
   refine W_no rfl rfl rfl ?_
   refine W_pick rfl rfl rfl rfl ?_
   refine W_assign rfl rfl rfl ?_
   refine W_end ?_
   exact E_keepJ (J102 _ _ _ ⟨rfl, rfl, rfl⟩) (List.Perm.refl _) ⟨rfl, rfl, rfl, (by show some (Value.bool (true)) = some (Value.bool ((decide ((substr.size : Int) = 0)) || (decide (substr = p0_s)))); first | (simp only [hb109, Bool.and_true, Bool.true_and, Bool.false_and, Bool.and_false, Bool.or_true, Bool.true_or, Bool.or_false, Bool.false_or, Bool.not_true, Bool.not_false]; done) | (simp only [hb109]; first | done | simp only [Bool.and_true, Bool.true_and, Bool.false_and, Bool.and_false, Bool.or_true, Bool.true_or, Bool.or_false, Bool.false_or, Bool.not_true, Bool.not_false])), trivial⟩

theorem m_internal_stringslite_Cut_c {B : Nat} {w0 w : World} [Tabs B w0] {H : Hp} {M : List Res} {p0_s : ByteArray} {sep : ByteArray} {r : ByteArray × ByteArray × Bool} (hm : m_internal_stringslite_Cut p0_s sep = some r) (ht : St B w0 H (M) w) :
  Calls prog 56 [.string (p0_s), .string (sep)].toArray w (Ret B w0 fun H' M' v => H = H' ∧ M = M' ∧ .tuple #[.string (r.1), .string (r.2.1), .bool (r.2.2)] = v) := by
 unfold m_internal_stringslite_Cut at hm
 refine enter func56 rfl rfl rfl ht ?_
 refine C_seq (C_region ?_)
 refine W_assign rfl rfl rfl ?_
 refine W_assign rfl rfl rfl ?_
 refine W_assign rfl rfl rfl ?_
 refine W_end (E_then (C_seq (C_seq (C_region ?_))))
 refine W_move rfl rfl rfl ?_
 refine W_move rfl rfl rfl ?_
 obtain ⟨r101, hc102, hm⟩ := bind_some hm
 refine W_call call73 rfl rfl rfl (fun w ht => by have h := m_internal_stringslite_Index_c (hm := hc102)  ht; exact h) ?_
 rintro _ _ _ ⟨rfl, rfl, rfl⟩
 refine W_assign rfl rfl rfl ?_
 refine W_end (E_then (C_seq (C_region ?_)))
 refine W_move rfl rfl rfl ?_
 refine W_bin rfl rfl rfl rfl rfl ?_
 refine W_end (E_then ?_)
 refine C_cond (b := decide (0 ≤ r101)) rfl (fun hb103 => ?_) (fun hb103 => ?_)
 ·have hm := ite_t' hb103 hm
  refine C_seq ?_
  obtain ⟨hz104, hm⟩ := need_some hm
  obtain ⟨hz105, hm⟩ := need_some hm
  refine C_region_tok 10 (phiT [(fun H rs v => [] = rs ∧ .string (p0_s) = v), (fun H rs v => [] = rs ∧ .int .i64 (r101) = v), (fun H rs v => [] = rs ∧ .string (p0_s.extract 0 ((r101 : Int).toNat)) = v), (fun H rs v => [] = rs ∧ .string (p0_s) = v), (fun H rs v => [] = rs ∧ .int .i64 (r101) = v), (fun H rs v => [] = rs ∧ .string (sep) = v), (fun H rs v => [] = rs ∧ .int .i64 ((sep.size : Int)) = v), (fun H rs v => [] = rs ∧ .int .i64 (IntKind.i64.wrap (r101 + (sep.size : Int))) = v), (fun H rs v => [] = rs ∧ .string (p0_s.extract ((IntKind.i64.wrap (r101 + (sep.size : Int)) : Int).toNat) p0_s.size) = v), (fun H rs v => [] = rs ∧ .string (p0_s.extract 0 ((r101 : Int).toNat)) = v)]) [[], [], [], [], [], [], [], [], [], []] [[], [], [], [], [], [], [], [], [], []] [] [0, 1, 2, 3, 4, 5, 6, 7, 8, 9] [(0, .string (p0_s)), (1, .string (sep)), (5, .string (⟨#[]⟩)), (6, .bool (false)), (7, .int .i64 (r101)), (8, .string (p0_s)), (9, .string (sep)), (10, .int .i64 (r101)), (11, .int .i64 (r101)), (12, .bool (decide (0 ≤ r101)))] [[], [], [], [], [], [], [], [], [], []] Facts.mixed (by kernel_rfl) (by rfl) (by rfl) (by kernel_rfl) (Kept.lk ⟨rfl, rfl, rfl, rfl, rfl, rfl, rfl, rfl, rfl, rfl, trivial⟩) ⟨trivial, trivial, trivial, trivial, trivial, trivial, trivial, trivial, trivial, trivial, trivial⟩ (by rfl) (by kernel_rfl) (phiT_mono ⟨eq_monoT _ _, eq_monoT _ _, eq_monoT _ _, eq_monoT _ _, eq_monoT _ _, eq_monoT _ _, eq_monoT _ _, eq_monoT _ _, eq_monoT _ _, eq_monoT _ _, trivial⟩) ⟨?_, ?_, ?_, ?_, ?_, ?_, ?_, ?_, ?_, ?_, trivial⟩ ?_
  ·intro HX hX X Rest hR
   intro hU hUp
   refine W_move rfl rfl rfl ?_
   exact W_end (OneT_end [] (Hp.le_refl _) ⟨rfl, rfl⟩)
  ·intro HX hX X Rest hR
   intro hU hUp
   refine W_move rfl rfl rfl ?_
   exact W_end (OneT_end [] (Hp.le_refl _) ⟨rfl, rfl⟩)
  ·intro HX hX X Rest hR
   rintro _ _ ⟨rfl, rfl⟩
   rintro _ _ ⟨rfl, rfl⟩
   intro hU hUp
   refine W_sliceStr (l := 0) (h := (r101 : Int).toNat) rfl rfl runUnderlying9 rfl (.inr ⟨_, _, _, rfl, rfl, by omega, by omega, rfl⟩) (.inl ⟨rfl, rfl⟩) ?_
   exact W_end (OneT_end [] (Hp.le_refl _) ⟨rfl, rfl⟩)
  ·intro HX hX X Rest hR
   intro hU hUp
   refine W_move rfl rfl rfl ?_
   exact W_end (OneT_end [] (Hp.le_refl _) ⟨rfl, rfl⟩)
  ·intro HX hX X Rest hR
   intro hU hUp
   refine W_move rfl rfl rfl ?_
   exact W_end (OneT_end [] (Hp.le_refl _) ⟨rfl, rfl⟩)
  ·intro HX hX X Rest hR
   intro hU hUp
   refine W_move rfl rfl rfl ?_
   exact W_end (OneT_end [] (Hp.le_refl _) ⟨rfl, rfl⟩)
  ·intro HX hX X Rest hR
   rintro _ _ ⟨rfl, rfl⟩
   intro hU hUp
   refine W_lenStr rfl rfl runUnderlying9 rfl ?_
   exact W_end (OneT_end [] (Hp.le_refl _) ⟨rfl, rfl⟩)
  ·intro HX hX X Rest hR
   rintro _ _ ⟨rfl, rfl⟩
   rintro _ _ ⟨rfl, rfl⟩
   intro hU hUp
   refine W_bin rfl rfl rfl rfl rfl ?_
   exact W_end (OneT_end [] (Hp.le_refl _) ⟨rfl, rfl⟩)
  ·intro HX hX X Rest hR
   rintro _ _ ⟨rfl, rfl⟩
   rintro _ _ ⟨rfl, rfl⟩
   intro hU hUp
   refine W_sliceStr (l := (IntKind.i64.wrap (r101 + (sep.size : Int)) : Int).toNat) (h := p0_s.size) rfl rfl runUnderlying9 rfl (.inl ⟨rfl, rfl⟩) (.inr ⟨_, _, _, rfl, rfl, by omega, by omega, rfl⟩) ?_
   exact W_end (OneT_end [] (Hp.le_refl _) ⟨rfl, rfl⟩)
  ·intro HX hX X Rest hR
   rintro _ _ ⟨rfl, rfl⟩
   rintro _ _ ⟨rfl, rfl⟩
   rintro _ _ ⟨rfl, rfl⟩
   rintro _ _ ⟨rfl, rfl⟩
   intro hU hUp
   refine W_assign rfl rfl rfl ?_
   exact W_end (OneT_end [] (Hp.le_refl _) ⟨rfl, rfl⟩)
  intro H106 hle107
  rintro _ _ ⟨rfl, rfl⟩
  rintro _ _ ⟨rfl, rfl⟩
  rintro _ _ ⟨rfl, rfl⟩
  rintro _ _ ⟨rfl, rfl⟩
  rintro _ _ ⟨rfl, rfl⟩
  rintro _ _ ⟨rfl, rfl⟩
  rintro _ _ ⟨rfl, rfl⟩
  rintro _ _ ⟨rfl, rfl⟩
  rintro _ _ ⟨rfl, rfl⟩
  rintro _ _ ⟨rfl, rfl⟩
  refine W_assign rfl rfl rfl ?_
  refine W_assign rfl rfl rfl ?_
  refine W_end (E_then (C_ret (E_ret_then ?_)))
  obtain rfl := Option.some.inj hm
  refine E_weak hle107 ?_
  exact end3 rfl rfl rfl rfl ⟨rfl, rfl, rfl⟩
 ·have hm := ite_f' hb103 hm
  refine C_skip (E_then (C_seq (C_region ?_)))
  refine W_move rfl rfl rfl ?_
  refine W_assign rfl rfl rfl ?_
  refine W_assign rfl rfl rfl ?_
  refine W_assign rfl rfl rfl ?_
  refine W_end (E_then (C_ret ?_))
  obtain rfl := Option.some.inj hm
  refine E_weak (Hp.le_refl _) ?_
  exact end3 rfl rfl rfl rfl ⟨rfl, rfl, rfl⟩

theorem m_strings_Cut_c {B : Nat} {w0 w : World} [Tabs B w0] {H : Hp} {M : List Res} {p0_s : ByteArray} {sep : ByteArray} {r : ByteArray × ByteArray × Bool} (hm : m_strings_Cut p0_s sep = some r) (ht : St B w0 H (M) w) :
  Calls prog 42 [.string (p0_s), .string (sep)].toArray w (Ret B w0 fun H' M' v => H = H' ∧ M = M' ∧ .tuple #[.string (r.1), .string (r.2.1), .bool (r.2.2)] = v) := by
 unfold m_strings_Cut at hm
 refine enter func42 rfl rfl rfl ht ?_
 refine C_seq (C_region ?_)
 refine W_assign rfl rfl rfl ?_
 refine W_assign rfl rfl rfl ?_
 refine W_assign rfl rfl rfl ?_
 refine W_end (E_then (C_seq (C_region ?_)))
 refine W_move rfl rfl rfl ?_
 refine W_move rfl rfl rfl ?_
 obtain ⟨r101, hc102, hm⟩ := bind_some hm
 refine W_call call56 rfl rfl rfl (fun w ht => by have h := m_internal_stringslite_Cut_c (hm := hc102)  ht; exact h) ?_
 rintro _ _ _ ⟨rfl, rfl, rfl⟩
 refine W_extract rfl rfl rfl rfl ?_
 refine W_extract rfl rfl rfl rfl ?_
 refine W_extract rfl rfl rfl rfl ?_
 refine W_assign rfl rfl rfl ?_
 refine W_assign rfl rfl rfl ?_
 refine W_assign rfl rfl rfl ?_
 refine W_end (E_then (C_ret ?_))
 obtain rfl := Option.some.inj hm
 refine E_weak (Hp.le_refl _) ?_
 exact end3 rfl rfl rfl rfl ⟨rfl, rfl, rfl⟩

theorem m_nat_Check_c {B : Nat} {w0 w : World} [Tabs B w0] {H : Hp} {M : List Res} {p0_s : ByteArray} {r : Int} (hm : m_nat_Check p0_s = some r) (ht : St B w0 H (M) w) :
  Calls prog 43 [.string (p0_s)].toArray w (Ret B w0 fun H' M' v => H = H' ∧ M = M' ∧ .int .i64 (r) = v) := by
 unfold m_nat_Check at hm
 refine enter func43 rfl rfl rfl ht ?_
 refine C_seq (C_region ?_)
 refine W_assign rfl rfl rfl ?_
 refine W_end (E_then (C_seq (C_seq (C_region ?_))))
 refine W_move rfl rfl rfl ?_
 obtain ⟨hz101, hm⟩ := need_some hm
 refine W_convBytes rfl rfl runUnderlying9 runUnderlying87 runUnderlying5 rfl hz101 ?_
 intro v102 H103 hle104 h105
 refine W_lenR rfl rfl runUnderlying87 rfl h105 ?_
 refine W_move rfl rfl rfl ?_
 refine W_end (E_then (C_block ?_))
 refine C_keep (L' := [(0, .string (p0_s)), (6, v102), (7, .int .i64 (((bytesL p0_s).length : Int))), (8, .int .i64 (((0 : Nat) : Int)))]) ⟨rfl, rfl, rfl, rfl, trivial⟩ (List.Perm.refl _) ?_
 refine C_loop (fun n H' M' L' => ∃ (k106 : Nat) (zs124' : List U8), (bytesL p0_s).drop k106 = zs124' ∧ zs124'.length = n ∧ forI (fun k y s119 n => m_nat_Check_b1 k y n) (fun _ => if decide (p0_s = (⟨#[]⟩)) then (some 5) else (if decide (1 < (p0_s.size : Int)) then (idx (bytesL p0_s) 0 fun y137 => if decide (y137.n = 48) then (some 5) else (if decide (2000 < (p0_s.size : Int)) then (some 2) else (some 0))) else (if decide (2000 < (p0_s.size : Int)) then (some 2) else (some 0)))) k106 zs124' () = some r ∧ H103.le H' ∧ M = M' ∧ [(0, .string (p0_s)), (6, v102), (7, .int .i64 (((bytesL p0_s).length : Int))), (8, .int .i64 ((k106 : Int)))] = L') _ ⟨0, _, rfl, rfl, hm, (Hp.le_refl _), rfl, rfl⟩ ?_
 rintro _ H117 _ _ ⟨k106, zs124', hd126, rfl, hm, hle118, rfl, rfl⟩
 refine C_seq (C_region ?_)
 refine W_bin rfl rfl rfl rfl rfl ?_
 refine W_end (E_then (C_seq ?_))
 refine C_cond (b := decide ((k106 : Int) < ((bytesL p0_s).length : Int))) rfl (fun hb128 => ?_) (fun hb128 => ?_)
 ·obtain ⟨y123, zs124, rfl, hy125, hd127⟩ := rng_t hd126 hb128
  have hm : m_nat_Check_b1 k106 y123 (forI (fun k y s119 n => m_nat_Check_b1 k y n) (fun _ => if decide (p0_s = (⟨#[]⟩)) then (some 5) else (if decide (1 < (p0_s.size : Int)) then (idx (bytesL p0_s) 0 fun y137 => if decide (y137.n = 48) then (some 5) else (if decide (2000 < (p0_s.size : Int)) then (some 2) else (some 0))) else (if decide (2000 < (p0_s.size : Int)) then (some 2) else (some 0)))) (k106 + 1) zs124) = some r := hm
  generalize hn121 : forI (fun k y s119 n => m_nat_Check_b1 k y n) (fun _ => if decide (p0_s = (⟨#[]⟩)) then (some 5) else (if decide (1 < (p0_s.size : Int)) then (idx (bytesL p0_s) 0 fun y137 => if decide (y137.n = 48) then (some 5) else (if decide (2000 < (p0_s.size : Int)) then (some 2) else (some 0))) else (if decide (2000 < (p0_s.size : Int)) then (some 2) else (some 0)))) (k106 + 1) zs124 = nx120 at hm
  unfold m_nat_Check_b1 at hm
  refine C_skip (E_then (C_seq (C_block (C_seq (C_region ?_)))))
  obtain ⟨_, rfl, hc129⟩ := (h105).elem hy125
  refine W_indexS rfl rfl runUnderlying87 sizeOf5 rfl (h105.mono hle118) rfl (Int.natCast_nonneg _) hy125 ?_
  refine W_load rfl rfl isAgg5 rfl (HCells.one (hc129.mono hle118) 0 rfl).at ?_
  refine W_assign rfl rfl rfl ?_
  refine W_end (E_then ?_)
  refine C_seq_join (fun H' M' L' => H117 = H' ∧ M = M' ∧ [(0, .string (p0_s)), (6, v102), (7, .int .i64 (((bytesL p0_s).length : Int))), (8, .int .i64 ((k106 : Int))), (17, .bool ((decide (y123.n < 48)) || (decide (57 < y123.n))))] = L') ?_ (fun J131 => ?_)
  ·rintro _ _ _ ⟨rfl, rfl, rfl⟩
   refine C_cond (b := (decide (y123.n < 48)) || (decide (57 < y123.n))) rfl (fun hb132 => ?_) (fun hb132 => ?_)
   ·have hm := ite_t' hb132 hm
    refine C_seq (C_region ?_)
    refine W_assign rfl rfl rfl ?_
    refine W_end (E_then (C_ret (E_ret_block (E_ret_then (E_ret_then (E_ret_block (E_ret_then ?_)))))))
    obtain rfl := Option.some.inj hm
    refine E_weak (Hp.le_trans hle104 hle118) ?_
    exact end1 rfl rfl ⟨rfl, rfl, rfl⟩
   ·have hm := ite_f' hb132 hm
    refine C_skip (E_normal_block (E_then (C_region ?_)))
    refine W_bin rfl rfl rfl rfl rfl ?_
    refine W_move rfl rfl rfl ?_
    refine W_end ?_
    exact E_keepJ (E_back (Nat.lt_succ_self _) ⟨k106 + 1, zs124, hd127, rfl, (by rw [hn121]; exact hm), hle118, rfl, rfl⟩) (List.Perm.refl _) ⟨rfl, rfl, rfl, (congrArg (fun z => some (Value.int .i64 z)) (i64_succ hy125 ((h105.mono hle118)).lenMax)), trivial⟩
  ·refine C_region ?_
   refine W_move rfl rfl rfl ?_
   refine W_bin rfl rfl rfl rfl rfl ?_
   refine W_move rfl rfl rfl ?_
   cases hb133 : (decide (y123.n < 48))
   ·refine W_move rfl rfl rfl ?_
    refine W_bin rfl rfl rfl rfl rfl ?_
    refine W_pick rfl rfl rfl rfl ?_
    refine W_end ?_
    exact E_keepJ (J131 _ _ _ ⟨rfl, rfl, rfl⟩) (List.Perm.refl _) ⟨rfl, rfl, rfl, rfl, (by show some (Value.bool (decide (57 < y123.n))) = some (Value.bool ((decide (y123.n < 48)) || (decide (57 < y123.n)))); first | (simp only [hb133, Bool.and_true, Bool.true_and, Bool.false_and, Bool.and_false, Bool.or_true, Bool.true_or, Bool.or_false, Bool.false_or, Bool.not_true, Bool.not_false]; done) | (simp only [hb133]; first | done | simp only [Bool.and_true, Bool.true_and, Bool.false_and, Bool.and_false, Bool.or_true, Bool.true_or, Bool.or_false, Bool.false_or, Bool.not_true, Bool.not_false])), trivial⟩
   ·refine W_no rfl rfl rfl ?_
    refine W_no rfl rfl rfl ?_
    refine W_pick rfl rfl rfl rfl ?_
    refine W_end ?_
    exact E_keepJ (J131 _ _ _ ⟨rfl, rfl, rfl⟩) (List.Perm.refl _) ⟨rfl, rfl, rfl, rfl, (by show some (Value.bool (true)) = some (Value.bool ((decide (y123.n < 48)) || (decide (57 < y123.n)))); first | (simp only [hb133, Bool.and_true, Bool.true_and, Bool.false_and, Bool.and_false, Bool.or_true, Bool.true_or, Bool.or_false, Bool.false_or, Bool.not_true, Bool.not_false]; done) | (simp only [hb133]; first | done | simp only [Bool.and_true, Bool.true_and, Bool.false_and, Bool.and_false, Bool.or_true, Bool.true_or, Bool.or_false, Bool.false_or, Bool.not_true, Bool.not_false])), trivial⟩
 ·obtain rfl := rng_f hd126 hb128
  have hm : (if decide (p0_s = (⟨#[]⟩)) then (some 5) else (if decide (1 < (p0_s.size : Int)) then (idx (bytesL p0_s) 0 fun y137 => if decide (y137.n = 48) then (some 5) else (if decide (2000 < (p0_s.size : Int)) then (some 2) else (some 0))) else (if decide (2000 < (p0_s.size : Int)) then (some 2) else (some 0)))) = some r := hm
  refine C_exit (E_exit_then (E_exit_then (E_exit_hit (E_then (C_seq (C_block (C_seq (C_region ?_))))))))
  refine W_move rfl rfl rfl ?_
  refine W_bin rfl rfl rfl rfl rfl ?_
  refine W_move rfl rfl rfl ?_
  cases hb134 : (decide (p0_s = (⟨#[]⟩)))
  ·have hm := ite_f' hb134 hm
   refine W_move rfl rfl rfl ?_
   refine W_lenStr rfl rfl runUnderlying9 rfl ?_
   refine W_bin rfl rfl rfl rfl rfl ?_
   refine W_move rfl rfl rfl ?_
   cases hb135 : (decide (1 < (p0_s.size : Int)))
   ·have hm := ite_f' hb135 hm
    refine W_no rfl rfl rfl ?_
    refine W_no rfl rfl rfl ?_
    refine W_no rfl rfl rfl ?_
    refine W_pick rfl rfl rfl rfl ?_
    refine W_pick rfl rfl rfl rfl ?_
    refine W_assign rfl rfl rfl ?_
    refine W_end (E_then ?_)
    refine C_cond (b := false) rfl (fun hb => Bool.noConfusion hb) (fun _ => ?_)
    refine C_seq (C_region ?_)
    refine W_move rfl rfl rfl ?_
    refine W_lenStr rfl rfl runUnderlying9 rfl ?_
    refine W_bin rfl rfl rfl rfl rfl ?_
    refine W_assign rfl rfl rfl ?_
    refine W_end (E_then ?_)
    refine C_cond (b := decide (2000 < (p0_s.size : Int))) rfl (fun hb136 => ?_) (fun hb136 => ?_)
    ·have hm := ite_t' hb136 hm
     refine C_seq (C_region ?_)
     refine W_assign rfl rfl rfl ?_
     refine W_end (E_then (C_ret (E_ret_block (E_ret_then ?_))))
     obtain rfl := Option.some.inj hm
     refine E_weak (Hp.le_trans hle104 hle118) ?_
     exact end1 rfl rfl ⟨rfl, rfl, rfl⟩
    ·have hm := ite_f' hb136 hm
     refine C_skip (E_normal_block (E_then (C_seq (C_region ?_))))
     refine W_assign rfl rfl rfl ?_
     refine W_end (E_then (C_ret ?_))
     obtain rfl := Option.some.inj hm
     refine E_weak (Hp.le_trans hle104 hle118) ?_
     exact end1 rfl rfl ⟨rfl, rfl, rfl⟩
   ·have hm := ite_t' hb135 hm
    refine W_move rfl rfl rfl ?_
    obtain ⟨y137, h138, he139, hm⟩ := idx_some hm
    refine W_indexStr rfl rfl runUnderlying9 rfl rfl h138 he139 ?_
    refine W_bin rfl rfl rfl rfl rfl ?_
    refine W_pick rfl rfl rfl rfl ?_
    refine W_pick rfl rfl rfl rfl ?_
    refine W_assign rfl rfl rfl ?_
    refine W_end (E_then ?_)
    refine C_cond (b := decide (y137.n = 48)) rfl (fun hb140 => ?_) (fun hb140 => ?_)
    ·have hm := ite_t' hb140 hm
     refine C_seq (C_region ?_)
     refine W_assign rfl rfl rfl ?_
     refine W_end (E_then (C_ret (E_ret_block (E_ret_then ?_))))
     obtain rfl := Option.some.inj hm
     refine E_weak (Hp.le_trans hle104 hle118) ?_
     exact end1 rfl rfl ⟨rfl, rfl, rfl⟩
    ·have hm := ite_f' hb140 hm
     refine C_seq (C_region ?_)
     refine W_move rfl rfl rfl ?_
     refine W_lenStr rfl rfl runUnderlying9 rfl ?_
     refine W_bin rfl rfl rfl rfl rfl ?_
     refine W_assign rfl rfl rfl ?_
     refine W_end (E_then ?_)
     refine C_cond (b := decide (2000 < (p0_s.size : Int))) rfl (fun hb141 => ?_) (fun hb141 => ?_)
     ·have hm := ite_t' hb141 hm
      refine C_seq (C_region ?_)
      refine W_assign rfl rfl rfl ?_
      refine W_end (E_then (C_ret (E_ret_block (E_ret_then ?_))))
      obtain rfl := Option.some.inj hm
      refine E_weak (Hp.le_trans hle104 hle118) ?_
      exact end1 rfl rfl ⟨rfl, rfl, rfl⟩
     ·have hm := ite_f' hb141 hm
      refine C_skip (E_normal_block (E_then (C_seq (C_region ?_))))
      refine W_assign rfl rfl rfl ?_
      refine W_end (E_then (C_ret ?_))
      obtain rfl := Option.some.inj hm
      refine E_weak (Hp.le_trans hle104 hle118) ?_
      exact end1 rfl rfl ⟨rfl, rfl, rfl⟩
  ·have hm := ite_t' hb134 hm
   refine W_no rfl rfl rfl ?_
   refine W_no rfl rfl rfl ?_
   refine W_no rfl rfl rfl ?_
   refine W_no rfl rfl rfl ?_
   refine W_no rfl rfl rfl ?_
   refine W_no rfl rfl rfl ?_
   refine W_no rfl rfl rfl ?_
   refine W_no rfl rfl rfl ?_
   refine W_pick rfl rfl rfl rfl ?_
   refine W_assign rfl rfl rfl ?_
   refine W_end (E_then ?_)
   refine C_cond (b := true) rfl (fun _ => ?_) (fun hb => Bool.noConfusion hb)
   refine C_seq (C_region ?_)
   refine W_assign rfl rfl rfl ?_
   refine W_end (E_then (C_ret (E_ret_block (E_ret_then ?_))))
   obtain rfl := Option.some.inj hm
   refine E_weak (Hp.le_trans hle104 hle118) ?_
   exact end1 rfl rfl ⟨rfl, rfl, rfl⟩

theorem m_strings_HasPrefix_c {B : Nat} {w0 w : World} [Tabs B w0] {H : Hp} {M : List Res} {p0_s : ByteArray} {p1_prefix : ByteArray} {r : Bool} (hm : m_strings_HasPrefix p0_s p1_prefix = some r) (ht : St B w0 H (M) w) :
  Calls prog 59 [.string (p0_s), .string (p1_prefix)].toArray w (Ret B w0 fun H' M' v => H = H' ∧ M = M' ∧ .bool (r) = v) := by
 unfold m_strings_HasPrefix at hm
 refine enter func59 rfl rfl rfl ht ?_
 refine C_seq (C_region ?_)
 refine W_assign rfl rfl rfl ?_
 refine W_end (E_then (C_seq (C_region ?_)))
 refine W_move rfl rfl rfl ?_
 refine W_move rfl rfl rfl ?_
 obtain ⟨r101, hc102, hm⟩ := bind_some hm
 refine W_call call72 rfl rfl rfl (fun w ht => by have h := m_internal_stringslite_HasPrefix_c (hm := hc102)  ht; exact h) ?_
 rintro _ _ _ ⟨rfl, rfl, rfl⟩
 refine W_assign rfl rfl rfl ?_
 refine W_end (E_then (C_ret ?_))
 obtain rfl := Option.some.inj hm
 refine E_weak (Hp.le_refl _) ?_
 exact end1 rfl rfl ⟨rfl, rfl, rfl⟩

theorem puint74_c {B : Nat} {w0 w : World} [Tabs B w0] {H : Hp} {M : List Res} {s : ByteArray} (hs : s.size ≠ 0 ∧ s.size ≤ 281474976710656) (ht : St B w0 H M w) :
  Calls prog 74 [.string s, .int .i64 10, .int .i64 32].toArray w (Ret B w0 fun H' M' v => H = H' ∧ ∃ ev : Value, M = M' ∧ .tuple #[.int .u64 (puB s).1, ev] = v ∧ IsErr ev (puB s).2) := by
 refine (internal_strconv_ParseUint_10_b32 s hs.1 (by omega) w).mono ?_
 rintro e w' ⟨rfl, rfl⟩
 have hu := ht.under (Joins.below_bytesWorld w.heap.size w 5 s (Nat.le_refl _))
 unfold puB
 cases h : Lib.parseUintM 4294967295 0 s.data.toList with
 | ok v => exact ⟨H, M, hu, rfl, .nilIface, rfl, rfl, .inl ⟨rfl, rfl⟩⟩
 | range => exact ⟨H, M, hu, rfl, _, rfl, rfl, .inr ⟨rfl, _, _, rfl⟩⟩
 | _ => exact ⟨H, M, hu, rfl, _, rfl, rfl, .inr ⟨rfl, _, _, rfl⟩⟩

theorem puo60_c {B : Nat} {w0 w : World} [Tabs B w0] {H : Hp} {M : List Res} {s : ByteArray} (hs : s.size ≠ 0 ∧ s.size ≤ 281474976710656 ∧ (puB s).2 = false) (ht : St B w0 H M w) :
  Calls prog 60 [.string s, .int .i64 10, .int .i64 32].toArray w (Ret B w0 fun H' M' v => H = H' ∧ M = M' ∧ .tuple #[.int .u64 (puB s).1, .nilIface] = v) := by
 refine enter func60 rfl rfl rfl ht ?_
 refine C_seq (C_region ?_)
 refine W_assign rfl rfl rfl ?_
 refine W_assign rfl rfl rfl ?_
 refine W_end (E_then (C_seq (C_region ?_)))
 refine W_move rfl rfl rfl ?_
 refine W_move rfl rfl rfl ?_
 refine W_move rfl rfl rfl ?_
 refine W_call call74 rfl rfl rfl (fun w ht => by have h := puint74_c ⟨hs.1, hs.2.1⟩ ht; exact h) ?_
 rintro _ _ _ ⟨rfl, ev, rfl, rfl, he⟩
 rw [hs.2.2] at he
 refine W_move rfl rfl rfl ?_
 refine W_extract rfl rfl rfl rfl ?_
 refine W_extract rfl rfl rfl rfl ?_
 refine W_assign rfl rfl rfl ?_
 refine W_assign rfl rfl rfl ?_
 refine W_end (E_then (C_seq (C_seq (C_region ?_))))
 refine W_move rfl rfl rfl ?_
 refine W_errNe runUnderlying93 he rfl rfl rfl ?_
 refine W_end (E_then ?_)
 refine C_cond (b := false) rfl (fun hb => Bool.noConfusion hb) (fun _ => ?_)
 refine C_skip (E_then (C_seq (C_region ?_)))
 refine W_move rfl rfl rfl ?_
 refine W_assign rfl rfl rfl ?_
 refine W_assign rfl rfl rfl ?_
 refine W_end (E_then (C_ret ?_))
 exact end2 rfl rfl rfl ⟨rfl, rfl, rfl⟩

theorem m_large_norm_c {B : Nat} {w0 w : World} [Tabs B w0] {H : Hp} {M : List Res} {minus : Bool} {p1_w : (List U32)} {v0 : Value} {r : S_large_Int} (hm : m_large_norm minus p1_w = some r) (h0 : RdS H v0 p1_w) (ht : St B w0 H (M) w) :
  Calls prog 54 [.bool (minus), v0].toArray w (Ret B w0 fun H' M' v => H.le H' ∧ ∃ qv0 : Value, M = M' ∧ .agg [.bool (r.minus), qv0].toArray = v ∧ RdS H' qv0 r.words) := by
 unfold m_large_norm at hm
 refine enter func54 rfl rfl rfl ht ?_
 refine C_seq (C_region ?_)
 refine W_alloc (cs := [.bool (false), .slice none 0 0]) rfl rfl zeroValue47 rfl (fun b101 => ?_)
 refine W_end (E_then ?_)
 refine C_seq_join (fun H' M' L' => ∃ l153 : (List U32), ∃ v152 : Value, m_large_norm_b2 minus l153 = some r ∧ RdS H' v152 l153 ∧ H.le H' ∧ .obj b101 (.cells ([.bool (false), .slice none 0 0] : List Value).toArray 47 (0, 0)) :: M = M' ∧ [(0, .bool (minus)), (1, v152), (4, .pointer (some ⟨b101, 0, none⟩))] = L') ?_ (fun J157 => ?_)
 ·rintro H155 _ _ ⟨l153, v152, hm, h154, hle156, rfl, rfl⟩
  unfold m_large_norm_b2 at hm
  refine C_seq (C_region ?_)
  refine W_move rfl rfl rfl ?_
  refine W_move rfl rfl rfl ?_
  cases hb158 : (minus)
  ·have hm := ite_f' hb158 hm
   refine W_no rfl rfl rfl ?_
   refine W_no rfl rfl rfl ?_
   refine W_no rfl rfl rfl ?_
   refine W_pick rfl rfl rfl rfl ?_
   refine W_move rfl rfl rfl ?_
   refine W_build (css := [[.bool (false)], [v152]]) (zs := [.bool (false), .slice none 0 0]) (out := [.bool (false), v152]) (places := [(0, 1), (1, 1)]) rfl rfl rfl ⟨rfl, (RdS.cells h154), trivial⟩ zeroValue47 rfl runUnderlying47 (fun w => by kernel_rfl) rfl ?_
   refine W_store (cs := [.bool (false), v152]) (out := [.bool (false), v152]) rfl sizeOf47 rfl rfl rfl rfl rfl (all_cons rfl (all_cons (RdS.one1 h154) all_nil)) (over_all rfl) ?_
   refine W_end (E_then (C_ret ?_))
   obtain rfl := Option.some.inj hm
   exact endC1 (Hp.le_refl _) rfl (ResV.agg rfl isAgg47 sizeOf47 (List.mem_cons_self ..) rfl) (List.Sublist.cons _ (List.Sublist.refl _)) (List.Perm.refl _) ⟨hle156, v152, rfl, rfl, h154⟩
  ·have hm := ite_t' hb158 hm
   refine W_move rfl rfl rfl ?_
   refine W_lenR rfl rfl runUnderlying45 rfl h154 ?_
   refine W_bin rfl rfl rfl rfl rfl ?_
   refine W_pick rfl rfl rfl rfl ?_
   refine W_move rfl rfl rfl ?_
   refine W_build (css := [[.bool (decide (0 < (l153.length : Int)))], [v152]]) (zs := [.bool (false), .slice none 0 0]) (out := [.bool (decide (0 < (l153.length : Int))), v152]) (places := [(0, 1), (1, 1)]) rfl rfl rfl ⟨rfl, (RdS.cells h154), trivial⟩ zeroValue47 rfl runUnderlying47 (fun w => by kernel_rfl) rfl ?_
   refine W_store (cs := [.bool (decide (0 < (l153.length : Int))), v152]) (out := [.bool (decide (0 < (l153.length : Int))), v152]) rfl sizeOf47 rfl rfl rfl rfl rfl (all_cons rfl (all_cons (RdS.one1 h154) all_nil)) (over_all rfl) ?_
   refine W_end (E_then (C_ret ?_))
   obtain rfl := Option.some.inj hm
   exact endC1 (Hp.le_refl _) rfl (ResV.agg rfl isAgg47 sizeOf47 (List.mem_cons_self ..) rfl) (List.Sublist.cons _ (List.Sublist.refl _)) (List.Perm.refl _) ⟨hle156, v152, rfl, rfl, h154⟩
 ·refine C_block ?_
  refine C_keep (L' := [(0, .bool (minus)), (1, v0), (4, .pointer (some ⟨b101, 0, none⟩))]) ⟨rfl, rfl, rfl, trivial⟩ (List.Perm.refl _) ?_
  refine C_loop (fun n H' M' L' => ∃ l186 : (List U32), ∃ v185 : Value, loopF (fun s190 n => m_large_norm_b3 minus s190 n) n l186 = some r ∧ RdS H' v185 l186 ∧ H.le H' ∧ .obj b101 (.cells ([.bool (false), .slice none 0 0] : List Value).toArray 47 (0, 0)) :: M = M' ∧ [(0, .bool (minus)), (1, v185), (4, .pointer (some ⟨b101, 0, none⟩))] = L') FUEL ⟨p1_w, v0, hm, h0, (Hp.le_refl _), rfl, rfl⟩ ?_
  rintro n193 H188 _ _ ⟨l186, v185, hm, h187, hle189, rfl, rfl⟩
  cases n193 with
  | zero => cases hm
  | succ n193 =>
   have hm : m_large_norm_b3 minus l186 (loopF (fun s190 n => m_large_norm_b3 minus s190 n) n193) = some r := hm
   generalize hn192 : loopF (fun s190 n => m_large_norm_b3 minus s190 n) n193 = nx191 at hm
   unfold m_large_norm_b3 at hm
   refine C_seq (C_seq (C_region ?_))
   refine W_move rfl rfl rfl ?_
   refine W_lenR rfl rfl runUnderlying45 rfl h187 ?_
   refine W_bin rfl rfl rfl rfl rfl ?_
   refine W_move rfl rfl rfl ?_
   cases hb199 : (decide (0 < (l186.length : Int)))
   ·have hm := ite_f' hb199 hm
    refine W_no rfl rfl rfl ?_
    refine W_no rfl rfl rfl ?_
    refine W_no rfl rfl rfl ?_
    refine W_no rfl rfl rfl ?_
    refine W_no rfl rfl rfl ?_
    refine W_no rfl rfl rfl ?_
    refine W_no rfl rfl rfl ?_
    refine W_pick rfl rfl rfl rfl ?_
    refine W_end (E_then ?_)
    refine C_cond (b := false) rfl (fun hb => Bool.noConfusion hb) (fun _ => ?_)
    refine C_exit (E_exit_then (E_exit_then (E_exit_hit ?_)))
    exact E_keepJ (J157 _ _ _ ⟨l186, v185, hm, h187, hle189, rfl, rfl⟩) (List.Perm.refl _) ⟨rfl, rfl, rfl, trivial⟩
   ·have hm := ite_t' hb199 hm
    refine W_move rfl rfl rfl ?_
    refine W_move rfl rfl rfl ?_
    refine W_lenR rfl rfl runUnderlying45 rfl h187 ?_
    refine W_bin rfl rfl rfl rfl rfl ?_
    obtain ⟨y200, h201, he202, hm⟩ := idx_some hm
    obtain ⟨_, rfl, hc203⟩ := (h187).elem he202
    refine W_indexS rfl rfl runUnderlying45 sizeOf80 rfl h187 rfl h201 he202 ?_
    refine W_load rfl rfl isAgg80 rfl (HCells.one hc203 0 rfl).at ?_
    refine W_bin rfl rfl rfl rfl rfl ?_
    refine W_pick rfl rfl rfl rfl ?_
    refine W_end (E_then ?_)
    refine C_cond (b := decide (y200.n = 0)) rfl (fun hb204 => ?_) (fun hb204 => ?_)
    ·have hm := ite_t' hb204 hm
     refine C_skip (E_then (C_block (C_region ?_)))
     refine W_move rfl rfl rfl ?_
     refine W_move rfl rfl rfl ?_
     refine W_lenR rfl rfl runUnderlying45 rfl h187 ?_
     refine W_bin rfl rfl rfl rfl rfl ?_
     obtain ⟨hz205, hm⟩ := need_some hm
     refine W_sliceR (α := U32) (l := 0) (h := (IntKind.i64.wrap ((l186.length : Int) - 1) : Int).toNat) (xs := l186) rfl rfl runUnderlying45 sizeOf80 rfl h187 (by omega) (by omega) (.inl rfl) (fun cap hcap => by rw [if_pos rfl]; exact (.inl ⟨rfl, rfl⟩)) (fun m hmm => (.inr ⟨_, _, _, rfl, rfl, by omega, by omega, rfl⟩)) (.inl ⟨rfl, rfl⟩) ?_
     intro v206 h207 hc208
     refine W_assign rfl rfl rfl ?_
     refine W_end (E_normal_block ?_)
     exact E_keepJ (E_back (Nat.lt_succ_self _) ⟨(slc l186 0 ((IntKind.i64.wrap ((l186.length : Int) - 1) : Int).toNat)), v206, (by rw [hn192]; exact hm), h207, hle189, rfl, rfl⟩) (List.Perm.refl _) ⟨rfl, rfl, rfl, trivial⟩
    ·have hm := ite_f' hb204 hm
     refine C_exit (E_exit_then (E_exit_then (E_exit_hit ?_)))
     exact E_keepJ (J157 _ _ _ ⟨l186, v185, hm, h187, hle189, rfl, rfl⟩) (List.Perm.refl _) ⟨rfl, rfl, rfl, trivial⟩

theorem m_large_Of_c {B : Nat} {w0 w : World} [Tabs B w0] {H : Hp} {M : List Res} {p0_n : Int} {r : S_large_Int} (hm : m_large_Of p0_n = some r) (ht : St B w0 H (M) w) :
  Calls prog 40 [.int .i64 (p0_n)].toArray w (Ret B w0 fun H' M' v => H.le H' ∧ ∃ qv0 : Value, M = M' ∧ .agg [.bool (r.minus), qv0].toArray = v ∧ RdS H' qv0 r.words) := by
 unfold m_large_Of at hm
 refine enter func40 rfl rfl rfl ht ?_
 refine C_seq (C_region ?_)
 refine W_alloc (cs := [.bool (false), .slice none 0 0]) rfl rfl zeroValue47 rfl (fun b101 => ?_)
 refine W_end (E_then (C_seq (C_region ?_)))
 refine W_move rfl rfl rfl ?_
 refine W_convInt rfl rfl runUnderlying3 runUnderlying84 rfl ?_
 refine W_assign rfl rfl rfl ?_
 refine W_end (E_then ?_)
 refine C_seq_join (fun H' M' L' => ∃ n103 : Int, m_large_Of_b1 p0_n n103 = some r ∧ H = H' ∧ .obj b101 (.cells ([.bool (false), .slice none 0 0] : List Value).toArray 47 (0, 0)) :: M = M' ∧ [(0, .int .i64 (p0_n)), (2, .pointer (some ⟨b101, 0, none⟩)), (3, .int .u64 (n103))] = L') ?_ (fun J104 => ?_)
 ·rintro _ _ _ ⟨n103, hm, rfl, rfl, rfl⟩
  unfold m_large_Of_b1 at hm
  refine C_seq (C_region ?_)
  refine W_move rfl rfl rfl ?_
  refine W_bin rfl rfl rfl rfl rfl ?_
  refine W_move rfl rfl rfl ?_
  refine W_convInt rfl rfl runUnderlying84 runUnderlying80 rfl ?_
  refine W_move rfl rfl rfl ?_
  refine W_shr rfl rfl rfl rfl (by decide) ?_
  refine W_convInt rfl rfl runUnderlying84 runUnderlying80 rfl ?_
  refine W_buildSliceO (α := U32) (css := [[.int .u32 (IntKind.u32.wrap (n103))], [.int .u32 (IntKind.u32.wrap (shrV .u64 n103 32))]]) (zs := [.int .u32 (0), .int .u32 (0)]) (out := [.int .u32 (IntKind.u32.wrap (n103)), .int .u32 (IntKind.u32.wrap (shrV .u64 n103 32))]) (ys := ([⟨IntKind.u32.wrap (n103)⟩, ⟨IntKind.u32.wrap (shrV .u64 n103 32)⟩] : List U32)) rfl rfl rfl ⟨rfl, rfl, trivial⟩ runUnderlying45 sizeOf80 rfl zeroValue80 (by kernel_rfl) rfl rfl rfl rfl ⟨[.int .u32 (IntKind.u32.wrap (n103))], [.int .u32 (IntKind.u32.wrap (shrV .u64 n103 32))], rfl, rfl, ⟨[.int .u32 (IntKind.u32.wrap (shrV .u64 n103 32))], [], rfl, rfl, rfl⟩⟩ rfl ?_
  intro v105 xs106 hr107
  refine W_freeze (hr107).rd rfl (fun H108 hle109 h110 => ?_)
  obtain ⟨r111, hc112, hm⟩ := bind_some hm
  refine W_call call54 rfl rfl rfl (fun w ht => by have h := m_large_norm_c (hm := hc112) h110 ht; exact h) ?_
  rintro _ H115 _ ⟨hle116, v113, rfl, rfl, h114⟩
  refine W_store (cs := [.bool (r111.minus), v113]) (out := [.bool (r111.minus), v113]) rfl sizeOf47 rfl rfl rfl rfl rfl (all_cons rfl (all_cons (RdS.one1 h114) all_nil)) (over_all rfl) ?_
  refine W_end (E_then (C_ret ?_))
  obtain rfl := Option.some.inj hm
  exact endC1 (Hp.le_refl _) rfl (ResV.agg rfl isAgg47 sizeOf47 (List.mem_cons_self ..) rfl) (List.Sublist.cons _ (List.Sublist.refl _)) (List.Perm.refl _) ⟨(Hp.le_trans hle109 hle116), v113, rfl, rfl, h114⟩
 ·refine C_seq (C_region ?_)
  refine W_move rfl rfl rfl ?_
  refine W_bin rfl rfl rfl rfl rfl ?_
  refine W_end (E_then ?_)
  refine C_cond (b := decide (p0_n < 0)) rfl (fun hb117 => ?_) (fun hb117 => ?_)
  ·have hm := ite_t' hb117 hm
   refine C_region ?_
   refine W_move rfl rfl rfl ?_
   refine W_un rfl rfl rfl rfl ?_
   refine W_assign rfl rfl rfl ?_
   refine W_end ?_
   exact E_keepJ (J104 _ _ _ ⟨IntKind.u64.wrap (0 - (IntKind.u64.wrap (p0_n))), hm, rfl, rfl, rfl⟩) (List.Perm.refl _) ⟨rfl, rfl, rfl, trivial⟩
  ·have hm := ite_f' hb117 hm
   refine C_skip ?_
   exact E_keepJ (J104 _ _ _ ⟨IntKind.u64.wrap (p0_n), hm, rfl, rfl, rfl⟩) (List.Perm.refl _) ⟨rfl, rfl, rfl, trivial⟩

theorem m_large_Int_Mul_c {B : Nat} {w0 w : World} [Tabs B w0] {H : Hp} {M : List Res} {p0_a : S_large_Int} {p1_b : S_large_Int} {v0 : Value} {v1 : Value} {r : S_large_Int} (hm : m_large_Int_Mul p0_a p1_b = some r) (h0 : RdS H v0 p0_a.words) (h1 : RdS H v1 p1_b.words) (ht : St B w0 H (M) w) :
  Calls prog 47 [.agg [.bool (p0_a.minus), v0].toArray, .agg [.bool (p1_b.minus), v1].toArray].toArray w (Ret B w0 fun H' M' v => H.le H' ∧ ∃ qv0 : Value, M = M' ∧ .agg [.bool (r.minus), qv0].toArray = v ∧ RdS H' qv0 r.words) := by
 unfold m_large_Int_Mul at hm
 refine enter func47 rfl rfl rfl ht ?_
 refine C_seq (C_region ?_)
 refine W_box (cs := [.bool (p0_a.minus), v0]) rfl rfl rfl rfl (fun b101 => ?_)
 refine W_box (cs := [.bool (p1_b.minus), v1]) rfl rfl rfl rfl (fun b102 => ?_)
 refine W_alloc (cs := [.bool (false), .slice none 0 0]) rfl rfl zeroValue47 rfl (fun b103 => ?_)
 refine W_end (E_then (C_seq (C_region ?_)))
 refine W_field (o := 1) rfl rfl runUnderlying47 rfl sizeOf45 rfl rfl rfl ?_
 refine W_load rfl rfl isAgg45 rfl (own_at (List.mem_cons_of_mem _ (List.mem_cons_of_mem _ (List.mem_cons_self ..))) rfl) ?_
 refine W_lenR rfl rfl runUnderlying45 rfl h0 ?_
 refine W_field (o := 1) rfl rfl runUnderlying47 rfl sizeOf45 rfl rfl rfl ?_
 refine W_load rfl rfl isAgg45 rfl (own_at (List.mem_cons_of_mem _ (List.mem_cons_self ..)) rfl) ?_
 refine W_lenR rfl rfl runUnderlying45 rfl h1 ?_
 refine W_bin rfl rfl rfl rfl rfl ?_
 obtain ⟨hz104, hm⟩ := need_some hm
 refine W_makeSlice (α := U32) (zs := [.int .u32 (0)]) (ze := ⟨0⟩) rfl rfl underlying45 ⟨_, rfl, rfl, rfl, rfl⟩ rfl rfl rfl rfl rfl rfl hz104.1 hz104.2 ?_
 intro v105 xs106 hr107
 refine W_assign rfl rfl rfl ?_
 refine W_end (E_then (C_seq (C_seq (C_region ?_))))
 refine W_field (o := 1) rfl rfl runUnderlying47 rfl sizeOf45 rfl rfl rfl ?_
 refine W_load rfl rfl isAgg45 rfl (own_at (List.mem_cons_of_mem _ (List.mem_cons_of_mem _ (List.mem_cons_of_mem _ (List.mem_cons_self ..)))) rfl) ?_
 refine W_lenR rfl rfl runUnderlying45 rfl h0 ?_
 refine W_move rfl rfl rfl ?_
 refine W_end (E_then (C_block ?_))
 refine C_keep (L' := [(2, .pointer (some ⟨b101, 0, none⟩)), (3, .pointer (some ⟨b102, 0, none⟩)), (4, .pointer (some ⟨b103, 0, none⟩)), (5, v105), (20, v0), (21, .int .i64 ((p0_a.words.length : Int))), (22, .int .i64 (((0 : Nat) : Int)))]) ⟨rfl, rfl, rfl, rfl, rfl, rfl, rfl, trivial⟩ (List.Perm.refl _) ?_
 refine C_loop (fun n H' M' L' => ∃ (k108 : Nat) (zs284' : List U32), ∃ l275 : List U32, ∃ xs274 : List Value, (p0_a.words).drop k108 = zs284' ∧ zs284'.length = n ∧ forI (fun k y s279 n => m_large_Int_Mul_b3 p1_b k y s279 n) (fun s279 => (m_large_norm (!decide (p0_a.minus = p1_b.minus)) s279).bind fun r368 => some r368) k108 zs284' l275 = some r ∧ Rw H' v105 xs274 l275 ∧ H.le H' ∧ .row v105 80 (Rep.sz U32) l275.length xs274 :: .obj b103 (.cells ([.bool (false), .slice none 0 0] : List Value).toArray 47 (0, 0)) :: .obj b102 (.cells [.bool (p1_b.minus), v1].toArray 47 (0, 0)) :: .obj b101 (.cells [.bool (p0_a.minus), v0].toArray 47 (0, 0)) :: M = M' ∧ [(2, .pointer (some ⟨b101, 0, none⟩)), (3, .pointer (some ⟨b102, 0, none⟩)), (4, .pointer (some ⟨b103, 0, none⟩)), (5, v105), (20, v0), (21, .int .i64 ((p0_a.words.length : Int))), (22, .int .i64 ((k108 : Int)))] = L') _ ⟨0, _, (List.replicate (IntKind.i64.wrap ((p0_a.words.length : Int) + (p1_b.words.length : Int)) : Int).toNat (⟨0⟩ : U32)), xs106, rfl, rfl, hm, hr107, (Hp.le_refl _), rfl, rfl⟩ ?_
 rintro _ H277 _ _ ⟨k108, zs284', l275, xs274, hd286, rfl, hm, hr276, hle278, rfl, rfl⟩
 refine C_seq (C_region ?_)
 refine W_bin rfl rfl rfl rfl rfl ?_
 refine W_end (E_then (C_seq ?_))
 refine C_cond (b := decide ((k108 : Int) < (p0_a.words.length : Int))) rfl (fun hb288 => ?_) (fun hb288 => ?_)
 ·obtain ⟨y283, zs284, rfl, hy285, hd287⟩ := rng_t hd286 hb288
  have hm : m_large_Int_Mul_b3 p1_b k108 y283 l275 (forI (fun k y s279 n => m_large_Int_Mul_b3 p1_b k y s279 n) (fun s279 => (m_large_norm (!decide (p0_a.minus = p1_b.minus)) s279).bind fun r368 => some r368) (k108 + 1) zs284) = some r := hm
  generalize hn281 : forI (fun k y s279 n => m_large_Int_Mul_b3 p1_b k y s279 n) (fun s279 => (m_large_norm (!decide (p0_a.minus = p1_b.minus)) s279).bind fun r368 => some r368) (k108 + 1) zs284 = nx280 at hm
  unfold m_large_Int_Mul_b3 at hm
  refine C_skip (E_then (C_seq (C_block (C_seq (C_region ?_)))))
  refine W_move rfl rfl rfl ?_
  obtain ⟨_, rfl, hc289⟩ := (h0).elem hy285
  refine W_indexS rfl rfl runUnderlying45 sizeOf80 rfl (h0.mono hle278) rfl (Int.natCast_nonneg _) hy285 ?_
  refine W_load rfl rfl isAgg80 rfl (HCells.one (hc289.mono hle278) 0 rfl).at ?_
  refine W_assign rfl rfl rfl ?_
  refine W_assign rfl rfl rfl ?_
  refine W_end (E_then (C_seq (C_region ?_)))
  refine W_assign rfl rfl rfl ?_
  refine W_end (E_then (C_seq (C_seq (C_region ?_))))
  refine W_field (o := 1) rfl rfl runUnderlying47 rfl sizeOf45 rfl rfl rfl ?_
  refine W_load rfl rfl isAgg45 rfl (own_at (List.mem_cons_of_mem _ (List.mem_cons_of_mem _ (List.mem_cons_self ..))) rfl) ?_
  refine W_lenR rfl rfl runUnderlying45 rfl (h1.mono hle278) ?_
  refine W_move rfl rfl rfl ?_
  refine W_end (E_then (C_block ?_))
  refine C_keep (L' := [(2, .pointer (some ⟨b101, 0, none⟩)), (3, .pointer (some ⟨b102, 0, none⟩)), (4, .pointer (some ⟨b103, 0, none⟩)), (5, v105), (6, .int .i64 ((k108 : Int))), (7, .int .u32 (y283.n)), (8, .int .u64 (0)), (20, v0), (21, .int .i64 ((p0_a.words.length : Int))), (22, .int .i64 ((k108 : Int))), (28, v1), (29, .int .i64 ((p1_b.words.length : Int))), (30, .int .i64 (((0 : Nat) : Int)))]) ⟨rfl, rfl, rfl, rfl, rfl, rfl, rfl, rfl, rfl, rfl, rfl, rfl, rfl, trivial⟩ (List.Perm.refl _) ?_
  refine C_loop (fun n H' M' L' => ∃ (k290 : Nat) (zs339' : List U32), ∃ l329 : List U32, ∃ n331 : Int, ∃ xs328 : List Value, (p1_b.words).drop k290 = zs339' ∧ zs339'.length = n ∧ forI (fun k y s334 n => m_large_Int_Mul_b4 y283 k108 k y s334.1 s334.2 n) (fun s334 => idx s334.1 (IntKind.i64.wrap ((k108 : Int) + (p1_b.words.length : Int))) fun y357 => nx280 (s334.1.set ((IntKind.i64.wrap ((k108 : Int) + (p1_b.words.length : Int)) : Int).toNat) ⟨IntKind.u32.wrap (s334.2)⟩)) k290 zs339' (l329, n331) = some r ∧ Rw H' v105 xs328 l329 ∧ H277.le H' ∧ .row v105 80 (Rep.sz U32) l329.length xs328 :: .obj b103 (.cells ([.bool (false), .slice none 0 0] : List Value).toArray 47 (0, 0)) :: .obj b102 (.cells [.bool (p1_b.minus), v1].toArray 47 (0, 0)) :: .obj b101 (.cells [.bool (p0_a.minus), v0].toArray 47 (0, 0)) :: M = M' ∧ [(2, .pointer (some ⟨b101, 0, none⟩)), (3, .pointer (some ⟨b102, 0, none⟩)), (4, .pointer (some ⟨b103, 0, none⟩)), (5, v105), (6, .int .i64 ((k108 : Int))), (7, .int .u32 (y283.n)), (8, .int .u64 (n331)), (20, v0), (21, .int .i64 ((p0_a.words.length : Int))), (22, .int .i64 ((k108 : Int))), (28, v1), (29, .int .i64 ((p1_b.words.length : Int))), (30, .int .i64 ((k290 : Int)))] = L') _ ⟨0, _, l275, 0, xs274, rfl, rfl, hm, hr276, (Hp.le_refl _), rfl, rfl⟩ ?_
  rintro _ H332 _ _ ⟨k290, zs339', l329, n331, xs328, hd341, rfl, hm, hr330, hle333, rfl, rfl⟩
  refine C_seq (C_region ?_)
  refine W_bin rfl rfl rfl rfl rfl ?_
  refine W_end (E_then (C_seq ?_))
  refine C_cond (b := decide ((k290 : Int) < (p1_b.words.length : Int))) rfl (fun hb343 => ?_) (fun hb343 => ?_)
  ·obtain ⟨y338, zs339, rfl, hy340, hd342⟩ := rng_t hd341 hb343
   have hm : m_large_Int_Mul_b4 y283 k108 k290 y338 l329 n331 (forI (fun k y s334 n => m_large_Int_Mul_b4 y283 k108 k y s334.1 s334.2 n) (fun s334 => idx s334.1 (IntKind.i64.wrap ((k108 : Int) + (p1_b.words.length : Int))) fun y357 => nx280 (s334.1.set ((IntKind.i64.wrap ((k108 : Int) + (p1_b.words.length : Int)) : Int).toNat) ⟨IntKind.u32.wrap (s334.2)⟩)) (k290 + 1) zs339) = some r := hm
   generalize hn336 : forI (fun k y s334 n => m_large_Int_Mul_b4 y283 k108 k y s334.1 s334.2 n) (fun s334 => idx s334.1 (IntKind.i64.wrap ((k108 : Int) + (p1_b.words.length : Int))) fun y357 => nx280 (s334.1.set ((IntKind.i64.wrap ((k108 : Int) + (p1_b.words.length : Int)) : Int).toNat) ⟨IntKind.u32.wrap (s334.2)⟩)) (k290 + 1) zs339 = nx335 at hm
   unfold m_large_Int_Mul_b4 at hm
   refine C_skip (E_then (C_seq (C_block (C_seq (C_region ?_)))))
   refine W_move rfl rfl rfl ?_
   obtain ⟨_, rfl, hc344⟩ := (h1).elem hy340
   refine W_indexS rfl rfl runUnderlying45 sizeOf80 rfl ((h1.mono hle278).mono hle333) rfl (Int.natCast_nonneg _) hy340 ?_
   refine W_load rfl rfl isAgg80 rfl (HCells.one ((hc344.mono hle278).mono hle333) 0 rfl).at ?_
   refine W_assign rfl rfl rfl ?_
   refine W_assign rfl rfl rfl ?_
   refine W_end (E_then (C_seq (C_region ?_)))
   refine W_move rfl rfl rfl ?_
   refine W_move rfl rfl rfl ?_
   refine W_move rfl rfl rfl ?_
   refine W_move rfl rfl rfl ?_
   refine W_bin rfl rfl rfl rfl rfl ?_
   obtain ⟨y345, h346, he347, hm⟩ := idx_some hm
   refine W_indexO (List.mem_cons_self ..) rfl rfl runUnderlying45 sizeOf80 rfl rfl h346 (List.getElem?_eq_some_iff.1 he347).1 ?_
   obtain ⟨_, rfl, hg348⟩ := (hr330).elem he347
   refine W_load rfl rfl isAgg80 rfl (row_one0 (List.mem_cons_self ..) hg348 rfl) ?_
   refine W_convInt rfl rfl runUnderlying80 runUnderlying84 rfl ?_
   refine W_move rfl rfl rfl ?_
   refine W_convInt rfl rfl runUnderlying80 runUnderlying84 rfl ?_
   refine W_move rfl rfl rfl ?_
   refine W_convInt rfl rfl runUnderlying80 runUnderlying84 rfl ?_
   refine W_bin rfl rfl rfl rfl rfl ?_
   refine W_bin rfl rfl rfl rfl rfl ?_
   refine W_bin rfl rfl rfl rfl rfl ?_
   refine W_assign rfl rfl rfl ?_
   refine W_end (E_then (C_seq (C_region ?_)))
   refine W_move rfl rfl rfl ?_
   refine W_move rfl rfl rfl ?_
   refine W_move rfl rfl rfl ?_
   refine W_bin rfl rfl rfl rfl rfl ?_
   refine W_move rfl rfl rfl ?_
   refine W_convInt rfl rfl runUnderlying84 runUnderlying80 rfl ?_
   obtain ⟨y349, h350, he351, hm⟩ := idx_some hm
   refine W_indexO (List.mem_cons_self ..) rfl rfl runUnderlying45 sizeOf80 rfl rfl h350 (List.getElem?_eq_some_iff.1 he351).1 ?_
   obtain ⟨_, rfl, hg352⟩ := (hr330).elem he351
   obtain ⟨hr353, he354, hg355⟩ := Rw.put (cs := [.int .u32 (IntKind.u32.wrap (IntKind.u64.wrap (n331 + (IntKind.u64.wrap ((IntKind.u64.wrap (y345.n)) + (IntKind.u64.wrap ((IntKind.u64.wrap (y283.n)) * (IntKind.u64.wrap (y338.n)))))))))]) (o := 0) (c := [.int .u32 (y349.n)]) (out := [.int .u32 (IntKind.u32.wrap (IntKind.u64.wrap (n331 + (IntKind.u64.wrap ((IntKind.u64.wrap (y345.n)) + (IntKind.u64.wrap ((IntKind.u64.wrap (y283.n)) * (IntKind.u64.wrap (y338.n)))))))))]) (e2 := ⟨IntKind.u32.wrap (IntKind.u64.wrap (n331 + (IntKind.u64.wrap ((IntKind.u64.wrap (y345.n)) + (IntKind.u64.wrap ((IntKind.u64.wrap (y283.n)) * (IntKind.u64.wrap (y338.n))))))))⟩) hr330 he351 rfl hg352 rfl rfl rfl
   refine W_storeO2 (i := (IntKind.i64.wrap ((k108 : Int) + (k290 : Int)) : Int).toNat * Rep.sz U32 + 0) (cs := [.int .u32 (IntKind.u32.wrap (IntKind.u64.wrap (n331 + (IntKind.u64.wrap ((IntKind.u64.wrap (y345.n)) + (IntKind.u64.wrap ((IntKind.u64.wrap (y283.n)) * (IntKind.u64.wrap (y338.n)))))))))]) rfl sizeOf80 rfl (row_ad0 _ _) rfl rfl rfl (Rw.room hr330 he351 rfl) rfl (all_cons rfl all_nil) (n' := (l329.set ((IntKind.i64.wrap ((k108 : Int) + (k290 : Int)) : Int).toNat) ⟨IntKind.u32.wrap (IntKind.u64.wrap (n331 + (IntKind.u64.wrap ((IntKind.u64.wrap (y345.n)) + (IntKind.u64.wrap ((IntKind.u64.wrap (y283.n)) * (IntKind.u64.wrap (y338.n))))))))⟩).length) List.length_set ?_
   generalize over xs328 ((IntKind.i64.wrap ((k108 : Int) + (k290 : Int)) : Int).toNat * Rep.sz U32 + 0) [.int .u32 (IntKind.u32.wrap (IntKind.u64.wrap (n331 + (IntKind.u64.wrap ((IntKind.u64.wrap (y345.n)) + (IntKind.u64.wrap ((IntKind.u64.wrap (y283.n)) * (IntKind.u64.wrap (y338.n)))))))))] = xs356 at hr353 hg355 ⊢
   refine W_end (E_then (C_region ?_))
   refine W_move rfl rfl rfl ?_
   refine W_shr rfl rfl rfl rfl (by decide) ?_
   refine W_assign rfl rfl rfl ?_
   refine W_end (E_normal_block (E_then (C_region ?_)))
   refine W_bin rfl rfl rfl rfl rfl ?_
   refine W_move rfl rfl rfl ?_
   refine W_end ?_
   exact E_keepJ (E_back (Nat.lt_succ_self _) ⟨k290 + 1, zs339, (l329.set ((IntKind.i64.wrap ((k108 : Int) + (k290 : Int)) : Int).toNat) ⟨IntKind.u32.wrap (IntKind.u64.wrap (n331 + (IntKind.u64.wrap ((IntKind.u64.wrap (y345.n)) + (IntKind.u64.wrap ((IntKind.u64.wrap (y283.n)) * (IntKind.u64.wrap (y338.n))))))))⟩), shrV .u64 (IntKind.u64.wrap (n331 + (IntKind.u64.wrap ((IntKind.u64.wrap (y345.n)) + (IntKind.u64.wrap ((IntKind.u64.wrap (y283.n)) * (IntKind.u64.wrap (y338.n)))))))) 32, xs356, hd342, rfl, (by rw [hn336]; exact hm), hr353, hle333, rfl, rfl⟩) (List.Perm.refl _) ⟨rfl, rfl, rfl, rfl, rfl, rfl, rfl, rfl, rfl, rfl, rfl, rfl, (congrArg (fun z => some (Value.int .i64 z)) (i64_succ hy340 (((h1.mono hle278).mono hle333)).lenMax)), trivial⟩
  ·obtain rfl := rng_f hd341 hb343
   have hm : (idx l329 (IntKind.i64.wrap ((k108 : Int) + (p1_b.words.length : Int))) fun y357 => nx280 (l329.set ((IntKind.i64.wrap ((k108 : Int) + (p1_b.words.length : Int)) : Int).toNat) ⟨IntKind.u32.wrap (n331)⟩)) = some r := hm
   refine C_exit (E_exit_then (E_exit_then (E_exit_hit (E_then (C_region ?_)))))
   refine W_move rfl rfl rfl ?_
   refine W_move rfl rfl rfl ?_
   refine W_field (o := 1) rfl rfl runUnderlying47 rfl sizeOf45 rfl rfl rfl ?_
   refine W_load rfl rfl isAgg45 rfl (own_at (List.mem_cons_of_mem _ (List.mem_cons_of_mem _ (List.mem_cons_self ..))) rfl) ?_
   refine W_lenR rfl rfl runUnderlying45 rfl ((h1.mono hle278).mono hle333) ?_
   refine W_bin rfl rfl rfl rfl rfl ?_
   refine W_move rfl rfl rfl ?_
   refine W_convInt rfl rfl runUnderlying84 runUnderlying80 rfl ?_
   obtain ⟨y357, h358, he359, hm⟩ := idx_some hm
   refine W_indexO (List.mem_cons_self ..) rfl rfl runUnderlying45 sizeOf80 rfl rfl h358 (List.getElem?_eq_some_iff.1 he359).1 ?_
   obtain ⟨_, rfl, hg360⟩ := (hr330).elem he359
   obtain ⟨hr361, he362, hg363⟩ := Rw.put (cs := [.int .u32 (IntKind.u32.wrap (n331))]) (o := 0) (c := [.int .u32 (y357.n)]) (out := [.int .u32 (IntKind.u32.wrap (n331))]) (e2 := ⟨IntKind.u32.wrap (n331)⟩) hr330 he359 rfl hg360 rfl rfl rfl
   refine W_storeO2 (i := (IntKind.i64.wrap ((k108 : Int) + (p1_b.words.length : Int)) : Int).toNat * Rep.sz U32 + 0) (cs := [.int .u32 (IntKind.u32.wrap (n331))]) rfl sizeOf80 rfl (row_ad0 _ _) rfl rfl rfl (Rw.room hr330 he359 rfl) rfl (all_cons rfl all_nil) (n' := (l329.set ((IntKind.i64.wrap ((k108 : Int) + (p1_b.words.length : Int)) : Int).toNat) ⟨IntKind.u32.wrap (n331)⟩).length) List.length_set ?_
   generalize over xs328 ((IntKind.i64.wrap ((k108 : Int) + (p1_b.words.length : Int)) : Int).toNat * Rep.sz U32 + 0) [.int .u32 (IntKind.u32.wrap (n331))] = xs364 at hr361 hg363 ⊢
   refine W_end (E_normal_block (E_then (C_region ?_)))
   refine W_bin rfl rfl rfl rfl rfl ?_
   refine W_move rfl rfl rfl ?_
   refine W_end ?_
   exact E_keepJ (E_back (Nat.lt_succ_self _) ⟨k108 + 1, zs284, (l329.set ((IntKind.i64.wrap ((k108 : Int) + (p1_b.words.length : Int)) : Int).toNat) ⟨IntKind.u32.wrap (n331)⟩), xs364, hd287, rfl, (by rw [hn281]; exact hm), hr361, (Hp.le_trans hle278 hle333), rfl, rfl⟩) (List.Perm.refl _) ⟨rfl, rfl, rfl, rfl, rfl, rfl, (congrArg (fun z => some (Value.int .i64 z)) (i64_succ hy285 ((h0.mono hle278)).lenMax)), trivial⟩
 ·obtain rfl := rng_f hd286 hb288
  have hm : ((m_large_norm (!decide (p0_a.minus = p1_b.minus)) l275).bind fun r368 => some r368) = some r := hm
  refine C_exit (E_exit_then (E_exit_then (E_exit_hit (E_then (C_seq (C_region ?_))))))
  refine W_field (o := 0) rfl rfl runUnderlying47 rfl sizeOf4 rfl rfl rfl ?_
  refine W_load rfl rfl isAgg4 rfl (own_at (List.mem_cons_of_mem _ (List.mem_cons_of_mem _ (List.mem_cons_of_mem _ (List.mem_cons_self ..)))) rfl) ?_
  refine W_field (o := 0) rfl rfl runUnderlying47 rfl sizeOf4 rfl rfl rfl ?_
  refine W_load rfl rfl isAgg4 rfl (own_at (List.mem_cons_of_mem _ (List.mem_cons_of_mem _ (List.mem_cons_self ..))) rfl) ?_
  refine W_neBool rfl rfl runUnderlying4 rfl rfl ?_
  refine W_move rfl rfl rfl ?_
  refine W_freeze (hr276).rd rfl (fun H365 hle366 h367 => ?_)
  obtain ⟨r368, hc369, hm⟩ := bind_some hm
  refine W_call call54 rfl rfl rfl (fun w ht => by have h := m_large_norm_c (hm := hc369) h367 ht; exact h) ?_
  rintro _ H372 _ ⟨hle373, v370, rfl, rfl, h371⟩
  refine W_store (cs := [.bool (r368.minus), v370]) (out := [.bool (r368.minus), v370]) rfl sizeOf47 rfl rfl rfl rfl rfl (all_cons rfl (all_cons (RdS.one1 h371) all_nil)) (over_all rfl) ?_
  refine W_end (E_then (C_ret ?_))
  obtain rfl := Option.some.inj hm
  exact endC1 (Hp.le_refl _) rfl (ResV.agg rfl isAgg47 sizeOf47 (List.mem_cons_self ..) rfl) (List.Sublist.cons _ (List.Sublist.cons _ (List.Sublist.cons _ (List.Sublist.refl _)))) (List.Perm.refl _) ⟨(Hp.le_trans (Hp.le_trans hle278 hle366) hle373), v370, rfl, rfl, h371⟩

theorem m_large_addWords_c {B : Nat} {w0 w : World} [Tabs B w0] {H : Hp} {M : List Res} {p0_a : (List U32)} {p1_b : (List U32)} {v0 : Value} {v1 : Value} {r : (List U32)} (hm : m_large_addWords p0_a p1_b = some r) (h0 : RdS H v0 p0_a) (h1 : RdS H v1 p1_b) (ht : St B w0 H (M) w) :
  Calls prog 61 [v0, v1].toArray w (Ret B w0 fun H' M' v => H = H' ∧ ∃ qv0 : Value, ∃ qxs0 : List Value, .row qv0 80 (Rep.sz U32) r.length qxs0 :: M = M' ∧ qv0 = v ∧ RwF qv0 qxs0 r) := by
 unfold m_large_addWords at hm
 refine enter func61 rfl rfl rfl ht ?_
 refine C_seq (C_region ?_)
 refine W_assign rfl rfl rfl ?_
 refine W_end (E_then ?_)
 refine C_seq_join (fun H' M' L' => ∃ l103 : (List U32), ∃ l106 : (List U32), ∃ v102 : Value, ∃ v105 : Value, m_large_addWords_b5 l103 l106 = some r ∧ RdS H' v102 l103 ∧ RdS H' v105 l106 ∧ H = H' ∧ M = M' ∧ [(0, v102), (1, v105)] = L') ?_ (fun J108 => ?_)
 ·rintro _ _ _ ⟨l103, l106, v102, v105, hm, h104, h107, rfl, rfl, rfl⟩
  unfold m_large_addWords_b5 at hm
  refine C_seq (C_region ?_)
  refine W_move rfl rfl rfl ?_
  refine W_lenR rfl rfl runUnderlying45 rfl h104 ?_
  refine W_bin rfl rfl rfl rfl rfl ?_
  obtain ⟨hz109, hm⟩ := need_some hm
  refine W_makeSlice (α := U32) (zs := [.int .u32 (0)]) (ze := ⟨0⟩) rfl rfl underlying45 ⟨_, rfl, rfl, rfl, rfl⟩ rfl rfl rfl rfl rfl rfl hz109.1 hz109.2 ?_
  intro v110 xs111 hr112
  refine W_assign rfl rfl rfl ?_
  refine W_end (E_then (C_seq (C_region ?_)))
  refine W_assign rfl rfl rfl ?_
  refine W_end (E_then (C_seq (C_seq (C_region ?_))))
  refine W_move rfl rfl rfl ?_
  refine W_lenR rfl rfl runUnderlying45 rfl h104 ?_
  refine W_move rfl rfl rfl ?_
  refine W_end (E_then (C_block ?_))
  refine C_keep (L' := [(0, v102), (1, v105), (5, v110), (6, .int .u64 (0)), (20, .int .i64 ((l103.length : Int))), (21, .int .i64 (((0 : Nat) : Int)))]) ⟨rfl, rfl, rfl, rfl, rfl, rfl, trivial⟩ (List.Perm.refl _) ?_
  refine C_loop (fun n H' M' L' => ∃ (k113 : Nat) (zs184' : Nat), ∃ l174 : List U32, ∃ n176 : Int, ∃ xs173 : List Value, k113 + zs184' = ((l103.length : Int) : Int).toNat ∧ zs184' = n ∧ forN (fun k s179 n => m_large_addWords_b3 l103 l106 k s179.1 s179.2 n) (fun s179 => idx s179.1 (l103.length : Int) fun y213 => some (s179.1.set (((l103.length : Int) : Int).toNat) ⟨IntKind.u32.wrap (s179.2)⟩)) zs184' k113 (l174, n176) = some r ∧ Rw H' v110 xs173 l174 ∧ H.le H' ∧ .row v110 80 (Rep.sz U32) l174.length xs173 :: M = M' ∧ [(0, v102), (1, v105), (5, v110), (6, .int .u64 (n176)), (20, .int .i64 ((l103.length : Int))), (21, .int .i64 ((k113 : Int)))] = L') _ ⟨0, _, (List.replicate (IntKind.i64.wrap ((l103.length : Int) + 1) : Int).toNat (⟨0⟩ : U32)), 0, xs111, Nat.zero_add _, rfl, hm, hr112, (Hp.le_refl _), rfl, rfl⟩ ?_
  rintro _ H177 _ _ ⟨k113, zs184', l174, n176, xs173, hd186, rfl, hm, hr175, hle178, rfl, rfl⟩
  refine C_seq (C_region ?_)
  refine W_bin rfl rfl rfl rfl rfl ?_
  refine W_end (E_then (C_seq ?_))
  refine C_cond (b := decide ((k113 : Int) < (l103.length : Int))) rfl (fun hb188 => ?_) (fun hb188 => ?_)
  ·obtain ⟨zs184, rfl, hd187, hy185⟩ := rngN_t hd186 hb188
   have hm : m_large_addWords_b3 l103 l106 k113 l174 n176 (forN (fun k s179 n => m_large_addWords_b3 l103 l106 k s179.1 s179.2 n) (fun s179 => idx s179.1 (l103.length : Int) fun y213 => some (s179.1.set (((l103.length : Int) : Int).toNat) ⟨IntKind.u32.wrap (s179.2)⟩)) zs184 (k113 + 1)) = some r := hm
   generalize hn181 : forN (fun k s179 n => m_large_addWords_b3 l103 l106 k s179.1 s179.2 n) (fun s179 => idx s179.1 (l103.length : Int) fun y213 => some (s179.1.set (((l103.length : Int) : Int).toNat) ⟨IntKind.u32.wrap (s179.2)⟩)) zs184 (k113 + 1) = nx180 at hm
   unfold m_large_addWords_b3 at hm
   refine C_skip (E_then (C_seq (C_block (C_seq (C_region ?_)))))
   refine W_move rfl rfl rfl ?_
   refine W_assign rfl rfl rfl ?_
   refine W_end (E_then (C_seq (C_region ?_)))
   refine W_move rfl rfl rfl ?_
   refine W_move rfl rfl rfl ?_
   refine W_move rfl rfl rfl ?_
   obtain ⟨y189, h190, he191, hm⟩ := idx_some hm
   obtain ⟨_, rfl, hc192⟩ := (h104).elem he191
   refine W_indexS rfl rfl runUnderlying45 sizeOf80 rfl (h104.mono hle178) rfl h190 he191 ?_
   refine W_load rfl rfl isAgg80 rfl (HCells.one (hc192.mono hle178) 0 rfl).at ?_
   refine W_convInt rfl rfl runUnderlying80 runUnderlying84 rfl ?_
   refine W_bin rfl rfl rfl rfl rfl ?_
   refine W_assign rfl rfl rfl ?_
   refine W_end (E_then ?_)
   refine C_seq_join (fun H' M' L' => ∃ n198 : Int, m_large_addWords_b4 l174 nx180 k113 n198 = some r ∧ H177 = H' ∧ .row v110 80 (Rep.sz U32) l174.length xs173 :: M = M' ∧ [(0, v102), (1, v105), (5, v110), (6, .int .u64 (n198)), (7, .int .i64 ((k113 : Int))), (20, .int .i64 ((l103.length : Int))), (21, .int .i64 ((k113 : Int)))] = L') ?_ (fun J199 => ?_)
   ·rintro _ _ _ ⟨n198, hm, rfl, rfl, rfl⟩
    unfold m_large_addWords_b4 at hm
    refine C_seq (C_region ?_)
    refine W_move rfl rfl rfl ?_
    refine W_move rfl rfl rfl ?_
    refine W_move rfl rfl rfl ?_
    refine W_convInt rfl rfl runUnderlying84 runUnderlying80 rfl ?_
    obtain ⟨y200, h201, he202, hm⟩ := idx_some hm
    refine W_indexO (List.mem_cons_self ..) rfl rfl runUnderlying45 sizeOf80 rfl rfl h201 (List.getElem?_eq_some_iff.1 he202).1 ?_
    obtain ⟨_, rfl, hg203⟩ := (hr175).elem he202
    obtain ⟨hr204, he205, hg206⟩ := Rw.put (cs := [.int .u32 (IntKind.u32.wrap (n198))]) (o := 0) (c := [.int .u32 (y200.n)]) (out := [.int .u32 (IntKind.u32.wrap (n198))]) (e2 := ⟨IntKind.u32.wrap (n198)⟩) hr175 he202 rfl hg203 rfl rfl rfl
    refine W_storeO2 (i := ((k113 : Int) : Int).toNat * Rep.sz U32 + 0) (cs := [.int .u32 (IntKind.u32.wrap (n198))]) rfl sizeOf80 rfl (row_ad0 _ _) rfl rfl rfl (Rw.room hr175 he202 rfl) rfl (all_cons rfl all_nil) (n' := (l174.set (((k113 : Int) : Int).toNat) ⟨IntKind.u32.wrap (n198)⟩).length) List.length_set ?_
    generalize over xs173 (((k113 : Int) : Int).toNat * Rep.sz U32 + 0) [.int .u32 (IntKind.u32.wrap (n198))] = xs207 at hr204 hg206 ⊢
    refine W_end (E_then (C_region ?_))
    refine W_move rfl rfl rfl ?_
    refine W_shr rfl rfl rfl rfl (by decide) ?_
    refine W_assign rfl rfl rfl ?_
    refine W_end (E_normal_block (E_then (C_region ?_)))
    refine W_bin rfl rfl rfl rfl rfl ?_
    refine W_move rfl rfl rfl ?_
    refine W_end ?_
    exact E_keepJ (E_back (Nat.lt_succ_self _) ⟨k113 + 1, zs184, (l174.set (((k113 : Int) : Int).toNat) ⟨IntKind.u32.wrap (n198)⟩), shrV .u64 n198 32, xs207, hd187, rfl, (by rw [hn181]; exact hm), hr204, hle178, rfl, rfl⟩) (List.Perm.refl _) ⟨rfl, rfl, rfl, rfl, rfl, (congrArg (fun z => some (Value.int .i64 z)) (i64_succN hy185 (toNat_max (len_max (h104).lenMax)))), trivial⟩
   ·refine C_seq (C_region ?_)
    refine W_move rfl rfl rfl ?_
    refine W_move rfl rfl rfl ?_
    refine W_lenR rfl rfl runUnderlying45 rfl (h107.mono hle178) ?_
    refine W_bin rfl rfl rfl rfl rfl ?_
    refine W_end (E_then ?_)
    refine C_cond (b := decide ((k113 : Int) < (l106.length : Int))) rfl (fun hb208 => ?_) (fun hb208 => ?_)
    ·have hm := ite_t' hb208 hm
     refine C_region ?_
     refine W_move rfl rfl rfl ?_
     refine W_move rfl rfl rfl ?_
     refine W_move rfl rfl rfl ?_
     obtain ⟨y209, h210, he211, hm⟩ := idx_some hm
     obtain ⟨_, rfl, hc212⟩ := (h107).elem he211
     refine W_indexS rfl rfl runUnderlying45 sizeOf80 rfl (h107.mono hle178) rfl h210 he211 ?_
     refine W_load rfl rfl isAgg80 rfl (HCells.one (hc212.mono hle178) 0 rfl).at ?_
     refine W_convInt rfl rfl runUnderlying80 runUnderlying84 rfl ?_
     refine W_bin rfl rfl rfl rfl rfl ?_
     refine W_assign rfl rfl rfl ?_
     refine W_end ?_
     exact E_keepJ (J199 _ _ _ ⟨IntKind.u64.wrap ((IntKind.u64.wrap (n176 + (IntKind.u64.wrap (y189.n)))) + (IntKind.u64.wrap (y209.n))), hm, rfl, rfl, rfl⟩) (List.Perm.refl _) ⟨rfl, rfl, rfl, rfl, rfl, rfl, rfl, trivial⟩
    ·have hm := ite_f' hb208 hm
     refine C_skip ?_
     exact E_keepJ (J199 _ _ _ ⟨IntKind.u64.wrap (n176 + (IntKind.u64.wrap (y189.n))), hm, rfl, rfl, rfl⟩) (List.Perm.refl _) ⟨rfl, rfl, rfl, rfl, rfl, rfl, rfl, trivial⟩
  ·obtain rfl := rngN_f hd186 hb188
   have hm : (idx l174 (l103.length : Int) fun y213 => some (l174.set (((l103.length : Int) : Int).toNat) ⟨IntKind.u32.wrap (n176)⟩)) = some r := hm
   refine C_exit (E_exit_then (E_exit_then (E_exit_hit (E_then (C_seq (C_region ?_))))))
   refine W_move rfl rfl rfl ?_
   refine W_move rfl rfl rfl ?_
   refine W_lenR rfl rfl runUnderlying45 rfl (h104.mono hle178) ?_
   refine W_move rfl rfl rfl ?_
   refine W_convInt rfl rfl runUnderlying84 runUnderlying80 rfl ?_
   obtain ⟨y213, h214, he215, hm⟩ := idx_some hm
   refine W_indexO (List.mem_cons_self ..) rfl rfl runUnderlying45 sizeOf80 rfl rfl h214 (List.getElem?_eq_some_iff.1 he215).1 ?_
   obtain ⟨_, rfl, hg216⟩ := (hr175).elem he215
   obtain ⟨hr217, he218, hg219⟩ := Rw.put (cs := [.int .u32 (IntKind.u32.wrap (n176))]) (o := 0) (c := [.int .u32 (y213.n)]) (out := [.int .u32 (IntKind.u32.wrap (n176))]) (e2 := ⟨IntKind.u32.wrap (n176)⟩) hr175 he215 rfl hg216 rfl rfl rfl
   refine W_storeO2 (i := ((l103.length : Int) : Int).toNat * Rep.sz U32 + 0) (cs := [.int .u32 (IntKind.u32.wrap (n176))]) rfl sizeOf80 rfl (row_ad0 _ _) rfl rfl rfl (Rw.room hr175 he215 rfl) rfl (all_cons rfl all_nil) (n' := (l174.set (((l103.length : Int) : Int).toNat) ⟨IntKind.u32.wrap (n176)⟩).length) List.length_set ?_
   generalize over xs173 (((l103.length : Int) : Int).toNat * Rep.sz U32 + 0) [.int .u32 (IntKind.u32.wrap (n176))] = xs220 at hr217 hg219 ⊢
   refine W_end (E_then (C_seq (C_region ?_)))
   refine W_move rfl rfl rfl ?_
   refine W_assign rfl rfl rfl ?_
   refine W_end (E_then (C_ret ?_))
   obtain rfl := Option.some.inj hm
   refine E_weak hle178 ?_
   exact end1 rfl rfl ⟨rfl, v110, xs220, rfl, rfl, (hr217).toF⟩
 ·refine C_seq (C_region ?_)
  refine W_move rfl rfl rfl ?_
  refine W_lenR rfl rfl runUnderlying45 rfl h0 ?_
  refine W_move rfl rfl rfl ?_
  refine W_lenR rfl rfl runUnderlying45 rfl h1 ?_
  refine W_bin rfl rfl rfl rfl rfl ?_
  refine W_end (E_then ?_)
  refine C_cond (b := decide ((p0_a.length : Int) < (p1_b.length : Int))) rfl (fun hb221 => ?_) (fun hb221 => ?_)
  ·have hm := ite_t' hb221 hm
   refine C_region ?_
   refine W_move rfl rfl rfl ?_
   refine W_move rfl rfl rfl ?_
   refine W_assign rfl rfl rfl ?_
   refine W_assign rfl rfl rfl ?_
   refine W_end ?_
   exact E_keepJ (J108 _ _ _ ⟨p1_b, p0_a, v1, v0, hm, h1, h0, rfl, rfl, rfl⟩) (List.Perm.refl _) ⟨rfl, rfl, trivial⟩
  ·have hm := ite_f' hb221 hm
   refine C_skip ?_
   exact E_keepJ (J108 _ _ _ ⟨p0_a, p1_b, v0, v1, hm, h0, h1, rfl, rfl, rfl⟩) (List.Perm.refl _) ⟨rfl, rfl, trivial⟩

theorem m_large_cmpWords_c {B : Nat} {w0 w : World} [Tabs B w0] {H : Hp} {M : List Res} {p0_a : (List U32)} {p1_b : (List U32)} {v0 : Value} {v1 : Value} {r : Int} (hm : m_large_cmpWords p0_a p1_b = some r) (h0 : RdS H v0 p0_a) (h1 : RdS H v1 p1_b) (ht : St B w0 H (M) w) :
  Calls prog 62 [v0, v1].toArray w (Ret B w0 fun H' M' v => H = H' ∧ M = M' ∧ .int .i64 (r) = v) := by
 unfold m_large_cmpWords at hm
 refine enter func62 rfl rfl rfl ht ?_
 refine C_seq (C_region ?_)
 refine W_assign rfl rfl rfl ?_
 refine W_end (E_then (C_seq (C_seq (C_region ?_))))
 refine W_move rfl rfl rfl ?_
 refine W_lenR rfl rfl runUnderlying45 rfl h0 ?_
 refine W_move rfl rfl rfl ?_
 refine W_lenR rfl rfl runUnderlying45 rfl h1 ?_
 refine W_bin rfl rfl rfl rfl rfl ?_
 refine W_end (E_then ?_)
 refine C_cond (b := !decide ((p0_a.length : Int) = (p1_b.length : Int))) rfl (fun hb101 => ?_) (fun hb101 => ?_)
 ·have hm := ite_t' hb101 hm
  refine C_seq (C_region ?_)
  refine W_move rfl rfl rfl ?_
  refine W_lenR rfl rfl runUnderlying45 rfl h0 ?_
  refine W_move rfl rfl rfl ?_
  refine W_lenR rfl rfl runUnderlying45 rfl h1 ?_
  refine W_bin rfl rfl rfl rfl rfl ?_
  refine W_assign rfl rfl rfl ?_
  refine W_end (E_then (C_ret (E_ret_then ?_)))
  obtain rfl := Option.some.inj hm
  refine E_weak (Hp.le_refl _) ?_
  exact end1 rfl rfl ⟨rfl, rfl, rfl⟩
 ·have hm := ite_f' hb101 hm
  refine C_skip (E_then (C_seq (C_seq (C_region ?_))))
  refine W_move rfl rfl rfl ?_
  refine W_lenR rfl rfl runUnderlying45 rfl h0 ?_
  refine W_bin rfl rfl rfl rfl rfl ?_
  refine W_assign rfl rfl rfl ?_
  refine W_end (E_then (C_block ?_))
  refine C_keep (L' := [(0, v0), (1, v1), (5, .int .i64 (IntKind.i64.wrap ((p0_a.length : Int) - 1)))]) ⟨rfl, rfl, rfl, trivial⟩ (List.Perm.refl _) ?_
  refine C_loop (fun n H' M' L' => ∃ n154 : Int, loopF (fun s157 n => m_large_cmpWords_b1 p0_a p1_b s157 n) n n154 = some r ∧ H.le H' ∧ M = M' ∧ [(0, v0), (1, v1), (5, .int .i64 (n154))] = L') FUEL ⟨IntKind.i64.wrap ((p0_a.length : Int) - 1), hm, (Hp.le_refl _), rfl, rfl⟩ ?_
  rintro n160 H155 _ _ ⟨n154, hm, hle156, rfl, rfl⟩
  cases n160 with
  | zero => cases hm
  | succ n160 =>
   have hm : m_large_cmpWords_b1 p0_a p1_b n154 (loopF (fun s157 n => m_large_cmpWords_b1 p0_a p1_b s157 n) n160) = some r := hm
   generalize hn159 : loopF (fun s157 n => m_large_cmpWords_b1 p0_a p1_b s157 n) n160 = nx158 at hm
   unfold m_large_cmpWords_b1 at hm
   refine C_seq (C_seq (C_region ?_))
   refine W_move rfl rfl rfl ?_
   refine W_bin rfl rfl rfl rfl rfl ?_
   refine W_end (E_then ?_)
   refine C_cond (b := decide (0 ≤ n154)) rfl (fun hb166 => ?_) (fun hb166 => ?_)
   ·have hm := ite_t' hb166 hm
    refine C_skip (E_then (C_seq (C_block (C_seq ?_))))
    obtain ⟨y167, h168, he169, hm⟩ := idx_some hm
    obtain ⟨_, rfl, hc170⟩ := (h0).elem he169
    obtain ⟨y171, h172, he173, hm⟩ := idx_some hm
    obtain ⟨_, rfl, hc174⟩ := (h1).elem he173
    refine C_region_tok0 8 (phiT [(fun H rs v => [] = rs ∧ v0 = v), (fun H rs v => [] = rs ∧ .int .i64 (n154) = v), (fun H rs v => [] = rs ∧ .pointer (some ((Value.base (v0)).add ((n154 : Int).toNat * 1))) = v), (fun H rs v => [] = rs ∧ .int .u32 (y167.n) = v), (fun H rs v => [] = rs ∧ v1 = v), (fun H rs v => [] = rs ∧ .int .i64 (n154) = v), (fun H rs v => [] = rs ∧ .pointer (some ((Value.base (v1)).add ((n154 : Int).toNat * 1))) = v), (fun H rs v => [] = rs ∧ .int .u32 (y171.n) = v)]) [[], [], [], [], [], [], [], []] [[], [], [], [], [], [], [], []] [] [0, 1, 2, 3, 4, 5, 6, 7] Facts.mixed (by kernel_rfl) (by rfl) (by rfl) (by rfl) (by kernel_rfl) (phiT_mono ⟨eq_monoT _ _, eq_monoT _ _, eq_monoT _ _, eq_monoT _ _, eq_monoT _ _, eq_monoT _ _, eq_monoT _ _, eq_monoT _ _, trivial⟩) ⟨?_, ?_, ?_, ?_, ?_, ?_, ?_, ?_, trivial⟩ ?_
    ·intro HX hX X Rest hR
     intro hU hUp
     refine W_move rfl rfl rfl ?_
     exact W_end (OneT_end [] (Hp.le_refl _) ⟨rfl, rfl⟩)
    ·intro HX hX X Rest hR
     intro hU hUp
     refine W_move rfl rfl rfl ?_
     exact W_end (OneT_end [] (Hp.le_refl _) ⟨rfl, rfl⟩)
    ·intro HX hX X Rest hR
     rintro _ _ ⟨rfl, rfl⟩
     rintro _ _ ⟨rfl, rfl⟩
     intro hU hUp
     refine W_indexS rfl rfl runUnderlying45 sizeOf80 rfl ((h0.mono hle156).mono hX) rfl h168 he169 ?_
     exact W_end (OneT_end [] (Hp.le_refl _) ⟨rfl, rfl⟩)
    ·intro HX hX X Rest hR
     rintro _ _ ⟨rfl, rfl⟩
     intro hU hUp
     refine W_load rfl rfl isAgg80 rfl (HCells.one ((hc170.mono hle156).mono hX) 0 rfl).at ?_
     exact W_end (OneT_end [] (Hp.le_refl _) ⟨rfl, rfl⟩)
    ·intro HX hX X Rest hR
     intro hU hUp
     refine W_move rfl rfl rfl ?_
     exact W_end (OneT_end [] (Hp.le_refl _) ⟨rfl, rfl⟩)
    ·intro HX hX X Rest hR
     intro hU hUp
     refine W_move rfl rfl rfl ?_
     exact W_end (OneT_end [] (Hp.le_refl _) ⟨rfl, rfl⟩)
    ·intro HX hX X Rest hR
     rintro _ _ ⟨rfl, rfl⟩
     rintro _ _ ⟨rfl, rfl⟩
     intro hU hUp
     refine W_indexS rfl rfl runUnderlying45 sizeOf80 rfl ((h1.mono hle156).mono hX) rfl h172 he173 ?_
     exact W_end (OneT_end [] (Hp.le_refl _) ⟨rfl, rfl⟩)
    ·intro HX hX X Rest hR
     rintro _ _ ⟨rfl, rfl⟩
     intro hU hUp
     refine W_load rfl rfl isAgg80 rfl (HCells.one ((hc174.mono hle156).mono hX) 0 rfl).at ?_
     exact W_end (OneT_end [] (Hp.le_refl _) ⟨rfl, rfl⟩)
    intro H175 hle176
    rintro _ _ ⟨rfl, rfl⟩
    rintro _ _ ⟨rfl, rfl⟩
    rintro _ _ ⟨rfl, rfl⟩
    rintro _ _ ⟨rfl, rfl⟩
    rintro _ _ ⟨rfl, rfl⟩
    rintro _ _ ⟨rfl, rfl⟩
    rintro _ _ ⟨rfl, rfl⟩
    rintro _ _ ⟨rfl, rfl⟩
    refine W_bin rfl rfl rfl rfl rfl ?_
    refine W_end (E_then ?_)
    refine C_cond (b := !decide (y167.n = y171.n)) rfl (fun hb177 => ?_) (fun hb177 => ?_)
    ·have hm := ite_t' hb177 hm
     refine C_seq (C_seq ?_)
     obtain ⟨y178, h179, he180, hm⟩ := idx_some hm
     obtain ⟨_, rfl, hc181⟩ := (h0).elem he180
     obtain ⟨y182, h183, he184, hm⟩ := idx_some hm
     obtain ⟨_, rfl, hc185⟩ := (h1).elem he184
     refine C_region_tok0 8 (phiT [(fun H rs v => [] = rs ∧ v0 = v), (fun H rs v => [] = rs ∧ .int .i64 (n154) = v), (fun H rs v => [] = rs ∧ .pointer (some ((Value.base (v0)).add ((n154 : Int).toNat * 1))) = v), (fun H rs v => [] = rs ∧ .int .u32 (y178.n) = v), (fun H rs v => [] = rs ∧ v1 = v), (fun H rs v => [] = rs ∧ .int .i64 (n154) = v), (fun H rs v => [] = rs ∧ .pointer (some ((Value.base (v1)).add ((n154 : Int).toNat * 1))) = v), (fun H rs v => [] = rs ∧ .int .u32 (y182.n) = v)]) [[], [], [], [], [], [], [], []] [[], [], [], [], [], [], [], []] [] [0, 1, 2, 3, 4, 5, 6, 7] Facts.mixed (by kernel_rfl) (by rfl) (by rfl) (by rfl) (by kernel_rfl) (phiT_mono ⟨eq_monoT _ _, eq_monoT _ _, eq_monoT _ _, eq_monoT _ _, eq_monoT _ _, eq_monoT _ _, eq_monoT _ _, eq_monoT _ _, trivial⟩) ⟨?_, ?_, ?_, ?_, ?_, ?_, ?_, ?_, trivial⟩ ?_
     ·intro HX hX X Rest hR
      intro hU hUp
      refine W_move rfl rfl rfl ?_
      exact W_end (OneT_end [] (Hp.le_refl _) ⟨rfl, rfl⟩)
     ·intro HX hX X Rest hR
      intro hU hUp
      refine W_move rfl rfl rfl ?_
      exact W_end (OneT_end [] (Hp.le_refl _) ⟨rfl, rfl⟩)
     ·intro HX hX X Rest hR
      rintro _ _ ⟨rfl, rfl⟩
      rintro _ _ ⟨rfl, rfl⟩
      intro hU hUp
      refine W_indexS rfl rfl runUnderlying45 sizeOf80 rfl (((h0.mono hle156).mono hle176).mono hX) rfl h179 he180 ?_
      exact W_end (OneT_end [] (Hp.le_refl _) ⟨rfl, rfl⟩)
     ·intro HX hX X Rest hR
      rintro _ _ ⟨rfl, rfl⟩
      intro hU hUp
      refine W_load rfl rfl isAgg80 rfl (HCells.one (((hc181.mono hle156).mono hle176).mono hX) 0 rfl).at ?_
      exact W_end (OneT_end [] (Hp.le_refl _) ⟨rfl, rfl⟩)
     ·intro HX hX X Rest hR
      intro hU hUp
      refine W_move rfl rfl rfl ?_
      exact W_end (OneT_end [] (Hp.le_refl _) ⟨rfl, rfl⟩)
     ·intro HX hX X Rest hR
      intro hU hUp
      refine W_move rfl rfl rfl ?_
      exact W_end (OneT_end [] (Hp.le_refl _) ⟨rfl, rfl⟩)
     ·intro HX hX X Rest hR
      rintro _ _ ⟨rfl, rfl⟩
      rintro _ _ ⟨rfl, rfl⟩
      intro hU hUp
      refine W_indexS rfl rfl runUnderlying45 sizeOf80 rfl (((h1.mono hle156).mono hle176).mono hX) rfl h183 he184 ?_
      exact W_end (OneT_end [] (Hp.le_refl _) ⟨rfl, rfl⟩)
     ·intro HX hX X Rest hR
      rintro _ _ ⟨rfl, rfl⟩
      intro hU hUp
      refine W_load rfl rfl isAgg80 rfl (HCells.one (((hc185.mono hle156).mono hle176).mono hX) 0 rfl).at ?_
      exact W_end (OneT_end [] (Hp.le_refl _) ⟨rfl, rfl⟩)
     intro H186 hle187
     rintro _ _ ⟨rfl, rfl⟩
     rintro _ _ ⟨rfl, rfl⟩
     rintro _ _ ⟨rfl, rfl⟩
     rintro _ _ ⟨rfl, rfl⟩
     rintro _ _ ⟨rfl, rfl⟩
     rintro _ _ ⟨rfl, rfl⟩
     rintro _ _ ⟨rfl, rfl⟩
     rintro _ _ ⟨rfl, rfl⟩
     refine W_bin rfl rfl rfl rfl rfl ?_
     refine W_end (E_then ?_)
     refine C_cond (b := decide (y178.n < y182.n)) rfl (fun hb188 => ?_) (fun hb188 => ?_)
     ·have hm := ite_t' hb188 hm
      refine C_seq (C_region ?_)
      refine W_assign rfl rfl rfl ?_
      refine W_end (E_then (C_ret (E_ret_then (E_ret_block (E_ret_then (E_ret_then (E_ret_block (E_ret_then ?_))))))))
      obtain rfl := Option.some.inj hm
      refine E_weak (Hp.le_trans (Hp.le_trans hle156 hle176) hle187) ?_
      exact end1 rfl rfl ⟨rfl, rfl, rfl⟩
     ·have hm := ite_f' hb188 hm
      refine C_skip (E_then (C_seq (C_region ?_)))
      refine W_assign rfl rfl rfl ?_
      refine W_end (E_then (C_ret (E_ret_block (E_ret_then (E_ret_then (E_ret_block (E_ret_then ?_)))))))
      obtain rfl := Option.some.inj hm
      refine E_weak (Hp.le_trans (Hp.le_trans hle156 hle176) hle187) ?_
      exact end1 rfl rfl ⟨rfl, rfl, rfl⟩
    ·have hm := ite_f' hb177 hm
     refine C_skip (E_normal_block (E_then (C_region ?_)))
     refine W_move rfl rfl rfl ?_
     refine W_bin rfl rfl rfl rfl rfl ?_
     refine W_assign rfl rfl rfl ?_
     refine W_end ?_
     exact E_keepJ (E_back (Nat.lt_succ_self _) ⟨IntKind.i64.wrap (n154 - 1), (by rw [hn159]; exact hm), (Hp.le_trans hle156 hle176), rfl, rfl⟩) (List.Perm.refl _) ⟨rfl, rfl, rfl, trivial⟩
   ·have hm := ite_f' hb166 hm
    refine C_exit (E_exit_then (E_exit_then (E_exit_hit (E_then (C_seq (C_region ?_))))))
    refine W_assign rfl rfl rfl ?_
    refine W_end (E_then (C_ret ?_))
    obtain rfl := Option.some.inj hm
    refine E_weak hle156 ?_
    exact end1 rfl rfl ⟨rfl, rfl, rfl⟩

theorem m_large_subWords_c {B : Nat} {w0 w : World} [Tabs B w0] {H : Hp} {M : List Res} {p0_a : (List U32)} {p1_b : (List U32)} {v0 : Value} {v1 : Value} {r : (List U32)} (hm : m_large_subWords p0_a p1_b = some r) (h0 : RdS H v0 p0_a) (h1 : RdS H v1 p1_b) (ht : St B w0 H (M) w) :
  Calls prog 63 [v0, v1].toArray w (Ret B w0 fun H' M' v => H = H' ∧ ∃ qv0 : Value, ∃ qxs0 : List Value, .row qv0 80 (Rep.sz U32) r.length qxs0 :: M = M' ∧ qv0 = v ∧ RwF qv0 qxs0 r) := by
 unfold m_large_subWords at hm
 refine enter func63 rfl rfl rfl ht ?_
 refine C_seq (C_region ?_)
 refine W_assign rfl rfl rfl ?_
 refine W_end (E_then (C_seq (C_region ?_)))
 refine W_move rfl rfl rfl ?_
 refine W_lenR rfl rfl runUnderlying45 rfl h0 ?_
 obtain ⟨hz101, hm⟩ := need_some hm
 refine W_makeSlice (α := U32) (zs := [.int .u32 (0)]) (ze := ⟨0⟩) rfl rfl underlying45 ⟨_, rfl, rfl, rfl, rfl⟩ rfl rfl rfl rfl rfl rfl hz101.1 hz101.2 ?_
 intro v102 xs103 hr104
 refine W_assign rfl rfl rfl ?_
 refine W_end (E_then (C_seq (C_region ?_)))
 refine W_assign rfl rfl rfl ?_
 refine W_end (E_then (C_seq (C_seq (C_region ?_))))
 refine W_move rfl rfl rfl ?_
 refine W_lenR rfl rfl runUnderlying45 rfl h0 ?_
 refine W_move rfl rfl rfl ?_
 refine W_end (E_then (C_block ?_))
 refine C_keep (L' := [(0, v0), (1, v1), (5, v102), (6, .int .i64 (0)), (12, .int .i64 ((p0_a.length : Int))), (13, .int .i64 (((0 : Nat) : Int)))]) ⟨rfl, rfl, rfl, rfl, rfl, rfl, trivial⟩ (List.Perm.refl _) ?_
 refine C_loop (fun n H' M' L' => ∃ (k105 : Nat) (zs176' : Nat), ∃ l166 : List U32, ∃ n168 : Int, ∃ xs165 : List Value, k105 + zs176' = ((p0_a.length : Int) : Int).toNat ∧ zs176' = n ∧ forN (fun k s171 n => m_large_subWords_b3 p0_a p1_b k s171.1 s171.2 n) (fun s171 => some s171.1) zs176' k105 (l166, n168) = some r ∧ Rw H' v102 xs165 l166 ∧ H.le H' ∧ .row v102 80 (Rep.sz U32) l166.length xs165 :: M = M' ∧ [(0, v0), (1, v1), (5, v102), (6, .int .i64 (n168)), (12, .int .i64 ((p0_a.length : Int))), (13, .int .i64 ((k105 : Int)))] = L') _ ⟨0, _, (List.replicate ((p0_a.length : Int) : Int).toNat (⟨0⟩ : U32)), 0, xs103, Nat.zero_add _, rfl, hm, hr104, (Hp.le_refl _), rfl, rfl⟩ ?_
 rintro _ H169 _ _ ⟨k105, zs176', l166, n168, xs165, hd178, rfl, hm, hr167, hle170, rfl, rfl⟩
 refine C_seq (C_region ?_)
 refine W_bin rfl rfl rfl rfl rfl ?_
 refine W_end (E_then (C_seq ?_))
 refine C_cond (b := decide ((k105 : Int) < (p0_a.length : Int))) rfl (fun hb180 => ?_) (fun hb180 => ?_)
 ·obtain ⟨zs176, rfl, hd179, hy177⟩ := rngN_t hd178 hb180
  have hm : m_large_subWords_b3 p0_a p1_b k105 l166 n168 (forN (fun k s171 n => m_large_subWords_b3 p0_a p1_b k s171.1 s171.2 n) (fun s171 => some s171.1) zs176 (k105 + 1)) = some r := hm
  generalize hn173 : forN (fun k s171 n => m_large_subWords_b3 p0_a p1_b k s171.1 s171.2 n) (fun s171 => some s171.1) zs176 (k105 + 1) = nx172 at hm
  unfold m_large_subWords_b3 at hm
  refine C_skip (E_then (C_seq (C_block (C_seq (C_region ?_)))))
  refine W_move rfl rfl rfl ?_
  refine W_assign rfl rfl rfl ?_
  refine W_end (E_then (C_seq (C_region ?_)))
  refine W_move rfl rfl rfl ?_
  refine W_move rfl rfl rfl ?_
  refine W_move rfl rfl rfl ?_
  obtain ⟨y181, h182, he183, hm⟩ := idx_some hm
  obtain ⟨_, rfl, hc184⟩ := (h0).elem he183
  refine W_indexS rfl rfl runUnderlying45 sizeOf80 rfl (h0.mono hle170) rfl h182 he183 ?_
  refine W_load rfl rfl isAgg80 rfl (HCells.one (hc184.mono hle170) 0 rfl).at ?_
  refine W_convInt rfl rfl runUnderlying80 runUnderlying2 rfl ?_
  refine W_bin rfl rfl rfl rfl rfl ?_
  refine W_assign rfl rfl rfl ?_
  refine W_end (E_then ?_)
  refine C_seq_join (fun H' M' L' => ∃ n190 : Int, m_large_subWords_b4 l166 nx172 k105 n190 = some r ∧ H169 = H' ∧ .row v102 80 (Rep.sz U32) l166.length xs165 :: M = M' ∧ [(0, v0), (1, v1), (5, v102), (6, .int .i64 (n190)), (7, .int .i64 ((k105 : Int))), (12, .int .i64 ((p0_a.length : Int))), (13, .int .i64 ((k105 : Int)))] = L') ?_ (fun J191 => ?_)
  ·rintro _ _ _ ⟨n190, hm, rfl, rfl, rfl⟩
   unfold m_large_subWords_b4 at hm
   refine C_seq (C_region ?_)
   refine W_move rfl rfl rfl ?_
   refine W_move rfl rfl rfl ?_
   refine W_move rfl rfl rfl ?_
   refine W_convInt rfl rfl runUnderlying2 runUnderlying80 rfl ?_
   obtain ⟨y192, h193, he194, hm⟩ := idx_some hm
   refine W_indexO (List.mem_cons_self ..) rfl rfl runUnderlying45 sizeOf80 rfl rfl h193 (List.getElem?_eq_some_iff.1 he194).1 ?_
   obtain ⟨_, rfl, hg195⟩ := (hr167).elem he194
   obtain ⟨hr196, he197, hg198⟩ := Rw.put (cs := [.int .u32 (IntKind.u32.wrap (n190))]) (o := 0) (c := [.int .u32 (y192.n)]) (out := [.int .u32 (IntKind.u32.wrap (n190))]) (e2 := ⟨IntKind.u32.wrap (n190)⟩) hr167 he194 rfl hg195 rfl rfl rfl
   refine W_storeO2 (i := ((k105 : Int) : Int).toNat * Rep.sz U32 + 0) (cs := [.int .u32 (IntKind.u32.wrap (n190))]) rfl sizeOf80 rfl (row_ad0 _ _) rfl rfl rfl (Rw.room hr167 he194 rfl) rfl (all_cons rfl all_nil) (n' := (l166.set (((k105 : Int) : Int).toNat) ⟨IntKind.u32.wrap (n190)⟩).length) List.length_set ?_
   generalize over xs165 (((k105 : Int) : Int).toNat * Rep.sz U32 + 0) [.int .u32 (IntKind.u32.wrap (n190))] = xs199 at hr196 hg198 ⊢
   refine W_end (E_then (C_region ?_))
   refine W_move rfl rfl rfl ?_
   refine W_shr rfl rfl rfl rfl (by decide) ?_
   refine W_assign rfl rfl rfl ?_
   refine W_end (E_normal_block (E_then (C_region ?_)))
   refine W_bin rfl rfl rfl rfl rfl ?_
   refine W_move rfl rfl rfl ?_
   refine W_end ?_
   exact E_keepJ (E_back (Nat.lt_succ_self _) ⟨k105 + 1, zs176, (l166.set (((k105 : Int) : Int).toNat) ⟨IntKind.u32.wrap (n190)⟩), shrV .i64 n190 32, xs199, hd179, rfl, (by rw [hn173]; exact hm), hr196, hle170, rfl, rfl⟩) (List.Perm.refl _) ⟨rfl, rfl, rfl, rfl, rfl, (congrArg (fun z => some (Value.int .i64 z)) (i64_succN hy177 (toNat_max (len_max (h0).lenMax)))), trivial⟩
  ·refine C_seq (C_region ?_)
   refine W_move rfl rfl rfl ?_
   refine W_move rfl rfl rfl ?_
   refine W_lenR rfl rfl runUnderlying45 rfl (h1.mono hle170) ?_
   refine W_bin rfl rfl rfl rfl rfl ?_
   refine W_end (E_then ?_)
   refine C_cond (b := decide ((k105 : Int) < (p1_b.length : Int))) rfl (fun hb200 => ?_) (fun hb200 => ?_)
   ·have hm := ite_t' hb200 hm
    refine C_region ?_
    refine W_move rfl rfl rfl ?_
    refine W_move rfl rfl rfl ?_
    refine W_move rfl rfl rfl ?_
    obtain ⟨y201, h202, he203, hm⟩ := idx_some hm
    obtain ⟨_, rfl, hc204⟩ := (h1).elem he203
    refine W_indexS rfl rfl runUnderlying45 sizeOf80 rfl (h1.mono hle170) rfl h202 he203 ?_
    refine W_load rfl rfl isAgg80 rfl (HCells.one (hc204.mono hle170) 0 rfl).at ?_
    refine W_convInt rfl rfl runUnderlying80 runUnderlying2 rfl ?_
    refine W_bin rfl rfl rfl rfl rfl ?_
    refine W_assign rfl rfl rfl ?_
    refine W_end ?_
    exact E_keepJ (J191 _ _ _ ⟨IntKind.i64.wrap ((IntKind.i64.wrap (n168 + (IntKind.i64.wrap (y181.n)))) - (IntKind.i64.wrap (y201.n))), hm, rfl, rfl, rfl⟩) (List.Perm.refl _) ⟨rfl, rfl, rfl, rfl, rfl, rfl, rfl, trivial⟩
   ·have hm := ite_f' hb200 hm
    refine C_skip ?_
    exact E_keepJ (J191 _ _ _ ⟨IntKind.i64.wrap (n168 + (IntKind.i64.wrap (y181.n))), hm, rfl, rfl, rfl⟩) (List.Perm.refl _) ⟨rfl, rfl, rfl, rfl, rfl, rfl, rfl, trivial⟩
 ·obtain rfl := rngN_f hd178 hb180
  have hm : (some l166) = some r := hm
  refine C_exit (E_exit_then (E_exit_then (E_exit_hit (E_then (C_seq (C_region ?_))))))
  refine W_move rfl rfl rfl ?_
  refine W_assign rfl rfl rfl ?_
  refine W_end (E_then (C_ret ?_))
  obtain rfl := Option.some.inj hm
  refine E_weak hle170 ?_
  exact end1 rfl rfl ⟨rfl, v102, xs165, rfl, rfl, (hr167).toF⟩

theorem m_large_Int_Add_c {B : Nat} {w0 w : World} [Tabs B w0] {H : Hp} {M : List Res} {p0_a : S_large_Int} {p1_b : S_large_Int} {v0 : Value} {v1 : Value} {r : S_large_Int} (hm : m_large_Int_Add p0_a p1_b = some r) (h0 : RdS H v0 p0_a.words) (h1 : RdS H v1 p1_b.words) (ht : St B w0 H (M) w) :
  Calls prog 48 [.agg [.bool (p0_a.minus), v0].toArray, .agg [.bool (p1_b.minus), v1].toArray].toArray w (Ret B w0 fun H' M' v => H.le H' ∧ ∃ qv0 : Value, M = M' ∧ .agg [.bool (r.minus), qv0].toArray = v ∧ RdS H' qv0 r.words) := by
 unfold m_large_Int_Add at hm
 refine enter func48 rfl rfl rfl ht ?_
 refine C_seq (C_region ?_)
 refine W_box (cs := [.bool (p0_a.minus), v0]) rfl rfl rfl rfl (fun b101 => ?_)
 refine W_box (cs := [.bool (p1_b.minus), v1]) rfl rfl rfl rfl (fun b102 => ?_)
 refine W_alloc (cs := [.bool (false), .slice none 0 0]) rfl rfl zeroValue47 rfl (fun b103 => ?_)
 refine W_end (E_then (C_seq (C_seq (C_region ?_))))
 refine W_field (o := 0) rfl rfl runUnderlying47 rfl sizeOf4 rfl rfl rfl ?_
 refine W_load rfl rfl isAgg4 rfl (own_at (List.mem_cons_of_mem _ (List.mem_cons_of_mem _ (List.mem_cons_self ..))) rfl) ?_
 refine W_field (o := 0) rfl rfl runUnderlying47 rfl sizeOf4 rfl rfl rfl ?_
 refine W_load rfl rfl isAgg4 rfl (own_at (List.mem_cons_of_mem _ (List.mem_cons_self ..)) rfl) ?_
 refine W_eqBool rfl rfl runUnderlying4 rfl rfl ?_
 refine W_end (E_then ?_)
 refine C_cond (b := decide (p0_a.minus = p1_b.minus)) rfl (fun hb104 => ?_) (fun hb104 => ?_)
 ·have hm := ite_t' hb104 hm
  refine C_seq ?_
  obtain ⟨r105, hc106, hm⟩ := bind_some hm
  refine C_region_tok0 7 (phiT [(fun H rs v => [] = rs ∧ .pointer (some ⟨b101, 0, none⟩) = v), (fun H rs v => [] = rs ∧ .bool (p0_a.minus) = v), (fun H rs v => [] = rs ∧ .pointer (some ⟨b101, 1, none⟩) = v), (fun H rs v => [] = rs ∧ v0 = v), (fun H rs v => [] = rs ∧ .pointer (some ⟨b102, 1, none⟩) = v), (fun H rs v => [] = rs ∧ v1 = v), (fun H rs v => ∃ v110 : Value, ∃ xs111 : List Value, [.row v110 80 (Rep.sz U32) r105.length xs111] = rs ∧ v110 = v ∧ Rw H v110 xs111 r105)]) [[], [], [], [], [], [], []] [[], [], [], [], [], [], []] [] [0, 1, 2, 3, 4, 5, 6] Facts.mixed (by kernel_rfl) (by rfl) (by rfl) (by rfl) (by kernel_rfl) (phiT_mono ⟨eq_monoT _ _, eq_monoT _ _, eq_monoT _ _, eq_monoT _ _, eq_monoT _ _, eq_monoT _ _, (by rintro H1 H2 rs v hle ⟨v110, xs111, rfl, rfl, h112⟩; exact ⟨v110, xs111, rfl, rfl, (h112.mono hle)⟩), trivial⟩) ⟨?_, ?_, ?_, ?_, ?_, ?_, ?_, trivial⟩ ?_
  ·intro HX hX X Rest hR
   intro hU hUp
   refine W_field (o := 0) rfl rfl runUnderlying47 rfl sizeOf4 rfl rfl rfl ?_
   exact W_end (OneT_end [] (Hp.le_refl _) ⟨rfl, rfl⟩)
  ·intro HX hX X Rest hR
   rintro _ _ ⟨rfl, rfl⟩
   intro hU hUp
   refine W_load rfl rfl isAgg4 rfl (own_at (hR _ (List.mem_cons_of_mem _ (List.mem_cons_of_mem _ (List.mem_cons_self ..)))) rfl) ?_
   exact W_end (OneT_end [] (Hp.le_refl _) ⟨rfl, rfl⟩)
  ·intro HX hX X Rest hR
   intro hU hUp
   refine W_field (o := 1) rfl rfl runUnderlying47 rfl sizeOf45 rfl rfl rfl ?_
   exact W_end (OneT_end [] (Hp.le_refl _) ⟨rfl, rfl⟩)
  ·intro HX hX X Rest hR
   rintro _ _ ⟨rfl, rfl⟩
   intro hU hUp
   refine W_load rfl rfl isAgg45 rfl (own_at (hR _ (List.mem_cons_of_mem _ (List.mem_cons_of_mem _ (List.mem_cons_self ..)))) rfl) ?_
   exact W_end (OneT_end [] (Hp.le_refl _) ⟨rfl, rfl⟩)
  ·intro HX hX X Rest hR
   intro hU hUp
   refine W_field (o := 1) rfl rfl runUnderlying47 rfl sizeOf45 rfl rfl rfl ?_
   exact W_end (OneT_end [] (Hp.le_refl _) ⟨rfl, rfl⟩)
  ·intro HX hX X Rest hR
   rintro _ _ ⟨rfl, rfl⟩
   intro hU hUp
   refine W_load rfl rfl isAgg45 rfl (own_at (hR _ (List.mem_cons_of_mem _ (List.mem_cons_self ..))) rfl) ?_
   exact W_end (OneT_end [] (Hp.le_refl _) ⟨rfl, rfl⟩)
  ·intro HX hX X Rest hR
   rintro _ _ ⟨rfl, rfl⟩
   rintro _ _ ⟨rfl, rfl⟩
   intro hU hUp
   refine W_call call61 rfl rfl rfl (fun w ht => by have h := m_large_addWords_c (hm := hc106) (h0.mono hX) (h1.mono hX) ht; exact h) ?_
   rintro _ _ _ ⟨rfl, v110, xs111, rfl, rfl, h112⟩
   have h112 := h112 HX
   exact W_end (OneT_end [.row v110 80 (Rep.sz U32) r105.length xs111] (Hp.le_refl _) ⟨v110, xs111, rfl, rfl, (h112)⟩)
  intro H113 hle114
  rintro _ _ ⟨rfl, rfl⟩
  rintro _ _ ⟨rfl, rfl⟩
  rintro _ _ ⟨rfl, rfl⟩
  rintro _ _ ⟨rfl, rfl⟩
  rintro _ _ ⟨rfl, rfl⟩
  rintro _ _ ⟨rfl, rfl⟩
  rintro _ _ ⟨v110, xs111, rfl, rfl, h112⟩
  refine W_as (M' := .row v110 80 (Rep.sz U32) r105.length xs111 :: .obj b103 (.cells ([.bool (false), .slice none 0 0] : List Value).toArray 47 (0, 0)) :: .obj b102 (.cells [.bool (p1_b.minus), v1].toArray 47 (0, 0)) :: .obj b101 (.cells [.bool (p0_a.minus), v0].toArray 47 (0, 0)) :: M) rfl ?_
  refine W_freeze (h112).rd rfl (fun H115 hle116 h117 => ?_)
  obtain ⟨r118, hc119, hm⟩ := bind_some hm
  refine W_call call54 rfl rfl rfl (fun w ht => by have h := m_large_norm_c (hm := hc119) h117 ht; exact h) ?_
  rintro _ H122 _ ⟨hle123, v120, rfl, rfl, h121⟩
  refine W_store (cs := [.bool (r118.minus), v120]) (out := [.bool (r118.minus), v120]) rfl sizeOf47 rfl rfl rfl rfl rfl (all_cons rfl (all_cons (RdS.one1 h121) all_nil)) (over_all rfl) ?_
  refine W_end (E_then (C_ret (E_ret_then ?_)))
  obtain rfl := Option.some.inj hm
  exact endC1 (Hp.le_refl _) rfl (ResV.agg rfl isAgg47 sizeOf47 (List.mem_cons_self ..) rfl) (List.Sublist.cons _ (List.Sublist.cons _ (List.Sublist.cons _ (List.Sublist.refl _)))) (List.Perm.refl _) ⟨(Hp.le_trans (Hp.le_trans hle114 hle116) hle123), v120, rfl, rfl, h121⟩
 ·have hm := ite_f' hb104 hm
  refine C_skip (E_then (C_seq (C_seq (C_region ?_))))
  refine W_field (o := 1) rfl rfl runUnderlying47 rfl sizeOf45 rfl rfl rfl ?_
  refine W_load rfl rfl isAgg45 rfl (own_at (List.mem_cons_of_mem _ (List.mem_cons_of_mem _ (List.mem_cons_self ..))) rfl) ?_
  refine W_field (o := 1) rfl rfl runUnderlying47 rfl sizeOf45 rfl rfl rfl ?_
  refine W_load rfl rfl isAgg45 rfl (own_at (List.mem_cons_of_mem _ (List.mem_cons_self ..)) rfl) ?_
  obtain ⟨r124, hc125, hm⟩ := bind_some hm
  refine W_call call62 rfl rfl rfl (fun w ht => by have h := m_large_cmpWords_c (hm := hc125) h0 h1 ht; exact h) ?_
  rintro _ _ _ ⟨rfl, rfl, rfl⟩
  refine W_bin rfl rfl rfl rfl rfl ?_
  refine W_end (E_then ?_)
  refine C_cond (b := decide (0 ≤ r124)) rfl (fun hb126 => ?_) (fun hb126 => ?_)
  ·have hm := ite_t' hb126 hm
   refine C_seq ?_
   obtain ⟨r127, hc128, hm⟩ := bind_some hm
   refine C_region_tok0 7 (phiT [(fun H rs v => [] = rs ∧ .pointer (some ⟨b101, 0, none⟩) = v), (fun H rs v => [] = rs ∧ .bool (p0_a.minus) = v), (fun H rs v => [] = rs ∧ .pointer (some ⟨b101, 1, none⟩) = v), (fun H rs v => [] = rs ∧ v0 = v), (fun H rs v => [] = rs ∧ .pointer (some ⟨b102, 1, none⟩) = v), (fun H rs v => [] = rs ∧ v1 = v), (fun H rs v => ∃ v132 : Value, ∃ xs133 : List Value, [.row v132 80 (Rep.sz U32) r127.length xs133] = rs ∧ v132 = v ∧ Rw H v132 xs133 r127)]) [[], [], [], [], [], [], []] [[], [], [], [], [], [], []] [] [0, 1, 2, 3, 4, 5, 6] Facts.mixed (by kernel_rfl) (by rfl) (by rfl) (by rfl) (by kernel_rfl) (phiT_mono ⟨eq_monoT _ _, eq_monoT _ _, eq_monoT _ _, eq_monoT _ _, eq_monoT _ _, eq_monoT _ _, (by rintro H1 H2 rs v hle ⟨v132, xs133, rfl, rfl, h134⟩; exact ⟨v132, xs133, rfl, rfl, (h134.mono hle)⟩), trivial⟩) ⟨?_, ?_, ?_, ?_, ?_, ?_, ?_, trivial⟩ ?_
   ·intro HX hX X Rest hR
    intro hU hUp
    refine W_field (o := 0) rfl rfl runUnderlying47 rfl sizeOf4 rfl rfl rfl ?_
    exact W_end (OneT_end [] (Hp.le_refl _) ⟨rfl, rfl⟩)
   ·intro HX hX X Rest hR
    rintro _ _ ⟨rfl, rfl⟩
    intro hU hUp
    refine W_load rfl rfl isAgg4 rfl (own_at (hR _ (List.mem_cons_of_mem _ (List.mem_cons_of_mem _ (List.mem_cons_self ..)))) rfl) ?_
    exact W_end (OneT_end [] (Hp.le_refl _) ⟨rfl, rfl⟩)
   ·intro HX hX X Rest hR
    intro hU hUp
    refine W_field (o := 1) rfl rfl runUnderlying47 rfl sizeOf45 rfl rfl rfl ?_
    exact W_end (OneT_end [] (Hp.le_refl _) ⟨rfl, rfl⟩)
   ·intro HX hX X Rest hR
    rintro _ _ ⟨rfl, rfl⟩
    intro hU hUp
    refine W_load rfl rfl isAgg45 rfl (own_at (hR _ (List.mem_cons_of_mem _ (List.mem_cons_of_mem _ (List.mem_cons_self ..)))) rfl) ?_
    exact W_end (OneT_end [] (Hp.le_refl _) ⟨rfl, rfl⟩)
   ·intro HX hX X Rest hR
    intro hU hUp
    refine W_field (o := 1) rfl rfl runUnderlying47 rfl sizeOf45 rfl rfl rfl ?_
    exact W_end (OneT_end [] (Hp.le_refl _) ⟨rfl, rfl⟩)
   ·intro HX hX X Rest hR
    rintro _ _ ⟨rfl, rfl⟩
    intro hU hUp
    refine W_load rfl rfl isAgg45 rfl (own_at (hR _ (List.mem_cons_of_mem _ (List.mem_cons_self ..))) rfl) ?_
    exact W_end (OneT_end [] (Hp.le_refl _) ⟨rfl, rfl⟩)
   ·intro HX hX X Rest hR
    rintro _ _ ⟨rfl, rfl⟩
    rintro _ _ ⟨rfl, rfl⟩
    intro hU hUp
    refine W_call call63 rfl rfl rfl (fun w ht => by have h := m_large_subWords_c (hm := hc128) (h0.mono hX) (h1.mono hX) ht; exact h) ?_
    rintro _ _ _ ⟨rfl, v132, xs133, rfl, rfl, h134⟩
    have h134 := h134 HX
    exact W_end (OneT_end [.row v132 80 (Rep.sz U32) r127.length xs133] (Hp.le_refl _) ⟨v132, xs133, rfl, rfl, (h134)⟩)
   intro H135 hle136
   rintro _ _ ⟨rfl, rfl⟩
   rintro _ _ ⟨rfl, rfl⟩
   rintro _ _ ⟨rfl, rfl⟩
   rintro _ _ ⟨rfl, rfl⟩
   rintro _ _ ⟨rfl, rfl⟩
   rintro _ _ ⟨rfl, rfl⟩
   rintro _ _ ⟨v132, xs133, rfl, rfl, h134⟩
   refine W_as (M' := .row v132 80 (Rep.sz U32) r127.length xs133 :: .obj b103 (.cells ([.bool (false), .slice none 0 0] : List Value).toArray 47 (0, 0)) :: .obj b102 (.cells [.bool (p1_b.minus), v1].toArray 47 (0, 0)) :: .obj b101 (.cells [.bool (p0_a.minus), v0].toArray 47 (0, 0)) :: M) rfl ?_
   refine W_freeze (h134).rd rfl (fun H137 hle138 h139 => ?_)
   obtain ⟨r140, hc141, hm⟩ := bind_some hm
   refine W_call call54 rfl rfl rfl (fun w ht => by have h := m_large_norm_c (hm := hc141) h139 ht; exact h) ?_
   rintro _ H144 _ ⟨hle145, v142, rfl, rfl, h143⟩
   refine W_store (cs := [.bool (r140.minus), v142]) (out := [.bool (r140.minus), v142]) rfl sizeOf47 rfl rfl rfl rfl rfl (all_cons rfl (all_cons (RdS.one1 h143) all_nil)) (over_all rfl) ?_
   refine W_end (E_then (C_ret (E_ret_then ?_)))
   obtain rfl := Option.some.inj hm
   exact endC1 (Hp.le_refl _) rfl (ResV.agg rfl isAgg47 sizeOf47 (List.mem_cons_self ..) rfl) (List.Sublist.cons _ (List.Sublist.cons _ (List.Sublist.cons _ (List.Sublist.refl _)))) (List.Perm.refl _) ⟨(Hp.le_trans (Hp.le_trans hle136 hle138) hle145), v142, rfl, rfl, h143⟩
  ·have hm := ite_f' hb126 hm
   refine C_skip (E_then (C_seq ?_))
   obtain ⟨r146, hc147, hm⟩ := bind_some hm
   refine C_region_tok0 7 (phiT [(fun H rs v => [] = rs ∧ .pointer (some ⟨b102, 0, none⟩) = v), (fun H rs v => [] = rs ∧ .bool (p1_b.minus) = v), (fun H rs v => [] = rs ∧ .pointer (some ⟨b102, 1, none⟩) = v), (fun H rs v => [] = rs ∧ v1 = v), (fun H rs v => [] = rs ∧ .pointer (some ⟨b101, 1, none⟩) = v), (fun H rs v => [] = rs ∧ v0 = v), (fun H rs v => ∃ v151 : Value, ∃ xs152 : List Value, [.row v151 80 (Rep.sz U32) r146.length xs152] = rs ∧ v151 = v ∧ Rw H v151 xs152 r146)]) [[], [], [], [], [], [], []] [[], [], [], [], [], [], []] [] [0, 1, 2, 3, 4, 5, 6] Facts.mixed (by kernel_rfl) (by rfl) (by rfl) (by rfl) (by kernel_rfl) (phiT_mono ⟨eq_monoT _ _, eq_monoT _ _, eq_monoT _ _, eq_monoT _ _, eq_monoT _ _, eq_monoT _ _, (by rintro H1 H2 rs v hle ⟨v151, xs152, rfl, rfl, h153⟩; exact ⟨v151, xs152, rfl, rfl, (h153.mono hle)⟩), trivial⟩) ⟨?_, ?_, ?_, ?_, ?_, ?_, ?_, trivial⟩ ?_
   ·intro HX hX X Rest hR
    intro hU hUp
    refine W_field (o := 0) rfl rfl runUnderlying47 rfl sizeOf4 rfl rfl rfl ?_
    exact W_end (OneT_end [] (Hp.le_refl _) ⟨rfl, rfl⟩)
   ·intro HX hX X Rest hR
    rintro _ _ ⟨rfl, rfl⟩
    intro hU hUp
    refine W_load rfl rfl isAgg4 rfl (own_at (hR _ (List.mem_cons_of_mem _ (List.mem_cons_self ..))) rfl) ?_
    exact W_end (OneT_end [] (Hp.le_refl _) ⟨rfl, rfl⟩)
   ·intro HX hX X Rest hR
    intro hU hUp
    refine W_field (o := 1) rfl rfl runUnderlying47 rfl sizeOf45 rfl rfl rfl ?_
    exact W_end (OneT_end [] (Hp.le_refl _) ⟨rfl, rfl⟩)
   ·intro HX hX X Rest hR
    rintro _ _ ⟨rfl, rfl⟩
    intro hU hUp
    refine W_load rfl rfl isAgg45 rfl (own_at (hR _ (List.mem_cons_of_mem _ (List.mem_cons_self ..))) rfl) ?_
    exact W_end (OneT_end [] (Hp.le_refl _) ⟨rfl, rfl⟩)
   ·intro HX hX X Rest hR
    intro hU hUp
    refine W_field (o := 1) rfl rfl runUnderlying47 rfl sizeOf45 rfl rfl rfl ?_
    exact W_end (OneT_end [] (Hp.le_refl _) ⟨rfl, rfl⟩)
   ·intro HX hX X Rest hR
    rintro _ _ ⟨rfl, rfl⟩
    intro hU hUp
    refine W_load rfl rfl isAgg45 rfl (own_at (hR _ (List.mem_cons_of_mem _ (List.mem_cons_of_mem _ (List.mem_cons_self ..)))) rfl) ?_
    exact W_end (OneT_end [] (Hp.le_refl _) ⟨rfl, rfl⟩)
   ·intro HX hX X Rest hR
    rintro _ _ ⟨rfl, rfl⟩
    rintro _ _ ⟨rfl, rfl⟩
    intro hU hUp
    refine W_call call63 rfl rfl rfl (fun w ht => by have h := m_large_subWords_c (hm := hc147) (h1.mono hX) (h0.mono hX) ht; exact h) ?_
    rintro _ _ _ ⟨rfl, v151, xs152, rfl, rfl, h153⟩
    have h153 := h153 HX
    exact W_end (OneT_end [.row v151 80 (Rep.sz U32) r146.length xs152] (Hp.le_refl _) ⟨v151, xs152, rfl, rfl, (h153)⟩)
   intro H154 hle155
   rintro _ _ ⟨rfl, rfl⟩
   rintro _ _ ⟨rfl, rfl⟩
   rintro _ _ ⟨rfl, rfl⟩
   rintro _ _ ⟨rfl, rfl⟩
   rintro _ _ ⟨rfl, rfl⟩
   rintro _ _ ⟨rfl, rfl⟩
   rintro _ _ ⟨v151, xs152, rfl, rfl, h153⟩
   refine W_as (M' := .row v151 80 (Rep.sz U32) r146.length xs152 :: .obj b103 (.cells ([.bool (false), .slice none 0 0] : List Value).toArray 47 (0, 0)) :: .obj b102 (.cells [.bool (p1_b.minus), v1].toArray 47 (0, 0)) :: .obj b101 (.cells [.bool (p0_a.minus), v0].toArray 47 (0, 0)) :: M) rfl ?_
   refine W_freeze (h153).rd rfl (fun H156 hle157 h158 => ?_)
   obtain ⟨r159, hc160, hm⟩ := bind_some hm
   refine W_call call54 rfl rfl rfl (fun w ht => by have h := m_large_norm_c (hm := hc160) h158 ht; exact h) ?_
   rintro _ H163 _ ⟨hle164, v161, rfl, rfl, h162⟩
   refine W_store (cs := [.bool (r159.minus), v161]) (out := [.bool (r159.minus), v161]) rfl sizeOf47 rfl rfl rfl rfl rfl (all_cons rfl (all_cons (RdS.one1 h162) all_nil)) (over_all rfl) ?_
   refine W_end (E_then (C_ret ?_))
   obtain rfl := Option.some.inj hm
   exact endC1 (Hp.le_refl _) rfl (ResV.agg rfl isAgg47 sizeOf47 (List.mem_cons_self ..) rfl) (List.Sublist.cons _ (List.Sublist.cons _ (List.Sublist.cons _ (List.Sublist.refl _)))) (List.Perm.refl _) ⟨(Hp.le_trans (Hp.le_trans hle155 hle157) hle164), v161, rfl, rfl, h162⟩

theorem m_large_Read_c {B : Nat} {w0 w : World} [Tabs B w0] {H : Hp} {M : List Res} {p0_s : ByteArray} {r : S_large_Int} (hm : m_large_Read p0_s = some r) (ht : St B w0 H (M) w) :
  Calls prog 45 [.string (p0_s)].toArray w (Ret B w0 fun H' M' v => H.le H' ∧ ∃ qv0 : Value, M = M' ∧ .agg [.bool (r.minus), qv0].toArray = v ∧ RdS H' qv0 r.words) := by
 unfold m_large_Read at hm
 refine enter func45 rfl rfl rfl ht ?_
 refine C_seq (C_region ?_)
 refine W_alloc (cs := [.bool (false), .slice none 0 0]) rfl rfl zeroValue47 rfl (fun b101 => ?_)
 refine W_end (E_then (C_seq (C_region ?_)))
 refine W_move rfl rfl rfl ?_
 obtain ⟨r102, hc103, hm⟩ := bind_some hm
 refine W_call call59 rfl rfl rfl (fun w ht => by have h := m_strings_HasPrefix_c (hm := hc103)  ht; exact h) ?_
 rintro _ _ _ ⟨rfl, rfl, rfl⟩
 refine W_assign rfl rfl rfl ?_
 refine W_end (E_then (C_seq (C_region ?_)))
 refine W_move rfl rfl rfl ?_
 obtain ⟨r104, hc105, hm⟩ := bind_some hm
 refine W_call call41 rfl rfl rfl (fun w ht => by have h := m_strings_TrimPrefix_c (hm := hc105)  ht; exact h) ?_
 rintro _ _ _ ⟨rfl, rfl, rfl⟩
 refine W_assign rfl rfl rfl ?_
 refine W_end (E_then (C_seq (C_region ?_)))
 refine W_build (css := []) (zs := [.bool (false), .slice none 0 0]) (out := [.bool (false), .slice none 0 0]) (places := [(0, 1), (1, 1)]) rfl rfl rfl trivial zeroValue47 rfl runUnderlying47 (fun w => by kernel_rfl) rfl ?_
 refine W_alloc (cs := [.bool (false), .slice none 0 0]) rfl rfl zeroValue47 rfl (fun b106 => ?_)
 refine W_store (cs := [.bool (false), .slice none 0 0]) (out := [.bool (false), .slice none 0 0]) rfl sizeOf47 rfl rfl rfl rfl rfl (all_cons rfl (all_cons rfl all_nil)) (over_all rfl) ?_
 refine W_end (E_then ?_)
 refine C_seq_join (fun H' M' L' => ∃ c251 : Bool, ∃ l253 : (List U32), ∃ v252 : Value, m_large_Read_b2 r102 c251 l253 = some r ∧ RdS H' v252 l253 ∧ H.le H' ∧ .obj b106 (.cells [.bool (c251), v252].toArray 47 (0, 0)) :: .obj b101 (.cells ([.bool (false), .slice none 0 0] : List Value).toArray 47 (0, 0)) :: M = M' ∧ [(2, .pointer (some ⟨b101, 0, none⟩)), (3, .bool (r102)), (4, .pointer (some ⟨b106, 0, none⟩))] = L') ?_ (fun J257 => ?_)
 ·rintro H255 _ _ ⟨c251, l253, v252, hm, h254, hle256, rfl, rfl⟩
  unfold m_large_Read_b2 at hm
  refine C_seq (C_region ?_)
  refine W_move rfl rfl rfl ?_
  refine W_move rfl rfl rfl ?_
  cases hb258 : (r102)
  ·have hm := ite_f' hb258 hm
   refine W_no rfl rfl rfl ?_
   refine W_no rfl rfl rfl ?_
   refine W_no rfl rfl rfl ?_
   refine W_no rfl rfl rfl ?_
   refine W_pick rfl rfl rfl rfl ?_
   refine W_field (o := 0) rfl rfl runUnderlying47 rfl sizeOf4 rfl rfl rfl ?_
   refine W_store (cs := [.bool (false)]) (out := [.bool (false), v252]) rfl sizeOf4 rfl rfl rfl rfl rfl (all_cons rfl all_nil) rfl ?_
   refine W_end (E_then (C_seq (C_region ?_)))
   refine W_loadAgg rfl rfl isAgg47 sizeOf47 rfl (own_all (List.mem_cons_self ..)) rfl ?_
   refine W_perm (List.Perm.swap _ _ _) ?_
   refine W_store (cs := [.bool (false), v252]) (out := [.bool (false), v252]) rfl sizeOf47 rfl rfl rfl rfl rfl (all_cons rfl (all_cons (RdS.one1 h254) all_nil)) (over_all rfl) ?_
   refine W_end (E_then (C_ret ?_))
   obtain rfl := Option.some.inj hm
   exact endC1 (Hp.le_refl _) rfl (ResV.agg rfl isAgg47 sizeOf47 (List.mem_cons_self ..) rfl) (List.Sublist.cons _ (List.Sublist.cons _ (List.Sublist.refl _))) (List.Perm.refl _) ⟨hle256, v252, rfl, rfl, h254⟩
  ·have hm := ite_t' hb258 hm
   refine W_field (o := 1) rfl rfl runUnderlying47 rfl sizeOf45 rfl rfl rfl ?_
   refine W_load rfl rfl isAgg45 rfl (own_at (List.mem_cons_self ..) rfl) ?_
   refine W_lenR rfl rfl runUnderlying45 rfl h254 ?_
   refine W_bin rfl rfl rfl rfl rfl ?_
   refine W_pick rfl rfl rfl rfl ?_
   refine W_field (o := 0) rfl rfl runUnderlying47 rfl sizeOf4 rfl rfl rfl ?_
   refine W_store (cs := [.bool (decide (0 < (l253.length : Int)))]) (out := [.bool (decide (0 < (l253.length : Int))), v252]) rfl sizeOf4 rfl rfl rfl rfl rfl (all_cons rfl all_nil) rfl ?_
   refine W_end (E_then (C_seq (C_region ?_)))
   refine W_loadAgg rfl rfl isAgg47 sizeOf47 rfl (own_all (List.mem_cons_self ..)) rfl ?_
   refine W_perm (List.Perm.swap _ _ _) ?_
   refine W_store (cs := [.bool (decide (0 < (l253.length : Int))), v252]) (out := [.bool (decide (0 < (l253.length : Int))), v252]) rfl sizeOf47 rfl rfl rfl rfl rfl (all_cons rfl (all_cons (RdS.one1 h254) all_nil)) (over_all rfl) ?_
   refine W_end (E_then (C_ret ?_))
   obtain rfl := Option.some.inj hm
   exact endC1 (Hp.le_refl _) rfl (ResV.agg rfl isAgg47 sizeOf47 (List.mem_cons_self ..) rfl) (List.Sublist.cons _ (List.Sublist.cons _ (List.Sublist.refl _))) (List.Perm.refl _) ⟨hle256, v252, rfl, rfl, h254⟩
 ·refine C_block ?_
  refine C_keep (L' := [(0, .string (r104)), (2, .pointer (some ⟨b101, 0, none⟩)), (3, .bool (r102)), (4, .pointer (some ⟨b106, 0, none⟩))]) ⟨rfl, rfl, rfl, rfl, trivial⟩ (List.Perm.refl _) ?_
  refine C_loop (fun n H' M' L' => ∃ s349 : ByteArray, ∃ c350 : Bool, ∃ l352 : (List U32), ∃ v351 : Value, loopF (fun s356 n => m_large_Read_b3 r102 s356.1 s356.2.1 s356.2.2 n) n (s349, c350, l352) = some r ∧ RdS H' v351 l352 ∧ H.le H' ∧ .obj b106 (.cells [.bool (c350), v351].toArray 47 (0, 0)) :: .obj b101 (.cells ([.bool (false), .slice none 0 0] : List Value).toArray 47 (0, 0)) :: M = M' ∧ [(0, .string (s349)), (2, .pointer (some ⟨b101, 0, none⟩)), (3, .bool (r102)), (4, .pointer (some ⟨b106, 0, none⟩))] = L') FUEL ⟨r104, false, [], (.slice none 0 0), hm, RdS.nil, (Hp.le_refl _), rfl, rfl⟩ ?_
  rintro n359 H354 _ _ ⟨s349, c350, l352, v351, hm, h353, hle355, rfl, rfl⟩
  cases n359 with
  | zero => cases hm
  | succ n359 =>
   have hm : m_large_Read_b3 r102 s349 c350 l352 (loopF (fun s356 n => m_large_Read_b3 r102 s356.1 s356.2.1 s356.2.2 n) n359) = some r := hm
   generalize hn358 : loopF (fun s356 n => m_large_Read_b3 r102 s356.1 s356.2.1 s356.2.2 n) n359 = nx357 at hm
   unfold m_large_Read_b3 at hm
   refine C_seq (C_seq (C_region ?_))
   refine W_move rfl rfl rfl ?_
   refine W_lenStr rfl rfl runUnderlying9 rfl ?_
   refine W_bin rfl rfl rfl rfl rfl ?_
   refine W_end (E_then ?_)
   refine C_cond (b := decide (0 < (s349.size : Int))) rfl (fun hb365 => ?_) (fun hb365 => ?_)
   ·have hm := ite_t' hb365 hm
    refine C_skip (E_then (C_block (C_seq (C_region ?_))))
    refine W_move rfl rfl rfl ?_
    refine W_lenStr rfl rfl runUnderlying9 rfl ?_
    refine W_bin rfl rfl rfl rfl rfl ?_
    refine W_rem rfl rfl rfl rfl (by decide) ?_
    refine W_bin rfl rfl rfl rfl rfl ?_
    refine W_assign rfl rfl rfl ?_
    refine W_end (E_then (C_seq (C_region ?_)))
    refine W_move rfl rfl rfl ?_
    refine W_move rfl rfl rfl ?_
    obtain ⟨hz366, hm⟩ := need_some hm
    refine W_sliceStr (l := 0) (h := (IntKind.i64.wrap ((Int.tmod (IntKind.i64.wrap ((s349.size : Int) - 1)) 9) + 1) : Int).toNat) rfl rfl runUnderlying9 rfl (.inr ⟨_, _, _, rfl, rfl, by omega, by omega, rfl⟩) (.inl ⟨rfl, rfl⟩) ?_
    obtain ⟨hz367, hm⟩ := need_some hm
    refine W_call call60 rfl rfl rfl (fun w ht => by have h := puo60_c hz367 ht; exact h) ?_
    rintro _ _ _ ⟨rfl, rfl, rfl⟩
    refine W_move rfl rfl rfl ?_
    refine W_extract rfl rfl rfl rfl ?_
    refine W_extract rfl rfl rfl rfl ?_
    refine W_assign rfl rfl rfl ?_
    refine W_assign rfl rfl rfl ?_
    refine W_end (E_then (C_seq ?_))
    obtain ⟨r368, hc369, hm⟩ := bind_some hm
    obtain ⟨r374, hc375, hm⟩ := bind_some hm
    refine C_region_tok0 5 (phiT [(fun H rs v => [] = rs ∧ .agg [.bool (c350), v351].toArray = v), (fun H rs v => ∃ v380 : Value, [] = rs ∧ .agg [.bool (r368.minus), v380].toArray = v ∧ RdS H v380 r368.words), (fun H rs v => ∃ v384 : Value, [] = rs ∧ .agg [.bool (r374.minus), v384].toArray = v ∧ RdS H v384 r374.words), (fun H rs v => [] = rs ∧ .int .u64 ((puB (s349.extract 0 ((IntKind.i64.wrap ((Int.tmod (IntKind.i64.wrap ((s349.size : Int) - 1)) 9) + 1) : Int).toNat))).1) = v), (fun H rs v => [] = rs ∧ .int .i64 (IntKind.i64.wrap ((puB (s349.extract 0 ((IntKind.i64.wrap ((Int.tmod (IntKind.i64.wrap ((s349.size : Int) - 1)) 9) + 1) : Int).toNat))).1)) = v)]) [[], [], [], [], []] [[], [], [], [], []] [] [0, 1, 2, 3, 4] Facts.mixed (by kernel_rfl) (by rfl) (by rfl) (by rfl) (by kernel_rfl) (phiT_mono ⟨eq_monoT _ _, (by rintro H1 H2 rs v hle ⟨v380, rfl, rfl, h381⟩; exact ⟨v380, rfl, rfl, (h381.mono hle)⟩), (by rintro H1 H2 rs v hle ⟨v384, rfl, rfl, h385⟩; exact ⟨v384, rfl, rfl, (h385.mono hle)⟩), eq_monoT _ _, eq_monoT _ _, trivial⟩) ⟨?_, ?_, ?_, ?_, ?_, trivial⟩ ?_
    ·intro HX hX X Rest hR
     intro hU hUp
     refine W_loadAgg rfl rfl isAgg47 sizeOf47 rfl (own_all (hR _ (List.mem_cons_self ..))) rfl ?_
     exact W_end (OneT_end [] (Hp.le_refl _) ⟨rfl, rfl⟩)
    ·intro HX hX X Rest hR
     intro hU hUp
     refine W_call call40 rfl rfl rfl (fun w ht => by have h := m_large_Of_c (hm := hc369)  ht; exact h) ?_
     rintro _ H382 _ ⟨hle383, v380, rfl, rfl, h381⟩
     exact W_end (OneT_end [] hle383 ⟨v380, rfl, rfl, (h381)⟩)
    ·intro HX hX X Rest hR
     rintro _ _ ⟨rfl, rfl⟩
     rintro _ _ ⟨v380, rfl, rfl, h381⟩
     rintro _ _ ⟨v380, rfl, rfl, h381⟩
     intro hU hUp
     refine W_call call47 rfl rfl rfl (fun w ht => by have h := m_large_Int_Mul_c (hm := hc375) (h353.mono hX) h381 ht; exact h) ?_
     rintro _ H386 _ ⟨hle387, v384, rfl, rfl, h385⟩
     exact W_end (OneT_end [] hle387 ⟨v384, rfl, rfl, (h385)⟩)
    ·intro HX hX X Rest hR
     intro hU hUp
     refine W_move rfl rfl rfl ?_
     exact W_end (OneT_end [] (Hp.le_refl _) ⟨rfl, rfl⟩)
    ·intro HX hX X Rest hR
     rintro _ _ ⟨rfl, rfl⟩
     intro hU hUp
     refine W_convInt rfl rfl runUnderlying84 runUnderlying3 rfl ?_
     exact W_end (OneT_end [] (Hp.le_refl _) ⟨rfl, rfl⟩)
    intro H388 hle389
    rintro _ _ ⟨rfl, rfl⟩
    rintro _ _ ⟨v380, rfl, rfl, h381⟩
    rintro _ _ ⟨v384, rfl, rfl, h385⟩
    rintro _ _ ⟨rfl, rfl⟩
    rintro _ _ ⟨rfl, rfl⟩
    obtain ⟨r390, hc391, hm⟩ := bind_some hm
    refine W_call call40 rfl rfl rfl (fun w ht => by have h := m_large_Of_c (hm := hc391)  ht; exact h) ?_
    rintro _ H394 _ ⟨hle395, v392, rfl, rfl, h393⟩
    obtain ⟨r396, hc397, hm⟩ := bind_some hm
    refine W_call call48 rfl rfl rfl (fun w ht => by have h := m_large_Int_Add_c (hm := hc397) (h385.mono hle395) h393 ht; exact h) ?_
    rintro _ H400 _ ⟨hle401, v398, rfl, rfl, h399⟩
    refine W_store (cs := [.bool (r396.minus), v398]) (out := [.bool (r396.minus), v398]) rfl sizeOf47 rfl rfl rfl rfl rfl (all_cons rfl (all_cons (RdS.one1 h399) all_nil)) (over_all rfl) ?_
    refine W_end (E_then (C_region ?_))
    refine W_move rfl rfl rfl ?_
    refine W_move rfl rfl rfl ?_
    obtain ⟨hz402, hm⟩ := need_some hm
    refine W_sliceStr (l := (IntKind.i64.wrap ((Int.tmod (IntKind.i64.wrap ((s349.size : Int) - 1)) 9) + 1) : Int).toNat) (h := s349.size) rfl rfl runUnderlying9 rfl (.inl ⟨rfl, rfl⟩) (.inr ⟨_, _, _, rfl, rfl, by omega, by omega, rfl⟩) ?_
    refine W_assign rfl rfl rfl ?_
    refine W_end (E_normal_block ?_)
    exact E_keepJ (E_back (Nat.lt_succ_self _) ⟨s349.extract ((IntKind.i64.wrap ((Int.tmod (IntKind.i64.wrap ((s349.size : Int) - 1)) 9) + 1) : Int).toNat) s349.size, r396.minus, r396.words, v398, (by rw [hn358]; exact hm), h399, (Hp.le_trans (Hp.le_trans (Hp.le_trans hle355 hle389) hle395) hle401), rfl, rfl⟩) (List.Perm.refl _) ⟨rfl, rfl, rfl, rfl, trivial⟩
   ·have hm := ite_f' hb365 hm
    refine C_exit (E_exit_then (E_exit_then (E_exit_hit ?_)))
    exact E_keepJ (J257 _ _ _ ⟨c350, l352, v351, hm, h353, hle355, rfl, rfl⟩) (List.Perm.refl _) ⟨rfl, rfl, rfl, trivial⟩

theorem m_nat_two_c {B : Nat} {w0 w : World} [Tabs B w0] {H : Hp} {M : List Res} {p0_a : ByteArray} {p1_b : ByteArray} {r : S_large_Int × S_large_Int × Int} (hm : m_nat_two p0_a p1_b = some r) (ht : St B w0 H (M) w) :
  Calls prog 57 [.string (p0_a), .string (p1_b)].toArray w (Ret B w0 fun H' M' v => H.le H' ∧ ∃ qv0 : Value, ∃ qv1 : Value, M = M' ∧ .tuple #[.agg [.bool (r.1.minus), qv0].toArray, .agg [.bool (r.2.1.minus), qv1].toArray, .int .i64 (r.2.2)] = v ∧ RdS H' qv0 r.1.words ∧ RdS H' qv1 r.2.1.words) := by
 unfold m_nat_two at hm
 refine enter func57 rfl rfl rfl ht ?_
 refine C_seq (C_region ?_)
 refine W_alloc (cs := [.bool (false), .slice none 0 0]) rfl rfl zeroValue47 rfl (fun b101 => ?_)
 refine W_alloc (cs := [.bool (false), .slice none 0 0]) rfl rfl zeroValue47 rfl (fun b102 => ?_)
 refine W_assign rfl rfl rfl ?_
 refine W_end (E_then (C_seq (C_seq (C_region ?_))))
 refine W_move rfl rfl rfl ?_
 refine W_move rfl rfl rfl ?_
 refine W_buildArr (css := [[.string (p0_a)], [.string (p1_b)]]) (zs := [.string (⟨#[]⟩), .string (⟨#[]⟩)]) (out := [.string (p0_a), .string (p1_b)]) (places := [(0, 1), (1, 1)]) rfl rfl rfl ⟨rfl, rfl, trivial⟩ zeroValue112 rfl runUnderlying112 sizeOf9 rfl rfl ?_
 refine W_move rfl rfl rfl ?_
 refine W_end (E_then (C_block ?_))
 refine C_keep (L' := [(0, .string (p0_a)), (1, .string (p1_b)), (4, .pointer (some ⟨b101, 0, none⟩)), (5, .pointer (some ⟨b102, 0, none⟩)), (12, .agg [.string (p0_a), .string (p1_b)].toArray), (13, .int .i64 (((0 : Nat) : Int)))]) ⟨rfl, rfl, rfl, rfl, rfl, rfl, trivial⟩ (List.Perm.refl _) ?_
 refine C_loop (fun n H' M' L' => ∃ (k103 : Nat) (zs123' : Nat), k103 + zs123' = (2 : Int).toNat ∧ zs123' = n ∧ forN (fun k s118 n => m_nat_two_b1 p0_a p1_b k n) (fun _ => (m_large_Read p0_a).bind fun r134 => (m_large_Read p1_b).bind fun r140 => some (r134, r140, 0)) zs123' k103 () = some r ∧ H.le H' ∧ .obj b102 (.cells ([.bool (false), .slice none 0 0] : List Value).toArray 47 (0, 0)) :: .obj b101 (.cells ([.bool (false), .slice none 0 0] : List Value).toArray 47 (0, 0)) :: M = M' ∧ [(0, .string (p0_a)), (1, .string (p1_b)), (4, .pointer (some ⟨b101, 0, none⟩)), (5, .pointer (some ⟨b102, 0, none⟩)), (12, .agg [.string (p0_a), .string (p1_b)].toArray), (13, .int .i64 ((k103 : Int)))] = L') _ ⟨0, _, Nat.zero_add _, rfl, hm, (Hp.le_refl _), rfl, rfl⟩ ?_
 rintro _ H116 _ _ ⟨k103, zs123', hd125, rfl, hm, hle117, rfl, rfl⟩
 refine C_seq (C_region ?_)
 refine W_bin rfl rfl rfl rfl rfl ?_
 refine W_end (E_then (C_seq ?_))
 refine C_cond (b := decide ((k103 : Int) < 2)) rfl (fun hb127 => ?_) (fun hb127 => ?_)
 ·obtain ⟨zs123, rfl, hd126, hy124⟩ := rngN_t hd125 hb127
  have hm : m_nat_two_b1 p0_a p1_b k103 (forN (fun k s118 n => m_nat_two_b1 p0_a p1_b k n) (fun _ => (m_large_Read p0_a).bind fun r134 => (m_large_Read p1_b).bind fun r140 => some (r134, r140, 0)) zs123 (k103 + 1)) = some r := hm
  generalize hn120 : forN (fun k s118 n => m_nat_two_b1 p0_a p1_b k n) (fun _ => (m_large_Read p0_a).bind fun r134 => (m_large_Read p1_b).bind fun r140 => some (r134, r140, 0)) zs123 (k103 + 1) = nx119 at hm
  unfold m_nat_two_b1 at hm
  refine C_skip (E_then (C_seq (C_block (C_seq (C_region ?_)))))
  obtain ⟨y128, h129, he130, hm⟩ := idx_some hm
  refine W_indexV rfl rfl runUnderlying112 isAgg9 sizeOf9 rfl rfl h129 (List.getElem?_eq_some_iff.1 he130).1 (cells_map (f := Value.string) (l := [p0_a, p1_b]) he130) ?_
  refine W_assign rfl rfl rfl ?_
  refine W_end (E_then (C_seq (C_region ?_)))
  refine W_move rfl rfl rfl ?_
  obtain ⟨r131, hc132, hm⟩ := bind_some hm
  refine W_call call43 rfl rfl rfl (fun w ht => by have h := m_nat_Check_c (hm := hc132)  ht; exact h) ?_
  rintro _ _ _ ⟨rfl, rfl, rfl⟩
  refine W_assign rfl rfl rfl ?_
  refine W_end (E_then (C_seq (C_region ?_)))
  refine W_move rfl rfl rfl ?_
  refine W_bin rfl rfl rfl rfl rfl ?_
  refine W_end (E_then ?_)
  refine C_cond (b := !decide (r131 = 0)) rfl (fun hb133 => ?_) (fun hb133 => ?_)
  ·have hm := ite_t' hb133 hm
   refine C_seq (C_region ?_)
   refine W_build (css := []) (zs := [.bool (false), .slice none 0 0]) (out := [.bool (false), .slice none 0 0]) (places := [(0, 1), (1, 1)]) rfl rfl rfl trivial zeroValue47 rfl runUnderlying47 (fun w => by kernel_rfl) rfl ?_
   refine W_build (css := []) (zs := [.bool (false), .slice none 0 0]) (out := [.bool (false), .slice none 0 0]) (places := [(0, 1), (1, 1)]) rfl rfl rfl trivial zeroValue47 rfl runUnderlying47 (fun w => by kernel_rfl) rfl ?_
   refine W_move rfl rfl rfl ?_
   refine W_perm (List.Perm.swap _ _ _) ?_
   refine W_store (cs := [.bool (false), .slice none 0 0]) (out := [.bool (false), .slice none 0 0]) rfl sizeOf47 rfl rfl rfl rfl rfl (all_cons rfl (all_cons rfl all_nil)) (over_all rfl) ?_
   refine W_perm (List.Perm.swap _ _ _) ?_
   refine W_store (cs := [.bool (false), .slice none 0 0]) (out := [.bool (false), .slice none 0 0]) rfl sizeOf47 rfl rfl rfl rfl rfl (all_cons rfl (all_cons rfl all_nil)) (over_all rfl) ?_
   refine W_assign rfl rfl rfl ?_
   refine W_end (E_then (C_ret (E_ret_block (E_ret_then (E_ret_then (E_ret_block (E_ret_then ?_)))))))
   obtain rfl := Option.some.inj hm
   exact endC3 (Hp.le_refl _) rfl (ResV.agg rfl isAgg47 sizeOf47 (List.mem_cons_of_mem _ (List.mem_cons_self ..)) rfl) (ResV.agg rfl isAgg47 sizeOf47 (List.mem_cons_self ..) rfl) (ResV.tmp rfl) (List.Sublist.cons _ (List.Sublist.cons _ (List.Sublist.refl _))) (List.Perm.refl _) ⟨hle117, (.slice none 0 0), (.slice none 0 0), rfl, rfl, RdS.nil, RdS.nil⟩
  ·have hm := ite_f' hb133 hm
   refine C_skip (E_normal_block (E_then (C_region ?_)))
   refine W_bin rfl rfl rfl rfl rfl ?_
   refine W_move rfl rfl rfl ?_
   refine W_end ?_
   exact E_keepJ (E_back (Nat.lt_succ_self _) ⟨k103 + 1, zs123, hd126, rfl, (by rw [hn120]; exact hm), hle117, rfl, rfl⟩) (List.Perm.refl _) ⟨rfl, rfl, rfl, rfl, rfl, (congrArg (fun z => some (Value.int .i64 z)) (i64_succN hy124 (toNat_max (by decide)))), trivial⟩
 ·obtain rfl := rngN_f hd125 hb127
  have hm : ((m_large_Read p0_a).bind fun r134 => (m_large_Read p1_b).bind fun r140 => some (r134, r140, 0)) = some r := hm
  refine C_exit (E_exit_then (E_exit_then (E_exit_hit (E_then (C_seq (C_region ?_))))))
  refine W_move rfl rfl rfl ?_
  obtain ⟨r134, hc135, hm⟩ := bind_some hm
  refine W_call call45 rfl rfl rfl (fun w ht => by have h := m_large_Read_c (hm := hc135)  ht; exact h) ?_
  rintro _ H138 _ ⟨hle139, v136, rfl, rfl, h137⟩
  refine W_move rfl rfl rfl ?_
  obtain ⟨r140, hc141, hm⟩ := bind_some hm
  refine W_call call45 rfl rfl rfl (fun w ht => by have h := m_large_Read_c (hm := hc141)  ht; exact h) ?_
  rintro _ H144 _ ⟨hle145, v142, rfl, rfl, h143⟩
  refine W_perm (List.Perm.swap _ _ _) ?_
  refine W_store (cs := [.bool (r134.minus), v136]) (out := [.bool (r134.minus), v136]) rfl sizeOf47 rfl rfl rfl rfl rfl (all_cons rfl (all_cons (RdS.one1 (h137.mono hle145)) all_nil)) (over_all rfl) ?_
  refine W_perm (List.Perm.swap _ _ _) ?_
  refine W_store (cs := [.bool (r140.minus), v142]) (out := [.bool (r140.minus), v142]) rfl sizeOf47 rfl rfl rfl rfl rfl (all_cons rfl (all_cons (RdS.one1 h143) all_nil)) (over_all rfl) ?_
  refine W_assign rfl rfl rfl ?_
  refine W_end (E_then (C_ret ?_))
  obtain rfl := Option.some.inj hm
  exact endC3 (Hp.le_refl _) rfl (ResV.agg rfl isAgg47 sizeOf47 (List.mem_cons_of_mem _ (List.mem_cons_self ..)) rfl) (ResV.agg rfl isAgg47 sizeOf47 (List.mem_cons_self ..) rfl) (ResV.tmp rfl) (List.Sublist.cons _ (List.Sublist.cons _ (List.Sublist.refl _))) (List.Perm.refl _) ⟨(Hp.le_trans (Hp.le_trans hle117 hle139) hle145), v136, v142, rfl, rfl, (h137.mono hle145), h143⟩

theorem m_large_Int_Sign_c {B : Nat} {w0 w : World} [Tabs B w0] {H : Hp} {M : List Res} {p0_a : S_large_Int} {v0 : Value} {r : Int} (hm : m_large_Int_Sign p0_a = r) (h0 : RdS H v0 p0_a.words) (ht : St B w0 H (M) w) :
  Calls prog 68 [.agg [.bool (p0_a.minus), v0].toArray].toArray w (Ret B w0 fun H' M' v => H = H' ∧ M = M' ∧ .int .i64 (r) = v) := by
 unfold m_large_Int_Sign at hm
 refine enter func68 rfl rfl rfl ht ?_
 refine C_seq (C_region ?_)
 refine W_box (cs := [.bool (p0_a.minus), v0]) rfl rfl rfl rfl (fun b101 => ?_)
 refine W_assign rfl rfl rfl ?_
 refine W_end (E_then (C_seq (C_block (C_seq (C_region ?_)))))
 refine W_field (o := 1) rfl rfl runUnderlying47 rfl sizeOf45 rfl rfl rfl ?_
 refine W_load rfl rfl isAgg45 rfl (own_at (List.mem_cons_self ..) rfl) ?_
 refine W_lenR rfl rfl runUnderlying45 rfl h0 ?_
 refine W_bin rfl rfl rfl rfl rfl ?_
 refine W_assign rfl rfl rfl ?_
 refine W_end (E_then ?_)
 refine C_cond (b := decide ((p0_a.words.length : Int) = 0)) rfl (fun hb102 => ?_) (fun hb102 => ?_)
 ·have hm := ite_t' hb102 hm
  refine C_seq (C_region ?_)
  refine W_assign rfl rfl rfl ?_
  refine W_end (E_then (C_ret (E_ret_block (E_ret_then ?_))))
  obtain rfl := hm
  refine E_drop (List.Sublist.cons _ (List.Sublist.refl _)) ?_
  refine E_weak (Hp.le_refl _) ?_
  exact end1 rfl rfl ⟨rfl, rfl, rfl⟩
 ·have hm := ite_f' hb102 hm
  refine C_seq (C_region ?_)
  refine W_field (o := 0) rfl rfl runUnderlying47 rfl sizeOf4 rfl rfl rfl ?_
  refine W_load rfl rfl isAgg4 rfl (own_at (List.mem_cons_self ..) rfl) ?_
  refine W_assign rfl rfl rfl ?_
  refine W_end (E_then ?_)
  refine C_cond (b := p0_a.minus) rfl (fun hb103 => ?_) (fun hb103 => ?_)
  ·have hm := ite_t' hb103 hm
   refine C_seq (C_region ?_)
   refine W_assign rfl rfl rfl ?_
   refine W_end (E_then (C_ret (E_ret_block (E_ret_then ?_))))
   obtain rfl := hm
   refine E_drop (List.Sublist.cons _ (List.Sublist.refl _)) ?_
   refine E_weak (Hp.le_refl _) ?_
   exact end1 rfl rfl ⟨rfl, rfl, rfl⟩
  ·have hm := ite_f' hb103 hm
   refine C_skip (E_normal_block (E_then (C_seq (C_region ?_))))
   refine W_assign rfl rfl rfl ?_
   refine W_end (E_then (C_ret ?_))
   obtain rfl := hm
   refine E_drop (List.Sublist.cons _ (List.Sublist.refl _)) ?_
   refine E_weak (Hp.le_refl _) ?_
   exact end1 rfl rfl ⟨rfl, rfl, rfl⟩

theorem m_large_shortDiv_c {B : Nat} {w0 w : World} [Tabs B w0] {H : Hp} {M : List Res} {p0_a : (List U32)} {p1_d : Int} {v0 : Value} {r : (List U32) × Int} (hm : m_large_shortDiv p0_a p1_d = some r) (h0 : RdS H v0 p0_a) (ht : St B w0 H (M) w) :
  Calls prog 64 [v0, .int .u32 (p1_d)].toArray w (Ret B w0 fun H' M' v => H = H' ∧ ∃ qv0 : Value, ∃ qxs0 : List Value, .row qv0 80 (Rep.sz U32) r.1.length qxs0 :: M = M' ∧ .tuple #[qv0, .int .u32 (r.2)] = v ∧ RwF qv0 qxs0 r.1) := by
 unfold m_large_shortDiv at hm
 refine enter func64 rfl rfl rfl ht ?_
 refine C_seq (C_region ?_)
 refine W_assign rfl rfl rfl ?_
 refine W_assign rfl rfl rfl ?_
 refine W_end (E_then (C_seq (C_region ?_)))
 refine W_move rfl rfl rfl ?_
 refine W_lenR rfl rfl runUnderlying45 rfl h0 ?_
 obtain ⟨hz101, hm⟩ := need_some hm
 refine W_makeSlice (α := U32) (zs := [.int .u32 (0)]) (ze := ⟨0⟩) rfl rfl underlying45 ⟨_, rfl, rfl, rfl, rfl⟩ rfl rfl rfl rfl rfl rfl hz101.1 hz101.2 ?_
 intro v102 xs103 hr104
 refine W_assign rfl rfl rfl ?_
 refine W_end (E_then (C_seq (C_region ?_)))
 refine W_assign rfl rfl rfl ?_
 refine W_end (E_then (C_seq (C_seq (C_region ?_))))
 refine W_move rfl rfl rfl ?_
 refine W_lenR rfl rfl runUnderlying45 rfl h0 ?_
 refine W_bin rfl rfl rfl rfl rfl ?_
 refine W_assign rfl rfl rfl ?_
 refine W_end (E_then (C_block ?_))
 refine C_keep (L' := [(0, v0), (1, .int .u32 (p1_d)), (6, v102), (7, .int .u64 (0)), (8, .int .i64 (IntKind.i64.wrap ((p0_a.length : Int) - 1)))]) ⟨rfl, rfl, rfl, rfl, rfl, trivial⟩ (List.Perm.refl _) ?_
 refine C_loop (fun n H' M' L' => ∃ l149 : List U32, ∃ n151 : Int, ∃ n152 : Int, ∃ xs148 : List Value, loopF (fun s155 n => m_large_shortDiv_b1 p0_a p1_d s155.1 s155.2.1 s155.2.2 n) n (l149, n151, n152) = some r ∧ Rw H' v102 xs148 l149 ∧ H.le H' ∧ .row v102 80 (Rep.sz U32) l149.length xs148 :: M = M' ∧ [(0, v0), (1, .int .u32 (p1_d)), (6, v102), (7, .int .u64 (n151)), (8, .int .i64 (n152))] = L') FUEL ⟨(List.replicate ((p0_a.length : Int) : Int).toNat (⟨0⟩ : U32)), 0, IntKind.i64.wrap ((p0_a.length : Int) - 1), xs103, hm, hr104, (Hp.le_refl _), rfl, rfl⟩ ?_
 rintro n158 H153 _ _ ⟨l149, n151, n152, xs148, hm, hr150, hle154, rfl, rfl⟩
 cases n158 with
 | zero => cases hm
 | succ n158 =>
  have hm : m_large_shortDiv_b1 p0_a p1_d l149 n151 n152 (loopF (fun s155 n => m_large_shortDiv_b1 p0_a p1_d s155.1 s155.2.1 s155.2.2 n) n158) = some r := hm
  generalize hn157 : loopF (fun s155 n => m_large_shortDiv_b1 p0_a p1_d s155.1 s155.2.1 s155.2.2 n) n158 = nx156 at hm
  unfold m_large_shortDiv_b1 at hm
  refine C_seq (C_seq (C_region ?_))
  refine W_move rfl rfl rfl ?_
  refine W_bin rfl rfl rfl rfl rfl ?_
  refine W_end (E_then ?_)
  refine C_cond (b := decide (0 ≤ n152)) rfl (fun hb164 => ?_) (fun hb164 => ?_)
  ·have hm := ite_t' hb164 hm
   refine C_skip (E_then (C_seq (C_block (C_seq (C_region ?_)))))
   refine W_move rfl rfl rfl ?_
   refine W_shl rfl rfl rfl rfl (by decide) ?_
   refine W_move rfl rfl rfl ?_
   refine W_move rfl rfl rfl ?_
   obtain ⟨y165, h166, he167, hm⟩ := idx_some hm
   obtain ⟨_, rfl, hc168⟩ := (h0).elem he167
   refine W_indexS rfl rfl runUnderlying45 sizeOf80 rfl (h0.mono hle154) rfl h166 he167 ?_
   refine W_load rfl rfl isAgg80 rfl (HCells.one (hc168.mono hle154) 0 rfl).at ?_
   refine W_convInt rfl rfl runUnderlying80 runUnderlying84 rfl ?_
   refine W_bin rfl rfl rfl rfl rfl ?_
   refine W_assign rfl rfl rfl ?_
   refine W_end (E_then (C_seq (C_region ?_)))
   refine W_move rfl rfl rfl ?_
   refine W_move rfl rfl rfl ?_
   refine W_move rfl rfl rfl ?_
   refine W_move rfl rfl rfl ?_
   refine W_convInt rfl rfl runUnderlying80 runUnderlying84 rfl ?_
   obtain ⟨hq169, hm⟩ := need_some hm
   refine W_quo rfl rfl rfl rfl hq169 ?_
   refine W_convInt rfl rfl runUnderlying84 runUnderlying80 rfl ?_
   obtain ⟨y170, h171, he172, hm⟩ := idx_some hm
   refine W_indexO (List.mem_cons_self ..) rfl rfl runUnderlying45 sizeOf80 rfl rfl h171 (List.getElem?_eq_some_iff.1 he172).1 ?_
   obtain ⟨_, rfl, hg173⟩ := (hr150).elem he172
   obtain ⟨hr174, he175, hg176⟩ := Rw.put (cs := [.int .u32 (IntKind.u32.wrap (IntKind.u64.wrap (Int.tdiv (IntKind.u64.wrap ((BitVec.ofInt (IntKind.u64).bits (shlV .u64 n151 32) ||| BitVec.ofInt (IntKind.u64).bits (IntKind.u64.wrap (y165.n))).toNat)) (IntKind.u64.wrap (p1_d)))))]) (o := 0) (c := [.int .u32 (y170.n)]) (out := [.int .u32 (IntKind.u32.wrap (IntKind.u64.wrap (Int.tdiv (IntKind.u64.wrap ((BitVec.ofInt (IntKind.u64).bits (shlV .u64 n151 32) ||| BitVec.ofInt (IntKind.u64).bits (IntKind.u64.wrap (y165.n))).toNat)) (IntKind.u64.wrap (p1_d)))))]) (e2 := ⟨IntKind.u32.wrap (IntKind.u64.wrap (Int.tdiv (IntKind.u64.wrap ((BitVec.ofInt (IntKind.u64).bits (shlV .u64 n151 32) ||| BitVec.ofInt (IntKind.u64).bits (IntKind.u64.wrap (y165.n))).toNat)) (IntKind.u64.wrap (p1_d))))⟩) hr150 he172 rfl hg173 rfl rfl rfl
   refine W_storeO2 (i := (n152 : Int).toNat * Rep.sz U32 + 0) (cs := [.int .u32 (IntKind.u32.wrap (IntKind.u64.wrap (Int.tdiv (IntKind.u64.wrap ((BitVec.ofInt (IntKind.u64).bits (shlV .u64 n151 32) ||| BitVec.ofInt (IntKind.u64).bits (IntKind.u64.wrap (y165.n))).toNat)) (IntKind.u64.wrap (p1_d)))))]) rfl sizeOf80 rfl (row_ad0 _ _) rfl rfl rfl (Rw.room hr150 he172 rfl) rfl (all_cons rfl all_nil) (n' := (l149.set ((n152 : Int).toNat) ⟨IntKind.u32.wrap (IntKind.u64.wrap (Int.tdiv (IntKind.u64.wrap ((BitVec.ofInt (IntKind.u64).bits (shlV .u64 n151 32) ||| BitVec.ofInt (IntKind.u64).bits (IntKind.u64.wrap (y165.n))).toNat)) (IntKind.u64.wrap (p1_d))))⟩).length) List.length_set ?_
   generalize over xs148 ((n152 : Int).toNat * Rep.sz U32 + 0) [.int .u32 (IntKind.u32.wrap (IntKind.u64.wrap (Int.tdiv (IntKind.u64.wrap ((BitVec.ofInt (IntKind.u64).bits (shlV .u64 n151 32) ||| BitVec.ofInt (IntKind.u64).bits (IntKind.u64.wrap (y165.n))).toNat)) (IntKind.u64.wrap (p1_d)))))] = xs177 at hr174 hg176 ⊢
   refine W_end (E_then (C_region ?_))
   refine W_move rfl rfl rfl ?_
   refine W_move rfl rfl rfl ?_
   refine W_convInt rfl rfl runUnderlying80 runUnderlying84 rfl ?_
   obtain ⟨hq178, hm⟩ := need_some hm
   refine W_rem rfl rfl rfl rfl hq178 ?_
   refine W_assign rfl rfl rfl ?_
   refine W_end (E_normal_block (E_then (C_region ?_)))
   refine W_move rfl rfl rfl ?_
   refine W_bin rfl rfl rfl rfl rfl ?_
   refine W_assign rfl rfl rfl ?_
   refine W_end ?_
   exact E_keepJ (E_back (Nat.lt_succ_self _) ⟨(l149.set ((n152 : Int).toNat) ⟨IntKind.u32.wrap (IntKind.u64.wrap (Int.tdiv (IntKind.u64.wrap ((BitVec.ofInt (IntKind.u64).bits (shlV .u64 n151 32) ||| BitVec.ofInt (IntKind.u64).bits (IntKind.u64.wrap (y165.n))).toNat)) (IntKind.u64.wrap (p1_d))))⟩), Int.tmod (IntKind.u64.wrap ((BitVec.ofInt (IntKind.u64).bits (shlV .u64 n151 32) ||| BitVec.ofInt (IntKind.u64).bits (IntKind.u64.wrap (y165.n))).toNat)) (IntKind.u64.wrap (p1_d)), IntKind.i64.wrap (n152 - 1), xs177, (by rw [hn157]; exact hm), hr174, hle154, rfl, rfl⟩) (List.Perm.refl _) ⟨rfl, rfl, rfl, rfl, rfl, trivial⟩
  ·have hm := ite_f' hb164 hm
   refine C_exit (E_exit_then (E_exit_then (E_exit_hit (E_then (C_seq (C_region ?_))))))
   refine W_move rfl rfl rfl ?_
   refine W_move rfl rfl rfl ?_
   refine W_convInt rfl rfl runUnderlying84 runUnderlying80 rfl ?_
   refine W_assign rfl rfl rfl ?_
   refine W_assign rfl rfl rfl ?_
   refine W_end (E_then (C_ret ?_))
   obtain rfl := Option.some.inj hm
   refine E_weak hle154 ?_
   exact end2 rfl rfl rfl ⟨rfl, v102, xs148, rfl, rfl, (hr150).toF⟩

theorem m_math_bits_Len32_c {B : Nat} {w0 w : World} [Tabs B w0] {H : Hp} {M : List Res} {p0_x : Int} {r : Int} (hm : m_math_bits_Len32 p0_x = some r) (ht : St B w0 H (M) w) :
  Calls prog 95 [.int .u32 (p0_x)].toArray w (Ret B w0 fun H' M' v => H = H' ∧ M = M' ∧ .int .i64 (r) = v) := by
 unfold m_math_bits_Len32 at hm
 refine enter func95 rfl rfl rfl ht ?_
 refine C_seq (C_region ?_)
 refine W_assign rfl rfl rfl ?_
 refine W_end (E_then ?_)
 refine C_seq_join (fun H' M' L' => ∃ n102 : Int, ∃ n103 : Int, m_math_bits_Len32_b2 n102 n103 = some r ∧ H = H' ∧ M = M' ∧ [(0, .int .u32 (n102)), (2, .int .i64 (n103))] = L') ?_ (fun J104 => ?_)
 ·rintro _ _ _ ⟨n102, n103, hm, rfl, rfl, rfl⟩
  unfold m_math_bits_Len32_b2 at hm
  refine C_seq_join (fun H' M' L' => ∃ n106 : Int, ∃ n107 : Int, m_math_bits_Len32_b1 n106 n107 = some r ∧ H = H' ∧ M = M' ∧ [(0, .int .u32 (n106)), (2, .int .i64 (n107))] = L') ?_ (fun J108 => ?_)
  ·rintro _ _ _ ⟨n106, n107, hm, rfl, rfl, rfl⟩
   unfold m_math_bits_Len32_b1 at hm
   refine C_seq (C_region ?_)
   refine W_move rfl rfl rfl ?_
   refine W_move rfl rfl rfl ?_
   refine W_convInt rfl rfl runUnderlying80 runUnderlying5 rfl ?_
   obtain ⟨y109, h110, he111, hm⟩ := idx_some hm
   refine W_indexStr rfl rfl runUnderlying9 rfl rfl h110 he111 ?_
   refine W_convInt rfl rfl runUnderlying5 runUnderlying3 rfl ?_
   refine W_bin rfl rfl rfl rfl rfl ?_
   refine W_assign rfl rfl rfl ?_
   refine W_end (E_then (C_ret ?_))
   obtain rfl := Option.some.inj hm
   refine E_weak (Hp.le_refl _) ?_
   exact end1 rfl rfl ⟨rfl, rfl, rfl⟩
  ·refine C_seq (C_region ?_)
   refine W_move rfl rfl rfl ?_
   refine W_bin rfl rfl rfl rfl rfl ?_
   refine W_end (E_then ?_)
   refine C_cond (b := decide (256 ≤ n102)) rfl (fun hb112 => ?_) (fun hb112 => ?_)
   ·have hm := ite_t' hb112 hm
    refine C_seq (C_region ?_)
    refine W_move rfl rfl rfl ?_
    refine W_shr rfl rfl rfl rfl (by decide) ?_
    refine W_assign rfl rfl rfl ?_
    refine W_end (E_then (C_region ?_))
    refine W_move rfl rfl rfl ?_
    refine W_bin rfl rfl rfl rfl rfl ?_
    refine W_assign rfl rfl rfl ?_
    refine W_end ?_
    exact E_keepJ (J108 _ _ _ ⟨shrV .u32 n102 8, IntKind.i64.wrap (n103 + 8), hm, rfl, rfl, rfl⟩) (List.Perm.refl _) ⟨rfl, rfl, trivial⟩
   ·have hm := ite_f' hb112 hm
    refine C_skip ?_
    exact E_keepJ (J108 _ _ _ ⟨n102, n103, hm, rfl, rfl, rfl⟩) (List.Perm.refl _) ⟨rfl, rfl, trivial⟩
 ·refine C_seq (C_region ?_)
  refine W_move rfl rfl rfl ?_
  refine W_bin rfl rfl rfl rfl rfl ?_
  refine W_end (E_then ?_)
  refine C_cond (b := decide (65536 ≤ p0_x)) rfl (fun hb113 => ?_) (fun hb113 => ?_)
  ·have hm := ite_t' hb113 hm
   refine C_seq (C_region ?_)
   refine W_move rfl rfl rfl ?_
   refine W_shr rfl rfl rfl rfl (by decide) ?_
   refine W_assign rfl rfl rfl ?_
   refine W_end (E_then (C_region ?_))
   refine W_assign rfl rfl rfl ?_
   refine W_end ?_
   exact E_keepJ (J104 _ _ _ ⟨shrV .u32 p0_x 16, 16, hm, rfl, rfl, rfl⟩) (List.Perm.refl _) ⟨rfl, rfl, trivial⟩
  ·have hm := ite_f' hb113 hm
   refine C_skip ?_
   exact E_keepJ (J104 _ _ _ ⟨p0_x, 0, hm, rfl, rfl, rfl⟩) (List.Perm.refl _) ⟨rfl, rfl, trivial⟩

theorem m_math_bits_LeadingZeros32_c {B : Nat} {w0 w : World} [Tabs B w0] {H : Hp} {M : List Res} {p0_x : Int} {r : Int} (hm : m_math_bits_LeadingZeros32 p0_x = some r) (ht : St B w0 H (M) w) :
  Calls prog 78 [.int .u32 (p0_x)].toArray w (Ret B w0 fun H' M' v => H = H' ∧ M = M' ∧ .int .i64 (r) = v) := by
 unfold m_math_bits_LeadingZeros32 at hm
 refine enter func78 rfl rfl rfl ht ?_
 refine C_seq (C_region ?_)
 refine W_assign rfl rfl rfl ?_
 refine W_end (E_then (C_seq (C_region ?_)))
 refine W_move rfl rfl rfl ?_
 obtain ⟨r101, hc102, hm⟩ := bind_some hm
 refine W_call call95 rfl rfl rfl (fun w ht => by have h := m_math_bits_Len32_c (hm := hc102)  ht; exact h) ?_
 rintro _ _ _ ⟨rfl, rfl, rfl⟩
 refine W_bin rfl rfl rfl rfl rfl ?_
 refine W_assign rfl rfl rfl ?_
 refine W_end (E_then (C_ret ?_))
 obtain rfl := Option.some.inj hm
 refine E_weak (Hp.le_refl _) ?_
 exact end1 rfl rfl ⟨rfl, rfl, rfl⟩

theorem m_large_shifted_c {B : Nat} {w0 w : World} [Tabs B w0] {H : Hp} {M : List Res} {p0_a : (List U32)} {p1_s : Int} {v0 : Value} {r : (List U32)} (hm : m_large_shifted p0_a p1_s = some r) (h0 : RdS H v0 p0_a) (ht : St B w0 H (M) w) :
  Calls prog 79 [v0, .int .i64 (p1_s)].toArray w (Ret B w0 fun H' M' v => H = H' ∧ ∃ qv0 : Value, ∃ qxs0 : List Value, .row qv0 80 (Rep.sz U32) r.length qxs0 :: M = M' ∧ qv0 = v ∧ RwF qv0 qxs0 r) := by
 unfold m_large_shifted at hm
 refine enter func79 rfl rfl rfl ht ?_
 refine C_seq (C_region ?_)
 refine W_assign rfl rfl rfl ?_
 refine W_end (E_then (C_seq (C_region ?_)))
 refine W_move rfl rfl rfl ?_
 refine W_lenR rfl rfl runUnderlying45 rfl h0 ?_
 refine W_bin rfl rfl rfl rfl rfl ?_
 obtain ⟨hz101, hm⟩ := need_some hm
 refine W_makeSlice (α := U32) (zs := [.int .u32 (0)]) (ze := ⟨0⟩) rfl rfl underlying45 ⟨_, rfl, rfl, rfl, rfl⟩ rfl rfl rfl rfl rfl rfl hz101.1 hz101.2 ?_
 intro v102 xs103 hr104
 refine W_assign rfl rfl rfl ?_
 refine W_end (E_then (C_seq (C_region ?_)))
 refine W_assign rfl rfl rfl ?_
 refine W_end (E_then (C_seq (C_seq (C_region ?_))))
 refine W_move rfl rfl rfl ?_
 refine W_lenR rfl rfl runUnderlying45 rfl h0 ?_
 refine W_move rfl rfl rfl ?_
 refine W_end (E_then (C_block ?_))
 refine C_keep (L' := [(0, v0), (1, .int .i64 (p1_s)), (5, v102), (6, .int .u64 (0)), (13, v0), (14, .int .i64 ((p0_a.length : Int))), (15, .int .i64 (((0 : Nat) : Int)))]) ⟨rfl, rfl, rfl, rfl, rfl, rfl, rfl, trivial⟩ (List.Perm.refl _) ?_
 refine C_loop (fun n H' M' L' => ∃ (k105 : Nat) (zs148' : List U32), ∃ l138 : List U32, ∃ n140 : Int, ∃ xs137 : List Value, (p0_a).drop k105 = zs148' ∧ zs148'.length = n ∧ forI (fun k y s143 n => m_large_shifted_b1 p1_s k y s143.1 s143.2 n) (fun s143 => idx s143.1 (p0_a.length : Int) fun y163 => some (s143.1.set (((p0_a.length : Int) : Int).toNat) ⟨IntKind.u32.wrap (s143.2)⟩)) k105 zs148' (l138, n140) = some r ∧ Rw H' v102 xs137 l138 ∧ H.le H' ∧ .row v102 80 (Rep.sz U32) l138.length xs137 :: M = M' ∧ [(0, v0), (1, .int .i64 (p1_s)), (5, v102), (6, .int .u64 (n140)), (13, v0), (14, .int .i64 ((p0_a.length : Int))), (15, .int .i64 ((k105 : Int)))] = L') _ ⟨0, _, (List.replicate (IntKind.i64.wrap ((p0_a.length : Int) + 1) : Int).toNat (⟨0⟩ : U32)), 0, xs103, rfl, rfl, hm, hr104, (Hp.le_refl _), rfl, rfl⟩ ?_
 rintro _ H141 _ _ ⟨k105, zs148', l138, n140, xs137, hd150, rfl, hm, hr139, hle142, rfl, rfl⟩
 refine C_seq (C_region ?_)
 refine W_bin rfl rfl rfl rfl rfl ?_
 refine W_end (E_then (C_seq ?_))
 refine C_cond (b := decide ((k105 : Int) < (p0_a.length : Int))) rfl (fun hb152 => ?_) (fun hb152 => ?_)
 ·obtain ⟨y147, zs148, rfl, hy149, hd151⟩ := rng_t hd150 hb152
  have hm : m_large_shifted_b1 p1_s k105 y147 l138 n140 (forI (fun k y s143 n => m_large_shifted_b1 p1_s k y s143.1 s143.2 n) (fun s143 => idx s143.1 (p0_a.length : Int) fun y163 => some (s143.1.set (((p0_a.length : Int) : Int).toNat) ⟨IntKind.u32.wrap (s143.2)⟩)) (k105 + 1) zs148) = some r := hm
  generalize hn145 : forI (fun k y s143 n => m_large_shifted_b1 p1_s k y s143.1 s143.2 n) (fun s143 => idx s143.1 (p0_a.length : Int) fun y163 => some (s143.1.set (((p0_a.length : Int) : Int).toNat) ⟨IntKind.u32.wrap (s143.2)⟩)) (k105 + 1) zs148 = nx144 at hm
  unfold m_large_shifted_b1 at hm
  refine C_skip (E_then (C_seq (C_block (C_seq (C_region ?_)))))
  refine W_move rfl rfl rfl ?_
  obtain ⟨_, rfl, hc153⟩ := (h0).elem hy149
  refine W_indexS rfl rfl runUnderlying45 sizeOf80 rfl (h0.mono hle142) rfl (Int.natCast_nonneg _) hy149 ?_
  refine W_load rfl rfl isAgg80 rfl (HCells.one (hc153.mono hle142) 0 rfl).at ?_
  refine W_assign rfl rfl rfl ?_
  refine W_assign rfl rfl rfl ?_
  refine W_end (E_then (C_seq (C_region ?_)))
  refine W_move rfl rfl rfl ?_
  refine W_move rfl rfl rfl ?_
  refine W_convInt rfl rfl runUnderlying80 runUnderlying84 rfl ?_
  refine W_move rfl rfl rfl ?_
  obtain ⟨hq154, hm⟩ := need_some hm
  refine W_shl rfl rfl rfl rfl hq154 ?_
  refine W_bin rfl rfl rfl rfl rfl ?_
  refine W_assign rfl rfl rfl ?_
  refine W_end (E_then (C_seq (C_region ?_)))
  refine W_move rfl rfl rfl ?_
  refine W_move rfl rfl rfl ?_
  refine W_move rfl rfl rfl ?_
  refine W_convInt rfl rfl runUnderlying84 runUnderlying80 rfl ?_
  obtain ⟨y155, h156, he157, hm⟩ := idx_some hm
  refine W_indexO (List.mem_cons_self ..) rfl rfl runUnderlying45 sizeOf80 rfl rfl h156 (List.getElem?_eq_some_iff.1 he157).1 ?_
  obtain ⟨_, rfl, hg158⟩ := (hr139).elem he157
  obtain ⟨hr159, he160, hg161⟩ := Rw.put (cs := [.int .u32 (IntKind.u32.wrap (IntKind.u64.wrap ((BitVec.ofInt (IntKind.u64).bits n140 ||| BitVec.ofInt (IntKind.u64).bits (shlV .u64 (IntKind.u64.wrap (y147.n)) p1_s)).toNat)))]) (o := 0) (c := [.int .u32 (y155.n)]) (out := [.int .u32 (IntKind.u32.wrap (IntKind.u64.wrap ((BitVec.ofInt (IntKind.u64).bits n140 ||| BitVec.ofInt (IntKind.u64).bits (shlV .u64 (IntKind.u64.wrap (y147.n)) p1_s)).toNat)))]) (e2 := ⟨IntKind.u32.wrap (IntKind.u64.wrap ((BitVec.ofInt (IntKind.u64).bits n140 ||| BitVec.ofInt (IntKind.u64).bits (shlV .u64 (IntKind.u64.wrap (y147.n)) p1_s)).toNat))⟩) hr139 he157 rfl hg158 rfl rfl rfl
  refine W_storeO2 (i := ((k105 : Int) : Int).toNat * Rep.sz U32 + 0) (cs := [.int .u32 (IntKind.u32.wrap (IntKind.u64.wrap ((BitVec.ofInt (IntKind.u64).bits n140 ||| BitVec.ofInt (IntKind.u64).bits (shlV .u64 (IntKind.u64.wrap (y147.n)) p1_s)).toNat)))]) rfl sizeOf80 rfl (row_ad0 _ _) rfl rfl rfl (Rw.room hr139 he157 rfl) rfl (all_cons rfl all_nil) (n' := (l138.set (((k105 : Int) : Int).toNat) ⟨IntKind.u32.wrap (IntKind.u64.wrap ((BitVec.ofInt (IntKind.u64).bits n140 ||| BitVec.ofInt (IntKind.u64).bits (shlV .u64 (IntKind.u64.wrap (y147.n)) p1_s)).toNat))⟩).length) List.length_set ?_
  generalize over xs137 (((k105 : Int) : Int).toNat * Rep.sz U32 + 0) [.int .u32 (IntKind.u32.wrap (IntKind.u64.wrap ((BitVec.ofInt (IntKind.u64).bits n140 ||| BitVec.ofInt (IntKind.u64).bits (shlV .u64 (IntKind.u64.wrap (y147.n)) p1_s)).toNat)))] = xs162 at hr159 hg161 ⊢
  refine W_end (E_then (C_region ?_))
  refine W_move rfl rfl rfl ?_
  refine W_shr rfl rfl rfl rfl (by decide) ?_
  refine W_assign rfl rfl rfl ?_
  refine W_end (E_normal_block (E_then (C_region ?_)))
  refine W_bin rfl rfl rfl rfl rfl ?_
  refine W_move rfl rfl rfl ?_
  refine W_end ?_
  exact E_keepJ (E_back (Nat.lt_succ_self _) ⟨k105 + 1, zs148, (l138.set (((k105 : Int) : Int).toNat) ⟨IntKind.u32.wrap (IntKind.u64.wrap ((BitVec.ofInt (IntKind.u64).bits n140 ||| BitVec.ofInt (IntKind.u64).bits (shlV .u64 (IntKind.u64.wrap (y147.n)) p1_s)).toNat))⟩), shrV .u64 (IntKind.u64.wrap ((BitVec.ofInt (IntKind.u64).bits n140 ||| BitVec.ofInt (IntKind.u64).bits (shlV .u64 (IntKind.u64.wrap (y147.n)) p1_s)).toNat)) 32, xs162, hd151, rfl, (by rw [hn145]; exact hm), hr159, hle142, rfl, rfl⟩) (List.Perm.refl _) ⟨rfl, rfl, rfl, rfl, rfl, rfl, (congrArg (fun z => some (Value.int .i64 z)) (i64_succ hy149 ((h0.mono hle142)).lenMax)), trivial⟩
 ·obtain rfl := rng_f hd150 hb152
  have hm : (idx l138 (p0_a.length : Int) fun y163 => some (l138.set (((p0_a.length : Int) : Int).toNat) ⟨IntKind.u32.wrap (n140)⟩)) = some r := hm
  refine C_exit (E_exit_then (E_exit_then (E_exit_hit (E_then (C_seq (C_region ?_))))))
  refine W_move rfl rfl rfl ?_
  refine W_move rfl rfl rfl ?_
  refine W_lenR rfl rfl runUnderlying45 rfl (h0.mono hle142) ?_
  refine W_move rfl rfl rfl ?_
  refine W_convInt rfl rfl runUnderlying84 runUnderlying80 rfl ?_
  obtain ⟨y163, h164, he165, hm⟩ := idx_some hm
  refine W_indexO (List.mem_cons_self ..) rfl rfl runUnderlying45 sizeOf80 rfl rfl h164 (List.getElem?_eq_some_iff.1 he165).1 ?_
  obtain ⟨_, rfl, hg166⟩ := (hr139).elem he165
  obtain ⟨hr167, he168, hg169⟩ := Rw.put (cs := [.int .u32 (IntKind.u32.wrap (n140))]) (o := 0) (c := [.int .u32 (y163.n)]) (out := [.int .u32 (IntKind.u32.wrap (n140))]) (e2 := ⟨IntKind.u32.wrap (n140)⟩) hr139 he165 rfl hg166 rfl rfl rfl
  refine W_storeO2 (i := ((p0_a.length : Int) : Int).toNat * Rep.sz U32 + 0) (cs := [.int .u32 (IntKind.u32.wrap (n140))]) rfl sizeOf80 rfl (row_ad0 _ _) rfl rfl rfl (Rw.room hr139 he165 rfl) rfl (all_cons rfl all_nil) (n' := (l138.set (((p0_a.length : Int) : Int).toNat) ⟨IntKind.u32.wrap (n140)⟩).length) List.length_set ?_
  generalize over xs137 (((p0_a.length : Int) : Int).toNat * Rep.sz U32 + 0) [.int .u32 (IntKind.u32.wrap (n140))] = xs170 at hr167 hg169 ⊢
  refine W_end (E_then (C_seq (C_region ?_)))
  refine W_move rfl rfl rfl ?_
  refine W_assign rfl rfl rfl ?_
  refine W_end (E_then (C_ret ?_))
  obtain rfl := Option.some.inj hm
  refine E_weak hle142 ?_
  exact end1 rfl rfl ⟨rfl, v102, xs170, rfl, rfl, (hr167).toF⟩
end Go.Sim
