/-
  Printed by a program: each Go function computes its model.
-/
import Derived.Test.YthcolhlbmcbdjaaModC
import Derived.Test.YthcolhlbmcbdjaaRows
import Derived.KernelRfl
namespace Go.Sim
open Go
set_option linter.unusedVariables false
set_option linter.unusedSimpArgs false
set_option maxRecDepth 100000
theorem Facts.mixed : Proofs.Try.prog.follows .mixedOrders = true := by kernel_rfl

theorem m_console_forms_c {B : Nat} {w0 w : World} {H : Hp} {M : List Res} {r : S_A8_S_console_form} (hm : m_console_forms = r) (ht : St B w0 H (M) w) :
    Calls Proofs.Try.prog 18 [].toArray w (Ret B w0 fun H' M' v => H = H' ∧ M = M' ∧ .agg [.string (r.a0.verb), .bool (r.a0.name), .bool (r.a0.n), .int .i64 (r.a0.low_), .int .i64 (r.a0.high_), .string (r.a1.verb), .bool (r.a1.name), .bool (r.a1.n), .int .i64 (r.a1.low_), .int .i64 (r.a1.high_), .string (r.a2.verb), .bool (r.a2.name), .bool (r.a2.n), .int .i64 (r.a2.low_), .int .i64 (r.a2.high_), .string (r.a3.verb), .bool (r.a3.name), .bool (r.a3.n), .int .i64 (r.a3.low_), .int .i64 (r.a3.high_), .string (r.a4.verb), .bool (r.a4.name), .bool (r.a4.n), .int .i64 (r.a4.low_), .int .i64 (r.a4.high_), .string (r.a5.verb), .bool (r.a5.name), .bool (r.a5.n), .int .i64 (r.a5.low_), .int .i64 (r.a5.high_), .string (r.a6.verb), .bool (r.a6.name), .bool (r.a6.n), .int .i64 (r.a6.low_), .int .i64 (r.a6.high_), .string (r.a7.verb), .bool (r.a7.name), .bool (r.a7.n), .int .i64 (r.a7.low_), .int .i64 (r.a7.high_)].toArray = v) := by
  unfold m_console_forms at hm
  refine enter Proofs.Try.func18 rfl rfl rfl ht ?_
  refine C_seq ?_
  refine C_region ?_
  refine W_alloc (cs := [.string (⟨#[]⟩), .bool (false), .bool (false), .int .i64 (0), .int .i64 (0), .string (⟨#[]⟩), .bool (false), .bool (false), .int .i64 (0), .int .i64 (0), .string (⟨#[]⟩), .bool (false), .bool (false), .int .i64 (0), .int .i64 (0), .string (⟨#[]⟩), .bool (false), .bool (false), .int .i64 (0), .int .i64 (0), .string (⟨#[]⟩), .bool (false), .bool (false), .int .i64 (0), .int .i64 (0), .string (⟨#[]⟩), .bool (false), .bool (false), .int .i64 (0), .int .i64 (0), .string (⟨#[]⟩), .bool (false), .bool (false), .int .i64 (0), .int .i64 (0), .string (⟨#[]⟩), .bool (false), .bool (false), .int .i64 (0), .int .i64 (0)]) rfl rfl Proofs.Try.zeroValue48 rfl (fun b101 => ?_)
  refine W_end ?_
  refine E_then ?_
  refine C_seq ?_
  refine C_region ?_
  refine W_build (css := [[.string (⟨#[111, 112, 101, 110]⟩)], [.bool (true)]]) (zs := [.string (⟨#[]⟩), .bool (false), .bool (false), .int .i64 (0), .int .i64 (0)]) (out := [.string (⟨#[111, 112, 101, 110]⟩), .bool (true), .bool (false), .int .i64 (0), .int .i64 (0)]) (places := [(0, 1), (1, 1), (2, 1), (3, 1), (4, 1)]) rfl rfl rfl ⟨rfl, rfl, trivial⟩ Proofs.Try.zeroValue47 rfl Proofs.Try.runUnderlying47 (fun w => by kernel_rfl) rfl ?_
  refine W_build (css := [[.string (⟨#[99, 108, 111, 115, 101]⟩)], [.bool (true)]]) (zs := [.string (⟨#[]⟩), .bool (false), .bool (false), .int .i64 (0), .int .i64 (0)]) (out := [.string (⟨#[99, 108, 111, 115, 101]⟩), .bool (true), .bool (false), .int .i64 (0), .int .i64 (0)]) (places := [(0, 1), (1, 1), (2, 1), (3, 1), (4, 1)]) rfl rfl rfl ⟨rfl, rfl, trivial⟩ Proofs.Try.zeroValue47 rfl Proofs.Try.runUnderlying47 (fun w => by kernel_rfl) rfl ?_
  refine W_build (css := [[.string (⟨#[97, 99, 107]⟩)], [.bool (true)]]) (zs := [.string (⟨#[]⟩), .bool (false), .bool (false), .int .i64 (0), .int .i64 (0)]) (out := [.string (⟨#[97, 99, 107]⟩), .bool (true), .bool (false), .int .i64 (0), .int .i64 (0)]) (places := [(0, 1), (1, 1), (2, 1), (3, 1), (4, 1)]) rfl rfl rfl ⟨rfl, rfl, trivial⟩ Proofs.Try.zeroValue47 rfl Proofs.Try.runUnderlying47 (fun w => by kernel_rfl) rfl ?_
  refine W_build (css := [[.string (⟨#[108, 111, 97, 100]⟩)], [.bool (true)], [.bool (true)], [.int .i64 (0)], [.int .i64 (100000)]]) (zs := [.string (⟨#[]⟩), .bool (false), .bool (false), .int .i64 (0), .int .i64 (0)]) (out := [.string (⟨#[108, 111, 97, 100]⟩), .bool (true), .bool (true), .int .i64 (0), .int .i64 (100000)]) (places := [(0, 1), (1, 1), (2, 1), (3, 1), (4, 1)]) rfl rfl rfl ⟨rfl, rfl, rfl, rfl, rfl, trivial⟩ Proofs.Try.zeroValue47 rfl Proofs.Try.runUnderlying47 (fun w => by kernel_rfl) rfl ?_
  refine W_build (css := [[.string (⟨#[103, 101, 110]⟩)], [.bool (true)], [.bool (true)], [.int .i64 (0)], [.int .i64 (100000)]]) (zs := [.string (⟨#[]⟩), .bool (false), .bool (false), .int .i64 (0), .int .i64 (0)]) (out := [.string (⟨#[103, 101, 110]⟩), .bool (true), .bool (true), .int .i64 (0), .int .i64 (100000)]) (places := [(0, 1), (1, 1), (2, 1), (3, 1), (4, 1)]) rfl rfl rfl ⟨rfl, rfl, rfl, rfl, rfl, trivial⟩ Proofs.Try.zeroValue47 rfl Proofs.Try.runUnderlying47 (fun w => by kernel_rfl) rfl ?_
  refine W_build (css := [[.string (⟨#[115, 116, 111, 114, 101]⟩)], [.bool (true)], [.bool (true)], [.int .i64 ((-100000))], [.int .i64 (100000)]]) (zs := [.string (⟨#[]⟩), .bool (false), .bool (false), .int .i64 (0), .int .i64 (0)]) (out := [.string (⟨#[115, 116, 111, 114, 101]⟩), .bool (true), .bool (true), .int .i64 ((-100000)), .int .i64 (100000)]) (places := [(0, 1), (1, 1), (2, 1), (3, 1), (4, 1)]) rfl rfl rfl ⟨rfl, rfl, rfl, rfl, rfl, trivial⟩ Proofs.Try.zeroValue47 rfl Proofs.Try.runUnderlying47 (fun w => by kernel_rfl) rfl ?_
  refine W_build (css := [[.string (⟨#[119, 97, 105, 116]⟩)], [.bool (false)], [.bool (true)], [.int .i64 (0)], [.int .i64 (3600)]]) (zs := [.string (⟨#[]⟩), .bool (false), .bool (false), .int .i64 (0), .int .i64 (0)]) (out := [.string (⟨#[119, 97, 105, 116]⟩), .bool (false), .bool (true), .int .i64 (0), .int .i64 (3600)]) (places := [(0, 1), (1, 1), (2, 1), (3, 1), (4, 1)]) rfl rfl rfl ⟨rfl, rfl, rfl, rfl, rfl, trivial⟩ Proofs.Try.zeroValue47 rfl Proofs.Try.runUnderlying47 (fun w => by kernel_rfl) rfl ?_
  refine W_build (css := [[.string (⟨#[116, 101, 108, 108]⟩)]]) (zs := [.string (⟨#[]⟩), .bool (false), .bool (false), .int .i64 (0), .int .i64 (0)]) (out := [.string (⟨#[116, 101, 108, 108]⟩), .bool (false), .bool (false), .int .i64 (0), .int .i64 (0)]) (places := [(0, 1), (1, 1), (2, 1), (3, 1), (4, 1)]) rfl rfl rfl ⟨rfl, trivial⟩ Proofs.Try.zeroValue47 rfl Proofs.Try.runUnderlying47 (fun w => by kernel_rfl) rfl ?_
  refine W_buildArr (css := [[.string (⟨#[111, 112, 101, 110]⟩), .bool (true), .bool (false), .int .i64 (0), .int .i64 (0)], [.string (⟨#[99, 108, 111, 115, 101]⟩), .bool (true), .bool (false), .int .i64 (0), .int .i64 (0)], [.string (⟨#[97, 99, 107]⟩), .bool (true), .bool (false), .int .i64 (0), .int .i64 (0)], [.string (⟨#[108, 111, 97, 100]⟩), .bool (true), .bool (true), .int .i64 (0), .int .i64 (100000)], [.string (⟨#[103, 101, 110]⟩), .bool (true), .bool (true), .int .i64 (0), .int .i64 (100000)], [.string (⟨#[115, 116, 111, 114, 101]⟩), .bool (true), .bool (true), .int .i64 ((-100000)), .int .i64 (100000)], [.string (⟨#[119, 97, 105, 116]⟩), .bool (false), .bool (true), .int .i64 (0), .int .i64 (3600)], [.string (⟨#[116, 101, 108, 108]⟩), .bool (false), .bool (false), .int .i64 (0), .int .i64 (0)]]) (zs := [.string (⟨#[]⟩), .bool (false), .bool (false), .int .i64 (0), .int .i64 (0), .string (⟨#[]⟩), .bool (false), .bool (false), .int .i64 (0), .int .i64 (0), .string (⟨#[]⟩), .bool (false), .bool (false), .int .i64 (0), .int .i64 (0), .string (⟨#[]⟩), .bool (false), .bool (false), .int .i64 (0), .int .i64 (0), .string (⟨#[]⟩), .bool (false), .bool (false), .int .i64 (0), .int .i64 (0), .string (⟨#[]⟩), .bool (false), .bool (false), .int .i64 (0), .int .i64 (0), .string (⟨#[]⟩), .bool (false), .bool (false), .int .i64 (0), .int .i64 (0), .string (⟨#[]⟩), .bool (false), .bool (false), .int .i64 (0), .int .i64 (0)]) (out := [.string (⟨#[111, 112, 101, 110]⟩), .bool (true), .bool (false), .int .i64 (0), .int .i64 (0), .string (⟨#[99, 108, 111, 115, 101]⟩), .bool (true), .bool (false), .int .i64 (0), .int .i64 (0), .string (⟨#[97, 99, 107]⟩), .bool (true), .bool (false), .int .i64 (0), .int .i64 (0), .string (⟨#[108, 111, 97, 100]⟩), .bool (true), .bool (true), .int .i64 (0), .int .i64 (100000), .string (⟨#[103, 101, 110]⟩), .bool (true), .bool (true), .int .i64 (0), .int .i64 (100000), .string (⟨#[115, 116, 111, 114, 101]⟩), .bool (true), .bool (true), .int .i64 ((-100000)), .int .i64 (100000), .string (⟨#[119, 97, 105, 116]⟩), .bool (false), .bool (true), .int .i64 (0), .int .i64 (3600), .string (⟨#[116, 101, 108, 108]⟩), .bool (false), .bool (false), .int .i64 (0), .int .i64 (0)]) (places := [(0, 5), (5, 5), (10, 5), (15, 5), (20, 5), (25, 5), (30, 5), (35, 5)]) rfl rfl rfl ⟨rfl, rfl, rfl, rfl, rfl, rfl, rfl, rfl, trivial⟩ Proofs.Try.zeroValue48 rfl Proofs.Try.runUnderlying48 Proofs.Try.sizeOf47 rfl (by kernel_rfl) ?_
  refine W_store (cs := [.string (⟨#[111, 112, 101, 110]⟩), .bool (true), .bool (false), .int .i64 (0), .int .i64 (0), .string (⟨#[99, 108, 111, 115, 101]⟩), .bool (true), .bool (false), .int .i64 (0), .int .i64 (0), .string (⟨#[97, 99, 107]⟩), .bool (true), .bool (false), .int .i64 (0), .int .i64 (0), .string (⟨#[108, 111, 97, 100]⟩), .bool (true), .bool (true), .int .i64 (0), .int .i64 (100000), .string (⟨#[103, 101, 110]⟩), .bool (true), .bool (true), .int .i64 (0), .int .i64 (100000), .string (⟨#[115, 116, 111, 114, 101]⟩), .bool (true), .bool (true), .int .i64 ((-100000)), .int .i64 (100000), .string (⟨#[119, 97, 105, 116]⟩), .bool (false), .bool (true), .int .i64 (0), .int .i64 (3600), .string (⟨#[116, 101, 108, 108]⟩), .bool (false), .bool (false), .int .i64 (0), .int .i64 (0)]) (out := [.string (⟨#[111, 112, 101, 110]⟩), .bool (true), .bool (false), .int .i64 (0), .int .i64 (0), .string (⟨#[99, 108, 111, 115, 101]⟩), .bool (true), .bool (false), .int .i64 (0), .int .i64 (0), .string (⟨#[97, 99, 107]⟩), .bool (true), .bool (false), .int .i64 (0), .int .i64 (0), .string (⟨#[108, 111, 97, 100]⟩), .bool (true), .bool (true), .int .i64 (0), .int .i64 (100000), .string (⟨#[103, 101, 110]⟩), .bool (true), .bool (true), .int .i64 (0), .int .i64 (100000), .string (⟨#[115, 116, 111, 114, 101]⟩), .bool (true), .bool (true), .int .i64 ((-100000)), .int .i64 (100000), .string (⟨#[119, 97, 105, 116]⟩), .bool (false), .bool (true), .int .i64 (0), .int .i64 (3600), .string (⟨#[116, 101, 108, 108]⟩), .bool (false), .bool (false), .int .i64 (0), .int .i64 (0)]) rfl Proofs.Try.sizeOf48 rfl rfl rfl rfl rfl (all_cons rfl (all_cons rfl (all_cons rfl (all_cons rfl (all_cons rfl (all_cons rfl (all_cons rfl (all_cons rfl (all_cons rfl (all_cons rfl (all_cons rfl (all_cons rfl (all_cons rfl (all_cons rfl (all_cons rfl (all_cons rfl (all_cons rfl (all_cons rfl (all_cons rfl (all_cons rfl (all_cons rfl (all_cons rfl (all_cons rfl (all_cons rfl (all_cons rfl (all_cons rfl (all_cons rfl (all_cons rfl (all_cons rfl (all_cons rfl (all_cons rfl (all_cons rfl (all_cons rfl (all_cons rfl (all_cons rfl (all_cons rfl (all_cons rfl (all_cons rfl (all_cons rfl (all_cons rfl all_nil)))))))))))))))))))))))))))))))))))))))) (over_all rfl) ?_
  refine W_end ?_
  refine E_then ?_
  refine C_ret ?_
  obtain rfl := hm
  exact endC1 (Hp.le_refl _) rfl (ResV.agg rfl Proofs.Try.isAgg48 Proofs.Try.sizeOf48 (List.mem_cons_self ..) rfl) (List.Sublist.cons _ (List.Sublist.refl _)) (List.Perm.refl _) ⟨rfl, rfl, rfl⟩

theorem m_internal_stringslite_HasPrefix_c {B : Nat} {w0 w : World} {H : Hp} {M : List Res} {p0_s : ByteArray} {p1_prefix : ByteArray} {r : Bool} (hm : m_internal_stringslite_HasPrefix p0_s p1_prefix = some r) (ht : St B w0 H (M) w) :
    Calls Proofs.Try.prog 21 [.string (p0_s), .string (p1_prefix)].toArray w (Ret B w0 fun H' M' v => H = H' ∧ M = M' ∧ .bool (r) = v) := by
  unfold m_internal_stringslite_HasPrefix at hm
  refine enter Proofs.Try.func21 rfl rfl rfl ht ?_
  refine C_seq ?_
  refine C_region ?_
  refine W_assign rfl rfl rfl ?_
  refine W_end ?_
  refine E_then ?_
  refine C_seq ?_
  refine C_region ?_
  refine W_move rfl rfl rfl ?_
  refine W_lenStr rfl rfl Proofs.Try.runUnderlying9 rfl ?_
  refine W_move rfl rfl rfl ?_
  refine W_lenStr rfl rfl Proofs.Try.runUnderlying9 rfl ?_
  refine W_bin rfl rfl rfl rfl rfl ?_
  refine W_move rfl rfl rfl ?_
  cases hb101 : (decide ((p1_prefix.size : Int) ≤ (p0_s.size : Int)))
  · have hm := ite_f' hb101 hm
    refine W_no rfl rfl rfl ?_
    refine W_no rfl rfl rfl ?_
    refine W_no rfl rfl rfl ?_
    refine W_no rfl rfl rfl ?_
    refine W_no rfl rfl rfl ?_
    refine W_no rfl rfl rfl ?_
    refine W_pick rfl rfl rfl rfl ?_
    refine W_assign rfl rfl rfl ?_
    refine W_end ?_
    refine E_then ?_
    refine C_ret ?_
    obtain rfl := Option.some.inj hm
    refine E_weak (Hp.le_refl _) ?_
    exact end1 rfl rfl ⟨rfl, rfl, rfl⟩
  · have hm := ite_t' hb101 hm
    refine W_move rfl rfl rfl ?_
    refine W_move rfl rfl rfl ?_
    refine W_lenStr rfl rfl Proofs.Try.runUnderlying9 rfl ?_
    obtain ⟨hz102, hm⟩ := need_some hm
    refine W_sliceStr (l := 0) (h := ((p1_prefix.size : Int) : Int).toNat) rfl rfl Proofs.Try.runUnderlying9 rfl (.inr ⟨_, _, _, rfl, rfl, by omega, by omega, rfl⟩) (.inl ⟨rfl, rfl⟩) ?_
    refine W_move rfl rfl rfl ?_
    refine W_bin rfl rfl rfl rfl rfl ?_
    refine W_pick rfl rfl rfl rfl ?_
    refine W_assign rfl rfl rfl ?_
    refine W_end ?_
    refine E_then ?_
    refine C_ret ?_
    obtain rfl := Option.some.inj hm
    refine E_weak (Hp.le_refl _) ?_
    exact end1 rfl rfl ⟨rfl, rfl, rfl⟩

theorem m_strings_HasPrefix_c {B : Nat} {w0 w : World} {H : Hp} {M : List Res} {p0_s : ByteArray} {p1_prefix : ByteArray} {r : Bool} (hm : m_strings_HasPrefix p0_s p1_prefix = some r) (ht : St B w0 H (M) w) :
    Calls Proofs.Try.prog 8 [.string (p0_s), .string (p1_prefix)].toArray w (Ret B w0 fun H' M' v => H = H' ∧ M = M' ∧ .bool (r) = v) := by
  unfold m_strings_HasPrefix at hm
  refine enter Proofs.Try.func8 rfl rfl rfl ht ?_
  refine C_seq ?_
  refine C_region ?_
  refine W_assign rfl rfl rfl ?_
  refine W_end ?_
  refine E_then ?_
  refine C_seq ?_
  refine C_region ?_
  refine W_move rfl rfl rfl ?_
  refine W_move rfl rfl rfl ?_
  obtain ⟨r101, hc102, hm⟩ := bind_some hm
  refine W_call Proofs.Try.call21 rfl rfl rfl (fun w ht => by have h := m_internal_stringslite_HasPrefix_c (hm := hc102)  ht; exact h) ?_
  rintro _ _ _ ⟨rfl, rfl, rfl⟩
  refine W_assign rfl rfl rfl ?_
  refine W_end ?_
  refine E_then ?_
  refine C_ret ?_
  obtain rfl := Option.some.inj hm
  refine E_weak (Hp.le_refl _) ?_
  exact end1 rfl rfl ⟨rfl, rfl, rfl⟩

theorem m_math_bits_Len64_c {B : Nat} {w0 w : World} {H : Hp} {M : List Res} {p0_x : Int} {r : Int} (hm : m_math_bits_Len64 p0_x = some r) (ht : St B w0 H (M) w) :
    Calls Proofs.Try.prog 44 [.int .u64 (p0_x)].toArray w (Ret B w0 fun H' M' v => H = H' ∧ M = M' ∧ .int .i64 (r) = v) := by
  unfold m_math_bits_Len64 at hm
  refine enter Proofs.Try.func44 rfl rfl rfl ht ?_
  refine C_seq ?_
  refine C_region ?_
  refine W_assign rfl rfl rfl ?_
  refine W_end ?_
  refine E_then ?_
  refine C_seq_join (fun H' M' L' => ∃ n102 : Int, ∃ n103 : Int, m_math_bits_Len64_b3 n102 n103 = some r ∧ H = H' ∧ M = M' ∧ [(0, .int .u64 (n102)), (2, .int .i64 (n103))] = L') ?_ (fun J104 => ?_)
  · rintro _ _ _ ⟨n102, n103, hm, rfl, rfl, rfl⟩
    unfold m_math_bits_Len64_b3 at hm
    refine C_seq_join (fun H' M' L' => ∃ n106 : Int, ∃ n107 : Int, m_math_bits_Len64_b2 n106 n107 = some r ∧ H = H' ∧ M = M' ∧ [(0, .int .u64 (n106)), (2, .int .i64 (n107))] = L') ?_ (fun J108 => ?_)
    · rintro _ _ _ ⟨n106, n107, hm, rfl, rfl, rfl⟩
      unfold m_math_bits_Len64_b2 at hm
      refine C_seq_join (fun H' M' L' => ∃ n110 : Int, ∃ n111 : Int, m_math_bits_Len64_b1 n110 n111 = some r ∧ H = H' ∧ M = M' ∧ [(0, .int .u64 (n110)), (2, .int .i64 (n111))] = L') ?_ (fun J112 => ?_)
      · rintro _ _ _ ⟨n110, n111, hm, rfl, rfl, rfl⟩
        unfold m_math_bits_Len64_b1 at hm
        refine C_seq ?_
        refine C_region ?_
        refine W_move rfl rfl rfl ?_
        refine W_move rfl rfl rfl ?_
        refine W_convInt rfl rfl Proofs.Try.runUnderlying78 Proofs.Try.runUnderlying5 rfl ?_
        obtain ⟨y113, h114, he115, hm⟩ := idx_some hm
        refine W_indexStr rfl rfl Proofs.Try.runUnderlying9 rfl rfl h114 he115 ?_
        refine W_convInt rfl rfl Proofs.Try.runUnderlying5 Proofs.Try.runUnderlying3 rfl ?_
        refine W_bin rfl rfl rfl rfl rfl ?_
        refine W_assign rfl rfl rfl ?_
        refine W_end ?_
        refine E_then ?_
        refine C_ret ?_
        obtain rfl := Option.some.inj hm
        refine E_weak (Hp.le_refl _) ?_
        exact end1 rfl rfl ⟨rfl, rfl, rfl⟩
      · refine C_seq ?_
        refine C_region ?_
        refine W_move rfl rfl rfl ?_
        refine W_bin rfl rfl rfl rfl rfl ?_
        refine W_end ?_
        refine E_then ?_
        refine C_cond (b := decide (256 ≤ n106)) rfl (fun hb116 => ?_) (fun hb116 => ?_)
        · have hm := ite_t' hb116 hm
          refine C_seq ?_
          refine C_region ?_
          refine W_move rfl rfl rfl ?_
          refine W_shr rfl rfl rfl rfl (by decide) ?_
          refine W_assign rfl rfl rfl ?_
          refine W_end ?_
          refine E_then ?_
          refine C_region ?_
          refine W_move rfl rfl rfl ?_
          refine W_bin rfl rfl rfl rfl rfl ?_
          refine W_assign rfl rfl rfl ?_
          refine W_end ?_
          exact E_keepJ (J112 _ _ _ ⟨shrV .u64 n106 8, IntKind.i64.wrap (n107 + 8), hm, rfl, rfl, rfl⟩) (List.Perm.refl _) ⟨rfl, rfl, trivial⟩
        · have hm := ite_f' hb116 hm
          refine C_skip ?_
          exact E_keepJ (J112 _ _ _ ⟨n106, n107, hm, rfl, rfl, rfl⟩) (List.Perm.refl _) ⟨rfl, rfl, trivial⟩
    · refine C_seq ?_
      refine C_region ?_
      refine W_move rfl rfl rfl ?_
      refine W_bin rfl rfl rfl rfl rfl ?_
      refine W_end ?_
      refine E_then ?_
      refine C_cond (b := decide (65536 ≤ n102)) rfl (fun hb117 => ?_) (fun hb117 => ?_)
      · have hm := ite_t' hb117 hm
        refine C_seq ?_
        refine C_region ?_
        refine W_move rfl rfl rfl ?_
        refine W_shr rfl rfl rfl rfl (by decide) ?_
        refine W_assign rfl rfl rfl ?_
        refine W_end ?_
        refine E_then ?_
        refine C_region ?_
        refine W_move rfl rfl rfl ?_
        refine W_bin rfl rfl rfl rfl rfl ?_
        refine W_assign rfl rfl rfl ?_
        refine W_end ?_
        exact E_keepJ (J108 _ _ _ ⟨shrV .u64 n102 16, IntKind.i64.wrap (n103 + 16), hm, rfl, rfl, rfl⟩) (List.Perm.refl _) ⟨rfl, rfl, trivial⟩
      · have hm := ite_f' hb117 hm
        refine C_skip ?_
        exact E_keepJ (J108 _ _ _ ⟨n102, n103, hm, rfl, rfl, rfl⟩) (List.Perm.refl _) ⟨rfl, rfl, trivial⟩
  · refine C_seq ?_
    refine C_region ?_
    refine W_move rfl rfl rfl ?_
    refine W_bin rfl rfl rfl rfl rfl ?_
    refine W_end ?_
    refine E_then ?_
    refine C_cond (b := decide (4294967296 ≤ p0_x)) rfl (fun hb118 => ?_) (fun hb118 => ?_)
    · have hm := ite_t' hb118 hm
      refine C_seq ?_
      refine C_region ?_
      refine W_move rfl rfl rfl ?_
      refine W_shr rfl rfl rfl rfl (by decide) ?_
      refine W_assign rfl rfl rfl ?_
      refine W_end ?_
      refine E_then ?_
      refine C_region ?_
      refine W_assign rfl rfl rfl ?_
      refine W_end ?_
      exact E_keepJ (J104 _ _ _ ⟨shrV .u64 p0_x 32, 32, hm, rfl, rfl, rfl⟩) (List.Perm.refl _) ⟨rfl, rfl, trivial⟩
    · have hm := ite_f' hb118 hm
      refine C_skip ?_
      exact E_keepJ (J104 _ _ _ ⟨p0_x, 0, hm, rfl, rfl, rfl⟩) (List.Perm.refl _) ⟨rfl, rfl, trivial⟩

theorem m_math_bits_Len_c {B : Nat} {w0 w : World} {H : Hp} {M : List Res} {p0_x : Int} {r : Int} (hm : m_math_bits_Len p0_x = some r) (ht : St B w0 H (M) w) :
    Calls Proofs.Try.prog 28 [.int .u64 (p0_x)].toArray w (Ret B w0 fun H' M' v => H = H' ∧ M = M' ∧ .int .i64 (r) = v) := by
  unfold m_math_bits_Len at hm
  refine enter Proofs.Try.func28 rfl rfl rfl ht ?_
  refine C_seq ?_
  refine C_region ?_
  refine W_assign rfl rfl rfl ?_
  refine W_end ?_
  refine E_then ?_
  refine C_seq ?_
  refine C_cond (b := false) rfl (fun hb => Bool.noConfusion hb) (fun _ => ?_)
  refine C_skip ?_
  refine E_then ?_
  refine C_seq ?_
  refine C_region ?_
  refine W_move rfl rfl rfl ?_
  obtain ⟨r101, hc102, hm⟩ := bind_some hm
  refine W_call Proofs.Try.call44 rfl rfl rfl (fun w ht => by have h := m_math_bits_Len64_c (hm := hc102)  ht; exact h) ?_
  rintro _ _ _ ⟨rfl, rfl, rfl⟩
  refine W_assign rfl rfl rfl ?_
  refine W_end ?_
  refine E_then ?_
  refine C_ret ?_
  obtain rfl := Option.some.inj hm
  refine E_weak (Hp.le_refl _) ?_
  exact end1 rfl rfl ⟨rfl, rfl, rfl⟩

theorem m_cmp_isNaN_string_c {B : Nat} {w0 w : World} {H : Hp} {M : List Res} {p0_x : ByteArray} {r : Bool} (hm : m_cmp_isNaN_string p0_x = r) (ht : St B w0 H (M) w) :
    Calls Proofs.Try.prog 29 [.string (p0_x)].toArray w (Ret B w0 fun H' M' v => H = H' ∧ M = M' ∧ .bool (r) = v) := by
  unfold m_cmp_isNaN_string at hm
  refine enter Proofs.Try.func29 rfl rfl rfl ht ?_
  refine C_seq ?_
  refine C_region ?_
  refine W_assign rfl rfl rfl ?_
  refine W_end ?_
  refine E_then ?_
  refine C_seq ?_
  refine C_region ?_
  refine W_move rfl rfl rfl ?_
  refine W_move rfl rfl rfl ?_
  refine W_bin rfl rfl rfl rfl rfl ?_
  refine W_assign rfl rfl rfl ?_
  refine W_end ?_
  refine E_then ?_
  refine C_ret ?_
  obtain rfl := hm
  refine E_weak (Hp.le_refl _) ?_
  exact end1 rfl rfl ⟨rfl, rfl, rfl⟩

theorem m_cmp_Less_string_c {B : Nat} {w0 w : World} {H : Hp} {M : List Res} {p0_x : ByteArray} {p1_y : ByteArray} {r : Bool} (hm : m_cmp_Less_string p0_x p1_y = r) (ht : St B w0 H (M) w) :
    Calls Proofs.Try.prog 20 [.string (p0_x), .string (p1_y)].toArray w (Ret B w0 fun H' M' v => H = H' ∧ M = M' ∧ .bool (r) = v) := by
  unfold m_cmp_Less_string at hm
  refine enter Proofs.Try.func20 rfl rfl rfl ht ?_
  refine C_seq ?_
  refine C_region ?_
  refine W_assign rfl rfl rfl ?_
  refine W_end ?_
  refine E_then ?_
  refine C_seq_join (fun H' M' L' => H = H' ∧ M = M' ∧ [(4, .bool (((m_cmp_isNaN_string p0_x) && (!(m_cmp_isNaN_string p1_y))) || (ltS p0_x p1_y)))] = L') ?_ (fun J103 => ?_)
  · rintro _ _ _ ⟨rfl, rfl, rfl⟩
    refine C_ret ?_
    obtain rfl := hm
    refine E_weak (Hp.le_refl _) ?_
    exact end1 rfl rfl ⟨rfl, rfl, rfl⟩
  · refine C_region ?_
    refine W_move rfl rfl rfl ?_
    refine W_call Proofs.Try.call29 rfl rfl rfl (fun w ht => by have h := m_cmp_isNaN_string_c (hm := (rfl : m_cmp_isNaN_string p0_x = _))  ht; exact h) ?_
    rintro _ _ _ ⟨rfl, rfl, rfl⟩
    refine W_move rfl rfl rfl ?_
    cases hb104 : ((m_cmp_isNaN_string p0_x))
    · refine W_no rfl rfl rfl ?_
      refine W_no rfl rfl rfl ?_
      refine W_no rfl rfl rfl ?_
      refine W_pick rfl rfl rfl rfl ?_
      refine W_move rfl rfl rfl ?_
      refine W_move rfl rfl rfl ?_
      refine W_move rfl rfl rfl ?_
      refine W_cmpS rfl rfl rfl rfl (.inl ⟨rfl, rfl⟩) ?_
      refine W_pick rfl rfl rfl rfl ?_
      refine W_assign rfl rfl rfl ?_
      refine W_end ?_
      exact E_keepJ (J103 _ _ _ ⟨rfl, rfl, rfl⟩) (List.Perm.refl _) ⟨(by show some (Value.bool (ltS p0_x p1_y)) = some (Value.bool (((m_cmp_isNaN_string p0_x) && (!(m_cmp_isNaN_string p1_y))) || (ltS p0_x p1_y))); simp only [hb104, Bool.and_true, Bool.true_and, Bool.false_and, Bool.and_false, Bool.or_true, Bool.true_or, Bool.or_false, Bool.false_or, Bool.not_true, Bool.not_false]), trivial⟩
    · refine W_move rfl rfl rfl ?_
      refine W_call Proofs.Try.call29 rfl rfl rfl (fun w ht => by have h := m_cmp_isNaN_string_c (hm := (rfl : m_cmp_isNaN_string p1_y = _))  ht; exact h) ?_
      rintro _ _ _ ⟨rfl, rfl, rfl⟩
      refine W_un rfl rfl rfl rfl ?_
      refine W_pick rfl rfl rfl rfl ?_
      refine W_move rfl rfl rfl ?_
      cases hb105 : (m_cmp_isNaN_string p1_y)
      · refine W_no rfl rfl rfl ?_
        refine W_no rfl rfl rfl ?_
        refine W_no rfl rfl rfl ?_
        refine W_pick rfl rfl rfl rfl ?_
        refine W_assign rfl rfl rfl ?_
        refine W_end ?_
        exact E_keepJ (J103 _ _ _ ⟨rfl, rfl, rfl⟩) (List.Perm.refl _) ⟨(by show some (Value.bool (true)) = some (Value.bool (((m_cmp_isNaN_string p0_x) && (!(m_cmp_isNaN_string p1_y))) || (ltS p0_x p1_y))); simp only [hb104, hb105, Bool.and_true, Bool.true_and, Bool.false_and, Bool.and_false, Bool.or_true, Bool.true_or, Bool.or_false, Bool.false_or, Bool.not_true, Bool.not_false]), trivial⟩
      · refine W_move rfl rfl rfl ?_
        refine W_move rfl rfl rfl ?_
        refine W_cmpS rfl rfl rfl rfl (.inl ⟨rfl, rfl⟩) ?_
        refine W_pick rfl rfl rfl rfl ?_
        refine W_assign rfl rfl rfl ?_
        refine W_end ?_
        exact E_keepJ (J103 _ _ _ ⟨rfl, rfl, rfl⟩) (List.Perm.refl _) ⟨(by show some (Value.bool (ltS p0_x p1_y)) = some (Value.bool (((m_cmp_isNaN_string p0_x) && (!(m_cmp_isNaN_string p1_y))) || (ltS p0_x p1_y))); simp only [hb104, hb105, Bool.and_true, Bool.true_and, Bool.false_and, Bool.and_false, Bool.or_true, Bool.true_or, Bool.or_false, Bool.false_or, Bool.not_true, Bool.not_false]), trivial⟩

theorem m_slices_insertionSortOrdered_string_c {B : Nat} {w0 w : World} {H : Hp} {M : List Res} {data : (List ByteArray)} {p1_a : Int} {p2_b : Int} {v0 : Value} {xs0 : List Value} {r : (List ByteArray)} (hm : m_slices_insertionSortOrdered_string data p1_a p2_b = some r) (h0 : Rw H v0 xs0 data) (ht : St B w0 H (.row v0 9 (Rep.sz ByteArray) data.length xs0 :: M) w) :
    Calls Proofs.Try.prog 35 [v0, .int .i64 (p1_a), .int .i64 (p2_b)].toArray w (Ret B w0 fun H' M' v => H = H' ∧ ∃ qxs0 : List Value, .row v0 9 (Rep.sz ByteArray) r.length qxs0 :: M = M' ∧ .tuple #[] = v ∧ RwF v0 qxs0 r) := by
  unfold m_slices_insertionSortOrdered_string at hm
  refine enter Proofs.Try.func35 rfl rfl rfl ht ?_
  refine C_seq ?_
  refine C_region ?_
  refine W_move rfl rfl rfl ?_
  refine W_bin rfl rfl rfl rfl rfl ?_
  refine W_assign rfl rfl rfl ?_
  refine W_end ?_
  refine E_then ?_
  refine C_block ?_
  refine C_keep (L' := [(0, v0), (1, .int .i64 (p1_a)), (2, .int .i64 (p2_b)), (6, .int .i64 (IntKind.i64.wrap (p1_a + 1)))]) ⟨rfl, rfl, rfl, rfl, trivial⟩ (List.Perm.refl _) ?_
  refine C_loop (fun n H' M' L' => ∃ l443 : List ByteArray, ∃ n445 : Int, ∃ xs442 : List Value, loopF (fun s448 n => m_slices_insertionSortOrdered_string_b3 p1_a p2_b s448.1 s448.2 n) n (l443, n445) = some r ∧ Rw H' v0 xs442 l443 ∧ H.le H' ∧ .row v0 9 (Rep.sz ByteArray) l443.length xs442 :: M = M' ∧ [(0, v0), (1, .int .i64 (p1_a)), (2, .int .i64 (p2_b)), (6, .int .i64 (n445))] = L') FUEL ⟨data, IntKind.i64.wrap (p1_a + 1), xs0, hm, h0, (Hp.le_refl _), rfl, rfl⟩ ?_
  rintro n451 H446 _ _ ⟨l443, n445, xs442, hm, hr444, hle447, rfl, rfl⟩
  cases n451 with
  | zero => cases hm
  | succ n451 =>
    have hm : m_slices_insertionSortOrdered_string_b3 p1_a p2_b l443 n445 (loopF (fun s448 n => m_slices_insertionSortOrdered_string_b3 p1_a p2_b s448.1 s448.2 n) n451) = some r := hm
    generalize hn450 : loopF (fun s448 n => m_slices_insertionSortOrdered_string_b3 p1_a p2_b s448.1 s448.2 n) n451 = nx449 at hm
    unfold m_slices_insertionSortOrdered_string_b3 at hm
    refine C_seq ?_
    refine C_seq ?_
    refine C_region ?_
    refine W_move rfl rfl rfl ?_
    refine W_move rfl rfl rfl ?_
    refine W_bin rfl rfl rfl rfl rfl ?_
    refine W_end ?_
    refine E_then ?_
    refine C_cond (b := decide (n445 < p2_b)) rfl (fun hb457 => ?_) (fun hb457 => ?_)
    · have hm := ite_t' hb457 hm
      refine C_skip ?_
      refine E_then ?_
      refine C_seq ?_
      refine C_block ?_
      refine C_seq ?_
      refine C_region ?_
      refine W_move rfl rfl rfl ?_
      refine W_assign rfl rfl rfl ?_
      refine W_end ?_
      refine E_then ?_
      refine C_block ?_
      refine C_keep (L' := [(0, v0), (1, .int .i64 (p1_a)), (2, .int .i64 (p2_b)), (6, .int .i64 (n445)), (7, .int .i64 (n445))]) ⟨rfl, rfl, rfl, rfl, rfl, trivial⟩ (List.Perm.refl _) ?_
      refine C_loop (fun n H' M' L' => ∃ l562 : List ByteArray, ∃ n564 : Int, ∃ xs561 : List Value, loopF (fun s567 n => m_slices_insertionSortOrdered_string_b4 p1_a n445 nx449 s567.1 s567.2 n) n (l562, n564) = some r ∧ Rw H' v0 xs561 l562 ∧ H446.le H' ∧ .row v0 9 (Rep.sz ByteArray) l562.length xs561 :: M = M' ∧ [(0, v0), (1, .int .i64 (p1_a)), (2, .int .i64 (p2_b)), (6, .int .i64 (n445)), (7, .int .i64 (n564))] = L') FUEL ⟨l443, n445, xs442, hm, hr444, (Hp.le_refl _), rfl, rfl⟩ ?_
      rintro n570 H565 _ _ ⟨l562, n564, xs561, hm, hr563, hle566, rfl, rfl⟩
      cases n570 with
      | zero => cases hm
      | succ n570 =>
        have hm : m_slices_insertionSortOrdered_string_b4 p1_a n445 nx449 l562 n564 (loopF (fun s567 n => m_slices_insertionSortOrdered_string_b4 p1_a n445 nx449 s567.1 s567.2 n) n570) = some r := hm
        generalize hn569 : loopF (fun s567 n => m_slices_insertionSortOrdered_string_b4 p1_a n445 nx449 s567.1 s567.2 n) n570 = nx568 at hm
        unfold m_slices_insertionSortOrdered_string_b4 at hm
        refine C_seq ?_
        refine C_seq ?_
        cases hb576 : (decide (p1_a < n564))
        · have hm := ite_f' hb576 hm
          refine C_region_tok0 13 (phiT [(fun H rs v => [] = rs ∧ .int .i64 (n564) = v), (fun H rs v => [] = rs ∧ .int .i64 (p1_a) = v), (fun H rs v => [] = rs ∧ .bool (false) = v), (fun H rs v => [] = rs ∧ .bool (false) = v), (fun H rs v => [] = rs ∧ undef = v), (fun H rs v => [] = rs ∧ undef = v), (fun H rs v => [] = rs ∧ undef = v), (fun H rs v => [] = rs ∧ undef = v), (fun H rs v => [] = rs ∧ undef = v), (fun H rs v => [] = rs ∧ undef = v), (fun H rs v => [] = rs ∧ undef = v), (fun H rs v => [] = rs ∧ undef = v), (fun H rs v => [] = rs ∧ undef = v)]) [[], [], [], [], [], [], [], [], [], [], [], [], []] [[], [], [], [], [], [], [], [], [], [], [], [], []] [] [0, 1, 2, 3, 4, 5, 6, 7, 8, 9, 10, 11, 12] Facts.mixed (by kernel_rfl) rfl rfl rfl (by kernel_rfl) (phiT_mono ⟨eq_monoT _ _, eq_monoT _ _, eq_monoT _ _, eq_monoT _ _, eq_monoT _ _, eq_monoT _ _, eq_monoT _ _, eq_monoT _ _, eq_monoT _ _, eq_monoT _ _, eq_monoT _ _, eq_monoT _ _, eq_monoT _ _, trivial⟩) ⟨?_, ?_, ?_, ?_, ?_, ?_, ?_, ?_, ?_, ?_, ?_, ?_, ?_, trivial⟩ ?_
          · intro HX hX X Rest hR
            intro hU
            refine W_move rfl rfl rfl ?_
            exact W_end (OneT_end [] (Hp.le_refl _) ⟨rfl, rfl⟩)
          · intro HX hX X Rest hR
            intro hU
            refine W_move rfl rfl rfl ?_
            exact W_end (OneT_end [] (Hp.le_refl _) ⟨rfl, rfl⟩)
          · intro HX hX X Rest hR
            rintro _ _ ⟨rfl, rfl⟩
            rintro _ _ ⟨rfl, rfl⟩
            intro hU
            refine W_bin rfl rfl rfl rfl rfl ?_
            exact W_end (OneT_end [] (Hp.le_refl _) ⟨rfl, (by rw [hb576]; try rfl)⟩)
          · intro HX hX X Rest hR
            rintro _ _ ⟨rfl, rfl⟩
            intro hU
            refine W_move rfl rfl rfl ?_
            exact W_end (OneT_end [] (Hp.le_refl _) ⟨rfl, rfl⟩)
          · intro HX hX X Rest hR
            rintro _ _ ⟨rfl, rfl⟩
            intro hU
            refine W_no rfl rfl rfl ?_
            exact W_end (OneT_end [] (Hp.le_refl _) ⟨rfl, rfl⟩)
          · intro HX hX X Rest hR
            rintro _ _ ⟨rfl, rfl⟩
            intro hU
            refine W_no rfl rfl rfl ?_
            exact W_end (OneT_end [] (Hp.le_refl _) ⟨rfl, rfl⟩)
          · intro HX hX X Rest hR
            rintro _ _ ⟨rfl, rfl⟩
            rintro _ _ ⟨rfl, rfl⟩
            rintro _ _ ⟨rfl, rfl⟩
            intro hU
            refine W_no rfl rfl rfl ?_
            exact W_end (OneT_end [] (Hp.le_refl _) ⟨rfl, rfl⟩)
          · intro HX hX X Rest hR
            rintro _ _ ⟨rfl, rfl⟩
            rintro _ _ ⟨rfl, rfl⟩
            intro hU
            refine W_no rfl rfl rfl ?_
            exact W_end (OneT_end [] (Hp.le_refl _) ⟨rfl, rfl⟩)
          · intro HX hX X Rest hR
            rintro _ _ ⟨rfl, rfl⟩
            intro hU
            refine W_no rfl rfl rfl ?_
            exact W_end (OneT_end [] (Hp.le_refl _) ⟨rfl, rfl⟩)
          · intro HX hX X Rest hR
            rintro _ _ ⟨rfl, rfl⟩
            intro hU
            refine W_no rfl rfl rfl ?_
            exact W_end (OneT_end [] (Hp.le_refl _) ⟨rfl, rfl⟩)
          · intro HX hX X Rest hR
            rintro _ _ ⟨rfl, rfl⟩
            rintro _ _ ⟨rfl, rfl⟩
            intro hU
            refine W_no rfl rfl rfl ?_
            exact W_end (OneT_end [] (Hp.le_refl _) ⟨rfl, rfl⟩)
          · intro HX hX X Rest hR
            rintro _ _ ⟨rfl, rfl⟩
            rintro _ _ ⟨rfl, rfl⟩
            rintro _ _ ⟨rfl, rfl⟩
            intro hU
            refine W_no rfl rfl rfl ?_
            exact W_end (OneT_end [] (Hp.le_refl _) ⟨rfl, rfl⟩)
          · intro HX hX X Rest hR
            rintro _ _ ⟨rfl, rfl⟩
            rintro _ _ ⟨rfl, rfl⟩
            intro hU
            refine W_no rfl rfl rfl ?_
            exact W_end (OneT_end [] (Hp.le_refl _) ⟨rfl, rfl⟩)
          intro H577 hle578
          rintro _ _ ⟨rfl, rfl⟩
          rintro _ _ ⟨rfl, rfl⟩
          rintro _ _ ⟨rfl, rfl⟩
          rintro _ _ ⟨rfl, rfl⟩
          rintro _ _ ⟨rfl, rfl⟩
          rintro _ _ ⟨rfl, rfl⟩
          rintro _ _ ⟨rfl, rfl⟩
          rintro _ _ ⟨rfl, rfl⟩
          rintro _ _ ⟨rfl, rfl⟩
          rintro _ _ ⟨rfl, rfl⟩
          rintro _ _ ⟨rfl, rfl⟩
          rintro _ _ ⟨rfl, rfl⟩
          rintro _ _ ⟨rfl, rfl⟩
          refine W_no rfl rfl rfl ?_
          refine W_pick rfl rfl rfl rfl ?_
          refine W_end ?_
          refine E_then ?_
          refine C_cond (b := false) rfl (fun hb => Bool.noConfusion hb) (fun _ => ?_)
          refine C_exit ?_
          refine E_exit_then ?_
          refine E_exit_then ?_
          refine E_exit_hit ?_
          refine E_normal_block ?_
          refine E_then ?_
          refine C_region ?_
          refine W_move rfl rfl rfl ?_
          refine W_bin rfl rfl rfl rfl rfl ?_
          refine W_assign rfl rfl rfl ?_
          refine W_end ?_
          exact E_keepJ (E_back (Nat.lt_succ_self _) ⟨l562, IntKind.i64.wrap (n445 + 1), xs561, (by rw [hn450]; exact hm), (hr563.mono hle578), (Hp.le_trans (Hp.le_trans hle447 hle566) hle578), rfl, rfl⟩) (List.Perm.refl _) ⟨rfl, rfl, rfl, rfl, trivial⟩
        · have hm := ite_t' hb576 hm
          obtain ⟨y579, h580, he581, hm⟩ := idx_some hm
          obtain ⟨_, rfl, hg582⟩ := (hr563).elem he581
          obtain ⟨y583, h584, he585, hm⟩ := idx_some hm
          obtain ⟨_, rfl, hg586⟩ := (hr563).elem he585
          refine C_region_tok0 13 (phiT [(fun H rs v => [] = rs ∧ .int .i64 (n564) = v), (fun H rs v => [] = rs ∧ .int .i64 (p1_a) = v), (fun H rs v => [] = rs ∧ .bool (true) = v), (fun H rs v => [] = rs ∧ .bool (true) = v), (fun H rs v => [] = rs ∧ v0 = v), (fun H rs v => [] = rs ∧ .int .i64 (n564) = v), (fun H rs v => [] = rs ∧ .pointer (some ((Value.base (v0)).add ((n564 : Int).toNat * Rep.sz ByteArray))) = v), (fun H rs v => [] = rs ∧ .string (y579) = v), (fun H rs v => [] = rs ∧ v0 = v), (fun H rs v => [] = rs ∧ .int .i64 (n564) = v), (fun H rs v => [] = rs ∧ .int .i64 (IntKind.i64.wrap (n564 - 1)) = v), (fun H rs v => [] = rs ∧ .pointer (some ((Value.base (v0)).add ((IntKind.i64.wrap (n564 - 1) : Int).toNat * Rep.sz ByteArray))) = v), (fun H rs v => [] = rs ∧ .string (y583) = v)]) [[], [], [], [], [], [], [], [], [], [], [], [], []] [[], [], [], [], [], [], [], [], [], [], [], [], []] [] [0, 1, 2, 3, 4, 5, 6, 7, 8, 9, 10, 11, 12] Facts.mixed (by kernel_rfl) rfl rfl rfl (by kernel_rfl) (phiT_mono ⟨eq_monoT _ _, eq_monoT _ _, eq_monoT _ _, eq_monoT _ _, eq_monoT _ _, eq_monoT _ _, eq_monoT _ _, eq_monoT _ _, eq_monoT _ _, eq_monoT _ _, eq_monoT _ _, eq_monoT _ _, eq_monoT _ _, trivial⟩) ⟨?_, ?_, ?_, ?_, ?_, ?_, ?_, ?_, ?_, ?_, ?_, ?_, ?_, trivial⟩ ?_
          · intro HX hX X Rest hR
            intro hU
            refine W_move rfl rfl rfl ?_
            exact W_end (OneT_end [] (Hp.le_refl _) ⟨rfl, rfl⟩)
          · intro HX hX X Rest hR
            intro hU
            refine W_move rfl rfl rfl ?_
            exact W_end (OneT_end [] (Hp.le_refl _) ⟨rfl, rfl⟩)
          · intro HX hX X Rest hR
            rintro _ _ ⟨rfl, rfl⟩
            rintro _ _ ⟨rfl, rfl⟩
            intro hU
            refine W_bin rfl rfl rfl rfl rfl ?_
            exact W_end (OneT_end [] (Hp.le_refl _) ⟨rfl, (by rw [hb576]; try rfl)⟩)
          · intro HX hX X Rest hR
            rintro _ _ ⟨rfl, rfl⟩
            intro hU
            refine W_move rfl rfl rfl ?_
            exact W_end (OneT_end [] (Hp.le_refl _) ⟨rfl, rfl⟩)
          · intro HX hX X Rest hR
            rintro _ _ ⟨rfl, rfl⟩
            intro hU
            refine W_move rfl rfl rfl ?_
            exact W_end (OneT_end [] (Hp.le_refl _) ⟨rfl, rfl⟩)
          · intro HX hX X Rest hR
            rintro _ _ ⟨rfl, rfl⟩
            intro hU
            refine W_move rfl rfl rfl ?_
            exact W_end (OneT_end [] (Hp.le_refl _) ⟨rfl, rfl⟩)
          · intro HX hX X Rest hR
            rintro _ _ ⟨rfl, rfl⟩
            rintro _ _ ⟨rfl, rfl⟩
            rintro _ _ ⟨rfl, rfl⟩
            intro hU
            refine W_indexO (hR _ (List.mem_cons_self ..)) rfl rfl Proofs.Try.runUnderlying22 Proofs.Try.sizeOf9 rfl rfl h580 (List.getElem?_eq_some_iff.1 he581).1 ?_
            exact W_end (OneT_end [] (Hp.le_refl _) ⟨rfl, rfl⟩)
          · intro HX hX X Rest hR
            rintro _ _ ⟨rfl, rfl⟩
            rintro _ _ ⟨rfl, rfl⟩
            intro hU
            refine W_load rfl rfl Proofs.Try.isAgg9 rfl (row_one0 (hR _ (List.mem_cons_self ..)) hg582 rfl) ?_
            exact W_end (OneT_end [] (Hp.le_refl _) ⟨rfl, rfl⟩)
          · intro HX hX X Rest hR
            rintro _ _ ⟨rfl, rfl⟩
            intro hU
            refine W_move rfl rfl rfl ?_
            exact W_end (OneT_end [] (Hp.le_refl _) ⟨rfl, rfl⟩)
          · intro HX hX X Rest hR
            rintro _ _ ⟨rfl, rfl⟩
            intro hU
            refine W_move rfl rfl rfl ?_
            exact W_end (OneT_end [] (Hp.le_refl _) ⟨rfl, rfl⟩)
          · intro HX hX X Rest hR
            rintro _ _ ⟨rfl, rfl⟩
            rintro _ _ ⟨rfl, rfl⟩
            intro hU
            refine W_bin rfl rfl rfl rfl rfl ?_
            exact W_end (OneT_end [] (Hp.le_refl _) ⟨rfl, rfl⟩)
          · intro HX hX X Rest hR
            rintro _ _ ⟨rfl, rfl⟩
            rintro _ _ ⟨rfl, rfl⟩
            rintro _ _ ⟨rfl, rfl⟩
            intro hU
            refine W_indexO (hR _ (List.mem_cons_self ..)) rfl rfl Proofs.Try.runUnderlying22 Proofs.Try.sizeOf9 rfl rfl h584 (List.getElem?_eq_some_iff.1 he585).1 ?_
            exact W_end (OneT_end [] (Hp.le_refl _) ⟨rfl, rfl⟩)
          · intro HX hX X Rest hR
            rintro _ _ ⟨rfl, rfl⟩
            rintro _ _ ⟨rfl, rfl⟩
            intro hU
            refine W_load rfl rfl Proofs.Try.isAgg9 rfl (row_one0 (hR _ (List.mem_cons_self ..)) hg586 rfl) ?_
            exact W_end (OneT_end [] (Hp.le_refl _) ⟨rfl, rfl⟩)
          intro H587 hle588
          rintro _ _ ⟨rfl, rfl⟩
          rintro _ _ ⟨rfl, rfl⟩
          rintro _ _ ⟨rfl, rfl⟩
          rintro _ _ ⟨rfl, rfl⟩
          rintro _ _ ⟨rfl, rfl⟩
          rintro _ _ ⟨rfl, rfl⟩
          rintro _ _ ⟨rfl, rfl⟩
          rintro _ _ ⟨rfl, rfl⟩
          rintro _ _ ⟨rfl, rfl⟩
          rintro _ _ ⟨rfl, rfl⟩
          rintro _ _ ⟨rfl, rfl⟩
          rintro _ _ ⟨rfl, rfl⟩
          rintro _ _ ⟨rfl, rfl⟩
          refine W_call Proofs.Try.call20 rfl rfl rfl (fun w ht => by have h := m_cmp_Less_string_c (hm := (rfl : m_cmp_Less_string y579 y583 = _))  ht; exact h) ?_
          rintro _ _ _ ⟨rfl, rfl, rfl⟩
          refine W_pick rfl rfl rfl rfl ?_
          refine W_end ?_
          refine E_then ?_
          refine C_cond (b := (m_cmp_Less_string y579 y583)) rfl (fun hb589 => ?_) (fun hb589 => ?_)
          · have hm := ite_t' hb589 hm
            refine C_skip ?_
            refine E_then ?_
            refine C_seq ?_
            refine C_block ?_
            obtain ⟨y590, h591, he592, hm⟩ := idx_some hm
            obtain ⟨_, rfl, hg593⟩ := (hr563).elem he592
            obtain ⟨y594, h595, he596, hm⟩ := idx_some hm
            obtain ⟨_, rfl, hg597⟩ := (hr563).elem he596
            obtain ⟨y598, h599, he600, hm⟩ := idx_some hm
            obtain ⟨_, rfl, hg601⟩ := (hr563).elem he600
            refine C_perm (List.Perm.refl _) ?_
            refine C_as (M' := [[.row v0 9 (Rep.sz ByteArray) l562.length xs561]].flatten ++ (M)) rfl ?_
            refine C_region_tok0 16 (phiT [(fun H rs v => [] = rs ∧ v0 = v), (fun H rs v => [] = rs ∧ .int .i64 (n564) = v), (fun H rs v => [] = rs ∧ v0 = v), (fun H rs v => [] = rs ∧ .int .i64 (n564) = v), (fun H rs v => [] = rs ∧ .int .i64 (IntKind.i64.wrap (n564 - 1)) = v), (fun H rs v => [] = rs ∧ v0 = v), (fun H rs v => [] = rs ∧ .int .i64 (n564) = v), (fun H rs v => [] = rs ∧ .int .i64 (IntKind.i64.wrap (n564 - 1)) = v), (fun H rs v => [] = rs ∧ .pointer (some ((Value.base (v0)).add ((IntKind.i64.wrap (n564 - 1) : Int).toNat * Rep.sz ByteArray))) = v), (fun H rs v => [] = rs ∧ .string (y590) = v), (fun H rs v => [] = rs ∧ v0 = v), (fun H rs v => [] = rs ∧ .int .i64 (n564) = v), (fun H rs v => [] = rs ∧ .pointer (some ((Value.base (v0)).add ((n564 : Int).toNat * Rep.sz ByteArray))) = v), (fun H rs v => [] = rs ∧ .string (y594) = v), (fun H rs v => [] = rs ∧ .pointer (some ((Value.base (v0)).add ((n564 : Int).toNat * Rep.sz ByteArray))) = v), (fun H rs v => ∃ xs609 : List Value, [.row v0 9 (Rep.sz ByteArray) (l562.set ((n564 : Int).toNat) y590).length xs609] = rs ∧ .pointer (some ((Value.base (v0)).add ((n564 : Int).toNat * Rep.sz ByteArray))) = v ∧ Rw H v0 xs609 (l562.set ((n564 : Int).toNat) y590))]) [[], [], [], [], [], [], [], [], [], [], [], [], [], [], [], [16]] [[], [], [], [], [], [], [], [], [16], [16], [], [], [16], [16], [16], []] [[.row v0 9 (Rep.sz ByteArray) l562.length xs561]] [0, 1, 2, 3, 4, 5, 6, 7, 8, 9, 10, 11, 12, 13, 14, 15] Facts.mixed (by kernel_rfl) rfl rfl rfl (by kernel_rfl) (phiT_mono ⟨eq_monoT _ _, eq_monoT _ _, eq_monoT _ _, eq_monoT _ _, eq_monoT _ _, eq_monoT _ _, eq_monoT _ _, eq_monoT _ _, eq_monoT _ _, eq_monoT _ _, eq_monoT _ _, eq_monoT _ _, eq_monoT _ _, eq_monoT _ _, eq_monoT _ _, (by rintro H1 H2 rs v hle ⟨xs609, rfl, hv_, hr606⟩; exact ⟨xs609, rfl, hv_, (hr606.mono hle)⟩), trivial⟩) ⟨?_, ?_, ?_, ?_, ?_, ?_, ?_, ?_, ?_, ?_, ?_, ?_, ?_, ?_, ?_, ?_, trivial⟩ ?_
            · intro HX hX X Rest hR
              intro hU
              refine W_move rfl rfl rfl ?_
              exact W_end (OneT_end [] (Hp.le_refl _) ⟨rfl, rfl⟩)
            · intro HX hX X Rest hR
              intro hU
              refine W_move rfl rfl rfl ?_
              exact W_end (OneT_end [] (Hp.le_refl _) ⟨rfl, rfl⟩)
            · intro HX hX X Rest hR
              intro hU
              refine W_move rfl rfl rfl ?_
              exact W_end (OneT_end [] (Hp.le_refl _) ⟨rfl, rfl⟩)
            · intro HX hX X Rest hR
              intro hU
              refine W_move rfl rfl rfl ?_
              exact W_end (OneT_end [] (Hp.le_refl _) ⟨rfl, rfl⟩)
            · intro HX hX X Rest hR
              rintro _ _ ⟨rfl, rfl⟩
              intro hU
              refine W_bin rfl rfl rfl rfl rfl ?_
              exact W_end (OneT_end [] (Hp.le_refl _) ⟨rfl, rfl⟩)
            · intro HX hX X Rest hR
              intro hU
              refine W_move rfl rfl rfl ?_
              exact W_end (OneT_end [] (Hp.le_refl _) ⟨rfl, rfl⟩)
            · intro HX hX X Rest hR
              intro hU
              refine W_move rfl rfl rfl ?_
              exact W_end (OneT_end [] (Hp.le_refl _) ⟨rfl, rfl⟩)
            · intro HX hX X Rest hR
              rintro _ _ ⟨rfl, rfl⟩
              intro hU
              refine W_bin rfl rfl rfl rfl rfl ?_
              exact W_end (OneT_end [] (Hp.le_refl _) ⟨rfl, rfl⟩)
            · intro HX hX X Rest hR
              rintro _ _ ⟨rfl, rfl⟩
              rintro _ _ ⟨rfl, rfl⟩
              intro hU
              have hU2 : ∀ s ∈ [.row v0 9 (Rep.sz ByteArray) l562.length xs561], s ∈ Rest := hU
              refine W_indexO (hU2 _ (List.mem_cons_self ..)) rfl rfl Proofs.Try.runUnderlying22 Proofs.Try.sizeOf9 rfl rfl h591 (List.getElem?_eq_some_iff.1 he592).1 ?_
              exact W_end (OneT_end [] (Hp.le_refl _) ⟨rfl, rfl⟩)
            · intro HX hX X Rest hR
              rintro _ _ ⟨rfl, rfl⟩
              intro hU
              have hU2 : ∀ s ∈ [.row v0 9 (Rep.sz ByteArray) l562.length xs561], s ∈ Rest := hU
              refine W_load rfl rfl Proofs.Try.isAgg9 rfl (row_one0 (hU2 _ (List.mem_cons_self ..)) hg593 rfl) ?_
              exact W_end (OneT_end [] (Hp.le_refl _) ⟨rfl, rfl⟩)
            · intro HX hX X Rest hR
              intro hU
              refine W_move rfl rfl rfl ?_
              exact W_end (OneT_end [] (Hp.le_refl _) ⟨rfl, rfl⟩)
            · intro HX hX X Rest hR
              intro hU
              refine W_move rfl rfl rfl ?_
              exact W_end (OneT_end [] (Hp.le_refl _) ⟨rfl, rfl⟩)
            · intro HX hX X Rest hR
              rintro _ _ ⟨rfl, rfl⟩
              rintro _ _ ⟨rfl, rfl⟩
              intro hU
              have hU2 : ∀ s ∈ [.row v0 9 (Rep.sz ByteArray) l562.length xs561], s ∈ Rest := hU
              refine W_indexO (hU2 _ (List.mem_cons_self ..)) rfl rfl Proofs.Try.runUnderlying22 Proofs.Try.sizeOf9 rfl rfl h595 (List.getElem?_eq_some_iff.1 he596).1 ?_
              exact W_end (OneT_end [] (Hp.le_refl _) ⟨rfl, rfl⟩)
            · intro HX hX X Rest hR
              rintro _ _ ⟨rfl, rfl⟩
              intro hU
              have hU2 : ∀ s ∈ [.row v0 9 (Rep.sz ByteArray) l562.length xs561], s ∈ Rest := hU
              refine W_load rfl rfl Proofs.Try.isAgg9 rfl (row_one0 (hU2 _ (List.mem_cons_self ..)) hg597 rfl) ?_
              exact W_end (OneT_end [] (Hp.le_refl _) ⟨rfl, rfl⟩)
            · intro HX hX X Rest hR
              rintro _ _ ⟨rfl, rfl⟩
              rintro _ _ ⟨rfl, rfl⟩
              rintro _ _ ⟨rfl, rfl⟩
              rintro _ _ ⟨rfl, rfl⟩
              rintro _ _ ⟨rfl, rfl⟩
              rintro _ _ ⟨rfl, rfl⟩
              rintro _ _ ⟨rfl, rfl⟩
              rintro _ _ ⟨rfl, rfl⟩
              rintro _ _ ⟨rfl, rfl⟩
              rintro _ _ ⟨rfl, rfl⟩
              intro hU
              have hU2 : ∀ s ∈ [.row v0 9 (Rep.sz ByteArray) l562.length xs561], s ∈ Rest := hU
              refine W_indexO (hU2 _ (List.mem_cons_self ..)) rfl rfl Proofs.Try.runUnderlying22 Proofs.Try.sizeOf9 rfl rfl h599 (List.getElem?_eq_some_iff.1 he600).1 ?_
              exact W_end (OneT_end [] (Hp.le_refl _) ⟨rfl, rfl⟩)
            · intro HX hX X Rest hR
              rintro _ _ ⟨rfl, rfl⟩
              rintro _ _ ⟨rfl, rfl⟩
              rintro _ _ ⟨rfl, rfl⟩
              rintro _ _ ⟨rfl, rfl⟩
              rintro _ _ ⟨rfl, rfl⟩
              rintro _ _ ⟨rfl, rfl⟩
              rintro _ _ ⟨rfl, rfl⟩
              rintro _ _ ⟨rfl, rfl⟩
              rintro _ _ ⟨rfl, rfl⟩
              rintro _ _ ⟨rfl, rfl⟩
              intro hU
              refine W_as (M' := .row v0 9 (Rep.sz ByteArray) l562.length xs561 :: Rest) rfl ?_
              obtain ⟨hr606, he607, hg608⟩ := Rw.put (cs := [.string (y590)]) (o := 0) (c := [.string (y598)]) (out := [.string (y590)]) (e2 := y590) ((hr563.mono hle588).mono hX) he600 rfl hg601 rfl rfl rfl
              refine W_storeO2 (i := (n564 : Int).toNat * Rep.sz ByteArray + 0) (cs := [.string (y590)]) rfl Proofs.Try.sizeOf9 rfl (row_ad0 _ _) rfl rfl rfl (Rw.room ((hr563.mono hle588).mono hX) he600 rfl) rfl (all_cons rfl all_nil) (n' := (l562.set ((n564 : Int).toNat) y590).length) List.length_set ?_
              generalize over xs561 ((n564 : Int).toNat * Rep.sz ByteArray + 0) [.string (y590)] = xs609 at hr606 hg608 ⊢
              exact W_end (OneT_endL rfl [.row v0 9 (Rep.sz ByteArray) (l562.set ((n564 : Int).toNat) y590).length xs609] (Hp.le_refl _) ⟨xs609, rfl, rfl, (hr606)⟩)
            intro H610 hle611
            rintro _ _ ⟨rfl, rfl⟩
            rintro _ _ ⟨rfl, rfl⟩
            rintro _ _ ⟨rfl, rfl⟩
            rintro _ _ ⟨rfl, rfl⟩
            rintro _ _ ⟨rfl, rfl⟩
            rintro _ _ ⟨rfl, rfl⟩
            rintro _ _ ⟨rfl, rfl⟩
            rintro _ _ ⟨rfl, rfl⟩
            rintro _ _ ⟨rfl, rfl⟩
            rintro _ _ ⟨rfl, rfl⟩
            rintro _ _ ⟨rfl, rfl⟩
            rintro _ _ ⟨rfl, rfl⟩
            rintro _ _ ⟨rfl, rfl⟩
            rintro _ _ ⟨rfl, rfl⟩
            rintro _ _ ⟨rfl, rfl⟩
            rintro _ _ _ ⟨xs609, rfl, _, hr606⟩
            refine W_as (M' := .row v0 9 (Rep.sz ByteArray) (l562.set ((n564 : Int).toNat) y590).length xs609 :: M) rfl ?_
            obtain ⟨y612, h613, he614, hm⟩ := idx_some hm
            refine W_indexO (List.mem_cons_self ..) rfl rfl Proofs.Try.runUnderlying22 Proofs.Try.sizeOf9 rfl rfl h613 (List.getElem?_eq_some_iff.1 he614).1 ?_
            obtain ⟨_, rfl, hg615⟩ := (hr606).elem he614
            obtain ⟨hr616, he617, hg618⟩ := Rw.put (cs := [.string (y594)]) (o := 0) (c := [.string (y612)]) (out := [.string (y594)]) (e2 := y594) hr606 he614 rfl hg615 rfl rfl rfl
            refine W_storeO2 (i := (IntKind.i64.wrap (n564 - 1) : Int).toNat * Rep.sz ByteArray + 0) (cs := [.string (y594)]) rfl Proofs.Try.sizeOf9 rfl (row_ad0 _ _) rfl rfl rfl (Rw.room hr606 he614 rfl) rfl (all_cons rfl all_nil) (n' := ((l562.set ((n564 : Int).toNat) y590).set ((IntKind.i64.wrap (n564 - 1) : Int).toNat) y594).length) List.length_set ?_
            generalize over xs609 ((IntKind.i64.wrap (n564 - 1) : Int).toNat * Rep.sz ByteArray + 0) [.string (y594)] = xs619 at hr616 hg618 ⊢
            refine W_end ?_
            refine E_normal_block ?_
            refine E_then ?_
            refine C_region ?_
            refine W_move rfl rfl rfl ?_
            refine W_bin rfl rfl rfl rfl rfl ?_
            refine W_assign rfl rfl rfl ?_
            refine W_end ?_
            exact E_keepJ (E_back (Nat.lt_succ_self _) ⟨((l562.set ((n564 : Int).toNat) y590).set ((IntKind.i64.wrap (n564 - 1) : Int).toNat) y594), IntKind.i64.wrap (n564 - 1), xs619, (by rw [hn569]; exact hm), hr616, (Hp.le_trans (Hp.le_trans hle566 hle588) hle611), rfl, rfl⟩) (List.Perm.refl _) ⟨rfl, rfl, rfl, rfl, rfl, trivial⟩
          · have hm := ite_f' hb589 hm
            refine C_exit ?_
            refine E_exit_then ?_
            refine E_exit_then ?_
            refine E_exit_hit ?_
            refine E_normal_block ?_
            refine E_then ?_
            refine C_region ?_
            refine W_move rfl rfl rfl ?_
            refine W_bin rfl rfl rfl rfl rfl ?_
            refine W_assign rfl rfl rfl ?_
            refine W_end ?_
            exact E_keepJ (E_back (Nat.lt_succ_self _) ⟨l562, IntKind.i64.wrap (n445 + 1), xs561, (by rw [hn450]; exact hm), (hr563.mono hle588), (Hp.le_trans (Hp.le_trans hle447 hle566) hle588), rfl, rfl⟩) (List.Perm.refl _) ⟨rfl, rfl, rfl, rfl, trivial⟩
    · have hm := ite_f' hb457 hm
      refine C_exit ?_
      refine E_exit_then ?_
      refine E_exit_then ?_
      refine E_exit_hit ?_
      refine E_off ?_
      obtain rfl := Option.some.inj hm
      refine E_weak hle447 ?_
      exact end0 rfl ⟨rfl, xs442, rfl, rfl, (hr444).toF⟩

theorem m_slices_pdqsortOrdered_string_c {B : Nat} {w0 w : World} {H : Hp} {M : List Res} {data : (List ByteArray)} {p1_a : Int} {p2_b : Int} {limit : Int} {v0 : Value} {xs0 : List Value} {r : (List ByteArray)} (hm : m_slices_pdqsortOrdered_string data p1_a p2_b limit = some r) (h0 : Rw H v0 xs0 data) (ht : St B w0 H (.row v0 9 (Rep.sz ByteArray) data.length xs0 :: M) w) :
    Calls Proofs.Try.prog 27 [v0, .int .i64 (p1_a), .int .i64 (p2_b), .int .i64 (limit)].toArray w (Ret B w0 fun H' M' v => H = H' ∧ ∃ qxs0 : List Value, .row v0 9 (Rep.sz ByteArray) r.length qxs0 :: M = M' ∧ .tuple #[] = v ∧ RwF v0 qxs0 r) := by
  unfold m_slices_pdqsortOrdered_string at hm
  refine enter Proofs.Try.func27 rfl rfl rfl ht ?_
  refine C_seq ?_
  refine C_region ?_
  refine W_assign rfl rfl rfl ?_
  refine W_end ?_
  refine E_then ?_
  refine C_seq ?_
  refine C_region ?_
  refine W_assign rfl rfl rfl ?_
  refine W_end ?_
  refine E_then ?_
  refine C_block ?_
  refine C_keep (L' := [(0, v0), (1, .int .i64 (p1_a)), (2, .int .i64 (p2_b)), (3, .int .i64 (limit)), (8, .bool (true)), (9, .bool (true))]) ⟨rfl, rfl, rfl, rfl, rfl, rfl, trivial⟩ (List.Perm.refl _) ?_
  refine C_loop (fun n H' M' L' => loopF (fun s119 n => m_slices_pdqsortOrdered_string_b3 data p1_a p2_b limit n) n () = some r ∧ H.le H' ∧ .row v0 9 (Rep.sz ByteArray) data.length xs0 :: M = M' ∧ [(0, v0), (1, .int .i64 (p1_a)), (2, .int .i64 (p2_b)), (3, .int .i64 (limit)), (8, .bool (true)), (9, .bool (true))] = L') FUEL ⟨hm, (Hp.le_refl _), rfl, rfl⟩ ?_
  rintro n122 H117 _ _ ⟨hm, hle118, rfl, rfl⟩
  cases n122 with
  | zero => cases hm
  | succ n122 =>
    have hm : m_slices_pdqsortOrdered_string_b3 data p1_a p2_b limit (loopF (fun s119 n => m_slices_pdqsortOrdered_string_b3 data p1_a p2_b limit n) n122) = some r := hm
    generalize hn121 : loopF (fun s119 n => m_slices_pdqsortOrdered_string_b3 data p1_a p2_b limit n) n122 = nx120 at hm
    unfold m_slices_pdqsortOrdered_string_b3 at hm
    refine C_block ?_
    refine C_seq ?_
    refine C_region ?_
    refine W_move rfl rfl rfl ?_
    refine W_move rfl rfl rfl ?_
    refine W_bin rfl rfl rfl rfl rfl ?_
    refine W_assign rfl rfl rfl ?_
    refine W_end ?_
    refine E_then ?_
    refine C_seq ?_
    refine C_seq ?_
    refine C_region ?_
    refine W_move rfl rfl rfl ?_
    refine W_bin rfl rfl rfl rfl rfl ?_
    refine W_end ?_
    refine E_then ?_
    refine C_cond (b := decide ((IntKind.i64.wrap (p2_b - p1_a)) ≤ 12)) rfl (fun hb128 => ?_) (fun hb128 => ?_)
    · have hm := ite_t' hb128 hm
      refine C_seq ?_
      refine C_region ?_
      refine W_move rfl rfl rfl ?_
      refine W_move rfl rfl rfl ?_
      refine W_move rfl rfl rfl ?_
      obtain ⟨r129, hc130, hm⟩ := bind_some hm
      refine W_call Proofs.Try.call35 rfl rfl rfl (fun w ht => by have h := m_slices_insertionSortOrdered_string_c (hm := hc130) (h0.mono hle118) ht; exact h) ?_
      rintro _ _ _ ⟨rfl, xs132, rfl, rfl, h133⟩
      have h133 := h133 H117
      refine W_end ?_
      refine E_then ?_
      refine C_ret ?_
      refine E_ret_then ?_
      refine E_ret_block ?_
      refine E_ret_then ?_
      refine E_ret_block ?_
      obtain rfl := Option.some.inj hm
      refine E_weak hle118 ?_
      exact end0 rfl ⟨rfl, xs132, rfl, rfl, (h133).toF⟩
    · have hm := ite_f' hb128 hm
      refine C_skip ?_
      refine E_then ?_
      refine C_seq ?_
      refine C_seq ?_
      refine C_region ?_
      refine W_move rfl rfl rfl ?_
      refine W_bin rfl rfl rfl rfl rfl ?_
      refine W_end ?_
      refine E_then ?_
      refine C_cond (b := decide (limit = 0)) rfl (fun hb134 => ?_) (fun hb134 => ?_)
      · have hm := ite_t' hb134 hm
        refine C_seq ?_
        refine C_region ?_
        refine W_move rfl rfl rfl ?_
        refine W_move rfl rfl rfl ?_
        refine W_move rfl rfl rfl ?_
        cases hm
      · have hm := ite_f' hb134 hm
        refine C_skip ?_
        refine E_then ?_
        refine C_seq_join (fun H' M' L' => m_slices_pdqsortOrdered_string_b4 = some r ∧ H117 = H' ∧ .row v0 9 (Rep.sz ByteArray) data.length xs0 :: M = M' ∧ [(0, v0), (1, .int .i64 (p1_a)), (2, .int .i64 (p2_b)), (3, .int .i64 (limit)), (8, .bool (true)), (9, .bool (true)), (10, .int .i64 (IntKind.i64.wrap (p2_b - p1_a)))] = L') ?_ (fun J135 => ?_)
        · rintro _ _ _ ⟨hm, rfl, rfl, rfl⟩
          unfold m_slices_pdqsortOrdered_string_b4 at hm
          refine C_seq ?_
          refine C_region ?_
          refine W_move rfl rfl rfl ?_
          refine W_move rfl rfl rfl ?_
          refine W_move rfl rfl rfl ?_
          cases hm
        · refine C_seq ?_
          refine C_region ?_
          refine W_move rfl rfl rfl ?_
          refine W_un rfl rfl rfl rfl ?_
          refine W_end ?_
          refine E_then ?_
          refine C_cond (b := false) rfl (fun hb => Bool.noConfusion hb) (fun _ => ?_)
          refine C_skip ?_
          exact E_keepJ (J135 _ _ _ ⟨hm, rfl, rfl, rfl⟩) (List.Perm.refl _) ⟨rfl, rfl, rfl, rfl, rfl, rfl, rfl, trivial⟩

theorem m_slices_Sort_string_string_c {B : Nat} {w0 w : World} {H : Hp} {M : List Res} {p0_x : (List ByteArray)} {v0 : Value} {xs0 : List Value} {r : (List ByteArray)} (hm : m_slices_Sort_string_string p0_x = some r) (h0 : Rw H v0 xs0 p0_x) (ht : St B w0 H (.row v0 9 (Rep.sz ByteArray) p0_x.length xs0 :: M) w) :
    Calls Proofs.Try.prog 19 [v0].toArray w (Ret B w0 fun H' M' v => H = H' ∧ ∃ qxs0 : List Value, .row v0 9 (Rep.sz ByteArray) r.length qxs0 :: M = M' ∧ .tuple #[] = v ∧ RwF v0 qxs0 r) := by
  unfold m_slices_Sort_string_string at hm
  refine enter Proofs.Try.func19 rfl rfl rfl ht ?_
  refine C_seq ?_
  refine C_region ?_
  refine W_move rfl rfl rfl ?_
  refine W_lenO (List.mem_cons_self ..) rfl rfl Proofs.Try.runUnderlying22 rfl ?_
  refine W_assign rfl rfl rfl ?_
  refine W_end ?_
  refine E_then ?_
  refine C_region ?_
  refine W_move rfl rfl rfl ?_
  refine W_move rfl rfl rfl ?_
  refine W_move rfl rfl rfl ?_
  refine W_convInt rfl rfl Proofs.Try.runUnderlying3 Proofs.Try.runUnderlying63 rfl ?_
  obtain ⟨r101, hc102, hm⟩ := bind_some hm
  refine W_call Proofs.Try.call28 rfl rfl rfl (fun w ht => by have h := m_math_bits_Len_c (hm := hc102)  ht; exact h) ?_
  rintro _ _ _ ⟨rfl, rfl, rfl⟩
  obtain ⟨r103, hc104, hm⟩ := bind_some hm
  refine W_call Proofs.Try.call27 rfl rfl rfl (fun w ht => by have h := m_slices_pdqsortOrdered_string_c (hm := hc104) h0 ht; exact h) ?_
  rintro _ _ _ ⟨rfl, xs106, rfl, rfl, h107⟩
  have h107 := h107 H
  refine W_end ?_
  refine E_off ?_
  obtain rfl := Option.some.inj hm
  refine E_weak (Hp.le_refl _) ?_
  exact end0 rfl ⟨rfl, xs106, rfl, rfl, (h107).toF⟩

theorem m_console_Complete_c {B : Nat} {w0 w : World} {H : Hp} {M : List Res} {p0_s : ByteArray} {r : (List ByteArray)} (hm : m_console_Complete p0_s = some r) (ht : St B w0 H (M) w) :
    Calls Proofs.Try.prog 6 [.string (p0_s)].toArray w (Ret B w0 fun H' M' v => H = H' ∧ ∃ qv0 : Value, ∃ qxs0 : List Value, .row qv0 9 (Rep.sz ByteArray) r.length qxs0 :: M = M' ∧ qv0 = v ∧ RwF qv0 qxs0 r) := by
  unfold m_console_Complete at hm
  refine enter Proofs.Try.func6 rfl rfl rfl ht ?_
  refine C_seq ?_
  refine C_region ?_
  refine W_assign rfl rfl rfl ?_
  refine W_end ?_
  refine E_then ?_
  refine C_seq ?_
  refine C_region ?_
  refine W_assign rfl rfl rfl ?_
  refine W_end ?_
  refine E_then ?_
  refine C_seq ?_
  refine C_seq ?_
  refine C_region ?_
  refine W_call Proofs.Try.call18 rfl rfl rfl (fun w ht => by have h := m_console_forms_c (hm := (rfl : m_console_forms = _))  ht; exact h) ?_
  rintro _ _ _ ⟨rfl, rfl, rfl⟩
  refine W_move rfl rfl rfl ?_
  refine W_end ?_
  refine E_then ?_
  refine C_block ?_
  refine C_nilRow 9 (Rep.sz ByteArray) ?_
  refine C_keep (L' := [(0, .string (p0_s)), (3, (.slice none 0 0)), (6, .agg [.string (((m_console_forms)).a0.verb), .bool (((m_console_forms)).a0.name), .bool (((m_console_forms)).a0.n), .int .i64 (((m_console_forms)).a0.low_), .int .i64 (((m_console_forms)).a0.high_), .string (((m_console_forms)).a1.verb), .bool (((m_console_forms)).a1.name), .bool (((m_console_forms)).a1.n), .int .i64 (((m_console_forms)).a1.low_), .int .i64 (((m_console_forms)).a1.high_), .string (((m_console_forms)).a2.verb), .bool (((m_console_forms)).a2.name), .bool (((m_console_forms)).a2.n), .int .i64 (((m_console_forms)).a2.low_), .int .i64 (((m_console_forms)).a2.high_), .string (((m_console_forms)).a3.verb), .bool (((m_console_forms)).a3.name), .bool (((m_console_forms)).a3.n), .int .i64 (((m_console_forms)).a3.low_), .int .i64 (((m_console_forms)).a3.high_), .string (((m_console_forms)).a4.verb), .bool (((m_console_forms)).a4.name), .bool (((m_console_forms)).a4.n), .int .i64 (((m_console_forms)).a4.low_), .int .i64 (((m_console_forms)).a4.high_), .string (((m_console_forms)).a5.verb), .bool (((m_console_forms)).a5.name), .bool (((m_console_forms)).a5.n), .int .i64 (((m_console_forms)).a5.low_), .int .i64 (((m_console_forms)).a5.high_), .string (((m_console_forms)).a6.verb), .bool (((m_console_forms)).a6.name), .bool (((m_console_forms)).a6.n), .int .i64 (((m_console_forms)).a6.low_), .int .i64 (((m_console_forms)).a6.high_), .string (((m_console_forms)).a7.verb), .bool (((m_console_forms)).a7.name), .bool (((m_console_forms)).a7.n), .int .i64 (((m_console_forms)).a7.low_), .int .i64 (((m_console_forms)).a7.high_)].toArray), (7, .int .i64 (((0 : Nat) : Int)))]) ⟨rfl, rfl, rfl, rfl, trivial⟩ (List.Perm.refl _) ?_
  refine C_loop (fun n H' M' L' => ∃ (k101 : Nat) (zs211' : Nat), ∃ l202 : List ByteArray, ∃ v200 : Value, ∃ xs201 : List Value, k101 + zs211' = (8 : Int).toNat ∧ zs211' = n ∧ forN (fun k s206 n => m_console_Complete_b3 p0_s k s206 n) (fun s206 => (m_slices_Sort_string_string s206).bind fun r259 => some r259) zs211' k101 l202 = some r ∧ Rw H' v200 xs201 l202 ∧ H.le H' ∧ .row v200 9 (Rep.sz ByteArray) l202.length xs201 :: M = M' ∧ [(0, .string (p0_s)), (3, v200), (6, .agg [.string (((m_console_forms)).a0.verb), .bool (((m_console_forms)).a0.name), .bool (((m_console_forms)).a0.n), .int .i64 (((m_console_forms)).a0.low_), .int .i64 (((m_console_forms)).a0.high_), .string (((m_console_forms)).a1.verb), .bool (((m_console_forms)).a1.name), .bool (((m_console_forms)).a1.n), .int .i64 (((m_console_forms)).a1.low_), .int .i64 (((m_console_forms)).a1.high_), .string (((m_console_forms)).a2.verb), .bool (((m_console_forms)).a2.name), .bool (((m_console_forms)).a2.n), .int .i64 (((m_console_forms)).a2.low_), .int .i64 (((m_console_forms)).a2.high_), .string (((m_console_forms)).a3.verb), .bool (((m_console_forms)).a3.name), .bool (((m_console_forms)).a3.n), .int .i64 (((m_console_forms)).a3.low_), .int .i64 (((m_console_forms)).a3.high_), .string (((m_console_forms)).a4.verb), .bool (((m_console_forms)).a4.name), .bool (((m_console_forms)).a4.n), .int .i64 (((m_console_forms)).a4.low_), .int .i64 (((m_console_forms)).a4.high_), .string (((m_console_forms)).a5.verb), .bool (((m_console_forms)).a5.name), .bool (((m_console_forms)).a5.n), .int .i64 (((m_console_forms)).a5.low_), .int .i64 (((m_console_forms)).a5.high_), .string (((m_console_forms)).a6.verb), .bool (((m_console_forms)).a6.name), .bool (((m_console_forms)).a6.n), .int .i64 (((m_console_forms)).a6.low_), .int .i64 (((m_console_forms)).a6.high_), .string (((m_console_forms)).a7.verb), .bool (((m_console_forms)).a7.name), .bool (((m_console_forms)).a7.n), .int .i64 (((m_console_forms)).a7.low_), .int .i64 (((m_console_forms)).a7.high_)].toArray), (7, .int .i64 ((k101 : Int)))] = L') _ ⟨0, _, ([] : List ByteArray), (.slice none 0 0), ([]), Nat.zero_add _, rfl, hm, Rw.nil, (Hp.le_refl _), rfl, rfl⟩ ?_
  rintro _ H204 _ _ ⟨k101, zs211', l202, v200, xs201, hd213, rfl, hm, hr203, hle205, rfl, rfl⟩
  refine C_seq ?_
  refine C_region ?_
  refine W_bin rfl rfl rfl rfl rfl ?_
  refine W_end (E_then ?_)
  refine C_seq ?_
  refine C_cond (b := decide ((k101 : Int) < 8)) rfl (fun hb215 => ?_) (fun hb215 => ?_)
  · obtain ⟨zs211, rfl, hd214, hy212⟩ := rngN_t hd213 hb215
    have hm : m_console_Complete_b3 p0_s k101 l202 (forN (fun k s206 n => m_console_Complete_b3 p0_s k s206 n) (fun s206 => (m_slices_Sort_string_string s206).bind fun r259 => some r259) zs211 (k101 + 1)) = some r := hm
    generalize hn208 : forN (fun k s206 n => m_console_Complete_b3 p0_s k s206 n) (fun s206 => (m_slices_Sort_string_string s206).bind fun r259 => some r259) zs211 (k101 + 1) = nx207 at hm
    unfold m_console_Complete_b3 at hm
    refine C_skip (E_then ?_)
    refine C_seq_join (fun H' M' L' => ∃ l236 : List ByteArray, ∃ v234 : Value, ∃ xs235 : List Value, m_console_Complete_b4 nx207 l236 = some r ∧ Rw H' v234 xs235 l236 ∧ H204.le H' ∧ .row v234 9 (Rep.sz ByteArray) l236.length xs235 :: M = M' ∧ [(0, .string (p0_s)), (3, v234), (6, .agg [.string (((m_console_forms)).a0.verb), .bool (((m_console_forms)).a0.name), .bool (((m_console_forms)).a0.n), .int .i64 (((m_console_forms)).a0.low_), .int .i64 (((m_console_forms)).a0.high_), .string (((m_console_forms)).a1.verb), .bool (((m_console_forms)).a1.name), .bool (((m_console_forms)).a1.n), .int .i64 (((m_console_forms)).a1.low_), .int .i64 (((m_console_forms)).a1.high_), .string (((m_console_forms)).a2.verb), .bool (((m_console_forms)).a2.name), .bool (((m_console_forms)).a2.n), .int .i64 (((m_console_forms)).a2.low_), .int .i64 (((m_console_forms)).a2.high_), .string (((m_console_forms)).a3.verb), .bool (((m_console_forms)).a3.name), .bool (((m_console_forms)).a3.n), .int .i64 (((m_console_forms)).a3.low_), .int .i64 (((m_console_forms)).a3.high_), .string (((m_console_forms)).a4.verb), .bool (((m_console_forms)).a4.name), .bool (((m_console_forms)).a4.n), .int .i64 (((m_console_forms)).a4.low_), .int .i64 (((m_console_forms)).a4.high_), .string (((m_console_forms)).a5.verb), .bool (((m_console_forms)).a5.name), .bool (((m_console_forms)).a5.n), .int .i64 (((m_console_forms)).a5.low_), .int .i64 (((m_console_forms)).a5.high_), .string (((m_console_forms)).a6.verb), .bool (((m_console_forms)).a6.name), .bool (((m_console_forms)).a6.n), .int .i64 (((m_console_forms)).a6.low_), .int .i64 (((m_console_forms)).a6.high_), .string (((m_console_forms)).a7.verb), .bool (((m_console_forms)).a7.name), .bool (((m_console_forms)).a7.n), .int .i64 (((m_console_forms)).a7.low_), .int .i64 (((m_console_forms)).a7.high_)].toArray), (7, .int .i64 ((k101 : Int)))] = L') ?_ (fun J240 => ?_)
    · rintro H238 _ _ ⟨l236, v234, xs235, hm, hr237, hle239, rfl, rfl⟩
      unfold m_console_Complete_b4 at hm
      refine C_region ?_
      refine W_bin rfl rfl rfl rfl rfl ?_
      refine W_move rfl rfl rfl ?_
      refine W_end ?_
      exact E_keepJ (E_back (Nat.lt_succ_self _) ⟨k101 + 1, zs211, l236, v234, xs235, hd214, rfl, (by rw [hn208]; exact hm), hr237, (Hp.le_trans hle205 hle239), rfl, rfl⟩) (List.Perm.refl _) ⟨rfl, rfl, rfl, (congrArg (fun z => some (Value.int .i64 z)) (i64_succN hy212 (toNat_max (by decide)))), trivial⟩
    · refine C_block ?_
      refine C_seq ?_
      refine C_region ?_
      obtain ⟨y241, h242, he243, hm⟩ := idx_some hm
      refine W_indexVA (α := S_console_form) (ys := [(S_console_form.mk (((m_console_forms)).a0.verb) (((m_console_forms)).a0.name) (((m_console_forms)).a0.n) (((m_console_forms)).a0.low_) (((m_console_forms)).a0.high_)), (S_console_form.mk (((m_console_forms)).a1.verb) (((m_console_forms)).a1.name) (((m_console_forms)).a1.n) (((m_console_forms)).a1.low_) (((m_console_forms)).a1.high_)), (S_console_form.mk (((m_console_forms)).a2.verb) (((m_console_forms)).a2.name) (((m_console_forms)).a2.n) (((m_console_forms)).a2.low_) (((m_console_forms)).a2.high_)), (S_console_form.mk (((m_console_forms)).a3.verb) (((m_console_forms)).a3.name) (((m_console_forms)).a3.n) (((m_console_forms)).a3.low_) (((m_console_forms)).a3.high_)), (S_console_form.mk (((m_console_forms)).a4.verb) (((m_console_forms)).a4.name) (((m_console_forms)).a4.n) (((m_console_forms)).a4.low_) (((m_console_forms)).a4.high_)), (S_console_form.mk (((m_console_forms)).a5.verb) (((m_console_forms)).a5.name) (((m_console_forms)).a5.n) (((m_console_forms)).a5.low_) (((m_console_forms)).a5.high_)), (S_console_form.mk (((m_console_forms)).a6.verb) (((m_console_forms)).a6.name) (((m_console_forms)).a6.n) (((m_console_forms)).a6.low_) (((m_console_forms)).a6.high_)), (S_console_form.mk (((m_console_forms)).a7.verb) (((m_console_forms)).a7.name) (((m_console_forms)).a7.n) (((m_console_forms)).a7.low_) (((m_console_forms)).a7.high_))]) rfl rfl Proofs.Try.runUnderlying48 Proofs.Try.isAgg47 Proofs.Try.sizeOf47 rfl rfl rfl h242 he243 ⟨[.string (((m_console_forms)).a0.verb), .bool (((m_console_forms)).a0.name), .bool (((m_console_forms)).a0.n), .int .i64 (((m_console_forms)).a0.low_), .int .i64 (((m_console_forms)).a0.high_)], [.string (((m_console_forms)).a1.verb), .bool (((m_console_forms)).a1.name), .bool (((m_console_forms)).a1.n), .int .i64 (((m_console_forms)).a1.low_), .int .i64 (((m_console_forms)).a1.high_), .string (((m_console_forms)).a2.verb), .bool (((m_console_forms)).a2.name), .bool (((m_console_forms)).a2.n), .int .i64 (((m_console_forms)).a2.low_), .int .i64 (((m_console_forms)).a2.high_), .string (((m_console_forms)).a3.verb), .bool (((m_console_forms)).a3.name), .bool (((m_console_forms)).a3.n), .int .i64 (((m_console_forms)).a3.low_), .int .i64 (((m_console_forms)).a3.high_), .string (((m_console_forms)).a4.verb), .bool (((m_console_forms)).a4.name), .bool (((m_console_forms)).a4.n), .int .i64 (((m_console_forms)).a4.low_), .int .i64 (((m_console_forms)).a4.high_), .string (((m_console_forms)).a5.verb), .bool (((m_console_forms)).a5.name), .bool (((m_console_forms)).a5.n), .int .i64 (((m_console_forms)).a5.low_), .int .i64 (((m_console_forms)).a5.high_), .string (((m_console_forms)).a6.verb), .bool (((m_console_forms)).a6.name), .bool (((m_console_forms)).a6.n), .int .i64 (((m_console_forms)).a6.low_), .int .i64 (((m_console_forms)).a6.high_), .string (((m_console_forms)).a7.verb), .bool (((m_console_forms)).a7.name), .bool (((m_console_forms)).a7.n), .int .i64 (((m_console_forms)).a7.low_), .int .i64 (((m_console_forms)).a7.high_)], rfl, rfl, ⟨[.string (((m_console_forms)).a1.verb), .bool (((m_console_forms)).a1.name), .bool (((m_console_forms)).a1.n), .int .i64 (((m_console_forms)).a1.low_), .int .i64 (((m_console_forms)).a1.high_)], [.string (((m_console_forms)).a2.verb), .bool (((m_console_forms)).a2.name), .bool (((m_console_forms)).a2.n), .int .i64 (((m_console_forms)).a2.low_), .int .i64 (((m_console_forms)).a2.high_), .string (((m_console_forms)).a3.verb), .bool (((m_console_forms)).a3.name), .bool (((m_console_forms)).a3.n), .int .i64 (((m_console_forms)).a3.low_), .int .i64 (((m_console_forms)).a3.high_), .string (((m_console_forms)).a4.verb), .bool (((m_console_forms)).a4.name), .bool (((m_console_forms)).a4.n), .int .i64 (((m_console_forms)).a4.low_), .int .i64 (((m_console_forms)).a4.high_), .string (((m_console_forms)).a5.verb), .bool (((m_console_forms)).a5.name), .bool (((m_console_forms)).a5.n), .int .i64 (((m_console_forms)).a5.low_), .int .i64 (((m_console_forms)).a5.high_), .string (((m_console_forms)).a6.verb), .bool (((m_console_forms)).a6.name), .bool (((m_console_forms)).a6.n), .int .i64 (((m_console_forms)).a6.low_), .int .i64 (((m_console_forms)).a6.high_), .string (((m_console_forms)).a7.verb), .bool (((m_console_forms)).a7.name), .bool (((m_console_forms)).a7.n), .int .i64 (((m_console_forms)).a7.low_), .int .i64 (((m_console_forms)).a7.high_)], rfl, rfl, ⟨[.string (((m_console_forms)).a2.verb), .bool (((m_console_forms)).a2.name), .bool (((m_console_forms)).a2.n), .int .i64 (((m_console_forms)).a2.low_), .int .i64 (((m_console_forms)).a2.high_)], [.string (((m_console_forms)).a3.verb), .bool (((m_console_forms)).a3.name), .bool (((m_console_forms)).a3.n), .int .i64 (((m_console_forms)).a3.low_), .int .i64 (((m_console_forms)).a3.high_), .string (((m_console_forms)).a4.verb), .bool (((m_console_forms)).a4.name), .bool (((m_console_forms)).a4.n), .int .i64 (((m_console_forms)).a4.low_), .int .i64 (((m_console_forms)).a4.high_), .string (((m_console_forms)).a5.verb), .bool (((m_console_forms)).a5.name), .bool (((m_console_forms)).a5.n), .int .i64 (((m_console_forms)).a5.low_), .int .i64 (((m_console_forms)).a5.high_), .string (((m_console_forms)).a6.verb), .bool (((m_console_forms)).a6.name), .bool (((m_console_forms)).a6.n), .int .i64 (((m_console_forms)).a6.low_), .int .i64 (((m_console_forms)).a6.high_), .string (((m_console_forms)).a7.verb), .bool (((m_console_forms)).a7.name), .bool (((m_console_forms)).a7.n), .int .i64 (((m_console_forms)).a7.low_), .int .i64 (((m_console_forms)).a7.high_)], rfl, rfl, ⟨[.string (((m_console_forms)).a3.verb), .bool (((m_console_forms)).a3.name), .bool (((m_console_forms)).a3.n), .int .i64 (((m_console_forms)).a3.low_), .int .i64 (((m_console_forms)).a3.high_)], [.string (((m_console_forms)).a4.verb), .bool (((m_console_forms)).a4.name), .bool (((m_console_forms)).a4.n), .int .i64 (((m_console_forms)).a4.low_), .int .i64 (((m_console_forms)).a4.high_), .string (((m_console_forms)).a5.verb), .bool (((m_console_forms)).a5.name), .bool (((m_console_forms)).a5.n), .int .i64 (((m_console_forms)).a5.low_), .int .i64 (((m_console_forms)).a5.high_), .string (((m_console_forms)).a6.verb), .bool (((m_console_forms)).a6.name), .bool (((m_console_forms)).a6.n), .int .i64 (((m_console_forms)).a6.low_), .int .i64 (((m_console_forms)).a6.high_), .string (((m_console_forms)).a7.verb), .bool (((m_console_forms)).a7.name), .bool (((m_console_forms)).a7.n), .int .i64 (((m_console_forms)).a7.low_), .int .i64 (((m_console_forms)).a7.high_)], rfl, rfl, ⟨[.string (((m_console_forms)).a4.verb), .bool (((m_console_forms)).a4.name), .bool (((m_console_forms)).a4.n), .int .i64 (((m_console_forms)).a4.low_), .int .i64 (((m_console_forms)).a4.high_)], [.string (((m_console_forms)).a5.verb), .bool (((m_console_forms)).a5.name), .bool (((m_console_forms)).a5.n), .int .i64 (((m_console_forms)).a5.low_), .int .i64 (((m_console_forms)).a5.high_), .string (((m_console_forms)).a6.verb), .bool (((m_console_forms)).a6.name), .bool (((m_console_forms)).a6.n), .int .i64 (((m_console_forms)).a6.low_), .int .i64 (((m_console_forms)).a6.high_), .string (((m_console_forms)).a7.verb), .bool (((m_console_forms)).a7.name), .bool (((m_console_forms)).a7.n), .int .i64 (((m_console_forms)).a7.low_), .int .i64 (((m_console_forms)).a7.high_)], rfl, rfl, ⟨[.string (((m_console_forms)).a5.verb), .bool (((m_console_forms)).a5.name), .bool (((m_console_forms)).a5.n), .int .i64 (((m_console_forms)).a5.low_), .int .i64 (((m_console_forms)).a5.high_)], [.string (((m_console_forms)).a6.verb), .bool (((m_console_forms)).a6.name), .bool (((m_console_forms)).a6.n), .int .i64 (((m_console_forms)).a6.low_), .int .i64 (((m_console_forms)).a6.high_), .string (((m_console_forms)).a7.verb), .bool (((m_console_forms)).a7.name), .bool (((m_console_forms)).a7.n), .int .i64 (((m_console_forms)).a7.low_), .int .i64 (((m_console_forms)).a7.high_)], rfl, rfl, ⟨[.string (((m_console_forms)).a6.verb), .bool (((m_console_forms)).a6.name), .bool (((m_console_forms)).a6.n), .int .i64 (((m_console_forms)).a6.low_), .int .i64 (((m_console_forms)).a6.high_)], [.string (((m_console_forms)).a7.verb), .bool (((m_console_forms)).a7.name), .bool (((m_console_forms)).a7.n), .int .i64 (((m_console_forms)).a7.low_), .int .i64 (((m_console_forms)).a7.high_)], rfl, rfl, ⟨[.string (((m_console_forms)).a7.verb), .bool (((m_console_forms)).a7.name), .bool (((m_console_forms)).a7.n), .int .i64 (((m_console_forms)).a7.low_), .int .i64 (((m_console_forms)).a7.high_)], [], rfl, rfl, rfl⟩⟩⟩⟩⟩⟩⟩⟩ ?_
      rintro _ rfl
      refine W_alloc (cs := [.string (⟨#[]⟩), .bool (false), .bool (false), .int .i64 (0), .int .i64 (0)]) rfl rfl Proofs.Try.zeroValue47 rfl (fun b244 => ?_)
      refine W_store (cs := [.string (y241.verb), .bool (y241.name), .bool (y241.n), .int .i64 (y241.low_), .int .i64 (y241.high_)]) (out := [.string (y241.verb), .bool (y241.name), .bool (y241.n), .int .i64 (y241.low_), .int .i64 (y241.high_)]) rfl Proofs.Try.sizeOf47 rfl rfl rfl rfl rfl (all_cons rfl (all_cons rfl (all_cons rfl (all_cons rfl (all_cons rfl all_nil))))) (over_all rfl) ?_
      refine W_end ?_
      refine E_then ?_
      refine C_seq ?_
      refine C_region ?_
      refine W_field (o := 0) rfl rfl Proofs.Try.runUnderlying47 rfl Proofs.Try.sizeOf9 rfl rfl rfl ?_
      refine W_load rfl rfl Proofs.Try.isAgg9 rfl (own_at (List.mem_cons_self ..) rfl) ?_
      refine W_move rfl rfl rfl ?_
      obtain ⟨r245, hc246, hm⟩ := bind_some hm
      refine W_call Proofs.Try.call8 rfl rfl rfl (fun w ht => by have h := m_strings_HasPrefix_c (hm := hc246)  ht; exact h) ?_
      rintro _ _ _ ⟨rfl, rfl, rfl⟩
      refine W_end ?_
      refine E_then ?_
      refine C_cond (b := r245) rfl (fun hb247 => ?_) (fun hb247 => ?_)
      · have hm := ite_t' hb247 hm
        refine C_region ?_
        refine W_move rfl rfl rfl ?_
        refine W_field (o := 0) rfl rfl Proofs.Try.runUnderlying47 rfl Proofs.Try.sizeOf9 rfl rfl rfl ?_
        refine W_load rfl rfl Proofs.Try.isAgg9 rfl (own_at (List.mem_cons_self ..) rfl) ?_
        refine W_buildSlice (α := ByteArray) (css := [[.string (y241.verb)]]) (zs := [.string (⟨#[]⟩)]) (out := [.string (y241.verb)]) (ys := [y241.verb]) rfl rfl rfl ⟨rfl, trivial⟩ Proofs.Try.runUnderlying22 Proofs.Try.sizeOf9 rfl Proofs.Try.zeroValue9 (by kernel_rfl) rfl rfl rfl rfl ⟨[.string (y241.verb)], [], rfl, rfl, rfl⟩ rfl ?_
        intro b248 v249 H250 hv251 hle252 h253
        have hc254 : Value.cap' v249 = ([y241.verb]).length := by rw [hv251]; rfl
        obtain ⟨hz255, hm⟩ := need_some hm
        refine W_perm (List.Perm.swap _ _ _) ?_
        refine W_appendO (α := ByteArray) (l := l202) (ys := [y241.verb]) rfl rfl Proofs.Try.underlying22 ⟨_, rfl, rfl, rfl, rfl⟩ rfl rfl rfl rfl rfl (hr203.mono hle252) h253 hz255 ?_
        intro v256 xs257 hr258
        refine W_assign rfl rfl rfl ?_
        refine W_end ?_
        refine E_normal_block ?_
        refine E_drop (List.Sublist.cons_cons _ (List.Sublist.cons _ (List.Sublist.refl _))) ?_
        exact E_keepJ (J240 _ _ _ ⟨(l202 ++ ([y241.verb])), v256, xs257, hm, hr258, hle252, rfl, rfl⟩) (List.Perm.refl _) ⟨rfl, rfl, rfl, rfl, trivial⟩
      · have hm := ite_f' hb247 hm
        refine C_skip ?_
        refine E_normal_block ?_
        refine E_drop (List.Sublist.cons _ (List.Sublist.refl _)) ?_
        exact E_keepJ (J240 _ _ _ ⟨l202, v200, xs201, hm, hr203, (Hp.le_refl _), rfl, rfl⟩) (List.Perm.refl _) ⟨rfl, rfl, rfl, rfl, trivial⟩
  · obtain rfl := rngN_f hd213 hb215
    have hm : ((m_slices_Sort_string_string l202).bind fun r259 => some r259) = some r := hm
    refine C_exit (E_exit_then ?_)
    refine E_exit_then ?_
    refine E_exit_hit ?_
    refine E_then ?_
    refine C_seq ?_
    refine C_region ?_
    refine W_move rfl rfl rfl ?_
    obtain ⟨r259, hc260, hm⟩ := bind_some hm
    refine W_call Proofs.Try.call19 rfl rfl rfl (fun w ht => by have h := m_slices_Sort_string_string_c (hm := hc260) hr203 ht; exact h) ?_
    rintro _ _ _ ⟨rfl, xs262, rfl, rfl, h263⟩
    have h263 := h263 H204
    refine W_end ?_
    refine E_then ?_
    refine C_seq ?_
    refine C_region ?_
    refine W_move rfl rfl rfl ?_
    refine W_assign rfl rfl rfl ?_
    refine W_end ?_
    refine E_then ?_
    refine C_ret ?_
    obtain rfl := Option.some.inj hm
    refine E_weak hle205 ?_
    exact end1 rfl rfl ⟨rfl, v200, xs262, rfl, rfl, (h263).toF⟩

theorem m_slices_IsSorted_string_string_c {B : Nat} {w0 w : World} {H : Hp} {M : List Res} {p0_x : (List ByteArray)} {v0 : Value} {r : Bool} (hm : m_slices_IsSorted_string_string p0_x = some r) (h0 : RdS H v0 p0_x) (ht : St B w0 H (M) w) :
    Calls Proofs.Try.prog 7 [v0].toArray w (Ret B w0 fun H' M' v => H = H' ∧ M = M' ∧ .bool (r) = v) := by
  unfold m_slices_IsSorted_string_string at hm
  refine enter Proofs.Try.func7 rfl rfl rfl ht ?_
  refine C_seq ?_
  refine C_region ?_
  refine W_assign rfl rfl rfl ?_
  refine W_end ?_
  refine E_then ?_
  refine C_seq ?_
  refine C_seq ?_
  refine C_region ?_
  refine W_move rfl rfl rfl ?_
  refine W_lenR rfl rfl Proofs.Try.runUnderlying22 rfl h0 ?_
  refine W_bin rfl rfl rfl rfl rfl ?_
  refine W_assign rfl rfl rfl ?_
  refine W_end ?_
  refine E_then ?_
  refine C_block ?_
  refine C_keep (L' := [(0, v0), (3, .int .i64 (IntKind.i64.wrap ((p0_x.length : Int) - 1)))]) ⟨rfl, rfl, trivial⟩ (List.Perm.refl _) ?_
  refine C_loop (fun n H' M' L' => ∃ n131 : Int, loopF (fun s134 n => m_slices_IsSorted_string_string_b1 p0_x s134 n) n n131 = some r ∧ H.le H' ∧ M = M' ∧ [(0, v0), (3, .int .i64 (n131))] = L') FUEL ⟨IntKind.i64.wrap ((p0_x.length : Int) - 1), hm, (Hp.le_refl _), rfl, rfl⟩ ?_
  rintro n137 H132 _ _ ⟨n131, hm, hle133, rfl, rfl⟩
  cases n137 with
  | zero => cases hm
  | succ n137 =>
    have hm : m_slices_IsSorted_string_string_b1 p0_x n131 (loopF (fun s134 n => m_slices_IsSorted_string_string_b1 p0_x s134 n) n137) = some r := hm
    generalize hn136 : loopF (fun s134 n => m_slices_IsSorted_string_string_b1 p0_x s134 n) n137 = nx135 at hm
    unfold m_slices_IsSorted_string_string_b1 at hm
    refine C_seq ?_
    refine C_seq ?_
    refine C_region ?_
    refine W_move rfl rfl rfl ?_
    refine W_bin rfl rfl rfl rfl rfl ?_
    refine W_end ?_
    refine E_then ?_
    refine C_cond (b := decide (0 < n131)) rfl (fun hb143 => ?_) (fun hb143 => ?_)
    · have hm := ite_t' hb143 hm
      refine C_skip ?_
      refine E_then ?_
      refine C_seq ?_
      refine C_block ?_
      refine C_seq ?_
      obtain ⟨y144, h145, he146, hm⟩ := idx_some hm
      obtain ⟨_, rfl, hc147⟩ := (h0).elem he146
      obtain ⟨y148, h149, he150, hm⟩ := idx_some hm
      obtain ⟨_, rfl, hc151⟩ := (h0).elem he150
      refine C_region_tok0 9 (phiT [(fun H rs v => [] = rs ∧ v0 = v), (fun H rs v => [] = rs ∧ .int .i64 (n131) = v), (fun H rs v => [] = rs ∧ .pointer (some ((Value.base (v0)).add ((n131 : Int).toNat * 1))) = v), (fun H rs v => [] = rs ∧ .string (y144) = v), (fun H rs v => [] = rs ∧ v0 = v), (fun H rs v => [] = rs ∧ .int .i64 (n131) = v), (fun H rs v => [] = rs ∧ .int .i64 (IntKind.i64.wrap (n131 - 1)) = v), (fun H rs v => [] = rs ∧ .pointer (some ((Value.base (v0)).add ((IntKind.i64.wrap (n131 - 1) : Int).toNat * 1))) = v), (fun H rs v => [] = rs ∧ .string (y148) = v)]) [[], [], [], [], [], [], [], [], []] [[], [], [], [], [], [], [], [], []] [] [0, 1, 2, 3, 4, 5, 6, 7, 8] Facts.mixed (by kernel_rfl) rfl rfl rfl (by kernel_rfl) (phiT_mono ⟨eq_monoT _ _, eq_monoT _ _, eq_monoT _ _, eq_monoT _ _, eq_monoT _ _, eq_monoT _ _, eq_monoT _ _, eq_monoT _ _, eq_monoT _ _, trivial⟩) ⟨?_, ?_, ?_, ?_, ?_, ?_, ?_, ?_, ?_, trivial⟩ ?_
      · intro HX hX X Rest hR
        intro hU
        refine W_move rfl rfl rfl ?_
        exact W_end (OneT_end [] (Hp.le_refl _) ⟨rfl, rfl⟩)
      · intro HX hX X Rest hR
        intro hU
        refine W_move rfl rfl rfl ?_
        exact W_end (OneT_end [] (Hp.le_refl _) ⟨rfl, rfl⟩)
      · intro HX hX X Rest hR
        rintro _ _ ⟨rfl, rfl⟩
        rintro _ _ ⟨rfl, rfl⟩
        intro hU
        refine W_indexS rfl rfl Proofs.Try.runUnderlying22 Proofs.Try.sizeOf9 rfl ((h0.mono hle133).mono hX) rfl h145 he146 ?_
        exact W_end (OneT_end [] (Hp.le_refl _) ⟨rfl, rfl⟩)
      · intro HX hX X Rest hR
        rintro _ _ ⟨rfl, rfl⟩
        intro hU
        refine W_load rfl rfl Proofs.Try.isAgg9 rfl (HCells.one ((hc147.mono hle133).mono hX) 0 rfl).at ?_
        exact W_end (OneT_end [] (Hp.le_refl _) ⟨rfl, rfl⟩)
      · intro HX hX X Rest hR
        intro hU
        refine W_move rfl rfl rfl ?_
        exact W_end (OneT_end [] (Hp.le_refl _) ⟨rfl, rfl⟩)
      · intro HX hX X Rest hR
        intro hU
        refine W_move rfl rfl rfl ?_
        exact W_end (OneT_end [] (Hp.le_refl _) ⟨rfl, rfl⟩)
      · intro HX hX X Rest hR
        rintro _ _ ⟨rfl, rfl⟩
        intro hU
        refine W_bin rfl rfl rfl rfl rfl ?_
        exact W_end (OneT_end [] (Hp.le_refl _) ⟨rfl, rfl⟩)
      · intro HX hX X Rest hR
        rintro _ _ ⟨rfl, rfl⟩
        rintro _ _ ⟨rfl, rfl⟩
        intro hU
        refine W_indexS rfl rfl Proofs.Try.runUnderlying22 Proofs.Try.sizeOf9 rfl ((h0.mono hle133).mono hX) rfl h149 he150 ?_
        exact W_end (OneT_end [] (Hp.le_refl _) ⟨rfl, rfl⟩)
      · intro HX hX X Rest hR
        rintro _ _ ⟨rfl, rfl⟩
        intro hU
        refine W_load rfl rfl Proofs.Try.isAgg9 rfl (HCells.one ((hc151.mono hle133).mono hX) 0 rfl).at ?_
        exact W_end (OneT_end [] (Hp.le_refl _) ⟨rfl, rfl⟩)
      intro H152 hle153
      rintro _ _ ⟨rfl, rfl⟩
      rintro _ _ ⟨rfl, rfl⟩
      rintro _ _ ⟨rfl, rfl⟩
      rintro _ _ ⟨rfl, rfl⟩
      rintro _ _ ⟨rfl, rfl⟩
      rintro _ _ ⟨rfl, rfl⟩
      rintro _ _ ⟨rfl, rfl⟩
      rintro _ _ ⟨rfl, rfl⟩
      rintro _ _ ⟨rfl, rfl⟩
      refine W_call Proofs.Try.call20 rfl rfl rfl (fun w ht => by have h := m_cmp_Less_string_c (hm := (rfl : m_cmp_Less_string y144 y148 = _))  ht; exact h) ?_
      rintro _ _ _ ⟨rfl, rfl, rfl⟩
      refine W_end ?_
      refine E_then ?_
      refine C_cond (b := (m_cmp_Less_string y144 y148)) rfl (fun hb154 => ?_) (fun hb154 => ?_)
      · have hm := ite_t' hb154 hm
        refine C_seq ?_
        refine C_region ?_
        refine W_assign rfl rfl rfl ?_
        refine W_end ?_
        refine E_then ?_
        refine C_ret ?_
        refine E_ret_block ?_
        refine E_ret_then ?_
        refine E_ret_then ?_
        refine E_ret_block ?_
        refine E_ret_then ?_
        obtain rfl := Option.some.inj hm
        refine E_weak (Hp.le_trans hle133 hle153) ?_
        exact end1 rfl rfl ⟨rfl, rfl, rfl⟩
      · have hm := ite_f' hb154 hm
        refine C_skip ?_
        refine E_normal_block ?_
        refine E_then ?_
        refine C_region ?_
        refine W_move rfl rfl rfl ?_
        refine W_bin rfl rfl rfl rfl rfl ?_
        refine W_assign rfl rfl rfl ?_
        refine W_end ?_
        exact E_keepJ (E_back (Nat.lt_succ_self _) ⟨IntKind.i64.wrap (n131 - 1), (by rw [hn136]; exact hm), (Hp.le_trans hle133 hle153), rfl, rfl⟩) (List.Perm.refl _) ⟨rfl, rfl, trivial⟩
    · have hm := ite_f' hb143 hm
      refine C_exit ?_
      refine E_exit_then ?_
      refine E_exit_then ?_
      refine E_exit_hit ?_
      refine E_then ?_
      refine C_seq ?_
      refine C_region ?_
      refine W_assign rfl rfl rfl ?_
      refine W_end ?_
      refine E_then ?_
      refine C_ret ?_
      obtain rfl := Option.some.inj hm
      refine E_weak hle133 ?_
      exact end1 rfl rfl ⟨rfl, rfl, rfl⟩

theorem m_slices_Equal_string_string_c {B : Nat} {w0 w : World} {H : Hp} {M : List Res} {p0_s1 : (List ByteArray)} {p1_s2 : (List ByteArray)} {v0 : Value} {v1 : Value} {r : Bool} (hm : m_slices_Equal_string_string p0_s1 p1_s2 = some r) (h0 : RdS H v0 p0_s1) (h1 : RdS H v1 p1_s2) (ht : St B w0 H (M) w) :
    Calls Proofs.Try.prog 9 [v0, v1].toArray w (Ret B w0 fun H' M' v => H = H' ∧ M = M' ∧ .bool (r) = v) := by
  unfold m_slices_Equal_string_string at hm
  refine enter Proofs.Try.func9 rfl rfl rfl ht ?_
  refine C_seq ?_
  refine C_region ?_
  refine W_assign rfl rfl rfl ?_
  refine W_end ?_
  refine E_then ?_
  refine C_seq ?_
  refine C_seq ?_
  refine C_region ?_
  refine W_move rfl rfl rfl ?_
  refine W_lenR rfl rfl Proofs.Try.runUnderlying22 rfl h0 ?_
  refine W_move rfl rfl rfl ?_
  refine W_lenR rfl rfl Proofs.Try.runUnderlying22 rfl h1 ?_
  refine W_bin rfl rfl rfl rfl rfl ?_
  refine W_end ?_
  refine E_then ?_
  refine C_cond (b := !decide ((p0_s1.length : Int) = (p1_s2.length : Int))) rfl (fun hb101 => ?_) (fun hb101 => ?_)
  · have hm := ite_t' hb101 hm
    refine C_seq ?_
    refine C_region ?_
    refine W_assign rfl rfl rfl ?_
    refine W_end ?_
    refine E_then ?_
    refine C_ret ?_
    refine E_ret_then ?_
    obtain rfl := Option.some.inj hm
    refine E_weak (Hp.le_refl _) ?_
    exact end1 rfl rfl ⟨rfl, rfl, rfl⟩
  · have hm := ite_f' hb101 hm
    refine C_skip ?_
    refine E_then ?_
    refine C_seq ?_
    refine C_seq ?_
    refine C_region ?_
    refine W_move rfl rfl rfl ?_
    refine W_lenR rfl rfl Proofs.Try.runUnderlying22 rfl h0 ?_
    refine W_move rfl rfl rfl ?_
    refine W_end ?_
    refine E_then ?_
    refine C_block ?_
    refine C_keep (L' := [(0, v0), (1, v1), (12, .int .i64 ((p0_s1.length : Int))), (13, .int .i64 (((0 : Nat) : Int)))]) ⟨rfl, rfl, rfl, rfl, trivial⟩ (List.Perm.refl _) ?_
    refine C_loop (fun n H' M' L' => ∃ (k102 : Nat) (zs136' : Nat), k102 + zs136' = ((p0_s1.length : Int) : Int).toNat ∧ zs136' = n ∧ forN (fun k s131 n => m_slices_Equal_string_string_b1 p0_s1 p1_s2 k n) (fun _ => some true) zs136' k102 () = some r ∧ H.le H' ∧ M = M' ∧ [(0, v0), (1, v1), (12, .int .i64 ((p0_s1.length : Int))), (13, .int .i64 ((k102 : Int)))] = L') _ ⟨0, _, Nat.zero_add _, rfl, hm, (Hp.le_refl _), rfl, rfl⟩ ?_
    rintro _ H129 _ _ ⟨k102, zs136', hd138, rfl, hm, hle130, rfl, rfl⟩
    refine C_seq ?_
    refine C_region ?_
    refine W_bin rfl rfl rfl rfl rfl ?_
    refine W_end (E_then ?_)
    refine C_seq ?_
    refine C_cond (b := decide ((k102 : Int) < (p0_s1.length : Int))) rfl (fun hb140 => ?_) (fun hb140 => ?_)
    · obtain ⟨zs136, rfl, hd139, hy137⟩ := rngN_t hd138 hb140
      have hm : m_slices_Equal_string_string_b1 p0_s1 p1_s2 k102 (forN (fun k s131 n => m_slices_Equal_string_string_b1 p0_s1 p1_s2 k n) (fun _ => some true) zs136 (k102 + 1)) = some r := hm
      generalize hn133 : forN (fun k s131 n => m_slices_Equal_string_string_b1 p0_s1 p1_s2 k n) (fun _ => some true) zs136 (k102 + 1) = nx132 at hm
      unfold m_slices_Equal_string_string_b1 at hm
      refine C_skip (E_then ?_)
      refine C_seq ?_
      refine C_block ?_
      refine C_seq ?_
      refine C_region ?_
      refine W_move rfl rfl rfl ?_
      refine W_assign rfl rfl rfl ?_
      refine W_end ?_
      refine E_then ?_
      refine C_seq ?_
      obtain ⟨y141, h142, he143, hm⟩ := idx_some hm
      obtain ⟨_, rfl, hc144⟩ := (h0).elem he143
      obtain ⟨y145, h146, he147, hm⟩ := idx_some hm
      obtain ⟨_, rfl, hc148⟩ := (h1).elem he147
      refine C_region_tok0 8 (phiT [(fun H rs v => [] = rs ∧ v0 = v), (fun H rs v => [] = rs ∧ .int .i64 ((k102 : Int)) = v), (fun H rs v => [] = rs ∧ .pointer (some ((Value.base (v0)).add (((k102 : Int) : Int).toNat * 1))) = v), (fun H rs v => [] = rs ∧ .string (y141) = v), (fun H rs v => [] = rs ∧ v1 = v), (fun H rs v => [] = rs ∧ .int .i64 ((k102 : Int)) = v), (fun H rs v => [] = rs ∧ .pointer (some ((Value.base (v1)).add (((k102 : Int) : Int).toNat * 1))) = v), (fun H rs v => [] = rs ∧ .string (y145) = v)]) [[], [], [], [], [], [], [], []] [[], [], [], [], [], [], [], []] [] [0, 1, 2, 3, 4, 5, 6, 7] Facts.mixed (by kernel_rfl) rfl rfl rfl (by kernel_rfl) (phiT_mono ⟨eq_monoT _ _, eq_monoT _ _, eq_monoT _ _, eq_monoT _ _, eq_monoT _ _, eq_monoT _ _, eq_monoT _ _, eq_monoT _ _, trivial⟩) ⟨?_, ?_, ?_, ?_, ?_, ?_, ?_, ?_, trivial⟩ ?_
      · intro HX hX X Rest hR
        intro hU
        refine W_move rfl rfl rfl ?_
        exact W_end (OneT_end [] (Hp.le_refl _) ⟨rfl, rfl⟩)
      · intro HX hX X Rest hR
        intro hU
        refine W_move rfl rfl rfl ?_
        exact W_end (OneT_end [] (Hp.le_refl _) ⟨rfl, rfl⟩)
      · intro HX hX X Rest hR
        rintro _ _ ⟨rfl, rfl⟩
        rintro _ _ ⟨rfl, rfl⟩
        intro hU
        refine W_indexS rfl rfl Proofs.Try.runUnderlying22 Proofs.Try.sizeOf9 rfl ((h0.mono hle130).mono hX) rfl h142 he143 ?_
        exact W_end (OneT_end [] (Hp.le_refl _) ⟨rfl, rfl⟩)
      · intro HX hX X Rest hR
        rintro _ _ ⟨rfl, rfl⟩
        intro hU
        refine W_load rfl rfl Proofs.Try.isAgg9 rfl (HCells.one ((hc144.mono hle130).mono hX) 0 rfl).at ?_
        exact W_end (OneT_end [] (Hp.le_refl _) ⟨rfl, rfl⟩)
      · intro HX hX X Rest hR
        intro hU
        refine W_move rfl rfl rfl ?_
        exact W_end (OneT_end [] (Hp.le_refl _) ⟨rfl, rfl⟩)
      · intro HX hX X Rest hR
        intro hU
        refine W_move rfl rfl rfl ?_
        exact W_end (OneT_end [] (Hp.le_refl _) ⟨rfl, rfl⟩)
      · intro HX hX X Rest hR
        rintro _ _ ⟨rfl, rfl⟩
        rintro _ _ ⟨rfl, rfl⟩
        intro hU
        refine W_indexS rfl rfl Proofs.Try.runUnderlying22 Proofs.Try.sizeOf9 rfl ((h1.mono hle130).mono hX) rfl h146 he147 ?_
        exact W_end (OneT_end [] (Hp.le_refl _) ⟨rfl, rfl⟩)
      · intro HX hX X Rest hR
        rintro _ _ ⟨rfl, rfl⟩
        intro hU
        refine W_load rfl rfl Proofs.Try.isAgg9 rfl (HCells.one ((hc148.mono hle130).mono hX) 0 rfl).at ?_
        exact W_end (OneT_end [] (Hp.le_refl _) ⟨rfl, rfl⟩)
      intro H149 hle150
      rintro _ _ ⟨rfl, rfl⟩
      rintro _ _ ⟨rfl, rfl⟩
      rintro _ _ ⟨rfl, rfl⟩
      rintro _ _ ⟨rfl, rfl⟩
      rintro _ _ ⟨rfl, rfl⟩
      rintro _ _ ⟨rfl, rfl⟩
      rintro _ _ ⟨rfl, rfl⟩
      rintro _ _ ⟨rfl, rfl⟩
      refine W_bin rfl rfl rfl rfl rfl ?_
      refine W_end ?_
      refine E_then ?_
      refine C_cond (b := !decide (y141 = y145)) rfl (fun hb151 => ?_) (fun hb151 => ?_)
      · have hm := ite_t' hb151 hm
        refine C_seq ?_
        refine C_region ?_
        refine W_assign rfl rfl rfl ?_
        refine W_end ?_
        refine E_then ?_
        refine C_ret ?_
        refine E_ret_block ?_
        refine E_ret_then ?_
        refine E_ret_then ?_
        refine E_ret_block ?_
        refine E_ret_then ?_
        obtain rfl := Option.some.inj hm
        refine E_weak (Hp.le_trans hle130 hle150) ?_
        exact end1 rfl rfl ⟨rfl, rfl, rfl⟩
      · have hm := ite_f' hb151 hm
        refine C_skip ?_
        refine E_normal_block ?_
        refine E_then ?_
        refine C_region ?_
        refine W_bin rfl rfl rfl rfl rfl ?_
        refine W_move rfl rfl rfl ?_
        refine W_end ?_
        exact E_keepJ (E_back (Nat.lt_succ_self _) ⟨k102 + 1, zs136, hd139, rfl, (by rw [hn133]; exact hm), (Hp.le_trans hle130 hle150), rfl, rfl⟩) (List.Perm.refl _) ⟨rfl, rfl, rfl, (congrArg (fun z => some (Value.int .i64 z)) (i64_succN hy137 (toNat_max (len_max (h0).lenMax)))), trivial⟩
    · obtain rfl := rngN_f hd138 hb140
      have hm : (some true) = some r := hm
      refine C_exit (E_exit_then ?_)
      refine E_exit_then ?_
      refine E_exit_hit ?_
      refine E_then ?_
      refine C_seq ?_
      refine C_region ?_
      refine W_assign rfl rfl rfl ?_
      refine W_end ?_
      refine E_then ?_
      refine C_ret ?_
      obtain rfl := Option.some.inj hm
      refine E_weak hle130 ?_
      exact end1 rfl rfl ⟨rfl, rfl, rfl⟩

theorem m_gridhallkeep4_ConsoleCompletes_c {B : Nat} {w0 w : World} {H : Hp} {M : List Res} {p0_s : ByteArray} {r : Bool} (hm : m_gridhallkeep4_ConsoleCompletes p0_s = some r) (ht : St B w0 H (M) w) :
    Calls Proofs.Try.prog 3 [.string (p0_s)].toArray w (Ret B w0 fun H' M' v => H = H' ∧ M = M' ∧ .bool (r) = v) := by
  unfold m_gridhallkeep4_ConsoleCompletes at hm
  refine enter Proofs.Try.func3 rfl rfl rfl ht ?_
  refine C_seq ?_
  refine C_region ?_
  refine W_assign rfl rfl rfl ?_
  refine W_end ?_
  refine E_then ?_
  refine C_seq ?_
  refine C_region ?_
  obtain ⟨r101, hc102, hm⟩ := bind_some hm
  refine W_call Proofs.Try.call6 rfl rfl rfl (fun w ht => by have h := m_console_Complete_c (hm := hc102)  ht; exact h) ?_
  rintro _ _ _ ⟨rfl, v103, xs104, rfl, rfl, h105⟩
  have h105 := h105 H
  refine W_assign rfl rfl rfl ?_
  refine W_end ?_
  refine E_then ?_
  refine C_seq ?_
  refine C_seq ?_
  refine C_region ?_
  refine W_move rfl rfl rfl ?_
  refine W_lenO (List.mem_cons_self ..) rfl rfl Proofs.Try.runUnderlying22 rfl ?_
  refine W_bin rfl rfl rfl rfl rfl ?_
  refine W_move rfl rfl rfl ?_
  cases hb106 : (decide ((r101.length : Int) = 8))
  · have hm := ite_f' hb106 hm
    refine W_no rfl rfl rfl ?_
    refine W_no rfl rfl rfl ?_
    refine W_no rfl rfl rfl ?_
    refine W_pick rfl rfl rfl rfl ?_
    refine W_end ?_
    refine E_then ?_
    refine C_cond (b := true) rfl (fun _ => ?_) (fun hb => Bool.noConfusion hb)
    refine C_seq ?_
    refine C_region ?_
    refine W_assign rfl rfl rfl ?_
    refine W_end ?_
    refine E_then ?_
    refine C_ret ?_
    refine E_ret_then ?_
    obtain rfl := Option.some.inj hm
    refine E_drop (List.Sublist.cons _ (List.Sublist.refl _)) ?_
    refine E_weak (Hp.le_refl _) ?_
    exact end1 rfl rfl ⟨rfl, rfl, rfl⟩
  · have hm := ite_t' hb106 hm
    refine W_move rfl rfl rfl ?_
    obtain ⟨r107, hc108, hm⟩ := bind_some hm
    refine W_call Proofs.Try.call7 rfl rfl rfl (fun w ht => by obtain ⟨H0_, hl0_, ht0_, hr0_, bk0_⟩ := ht.lendRow h105 rfl; have h := m_slices_IsSorted_string_string_c (hm := hc108) hr0_ ht0_; exact lend_back bk0_ (h)) ?_
    rintro _ _ _ ⟨rfl, ⟨_, rfl, rfl, rfl⟩⟩
    refine W_un rfl rfl rfl rfl ?_
    refine W_pick rfl rfl rfl rfl ?_
    refine W_end ?_
    refine E_then ?_
    refine C_cond (b := !r107) rfl (fun hb109 => ?_) (fun hb109 => ?_)
    · have hm := ite_t' hb109 hm
      refine C_seq ?_
      refine C_region ?_
      refine W_assign rfl rfl rfl ?_
      refine W_end ?_
      refine E_then ?_
      refine C_ret ?_
      refine E_ret_then ?_
      obtain rfl := Option.some.inj hm
      refine E_drop (List.Sublist.cons _ (List.Sublist.refl _)) ?_
      refine E_weak (Hp.le_refl _) ?_
      exact end1 rfl rfl ⟨rfl, rfl, rfl⟩
    · have hm := ite_f' hb109 hm
      refine C_skip ?_
      refine E_then ?_
      refine C_seq ?_
      refine C_region ?_
      refine W_assign rfl rfl rfl ?_
      refine W_end ?_
      refine E_then ?_
      refine C_seq ?_
      refine C_seq ?_
      refine C_region ?_
      refine W_move rfl rfl rfl ?_
      refine W_lenO (List.mem_cons_self ..) rfl rfl Proofs.Try.runUnderlying22 rfl ?_
      refine W_move rfl rfl rfl ?_
      refine W_end ?_
      refine E_then ?_
      refine C_block ?_
      refine C_rowMax (List.mem_cons_self ..) (fun hmx207 => ?_)
      refine C_nilRow 9 (Rep.sz ByteArray) ?_
      refine C_keep (L' := [(0, .string (p0_s)), (4, (.slice none 0 0)), (16, v103), (17, .int .i64 ((r101.length : Int))), (18, .int .i64 (((0 : Nat) : Int)))]) ⟨rfl, rfl, rfl, rfl, rfl, trivial⟩ (List.Perm.refl _) ?_
      refine C_loop (fun n H' M' L' => ∃ (k110 : Nat) (zs209' : List ByteArray), ∃ l199 : List ByteArray, ∃ v197 : Value, ∃ xs198 : List Value, (r101).drop k110 = zs209' ∧ zs209'.length = n ∧ forI (fun k y s203 n => m_gridhallkeep4_ConsoleCompletes_b3 p0_s k y s203 n) (fun s203 => (m_console_Complete p0_s).bind fun r251 => (m_slices_Equal_string_string r251 s203).bind fun r256 => some r256) k110 zs209' l199 = some r ∧ Rw H' v197 xs198 l199 ∧ H.le H' ∧ .row v197 9 (Rep.sz ByteArray) l199.length xs198 :: .row v103 9 (Rep.sz ByteArray) r101.length xs104 :: M = M' ∧ [(0, .string (p0_s)), (4, v197), (16, v103), (17, .int .i64 ((r101.length : Int))), (18, .int .i64 ((k110 : Int)))] = L') _ ⟨0, _, ([] : List ByteArray), (.slice none 0 0), ([]), rfl, rfl, hm, Rw.nil, (Hp.le_refl _), rfl, rfl⟩ ?_
      rintro _ H201 _ _ ⟨k110, zs209', l199, v197, xs198, hd211, rfl, hm, hr200, hle202, rfl, rfl⟩
      refine C_seq ?_
      refine C_region ?_
      refine W_bin rfl rfl rfl rfl rfl ?_
      refine W_end (E_then ?_)
      refine C_seq ?_
      refine C_cond (b := decide ((k110 : Int) < (r101.length : Int))) rfl (fun hb213 => ?_) (fun hb213 => ?_)
      · obtain ⟨y208, zs209, rfl, hy210, hd212⟩ := rng_t hd211 hb213
        have hm : m_gridhallkeep4_ConsoleCompletes_b3 p0_s k110 y208 l199 (forI (fun k y s203 n => m_gridhallkeep4_ConsoleCompletes_b3 p0_s k y s203 n) (fun s203 => (m_console_Complete p0_s).bind fun r251 => (m_slices_Equal_string_string r251 s203).bind fun r256 => some r256) (k110 + 1) zs209) = some r := hm
        generalize hn205 : forI (fun k y s203 n => m_gridhallkeep4_ConsoleCompletes_b3 p0_s k y s203 n) (fun s203 => (m_console_Complete p0_s).bind fun r251 => (m_slices_Equal_string_string r251 s203).bind fun r256 => some r256) (k110 + 1) zs209 = nx204 at hm
        unfold m_gridhallkeep4_ConsoleCompletes_b3 at hm
        refine C_skip (E_then ?_)
        refine C_seq_join (fun H' M' L' => ∃ l231 : List ByteArray, ∃ v229 : Value, ∃ xs230 : List Value, m_gridhallkeep4_ConsoleCompletes_b4 nx204 l231 = some r ∧ Rw H' v229 xs230 l231 ∧ H201.le H' ∧ .row v229 9 (Rep.sz ByteArray) l231.length xs230 :: .row v103 9 (Rep.sz ByteArray) r101.length xs104 :: M = M' ∧ [(0, .string (p0_s)), (4, v229), (16, v103), (17, .int .i64 ((r101.length : Int))), (18, .int .i64 ((k110 : Int)))] = L') ?_ (fun J235 => ?_)
        · rintro H233 _ _ ⟨l231, v229, xs230, hm, hr232, hle234, rfl, rfl⟩
          unfold m_gridhallkeep4_ConsoleCompletes_b4 at hm
          refine C_region ?_
          refine W_bin rfl rfl rfl rfl rfl ?_
          refine W_move rfl rfl rfl ?_
          refine W_end ?_
          exact E_keepJ (E_back (Nat.lt_succ_self _) ⟨k110 + 1, zs209, l231, v229, xs230, hd212, rfl, (by rw [hn205]; exact hm), hr232, (Hp.le_trans hle202 hle234), rfl, rfl⟩) (List.Perm.refl _) ⟨rfl, rfl, rfl, rfl, (congrArg (fun z => some (Value.int .i64 z)) (i64_succ hy210 hmx207)), trivial⟩
        · refine C_block ?_
          refine C_seq ?_
          refine C_region ?_
          refine W_indexO (List.mem_cons_of_mem _ (List.mem_cons_self ..)) rfl rfl Proofs.Try.runUnderlying22 Proofs.Try.sizeOf9 rfl rfl (Int.natCast_nonneg _) (List.getElem?_eq_some_iff.1 hy210).1 ?_
          obtain ⟨_, rfl, hg236⟩ := (h105).elem hy210
          refine W_load rfl rfl Proofs.Try.isAgg9 rfl (row_one0 (List.mem_cons_of_mem _ (List.mem_cons_self ..)) hg236 rfl) ?_
          refine W_assign rfl rfl rfl ?_
          refine W_end ?_
          refine E_then ?_
          refine C_seq ?_
          refine C_region ?_
          refine W_move rfl rfl rfl ?_
          refine W_move rfl rfl rfl ?_
          obtain ⟨r237, hc238, hm⟩ := bind_some hm
          refine W_call Proofs.Try.call8 rfl rfl rfl (fun w ht => by have h := m_strings_HasPrefix_c (hm := hc238)  ht; exact h) ?_
          rintro _ _ _ ⟨rfl, rfl, rfl⟩
          refine W_end ?_
          refine E_then ?_
          refine C_cond (b := r237) rfl (fun hb239 => ?_) (fun hb239 => ?_)
          · have hm := ite_t' hb239 hm
            refine C_region ?_
            refine W_move rfl rfl rfl ?_
            refine W_move rfl rfl rfl ?_
            refine W_buildSlice (α := ByteArray) (css := [[.string (y208)]]) (zs := [.string (⟨#[]⟩)]) (out := [.string (y208)]) (ys := [y208]) rfl rfl rfl ⟨rfl, trivial⟩ Proofs.Try.runUnderlying22 Proofs.Try.sizeOf9 rfl Proofs.Try.zeroValue9 (by kernel_rfl) rfl rfl rfl rfl ⟨[.string (y208)], [], rfl, rfl, rfl⟩ rfl ?_
            intro b240 v241 H242 hv243 hle244 h245
            have hc246 : Value.cap' v241 = ([y208]).length := by rw [hv243]; rfl
            obtain ⟨hz247, hm⟩ := need_some hm
            refine W_appendO (α := ByteArray) (l := l199) (ys := [y208]) rfl rfl Proofs.Try.underlying22 ⟨_, rfl, rfl, rfl, rfl⟩ rfl rfl rfl rfl rfl (hr200.mono hle244) h245 hz247 ?_
            intro v248 xs249 hr250
            refine W_assign rfl rfl rfl ?_
            refine W_end ?_
            refine E_normal_block ?_
            exact E_keepJ (J235 _ _ _ ⟨(l199 ++ ([y208])), v248, xs249, hm, hr250, hle244, rfl, rfl⟩) (List.Perm.refl _) ⟨rfl, rfl, rfl, rfl, rfl, trivial⟩
          · have hm := ite_f' hb239 hm
            refine C_skip ?_
            refine E_normal_block ?_
            exact E_keepJ (J235 _ _ _ ⟨l199, v197, xs198, hm, hr200, (Hp.le_refl _), rfl, rfl⟩) (List.Perm.refl _) ⟨rfl, rfl, rfl, rfl, rfl, trivial⟩
      · obtain rfl := rng_f hd211 hb213
        have hm : ((m_console_Complete p0_s).bind fun r251 => (m_slices_Equal_string_string r251 l199).bind fun r256 => some r256) = some r := hm
        refine C_exit (E_exit_then ?_)
        refine E_exit_then ?_
        refine E_exit_hit ?_
        refine E_then ?_
        refine C_seq ?_
        refine C_region ?_
        refine W_move rfl rfl rfl ?_
        obtain ⟨r251, hc252, hm⟩ := bind_some hm
        refine W_call Proofs.Try.call6 rfl rfl rfl (fun w ht => by have h := m_console_Complete_c (hm := hc252)  ht; exact h) ?_
        rintro _ _ _ ⟨rfl, v253, xs254, rfl, rfl, h255⟩
        have h255 := h255 H201
        refine W_move rfl rfl rfl ?_
        obtain ⟨r256, hc257, hm⟩ := bind_some hm
        refine W_call Proofs.Try.call9 rfl rfl rfl (fun w ht => by obtain ⟨H0_, hl0_, ht0_, hr0_, bk0_⟩ := ht.lendRow h255 rfl; obtain ⟨H1_, hl1_, ht1_, hr1_, bk1_⟩ := ht0_.lendRow (hr200.mono hl0_) rfl; have h := m_slices_Equal_string_string_c (hm := hc257) (hr0_.mono hl1_) hr1_ ht1_; exact lend_back bk0_ (lend_back bk1_ (h))) ?_
        rintro _ _ _ ⟨rfl, ⟨_, rfl, ⟨_, rfl, rfl, rfl⟩⟩⟩
        refine W_assign rfl rfl rfl ?_
        refine W_end ?_
        refine E_then ?_
        refine C_ret ?_
        obtain rfl := Option.some.inj hm
        refine E_drop (List.Sublist.cons _ (List.Sublist.cons _ (List.Sublist.cons _ (List.Sublist.refl _)))) ?_
        refine E_weak hle202 ?_
        exact end1 rfl rfl ⟨rfl, rfl, rfl⟩
end Go.Sim
