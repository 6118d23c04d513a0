/-
  Printed by a program: each Go function computes its model.
-/
import Derived.Test.YtlcjellgoicajaaDoorModC
import Derived.Test.YtlcjellgoicajaaDoorRows
import Derived.KernelRfl
import Derived.Test.YtlcjellgoicajaaDoorShelf
namespace Go.Sim
open Go
set_option linter.unusedVariables false
set_option linter.unusedSimpArgs false
set_option maxRecDepth 100000
theorem Facts.mixed : Proofs.Tryd.prog.follows .mixedOrders = true := by kernel_rfl

class Tabs (B : Nat) (w0 : World) : Prop where
  lt : 8 ≤ B
  e1 : ∃ T p, w0.var? Proofs.Tryd.prog "strconv.ErrSyntax" = some #[.iface T p]
  e2 : ∃ T p, w0.var? Proofs.Tryd.prog "strconv.ErrRange" = some #[.iface T p]
  t3 : Lib.TabIs Proofs.Tryd.prog w0 "internal/strconv.uint64pow10" .u64 gt3
  t6 : Lib.TabIs Proofs.Tryd.prog w0 "math/bits.deBruijn32tab" .u8 gt6
  t7 : Lib.TabIs Proofs.Tryd.prog w0 "math/bits.deBruijn64tab" .u8 gt7
theorem Tabs.below {B : Nat} {w0 : World} [h : Tabs B w0] {g : Nat} (hg : Nat.blt g 8 = true) : g < B := by
  have := h.lt
  have : g < 8 := by simpa [Nat.blt_eq] using hg
  omega
theorem gn1 : Proofs.Tryd.prog.globalNamed "strconv.ErrSyntax" = some 1 := by kernel_rfl
theorem gn2 : Proofs.Tryd.prog.globalNamed "strconv.ErrRange" = some 2 := by kernel_rfl
theorem gn3 : Proofs.Tryd.prog.globalNamed "internal/strconv.uint64pow10" = some 3 := by kernel_rfl
theorem gn6 : Proofs.Tryd.prog.globalNamed "math/bits.deBruijn32tab" = some 6 := by kernel_rfl
theorem gn7 : Proofs.Tryd.prog.globalNamed "math/bits.deBruijn64tab" = some 7 := by kernel_rfl

theorem m_console_forms_c {B : Nat} {w0 w : World} [Tabs B w0] {H : Hp} {M : List Res} {r : S_A8_S_console_form} (hm : m_console_forms = r) (ht : St B w0 H (M) w) :
    Calls Proofs.Tryd.prog 23 [].toArray w (Ret B w0 fun H' M' v => H = H' ∧ M = M' ∧ .agg [.string (r.a0.verb), .bool (r.a0.name), .bool (r.a0.n), .int .i64 (r.a0.low_), .int .i64 (r.a0.high_), .string (r.a1.verb), .bool (r.a1.name), .bool (r.a1.n), .int .i64 (r.a1.low_), .int .i64 (r.a1.high_), .string (r.a2.verb), .bool (r.a2.name), .bool (r.a2.n), .int .i64 (r.a2.low_), .int .i64 (r.a2.high_), .string (r.a3.verb), .bool (r.a3.name), .bool (r.a3.n), .int .i64 (r.a3.low_), .int .i64 (r.a3.high_), .string (r.a4.verb), .bool (r.a4.name), .bool (r.a4.n), .int .i64 (r.a4.low_), .int .i64 (r.a4.high_), .string (r.a5.verb), .bool (r.a5.name), .bool (r.a5.n), .int .i64 (r.a5.low_), .int .i64 (r.a5.high_), .string (r.a6.verb), .bool (r.a6.name), .bool (r.a6.n), .int .i64 (r.a6.low_), .int .i64 (r.a6.high_), .string (r.a7.verb), .bool (r.a7.name), .bool (r.a7.n), .int .i64 (r.a7.low_), .int .i64 (r.a7.high_)].toArray = v) := by
  unfold m_console_forms at hm
  refine enter Proofs.Tryd.func23 rfl rfl rfl ht ?_
  refine C_seq ?_
  refine C_region ?_
  refine W_alloc (cs := [.string (⟨#[]⟩), .bool (false), .bool (false), .int .i64 (0), .int .i64 (0), .string (⟨#[]⟩), .bool (false), .bool (false), .int .i64 (0), .int .i64 (0), .string (⟨#[]⟩), .bool (false), .bool (false), .int .i64 (0), .int .i64 (0), .string (⟨#[]⟩), .bool (false), .bool (false), .int .i64 (0), .int .i64 (0), .string (⟨#[]⟩), .bool (false), .bool (false), .int .i64 (0), .int .i64 (0), .string (⟨#[]⟩), .bool (false), .bool (false), .int .i64 (0), .int .i64 (0), .string (⟨#[]⟩), .bool (false), .bool (false), .int .i64 (0), .int .i64 (0), .string (⟨#[]⟩), .bool (false), .bool (false), .int .i64 (0), .int .i64 (0)]) rfl rfl Proofs.Tryd.zeroValue58 rfl (fun b101 => ?_)
  refine W_end ?_
  refine E_then ?_
  refine C_seq ?_
  refine C_region ?_
  refine W_build (css := [[.string (⟨#[111, 112, 101, 110]⟩)], [.bool (true)]]) (zs := [.string (⟨#[]⟩), .bool (false), .bool (false), .int .i64 (0), .int .i64 (0)]) (out := [.string (⟨#[111, 112, 101, 110]⟩), .bool (true), .bool (false), .int .i64 (0), .int .i64 (0)]) (places := [(0, 1), (1, 1), (2, 1), (3, 1), (4, 1)]) rfl rfl rfl ⟨rfl, rfl, trivial⟩ Proofs.Tryd.zeroValue43 rfl Proofs.Tryd.runUnderlying43 (fun w => by kernel_rfl) rfl ?_
  refine W_build (css := [[.string (⟨#[99, 108, 111, 115, 101]⟩)], [.bool (true)]]) (zs := [.string (⟨#[]⟩), .bool (false), .bool (false), .int .i64 (0), .int .i64 (0)]) (out := [.string (⟨#[99, 108, 111, 115, 101]⟩), .bool (true), .bool (false), .int .i64 (0), .int .i64 (0)]) (places := [(0, 1), (1, 1), (2, 1), (3, 1), (4, 1)]) rfl rfl rfl ⟨rfl, rfl, trivial⟩ Proofs.Tryd.zeroValue43 rfl Proofs.Tryd.runUnderlying43 (fun w => by kernel_rfl) rfl ?_
  refine W_build (css := [[.string (⟨#[97, 99, 107]⟩)], [.bool (true)]]) (zs := [.string (⟨#[]⟩), .bool (false), .bool (false), .int .i64 (0), .int .i64 (0)]) (out := [.string (⟨#[97, 99, 107]⟩), .bool (true), .bool (false), .int .i64 (0), .int .i64 (0)]) (places := [(0, 1), (1, 1), (2, 1), (3, 1), (4, 1)]) rfl rfl rfl ⟨rfl, rfl, trivial⟩ Proofs.Tryd.zeroValue43 rfl Proofs.Tryd.runUnderlying43 (fun w => by kernel_rfl) rfl ?_
  refine W_build (css := [[.string (⟨#[108, 111, 97, 100]⟩)], [.bool (true)], [.bool (true)], [.int .i64 (0)], [.int .i64 (100000)]]) (zs := [.string (⟨#[]⟩), .bool (false), .bool (false), .int .i64 (0), .int .i64 (0)]) (out := [.string (⟨#[108, 111, 97, 100]⟩), .bool (true), .bool (true), .int .i64 (0), .int .i64 (100000)]) (places := [(0, 1), (1, 1), (2, 1), (3, 1), (4, 1)]) rfl rfl rfl ⟨rfl, rfl, rfl, rfl, rfl, trivial⟩ Proofs.Tryd.zeroValue43 rfl Proofs.Tryd.runUnderlying43 (fun w => by kernel_rfl) rfl ?_
  refine W_build (css := [[.string (⟨#[103, 101, 110]⟩)], [.bool (true)], [.bool (true)], [.int .i64 (0)], [.int .i64 (100000)]]) (zs := [.string (⟨#[]⟩), .bool (false), .bool (false), .int .i64 (0), .int .i64 (0)]) (out := [.string (⟨#[103, 101, 110]⟩), .bool (true), .bool (true), .int .i64 (0), .int .i64 (100000)]) (places := [(0, 1), (1, 1), (2, 1), (3, 1), (4, 1)]) rfl rfl rfl ⟨rfl, rfl, rfl, rfl, rfl, trivial⟩ Proofs.Tryd.zeroValue43 rfl Proofs.Tryd.runUnderlying43 (fun w => by kernel_rfl) rfl ?_
  refine W_build (css := [[.string (⟨#[115, 116, 111, 114, 101]⟩)], [.bool (true)], [.bool (true)], [.int .i64 ((-100000))], [.int .i64 (100000)]]) (zs := [.string (⟨#[]⟩), .bool (false), .bool (false), .int .i64 (0), .int .i64 (0)]) (out := [.string (⟨#[115, 116, 111, 114, 101]⟩), .bool (true), .bool (true), .int .i64 ((-100000)), .int .i64 (100000)]) (places := [(0, 1), (1, 1), (2, 1), (3, 1), (4, 1)]) rfl rfl rfl ⟨rfl, rfl, rfl, rfl, rfl, trivial⟩ Proofs.Tryd.zeroValue43 rfl Proofs.Tryd.runUnderlying43 (fun w => by kernel_rfl) rfl ?_
  refine W_build (css := [[.string (⟨#[119, 97, 105, 116]⟩)], [.bool (false)], [.bool (true)], [.int .i64 (0)], [.int .i64 (3600)]]) (zs := [.string (⟨#[]⟩), .bool (false), .bool (false), .int .i64 (0), .int .i64 (0)]) (out := [.string (⟨#[119, 97, 105, 116]⟩), .bool (false), .bool (true), .int .i64 (0), .int .i64 (3600)]) (places := [(0, 1), (1, 1), (2, 1), (3, 1), (4, 1)]) rfl rfl rfl ⟨rfl, rfl, rfl, rfl, rfl, trivial⟩ Proofs.Tryd.zeroValue43 rfl Proofs.Tryd.runUnderlying43 (fun w => by kernel_rfl) rfl ?_
  refine W_build (css := [[.string (⟨#[116, 101, 108, 108]⟩)]]) (zs := [.string (⟨#[]⟩), .bool (false), .bool (false), .int .i64 (0), .int .i64 (0)]) (out := [.string (⟨#[116, 101, 108, 108]⟩), .bool (false), .bool (false), .int .i64 (0), .int .i64 (0)]) (places := [(0, 1), (1, 1), (2, 1), (3, 1), (4, 1)]) rfl rfl rfl ⟨rfl, trivial⟩ Proofs.Tryd.zeroValue43 rfl Proofs.Tryd.runUnderlying43 (fun w => by kernel_rfl) rfl ?_
  refine W_buildArr (css := [[.string (⟨#[111, 112, 101, 110]⟩), .bool (true), .bool (false), .int .i64 (0), .int .i64 (0)], [.string (⟨#[99, 108, 111, 115, 101]⟩), .bool (true), .bool (false), .int .i64 (0), .int .i64 (0)], [.string (⟨#[97, 99, 107]⟩), .bool (true), .bool (false), .int .i64 (0), .int .i64 (0)], [.string (⟨#[108, 111, 97, 100]⟩), .bool (true), .bool (true), .int .i64 (0), .int .i64 (100000)], [.string (⟨#[103, 101, 110]⟩), .bool (true), .bool (true), .int .i64 (0), .int .i64 (100000)], [.string (⟨#[115, 116, 111, 114, 101]⟩), .bool (true), .bool (true), .int .i64 ((-100000)), .int .i64 (100000)], [.string (⟨#[119, 97, 105, 116]⟩), .bool (false), .bool (true), .int .i64 (0), .int .i64 (3600)], [.string (⟨#[116, 101, 108, 108]⟩), .bool (false), .bool (false), .int .i64 (0), .int .i64 (0)]]) (zs := [.string (⟨#[]⟩), .bool (false), .bool (false), .int .i64 (0), .int .i64 (0), .string (⟨#[]⟩), .bool (false), .bool (false), .int .i64 (0), .int .i64 (0), .string (⟨#[]⟩), .bool (false), .bool (false), .int .i64 (0), .int .i64 (0), .string (⟨#[]⟩), .bool (false), .bool (false), .int .i64 (0), .int .i64 (0), .string (⟨#[]⟩), .bool (false), .bool (false), .int .i64 (0), .int .i64 (0), .string (⟨#[]⟩), .bool (false), .bool (false), .int .i64 (0), .int .i64 (0), .string (⟨#[]⟩), .bool (false), .bool (false), .int .i64 (0), .int .i64 (0), .string (⟨#[]⟩), .bool (false), .bool (false), .int .i64 (0), .int .i64 (0)]) (out := [.string (⟨#[111, 112, 101, 110]⟩), .bool (true), .bool (false), .int .i64 (0), .int .i64 (0), .string (⟨#[99, 108, 111, 115, 101]⟩), .bool (true), .bool (false), .int .i64 (0), .int .i64 (0), .string (⟨#[97, 99, 107]⟩), .bool (true), .bool (false), .int .i64 (0), .int .i64 (0), .string (⟨#[108, 111, 97, 100]⟩), .bool (true), .bool (true), .int .i64 (0), .int .i64 (100000), .string (⟨#[103, 101, 110]⟩), .bool (true), .bool (true), .int .i64 (0), .int .i64 (100000), .string (⟨#[115, 116, 111, 114, 101]⟩), .bool (true), .bool (true), .int .i64 ((-100000)), .int .i64 (100000), .string (⟨#[119, 97, 105, 116]⟩), .bool (false), .bool (true), .int .i64 (0), .int .i64 (3600), .string (⟨#[116, 101, 108, 108]⟩), .bool (false), .bool (false), .int .i64 (0), .int .i64 (0)]) (places := [(0, 5), (5, 5), (10, 5), (15, 5), (20, 5), (25, 5), (30, 5), (35, 5)]) rfl rfl rfl ⟨rfl, rfl, rfl, rfl, rfl, rfl, rfl, rfl, trivial⟩ Proofs.Tryd.zeroValue58 rfl Proofs.Tryd.runUnderlying58 Proofs.Tryd.sizeOf43 rfl (by kernel_rfl) ?_
  refine W_store (cs := [.string (⟨#[111, 112, 101, 110]⟩), .bool (true), .bool (false), .int .i64 (0), .int .i64 (0), .string (⟨#[99, 108, 111, 115, 101]⟩), .bool (true), .bool (false), .int .i64 (0), .int .i64 (0), .string (⟨#[97, 99, 107]⟩), .bool (true), .bool (false), .int .i64 (0), .int .i64 (0), .string (⟨#[108, 111, 97, 100]⟩), .bool (true), .bool (true), .int .i64 (0), .int .i64 (100000), .string (⟨#[103, 101, 110]⟩), .bool (true), .bool (true), .int .i64 (0), .int .i64 (100000), .string (⟨#[115, 116, 111, 114, 101]⟩), .bool (true), .bool (true), .int .i64 ((-100000)), .int .i64 (100000), .string (⟨#[119, 97, 105, 116]⟩), .bool (false), .bool (true), .int .i64 (0), .int .i64 (3600), .string (⟨#[116, 101, 108, 108]⟩), .bool (false), .bool (false), .int .i64 (0), .int .i64 (0)]) (out := [.string (⟨#[111, 112, 101, 110]⟩), .bool (true), .bool (false), .int .i64 (0), .int .i64 (0), .string (⟨#[99, 108, 111, 115, 101]⟩), .bool (true), .bool (false), .int .i64 (0), .int .i64 (0), .string (⟨#[97, 99, 107]⟩), .bool (true), .bool (false), .int .i64 (0), .int .i64 (0), .string (⟨#[108, 111, 97, 100]⟩), .bool (true), .bool (true), .int .i64 (0), .int .i64 (100000), .string (⟨#[103, 101, 110]⟩), .bool (true), .bool (true), .int .i64 (0), .int .i64 (100000), .string (⟨#[115, 116, 111, 114, 101]⟩), .bool (true), .bool (true), .int .i64 ((-100000)), .int .i64 (100000), .string (⟨#[119, 97, 105, 116]⟩), .bool (false), .bool (true), .int .i64 (0), .int .i64 (3600), .string (⟨#[116, 101, 108, 108]⟩), .bool (false), .bool (false), .int .i64 (0), .int .i64 (0)]) rfl Proofs.Tryd.sizeOf58 rfl rfl rfl rfl rfl (all_cons rfl (all_cons rfl (all_cons rfl (all_cons rfl (all_cons rfl (all_cons rfl (all_cons rfl (all_cons rfl (all_cons rfl (all_cons rfl (all_cons rfl (all_cons rfl (all_cons rfl (all_cons rfl (all_cons rfl (all_cons rfl (all_cons rfl (all_cons rfl (all_cons rfl (all_cons rfl (all_cons rfl (all_cons rfl (all_cons rfl (all_cons rfl (all_cons rfl (all_cons rfl (all_cons rfl (all_cons rfl (all_cons rfl (all_cons rfl (all_cons rfl (all_cons rfl (all_cons rfl (all_cons rfl (all_cons rfl (all_cons rfl (all_cons rfl (all_cons rfl (all_cons rfl (all_cons rfl all_nil)))))))))))))))))))))))))))))))))))))))) (over_all rfl) ?_
  refine W_end ?_
  refine E_then ?_
  refine C_ret ?_
  obtain rfl := hm
  exact endC1 (Hp.le_refl _) rfl (ResV.agg rfl Proofs.Tryd.isAgg58 Proofs.Tryd.sizeOf58 (List.mem_cons_self ..) rfl) (List.Sublist.cons _ (List.Sublist.refl _)) (List.Perm.refl _) ⟨rfl, rfl, rfl⟩

theorem m_console_find_c {B : Nat} {w0 w : World} [Tabs B w0] {H : Hp} {M : List Res} {verb : ByteArray} {r : S_console_form × Bool} (hm : m_console_find verb = some r) (ht : St B w0 H (M) w) :
    Calls Proofs.Tryd.prog 13 [.string (verb)].toArray w (Ret B w0 fun H' M' v => H = H' ∧ M = M' ∧ .tuple #[.agg [.string (r.1.verb), .bool (r.1.name), .bool (r.1.n), .int .i64 (r.1.low_), .int .i64 (r.1.high_)].toArray, .bool (r.2)] = v) := by
  unfold m_console_find at hm
  refine enter Proofs.Tryd.func13 rfl rfl rfl ht ?_
  refine C_seq ?_
  refine C_region ?_
  refine W_alloc (cs := [.string (⟨#[]⟩), .bool (false), .bool (false), .int .i64 (0), .int .i64 (0)]) rfl rfl Proofs.Tryd.zeroValue43 rfl (fun b101 => ?_)
  refine W_assign rfl rfl rfl ?_
  refine W_end ?_
  refine E_then ?_
  refine C_seq ?_
  refine C_seq ?_
  refine C_region ?_
  refine W_call Proofs.Tryd.call23 rfl rfl rfl (fun w ht => by have h := m_console_forms_c (hm := (rfl : m_console_forms = _))  ht; exact h) ?_
  rintro _ _ _ ⟨rfl, rfl, rfl⟩
  refine W_move rfl rfl rfl ?_
  refine W_end ?_
  refine E_then ?_
  refine C_block ?_
  refine C_keep (L' := [(0, .string (verb)), (2, .pointer (some ⟨b101, 0, none⟩)), (6, .agg [.string (((m_console_forms)).a0.verb), .bool (((m_console_forms)).a0.name), .bool (((m_console_forms)).a0.n), .int .i64 (((m_console_forms)).a0.low_), .int .i64 (((m_console_forms)).a0.high_), .string (((m_console_forms)).a1.verb), .bool (((m_console_forms)).a1.name), .bool (((m_console_forms)).a1.n), .int .i64 (((m_console_forms)).a1.low_), .int .i64 (((m_console_forms)).a1.high_), .string (((m_console_forms)).a2.verb), .bool (((m_console_forms)).a2.name), .bool (((m_console_forms)).a2.n), .int .i64 (((m_console_forms)).a2.low_), .int .i64 (((m_console_forms)).a2.high_), .string (((m_console_forms)).a3.verb), .bool (((m_console_forms)).a3.name), .bool (((m_console_forms)).a3.n), .int .i64 (((m_console_forms)).a3.low_), .int .i64 (((m_console_forms)).a3.high_), .string (((m_console_forms)).a4.verb), .bool (((m_console_forms)).a4.name), .bool (((m_console_forms)).a4.n), .int .i64 (((m_console_forms)).a4.low_), .int .i64 (((m_console_forms)).a4.high_), .string (((m_console_forms)).a5.verb), .bool (((m_console_forms)).a5.name), .bool (((m_console_forms)).a5.n), .int .i64 (((m_console_forms)).a5.low_), .int .i64 (((m_console_forms)).a5.high_), .string (((m_console_forms)).a6.verb), .bool (((m_console_forms)).a6.name), .bool (((m_console_forms)).a6.n), .int .i64 (((m_console_forms)).a6.low_), .int .i64 (((m_console_forms)).a6.high_), .string (((m_console_forms)).a7.verb), .bool (((m_console_forms)).a7.name), .bool (((m_console_forms)).a7.n), .int .i64 (((m_console_forms)).a7.low_), .int .i64 (((m_console_forms)).a7.high_)].toArray), (7, .int .i64 (((0 : Nat) : Int)))]) ⟨rfl, rfl, rfl, rfl, trivial⟩ (List.Perm.refl _) ?_
  refine C_loop (fun n H' M' L' => ∃ (k102 : Nat) (zs120' : Nat), k102 + zs120' = (8 : Int).toNat ∧ zs120' = n ∧ forN (fun k s115 n => m_console_find_b1 verb k n) (fun _ => some ((S_console_form.mk (⟨#[]⟩) false false 0 0), false)) zs120' k102 () = some r ∧ H.le H' ∧ .obj b101 (.cells [.string (⟨#[]⟩), .bool (false), .bool (false), .int .i64 (0), .int .i64 (0)].toArray 43 (0, 0)) :: M = M' ∧ [(0, .string (verb)), (2, .pointer (some ⟨b101, 0, none⟩)), (6, .agg [.string (((m_console_forms)).a0.verb), .bool (((m_console_forms)).a0.name), .bool (((m_console_forms)).a0.n), .int .i64 (((m_console_forms)).a0.low_), .int .i64 (((m_console_forms)).a0.high_), .string (((m_console_forms)).a1.verb), .bool (((m_console_forms)).a1.name), .bool (((m_console_forms)).a1.n), .int .i64 (((m_console_forms)).a1.low_), .int .i64 (((m_console_forms)).a1.high_), .string (((m_console_forms)).a2.verb), .bool (((m_console_forms)).a2.name), .bool (((m_console_forms)).a2.n), .int .i64 (((m_console_forms)).a2.low_), .int .i64 (((m_console_forms)).a2.high_), .string (((m_console_forms)).a3.verb), .bool (((m_console_forms)).a3.name), .bool (((m_console_forms)).a3.n), .int .i64 (((m_console_forms)).a3.low_), .int .i64 (((m_console_forms)).a3.high_), .string (((m_console_forms)).a4.verb), .bool (((m_console_forms)).a4.name), .bool (((m_console_forms)).a4.n), .int .i64 (((m_console_forms)).a4.low_), .int .i64 (((m_console_forms)).a4.high_), .string (((m_console_forms)).a5.verb), .bool (((m_console_forms)).a5.name), .bool (((m_console_forms)).a5.n), .int .i64 (((m_console_forms)).a5.low_), .int .i64 (((m_console_forms)).a5.high_), .string (((m_console_forms)).a6.verb), .bool (((m_console_forms)).a6.name), .bool (((m_console_forms)).a6.n), .int .i64 (((m_console_forms)).a6.low_), .int .i64 (((m_console_forms)).a6.high_), .string (((m_console_forms)).a7.verb), .bool (((m_console_forms)).a7.name), .bool (((m_console_forms)).a7.n), .int .i64 (((m_console_forms)).a7.low_), .int .i64 (((m_console_forms)).a7.high_)].toArray), (7, .int .i64 ((k102 : Int)))] = L') _ ⟨0, _, Nat.zero_add _, rfl, hm, (Hp.le_refl _), rfl, rfl⟩ ?_
  rintro _ H113 _ _ ⟨k102, zs120', hd122, rfl, hm, hle114, rfl, rfl⟩
  refine C_seq ?_
  refine C_region ?_
  refine W_bin rfl rfl rfl rfl rfl ?_
  refine W_end (E_then ?_)
  refine C_seq ?_
  refine C_cond (b := decide ((k102 : Int) < 8)) rfl (fun hb124 => ?_) (fun hb124 => ?_)
  · obtain ⟨zs120, rfl, hd123, hy121⟩ := rngN_t hd122 hb124
    have hm : m_console_find_b1 verb k102 (forN (fun k s115 n => m_console_find_b1 verb k n) (fun _ => some ((S_console_form.mk (⟨#[]⟩) false false 0 0), false)) zs120 (k102 + 1)) = some r := hm
    generalize hn117 : forN (fun k s115 n => m_console_find_b1 verb k n) (fun _ => some ((S_console_form.mk (⟨#[]⟩) false false 0 0), false)) zs120 (k102 + 1) = nx116 at hm
    unfold m_console_find_b1 at hm
    refine C_skip (E_then ?_)
    refine C_seq ?_
    refine C_block ?_
    refine C_seq ?_
    refine C_region ?_
    obtain ⟨y125, h126, he127, hm⟩ := idx_some hm
    refine W_indexVA (α := S_console_form) (ys := [(S_console_form.mk (((m_console_forms)).a0.verb) (((m_console_forms)).a0.name) (((m_console_forms)).a0.n) (((m_console_forms)).a0.low_) (((m_console_forms)).a0.high_)), (S_console_form.mk (((m_console_forms)).a1.verb) (((m_console_forms)).a1.name) (((m_console_forms)).a1.n) (((m_console_forms)).a1.low_) (((m_console_forms)).a1.high_)), (S_console_form.mk (((m_console_forms)).a2.verb) (((m_console_forms)).a2.name) (((m_console_forms)).a2.n) (((m_console_forms)).a2.low_) (((m_console_forms)).a2.high_)), (S_console_form.mk (((m_console_forms)).a3.verb) (((m_console_forms)).a3.name) (((m_console_forms)).a3.n) (((m_console_forms)).a3.low_) (((m_console_forms)).a3.high_)), (S_console_form.mk (((m_console_forms)).a4.verb) (((m_console_forms)).a4.name) (((m_console_forms)).a4.n) (((m_console_forms)).a4.low_) (((m_console_forms)).a4.high_)), (S_console_form.mk (((m_console_forms)).a5.verb) (((m_console_forms)).a5.name) (((m_console_forms)).a5.n) (((m_console_forms)).a5.low_) (((m_console_forms)).a5.high_)), (S_console_form.mk (((m_console_forms)).a6.verb) (((m_console_forms)).a6.name) (((m_console_forms)).a6.n) (((m_console_forms)).a6.low_) (((m_console_forms)).a6.high_)), (S_console_form.mk (((m_console_forms)).a7.verb) (((m_console_forms)).a7.name) (((m_console_forms)).a7.n) (((m_console_forms)).a7.low_) (((m_console_forms)).a7.high_))]) rfl rfl Proofs.Tryd.runUnderlying58 Proofs.Tryd.isAgg43 Proofs.Tryd.sizeOf43 rfl rfl rfl h126 he127 ⟨[.string (((m_console_forms)).a0.verb), .bool (((m_console_forms)).a0.name), .bool (((m_console_forms)).a0.n), .int .i64 (((m_console_forms)).a0.low_), .int .i64 (((m_console_forms)).a0.high_)], [.string (((m_console_forms)).a1.verb), .bool (((m_console_forms)).a1.name), .bool (((m_console_forms)).a1.n), .int .i64 (((m_console_forms)).a1.low_), .int .i64 (((m_console_forms)).a1.high_), .string (((m_console_forms)).a2.verb), .bool (((m_console_forms)).a2.name), .bool (((m_console_forms)).a2.n), .int .i64 (((m_console_forms)).a2.low_), .int .i64 (((m_console_forms)).a2.high_), .string (((m_console_forms)).a3.verb), .bool (((m_console_forms)).a3.name), .bool (((m_console_forms)).a3.n), .int .i64 (((m_console_forms)).a3.low_), .int .i64 (((m_console_forms)).a3.high_), .string (((m_console_forms)).a4.verb), .bool (((m_console_forms)).a4.name), .bool (((m_console_forms)).a4.n), .int .i64 (((m_console_forms)).a4.low_), .int .i64 (((m_console_forms)).a4.high_), .string (((m_console_forms)).a5.verb), .bool (((m_console_forms)).a5.name), .bool (((m_console_forms)).a5.n), .int .i64 (((m_console_forms)).a5.low_), .int .i64 (((m_console_forms)).a5.high_), .string (((m_console_forms)).a6.verb), .bool (((m_console_forms)).a6.name), .bool (((m_console_forms)).a6.n), .int .i64 (((m_console_forms)).a6.low_), .int .i64 (((m_console_forms)).a6.high_), .string (((m_console_forms)).a7.verb), .bool (((m_console_forms)).a7.name), .bool (((m_console_forms)).a7.n), .int .i64 (((m_console_forms)).a7.low_), .int .i64 (((m_console_forms)).a7.high_)], rfl, rfl, ⟨[.string (((m_console_forms)).a1.verb), .bool (((m_console_forms)).a1.name), .bool (((m_console_forms)).a1.n), .int .i64 (((m_console_forms)).a1.low_), .int .i64 (((m_console_forms)).a1.high_)], [.string (((m_console_forms)).a2.verb), .bool (((m_console_forms)).a2.name), .bool (((m_console_forms)).a2.n), .int .i64 (((m_console_forms)).a2.low_), .int .i64 (((m_console_forms)).a2.high_), .string (((m_console_forms)).a3.verb), .bool (((m_console_forms)).a3.name), .bool (((m_console_forms)).a3.n), .int .i64 (((m_console_forms)).a3.low_), .int .i64 (((m_console_forms)).a3.high_), .string (((m_console_forms)).a4.verb), .bool (((m_console_forms)).a4.name), .bool (((m_console_forms)).a4.n), .int .i64 (((m_console_forms)).a4.low_), .int .i64 (((m_console_forms)).a4.high_), .string (((m_console_forms)).a5.verb), .bool (((m_console_forms)).a5.name), .bool (((m_console_forms)).a5.n), .int .i64 (((m_console_forms)).a5.low_), .int .i64 (((m_console_forms)).a5.high_), .string (((m_console_forms)).a6.verb), .bool (((m_console_forms)).a6.name), .bool (((m_console_forms)).a6.n), .int .i64 (((m_console_forms)).a6.low_), .int .i64 (((m_console_forms)).a6.high_), .string (((m_console_forms)).a7.verb), .bool (((m_console_forms)).a7.name), .bool (((m_console_forms)).a7.n), .int .i64 (((m_console_forms)).a7.low_), .int .i64 (((m_console_forms)).a7.high_)], rfl, rfl, ⟨[.string (((m_console_forms)).a2.verb), .bool (((m_console_forms)).a2.name), .bool (((m_console_forms)).a2.n), .int .i64 (((m_console_forms)).a2.low_), .int .i64 (((m_console_forms)).a2.high_)], [.string (((m_console_forms)).a3.verb), .bool (((m_console_forms)).a3.name), .bool (((m_console_forms)).a3.n), .int .i64 (((m_console_forms)).a3.low_), .int .i64 (((m_console_forms)).a3.high_), .string (((m_console_forms)).a4.verb), .bool (((m_console_forms)).a4.name), .bool (((m_console_forms)).a4.n), .int .i64 (((m_console_forms)).a4.low_), .int .i64 (((m_console_forms)).a4.high_), .string (((m_console_forms)).a5.verb), .bool (((m_console_forms)).a5.name), .bool (((m_console_forms)).a5.n), .int .i64 (((m_console_forms)).a5.low_), .int .i64 (((m_console_forms)).a5.high_), .string (((m_console_forms)).a6.verb), .bool (((m_console_forms)).a6.name), .bool (((m_console_forms)).a6.n), .int .i64 (((m_console_forms)).a6.low_), .int .i64 (((m_console_forms)).a6.high_), .string (((m_console_forms)).a7.verb), .bool (((m_console_forms)).a7.name), .bool (((m_console_forms)).a7.n), .int .i64 (((m_console_forms)).a7.low_), .int .i64 (((m_console_forms)).a7.high_)], rfl, rfl, ⟨[.string (((m_console_forms)).a3.verb), .bool (((m_console_forms)).a3.name), .bool (((m_console_forms)).a3.n), .int .i64 (((m_console_forms)).a3.low_), .int .i64 (((m_console_forms)).a3.high_)], [.string (((m_console_forms)).a4.verb), .bool (((m_console_forms)).a4.name), .bool (((m_console_forms)).a4.n), .int .i64 (((m_console_forms)).a4.low_), .int .i64 (((m_console_forms)).a4.high_), .string (((m_console_forms)).a5.verb), .bool (((m_console_forms)).a5.name), .bool (((m_console_forms)).a5.n), .int .i64 (((m_console_forms)).a5.low_), .int .i64 (((m_console_forms)).a5.high_), .string (((m_console_forms)).a6.verb), .bool (((m_console_forms)).a6.name), .bool (((m_console_forms)).a6.n), .int .i64 (((m_console_forms)).a6.low_), .int .i64 (((m_console_forms)).a6.high_), .string (((m_console_forms)).a7.verb), .bool (((m_console_forms)).a7.name), .bool (((m_console_forms)).a7.n), .int .i64 (((m_console_forms)).a7.low_), .int .i64 (((m_console_forms)).a7.high_)], rfl, rfl, ⟨[.string (((m_console_forms)).a4.verb), .bool (((m_console_forms)).a4.name), .bool (((m_console_forms)).a4.n), .int .i64 (((m_console_forms)).a4.low_), .int .i64 (((m_console_forms)).a4.high_)], [.string (((m_console_forms)).a5.verb), .bool (((m_console_forms)).a5.name), .bool (((m_console_forms)).a5.n), .int .i64 (((m_console_forms)).a5.low_), .int .i64 (((m_console_forms)).a5.high_), .string (((m_console_forms)).a6.verb), .bool (((m_console_forms)).a6.name), .bool (((m_console_forms)).a6.n), .int .i64 (((m_console_forms)).a6.low_), .int .i64 (((m_console_forms)).a6.high_), .string (((m_console_forms)).a7.verb), .bool (((m_console_forms)).a7.name), .bool (((m_console_forms)).a7.n), .int .i64 (((m_console_forms)).a7.low_), .int .i64 (((m_console_forms)).a7.high_)], rfl, rfl, ⟨[.string (((m_console_forms)).a5.verb), .bool (((m_console_forms)).a5.name), .bool (((m_console_forms)).a5.n), .int .i64 (((m_console_forms)).a5.low_), .int .i64 (((m_console_forms)).a5.high_)], [.string (((m_console_forms)).a6.verb), .bool (((m_console_forms)).a6.name), .bool (((m_console_forms)).a6.n), .int .i64 (((m_console_forms)).a6.low_), .int .i64 (((m_console_forms)).a6.high_), .string (((m_console_forms)).a7.verb), .bool (((m_console_forms)).a7.name), .bool (((m_console_forms)).a7.n), .int .i64 (((m_console_forms)).a7.low_), .int .i64 (((m_console_forms)).a7.high_)], rfl, rfl, ⟨[.string (((m_console_forms)).a6.verb), .bool (((m_console_forms)).a6.name), .bool (((m_console_forms)).a6.n), .int .i64 (((m_console_forms)).a6.low_), .int .i64 (((m_console_forms)).a6.high_)], [.string (((m_console_forms)).a7.verb), .bool (((m_console_forms)).a7.name), .bool (((m_console_forms)).a7.n), .int .i64 (((m_console_forms)).a7.low_), .int .i64 (((m_console_forms)).a7.high_)], rfl, rfl, ⟨[.string (((m_console_forms)).a7.verb), .bool (((m_console_forms)).a7.name), .bool (((m_console_forms)).a7.n), .int .i64 (((m_console_forms)).a7.low_), .int .i64 (((m_console_forms)).a7.high_)], [], rfl, rfl, rfl⟩⟩⟩⟩⟩⟩⟩⟩ ?_
    rintro _ rfl
    refine W_alloc (cs := [.string (⟨#[]⟩), .bool (false), .bool (false), .int .i64 (0), .int .i64 (0)]) rfl rfl Proofs.Tryd.zeroValue43 rfl (fun b128 => ?_)
    refine W_store (cs := [.string (y125.verb), .bool (y125.name), .bool (y125.n), .int .i64 (y125.low_), .int .i64 (y125.high_)]) (out := [.string (y125.verb), .bool (y125.name), .bool (y125.n), .int .i64 (y125.low_), .int .i64 (y125.high_)]) rfl Proofs.Tryd.sizeOf43 rfl rfl rfl rfl rfl (all_cons rfl (all_cons rfl (all_cons rfl (all_cons rfl (all_cons rfl all_nil))))) (over_all rfl) ?_
    refine W_end ?_
    refine E_then ?_
    refine C_seq ?_
    refine C_region ?_
    refine W_field (o := 0) rfl rfl Proofs.Tryd.runUnderlying43 rfl Proofs.Tryd.sizeOf9 rfl rfl rfl ?_
    refine W_load rfl rfl Proofs.Tryd.isAgg9 rfl (own_at (List.mem_cons_self ..) rfl) ?_
    refine W_move rfl rfl rfl ?_
    refine W_bin rfl rfl rfl rfl rfl ?_
    refine W_end ?_
    refine E_then ?_
    refine C_cond (b := decide (y125.verb = verb)) rfl (fun hb129 => ?_) (fun hb129 => ?_)
    · have hm := ite_t' hb129 hm
      refine C_seq ?_
      refine C_region ?_
      refine W_loadAgg rfl rfl Proofs.Tryd.isAgg43 Proofs.Tryd.sizeOf43 rfl (own_all (List.mem_cons_self ..)) rfl ?_
      refine W_perm (List.Perm.swap _ _ _) ?_
      refine W_store (cs := [.string (y125.verb), .bool (y125.name), .bool (y125.n), .int .i64 (y125.low_), .int .i64 (y125.high_)]) (out := [.string (y125.verb), .bool (y125.name), .bool (y125.n), .int .i64 (y125.low_), .int .i64 (y125.high_)]) rfl Proofs.Tryd.sizeOf43 rfl rfl rfl rfl rfl (all_cons rfl (all_cons rfl (all_cons rfl (all_cons rfl (all_cons rfl all_nil))))) (over_all rfl) ?_
      refine W_assign rfl rfl rfl ?_
      refine W_end ?_
      refine E_then ?_
      refine C_ret ?_
      refine E_ret_block ?_
      refine E_ret_then ?_
      refine E_ret_then ?_
      refine E_ret_block ?_
      refine E_ret_then ?_
      obtain rfl := Option.some.inj hm
      exact endC2 hle114 rfl (ResV.agg rfl Proofs.Tryd.isAgg43 Proofs.Tryd.sizeOf43 (List.mem_cons_self ..) rfl) (ResV.tmp rfl) (List.Sublist.cons _ (List.Sublist.cons _ (List.Sublist.refl _))) (List.Perm.refl _) ⟨rfl, rfl, rfl⟩
    · have hm := ite_f' hb129 hm
      refine C_skip ?_
      refine E_normal_block ?_
      refine E_then ?_
      refine C_region ?_
      refine W_bin rfl rfl rfl rfl rfl ?_
      refine W_move rfl rfl rfl ?_
      refine W_end ?_
      refine E_drop (List.Sublist.cons _ (List.Sublist.refl _)) ?_
      exact E_keepJ (E_back (Nat.lt_succ_self _) ⟨k102 + 1, zs120, hd123, rfl, (by rw [hn117]; exact hm), hle114, rfl, rfl⟩) (List.Perm.refl _) ⟨rfl, rfl, rfl, (congrArg (fun z => some (Value.int .i64 z)) (i64_succN hy121 (toNat_max (by decide)))), trivial⟩
  · obtain rfl := rngN_f hd122 hb124
    have hm : (some ((S_console_form.mk (⟨#[]⟩) false false 0 0), false)) = some r := hm
    refine C_exit (E_exit_then ?_)
    refine E_exit_then ?_
    refine E_exit_hit ?_
    refine E_then ?_
    refine C_seq ?_
    refine C_region ?_
    refine W_build (css := []) (zs := [.string (⟨#[]⟩), .bool (false), .bool (false), .int .i64 (0), .int .i64 (0)]) (out := [.string (⟨#[]⟩), .bool (false), .bool (false), .int .i64 (0), .int .i64 (0)]) (places := [(0, 1), (1, 1), (2, 1), (3, 1), (4, 1)]) rfl rfl rfl trivial Proofs.Tryd.zeroValue43 rfl Proofs.Tryd.runUnderlying43 (fun w => by kernel_rfl) rfl ?_
    refine W_store (cs := [.string (⟨#[]⟩), .bool (false), .bool (false), .int .i64 (0), .int .i64 (0)]) (out := [.string (⟨#[]⟩), .bool (false), .bool (false), .int .i64 (0), .int .i64 (0)]) rfl Proofs.Tryd.sizeOf43 rfl rfl rfl rfl rfl (all_cons rfl (all_cons rfl (all_cons rfl (all_cons rfl (all_cons rfl all_nil))))) (over_all rfl) ?_
    refine W_assign rfl rfl rfl ?_
    refine W_end ?_
    refine E_then ?_
    refine C_ret ?_
    obtain rfl := Option.some.inj hm
    exact endC2 hle114 rfl (ResV.agg rfl Proofs.Tryd.isAgg43 Proofs.Tryd.sizeOf43 (List.mem_cons_self ..) rfl) (ResV.tmp rfl) (List.Sublist.cons _ (List.Sublist.refl _)) (List.Perm.refl _) ⟨rfl, rfl, rfl⟩

theorem m_netmodel_Name_c {B : Nat} {w0 w : World} [Tabs B w0] {H : Hp} {M : List Res} {p0_s : ByteArray} {r : Bool} (hm : m_netmodel_Name p0_s = some r) (ht : St B w0 H (M) w) :
    Calls Proofs.Tryd.prog 17 [.string (p0_s)].toArray w (Ret B w0 fun H' M' v => H = H' ∧ M = M' ∧ .bool (r) = v) := by
  unfold m_netmodel_Name at hm
  refine enter Proofs.Tryd.func17 rfl rfl rfl ht ?_
  refine C_seq ?_
  refine C_region ?_
  refine W_assign rfl rfl rfl ?_
  refine W_end ?_
  refine E_then ?_
  refine C_seq ?_
  refine C_seq ?_
  refine C_region ?_
  refine W_move rfl rfl rfl ?_
  obtain ⟨hz101, hm⟩ := need_some hm
  refine W_convBytes rfl rfl Proofs.Tryd.runUnderlying9 Proofs.Tryd.runUnderlying62 Proofs.Tryd.runUnderlying5 rfl hz101 ?_
  intro v102 H103 hle104 h105
  refine W_lenR rfl rfl Proofs.Tryd.runUnderlying62 rfl h105 ?_
  refine W_move rfl rfl rfl ?_
  refine W_end ?_
  refine E_then ?_
  refine C_block ?_
  refine C_keep (L' := [(0, .string (p0_s)), (6, v102), (7, .int .i64 (((bytesL p0_s).length : Int))), (8, .int .i64 (((0 : Nat) : Int)))]) ⟨rfl, rfl, rfl, rfl, trivial⟩ (List.Perm.refl _) ?_
  refine C_loop (fun n H' M' L' => ∃ (k106 : Nat) (zs144' : List U8), (bytesL p0_s).drop k106 = zs144' ∧ zs144'.length = n ∧ forI (fun k y s139 n => m_netmodel_Name_b1 k y n) (fun _ => some ((decide (1 ≤ (p0_s.size : Int))) && (decide ((p0_s.size : Int) ≤ 8)))) k106 zs144' () = some r ∧ H103.le H' ∧ M = M' ∧ [(0, .string (p0_s)), (6, v102), (7, .int .i64 (((bytesL p0_s).length : Int))), (8, .int .i64 ((k106 : Int)))] = L') _ ⟨0, _, rfl, rfl, hm, (Hp.le_refl _), rfl, rfl⟩ ?_
  rintro _ H137 _ _ ⟨k106, zs144', hd146, rfl, hm, hle138, rfl, rfl⟩
  refine C_seq ?_
  refine C_region ?_
  refine W_bin rfl rfl rfl rfl rfl ?_
  refine W_end (E_then ?_)
  refine C_seq ?_
  refine C_cond (b := decide ((k106 : Int) < ((bytesL p0_s).length : Int))) rfl (fun hb148 => ?_) (fun hb148 => ?_)
  · obtain ⟨y143, zs144, rfl, hy145, hd147⟩ := rng_t hd146 hb148
    have hm : m_netmodel_Name_b1 k106 y143 (forI (fun k y s139 n => m_netmodel_Name_b1 k y n) (fun _ => some ((decide (1 ≤ (p0_s.size : Int))) && (decide ((p0_s.size : Int) ≤ 8)))) (k106 + 1) zs144) = some r := hm
    generalize hn141 : forI (fun k y s139 n => m_netmodel_Name_b1 k y n) (fun _ => some ((decide (1 ≤ (p0_s.size : Int))) && (decide ((p0_s.size : Int) ≤ 8)))) (k106 + 1) zs144 = nx140 at hm
    unfold m_netmodel_Name_b1 at hm
    refine C_skip (E_then ?_)
    refine C_seq ?_
    refine C_block ?_
    refine C_seq ?_
    refine C_region ?_
    refine W_move rfl rfl rfl ?_
    obtain ⟨_, rfl, hc149⟩ := (h105).elem hy145
    refine W_indexS rfl rfl Proofs.Tryd.runUnderlying62 Proofs.Tryd.sizeOf5 rfl (h105.mono hle138) rfl (Int.natCast_nonneg _) hy145 ?_
    refine W_load rfl rfl Proofs.Tryd.isAgg5 rfl (HCells.one (hc149.mono hle138) 0 rfl).at ?_
    refine W_assign rfl rfl rfl ?_
    refine W_assign rfl rfl rfl ?_
    refine W_end ?_
    refine E_then ?_
    refine C_seq_join (fun H' M' L' => H137 = H' ∧ M = M' ∧ [(0, .string (p0_s)), (6, v102), (7, .int .i64 (((bytesL p0_s).length : Int))), (8, .int .i64 ((k106 : Int))), (31, .bool (!(((decide (65 ≤ y143.n)) && (decide (y143.n ≤ 90))) || (((decide (0 < (k106 : Int))) && (decide (48 ≤ y143.n))) && (decide (y143.n ≤ 57))))))] = L') ?_ (fun J156 => ?_)
    · rintro _ _ _ ⟨rfl, rfl, rfl⟩
      refine C_cond (b := !(((decide (65 ≤ y143.n)) && (decide (y143.n ≤ 90))) || (((decide (0 < (k106 : Int))) && (decide (48 ≤ y143.n))) && (decide (y143.n ≤ 57))))) rfl (fun hb157 => ?_) (fun hb157 => ?_)
      · have hm := ite_t' hb157 hm
        refine C_seq ?_
        refine C_region ?_
        refine W_assign rfl rfl rfl ?_
        refine W_end ?_
        refine E_then ?_
        refine C_ret ?_
        refine E_ret_block ?_
        refine E_ret_then ?_
        refine E_ret_then ?_
        refine E_ret_block ?_
        refine E_ret_then ?_
        obtain rfl := Option.some.inj hm
        refine E_weak (Hp.le_trans hle104 hle138) ?_
        exact end1 rfl rfl ⟨rfl, rfl, rfl⟩
      · have hm := ite_f' hb157 hm
        refine C_skip ?_
        refine E_normal_block ?_
        refine E_then ?_
        refine C_region ?_
        refine W_bin rfl rfl rfl rfl rfl ?_
        refine W_move rfl rfl rfl ?_
        refine W_end ?_
        exact E_keepJ (E_back (Nat.lt_succ_self _) ⟨k106 + 1, zs144, hd147, rfl, (by rw [hn141]; exact hm), hle138, rfl, rfl⟩) (List.Perm.refl _) ⟨rfl, rfl, rfl, (congrArg (fun z => some (Value.int .i64 z)) (i64_succ hy145 ((h105.mono hle138)).lenMax)), trivial⟩
    · refine C_region ?_
      refine W_move rfl rfl rfl ?_
      refine W_bin rfl rfl rfl rfl rfl ?_
      refine W_move rfl rfl rfl ?_
      cases hb158 : (decide (65 ≤ y143.n))
      · refine W_no rfl rfl rfl ?_
        refine W_no rfl rfl rfl ?_
        refine W_pick rfl rfl rfl rfl ?_
        refine W_move rfl rfl rfl ?_
        refine W_move rfl rfl rfl ?_
        refine W_bin rfl rfl rfl rfl rfl ?_
        refine W_move rfl rfl rfl ?_
        cases hb159 : (decide (0 < (k106 : Int)))
        · refine W_no rfl rfl rfl ?_
          refine W_no rfl rfl rfl ?_
          refine W_pick rfl rfl rfl rfl ?_
          refine W_move rfl rfl rfl ?_
          refine W_no rfl rfl rfl ?_
          refine W_no rfl rfl rfl ?_
          refine W_pick rfl rfl rfl rfl ?_
          refine W_pick rfl rfl rfl rfl ?_
          refine W_un rfl rfl rfl rfl ?_
          refine W_end ?_
          exact E_keepJ (J156 _ _ _ ⟨rfl, rfl, rfl⟩) (List.Perm.refl _) ⟨rfl, rfl, rfl, rfl, (by show some (Value.bool (true)) = some (Value.bool (!(((decide (65 ≤ y143.n)) && (decide (y143.n ≤ 90))) || (((decide (0 < (k106 : Int))) && (decide (48 ≤ y143.n))) && (decide (y143.n ≤ 57)))))); simp only [hb158, hb159, Bool.and_true, Bool.true_and, Bool.false_and, Bool.and_false, Bool.or_true, Bool.true_or, Bool.or_false, Bool.false_or, Bool.not_true, Bool.not_false]), trivial⟩
        · refine W_move rfl rfl rfl ?_
          refine W_bin rfl rfl rfl rfl rfl ?_
          refine W_pick rfl rfl rfl rfl ?_
          refine W_move rfl rfl rfl ?_
          cases hb160 : (decide (48 ≤ y143.n))
          · refine W_no rfl rfl rfl ?_
            refine W_no rfl rfl rfl ?_
            refine W_pick rfl rfl rfl rfl ?_
            refine W_pick rfl rfl rfl rfl ?_
            refine W_un rfl rfl rfl rfl ?_
            refine W_end ?_
            exact E_keepJ (J156 _ _ _ ⟨rfl, rfl, rfl⟩) (List.Perm.refl _) ⟨rfl, rfl, rfl, rfl, (by show some (Value.bool (true)) = some (Value.bool (!(((decide (65 ≤ y143.n)) && (decide (y143.n ≤ 90))) || (((decide (0 < (k106 : Int))) && (decide (48 ≤ y143.n))) && (decide (y143.n ≤ 57)))))); simp only [hb158, hb159, hb160, Bool.and_true, Bool.true_and, Bool.false_and, Bool.and_false, Bool.or_true, Bool.true_or, Bool.or_false, Bool.false_or, Bool.not_true, Bool.not_false]), trivial⟩
          · refine W_move rfl rfl rfl ?_
            refine W_bin rfl rfl rfl rfl rfl ?_
            refine W_pick rfl rfl rfl rfl ?_
            refine W_pick rfl rfl rfl rfl ?_
            refine W_un rfl rfl rfl rfl ?_
            refine W_end ?_
            exact E_keepJ (J156 _ _ _ ⟨rfl, rfl, rfl⟩) (List.Perm.refl _) ⟨rfl, rfl, rfl, rfl, (by show some (Value.bool (!(decide (y143.n ≤ 57)))) = some (Value.bool (!(((decide (65 ≤ y143.n)) && (decide (y143.n ≤ 90))) || (((decide (0 < (k106 : Int))) && (decide (48 ≤ y143.n))) && (decide (y143.n ≤ 57)))))); simp only [hb158, hb159, hb160, Bool.and_true, Bool.true_and, Bool.false_and, Bool.and_false, Bool.or_true, Bool.true_or, Bool.or_false, Bool.false_or, Bool.not_true, Bool.not_false]), trivial⟩
      · refine W_move rfl rfl rfl ?_
        refine W_bin rfl rfl rfl rfl rfl ?_
        refine W_pick rfl rfl rfl rfl ?_
        refine W_move rfl rfl rfl ?_
        cases hb161 : (decide (y143.n ≤ 90))
        · refine W_move rfl rfl rfl ?_
          refine W_bin rfl rfl rfl rfl rfl ?_
          refine W_move rfl rfl rfl ?_
          cases hb162 : (decide (0 < (k106 : Int)))
          · refine W_no rfl rfl rfl ?_
            refine W_no rfl rfl rfl ?_
            refine W_pick rfl rfl rfl rfl ?_
            refine W_move rfl rfl rfl ?_
            refine W_no rfl rfl rfl ?_
            refine W_no rfl rfl rfl ?_
            refine W_pick rfl rfl rfl rfl ?_
            refine W_pick rfl rfl rfl rfl ?_
            refine W_un rfl rfl rfl rfl ?_
            refine W_end ?_
            exact E_keepJ (J156 _ _ _ ⟨rfl, rfl, rfl⟩) (List.Perm.refl _) ⟨rfl, rfl, rfl, rfl, (by show some (Value.bool (true)) = some (Value.bool (!(((decide (65 ≤ y143.n)) && (decide (y143.n ≤ 90))) || (((decide (0 < (k106 : Int))) && (decide (48 ≤ y143.n))) && (decide (y143.n ≤ 57)))))); simp only [hb158, hb161, hb162, Bool.and_true, Bool.true_and, Bool.false_and, Bool.and_false, Bool.or_true, Bool.true_or, Bool.or_false, Bool.false_or, Bool.not_true, Bool.not_false]), trivial⟩
          · refine W_move rfl rfl rfl ?_
            refine W_bin rfl rfl rfl rfl rfl ?_
            refine W_pick rfl rfl rfl rfl ?_
            refine W_move rfl rfl rfl ?_
            cases hb163 : (decide (48 ≤ y143.n))
            · refine W_no rfl rfl rfl ?_
              refine W_no rfl rfl rfl ?_
              refine W_pick rfl rfl rfl rfl ?_
              refine W_pick rfl rfl rfl rfl ?_
              refine W_un rfl rfl rfl rfl ?_
              refine W_end ?_
              exact E_keepJ (J156 _ _ _ ⟨rfl, rfl, rfl⟩) (List.Perm.refl _) ⟨rfl, rfl, rfl, rfl, (by show some (Value.bool (true)) = some (Value.bool (!(((decide (65 ≤ y143.n)) && (decide (y143.n ≤ 90))) || (((decide (0 < (k106 : Int))) && (decide (48 ≤ y143.n))) && (decide (y143.n ≤ 57)))))); simp only [hb158, hb161, hb162, hb163, Bool.and_true, Bool.true_and, Bool.false_and, Bool.and_false, Bool.or_true, Bool.true_or, Bool.or_false, Bool.false_or, Bool.not_true, Bool.not_false]), trivial⟩
            · refine W_move rfl rfl rfl ?_
              refine W_bin rfl rfl rfl rfl rfl ?_
              refine W_pick rfl rfl rfl rfl ?_
              refine W_pick rfl rfl rfl rfl ?_
              refine W_un rfl rfl rfl rfl ?_
              refine W_end ?_
              exact E_keepJ (J156 _ _ _ ⟨rfl, rfl, rfl⟩) (List.Perm.refl _) ⟨rfl, rfl, rfl, rfl, (by show some (Value.bool (!(decide (y143.n ≤ 57)))) = some (Value.bool (!(((decide (65 ≤ y143.n)) && (decide (y143.n ≤ 90))) || (((decide (0 < (k106 : Int))) && (decide (48 ≤ y143.n))) && (decide (y143.n ≤ 57)))))); simp only [hb158, hb161, hb162, hb163, Bool.and_true, Bool.true_and, Bool.false_and, Bool.and_false, Bool.or_true, Bool.true_or, Bool.or_false, Bool.false_or, Bool.not_true, Bool.not_false]), trivial⟩
        · refine W_no rfl rfl rfl ?_
          refine W_no rfl rfl rfl ?_
          refine W_no rfl rfl rfl ?_
          refine W_no rfl rfl rfl ?_
          refine W_no rfl rfl rfl ?_
          refine W_no rfl rfl rfl ?_
          refine W_no rfl rfl rfl ?_
          refine W_no rfl rfl rfl ?_
          refine W_no rfl rfl rfl ?_
          refine W_no rfl rfl rfl ?_
          refine W_pick rfl rfl rfl rfl ?_
          refine W_un rfl rfl rfl rfl ?_
          refine W_end ?_
          exact E_keepJ (J156 _ _ _ ⟨rfl, rfl, rfl⟩) (List.Perm.refl _) ⟨rfl, rfl, rfl, rfl, (by show some (Value.bool (false)) = some (Value.bool (!(((decide (65 ≤ y143.n)) && (decide (y143.n ≤ 90))) || (((decide (0 < (k106 : Int))) && (decide (48 ≤ y143.n))) && (decide (y143.n ≤ 57)))))); simp only [hb158, hb161, Bool.and_true, Bool.true_and, Bool.false_and, Bool.and_false, Bool.or_true, Bool.true_or, Bool.or_false, Bool.false_or, Bool.not_true, Bool.not_false]), trivial⟩
  · obtain rfl := rng_f hd146 hb148
    have hm : (some ((decide (1 ≤ (p0_s.size : Int))) && (decide ((p0_s.size : Int) ≤ 8)))) = some r := hm
    refine C_exit (E_exit_then ?_)
    refine E_exit_then ?_
    refine E_exit_hit ?_
    refine E_then ?_
    refine C_seq_join (fun H' M' L' => H137 = H' ∧ M = M' ∧ [(2, .bool ((decide (1 ≤ (p0_s.size : Int))) && (decide ((p0_s.size : Int) ≤ 8))))] = L') ?_ (fun J165 => ?_)
    · rintro _ _ _ ⟨rfl, rfl, rfl⟩
      refine C_ret ?_
      obtain rfl := Option.some.inj hm
      refine E_weak (Hp.le_trans hle104 hle138) ?_
      exact end1 rfl rfl ⟨rfl, rfl, rfl⟩
    · refine C_region ?_
      refine W_move rfl rfl rfl ?_
      refine W_lenStr rfl rfl Proofs.Tryd.runUnderlying9 rfl ?_
      refine W_bin rfl rfl rfl rfl rfl ?_
      refine W_move rfl rfl rfl ?_
      cases hb166 : (decide (1 ≤ (p0_s.size : Int)))
      · refine W_no rfl rfl rfl ?_
        refine W_no rfl rfl rfl ?_
        refine W_no rfl rfl rfl ?_
        refine W_pick rfl rfl rfl rfl ?_
        refine W_assign rfl rfl rfl ?_
        refine W_end ?_
        exact E_keepJ (J165 _ _ _ ⟨rfl, rfl, rfl⟩) (List.Perm.refl _) ⟨(by show some (Value.bool (false)) = some (Value.bool ((decide (1 ≤ (p0_s.size : Int))) && (decide ((p0_s.size : Int) ≤ 8)))); simp only [hb166, Bool.and_true, Bool.true_and, Bool.false_and, Bool.and_false, Bool.or_true, Bool.true_or, Bool.or_false, Bool.false_or, Bool.not_true, Bool.not_false]), trivial⟩
      · refine W_move rfl rfl rfl ?_
        refine W_lenStr rfl rfl Proofs.Tryd.runUnderlying9 rfl ?_
        refine W_bin rfl rfl rfl rfl rfl ?_
        refine W_pick rfl rfl rfl rfl ?_
        refine W_assign rfl rfl rfl ?_
        refine W_end ?_
        exact E_keepJ (J165 _ _ _ ⟨rfl, rfl, rfl⟩) (List.Perm.refl _) ⟨(by show some (Value.bool (decide ((p0_s.size : Int) ≤ 8))) = some (Value.bool ((decide (1 ≤ (p0_s.size : Int))) && (decide ((p0_s.size : Int) ≤ 8)))); simp only [hb166, Bool.and_true, Bool.true_and, Bool.false_and, Bool.and_false, Bool.or_true, Bool.true_or, Bool.or_false, Bool.false_or, Bool.not_true, Bool.not_false]), trivial⟩

theorem m_console_Check_c {B : Nat} {w0 w : World} [Tabs B w0] {H : Hp} {M : List Res} {p0_c : S_api_ConsoleCommand} {r : Int} (hm : m_console_Check p0_c = some r) (ht : St B w0 H (M) w) :
    Calls Proofs.Tryd.prog 8 [.agg [.string (p0_c.Verb), .string (p0_c.Name), .int .i64 (p0_c.N)].toArray].toArray w (Ret B w0 fun H' M' v => H = H' ∧ M = M' ∧ .int .i64 (r) = v) := by
  unfold m_console_Check at hm
  refine enter Proofs.Tryd.func8 rfl rfl rfl ht ?_
  refine C_seq ?_
  refine C_region ?_
  refine W_box (cs := [.string (p0_c.Verb), .string (p0_c.Name), .int .i64 (p0_c.N)]) rfl rfl rfl rfl (fun b101 => ?_)
  refine W_assign rfl rfl rfl ?_
  refine W_end ?_
  refine E_then ?_
  refine C_seq ?_
  refine C_region ?_
  refine W_field (o := 0) rfl rfl Proofs.Tryd.runUnderlying23 rfl Proofs.Tryd.sizeOf9 rfl rfl rfl ?_
  refine W_load rfl rfl Proofs.Tryd.isAgg9 rfl (own_at (List.mem_cons_self ..) rfl) ?_
  obtain ⟨r102, hc103, hm⟩ := bind_some hm
  refine W_call Proofs.Tryd.call13 rfl rfl rfl (fun w ht => by have h := m_console_find_c (hm := hc103)  ht; exact h) ?_
  rintro _ _ _ ⟨rfl, rfl, rfl⟩
  refine W_move rfl rfl rfl ?_
  refine W_extract rfl rfl rfl rfl ?_
  refine W_extract rfl rfl rfl rfl ?_
  refine W_alloc (cs := [.string (⟨#[]⟩), .bool (false), .bool (false), .int .i64 (0), .int .i64 (0)]) rfl rfl Proofs.Tryd.zeroValue43 rfl (fun b104 => ?_)
  refine W_store (cs := [.string (r102.1.verb), .bool (r102.1.name), .bool (r102.1.n), .int .i64 (r102.1.low_), .int .i64 (r102.1.high_)]) (out := [.string (r102.1.verb), .bool (r102.1.name), .bool (r102.1.n), .int .i64 (r102.1.low_), .int .i64 (r102.1.high_)]) rfl Proofs.Tryd.sizeOf43 rfl rfl rfl rfl rfl (all_cons rfl (all_cons rfl (all_cons rfl (all_cons rfl (all_cons rfl all_nil))))) (over_all rfl) ?_
  refine W_assign rfl rfl rfl ?_
  refine W_end ?_
  refine E_then ?_
  refine C_seq ?_
  refine C_block ?_
  refine C_seq ?_
  refine C_region ?_
  refine W_move rfl rfl rfl ?_
  refine W_un rfl rfl rfl rfl ?_
  refine W_assign rfl rfl rfl ?_
  refine W_end ?_
  refine E_then ?_
  refine C_cond (b := !r102.2) rfl (fun hb105 => ?_) (fun hb105 => ?_)
  · have hm := ite_t' hb105 hm
    refine C_seq ?_
    refine C_region ?_
    refine W_assign rfl rfl rfl ?_
    refine W_end ?_
    refine E_then ?_
    refine C_ret ?_
    refine E_ret_block ?_
    refine E_ret_then ?_
    obtain rfl := Option.some.inj hm
    refine E_drop (List.Sublist.cons _ (List.Sublist.cons _ (List.Sublist.refl _))) ?_
    refine E_weak (Hp.le_refl _) ?_
    exact end1 rfl rfl ⟨rfl, rfl, rfl⟩
  · have hm := ite_f' hb105 hm
    refine C_seq ?_
    refine C_region ?_
    refine W_field (o := 1) rfl rfl Proofs.Tryd.runUnderlying43 rfl Proofs.Tryd.sizeOf4 rfl rfl rfl ?_
    refine W_load rfl rfl Proofs.Tryd.isAgg4 rfl (own_at (List.mem_cons_self ..) rfl) ?_
    refine W_move rfl rfl rfl ?_
    cases hb106 : (r102.1.name)
    · have hm := ite_f' hb106 hm
      refine W_no rfl rfl rfl ?_
      refine W_no rfl rfl rfl ?_
      refine W_no rfl rfl rfl ?_
      refine W_no rfl rfl rfl ?_
      refine W_pick rfl rfl rfl rfl ?_
      refine W_assign rfl rfl rfl ?_
      refine W_end ?_
      refine E_then ?_
      refine C_cond (b := false) rfl (fun hb => Bool.noConfusion hb) (fun _ => ?_)
      refine C_seq_join (fun H' M' L' => H = H' ∧ .obj b104 (.cells [.string (r102.1.verb), .bool (false), .bool (r102.1.n), .int .i64 (r102.1.low_), .int .i64 (r102.1.high_)].toArray 43 (0, 0)) :: .obj b101 (.cells [.string (p0_c.Verb), .string (p0_c.Name), .int .i64 (p0_c.N)].toArray 23 (0, 0)) :: M = M' ∧ [(1, .pointer (some ⟨b101, 0, none⟩)), (3, .pointer (some ⟨b104, 0, none⟩)), (23, .bool ((!decide (p0_c.Name = (⟨#[]⟩))) || ((!r102.1.n) && (!decide (p0_c.N = 0)))))] = L') ?_ (fun J109 => ?_)
      · rintro _ _ _ ⟨rfl, rfl, rfl⟩
        refine C_cond (b := (!decide (p0_c.Name = (⟨#[]⟩))) || ((!r102.1.n) && (!decide (p0_c.N = 0)))) rfl (fun hb110 => ?_) (fun hb110 => ?_)
        · have hm := ite_t' hb110 hm
          refine C_seq ?_
          refine C_region ?_
          refine W_assign rfl rfl rfl ?_
          refine W_end ?_
          refine E_then ?_
          refine C_ret ?_
          refine E_ret_block ?_
          refine E_ret_then ?_
          obtain rfl := Option.some.inj hm
          refine E_drop (List.Sublist.cons _ (List.Sublist.cons _ (List.Sublist.refl _))) ?_
          refine E_weak (Hp.le_refl _) ?_
          exact end1 rfl rfl ⟨rfl, rfl, rfl⟩
        · have hm := ite_f' hb110 hm
          refine C_seq_join (fun H' M' L' => H = H' ∧ M = M' ∧ [(42, .bool (r102.1.n && ((decide (p0_c.N < r102.1.low_)) || (decide (r102.1.high_ < p0_c.N)))))] = L') ?_ (fun J113 => ?_)
          · rintro _ _ _ ⟨rfl, rfl, rfl⟩
            refine C_cond (b := r102.1.n && ((decide (p0_c.N < r102.1.low_)) || (decide (r102.1.high_ < p0_c.N)))) rfl (fun hb114 => ?_) (fun hb114 => ?_)
            · have hm := ite_t' hb114 hm
              refine C_seq ?_
              refine C_region ?_
              refine W_assign rfl rfl rfl ?_
              refine W_end ?_
              refine E_then ?_
              refine C_ret ?_
              refine E_ret_block ?_
              refine E_ret_then ?_
              obtain rfl := Option.some.inj hm
              refine E_weak (Hp.le_refl _) ?_
              exact end1 rfl rfl ⟨rfl, rfl, rfl⟩
            · have hm := ite_f' hb114 hm
              refine C_skip ?_
              refine E_normal_block ?_
              refine E_then ?_
              refine C_seq ?_
              refine C_region ?_
              refine W_assign rfl rfl rfl ?_
              refine W_end ?_
              refine E_then ?_
              refine C_ret ?_
              obtain rfl := Option.some.inj hm
              refine E_weak (Hp.le_refl _) ?_
              exact end1 rfl rfl ⟨rfl, rfl, rfl⟩
          · refine C_region ?_
            refine W_field (o := 2) rfl rfl Proofs.Tryd.runUnderlying43 rfl Proofs.Tryd.sizeOf4 rfl rfl rfl ?_
            refine W_load rfl rfl Proofs.Tryd.isAgg4 rfl (own_at (List.mem_cons_self ..) rfl) ?_
            refine W_move rfl rfl rfl ?_
            cases hb115 : (r102.1.n)
            · refine W_no rfl rfl rfl ?_
              refine W_no rfl rfl rfl ?_
              refine W_no rfl rfl rfl ?_
              refine W_no rfl rfl rfl ?_
              refine W_no rfl rfl rfl ?_
              refine W_no rfl rfl rfl ?_
              refine W_no rfl rfl rfl ?_
              refine W_no rfl rfl rfl ?_
              refine W_no rfl rfl rfl ?_
              refine W_no rfl rfl rfl ?_
              refine W_no rfl rfl rfl ?_
              refine W_no rfl rfl rfl ?_
              refine W_pick rfl rfl rfl rfl ?_
              refine W_assign rfl rfl rfl ?_
              refine W_end ?_
              refine E_drop (List.Sublist.cons _ (List.Sublist.cons _ (List.Sublist.refl _))) ?_
              exact E_keepJ (J113 _ _ _ ⟨rfl, rfl, rfl⟩) (List.Perm.refl _) ⟨(by show some (Value.bool (false)) = some (Value.bool (r102.1.n && ((decide (p0_c.N < r102.1.low_)) || (decide (r102.1.high_ < p0_c.N))))); simp only [hb105, hb106, hb110, hb115, Bool.and_true, Bool.true_and, Bool.false_and, Bool.and_false, Bool.or_true, Bool.true_or, Bool.or_false, Bool.false_or, Bool.not_true, Bool.not_false]), trivial⟩
            · refine W_field (o := 2) rfl rfl Proofs.Tryd.runUnderlying23 rfl Proofs.Tryd.sizeOf3 rfl rfl rfl ?_
              refine W_load rfl rfl Proofs.Tryd.isAgg3 rfl (own_at (List.mem_cons_of_mem _ (List.mem_cons_self ..)) rfl) ?_
              refine W_field (o := 3) rfl rfl Proofs.Tryd.runUnderlying43 rfl Proofs.Tryd.sizeOf3 rfl rfl rfl ?_
              refine W_load rfl rfl Proofs.Tryd.isAgg3 rfl (own_at (List.mem_cons_self ..) rfl) ?_
              refine W_bin rfl rfl rfl rfl rfl ?_
              refine W_move rfl rfl rfl ?_
              cases hb116 : (decide (p0_c.N < r102.1.low_))
              · refine W_field (o := 2) rfl rfl Proofs.Tryd.runUnderlying23 rfl Proofs.Tryd.sizeOf3 rfl rfl rfl ?_
                refine W_load rfl rfl Proofs.Tryd.isAgg3 rfl (own_at (List.mem_cons_of_mem _ (List.mem_cons_self ..)) rfl) ?_
                refine W_field (o := 4) rfl rfl Proofs.Tryd.runUnderlying43 rfl Proofs.Tryd.sizeOf3 rfl rfl rfl ?_
                refine W_load rfl rfl Proofs.Tryd.isAgg3 rfl (own_at (List.mem_cons_self ..) rfl) ?_
                refine W_bin rfl rfl rfl rfl rfl ?_
                refine W_pick rfl rfl rfl rfl ?_
                refine W_pick rfl rfl rfl rfl ?_
                refine W_assign rfl rfl rfl ?_
                refine W_end ?_
                refine E_drop (List.Sublist.cons _ (List.Sublist.cons _ (List.Sublist.refl _))) ?_
                exact E_keepJ (J113 _ _ _ ⟨rfl, rfl, rfl⟩) (List.Perm.refl _) ⟨(by show some (Value.bool (decide (r102.1.high_ < p0_c.N))) = some (Value.bool (r102.1.n && ((decide (p0_c.N < r102.1.low_)) || (decide (r102.1.high_ < p0_c.N))))); simp only [hb105, hb106, hb110, hb115, hb116, Bool.and_true, Bool.true_and, Bool.false_and, Bool.and_false, Bool.or_true, Bool.true_or, Bool.or_false, Bool.false_or, Bool.not_true, Bool.not_false]), trivial⟩
              · refine W_no rfl rfl rfl ?_
                refine W_no rfl rfl rfl ?_
                refine W_no rfl rfl rfl ?_
                refine W_no rfl rfl rfl ?_
                refine W_no rfl rfl rfl ?_
                refine W_pick rfl rfl rfl rfl ?_
                refine W_pick rfl rfl rfl rfl ?_
                refine W_assign rfl rfl rfl ?_
                refine W_end ?_
                refine E_drop (List.Sublist.cons _ (List.Sublist.cons _ (List.Sublist.refl _))) ?_
                exact E_keepJ (J113 _ _ _ ⟨rfl, rfl, rfl⟩) (List.Perm.refl _) ⟨(by show some (Value.bool (true)) = some (Value.bool (r102.1.n && ((decide (p0_c.N < r102.1.low_)) || (decide (r102.1.high_ < p0_c.N))))); simp only [hb105, hb106, hb110, hb115, hb116, Bool.and_true, Bool.true_and, Bool.false_and, Bool.and_false, Bool.or_true, Bool.true_or, Bool.or_false, Bool.false_or, Bool.not_true, Bool.not_false]), trivial⟩
      · refine C_region ?_
        refine W_field (o := 1) rfl rfl Proofs.Tryd.runUnderlying43 rfl Proofs.Tryd.sizeOf4 rfl rfl rfl ?_
        refine W_load rfl rfl Proofs.Tryd.isAgg4 rfl (own_at (List.mem_cons_self ..) rfl) ?_
        refine W_un rfl rfl rfl rfl ?_
        refine W_move rfl rfl rfl ?_
        refine W_field (o := 1) rfl rfl Proofs.Tryd.runUnderlying23 rfl Proofs.Tryd.sizeOf9 rfl rfl rfl ?_
        refine W_load rfl rfl Proofs.Tryd.isAgg9 rfl (own_at (List.mem_cons_of_mem _ (List.mem_cons_self ..)) rfl) ?_
        refine W_bin rfl rfl rfl rfl rfl ?_
        refine W_pick rfl rfl rfl rfl ?_
        refine W_move rfl rfl rfl ?_
        cases hb117 : (decide (p0_c.Name = (⟨#[]⟩)))
        · refine W_no rfl rfl rfl ?_
          refine W_no rfl rfl rfl ?_
          refine W_no rfl rfl rfl ?_
          refine W_no rfl rfl rfl ?_
          refine W_no rfl rfl rfl ?_
          refine W_no rfl rfl rfl ?_
          refine W_no rfl rfl rfl ?_
          refine W_no rfl rfl rfl ?_
          refine W_pick rfl rfl rfl rfl ?_
          refine W_assign rfl rfl rfl ?_
          refine W_end ?_
          exact E_keepJ (J109 _ _ _ ⟨rfl, rfl, rfl⟩) (List.Perm.refl _) ⟨rfl, rfl, (by show some (Value.bool (true)) = some (Value.bool ((!decide (p0_c.Name = (⟨#[]⟩))) || ((!r102.1.n) && (!decide (p0_c.N = 0))))); simp only [hb105, hb106, hb117, Bool.and_true, Bool.true_and, Bool.false_and, Bool.and_false, Bool.or_true, Bool.true_or, Bool.or_false, Bool.false_or, Bool.not_true, Bool.not_false]), trivial⟩
        · refine W_field (o := 2) rfl rfl Proofs.Tryd.runUnderlying43 rfl Proofs.Tryd.sizeOf4 rfl rfl rfl ?_
          refine W_load rfl rfl Proofs.Tryd.isAgg4 rfl (own_at (List.mem_cons_self ..) rfl) ?_
          refine W_un rfl rfl rfl rfl ?_
          refine W_move rfl rfl rfl ?_
          cases hb118 : (r102.1.n)
          · refine W_field (o := 2) rfl rfl Proofs.Tryd.runUnderlying23 rfl Proofs.Tryd.sizeOf3 rfl rfl rfl ?_
            refine W_load rfl rfl Proofs.Tryd.isAgg3 rfl (own_at (List.mem_cons_of_mem _ (List.mem_cons_self ..)) rfl) ?_
            refine W_bin rfl rfl rfl rfl rfl ?_
            refine W_pick rfl rfl rfl rfl ?_
            refine W_pick rfl rfl rfl rfl ?_
            refine W_assign rfl rfl rfl ?_
            refine W_end ?_
            exact E_keepJ (J109 _ _ _ ⟨rfl, rfl, rfl⟩) (by simp only [hb105, hb106, hb117, hb118]; exact (List.Perm.refl _)) ⟨rfl, rfl, (by show some (Value.bool (!decide (p0_c.N = 0))) = some (Value.bool ((!decide (p0_c.Name = (⟨#[]⟩))) || ((!r102.1.n) && (!decide (p0_c.N = 0))))); simp only [hb105, hb106, hb117, hb118, Bool.and_true, Bool.true_and, Bool.false_and, Bool.and_false, Bool.or_true, Bool.true_or, Bool.or_false, Bool.false_or, Bool.not_true, Bool.not_false]), trivial⟩
          · refine W_no rfl rfl rfl ?_
            refine W_no rfl rfl rfl ?_
            refine W_no rfl rfl rfl ?_
            refine W_pick rfl rfl rfl rfl ?_
            refine W_pick rfl rfl rfl rfl ?_
            refine W_assign rfl rfl rfl ?_
            refine W_end ?_
            exact E_keepJ (J109 _ _ _ ⟨rfl, rfl, rfl⟩) (by simp only [hb105, hb106, hb117, hb118]; exact (List.Perm.refl _)) ⟨rfl, rfl, (by show some (Value.bool (false)) = some (Value.bool ((!decide (p0_c.Name = (⟨#[]⟩))) || ((!r102.1.n) && (!decide (p0_c.N = 0))))); simp only [hb105, hb106, hb117, hb118, Bool.and_true, Bool.true_and, Bool.false_and, Bool.and_false, Bool.or_true, Bool.true_or, Bool.or_false, Bool.false_or, Bool.not_true, Bool.not_false]), trivial⟩
    · have hm := ite_t' hb106 hm
      refine W_field (o := 1) rfl rfl Proofs.Tryd.runUnderlying23 rfl Proofs.Tryd.sizeOf9 rfl rfl rfl ?_
      refine W_load rfl rfl Proofs.Tryd.isAgg9 rfl (own_at (List.mem_cons_of_mem _ (List.mem_cons_self ..)) rfl) ?_
      obtain ⟨r119, hc120, hm⟩ := bind_some hm
      refine W_call Proofs.Tryd.call17 rfl rfl rfl (fun w ht => by have h := m_netmodel_Name_c (hm := hc120)  ht; exact h) ?_
      rintro _ _ _ ⟨rfl, rfl, rfl⟩
      refine W_un rfl rfl rfl rfl ?_
      refine W_pick rfl rfl rfl rfl ?_
      refine W_assign rfl rfl rfl ?_
      refine W_end ?_
      refine E_then ?_
      refine C_cond (b := !r119) rfl (fun hb121 => ?_) (fun hb121 => ?_)
      · have hm := ite_t' hb121 hm
        refine C_seq ?_
        refine C_region ?_
        refine W_assign rfl rfl rfl ?_
        refine W_end ?_
        refine E_then ?_
        refine C_ret ?_
        refine E_ret_block ?_
        refine E_ret_then ?_
        obtain rfl := Option.some.inj hm
        refine E_drop (List.Sublist.cons _ (List.Sublist.cons _ (List.Sublist.refl _))) ?_
        refine E_weak (Hp.le_refl _) ?_
        exact end1 rfl rfl ⟨rfl, rfl, rfl⟩
      · have hm := ite_f' hb121 hm
        refine C_seq_join (fun H' M' L' => H = H' ∧ .obj b104 (.cells [.string (r102.1.verb), .bool (true), .bool (r102.1.n), .int .i64 (r102.1.low_), .int .i64 (r102.1.high_)].toArray 43 (0, 0)) :: .obj b101 (.cells [.string (p0_c.Verb), .string (p0_c.Name), .int .i64 (p0_c.N)].toArray 23 (0, 0)) :: M = M' ∧ [(1, .pointer (some ⟨b101, 0, none⟩)), (3, .pointer (some ⟨b104, 0, none⟩)), (23, .bool ((!r102.1.n) && (!decide (p0_c.N = 0))))] = L') ?_ (fun J123 => ?_)
        · rintro _ _ _ ⟨rfl, rfl, rfl⟩
          refine C_cond (b := (!r102.1.n) && (!decide (p0_c.N = 0))) rfl (fun hb124 => ?_) (fun hb124 => ?_)
          · have hm := ite_t' hb124 hm
            refine C_seq ?_
            refine C_region ?_
            refine W_assign rfl rfl rfl ?_
            refine W_end ?_
            refine E_then ?_
            refine C_ret ?_
            refine E_ret_block ?_
            refine E_ret_then ?_
            obtain rfl := Option.some.inj hm
            refine E_drop (List.Sublist.cons _ (List.Sublist.cons _ (List.Sublist.refl _))) ?_
            refine E_weak (Hp.le_refl _) ?_
            exact end1 rfl rfl ⟨rfl, rfl, rfl⟩
          · have hm := ite_f' hb124 hm
            refine C_seq_join (fun H' M' L' => H = H' ∧ M = M' ∧ [(42, .bool (r102.1.n && ((decide (p0_c.N < r102.1.low_)) || (decide (r102.1.high_ < p0_c.N)))))] = L') ?_ (fun J127 => ?_)
            · rintro _ _ _ ⟨rfl, rfl, rfl⟩
              refine C_cond (b := r102.1.n && ((decide (p0_c.N < r102.1.low_)) || (decide (r102.1.high_ < p0_c.N)))) rfl (fun hb128 => ?_) (fun hb128 => ?_)
              · have hm := ite_t' hb128 hm
                refine C_seq ?_
                refine C_region ?_
                refine W_assign rfl rfl rfl ?_
                refine W_end ?_
                refine E_then ?_
                refine C_ret ?_
                refine E_ret_block ?_
                refine E_ret_then ?_
                obtain rfl := Option.some.inj hm
                refine E_weak (Hp.le_refl _) ?_
                exact end1 rfl rfl ⟨rfl, rfl, rfl⟩
              · have hm := ite_f' hb128 hm
                refine C_skip ?_
                refine E_normal_block ?_
                refine E_then ?_
                refine C_seq ?_
                refine C_region ?_
                refine W_assign rfl rfl rfl ?_
                refine W_end ?_
                refine E_then ?_
                refine C_ret ?_
                obtain rfl := Option.some.inj hm
                refine E_weak (Hp.le_refl _) ?_
                exact end1 rfl rfl ⟨rfl, rfl, rfl⟩
            · refine C_region ?_
              refine W_field (o := 2) rfl rfl Proofs.Tryd.runUnderlying43 rfl Proofs.Tryd.sizeOf4 rfl rfl rfl ?_
              refine W_load rfl rfl Proofs.Tryd.isAgg4 rfl (own_at (List.mem_cons_self ..) rfl) ?_
              refine W_move rfl rfl rfl ?_
              cases hb129 : (r102.1.n)
              · refine W_no rfl rfl rfl ?_
                refine W_no rfl rfl rfl ?_
                refine W_no rfl rfl rfl ?_
                refine W_no rfl rfl rfl ?_
                refine W_no rfl rfl rfl ?_
                refine W_no rfl rfl rfl ?_
                refine W_no rfl rfl rfl ?_
                refine W_no rfl rfl rfl ?_
                refine W_no rfl rfl rfl ?_
                refine W_no rfl rfl rfl ?_
                refine W_no rfl rfl rfl ?_
                refine W_no rfl rfl rfl ?_
                refine W_pick rfl rfl rfl rfl ?_
                refine W_assign rfl rfl rfl ?_
                refine W_end ?_
                refine E_drop (List.Sublist.cons _ (List.Sublist.cons _ (List.Sublist.refl _))) ?_
                exact E_keepJ (J127 _ _ _ ⟨rfl, rfl, rfl⟩) (List.Perm.refl _) ⟨(by show some (Value.bool (false)) = some (Value.bool (r102.1.n && ((decide (p0_c.N < r102.1.low_)) || (decide (r102.1.high_ < p0_c.N))))); simp only [hb105, hb106, hb121, hb124, hb129, Bool.and_true, Bool.true_and, Bool.false_and, Bool.and_false, Bool.or_true, Bool.true_or, Bool.or_false, Bool.false_or, Bool.not_true, Bool.not_false]), trivial⟩
              · refine W_field (o := 2) rfl rfl Proofs.Tryd.runUnderlying23 rfl Proofs.Tryd.sizeOf3 rfl rfl rfl ?_
                refine W_load rfl rfl Proofs.Tryd.isAgg3 rfl (own_at (List.mem_cons_of_mem _ (List.mem_cons_self ..)) rfl) ?_
                refine W_field (o := 3) rfl rfl Proofs.Tryd.runUnderlying43 rfl Proofs.Tryd.sizeOf3 rfl rfl rfl ?_
                refine W_load rfl rfl Proofs.Tryd.isAgg3 rfl (own_at (List.mem_cons_self ..) rfl) ?_
                refine W_bin rfl rfl rfl rfl rfl ?_
                refine W_move rfl rfl rfl ?_
                cases hb130 : (decide (p0_c.N < r102.1.low_))
                · refine W_field (o := 2) rfl rfl Proofs.Tryd.runUnderlying23 rfl Proofs.Tryd.sizeOf3 rfl rfl rfl ?_
                  refine W_load rfl rfl Proofs.Tryd.isAgg3 rfl (own_at (List.mem_cons_of_mem _ (List.mem_cons_self ..)) rfl) ?_
                  refine W_field (o := 4) rfl rfl Proofs.Tryd.runUnderlying43 rfl Proofs.Tryd.sizeOf3 rfl rfl rfl ?_
                  refine W_load rfl rfl Proofs.Tryd.isAgg3 rfl (own_at (List.mem_cons_self ..) rfl) ?_
                  refine W_bin rfl rfl rfl rfl rfl ?_
                  refine W_pick rfl rfl rfl rfl ?_
                  refine W_pick rfl rfl rfl rfl ?_
                  refine W_assign rfl rfl rfl ?_
                  refine W_end ?_
                  refine E_drop (List.Sublist.cons _ (List.Sublist.cons _ (List.Sublist.refl _))) ?_
                  exact E_keepJ (J127 _ _ _ ⟨rfl, rfl, rfl⟩) (List.Perm.refl _) ⟨(by show some (Value.bool (decide (r102.1.high_ < p0_c.N))) = some (Value.bool (r102.1.n && ((decide (p0_c.N < r102.1.low_)) || (decide (r102.1.high_ < p0_c.N))))); simp only [hb105, hb106, hb121, hb124, hb129, hb130, Bool.and_true, Bool.true_and, Bool.false_and, Bool.and_false, Bool.or_true, Bool.true_or, Bool.or_false, Bool.false_or, Bool.not_true, Bool.not_false]), trivial⟩
                · refine W_no rfl rfl rfl ?_
                  refine W_no rfl rfl rfl ?_
                  refine W_no rfl rfl rfl ?_
                  refine W_no rfl rfl rfl ?_
                  refine W_no rfl rfl rfl ?_
                  refine W_pick rfl rfl rfl rfl ?_
                  refine W_pick rfl rfl rfl rfl ?_
                  refine W_assign rfl rfl rfl ?_
                  refine W_end ?_
                  refine E_drop (List.Sublist.cons _ (List.Sublist.cons _ (List.Sublist.refl _))) ?_
                  exact E_keepJ (J127 _ _ _ ⟨rfl, rfl, rfl⟩) (List.Perm.refl _) ⟨(by show some (Value.bool (true)) = some (Value.bool (r102.1.n && ((decide (p0_c.N < r102.1.low_)) || (decide (r102.1.high_ < p0_c.N))))); simp only [hb105, hb106, hb121, hb124, hb129, hb130, Bool.and_true, Bool.true_and, Bool.false_and, Bool.and_false, Bool.or_true, Bool.true_or, Bool.or_false, Bool.false_or, Bool.not_true, Bool.not_false]), trivial⟩
        · refine C_region ?_
          refine W_field (o := 1) rfl rfl Proofs.Tryd.runUnderlying43 rfl Proofs.Tryd.sizeOf4 rfl rfl rfl ?_
          refine W_load rfl rfl Proofs.Tryd.isAgg4 rfl (own_at (List.mem_cons_self ..) rfl) ?_
          refine W_un rfl rfl rfl rfl ?_
          refine W_move rfl rfl rfl ?_
          refine W_no rfl rfl rfl ?_
          refine W_no rfl rfl rfl ?_
          refine W_no rfl rfl rfl ?_
          refine W_pick rfl rfl rfl rfl ?_
          refine W_move rfl rfl rfl ?_
          refine W_field (o := 2) rfl rfl Proofs.Tryd.runUnderlying43 rfl Proofs.Tryd.sizeOf4 rfl rfl rfl ?_
          refine W_load rfl rfl Proofs.Tryd.isAgg4 rfl (own_at (List.mem_cons_self ..) rfl) ?_
          refine W_un rfl rfl rfl rfl ?_
          refine W_move rfl rfl rfl ?_
          cases hb131 : (r102.1.n)
          · refine W_field (o := 2) rfl rfl Proofs.Tryd.runUnderlying23 rfl Proofs.Tryd.sizeOf3 rfl rfl rfl ?_
            refine W_load rfl rfl Proofs.Tryd.isAgg3 rfl (own_at (List.mem_cons_of_mem _ (List.mem_cons_self ..)) rfl) ?_
            refine W_bin rfl rfl rfl rfl rfl ?_
            refine W_pick rfl rfl rfl rfl ?_
            refine W_pick rfl rfl rfl rfl ?_
            refine W_assign rfl rfl rfl ?_
            refine W_end ?_
            exact E_keepJ (J123 _ _ _ ⟨rfl, rfl, rfl⟩) (by simp only [hb105, hb106, hb121, hb131]; exact (List.Perm.refl _)) ⟨rfl, rfl, (by show some (Value.bool (!decide (p0_c.N = 0))) = some (Value.bool ((!r102.1.n) && (!decide (p0_c.N = 0)))); simp only [hb105, hb106, hb121, hb131, Bool.and_true, Bool.true_and, Bool.false_and, Bool.and_false, Bool.or_true, Bool.true_or, Bool.or_false, Bool.false_or, Bool.not_true, Bool.not_false]), trivial⟩
          · refine W_no rfl rfl rfl ?_
            refine W_no rfl rfl rfl ?_
            refine W_no rfl rfl rfl ?_
            refine W_pick rfl rfl rfl rfl ?_
            refine W_pick rfl rfl rfl rfl ?_
            refine W_assign rfl rfl rfl ?_
            refine W_end ?_
            exact E_keepJ (J123 _ _ _ ⟨rfl, rfl, rfl⟩) (by simp only [hb105, hb106, hb121, hb131]; exact (List.Perm.refl _)) ⟨rfl, rfl, (by show some (Value.bool (false)) = some (Value.bool ((!r102.1.n) && (!decide (p0_c.N = 0)))); simp only [hb105, hb106, hb121, hb131, Bool.and_true, Bool.true_and, Bool.false_and, Bool.and_false, Bool.or_true, Bool.true_or, Bool.or_false, Bool.false_or, Bool.not_true, Bool.not_false]), trivial⟩

theorem itoa14_c {B : Nat} {w0 w : World} [Tabs B w0] {H : Hp} {M : List Res} {n : Int} (hn : -9223372036854775808 ≤ n ∧ n ≤ 9223372036854775807) (ht : St B w0 H M w) :
    Calls Proofs.Tryd.prog 14 [.int .i64 n].toArray w (Ret B w0 fun H' M' v => H = H' ∧ M = M' ∧ .string (itoaB n) = v) := by
  have ht1 : Lib.TabIs Proofs.Tryd.prog w "internal/strconv.uint64pow10" .u64 Lib.pow10Tab := by
    have e : gt3 = Lib.pow10Tab := by decide +kernel
    rw [← e]; exact ht.tab (Tabs.t3 (B := B) (w0 := w0)) gn3 (Tabs.below (w0 := w0) rfl)
  refine (Proofs.Tryd.strconv_Itoa n hn.1 hn.2 w ht1).mono ?_
  rintro e w' ⟨rfl, k, os, rfl⟩
  exact ⟨H, M, ht.under (Lib.below_grow _ w (Nat.le_refl _) k os), rfl, rfl, rfl⟩

theorem m_console_Print_c {B : Nat} {w0 w : World} [Tabs B w0] {H : Hp} {M : List Res} {p0_c : S_api_ConsoleCommand} {r : ByteArray × Int} (hm : m_console_Print p0_c = some r) (ht : St B w0 H (M) w) :
    Calls Proofs.Tryd.prog 5 [.agg [.string (p0_c.Verb), .string (p0_c.Name), .int .i64 (p0_c.N)].toArray].toArray w (Ret B w0 fun H' M' v => H = H' ∧ M = M' ∧ .tuple #[.string (r.1), .int .i64 (r.2)] = v) := by
  unfold m_console_Print at hm
  refine enter Proofs.Tryd.func5 rfl rfl rfl ht ?_
  refine C_seq ?_
  refine C_region ?_
  refine W_box (cs := [.string (p0_c.Verb), .string (p0_c.Name), .int .i64 (p0_c.N)]) rfl rfl rfl rfl (fun b101 => ?_)
  refine W_assign rfl rfl rfl ?_
  refine W_assign rfl rfl rfl ?_
  refine W_end ?_
  refine E_then ?_
  refine C_seq ?_
  refine C_seq ?_
  refine C_region ?_
  refine W_loadAgg rfl rfl Proofs.Tryd.isAgg23 Proofs.Tryd.sizeOf23 rfl (own_all (List.mem_cons_self ..)) rfl ?_
  obtain ⟨r102, hc103, hm⟩ := bind_some hm
  refine W_call Proofs.Tryd.call8 rfl rfl rfl (fun w ht => by have h := m_console_Check_c (hm := hc103)  ht; exact h) ?_
  rintro _ _ _ ⟨rfl, rfl, rfl⟩
  refine W_assign rfl rfl rfl ?_
  refine W_end ?_
  refine E_then ?_
  refine C_seq ?_
  refine C_region ?_
  refine W_move rfl rfl rfl ?_
  refine W_bin rfl rfl rfl rfl rfl ?_
  refine W_end ?_
  refine E_then ?_
  refine C_cond (b := !decide (r102 = 0)) rfl (fun hb104 => ?_) (fun hb104 => ?_)
  · have hm := ite_t' hb104 hm
    refine C_seq ?_
    refine C_region ?_
    refine W_move rfl rfl rfl ?_
    refine W_assign rfl rfl rfl ?_
    refine W_assign rfl rfl rfl ?_
    refine W_end ?_
    refine E_then ?_
    refine C_ret ?_
    refine E_ret_then ?_
    obtain rfl := Option.some.inj hm
    refine E_drop (List.Sublist.cons _ (List.Sublist.refl _)) ?_
    refine E_weak (Hp.le_refl _) ?_
    exact end2 rfl rfl rfl ⟨rfl, rfl, rfl⟩
  · have hm := ite_f' hb104 hm
    refine C_skip ?_
    refine E_then ?_
    refine C_seq ?_
    refine C_region ?_
    refine W_field (o := 0) rfl rfl Proofs.Tryd.runUnderlying23 rfl Proofs.Tryd.sizeOf9 rfl rfl rfl ?_
    refine W_load rfl rfl Proofs.Tryd.isAgg9 rfl (own_at (List.mem_cons_self ..) rfl) ?_
    obtain ⟨r105, hc106, hm⟩ := bind_some hm
    refine W_call Proofs.Tryd.call13 rfl rfl rfl (fun w ht => by have h := m_console_find_c (hm := hc106)  ht; exact h) ?_
    rintro _ _ _ ⟨rfl, rfl, rfl⟩
    refine W_move rfl rfl rfl ?_
    refine W_extract rfl rfl rfl rfl ?_
    refine W_extract rfl rfl rfl rfl ?_
    refine W_alloc (cs := [.string (⟨#[]⟩), .bool (false), .bool (false), .int .i64 (0), .int .i64 (0)]) rfl rfl Proofs.Tryd.zeroValue43 rfl (fun b107 => ?_)
    refine W_store (cs := [.string (r105.1.verb), .bool (r105.1.name), .bool (r105.1.n), .int .i64 (r105.1.low_), .int .i64 (r105.1.high_)]) (out := [.string (r105.1.verb), .bool (r105.1.name), .bool (r105.1.n), .int .i64 (r105.1.low_), .int .i64 (r105.1.high_)]) rfl Proofs.Tryd.sizeOf43 rfl rfl rfl rfl rfl (all_cons rfl (all_cons rfl (all_cons rfl (all_cons rfl (all_cons rfl all_nil))))) (over_all rfl) ?_
    refine W_assign rfl rfl rfl ?_
    refine W_end ?_
    refine E_then ?_
    refine C_seq ?_
    refine C_region ?_
    refine W_field (o := 0) rfl rfl Proofs.Tryd.runUnderlying23 rfl Proofs.Tryd.sizeOf9 rfl rfl rfl ?_
    refine W_load rfl rfl Proofs.Tryd.isAgg9 rfl (own_at (List.mem_cons_of_mem _ (List.mem_cons_self ..)) rfl) ?_
    refine W_assign rfl rfl rfl ?_
    refine W_end ?_
    refine E_then ?_
    refine C_seq_join (fun H' M' L' => ∃ s111 : ByteArray, m_console_Print_b2 p0_c r105 s111 = some r ∧ H = H' ∧ .obj b107 (.cells [.string (r105.1.verb), .bool (r105.1.name), .bool (r105.1.n), .int .i64 (r105.1.low_), .int .i64 (r105.1.high_)].toArray 43 (0, 0)) :: .obj b101 (.cells [.string (p0_c.Verb), .string (p0_c.Name), .int .i64 (p0_c.N)].toArray 23 (0, 0)) :: M = M' ∧ [(1, .pointer (some ⟨b101, 0, none⟩)), (5, .pointer (some ⟨b107, 0, none⟩)), (7, .string (s111))] = L') ?_ (fun J112 => ?_)
    · rintro _ _ _ ⟨s111, hm, rfl, rfl, rfl⟩
      unfold m_console_Print_b2 at hm
      refine C_seq_join (fun H' M' L' => ∃ s117 : ByteArray, m_console_Print_b1 s117 = some r ∧ H = H' ∧ M = M' ∧ [(7, .string (s117))] = L') ?_ (fun J118 => ?_)
      · rintro _ _ _ ⟨s117, hm, rfl, rfl, rfl⟩
        unfold m_console_Print_b1 at hm
        refine C_seq ?_
        refine C_region ?_
        refine W_move rfl rfl rfl ?_
        refine W_assign rfl rfl rfl ?_
        refine W_assign rfl rfl rfl ?_
        refine W_end ?_
        refine E_then ?_
        refine C_ret ?_
        obtain rfl := Option.some.inj hm
        refine E_weak (Hp.le_refl _) ?_
        exact end2 rfl rfl rfl ⟨rfl, rfl, rfl⟩
      · refine C_seq ?_
        refine C_region ?_
        refine W_field (o := 2) rfl rfl Proofs.Tryd.runUnderlying43 rfl Proofs.Tryd.sizeOf4 rfl rfl rfl ?_
        refine W_load rfl rfl Proofs.Tryd.isAgg4 rfl (own_at (List.mem_cons_self ..) rfl) ?_
        refine W_end ?_
        refine E_then ?_
        refine C_cond (b := r105.1.n) rfl (fun hb119 => ?_) (fun hb119 => ?_)
        · have hm := ite_t' hb119 hm
          refine C_region ?_
          refine W_move rfl rfl rfl ?_
          refine W_field (o := 2) rfl rfl Proofs.Tryd.runUnderlying23 rfl Proofs.Tryd.sizeOf3 rfl rfl rfl ?_
          refine W_load rfl rfl Proofs.Tryd.isAgg3 rfl (own_at (List.mem_cons_of_mem _ (List.mem_cons_self ..)) rfl) ?_
          obtain ⟨hz120, hm⟩ := need_some hm
          refine W_call Proofs.Tryd.call14 rfl rfl rfl (fun w ht => by have h := itoa14_c hz120 ht; exact h) ?_
          rintro _ _ _ ⟨rfl, rfl, rfl⟩
          obtain ⟨hq121, hm⟩ := need_some hm
          refine W_addStr rfl rfl rfl rfl hq121 ?_
          obtain ⟨hq122, hm⟩ := need_some hm
          refine W_addStr rfl rfl rfl rfl hq122 ?_
          refine W_assign rfl rfl rfl ?_
          refine W_end ?_
          refine E_drop (List.Sublist.cons _ (List.Sublist.cons _ (List.Sublist.refl _))) ?_
          exact E_keepJ (J118 _ _ _ ⟨s111 ++ ((⟨#[32]⟩ : ByteArray) ++ (itoaB p0_c.N)), hm, rfl, rfl, rfl⟩) (List.Perm.refl _) ⟨rfl, trivial⟩
        · have hm := ite_f' hb119 hm
          refine C_skip ?_
          refine E_drop (List.Sublist.cons _ (List.Sublist.cons _ (List.Sublist.refl _))) ?_
          exact E_keepJ (J118 _ _ _ ⟨s111, hm, rfl, rfl, rfl⟩) (List.Perm.refl _) ⟨rfl, trivial⟩
    · refine C_seq ?_
      refine C_region ?_
      refine W_field (o := 1) rfl rfl Proofs.Tryd.runUnderlying43 rfl Proofs.Tryd.sizeOf4 rfl rfl rfl ?_
      refine W_load rfl rfl Proofs.Tryd.isAgg4 rfl (own_at (List.mem_cons_self ..) rfl) ?_
      refine W_end ?_
      refine E_then ?_
      refine C_cond (b := r105.1.name) rfl (fun hb123 => ?_) (fun hb123 => ?_)
      · have hm := ite_t' hb123 hm
        refine C_region ?_
        refine W_move rfl rfl rfl ?_
        refine W_field (o := 1) rfl rfl Proofs.Tryd.runUnderlying23 rfl Proofs.Tryd.sizeOf9 rfl rfl rfl ?_
        refine W_load rfl rfl Proofs.Tryd.isAgg9 rfl (own_at (List.mem_cons_of_mem _ (List.mem_cons_self ..)) rfl) ?_
        obtain ⟨hq124, hm⟩ := need_some hm
        refine W_addStr rfl rfl rfl rfl hq124 ?_
        obtain ⟨hq125, hm⟩ := need_some hm
        refine W_addStr rfl rfl rfl rfl hq125 ?_
        refine W_assign rfl rfl rfl ?_
        refine W_end ?_
        exact E_keepJ (J112 _ _ _ ⟨p0_c.Verb ++ ((⟨#[32]⟩ : ByteArray) ++ p0_c.Name), hm, rfl, rfl, rfl⟩) (List.Perm.refl _) ⟨rfl, rfl, rfl, trivial⟩
      · have hm := ite_f' hb123 hm
        refine C_skip ?_
        exact E_keepJ (J112 _ _ _ ⟨p0_c.Verb, hm, rfl, rfl, rfl⟩) (List.Perm.refl _) ⟨rfl, rfl, rfl, trivial⟩

theorem m_internal_stringslite_IndexByte_c {B : Nat} {w0 w : World} [Tabs B w0] {H : Hp} {M : List Res} {p0_s : ByteArray} {p1_c : Int} {r : Int} (hm : m_internal_stringslite_IndexByte p0_s p1_c = r) (ht : St B w0 H (M) w) :
    Calls Proofs.Tryd.prog 38 [.string (p0_s), .int .u8 (p1_c)].toArray w (Ret B w0 fun H' M' v => H = H' ∧ M = M' ∧ .int .i64 (r) = v) := by
  unfold m_internal_stringslite_IndexByte at hm
  refine enter Proofs.Tryd.func38 rfl rfl rfl ht ?_
  refine C_seq ?_
  refine C_region ?_
  refine W_assign rfl rfl rfl ?_
  refine W_end ?_
  refine E_then ?_
  refine C_seq ?_
  refine C_region ?_
  refine W_move rfl rfl rfl ?_
  refine W_move rfl rfl rfl ?_
  refine W_extern (idxB_extern Proofs.Tryd.func50 (by kernel_rfl) (by kernel_rfl) (by kernel_rfl) (by kernel_rfl) _ _) rfl rfl rfl ?_
  refine W_assign rfl rfl rfl ?_
  refine W_end ?_
  refine E_then ?_
  refine C_ret ?_
  obtain rfl := hm
  refine E_weak (Hp.le_refl _) ?_
  exact end1 rfl rfl ⟨rfl, rfl, rfl⟩

theorem m_internal_stringslite_Index_c {B : Nat} {w0 w : World} [Tabs B w0] {H : Hp} {M : List Res} {p0_s : ByteArray} {substr : ByteArray} {r : Int} (hm : m_internal_stringslite_Index p0_s substr = some r) (ht : St B w0 H (M) w) :
    Calls Proofs.Tryd.prog 30 [.string (p0_s), .string (substr)].toArray w (Ret B w0 fun H' M' v => H = H' ∧ M = M' ∧ .int .i64 (r) = v) := by
  unfold m_internal_stringslite_Index at hm
  refine enter Proofs.Tryd.func30 rfl rfl rfl ht ?_
  refine C_seq ?_
  refine C_region ?_
  refine W_assign rfl rfl rfl ?_
  refine W_end ?_
  refine E_then ?_
  refine C_seq ?_
  refine C_region ?_
  refine W_move rfl rfl rfl ?_
  refine W_lenStr rfl rfl Proofs.Tryd.runUnderlying9 rfl ?_
  refine W_assign rfl rfl rfl ?_
  refine W_end ?_
  refine E_then ?_
  refine C_seq ?_
  refine C_block ?_
  refine C_seq_join (fun H' M' L' => H = H' ∧ M = M' ∧ [(0, .string (p0_s)), (1, .string (substr)), (5, .int .i64 ((substr.size : Int))), (16, .bool ((decide ((substr.size : Int) = 0)) || (decide (substr = p0_s))))] = L') ?_ (fun J102 => ?_)
  · rintro _ _ _ ⟨rfl, rfl, rfl⟩
    refine C_cond (b := (decide ((substr.size : Int) = 0)) || (decide (substr = p0_s))) rfl (fun hb103 => ?_) (fun hb103 => ?_)
    · have hm := ite_t' hb103 hm
      refine C_seq ?_
      refine C_region ?_
      refine W_assign rfl rfl rfl ?_
      refine W_end ?_
      refine E_then ?_
      refine C_ret ?_
      refine E_ret_block ?_
      refine E_ret_then ?_
      obtain rfl := Option.some.inj hm
      refine E_weak (Hp.le_refl _) ?_
      exact end1 rfl rfl ⟨rfl, rfl, rfl⟩
    · have hm := ite_f' hb103 hm
      refine C_seq ?_
      refine C_region ?_
      refine W_move rfl rfl rfl ?_
      refine W_bin rfl rfl rfl rfl rfl ?_
      refine W_assign rfl rfl rfl ?_
      refine W_end ?_
      refine E_then ?_
      refine C_cond (b := decide ((substr.size : Int) = 1)) rfl (fun hb104 => ?_) (fun hb104 => ?_)
      · have hm := ite_t' hb104 hm
        refine C_seq ?_
        refine C_region ?_
        refine W_move rfl rfl rfl ?_
        refine W_move rfl rfl rfl ?_
        obtain ⟨y105, h106, he107, hm⟩ := idx_some hm
        refine W_indexStr rfl rfl Proofs.Tryd.runUnderlying9 rfl rfl h106 he107 ?_
        refine W_call Proofs.Tryd.call38 rfl rfl rfl (fun w ht => by have h := m_internal_stringslite_IndexByte_c (hm := (rfl : m_internal_stringslite_IndexByte p0_s y105.n = _))  ht; exact h) ?_
        rintro _ _ _ ⟨rfl, rfl, rfl⟩
        refine W_assign rfl rfl rfl ?_
        refine W_end ?_
        refine E_then ?_
        refine C_ret ?_
        refine E_ret_block ?_
        refine E_ret_then ?_
        obtain rfl := Option.some.inj hm
        refine E_weak (Hp.le_refl _) ?_
        exact end1 rfl rfl ⟨rfl, rfl, rfl⟩
      · have hm := ite_f' hb104 hm
        refine C_seq ?_
        refine C_region ?_
        refine W_move rfl rfl rfl ?_
        refine W_move rfl rfl rfl ?_
        refine W_lenStr rfl rfl Proofs.Tryd.runUnderlying9 rfl ?_
        refine W_bin rfl rfl rfl rfl rfl ?_
        refine W_assign rfl rfl rfl ?_
        refine W_end ?_
        refine E_then ?_
        refine C_cond (b := decide ((p0_s.size : Int) ≤ (substr.size : Int))) rfl (fun hb108 => ?_) (fun hb108 => ?_)
        · have hm := ite_t' hb108 hm
          refine C_seq ?_
          refine C_region ?_
          refine W_assign rfl rfl rfl ?_
          refine W_end ?_
          refine E_then ?_
          refine C_ret ?_
          refine E_ret_block ?_
          refine E_ret_then ?_
          obtain rfl := Option.some.inj hm
          refine E_weak (Hp.le_refl _) ?_
          exact end1 rfl rfl ⟨rfl, rfl, rfl⟩
        · have hm := ite_f' hb108 hm
          refine C_seq ?_
          cases hm
  · refine C_region ?_
    refine W_move rfl rfl rfl ?_
    refine W_bin rfl rfl rfl rfl rfl ?_
    refine W_move rfl rfl rfl ?_
    cases hb109 : (decide ((substr.size : Int) = 0))
    · refine W_move rfl rfl rfl ?_
      refine W_move rfl rfl rfl ?_
      refine W_bin rfl rfl rfl rfl rfl ?_
      refine W_pick rfl rfl rfl rfl ?_
      refine W_assign rfl rfl rfl ?_
      refine W_end ?_
      exact E_keepJ (J102 _ _ _ ⟨rfl, rfl, rfl⟩) (List.Perm.refl _) ⟨rfl, rfl, rfl, (by show some (Value.bool (decide (substr = p0_s))) = some (Value.bool ((decide ((substr.size : Int) = 0)) || (decide (substr = p0_s)))); simp only [hb109, Bool.and_true, Bool.true_and, Bool.false_and, Bool.and_false, Bool.or_true, Bool.true_or, Bool.or_false, Bool.false_or, Bool.not_true, Bool.not_false]), trivial⟩
    · refine W_no rfl rfl rfl ?_
      refine W_no rfl rfl rfl ?_
      refine W_no rfl rfl rfl ?_
      refine W_pick rfl rfl rfl rfl ?_
      refine W_assign rfl rfl rfl ?_
      refine W_end ?_
      exact E_keepJ (J102 _ _ _ ⟨rfl, rfl, rfl⟩) (List.Perm.refl _) ⟨rfl, rfl, rfl, (by show some (Value.bool (true)) = some (Value.bool ((decide ((substr.size : Int) = 0)) || (decide (substr = p0_s)))); simp only [hb109, Bool.and_true, Bool.true_and, Bool.false_and, Bool.and_false, Bool.or_true, Bool.true_or, Bool.or_false, Bool.false_or, Bool.not_true, Bool.not_false]), trivial⟩

theorem m_strings_Index_c {B : Nat} {w0 w : World} [Tabs B w0] {H : Hp} {M : List Res} {p0_s : ByteArray} {substr : ByteArray} {r : Int} (hm : m_strings_Index p0_s substr = some r) (ht : St B w0 H (M) w) :
    Calls Proofs.Tryd.prog 22 [.string (p0_s), .string (substr)].toArray w (Ret B w0 fun H' M' v => H = H' ∧ M = M' ∧ .int .i64 (r) = v) := by
  unfold m_strings_Index at hm
  refine enter Proofs.Tryd.func22 rfl rfl rfl ht ?_
  refine C_seq ?_
  refine C_region ?_
  refine W_assign rfl rfl rfl ?_
  refine W_end ?_
  refine E_then ?_
  refine C_seq ?_
  refine C_region ?_
  refine W_move rfl rfl rfl ?_
  refine W_move rfl rfl rfl ?_
  obtain ⟨r101, hc102, hm⟩ := bind_some hm
  refine W_call Proofs.Tryd.call30 rfl rfl rfl (fun w ht => by have h := m_internal_stringslite_Index_c (hm := hc102)  ht; exact h) ?_
  rintro _ _ _ ⟨rfl, rfl, rfl⟩
  refine W_assign rfl rfl rfl ?_
  refine W_end ?_
  refine E_then ?_
  refine C_ret ?_
  obtain rfl := Option.some.inj hm
  refine E_weak (Hp.le_refl _) ?_
  exact end1 rfl rfl ⟨rfl, rfl, rfl⟩

theorem m_strings_Count_c {B : Nat} {w0 w : World} [Tabs B w0] {H : Hp} {M : List Res} {p0_s : ByteArray} {substr : ByteArray} {r : Int} (hm : m_strings_Count p0_s substr = some r) (ht : St B w0 H (M) w) :
    Calls Proofs.Tryd.prog 12 [.string (p0_s), .string (substr)].toArray w (Ret B w0 fun H' M' v => H = H' ∧ M = M' ∧ .int .i64 (r) = v) := by
  unfold m_strings_Count at hm
  refine enter Proofs.Tryd.func12 rfl rfl rfl ht ?_
  refine C_seq ?_
  refine C_region ?_
  refine W_assign rfl rfl rfl ?_
  refine W_end ?_
  refine E_then ?_
  refine C_seq ?_
  refine C_seq ?_
  refine C_region ?_
  refine W_move rfl rfl rfl ?_
  refine W_lenStr rfl rfl Proofs.Tryd.runUnderlying9 rfl ?_
  refine W_bin rfl rfl rfl rfl rfl ?_
  refine W_end ?_
  refine E_then ?_
  refine C_cond (b := decide ((substr.size : Int) = 0)) rfl (fun hb101 => ?_) (fun hb101 => ?_)
  · have hm := ite_t' hb101 hm
    refine C_seq ?_
    cases hm
  · have hm := ite_f' hb101 hm
    refine C_skip ?_
    refine E_then ?_
    refine C_seq ?_
    refine C_seq ?_
    refine C_region ?_
    refine W_move rfl rfl rfl ?_
    refine W_lenStr rfl rfl Proofs.Tryd.runUnderlying9 rfl ?_
    refine W_bin rfl rfl rfl rfl rfl ?_
    refine W_end ?_
    refine E_then ?_
    refine C_cond (b := decide ((substr.size : Int) = 1)) rfl (fun hb102 => ?_) (fun hb102 => ?_)
    · have hm := ite_t' hb102 hm
      refine C_seq ?_
      refine C_region ?_
      refine W_move rfl rfl rfl ?_
      refine W_move rfl rfl rfl ?_
      obtain ⟨y103, h104, he105, hm⟩ := idx_some hm
      refine W_indexStr rfl rfl Proofs.Tryd.runUnderlying9 rfl rfl h104 he105 ?_
      refine W_extern (cntB_extern Proofs.Tryd.func21 (by kernel_rfl) (by kernel_rfl) (by kernel_rfl) (by kernel_rfl) _ _) rfl rfl rfl ?_
      refine W_assign rfl rfl rfl ?_
      refine W_end ?_
      refine E_then ?_
      refine C_ret ?_
      refine E_ret_then ?_
      obtain rfl := Option.some.inj hm
      refine E_weak (Hp.le_refl _) ?_
      exact end1 rfl rfl ⟨rfl, rfl, rfl⟩
    · have hm := ite_f' hb102 hm
      refine C_skip ?_
      refine E_then ?_
      refine C_seq ?_
      refine C_region ?_
      refine W_assign rfl rfl rfl ?_
      refine W_end ?_
      refine E_then ?_
      refine C_block ?_
      refine C_keep (L' := [(0, .string (p0_s)), (1, .string (substr)), (5, .int .i64 (0))]) ⟨rfl, rfl, rfl, trivial⟩ (List.Perm.refl _) ?_
      refine C_loop (fun n H' M' L' => ∃ s118 : ByteArray, ∃ n119 : Int, loopF (fun s122 n => m_strings_Count_b1 substr s122.1 s122.2 n) n (s118, n119) = some r ∧ H.le H' ∧ M = M' ∧ [(0, .string (s118)), (1, .string (substr)), (5, .int .i64 (n119))] = L') FUEL ⟨p0_s, 0, hm, (Hp.le_refl _), rfl, rfl⟩ ?_
      rintro n125 H120 _ _ ⟨s118, n119, hm, hle121, rfl, rfl⟩
      cases n125 with
      | zero => cases hm
      | succ n125 =>
        have hm : m_strings_Count_b1 substr s118 n119 (loopF (fun s122 n => m_strings_Count_b1 substr s122.1 s122.2 n) n125) = some r := hm
        generalize hn124 : loopF (fun s122 n => m_strings_Count_b1 substr s122.1 s122.2 n) n125 = nx123 at hm
        unfold m_strings_Count_b1 at hm
        refine C_block ?_
        refine C_seq ?_
        refine C_region ?_
        refine W_move rfl rfl rfl ?_
        refine W_move rfl rfl rfl ?_
        obtain ⟨r131, hc132, hm⟩ := bind_some hm
        refine W_call Proofs.Tryd.call22 rfl rfl rfl (fun w ht => by have h := m_strings_Index_c (hm := hc132)  ht; exact h) ?_
        rintro _ _ _ ⟨rfl, rfl, rfl⟩
        refine W_assign rfl rfl rfl ?_
        refine W_end ?_
        refine E_then ?_
        refine C_seq ?_
        refine C_seq ?_
        refine C_region ?_
        refine W_move rfl rfl rfl ?_
        refine W_bin rfl rfl rfl rfl rfl ?_
        refine W_end ?_
        refine E_then ?_
        refine C_cond (b := decide (r131 = (-1))) rfl (fun hb133 => ?_) (fun hb133 => ?_)
        · have hm := ite_t' hb133 hm
          refine C_seq ?_
          refine C_region ?_
          refine W_move rfl rfl rfl ?_
          refine W_assign rfl rfl rfl ?_
          refine W_end ?_
          refine E_then ?_
          refine C_ret ?_
          refine E_ret_then ?_
          refine E_ret_block ?_
          refine E_ret_then ?_
          refine E_ret_block ?_
          obtain rfl := Option.some.inj hm
          refine E_weak hle121 ?_
          exact end1 rfl rfl ⟨rfl, rfl, rfl⟩
        · have hm := ite_f' hb133 hm
          refine C_skip ?_
          refine E_then ?_
          refine C_seq ?_
          refine C_region ?_
          refine W_move rfl rfl rfl ?_
          refine W_bin rfl rfl rfl rfl rfl ?_
          refine W_assign rfl rfl rfl ?_
          refine W_end ?_
          refine E_then ?_
          refine C_region ?_
          refine W_move rfl rfl rfl ?_
          refine W_move rfl rfl rfl ?_
          refine W_move rfl rfl rfl ?_
          refine W_lenStr rfl rfl Proofs.Tryd.runUnderlying9 rfl ?_
          refine W_bin rfl rfl rfl rfl rfl ?_
          obtain ⟨hz134, hm⟩ := need_some hm
          refine W_sliceStr (l := (IntKind.i64.wrap (r131 + (substr.size : Int)) : Int).toNat) (h := s118.size) rfl rfl Proofs.Tryd.runUnderlying9 rfl (.inl ⟨rfl, rfl⟩) (.inr ⟨_, _, _, rfl, rfl, by omega, by omega, rfl⟩) ?_
          refine W_assign rfl rfl rfl ?_
          refine W_end ?_
          refine E_normal_block ?_
          exact E_keepJ (E_back (Nat.lt_succ_self _) ⟨s118.extract ((IntKind.i64.wrap (r131 + (substr.size : Int)) : Int).toNat) s118.size, IntKind.i64.wrap (n119 + 1), (by rw [hn124]; exact hm), hle121, rfl, rfl⟩) (List.Perm.refl _) ⟨rfl, rfl, rfl, trivial⟩

theorem m_strings_genSplit_c {B : Nat} {w0 w : World} [Tabs B w0] {H : Hp} {M : List Res} {p0_s : ByteArray} {sep : ByteArray} {sepSave : Int} {p3_n : Int} {r : (List ByteArray)} (hm : m_strings_genSplit p0_s sep sepSave p3_n = some r) (ht : St B w0 H (M) w) :
    Calls Proofs.Tryd.prog 25 [.string (p0_s), .string (sep), .int .i64 (sepSave), .int .i64 (p3_n)].toArray w (Ret B w0 fun H' M' v => H = H' ∧ ∃ qv0 : Value, ∃ qxs0 : List Value, .row qv0 9 (Rep.sz ByteArray) r.length qxs0 :: M = M' ∧ qv0 = v ∧ RwF qv0 qxs0 r) := by
  unfold m_strings_genSplit at hm
  refine enter Proofs.Tryd.func25 rfl rfl rfl ht ?_
  refine C_seq ?_
  refine C_region ?_
  refine W_assign rfl rfl rfl ?_
  refine W_end ?_
  refine E_then ?_
  refine C_seq ?_
  refine C_seq ?_
  refine C_region ?_
  refine W_move rfl rfl rfl ?_
  refine W_bin rfl rfl rfl rfl rfl ?_
  refine W_end ?_
  refine E_then ?_
  refine C_cond (b := decide (p3_n = 0)) rfl (fun hb101 => ?_) (fun hb101 => ?_)
  · have hm := ite_t' hb101 hm
    refine C_seq ?_
    refine C_region ?_
    refine W_assign rfl rfl rfl ?_
    refine W_end ?_
    refine E_then ?_
    refine C_ret ?_
    refine E_ret_then ?_
    refine E_nilRow 9 (Rep.sz ByteArray) ?_
    obtain rfl := Option.some.inj hm
    refine E_weak (Hp.le_refl _) ?_
    exact end1 rfl rfl ⟨rfl, (.slice none 0 0), [], rfl, rfl, (Rw.nil (H := H)).toF⟩
  · have hm := ite_f' hb101 hm
    refine C_skip ?_
    refine E_then ?_
    refine C_seq ?_
    refine C_seq ?_
    refine C_region ?_
    refine W_move rfl rfl rfl ?_
    refine W_bin rfl rfl rfl rfl rfl ?_
    refine W_end ?_
    refine E_then ?_
    refine C_cond (b := decide (sep = (⟨#[]⟩))) rfl (fun hb102 => ?_) (fun hb102 => ?_)
    · have hm := ite_t' hb102 hm
      refine C_seq ?_
      cases hm
    · have hm := ite_f' hb102 hm
      refine C_skip ?_
      refine E_then ?_
      refine C_seq_join (fun H' M' L' => ∃ n106 : Int, m_strings_genSplit_b4 p0_s sep sepSave n106 = some r ∧ H = H' ∧ M = M' ∧ [(0, .string (p0_s)), (1, .string (sep)), (2, .int .i64 (sepSave)), (3, .int .i64 (n106))] = L') ?_ (fun J107 => ?_)
      · rintro _ _ _ ⟨n106, hm, rfl, rfl, rfl⟩
        unfold m_strings_genSplit_b4 at hm
        refine C_seq ?_
        refine C_region ?_
        refine W_move rfl rfl rfl ?_
        refine W_move rfl rfl rfl ?_
        refine W_lenStr rfl rfl Proofs.Tryd.runUnderlying9 rfl ?_
        refine W_bin rfl rfl rfl rfl rfl ?_
        refine W_min rfl rfl rfl rfl ?_
        refine W_assign rfl rfl rfl ?_
        refine W_end ?_
        refine E_then ?_
        refine C_seq ?_
        refine C_region ?_
        refine W_move rfl rfl rfl ?_
        obtain ⟨hz108, hm⟩ := need_some hm
        refine W_makeSlice (α := ByteArray) (zs := [.string (⟨#[]⟩)]) (ze := (⟨#[]⟩)) rfl rfl Proofs.Tryd.underlying47 ⟨_, rfl, rfl, rfl, rfl⟩ rfl rfl rfl rfl rfl rfl hz108.1 hz108.2 ?_
        intro v109 xs110 hr111
        refine W_assign rfl rfl rfl ?_
        refine W_end ?_
        refine E_then ?_
        refine C_seq ?_
        refine C_region ?_
        refine W_move rfl rfl rfl ?_
        refine W_bin rfl rfl rfl rfl rfl ?_
        refine W_assign rfl rfl rfl ?_
        refine W_end ?_
        refine E_then ?_
        refine C_seq ?_
        refine C_region ?_
        refine W_assign rfl rfl rfl ?_
        refine W_end ?_
        refine E_then ?_
        refine C_seq_join (fun H' M' L' => ∃ s183 : ByteArray, ∃ l186 : List ByteArray, ∃ n188 : Int, ∃ xs185 : List Value, m_strings_genSplit_b2 s183 l186 n188 = some r ∧ Rw H' v109 xs185 l186 ∧ H.le H' ∧ .row v109 9 (Rep.sz ByteArray) l186.length xs185 :: M = M' ∧ [(0, .string (s183)), (9, v109), (10, .int .i64 (n188))] = L') ?_ (fun J191 => ?_)
        · rintro H189 _ _ ⟨s183, l186, n188, xs185, hm, hr187, hle190, rfl, rfl⟩
          unfold m_strings_genSplit_b2 at hm
          refine C_seq ?_
          refine C_region ?_
          refine W_move rfl rfl rfl ?_
          refine W_move rfl rfl rfl ?_
          refine W_move rfl rfl rfl ?_
          obtain ⟨y192, h193, he194, hm⟩ := idx_some hm
          refine W_indexO (List.mem_cons_self ..) rfl rfl Proofs.Tryd.runUnderlying47 Proofs.Tryd.sizeOf9 rfl rfl h193 (List.getElem?_eq_some_iff.1 he194).1 ?_
          obtain ⟨_, rfl, hg195⟩ := (hr187).elem he194
          obtain ⟨hr196, he197, hg198⟩ := Rw.put (cs := [.string (s183)]) (o := 0) (c := [.string (y192)]) (out := [.string (s183)]) (e2 := s183) hr187 he194 rfl hg195 rfl rfl rfl
          refine W_storeO2 (i := (n188 : Int).toNat * Rep.sz ByteArray + 0) (cs := [.string (s183)]) rfl Proofs.Tryd.sizeOf9 rfl (row_ad0 _ _) rfl rfl rfl (Rw.room hr187 he194 rfl) rfl (all_cons rfl all_nil) (n' := (l186.set ((n188 : Int).toNat) s183).length) List.length_set ?_
          generalize over xs185 ((n188 : Int).toNat * Rep.sz ByteArray + 0) [.string (s183)] = xs199 at hr196 hg198 ⊢
          refine W_end ?_
          refine E_then ?_
          refine C_seq ?_
          refine C_region ?_
          refine W_move rfl rfl rfl ?_
          refine W_move rfl rfl rfl ?_
          refine W_bin rfl rfl rfl rfl rfl ?_
          obtain ⟨hz200, hm⟩ := need_some hm
          refine W_sliceO (α := ByteArray) (l := 0) (h := (IntKind.i64.wrap (n188 + 1) : Int).toNat) rfl rfl Proofs.Tryd.runUnderlying47 Proofs.Tryd.sizeOf9 rfl rfl hr196 (by omega) (by omega) (fun m hmm => (.inr ⟨_, _, _, rfl, rfl, by omega, by omega, rfl⟩)) (.inl ⟨rfl, rfl⟩) ?_
          intro v201 xs202 hr203
          refine W_assign rfl rfl rfl ?_
          refine W_end ?_
          refine E_then ?_
          refine C_ret ?_
          obtain rfl := Option.some.inj hm
          refine E_weak hle190 ?_
          exact end1 rfl rfl ⟨rfl, v201, xs202, rfl, rfl, (hr203).toF⟩
        · refine C_block ?_
          refine C_keep (L' := [(0, .string (p0_s)), (1, .string (sep)), (2, .int .i64 (sepSave)), (3, .int .i64 (IntKind.i64.wrap ((min n106 (IntKind.i64.wrap ((p0_s.size : Int) + 1))) - 1))), (9, v109), (10, .int .i64 (0))]) ⟨rfl, rfl, rfl, rfl, rfl, rfl, trivial⟩ (List.Perm.refl _) ?_
          refine C_loop (fun n H' M' L' => ∃ s244 : ByteArray, ∃ l247 : List ByteArray, ∃ n249 : Int, ∃ xs246 : List Value, loopF (fun s252 n => m_strings_genSplit_b3 p0_s sep sepSave n106 s252.1 s252.2.1 s252.2.2 n) n (s244, l247, n249) = some r ∧ Rw H' v109 xs246 l247 ∧ H.le H' ∧ .row v109 9 (Rep.sz ByteArray) l247.length xs246 :: M = M' ∧ [(0, .string (s244)), (1, .string (sep)), (2, .int .i64 (sepSave)), (3, .int .i64 (IntKind.i64.wrap ((min n106 (IntKind.i64.wrap ((p0_s.size : Int) + 1))) - 1))), (9, v109), (10, .int .i64 (n249))] = L') FUEL ⟨p0_s, (List.replicate (min n106 (IntKind.i64.wrap ((p0_s.size : Int) + 1)) : Int).toNat ((⟨#[]⟩) : ByteArray)), 0, xs110, hm, hr111, (Hp.le_refl _), rfl, rfl⟩ ?_
          rintro n255 H250 _ _ ⟨s244, l247, n249, xs246, hm, hr248, hle251, rfl, rfl⟩
          cases n255 with
          | zero => cases hm
          | succ n255 =>
            have hm : m_strings_genSplit_b3 p0_s sep sepSave n106 s244 l247 n249 (loopF (fun s252 n => m_strings_genSplit_b3 p0_s sep sepSave n106 s252.1 s252.2.1 s252.2.2 n) n255) = some r := hm
            generalize hn254 : loopF (fun s252 n => m_strings_genSplit_b3 p0_s sep sepSave n106 s252.1 s252.2.1 s252.2.2 n) n255 = nx253 at hm
            unfold m_strings_genSplit_b3 at hm
            refine C_seq ?_
            refine C_seq ?_
            refine C_region ?_
            refine W_move rfl rfl rfl ?_
            refine W_move rfl rfl rfl ?_
            refine W_bin rfl rfl rfl rfl rfl ?_
            refine W_end ?_
            refine E_then ?_
            refine C_cond (b := decide (n249 < (IntKind.i64.wrap ((min n106 (IntKind.i64.wrap ((p0_s.size : Int) + 1))) - 1)))) rfl (fun hb261 => ?_) (fun hb261 => ?_)
            · have hm := ite_t' hb261 hm
              refine C_skip ?_
              refine E_then ?_
              refine C_block ?_
              refine C_seq ?_
              refine C_region ?_
              refine W_move rfl rfl rfl ?_
              refine W_move rfl rfl rfl ?_
              obtain ⟨r262, hc263, hm⟩ := bind_some hm
              refine W_call Proofs.Tryd.call22 rfl rfl rfl (fun w ht => by have h := m_strings_Index_c (hm := hc263)  ht; exact h) ?_
              rintro _ _ _ ⟨rfl, rfl, rfl⟩
              refine W_assign rfl rfl rfl ?_
              refine W_end ?_
              refine E_then ?_
              refine C_seq ?_
              refine C_seq ?_
              refine C_region ?_
              refine W_move rfl rfl rfl ?_
              refine W_bin rfl rfl rfl rfl rfl ?_
              refine W_end ?_
              refine E_then ?_
              refine C_cond (b := decide (r262 < 0)) rfl (fun hb264 => ?_) (fun hb264 => ?_)
              · have hm := ite_t' hb264 hm
                refine C_exit ?_
                refine E_exit_then ?_
                refine E_exit_miss rfl ?_
                refine E_exit_then ?_
                refine E_exit_hit ?_
                exact E_keepJ (J191 _ _ _ ⟨s244, l247, n249, xs246, hm, hr248, hle251, rfl, rfl⟩) (List.Perm.refl _) ⟨rfl, rfl, rfl, trivial⟩
              · have hm := ite_f' hb264 hm
                refine C_skip ?_
                refine E_then ?_
                refine C_seq ?_
                refine C_region ?_
                refine W_move rfl rfl rfl ?_
                refine W_move rfl rfl rfl ?_
                refine W_move rfl rfl rfl ?_
                refine W_move rfl rfl rfl ?_
                refine W_move rfl rfl rfl ?_
                refine W_bin rfl rfl rfl rfl rfl ?_
                obtain ⟨hz265, hm⟩ := need_some hm
                refine W_sliceStr (l := 0) (h := (IntKind.i64.wrap (r262 + sepSave) : Int).toNat) rfl rfl Proofs.Tryd.runUnderlying9 rfl (.inr ⟨_, _, _, rfl, rfl, by omega, by omega, rfl⟩) (.inl ⟨rfl, rfl⟩) ?_
                obtain ⟨y266, h267, he268, hm⟩ := idx_some hm
                refine W_indexO (List.mem_cons_self ..) rfl rfl Proofs.Tryd.runUnderlying47 Proofs.Tryd.sizeOf9 rfl rfl h267 (List.getElem?_eq_some_iff.1 he268).1 ?_
                obtain ⟨_, rfl, hg269⟩ := (hr248).elem he268
                obtain ⟨hr270, he271, hg272⟩ := Rw.put (cs := [.string (s244.extract 0 ((IntKind.i64.wrap (r262 + sepSave) : Int).toNat))]) (o := 0) (c := [.string (y266)]) (out := [.string (s244.extract 0 ((IntKind.i64.wrap (r262 + sepSave) : Int).toNat))]) (e2 := (s244.extract 0 ((IntKind.i64.wrap (r262 + sepSave) : Int).toNat))) hr248 he268 rfl hg269 rfl rfl rfl
                refine W_storeO2 (i := (n249 : Int).toNat * Rep.sz ByteArray + 0) (cs := [.string (s244.extract 0 ((IntKind.i64.wrap (r262 + sepSave) : Int).toNat))]) rfl Proofs.Tryd.sizeOf9 rfl (row_ad0 _ _) rfl rfl rfl (Rw.room hr248 he268 rfl) rfl (all_cons rfl all_nil) (n' := (l247.set ((n249 : Int).toNat) (s244.extract 0 ((IntKind.i64.wrap (r262 + sepSave) : Int).toNat))).length) List.length_set ?_
                generalize over xs246 ((n249 : Int).toNat * Rep.sz ByteArray + 0) [.string (s244.extract 0 ((IntKind.i64.wrap (r262 + sepSave) : Int).toNat))] = xs273 at hr270 hg272 ⊢
                refine W_end ?_
                refine E_then ?_
                refine C_seq ?_
                refine C_region ?_
                refine W_move rfl rfl rfl ?_
                refine W_move rfl rfl rfl ?_
                refine W_move rfl rfl rfl ?_
                refine W_lenStr rfl rfl Proofs.Tryd.runUnderlying9 rfl ?_
                refine W_bin rfl rfl rfl rfl rfl ?_
                obtain ⟨hz274, hm⟩ := need_some hm
                refine W_sliceStr (l := (IntKind.i64.wrap (r262 + (sep.size : Int)) : Int).toNat) (h := s244.size) rfl rfl Proofs.Tryd.runUnderlying9 rfl (.inl ⟨rfl, rfl⟩) (.inr ⟨_, _, _, rfl, rfl, by omega, by omega, rfl⟩) ?_
                refine W_assign rfl rfl rfl ?_
                refine W_end ?_
                refine E_then ?_
                refine C_region ?_
                refine W_move rfl rfl rfl ?_
                refine W_bin rfl rfl rfl rfl rfl ?_
                refine W_assign rfl rfl rfl ?_
                refine W_end ?_
                refine E_normal_block ?_
                exact E_keepJ (E_back (Nat.lt_succ_self _) ⟨s244.extract ((IntKind.i64.wrap (r262 + (sep.size : Int)) : Int).toNat) s244.size, (l247.set ((n249 : Int).toNat) (s244.extract 0 ((IntKind.i64.wrap (r262 + sepSave) : Int).toNat))), IntKind.i64.wrap (n249 + 1), xs273, (by rw [hn254]; exact hm), hr270, hle251, rfl, rfl⟩) (List.Perm.refl _) ⟨rfl, rfl, rfl, rfl, rfl, rfl, trivial⟩
            · have hm := ite_f' hb261 hm
              refine C_exit ?_
              refine E_exit_then ?_
              refine E_exit_then ?_
              refine E_exit_hit ?_
              exact E_keepJ (J191 _ _ _ ⟨s244, l247, n249, xs246, hm, hr248, hle251, rfl, rfl⟩) (List.Perm.refl _) ⟨rfl, rfl, rfl, trivial⟩
      · refine C_seq ?_
        refine C_region ?_
        refine W_move rfl rfl rfl ?_
        refine W_bin rfl rfl rfl rfl rfl ?_
        refine W_end ?_
        refine E_then ?_
        refine C_cond (b := decide (p3_n < 0)) rfl (fun hb275 => ?_) (fun hb275 => ?_)
        · have hm := ite_t' hb275 hm
          refine C_region ?_
          refine W_move rfl rfl rfl ?_
          refine W_move rfl rfl rfl ?_
          obtain ⟨r276, hc277, hm⟩ := bind_some hm
          refine W_call Proofs.Tryd.call12 rfl rfl rfl (fun w ht => by have h := m_strings_Count_c (hm := hc277)  ht; exact h) ?_
          rintro _ _ _ ⟨rfl, rfl, rfl⟩
          refine W_bin rfl rfl rfl rfl rfl ?_
          refine W_assign rfl rfl rfl ?_
          refine W_end ?_
          exact E_keepJ (J107 _ _ _ ⟨IntKind.i64.wrap (r276 + 1), hm, rfl, rfl, rfl⟩) (List.Perm.refl _) ⟨rfl, rfl, rfl, rfl, trivial⟩
        · have hm := ite_f' hb275 hm
          refine C_skip ?_
          exact E_keepJ (J107 _ _ _ ⟨p3_n, hm, rfl, rfl, rfl⟩) (List.Perm.refl _) ⟨rfl, rfl, rfl, rfl, trivial⟩

theorem m_strings_Split_c {B : Nat} {w0 w : World} [Tabs B w0] {H : Hp} {M : List Res} {p0_s : ByteArray} {sep : ByteArray} {r : (List ByteArray)} (hm : m_strings_Split p0_s sep = some r) (ht : St B w0 H (M) w) :
    Calls Proofs.Tryd.prog 15 [.string (p0_s), .string (sep)].toArray w (Ret B w0 fun H' M' v => H = H' ∧ ∃ qv0 : Value, ∃ qxs0 : List Value, .row qv0 9 (Rep.sz ByteArray) r.length qxs0 :: M = M' ∧ qv0 = v ∧ RwF qv0 qxs0 r) := by
  unfold m_strings_Split at hm
  refine enter Proofs.Tryd.func15 rfl rfl rfl ht ?_
  refine C_seq ?_
  refine C_region ?_
  refine W_assign rfl rfl rfl ?_
  refine W_end ?_
  refine E_then ?_
  refine C_seq ?_
  refine C_region ?_
  refine W_move rfl rfl rfl ?_
  refine W_move rfl rfl rfl ?_
  obtain ⟨r101, hc102, hm⟩ := bind_some hm
  refine W_call Proofs.Tryd.call25 rfl rfl rfl (fun w ht => by have h := m_strings_genSplit_c (hm := hc102)  ht; exact h) ?_
  rintro _ _ _ ⟨rfl, v103, xs104, rfl, rfl, h105⟩
  have h105 := h105 H
  refine W_assign rfl rfl rfl ?_
  refine W_end ?_
  refine E_then ?_
  refine C_ret ?_
  obtain rfl := Option.some.inj hm
  refine E_weak (Hp.le_refl _) ?_
  exact end1 rfl rfl ⟨rfl, v103, xs104, rfl, rfl, (h105).toF⟩

theorem atoi16_c {B : Nat} {w0 w : World} [Tabs B w0] {H : Hp} {M : List Res} {s : ByteArray} (hs : s.size ≤ 281474976710656) (ht : St B w0 H M w) :
    Calls Proofs.Tryd.prog 16 [.string s].toArray w (Ret B w0 fun H' M' v => H = H' ∧ ∃ ev : Value, M = M' ∧ .tuple #[.int .i64 (atoiB s).1, ev] = v ∧ IsErr ev (atoiB s).2) := by
  unfold atoiB
  obtain ⟨T1, p1, h1⟩ := Tabs.e1 (B := B) (w0 := w0)
  obtain ⟨T2, p2, h2⟩ := Tabs.e2 (B := B) (w0 := w0)
  cases h : Lib.atoiAll s.data.toList with
  | ok v =>
    refine (Proofs.Tryd.strconv_Atoi_ok s (by omega) v h w).mono ?_
    rintro e w' ⟨rfl, hw⟩
    refine ⟨H, M, ?_, rfl, .nilIface, rfl, rfl, .inl ⟨rfl, rfl⟩⟩
    rcases hw with rfl | ⟨t, rfl⟩
    · exact ht
    · exact ht.under (Joins.below_bytesWorld _ _ _ _ (Nat.le_refl _))
  | range =>
    refine (Proofs.Tryd.strconv_Atoi_range_var s hs h T2 p2 w ((ht.var? gn2 (Tabs.below (w0 := w0) rfl)).trans h2)).mono ?_
    rintro e w' ⟨N, rfl, _, _, hb⟩
    exact ⟨H, M, ht.under hb, rfl, _, rfl, rfl, .inr ⟨rfl, _, _, rfl⟩⟩
  | _ =>
    refine (Proofs.Tryd.strconv_Atoi_syntax_var s hs h T1 p1 w ((ht.var? gn1 (Tabs.below (w0 := w0) rfl)).trans h1)).mono ?_
    rintro e w' ⟨N, rfl, _, _, hb⟩
    exact ⟨H, M, ht.under hb, rfl, _, rfl, rfl, .inr ⟨rfl, _, _, rfl⟩⟩

theorem m_console_Parse_c {B : Nat} {w0 w : World} [Tabs B w0] {H : Hp} {M : List Res} {p0_s : ByteArray} {r : S_api_ConsoleCommand × Int} (hm : m_console_Parse p0_s = some r) (ht : St B w0 H (M) w) :
    Calls Proofs.Tryd.prog 6 [.string (p0_s)].toArray w (Ret B w0 fun H' M' v => H = H' ∧ M = M' ∧ .tuple #[.agg [.string (r.1.Verb), .string (r.1.Name), .int .i64 (r.1.N)].toArray, .int .i64 (r.2)] = v) := by
  unfold m_console_Parse at hm
  refine enter Proofs.Tryd.func6 rfl rfl rfl ht ?_
  refine C_seq ?_
  refine C_region ?_
  refine W_alloc (cs := [.string (⟨#[]⟩), .string (⟨#[]⟩), .int .i64 (0)]) rfl rfl Proofs.Tryd.zeroValue23 rfl (fun b101 => ?_)
  refine W_assign rfl rfl rfl ?_
  refine W_end ?_
  refine E_then ?_
  refine C_seq ?_
  refine C_region ?_
  refine W_build (css := []) (zs := [.string (⟨#[]⟩), .string (⟨#[]⟩), .int .i64 (0)]) (out := [.string (⟨#[]⟩), .string (⟨#[]⟩), .int .i64 (0)]) (places := [(0, 1), (1, 1), (2, 1)]) rfl rfl rfl trivial Proofs.Tryd.zeroValue23 rfl Proofs.Tryd.runUnderlying23 (fun w => by kernel_rfl) rfl ?_
  refine W_alloc (cs := [.string (⟨#[]⟩), .string (⟨#[]⟩), .int .i64 (0)]) rfl rfl Proofs.Tryd.zeroValue23 rfl (fun b102 => ?_)
  refine W_store (cs := [.string (⟨#[]⟩), .string (⟨#[]⟩), .int .i64 (0)]) (out := [.string (⟨#[]⟩), .string (⟨#[]⟩), .int .i64 (0)]) rfl Proofs.Tryd.sizeOf23 rfl rfl rfl rfl rfl (all_cons rfl (all_cons rfl (all_cons rfl all_nil))) (over_all rfl) ?_
  refine W_end ?_
  refine E_then ?_
  refine C_seq ?_
  refine C_seq ?_
  refine C_region ?_
  refine W_move rfl rfl rfl ?_
  refine W_lenStr rfl rfl Proofs.Tryd.runUnderlying9 rfl ?_
  refine W_bin rfl rfl rfl rfl rfl ?_
  refine W_end ?_
  refine E_then ?_
  refine C_cond (b := decide (8192 < (p0_s.size : Int))) rfl (fun hb103 => ?_) (fun hb103 => ?_)
  · have hm := ite_t' hb103 hm
    refine C_seq ?_
    refine C_region ?_
    refine W_loadAgg rfl rfl Proofs.Tryd.isAgg23 Proofs.Tryd.sizeOf23 rfl (own_all (List.mem_cons_self ..)) rfl ?_
    refine W_perm (List.Perm.swap _ _ _) ?_
    refine W_store (cs := [.string (⟨#[]⟩), .string (⟨#[]⟩), .int .i64 (0)]) (out := [.string (⟨#[]⟩), .string (⟨#[]⟩), .int .i64 (0)]) rfl Proofs.Tryd.sizeOf23 rfl rfl rfl rfl rfl (all_cons rfl (all_cons rfl (all_cons rfl all_nil))) (over_all rfl) ?_
    refine W_assign rfl rfl rfl ?_
    refine W_end ?_
    refine E_then ?_
    refine C_ret ?_
    refine E_ret_then ?_
    obtain rfl := Option.some.inj hm
    exact endC2 (Hp.le_refl _) rfl (ResV.agg rfl Proofs.Tryd.isAgg23 Proofs.Tryd.sizeOf23 (List.mem_cons_self ..) rfl) (ResV.tmp rfl) (List.Sublist.cons _ (List.Sublist.cons _ (List.Sublist.refl _))) (List.Perm.refl _) ⟨rfl, rfl, rfl⟩
  · have hm := ite_f' hb103 hm
    refine C_skip ?_
    refine E_then ?_
    refine C_seq ?_
    refine C_region ?_
    refine W_move rfl rfl rfl ?_
    obtain ⟨r104, hc105, hm⟩ := bind_some hm
    refine W_call Proofs.Tryd.call15 rfl rfl rfl (fun w ht => by have h := m_strings_Split_c (hm := hc105)  ht; exact h) ?_
    rintro _ _ _ ⟨rfl, v106, xs107, rfl, rfl, h108⟩
    have h108 := h108 H
    refine W_assign rfl rfl rfl ?_
    refine W_end ?_
    refine E_then ?_
    refine C_seq ?_
    refine C_region ?_
    refine W_move rfl rfl rfl ?_
    obtain ⟨y109, h110, he111, hm⟩ := idx_some hm
    refine W_indexO (List.mem_cons_self ..) rfl rfl Proofs.Tryd.runUnderlying47 Proofs.Tryd.sizeOf9 rfl rfl h110 (List.getElem?_eq_some_iff.1 he111).1 ?_
    obtain ⟨_, rfl, hg112⟩ := (h108).elem he111
    refine W_load rfl rfl Proofs.Tryd.isAgg9 rfl (row_one0 (List.mem_cons_self ..) hg112 rfl) ?_
    obtain ⟨r113, hc114, hm⟩ := bind_some hm
    refine W_call Proofs.Tryd.call13 rfl rfl rfl (fun w ht => by have h := m_console_find_c (hm := hc114)  ht; exact h) ?_
    rintro _ _ _ ⟨rfl, rfl, rfl⟩
    refine W_move rfl rfl rfl ?_
    refine W_extract rfl rfl rfl rfl ?_
    refine W_extract rfl rfl rfl rfl ?_
    refine W_alloc (cs := [.string (⟨#[]⟩), .bool (false), .bool (false), .int .i64 (0), .int .i64 (0)]) rfl rfl Proofs.Tryd.zeroValue43 rfl (fun b115 => ?_)
    refine W_store (cs := [.string (r113.1.verb), .bool (r113.1.name), .bool (r113.1.n), .int .i64 (r113.1.low_), .int .i64 (r113.1.high_)]) (out := [.string (r113.1.verb), .bool (r113.1.name), .bool (r113.1.n), .int .i64 (r113.1.low_), .int .i64 (r113.1.high_)]) rfl Proofs.Tryd.sizeOf43 rfl rfl rfl rfl rfl (all_cons rfl (all_cons rfl (all_cons rfl (all_cons rfl (all_cons rfl all_nil))))) (over_all rfl) ?_
    refine W_assign rfl rfl rfl ?_
    refine W_end ?_
    refine E_then ?_
    refine C_seq ?_
    refine C_region ?_
    refine W_assign rfl rfl rfl ?_
    refine W_end ?_
    refine E_then ?_
    refine C_seq_join (fun H' M' L' => ∃ n117 : Int, m_console_Parse_b4 r104 r113 n117 = some r ∧ H = H' ∧ .obj b115 (.cells [.string (r113.1.verb), .bool (r113.1.name), .bool (r113.1.n), .int .i64 (r113.1.low_), .int .i64 (r113.1.high_)].toArray 43 (0, 0)) :: .row v106 9 (Rep.sz ByteArray) r104.length xs107 :: .obj b102 (.cells [.string (⟨#[]⟩), .string (⟨#[]⟩), .int .i64 (0)].toArray 23 (0, 0)) :: .obj b101 (.cells [.string (⟨#[]⟩), .string (⟨#[]⟩), .int .i64 (0)].toArray 23 (0, 0)) :: M = M' ∧ [(2, .pointer (some ⟨b101, 0, none⟩)), (4, .pointer (some ⟨b102, 0, none⟩)), (5, v106), (6, .pointer (some ⟨b115, 0, none⟩)), (7, .bool (r113.2)), (8, .int .i64 (n117))] = L') ?_ (fun J118 => ?_)
    · rintro _ _ _ ⟨n117, hm, rfl, rfl, rfl⟩
      unfold m_console_Parse_b4 at hm
      refine C_seq_join (fun H' M' L' => ∃ n120 : Int, m_console_Parse_b3 r104 r113 n120 = some r ∧ H = H' ∧ .obj b115 (.cells [.string (r113.1.verb), .bool (r113.1.name), .bool (r113.1.n), .int .i64 (r113.1.low_), .int .i64 (r113.1.high_)].toArray 43 (0, 0)) :: .row v106 9 (Rep.sz ByteArray) r104.length xs107 :: .obj b102 (.cells [.string (⟨#[]⟩), .string (⟨#[]⟩), .int .i64 (0)].toArray 23 (0, 0)) :: .obj b101 (.cells [.string (⟨#[]⟩), .string (⟨#[]⟩), .int .i64 (0)].toArray 23 (0, 0)) :: M = M' ∧ [(2, .pointer (some ⟨b101, 0, none⟩)), (4, .pointer (some ⟨b102, 0, none⟩)), (5, v106), (6, .pointer (some ⟨b115, 0, none⟩)), (7, .bool (r113.2)), (8, .int .i64 (n120))] = L') ?_ (fun J121 => ?_)
      · rintro _ _ _ ⟨n120, hm, rfl, rfl, rfl⟩
        unfold m_console_Parse_b3 at hm
        refine C_seq ?_
        refine C_seq_join (fun H' M' L' => H = H' ∧ .obj b115 (.cells [.string (r113.1.verb), .bool (r113.1.name), .bool (r113.1.n), .int .i64 (r113.1.low_), .int .i64 (r113.1.high_)].toArray 43 (0, 0)) :: .row v106 9 (Rep.sz ByteArray) r104.length xs107 :: .obj b102 (.cells [.string (⟨#[]⟩), .string (⟨#[]⟩), .int .i64 (0)].toArray 23 (0, 0)) :: .obj b101 (.cells [.string (⟨#[]⟩), .string (⟨#[]⟩), .int .i64 (0)].toArray 23 (0, 0)) :: M = M' ∧ [(2, .pointer (some ⟨b101, 0, none⟩)), (4, .pointer (some ⟨b102, 0, none⟩)), (5, v106), (6, .pointer (some ⟨b115, 0, none⟩)), (8, .int .i64 (n120)), (42, .bool ((!r113.2) || (!decide ((r104.length : Int) = n120))))] = L') ?_ (fun J123 => ?_)
        · rintro _ _ _ ⟨rfl, rfl, rfl⟩
          refine C_cond (b := (!r113.2) || (!decide ((r104.length : Int) = n120))) rfl (fun hb124 => ?_) (fun hb124 => ?_)
          · have hm := ite_t' hb124 hm
            refine C_seq ?_
            refine C_region ?_
            refine W_loadAgg rfl rfl Proofs.Tryd.isAgg23 Proofs.Tryd.sizeOf23 rfl (own_all (List.mem_cons_of_mem _ (List.mem_cons_of_mem _ (List.mem_cons_self ..)))) rfl ?_
            refine W_perm (List.Perm.trans (List.Perm.cons _ (List.Perm.cons _ (List.Perm.swap _ _ _))) (List.Perm.trans (List.Perm.cons _ (List.Perm.swap _ _ _)) (List.Perm.swap _ _ _))) ?_
            refine W_store (cs := [.string (⟨#[]⟩), .string (⟨#[]⟩), .int .i64 (0)]) (out := [.string (⟨#[]⟩), .string (⟨#[]⟩), .int .i64 (0)]) rfl Proofs.Tryd.sizeOf23 rfl rfl rfl rfl rfl (all_cons rfl (all_cons rfl (all_cons rfl all_nil))) (over_all rfl) ?_
            refine W_assign rfl rfl rfl ?_
            refine W_end ?_
            refine E_then ?_
            refine C_ret ?_
            refine E_ret_then ?_
            obtain rfl := Option.some.inj hm
            exact endC2 (Hp.le_refl _) rfl (ResV.agg rfl Proofs.Tryd.isAgg23 Proofs.Tryd.sizeOf23 (List.mem_cons_self ..) rfl) (ResV.tmp rfl) (List.Sublist.cons _ (List.Sublist.cons _ (List.Sublist.cons _ (List.Sublist.cons _ (List.Sublist.refl _))))) (List.Perm.refl _) ⟨rfl, rfl, rfl⟩
          · have hm := ite_f' hb124 hm
            refine C_skip ?_
            refine E_then ?_
            refine C_seq ?_
            refine C_region ?_
            refine W_move rfl rfl rfl ?_
            obtain ⟨y125, h126, he127, hm⟩ := idx_some hm
            refine W_indexO (List.mem_cons_of_mem _ (List.mem_cons_self ..)) rfl rfl Proofs.Tryd.runUnderlying47 Proofs.Tryd.sizeOf9 rfl rfl h126 (List.getElem?_eq_some_iff.1 he127).1 ?_
            obtain ⟨_, rfl, hg128⟩ := (h108).elem he127
            refine W_load rfl rfl Proofs.Tryd.isAgg9 rfl (row_one0 (List.mem_cons_of_mem _ (List.mem_cons_self ..)) hg128 rfl) ?_
            refine W_build (css := [[.string (y125)]]) (zs := [.string (⟨#[]⟩), .string (⟨#[]⟩), .int .i64 (0)]) (out := [.string (y125), .string (⟨#[]⟩), .int .i64 (0)]) (places := [(0, 1), (1, 1), (2, 1)]) rfl rfl rfl ⟨rfl, trivial⟩ Proofs.Tryd.zeroValue23 rfl Proofs.Tryd.runUnderlying23 (fun w => by kernel_rfl) rfl ?_
            refine W_alloc (cs := [.string (⟨#[]⟩), .string (⟨#[]⟩), .int .i64 (0)]) rfl rfl Proofs.Tryd.zeroValue23 rfl (fun b129 => ?_)
            refine W_store (cs := [.string (y125), .string (⟨#[]⟩), .int .i64 (0)]) (out := [.string (y125), .string (⟨#[]⟩), .int .i64 (0)]) rfl Proofs.Tryd.sizeOf23 rfl rfl rfl rfl rfl (all_cons rfl (all_cons rfl (all_cons rfl all_nil))) (over_all rfl) ?_
            refine W_end ?_
            refine E_then ?_
            refine C_seq_join (fun H' M' L' => ∃ s135 : ByteArray, m_console_Parse_b2 r104 r113 n120 y125 s135 = some r ∧ H = H' ∧ .obj b129 (.cells [.string (y125), .string (s135), .int .i64 (0)].toArray 23 (0, 0)) :: .obj b115 (.cells [.string (r113.1.verb), .bool (r113.1.name), .bool (r113.1.n), .int .i64 (r113.1.low_), .int .i64 (r113.1.high_)].toArray 43 (0, 0)) :: .row v106 9 (Rep.sz ByteArray) r104.length xs107 :: .obj b102 (.cells [.string (⟨#[]⟩), .string (⟨#[]⟩), .int .i64 (0)].toArray 23 (0, 0)) :: .obj b101 (.cells [.string (⟨#[]⟩), .string (⟨#[]⟩), .int .i64 (0)].toArray 23 (0, 0)) :: M = M' ∧ [(2, .pointer (some ⟨b101, 0, none⟩)), (4, .pointer (some ⟨b102, 0, none⟩)), (5, v106), (6, .pointer (some ⟨b115, 0, none⟩)), (8, .int .i64 (n120)), (9, .pointer (some ⟨b129, 0, none⟩))] = L') ?_ (fun J136 => ?_)
            · rintro _ _ _ ⟨s135, hm, rfl, rfl, rfl⟩
              unfold m_console_Parse_b2 at hm
              refine C_seq_join (fun H' M' L' => ∃ n156 : Int, m_console_Parse_b1 y125 s135 n156 = some r ∧ H.le H' ∧ .obj b129 (.cells [.string (y125), .string (s135), .int .i64 (n156)].toArray 23 (0, 0)) :: .obj b102 (.cells [.string (⟨#[]⟩), .string (⟨#[]⟩), .int .i64 (0)].toArray 23 (0, 0)) :: .obj b101 (.cells [.string (⟨#[]⟩), .string (⟨#[]⟩), .int .i64 (0)].toArray 23 (0, 0)) :: M = M' ∧ [(2, .pointer (some ⟨b101, 0, none⟩)), (4, .pointer (some ⟨b102, 0, none⟩)), (9, .pointer (some ⟨b129, 0, none⟩))] = L') ?_ (fun J159 => ?_)
              · rintro H157 _ _ ⟨n156, hm, hle158, rfl, rfl⟩
                unfold m_console_Parse_b1 at hm
                refine C_seq ?_
                refine C_seq ?_
                refine C_region ?_
                refine W_loadAgg rfl rfl Proofs.Tryd.isAgg23 Proofs.Tryd.sizeOf23 rfl (own_all (List.mem_cons_self ..)) rfl ?_
                obtain ⟨r160, hc161, hm⟩ := bind_some hm
                refine W_call Proofs.Tryd.call8 rfl rfl rfl (fun w ht => by have h := m_console_Check_c (hm := hc161)  ht; exact h) ?_
                rintro _ _ _ ⟨rfl, rfl, rfl⟩
                refine W_assign rfl rfl rfl ?_
                refine W_end ?_
                refine E_then ?_
                refine C_seq ?_
                refine C_region ?_
                refine W_move rfl rfl rfl ?_
                refine W_bin rfl rfl rfl rfl rfl ?_
                refine W_end ?_
                refine E_then ?_
                refine C_cond (b := !decide (r160 = 0)) rfl (fun hb162 => ?_) (fun hb162 => ?_)
                · have hm := ite_t' hb162 hm
                  refine C_seq ?_
                  refine C_region ?_
                  refine W_loadAgg rfl rfl Proofs.Tryd.isAgg23 Proofs.Tryd.sizeOf23 rfl (own_all (List.mem_cons_of_mem _ (List.mem_cons_self ..))) rfl ?_
                  refine W_move rfl rfl rfl ?_
                  refine W_perm (List.Perm.trans (List.Perm.cons _ (List.Perm.swap _ _ _)) (List.Perm.swap _ _ _)) ?_
                  refine W_store (cs := [.string (⟨#[]⟩), .string (⟨#[]⟩), .int .i64 (0)]) (out := [.string (⟨#[]⟩), .string (⟨#[]⟩), .int .i64 (0)]) rfl Proofs.Tryd.sizeOf23 rfl rfl rfl rfl rfl (all_cons rfl (all_cons rfl (all_cons rfl all_nil))) (over_all rfl) ?_
                  refine W_assign rfl rfl rfl ?_
                  refine W_end ?_
                  refine E_then ?_
                  refine C_ret ?_
                  refine E_ret_then ?_
                  obtain rfl := Option.some.inj hm
                  exact endC2 hle158 rfl (ResV.agg rfl Proofs.Tryd.isAgg23 Proofs.Tryd.sizeOf23 (List.mem_cons_self ..) rfl) (ResV.tmp rfl) (List.Sublist.cons _ (List.Sublist.cons _ (List.Sublist.cons _ (List.Sublist.refl _)))) (List.Perm.refl _) ⟨rfl, rfl, rfl⟩
                · have hm := ite_f' hb162 hm
                  refine C_skip ?_
                  refine E_then ?_
                  refine C_seq ?_
                  refine C_region ?_
                  refine W_loadAgg rfl rfl Proofs.Tryd.isAgg23 Proofs.Tryd.sizeOf23 rfl (own_all (List.mem_cons_self ..)) rfl ?_
                  refine W_perm (List.Perm.trans (List.Perm.cons _ (List.Perm.swap _ _ _)) (List.Perm.swap _ _ _)) ?_
                  refine W_store (cs := [.string (y125), .string (s135), .int .i64 (n156)]) (out := [.string (y125), .string (s135), .int .i64 (n156)]) rfl Proofs.Tryd.sizeOf23 rfl rfl rfl rfl rfl (all_cons rfl (all_cons rfl (all_cons rfl all_nil))) (over_all rfl) ?_
                  refine W_assign rfl rfl rfl ?_
                  refine W_end ?_
                  refine E_then ?_
                  refine C_ret ?_
                  obtain rfl := Option.some.inj hm
                  exact endC2 hle158 rfl (ResV.agg rfl Proofs.Tryd.isAgg23 Proofs.Tryd.sizeOf23 (List.mem_cons_self ..) rfl) (ResV.tmp rfl) (List.Sublist.cons _ (List.Sublist.cons _ (List.Sublist.cons _ (List.Sublist.refl _)))) (List.Perm.refl _) ⟨rfl, rfl, rfl⟩
              · refine C_seq ?_
                refine C_region ?_
                refine W_field (o := 2) rfl rfl Proofs.Tryd.runUnderlying43 rfl Proofs.Tryd.sizeOf4 rfl rfl rfl ?_
                refine W_load rfl rfl Proofs.Tryd.isAgg4 rfl (own_at (List.mem_cons_of_mem _ (List.mem_cons_self ..)) rfl) ?_
                refine W_end ?_
                refine E_then ?_
                refine C_cond (b := r113.1.n) rfl (fun hb163 => ?_) (fun hb163 => ?_)
                · have hm := ite_t' hb163 hm
                  refine C_seq ?_
                  refine C_region ?_
                  refine W_move rfl rfl rfl ?_
                  refine W_move rfl rfl rfl ?_
                  refine W_bin rfl rfl rfl rfl rfl ?_
                  obtain ⟨y164, h165, he166, hm⟩ := idx_some hm
                  refine W_indexO (List.mem_cons_of_mem _ (List.mem_cons_of_mem _ (List.mem_cons_self ..))) rfl rfl Proofs.Tryd.runUnderlying47 Proofs.Tryd.sizeOf9 rfl rfl h165 (List.getElem?_eq_some_iff.1 he166).1 ?_
                  obtain ⟨_, rfl, hg167⟩ := (h108).elem he166
                  refine W_load rfl rfl Proofs.Tryd.isAgg9 rfl (row_one0 (List.mem_cons_of_mem _ (List.mem_cons_of_mem _ (List.mem_cons_self ..))) hg167 rfl) ?_
                  obtain ⟨hz168, hm⟩ := need_some hm
                  refine W_call Proofs.Tryd.call16 rfl rfl rfl (fun w ht => by have h := atoi16_c hz168 ht; exact h) ?_
                  rintro _ _ _ ⟨rfl, v169, rfl, rfl, he170⟩
                  refine W_move rfl rfl rfl ?_
                  refine W_extract rfl rfl rfl rfl ?_
                  refine W_extract rfl rfl rfl rfl ?_
                  refine W_assign rfl rfl rfl ?_
                  refine W_assign rfl rfl rfl ?_
                  refine W_end ?_
                  refine E_then ?_
                  refine C_seq ?_
                  refine C_seq ?_
                  cases hb171 : ((atoiB y164).2)
                  · have hm := ite_f' hb171 hm
                    obtain ⟨hz172, hm⟩ := need_some hm
                    obtain ⟨y173, h174, he175, hm⟩ := idx_some hm
                    obtain ⟨_, rfl, hg176⟩ := (h108).elem he175
                    refine C_region_tok0 10 (phiT [(fun H rs v => [] = rs ∧ v169 = v), (fun H rs v => [] = rs ∧ .bool (false) = v), (fun H rs v => [] = rs ∧ .bool (false) = v), (fun H rs v => [] = rs ∧ .int .i64 ((atoiB y164).1) = v), (fun H rs v => [] = rs ∧ .string (itoaB ((atoiB y164).1)) = v), (fun H rs v => [] = rs ∧ v106 = v), (fun H rs v => [] = rs ∧ .int .i64 (n120) = v), (fun H rs v => [] = rs ∧ .int .i64 (IntKind.i64.wrap (n120 - 1)) = v), (fun H rs v => [] = rs ∧ .pointer (some ((Value.base (v106)).add ((IntKind.i64.wrap (n120 - 1) : Int).toNat * Rep.sz ByteArray))) = v), (fun H rs v => [] = rs ∧ .string (y173) = v)]) [[], [], [], [], [], [], [], [], [], []] [[], [], [], [], [], [], [], [], [], []] [] [0, 1, 2, 3, 4, 5, 6, 7, 8, 9] Facts.mixed (by kernel_rfl) rfl rfl rfl (by kernel_rfl) (phiT_mono ⟨eq_monoT _ _, eq_monoT _ _, eq_monoT _ _, eq_monoT _ _, eq_monoT _ _, eq_monoT _ _, eq_monoT _ _, eq_monoT _ _, eq_monoT _ _, eq_monoT _ _, trivial⟩) ⟨?_, ?_, ?_, ?_, ?_, ?_, ?_, ?_, ?_, ?_, trivial⟩ ?_
                    · intro HX hX X Rest hR
                      intro hU hUp
                      refine W_move rfl rfl rfl ?_
                      exact W_end (OneT_end [] (Hp.le_refl _) ⟨rfl, rfl⟩)
                    · intro HX hX X Rest hR
                      rintro _ _ ⟨rfl, rfl⟩
                      intro hU hUp
                      refine W_errNe Proofs.Tryd.runUnderlying50 he170 rfl rfl rfl ?_
                      exact W_end (OneT_end [] (Hp.le_refl _) ⟨rfl, (by first | rfl | (rw [hb171]; try rfl))⟩)
                    · intro HX hX X Rest hR
                      rintro _ _ ⟨rfl, rfl⟩
                      intro hU hUp
                      refine W_move rfl rfl rfl ?_
                      exact W_end (OneT_end [] (Hp.le_refl _) ⟨rfl, rfl⟩)
                    · intro HX hX X Rest hR
                      rintro _ _ ⟨rfl, rfl⟩
                      intro hU hUp
                      refine W_move rfl rfl rfl ?_
                      exact W_end (OneT_end [] (Hp.le_refl _) ⟨rfl, rfl⟩)
                    · intro HX hX X Rest hR
                      rintro _ _ ⟨rfl, rfl⟩
                      rintro _ _ ⟨rfl, rfl⟩
                      rintro _ _ ⟨rfl, rfl⟩
                      intro hU hUp
                      refine W_call Proofs.Tryd.call14 rfl rfl rfl (fun w ht => by have h := itoa14_c hz172 ht; exact h) ?_
                      rintro _ _ _ ⟨rfl, rfl, rfl⟩
                      exact W_end (OneT_end [] (Hp.le_refl _) ⟨rfl, rfl⟩)
                    · intro HX hX X Rest hR
                      rintro _ _ ⟨rfl, rfl⟩
                      intro hU hUp
                      refine W_move rfl rfl rfl ?_
                      exact W_end (OneT_end [] (Hp.le_refl _) ⟨rfl, rfl⟩)
                    · intro HX hX X Rest hR
                      rintro _ _ ⟨rfl, rfl⟩
                      intro hU hUp
                      refine W_move rfl rfl rfl ?_
                      exact W_end (OneT_end [] (Hp.le_refl _) ⟨rfl, rfl⟩)
                    · intro HX hX X Rest hR
                      rintro _ _ ⟨rfl, rfl⟩
                      rintro _ _ ⟨rfl, rfl⟩
                      intro hU hUp
                      refine W_bin rfl rfl rfl rfl rfl ?_
                      exact W_end (OneT_end [] (Hp.le_refl _) ⟨rfl, rfl⟩)
                    · intro HX hX X Rest hR
                      rintro _ _ ⟨rfl, rfl⟩
                      rintro _ _ ⟨rfl, rfl⟩
                      rintro _ _ ⟨rfl, rfl⟩
                      intro hU hUp
                      refine W_indexO (hR _ (List.mem_cons_of_mem _ (List.mem_cons_of_mem _ (List.mem_cons_self ..)))) rfl rfl Proofs.Tryd.runUnderlying47 Proofs.Tryd.sizeOf9 rfl rfl h174 (List.getElem?_eq_some_iff.1 he175).1 ?_
                      exact W_end (OneT_end [] (Hp.le_refl _) ⟨rfl, rfl⟩)
                    · intro HX hX X Rest hR
                      rintro _ _ ⟨rfl, rfl⟩
                      rintro _ _ ⟨rfl, rfl⟩
                      intro hU hUp
                      refine W_load rfl rfl Proofs.Tryd.isAgg9 rfl (row_one0 (hR _ (List.mem_cons_of_mem _ (List.mem_cons_of_mem _ (List.mem_cons_self ..)))) hg176 rfl) ?_
                      exact W_end (OneT_end [] (Hp.le_refl _) ⟨rfl, rfl⟩)
                    intro H177 hle178
                    rintro _ _ ⟨rfl, rfl⟩
                    rintro _ _ ⟨rfl, rfl⟩
                    rintro _ _ ⟨rfl, rfl⟩
                    rintro _ _ ⟨rfl, rfl⟩
                    rintro _ _ ⟨rfl, rfl⟩
                    rintro _ _ ⟨rfl, rfl⟩
                    rintro _ _ ⟨rfl, rfl⟩
                    rintro _ _ ⟨rfl, rfl⟩
                    rintro _ _ ⟨rfl, rfl⟩
                    rintro _ _ ⟨rfl, rfl⟩
                    refine W_bin rfl rfl rfl rfl rfl ?_
                    refine W_pick rfl rfl rfl rfl ?_
                    refine W_end ?_
                    refine E_then ?_
                    refine C_cond (b := !decide ((itoaB ((atoiB y164).1)) = y173)) rfl (fun hb179 => ?_) (fun hb179 => ?_)
                    · have hm := ite_t' hb179 hm
                      refine C_seq ?_
                      refine C_region ?_
                      refine W_loadAgg rfl rfl Proofs.Tryd.isAgg23 Proofs.Tryd.sizeOf23 rfl (own_all (List.mem_cons_of_mem _ (List.mem_cons_of_mem _ (List.mem_cons_of_mem _ (List.mem_cons_self ..))))) rfl ?_
                      refine W_perm (List.Perm.trans (List.Perm.cons _ (List.Perm.cons _ (List.Perm.cons _ (List.Perm.swap _ _ _)))) (List.Perm.trans (List.Perm.cons _ (List.Perm.cons _ (List.Perm.swap _ _ _))) (List.Perm.trans (List.Perm.cons _ (List.Perm.swap _ _ _)) (List.Perm.swap _ _ _)))) ?_
                      refine W_store (cs := [.string (⟨#[]⟩), .string (⟨#[]⟩), .int .i64 (0)]) (out := [.string (⟨#[]⟩), .string (⟨#[]⟩), .int .i64 (0)]) rfl Proofs.Tryd.sizeOf23 rfl rfl rfl rfl rfl (all_cons rfl (all_cons rfl (all_cons rfl all_nil))) (over_all rfl) ?_
                      refine W_assign rfl rfl rfl ?_
                      refine W_end ?_
                      refine E_then ?_
                      refine C_ret ?_
                      refine E_ret_then ?_
                      refine E_ret_then ?_
                      obtain rfl := Option.some.inj hm
                      exact endC2 hle178 rfl (ResV.agg rfl Proofs.Tryd.isAgg23 Proofs.Tryd.sizeOf23 (List.mem_cons_self ..) rfl) (ResV.tmp rfl) (List.Sublist.cons _ (List.Sublist.cons _ (List.Sublist.cons _ (List.Sublist.cons _ (List.Sublist.cons _ (List.Sublist.refl _)))))) (List.Perm.refl _) ⟨rfl, rfl, rfl⟩
                    · have hm := ite_f' hb179 hm
                      refine C_skip ?_
                      refine E_then ?_
                      refine C_region ?_
                      refine W_move rfl rfl rfl ?_
                      refine W_field (o := 2) rfl rfl Proofs.Tryd.runUnderlying23 rfl Proofs.Tryd.sizeOf3 rfl rfl rfl ?_
                      refine W_store (cs := [.int .i64 ((atoiB y164).1)]) (out := [.string (y125), .string (s135), .int .i64 ((atoiB y164).1)]) rfl Proofs.Tryd.sizeOf3 rfl rfl rfl rfl rfl (all_cons rfl all_nil) rfl ?_
                      refine W_end ?_
                      refine E_drop (List.Sublist.cons_cons _ (List.Sublist.cons _ (List.Sublist.cons _ (List.Sublist.refl _)))) ?_
                      exact E_keepJ (J159 _ _ _ ⟨(atoiB y164).1, hm, hle178, rfl, rfl⟩) (List.Perm.refl _) ⟨rfl, rfl, rfl, trivial⟩
                  · have hm := ite_t' hb171 hm
                    refine C_region_tok0 10 (phiT [(fun H rs v => [] = rs ∧ v169 = v), (fun H rs v => [] = rs ∧ .bool (true) = v), (fun H rs v => [] = rs ∧ .bool (true) = v), (fun H rs v => [] = rs ∧ undef = v), (fun H rs v => [] = rs ∧ undef = v), (fun H rs v => [] = rs ∧ undef = v), (fun H rs v => [] = rs ∧ undef = v), (fun H rs v => [] = rs ∧ undef = v), (fun H rs v => [] = rs ∧ undef = v), (fun H rs v => [] = rs ∧ undef = v)]) [[], [], [], [], [], [], [], [], [], []] [[], [], [], [], [], [], [], [], [], []] [] [0, 1, 2, 3, 4, 5, 6, 7, 8, 9] Facts.mixed (by kernel_rfl) rfl rfl rfl (by kernel_rfl) (phiT_mono ⟨eq_monoT _ _, eq_monoT _ _, eq_monoT _ _, eq_monoT _ _, eq_monoT _ _, eq_monoT _ _, eq_monoT _ _, eq_monoT _ _, eq_monoT _ _, eq_monoT _ _, trivial⟩) ⟨?_, ?_, ?_, ?_, ?_, ?_, ?_, ?_, ?_, ?_, trivial⟩ ?_
                    · intro HX hX X Rest hR
                      intro hU hUp
                      refine W_move rfl rfl rfl ?_
                      exact W_end (OneT_end [] (Hp.le_refl _) ⟨rfl, rfl⟩)
                    · intro HX hX X Rest hR
                      rintro _ _ ⟨rfl, rfl⟩
                      intro hU hUp
                      refine W_errNe Proofs.Tryd.runUnderlying50 he170 rfl rfl rfl ?_
                      exact W_end (OneT_end [] (Hp.le_refl _) ⟨rfl, (by first | rfl | (rw [hb171]; try rfl))⟩)
                    · intro HX hX X Rest hR
                      rintro _ _ ⟨rfl, rfl⟩
                      intro hU hUp
                      refine W_move rfl rfl rfl ?_
                      exact W_end (OneT_end [] (Hp.le_refl _) ⟨rfl, rfl⟩)
                    · intro HX hX X Rest hR
                      rintro _ _ ⟨rfl, rfl⟩
                      intro hU hUp
                      refine W_no rfl rfl rfl ?_
                      exact W_end (OneT_end [] (Hp.le_refl _) ⟨rfl, rfl⟩)
                    · intro HX hX X Rest hR
                      rintro _ _ ⟨rfl, rfl⟩
                      rintro _ _ ⟨rfl, rfl⟩
                      rintro _ _ ⟨rfl, rfl⟩
                      intro hU hUp
                      refine W_no rfl rfl rfl ?_
                      exact W_end (OneT_end [] (Hp.le_refl _) ⟨rfl, rfl⟩)
                    · intro HX hX X Rest hR
                      rintro _ _ ⟨rfl, rfl⟩
                      intro hU hUp
                      refine W_no rfl rfl rfl ?_
                      exact W_end (OneT_end [] (Hp.le_refl _) ⟨rfl, rfl⟩)
                    · intro HX hX X Rest hR
                      rintro _ _ ⟨rfl, rfl⟩
                      intro hU hUp
                      refine W_no rfl rfl rfl ?_
                      exact W_end (OneT_end [] (Hp.le_refl _) ⟨rfl, rfl⟩)
                    · intro HX hX X Rest hR
                      rintro _ _ ⟨rfl, rfl⟩
                      rintro _ _ ⟨rfl, rfl⟩
                      intro hU hUp
                      refine W_no rfl rfl rfl ?_
                      exact W_end (OneT_end [] (Hp.le_refl _) ⟨rfl, rfl⟩)
                    · intro HX hX X Rest hR
                      rintro _ _ ⟨rfl, rfl⟩
                      rintro _ _ ⟨rfl, rfl⟩
                      rintro _ _ ⟨rfl, rfl⟩
                      intro hU hUp
                      refine W_no rfl rfl rfl ?_
                      exact W_end (OneT_end [] (Hp.le_refl _) ⟨rfl, rfl⟩)
                    · intro HX hX X Rest hR
                      rintro _ _ ⟨rfl, rfl⟩
                      rintro _ _ ⟨rfl, rfl⟩
                      intro hU hUp
                      refine W_no rfl rfl rfl ?_
                      exact W_end (OneT_end [] (Hp.le_refl _) ⟨rfl, rfl⟩)
                    intro H180 hle181
                    rintro _ _ ⟨rfl, rfl⟩
                    rintro _ _ ⟨rfl, rfl⟩
                    rintro _ _ ⟨rfl, rfl⟩
                    rintro _ _ ⟨rfl, rfl⟩
                    rintro _ _ ⟨rfl, rfl⟩
                    rintro _ _ ⟨rfl, rfl⟩
                    rintro _ _ ⟨rfl, rfl⟩
                    rintro _ _ ⟨rfl, rfl⟩
                    rintro _ _ ⟨rfl, rfl⟩
                    rintro _ _ ⟨rfl, rfl⟩
                    refine W_no rfl rfl rfl ?_
                    refine W_pick rfl rfl rfl rfl ?_
                    refine W_end ?_
                    refine E_then ?_
                    refine C_cond (b := true) rfl (fun _ => ?_) (fun hb => Bool.noConfusion hb)
                    refine C_seq ?_
                    refine C_region ?_
                    refine W_loadAgg rfl rfl Proofs.Tryd.isAgg23 Proofs.Tryd.sizeOf23 rfl (own_all (List.mem_cons_of_mem _ (List.mem_cons_of_mem _ (List.mem_cons_of_mem _ (List.mem_cons_self ..))))) rfl ?_
                    refine W_perm (List.Perm.trans (List.Perm.cons _ (List.Perm.cons _ (List.Perm.cons _ (List.Perm.swap _ _ _)))) (List.Perm.trans (List.Perm.cons _ (List.Perm.cons _ (List.Perm.swap _ _ _))) (List.Perm.trans (List.Perm.cons _ (List.Perm.swap _ _ _)) (List.Perm.swap _ _ _)))) ?_
                    refine W_store (cs := [.string (⟨#[]⟩), .string (⟨#[]⟩), .int .i64 (0)]) (out := [.string (⟨#[]⟩), .string (⟨#[]⟩), .int .i64 (0)]) rfl Proofs.Tryd.sizeOf23 rfl rfl rfl rfl rfl (all_cons rfl (all_cons rfl (all_cons rfl all_nil))) (over_all rfl) ?_
                    refine W_assign rfl rfl rfl ?_
                    refine W_end ?_
                    refine E_then ?_
                    refine C_ret ?_
                    refine E_ret_then ?_
                    refine E_ret_then ?_
                    obtain rfl := Option.some.inj hm
                    exact endC2 hle181 rfl (ResV.agg rfl Proofs.Tryd.isAgg23 Proofs.Tryd.sizeOf23 (List.mem_cons_self ..) rfl) (ResV.tmp rfl) (List.Sublist.cons _ (List.Sublist.cons _ (List.Sublist.cons _ (List.Sublist.cons _ (List.Sublist.cons _ (List.Sublist.refl _)))))) (List.Perm.refl _) ⟨rfl, rfl, rfl⟩
                · have hm := ite_f' hb163 hm
                  refine C_skip ?_
                  refine E_drop (List.Sublist.cons_cons _ (List.Sublist.cons _ (List.Sublist.cons _ (List.Sublist.refl _)))) ?_
                  exact E_keepJ (J159 _ _ _ ⟨0, hm, (Hp.le_refl _), rfl, rfl⟩) (List.Perm.refl _) ⟨rfl, rfl, rfl, trivial⟩
            · refine C_seq ?_
              refine C_region ?_
              refine W_field (o := 1) rfl rfl Proofs.Tryd.runUnderlying43 rfl Proofs.Tryd.sizeOf4 rfl rfl rfl ?_
              refine W_load rfl rfl Proofs.Tryd.isAgg4 rfl (own_at (List.mem_cons_of_mem _ (List.mem_cons_self ..)) rfl) ?_
              refine W_end ?_
              refine E_then ?_
              refine C_cond (b := r113.1.name) rfl (fun hb182 => ?_) (fun hb182 => ?_)
              · have hm := ite_t' hb182 hm
                refine C_region ?_
                refine W_move rfl rfl rfl ?_
                obtain ⟨y183, h184, he185, hm⟩ := idx_some hm
                refine W_indexO (List.mem_cons_of_mem _ (List.mem_cons_of_mem _ (List.mem_cons_self ..))) rfl rfl Proofs.Tryd.runUnderlying47 Proofs.Tryd.sizeOf9 rfl rfl h184 (List.getElem?_eq_some_iff.1 he185).1 ?_
                obtain ⟨_, rfl, hg186⟩ := (h108).elem he185
                refine W_load rfl rfl Proofs.Tryd.isAgg9 rfl (row_one0 (List.mem_cons_of_mem _ (List.mem_cons_of_mem _ (List.mem_cons_self ..))) hg186 rfl) ?_
                refine W_field (o := 1) rfl rfl Proofs.Tryd.runUnderlying23 rfl Proofs.Tryd.sizeOf9 rfl rfl rfl ?_
                refine W_store (cs := [.string (y183)]) (out := [.string (y125), .string (y183), .int .i64 (0)]) rfl Proofs.Tryd.sizeOf9 rfl rfl rfl rfl rfl (all_cons rfl all_nil) rfl ?_
                refine W_end ?_
                exact E_keepJ (J136 _ _ _ ⟨y183, hm, rfl, rfl, rfl⟩) (List.Perm.refl _) ⟨rfl, rfl, rfl, rfl, rfl, rfl, trivial⟩
              · have hm := ite_f' hb182 hm
                refine C_skip ?_
                exact E_keepJ (J136 _ _ _ ⟨⟨#[]⟩, hm, rfl, rfl, rfl⟩) (List.Perm.refl _) ⟨rfl, rfl, rfl, rfl, rfl, rfl, trivial⟩
        · refine C_region ?_
          refine W_move rfl rfl rfl ?_
          refine W_un rfl rfl rfl rfl ?_
          refine W_move rfl rfl rfl ?_
          cases hb187 : (r113.2)
          · refine W_no rfl rfl rfl ?_
            refine W_no rfl rfl rfl ?_
            refine W_no rfl rfl rfl ?_
            refine W_no rfl rfl rfl ?_
            refine W_pick rfl rfl rfl rfl ?_
            refine W_end ?_
            exact E_keepJ (J123 _ _ _ ⟨rfl, rfl, rfl⟩) (List.Perm.refl _) ⟨rfl, rfl, rfl, rfl, rfl, (by show some (Value.bool (true)) = some (Value.bool ((!r113.2) || (!decide ((r104.length : Int) = n120)))); simp only [hb103, hb187, Bool.and_true, Bool.true_and, Bool.false_and, Bool.and_false, Bool.or_true, Bool.true_or, Bool.or_false, Bool.false_or, Bool.not_true, Bool.not_false]), trivial⟩
          · refine W_move rfl rfl rfl ?_
            refine W_lenO (List.mem_cons_of_mem _ (List.mem_cons_self ..)) rfl rfl Proofs.Tryd.runUnderlying47 rfl ?_
            refine W_move rfl rfl rfl ?_
            refine W_bin rfl rfl rfl rfl rfl ?_
            refine W_pick rfl rfl rfl rfl ?_
            refine W_end ?_
            exact E_keepJ (J123 _ _ _ ⟨rfl, rfl, rfl⟩) (List.Perm.refl _) ⟨rfl, rfl, rfl, rfl, rfl, (by show some (Value.bool (!decide ((r104.length : Int) = n120))) = some (Value.bool ((!r113.2) || (!decide ((r104.length : Int) = n120)))); simp only [hb103, hb187, Bool.and_true, Bool.true_and, Bool.false_and, Bool.and_false, Bool.or_true, Bool.true_or, Bool.or_false, Bool.false_or, Bool.not_true, Bool.not_false]), trivial⟩
      · refine C_seq ?_
        refine C_region ?_
        refine W_field (o := 2) rfl rfl Proofs.Tryd.runUnderlying43 rfl Proofs.Tryd.sizeOf4 rfl rfl rfl ?_
        refine W_load rfl rfl Proofs.Tryd.isAgg4 rfl (own_at (List.mem_cons_self ..) rfl) ?_
        refine W_end ?_
        refine E_then ?_
        refine C_cond (b := r113.1.n) rfl (fun hb188 => ?_) (fun hb188 => ?_)
        · have hm := ite_t' hb188 hm
          refine C_region ?_
          refine W_move rfl rfl rfl ?_
          refine W_bin rfl rfl rfl rfl rfl ?_
          refine W_assign rfl rfl rfl ?_
          refine W_end ?_
          exact E_keepJ (J121 _ _ _ ⟨IntKind.i64.wrap (n117 + 1), hm, rfl, rfl, rfl⟩) (List.Perm.refl _) ⟨rfl, rfl, rfl, rfl, rfl, rfl, trivial⟩
        · have hm := ite_f' hb188 hm
          refine C_skip ?_
          exact E_keepJ (J121 _ _ _ ⟨n117, hm, rfl, rfl, rfl⟩) (List.Perm.refl _) ⟨rfl, rfl, rfl, rfl, rfl, rfl, trivial⟩
    · refine C_seq ?_
      refine C_region ?_
      refine W_field (o := 1) rfl rfl Proofs.Tryd.runUnderlying43 rfl Proofs.Tryd.sizeOf4 rfl rfl rfl ?_
      refine W_load rfl rfl Proofs.Tryd.isAgg4 rfl (own_at (List.mem_cons_self ..) rfl) ?_
      refine W_end ?_
      refine E_then ?_
      refine C_cond (b := r113.1.name) rfl (fun hb189 => ?_) (fun hb189 => ?_)
      · have hm := ite_t' hb189 hm
        refine C_region ?_
        refine W_move rfl rfl rfl ?_
        refine W_bin rfl rfl rfl rfl rfl ?_
        refine W_assign rfl rfl rfl ?_
        refine W_end ?_
        exact E_keepJ (J118 _ _ _ ⟨IntKind.i64.wrap (1 + 1), hm, rfl, rfl, rfl⟩) (List.Perm.refl _) ⟨rfl, rfl, rfl, rfl, rfl, rfl, trivial⟩
      · have hm := ite_f' hb189 hm
        refine C_skip ?_
        exact E_keepJ (J118 _ _ _ ⟨1, hm, rfl, rfl, rfl⟩) (List.Perm.refl _) ⟨rfl, rfl, rfl, rfl, rfl, rfl, trivial⟩

theorem m_gridhallkeep4_consoleFact_c {B : Nat} {w0 w : World} [Tabs B w0] {H : Hp} {M : List Res} {r : Bool} (hm : m_gridhallkeep4_consoleFact = some r) (ht : St B w0 H (M) w) :
    Calls Proofs.Tryd.prog 7 [].toArray w (Ret B w0 fun H' M' v => H = H' ∧ M = M' ∧ .bool (r) = v) := by
  unfold m_gridhallkeep4_consoleFact at hm
  refine enter Proofs.Tryd.func7 rfl rfl rfl ht ?_
  refine C_seq ?_
  refine C_region ?_
  refine W_assign rfl rfl rfl ?_
  refine W_end ?_
  refine E_then ?_
  refine C_seq ?_
  refine C_region ?_
  obtain ⟨r101, hc102, hm⟩ := bind_some hm
  refine W_call Proofs.Tryd.call6 rfl rfl rfl (fun w ht => by have h := m_console_Parse_c (hm := hc102)  ht; exact h) ?_
  rintro _ _ _ ⟨rfl, rfl, rfl⟩
  refine W_move rfl rfl rfl ?_
  refine W_extract rfl rfl rfl rfl ?_
  refine W_extract rfl rfl rfl rfl ?_
  refine W_alloc (cs := [.string (⟨#[]⟩), .string (⟨#[]⟩), .int .i64 (0)]) rfl rfl Proofs.Tryd.zeroValue23 rfl (fun b103 => ?_)
  refine W_store (cs := [.string (r101.1.Verb), .string (r101.1.Name), .int .i64 (r101.1.N)]) (out := [.string (r101.1.Verb), .string (r101.1.Name), .int .i64 (r101.1.N)]) rfl Proofs.Tryd.sizeOf23 rfl rfl rfl rfl rfl (all_cons rfl (all_cons rfl (all_cons rfl all_nil))) (over_all rfl) ?_
  refine W_assign rfl rfl rfl ?_
  refine W_end ?_
  refine E_then ?_
  refine C_seq_join (fun H' M' L' => H = H' ∧ M = M' ∧ [(0, .bool ((decide (r101.2 = 0)) && (decide (r101.1.Verb = (⟨#[108, 111, 97, 100]⟩)) && (decide (r101.1.Name = (⟨#[76, 49]⟩)) && (decide (r101.1.N = 20) && true)))))] = L') ?_ (fun J105 => ?_)
  · rintro _ _ _ ⟨rfl, rfl, rfl⟩
    refine C_ret ?_
    obtain rfl := Option.some.inj hm
    refine E_weak (Hp.le_refl _) ?_
    exact end1 rfl rfl ⟨rfl, rfl, rfl⟩
  · refine C_region ?_
    refine W_move rfl rfl rfl ?_
    refine W_bin rfl rfl rfl rfl rfl ?_
    refine W_move rfl rfl rfl ?_
    cases hb106 : (decide (r101.2 = 0))
    · refine W_no rfl rfl rfl ?_
      refine W_no rfl rfl rfl ?_
      refine W_no rfl rfl rfl ?_
      refine W_pick rfl rfl rfl rfl ?_
      refine W_assign rfl rfl rfl ?_
      refine W_end ?_
      refine E_drop (List.Sublist.cons _ (List.Sublist.refl _)) ?_
      exact E_keepJ (J105 _ _ _ ⟨rfl, rfl, rfl⟩) (List.Perm.refl _) ⟨(by show some (Value.bool (false)) = some (Value.bool ((decide (r101.2 = 0)) && (decide (r101.1.Verb = (⟨#[108, 111, 97, 100]⟩)) && (decide (r101.1.Name = (⟨#[76, 49]⟩)) && (decide (r101.1.N = 20) && true))))); simp only [hb106, Bool.and_true, Bool.true_and, Bool.false_and, Bool.and_false, Bool.or_true, Bool.true_or, Bool.or_false, Bool.false_or, Bool.not_true, Bool.not_false]), trivial⟩
    · refine W_loadAgg rfl rfl Proofs.Tryd.isAgg23 Proofs.Tryd.sizeOf23 rfl (own_all (List.mem_cons_self ..)) rfl ?_
      refine W_build (css := [[.string (⟨#[108, 111, 97, 100]⟩)], [.string (⟨#[76, 49]⟩)], [.int .i64 (20)]]) (zs := [.string (⟨#[]⟩), .string (⟨#[]⟩), .int .i64 (0)]) (out := [.string (⟨#[108, 111, 97, 100]⟩), .string (⟨#[76, 49]⟩), .int .i64 (20)]) (places := [(0, 1), (1, 1), (2, 1)]) rfl rfl rfl ⟨rfl, rfl, rfl, trivial⟩ Proofs.Tryd.zeroValue23 rfl Proofs.Tryd.runUnderlying23 (fun w => by kernel_rfl) rfl ?_
      refine W_eqAgg (b := decide (r101.1.Verb = (⟨#[108, 111, 97, 100]⟩)) && (decide (r101.1.Name = (⟨#[76, 49]⟩)) && (decide (r101.1.N = 20) && true))) rfl rfl (by kernel_rfl) rfl rfl (fun w => run_equal_struct (bs := [decide (r101.1.Verb = (⟨#[108, 111, 97, 100]⟩)), decide (r101.1.Name = (⟨#[76, 49]⟩)), decide (r101.1.N = 20)]) Proofs.Tryd.runUnderlying23 (by kernel_rfl) ⟨(by decide), (fldEq_str Proofs.Tryd.isAgg9 Proofs.Tryd.runUnderlying9 rfl rfl), (by decide), (fldEq_str Proofs.Tryd.isAgg9 Proofs.Tryd.runUnderlying9 rfl rfl), (by decide), (fldEq_int Proofs.Tryd.isAgg3 Proofs.Tryd.runUnderlying3 rfl rfl), trivial⟩) ?_
      refine W_pick rfl rfl rfl rfl ?_
      refine W_assign rfl rfl rfl ?_
      refine W_end ?_
      refine E_drop (List.Sublist.cons _ (List.Sublist.refl _)) ?_
      exact E_keepJ (J105 _ _ _ ⟨rfl, rfl, rfl⟩) (List.Perm.refl _) ⟨(by show some (Value.bool (decide (r101.1.Verb = (⟨#[108, 111, 97, 100]⟩)) && (decide (r101.1.Name = (⟨#[76, 49]⟩)) && (decide (r101.1.N = 20) && true)))) = some (Value.bool ((decide (r101.2 = 0)) && (decide (r101.1.Verb = (⟨#[108, 111, 97, 100]⟩)) && (decide (r101.1.Name = (⟨#[76, 49]⟩)) && (decide (r101.1.N = 20) && true))))); simp only [hb106, Bool.and_true, Bool.true_and, Bool.false_and, Bool.and_false, Bool.or_true, Bool.true_or, Bool.or_false, Bool.false_or, Bool.not_true, Bool.not_false]), trivial⟩

theorem m_gridhallkeep4_ConsoleBack_c {B : Nat} {w0 w : World} [Tabs B w0] {H : Hp} {M : List Res} {p0_c : S_api_ConsoleCommand} {p1_s : ByteArray} {r : Bool} (hm : m_gridhallkeep4_ConsoleBack p0_c p1_s = some r) (ht : St B w0 H (M) w) :
    Calls Proofs.Tryd.prog 3 [.agg [.string (p0_c.Verb), .string (p0_c.Name), .int .i64 (p0_c.N)].toArray, .string (p1_s)].toArray w (Ret B w0 fun H' M' v => H = H' ∧ M = M' ∧ .bool (r) = v) := by
  unfold m_gridhallkeep4_ConsoleBack at hm
  refine enter Proofs.Tryd.func3 rfl rfl rfl ht ?_
  refine C_seq ?_
  refine C_region ?_
  refine W_box (cs := [.string (p0_c.Verb), .string (p0_c.Name), .int .i64 (p0_c.N)]) rfl rfl rfl rfl (fun b101 => ?_)
  refine W_assign rfl rfl rfl ?_
  refine W_end ?_
  refine E_then ?_
  refine C_seq ?_
  refine C_region ?_
  refine W_loadAgg rfl rfl Proofs.Tryd.isAgg23 Proofs.Tryd.sizeOf23 rfl (own_all (List.mem_cons_self ..)) rfl ?_
  obtain ⟨r102, hc103, hm⟩ := bind_some hm
  refine W_call Proofs.Tryd.call5 rfl rfl rfl (fun w ht => by have h := m_console_Print_c (hm := hc103)  ht; exact h) ?_
  rintro _ _ _ ⟨rfl, rfl, rfl⟩
  refine W_move rfl rfl rfl ?_
  refine W_extract rfl rfl rfl rfl ?_
  refine W_extract rfl rfl rfl rfl ?_
  refine W_assign rfl rfl rfl ?_
  refine W_assign rfl rfl rfl ?_
  refine W_end ?_
  refine E_then ?_
  refine C_seq_join (fun H' M' L' => m_gridhallkeep4_ConsoleBack_b1 p0_c p1_s r102 = some r ∧ H = H' ∧ .obj b101 (.cells [.string (p0_c.Verb), .string (p0_c.Name), .int .i64 (p0_c.N)].toArray 23 (0, 0)) :: M = M' ∧ [(1, .string (p1_s)), (2, .pointer (some ⟨b101, 0, none⟩)), (6, .int .i64 (r102.2))] = L') ?_ (fun J112 => ?_)
  · rintro _ _ _ ⟨hm, rfl, rfl, rfl⟩
    unfold m_gridhallkeep4_ConsoleBack_b1 at hm
    refine C_seq ?_
    refine C_region ?_
    refine W_move rfl rfl rfl ?_
    obtain ⟨r113, hc114, hm⟩ := bind_some hm
    refine W_call Proofs.Tryd.call6 rfl rfl rfl (fun w ht => by have h := m_console_Parse_c (hm := hc114)  ht; exact h) ?_
    rintro _ _ _ ⟨rfl, rfl, rfl⟩
    refine W_move rfl rfl rfl ?_
    refine W_extract rfl rfl rfl rfl ?_
    refine W_extract rfl rfl rfl rfl ?_
    refine W_alloc (cs := [.string (⟨#[]⟩), .string (⟨#[]⟩), .int .i64 (0)]) rfl rfl Proofs.Tryd.zeroValue23 rfl (fun b115 => ?_)
    refine W_store (cs := [.string (r113.1.Verb), .string (r113.1.Name), .int .i64 (r113.1.N)]) (out := [.string (r113.1.Verb), .string (r113.1.Name), .int .i64 (r113.1.N)]) rfl Proofs.Tryd.sizeOf23 rfl rfl rfl rfl rfl (all_cons rfl (all_cons rfl (all_cons rfl all_nil))) (over_all rfl) ?_
    refine W_assign rfl rfl rfl ?_
    refine W_end ?_
    refine E_then ?_
    refine C_seq ?_
    refine C_seq ?_
    refine C_region ?_
    refine W_move rfl rfl rfl ?_
    refine W_bin rfl rfl rfl rfl rfl ?_
    refine W_end ?_
    refine E_then ?_
    refine C_cond (b := !decide (r113.2 = 0)) rfl (fun hb116 => ?_) (fun hb116 => ?_)
    · have hm := ite_t' hb116 hm
      refine C_seq ?_
      refine C_region ?_
      obtain ⟨r117, hc118, hm⟩ := bind_some hm
      refine W_call Proofs.Tryd.call7 rfl rfl rfl (fun w ht => by have h := m_gridhallkeep4_consoleFact_c (hm := hc118)  ht; exact h) ?_
      rintro _ _ _ ⟨rfl, rfl, rfl⟩
      refine W_move rfl rfl rfl ?_
      cases hb119 : (r117)
      · have hm := ite_f' hb119 hm
        refine W_no rfl rfl rfl ?_
        refine W_no rfl rfl rfl ?_
        refine W_no rfl rfl rfl ?_
        refine W_no rfl rfl rfl ?_
        refine W_pick rfl rfl rfl rfl ?_
        refine W_move rfl rfl rfl ?_
        refine W_no rfl rfl rfl ?_
        refine W_no rfl rfl rfl ?_
        refine W_no rfl rfl rfl ?_
        refine W_pick rfl rfl rfl rfl ?_
        refine W_assign rfl rfl rfl ?_
        refine W_end ?_
        refine E_then ?_
        refine C_ret ?_
        refine E_ret_then ?_
        obtain rfl := Option.some.inj hm
        refine E_drop (List.Sublist.cons _ (List.Sublist.cons _ (List.Sublist.refl _))) ?_
        refine E_weak (Hp.le_refl _) ?_
        exact end1 rfl rfl ⟨rfl, rfl, rfl⟩
      · have hm := ite_t' hb119 hm
        refine W_move rfl rfl rfl ?_
        refine W_loadAgg rfl rfl Proofs.Tryd.isAgg23 Proofs.Tryd.sizeOf23 rfl (own_all (List.mem_cons_of_mem _ (List.mem_cons_self ..))) rfl ?_
        obtain ⟨r120, hc121, hm⟩ := bind_some hm
        refine W_call Proofs.Tryd.call8 rfl rfl rfl (fun w ht => by have h := m_console_Check_c (hm := hc121)  ht; exact h) ?_
        rintro _ _ _ ⟨rfl, rfl, rfl⟩
        refine W_bin rfl rfl rfl rfl rfl ?_
        refine W_pick rfl rfl rfl rfl ?_
        refine W_move rfl rfl rfl ?_
        cases hb122 : (decide (r102.2 = r120))
        · have hm := ite_f' hb122 hm
          refine W_no rfl rfl rfl ?_
          refine W_no rfl rfl rfl ?_
          refine W_no rfl rfl rfl ?_
          refine W_pick rfl rfl rfl rfl ?_
          refine W_assign rfl rfl rfl ?_
          refine W_end ?_
          refine E_then ?_
          refine C_ret ?_
          refine E_ret_then ?_
          obtain rfl := Option.some.inj hm
          refine E_drop (List.Sublist.cons _ (List.Sublist.cons _ (List.Sublist.refl _))) ?_
          refine E_weak (Hp.le_refl _) ?_
          exact end1 rfl rfl ⟨rfl, rfl, rfl⟩
        · have hm := ite_t' hb122 hm
          refine W_loadAgg rfl rfl Proofs.Tryd.isAgg23 Proofs.Tryd.sizeOf23 rfl (own_all (List.mem_cons_self ..)) rfl ?_
          refine W_build (css := []) (zs := [.string (⟨#[]⟩), .string (⟨#[]⟩), .int .i64 (0)]) (out := [.string (⟨#[]⟩), .string (⟨#[]⟩), .int .i64 (0)]) (places := [(0, 1), (1, 1), (2, 1)]) rfl rfl rfl trivial Proofs.Tryd.zeroValue23 rfl Proofs.Tryd.runUnderlying23 (fun w => by kernel_rfl) rfl ?_
          refine W_eqAgg (b := decide (r113.1.Verb = (⟨#[]⟩)) && (decide (r113.1.Name = (⟨#[]⟩)) && (decide (r113.1.N = 0) && true))) rfl rfl (by kernel_rfl) rfl rfl (fun w => run_equal_struct (bs := [decide (r113.1.Verb = (⟨#[]⟩)), decide (r113.1.Name = (⟨#[]⟩)), decide (r113.1.N = 0)]) Proofs.Tryd.runUnderlying23 (by kernel_rfl) ⟨(by decide), (fldEq_str Proofs.Tryd.isAgg9 Proofs.Tryd.runUnderlying9 rfl rfl), (by decide), (fldEq_str Proofs.Tryd.isAgg9 Proofs.Tryd.runUnderlying9 rfl rfl), (by decide), (fldEq_int Proofs.Tryd.isAgg3 Proofs.Tryd.runUnderlying3 rfl rfl), trivial⟩) ?_
          refine W_pick rfl rfl rfl rfl ?_
          refine W_assign rfl rfl rfl ?_
          refine W_end ?_
          refine E_then ?_
          refine C_ret ?_
          refine E_ret_then ?_
          obtain rfl := Option.some.inj hm
          refine E_drop (List.Sublist.cons _ (List.Sublist.cons _ (List.Sublist.refl _))) ?_
          refine E_weak (Hp.le_refl _) ?_
          exact end1 rfl rfl ⟨rfl, rfl, rfl⟩
    · have hm := ite_f' hb116 hm
      refine C_skip ?_
      refine E_then ?_
      refine C_seq ?_
      refine C_region ?_
      refine W_loadAgg rfl rfl Proofs.Tryd.isAgg23 Proofs.Tryd.sizeOf23 rfl (own_all (List.mem_cons_self ..)) rfl ?_
      obtain ⟨r123, hc124, hm⟩ := bind_some hm
      refine W_call Proofs.Tryd.call5 rfl rfl rfl (fun w ht => by have h := m_console_Print_c (hm := hc124)  ht; exact h) ?_
      rintro _ _ _ ⟨rfl, rfl, rfl⟩
      refine W_move rfl rfl rfl ?_
      refine W_extract rfl rfl rfl rfl ?_
      refine W_extract rfl rfl rfl rfl ?_
      refine W_assign rfl rfl rfl ?_
      refine W_assign rfl rfl rfl ?_
      refine W_end ?_
      refine E_then ?_
      obtain ⟨r129, hc130, hm⟩ := bind_some hm
      refine C_seq_join (fun H' M' L' => H = H' ∧ M = M' ∧ [(4, .bool ((r129 && (decide (r123.2 = 0))) && (decide (r123.1 = p1_s))))] = L') ?_ (fun J131 => ?_)
      · rintro _ _ _ ⟨rfl, rfl, rfl⟩
        refine C_ret ?_
        obtain rfl := Option.some.inj hm
        refine E_weak (Hp.le_refl _) ?_
        exact end1 rfl rfl ⟨rfl, rfl, rfl⟩
      · refine C_region ?_
        refine W_call Proofs.Tryd.call7 rfl rfl rfl (fun w ht => by have h := m_gridhallkeep4_consoleFact_c (hm := hc130)  ht; exact h) ?_
        rintro _ _ _ ⟨rfl, rfl, rfl⟩
        refine W_move rfl rfl rfl ?_
        cases hb132 : (r129)
        · refine W_no rfl rfl rfl ?_
          refine W_no rfl rfl rfl ?_
          refine W_pick rfl rfl rfl rfl ?_
          refine W_move rfl rfl rfl ?_
          refine W_no rfl rfl rfl ?_
          refine W_no rfl rfl rfl ?_
          refine W_no rfl rfl rfl ?_
          refine W_pick rfl rfl rfl rfl ?_
          refine W_assign rfl rfl rfl ?_
          refine W_end ?_
          refine E_drop (List.Sublist.cons _ (List.Sublist.cons _ (List.Sublist.refl _))) ?_
          exact E_keepJ (J131 _ _ _ ⟨rfl, rfl, rfl⟩) (List.Perm.refl _) ⟨(by show some (Value.bool (false)) = some (Value.bool ((r129 && (decide (r123.2 = 0))) && (decide (r123.1 = p1_s)))); simp only [hb116, hb132, Bool.and_true, Bool.true_and, Bool.false_and, Bool.and_false, Bool.or_true, Bool.true_or, Bool.or_false, Bool.false_or, Bool.not_true, Bool.not_false]), trivial⟩
        · refine W_move rfl rfl rfl ?_
          refine W_bin rfl rfl rfl rfl rfl ?_
          refine W_pick rfl rfl rfl rfl ?_
          refine W_move rfl rfl rfl ?_
          cases hb133 : (decide (r123.2 = 0))
          · refine W_no rfl rfl rfl ?_
            refine W_no rfl rfl rfl ?_
            refine W_no rfl rfl rfl ?_
            refine W_pick rfl rfl rfl rfl ?_
            refine W_assign rfl rfl rfl ?_
            refine W_end ?_
            refine E_drop (List.Sublist.cons _ (List.Sublist.cons _ (List.Sublist.refl _))) ?_
            exact E_keepJ (J131 _ _ _ ⟨rfl, rfl, rfl⟩) (List.Perm.refl _) ⟨(by show some (Value.bool (false)) = some (Value.bool ((r129 && (decide (r123.2 = 0))) && (decide (r123.1 = p1_s)))); simp only [hb116, hb132, hb133, Bool.and_true, Bool.true_and, Bool.false_and, Bool.and_false, Bool.or_true, Bool.true_or, Bool.or_false, Bool.false_or, Bool.not_true, Bool.not_false]), trivial⟩
          · refine W_move rfl rfl rfl ?_
            refine W_move rfl rfl rfl ?_
            refine W_bin rfl rfl rfl rfl rfl ?_
            refine W_pick rfl rfl rfl rfl ?_
            refine W_assign rfl rfl rfl ?_
            refine W_end ?_
            refine E_drop (List.Sublist.cons _ (List.Sublist.cons _ (List.Sublist.refl _))) ?_
            exact E_keepJ (J131 _ _ _ ⟨rfl, rfl, rfl⟩) (List.Perm.refl _) ⟨(by show some (Value.bool (decide (r123.1 = p1_s))) = some (Value.bool ((r129 && (decide (r123.2 = 0))) && (decide (r123.1 = p1_s)))); simp only [hb116, hb132, hb133, Bool.and_true, Bool.true_and, Bool.false_and, Bool.and_false, Bool.or_true, Bool.true_or, Bool.or_false, Bool.false_or, Bool.not_true, Bool.not_false]), trivial⟩
  · refine C_seq ?_
    refine C_region ?_
    refine W_move rfl rfl rfl ?_
    refine W_bin rfl rfl rfl rfl rfl ?_
    refine W_end ?_
    refine E_then ?_
    refine C_cond (b := decide (r102.2 = 0)) rfl (fun hb134 => ?_) (fun hb134 => ?_)
    · have hm := ite_t' hb134 hm
      refine C_seq ?_
      refine C_region ?_
      refine W_move rfl rfl rfl ?_
      obtain ⟨r135, hc136, hm⟩ := bind_some hm
      refine W_call Proofs.Tryd.call6 rfl rfl rfl (fun w ht => by have h := m_console_Parse_c (hm := hc136)  ht; exact h) ?_
      rintro _ _ _ ⟨rfl, rfl, rfl⟩
      refine W_move rfl rfl rfl ?_
      refine W_extract rfl rfl rfl rfl ?_
      refine W_extract rfl rfl rfl rfl ?_
      refine W_alloc (cs := [.string (⟨#[]⟩), .string (⟨#[]⟩), .int .i64 (0)]) rfl rfl Proofs.Tryd.zeroValue23 rfl (fun b137 => ?_)
      refine W_store (cs := [.string (r135.1.Verb), .string (r135.1.Name), .int .i64 (r135.1.N)]) (out := [.string (r135.1.Verb), .string (r135.1.Name), .int .i64 (r135.1.N)]) rfl Proofs.Tryd.sizeOf23 rfl rfl rfl rfl rfl (all_cons rfl (all_cons rfl (all_cons rfl all_nil))) (over_all rfl) ?_
      refine W_assign rfl rfl rfl ?_
      refine W_end ?_
      refine E_then ?_
      refine C_seq_join (fun H' M' L' => H = H' ∧ .obj b101 (.cells [.string (p0_c.Verb), .string (p0_c.Name), .int .i64 (p0_c.N)].toArray 23 (0, 0)) :: M = M' ∧ [(1, .string (p1_s)), (2, .pointer (some ⟨b101, 0, none⟩)), (6, .int .i64 (r102.2)), (31, .bool ((!decide (r135.2 = 0)) || (!(decide (r135.1.Verb = p0_c.Verb) && (decide (r135.1.Name = p0_c.Name) && (decide (r135.1.N = p0_c.N) && true))))))] = L') ?_ (fun J139 => ?_)
      · rintro _ _ _ ⟨rfl, rfl, rfl⟩
        refine C_cond (b := (!decide (r135.2 = 0)) || (!(decide (r135.1.Verb = p0_c.Verb) && (decide (r135.1.Name = p0_c.Name) && (decide (r135.1.N = p0_c.N) && true))))) rfl (fun hb140 => ?_) (fun hb140 => ?_)
        · have hm := ite_t' hb140 hm
          refine C_seq ?_
          refine C_region ?_
          refine W_assign rfl rfl rfl ?_
          refine W_end ?_
          refine E_then ?_
          refine C_ret ?_
          refine E_ret_then ?_
          obtain rfl := Option.some.inj hm
          refine E_drop (List.Sublist.cons _ (List.Sublist.refl _)) ?_
          refine E_weak (Hp.le_refl _) ?_
          exact end1 rfl rfl ⟨rfl, rfl, rfl⟩
        · have hm := ite_f' hb140 hm
          refine C_skip ?_
          exact E_keepJ (J112 _ _ _ ⟨hm, rfl, rfl, rfl⟩) (List.Perm.refl _) ⟨rfl, rfl, rfl, trivial⟩
      · refine C_region ?_
        refine W_move rfl rfl rfl ?_
        refine W_bin rfl rfl rfl rfl rfl ?_
        refine W_move rfl rfl rfl ?_
        cases hb141 : (decide (r135.2 = 0))
        · refine W_no rfl rfl rfl ?_
          refine W_no rfl rfl rfl ?_
          refine W_no rfl rfl rfl ?_
          refine W_pick rfl rfl rfl rfl ?_
          refine W_end ?_
          refine E_drop (List.Sublist.cons _ (List.Sublist.refl _)) ?_
          exact E_keepJ (J139 _ _ _ ⟨rfl, rfl, rfl⟩) (List.Perm.refl _) ⟨rfl, rfl, rfl, (by show some (Value.bool (true)) = some (Value.bool ((!decide (r135.2 = 0)) || (!(decide (r135.1.Verb = p0_c.Verb) && (decide (r135.1.Name = p0_c.Name) && (decide (r135.1.N = p0_c.N) && true)))))); simp only [hb134, hb141, Bool.and_true, Bool.true_and, Bool.false_and, Bool.and_false, Bool.or_true, Bool.true_or, Bool.or_false, Bool.false_or, Bool.not_true, Bool.not_false]), trivial⟩
        · refine W_loadAgg rfl rfl Proofs.Tryd.isAgg23 Proofs.Tryd.sizeOf23 rfl (own_all (List.mem_cons_self ..)) rfl ?_
          refine W_loadAgg rfl rfl Proofs.Tryd.isAgg23 Proofs.Tryd.sizeOf23 rfl (own_all (List.mem_cons_of_mem _ (List.mem_cons_self ..))) rfl ?_
          refine W_neAgg (b := decide (r135.1.Verb = p0_c.Verb) && (decide (r135.1.Name = p0_c.Name) && (decide (r135.1.N = p0_c.N) && true))) rfl rfl (by kernel_rfl) rfl rfl (fun w => run_equal_struct (bs := [decide (r135.1.Verb = p0_c.Verb), decide (r135.1.Name = p0_c.Name), decide (r135.1.N = p0_c.N)]) Proofs.Tryd.runUnderlying23 (by kernel_rfl) ⟨(by decide), (fldEq_str Proofs.Tryd.isAgg9 Proofs.Tryd.runUnderlying9 rfl rfl), (by decide), (fldEq_str Proofs.Tryd.isAgg9 Proofs.Tryd.runUnderlying9 rfl rfl), (by decide), (fldEq_int Proofs.Tryd.isAgg3 Proofs.Tryd.runUnderlying3 rfl rfl), trivial⟩) ?_
          refine W_pick rfl rfl rfl rfl ?_
          refine W_end ?_
          refine E_drop (List.Sublist.cons _ (List.Sublist.refl _)) ?_
          exact E_keepJ (J139 _ _ _ ⟨rfl, rfl, rfl⟩) (List.Perm.refl _) ⟨rfl, rfl, rfl, (by show some (Value.bool (!(decide (r135.1.Verb = p0_c.Verb) && (decide (r135.1.Name = p0_c.Name) && (decide (r135.1.N = p0_c.N) && true))))) = some (Value.bool ((!decide (r135.2 = 0)) || (!(decide (r135.1.Verb = p0_c.Verb) && (decide (r135.1.Name = p0_c.Name) && (decide (r135.1.N = p0_c.N) && true)))))); simp only [hb134, hb141, Bool.and_true, Bool.true_and, Bool.false_and, Bool.and_false, Bool.or_true, Bool.true_or, Bool.or_false, Bool.false_or, Bool.not_true, Bool.not_false]), trivial⟩
    · have hm := ite_f' hb134 hm
      refine C_skip ?_
      exact E_keepJ (J112 _ _ _ ⟨hm, rfl, rfl, rfl⟩) (List.Perm.refl _) ⟨rfl, rfl, rfl, trivial⟩

theorem m_gridhallref4_Cut_c {B : Nat} {w0 w : World} [Tabs B w0] {H : Hp} {M : List Res} {p0_n : Int} {p1_low : Int} {p2_high : Int} {r : Int} (hm : m_gridhallref4_Cut p0_n p1_low p2_high = some r) (ht : St B w0 H (M) w) :
    Calls Proofs.Tryd.prog 9 [.int .i64 (p0_n), .int .i64 (p1_low), .int .i64 (p2_high)].toArray w (Ret B w0 fun H' M' v => H = H' ∧ M = M' ∧ .int .i64 (r) = v) := by
  unfold m_gridhallref4_Cut at hm
  refine enter Proofs.Tryd.func9 rfl rfl rfl ht ?_
  refine C_seq ?_
  refine C_region ?_
  refine W_assign rfl rfl rfl ?_
  refine W_end ?_
  refine E_then ?_
  refine C_seq ?_
  refine C_region ?_
  refine W_move rfl rfl rfl ?_
  refine W_move rfl rfl rfl ?_
  refine W_bin rfl rfl rfl rfl rfl ?_
  refine W_bin rfl rfl rfl rfl rfl ?_
  refine W_assign rfl rfl rfl ?_
  refine W_end ?_
  refine E_then ?_
  refine C_seq ?_
  refine C_region ?_
  refine W_move rfl rfl rfl ?_
  refine W_move rfl rfl rfl ?_
  obtain ⟨hq101, hm⟩ := need_some hm
  refine W_rem rfl rfl rfl rfl hq101 ?_
  refine W_assign rfl rfl rfl ?_
  refine W_end ?_
  refine E_then ?_
  refine C_seq_join (fun H' M' L' => ∃ n103 : Int, m_gridhallref4_Cut_b1 p1_low n103 = some r ∧ H = H' ∧ M = M' ∧ [(0, .int .i64 (n103)), (1, .int .i64 (p1_low))] = L') ?_ (fun J104 => ?_)
  · rintro _ _ _ ⟨n103, hm, rfl, rfl, rfl⟩
    unfold m_gridhallref4_Cut_b1 at hm
    refine C_seq ?_
    refine C_region ?_
    refine W_move rfl rfl rfl ?_
    refine W_move rfl rfl rfl ?_
    refine W_bin rfl rfl rfl rfl rfl ?_
    refine W_assign rfl rfl rfl ?_
    refine W_end ?_
    refine E_then ?_
    refine C_ret ?_
    obtain rfl := Option.some.inj hm
    refine E_weak (Hp.le_refl _) ?_
    exact end1 rfl rfl ⟨rfl, rfl, rfl⟩
  · refine C_seq ?_
    refine C_region ?_
    refine W_move rfl rfl rfl ?_
    refine W_bin rfl rfl rfl rfl rfl ?_
    refine W_end ?_
    refine E_then ?_
    refine C_cond (b := decide ((Int.tmod p0_n (IntKind.i64.wrap ((IntKind.i64.wrap (p2_high - p1_low)) + 1))) < 0)) rfl (fun hb105 => ?_) (fun hb105 => ?_)
    · have hm := ite_t' hb105 hm
      refine C_region ?_
      refine W_move rfl rfl rfl ?_
      refine W_move rfl rfl rfl ?_
      refine W_bin rfl rfl rfl rfl rfl ?_
      refine W_assign rfl rfl rfl ?_
      refine W_end ?_
      exact E_keepJ (J104 _ _ _ ⟨IntKind.i64.wrap ((Int.tmod p0_n (IntKind.i64.wrap ((IntKind.i64.wrap (p2_high - p1_low)) + 1))) + (IntKind.i64.wrap ((IntKind.i64.wrap (p2_high - p1_low)) + 1))), hm, rfl, rfl, rfl⟩) (List.Perm.refl _) ⟨rfl, rfl, trivial⟩
    · have hm := ite_f' hb105 hm
      refine C_skip ?_
      exact E_keepJ (J104 _ _ _ ⟨Int.tmod p0_n (IntKind.i64.wrap ((IntKind.i64.wrap (p2_high - p1_low)) + 1)), hm, rfl, rfl, rfl⟩) (List.Perm.refl _) ⟨rfl, rfl, trivial⟩

theorem m_internal_stringslite_HasSuffix_c {B : Nat} {w0 w : World} [Tabs B w0] {H : Hp} {M : List Res} {p0_s : ByteArray} {suffix : ByteArray} {r : Bool} (hm : m_internal_stringslite_HasSuffix p0_s suffix = some r) (ht : St B w0 H (M) w) :
    Calls Proofs.Tryd.prog 29 [.string (p0_s), .string (suffix)].toArray w (Ret B w0 fun H' M' v => H = H' ∧ M = M' ∧ .bool (r) = v) := by
  unfold m_internal_stringslite_HasSuffix at hm
  refine enter Proofs.Tryd.func29 rfl rfl rfl ht ?_
  refine C_seq ?_
  refine C_region ?_
  refine W_assign rfl rfl rfl ?_
  refine W_end ?_
  refine E_then ?_
  refine C_seq ?_
  refine C_region ?_
  refine W_move rfl rfl rfl ?_
  refine W_lenStr rfl rfl Proofs.Tryd.runUnderlying9 rfl ?_
  refine W_move rfl rfl rfl ?_
  refine W_lenStr rfl rfl Proofs.Tryd.runUnderlying9 rfl ?_
  refine W_bin rfl rfl rfl rfl rfl ?_
  refine W_move rfl rfl rfl ?_
  cases hb101 : (decide ((suffix.size : Int) ≤ (p0_s.size : Int)))
  · have hm := ite_f' hb101 hm
    refine W_no rfl rfl rfl ?_
    refine W_no rfl rfl rfl ?_
    refine W_no rfl rfl rfl ?_
    refine W_no rfl rfl rfl ?_
    refine W_no rfl rfl rfl ?_
    refine W_no rfl rfl rfl ?_
    refine W_no rfl rfl rfl ?_
    refine W_no rfl rfl rfl ?_
    refine W_no rfl rfl rfl ?_
    refine W_pick rfl rfl rfl rfl ?_
    refine W_assign rfl rfl rfl ?_
    refine W_end ?_
    refine E_then ?_
    refine C_ret ?_
    obtain rfl := Option.some.inj hm
    refine E_weak (Hp.le_refl _) ?_
    exact end1 rfl rfl ⟨rfl, rfl, rfl⟩
  · have hm := ite_t' hb101 hm
    refine W_move rfl rfl rfl ?_
    refine W_move rfl rfl rfl ?_
    refine W_lenStr rfl rfl Proofs.Tryd.runUnderlying9 rfl ?_
    refine W_move rfl rfl rfl ?_
    refine W_lenStr rfl rfl Proofs.Tryd.runUnderlying9 rfl ?_
    refine W_bin rfl rfl rfl rfl rfl ?_
    obtain ⟨hz102, hm⟩ := need_some hm
    refine W_sliceStr (l := (IntKind.i64.wrap ((p0_s.size : Int) - (suffix.size : Int)) : Int).toNat) (h := p0_s.size) rfl rfl Proofs.Tryd.runUnderlying9 rfl (.inl ⟨rfl, rfl⟩) (.inr ⟨_, _, _, rfl, rfl, by omega, by omega, rfl⟩) ?_
    refine W_move rfl rfl rfl ?_
    refine W_bin rfl rfl rfl rfl rfl ?_
    refine W_pick rfl rfl rfl rfl ?_
    refine W_assign rfl rfl rfl ?_
    refine W_end ?_
    refine E_then ?_
    refine C_ret ?_
    obtain rfl := Option.some.inj hm
    refine E_weak (Hp.le_refl _) ?_
    exact end1 rfl rfl ⟨rfl, rfl, rfl⟩

theorem m_internal_stringslite_TrimSuffix_c {B : Nat} {w0 w : World} [Tabs B w0] {H : Hp} {M : List Res} {p0_s : ByteArray} {suffix : ByteArray} {r : ByteArray} (hm : m_internal_stringslite_TrimSuffix p0_s suffix = some r) (ht : St B w0 H (M) w) :
    Calls Proofs.Tryd.prog 28 [.string (p0_s), .string (suffix)].toArray w (Ret B w0 fun H' M' v => H = H' ∧ M = M' ∧ .string (r) = v) := by
  unfold m_internal_stringslite_TrimSuffix at hm
  refine enter Proofs.Tryd.func28 rfl rfl rfl ht ?_
  refine C_seq ?_
  refine C_region ?_
  refine W_assign rfl rfl rfl ?_
  refine W_end ?_
  refine E_then ?_
  refine C_seq ?_
  refine C_seq ?_
  refine C_region ?_
  refine W_move rfl rfl rfl ?_
  refine W_move rfl rfl rfl ?_
  obtain ⟨r101, hc102, hm⟩ := bind_some hm
  refine W_call Proofs.Tryd.call29 rfl rfl rfl (fun w ht => by have h := m_internal_stringslite_HasSuffix_c (hm := hc102)  ht; exact h) ?_
  rintro _ _ _ ⟨rfl, rfl, rfl⟩
  refine W_end ?_
  refine E_then ?_
  refine C_cond (b := r101) rfl (fun hb103 => ?_) (fun hb103 => ?_)
  · have hm := ite_t' hb103 hm
    refine C_seq ?_
    refine C_region ?_
    refine W_move rfl rfl rfl ?_
    refine W_move rfl rfl rfl ?_
    refine W_lenStr rfl rfl Proofs.Tryd.runUnderlying9 rfl ?_
    refine W_move rfl rfl rfl ?_
    refine W_lenStr rfl rfl Proofs.Tryd.runUnderlying9 rfl ?_
    refine W_bin rfl rfl rfl rfl rfl ?_
    obtain ⟨hz104, hm⟩ := need_some hm
    refine W_sliceStr (l := 0) (h := (IntKind.i64.wrap ((p0_s.size : Int) - (suffix.size : Int)) : Int).toNat) rfl rfl Proofs.Tryd.runUnderlying9 rfl (.inr ⟨_, _, _, rfl, rfl, by omega, by omega, rfl⟩) (.inl ⟨rfl, rfl⟩) ?_
    refine W_assign rfl rfl rfl ?_
    refine W_end ?_
    refine E_then ?_
    refine C_ret ?_
    refine E_ret_then ?_
    obtain rfl := Option.some.inj hm
    refine E_weak (Hp.le_refl _) ?_
    exact end1 rfl rfl ⟨rfl, rfl, rfl⟩
  · have hm := ite_f' hb103 hm
    refine C_skip ?_
    refine E_then ?_
    refine C_seq ?_
    refine C_region ?_
    refine W_move rfl rfl rfl ?_
    refine W_assign rfl rfl rfl ?_
    refine W_end ?_
    refine E_then ?_
    refine C_ret ?_
    obtain rfl := Option.some.inj hm
    refine E_weak (Hp.le_refl _) ?_
    exact end1 rfl rfl ⟨rfl, rfl, rfl⟩

theorem m_strings_TrimSuffix_c {B : Nat} {w0 w : World} [Tabs B w0] {H : Hp} {M : List Res} {p0_s : ByteArray} {suffix : ByteArray} {r : ByteArray} (hm : m_strings_TrimSuffix p0_s suffix = some r) (ht : St B w0 H (M) w) :
    Calls Proofs.Tryd.prog 18 [.string (p0_s), .string (suffix)].toArray w (Ret B w0 fun H' M' v => H = H' ∧ M = M' ∧ .string (r) = v) := by
  unfold m_strings_TrimSuffix at hm
  refine enter Proofs.Tryd.func18 rfl rfl rfl ht ?_
  refine C_seq ?_
  refine C_region ?_
  refine W_assign rfl rfl rfl ?_
  refine W_end ?_
  refine E_then ?_
  refine C_seq ?_
  refine C_region ?_
  refine W_move rfl rfl rfl ?_
  refine W_move rfl rfl rfl ?_
  obtain ⟨r101, hc102, hm⟩ := bind_some hm
  refine W_call Proofs.Tryd.call28 rfl rfl rfl (fun w ht => by have h := m_internal_stringslite_TrimSuffix_c (hm := hc102)  ht; exact h) ?_
  rintro _ _ _ ⟨rfl, rfl, rfl⟩
  refine W_assign rfl rfl rfl ?_
  refine W_end ?_
  refine E_then ?_
  refine C_ret ?_
  obtain rfl := Option.some.inj hm
  refine E_weak (Hp.le_refl _) ?_
  exact end1 rfl rfl ⟨rfl, rfl, rfl⟩

theorem m_strings_HasSuffix_c {B : Nat} {w0 w : World} [Tabs B w0] {H : Hp} {M : List Res} {p0_s : ByteArray} {suffix : ByteArray} {r : Bool} (hm : m_strings_HasSuffix p0_s suffix = some r) (ht : St B w0 H (M) w) :
    Calls Proofs.Tryd.prog 19 [.string (p0_s), .string (suffix)].toArray w (Ret B w0 fun H' M' v => H = H' ∧ M = M' ∧ .bool (r) = v) := by
  unfold m_strings_HasSuffix at hm
  refine enter Proofs.Tryd.func19 rfl rfl rfl ht ?_
  refine C_seq ?_
  refine C_region ?_
  refine W_assign rfl rfl rfl ?_
  refine W_end ?_
  refine E_then ?_
  refine C_seq ?_
  refine C_region ?_
  refine W_move rfl rfl rfl ?_
  refine W_move rfl rfl rfl ?_
  obtain ⟨r101, hc102, hm⟩ := bind_some hm
  refine W_call Proofs.Tryd.call29 rfl rfl rfl (fun w ht => by have h := m_internal_stringslite_HasSuffix_c (hm := hc102)  ht; exact h) ?_
  rintro _ _ _ ⟨rfl, rfl, rfl⟩
  refine W_assign rfl rfl rfl ?_
  refine W_end ?_
  refine E_then ?_
  refine C_ret ?_
  obtain rfl := Option.some.inj hm
  refine E_weak (Hp.le_refl _) ?_
  exact end1 rfl rfl ⟨rfl, rfl, rfl⟩

theorem m_console_Script_c {B : Nat} {w0 w : World} [Tabs B w0] {H : Hp} {M : List Res} {text : ByteArray} {time : Int} {r : (List S_api_Event) × Int × Int} (hm : m_console_Script text time = some r) (ht : St B w0 H (M) w) :
    Calls Proofs.Tryd.prog 10 [.string (text), .int .i64 (time)].toArray w (Ret B w0 fun H' M' v => H = H' ∧ ∃ qv0 : Value, ∃ qxs0 : List Value, .row qv0 36 (Rep.sz S_api_Event) r.1.length qxs0 :: M = M' ∧ .tuple #[qv0, .int .i64 (r.2.1), .int .i64 (r.2.2)] = v ∧ RwF qv0 qxs0 r.1) := by
  unfold m_console_Script at hm
  refine enter Proofs.Tryd.func10 rfl rfl rfl ht ?_
  refine C_seq ?_
  refine C_region ?_
  refine W_assign rfl rfl rfl ?_
  refine W_assign rfl rfl rfl ?_
  refine W_assign rfl rfl rfl ?_
  refine W_end ?_
  refine E_then ?_
  refine C_seq ?_
  refine C_block ?_
  refine C_seq ?_
  refine C_region ?_
  refine W_move rfl rfl rfl ?_
  refine W_lenStr rfl rfl Proofs.Tryd.runUnderlying9 rfl ?_
  refine W_bin rfl rfl rfl rfl rfl ?_
  refine W_assign rfl rfl rfl ?_
  refine W_end ?_
  refine E_then ?_
  refine C_cond (b := decide (8192 < (text.size : Int))) rfl (fun hb101 => ?_) (fun hb101 => ?_)
  · have hm := ite_t' hb101 hm
    refine C_seq ?_
    refine C_region ?_
    refine W_assign rfl rfl rfl ?_
    refine W_assign rfl rfl rfl ?_
    refine W_assign rfl rfl rfl ?_
    refine W_end ?_
    refine E_then ?_
    refine C_ret ?_
    refine E_ret_block ?_
    refine E_ret_then ?_
    refine E_nilRow 36 (Rep.sz S_api_Event) ?_
    obtain rfl := Option.some.inj hm
    refine E_weak (Hp.le_refl _) ?_
    exact end3 rfl rfl rfl rfl ⟨rfl, (.slice none 0 0), [], rfl, rfl, (Rw.nil (H := H)).toF⟩
  · have hm := ite_f' hb101 hm
    refine C_seq_join (fun H' M' L' => H = H' ∧ M = M' ∧ [(0, .string (text)), (1, .int .i64 (time)), (17, .bool ((decide (time < 0)) || (decide (200000 < time))))] = L') ?_ (fun J103 => ?_)
    · rintro _ _ _ ⟨rfl, rfl, rfl⟩
      refine C_cond (b := (decide (time < 0)) || (decide (200000 < time))) rfl (fun hb104 => ?_) (fun hb104 => ?_)
      · have hm := ite_t' hb104 hm
        refine C_seq ?_
        refine C_region ?_
        refine W_assign rfl rfl rfl ?_
        refine W_assign rfl rfl rfl ?_
        refine W_assign rfl rfl rfl ?_
        refine W_end ?_
        refine E_then ?_
        refine C_ret ?_
        refine E_ret_block ?_
        refine E_ret_then ?_
        refine E_nilRow 36 (Rep.sz S_api_Event) ?_
        obtain rfl := Option.some.inj hm
        refine E_weak (Hp.le_refl _) ?_
        exact end3 rfl rfl rfl rfl ⟨rfl, (.slice none 0 0), [], rfl, rfl, (Rw.nil (H := H)).toF⟩
      · have hm := ite_f' hb104 hm
        refine C_seq ?_
        refine C_region ?_
        refine W_move rfl rfl rfl ?_
        refine W_bin rfl rfl rfl rfl rfl ?_
        refine W_assign rfl rfl rfl ?_
        refine W_end ?_
        refine E_then ?_
        refine C_cond (b := decide (text = (⟨#[]⟩))) rfl (fun hb105 => ?_) (fun hb105 => ?_)
        · have hm := ite_t' hb105 hm
          refine C_seq ?_
          refine C_region ?_
          refine W_assign rfl rfl rfl ?_
          refine W_assign rfl rfl rfl ?_
          refine W_assign rfl rfl rfl ?_
          refine W_end ?_
          refine E_then ?_
          refine C_ret ?_
          refine E_ret_block ?_
          refine E_ret_then ?_
          refine E_nilRow 36 (Rep.sz S_api_Event) ?_
          obtain rfl := Option.some.inj hm
          refine E_weak (Hp.le_refl _) ?_
          exact end3 rfl rfl rfl rfl ⟨rfl, (.slice none 0 0), [], rfl, rfl, (Rw.nil (H := H)).toF⟩
        · have hm := ite_f' hb105 hm
          refine C_skip ?_
          refine E_normal_block ?_
          refine E_then ?_
          refine C_seq ?_
          refine C_region ?_
          refine W_move rfl rfl rfl ?_
          obtain ⟨r106, hc107, hm⟩ := bind_some hm
          refine W_call Proofs.Tryd.call18 rfl rfl rfl (fun w ht => by have h := m_strings_TrimSuffix_c (hm := hc107)  ht; exact h) ?_
          rintro _ _ _ ⟨rfl, rfl, rfl⟩
          obtain ⟨r108, hc109, hm⟩ := bind_some hm
          refine W_call Proofs.Tryd.call15 rfl rfl rfl (fun w ht => by have h := m_strings_Split_c (hm := hc109)  ht; exact h) ?_
          rintro _ _ _ ⟨rfl, v110, xs111, rfl, rfl, h112⟩
          have h112 := h112 H
          refine W_assign rfl rfl rfl ?_
          refine W_end ?_
          refine E_then ?_
          refine C_seq ?_
          refine C_seq ?_
          refine C_region ?_
          refine W_move rfl rfl rfl ?_
          obtain ⟨r113, hc114, hm⟩ := bind_some hm
          refine W_call Proofs.Tryd.call19 rfl rfl rfl (fun w ht => by have h := m_strings_HasSuffix_c (hm := hc114)  ht; exact h) ?_
          rintro _ _ _ ⟨rfl, rfl, rfl⟩
          refine W_un rfl rfl rfl rfl ?_
          refine W_end ?_
          refine E_then ?_
          refine C_cond (b := !r113) rfl (fun hb115 => ?_) (fun hb115 => ?_)
          · have hm := ite_t' hb115 hm
            refine C_seq ?_
            refine C_region ?_
            refine W_move rfl rfl rfl ?_
            refine W_lenO (List.mem_cons_self ..) rfl rfl Proofs.Tryd.runUnderlying47 rfl ?_
            refine W_bin rfl rfl rfl rfl rfl ?_
            refine W_assign rfl rfl rfl ?_
            refine W_assign rfl rfl rfl ?_
            refine W_assign rfl rfl rfl ?_
            refine W_end ?_
            refine E_then ?_
            refine C_ret ?_
            refine E_ret_then ?_
            refine E_nilRow 36 (Rep.sz S_api_Event) ?_
            obtain rfl := Option.some.inj hm
            refine E_drop (List.Sublist.cons_cons _ (List.Sublist.cons _ (List.Sublist.refl _))) ?_
            refine E_weak (Hp.le_refl _) ?_
            exact end3 rfl rfl rfl rfl ⟨rfl, (.slice none 0 0), [], rfl, rfl, (Rw.nil (H := H)).toF⟩
          · have hm := ite_f' hb115 hm
            refine C_skip ?_
            refine E_then ?_
            refine C_seq ?_
            refine C_region ?_
            refine W_assign rfl rfl rfl ?_
            refine W_end ?_
            refine E_then ?_
            refine C_seq ?_
            refine C_seq ?_
            refine C_region ?_
            refine W_move rfl rfl rfl ?_
            refine W_lenO (List.mem_cons_self ..) rfl rfl Proofs.Tryd.runUnderlying47 rfl ?_
            refine W_move rfl rfl rfl ?_
            refine W_end ?_
            refine E_then ?_
            refine C_block ?_
            refine C_rowMax (List.mem_cons_self ..) (fun hmx234 => ?_)
            refine C_nilRow 36 (Rep.sz S_api_Event) ?_
            refine C_keep (L' := [(1, .int .i64 (time)), (8, (.slice none 0 0)), (36, v110), (37, .int .i64 ((r108.length : Int))), (38, .int .i64 (((0 : Nat) : Int)))]) ⟨rfl, rfl, rfl, rfl, rfl, trivial⟩ (List.Perm.refl _) ?_
            refine C_loop (fun n H' M' L' => ∃ (k116 : Nat) (zs236' : List ByteArray), ∃ n223 : Int, ∃ l226 : List S_api_Event, ∃ v224 : Value, ∃ xs225 : List Value, (r108).drop k116 = zs236' ∧ zs236'.length = n ∧ forI (fun k y s230 n => m_console_Script_b3 k y s230.1 s230.2 n) (fun s230 => some (s230.2, 0, 0)) k116 zs236' (n223, l226) = some r ∧ Rw H' v224 xs225 l226 ∧ H.le H' ∧ .row v224 36 (Rep.sz S_api_Event) l226.length xs225 :: .row v110 9 (Rep.sz ByteArray) r108.length xs111 :: M = M' ∧ [(1, .int .i64 (n223)), (8, v224), (36, v110), (37, .int .i64 ((r108.length : Int))), (38, .int .i64 ((k116 : Int)))] = L') _ ⟨0, _, time, ([] : List S_api_Event), (.slice none 0 0), ([]), rfl, rfl, hm, Rw.nil, (Hp.le_refl _), rfl, rfl⟩ ?_
            rintro _ H228 _ _ ⟨k116, zs236', n223, l226, v224, xs225, hd238, rfl, hm, hr227, hle229, rfl, rfl⟩
            refine C_seq ?_
            refine C_region ?_
            refine W_bin rfl rfl rfl rfl rfl ?_
            refine W_end (E_then ?_)
            refine C_seq ?_
            refine C_cond (b := decide ((k116 : Int) < (r108.length : Int))) rfl (fun hb240 => ?_) (fun hb240 => ?_)
            · obtain ⟨y235, zs236, rfl, hy237, hd239⟩ := rng_t hd238 hb240
              have hm : m_console_Script_b3 k116 y235 n223 l226 (forI (fun k y s230 n => m_console_Script_b3 k y s230.1 s230.2 n) (fun s230 => some (s230.2, 0, 0)) (k116 + 1) zs236) = some r := hm
              generalize hn232 : forI (fun k y s230 n => m_console_Script_b3 k y s230.1 s230.2 n) (fun s230 => some (s230.2, 0, 0)) (k116 + 1) zs236 = nx231 at hm
              unfold m_console_Script_b3 at hm
              refine C_skip (E_then ?_)
              refine C_seq_join (fun H' M' L' => ∃ n260 : Int, ∃ l263 : List S_api_Event, ∃ v261 : Value, ∃ xs262 : List Value, m_console_Script_b4 nx231 n260 l263 = some r ∧ Rw H' v261 xs262 l263 ∧ H228.le H' ∧ .row v261 36 (Rep.sz S_api_Event) l263.length xs262 :: .row v110 9 (Rep.sz ByteArray) r108.length xs111 :: M = M' ∧ [(1, .int .i64 (n260)), (8, v261), (36, v110), (37, .int .i64 ((r108.length : Int))), (38, .int .i64 ((k116 : Int)))] = L') ?_ (fun J267 => ?_)
              · rintro H265 _ _ ⟨n260, l263, v261, xs262, hm, hr264, hle266, rfl, rfl⟩
                unfold m_console_Script_b4 at hm
                refine C_region ?_
                refine W_bin rfl rfl rfl rfl rfl ?_
                refine W_move rfl rfl rfl ?_
                refine W_end ?_
                exact E_keepJ (E_back (Nat.lt_succ_self _) ⟨k116 + 1, zs236, n260, l263, v261, xs262, hd239, rfl, (by rw [hn232]; exact hm), hr264, (Hp.le_trans hle229 hle266), rfl, rfl⟩) (List.Perm.refl _) ⟨rfl, rfl, rfl, rfl, (congrArg (fun z => some (Value.int .i64 z)) (i64_succ hy237 hmx234)), trivial⟩
              · refine C_block ?_
                refine C_seq ?_
                refine C_region ?_
                refine W_move rfl rfl rfl ?_
                refine W_indexO (List.mem_cons_of_mem _ (List.mem_cons_self ..)) rfl rfl Proofs.Tryd.runUnderlying47 Proofs.Tryd.sizeOf9 rfl rfl (Int.natCast_nonneg _) (List.getElem?_eq_some_iff.1 hy237).1 ?_
                obtain ⟨_, rfl, hg268⟩ := (h112).elem hy237
                refine W_load rfl rfl Proofs.Tryd.isAgg9 rfl (row_one0 (List.mem_cons_of_mem _ (List.mem_cons_self ..)) hg268 rfl) ?_
                refine W_assign rfl rfl rfl ?_
                refine W_assign rfl rfl rfl ?_
                refine W_end ?_
                refine E_then ?_
                refine C_seq ?_
                refine C_region ?_
                refine W_move rfl rfl rfl ?_
                obtain ⟨r269, hc270, hm⟩ := bind_some hm
                refine W_call Proofs.Tryd.call6 rfl rfl rfl (fun w ht => by have h := m_console_Parse_c (hm := hc270)  ht; exact h) ?_
                rintro _ _ _ ⟨rfl, rfl, rfl⟩
                refine W_move rfl rfl rfl ?_
                refine W_extract rfl rfl rfl rfl ?_
                refine W_extract rfl rfl rfl rfl ?_
                refine W_alloc (cs := [.string (⟨#[]⟩), .string (⟨#[]⟩), .int .i64 (0)]) rfl rfl Proofs.Tryd.zeroValue23 rfl (fun b271 => ?_)
                refine W_store (cs := [.string (r269.1.Verb), .string (r269.1.Name), .int .i64 (r269.1.N)]) (out := [.string (r269.1.Verb), .string (r269.1.Name), .int .i64 (r269.1.N)]) rfl Proofs.Tryd.sizeOf23 rfl rfl rfl rfl rfl (all_cons rfl (all_cons rfl (all_cons rfl all_nil))) (over_all rfl) ?_
                refine W_assign rfl rfl rfl ?_
                refine W_end ?_
                refine E_then ?_
                refine C_seq ?_
                refine C_seq ?_
                refine C_region ?_
                refine W_move rfl rfl rfl ?_
                refine W_bin rfl rfl rfl rfl rfl ?_
                refine W_end ?_
                refine E_then ?_
                refine C_cond (b := !decide (r269.2 = 0)) rfl (fun hb272 => ?_) (fun hb272 => ?_)
                · have hm := ite_t' hb272 hm
                  refine C_seq ?_
                  refine C_region ?_
                  refine W_move rfl rfl rfl ?_
                  refine W_move rfl rfl rfl ?_
                  refine W_assign rfl rfl rfl ?_
                  refine W_assign rfl rfl rfl ?_
                  refine W_assign rfl rfl rfl ?_
                  refine W_end ?_
                  refine E_then ?_
                  refine C_ret ?_
                  refine E_ret_then ?_
                  refine E_ret_block ?_
                  refine E_ret_then ?_
                  refine E_ret_then ?_
                  refine E_ret_block ?_
                  refine E_ret_then ?_
                  refine E_nilRow 36 (Rep.sz S_api_Event) ?_
                  obtain rfl := Option.some.inj hm
                  refine E_drop (List.Sublist.cons_cons _ (List.Sublist.cons _ (List.Sublist.cons _ (List.Sublist.cons _ (List.Sublist.refl _))))) ?_
                  refine E_weak hle229 ?_
                  exact end3 rfl rfl rfl rfl ⟨rfl, (.slice none 0 0), [], rfl, rfl, (Rw.nil (H := H)).toF⟩
                · have hm := ite_f' hb272 hm
                  refine C_skip ?_
                  refine E_then ?_
                  refine C_seq ?_
                  refine C_region ?_
                  refine W_field (o := 0) rfl rfl Proofs.Tryd.runUnderlying23 rfl Proofs.Tryd.sizeOf9 rfl rfl rfl ?_
                  refine W_load rfl rfl Proofs.Tryd.isAgg9 rfl (own_at (List.mem_cons_self ..) rfl) ?_
                  refine W_end ?_
                  refine E_then ?_
                  refine C_block ?_
                  refine C_seq ?_
                  refine C_region ?_
                  refine W_bin rfl rfl rfl rfl rfl ?_
                  refine W_assign rfl rfl rfl ?_
                  refine W_end ?_
                  refine E_then ?_
                  refine C_cond (b := decide (r269.1.Verb = (⟨#[116, 101, 108, 108]⟩))) rfl (fun hb273 => ?_) (fun hb273 => ?_)
                  · have hm := ite_t' hb273 hm
                    refine C_skip ?_
                    refine E_normal_block ?_
                    refine E_normal_block ?_
                    refine E_drop (List.Sublist.cons _ (List.Sublist.refl _)) ?_
                    exact E_keepJ (J267 _ _ _ ⟨n223, l226, v224, xs225, hm, hr227, (Hp.le_refl _), rfl, rfl⟩) (List.Perm.refl _) ⟨rfl, rfl, rfl, rfl, rfl, trivial⟩
                  · have hm := ite_f' hb273 hm
                    refine C_seq ?_
                    refine C_region ?_
                    refine W_bin rfl rfl rfl rfl rfl ?_
                    refine W_assign rfl rfl rfl ?_
                    refine W_end ?_
                    refine E_then ?_
                    refine C_cond (b := decide (r269.1.Verb = (⟨#[119, 97, 105, 116]⟩))) rfl (fun hb274 => ?_) (fun hb274 => ?_)
                    · have hm := ite_t' hb274 hm
                      refine C_seq ?_
                      refine C_region ?_
                      refine W_move rfl rfl rfl ?_
                      refine W_field (o := 2) rfl rfl Proofs.Tryd.runUnderlying23 rfl Proofs.Tryd.sizeOf3 rfl rfl rfl ?_
                      refine W_load rfl rfl Proofs.Tryd.isAgg3 rfl (own_at (List.mem_cons_self ..) rfl) ?_
                      refine W_bin rfl rfl rfl rfl rfl ?_
                      refine W_assign rfl rfl rfl ?_
                      refine W_end ?_
                      refine E_then ?_
                      refine C_seq ?_
                      refine C_region ?_
                      refine W_move rfl rfl rfl ?_
                      refine W_bin rfl rfl rfl rfl rfl ?_
                      refine W_end ?_
                      refine E_then ?_
                      refine C_cond (b := decide (200000 < (IntKind.i64.wrap (n223 + r269.1.N)))) rfl (fun hb275 => ?_) (fun hb275 => ?_)
                      · have hm := ite_t' hb275 hm
                        refine C_seq ?_
                        refine C_region ?_
                        refine W_move rfl rfl rfl ?_
                        refine W_assign rfl rfl rfl ?_
                        refine W_assign rfl rfl rfl ?_
                        refine W_assign rfl rfl rfl ?_
                        refine W_end ?_
                        refine E_then ?_
                        refine C_ret ?_
                        refine E_ret_block ?_
                        refine E_ret_block ?_
                        refine E_ret_then ?_
                        refine E_ret_then ?_
                        refine E_ret_block ?_
                        refine E_ret_then ?_
                        refine E_nilRow 36 (Rep.sz S_api_Event) ?_
                        obtain rfl := Option.some.inj hm
                        refine E_drop (List.Sublist.cons_cons _ (List.Sublist.cons _ (List.Sublist.cons _ (List.Sublist.cons _ (List.Sublist.refl _))))) ?_
                        refine E_weak hle229 ?_
                        exact end3 rfl rfl rfl rfl ⟨rfl, (.slice none 0 0), [], rfl, rfl, (Rw.nil (H := H)).toF⟩
                      · have hm := ite_f' hb275 hm
                        refine C_skip ?_
                        refine E_normal_block ?_
                        refine E_normal_block ?_
                        refine E_drop (List.Sublist.cons _ (List.Sublist.refl _)) ?_
                        exact E_keepJ (J267 _ _ _ ⟨IntKind.i64.wrap (n223 + r269.1.N), l226, v224, xs225, hm, hr227, (Hp.le_refl _), rfl, rfl⟩) (List.Perm.refl _) ⟨rfl, rfl, rfl, rfl, rfl, trivial⟩
                    · have hm := ite_f' hb274 hm
                      refine C_region ?_
                      refine W_move rfl rfl rfl ?_
                      refine W_move rfl rfl rfl ?_
                      refine W_field (o := 0) rfl rfl Proofs.Tryd.runUnderlying23 rfl Proofs.Tryd.sizeOf9 rfl rfl rfl ?_
                      refine W_load rfl rfl Proofs.Tryd.isAgg9 rfl (own_at (List.mem_cons_self ..) rfl) ?_
                      refine W_field (o := 1) rfl rfl Proofs.Tryd.runUnderlying23 rfl Proofs.Tryd.sizeOf9 rfl rfl rfl ?_
                      refine W_load rfl rfl Proofs.Tryd.isAgg9 rfl (own_at (List.mem_cons_self ..) rfl) ?_
                      refine W_field (o := 2) rfl rfl Proofs.Tryd.runUnderlying23 rfl Proofs.Tryd.sizeOf3 rfl rfl rfl ?_
                      refine W_load rfl rfl Proofs.Tryd.isAgg3 rfl (own_at (List.mem_cons_self ..) rfl) ?_
                      refine W_build (css := [[.int .i64 (n223)], [.string (r269.1.Verb)], [.string (r269.1.Name)], [.int .i64 (r269.1.N)]]) (zs := [.int .i64 (0), .string (⟨#[]⟩), .string (⟨#[]⟩), .int .i64 (0)]) (out := [.int .i64 (n223), .string (r269.1.Verb), .string (r269.1.Name), .int .i64 (r269.1.N)]) (places := [(0, 1), (1, 1), (2, 1), (3, 1)]) rfl rfl rfl ⟨rfl, rfl, rfl, rfl, trivial⟩ Proofs.Tryd.zeroValue36 rfl Proofs.Tryd.runUnderlying36 (fun w => by kernel_rfl) rfl ?_
                      refine W_buildSlice (α := S_api_Event) (css := [[.int .i64 (n223), .string (r269.1.Verb), .string (r269.1.Name), .int .i64 (r269.1.N)]]) (zs := [.int .i64 (0), .string (⟨#[]⟩), .string (⟨#[]⟩), .int .i64 (0)]) (out := [.int .i64 (n223), .string (r269.1.Verb), .string (r269.1.Name), .int .i64 (r269.1.N)]) (ys := [(S_api_Event.mk n223 r269.1.Verb r269.1.Name r269.1.N)]) rfl rfl rfl ⟨rfl, trivial⟩ Proofs.Tryd.runUnderlying34 Proofs.Tryd.sizeOf36 rfl Proofs.Tryd.zeroValue36 (by kernel_rfl) rfl rfl rfl rfl ⟨[.int .i64 (n223), .string (r269.1.Verb), .string (r269.1.Name), .int .i64 (r269.1.N)], [], rfl, rfl, rfl⟩ rfl ?_
                      intro b276 v277 H278 hv279 hle280 h281
                      have hc282 : Value.cap' v277 = ([(S_api_Event.mk n223 r269.1.Verb r269.1.Name r269.1.N)]).length := by rw [hv279]; rfl
                      obtain ⟨hz283, hm⟩ := need_some hm
                      refine W_perm (List.Perm.swap _ _ _) ?_
                      refine W_appendO (α := S_api_Event) (l := l226) (ys := [(S_api_Event.mk n223 r269.1.Verb r269.1.Name r269.1.N)]) rfl rfl Proofs.Tryd.underlying34 ⟨_, rfl, rfl, rfl, rfl⟩ rfl rfl rfl rfl rfl (hr227.mono hle280) h281 hz283 ?_
                      intro v284 xs285 hr286
                      refine W_assign rfl rfl rfl ?_
                      refine W_end ?_
                      refine E_normal_block ?_
                      refine E_normal_block ?_
                      refine E_drop (List.Sublist.cons_cons _ (List.Sublist.cons _ (List.Sublist.refl _))) ?_
                      exact E_keepJ (J267 _ _ _ ⟨n223, (l226 ++ ([(S_api_Event.mk n223 r269.1.Verb r269.1.Name r269.1.N)])), v284, xs285, hm, hr286, hle280, rfl, rfl⟩) (List.Perm.refl _) ⟨rfl, rfl, rfl, rfl, rfl, trivial⟩
            · obtain rfl := rng_f hd238 hb240
              have hm : (some (l226, 0, 0)) = some r := hm
              refine C_exit (E_exit_then ?_)
              refine E_exit_then ?_
              refine E_exit_hit ?_
              refine E_then ?_
              refine C_seq ?_
              refine C_region ?_
              refine W_move rfl rfl rfl ?_
              refine W_assign rfl rfl rfl ?_
              refine W_assign rfl rfl rfl ?_
              refine W_assign rfl rfl rfl ?_
              refine W_end ?_
              refine E_then ?_
              refine C_ret ?_
              obtain rfl := Option.some.inj hm
              refine E_drop (List.Sublist.cons_cons _ (List.Sublist.cons _ (List.Sublist.refl _))) ?_
              refine E_weak hle229 ?_
              exact end3 rfl rfl rfl rfl ⟨rfl, v224, xs225, rfl, rfl, (hr227).toF⟩
    · refine C_region ?_
      refine W_move rfl rfl rfl ?_
      refine W_bin rfl rfl rfl rfl rfl ?_
      refine W_move rfl rfl rfl ?_
      cases hb287 : (decide (time < 0))
      · refine W_move rfl rfl rfl ?_
        refine W_bin rfl rfl rfl rfl rfl ?_
        refine W_pick rfl rfl rfl rfl ?_
        refine W_assign rfl rfl rfl ?_
        refine W_end ?_
        exact E_keepJ (J103 _ _ _ ⟨rfl, rfl, rfl⟩) (List.Perm.refl _) ⟨rfl, rfl, (by show some (Value.bool (decide (200000 < time))) = some (Value.bool ((decide (time < 0)) || (decide (200000 < time)))); simp only [hb101, hb287, Bool.and_true, Bool.true_and, Bool.false_and, Bool.and_false, Bool.or_true, Bool.true_or, Bool.or_false, Bool.false_or, Bool.not_true, Bool.not_false]), trivial⟩
      · refine W_no rfl rfl rfl ?_
        refine W_no rfl rfl rfl ?_
        refine W_pick rfl rfl rfl rfl ?_
        refine W_assign rfl rfl rfl ?_
        refine W_end ?_
        exact E_keepJ (J103 _ _ _ ⟨rfl, rfl, rfl⟩) (List.Perm.refl _) ⟨rfl, rfl, (by show some (Value.bool (true)) = some (Value.bool ((decide (time < 0)) || (decide (200000 < time)))); simp only [hb101, hb287, Bool.and_true, Bool.true_and, Bool.false_and, Bool.and_false, Bool.or_true, Bool.true_or, Bool.or_false, Bool.false_or, Bool.not_true, Bool.not_false]), trivial⟩
end Go.Sim
