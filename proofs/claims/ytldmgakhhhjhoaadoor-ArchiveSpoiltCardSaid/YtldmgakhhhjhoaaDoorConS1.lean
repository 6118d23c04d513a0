/-
  Printed by a program: each Go function computes its model.
-/
import Derived.Test.YtldmgakhhhjhoaaDoorModS
import Derived.Test.YtldmgakhhhjhoaaDoorRows
import Derived.KernelRfl
import Derived.Test.YtldmgakhhhjhoaaDoorShelf
namespace Go.Sim
open Go
set_option linter.unusedVariables false
set_option linter.unusedSimpArgs false
set_option maxRecDepth 100000
theorem Facts.mixed : Proofs.Tryd.prog.follows .mixedOrders = true := by kernel_rfl

class Tabs (B : Nat) (w0 : World) : Prop where
  lt : 8 ≤ B
  e1 : ∃ T p, w0.var? Proofs.Tryd.prog "strconv.ErrSyntax" = some #[.iface T p]
  e2 : ∃ T p, w0.var? Proofs.Tryd.prog "strconv.ErrRange" = some #[.iface T p]
  t3 : Lib.TabIs Proofs.Tryd.prog w0 "internal/strconv.uint64pow10" .u64 gt3
  t6 : Lib.TabIs Proofs.Tryd.prog w0 "math/bits.deBruijn32tab" .u8 gt6
  t7 : Lib.TabIs Proofs.Tryd.prog w0 "math/bits.deBruijn64tab" .u8 gt7
theorem Tabs.below {B : Nat} {w0 : World} [h : Tabs B w0] {g : Nat} (hg : Nat.blt g 8 = true) : g < B := by
  have := h.lt
  have : g < 8 := by simpa [Nat.blt_eq] using hg
  omega
theorem gn1 : Proofs.Tryd.prog.globalNamed "strconv.ErrSyntax" = some 1 := by kernel_rfl
theorem gn2 : Proofs.Tryd.prog.globalNamed "strconv.ErrRange" = some 2 := by kernel_rfl
theorem gn3 : Proofs.Tryd.prog.globalNamed "internal/strconv.uint64pow10" = some 3 := by kernel_rfl
theorem gn6 : Proofs.Tryd.prog.globalNamed "math/bits.deBruijn32tab" = some 6 := by kernel_rfl
theorem gn7 : Proofs.Tryd.prog.globalNamed "math/bits.deBruijn64tab" = some 7 := by kernel_rfl

theorem m_archive_New_c {B : Nat} {w0 w : World} [Tabs B w0] {H : Hp} {M : List Res} {r : (Option S_archive_Archive)} (hm : m_archive_New = r) (ht : St B w0 H (M) w) :
    Calls Proofs.Tryd.prog 22 [].toArray w (Ret B w0 fun H' M' v => (r = none ∧ H.le H' ∧ M = M' ∧ .pointer none = v) ∨ (∃ qsp0 : S_archive_Archive, r = some qsp0 ∧ H.le H' ∧ ∃ qb0 : Nat, ∃ qv0 : Value, ∃ qxs0 : List Value, .obj qb0 (.cells [qv0].toArray 51 (0, 0)) :: .row qv0 30 (Rep.sz S_api_Event) qsp0.all_.length qxs0 :: M = M' ∧ .pointer (some ⟨qb0, 0, none⟩) = v ∧ Rw H' qv0 qxs0 qsp0.all_)) := by
  unfold m_archive_New at hm
  refine enter Proofs.Tryd.func22 rfl rfl rfl ht ?_
  refine C_seq ?_
  refine C_region ?_
  refine W_assign rfl rfl rfl ?_
  refine W_end ?_
  refine E_then ?_
  refine C_seq ?_
  refine C_region ?_
  refine W_build (css := []) (zs := [.slice none 0 0]) (out := [.slice none 0 0]) (places := [(0, 1)]) rfl rfl rfl trivial Proofs.Tryd.zeroValue51 rfl Proofs.Tryd.runUnderlying51 (fun w => by kernel_rfl) rfl ?_
  refine W_box (cs := [.slice none 0 0]) rfl rfl rfl rfl (fun b101 => ?_)
  refine W_assign rfl rfl rfl ?_
  refine W_end ?_
  refine E_then ?_
  refine C_ret ?_
  refine E_nilRow 30 (Rep.sz S_api_Event) ?_
  obtain rfl := hm
  refine E_perm (List.Perm.swap _ _ _) ?_
  exact end1 rfl rfl (.inr ⟨(S_archive_Archive.mk ([] : List S_api_Event)), rfl, (Hp.le_refl _), b101, (.slice none 0 0), [], rfl, rfl, Rw.nil⟩)

theorem m_gridhallref4_Cut_c {B : Nat} {w0 w : World} [Tabs B w0] {H : Hp} {M : List Res} {p0_n : Int} {p1_low : Int} {p2_high : Int} {r : Int} (hm : m_gridhallref4_Cut p0_n p1_low p2_high = some r) (ht : St B w0 H (M) w) :
    Calls Proofs.Tryd.prog 9 [.int .i64 (p0_n), .int .i64 (p1_low), .int .i64 (p2_high)].toArray w (Ret B w0 fun H' M' v => H = H' ∧ M = M' ∧ .int .i64 (r) = v) := by
  unfold m_gridhallref4_Cut at hm
  refine enter Proofs.Tryd.func9 rfl rfl rfl ht ?_
  refine C_seq ?_
  refine C_region ?_
  refine W_assign rfl rfl rfl ?_
  refine W_end ?_
  refine E_then ?_
  refine C_seq ?_
  refine C_region ?_
  refine W_move rfl rfl rfl ?_
  refine W_move rfl rfl rfl ?_
  refine W_bin rfl rfl rfl rfl rfl ?_
  refine W_bin rfl rfl rfl rfl rfl ?_
  refine W_assign rfl rfl rfl ?_
  refine W_end ?_
  refine E_then ?_
  refine C_seq ?_
  refine C_region ?_
  refine W_move rfl rfl rfl ?_
  refine W_move rfl rfl rfl ?_
  obtain ⟨hq101, hm⟩ := need_some hm
  refine W_rem rfl rfl rfl rfl hq101 ?_
  refine W_assign rfl rfl rfl ?_
  refine W_end ?_
  refine E_then ?_
  refine C_seq_join (fun H' M' L' => ∃ n103 : Int, m_gridhallref4_Cut_b1 p1_low n103 = some r ∧ H = H' ∧ M = M' ∧ [(0, .int .i64 (n103)), (1, .int .i64 (p1_low))] = L') ?_ (fun J104 => ?_)
  · rintro _ _ _ ⟨n103, hm, rfl, rfl, rfl⟩
    unfold m_gridhallref4_Cut_b1 at hm
    refine C_seq ?_
    refine C_region ?_
    refine W_move rfl rfl rfl ?_
    refine W_move rfl rfl rfl ?_
    refine W_bin rfl rfl rfl rfl rfl ?_
    refine W_assign rfl rfl rfl ?_
    refine W_end ?_
    refine E_then ?_
    refine C_ret ?_
    obtain rfl := Option.some.inj hm
    refine E_weak (Hp.le_refl _) ?_
    exact end1 rfl rfl ⟨rfl, rfl, rfl⟩
  · refine C_seq ?_
    refine C_region ?_
    refine W_move rfl rfl rfl ?_
    refine W_bin rfl rfl rfl rfl rfl ?_
    refine W_end ?_
    refine E_then ?_
    refine C_cond (b := decide ((Int.tmod p0_n (IntKind.i64.wrap ((IntKind.i64.wrap (p2_high - p1_low)) + 1))) < 0)) rfl (fun hb105 => ?_) (fun hb105 => ?_)
    · have hm := ite_t' hb105 hm
      refine C_region ?_
      refine W_move rfl rfl rfl ?_
      refine W_move rfl rfl rfl ?_
      refine W_bin rfl rfl rfl rfl rfl ?_
      refine W_assign rfl rfl rfl ?_
      refine W_end ?_
      exact E_keepJ (J104 _ _ _ ⟨IntKind.i64.wrap ((Int.tmod p0_n (IntKind.i64.wrap ((IntKind.i64.wrap (p2_high - p1_low)) + 1))) + (IntKind.i64.wrap ((IntKind.i64.wrap (p2_high - p1_low)) + 1))), hm, rfl, rfl, rfl⟩) (List.Perm.refl _) ⟨rfl, rfl, trivial⟩
    · have hm := ite_f' hb105 hm
      refine C_skip ?_
      exact E_keepJ (J104 _ _ _ ⟨Int.tmod p0_n (IntKind.i64.wrap ((IntKind.i64.wrap (p2_high - p1_low)) + 1)), hm, rfl, rfl, rfl⟩) (List.Perm.refl _) ⟨rfl, rfl, trivial⟩

theorem m_archive_kind_c {B : Nat} {w0 w : World} [Tabs B w0] {H : Hp} {M : List Res} {p0_s : ByteArray} {r : Bool} (hm : m_archive_kind p0_s = some r) (ht : St B w0 H (M) w) :
    Calls Proofs.Tryd.prog 46 [.string (p0_s)].toArray w (Ret B w0 fun H' M' v => H = H' ∧ M = M' ∧ .bool (r) = v) := by
  unfold m_archive_kind at hm
  refine enter Proofs.Tryd.func46 rfl rfl rfl ht ?_
  refine C_seq ?_
  refine C_region ?_
  refine W_assign rfl rfl rfl ?_
  refine W_end ?_
  refine E_then ?_
  refine C_seq ?_
  refine C_seq ?_
  refine C_region ?_
  refine W_move rfl rfl rfl ?_
  obtain ⟨hz101, hm⟩ := need_some hm
  refine W_convBytes rfl rfl Proofs.Tryd.runUnderlying9 Proofs.Tryd.runUnderlying45 Proofs.Tryd.runUnderlying5 rfl hz101 ?_
  intro v102 H103 hle104 h105
  refine W_lenR rfl rfl Proofs.Tryd.runUnderlying45 rfl h105 ?_
  refine W_move rfl rfl rfl ?_
  refine W_end ?_
  refine E_then ?_
  refine C_block ?_
  refine C_keep (L' := [(0, .string (p0_s)), (6, v102), (7, .int .i64 (((bytesL p0_s).length : Int))), (8, .int .i64 (((0 : Nat) : Int)))]) ⟨rfl, rfl, rfl, rfl, trivial⟩ (List.Perm.refl _) ?_
  refine C_loop (fun n H' M' L' => ∃ (k106 : Nat) (zs124' : List U8), (bytesL p0_s).drop k106 = zs124' ∧ zs124'.length = n ∧ forI (fun k y s119 n => m_archive_kind_b1 k y n) (fun _ => some ((decide (1 ≤ (p0_s.size : Int))) && (decide ((p0_s.size : Int) ≤ 8)))) k106 zs124' () = some r ∧ H103.le H' ∧ M = M' ∧ [(0, .string (p0_s)), (6, v102), (7, .int .i64 (((bytesL p0_s).length : Int))), (8, .int .i64 ((k106 : Int)))] = L') _ ⟨0, _, rfl, rfl, hm, (Hp.le_refl _), rfl, rfl⟩ ?_
  rintro _ H117 _ _ ⟨k106, zs124', hd126, rfl, hm, hle118, rfl, rfl⟩
  refine C_seq ?_
  refine C_region ?_
  refine W_bin rfl rfl rfl rfl rfl ?_
  refine W_end (E_then ?_)
  refine C_seq ?_
  refine C_cond (b := decide ((k106 : Int) < ((bytesL p0_s).length : Int))) rfl (fun hb128 => ?_) (fun hb128 => ?_)
  · obtain ⟨y123, zs124, rfl, hy125, hd127⟩ := rng_t hd126 hb128
    have hm : m_archive_kind_b1 k106 y123 (forI (fun k y s119 n => m_archive_kind_b1 k y n) (fun _ => some ((decide (1 ≤ (p0_s.size : Int))) && (decide ((p0_s.size : Int) ≤ 8)))) (k106 + 1) zs124) = some r := hm
    generalize hn121 : forI (fun k y s119 n => m_archive_kind_b1 k y n) (fun _ => some ((decide (1 ≤ (p0_s.size : Int))) && (decide ((p0_s.size : Int) ≤ 8)))) (k106 + 1) zs124 = nx120 at hm
    unfold m_archive_kind_b1 at hm
    refine C_skip (E_then ?_)
    refine C_seq ?_
    refine C_block ?_
    refine C_seq ?_
    refine C_region ?_
    obtain ⟨_, rfl, hc129⟩ := (h105).elem hy125
    refine W_indexS rfl rfl Proofs.Tryd.runUnderlying45 Proofs.Tryd.sizeOf5 rfl (h105.mono hle118) rfl (Int.natCast_nonneg _) hy125 ?_
    refine W_load rfl rfl Proofs.Tryd.isAgg5 rfl (HCells.one (hc129.mono hle118) 0 rfl).at ?_
    refine W_assign rfl rfl rfl ?_
    refine W_end ?_
    refine E_then ?_
    refine C_seq_join (fun H' M' L' => H117 = H' ∧ M = M' ∧ [(0, .string (p0_s)), (6, v102), (7, .int .i64 (((bytesL p0_s).length : Int))), (8, .int .i64 ((k106 : Int))), (17, .bool ((decide (y123.n < 97)) || (decide (122 < y123.n))))] = L') ?_ (fun J131 => ?_)
    · rintro _ _ _ ⟨rfl, rfl, rfl⟩
      refine C_cond (b := (decide (y123.n < 97)) || (decide (122 < y123.n))) rfl (fun hb132 => ?_) (fun hb132 => ?_)
      · have hm := ite_t' hb132 hm
        refine C_seq ?_
        refine C_region ?_
        refine W_assign rfl rfl rfl ?_
        refine W_end ?_
        refine E_then ?_
        refine C_ret ?_
        refine E_ret_block ?_
        refine E_ret_then ?_
        refine E_ret_then ?_
        refine E_ret_block ?_
        refine E_ret_then ?_
        obtain rfl := Option.some.inj hm
        refine E_weak (Hp.le_trans hle104 hle118) ?_
        exact end1 rfl rfl ⟨rfl, rfl, rfl⟩
      · have hm := ite_f' hb132 hm
        refine C_skip ?_
        refine E_normal_block ?_
        refine E_then ?_
        refine C_region ?_
        refine W_bin rfl rfl rfl rfl rfl ?_
        refine W_move rfl rfl rfl ?_
        refine W_end ?_
        exact E_keepJ (E_back (Nat.lt_succ_self _) ⟨k106 + 1, zs124, hd127, rfl, (by rw [hn121]; exact hm), hle118, rfl, rfl⟩) (List.Perm.refl _) ⟨rfl, rfl, rfl, (congrArg (fun z => some (Value.int .i64 z)) (i64_succ hy125 ((h105.mono hle118)).lenMax)), trivial⟩
    · refine C_region ?_
      refine W_move rfl rfl rfl ?_
      refine W_bin rfl rfl rfl rfl rfl ?_
      refine W_move rfl rfl rfl ?_
      cases hb133 : (decide (y123.n < 97))
      · refine W_move rfl rfl rfl ?_
        refine W_bin rfl rfl rfl rfl rfl ?_
        refine W_pick rfl rfl rfl rfl ?_
        refine W_end ?_
        exact E_keepJ (J131 _ _ _ ⟨rfl, rfl, rfl⟩) (List.Perm.refl _) ⟨rfl, rfl, rfl, rfl, (by show some (Value.bool (decide (122 < y123.n))) = some (Value.bool ((decide (y123.n < 97)) || (decide (122 < y123.n)))); simp only [hb133, Bool.and_true, Bool.true_and, Bool.false_and, Bool.and_false, Bool.or_true, Bool.true_or, Bool.or_false, Bool.false_or, Bool.not_true, Bool.not_false]), trivial⟩
      · refine W_no rfl rfl rfl ?_
        refine W_no rfl rfl rfl ?_
        refine W_pick rfl rfl rfl rfl ?_
        refine W_end ?_
        exact E_keepJ (J131 _ _ _ ⟨rfl, rfl, rfl⟩) (List.Perm.refl _) ⟨rfl, rfl, rfl, rfl, (by show some (Value.bool (true)) = some (Value.bool ((decide (y123.n < 97)) || (decide (122 < y123.n)))); simp only [hb133, Bool.and_true, Bool.true_and, Bool.false_and, Bool.and_false, Bool.or_true, Bool.true_or, Bool.or_false, Bool.false_or, Bool.not_true, Bool.not_false]), trivial⟩
  · obtain rfl := rng_f hd126 hb128
    have hm : (some ((decide (1 ≤ (p0_s.size : Int))) && (decide ((p0_s.size : Int) ≤ 8)))) = some r := hm
    refine C_exit (E_exit_then ?_)
    refine E_exit_then ?_
    refine E_exit_hit ?_
    refine E_then ?_
    refine C_seq_join (fun H' M' L' => H117 = H' ∧ M = M' ∧ [(2, .bool ((decide (1 ≤ (p0_s.size : Int))) && (decide ((p0_s.size : Int) ≤ 8))))] = L') ?_ (fun J135 => ?_)
    · rintro _ _ _ ⟨rfl, rfl, rfl⟩
      refine C_ret ?_
      obtain rfl := Option.some.inj hm
      refine E_weak (Hp.le_trans hle104 hle118) ?_
      exact end1 rfl rfl ⟨rfl, rfl, rfl⟩
    · refine C_region ?_
      refine W_move rfl rfl rfl ?_
      refine W_lenStr rfl rfl Proofs.Tryd.runUnderlying9 rfl ?_
      refine W_bin rfl rfl rfl rfl rfl ?_
      refine W_move rfl rfl rfl ?_
      cases hb136 : (decide (1 ≤ (p0_s.size : Int)))
      · refine W_no rfl rfl rfl ?_
        refine W_no rfl rfl rfl ?_
        refine W_no rfl rfl rfl ?_
        refine W_pick rfl rfl rfl rfl ?_
        refine W_assign rfl rfl rfl ?_
        refine W_end ?_
        exact E_keepJ (J135 _ _ _ ⟨rfl, rfl, rfl⟩) (List.Perm.refl _) ⟨(by show some (Value.bool (false)) = some (Value.bool ((decide (1 ≤ (p0_s.size : Int))) && (decide ((p0_s.size : Int) ≤ 8)))); simp only [hb136, Bool.and_true, Bool.true_and, Bool.false_and, Bool.and_false, Bool.or_true, Bool.true_or, Bool.or_false, Bool.false_or, Bool.not_true, Bool.not_false]), trivial⟩
      · refine W_move rfl rfl rfl ?_
        refine W_lenStr rfl rfl Proofs.Tryd.runUnderlying9 rfl ?_
        refine W_bin rfl rfl rfl rfl rfl ?_
        refine W_pick rfl rfl rfl rfl ?_
        refine W_assign rfl rfl rfl ?_
        refine W_end ?_
        exact E_keepJ (J135 _ _ _ ⟨rfl, rfl, rfl⟩) (List.Perm.refl _) ⟨(by show some (Value.bool (decide ((p0_s.size : Int) ≤ 8))) = some (Value.bool ((decide (1 ≤ (p0_s.size : Int))) && (decide ((p0_s.size : Int) ≤ 8)))); simp only [hb136, Bool.and_true, Bool.true_and, Bool.false_and, Bool.and_false, Bool.or_true, Bool.true_or, Bool.or_false, Bool.false_or, Bool.not_true, Bool.not_false]), trivial⟩

theorem m_netmodel_Name_c {B : Nat} {w0 w : World} [Tabs B w0] {H : Hp} {M : List Res} {p0_s : ByteArray} {r : Bool} (hm : m_netmodel_Name p0_s = some r) (ht : St B w0 H (M) w) :
    Calls Proofs.Tryd.prog 47 [.string (p0_s)].toArray w (Ret B w0 fun H' M' v => H = H' ∧ M = M' ∧ .bool (r) = v) := by
  unfold m_netmodel_Name at hm
  refine enter Proofs.Tryd.func47 rfl rfl rfl ht ?_
  refine C_seq ?_
  refine C_region ?_
  refine W_assign rfl rfl rfl ?_
  refine W_end ?_
  refine E_then ?_
  refine C_seq ?_
  refine C_seq ?_
  refine C_region ?_
  refine W_move rfl rfl rfl ?_
  obtain ⟨hz101, hm⟩ := need_some hm
  refine W_convBytes rfl rfl Proofs.Tryd.runUnderlying9 Proofs.Tryd.runUnderlying45 Proofs.Tryd.runUnderlying5 rfl hz101 ?_
  intro v102 H103 hle104 h105
  refine W_lenR rfl rfl Proofs.Tryd.runUnderlying45 rfl h105 ?_
  refine W_move rfl rfl rfl ?_
  refine W_end ?_
  refine E_then ?_
  refine C_block ?_
  refine C_keep (L' := [(0, .string (p0_s)), (6, v102), (7, .int .i64 (((bytesL p0_s).length : Int))), (8, .int .i64 (((0 : Nat) : Int)))]) ⟨rfl, rfl, rfl, rfl, trivial⟩ (List.Perm.refl _) ?_
  refine C_loop (fun n H' M' L' => ∃ (k106 : Nat) (zs144' : List U8), (bytesL p0_s).drop k106 = zs144' ∧ zs144'.length = n ∧ forI (fun k y s139 n => m_netmodel_Name_b1 k y n) (fun _ => some ((decide (1 ≤ (p0_s.size : Int))) && (decide ((p0_s.size : Int) ≤ 8)))) k106 zs144' () = some r ∧ H103.le H' ∧ M = M' ∧ [(0, .string (p0_s)), (6, v102), (7, .int .i64 (((bytesL p0_s).length : Int))), (8, .int .i64 ((k106 : Int)))] = L') _ ⟨0, _, rfl, rfl, hm, (Hp.le_refl _), rfl, rfl⟩ ?_
  rintro _ H137 _ _ ⟨k106, zs144', hd146, rfl, hm, hle138, rfl, rfl⟩
  refine C_seq ?_
  refine C_region ?_
  refine W_bin rfl rfl rfl rfl rfl ?_
  refine W_end (E_then ?_)
  refine C_seq ?_
  refine C_cond (b := decide ((k106 : Int) < ((bytesL p0_s).length : Int))) rfl (fun hb148 => ?_) (fun hb148 => ?_)
  · obtain ⟨y143, zs144, rfl, hy145, hd147⟩ := rng_t hd146 hb148
    have hm : m_netmodel_Name_b1 k106 y143 (forI (fun k y s139 n => m_netmodel_Name_b1 k y n) (fun _ => some ((decide (1 ≤ (p0_s.size : Int))) && (decide ((p0_s.size : Int) ≤ 8)))) (k106 + 1) zs144) = some r := hm
    generalize hn141 : forI (fun k y s139 n => m_netmodel_Name_b1 k y n) (fun _ => some ((decide (1 ≤ (p0_s.size : Int))) && (decide ((p0_s.size : Int) ≤ 8)))) (k106 + 1) zs144 = nx140 at hm
    unfold m_netmodel_Name_b1 at hm
    refine C_skip (E_then ?_)
    refine C_seq ?_
    refine C_block ?_
    refine C_seq ?_
    refine C_region ?_
    refine W_move rfl rfl rfl ?_
    obtain ⟨_, rfl, hc149⟩ := (h105).elem hy145
    refine W_indexS rfl rfl Proofs.Tryd.runUnderlying45 Proofs.Tryd.sizeOf5 rfl (h105.mono hle138) rfl (Int.natCast_nonneg _) hy145 ?_
    refine W_load rfl rfl Proofs.Tryd.isAgg5 rfl (HCells.one (hc149.mono hle138) 0 rfl).at ?_
    refine W_assign rfl rfl rfl ?_
    refine W_assign rfl rfl rfl ?_
    refine W_end ?_
    refine E_then ?_
    refine C_seq_join (fun H' M' L' => H137 = H' ∧ M = M' ∧ [(0, .string (p0_s)), (6, v102), (7, .int .i64 (((bytesL p0_s).length : Int))), (8, .int .i64 ((k106 : Int))), (31, .bool (!(((decide (65 ≤ y143.n)) && (decide (y143.n ≤ 90))) || (((decide (0 < (k106 : Int))) && (decide (48 ≤ y143.n))) && (decide (y143.n ≤ 57))))))] = L') ?_ (fun J156 => ?_)
    · rintro _ _ _ ⟨rfl, rfl, rfl⟩
      refine C_cond (b := !(((decide (65 ≤ y143.n)) && (decide (y143.n ≤ 90))) || (((decide (0 < (k106 : Int))) && (decide (48 ≤ y143.n))) && (decide (y143.n ≤ 57))))) rfl (fun hb157 => ?_) (fun hb157 => ?_)
      · have hm := ite_t' hb157 hm
        refine C_seq ?_
        refine C_region ?_
        refine W_assign rfl rfl rfl ?_
        refine W_end ?_
        refine E_then ?_
        refine C_ret ?_
        refine E_ret_block ?_
        refine E_ret_then ?_
        refine E_ret_then ?_
        refine E_ret_block ?_
        refine E_ret_then ?_
        obtain rfl := Option.some.inj hm
        refine E_weak (Hp.le_trans hle104 hle138) ?_
        exact end1 rfl rfl ⟨rfl, rfl, rfl⟩
      · have hm := ite_f' hb157 hm
        refine C_skip ?_
        refine E_normal_block ?_
        refine E_then ?_
        refine C_region ?_
        refine W_bin rfl rfl rfl rfl rfl ?_
        refine W_move rfl rfl rfl ?_
        refine W_end ?_
        exact E_keepJ (E_back (Nat.lt_succ_self _) ⟨k106 + 1, zs144, hd147, rfl, (by rw [hn141]; exact hm), hle138, rfl, rfl⟩) (List.Perm.refl _) ⟨rfl, rfl, rfl, (congrArg (fun z => some (Value.int .i64 z)) (i64_succ hy145 ((h105.mono hle138)).lenMax)), trivial⟩
    · refine C_region ?_
      refine W_move rfl rfl rfl ?_
      refine W_bin rfl rfl rfl rfl rfl ?_
      refine W_move rfl rfl rfl ?_
      cases hb158 : (decide (65 ≤ y143.n))
      · refine W_no rfl rfl rfl ?_
        refine W_no rfl rfl rfl ?_
        refine W_pick rfl rfl rfl rfl ?_
        refine W_move rfl rfl rfl ?_
        refine W_move rfl rfl rfl ?_
        refine W_bin rfl rfl rfl rfl rfl ?_
        refine W_move rfl rfl rfl ?_
        cases hb159 : (decide (0 < (k106 : Int)))
        · refine W_no rfl rfl rfl ?_
          refine W_no rfl rfl rfl ?_
          refine W_pick rfl rfl rfl rfl ?_
          refine W_move rfl rfl rfl ?_
          refine W_no rfl rfl rfl ?_
          refine W_no rfl rfl rfl ?_
          refine W_pick rfl rfl rfl rfl ?_
          refine W_pick rfl rfl rfl rfl ?_
          refine W_un rfl rfl rfl rfl ?_
          refine W_end ?_
          exact E_keepJ (J156 _ _ _ ⟨rfl, rfl, rfl⟩) (List.Perm.refl _) ⟨rfl, rfl, rfl, rfl, (by show some (Value.bool (true)) = some (Value.bool (!(((decide (65 ≤ y143.n)) && (decide (y143.n ≤ 90))) || (((decide (0 < (k106 : Int))) && (decide (48 ≤ y143.n))) && (decide (y143.n ≤ 57)))))); simp only [hb158, hb159, Bool.and_true, Bool.true_and, Bool.false_and, Bool.and_false, Bool.or_true, Bool.true_or, Bool.or_false, Bool.false_or, Bool.not_true, Bool.not_false]), trivial⟩
        · refine W_move rfl rfl rfl ?_
          refine W_bin rfl rfl rfl rfl rfl ?_
          refine W_pick rfl rfl rfl rfl ?_
          refine W_move rfl rfl rfl ?_
          cases hb160 : (decide (48 ≤ y143.n))
          · refine W_no rfl rfl rfl ?_
            refine W_no rfl rfl rfl ?_
            refine W_pick rfl rfl rfl rfl ?_
            refine W_pick rfl rfl rfl rfl ?_
            refine W_un rfl rfl rfl rfl ?_
            refine W_end ?_
            exact E_keepJ (J156 _ _ _ ⟨rfl, rfl, rfl⟩) (List.Perm.refl _) ⟨rfl, rfl, rfl, rfl, (by show some (Value.bool (true)) = some (Value.bool (!(((decide (65 ≤ y143.n)) && (decide (y143.n ≤ 90))) || (((decide (0 < (k106 : Int))) && (decide (48 ≤ y143.n))) && (decide (y143.n ≤ 57)))))); simp only [hb158, hb159, hb160, Bool.and_true, Bool.true_and, Bool.false_and, Bool.and_false, Bool.or_true, Bool.true_or, Bool.or_false, Bool.false_or, Bool.not_true, Bool.not_false]), trivial⟩
          · refine W_move rfl rfl rfl ?_
            refine W_bin rfl rfl rfl rfl rfl ?_
            refine W_pick rfl rfl rfl rfl ?_
            refine W_pick rfl rfl rfl rfl ?_
            refine W_un rfl rfl rfl rfl ?_
            refine W_end ?_
            exact E_keepJ (J156 _ _ _ ⟨rfl, rfl, rfl⟩) (List.Perm.refl _) ⟨rfl, rfl, rfl, rfl, (by show some (Value.bool (!(decide (y143.n ≤ 57)))) = some (Value.bool (!(((decide (65 ≤ y143.n)) && (decide (y143.n ≤ 90))) || (((decide (0 < (k106 : Int))) && (decide (48 ≤ y143.n))) && (decide (y143.n ≤ 57)))))); simp only [hb158, hb159, hb160, Bool.and_true, Bool.true_and, Bool.false_and, Bool.and_false, Bool.or_true, Bool.true_or, Bool.or_false, Bool.false_or, Bool.not_true, Bool.not_false]), trivial⟩
      · refine W_move rfl rfl rfl ?_
        refine W_bin rfl rfl rfl rfl rfl ?_
        refine W_pick rfl rfl rfl rfl ?_
        refine W_move rfl rfl rfl ?_
        cases hb161 : (decide (y143.n ≤ 90))
        · refine W_move rfl rfl rfl ?_
          refine W_bin rfl rfl rfl rfl rfl ?_
          refine W_move rfl rfl rfl ?_
          cases hb162 : (decide (0 < (k106 : Int)))
          · refine W_no rfl rfl rfl ?_
            refine W_no rfl rfl rfl ?_
            refine W_pick rfl rfl rfl rfl ?_
            refine W_move rfl rfl rfl ?_
            refine W_no rfl rfl rfl ?_
            refine W_no rfl rfl rfl ?_
            refine W_pick rfl rfl rfl rfl ?_
            refine W_pick rfl rfl rfl rfl ?_
            refine W_un rfl rfl rfl rfl ?_
            refine W_end ?_
            exact E_keepJ (J156 _ _ _ ⟨rfl, rfl, rfl⟩) (List.Perm.refl _) ⟨rfl, rfl, rfl, rfl, (by show some (Value.bool (true)) = some (Value.bool (!(((decide (65 ≤ y143.n)) && (decide (y143.n ≤ 90))) || (((decide (0 < (k106 : Int))) && (decide (48 ≤ y143.n))) && (decide (y143.n ≤ 57)))))); simp only [hb158, hb161, hb162, Bool.and_true, Bool.true_and, Bool.false_and, Bool.and_false, Bool.or_true, Bool.true_or, Bool.or_false, Bool.false_or, Bool.not_true, Bool.not_false]), trivial⟩
          · refine W_move rfl rfl rfl ?_
            refine W_bin rfl rfl rfl rfl rfl ?_
            refine W_pick rfl rfl rfl rfl ?_
            refine W_move rfl rfl rfl ?_
            cases hb163 : (decide (48 ≤ y143.n))
            · refine W_no rfl rfl rfl ?_
              refine W_no rfl rfl rfl ?_
              refine W_pick rfl rfl rfl rfl ?_
              refine W_pick rfl rfl rfl rfl ?_
              refine W_un rfl rfl rfl rfl ?_
              refine W_end ?_
              exact E_keepJ (J156 _ _ _ ⟨rfl, rfl, rfl⟩) (List.Perm.refl _) ⟨rfl, rfl, rfl, rfl, (by show some (Value.bool (true)) = some (Value.bool (!(((decide (65 ≤ y143.n)) && (decide (y143.n ≤ 90))) || (((decide (0 < (k106 : Int))) && (decide (48 ≤ y143.n))) && (decide (y143.n ≤ 57)))))); simp only [hb158, hb161, hb162, hb163, Bool.and_true, Bool.true_and, Bool.false_and, Bool.and_false, Bool.or_true, Bool.true_or, Bool.or_false, Bool.false_or, Bool.not_true, Bool.not_false]), trivial⟩
            · refine W_move rfl rfl rfl ?_
              refine W_bin rfl rfl rfl rfl rfl ?_
              refine W_pick rfl rfl rfl rfl ?_
              refine W_pick rfl rfl rfl rfl ?_
              refine W_un rfl rfl rfl rfl ?_
              refine W_end ?_
              exact E_keepJ (J156 _ _ _ ⟨rfl, rfl, rfl⟩) (List.Perm.refl _) ⟨rfl, rfl, rfl, rfl, (by show some (Value.bool (!(decide (y143.n ≤ 57)))) = some (Value.bool (!(((decide (65 ≤ y143.n)) && (decide (y143.n ≤ 90))) || (((decide (0 < (k106 : Int))) && (decide (48 ≤ y143.n))) && (decide (y143.n ≤ 57)))))); simp only [hb158, hb161, hb162, hb163, Bool.and_true, Bool.true_and, Bool.false_and, Bool.and_false, Bool.or_true, Bool.true_or, Bool.or_false, Bool.false_or, Bool.not_true, Bool.not_false]), trivial⟩
        · refine W_no rfl rfl rfl ?_
          refine W_no rfl rfl rfl ?_
          refine W_no rfl rfl rfl ?_
          refine W_no rfl rfl rfl ?_
          refine W_no rfl rfl rfl ?_
          refine W_no rfl rfl rfl ?_
          refine W_no rfl rfl rfl ?_
          refine W_no rfl rfl rfl ?_
          refine W_no rfl rfl rfl ?_
          refine W_no rfl rfl rfl ?_
          refine W_pick rfl rfl rfl rfl ?_
          refine W_un rfl rfl rfl rfl ?_
          refine W_end ?_
          exact E_keepJ (J156 _ _ _ ⟨rfl, rfl, rfl⟩) (List.Perm.refl _) ⟨rfl, rfl, rfl, rfl, (by show some (Value.bool (false)) = some (Value.bool (!(((decide (65 ≤ y143.n)) && (decide (y143.n ≤ 90))) || (((decide (0 < (k106 : Int))) && (decide (48 ≤ y143.n))) && (decide (y143.n ≤ 57)))))); simp only [hb158, hb161, Bool.and_true, Bool.true_and, Bool.false_and, Bool.and_false, Bool.or_true, Bool.true_or, Bool.or_false, Bool.false_or, Bool.not_true, Bool.not_false]), trivial⟩
  · obtain rfl := rng_f hd146 hb148
    have hm : (some ((decide (1 ≤ (p0_s.size : Int))) && (decide ((p0_s.size : Int) ≤ 8)))) = some r := hm
    refine C_exit (E_exit_then ?_)
    refine E_exit_then ?_
    refine E_exit_hit ?_
    refine E_then ?_
    refine C_seq_join (fun H' M' L' => H137 = H' ∧ M = M' ∧ [(2, .bool ((decide (1 ≤ (p0_s.size : Int))) && (decide ((p0_s.size : Int) ≤ 8))))] = L') ?_ (fun J165 => ?_)
    · rintro _ _ _ ⟨rfl, rfl, rfl⟩
      refine C_ret ?_
      obtain rfl := Option.some.inj hm
      refine E_weak (Hp.le_trans hle104 hle138) ?_
      exact end1 rfl rfl ⟨rfl, rfl, rfl⟩
    · refine C_region ?_
      refine W_move rfl rfl rfl ?_
      refine W_lenStr rfl rfl Proofs.Tryd.runUnderlying9 rfl ?_
      refine W_bin rfl rfl rfl rfl rfl ?_
      refine W_move rfl rfl rfl ?_
      cases hb166 : (decide (1 ≤ (p0_s.size : Int)))
      · refine W_no rfl rfl rfl ?_
        refine W_no rfl rfl rfl ?_
        refine W_no rfl rfl rfl ?_
        refine W_pick rfl rfl rfl rfl ?_
        refine W_assign rfl rfl rfl ?_
        refine W_end ?_
        exact E_keepJ (J165 _ _ _ ⟨rfl, rfl, rfl⟩) (List.Perm.refl _) ⟨(by show some (Value.bool (false)) = some (Value.bool ((decide (1 ≤ (p0_s.size : Int))) && (decide ((p0_s.size : Int) ≤ 8)))); simp only [hb166, Bool.and_true, Bool.true_and, Bool.false_and, Bool.and_false, Bool.or_true, Bool.true_or, Bool.or_false, Bool.false_or, Bool.not_true, Bool.not_false]), trivial⟩
      · refine W_move rfl rfl rfl ?_
        refine W_lenStr rfl rfl Proofs.Tryd.runUnderlying9 rfl ?_
        refine W_bin rfl rfl rfl rfl rfl ?_
        refine W_pick rfl rfl rfl rfl ?_
        refine W_assign rfl rfl rfl ?_
        refine W_end ?_
        exact E_keepJ (J165 _ _ _ ⟨rfl, rfl, rfl⟩) (List.Perm.refl _) ⟨(by show some (Value.bool (decide ((p0_s.size : Int) ≤ 8))) = some (Value.bool ((decide (1 ≤ (p0_s.size : Int))) && (decide ((p0_s.size : Int) ≤ 8)))); simp only [hb166, Bool.and_true, Bool.true_and, Bool.false_and, Bool.and_false, Bool.or_true, Bool.true_or, Bool.or_false, Bool.false_or, Bool.not_true, Bool.not_false]), trivial⟩

theorem m_archive_Check_c {B : Nat} {w0 w : World} [Tabs B w0] {H : Hp} {M : List Res} {p0_e : S_api_Event} {r : Int} (hm : m_archive_Check p0_e = some r) (ht : St B w0 H (M) w) :
    Calls Proofs.Tryd.prog 33 [.agg [.int .i64 (p0_e.Time), .string (p0_e.Kind), .string (p0_e.Name), .int .i64 (p0_e.Value)].toArray].toArray w (Ret B w0 fun H' M' v => H = H' ∧ M = M' ∧ .int .i64 (r) = v) := by
  unfold m_archive_Check at hm
  refine enter Proofs.Tryd.func33 rfl rfl rfl ht ?_
  refine C_seq ?_
  refine C_region ?_
  refine W_box (cs := [.int .i64 (p0_e.Time), .string (p0_e.Kind), .string (p0_e.Name), .int .i64 (p0_e.Value)]) rfl rfl rfl rfl (fun b101 => ?_)
  refine W_assign rfl rfl rfl ?_
  refine W_end ?_
  refine E_then ?_
  refine C_seq ?_
  refine C_block ?_
  refine C_seq_join (fun H' M' L' => H = H' ∧ .obj b101 (.cells [.int .i64 (p0_e.Time), .string (p0_e.Kind), .string (p0_e.Name), .int .i64 (p0_e.Value)].toArray 30 (0, 0)) :: M = M' ∧ [(1, .pointer (some ⟨b101, 0, none⟩)), (3, .bool ((decide (p0_e.Time < 0)) || (decide (200000 < p0_e.Time))))] = L') ?_ (fun J103 => ?_)
  · rintro _ _ _ ⟨rfl, rfl, rfl⟩
    refine C_cond (b := (decide (p0_e.Time < 0)) || (decide (200000 < p0_e.Time))) rfl (fun hb104 => ?_) (fun hb104 => ?_)
    · have hm := ite_t' hb104 hm
      refine C_seq ?_
      refine C_region ?_
      refine W_assign rfl rfl rfl ?_
      refine W_end ?_
      refine E_then ?_
      refine C_ret ?_
      refine E_ret_block ?_
      refine E_ret_then ?_
      obtain rfl := Option.some.inj hm
      refine E_drop (List.Sublist.cons _ (List.Sublist.refl _)) ?_
      refine E_weak (Hp.le_refl _) ?_
      exact end1 rfl rfl ⟨rfl, rfl, rfl⟩
    · have hm := ite_f' hb104 hm
      refine C_seq ?_
      refine C_region ?_
      refine W_field (o := 1) rfl rfl Proofs.Tryd.runUnderlying30 rfl Proofs.Tryd.sizeOf9 rfl rfl rfl ?_
      refine W_load rfl rfl Proofs.Tryd.isAgg9 rfl (own_at (List.mem_cons_self ..) rfl) ?_
      obtain ⟨r105, hc106, hm⟩ := bind_some hm
      refine W_call Proofs.Tryd.call46 rfl rfl rfl (fun w ht => by have h := m_archive_kind_c (hm := hc106)  ht; exact h) ?_
      rintro _ _ _ ⟨rfl, rfl, rfl⟩
      refine W_un rfl rfl rfl rfl ?_
      refine W_move rfl rfl rfl ?_
      cases hb107 : (r105)
      · have hm := ite_f' hb107 hm
        refine W_no rfl rfl rfl ?_
        refine W_no rfl rfl rfl ?_
        refine W_no rfl rfl rfl ?_
        refine W_no rfl rfl rfl ?_
        refine W_pick rfl rfl rfl rfl ?_
        refine W_assign rfl rfl rfl ?_
        refine W_end ?_
        refine E_then ?_
        refine C_cond (b := true) rfl (fun _ => ?_) (fun hb => Bool.noConfusion hb)
        refine C_seq ?_
        refine C_region ?_
        refine W_assign rfl rfl rfl ?_
        refine W_end ?_
        refine E_then ?_
        refine C_ret ?_
        refine E_ret_block ?_
        refine E_ret_then ?_
        obtain rfl := Option.some.inj hm
        refine E_drop (List.Sublist.cons _ (List.Sublist.refl _)) ?_
        refine E_weak (Hp.le_refl _) ?_
        exact end1 rfl rfl ⟨rfl, rfl, rfl⟩
      · have hm := ite_t' hb107 hm
        refine W_field (o := 2) rfl rfl Proofs.Tryd.runUnderlying30 rfl Proofs.Tryd.sizeOf9 rfl rfl rfl ?_
        refine W_load rfl rfl Proofs.Tryd.isAgg9 rfl (own_at (List.mem_cons_self ..) rfl) ?_
        obtain ⟨r108, hc109, hm⟩ := bind_some hm
        refine W_call Proofs.Tryd.call47 rfl rfl rfl (fun w ht => by have h := m_netmodel_Name_c (hm := hc109)  ht; exact h) ?_
        rintro _ _ _ ⟨rfl, rfl, rfl⟩
        refine W_un rfl rfl rfl rfl ?_
        refine W_pick rfl rfl rfl rfl ?_
        refine W_assign rfl rfl rfl ?_
        refine W_end ?_
        refine E_then ?_
        refine C_cond (b := !r108) rfl (fun hb110 => ?_) (fun hb110 => ?_)
        · have hm := ite_t' hb110 hm
          refine C_seq ?_
          refine C_region ?_
          refine W_assign rfl rfl rfl ?_
          refine W_end ?_
          refine E_then ?_
          refine C_ret ?_
          refine E_ret_block ?_
          refine E_ret_then ?_
          obtain rfl := Option.some.inj hm
          refine E_drop (List.Sublist.cons _ (List.Sublist.refl _)) ?_
          refine E_weak (Hp.le_refl _) ?_
          exact end1 rfl rfl ⟨rfl, rfl, rfl⟩
        · have hm := ite_f' hb110 hm
          refine C_seq_join (fun H' M' L' => H = H' ∧ M = M' ∧ [(23, .bool ((decide (p0_e.Value < (-1000000))) || (decide (1000000 < p0_e.Value))))] = L') ?_ (fun J112 => ?_)
          · rintro _ _ _ ⟨rfl, rfl, rfl⟩
            refine C_cond (b := (decide (p0_e.Value < (-1000000))) || (decide (1000000 < p0_e.Value))) rfl (fun hb113 => ?_) (fun hb113 => ?_)
            · have hm := ite_t' hb113 hm
              refine C_seq ?_
              refine C_region ?_
              refine W_assign rfl rfl rfl ?_
              refine W_end ?_
              refine E_then ?_
              refine C_ret ?_
              refine E_ret_block ?_
              refine E_ret_then ?_
              obtain rfl := Option.some.inj hm
              refine E_weak (Hp.le_refl _) ?_
              exact end1 rfl rfl ⟨rfl, rfl, rfl⟩
            · have hm := ite_f' hb113 hm
              refine C_skip ?_
              refine E_normal_block ?_
              refine E_then ?_
              refine C_seq ?_
              refine C_region ?_
              refine W_assign rfl rfl rfl ?_
              refine W_end ?_
              refine E_then ?_
              refine C_ret ?_
              obtain rfl := Option.some.inj hm
              refine E_weak (Hp.le_refl _) ?_
              exact end1 rfl rfl ⟨rfl, rfl, rfl⟩
          · refine C_region ?_
            refine W_field (o := 3) rfl rfl Proofs.Tryd.runUnderlying30 rfl Proofs.Tryd.sizeOf3 rfl rfl rfl ?_
            refine W_load rfl rfl Proofs.Tryd.isAgg3 rfl (own_at (List.mem_cons_self ..) rfl) ?_
            refine W_bin rfl rfl rfl rfl rfl ?_
            refine W_move rfl rfl rfl ?_
            cases hb114 : (decide (p0_e.Value < (-1000000)))
            · refine W_field (o := 3) rfl rfl Proofs.Tryd.runUnderlying30 rfl Proofs.Tryd.sizeOf3 rfl rfl rfl ?_
              refine W_load rfl rfl Proofs.Tryd.isAgg3 rfl (own_at (List.mem_cons_self ..) rfl) ?_
              refine W_bin rfl rfl rfl rfl rfl ?_
              refine W_pick rfl rfl rfl rfl ?_
              refine W_assign rfl rfl rfl ?_
              refine W_end ?_
              refine E_drop (List.Sublist.cons _ (List.Sublist.refl _)) ?_
              exact E_keepJ (J112 _ _ _ ⟨rfl, rfl, rfl⟩) (List.Perm.refl _) ⟨(by show some (Value.bool (decide (1000000 < p0_e.Value))) = some (Value.bool ((decide (p0_e.Value < (-1000000))) || (decide (1000000 < p0_e.Value)))); simp only [hb104, hb107, hb110, hb114, Bool.and_true, Bool.true_and, Bool.false_and, Bool.and_false, Bool.or_true, Bool.true_or, Bool.or_false, Bool.false_or, Bool.not_true, Bool.not_false]), trivial⟩
            · refine W_no rfl rfl rfl ?_
              refine W_no rfl rfl rfl ?_
              refine W_no rfl rfl rfl ?_
              refine W_pick rfl rfl rfl rfl ?_
              refine W_assign rfl rfl rfl ?_
              refine W_end ?_
              refine E_drop (List.Sublist.cons _ (List.Sublist.refl _)) ?_
              exact E_keepJ (J112 _ _ _ ⟨rfl, rfl, rfl⟩) (List.Perm.refl _) ⟨(by show some (Value.bool (true)) = some (Value.bool ((decide (p0_e.Value < (-1000000))) || (decide (1000000 < p0_e.Value)))); simp only [hb104, hb107, hb110, hb114, Bool.and_true, Bool.true_and, Bool.false_and, Bool.and_false, Bool.or_true, Bool.true_or, Bool.or_false, Bool.false_or, Bool.not_true, Bool.not_false]), trivial⟩
  · refine C_region ?_
    refine W_field (o := 0) rfl rfl Proofs.Tryd.runUnderlying30 rfl Proofs.Tryd.sizeOf3 rfl rfl rfl ?_
    refine W_load rfl rfl Proofs.Tryd.isAgg3 rfl (own_at (List.mem_cons_self ..) rfl) ?_
    refine W_bin rfl rfl rfl rfl rfl ?_
    refine W_move rfl rfl rfl ?_
    cases hb115 : (decide (p0_e.Time < 0))
    · refine W_field (o := 0) rfl rfl Proofs.Tryd.runUnderlying30 rfl Proofs.Tryd.sizeOf3 rfl rfl rfl ?_
      refine W_load rfl rfl Proofs.Tryd.isAgg3 rfl (own_at (List.mem_cons_self ..) rfl) ?_
      refine W_bin rfl rfl rfl rfl rfl ?_
      refine W_pick rfl rfl rfl rfl ?_
      refine W_assign rfl rfl rfl ?_
      refine W_end ?_
      exact E_keepJ (J103 _ _ _ ⟨rfl, rfl, rfl⟩) (List.Perm.refl _) ⟨rfl, (by show some (Value.bool (decide (200000 < p0_e.Time))) = some (Value.bool ((decide (p0_e.Time < 0)) || (decide (200000 < p0_e.Time)))); simp only [hb115, Bool.and_true, Bool.true_and, Bool.false_and, Bool.and_false, Bool.or_true, Bool.true_or, Bool.or_false, Bool.false_or, Bool.not_true, Bool.not_false]), trivial⟩
    · refine W_no rfl rfl rfl ?_
      refine W_no rfl rfl rfl ?_
      refine W_no rfl rfl rfl ?_
      refine W_pick rfl rfl rfl rfl ?_
      refine W_assign rfl rfl rfl ?_
      refine W_end ?_
      exact E_keepJ (J103 _ _ _ ⟨rfl, rfl, rfl⟩) (List.Perm.refl _) ⟨rfl, (by show some (Value.bool (true)) = some (Value.bool ((decide (p0_e.Time < 0)) || (decide (200000 < p0_e.Time)))); simp only [hb115, Bool.and_true, Bool.true_and, Bool.false_and, Bool.and_false, Bool.or_true, Bool.true_or, Bool.or_false, Bool.false_or, Bool.not_true, Bool.not_false]), trivial⟩

theorem m_archive_Archive_Append_c {B : Nat} {w0 w : World} [Tabs B w0] {H : Hp} {M : List Res} {p0_a : S_archive_Archive} {p1_e : S_api_Event} {b0 : Nat} {v0 : Value} {xs0 : List Value} {r : Int × Int × S_archive_Archive} (hm : m_archive_Archive_Append p0_a p1_e = some r) (h0 : Rw H v0 xs0 p0_a.all_) (ht : St B w0 H (.obj b0 (.cells [v0].toArray 51 (0, 0)) :: .row v0 30 (Rep.sz S_api_Event) p0_a.all_.length xs0 :: M) w) :
    Calls Proofs.Tryd.prog 18 [.pointer (some ⟨b0, 0, none⟩), .agg [.int .i64 (p1_e.Time), .string (p1_e.Kind), .string (p1_e.Name), .int .i64 (p1_e.Value)].toArray].toArray w (Ret B w0 fun H' M' v => H = H' ∧ ∃ qv0 : Value, ∃ qxs0 : List Value, .obj b0 (.cells [qv0].toArray 51 (0, 0)) :: .row qv0 30 (Rep.sz S_api_Event) r.2.2.all_.length qxs0 :: M = M' ∧ .tuple #[.int .i64 (r.1), .int .i64 (r.2.1)] = v ∧ RwF qv0 qxs0 r.2.2.all_) := by
  unfold m_archive_Archive_Append at hm
  refine enter Proofs.Tryd.func18 rfl rfl rfl ht ?_
  refine C_seq ?_
  refine C_region ?_
  refine W_box (cs := [.int .i64 (p1_e.Time), .string (p1_e.Kind), .string (p1_e.Name), .int .i64 (p1_e.Value)]) rfl rfl rfl rfl (fun b101 => ?_)
  refine W_assign rfl rfl rfl ?_
  refine W_assign rfl rfl rfl ?_
  refine W_end ?_
  refine E_then ?_
  refine C_seq ?_
  refine C_seq ?_
  refine C_region ?_
  refine W_loadAgg rfl rfl Proofs.Tryd.isAgg30 Proofs.Tryd.sizeOf30 rfl (own_all (List.mem_cons_self ..)) rfl ?_
  obtain ⟨r102, hc103, hm⟩ := bind_some hm
  refine W_call Proofs.Tryd.call33 rfl rfl rfl (fun w ht => by have h := m_archive_Check_c (hm := hc103)  ht; exact h) ?_
  rintro _ _ _ ⟨rfl, rfl, rfl⟩
  refine W_assign rfl rfl rfl ?_
  refine W_end ?_
  refine E_then ?_
  refine C_seq ?_
  refine C_region ?_
  refine W_move rfl rfl rfl ?_
  refine W_bin rfl rfl rfl rfl rfl ?_
  refine W_end ?_
  refine E_then ?_
  refine C_cond (b := !decide (r102 = 0)) rfl (fun hb104 => ?_) (fun hb104 => ?_)
  · have hm := ite_t' hb104 hm
    refine C_seq ?_
    refine C_region ?_
    refine W_move rfl rfl rfl ?_
    refine W_assign rfl rfl rfl ?_
    refine W_assign rfl rfl rfl ?_
    refine W_end ?_
    refine E_then ?_
    refine C_ret ?_
    refine E_ret_then ?_
    obtain rfl := Option.some.inj hm
    refine E_drop (List.Sublist.cons _ (List.Sublist.refl _)) ?_
    refine E_weak (Hp.le_refl _) ?_
    exact end2 rfl rfl rfl ⟨rfl, v0, xs0, rfl, rfl, (h0).toF⟩
  · have hm := ite_f' hb104 hm
    refine C_skip ?_
    refine E_then ?_
    refine C_seq ?_
    refine C_region ?_
    refine W_move rfl rfl rfl ?_
    refine W_nilCheck rfl rfl rfl ?_
    refine W_field (o := 0) rfl rfl Proofs.Tryd.runUnderlying51 rfl Proofs.Tryd.sizeOf22 rfl rfl rfl ?_
    refine W_load rfl rfl Proofs.Tryd.isAgg22 rfl (own_at (List.mem_cons_of_mem _ (List.mem_cons_self ..)) rfl) ?_
    refine W_lenO (List.mem_cons_of_mem _ (List.mem_cons_of_mem _ (List.mem_cons_self ..))) rfl rfl Proofs.Tryd.runUnderlying22 rfl ?_
    refine W_assign rfl rfl rfl ?_
    refine W_end ?_
    refine E_then ?_
    refine C_seq ?_
    refine C_block ?_
    refine C_seq ?_
    cases hb105 : (decide (0 < (p0_a.all_.length : Int)))
    · have hm := ite_f' hb105 hm
      refine C_region_tok0 14 (phiT [(fun H rs v => [] = rs ∧ .int .i64 ((p0_a.all_.length : Int)) = v), (fun H rs v => [] = rs ∧ .bool (false) = v), (fun H rs v => [] = rs ∧ .bool (false) = v), (fun H rs v => [] = rs ∧ undef = v), (fun H rs v => [] = rs ∧ undef = v), (fun H rs v => [] = rs ∧ undef = v), (fun H rs v => [] = rs ∧ undef = v), (fun H rs v => [] = rs ∧ undef = v), (fun H rs v => [] = rs ∧ undef = v), (fun H rs v => [] = rs ∧ undef = v), (fun H rs v => [] = rs ∧ undef = v), (fun H rs v => [] = rs ∧ undef = v), (fun H rs v => [] = rs ∧ undef = v), (fun H rs v => [] = rs ∧ undef = v)]) [[], [], [], [], [], [], [], [], [], [], [], [], [], []] [[], [], [], [], [], [], [], [], [], [], [], [], [], []] [] [0, 1, 2, 3, 4, 5, 6, 7, 8, 9, 10, 11, 12, 13] Facts.mixed (by kernel_rfl) rfl rfl rfl (by kernel_rfl) (phiT_mono ⟨eq_monoT _ _, eq_monoT _ _, eq_monoT _ _, eq_monoT _ _, eq_monoT _ _, eq_monoT _ _, eq_monoT _ _, eq_monoT _ _, eq_monoT _ _, eq_monoT _ _, eq_monoT _ _, eq_monoT _ _, eq_monoT _ _, eq_monoT _ _, trivial⟩) ⟨?_, ?_, ?_, ?_, ?_, ?_, ?_, ?_, ?_, ?_, ?_, ?_, ?_, ?_, trivial⟩ ?_
      · intro HX hX X Rest hR
        intro hU hUp
        refine W_move rfl rfl rfl ?_
        exact W_end (OneT_end [] (Hp.le_refl _) ⟨rfl, rfl⟩)
      · intro HX hX X Rest hR
        rintro _ _ ⟨rfl, rfl⟩
        intro hU hUp
        refine W_bin rfl rfl rfl rfl rfl ?_
        exact W_end (OneT_end [] (Hp.le_refl _) ⟨rfl, (by first | rfl | (rw [hb105]; try rfl))⟩)
      · intro HX hX X Rest hR
        rintro _ _ ⟨rfl, rfl⟩
        intro hU hUp
        refine W_move rfl rfl rfl ?_
        exact W_end (OneT_end [] (Hp.le_refl _) ⟨rfl, rfl⟩)
      · intro HX hX X Rest hR
        rintro _ _ ⟨rfl, rfl⟩
        intro hU hUp
        refine W_no rfl rfl rfl ?_
        exact W_end (OneT_end [] (Hp.le_refl _) ⟨rfl, rfl⟩)
      · intro HX hX X Rest hR
        rintro _ _ ⟨rfl, rfl⟩
        rintro _ _ ⟨rfl, rfl⟩
        intro hU hUp
        refine W_no rfl rfl rfl ?_
        exact W_end (OneT_end [] (Hp.le_refl _) ⟨rfl, rfl⟩)
      · intro HX hX X Rest hR
        rintro _ _ ⟨rfl, rfl⟩
        intro hU hUp
        refine W_no rfl rfl rfl ?_
        exact W_end (OneT_end [] (Hp.le_refl _) ⟨rfl, rfl⟩)
      · intro HX hX X Rest hR
        rintro _ _ ⟨rfl, rfl⟩
        rintro _ _ ⟨rfl, rfl⟩
        intro hU hUp
        refine W_no rfl rfl rfl ?_
        exact W_end (OneT_end [] (Hp.le_refl _) ⟨rfl, rfl⟩)
      · intro HX hX X Rest hR
        rintro _ _ ⟨rfl, rfl⟩
        rintro _ _ ⟨rfl, rfl⟩
        intro hU hUp
        refine W_no rfl rfl rfl ?_
        exact W_end (OneT_end [] (Hp.le_refl _) ⟨rfl, rfl⟩)
      · intro HX hX X Rest hR
        rintro _ _ ⟨rfl, rfl⟩
        rintro _ _ ⟨rfl, rfl⟩
        intro hU hUp
        refine W_no rfl rfl rfl ?_
        exact W_end (OneT_end [] (Hp.le_refl _) ⟨rfl, rfl⟩)
      · intro HX hX X Rest hR
        rintro _ _ ⟨rfl, rfl⟩
        intro hU hUp
        refine W_no rfl rfl rfl ?_
        exact W_end (OneT_end [] (Hp.le_refl _) ⟨rfl, rfl⟩)
      · intro HX hX X Rest hR
        rintro _ _ ⟨rfl, rfl⟩
        rintro _ _ ⟨rfl, rfl⟩
        intro hU hUp
        refine W_no rfl rfl rfl ?_
        exact W_end (OneT_end [] (Hp.le_refl _) ⟨rfl, rfl⟩)
      · intro HX hX X Rest hR
        rintro _ _ ⟨rfl, rfl⟩
        rintro _ _ ⟨rfl, rfl⟩
        rintro _ _ ⟨rfl, rfl⟩
        intro hU hUp
        refine W_no rfl rfl rfl ?_
        exact W_end (OneT_end [] (Hp.le_refl _) ⟨rfl, rfl⟩)
      · intro HX hX X Rest hR
        rintro _ _ ⟨rfl, rfl⟩
        rintro _ _ ⟨rfl, rfl⟩
        intro hU hUp
        refine W_no rfl rfl rfl ?_
        exact W_end (OneT_end [] (Hp.le_refl _) ⟨rfl, rfl⟩)
      · intro HX hX X Rest hR
        rintro _ _ ⟨rfl, rfl⟩
        rintro _ _ ⟨rfl, rfl⟩
        intro hU hUp
        refine W_no rfl rfl rfl ?_
        exact W_end (OneT_end [] (Hp.le_refl _) ⟨rfl, rfl⟩)
      intro H106 hle107
      rintro _ _ ⟨rfl, rfl⟩
      rintro _ _ ⟨rfl, rfl⟩
      rintro _ _ ⟨rfl, rfl⟩
      rintro _ _ ⟨rfl, rfl⟩
      rintro _ _ ⟨rfl, rfl⟩
      rintro _ _ ⟨rfl, rfl⟩
      rintro _ _ ⟨rfl, rfl⟩
      rintro _ _ ⟨rfl, rfl⟩
      rintro _ _ ⟨rfl, rfl⟩
      rintro _ _ ⟨rfl, rfl⟩
      rintro _ _ ⟨rfl, rfl⟩
      rintro _ _ ⟨rfl, rfl⟩
      rintro _ _ ⟨rfl, rfl⟩
      rintro _ _ ⟨rfl, rfl⟩
      refine W_no rfl rfl rfl ?_
      refine W_pick rfl rfl rfl rfl ?_
      refine W_assign rfl rfl rfl ?_
      refine W_end ?_
      refine E_then ?_
      refine C_cond (b := false) rfl (fun hb => Bool.noConfusion hb) (fun _ => ?_)
      refine C_seq ?_
      refine C_region ?_
      refine W_move rfl rfl rfl ?_
      refine W_bin rfl rfl rfl rfl rfl ?_
      refine W_assign rfl rfl rfl ?_
      refine W_end ?_
      refine E_then ?_
      refine C_cond (b := decide ((p0_a.all_.length : Int) = 300)) rfl (fun hb108 => ?_) (fun hb108 => ?_)
      · have hm := ite_t' hb108 hm
        refine C_seq ?_
        refine C_region ?_
        refine W_assign rfl rfl rfl ?_
        refine W_assign rfl rfl rfl ?_
        refine W_end ?_
        refine E_then ?_
        refine C_ret ?_
        refine E_ret_block ?_
        refine E_ret_then ?_
        obtain rfl := Option.some.inj hm
        refine E_drop (List.Sublist.cons _ (List.Sublist.refl _)) ?_
        refine E_weak hle107 ?_
        exact end2 rfl rfl rfl ⟨rfl, v0, xs0, rfl, rfl, ((h0.mono hle107)).toF⟩
      · have hm := ite_f' hb108 hm
        refine C_skip ?_
        refine E_normal_block ?_
        refine E_then ?_
        refine C_seq ?_
        obtain ⟨hz116, hm⟩ := need_some hm
        refine C_perm (List.Perm.trans (List.Perm.cons _ (List.Perm.swap _ _ _)) (List.Perm.swap _ _ _)) ?_
        refine C_as (M' := [[.row v0 30 (Rep.sz S_api_Event) p0_a.all_.length xs0]].flatten ++ (.obj b101 (.cells [.int .i64 (p1_e.Time), .string (p1_e.Kind), .string (p1_e.Name), .int .i64 (p1_e.Value)].toArray 30 (0, 0)) :: .obj b0 (.cells [v0].toArray 51 (0, 0)) :: M)) rfl ?_
        refine C_region_tok0 8 (phiT [(fun H rs v => [] = rs ∧ .pointer (some ⟨b0, 0, none⟩) = v), (fun H rs v => [] = rs ∧ .pointer (some ⟨b0, 0, none⟩) = v), (fun H rs v => [] = rs ∧ .pointer (some ⟨b0, 0, none⟩) = v), (fun H rs v => [] = rs ∧ .pointer (some ⟨b0, 0, none⟩) = v), (fun H rs v => [] = rs ∧ v0 = v), (fun H rs v => [] = rs ∧ .agg [.int .i64 (p1_e.Time), .string (p1_e.Kind), .string (p1_e.Name), .int .i64 (p1_e.Value)].toArray = v), (fun H rs v => ∃ v121 : Value, [] = rs ∧ v121 = v ∧ RdS H v121 ([p1_e]) ∧ Value.cap' v121 = ([p1_e]).length), (fun H rs v => ∃ v127 : Value, ∃ xs128 : List Value, [.row v127 30 (Rep.sz S_api_Event) (p0_a.all_ ++ ([p1_e])).length xs128] = rs ∧ v127 = v ∧ Rw H v127 xs128 (p0_a.all_ ++ ([p1_e])))]) [[], [], [], [], [], [], [], [8]] [[], [], [], [], [], [], [], []] [[.row v0 30 (Rep.sz S_api_Event) p0_a.all_.length xs0]] [0, 1, 2, 3, 4, 5, 6, 7] Facts.mixed (by kernel_rfl) rfl rfl rfl (by kernel_rfl) (phiT_mono ⟨eq_monoT _ _, eq_monoT _ _, eq_monoT _ _, eq_monoT _ _, eq_monoT _ _, eq_monoT _ _, (by rintro H1 H2 rs v hle ⟨v121, rfl, rfl, h125, hc126⟩; exact ⟨v121, rfl, rfl, (h125.mono hle), (hc126)⟩), (by rintro H1 H2 rs v hle ⟨v127, xs128, rfl, rfl, hr129⟩; exact ⟨v127, xs128, rfl, rfl, (hr129.mono hle)⟩), trivial⟩) ⟨?_, ?_, ?_, ?_, ?_, ?_, ?_, ?_, trivial⟩ ?_
        · intro HX hX X Rest hR
          intro hU hUp
          refine W_move rfl rfl rfl ?_
          exact W_end (OneT_end [] (Hp.le_refl _) ⟨rfl, rfl⟩)
        · intro HX hX X Rest hR
          intro hU hUp
          refine W_move rfl rfl rfl ?_
          exact W_end (OneT_end [] (Hp.le_refl _) ⟨rfl, rfl⟩)
        · intro HX hX X Rest hR
          rintro _ _ ⟨rfl, rfl⟩
          intro hU hUp
          refine W_nilCheck rfl rfl rfl ?_
          exact W_end (OneT_end [] (Hp.le_refl _) ⟨rfl, rfl⟩)
        · intro HX hX X Rest hR
          rintro _ _ ⟨rfl, rfl⟩
          intro hU hUp
          refine W_field (o := 0) rfl rfl Proofs.Tryd.runUnderlying51 rfl Proofs.Tryd.sizeOf22 rfl rfl rfl ?_
          exact W_end (OneT_end [] (Hp.le_refl _) ⟨rfl, rfl⟩)
        · intro HX hX X Rest hR
          rintro _ _ ⟨rfl, rfl⟩
          intro hU hUp
          refine W_load rfl rfl Proofs.Tryd.isAgg22 rfl (own_at (hR _ (List.mem_cons_of_mem _ (List.mem_cons_self ..))) rfl) ?_
          exact W_end (OneT_end [] (Hp.le_refl _) ⟨rfl, rfl⟩)
        · intro HX hX X Rest hR
          intro hU hUp
          refine W_loadAgg rfl rfl Proofs.Tryd.isAgg30 Proofs.Tryd.sizeOf30 rfl (own_all (hR _ (List.mem_cons_self ..))) rfl ?_
          exact W_end (OneT_end [] (Hp.le_refl _) ⟨rfl, rfl⟩)
        · intro HX hX X Rest hR
          rintro _ _ ⟨rfl, rfl⟩
          intro hU hUp
          refine W_buildSlice (α := S_api_Event) (css := [[.int .i64 (p1_e.Time), .string (p1_e.Kind), .string (p1_e.Name), .int .i64 (p1_e.Value)]]) (zs := [.int .i64 (0), .string (⟨#[]⟩), .string (⟨#[]⟩), .int .i64 (0)]) (out := [.int .i64 (p1_e.Time), .string (p1_e.Kind), .string (p1_e.Name), .int .i64 (p1_e.Value)]) (ys := [p1_e]) rfl rfl rfl ⟨rfl, trivial⟩ Proofs.Tryd.runUnderlying22 Proofs.Tryd.sizeOf30 rfl Proofs.Tryd.zeroValue30 (by kernel_rfl) rfl rfl rfl rfl ⟨[.int .i64 (p1_e.Time), .string (p1_e.Kind), .string (p1_e.Name), .int .i64 (p1_e.Value)], [], rfl, rfl, rfl⟩ rfl ?_
          intro b120 v121 H122 hv123 hle124 h125
          have hc126 : Value.cap' v121 = ([p1_e]).length := by rw [hv123]; rfl
          exact W_end (OneT_end [] hle124 ⟨v121, rfl, rfl, (h125), (hc126)⟩)
        · intro HX hX X Rest hR
          rintro _ _ ⟨rfl, rfl⟩
          rintro _ _ ⟨v121, rfl, rfl, h125, hc126⟩
          intro hU hUp
          refine W_as (M' := .row v0 30 (Rep.sz S_api_Event) p0_a.all_.length xs0 :: Rest) rfl ?_
          refine W_appendO (α := S_api_Event) (l := p0_a.all_) (ys := [p1_e]) rfl rfl Proofs.Tryd.underlying22 ⟨_, rfl, rfl, rfl, rfl⟩ rfl rfl rfl rfl rfl ((h0.mono hle107).mono hX) h125 hz116 ?_
          intro v127 xs128 hr129
          exact W_end (OneT_end [.row v127 30 (Rep.sz S_api_Event) (p0_a.all_ ++ ([p1_e])).length xs128] (Hp.le_refl _) ⟨v127, xs128, rfl, rfl, (hr129)⟩)
        intro H130 hle131
        rintro _ _ ⟨rfl, rfl⟩
        rintro _ _ ⟨rfl, rfl⟩
        rintro _ _ ⟨rfl, rfl⟩
        rintro _ _ ⟨rfl, rfl⟩
        rintro _ _ ⟨rfl, rfl⟩
        rintro _ _ ⟨rfl, rfl⟩
        rintro _ _ ⟨v121, rfl, rfl, h125, hc126⟩
        rintro _ _ ⟨v127, xs128, rfl, rfl, hr129⟩
        refine W_as (M' := .row v127 30 (Rep.sz S_api_Event) (p0_a.all_ ++ ([p1_e])).length xs128 :: .obj b101 (.cells [.int .i64 (p1_e.Time), .string (p1_e.Kind), .string (p1_e.Name), .int .i64 (p1_e.Value)].toArray 30 (0, 0)) :: .obj b0 (.cells [v0].toArray 51 (0, 0)) :: M) rfl ?_
        refine W_nilCheck rfl rfl rfl ?_
        refine W_field (o := 0) rfl rfl Proofs.Tryd.runUnderlying51 rfl Proofs.Tryd.sizeOf22 rfl rfl rfl ?_
        refine W_perm (List.Perm.trans (List.Perm.cons _ (List.Perm.swap _ _ _)) (List.Perm.swap _ _ _)) ?_
        refine W_store (cs := [v127]) (out := [v127]) rfl Proofs.Tryd.sizeOf22 rfl rfl (Rw.cells hr129) rfl rfl (all_cons (Rw.one hr129) all_nil) (over_all rfl) ?_
        refine W_end ?_
        refine E_then ?_
        refine C_seq ?_
        refine C_region ?_
        refine W_move rfl rfl rfl ?_
        refine W_bin rfl rfl rfl rfl rfl ?_
        refine W_assign rfl rfl rfl ?_
        refine W_assign rfl rfl rfl ?_
        refine W_end ?_
        refine E_then ?_
        refine C_ret ?_
        obtain rfl := Option.some.inj hm
        refine E_drop (List.Sublist.cons_cons _ (List.Sublist.cons_cons _ (List.Sublist.cons _ (List.Sublist.refl _)))) ?_
        refine E_weak (Hp.le_trans hle107 hle131) ?_
        exact end2 rfl rfl rfl ⟨rfl, v127, xs128, rfl, rfl, (hr129).toF⟩
    · have hm := ite_t' hb105 hm
      obtain ⟨y132, h133, he134, hm⟩ := idx_some hm
      obtain ⟨_, rfl, hg135⟩ := (h0).elem he134
      refine C_region_tok0 14 (phiT [(fun H rs v => [] = rs ∧ .int .i64 ((p0_a.all_.length : Int)) = v), (fun H rs v => [] = rs ∧ .bool (true) = v), (fun H rs v => [] = rs ∧ .bool (true) = v), (fun H rs v => [] = rs ∧ .pointer (some ⟨b101, 0, none⟩) = v), (fun H rs v => [] = rs ∧ .int .i64 (p1_e.Time) = v), (fun H rs v => [] = rs ∧ .pointer (some ⟨b0, 0, none⟩) = v), (fun H rs v => [] = rs ∧ .pointer (some ⟨b0, 0, none⟩) = v), (fun H rs v => [] = rs ∧ .pointer (some ⟨b0, 0, none⟩) = v), (fun H rs v => [] = rs ∧ v0 = v), (fun H rs v => [] = rs ∧ .int .i64 ((p0_a.all_.length : Int)) = v), (fun H rs v => [] = rs ∧ .int .i64 (IntKind.i64.wrap ((p0_a.all_.length : Int) - 1)) = v), (fun H rs v => [] = rs ∧ .pointer (some ((Value.base (v0)).add ((IntKind.i64.wrap ((p0_a.all_.length : Int) - 1) : Int).toNat * Rep.sz S_api_Event))) = v), (fun H rs v => [] = rs ∧ .pointer (some ((Value.base (v0)).add ((IntKind.i64.wrap ((p0_a.all_.length : Int) - 1) : Int).toNat * Rep.sz S_api_Event))) = v), (fun H rs v => [] = rs ∧ .int .i64 (y132.Time) = v)]) [[], [], [], [], [], [], [], [], [], [], [], [], [], []] [[], [], [], [], [], [], [], [], [], [], [], [], [], []] [] [0, 1, 2, 3, 4, 5, 6, 7, 8, 9, 10, 11, 12, 13] Facts.mixed (by kernel_rfl) rfl rfl rfl (by kernel_rfl) (phiT_mono ⟨eq_monoT _ _, eq_monoT _ _, eq_monoT _ _, eq_monoT _ _, eq_monoT _ _, eq_monoT _ _, eq_monoT _ _, eq_monoT _ _, eq_monoT _ _, eq_monoT _ _, eq_monoT _ _, eq_monoT _ _, eq_monoT _ _, eq_monoT _ _, trivial⟩) ⟨?_, ?_, ?_, ?_, ?_, ?_, ?_, ?_, ?_, ?_, ?_, ?_, ?_, ?_, trivial⟩ ?_
      · intro HX hX X Rest hR
        intro hU hUp
        refine W_move rfl rfl rfl ?_
        exact W_end (OneT_end [] (Hp.le_refl _) ⟨rfl, rfl⟩)
      · intro HX hX X Rest hR
        rintro _ _ ⟨rfl, rfl⟩
        intro hU hUp
        refine W_bin rfl rfl rfl rfl rfl ?_
        exact W_end (OneT_end [] (Hp.le_refl _) ⟨rfl, (by first | rfl | (rw [hb105]; try rfl))⟩)
      · intro HX hX X Rest hR
        rintro _ _ ⟨rfl, rfl⟩
        intro hU hUp
        refine W_move rfl rfl rfl ?_
        exact W_end (OneT_end [] (Hp.le_refl _) ⟨rfl, rfl⟩)
      · intro HX hX X Rest hR
        rintro _ _ ⟨rfl, rfl⟩
        intro hU hUp
        refine W_field (o := 0) rfl rfl Proofs.Tryd.runUnderlying30 rfl Proofs.Tryd.sizeOf3 rfl rfl rfl ?_
        exact W_end (OneT_end [] (Hp.le_refl _) ⟨rfl, rfl⟩)
      · intro HX hX X Rest hR
        rintro _ _ ⟨rfl, rfl⟩
        rintro _ _ ⟨rfl, rfl⟩
        intro hU hUp
        refine W_load rfl rfl Proofs.Tryd.isAgg3 rfl (own_at (hR _ (List.mem_cons_self ..)) rfl) ?_
        exact W_end (OneT_end [] (Hp.le_refl _) ⟨rfl, rfl⟩)
      · intro HX hX X Rest hR
        rintro _ _ ⟨rfl, rfl⟩
        intro hU hUp
        refine W_move rfl rfl rfl ?_
        exact W_end (OneT_end [] (Hp.le_refl _) ⟨rfl, rfl⟩)
      · intro HX hX X Rest hR
        rintro _ _ ⟨rfl, rfl⟩
        rintro _ _ ⟨rfl, rfl⟩
        intro hU hUp
        refine W_nilCheck rfl rfl rfl ?_
        exact W_end (OneT_end [] (Hp.le_refl _) ⟨rfl, rfl⟩)
      · intro HX hX X Rest hR
        rintro _ _ ⟨rfl, rfl⟩
        rintro _ _ ⟨rfl, rfl⟩
        intro hU hUp
        refine W_field (o := 0) rfl rfl Proofs.Tryd.runUnderlying51 rfl Proofs.Tryd.sizeOf22 rfl rfl rfl ?_
        exact W_end (OneT_end [] (Hp.le_refl _) ⟨rfl, rfl⟩)
      · intro HX hX X Rest hR
        rintro _ _ ⟨rfl, rfl⟩
        rintro _ _ ⟨rfl, rfl⟩
        intro hU hUp
        refine W_load rfl rfl Proofs.Tryd.isAgg22 rfl (own_at (hR _ (List.mem_cons_of_mem _ (List.mem_cons_self ..))) rfl) ?_
        exact W_end (OneT_end [] (Hp.le_refl _) ⟨rfl, rfl⟩)
      · intro HX hX X Rest hR
        rintro _ _ ⟨rfl, rfl⟩
        intro hU hUp
        refine W_move rfl rfl rfl ?_
        exact W_end (OneT_end [] (Hp.le_refl _) ⟨rfl, rfl⟩)
      · intro HX hX X Rest hR
        rintro _ _ ⟨rfl, rfl⟩
        rintro _ _ ⟨rfl, rfl⟩
        intro hU hUp
        refine W_bin rfl rfl rfl rfl rfl ?_
        exact W_end (OneT_end [] (Hp.le_refl _) ⟨rfl, rfl⟩)
      · intro HX hX X Rest hR
        rintro _ _ ⟨rfl, rfl⟩
        rintro _ _ ⟨rfl, rfl⟩
        rintro _ _ ⟨rfl, rfl⟩
        intro hU hUp
        refine W_indexO (hR _ (List.mem_cons_of_mem _ (List.mem_cons_of_mem _ (List.mem_cons_self ..)))) rfl rfl Proofs.Tryd.runUnderlying22 Proofs.Tryd.sizeOf30 rfl rfl h133 (List.getElem?_eq_some_iff.1 he134).1 ?_
        exact W_end (OneT_end [] (Hp.le_refl _) ⟨rfl, rfl⟩)
      · intro HX hX X Rest hR
        rintro _ _ ⟨rfl, rfl⟩
        rintro _ _ ⟨rfl, rfl⟩
        intro hU hUp
        refine W_field (o := 0) rfl rfl Proofs.Tryd.runUnderlying30 rfl Proofs.Tryd.sizeOf3 rfl rfl rfl ?_
        exact W_end (OneT_end [] (Hp.le_refl _) ⟨rfl, rfl⟩)
      · intro HX hX X Rest hR
        rintro _ _ ⟨rfl, rfl⟩
        rintro _ _ ⟨rfl, rfl⟩
        intro hU hUp
        refine W_load rfl rfl Proofs.Tryd.isAgg3 rfl (row_one0 (hR _ (List.mem_cons_of_mem _ (List.mem_cons_of_mem _ (List.mem_cons_self ..)))) hg135 rfl) ?_
        exact W_end (OneT_end [] (Hp.le_refl _) ⟨rfl, rfl⟩)
      intro H136 hle137
      rintro _ _ ⟨rfl, rfl⟩
      rintro _ _ ⟨rfl, rfl⟩
      rintro _ _ ⟨rfl, rfl⟩
      rintro _ _ ⟨rfl, rfl⟩
      rintro _ _ ⟨rfl, rfl⟩
      rintro _ _ ⟨rfl, rfl⟩
      rintro _ _ ⟨rfl, rfl⟩
      rintro _ _ ⟨rfl, rfl⟩
      rintro _ _ ⟨rfl, rfl⟩
      rintro _ _ ⟨rfl, rfl⟩
      rintro _ _ ⟨rfl, rfl⟩
      rintro _ _ ⟨rfl, rfl⟩
      rintro _ _ ⟨rfl, rfl⟩
      rintro _ _ ⟨rfl, rfl⟩
      refine W_bin rfl rfl rfl rfl rfl ?_
      refine W_pick rfl rfl rfl rfl ?_
      refine W_assign rfl rfl rfl ?_
      refine W_end ?_
      refine E_then ?_
      refine C_cond (b := decide (p1_e.Time < y132.Time)) rfl (fun hb138 => ?_) (fun hb138 => ?_)
      · have hm := ite_t' hb138 hm
        refine C_seq ?_
        refine C_region ?_
        refine W_assign rfl rfl rfl ?_
        refine W_assign rfl rfl rfl ?_
        refine W_end ?_
        refine E_then ?_
        refine C_ret ?_
        refine E_ret_block ?_
        refine E_ret_then ?_
        obtain rfl := Option.some.inj hm
        refine E_drop (List.Sublist.cons _ (List.Sublist.refl _)) ?_
        refine E_weak hle137 ?_
        exact end2 rfl rfl rfl ⟨rfl, v0, xs0, rfl, rfl, ((h0.mono hle137)).toF⟩
      · have hm := ite_f' hb138 hm
        refine C_seq ?_
        refine C_region ?_
        refine W_move rfl rfl rfl ?_
        refine W_bin rfl rfl rfl rfl rfl ?_
        refine W_assign rfl rfl rfl ?_
        refine W_end ?_
        refine E_then ?_
        refine C_cond (b := decide ((p0_a.all_.length : Int) = 300)) rfl (fun hb139 => ?_) (fun hb139 => ?_)
        · have hm := ite_t' hb139 hm
          refine C_seq ?_
          refine C_region ?_
          refine W_assign rfl rfl rfl ?_
          refine W_assign rfl rfl rfl ?_
          refine W_end ?_
          refine E_then ?_
          refine C_ret ?_
          refine E_ret_block ?_
          refine E_ret_then ?_
          obtain rfl := Option.some.inj hm
          refine E_drop (List.Sublist.cons _ (List.Sublist.refl _)) ?_
          refine E_weak hle137 ?_
          exact end2 rfl rfl rfl ⟨rfl, v0, xs0, rfl, rfl, ((h0.mono hle137)).toF⟩
        · have hm := ite_f' hb139 hm
          refine C_skip ?_
          refine E_normal_block ?_
          refine E_then ?_
          refine C_seq ?_
          obtain ⟨hz147, hm⟩ := need_some hm
          refine C_perm (List.Perm.trans (List.Perm.cons _ (List.Perm.swap _ _ _)) (List.Perm.swap _ _ _)) ?_
          refine C_as (M' := [[.row v0 30 (Rep.sz S_api_Event) p0_a.all_.length xs0]].flatten ++ (.obj b101 (.cells [.int .i64 (p1_e.Time), .string (p1_e.Kind), .string (p1_e.Name), .int .i64 (p1_e.Value)].toArray 30 (0, 0)) :: .obj b0 (.cells [v0].toArray 51 (0, 0)) :: M)) rfl ?_
          refine C_region_tok0 8 (phiT [(fun H rs v => [] = rs ∧ .pointer (some ⟨b0, 0, none⟩) = v), (fun H rs v => [] = rs ∧ .pointer (some ⟨b0, 0, none⟩) = v), (fun H rs v => [] = rs ∧ .pointer (some ⟨b0, 0, none⟩) = v), (fun H rs v => [] = rs ∧ .pointer (some ⟨b0, 0, none⟩) = v), (fun H rs v => [] = rs ∧ v0 = v), (fun H rs v => [] = rs ∧ .agg [.int .i64 (p1_e.Time), .string (p1_e.Kind), .string (p1_e.Name), .int .i64 (p1_e.Value)].toArray = v), (fun H rs v => ∃ v152 : Value, [] = rs ∧ v152 = v ∧ RdS H v152 ([p1_e]) ∧ Value.cap' v152 = ([p1_e]).length), (fun H rs v => ∃ v158 : Value, ∃ xs159 : List Value, [.row v158 30 (Rep.sz S_api_Event) (p0_a.all_ ++ ([p1_e])).length xs159] = rs ∧ v158 = v ∧ Rw H v158 xs159 (p0_a.all_ ++ ([p1_e])))]) [[], [], [], [], [], [], [], [8]] [[], [], [], [], [], [], [], []] [[.row v0 30 (Rep.sz S_api_Event) p0_a.all_.length xs0]] [0, 1, 2, 3, 4, 5, 6, 7] Facts.mixed (by kernel_rfl) rfl rfl rfl (by kernel_rfl) (phiT_mono ⟨eq_monoT _ _, eq_monoT _ _, eq_monoT _ _, eq_monoT _ _, eq_monoT _ _, eq_monoT _ _, (by rintro H1 H2 rs v hle ⟨v152, rfl, rfl, h156, hc157⟩; exact ⟨v152, rfl, rfl, (h156.mono hle), (hc157)⟩), (by rintro H1 H2 rs v hle ⟨v158, xs159, rfl, rfl, hr160⟩; exact ⟨v158, xs159, rfl, rfl, (hr160.mono hle)⟩), trivial⟩) ⟨?_, ?_, ?_, ?_, ?_, ?_, ?_, ?_, trivial⟩ ?_
          · intro HX hX X Rest hR
            intro hU hUp
            refine W_move rfl rfl rfl ?_
            exact W_end (OneT_end [] (Hp.le_refl _) ⟨rfl, rfl⟩)
          · intro HX hX X Rest hR
            intro hU hUp
            refine W_move rfl rfl rfl ?_
            exact W_end (OneT_end [] (Hp.le_refl _) ⟨rfl, rfl⟩)
          · intro HX hX X Rest hR
            rintro _ _ ⟨rfl, rfl⟩
            intro hU hUp
            refine W_nilCheck rfl rfl rfl ?_
            exact W_end (OneT_end [] (Hp.le_refl _) ⟨rfl, rfl⟩)
          · intro HX hX X Rest hR
            rintro _ _ ⟨rfl, rfl⟩
            intro hU hUp
            refine W_field (o := 0) rfl rfl Proofs.Tryd.runUnderlying51 rfl Proofs.Tryd.sizeOf22 rfl rfl rfl ?_
            exact W_end (OneT_end [] (Hp.le_refl _) ⟨rfl, rfl⟩)
          · intro HX hX X Rest hR
            rintro _ _ ⟨rfl, rfl⟩
            intro hU hUp
            refine W_load rfl rfl Proofs.Tryd.isAgg22 rfl (own_at (hR _ (List.mem_cons_of_mem _ (List.mem_cons_self ..))) rfl) ?_
            exact W_end (OneT_end [] (Hp.le_refl _) ⟨rfl, rfl⟩)
          · intro HX hX X Rest hR
            intro hU hUp
            refine W_loadAgg rfl rfl Proofs.Tryd.isAgg30 Proofs.Tryd.sizeOf30 rfl (own_all (hR _ (List.mem_cons_self ..))) rfl ?_
            exact W_end (OneT_end [] (Hp.le_refl _) ⟨rfl, rfl⟩)
          · intro HX hX X Rest hR
            rintro _ _ ⟨rfl, rfl⟩
            intro hU hUp
            refine W_buildSlice (α := S_api_Event) (css := [[.int .i64 (p1_e.Time), .string (p1_e.Kind), .string (p1_e.Name), .int .i64 (p1_e.Value)]]) (zs := [.int .i64 (0), .string (⟨#[]⟩), .string (⟨#[]⟩), .int .i64 (0)]) (out := [.int .i64 (p1_e.Time), .string (p1_e.Kind), .string (p1_e.Name), .int .i64 (p1_e.Value)]) (ys := [p1_e]) rfl rfl rfl ⟨rfl, trivial⟩ Proofs.Tryd.runUnderlying22 Proofs.Tryd.sizeOf30 rfl Proofs.Tryd.zeroValue30 (by kernel_rfl) rfl rfl rfl rfl ⟨[.int .i64 (p1_e.Time), .string (p1_e.Kind), .string (p1_e.Name), .int .i64 (p1_e.Value)], [], rfl, rfl, rfl⟩ rfl ?_
            intro b151 v152 H153 hv154 hle155 h156
            have hc157 : Value.cap' v152 = ([p1_e]).length := by rw [hv154]; rfl
            exact W_end (OneT_end [] hle155 ⟨v152, rfl, rfl, (h156), (hc157)⟩)
          · intro HX hX X Rest hR
            rintro _ _ ⟨rfl, rfl⟩
            rintro _ _ ⟨v152, rfl, rfl, h156, hc157⟩
            intro hU hUp
            refine W_as (M' := .row v0 30 (Rep.sz S_api_Event) p0_a.all_.length xs0 :: Rest) rfl ?_
            refine W_appendO (α := S_api_Event) (l := p0_a.all_) (ys := [p1_e]) rfl rfl Proofs.Tryd.underlying22 ⟨_, rfl, rfl, rfl, rfl⟩ rfl rfl rfl rfl rfl ((h0.mono hle137).mono hX) h156 hz147 ?_
            intro v158 xs159 hr160
            exact W_end (OneT_end [.row v158 30 (Rep.sz S_api_Event) (p0_a.all_ ++ ([p1_e])).length xs159] (Hp.le_refl _) ⟨v158, xs159, rfl, rfl, (hr160)⟩)
          intro H161 hle162
          rintro _ _ ⟨rfl, rfl⟩
          rintro _ _ ⟨rfl, rfl⟩
          rintro _ _ ⟨rfl, rfl⟩
          rintro _ _ ⟨rfl, rfl⟩
          rintro _ _ ⟨rfl, rfl⟩
          rintro _ _ ⟨rfl, rfl⟩
          rintro _ _ ⟨v152, rfl, rfl, h156, hc157⟩
          rintro _ _ ⟨v158, xs159, rfl, rfl, hr160⟩
          refine W_as (M' := .row v158 30 (Rep.sz S_api_Event) (p0_a.all_ ++ ([p1_e])).length xs159 :: .obj b101 (.cells [.int .i64 (p1_e.Time), .string (p1_e.Kind), .string (p1_e.Name), .int .i64 (p1_e.Value)].toArray 30 (0, 0)) :: .obj b0 (.cells [v0].toArray 51 (0, 0)) :: M) rfl ?_
          refine W_nilCheck rfl rfl rfl ?_
          refine W_field (o := 0) rfl rfl Proofs.Tryd.runUnderlying51 rfl Proofs.Tryd.sizeOf22 rfl rfl rfl ?_
          refine W_perm (List.Perm.trans (List.Perm.cons _ (List.Perm.swap _ _ _)) (List.Perm.swap _ _ _)) ?_
          refine W_store (cs := [v158]) (out := [v158]) rfl Proofs.Tryd.sizeOf22 rfl rfl (Rw.cells hr160) rfl rfl (all_cons (Rw.one hr160) all_nil) (over_all rfl) ?_
          refine W_end ?_
          refine E_then ?_
          refine C_seq ?_
          refine C_region ?_
          refine W_move rfl rfl rfl ?_
          refine W_bin rfl rfl rfl rfl rfl ?_
          refine W_assign rfl rfl rfl ?_
          refine W_assign rfl rfl rfl ?_
          refine W_end ?_
          refine E_then ?_
          refine C_ret ?_
          obtain rfl := Option.some.inj hm
          refine E_drop (List.Sublist.cons_cons _ (List.Sublist.cons_cons _ (List.Sublist.cons _ (List.Sublist.refl _)))) ?_
          refine E_weak (Hp.le_trans hle137 hle162) ?_
          exact end2 rfl rfl rfl ⟨rfl, v158, xs159, rfl, rfl, (hr160).toF⟩

theorem m_gridhallkeep4_archiveOf_c {B : Nat} {w0 w : World} [Tabs B w0] {H : Hp} {M : List Res} {p0_l : (List S_api_Event)} {v0 : Value} {r : (Option S_archive_Archive)} (hm : m_gridhallkeep4_archiveOf p0_l = some r) (h0 : RdS H v0 p0_l) (ht : St B w0 H (M) w) :
    Calls Proofs.Tryd.prog 7 [v0].toArray w (Ret B w0 fun H' M' v => (r = none ∧ H.le H' ∧ M = M' ∧ .pointer none = v) ∨ (∃ qsp0 : S_archive_Archive, r = some qsp0 ∧ H.le H' ∧ ∃ qb0 : Nat, ∃ qv0 : Value, ∃ qxs0 : List Value, .obj qb0 (.cells [qv0].toArray 51 (0, 0)) :: .row qv0 30 (Rep.sz S_api_Event) qsp0.all_.length qxs0 :: M = M' ∧ .pointer (some ⟨qb0, 0, none⟩) = v ∧ Rw H' qv0 qxs0 qsp0.all_)) := by
  unfold m_gridhallkeep4_archiveOf at hm
  refine enter Proofs.Tryd.func7 rfl rfl rfl ht ?_
  refine C_seq ?_
  refine C_region ?_
  refine W_assign rfl rfl rfl ?_
  refine W_end ?_
  refine E_then ?_
  refine C_seq ?_
  refine C_region ?_
  refine W_call Proofs.Tryd.call22 rfl rfl rfl (fun w ht => by have h := m_archive_New_c (hm := (rfl : m_archive_New = _))  ht; exact h) ?_
  rintro _ H112 _ (⟨hn106, hle108, rfl, rfl⟩ | ⟨sp101, hn109, hle111, b102, v103, xs104, rfl, rfl, h105⟩)
  · have hm := optC_n hn106 hm
    refine W_assign rfl rfl rfl ?_
    refine W_end ?_
    refine E_then ?_
    refine C_seq ?_
    refine C_seq ?_
    refine C_region ?_
    refine W_move rfl rfl rfl ?_
    refine W_ptrNil rfl rfl Proofs.Tryd.runUnderlying23 rfl rfl ?_
    refine W_end ?_
    refine E_then ?_
    refine C_cond (b := true) rfl (fun _ => ?_) (fun hb => Bool.noConfusion hb)
    refine C_seq ?_
    refine C_region ?_
    refine W_assign rfl rfl rfl ?_
    refine W_end ?_
    refine E_then ?_
    refine C_ret ?_
    refine E_ret_then ?_
    obtain rfl := Option.some.inj hm
    exact end1 rfl rfl (.inl ⟨rfl, hle108, rfl, rfl⟩)
  · have hm := optC_s hn109 hm
    refine W_assign rfl rfl rfl ?_
    refine W_end ?_
    refine E_then ?_
    refine C_seq ?_
    refine C_seq ?_
    refine C_region ?_
    refine W_move rfl rfl rfl ?_
    refine W_ptrNil rfl rfl Proofs.Tryd.runUnderlying23 rfl rfl ?_
    refine W_end ?_
    refine E_then ?_
    refine C_cond (b := false) rfl (fun hb => Bool.noConfusion hb) (fun _ => ?_)
    refine C_skip ?_
    refine E_then ?_
    refine C_seq ?_
    refine C_region ?_
    refine W_assign rfl rfl rfl ?_
    refine W_end ?_
    refine E_then ?_
    refine C_seq ?_
    refine C_seq ?_
    refine C_region ?_
    refine W_move rfl rfl rfl ?_
    refine W_move rfl rfl rfl ?_
    refine W_lenR rfl rfl Proofs.Tryd.runUnderlying22 rfl (h0.mono hle111) ?_
    refine W_min rfl rfl rfl rfl ?_
    obtain ⟨hz113, hm⟩ := need_some hm
    refine W_sliceR (α := S_api_Event) (l := 0) (h := (min (p0_l.length : Int) 12 : Int).toNat) (xs := p0_l) rfl rfl Proofs.Tryd.runUnderlying22 Proofs.Tryd.sizeOf30 rfl (h0.mono hle111) (by omega) (by omega) (.inl rfl) (fun cap hcap => by rw [if_pos rfl]; exact (.inl ⟨rfl, rfl⟩)) (fun m hmm => (.inr ⟨_, _, _, rfl, rfl, by omega, by omega, rfl⟩)) (.inl ⟨rfl, rfl⟩) ?_
    intro v114 h115 hc116
    refine W_lenR rfl rfl Proofs.Tryd.runUnderlying22 rfl h115 ?_
    refine W_move rfl rfl rfl ?_
    refine W_end ?_
    refine E_then ?_
    refine C_block ?_
    refine C_keep (L' := [(3, .pointer (some ⟨b102, 0, none⟩)), (4, .int .i64 (0)), (14, v114), (15, .int .i64 (((slc p0_l 0 ((min (p0_l.length : Int) 12 : Int).toNat)).length : Int))), (16, .int .i64 (((0 : Nat) : Int)))]) ⟨rfl, rfl, rfl, rfl, rfl, trivial⟩ (List.Perm.swap _ _ _) ?_
    refine C_loop (fun n H' M' L' => ∃ (k117 : Nat) (zs160' : List S_api_Event), ∃ n148 : Int, ∃ l151 : List S_api_Event, ∃ v149 : Value, ∃ xs150 : List Value, (slc p0_l 0 ((min (p0_l.length : Int) 12 : Int).toNat)).drop k117 = zs160' ∧ zs160'.length = n ∧ forI (fun k y s155 n => m_gridhallkeep4_archiveOf_b1 k y s155.1 s155.2 n) (fun s155 => some (some (S_archive_Archive.mk s155.2))) k117 zs160' (n148, l151) = some r ∧ Rw H' v149 xs150 l151 ∧ H112.le H' ∧ .row v149 30 (Rep.sz S_api_Event) l151.length xs150 :: .obj b102 (.cells [v149].toArray 51 (0, 0)) :: M = M' ∧ [(3, .pointer (some ⟨b102, 0, none⟩)), (4, .int .i64 (n148)), (14, v114), (15, .int .i64 (((slc p0_l 0 ((min (p0_l.length : Int) 12 : Int).toNat)).length : Int))), (16, .int .i64 ((k117 : Int)))] = L') _ ⟨0, _, 0, sp101.all_, v103, xs104, rfl, rfl, hm, h105, (Hp.le_refl _), rfl, rfl⟩ ?_
    rintro _ H153 _ _ ⟨k117, zs160', n148, l151, v149, xs150, hd162, rfl, hm, hr152, hle154, rfl, rfl⟩
    refine C_seq ?_
    refine C_region ?_
    refine W_bin rfl rfl rfl rfl rfl ?_
    refine W_end (E_then ?_)
    refine C_seq ?_
    refine C_cond (b := decide ((k117 : Int) < ((slc p0_l 0 ((min (p0_l.length : Int) 12 : Int).toNat)).length : Int))) rfl (fun hb164 => ?_) (fun hb164 => ?_)
    · obtain ⟨y159, zs160, rfl, hy161, hd163⟩ := rng_t hd162 hb164
      have hm : m_gridhallkeep4_archiveOf_b1 k117 y159 n148 l151 (forI (fun k y s155 n => m_gridhallkeep4_archiveOf_b1 k y s155.1 s155.2 n) (fun s155 => some (some (S_archive_Archive.mk s155.2))) (k117 + 1) zs160) = some r := hm
      generalize hn157 : forI (fun k y s155 n => m_gridhallkeep4_archiveOf_b1 k y s155.1 s155.2 n) (fun s155 => some (some (S_archive_Archive.mk s155.2))) (k117 + 1) zs160 = nx156 at hm
      unfold m_gridhallkeep4_archiveOf_b1 at hm
      refine C_skip (E_then ?_)
      refine C_seq ?_
      refine C_block ?_
      refine C_seq ?_
      refine C_region ?_
      obtain ⟨_, ⟨rfl⟩, hc165⟩ := (h115).elem hy161
      refine W_indexS rfl rfl Proofs.Tryd.runUnderlying22 Proofs.Tryd.sizeOf30 rfl (h115.mono hle154) rfl (Int.natCast_nonneg _) hy161 ?_
      refine W_loadAgg rfl rfl Proofs.Tryd.isAgg30 Proofs.Tryd.sizeOf30 rfl (hc165.mono hle154).at rfl ?_
      refine W_alloc (cs := [.int .i64 (0), .string (⟨#[]⟩), .string (⟨#[]⟩), .int .i64 (0)]) rfl rfl Proofs.Tryd.zeroValue30 rfl (fun b166 => ?_)
      refine W_store (cs := [.int .i64 (y159.Time), .string (y159.Kind), .string (y159.Name), .int .i64 (y159.Value)]) (out := [.int .i64 (y159.Time), .string (y159.Kind), .string (y159.Name), .int .i64 (y159.Value)]) rfl Proofs.Tryd.sizeOf30 rfl rfl rfl rfl rfl (all_cons rfl (all_cons rfl (all_cons rfl (all_cons rfl all_nil)))) (over_all rfl) ?_
      refine W_end ?_
      refine E_then ?_
      refine C_seq ?_
      refine C_region ?_
      refine W_move rfl rfl rfl ?_
      refine W_field (o := 0) rfl rfl Proofs.Tryd.runUnderlying30 rfl Proofs.Tryd.sizeOf3 rfl rfl rfl ?_
      refine W_load rfl rfl Proofs.Tryd.isAgg3 rfl (own_at (List.mem_cons_self ..) rfl) ?_
      obtain ⟨r167, hc168, hm⟩ := bind_some hm
      refine W_call Proofs.Tryd.call9 rfl rfl rfl (fun w ht => by have h := m_gridhallref4_Cut_c (hm := hc168)  ht; exact h) ?_
      rintro _ _ _ ⟨rfl, rfl, rfl⟩
      refine W_bin rfl rfl rfl rfl rfl ?_
      refine W_assign rfl rfl rfl ?_
      refine W_end ?_
      refine E_then ?_
      refine C_seq ?_
      refine C_region ?_
      refine W_move rfl rfl rfl ?_
      refine W_field (o := 0) rfl rfl Proofs.Tryd.runUnderlying30 rfl Proofs.Tryd.sizeOf3 rfl rfl rfl ?_
      refine W_store (cs := [.int .i64 (IntKind.i64.wrap (n148 + r167))]) (out := [.int .i64 (IntKind.i64.wrap (n148 + r167)), .string (y159.Kind), .string (y159.Name), .int .i64 (y159.Value)]) rfl Proofs.Tryd.sizeOf3 rfl rfl rfl rfl rfl (all_cons rfl all_nil) rfl ?_
      refine W_end ?_
      refine E_then ?_
      refine C_region ?_
      refine W_move rfl rfl rfl ?_
      refine W_loadAgg rfl rfl Proofs.Tryd.isAgg30 Proofs.Tryd.sizeOf30 rfl (own_all (List.mem_cons_self ..)) rfl ?_
      refine W_perm (List.Perm.trans (List.Perm.cons _ (List.Perm.swap _ _ _)) (List.Perm.trans (List.Perm.swap _ _ _) (List.Perm.cons _ (List.Perm.swap _ _ _)))) ?_
      obtain ⟨r169, hc170, hm⟩ := bind_some hm
      refine W_call Proofs.Tryd.call18 rfl rfl rfl (fun w ht => by have h := m_archive_Archive_Append_c (hm := hc170) hr152 ht; exact h) ?_
      rintro _ _ _ ⟨rfl, v172, xs173, rfl, rfl, h174⟩
      have h174 := h174 H153
      refine W_end ?_
      refine E_normal_block ?_
      refine E_then ?_
      refine C_region ?_
      refine W_bin rfl rfl rfl rfl rfl ?_
      refine W_move rfl rfl rfl ?_
      refine W_end ?_
      refine E_drop (List.Sublist.cons_cons _ (List.Sublist.cons_cons _ (List.Sublist.cons _ (List.Sublist.refl _)))) ?_
      exact E_keepJ (E_back (Nat.lt_succ_self _) ⟨k117 + 1, zs160, IntKind.i64.wrap (n148 + r167), r169.2.2.all_, v172, xs173, hd163, rfl, (by rw [hn157]; exact hm), h174, hle154, rfl, rfl⟩) (List.Perm.swap _ _ _) ⟨rfl, rfl, rfl, rfl, (congrArg (fun z => some (Value.int .i64 z)) (i64_succ hy161 ((h115.mono hle154)).lenMax)), trivial⟩
    · obtain rfl := rng_f hd162 hb164
      have hm : (some (some (S_archive_Archive.mk l151))) = some r := hm
      refine C_exit (E_exit_then ?_)
      refine E_exit_then ?_
      refine E_exit_hit ?_
      refine E_then ?_
      refine C_seq ?_
      refine C_region ?_
      refine W_move rfl rfl rfl ?_
      refine W_assign rfl rfl rfl ?_
      refine W_end ?_
      refine E_then ?_
      refine C_ret ?_
      obtain rfl := Option.some.inj hm
      refine E_perm (List.Perm.swap _ _ _) ?_
      exact end1 rfl rfl (.inr ⟨(S_archive_Archive.mk l151), rfl, (Hp.le_trans hle111 hle154), b102, v149, xs150, rfl, rfl, hr152⟩)

theorem itoa44_c {B : Nat} {w0 w : World} [Tabs B w0] {H : Hp} {M : List Res} {n : Int} (hn : -9223372036854775808 ≤ n ∧ n ≤ 9223372036854775807) (ht : St B w0 H M w) :
    Calls Proofs.Tryd.prog 44 [.int .i64 n].toArray w (Ret B w0 fun H' M' v => H = H' ∧ M = M' ∧ .string (itoaB n) = v) := by
  have ht1 : Lib.TabIs Proofs.Tryd.prog w "internal/strconv.uint64pow10" .u64 Lib.pow10Tab := by
    have e : gt3 = Lib.pow10Tab := by decide +kernel
    rw [← e]; exact ht.tab (Tabs.t3 (B := B) (w0 := w0)) gn3 (Tabs.below (w0 := w0) rfl)
  refine (Proofs.Tryd.strconv_Itoa n hn.1 hn.2 w ht1).mono ?_
  rintro e w' ⟨rfl, k, os, rfl⟩
  exact ⟨H, M, ht.under (Lib.below_grow _ w (Nat.le_refl _) k os), rfl, rfl, rfl⟩

theorem m_archive_line_c {B : Nat} {w0 w : World} [Tabs B w0] {H : Hp} {M : List Res} {p0_e : S_api_Event} {r : ByteArray} (hm : m_archive_line p0_e = some r) (ht : St B w0 H (M) w) :
    Calls Proofs.Tryd.prog 31 [.agg [.int .i64 (p0_e.Time), .string (p0_e.Kind), .string (p0_e.Name), .int .i64 (p0_e.Value)].toArray].toArray w (Ret B w0 fun H' M' v => H = H' ∧ M = M' ∧ .string (r) = v) := by
  unfold m_archive_line at hm
  refine enter Proofs.Tryd.func31 rfl rfl rfl ht ?_
  refine C_seq ?_
  refine C_region ?_
  refine W_box (cs := [.int .i64 (p0_e.Time), .string (p0_e.Kind), .string (p0_e.Name), .int .i64 (p0_e.Value)]) rfl rfl rfl rfl (fun b101 => ?_)
  refine W_assign rfl rfl rfl ?_
  refine W_end ?_
  refine E_then ?_
  refine C_seq ?_
  obtain ⟨hz102, hm⟩ := need_some hm
  obtain ⟨hq103, hm⟩ := need_some hm
  obtain ⟨hq104, hm⟩ := need_some hm
  obtain ⟨hq105, hm⟩ := need_some hm
  obtain ⟨hq106, hm⟩ := need_some hm
  obtain ⟨hq107, hm⟩ := need_some hm
  obtain ⟨hz108, hm⟩ := need_some hm
  refine C_region_tok0 15 (phiT [(fun H rs v => [] = rs ∧ .pointer (some ⟨b101, 0, none⟩) = v), (fun H rs v => [] = rs ∧ .int .i64 (p0_e.Time) = v), (fun H rs v => [] = rs ∧ .string (itoaB p0_e.Time) = v), (fun H rs v => [] = rs ∧ .string ((itoaB p0_e.Time) ++ (⟨#[32]⟩)) = v), (fun H rs v => [] = rs ∧ .pointer (some ⟨b101, 1, none⟩) = v), (fun H rs v => [] = rs ∧ .string (p0_e.Kind) = v), (fun H rs v => [] = rs ∧ .string (((itoaB p0_e.Time) ++ (⟨#[32]⟩)) ++ p0_e.Kind) = v), (fun H rs v => [] = rs ∧ .string ((((itoaB p0_e.Time) ++ (⟨#[32]⟩)) ++ p0_e.Kind) ++ (⟨#[32]⟩)) = v), (fun H rs v => [] = rs ∧ .pointer (some ⟨b101, 2, none⟩) = v), (fun H rs v => [] = rs ∧ .string (p0_e.Name) = v), (fun H rs v => [] = rs ∧ .string (((((itoaB p0_e.Time) ++ (⟨#[32]⟩)) ++ p0_e.Kind) ++ (⟨#[32]⟩)) ++ p0_e.Name) = v), (fun H rs v => [] = rs ∧ .string ((((((itoaB p0_e.Time) ++ (⟨#[32]⟩)) ++ p0_e.Kind) ++ (⟨#[32]⟩)) ++ p0_e.Name) ++ (⟨#[32]⟩)) = v), (fun H rs v => [] = rs ∧ .pointer (some ⟨b101, 3, none⟩) = v), (fun H rs v => [] = rs ∧ .int .i64 (p0_e.Value) = v), (fun H rs v => [] = rs ∧ .string (itoaB p0_e.Value) = v)]) [[], [], [], [], [], [], [], [], [], [], [], [], [], [], []] [[], [], [], [], [], [], [], [], [], [], [], [], [], [], []] [] [0, 1, 2, 3, 4, 5, 6, 7, 8, 9, 10, 11, 12, 13, 14] Facts.mixed (by kernel_rfl) rfl rfl rfl (by kernel_rfl) (phiT_mono ⟨eq_monoT _ _, eq_monoT _ _, eq_monoT _ _, eq_monoT _ _, eq_monoT _ _, eq_monoT _ _, eq_monoT _ _, eq_monoT _ _, eq_monoT _ _, eq_monoT _ _, eq_monoT _ _, eq_monoT _ _, eq_monoT _ _, eq_monoT _ _, eq_monoT _ _, trivial⟩) ⟨?_, ?_, ?_, ?_, ?_, ?_, ?_, ?_, ?_, ?_, ?_, ?_, ?_, ?_, ?_, trivial⟩ ?_
  · intro HX hX X Rest hR
    intro hU hUp
    refine W_field (o := 0) rfl rfl Proofs.Tryd.runUnderlying30 rfl Proofs.Tryd.sizeOf3 rfl rfl rfl ?_
    exact W_end (OneT_end [] (Hp.le_refl _) ⟨rfl, rfl⟩)
  · intro HX hX X Rest hR
    rintro _ _ ⟨rfl, rfl⟩
    intro hU hUp
    refine W_load rfl rfl Proofs.Tryd.isAgg3 rfl (own_at (hR _ (List.mem_cons_self ..)) rfl) ?_
    exact W_end (OneT_end [] (Hp.le_refl _) ⟨rfl, rfl⟩)
  · intro HX hX X Rest hR
    rintro _ _ ⟨rfl, rfl⟩
    intro hU hUp
    refine W_call Proofs.Tryd.call44 rfl rfl rfl (fun w ht => by have h := itoa44_c hz102 ht; exact h) ?_
    rintro _ _ _ ⟨rfl, rfl, rfl⟩
    exact W_end (OneT_end [] (Hp.le_refl _) ⟨rfl, rfl⟩)
  · intro HX hX X Rest hR
    rintro _ _ ⟨rfl, rfl⟩
    intro hU hUp
    refine W_addStr rfl rfl rfl rfl hq103 ?_
    exact W_end (OneT_end [] (Hp.le_refl _) ⟨rfl, rfl⟩)
  · intro HX hX X Rest hR
    intro hU hUp
    refine W_field (o := 1) rfl rfl Proofs.Tryd.runUnderlying30 rfl Proofs.Tryd.sizeOf9 rfl rfl rfl ?_
    exact W_end (OneT_end [] (Hp.le_refl _) ⟨rfl, rfl⟩)
  · intro HX hX X Rest hR
    rintro _ _ ⟨rfl, rfl⟩
    intro hU hUp
    refine W_load rfl rfl Proofs.Tryd.isAgg9 rfl (own_at (hR _ (List.mem_cons_self ..)) rfl) ?_
    exact W_end (OneT_end [] (Hp.le_refl _) ⟨rfl, rfl⟩)
  · intro HX hX X Rest hR
    rintro _ _ ⟨rfl, rfl⟩
    rintro _ _ ⟨rfl, rfl⟩
    intro hU hUp
    refine W_addStr rfl rfl rfl rfl hq104 ?_
    exact W_end (OneT_end [] (Hp.le_refl _) ⟨rfl, rfl⟩)
  · intro HX hX X Rest hR
    rintro _ _ ⟨rfl, rfl⟩
    intro hU hUp
    refine W_addStr rfl rfl rfl rfl hq105 ?_
    exact W_end (OneT_end [] (Hp.le_refl _) ⟨rfl, rfl⟩)
  · intro HX hX X Rest hR
    intro hU hUp
    refine W_field (o := 2) rfl rfl Proofs.Tryd.runUnderlying30 rfl Proofs.Tryd.sizeOf9 rfl rfl rfl ?_
    exact W_end (OneT_end [] (Hp.le_refl _) ⟨rfl, rfl⟩)
  · intro HX hX X Rest hR
    rintro _ _ ⟨rfl, rfl⟩
    intro hU hUp
    refine W_load rfl rfl Proofs.Tryd.isAgg9 rfl (own_at (hR _ (List.mem_cons_self ..)) rfl) ?_
    exact W_end (OneT_end [] (Hp.le_refl _) ⟨rfl, rfl⟩)
  · intro HX hX X Rest hR
    rintro _ _ ⟨rfl, rfl⟩
    rintro _ _ ⟨rfl, rfl⟩
    intro hU hUp
    refine W_addStr rfl rfl rfl rfl hq106 ?_
    exact W_end (OneT_end [] (Hp.le_refl _) ⟨rfl, rfl⟩)
  · intro HX hX X Rest hR
    rintro _ _ ⟨rfl, rfl⟩
    intro hU hUp
    refine W_addStr rfl rfl rfl rfl hq107 ?_
    exact W_end (OneT_end [] (Hp.le_refl _) ⟨rfl, rfl⟩)
  · intro HX hX X Rest hR
    intro hU hUp
    refine W_field (o := 3) rfl rfl Proofs.Tryd.runUnderlying30 rfl Proofs.Tryd.sizeOf3 rfl rfl rfl ?_
    exact W_end (OneT_end [] (Hp.le_refl _) ⟨rfl, rfl⟩)
  · intro HX hX X Rest hR
    rintro _ _ ⟨rfl, rfl⟩
    intro hU hUp
    refine W_load rfl rfl Proofs.Tryd.isAgg3 rfl (own_at (hR _ (List.mem_cons_self ..)) rfl) ?_
    exact W_end (OneT_end [] (Hp.le_refl _) ⟨rfl, rfl⟩)
  · intro HX hX X Rest hR
    rintro _ _ ⟨rfl, rfl⟩
    rintro _ _ ⟨rfl, rfl⟩
    intro hU hUp
    refine W_call Proofs.Tryd.call44 rfl rfl rfl (fun w ht => by have h := itoa44_c hz108 ht; exact h) ?_
    rintro _ _ _ ⟨rfl, rfl, rfl⟩
    exact W_end (OneT_end [] (Hp.le_refl _) ⟨rfl, rfl⟩)
  intro H109 hle110
  rintro _ _ ⟨rfl, rfl⟩
  rintro _ _ ⟨rfl, rfl⟩
  rintro _ _ ⟨rfl, rfl⟩
  rintro _ _ ⟨rfl, rfl⟩
  rintro _ _ ⟨rfl, rfl⟩
  rintro _ _ ⟨rfl, rfl⟩
  rintro _ _ ⟨rfl, rfl⟩
  rintro _ _ ⟨rfl, rfl⟩
  rintro _ _ ⟨rfl, rfl⟩
  rintro _ _ ⟨rfl, rfl⟩
  rintro _ _ ⟨rfl, rfl⟩
  rintro _ _ ⟨rfl, rfl⟩
  rintro _ _ ⟨rfl, rfl⟩
  rintro _ _ ⟨rfl, rfl⟩
  rintro _ _ ⟨rfl, rfl⟩
  obtain ⟨hq111, hm⟩ := need_some hm
  refine W_addStr rfl rfl rfl rfl hq111 ?_
  refine W_assign rfl rfl rfl ?_
  refine W_end ?_
  refine E_then ?_
  refine C_ret ?_
  obtain rfl := Option.some.inj hm
  refine E_drop (List.Sublist.cons _ (List.Sublist.refl _)) ?_
  refine E_weak hle110 ?_
  exact end1 rfl rfl ⟨rfl, rfl, rfl⟩

theorem m_archive_digest_c {B : Nat} {w0 w : World} [Tabs B w0] {H : Hp} {M : List Res} {p0_n : Int} {line : ByteArray} {r : Int} (hm : m_archive_digest p0_n line = some r) (ht : St B w0 H (M) w) :
    Calls Proofs.Tryd.prog 30 [.int .u64 (p0_n), .string (line)].toArray w (Ret B w0 fun H' M' v => H = H' ∧ M = M' ∧ .int .u64 (r) = v) := by
  unfold m_archive_digest at hm
  refine enter Proofs.Tryd.func30 rfl rfl rfl ht ?_
  refine C_seq ?_
  refine C_region ?_
  refine W_assign rfl rfl rfl ?_
  refine W_end ?_
  refine E_then ?_
  refine C_seq ?_
  refine C_seq ?_
  refine C_region ?_
  refine W_move rfl rfl rfl ?_
  obtain ⟨hq101, hm⟩ := need_some hm
  refine W_addStr rfl rfl rfl rfl hq101 ?_
  obtain ⟨hz102, hm⟩ := need_some hm
  refine W_convBytes rfl rfl Proofs.Tryd.runUnderlying9 Proofs.Tryd.runUnderlying45 Proofs.Tryd.runUnderlying5 rfl hz102 ?_
  intro v103 H104 hle105 h106
  refine W_lenR rfl rfl Proofs.Tryd.runUnderlying45 rfl h106 ?_
  refine W_move rfl rfl rfl ?_
  refine W_end ?_
  refine E_then ?_
  refine C_block ?_
  refine C_keep (L' := [(0, .int .u64 (p0_n)), (9, v103), (10, .int .i64 (((bytesL (line ++ (⟨#[10]⟩))).length : Int))), (11, .int .i64 (((0 : Nat) : Int)))]) ⟨rfl, rfl, rfl, rfl, trivial⟩ (List.Perm.refl _) ?_
  refine C_loop (fun n H' M' L' => ∃ (k107 : Nat) (zs120' : List U8), ∃ n112 : Int, (bytesL (line ++ (⟨#[10]⟩))).drop k107 = zs120' ∧ zs120'.length = n ∧ forI (fun k y s115 n => m_archive_digest_b1 k y s115 n) (fun s115 => some s115) k107 zs120' n112 = some r ∧ H104.le H' ∧ M = M' ∧ [(0, .int .u64 (n112)), (9, v103), (10, .int .i64 (((bytesL (line ++ (⟨#[10]⟩))).length : Int))), (11, .int .i64 ((k107 : Int)))] = L') _ ⟨0, _, p0_n, rfl, rfl, hm, (Hp.le_refl _), rfl, rfl⟩ ?_
  rintro _ H113 _ _ ⟨k107, zs120', n112, hd122, rfl, hm, hle114, rfl, rfl⟩
  refine C_seq ?_
  refine C_region ?_
  refine W_bin rfl rfl rfl rfl rfl ?_
  refine W_end (E_then ?_)
  refine C_seq ?_
  refine C_cond (b := decide ((k107 : Int) < ((bytesL (line ++ (⟨#[10]⟩))).length : Int))) rfl (fun hb124 => ?_) (fun hb124 => ?_)
  · obtain ⟨y119, zs120, rfl, hy121, hd123⟩ := rng_t hd122 hb124
    have hm : m_archive_digest_b1 k107 y119 n112 (forI (fun k y s115 n => m_archive_digest_b1 k y s115 n) (fun s115 => some s115) (k107 + 1) zs120) = some r := hm
    generalize hn117 : forI (fun k y s115 n => m_archive_digest_b1 k y s115 n) (fun s115 => some s115) (k107 + 1) zs120 = nx116 at hm
    unfold m_archive_digest_b1 at hm
    refine C_skip (E_then ?_)
    refine C_seq ?_
    refine C_block ?_
    refine C_seq ?_
    refine C_region ?_
    obtain ⟨_, rfl, hc125⟩ := (h106).elem hy121
    refine W_indexS rfl rfl Proofs.Tryd.runUnderlying45 Proofs.Tryd.sizeOf5 rfl (h106.mono hle114) rfl (Int.natCast_nonneg _) hy121 ?_
    refine W_load rfl rfl Proofs.Tryd.isAgg5 rfl (HCells.one (hc125.mono hle114) 0 rfl).at ?_
    refine W_assign rfl rfl rfl ?_
    refine W_end ?_
    refine E_then ?_
    refine C_region ?_
    refine W_move rfl rfl rfl ?_
    refine W_move rfl rfl rfl ?_
    refine W_convInt rfl rfl Proofs.Tryd.runUnderlying5 Proofs.Tryd.runUnderlying42 rfl ?_
    refine W_bin rfl rfl rfl rfl rfl ?_
    refine W_bin rfl rfl rfl rfl rfl ?_
    refine W_assign rfl rfl rfl ?_
    refine W_end ?_
    refine E_normal_block ?_
    refine E_then ?_
    refine C_region ?_
    refine W_bin rfl rfl rfl rfl rfl ?_
    refine W_move rfl rfl rfl ?_
    refine W_end ?_
    exact E_keepJ (E_back (Nat.lt_succ_self _) ⟨k107 + 1, zs120, IntKind.u64.wrap ((IntKind.u64.wrap ((BitVec.ofInt (IntKind.u64).bits n112 ^^^ BitVec.ofInt (IntKind.u64).bits (IntKind.u64.wrap (y119.n))).toNat)) * 1099511628211), hd123, rfl, (by rw [hn117]; exact hm), hle114, rfl, rfl⟩) (List.Perm.refl _) ⟨rfl, rfl, rfl, (congrArg (fun z => some (Value.int .i64 z)) (i64_succ hy121 ((h106.mono hle114)).lenMax)), trivial⟩
  · obtain rfl := rng_f hd122 hb124
    have hm : (some n112) = some r := hm
    refine C_exit (E_exit_then ?_)
    refine E_exit_then ?_
    refine E_exit_hit ?_
    refine E_then ?_
    refine C_seq ?_
    refine C_region ?_
    refine W_move rfl rfl rfl ?_
    refine W_assign rfl rfl rfl ?_
    refine W_end ?_
    refine E_then ?_
    refine C_ret ?_
    obtain rfl := Option.some.inj hm
    refine E_weak (Hp.le_trans hle105 hle114) ?_
    exact end1 rfl rfl ⟨rfl, rfl, rfl⟩

theorem m_math_bits_Len64_c {B : Nat} {w0 w : World} [Tabs B w0] {H : Hp} {M : List Res} {p0_x : Int} {r : Int} (hm : m_math_bits_Len64 p0_x = some r) (ht : St B w0 H (M) w) :
    Calls Proofs.Tryd.prog 71 [.int .u64 (p0_x)].toArray w (Ret B w0 fun H' M' v => H = H' ∧ M = M' ∧ .int .i64 (r) = v) := by
  unfold m_math_bits_Len64 at hm
  refine enter Proofs.Tryd.func71 rfl rfl rfl ht ?_
  refine C_seq ?_
  refine C_region ?_
  refine W_assign rfl rfl rfl ?_
  refine W_end ?_
  refine E_then ?_
  refine C_seq_join (fun H' M' L' => ∃ n102 : Int, ∃ n103 : Int, m_math_bits_Len64_b3 n102 n103 = some r ∧ H = H' ∧ M = M' ∧ [(0, .int .u64 (n102)), (2, .int .i64 (n103))] = L') ?_ (fun J104 => ?_)
  · rintro _ _ _ ⟨n102, n103, hm, rfl, rfl, rfl⟩
    unfold m_math_bits_Len64_b3 at hm
    refine C_seq_join (fun H' M' L' => ∃ n106 : Int, ∃ n107 : Int, m_math_bits_Len64_b2 n106 n107 = some r ∧ H = H' ∧ M = M' ∧ [(0, .int .u64 (n106)), (2, .int .i64 (n107))] = L') ?_ (fun J108 => ?_)
    · rintro _ _ _ ⟨n106, n107, hm, rfl, rfl, rfl⟩
      unfold m_math_bits_Len64_b2 at hm
      refine C_seq_join (fun H' M' L' => ∃ n110 : Int, ∃ n111 : Int, m_math_bits_Len64_b1 n110 n111 = some r ∧ H = H' ∧ M = M' ∧ [(0, .int .u64 (n110)), (2, .int .i64 (n111))] = L') ?_ (fun J112 => ?_)
      · rintro _ _ _ ⟨n110, n111, hm, rfl, rfl, rfl⟩
        unfold m_math_bits_Len64_b1 at hm
        refine C_seq ?_
        refine C_region ?_
        refine W_move rfl rfl rfl ?_
        refine W_move rfl rfl rfl ?_
        refine W_convInt rfl rfl Proofs.Tryd.runUnderlying42 Proofs.Tryd.runUnderlying5 rfl ?_
        obtain ⟨y113, h114, he115, hm⟩ := idx_some hm
        refine W_indexStr rfl rfl Proofs.Tryd.runUnderlying9 rfl rfl h114 he115 ?_
        refine W_convInt rfl rfl Proofs.Tryd.runUnderlying5 Proofs.Tryd.runUnderlying3 rfl ?_
        refine W_bin rfl rfl rfl rfl rfl ?_
        refine W_assign rfl rfl rfl ?_
        refine W_end ?_
        refine E_then ?_
        refine C_ret ?_
        obtain rfl := Option.some.inj hm
        refine E_weak (Hp.le_refl _) ?_
        exact end1 rfl rfl ⟨rfl, rfl, rfl⟩
      · refine C_seq ?_
        refine C_region ?_
        refine W_move rfl rfl rfl ?_
        refine W_bin rfl rfl rfl rfl rfl ?_
        refine W_end ?_
        refine E_then ?_
        refine C_cond (b := decide (256 ≤ n106)) rfl (fun hb116 => ?_) (fun hb116 => ?_)
        · have hm := ite_t' hb116 hm
          refine C_seq ?_
          refine C_region ?_
          refine W_move rfl rfl rfl ?_
          refine W_shr rfl rfl rfl rfl (by decide) ?_
          refine W_assign rfl rfl rfl ?_
          refine W_end ?_
          refine E_then ?_
          refine C_region ?_
          refine W_move rfl rfl rfl ?_
          refine W_bin rfl rfl rfl rfl rfl ?_
          refine W_assign rfl rfl rfl ?_
          refine W_end ?_
          exact E_keepJ (J112 _ _ _ ⟨shrV .u64 n106 8, IntKind.i64.wrap (n107 + 8), hm, rfl, rfl, rfl⟩) (List.Perm.refl _) ⟨rfl, rfl, trivial⟩
        · have hm := ite_f' hb116 hm
          refine C_skip ?_
          exact E_keepJ (J112 _ _ _ ⟨n106, n107, hm, rfl, rfl, rfl⟩) (List.Perm.refl _) ⟨rfl, rfl, trivial⟩
    · refine C_seq ?_
      refine C_region ?_
      refine W_move rfl rfl rfl ?_
      refine W_bin rfl rfl rfl rfl rfl ?_
      refine W_end ?_
      refine E_then ?_
      refine C_cond (b := decide (65536 ≤ n102)) rfl (fun hb117 => ?_) (fun hb117 => ?_)
      · have hm := ite_t' hb117 hm
        refine C_seq ?_
        refine C_region ?_
        refine W_move rfl rfl rfl ?_
        refine W_shr rfl rfl rfl rfl (by decide) ?_
        refine W_assign rfl rfl rfl ?_
        refine W_end ?_
        refine E_then ?_
        refine C_region ?_
        refine W_move rfl rfl rfl ?_
        refine W_bin rfl rfl rfl rfl rfl ?_
        refine W_assign rfl rfl rfl ?_
        refine W_end ?_
        exact E_keepJ (J108 _ _ _ ⟨shrV .u64 n102 16, IntKind.i64.wrap (n103 + 16), hm, rfl, rfl, rfl⟩) (List.Perm.refl _) ⟨rfl, rfl, trivial⟩
      · have hm := ite_f' hb117 hm
        refine C_skip ?_
        exact E_keepJ (J108 _ _ _ ⟨n102, n103, hm, rfl, rfl, rfl⟩) (List.Perm.refl _) ⟨rfl, rfl, trivial⟩
  · refine C_seq ?_
    refine C_region ?_
    refine W_move rfl rfl rfl ?_
    refine W_bin rfl rfl rfl rfl rfl ?_
    refine W_end ?_
    refine E_then ?_
    refine C_cond (b := decide (4294967296 ≤ p0_x)) rfl (fun hb118 => ?_) (fun hb118 => ?_)
    · have hm := ite_t' hb118 hm
      refine C_seq ?_
      refine C_region ?_
      refine W_move rfl rfl rfl ?_
      refine W_shr rfl rfl rfl rfl (by decide) ?_
      refine W_assign rfl rfl rfl ?_
      refine W_end ?_
      refine E_then ?_
      refine C_region ?_
      refine W_assign rfl rfl rfl ?_
      refine W_end ?_
      exact E_keepJ (J104 _ _ _ ⟨shrV .u64 p0_x 32, 32, hm, rfl, rfl, rfl⟩) (List.Perm.refl _) ⟨rfl, rfl, trivial⟩
    · have hm := ite_f' hb118 hm
      refine C_skip ?_
      exact E_keepJ (J104 _ _ _ ⟨p0_x, 0, hm, rfl, rfl, rfl⟩) (List.Perm.refl _) ⟨rfl, rfl, trivial⟩

theorem m_internal_strconv_log10Pow2_c {B : Nat} {w0 w : World} [Tabs B w0] {H : Hp} {M : List Res} {p0_x : Int} {r : Int} (hm : m_internal_strconv_log10Pow2 p0_x = r) (ht : St B w0 H (M) w) :
    Calls Proofs.Tryd.prog 70 [.int .i64 (p0_x)].toArray w (Ret B w0 fun H' M' v => H = H' ∧ M = M' ∧ .int .i64 (r) = v) := by
  unfold m_internal_strconv_log10Pow2 at hm
  refine enter Proofs.Tryd.func70 rfl rfl rfl ht ?_
  refine C_seq ?_
  refine C_region ?_
  refine W_assign rfl rfl rfl ?_
  refine W_end ?_
  refine E_then ?_
  refine C_seq ?_
  refine C_region ?_
  refine W_move rfl rfl rfl ?_
  refine W_bin rfl rfl rfl rfl rfl ?_
  refine W_shr rfl rfl rfl rfl (by decide) ?_
  refine W_assign rfl rfl rfl ?_
  refine W_end ?_
  refine E_then ?_
  refine C_ret ?_
  obtain rfl := hm
  refine E_weak (Hp.le_refl _) ?_
  exact end1 rfl rfl ⟨rfl, rfl, rfl⟩

theorem m_internal_strconv_bool2_int_c {B : Nat} {w0 w : World} [Tabs B w0] {H : Hp} {M : List Res} {p0_b : Bool} {r : Int} (hm : m_internal_strconv_bool2_int p0_b = r) (ht : St B w0 H (M) w) :
    Calls Proofs.Tryd.prog 72 [.bool (p0_b)].toArray w (Ret B w0 fun H' M' v => H = H' ∧ M = M' ∧ .int .i64 (r) = v) := by
  unfold m_internal_strconv_bool2_int at hm
  refine enter Proofs.Tryd.func72 rfl rfl rfl ht ?_
  refine C_seq ?_
  refine C_region ?_
  refine W_assign rfl rfl rfl ?_
  refine W_end ?_
  refine E_then ?_
  refine C_seq ?_
  refine C_seq ?_
  refine C_region ?_
  refine W_move rfl rfl rfl ?_
  refine W_end ?_
  refine E_then ?_
  refine C_cond (b := p0_b) rfl (fun hb101 => ?_) (fun hb101 => ?_)
  · have hm := ite_t' hb101 hm
    refine C_seq ?_
    refine C_region ?_
    refine W_assign rfl rfl rfl ?_
    refine W_end ?_
    refine E_then ?_
    refine C_ret ?_
    refine E_ret_then ?_
    obtain rfl := hm
    refine E_weak (Hp.le_refl _) ?_
    exact end1 rfl rfl ⟨rfl, rfl, rfl⟩
  · have hm := ite_f' hb101 hm
    refine C_skip ?_
    refine E_then ?_
    refine C_seq ?_
    refine C_region ?_
    refine W_assign rfl rfl rfl ?_
    refine W_end ?_
    refine E_then ?_
    refine C_ret ?_
    obtain rfl := hm
    refine E_weak (Hp.le_refl _) ?_
    exact end1 rfl rfl ⟨rfl, rfl, rfl⟩

theorem m_internal_strconv_numDigits_c {B : Nat} {w0 w : World} [Tabs B w0] {H : Hp} {M : List Res} {p0_d : Int} {r : Int} (hm : m_internal_strconv_numDigits p0_d = some r) (ht : St B w0 H (M) w) :
    Calls Proofs.Tryd.prog 58 [.int .u64 (p0_d)].toArray w (Ret B w0 fun H' M' v => H = H' ∧ M = M' ∧ .int .i64 (r) = v) := by
  unfold m_internal_strconv_numDigits at hm
  refine enter Proofs.Tryd.func58 rfl rfl rfl ht ?_
  refine C_seq ?_
  refine C_region ?_
  refine W_assign rfl rfl rfl ?_
  refine W_end ?_
  refine E_then ?_
  refine C_seq ?_
  refine C_region ?_
  refine W_move rfl rfl rfl ?_
  obtain ⟨r101, hc102, hm⟩ := bind_some hm
  refine W_call Proofs.Tryd.call71 rfl rfl rfl (fun w ht => by have h := m_math_bits_Len64_c (hm := hc102)  ht; exact h) ?_
  rintro _ _ _ ⟨rfl, rfl, rfl⟩
  refine W_call Proofs.Tryd.call70 rfl rfl rfl (fun w ht => by have h := m_internal_strconv_log10Pow2_c (hm := (rfl : m_internal_strconv_log10Pow2 r101 = _))  ht; exact h) ?_
  rintro _ _ _ ⟨rfl, rfl, rfl⟩
  refine W_assign rfl rfl rfl ?_
  refine W_end ?_
  refine E_then ?_
  refine C_seq ?_
  refine C_region ?_
  refine W_move rfl rfl rfl ?_
  refine W_move rfl rfl rfl ?_
  refine W_move rfl rfl rfl ?_
  obtain ⟨y103, h104, he105, hm⟩ := idx_some hm
  refine W_indexAd rfl rfl Proofs.Tryd.runUnderlying101 Proofs.Tryd.sizeOf42 rfl rfl h104 (List.getElem?_eq_some_iff.1 he105).1 ?_
  refine W_load rfl rfl Proofs.Tryd.isAgg42 rfl (tab_at (Tabs.t3 (B := B) (w0 := w0)) gn3 (Tabs.below (w0 := w0) rfl) he105) ?_
  refine W_bin rfl rfl rfl rfl rfl ?_
  refine W_call Proofs.Tryd.call72 rfl rfl rfl (fun w ht => by have h := m_internal_strconv_bool2_int_c (hm := (rfl : m_internal_strconv_bool2_int (decide (y103 ≤ p0_d)) = _))  ht; exact h) ?_
  rintro _ _ _ ⟨rfl, rfl, rfl⟩
  refine W_bin rfl rfl rfl rfl rfl ?_
  refine W_assign rfl rfl rfl ?_
  refine W_end ?_
  refine E_then ?_
  refine C_ret ?_
  obtain rfl := Option.some.inj hm
  refine E_weak (Hp.le_refl _) ?_
  exact end1 rfl rfl ⟨rfl, rfl, rfl⟩

theorem m_internal_strconv_isPowerOfTwo_c {B : Nat} {w0 w : World} [Tabs B w0] {H : Hp} {M : List Res} {p0_x : Int} {r : Bool} (hm : m_internal_strconv_isPowerOfTwo p0_x = r) (ht : St B w0 H (M) w) :
    Calls Proofs.Tryd.prog 73 [.int .i64 (p0_x)].toArray w (Ret B w0 fun H' M' v => H = H' ∧ M = M' ∧ .bool (r) = v) := by
  unfold m_internal_strconv_isPowerOfTwo at hm
  refine enter Proofs.Tryd.func73 rfl rfl rfl ht ?_
  refine C_seq ?_
  refine C_region ?_
  refine W_assign rfl rfl rfl ?_
  refine W_end ?_
  refine E_then ?_
  refine C_seq ?_
  refine C_region ?_
  refine W_move rfl rfl rfl ?_
  refine W_move rfl rfl rfl ?_
  refine W_bin rfl rfl rfl rfl rfl ?_
  refine W_bin rfl rfl rfl rfl rfl ?_
  refine W_bin rfl rfl rfl rfl rfl ?_
  refine W_assign rfl rfl rfl ?_
  refine W_end ?_
  refine E_then ?_
  refine C_ret ?_
  obtain rfl := hm
  refine E_weak (Hp.le_refl _) ?_
  exact end1 rfl rfl ⟨rfl, rfl, rfl⟩

theorem m_math_bits_TrailingZeros64_c {B : Nat} {w0 w : World} [Tabs B w0] {H : Hp} {M : List Res} {p0_x : Int} {r : Int} (hm : m_math_bits_TrailingZeros64 p0_x = some r) (ht : St B w0 H (M) w) :
    Calls Proofs.Tryd.prog 81 [.int .u64 (p0_x)].toArray w (Ret B w0 fun H' M' v => H = H' ∧ M = M' ∧ .int .i64 (r) = v) := by
  unfold m_math_bits_TrailingZeros64 at hm
  refine enter Proofs.Tryd.func81 rfl rfl rfl ht ?_
  refine C_seq ?_
  refine C_region ?_
  refine W_assign rfl rfl rfl ?_
  refine W_end ?_
  refine E_then ?_
  refine C_seq ?_
  refine C_seq ?_
  refine C_region ?_
  refine W_move rfl rfl rfl ?_
  refine W_bin rfl rfl rfl rfl rfl ?_
  refine W_end ?_
  refine E_then ?_
  refine C_cond (b := decide (p0_x = 0)) rfl (fun hb101 => ?_) (fun hb101 => ?_)
  · have hm := ite_t' hb101 hm
    refine C_seq ?_
    refine C_region ?_
    refine W_assign rfl rfl rfl ?_
    refine W_end ?_
    refine E_then ?_
    refine C_ret ?_
    refine E_ret_then ?_
    obtain rfl := Option.some.inj hm
    refine E_weak (Hp.le_refl _) ?_
    exact end1 rfl rfl ⟨rfl, rfl, rfl⟩
  · have hm := ite_f' hb101 hm
    refine C_skip ?_
    refine E_then ?_
    refine C_seq ?_
    refine C_region ?_
    refine W_move rfl rfl rfl ?_
    refine W_move rfl rfl rfl ?_
    refine W_un rfl rfl rfl rfl ?_
    refine W_bin rfl rfl rfl rfl rfl ?_
    refine W_bin rfl rfl rfl rfl rfl ?_
    refine W_shr rfl rfl rfl rfl (by decide) ?_
    obtain ⟨y102, h103, he104, hm⟩ := idx_some hm
    refine W_indexAd rfl rfl Proofs.Tryd.runUnderlying116 Proofs.Tryd.sizeOf5 rfl rfl h103 (List.getElem?_eq_some_iff.1 he104).1 ?_
    refine W_load rfl rfl Proofs.Tryd.isAgg5 rfl (tab_at (Tabs.t7 (B := B) (w0 := w0)) gn7 (Tabs.below (w0 := w0) rfl) he104) ?_
    refine W_convInt rfl rfl Proofs.Tryd.runUnderlying5 Proofs.Tryd.runUnderlying3 rfl ?_
    refine W_assign rfl rfl rfl ?_
    refine W_end ?_
    refine E_then ?_
    refine C_ret ?_
    obtain rfl := Option.some.inj hm
    refine E_weak (Hp.le_refl _) ?_
    exact end1 rfl rfl ⟨rfl, rfl, rfl⟩

theorem m_math_bits_TrailingZeros_c {B : Nat} {w0 w : World} [Tabs B w0] {H : Hp} {M : List Res} {p0_x : Int} {r : Int} (hm : m_math_bits_TrailingZeros p0_x = some r) (ht : St B w0 H (M) w) :
    Calls Proofs.Tryd.prog 74 [.int .u64 (p0_x)].toArray w (Ret B w0 fun H' M' v => H = H' ∧ M = M' ∧ .int .i64 (r) = v) := by
  unfold m_math_bits_TrailingZeros at hm
  refine enter Proofs.Tryd.func74 rfl rfl rfl ht ?_
  refine C_seq ?_
  refine C_region ?_
  refine W_assign rfl rfl rfl ?_
  refine W_end ?_
  refine E_then ?_
  refine C_seq ?_
  refine C_cond (b := false) rfl (fun hb => Bool.noConfusion hb) (fun _ => ?_)
  refine C_skip ?_
  refine E_then ?_
  refine C_seq ?_
  refine C_region ?_
  refine W_move rfl rfl rfl ?_
  obtain ⟨r101, hc102, hm⟩ := bind_some hm
  refine W_call Proofs.Tryd.call81 rfl rfl rfl (fun w ht => by have h := m_math_bits_TrailingZeros64_c (hm := hc102)  ht; exact h) ?_
  rintro _ _ _ ⟨rfl, rfl, rfl⟩
  refine W_assign rfl rfl rfl ?_
  refine W_end ?_
  refine E_then ?_
  refine C_ret ?_
  obtain rfl := Option.some.inj hm
  refine E_weak (Hp.le_refl _) ?_
  exact end1 rfl rfl ⟨rfl, rfl, rfl⟩

theorem m_internal_strconv_formatBits_c {B : Nat} {w0 w : World} [Tabs B w0] {H : Hp} {M : List Res} {dst : (List U8)} {p1_u : Int} {base : Int} {neg : Bool} {append_ : Bool} {v0 : Value} {r : (List U8) × ByteArray} (hm : m_internal_strconv_formatBits dst p1_u base neg append_ = some r) (h0 : RdS H v0 dst) (ht : St B w0 H (M) w) :
    Calls Proofs.Tryd.prog 60 [v0, .int .u64 (p1_u), .int .i64 (base), .bool (neg), .bool (append_)].toArray w (Ret B w0 fun H' M' v => H = H' ∧ ∃ qv0 : Value, ∃ qxs0 : List Value, .row qv0 5 (Rep.sz U8) r.1.length qxs0 :: M = M' ∧ .tuple #[qv0, .string (r.2)] = v ∧ RwF qv0 qxs0 r.1) := by
  unfold m_internal_strconv_formatBits at hm
  refine enter Proofs.Tryd.func60 rfl rfl rfl ht ?_
  refine C_seq ?_
  refine C_region ?_
  refine W_assign rfl rfl rfl ?_
  refine W_assign rfl rfl rfl ?_
  refine W_end ?_
  refine E_then ?_
  refine C_seq ?_
  refine C_seq_join (fun H' M' L' => H = H' ∧ M = M' ∧ [(0, v0), (1, .int .u64 (p1_u)), (2, .int .i64 (base)), (3, .bool (neg)), (4, .bool (append_)), (10, .slice none 0 0), (11, .string (⟨#[]⟩)), (28, .bool (((decide (base < 2)) || (decide (base = 10))) || (decide (36 < base))))] = L') ?_ (fun J103 => ?_)
  · rintro _ _ _ ⟨rfl, rfl, rfl⟩
    refine C_cond (b := ((decide (base < 2)) || (decide (base = 10))) || (decide (36 < base))) rfl (fun hb104 => ?_) (fun hb104 => ?_)
    · have hm := ite_t' hb104 hm
      cases hm
    · have hm := ite_f' hb104 hm
      refine C_skip ?_
      refine E_then ?_
      refine C_seq ?_
      refine C_region ?_
      refine W_allocArr (α := U8) (z := .agg ((List.replicate 65 (0 : Int)).map (Value.int .u8)).toArray) (cs := (List.replicate 65 (0 : Int)).map (Value.int .u8)) (l := List.replicate 65 (⟨0⟩ : U8)) (n := 65) rfl rfl (fun _ => by kernel_rfl) (by kernel_rfl) (RdC.zeros _ _) (by kernel_rfl) rfl ?_
      intro v105 hr106
      have hl107 : (List.replicate 65 (⟨0⟩ : U8)).length = 65 := by first | rfl | (simp only [List.length_set, List.length_replicate, *])
      refine W_end ?_
      refine E_then ?_
      refine C_seq ?_
      refine C_region ?_
      refine W_assign rfl rfl rfl ?_
      refine W_end ?_
      refine E_then ?_
      refine C_seq_join (fun H' M' L' => ∃ n109 : Int, m_internal_strconv_formatBits_b15 base neg append_ n109 = some r ∧ H = H' ∧ .row v105 102 (Rep.sz U8) (List.replicate 65 (⟨0⟩ : U8)).length ((List.replicate 65 (0 : Int)).map (Value.int .u8)) :: M = M' ∧ [(0, v0), (1, .int .u64 (n109)), (2, .int .i64 (base)), (3, .bool (neg)), (4, .bool (append_)), (10, .slice none 0 0), (11, .string (⟨#[]⟩)), (12, .pointer (some (Value.base v105))), (13, .int .i64 (65))] = L') ?_ (fun J110 => ?_)
      · rintro _ _ _ ⟨n109, hm, rfl, rfl, rfl⟩
        unfold m_internal_strconv_formatBits_b15 at hm
        refine C_seq_join (fun H' M' L' => ∃ n440 : Int, ∃ l442 : List U8, ∃ xs441 : List Value, m_internal_strconv_formatBits_b8 neg append_ n440 l442 = some r ∧ Rw H' v105 xs441 l442 ∧ l442.length = 65 ∧ H.le H' ∧ .row v105 102 (Rep.sz U8) l442.length xs441 :: M = M' ∧ [(0, v0), (3, .bool (neg)), (4, .bool (append_)), (10, .slice none 0 0), (11, .string (⟨#[]⟩)), (12, .pointer (some (Value.base v105))), (13, .int .i64 (n440))] = L') ?_ (fun J447 => ?_)
        · rintro H445 _ _ ⟨n440, l442, xs441, hm, hr443, hl444, hle446, rfl, rfl⟩
          unfold m_internal_strconv_formatBits_b8 at hm
          refine C_seq_join (fun H' M' L' => ∃ n458 : Int, ∃ l460 : List U8, ∃ xs459 : List Value, m_internal_strconv_formatBits_b7 append_ n458 l460 = some r ∧ Rw H' v105 xs459 l460 ∧ l460.length = 65 ∧ H445 = H' ∧ .row v105 102 (Rep.sz U8) l460.length xs459 :: M = M' ∧ [(0, v0), (4, .bool (append_)), (10, .slice none 0 0), (11, .string (⟨#[]⟩)), (12, .pointer (some (Value.base v105))), (13, .int .i64 (n458))] = L') ?_ (fun J463 => ?_)
          · rintro _ _ _ ⟨n458, l460, xs459, hm, hr461, hl462, rfl, rfl, rfl⟩
            unfold m_internal_strconv_formatBits_b7 at hm
            refine C_seq ?_
            refine C_seq ?_
            refine C_region ?_
            refine W_move rfl rfl rfl ?_
            refine W_end ?_
            refine E_then ?_
            refine C_cond (b := append_) rfl (fun hb464 => ?_) (fun hb464 => ?_)
            · have hm := ite_t' hb464 hm
              refine C_seq ?_
              cases hm
            · have hm := ite_f' hb464 hm
              refine C_skip ?_
              refine E_then ?_
              refine C_seq ?_
              refine C_region ?_
              refine W_move rfl rfl rfl ?_
              obtain ⟨hz471, hm⟩ := need_some hm
              refine W_freeze (hr461).rd rfl (fun H472 hle473 h474 => ?_)
              refine W_sliceArr (n := 65) rfl rfl Proofs.Tryd.runUnderlying102 Proofs.Tryd.sizeOf5 rfl rfl h474 hl462 (by decide) hz471.1 hz471.2 ?_
              intro v475 h476
              refine W_convToStr rfl rfl Proofs.Tryd.underlying45 Proofs.Tryd.underlying5 Proofs.Tryd.underlying9 rfl h476 ?_
              refine W_assign rfl rfl rfl ?_
              refine W_end ?_
              refine E_then ?_
              refine C_ret ?_
              refine E_nilRow 5 (Rep.sz U8) ?_
              obtain rfl := Option.some.inj hm
              refine E_weak (Hp.le_trans hle446 hle473) ?_
              exact end2 rfl rfl rfl ⟨rfl, (.slice none 0 0), [], rfl, rfl, (Rw.nil (H := H)).toF⟩
          · refine C_seq ?_
            refine C_region ?_
            refine W_move rfl rfl rfl ?_
            refine W_end ?_
            refine E_then ?_
            refine C_cond (b := neg) rfl (fun hb477 => ?_) (fun hb477 => ?_)
            · have hm := ite_t' hb477 hm
              refine C_seq ?_
              refine C_region ?_
              refine W_move rfl rfl rfl ?_
              refine W_bin rfl rfl rfl rfl rfl ?_
              refine W_assign rfl rfl rfl ?_
              refine W_end ?_
              refine E_then ?_
              refine C_region ?_
              refine W_move rfl rfl rfl ?_
              obtain ⟨y478, h479, he480, hm⟩ := idx_some hm
              refine W_indexArr (List.mem_cons_self ..) rfl rfl Proofs.Tryd.runUnderlying102 Proofs.Tryd.sizeOf5 hl444 rfl rfl h479 (List.getElem?_eq_some_iff.1 he480).1 ?_
              obtain ⟨_, rfl, hg481⟩ := (hr443).elem he480
              obtain ⟨hr482, he483, hg484⟩ := Rw.put (cs := [.int .u8 (45)]) (o := 0) (c := [.int .u8 (y478.n)]) (out := [.int .u8 (45)]) (e2 := ⟨45⟩) hr443 he480 rfl hg481 rfl rfl rfl
              refine W_storeO2 (i := (IntKind.i64.wrap (n440 - 1) : Int).toNat * Rep.sz U8 + 0) (cs := [.int .u8 (45)]) rfl Proofs.Tryd.sizeOf5 rfl (row_ad0 _ _) rfl rfl rfl (Rw.room hr443 he480 rfl) rfl (all_cons rfl all_nil) (n' := (l442.set ((IntKind.i64.wrap (n440 - 1) : Int).toNat) ⟨45⟩).length) List.length_set ?_
              generalize over xs441 ((IntKind.i64.wrap (n440 - 1) : Int).toNat * Rep.sz U8 + 0) [.int .u8 (45)] = xs485 at hr482 hg484 ⊢
              have hl486 : (l442.set ((IntKind.i64.wrap (n440 - 1) : Int).toNat) ⟨45⟩).length = 65 := by rw [List.length_set]; exact hl444
              refine W_end ?_
              exact E_keepJ (J463 _ _ _ ⟨IntKind.i64.wrap (n440 - 1), (l442.set ((IntKind.i64.wrap (n440 - 1) : Int).toNat) ⟨45⟩), xs485, hm, hr482, hl486, rfl, rfl, rfl⟩) (List.Perm.refl _) ⟨rfl, rfl, rfl, rfl, rfl, rfl, trivial⟩
            · have hm := ite_f' hb477 hm
              refine C_skip ?_
              exact E_keepJ (J463 _ _ _ ⟨n440, l442, xs441, hm, hr443, hl444, rfl, rfl, rfl⟩) (List.Perm.refl _) ⟨rfl, rfl, rfl, rfl, rfl, rfl, trivial⟩
        · refine C_seq ?_
          refine C_region ?_
          refine W_move rfl rfl rfl ?_
          refine W_call Proofs.Tryd.call73 rfl rfl rfl (fun w ht => by have h := m_internal_strconv_isPowerOfTwo_c (hm := (rfl : m_internal_strconv_isPowerOfTwo base = _))  ht; exact h) ?_
          rintro _ _ _ ⟨rfl, rfl, rfl⟩
          refine W_end ?_
          refine E_then ?_
          refine C_cond (b := (m_internal_strconv_isPowerOfTwo base)) rfl (fun hb487 => ?_) (fun hb487 => ?_)
          · have hm := ite_t' hb487 hm
            refine C_seq ?_
            refine C_region ?_
            refine W_move rfl rfl rfl ?_
            refine W_convInt rfl rfl Proofs.Tryd.runUnderlying3 Proofs.Tryd.runUnderlying90 rfl ?_
            obtain ⟨r488, hc489, hm⟩ := bind_some hm
            refine W_call Proofs.Tryd.call74 rfl rfl rfl (fun w ht => by have h := m_math_bits_TrailingZeros_c (hm := hc489)  ht; exact h) ?_
            rintro _ _ _ ⟨rfl, rfl, rfl⟩
            refine W_convInt rfl rfl Proofs.Tryd.runUnderlying3 Proofs.Tryd.runUnderlying90 rfl ?_
            refine W_assign rfl rfl rfl ?_
            refine W_end ?_
            refine E_then ?_
            refine C_seq ?_
            refine C_region ?_
            refine W_move rfl rfl rfl ?_
            refine W_convInt rfl rfl Proofs.Tryd.runUnderlying3 Proofs.Tryd.runUnderlying42 rfl ?_
            refine W_assign rfl rfl rfl ?_
            refine W_end ?_
            refine E_then ?_
            refine C_seq ?_
            refine C_region ?_
            refine W_move rfl rfl rfl ?_
            refine W_convInt rfl rfl Proofs.Tryd.runUnderlying3 Proofs.Tryd.runUnderlying90 rfl ?_
            refine W_bin rfl rfl rfl rfl rfl ?_
            refine W_assign rfl rfl rfl ?_
            refine W_end ?_
            refine E_then ?_
            refine C_seq_join (fun H' M' L' => ∃ n561 : Int, ∃ n562 : Int, ∃ l564 : List U8, ∃ xs563 : List Value, m_internal_strconv_formatBits_b10 neg append_ n561 n562 l564 = some r ∧ Rw H' v105 xs563 l564 ∧ l564.length = 65 ∧ H.le H' ∧ .row v105 102 (Rep.sz U8) l564.length xs563 :: M = M' ∧ [(0, v0), (1, .int .u64 (n561)), (3, .bool (neg)), (4, .bool (append_)), (10, .slice none 0 0), (11, .string (⟨#[]⟩)), (12, .pointer (some (Value.base v105))), (13, .int .i64 (n562))] = L') ?_ (fun J569 => ?_)
            · rintro H567 _ _ ⟨n561, n562, l564, xs563, hm, hr565, hl566, hle568, rfl, rfl⟩
              unfold m_internal_strconv_formatBits_b10 at hm
              refine C_seq ?_
              refine C_region ?_
              refine W_move rfl rfl rfl ?_
              refine W_bin rfl rfl rfl rfl rfl ?_
              refine W_assign rfl rfl rfl ?_
              refine W_end ?_
              refine E_then ?_
              refine C_region ?_
              refine W_move rfl rfl rfl ?_
              refine W_move rfl rfl rfl ?_
              obtain ⟨y570, h571, he572, hm⟩ := idx_some hm
              refine W_indexStr rfl rfl Proofs.Tryd.runUnderlying9 rfl rfl h571 he572 ?_
              obtain ⟨y573, h574, he575, hm⟩ := idx_some hm
              refine W_indexArr (List.mem_cons_self ..) rfl rfl Proofs.Tryd.runUnderlying102 Proofs.Tryd.sizeOf5 hl566 rfl rfl h574 (List.getElem?_eq_some_iff.1 he575).1 ?_
              obtain ⟨_, rfl, hg576⟩ := (hr565).elem he575
              obtain ⟨hr577, he578, hg579⟩ := Rw.put (cs := [.int .u8 (y570.n)]) (o := 0) (c := [.int .u8 (y573.n)]) (out := [.int .u8 (y570.n)]) (e2 := y570) hr565 he575 rfl hg576 rfl rfl rfl
              refine W_storeO2 (i := (IntKind.i64.wrap (n562 - 1) : Int).toNat * Rep.sz U8 + 0) (cs := [.int .u8 (y570.n)]) rfl Proofs.Tryd.sizeOf5 rfl (row_ad0 _ _) rfl rfl rfl (Rw.room hr565 he575 rfl) rfl (all_cons rfl all_nil) (n' := (l564.set ((IntKind.i64.wrap (n562 - 1) : Int).toNat) y570).length) List.length_set ?_
              generalize over xs563 ((IntKind.i64.wrap (n562 - 1) : Int).toNat * Rep.sz U8 + 0) [.int .u8 (y570.n)] = xs580 at hr577 hg579 ⊢
              have hl581 : (l564.set ((IntKind.i64.wrap (n562 - 1) : Int).toNat) y570).length = 65 := by rw [List.length_set]; exact hl566
              refine W_end ?_
              exact E_keepJ (J447 _ _ _ ⟨IntKind.i64.wrap (n562 - 1), (l564.set ((IntKind.i64.wrap (n562 - 1) : Int).toNat) y570), xs580, hm, hr577, hl581, hle568, rfl, rfl⟩) (List.Perm.refl _) ⟨rfl, rfl, rfl, rfl, rfl, rfl, rfl, trivial⟩
            · refine C_block ?_
              refine C_keep (L' := [(0, v0), (1, .int .u64 (n109)), (3, .bool (neg)), (4, .bool (append_)), (10, .slice none 0 0), (11, .string (⟨#[]⟩)), (12, .pointer (some (Value.base v105))), (13, .int .i64 (65)), (14, .int .u64 (IntKind.u64.wrap (r488))), (15, .int .u64 (IntKind.u64.wrap (base))), (16, .int .u64 (IntKind.u64.wrap ((IntKind.u64.wrap (base)) - 1)))]) ⟨rfl, rfl, rfl, rfl, rfl, rfl, rfl, rfl, rfl, rfl, rfl, trivial⟩ (List.Perm.refl _) ?_
              refine C_loop (fun n H' M' L' => ∃ n622 : Int, ∃ n623 : Int, ∃ l625 : List U8, ∃ xs624 : List Value, loopF (fun s630 n => m_internal_strconv_formatBits_b11 base neg append_ r488 s630.1 s630.2.1 s630.2.2 n) n (n622, n623, l625) = some r ∧ Rw H' v105 xs624 l625 ∧ l625.length = 65 ∧ H.le H' ∧ .row v105 102 (Rep.sz U8) l625.length xs624 :: M = M' ∧ [(0, v0), (1, .int .u64 (n622)), (3, .bool (neg)), (4, .bool (append_)), (10, .slice none 0 0), (11, .string (⟨#[]⟩)), (12, .pointer (some (Value.base v105))), (13, .int .i64 (n623)), (14, .int .u64 (IntKind.u64.wrap (r488))), (15, .int .u64 (IntKind.u64.wrap (base))), (16, .int .u64 (IntKind.u64.wrap ((IntKind.u64.wrap (base)) - 1)))] = L') FUEL ⟨n109, 65, (List.replicate 65 (⟨0⟩ : U8)), ((List.replicate 65 (0 : Int)).map (Value.int .u8)), hm, hr106, hl107, (Hp.le_refl _), rfl, rfl⟩ ?_
              rintro n633 H628 _ _ ⟨n622, n623, l625, xs624, hm, hr626, hl627, hle629, rfl, rfl⟩
              cases n633 with
              | zero => cases hm
              | succ n633 =>
                have hm : m_internal_strconv_formatBits_b11 base neg append_ r488 n622 n623 l625 (loopF (fun s630 n => m_internal_strconv_formatBits_b11 base neg append_ r488 s630.1 s630.2.1 s630.2.2 n) n633) = some r := hm
                generalize hn632 : loopF (fun s630 n => m_internal_strconv_formatBits_b11 base neg append_ r488 s630.1 s630.2.1 s630.2.2 n) n633 = nx631 at hm
                unfold m_internal_strconv_formatBits_b11 at hm
                refine C_seq ?_
                refine C_seq ?_
                refine C_region ?_
                refine W_move rfl rfl rfl ?_
                refine W_move rfl rfl rfl ?_
                refine W_bin rfl rfl rfl rfl rfl ?_
                refine W_end ?_
                refine E_then ?_
                refine C_cond (b := decide ((IntKind.u64.wrap (base)) ≤ n622)) rfl (fun hb639 => ?_) (fun hb639 => ?_)
                · have hm := ite_t' hb639 hm
                  refine C_skip ?_
                  refine E_then ?_
                  refine C_block ?_
                  refine C_seq ?_
                  refine C_region ?_
                  refine W_move rfl rfl rfl ?_
                  refine W_bin rfl rfl rfl rfl rfl ?_
                  refine W_assign rfl rfl rfl ?_
                  refine W_end ?_
                  refine E_then ?_
                  refine C_seq ?_
                  refine C_region ?_
                  refine W_move rfl rfl rfl ?_
                  refine W_move rfl rfl rfl ?_
                  refine W_move rfl rfl rfl ?_
                  refine W_bin rfl rfl rfl rfl rfl ?_
                  obtain ⟨y640, h641, he642, hm⟩ := idx_some hm
                  refine W_indexStr rfl rfl Proofs.Tryd.runUnderlying9 rfl rfl h641 he642 ?_
                  obtain ⟨y643, h644, he645, hm⟩ := idx_some hm
                  refine W_indexArr (List.mem_cons_self ..) rfl rfl Proofs.Tryd.runUnderlying102 Proofs.Tryd.sizeOf5 hl627 rfl rfl h644 (List.getElem?_eq_some_iff.1 he645).1 ?_
                  obtain ⟨_, rfl, hg646⟩ := (hr626).elem he645
                  obtain ⟨hr647, he648, hg649⟩ := Rw.put (cs := [.int .u8 (y640.n)]) (o := 0) (c := [.int .u8 (y643.n)]) (out := [.int .u8 (y640.n)]) (e2 := y640) hr626 he645 rfl hg646 rfl rfl rfl
                  refine W_storeO2 (i := (IntKind.i64.wrap (n623 - 1) : Int).toNat * Rep.sz U8 + 0) (cs := [.int .u8 (y640.n)]) rfl Proofs.Tryd.sizeOf5 rfl (row_ad0 _ _) rfl rfl rfl (Rw.room hr626 he645 rfl) rfl (all_cons rfl all_nil) (n' := (l625.set ((IntKind.i64.wrap (n623 - 1) : Int).toNat) y640).length) List.length_set ?_
                  generalize over xs624 ((IntKind.i64.wrap (n623 - 1) : Int).toNat * Rep.sz U8 + 0) [.int .u8 (y640.n)] = xs650 at hr647 hg649 ⊢
                  have hl651 : (l625.set ((IntKind.i64.wrap (n623 - 1) : Int).toNat) y640).length = 65 := by rw [List.length_set]; exact hl627
                  refine W_end ?_
                  refine E_then ?_
                  refine C_region ?_
                  refine W_move rfl rfl rfl ?_
                  refine W_move rfl rfl rfl ?_
                  obtain ⟨hq652, hm⟩ := need_some hm
                  refine W_shr rfl rfl rfl rfl hq652 ?_
                  refine W_assign rfl rfl rfl ?_
                  refine W_end ?_
                  refine E_normal_block ?_
                  exact E_keepJ (E_back (Nat.lt_succ_self _) ⟨shrV .u64 n622 (IntKind.u64.wrap (r488)), IntKind.i64.wrap (n623 - 1), (l625.set ((IntKind.i64.wrap (n623 - 1) : Int).toNat) y640), xs650, (by rw [hn632]; exact hm), hr647, hl651, hle629, rfl, rfl⟩) (List.Perm.refl _) ⟨rfl, rfl, rfl, rfl, rfl, rfl, rfl, rfl, rfl, rfl, rfl, trivial⟩
                · have hm := ite_f' hb639 hm
                  refine C_exit ?_
                  refine E_exit_then ?_
                  refine E_exit_then ?_
                  refine E_exit_hit ?_
                  exact E_keepJ (J569 _ _ _ ⟨n622, n623, l625, xs624, hm, hr626, hl627, hle629, rfl, rfl⟩) (List.Perm.refl _) ⟨rfl, rfl, rfl, rfl, rfl, rfl, rfl, rfl, trivial⟩
          · have hm := ite_f' hb487 hm
            refine C_seq ?_
            refine C_region ?_
            refine W_move rfl rfl rfl ?_
            refine W_convInt rfl rfl Proofs.Tryd.runUnderlying3 Proofs.Tryd.runUnderlying42 rfl ?_
            refine W_assign rfl rfl rfl ?_
            refine W_end ?_
            refine E_then ?_
            refine C_seq_join (fun H' M' L' => ∃ n724 : Int, ∃ n725 : Int, ∃ l727 : List U8, ∃ xs726 : List Value, m_internal_strconv_formatBits_b13 neg append_ n724 n725 l727 = some r ∧ Rw H' v105 xs726 l727 ∧ l727.length = 65 ∧ H.le H' ∧ .row v105 102 (Rep.sz U8) l727.length xs726 :: M = M' ∧ [(0, v0), (1, .int .u64 (n724)), (3, .bool (neg)), (4, .bool (append_)), (10, .slice none 0 0), (11, .string (⟨#[]⟩)), (12, .pointer (some (Value.base v105))), (13, .int .i64 (n725))] = L') ?_ (fun J732 => ?_)
            · rintro H730 _ _ ⟨n724, n725, l727, xs726, hm, hr728, hl729, hle731, rfl, rfl⟩
              unfold m_internal_strconv_formatBits_b13 at hm
              refine C_seq ?_
              refine C_region ?_
              refine W_move rfl rfl rfl ?_
              refine W_bin rfl rfl rfl rfl rfl ?_
              refine W_assign rfl rfl rfl ?_
              refine W_end ?_
              refine E_then ?_
              refine C_region ?_
              refine W_move rfl rfl rfl ?_
              refine W_move rfl rfl rfl ?_
              obtain ⟨y733, h734, he735, hm⟩ := idx_some hm
              refine W_indexStr rfl rfl Proofs.Tryd.runUnderlying9 rfl rfl h734 he735 ?_
              obtain ⟨y736, h737, he738, hm⟩ := idx_some hm
              refine W_indexArr (List.mem_cons_self ..) rfl rfl Proofs.Tryd.runUnderlying102 Proofs.Tryd.sizeOf5 hl729 rfl rfl h737 (List.getElem?_eq_some_iff.1 he738).1 ?_
              obtain ⟨_, rfl, hg739⟩ := (hr728).elem he738
              obtain ⟨hr740, he741, hg742⟩ := Rw.put (cs := [.int .u8 (y733.n)]) (o := 0) (c := [.int .u8 (y736.n)]) (out := [.int .u8 (y733.n)]) (e2 := y733) hr728 he738 rfl hg739 rfl rfl rfl
              refine W_storeO2 (i := (IntKind.i64.wrap (n725 - 1) : Int).toNat * Rep.sz U8 + 0) (cs := [.int .u8 (y733.n)]) rfl Proofs.Tryd.sizeOf5 rfl (row_ad0 _ _) rfl rfl rfl (Rw.room hr728 he738 rfl) rfl (all_cons rfl all_nil) (n' := (l727.set ((IntKind.i64.wrap (n725 - 1) : Int).toNat) y733).length) List.length_set ?_
              generalize over xs726 ((IntKind.i64.wrap (n725 - 1) : Int).toNat * Rep.sz U8 + 0) [.int .u8 (y733.n)] = xs743 at hr740 hg742 ⊢
              have hl744 : (l727.set ((IntKind.i64.wrap (n725 - 1) : Int).toNat) y733).length = 65 := by rw [List.length_set]; exact hl729
              refine W_end ?_
              exact E_keepJ (J447 _ _ _ ⟨IntKind.i64.wrap (n725 - 1), (l727.set ((IntKind.i64.wrap (n725 - 1) : Int).toNat) y733), xs743, hm, hr740, hl744, hle731, rfl, rfl⟩) (List.Perm.refl _) ⟨rfl, rfl, rfl, rfl, rfl, rfl, rfl, trivial⟩
            · refine C_block ?_
              refine C_keep (L' := [(0, v0), (1, .int .u64 (n109)), (3, .bool (neg)), (4, .bool (append_)), (10, .slice none 0 0), (11, .string (⟨#[]⟩)), (12, .pointer (some (Value.base v105))), (13, .int .i64 (65)), (17, .int .u64 (IntKind.u64.wrap (base)))]) ⟨rfl, rfl, rfl, rfl, rfl, rfl, rfl, rfl, rfl, trivial⟩ (List.Perm.refl _) ?_
              refine C_loop (fun n H' M' L' => ∃ n785 : Int, ∃ n786 : Int, ∃ l788 : List U8, ∃ xs787 : List Value, loopF (fun s793 n => m_internal_strconv_formatBits_b14 base neg append_ s793.1 s793.2.1 s793.2.2 n) n (n785, n786, l788) = some r ∧ Rw H' v105 xs787 l788 ∧ l788.length = 65 ∧ H.le H' ∧ .row v105 102 (Rep.sz U8) l788.length xs787 :: M = M' ∧ [(0, v0), (1, .int .u64 (n785)), (3, .bool (neg)), (4, .bool (append_)), (10, .slice none 0 0), (11, .string (⟨#[]⟩)), (12, .pointer (some (Value.base v105))), (13, .int .i64 (n786)), (17, .int .u64 (IntKind.u64.wrap (base)))] = L') FUEL ⟨n109, 65, (List.replicate 65 (⟨0⟩ : U8)), ((List.replicate 65 (0 : Int)).map (Value.int .u8)), hm, hr106, hl107, (Hp.le_refl _), rfl, rfl⟩ ?_
              rintro n796 H791 _ _ ⟨n785, n786, l788, xs787, hm, hr789, hl790, hle792, rfl, rfl⟩
              cases n796 with
              | zero => cases hm
              | succ n796 =>
                have hm : m_internal_strconv_formatBits_b14 base neg append_ n785 n786 l788 (loopF (fun s793 n => m_internal_strconv_formatBits_b14 base neg append_ s793.1 s793.2.1 s793.2.2 n) n796) = some r := hm
                generalize hn795 : loopF (fun s793 n => m_internal_strconv_formatBits_b14 base neg append_ s793.1 s793.2.1 s793.2.2 n) n796 = nx794 at hm
                unfold m_internal_strconv_formatBits_b14 at hm
                refine C_seq ?_
                refine C_seq ?_
                refine C_region ?_
                refine W_move rfl rfl rfl ?_
                refine W_move rfl rfl rfl ?_
                refine W_bin rfl rfl rfl rfl rfl ?_
                refine W_end ?_
                refine E_then ?_
                refine C_cond (b := decide ((IntKind.u64.wrap (base)) ≤ n785)) rfl (fun hb802 => ?_) (fun hb802 => ?_)
                · have hm := ite_t' hb802 hm
                  refine C_skip ?_
                  refine E_then ?_
                  refine C_block ?_
                  refine C_seq ?_
                  refine C_region ?_
                  refine W_move rfl rfl rfl ?_
                  refine W_bin rfl rfl rfl rfl rfl ?_
                  refine W_assign rfl rfl rfl ?_
                  refine W_end ?_
                  refine E_then ?_
                  refine C_seq ?_
                  refine C_region ?_
                  refine W_move rfl rfl rfl ?_
                  refine W_move rfl rfl rfl ?_
                  obtain ⟨hq803, hm⟩ := need_some hm
                  refine W_quo rfl rfl rfl rfl hq803 ?_
                  refine W_assign rfl rfl rfl ?_
                  refine W_end ?_
                  refine E_then ?_
                  refine C_seq ?_
                  refine C_region ?_
                  refine W_move rfl rfl rfl ?_
                  refine W_move rfl rfl rfl ?_
                  refine W_move rfl rfl rfl ?_
                  refine W_move rfl rfl rfl ?_
                  refine W_bin rfl rfl rfl rfl rfl ?_
                  refine W_bin rfl rfl rfl rfl rfl ?_
                  obtain ⟨y804, h805, he806, hm⟩ := idx_some hm
                  refine W_indexStr rfl rfl Proofs.Tryd.runUnderlying9 rfl rfl h805 he806 ?_
                  obtain ⟨y807, h808, he809, hm⟩ := idx_some hm
                  refine W_indexArr (List.mem_cons_self ..) rfl rfl Proofs.Tryd.runUnderlying102 Proofs.Tryd.sizeOf5 hl790 rfl rfl h808 (List.getElem?_eq_some_iff.1 he809).1 ?_
                  obtain ⟨_, rfl, hg810⟩ := (hr789).elem he809
                  obtain ⟨hr811, he812, hg813⟩ := Rw.put (cs := [.int .u8 (y804.n)]) (o := 0) (c := [.int .u8 (y807.n)]) (out := [.int .u8 (y804.n)]) (e2 := y804) hr789 he809 rfl hg810 rfl rfl rfl
                  refine W_storeO2 (i := (IntKind.i64.wrap (n786 - 1) : Int).toNat * Rep.sz U8 + 0) (cs := [.int .u8 (y804.n)]) rfl Proofs.Tryd.sizeOf5 rfl (row_ad0 _ _) rfl rfl rfl (Rw.room hr789 he809 rfl) rfl (all_cons rfl all_nil) (n' := (l788.set ((IntKind.i64.wrap (n786 - 1) : Int).toNat) y804).length) List.length_set ?_
                  generalize over xs787 ((IntKind.i64.wrap (n786 - 1) : Int).toNat * Rep.sz U8 + 0) [.int .u8 (y804.n)] = xs814 at hr811 hg813 ⊢
                  have hl815 : (l788.set ((IntKind.i64.wrap (n786 - 1) : Int).toNat) y804).length = 65 := by rw [List.length_set]; exact hl790
                  refine W_end ?_
                  refine E_then ?_
                  refine C_region ?_
                  refine W_move rfl rfl rfl ?_
                  refine W_assign rfl rfl rfl ?_
                  refine W_end ?_
                  refine E_normal_block ?_
                  exact E_keepJ (E_back (Nat.lt_succ_self _) ⟨IntKind.u64.wrap (Int.tdiv n785 (IntKind.u64.wrap (base))), IntKind.i64.wrap (n786 - 1), (l788.set ((IntKind.i64.wrap (n786 - 1) : Int).toNat) y804), xs814, (by rw [hn795]; exact hm), hr811, hl815, hle792, rfl, rfl⟩) (List.Perm.refl _) ⟨rfl, rfl, rfl, rfl, rfl, rfl, rfl, rfl, rfl, trivial⟩
                · have hm := ite_f' hb802 hm
                  refine C_exit ?_
                  refine E_exit_then ?_
                  refine E_exit_then ?_
                  refine E_exit_hit ?_
                  exact E_keepJ (J732 _ _ _ ⟨n785, n786, l788, xs787, hm, hr789, hl790, hle792, rfl, rfl⟩) (List.Perm.refl _) ⟨rfl, rfl, rfl, rfl, rfl, rfl, rfl, rfl, trivial⟩
      · refine C_seq ?_
        refine C_region ?_
        refine W_move rfl rfl rfl ?_
        refine W_end ?_
        refine E_then ?_
        refine C_cond (b := neg) rfl (fun hb816 => ?_) (fun hb816 => ?_)
        · have hm := ite_t' hb816 hm
          refine C_region ?_
          refine W_move rfl rfl rfl ?_
          refine W_un rfl rfl rfl rfl ?_
          refine W_assign rfl rfl rfl ?_
          refine W_end ?_
          exact E_keepJ (J110 _ _ _ ⟨IntKind.u64.wrap (0 - p1_u), hm, rfl, rfl, rfl⟩) (List.Perm.refl _) ⟨rfl, rfl, rfl, rfl, rfl, rfl, rfl, rfl, rfl, trivial⟩
        · have hm := ite_f' hb816 hm
          refine C_skip ?_
          exact E_keepJ (J110 _ _ _ ⟨p1_u, hm, rfl, rfl, rfl⟩) (List.Perm.refl _) ⟨rfl, rfl, rfl, rfl, rfl, rfl, rfl, rfl, rfl, trivial⟩
  · refine C_region ?_
    refine W_move rfl rfl rfl ?_
    refine W_bin rfl rfl rfl rfl rfl ?_
    refine W_move rfl rfl rfl ?_
    cases hb817 : (decide (base < 2))
    · refine W_move rfl rfl rfl ?_
      refine W_bin rfl rfl rfl rfl rfl ?_
      refine W_pick rfl rfl rfl rfl ?_
      refine W_move rfl rfl rfl ?_
      cases hb818 : (decide (base = 10))
      · refine W_move rfl rfl rfl ?_
        refine W_bin rfl rfl rfl rfl rfl ?_
        refine W_pick rfl rfl rfl rfl ?_
        refine W_end ?_
        exact E_keepJ (J103 _ _ _ ⟨rfl, rfl, rfl⟩) (List.Perm.refl _) ⟨rfl, rfl, rfl, rfl, rfl, rfl, rfl, (by show some (Value.bool (decide (36 < base))) = some (Value.bool (((decide (base < 2)) || (decide (base = 10))) || (decide (36 < base)))); simp only [hb817, hb818, Bool.and_true, Bool.true_and, Bool.false_and, Bool.and_false, Bool.or_true, Bool.true_or, Bool.or_false, Bool.false_or, Bool.not_true, Bool.not_false]), trivial⟩
      · refine W_no rfl rfl rfl ?_
        refine W_no rfl rfl rfl ?_
        refine W_pick rfl rfl rfl rfl ?_
        refine W_end ?_
        exact E_keepJ (J103 _ _ _ ⟨rfl, rfl, rfl⟩) (List.Perm.refl _) ⟨rfl, rfl, rfl, rfl, rfl, rfl, rfl, (by show some (Value.bool (true)) = some (Value.bool (((decide (base < 2)) || (decide (base = 10))) || (decide (36 < base)))); simp only [hb817, hb818, Bool.and_true, Bool.true_and, Bool.false_and, Bool.and_false, Bool.or_true, Bool.true_or, Bool.or_false, Bool.false_or, Bool.not_true, Bool.not_false]), trivial⟩
    · refine W_no rfl rfl rfl ?_
      refine W_no rfl rfl rfl ?_
      refine W_pick rfl rfl rfl rfl ?_
      refine W_move rfl rfl rfl ?_
      refine W_no rfl rfl rfl ?_
      refine W_no rfl rfl rfl ?_
      refine W_pick rfl rfl rfl rfl ?_
      refine W_end ?_
      exact E_keepJ (J103 _ _ _ ⟨rfl, rfl, rfl⟩) (List.Perm.refl _) ⟨rfl, rfl, rfl, rfl, rfl, rfl, rfl, (by show some (Value.bool (true)) = some (Value.bool (((decide (base < 2)) || (decide (base = 10))) || (decide (36 < base)))); simp only [hb817, Bool.and_true, Bool.true_and, Bool.false_and, Bool.and_false, Bool.or_true, Bool.true_or, Bool.or_false, Bool.false_or, Bool.not_true, Bool.not_false]), trivial⟩

theorem m_internal_strconv_FormatUint_c {B : Nat} {w0 w : World} [Tabs B w0] {H : Hp} {M : List Res} {p0_i : Int} {base : Int} {r : ByteArray} (hm : m_internal_strconv_FormatUint p0_i base = some r) (ht : St B w0 H (M) w) :
    Calls Proofs.Tryd.prog 45 [.int .u64 (p0_i), .int .i64 (base)].toArray w (Ret B w0 fun H' M' v => H = H' ∧ M = M' ∧ .string (r) = v) := by
  unfold m_internal_strconv_FormatUint at hm
  refine enter Proofs.Tryd.func45 rfl rfl rfl ht ?_
  refine C_seq ?_
  refine C_region ?_
  refine W_assign rfl rfl rfl ?_
  refine W_end ?_
  refine E_then ?_
  refine C_seq ?_
  refine C_seq ?_
  refine C_region ?_
  refine W_move rfl rfl rfl ?_
  refine W_bin rfl rfl rfl rfl rfl ?_
  refine W_end ?_
  refine E_then ?_
  refine C_cond (b := decide (base = 10)) rfl (fun hb101 => ?_) (fun hb101 => ?_)
  · have hm := ite_t' hb101 hm
    refine C_seq ?_
    refine C_seq ?_
    refine C_region ?_
    refine W_move rfl rfl rfl ?_
    refine W_bin rfl rfl rfl rfl rfl ?_
    refine W_end ?_
    refine E_then ?_
    refine C_cond (b := decide (p0_i < 100)) rfl (fun hb102 => ?_) (fun hb102 => ?_)
    · have hm := ite_t' hb102 hm
      refine C_seq ?_
      refine C_region ?_
      refine W_move rfl rfl rfl ?_
      refine W_convInt rfl rfl Proofs.Tryd.runUnderlying42 Proofs.Tryd.runUnderlying3 rfl ?_
      cases hm
    · have hm := ite_f' hb102 hm
      refine C_skip ?_
      refine E_then ?_
      refine C_seq ?_
      refine C_region ?_
      refine W_allocArr (α := U8) (z := .agg ((List.replicate 24 (0 : Int)).map (Value.int .u8)).toArray) (cs := (List.replicate 24 (0 : Int)).map (Value.int .u8)) (l := List.replicate 24 (⟨0⟩ : U8)) (n := 24) rfl rfl (fun _ => by kernel_rfl) (by kernel_rfl) (RdC.zeros _ _) (by kernel_rfl) rfl ?_
      intro v103 hr104
      have hl105 : (List.replicate 24 (⟨0⟩ : U8)).length = 24 := by first | rfl | (simp only [List.length_set, List.length_replicate, *])
      refine W_end ?_
      refine E_then ?_
      refine C_seq ?_
      refine C_region ?_
      refine W_move rfl rfl rfl ?_
      obtain ⟨r106, hc107, hm⟩ := bind_some hm
      refine W_call Proofs.Tryd.call58 rfl rfl rfl (fun w ht => by have h := m_internal_strconv_numDigits_c (hm := hc107)  ht; exact h) ?_
      rintro _ _ _ ⟨rfl, rfl, rfl⟩
      refine W_assign rfl rfl rfl ?_
      refine W_end ?_
      refine E_then ?_
      refine C_seq ?_
      cases hm
  · have hm := ite_f' hb101 hm
    refine C_skip ?_
    refine E_then ?_
    refine C_seq ?_
    refine C_region ?_
    refine W_move rfl rfl rfl ?_
    refine W_move rfl rfl rfl ?_
    obtain ⟨r108, hc109, hm⟩ := bind_some hm
    refine W_call Proofs.Tryd.call60 rfl rfl rfl (fun w ht => by have h := m_internal_strconv_formatBits_c (hm := hc109) RdS.nil ht; exact h) ?_
    rintro _ _ _ ⟨rfl, v110, xs111, rfl, rfl, h112⟩
    have h112 := h112 H
    refine W_move rfl rfl rfl ?_
    refine W_extract rfl rfl rfl rfl ?_
    refine W_extract rfl rfl rfl rfl ?_
    refine W_assign rfl rfl rfl ?_
    refine W_assign rfl rfl rfl ?_
    refine W_end ?_
    refine E_then ?_
    refine C_seq ?_
    refine C_region ?_
    refine W_move rfl rfl rfl ?_
    refine W_assign rfl rfl rfl ?_
    refine W_end ?_
    refine E_then ?_
    refine C_ret ?_
    obtain rfl := Option.some.inj hm
    refine E_drop (List.Sublist.cons _ (List.Sublist.refl _)) ?_
    refine E_weak (Hp.le_refl _) ?_
    exact end1 rfl rfl ⟨rfl, rfl, rfl⟩

theorem m_strconv_FormatUint_c {B : Nat} {w0 w : World} [Tabs B w0] {H : Hp} {M : List Res} {p0_i : Int} {base : Int} {r : ByteArray} (hm : m_strconv_FormatUint p0_i base = some r) (ht : St B w0 H (M) w) :
    Calls Proofs.Tryd.prog 32 [.int .u64 (p0_i), .int .i64 (base)].toArray w (Ret B w0 fun H' M' v => H = H' ∧ M = M' ∧ .string (r) = v) := by
  unfold m_strconv_FormatUint at hm
  refine enter Proofs.Tryd.func32 rfl rfl rfl ht ?_
  refine C_seq ?_
  refine C_region ?_
  refine W_assign rfl rfl rfl ?_
  refine W_end ?_
  refine E_then ?_
  refine C_seq ?_
  refine C_region ?_
  refine W_move rfl rfl rfl ?_
  refine W_move rfl rfl rfl ?_
  obtain ⟨r101, hc102, hm⟩ := bind_some hm
  refine W_call Proofs.Tryd.call45 rfl rfl rfl (fun w ht => by have h := m_internal_strconv_FormatUint_c (hm := hc102)  ht; exact h) ?_
  rintro _ _ _ ⟨rfl, rfl, rfl⟩
  refine W_assign rfl rfl rfl ?_
  refine W_end ?_
  refine E_then ?_
  refine C_ret ?_
  obtain rfl := Option.some.inj hm
  refine E_weak (Hp.le_refl _) ?_
  exact end1 rfl rfl ⟨rfl, rfl, rfl⟩

theorem m_archive_Archive_Text_c {B : Nat} {w0 w : World} [Tabs B w0] {H : Hp} {M : List Res} {p0_a : S_archive_Archive} {b0 : Nat} {v0 : Value} {xs0 : List Value} {r : ByteArray} (hm : m_archive_Archive_Text p0_a = some r) (h0 : Rw H v0 xs0 p0_a.all_) (ht : St B w0 H (.obj b0 (.cells [v0].toArray 51 (0, 0)) :: .row v0 30 (Rep.sz S_api_Event) p0_a.all_.length xs0 :: M) w) :
    Calls Proofs.Tryd.prog 17 [.pointer (some ⟨b0, 0, none⟩)].toArray w (Ret B w0 fun H' M' v => H = H' ∧ .obj b0 (.cells [v0].toArray 51 (0, 0)) :: .row v0 30 (Rep.sz S_api_Event) p0_a.all_.length xs0 :: M = M' ∧ .string (r) = v) := by
  unfold m_archive_Archive_Text at hm
  refine enter Proofs.Tryd.func17 rfl rfl rfl ht ?_
  refine C_seq ?_
  refine C_region ?_
  refine W_assign rfl rfl rfl ?_
  refine W_end ?_
  refine E_then ?_
  refine C_seq ?_
  refine C_region ?_
  refine W_assign rfl rfl rfl ?_
  refine W_assign rfl rfl rfl ?_
  refine W_end ?_
  refine E_then ?_
  refine C_seq ?_
  refine C_seq ?_
  refine C_region ?_
  refine W_move rfl rfl rfl ?_
  refine W_nilCheck rfl rfl rfl ?_
  refine W_field (o := 0) rfl rfl Proofs.Tryd.runUnderlying51 rfl Proofs.Tryd.sizeOf22 rfl rfl rfl ?_
  refine W_load rfl rfl Proofs.Tryd.isAgg22 rfl (own_at (List.mem_cons_self ..) rfl) ?_
  refine W_lenO (List.mem_cons_of_mem _ (List.mem_cons_self ..)) rfl rfl Proofs.Tryd.runUnderlying22 rfl ?_
  refine W_move rfl rfl rfl ?_
  refine W_end ?_
  refine E_then ?_
  refine C_block ?_
  refine C_rowMax (List.mem_cons_of_mem _ (List.mem_cons_self ..)) (fun hmx138 => ?_)
  refine C_keep (L' := [(3, .string (⟨#[]⟩)), (4, .int .u64 (14695981039346656037)), (11, v0), (12, .int .i64 ((p0_a.all_.length : Int))), (13, .int .i64 (((0 : Nat) : Int)))]) ⟨rfl, rfl, rfl, rfl, rfl, trivial⟩ (List.Perm.refl _) ?_
  refine C_loop (fun n H' M' L' => ∃ (k101 : Nat) (zs140' : List S_api_Event), ∃ s130 : ByteArray, ∃ n131 : Int, (p0_a.all_).drop k101 = zs140' ∧ zs140'.length = n ∧ forI (fun k y s134 n => m_archive_Archive_Text_b1 k y s134.1 s134.2 n) (fun s134 => some s134.1) k101 zs140' (s130, n131) = some r ∧ H.le H' ∧ .obj b0 (.cells [v0].toArray 51 (0, 0)) :: .row v0 30 (Rep.sz S_api_Event) p0_a.all_.length xs0 :: M = M' ∧ [(3, .string (s130)), (4, .int .u64 (n131)), (11, v0), (12, .int .i64 ((p0_a.all_.length : Int))), (13, .int .i64 ((k101 : Int)))] = L') _ ⟨0, _, ⟨#[]⟩, 14695981039346656037, rfl, rfl, hm, (Hp.le_refl _), rfl, rfl⟩ ?_
  rintro _ H132 _ _ ⟨k101, zs140', s130, n131, hd142, rfl, hm, hle133, rfl, rfl⟩
  refine C_seq ?_
  refine C_region ?_
  refine W_bin rfl rfl rfl rfl rfl ?_
  refine W_end (E_then ?_)
  refine C_seq ?_
  refine C_cond (b := decide ((k101 : Int) < (p0_a.all_.length : Int))) rfl (fun hb144 => ?_) (fun hb144 => ?_)
  · obtain ⟨y139, zs140, rfl, hy141, hd143⟩ := rng_t hd142 hb144
    have hm : m_archive_Archive_Text_b1 k101 y139 s130 n131 (forI (fun k y s134 n => m_archive_Archive_Text_b1 k y s134.1 s134.2 n) (fun s134 => some s134.1) (k101 + 1) zs140) = some r := hm
    generalize hn136 : forI (fun k y s134 n => m_archive_Archive_Text_b1 k y s134.1 s134.2 n) (fun s134 => some s134.1) (k101 + 1) zs140 = nx135 at hm
    unfold m_archive_Archive_Text_b1 at hm
    refine C_skip (E_then ?_)
    refine C_seq ?_
    refine C_block ?_
    refine C_seq ?_
    refine C_region ?_
    refine W_indexO (List.mem_cons_of_mem _ (List.mem_cons_self ..)) rfl rfl Proofs.Tryd.runUnderlying22 Proofs.Tryd.sizeOf30 rfl rfl (Int.natCast_nonneg _) (List.getElem?_eq_some_iff.1 hy141).1 ?_
    obtain ⟨_, rfl, hg145⟩ := (h0).elem hy141
    refine W_loadAgg (cs := [.int .i64 (y139.Time), .string (y139.Kind), .string (y139.Name), .int .i64 (y139.Value)]) rfl rfl Proofs.Tryd.isAgg30 Proofs.Tryd.sizeOf30 rfl (row_cells (List.mem_cons_of_mem _ (List.mem_cons_self ..)) hg145) rfl ?_
    refine W_alloc (cs := [.int .i64 (0), .string (⟨#[]⟩), .string (⟨#[]⟩), .int .i64 (0)]) rfl rfl Proofs.Tryd.zeroValue30 rfl (fun b146 => ?_)
    refine W_store (cs := [.int .i64 (y139.Time), .string (y139.Kind), .string (y139.Name), .int .i64 (y139.Value)]) (out := [.int .i64 (y139.Time), .string (y139.Kind), .string (y139.Name), .int .i64 (y139.Value)]) rfl Proofs.Tryd.sizeOf30 rfl rfl rfl rfl rfl (all_cons rfl (all_cons rfl (all_cons rfl (all_cons rfl all_nil)))) (over_all rfl) ?_
    refine W_end ?_
    refine E_then ?_
    refine C_seq ?_
    refine C_region ?_
    refine W_loadAgg rfl rfl Proofs.Tryd.isAgg30 Proofs.Tryd.sizeOf30 rfl (own_all (List.mem_cons_self ..)) rfl ?_
    obtain ⟨r147, hc148, hm⟩ := bind_some hm
    refine W_call Proofs.Tryd.call31 rfl rfl rfl (fun w ht => by have h := m_archive_line_c (hm := hc148)  ht; exact h) ?_
    rintro _ _ _ ⟨rfl, rfl, rfl⟩
    refine W_assign rfl rfl rfl ?_
    refine W_end ?_
    refine E_then ?_
    refine C_seq ?_
    refine C_region ?_
    refine W_move rfl rfl rfl ?_
    refine W_move rfl rfl rfl ?_
    obtain ⟨r149, hc150, hm⟩ := bind_some hm
    refine W_call Proofs.Tryd.call30 rfl rfl rfl (fun w ht => by have h := m_archive_digest_c (hm := hc150)  ht; exact h) ?_
    rintro _ _ _ ⟨rfl, rfl, rfl⟩
    refine W_assign rfl rfl rfl ?_
    refine W_end ?_
    refine E_then ?_
    refine C_region ?_
    refine W_move rfl rfl rfl ?_
    refine W_move rfl rfl rfl ?_
    obtain ⟨hq151, hm⟩ := need_some hm
    refine W_addStr rfl rfl rfl rfl hq151 ?_
    refine W_move rfl rfl rfl ?_
    obtain ⟨r152, hc153, hm⟩ := bind_some hm
    refine W_call Proofs.Tryd.call32 rfl rfl rfl (fun w ht => by have h := m_strconv_FormatUint_c (hm := hc153)  ht; exact h) ?_
    rintro _ _ _ ⟨rfl, rfl, rfl⟩
    obtain ⟨hq154, hm⟩ := need_some hm
    refine W_addStr rfl rfl rfl rfl hq154 ?_
    obtain ⟨hq155, hm⟩ := need_some hm
    refine W_addStr rfl rfl rfl rfl hq155 ?_
    obtain ⟨hq156, hm⟩ := need_some hm
    refine W_addStr rfl rfl rfl rfl hq156 ?_
    refine W_assign rfl rfl rfl ?_
    refine W_end ?_
    refine E_normal_block ?_
    refine E_then ?_
    refine C_region ?_
    refine W_bin rfl rfl rfl rfl rfl ?_
    refine W_move rfl rfl rfl ?_
    refine W_end ?_
    refine E_drop (List.Sublist.cons _ (List.Sublist.refl _)) ?_
    exact E_keepJ (E_back (Nat.lt_succ_self _) ⟨k101 + 1, zs140, s130 ++ (((r147 ++ (⟨#[32]⟩)) ++ r152) ++ (⟨#[10]⟩)), r149, hd143, rfl, (by rw [hn136]; exact hm), hle133, rfl, rfl⟩) (List.Perm.refl _) ⟨rfl, rfl, rfl, rfl, (congrArg (fun z => some (Value.int .i64 z)) (i64_succ hy141 hmx138)), trivial⟩
  · obtain rfl := rng_f hd142 hb144
    have hm : (some s130) = some r := hm
    refine C_exit (E_exit_then ?_)
    refine E_exit_then ?_
    refine E_exit_hit ?_
    refine E_then ?_
    refine C_seq ?_
    refine C_region ?_
    refine W_move rfl rfl rfl ?_
    refine W_assign rfl rfl rfl ?_
    refine W_end ?_
    refine E_then ?_
    refine C_ret ?_
    obtain rfl := Option.some.inj hm
    refine E_weak hle133 ?_
    exact end1 rfl rfl ⟨rfl, rfl, rfl⟩

theorem m_internal_stringslite_HasPrefix_c {B : Nat} {w0 w : World} [Tabs B w0] {H : Hp} {M : List Res} {p0_s : ByteArray} {p1_prefix : ByteArray} {r : Bool} (hm : m_internal_stringslite_HasPrefix p0_s p1_prefix = some r) (ht : St B w0 H (M) w) :
    Calls Proofs.Tryd.prog 39 [.string (p0_s), .string (p1_prefix)].toArray w (Ret B w0 fun H' M' v => H = H' ∧ M = M' ∧ .bool (r) = v) := by
  unfold m_internal_stringslite_HasPrefix at hm
  refine enter Proofs.Tryd.func39 rfl rfl rfl ht ?_
  refine C_seq ?_
  refine C_region ?_
  refine W_assign rfl rfl rfl ?_
  refine W_end ?_
  refine E_then ?_
  refine C_seq ?_
  refine C_region ?_
  refine W_move rfl rfl rfl ?_
  refine W_lenStr rfl rfl Proofs.Tryd.runUnderlying9 rfl ?_
  refine W_move rfl rfl rfl ?_
  refine W_lenStr rfl rfl Proofs.Tryd.runUnderlying9 rfl ?_
  refine W_bin rfl rfl rfl rfl rfl ?_
  refine W_move rfl rfl rfl ?_
  cases hb101 : (decide ((p1_prefix.size : Int) ≤ (p0_s.size : Int)))
  · have hm := ite_f' hb101 hm
    refine W_no rfl rfl rfl ?_
    refine W_no rfl rfl rfl ?_
    refine W_no rfl rfl rfl ?_
    refine W_no rfl rfl rfl ?_
    refine W_no rfl rfl rfl ?_
    refine W_no rfl rfl rfl ?_
    refine W_pick rfl rfl rfl rfl ?_
    refine W_assign rfl rfl rfl ?_
    refine W_end ?_
    refine E_then ?_
    refine C_ret ?_
    obtain rfl := Option.some.inj hm
    refine E_weak (Hp.le_refl _) ?_
    exact end1 rfl rfl ⟨rfl, rfl, rfl⟩
  · have hm := ite_t' hb101 hm
    refine W_move rfl rfl rfl ?_
    refine W_move rfl rfl rfl ?_
    refine W_lenStr rfl rfl Proofs.Tryd.runUnderlying9 rfl ?_
    obtain ⟨hz102, hm⟩ := need_some hm
    refine W_sliceStr (l := 0) (h := ((p1_prefix.size : Int) : Int).toNat) rfl rfl Proofs.Tryd.runUnderlying9 rfl (.inr ⟨_, _, _, rfl, rfl, by omega, by omega, rfl⟩) (.inl ⟨rfl, rfl⟩) ?_
    refine W_move rfl rfl rfl ?_
    refine W_bin rfl rfl rfl rfl rfl ?_
    refine W_pick rfl rfl rfl rfl ?_
    refine W_assign rfl rfl rfl ?_
    refine W_end ?_
    refine E_then ?_
    refine C_ret ?_
    obtain rfl := Option.some.inj hm
    refine E_weak (Hp.le_refl _) ?_
    exact end1 rfl rfl ⟨rfl, rfl, rfl⟩

theorem m_strings_HasPrefix_c {B : Nat} {w0 w : World} [Tabs B w0] {H : Hp} {M : List Res} {p0_s : ByteArray} {p1_prefix : ByteArray} {r : Bool} (hm : m_strings_HasPrefix p0_s p1_prefix = some r) (ht : St B w0 H (M) w) :
    Calls Proofs.Tryd.prog 23 [.string (p0_s), .string (p1_prefix)].toArray w (Ret B w0 fun H' M' v => H = H' ∧ M = M' ∧ .bool (r) = v) := by
  unfold m_strings_HasPrefix at hm
  refine enter Proofs.Tryd.func23 rfl rfl rfl ht ?_
  refine C_seq ?_
  refine C_region ?_
  refine W_assign rfl rfl rfl ?_
  refine W_end ?_
  refine E_then ?_
  refine C_seq ?_
  refine C_region ?_
  refine W_move rfl rfl rfl ?_
  refine W_move rfl rfl rfl ?_
  obtain ⟨r101, hc102, hm⟩ := bind_some hm
  refine W_call Proofs.Tryd.call39 rfl rfl rfl (fun w ht => by have h := m_internal_stringslite_HasPrefix_c (hm := hc102)  ht; exact h) ?_
  rintro _ _ _ ⟨rfl, rfl, rfl⟩
  refine W_assign rfl rfl rfl ?_
  refine W_end ?_
  refine E_then ?_
  refine C_ret ?_
  obtain rfl := Option.some.inj hm
  refine E_weak (Hp.le_refl _) ?_
  exact end1 rfl rfl ⟨rfl, rfl, rfl⟩

theorem m_gridhallkeep4_archiveFact_c {B : Nat} {w0 w : World} [Tabs B w0] {H : Hp} {M : List Res} {r : Bool} (hm : m_gridhallkeep4_archiveFact = some r) (ht : St B w0 H (M) w) :
    Calls Proofs.Tryd.prog 8 [].toArray w (Ret B w0 fun H' M' v => H = H' ∧ M = M' ∧ .bool (r) = v) := by
  unfold m_gridhallkeep4_archiveFact at hm
  refine enter Proofs.Tryd.func8 rfl rfl rfl ht ?_
  refine C_seq ?_
  refine C_region ?_
  refine W_assign rfl rfl rfl ?_
  refine W_end ?_
  refine E_then ?_
  refine C_seq ?_
  refine C_region ?_
  refine W_call Proofs.Tryd.call22 rfl rfl rfl (fun w ht => by have h := m_archive_New_c (hm := (rfl : m_archive_New = _))  ht; exact h) ?_
  rintro _ H112 _ (⟨hn106, hle108, rfl, rfl⟩ | ⟨sp101, hn109, hle111, b102, v103, xs104, rfl, rfl, h105⟩)
  · have hm := optC_n hn106 hm
    refine W_assign rfl rfl rfl ?_
    refine W_end ?_
    refine E_then ?_
    refine C_seq ?_
    refine C_seq ?_
    refine C_region ?_
    refine W_move rfl rfl rfl ?_
    refine W_ptrNil rfl rfl Proofs.Tryd.runUnderlying23 rfl rfl ?_
    refine W_end ?_
    refine E_then ?_
    refine C_cond (b := true) rfl (fun _ => ?_) (fun hb => Bool.noConfusion hb)
    refine C_seq ?_
    refine C_region ?_
    refine W_assign rfl rfl rfl ?_
    refine W_end ?_
    refine E_then ?_
    refine C_ret ?_
    refine E_ret_then ?_
    obtain rfl := Option.some.inj hm
    refine E_weak hle108 ?_
    exact end1 rfl rfl ⟨rfl, rfl, rfl⟩
  · have hm := optC_s hn109 hm
    refine W_assign rfl rfl rfl ?_
    refine W_end ?_
    refine E_then ?_
    refine C_seq ?_
    refine C_seq ?_
    refine C_region ?_
    refine W_move rfl rfl rfl ?_
    refine W_ptrNil rfl rfl Proofs.Tryd.runUnderlying23 rfl rfl ?_
    refine W_end ?_
    refine E_then ?_
    refine C_cond (b := false) rfl (fun hb => Bool.noConfusion hb) (fun _ => ?_)
    refine C_skip ?_
    refine E_then ?_
    refine C_seq ?_
    refine C_region ?_
    refine W_move rfl rfl rfl ?_
    refine W_build (css := [[.string (⟨#[111, 112, 101, 110]⟩)], [.string (⟨#[83]⟩)]]) (zs := [.int .i64 (0), .string (⟨#[]⟩), .string (⟨#[]⟩), .int .i64 (0)]) (out := [.int .i64 (0), .string (⟨#[111, 112, 101, 110]⟩), .string (⟨#[83]⟩), .int .i64 (0)]) (places := [(0, 1), (1, 1), (2, 1), (3, 1)]) rfl rfl rfl ⟨rfl, rfl, trivial⟩ Proofs.Tryd.zeroValue30 rfl Proofs.Tryd.runUnderlying30 (fun w => by kernel_rfl) rfl ?_
    obtain ⟨r113, hc114, hm⟩ := bind_some hm
    refine W_call Proofs.Tryd.call18 rfl rfl rfl (fun w ht => by have h := m_archive_Archive_Append_c (hm := hc114) h105 ht; exact h) ?_
    rintro _ _ _ ⟨rfl, v116, xs117, rfl, rfl, h118⟩
    have h118 := h118 H112
    refine W_move rfl rfl rfl ?_
    refine W_extract rfl rfl rfl rfl ?_
    refine W_extract rfl rfl rfl rfl ?_
    refine W_assign rfl rfl rfl ?_
    refine W_assign rfl rfl rfl ?_
    refine W_end ?_
    refine E_then ?_
    refine C_seq ?_
    refine C_region ?_
    refine W_move rfl rfl rfl ?_
    refine W_bin rfl rfl rfl rfl rfl ?_
    refine W_move rfl rfl rfl ?_
    cases hb119 : (decide (r113.2.1 = 0))
    · have hm := ite_f' hb119 hm
      refine W_no rfl rfl rfl ?_
      refine W_no rfl rfl rfl ?_
      refine W_pick rfl rfl rfl rfl ?_
      refine W_move rfl rfl rfl ?_
      refine W_no rfl rfl rfl ?_
      refine W_no rfl rfl rfl ?_
      refine W_no rfl rfl rfl ?_
      refine W_pick rfl rfl rfl rfl ?_
      refine W_assign rfl rfl rfl ?_
      refine W_end ?_
      refine E_then ?_
      refine C_ret ?_
      obtain rfl := Option.some.inj hm
      refine E_drop (List.Sublist.cons _ (List.Sublist.cons _ (List.Sublist.refl _))) ?_
      refine E_weak hle111 ?_
      exact end1 rfl rfl ⟨rfl, rfl, rfl⟩
    · have hm := ite_t' hb119 hm
      refine W_move rfl rfl rfl ?_
      refine W_bin rfl rfl rfl rfl rfl ?_
      refine W_pick rfl rfl rfl rfl ?_
      refine W_move rfl rfl rfl ?_
      cases hb120 : (decide (r113.1 = 1))
      · have hm := ite_f' hb120 hm
        refine W_no rfl rfl rfl ?_
        refine W_no rfl rfl rfl ?_
        refine W_no rfl rfl rfl ?_
        refine W_pick rfl rfl rfl rfl ?_
        refine W_assign rfl rfl rfl ?_
        refine W_end ?_
        refine E_then ?_
        refine C_ret ?_
        obtain rfl := Option.some.inj hm
        refine E_drop (List.Sublist.cons _ (List.Sublist.cons _ (List.Sublist.refl _))) ?_
        refine E_weak hle111 ?_
        exact end1 rfl rfl ⟨rfl, rfl, rfl⟩
      · have hm := ite_t' hb120 hm
        refine W_move rfl rfl rfl ?_
        obtain ⟨r121, hc122, hm⟩ := bind_some hm
        refine W_call Proofs.Tryd.call17 rfl rfl rfl (fun w ht => by have h := m_archive_Archive_Text_c (hm := hc122) h118 ht; exact h) ?_
        rintro _ _ _ ⟨rfl, rfl, rfl⟩
        obtain ⟨r123, hc124, hm⟩ := bind_some hm
        refine W_call Proofs.Tryd.call23 rfl rfl rfl (fun w ht => by have h := m_strings_HasPrefix_c (hm := hc124)  ht; exact h) ?_
        rintro _ _ _ ⟨rfl, rfl, rfl⟩
        refine W_pick rfl rfl rfl rfl ?_
        refine W_assign rfl rfl rfl ?_
        refine W_end ?_
        refine E_then ?_
        refine C_ret ?_
        obtain rfl := Option.some.inj hm
        refine E_drop (List.Sublist.cons _ (List.Sublist.cons _ (List.Sublist.refl _))) ?_
        refine E_weak hle111 ?_
        exact end1 rfl rfl ⟨rfl, rfl, rfl⟩

theorem m_internal_stringslite_IndexByte_c {B : Nat} {w0 w : World} [Tabs B w0] {H : Hp} {M : List Res} {p0_s : ByteArray} {p1_c : Int} {r : Int} (hm : m_internal_stringslite_IndexByte p0_s p1_c = r) (ht : St B w0 H (M) w) :
    Calls Proofs.Tryd.prog 61 [.string (p0_s), .int .u8 (p1_c)].toArray w (Ret B w0 fun H' M' v => H = H' ∧ M = M' ∧ .int .i64 (r) = v) := by
  unfold m_internal_stringslite_IndexByte at hm
  refine enter Proofs.Tryd.func61 rfl rfl rfl ht ?_
  refine C_seq ?_
  refine C_region ?_
  refine W_assign rfl rfl rfl ?_
  refine W_end ?_
  refine E_then ?_
  refine C_seq ?_
  refine C_region ?_
  refine W_move rfl rfl rfl ?_
  refine W_move rfl rfl rfl ?_
  refine W_extern (idxB_extern Proofs.Tryd.func75 (by kernel_rfl) (by kernel_rfl) (by kernel_rfl) (by kernel_rfl) _ _) rfl rfl rfl ?_
  refine W_assign rfl rfl rfl ?_
  refine W_end ?_
  refine E_then ?_
  refine C_ret ?_
  obtain rfl := hm
  refine E_weak (Hp.le_refl _) ?_
  exact end1 rfl rfl ⟨rfl, rfl, rfl⟩

theorem m_internal_stringslite_Index_c {B : Nat} {w0 w : World} [Tabs B w0] {H : Hp} {M : List Res} {p0_s : ByteArray} {substr : ByteArray} {r : Int} (hm : m_internal_stringslite_Index p0_s substr = some r) (ht : St B w0 H (M) w) :
    Calls Proofs.Tryd.prog 48 [.string (p0_s), .string (substr)].toArray w (Ret B w0 fun H' M' v => H = H' ∧ M = M' ∧ .int .i64 (r) = v) := by
  unfold m_internal_stringslite_Index at hm
  refine enter Proofs.Tryd.func48 rfl rfl rfl ht ?_
  refine C_seq ?_
  refine C_region ?_
  refine W_assign rfl rfl rfl ?_
  refine W_end ?_
  refine E_then ?_
  refine C_seq ?_
  refine C_region ?_
  refine W_move rfl rfl rfl ?_
  refine W_lenStr rfl rfl Proofs.Tryd.runUnderlying9 rfl ?_
  refine W_assign rfl rfl rfl ?_
  refine W_end ?_
  refine E_then ?_
  refine C_seq ?_
  refine C_block ?_
  refine C_seq_join (fun H' M' L' => H = H' ∧ M = M' ∧ [(0, .string (p0_s)), (1, .string (substr)), (5, .int .i64 ((substr.size : Int))), (16, .bool ((decide ((substr.size : Int) = 0)) || (decide (substr = p0_s))))] = L') ?_ (fun J102 => ?_)
  · rintro _ _ _ ⟨rfl, rfl, rfl⟩
    refine C_cond (b := (decide ((substr.size : Int) = 0)) || (decide (substr = p0_s))) rfl (fun hb103 => ?_) (fun hb103 => ?_)
    · have hm := ite_t' hb103 hm
      refine C_seq ?_
      refine C_region ?_
      refine W_assign rfl rfl rfl ?_
      refine W_end ?_
      refine E_then ?_
      refine C_ret ?_
      refine E_ret_block ?_
      refine E_ret_then ?_
      obtain rfl := Option.some.inj hm
      refine E_weak (Hp.le_refl _) ?_
      exact end1 rfl rfl ⟨rfl, rfl, rfl⟩
    · have hm := ite_f' hb103 hm
      refine C_seq ?_
      refine C_region ?_
      refine W_move rfl rfl rfl ?_
      refine W_bin rfl rfl rfl rfl rfl ?_
      refine W_assign rfl rfl rfl ?_
      refine W_end ?_
      refine E_then ?_
      refine C_cond (b := decide ((substr.size : Int) = 1)) rfl (fun hb104 => ?_) (fun hb104 => ?_)
      · have hm := ite_t' hb104 hm
        refine C_seq ?_
        refine C_region ?_
        refine W_move rfl rfl rfl ?_
        refine W_move rfl rfl rfl ?_
        obtain ⟨y105, h106, he107, hm⟩ := idx_some hm
        refine W_indexStr rfl rfl Proofs.Tryd.runUnderlying9 rfl rfl h106 he107 ?_
        refine W_call Proofs.Tryd.call61 rfl rfl rfl (fun w ht => by have h := m_internal_stringslite_IndexByte_c (hm := (rfl : m_internal_stringslite_IndexByte p0_s y105.n = _))  ht; exact h) ?_
        rintro _ _ _ ⟨rfl, rfl, rfl⟩
        refine W_assign rfl rfl rfl ?_
        refine W_end ?_
        refine E_then ?_
        refine C_ret ?_
        refine E_ret_block ?_
        refine E_ret_then ?_
        obtain rfl := Option.some.inj hm
        refine E_weak (Hp.le_refl _) ?_
        exact end1 rfl rfl ⟨rfl, rfl, rfl⟩
      · have hm := ite_f' hb104 hm
        refine C_seq ?_
        refine C_region ?_
        refine W_move rfl rfl rfl ?_
        refine W_move rfl rfl rfl ?_
        refine W_lenStr rfl rfl Proofs.Tryd.runUnderlying9 rfl ?_
        refine W_bin rfl rfl rfl rfl rfl ?_
        refine W_assign rfl rfl rfl ?_
        refine W_end ?_
        refine E_then ?_
        refine C_cond (b := decide ((p0_s.size : Int) ≤ (substr.size : Int))) rfl (fun hb108 => ?_) (fun hb108 => ?_)
        · have hm := ite_t' hb108 hm
          refine C_seq ?_
          refine C_region ?_
          refine W_assign rfl rfl rfl ?_
          refine W_end ?_
          refine E_then ?_
          refine C_ret ?_
          refine E_ret_block ?_
          refine E_ret_then ?_
          obtain rfl := Option.some.inj hm
          refine E_weak (Hp.le_refl _) ?_
          exact end1 rfl rfl ⟨rfl, rfl, rfl⟩
        · have hm := ite_f' hb108 hm
          refine C_seq ?_
          cases hm
  · refine C_region ?_
    refine W_move rfl rfl rfl ?_
    refine W_bin rfl rfl rfl rfl rfl ?_
    refine W_move rfl rfl rfl ?_
    cases hb109 : (decide ((substr.size : Int) = 0))
    · refine W_move rfl rfl rfl ?_
      refine W_move rfl rfl rfl ?_
      refine W_bin rfl rfl rfl rfl rfl ?_
      refine W_pick rfl rfl rfl rfl ?_
      refine W_assign rfl rfl rfl ?_
      refine W_end ?_
      exact E_keepJ (J102 _ _ _ ⟨rfl, rfl, rfl⟩) (List.Perm.refl _) ⟨rfl, rfl, rfl, (by show some (Value.bool (decide (substr = p0_s))) = some (Value.bool ((decide ((substr.size : Int) = 0)) || (decide (substr = p0_s)))); simp only [hb109, Bool.and_true, Bool.true_and, Bool.false_and, Bool.and_false, Bool.or_true, Bool.true_or, Bool.or_false, Bool.false_or, Bool.not_true, Bool.not_false]), trivial⟩
    · refine W_no rfl rfl rfl ?_
      refine W_no rfl rfl rfl ?_
      refine W_no rfl rfl rfl ?_
      refine W_pick rfl rfl rfl rfl ?_
      refine W_assign rfl rfl rfl ?_
      refine W_end ?_
      exact E_keepJ (J102 _ _ _ ⟨rfl, rfl, rfl⟩) (List.Perm.refl _) ⟨rfl, rfl, rfl, (by show some (Value.bool (true)) = some (Value.bool ((decide ((substr.size : Int) = 0)) || (decide (substr = p0_s)))); simp only [hb109, Bool.and_true, Bool.true_and, Bool.false_and, Bool.and_false, Bool.or_true, Bool.true_or, Bool.or_false, Bool.false_or, Bool.not_true, Bool.not_false]), trivial⟩

theorem m_strings_Index_c {B : Nat} {w0 w : World} [Tabs B w0] {H : Hp} {M : List Res} {p0_s : ByteArray} {substr : ByteArray} {r : Int} (hm : m_strings_Index p0_s substr = some r) (ht : St B w0 H (M) w) :
    Calls Proofs.Tryd.prog 36 [.string (p0_s), .string (substr)].toArray w (Ret B w0 fun H' M' v => H = H' ∧ M = M' ∧ .int .i64 (r) = v) := by
  unfold m_strings_Index at hm
  refine enter Proofs.Tryd.func36 rfl rfl rfl ht ?_
  refine C_seq ?_
  refine C_region ?_
  refine W_assign rfl rfl rfl ?_
  refine W_end ?_
  refine E_then ?_
  refine C_seq ?_
  refine C_region ?_
  refine W_move rfl rfl rfl ?_
  refine W_move rfl rfl rfl ?_
  obtain ⟨r101, hc102, hm⟩ := bind_some hm
  refine W_call Proofs.Tryd.call48 rfl rfl rfl (fun w ht => by have h := m_internal_stringslite_Index_c (hm := hc102)  ht; exact h) ?_
  rintro _ _ _ ⟨rfl, rfl, rfl⟩
  refine W_assign rfl rfl rfl ?_
  refine W_end ?_
  refine E_then ?_
  refine C_ret ?_
  obtain rfl := Option.some.inj hm
  refine E_weak (Hp.le_refl _) ?_
  exact end1 rfl rfl ⟨rfl, rfl, rfl⟩

theorem m_strings_Count_c {B : Nat} {w0 w : World} [Tabs B w0] {H : Hp} {M : List Res} {p0_s : ByteArray} {substr : ByteArray} {r : Int} (hm : m_strings_Count p0_s substr = some r) (ht : St B w0 H (M) w) :
    Calls Proofs.Tryd.prog 20 [.string (p0_s), .string (substr)].toArray w (Ret B w0 fun H' M' v => H = H' ∧ M = M' ∧ .int .i64 (r) = v) := by
  unfold m_strings_Count at hm
  refine enter Proofs.Tryd.func20 rfl rfl rfl ht ?_
  refine C_seq ?_
  refine C_region ?_
  refine W_assign rfl rfl rfl ?_
  refine W_end ?_
  refine E_then ?_
  refine C_seq ?_
  refine C_seq ?_
  refine C_region ?_
  refine W_move rfl rfl rfl ?_
  refine W_lenStr rfl rfl Proofs.Tryd.runUnderlying9 rfl ?_
  refine W_bin rfl rfl rfl rfl rfl ?_
  refine W_end ?_
  refine E_then ?_
  refine C_cond (b := decide ((substr.size : Int) = 0)) rfl (fun hb101 => ?_) (fun hb101 => ?_)
  · have hm := ite_t' hb101 hm
    refine C_seq ?_
    cases hm
  · have hm := ite_f' hb101 hm
    refine C_skip ?_
    refine E_then ?_
    refine C_seq ?_
    refine C_seq ?_
    refine C_region ?_
    refine W_move rfl rfl rfl ?_
    refine W_lenStr rfl rfl Proofs.Tryd.runUnderlying9 rfl ?_
    refine W_bin rfl rfl rfl rfl rfl ?_
    refine W_end ?_
    refine E_then ?_
    refine C_cond (b := decide ((substr.size : Int) = 1)) rfl (fun hb102 => ?_) (fun hb102 => ?_)
    · have hm := ite_t' hb102 hm
      refine C_seq ?_
      refine C_region ?_
      refine W_move rfl rfl rfl ?_
      refine W_move rfl rfl rfl ?_
      obtain ⟨y103, h104, he105, hm⟩ := idx_some hm
      refine W_indexStr rfl rfl Proofs.Tryd.runUnderlying9 rfl rfl h104 he105 ?_
      refine W_extern (cntB_extern Proofs.Tryd.func35 (by kernel_rfl) (by kernel_rfl) (by kernel_rfl) (by kernel_rfl) _ _) rfl rfl rfl ?_
      refine W_assign rfl rfl rfl ?_
      refine W_end ?_
      refine E_then ?_
      refine C_ret ?_
      refine E_ret_then ?_
      obtain rfl := Option.some.inj hm
      refine E_weak (Hp.le_refl _) ?_
      exact end1 rfl rfl ⟨rfl, rfl, rfl⟩
    · have hm := ite_f' hb102 hm
      refine C_skip ?_
      refine E_then ?_
      refine C_seq ?_
      refine C_region ?_
      refine W_assign rfl rfl rfl ?_
      refine W_end ?_
      refine E_then ?_
      refine C_block ?_
      refine C_keep (L' := [(0, .string (p0_s)), (1, .string (substr)), (5, .int .i64 (0))]) ⟨rfl, rfl, rfl, trivial⟩ (List.Perm.refl _) ?_
      refine C_loop (fun n H' M' L' => ∃ s118 : ByteArray, ∃ n119 : Int, loopF (fun s122 n => m_strings_Count_b1 substr s122.1 s122.2 n) n (s118, n119) = some r ∧ H.le H' ∧ M = M' ∧ [(0, .string (s118)), (1, .string (substr)), (5, .int .i64 (n119))] = L') FUEL ⟨p0_s, 0, hm, (Hp.le_refl _), rfl, rfl⟩ ?_
      rintro n125 H120 _ _ ⟨s118, n119, hm, hle121, rfl, rfl⟩
      cases n125 with
      | zero => cases hm
      | succ n125 =>
        have hm : m_strings_Count_b1 substr s118 n119 (loopF (fun s122 n => m_strings_Count_b1 substr s122.1 s122.2 n) n125) = some r := hm
        generalize hn124 : loopF (fun s122 n => m_strings_Count_b1 substr s122.1 s122.2 n) n125 = nx123 at hm
        unfold m_strings_Count_b1 at hm
        refine C_block ?_
        refine C_seq ?_
        refine C_region ?_
        refine W_move rfl rfl rfl ?_
        refine W_move rfl rfl rfl ?_
        obtain ⟨r131, hc132, hm⟩ := bind_some hm
        refine W_call Proofs.Tryd.call36 rfl rfl rfl (fun w ht => by have h := m_strings_Index_c (hm := hc132)  ht; exact h) ?_
        rintro _ _ _ ⟨rfl, rfl, rfl⟩
        refine W_assign rfl rfl rfl ?_
        refine W_end ?_
        refine E_then ?_
        refine C_seq ?_
        refine C_seq ?_
        refine C_region ?_
        refine W_move rfl rfl rfl ?_
        refine W_bin rfl rfl rfl rfl rfl ?_
        refine W_end ?_
        refine E_then ?_
        refine C_cond (b := decide (r131 = (-1))) rfl (fun hb133 => ?_) (fun hb133 => ?_)
        · have hm := ite_t' hb133 hm
          refine C_seq ?_
          refine C_region ?_
          refine W_move rfl rfl rfl ?_
          refine W_assign rfl rfl rfl ?_
          refine W_end ?_
          refine E_then ?_
          refine C_ret ?_
          refine E_ret_then ?_
          refine E_ret_block ?_
          refine E_ret_then ?_
          refine E_ret_block ?_
          obtain rfl := Option.some.inj hm
          refine E_weak hle121 ?_
          exact end1 rfl rfl ⟨rfl, rfl, rfl⟩
        · have hm := ite_f' hb133 hm
          refine C_skip ?_
          refine E_then ?_
          refine C_seq ?_
          refine C_region ?_
          refine W_move rfl rfl rfl ?_
          refine W_bin rfl rfl rfl rfl rfl ?_
          refine W_assign rfl rfl rfl ?_
          refine W_end ?_
          refine E_then ?_
          refine C_region ?_
          refine W_move rfl rfl rfl ?_
          refine W_move rfl rfl rfl ?_
          refine W_move rfl rfl rfl ?_
          refine W_lenStr rfl rfl Proofs.Tryd.runUnderlying9 rfl ?_
          refine W_bin rfl rfl rfl rfl rfl ?_
          obtain ⟨hz134, hm⟩ := need_some hm
          refine W_sliceStr (l := (IntKind.i64.wrap (r131 + (substr.size : Int)) : Int).toNat) (h := s118.size) rfl rfl Proofs.Tryd.runUnderlying9 rfl (.inl ⟨rfl, rfl⟩) (.inr ⟨_, _, _, rfl, rfl, by omega, by omega, rfl⟩) ?_
          refine W_assign rfl rfl rfl ?_
          refine W_end ?_
          refine E_normal_block ?_
          exact E_keepJ (E_back (Nat.lt_succ_self _) ⟨s118.extract ((IntKind.i64.wrap (r131 + (substr.size : Int)) : Int).toNat) s118.size, IntKind.i64.wrap (n119 + 1), (by rw [hn124]; exact hm), hle121, rfl, rfl⟩) (List.Perm.refl _) ⟨rfl, rfl, rfl, trivial⟩

theorem m_internal_stringslite_Cut_c {B : Nat} {w0 w : World} [Tabs B w0] {H : Hp} {M : List Res} {p0_s : ByteArray} {sep : ByteArray} {r : ByteArray × ByteArray × Bool} (hm : m_internal_stringslite_Cut p0_s sep = some r) (ht : St B w0 H (M) w) :
    Calls Proofs.Tryd.prog 40 [.string (p0_s), .string (sep)].toArray w (Ret B w0 fun H' M' v => H = H' ∧ M = M' ∧ .tuple #[.string (r.1), .string (r.2.1), .bool (r.2.2)] = v) := by
  unfold m_internal_stringslite_Cut at hm
  refine enter Proofs.Tryd.func40 rfl rfl rfl ht ?_
  refine C_seq ?_
  refine C_region ?_
  refine W_assign rfl rfl rfl ?_
  refine W_assign rfl rfl rfl ?_
  refine W_assign rfl rfl rfl ?_
  refine W_end ?_
  refine E_then ?_
  refine C_seq ?_
  refine C_seq ?_
  refine C_region ?_
  refine W_move rfl rfl rfl ?_
  refine W_move rfl rfl rfl ?_
  obtain ⟨r101, hc102, hm⟩ := bind_some hm
  refine W_call Proofs.Tryd.call48 rfl rfl rfl (fun w ht => by have h := m_internal_stringslite_Index_c (hm := hc102)  ht; exact h) ?_
  rintro _ _ _ ⟨rfl, rfl, rfl⟩
  refine W_assign rfl rfl rfl ?_
  refine W_end ?_
  refine E_then ?_
  refine C_seq ?_
  refine C_region ?_
  refine W_move rfl rfl rfl ?_
  refine W_bin rfl rfl rfl rfl rfl ?_
  refine W_end ?_
  refine E_then ?_
  refine C_cond (b := decide (0 ≤ r101)) rfl (fun hb103 => ?_) (fun hb103 => ?_)
  · have hm := ite_t' hb103 hm
    refine C_seq ?_
    obtain ⟨hz104, hm⟩ := need_some hm
    obtain ⟨hz105, hm⟩ := need_some hm
    refine C_region_tok 10 (phiT [(fun H rs v => [] = rs ∧ .string (p0_s) = v), (fun H rs v => [] = rs ∧ .int .i64 (r101) = v), (fun H rs v => [] = rs ∧ .string (p0_s.extract 0 ((r101 : Int).toNat)) = v), (fun H rs v => [] = rs ∧ .string (p0_s) = v), (fun H rs v => [] = rs ∧ .int .i64 (r101) = v), (fun H rs v => [] = rs ∧ .string (sep) = v), (fun H rs v => [] = rs ∧ .int .i64 ((sep.size : Int)) = v), (fun H rs v => [] = rs ∧ .int .i64 (IntKind.i64.wrap (r101 + (sep.size : Int))) = v), (fun H rs v => [] = rs ∧ .string (p0_s.extract ((IntKind.i64.wrap (r101 + (sep.size : Int)) : Int).toNat) p0_s.size) = v), (fun H rs v => [] = rs ∧ .string (p0_s.extract 0 ((r101 : Int).toNat)) = v)]) [[], [], [], [], [], [], [], [], [], []] [[], [], [], [], [], [], [], [], [], []] [] [0, 1, 2, 3, 4, 5, 6, 7, 8, 9] [(0, .string (p0_s)), (1, .string (sep)), (5, .string (⟨#[]⟩)), (6, .bool (false)), (7, .int .i64 (r101)), (8, .string (p0_s)), (9, .string (sep)), (10, .int .i64 (r101)), (11, .int .i64 (r101)), (12, .bool (decide (0 ≤ r101)))] [[], [], [], [], [], [], [], [], [], []] Facts.mixed (by kernel_rfl) rfl rfl (by kernel_rfl) (Kept.lk ⟨rfl, rfl, rfl, rfl, rfl, rfl, rfl, rfl, rfl, rfl, trivial⟩) ⟨trivial, trivial, trivial, trivial, trivial, trivial, trivial, trivial, trivial, trivial, trivial⟩ rfl (by kernel_rfl) (phiT_mono ⟨eq_monoT _ _, eq_monoT _ _, eq_monoT _ _, eq_monoT _ _, eq_monoT _ _, eq_monoT _ _, eq_monoT _ _, eq_monoT _ _, eq_monoT _ _, eq_monoT _ _, trivial⟩) ⟨?_, ?_, ?_, ?_, ?_, ?_, ?_, ?_, ?_, ?_, trivial⟩ ?_
    · intro HX hX X Rest hR
      intro hU hUp
      refine W_move rfl rfl rfl ?_
      exact W_end (OneT_end [] (Hp.le_refl _) ⟨rfl, rfl⟩)
    · intro HX hX X Rest hR
      intro hU hUp
      refine W_move rfl rfl rfl ?_
      exact W_end (OneT_end [] (Hp.le_refl _) ⟨rfl, rfl⟩)
    · intro HX hX X Rest hR
      rintro _ _ ⟨rfl, rfl⟩
      rintro _ _ ⟨rfl, rfl⟩
      intro hU hUp
      refine W_sliceStr (l := 0) (h := (r101 : Int).toNat) rfl rfl Proofs.Tryd.runUnderlying9 rfl (.inr ⟨_, _, _, rfl, rfl, by omega, by omega, rfl⟩) (.inl ⟨rfl, rfl⟩) ?_
      exact W_end (OneT_end [] (Hp.le_refl _) ⟨rfl, rfl⟩)
    · intro HX hX X Rest hR
      intro hU hUp
      refine W_move rfl rfl rfl ?_
      exact W_end (OneT_end [] (Hp.le_refl _) ⟨rfl, rfl⟩)
    · intro HX hX X Rest hR
      intro hU hUp
      refine W_move rfl rfl rfl ?_
      exact W_end (OneT_end [] (Hp.le_refl _) ⟨rfl, rfl⟩)
    · intro HX hX X Rest hR
      intro hU hUp
      refine W_move rfl rfl rfl ?_
      exact W_end (OneT_end [] (Hp.le_refl _) ⟨rfl, rfl⟩)
    · intro HX hX X Rest hR
      rintro _ _ ⟨rfl, rfl⟩
      intro hU hUp
      refine W_lenStr rfl rfl Proofs.Tryd.runUnderlying9 rfl ?_
      exact W_end (OneT_end [] (Hp.le_refl _) ⟨rfl, rfl⟩)
    · intro HX hX X Rest hR
      rintro _ _ ⟨rfl, rfl⟩
      rintro _ _ ⟨rfl, rfl⟩
      intro hU hUp
      refine W_bin rfl rfl rfl rfl rfl ?_
      exact W_end (OneT_end [] (Hp.le_refl _) ⟨rfl, rfl⟩)
    · intro HX hX X Rest hR
      rintro _ _ ⟨rfl, rfl⟩
      rintro _ _ ⟨rfl, rfl⟩
      intro hU hUp
      refine W_sliceStr (l := (IntKind.i64.wrap (r101 + (sep.size : Int)) : Int).toNat) (h := p0_s.size) rfl rfl Proofs.Tryd.runUnderlying9 rfl (.inl ⟨rfl, rfl⟩) (.inr ⟨_, _, _, rfl, rfl, by omega, by omega, rfl⟩) ?_
      exact W_end (OneT_end [] (Hp.le_refl _) ⟨rfl, rfl⟩)
    · intro HX hX X Rest hR
      rintro _ _ ⟨rfl, rfl⟩
      rintro _ _ ⟨rfl, rfl⟩
      rintro _ _ ⟨rfl, rfl⟩
      rintro _ _ ⟨rfl, rfl⟩
      intro hU hUp
      refine W_assign rfl rfl rfl ?_
      exact W_end (OneT_end [] (Hp.le_refl _) ⟨rfl, rfl⟩)
    intro H106 hle107
    rintro _ _ ⟨rfl, rfl⟩
    rintro _ _ ⟨rfl, rfl⟩
    rintro _ _ ⟨rfl, rfl⟩
    rintro _ _ ⟨rfl, rfl⟩
    rintro _ _ ⟨rfl, rfl⟩
    rintro _ _ ⟨rfl, rfl⟩
    rintro _ _ ⟨rfl, rfl⟩
    rintro _ _ ⟨rfl, rfl⟩
    rintro _ _ ⟨rfl, rfl⟩
    rintro _ _ ⟨rfl, rfl⟩
    refine W_assign rfl rfl rfl ?_
    refine W_assign rfl rfl rfl ?_
    refine W_end ?_
    refine E_then ?_
    refine C_ret ?_
    refine E_ret_then ?_
    obtain rfl := Option.some.inj hm
    refine E_weak hle107 ?_
    exact end3 rfl rfl rfl rfl ⟨rfl, rfl, rfl⟩
  · have hm := ite_f' hb103 hm
    refine C_skip ?_
    refine E_then ?_
    refine C_seq ?_
    refine C_region ?_
    refine W_move rfl rfl rfl ?_
    refine W_assign rfl rfl rfl ?_
    refine W_assign rfl rfl rfl ?_
    refine W_assign rfl rfl rfl ?_
    refine W_end ?_
    refine E_then ?_
    refine C_ret ?_
    obtain rfl := Option.some.inj hm
    refine E_weak (Hp.le_refl _) ?_
    exact end3 rfl rfl rfl rfl ⟨rfl, rfl, rfl⟩

theorem m_strings_Cut_c {B : Nat} {w0 w : World} [Tabs B w0] {H : Hp} {M : List Res} {p0_s : ByteArray} {sep : ByteArray} {r : ByteArray × ByteArray × Bool} (hm : m_strings_Cut p0_s sep = some r) (ht : St B w0 H (M) w) :
    Calls Proofs.Tryd.prog 27 [.string (p0_s), .string (sep)].toArray w (Ret B w0 fun H' M' v => H = H' ∧ M = M' ∧ .tuple #[.string (r.1), .string (r.2.1), .bool (r.2.2)] = v) := by
  unfold m_strings_Cut at hm
  refine enter Proofs.Tryd.func27 rfl rfl rfl ht ?_
  refine C_seq ?_
  refine C_region ?_
  refine W_assign rfl rfl rfl ?_
  refine W_assign rfl rfl rfl ?_
  refine W_assign rfl rfl rfl ?_
  refine W_end ?_
  refine E_then ?_
  refine C_seq ?_
  refine C_region ?_
  refine W_move rfl rfl rfl ?_
  refine W_move rfl rfl rfl ?_
  obtain ⟨r101, hc102, hm⟩ := bind_some hm
  refine W_call Proofs.Tryd.call40 rfl rfl rfl (fun w ht => by have h := m_internal_stringslite_Cut_c (hm := hc102)  ht; exact h) ?_
  rintro _ _ _ ⟨rfl, rfl, rfl⟩
  refine W_extract rfl rfl rfl rfl ?_
  refine W_extract rfl rfl rfl rfl ?_
  refine W_extract rfl rfl rfl rfl ?_
  refine W_assign rfl rfl rfl ?_
  refine W_assign rfl rfl rfl ?_
  refine W_assign rfl rfl rfl ?_
  refine W_end ?_
  refine E_then ?_
  refine C_ret ?_
  obtain rfl := Option.some.inj hm
  refine E_weak (Hp.le_refl _) ?_
  exact end3 rfl rfl rfl rfl ⟨rfl, rfl, rfl⟩

theorem m_strings_genSplit_c {B : Nat} {w0 w : World} [Tabs B w0] {H : Hp} {M : List Res} {p0_s : ByteArray} {sep : ByteArray} {sepSave : Int} {p3_n : Int} {r : (List ByteArray)} (hm : m_strings_genSplit p0_s sep sepSave p3_n = some r) (ht : St B w0 H (M) w) :
    Calls Proofs.Tryd.prog 41 [.string (p0_s), .string (sep), .int .i64 (sepSave), .int .i64 (p3_n)].toArray w (Ret B w0 fun H' M' v => H = H' ∧ ∃ qv0 : Value, ∃ qxs0 : List Value, .row qv0 9 (Rep.sz ByteArray) r.length qxs0 :: M = M' ∧ qv0 = v ∧ RwF qv0 qxs0 r) := by
  unfold m_strings_genSplit at hm
  refine enter Proofs.Tryd.func41 rfl rfl rfl ht ?_
  refine C_seq ?_
  refine C_region ?_
  refine W_assign rfl rfl rfl ?_
  refine W_end ?_
  refine E_then ?_
  refine C_seq ?_
  refine C_seq ?_
  refine C_region ?_
  refine W_move rfl rfl rfl ?_
  refine W_bin rfl rfl rfl rfl rfl ?_
  refine W_end ?_
  refine E_then ?_
  refine C_cond (b := decide (p3_n = 0)) rfl (fun hb101 => ?_) (fun hb101 => ?_)
  · have hm := ite_t' hb101 hm
    refine C_seq ?_
    refine C_region ?_
    refine W_assign rfl rfl rfl ?_
    refine W_end ?_
    refine E_then ?_
    refine C_ret ?_
    refine E_ret_then ?_
    refine E_nilRow 9 (Rep.sz ByteArray) ?_
    obtain rfl := Option.some.inj hm
    refine E_weak (Hp.le_refl _) ?_
    exact end1 rfl rfl ⟨rfl, (.slice none 0 0), [], rfl, rfl, (Rw.nil (H := H)).toF⟩
  · have hm := ite_f' hb101 hm
    refine C_skip ?_
    refine E_then ?_
    refine C_seq ?_
    refine C_seq ?_
    refine C_region ?_
    refine W_move rfl rfl rfl ?_
    refine W_bin rfl rfl rfl rfl rfl ?_
    refine W_end ?_
    refine E_then ?_
    refine C_cond (b := decide (sep = (⟨#[]⟩))) rfl (fun hb102 => ?_) (fun hb102 => ?_)
    · have hm := ite_t' hb102 hm
      refine C_seq ?_
      cases hm
    · have hm := ite_f' hb102 hm
      refine C_skip ?_
      refine E_then ?_
      refine C_seq_join (fun H' M' L' => ∃ n106 : Int, m_strings_genSplit_b4 p0_s sep sepSave n106 = some r ∧ H = H' ∧ M = M' ∧ [(0, .string (p0_s)), (1, .string (sep)), (2, .int .i64 (sepSave)), (3, .int .i64 (n106))] = L') ?_ (fun J107 => ?_)
      · rintro _ _ _ ⟨n106, hm, rfl, rfl, rfl⟩
        unfold m_strings_genSplit_b4 at hm
        refine C_seq ?_
        refine C_region ?_
        refine W_move rfl rfl rfl ?_
        refine W_move rfl rfl rfl ?_
        refine W_lenStr rfl rfl Proofs.Tryd.runUnderlying9 rfl ?_
        refine W_bin rfl rfl rfl rfl rfl ?_
        refine W_min rfl rfl rfl rfl ?_
        refine W_assign rfl rfl rfl ?_
        refine W_end ?_
        refine E_then ?_
        refine C_seq ?_
        refine C_region ?_
        refine W_move rfl rfl rfl ?_
        obtain ⟨hz108, hm⟩ := need_some hm
        refine W_makeSlice (α := ByteArray) (zs := [.string (⟨#[]⟩)]) (ze := (⟨#[]⟩)) rfl rfl Proofs.Tryd.underlying58 ⟨_, rfl, rfl, rfl, rfl⟩ rfl rfl rfl rfl rfl rfl hz108.1 hz108.2 ?_
        intro v109 xs110 hr111
        refine W_assign rfl rfl rfl ?_
        refine W_end ?_
        refine E_then ?_
        refine C_seq ?_
        refine C_region ?_
        refine W_move rfl rfl rfl ?_
        refine W_bin rfl rfl rfl rfl rfl ?_
        refine W_assign rfl rfl rfl ?_
        refine W_end ?_
        refine E_then ?_
        refine C_seq ?_
        refine C_region ?_
        refine W_assign rfl rfl rfl ?_
        refine W_end ?_
        refine E_then ?_
        refine C_seq_join (fun H' M' L' => ∃ s183 : ByteArray, ∃ l186 : List ByteArray, ∃ n188 : Int, ∃ xs185 : List Value, m_strings_genSplit_b2 s183 l186 n188 = some r ∧ Rw H' v109 xs185 l186 ∧ H.le H' ∧ .row v109 9 (Rep.sz ByteArray) l186.length xs185 :: M = M' ∧ [(0, .string (s183)), (9, v109), (10, .int .i64 (n188))] = L') ?_ (fun J191 => ?_)
        · rintro H189 _ _ ⟨s183, l186, n188, xs185, hm, hr187, hle190, rfl, rfl⟩
          unfold m_strings_genSplit_b2 at hm
          refine C_seq ?_
          refine C_region ?_
          refine W_move rfl rfl rfl ?_
          refine W_move rfl rfl rfl ?_
          refine W_move rfl rfl rfl ?_
          obtain ⟨y192, h193, he194, hm⟩ := idx_some hm
          refine W_indexO (List.mem_cons_self ..) rfl rfl Proofs.Tryd.runUnderlying58 Proofs.Tryd.sizeOf9 rfl rfl h193 (List.getElem?_eq_some_iff.1 he194).1 ?_
          obtain ⟨_, rfl, hg195⟩ := (hr187).elem he194
          obtain ⟨hr196, he197, hg198⟩ := Rw.put (cs := [.string (s183)]) (o := 0) (c := [.string (y192)]) (out := [.string (s183)]) (e2 := s183) hr187 he194 rfl hg195 rfl rfl rfl
          refine W_storeO2 (i := (n188 : Int).toNat * Rep.sz ByteArray + 0) (cs := [.string (s183)]) rfl Proofs.Tryd.sizeOf9 rfl (row_ad0 _ _) rfl rfl rfl (Rw.room hr187 he194 rfl) rfl (all_cons rfl all_nil) (n' := (l186.set ((n188 : Int).toNat) s183).length) List.length_set ?_
          generalize over xs185 ((n188 : Int).toNat * Rep.sz ByteArray + 0) [.string (s183)] = xs199 at hr196 hg198 ⊢
          refine W_end ?_
          refine E_then ?_
          refine C_seq ?_
          refine C_region ?_
          refine W_move rfl rfl rfl ?_
          refine W_move rfl rfl rfl ?_
          refine W_bin rfl rfl rfl rfl rfl ?_
          obtain ⟨hz200, hm⟩ := need_some hm
          refine W_sliceO (α := ByteArray) (l := 0) (h := (IntKind.i64.wrap (n188 + 1) : Int).toNat) rfl rfl Proofs.Tryd.runUnderlying58 Proofs.Tryd.sizeOf9 rfl rfl hr196 (by omega) (by omega) (fun m hmm => (.inr ⟨_, _, _, rfl, rfl, by omega, by omega, rfl⟩)) (.inl ⟨rfl, rfl⟩) ?_
          intro v201 xs202 hr203
          refine W_assign rfl rfl rfl ?_
          refine W_end ?_
          refine E_then ?_
          refine C_ret ?_
          obtain rfl := Option.some.inj hm
          refine E_weak hle190 ?_
          exact end1 rfl rfl ⟨rfl, v201, xs202, rfl, rfl, (hr203).toF⟩
        · refine C_block ?_
          refine C_keep (L' := [(0, .string (p0_s)), (1, .string (sep)), (2, .int .i64 (sepSave)), (3, .int .i64 (IntKind.i64.wrap ((min n106 (IntKind.i64.wrap ((p0_s.size : Int) + 1))) - 1))), (9, v109), (10, .int .i64 (0))]) ⟨rfl, rfl, rfl, rfl, rfl, rfl, trivial⟩ (List.Perm.refl _) ?_
          refine C_loop (fun n H' M' L' => ∃ s244 : ByteArray, ∃ l247 : List ByteArray, ∃ n249 : Int, ∃ xs246 : List Value, loopF (fun s252 n => m_strings_genSplit_b3 p0_s sep sepSave n106 s252.1 s252.2.1 s252.2.2 n) n (s244, l247, n249) = some r ∧ Rw H' v109 xs246 l247 ∧ H.le H' ∧ .row v109 9 (Rep.sz ByteArray) l247.length xs246 :: M = M' ∧ [(0, .string (s244)), (1, .string (sep)), (2, .int .i64 (sepSave)), (3, .int .i64 (IntKind.i64.wrap ((min n106 (IntKind.i64.wrap ((p0_s.size : Int) + 1))) - 1))), (9, v109), (10, .int .i64 (n249))] = L') FUEL ⟨p0_s, (List.replicate (min n106 (IntKind.i64.wrap ((p0_s.size : Int) + 1)) : Int).toNat ((⟨#[]⟩) : ByteArray)), 0, xs110, hm, hr111, (Hp.le_refl _), rfl, rfl⟩ ?_
          rintro n255 H250 _ _ ⟨s244, l247, n249, xs246, hm, hr248, hle251, rfl, rfl⟩
          cases n255 with
          | zero => cases hm
          | succ n255 =>
            have hm : m_strings_genSplit_b3 p0_s sep sepSave n106 s244 l247 n249 (loopF (fun s252 n => m_strings_genSplit_b3 p0_s sep sepSave n106 s252.1 s252.2.1 s252.2.2 n) n255) = some r := hm
            generalize hn254 : loopF (fun s252 n => m_strings_genSplit_b3 p0_s sep sepSave n106 s252.1 s252.2.1 s252.2.2 n) n255 = nx253 at hm
            unfold m_strings_genSplit_b3 at hm
            refine C_seq ?_
            refine C_seq ?_
            refine C_region ?_
            refine W_move rfl rfl rfl ?_
            refine W_move rfl rfl rfl ?_
            refine W_bin rfl rfl rfl rfl rfl ?_
            refine W_end ?_
            refine E_then ?_
            refine C_cond (b := decide (n249 < (IntKind.i64.wrap ((min n106 (IntKind.i64.wrap ((p0_s.size : Int) + 1))) - 1)))) rfl (fun hb261 => ?_) (fun hb261 => ?_)
            · have hm := ite_t' hb261 hm
              refine C_skip ?_
              refine E_then ?_
              refine C_block ?_
              refine C_seq ?_
              refine C_region ?_
              refine W_move rfl rfl rfl ?_
              refine W_move rfl rfl rfl ?_
              obtain ⟨r262, hc263, hm⟩ := bind_some hm
              refine W_call Proofs.Tryd.call36 rfl rfl rfl (fun w ht => by have h := m_strings_Index_c (hm := hc263)  ht; exact h) ?_
              rintro _ _ _ ⟨rfl, rfl, rfl⟩
              refine W_assign rfl rfl rfl ?_
              refine W_end ?_
              refine E_then ?_
              refine C_seq ?_
              refine C_seq ?_
              refine C_region ?_
              refine W_move rfl rfl rfl ?_
              refine W_bin rfl rfl rfl rfl rfl ?_
              refine W_end ?_
              refine E_then ?_
              refine C_cond (b := decide (r262 < 0)) rfl (fun hb264 => ?_) (fun hb264 => ?_)
              · have hm := ite_t' hb264 hm
                refine C_exit ?_
                refine E_exit_then ?_
                refine E_exit_miss rfl ?_
                refine E_exit_then ?_
                refine E_exit_hit ?_
                exact E_keepJ (J191 _ _ _ ⟨s244, l247, n249, xs246, hm, hr248, hle251, rfl, rfl⟩) (List.Perm.refl _) ⟨rfl, rfl, rfl, trivial⟩
              · have hm := ite_f' hb264 hm
                refine C_skip ?_
                refine E_then ?_
                refine C_seq ?_
                refine C_region ?_
                refine W_move rfl rfl rfl ?_
                refine W_move rfl rfl rfl ?_
                refine W_move rfl rfl rfl ?_
                refine W_move rfl rfl rfl ?_
                refine W_move rfl rfl rfl ?_
                refine W_bin rfl rfl rfl rfl rfl ?_
                obtain ⟨hz265, hm⟩ := need_some hm
                refine W_sliceStr (l := 0) (h := (IntKind.i64.wrap (r262 + sepSave) : Int).toNat) rfl rfl Proofs.Tryd.runUnderlying9 rfl (.inr ⟨_, _, _, rfl, rfl, by omega, by omega, rfl⟩) (.inl ⟨rfl, rfl⟩) ?_
                obtain ⟨y266, h267, he268, hm⟩ := idx_some hm
                refine W_indexO (List.mem_cons_self ..) rfl rfl Proofs.Tryd.runUnderlying58 Proofs.Tryd.sizeOf9 rfl rfl h267 (List.getElem?_eq_some_iff.1 he268).1 ?_
                obtain ⟨_, rfl, hg269⟩ := (hr248).elem he268
                obtain ⟨hr270, he271, hg272⟩ := Rw.put (cs := [.string (s244.extract 0 ((IntKind.i64.wrap (r262 + sepSave) : Int).toNat))]) (o := 0) (c := [.string (y266)]) (out := [.string (s244.extract 0 ((IntKind.i64.wrap (r262 + sepSave) : Int).toNat))]) (e2 := (s244.extract 0 ((IntKind.i64.wrap (r262 + sepSave) : Int).toNat))) hr248 he268 rfl hg269 rfl rfl rfl
                refine W_storeO2 (i := (n249 : Int).toNat * Rep.sz ByteArray + 0) (cs := [.string (s244.extract 0 ((IntKind.i64.wrap (r262 + sepSave) : Int).toNat))]) rfl Proofs.Tryd.sizeOf9 rfl (row_ad0 _ _) rfl rfl rfl (Rw.room hr248 he268 rfl) rfl (all_cons rfl all_nil) (n' := (l247.set ((n249 : Int).toNat) (s244.extract 0 ((IntKind.i64.wrap (r262 + sepSave) : Int).toNat))).length) List.length_set ?_
                generalize over xs246 ((n249 : Int).toNat * Rep.sz ByteArray + 0) [.string (s244.extract 0 ((IntKind.i64.wrap (r262 + sepSave) : Int).toNat))] = xs273 at hr270 hg272 ⊢
                refine W_end ?_
                refine E_then ?_
                refine C_seq ?_
                refine C_region ?_
                refine W_move rfl rfl rfl ?_
                refine W_move rfl rfl rfl ?_
                refine W_move rfl rfl rfl ?_
                refine W_lenStr rfl rfl Proofs.Tryd.runUnderlying9 rfl ?_
                refine W_bin rfl rfl rfl rfl rfl ?_
                obtain ⟨hz274, hm⟩ := need_some hm
                refine W_sliceStr (l := (IntKind.i64.wrap (r262 + (sep.size : Int)) : Int).toNat) (h := s244.size) rfl rfl Proofs.Tryd.runUnderlying9 rfl (.inl ⟨rfl, rfl⟩) (.inr ⟨_, _, _, rfl, rfl, by omega, by omega, rfl⟩) ?_
                refine W_assign rfl rfl rfl ?_
                refine W_end ?_
                refine E_then ?_
                refine C_region ?_
                refine W_move rfl rfl rfl ?_
                refine W_bin rfl rfl rfl rfl rfl ?_
                refine W_assign rfl rfl rfl ?_
                refine W_end ?_
                refine E_normal_block ?_
                exact E_keepJ (E_back (Nat.lt_succ_self _) ⟨s244.extract ((IntKind.i64.wrap (r262 + (sep.size : Int)) : Int).toNat) s244.size, (l247.set ((n249 : Int).toNat) (s244.extract 0 ((IntKind.i64.wrap (r262 + sepSave) : Int).toNat))), IntKind.i64.wrap (n249 + 1), xs273, (by rw [hn254]; exact hm), hr270, hle251, rfl, rfl⟩) (List.Perm.refl _) ⟨rfl, rfl, rfl, rfl, rfl, rfl, trivial⟩
            · have hm := ite_f' hb261 hm
              refine C_exit ?_
              refine E_exit_then ?_
              refine E_exit_then ?_
              refine E_exit_hit ?_
              exact E_keepJ (J191 _ _ _ ⟨s244, l247, n249, xs246, hm, hr248, hle251, rfl, rfl⟩) (List.Perm.refl _) ⟨rfl, rfl, rfl, trivial⟩
      · refine C_seq ?_
        refine C_region ?_
        refine W_move rfl rfl rfl ?_
        refine W_bin rfl rfl rfl rfl rfl ?_
        refine W_end ?_
        refine E_then ?_
        refine C_cond (b := decide (p3_n < 0)) rfl (fun hb275 => ?_) (fun hb275 => ?_)
        · have hm := ite_t' hb275 hm
          refine C_region ?_
          refine W_move rfl rfl rfl ?_
          refine W_move rfl rfl rfl ?_
          obtain ⟨r276, hc277, hm⟩ := bind_some hm
          refine W_call Proofs.Tryd.call20 rfl rfl rfl (fun w ht => by have h := m_strings_Count_c (hm := hc277)  ht; exact h) ?_
          rintro _ _ _ ⟨rfl, rfl, rfl⟩
          refine W_bin rfl rfl rfl rfl rfl ?_
          refine W_assign rfl rfl rfl ?_
          refine W_end ?_
          exact E_keepJ (J107 _ _ _ ⟨IntKind.i64.wrap (r276 + 1), hm, rfl, rfl, rfl⟩) (List.Perm.refl _) ⟨rfl, rfl, rfl, rfl, trivial⟩
        · have hm := ite_f' hb275 hm
          refine C_skip ?_
          exact E_keepJ (J107 _ _ _ ⟨p3_n, hm, rfl, rfl, rfl⟩) (List.Perm.refl _) ⟨rfl, rfl, rfl, rfl, trivial⟩

theorem m_strings_Split_c {B : Nat} {w0 w : World} [Tabs B w0] {H : Hp} {M : List Res} {p0_s : ByteArray} {sep : ByteArray} {r : (List ByteArray)} (hm : m_strings_Split p0_s sep = some r) (ht : St B w0 H (M) w) :
    Calls Proofs.Tryd.prog 28 [.string (p0_s), .string (sep)].toArray w (Ret B w0 fun H' M' v => H = H' ∧ ∃ qv0 : Value, ∃ qxs0 : List Value, .row qv0 9 (Rep.sz ByteArray) r.length qxs0 :: M = M' ∧ qv0 = v ∧ RwF qv0 qxs0 r) := by
  unfold m_strings_Split at hm
  refine enter Proofs.Tryd.func28 rfl rfl rfl ht ?_
  refine C_seq ?_
  refine C_region ?_
  refine W_assign rfl rfl rfl ?_
  refine W_end ?_
  refine E_then ?_
  refine C_seq ?_
  refine C_region ?_
  refine W_move rfl rfl rfl ?_
  refine W_move rfl rfl rfl ?_
  obtain ⟨r101, hc102, hm⟩ := bind_some hm
  refine W_call Proofs.Tryd.call41 rfl rfl rfl (fun w ht => by have h := m_strings_genSplit_c (hm := hc102)  ht; exact h) ?_
  rintro _ _ _ ⟨rfl, v103, xs104, rfl, rfl, h105⟩
  have h105 := h105 H
  refine W_assign rfl rfl rfl ?_
  refine W_end ?_
  refine E_then ?_
  refine C_ret ?_
  obtain rfl := Option.some.inj hm
  refine E_weak (Hp.le_refl _) ?_
  exact end1 rfl rfl ⟨rfl, v103, xs104, rfl, rfl, (h105).toF⟩

theorem atoi29_c {B : Nat} {w0 w : World} [Tabs B w0] {H : Hp} {M : List Res} {s : ByteArray} (hs : s.size ≤ 281474976710656) (ht : St B w0 H M w) :
    Calls Proofs.Tryd.prog 29 [.string s].toArray w (Ret B w0 fun H' M' v => H = H' ∧ ∃ ev : Value, M = M' ∧ .tuple #[.int .i64 (atoiB s).1, ev] = v ∧ IsErr ev (atoiB s).2) := by
  unfold atoiB
  obtain ⟨T1, p1, h1⟩ := Tabs.e1 (B := B) (w0 := w0)
  obtain ⟨T2, p2, h2⟩ := Tabs.e2 (B := B) (w0 := w0)
  cases h : Lib.atoiAll s.data.toList with
  | ok v =>
    refine (Proofs.Tryd.strconv_Atoi_ok s (by omega) v h w).mono ?_
    rintro e w' ⟨rfl, hw⟩
    refine ⟨H, M, ?_, rfl, .nilIface, rfl, rfl, .inl ⟨rfl, rfl⟩⟩
    rcases hw with rfl | ⟨t, rfl⟩
    · exact ht
    · exact ht.under (Joins.below_bytesWorld _ _ _ _ (Nat.le_refl _))
  | range =>
    refine (Proofs.Tryd.strconv_Atoi_range_var s hs h T2 p2 w ((ht.var? gn2 (Tabs.below (w0 := w0) rfl)).trans h2)).mono ?_
    rintro e w' ⟨N, rfl, _, _, hb⟩
    exact ⟨H, M, ht.under hb, rfl, _, rfl, rfl, .inr ⟨rfl, _, _, rfl⟩⟩
  | _ =>
    refine (Proofs.Tryd.strconv_Atoi_syntax_var s hs h T1 p1 w ((ht.var? gn1 (Tabs.below (w0 := w0) rfl)).trans h1)).mono ?_
    rintro e w' ⟨N, rfl, _, _, hb⟩
    exact ⟨H, M, ht.under hb, rfl, _, rfl, rfl, .inr ⟨rfl, _, _, rfl⟩⟩
end Go.Sim
