/-
  Printed by a program: each Go function computes its model.
-/
import Derived.Test.YtldmgakhhhjhoaaDoorModP
import Derived.Test.YtldmgakhhhjhoaaDoorRows
import Derived.KernelRfl
import Derived.Test.YtldmgakhhhjhoaaDoorShelf
namespace Go.Sim
open Go
set_option linter.unusedVariables false
set_option linter.unusedSimpArgs false
set_option maxRecDepth 100000
theorem Facts.mixed : Proofs.Tryd.prog.follows .mixedOrders = true := by kernel_rfl

class Tabs (B : Nat) (w0 : World) : Prop where
  lt : 8 ≤ B
  t3 : Lib.TabIs Proofs.Tryd.prog w0 "internal/strconv.uint64pow10" .u64 gt3
  t6 : Lib.TabIs Proofs.Tryd.prog w0 "math/bits.deBruijn32tab" .u8 gt6
  t7 : Lib.TabIs Proofs.Tryd.prog w0 "math/bits.deBruijn64tab" .u8 gt7
theorem Tabs.below {B : Nat} {w0 : World} [h : Tabs B w0] {g : Nat} (hg : Nat.blt g 8 = true) : g < B := by
  have := h.lt
  have : g < 8 := by simpa [Nat.blt_eq] using hg
  omega
theorem gn3 : Proofs.Tryd.prog.globalNamed "internal/strconv.uint64pow10" = some 3 := by kernel_rfl
theorem gn6 : Proofs.Tryd.prog.globalNamed "math/bits.deBruijn32tab" = some 6 := by kernel_rfl
theorem gn7 : Proofs.Tryd.prog.globalNamed "math/bits.deBruijn64tab" = some 7 := by kernel_rfl

theorem m_archive_New_c {B : Nat} {w0 w : World} [Tabs B w0] {H : Hp} {M : List Res} {r : (Option S_archive_Archive)} (hm : m_archive_New = r) (ht : St B w0 H (M) w) :
    Calls Proofs.Tryd.prog 22 [].toArray w (Ret B w0 fun H' M' v => (r = none ∧ H.le H' ∧ M = M' ∧ .pointer none = v) ∨ (∃ qsp0 : S_archive_Archive, r = some qsp0 ∧ H.le H' ∧ ∃ qb0 : Nat, ∃ qv0 : Value, ∃ qxs0 : List Value, .obj qb0 (.cells [qv0].toArray 51 (0, 0)) :: .row qv0 30 (Rep.sz S_api_Event) qsp0.all_.length qxs0 :: M = M' ∧ .pointer (some ⟨qb0, 0, none⟩) = v ∧ Rw H' qv0 qxs0 qsp0.all_)) := by
  unfold m_archive_New at hm
  refine enter Proofs.Tryd.func22 rfl rfl rfl ht ?_
  refine C_seq ?_
  refine C_region ?_
  refine W_assign rfl rfl rfl ?_
  refine W_end ?_
  refine E_then ?_
  refine C_seq ?_
  refine C_region ?_
  refine W_build (css := []) (zs := [.slice none 0 0]) (out := [.slice none 0 0]) (places := [(0, 1)]) rfl rfl rfl trivial Proofs.Tryd.zeroValue51 rfl Proofs.Tryd.runUnderlying51 (fun w => by kernel_rfl) rfl ?_
  refine W_box (cs := [.slice none 0 0]) rfl rfl rfl rfl (fun b101 => ?_)
  refine W_assign rfl rfl rfl ?_
  refine W_end ?_
  refine E_then ?_
  refine C_ret ?_
  refine E_nilRow 30 (Rep.sz S_api_Event) ?_
  obtain rfl := hm
  refine E_perm (List.Perm.swap _ _ _) ?_
  exact end1 rfl rfl (.inr ⟨(S_archive_Archive.mk ([] : List S_api_Event)), rfl, (Hp.le_refl _), b101, (.slice none 0 0), [], rfl, rfl, Rw.nil⟩)

theorem m_gridhallref4_Cut_c {B : Nat} {w0 w : World} [Tabs B w0] {H : Hp} {M : List Res} {p0_n : Int} {p1_low : Int} {p2_high : Int} {r : Int} (hm : m_gridhallref4_Cut p0_n p1_low p2_high = some r) (ht : St B w0 H (M) w) :
    Calls Proofs.Tryd.prog 9 [.int .i64 (p0_n), .int .i64 (p1_low), .int .i64 (p2_high)].toArray w (Ret B w0 fun H' M' v => H = H' ∧ M = M' ∧ .int .i64 (r) = v) := by
  unfold m_gridhallref4_Cut at hm
  refine enter Proofs.Tryd.func9 rfl rfl rfl ht ?_
  refine C_seq ?_
  refine C_region ?_
  refine W_assign rfl rfl rfl ?_
  refine W_end ?_
  refine E_then ?_
  refine C_seq ?_
  refine C_region ?_
  refine W_move rfl rfl rfl ?_
  refine W_move rfl rfl rfl ?_
  refine W_bin rfl rfl rfl rfl rfl ?_
  refine W_bin rfl rfl rfl rfl rfl ?_
  refine W_assign rfl rfl rfl ?_
  refine W_end ?_
  refine E_then ?_
  refine C_seq ?_
  refine C_region ?_
  refine W_move rfl rfl rfl ?_
  refine W_move rfl rfl rfl ?_
  obtain ⟨hq101, hm⟩ := need_some hm
  refine W_rem rfl rfl rfl rfl hq101 ?_
  refine W_assign rfl rfl rfl ?_
  refine W_end ?_
  refine E_then ?_
  refine C_seq_join (fun H' M' L' => ∃ n103 : Int, m_gridhallref4_Cut_b1 p1_low n103 = some r ∧ H = H' ∧ M = M' ∧ [(0, .int .i64 (n103)), (1, .int .i64 (p1_low))] = L') ?_ (fun J104 => ?_)
  · rintro _ _ _ ⟨n103, hm, rfl, rfl, rfl⟩
    unfold m_gridhallref4_Cut_b1 at hm
    refine C_seq ?_
    refine C_region ?_
    refine W_move rfl rfl rfl ?_
    refine W_move rfl rfl rfl ?_
    refine W_bin rfl rfl rfl rfl rfl ?_
    refine W_assign rfl rfl rfl ?_
    refine W_end ?_
    refine E_then ?_
    refine C_ret ?_
    obtain rfl := Option.some.inj hm
    refine E_weak (Hp.le_refl _) ?_
    exact end1 rfl rfl ⟨rfl, rfl, rfl⟩
  · refine C_seq ?_
    refine C_region ?_
    refine W_move rfl rfl rfl ?_
    refine W_bin rfl rfl rfl rfl rfl ?_
    refine W_end ?_
    refine E_then ?_
    refine C_cond (b := decide ((Int.tmod p0_n (IntKind.i64.wrap ((IntKind.i64.wrap (p2_high - p1_low)) + 1))) < 0)) rfl (fun hb105 => ?_) (fun hb105 => ?_)
    · have hm := ite_t' hb105 hm
      refine C_region ?_
      refine W_move rfl rfl rfl ?_
      refine W_move rfl rfl rfl ?_
      refine W_bin rfl rfl rfl rfl rfl ?_
      refine W_assign rfl rfl rfl ?_
      refine W_end ?_
      exact E_keepJ (J104 _ _ _ ⟨IntKind.i64.wrap ((Int.tmod p0_n (IntKind.i64.wrap ((IntKind.i64.wrap (p2_high - p1_low)) + 1))) + (IntKind.i64.wrap ((IntKind.i64.wrap (p2_high - p1_low)) + 1))), hm, rfl, rfl, rfl⟩) (List.Perm.refl _) ⟨rfl, rfl, trivial⟩
    · have hm := ite_f' hb105 hm
      refine C_skip ?_
      exact E_keepJ (J104 _ _ _ ⟨Int.tmod p0_n (IntKind.i64.wrap ((IntKind.i64.wrap (p2_high - p1_low)) + 1)), hm, rfl, rfl, rfl⟩) (List.Perm.refl _) ⟨rfl, rfl, trivial⟩

theorem m_archive_kind_c {B : Nat} {w0 w : World} [Tabs B w0] {H : Hp} {M : List Res} {p0_s : ByteArray} {r : Bool} (hm : m_archive_kind p0_s = some r) (ht : St B w0 H (M) w) :
    Calls Proofs.Tryd.prog 46 [.string (p0_s)].toArray w (Ret B w0 fun H' M' v => H = H' ∧ M = M' ∧ .bool (r) = v) := by
  unfold m_archive_kind at hm
  refine enter Proofs.Tryd.func46 rfl rfl rfl ht ?_
  refine C_seq ?_
  refine C_region ?_
  refine W_assign rfl rfl rfl ?_
  refine W_end ?_
  refine E_then ?_
  refine C_seq ?_
  refine C_seq ?_
  refine C_region ?_
  refine W_move rfl rfl rfl ?_
  obtain ⟨hz101, hm⟩ := need_some hm
  refine W_convBytes rfl rfl Proofs.Tryd.runUnderlying9 Proofs.Tryd.runUnderlying45 Proofs.Tryd.runUnderlying5 rfl hz101 ?_
  intro v102 H103 hle104 h105
  refine W_lenR rfl rfl Proofs.Tryd.runUnderlying45 rfl h105 ?_
  refine W_move rfl rfl rfl ?_
  refine W_end ?_
  refine E_then ?_
  refine C_block ?_
  refine C_keep (L' := [(0, .string (p0_s)), (6, v102), (7, .int .i64 (((bytesL p0_s).length : Int))), (8, .int .i64 (((0 : Nat) : Int)))]) ⟨rfl, rfl, rfl, rfl, trivial⟩ (List.Perm.refl _) ?_
  refine C_loop (fun n H' M' L' => ∃ (k106 : Nat) (zs124' : List U8), (bytesL p0_s).drop k106 = zs124' ∧ zs124'.length = n ∧ forI (fun k y s119 n => m_archive_kind_b1 k y n) (fun _ => some ((decide (1 ≤ (p0_s.size : Int))) && (decide ((p0_s.size : Int) ≤ 8)))) k106 zs124' () = some r ∧ H103.le H' ∧ M = M' ∧ [(0, .string (p0_s)), (6, v102), (7, .int .i64 (((bytesL p0_s).length : Int))), (8, .int .i64 ((k106 : Int)))] = L') _ ⟨0, _, rfl, rfl, hm, (Hp.le_refl _), rfl, rfl⟩ ?_
  rintro _ H117 _ _ ⟨k106, zs124', hd126, rfl, hm, hle118, rfl, rfl⟩
  refine C_seq ?_
  refine C_region ?_
  refine W_bin rfl rfl rfl rfl rfl ?_
  refine W_end (E_then ?_)
  refine C_seq ?_
  refine C_cond (b := decide ((k106 : Int) < ((bytesL p0_s).length : Int))) rfl (fun hb128 => ?_) (fun hb128 => ?_)
  · obtain ⟨y123, zs124, rfl, hy125, hd127⟩ := rng_t hd126 hb128
    have hm : m_archive_kind_b1 k106 y123 (forI (fun k y s119 n => m_archive_kind_b1 k y n) (fun _ => some ((decide (1 ≤ (p0_s.size : Int))) && (decide ((p0_s.size : Int) ≤ 8)))) (k106 + 1) zs124) = some r := hm
    generalize hn121 : forI (fun k y s119 n => m_archive_kind_b1 k y n) (fun _ => some ((decide (1 ≤ (p0_s.size : Int))) && (decide ((p0_s.size : Int) ≤ 8)))) (k106 + 1) zs124 = nx120 at hm
    unfold m_archive_kind_b1 at hm
    refine C_skip (E_then ?_)
    refine C_seq ?_
    refine C_block ?_
    refine C_seq ?_
    refine C_region ?_
    obtain ⟨_, rfl, hc129⟩ := (h105).elem hy125
    refine W_indexS rfl rfl Proofs.Tryd.runUnderlying45 Proofs.Tryd.sizeOf5 rfl (h105.mono hle118) rfl (Int.natCast_nonneg _) hy125 ?_
    refine W_load rfl rfl Proofs.Tryd.isAgg5 rfl (HCells.one (hc129.mono hle118) 0 rfl).at ?_
    refine W_assign rfl rfl rfl ?_
    refine W_end ?_
    refine E_then ?_
    refine C_seq_join (fun H' M' L' => H117 = H' ∧ M = M' ∧ [(0, .string (p0_s)), (6, v102), (7, .int .i64 (((bytesL p0_s).length : Int))), (8, .int .i64 ((k106 : Int))), (17, .bool ((decide (y123.n < 97)) || (decide (122 < y123.n))))] = L') ?_ (fun J131 => ?_)
    · rintro _ _ _ ⟨rfl, rfl, rfl⟩
      refine C_cond (b := (decide (y123.n < 97)) || (decide (122 < y123.n))) rfl (fun hb132 => ?_) (fun hb132 => ?_)
      · have hm := ite_t' hb132 hm
        refine C_seq ?_
        refine C_region ?_
        refine W_assign rfl rfl rfl ?_
        refine W_end ?_
        refine E_then ?_
        refine C_ret ?_
        refine E_ret_block ?_
        refine E_ret_then ?_
        refine E_ret_then ?_
        refine E_ret_block ?_
        refine E_ret_then ?_
        obtain rfl := Option.some.inj hm
        refine E_weak (Hp.le_trans hle104 hle118) ?_
        exact end1 rfl rfl ⟨rfl, rfl, rfl⟩
      · have hm := ite_f' hb132 hm
        refine C_skip ?_
        refine E_normal_block ?_
        refine E_then ?_
        refine C_region ?_
        refine W_bin rfl rfl rfl rfl rfl ?_
        refine W_move rfl rfl rfl ?_
        refine W_end ?_
        exact E_keepJ (E_back (Nat.lt_succ_self _) ⟨k106 + 1, zs124, hd127, rfl, (by rw [hn121]; exact hm), hle118, rfl, rfl⟩) (List.Perm.refl _) ⟨rfl, rfl, rfl, (congrArg (fun z => some (Value.int .i64 z)) (i64_succ hy125 ((h105.mono hle118)).lenMax)), trivial⟩
    · refine C_region ?_
      refine W_move rfl rfl rfl ?_
      refine W_bin rfl rfl rfl rfl rfl ?_
      refine W_move rfl rfl rfl ?_
      cases hb133 : (decide (y123.n < 97))
      · refine W_move rfl rfl rfl ?_
        refine W_bin rfl rfl rfl rfl rfl ?_
        refine W_pick rfl rfl rfl rfl ?_
        refine W_end ?_
        exact E_keepJ (J131 _ _ _ ⟨rfl, rfl, rfl⟩) (List.Perm.refl _) ⟨rfl, rfl, rfl, rfl, (by show some (Value.bool (decide (122 < y123.n))) = some (Value.bool ((decide (y123.n < 97)) || (decide (122 < y123.n)))); simp only [hb133, Bool.and_true, Bool.true_and, Bool.false_and, Bool.and_false, Bool.or_true, Bool.true_or, Bool.or_false, Bool.false_or, Bool.not_true, Bool.not_false]), trivial⟩
      · refine W_no rfl rfl rfl ?_
        refine W_no rfl rfl rfl ?_
        refine W_pick rfl rfl rfl rfl ?_
        refine W_end ?_
        exact E_keepJ (J131 _ _ _ ⟨rfl, rfl, rfl⟩) (List.Perm.refl _) ⟨rfl, rfl, rfl, rfl, (by show some (Value.bool (true)) = some (Value.bool ((decide (y123.n < 97)) || (decide (122 < y123.n)))); simp only [hb133, Bool.and_true, Bool.true_and, Bool.false_and, Bool.and_false, Bool.or_true, Bool.true_or, Bool.or_false, Bool.false_or, Bool.not_true, Bool.not_false]), trivial⟩
  · obtain rfl := rng_f hd126 hb128
    have hm : (some ((decide (1 ≤ (p0_s.size : Int))) && (decide ((p0_s.size : Int) ≤ 8)))) = some r := hm
    refine C_exit (E_exit_then ?_)
    refine E_exit_then ?_
    refine E_exit_hit ?_
    refine E_then ?_
    refine C_seq_join (fun H' M' L' => H117 = H' ∧ M = M' ∧ [(2, .bool ((decide (1 ≤ (p0_s.size : Int))) && (decide ((p0_s.size : Int) ≤ 8))))] = L') ?_ (fun J135 => ?_)
    · rintro _ _ _ ⟨rfl, rfl, rfl⟩
      refine C_ret ?_
      obtain rfl := Option.some.inj hm
      refine E_weak (Hp.le_trans hle104 hle118) ?_
      exact end1 rfl rfl ⟨rfl, rfl, rfl⟩
    · refine C_region ?_
      refine W_move rfl rfl rfl ?_
      refine W_lenStr rfl rfl Proofs.Tryd.runUnderlying9 rfl ?_
      refine W_bin rfl rfl rfl rfl rfl ?_
      refine W_move rfl rfl rfl ?_
      cases hb136 : (decide (1 ≤ (p0_s.size : Int)))
      · refine W_no rfl rfl rfl ?_
        refine W_no rfl rfl rfl ?_
        refine W_no rfl rfl rfl ?_
        refine W_pick rfl rfl rfl rfl ?_
        refine W_assign rfl rfl rfl ?_
        refine W_end ?_
        exact E_keepJ (J135 _ _ _ ⟨rfl, rfl, rfl⟩) (List.Perm.refl _) ⟨(by show some (Value.bool (false)) = some (Value.bool ((decide (1 ≤ (p0_s.size : Int))) && (decide ((p0_s.size : Int) ≤ 8)))); simp only [hb136, Bool.and_true, Bool.true_and, Bool.false_and, Bool.and_false, Bool.or_true, Bool.true_or, Bool.or_false, Bool.false_or, Bool.not_true, Bool.not_false]), trivial⟩
      · refine W_move rfl rfl rfl ?_
        refine W_lenStr rfl rfl Proofs.Tryd.runUnderlying9 rfl ?_
        refine W_bin rfl rfl rfl rfl rfl ?_
        refine W_pick rfl rfl rfl rfl ?_
        refine W_assign rfl rfl rfl ?_
        refine W_end ?_
        exact E_keepJ (J135 _ _ _ ⟨rfl, rfl, rfl⟩) (List.Perm.refl _) ⟨(by show some (Value.bool (decide ((p0_s.size : Int) ≤ 8))) = some (Value.bool ((decide (1 ≤ (p0_s.size : Int))) && (decide ((p0_s.size : Int) ≤ 8)))); simp only [hb136, Bool.and_true, Bool.true_and, Bool.false_and, Bool.and_false, Bool.or_true, Bool.true_or, Bool.or_false, Bool.false_or, Bool.not_true, Bool.not_false]), trivial⟩

theorem m_netmodel_Name_c {B : Nat} {w0 w : World} [Tabs B w0] {H : Hp} {M : List Res} {p0_s : ByteArray} {r : Bool} (hm : m_netmodel_Name p0_s = some r) (ht : St B w0 H (M) w) :
    Calls Proofs.Tryd.prog 47 [.string (p0_s)].toArray w (Ret B w0 fun H' M' v => H = H' ∧ M = M' ∧ .bool (r) = v) := by
  unfold m_netmodel_Name at hm
  refine enter Proofs.Tryd.func47 rfl rfl rfl ht ?_
  refine C_seq ?_
  refine C_region ?_
  refine W_assign rfl rfl rfl ?_
  refine W_end ?_
  refine E_then ?_
  refine C_seq ?_
  refine C_seq ?_
  refine C_region ?_
  refine W_move rfl rfl rfl ?_
  obtain ⟨hz101, hm⟩ := need_some hm
  refine W_convBytes rfl rfl Proofs.Tryd.runUnderlying9 Proofs.Tryd.runUnderlying45 Proofs.Tryd.runUnderlying5 rfl hz101 ?_
  intro v102 H103 hle104 h105
  refine W_lenR rfl rfl Proofs.Tryd.runUnderlying45 rfl h105 ?_
  refine W_move rfl rfl rfl ?_
  refine W_end ?_
  refine E_then ?_
  refine C_block ?_
  refine C_keep (L' := [(0, .string (p0_s)), (6, v102), (7, .int .i64 (((bytesL p0_s).length : Int))), (8, .int .i64 (((0 : Nat) : Int)))]) ⟨rfl, rfl, rfl, rfl, trivial⟩ (List.Perm.refl _) ?_
  refine C_loop (fun n H' M' L' => ∃ (k106 : Nat) (zs144' : List U8), (bytesL p0_s).drop k106 = zs144' ∧ zs144'.length = n ∧ forI (fun k y s139 n => m_netmodel_Name_b1 k y n) (fun _ => some ((decide (1 ≤ (p0_s.size : Int))) && (decide ((p0_s.size : Int) ≤ 8)))) k106 zs144' () = some r ∧ H103.le H' ∧ M = M' ∧ [(0, .string (p0_s)), (6, v102), (7, .int .i64 (((bytesL p0_s).length : Int))), (8, .int .i64 ((k106 : Int)))] = L') _ ⟨0, _, rfl, rfl, hm, (Hp.le_refl _), rfl, rfl⟩ ?_
  rintro _ H137 _ _ ⟨k106, zs144', hd146, rfl, hm, hle138, rfl, rfl⟩
  refine C_seq ?_
  refine C_region ?_
  refine W_bin rfl rfl rfl rfl rfl ?_
  refine W_end (E_then ?_)
  refine C_seq ?_
  refine C_cond (b := decide ((k106 : Int) < ((bytesL p0_s).length : Int))) rfl (fun hb148 => ?_) (fun hb148 => ?_)
  · obtain ⟨y143, zs144, rfl, hy145, hd147⟩ := rng_t hd146 hb148
    have hm : m_netmodel_Name_b1 k106 y143 (forI (fun k y s139 n => m_netmodel_Name_b1 k y n) (fun _ => some ((decide (1 ≤ (p0_s.size : Int))) && (decide ((p0_s.size : Int) ≤ 8)))) (k106 + 1) zs144) = some r := hm
    generalize hn141 : forI (fun k y s139 n => m_netmodel_Name_b1 k y n) (fun _ => some ((decide (1 ≤ (p0_s.size : Int))) && (decide ((p0_s.size : Int) ≤ 8)))) (k106 + 1) zs144 = nx140 at hm
    unfold m_netmodel_Name_b1 at hm
    refine C_skip (E_then ?_)
    refine C_seq ?_
    refine C_block ?_
    refine C_seq ?_
    refine C_region ?_
    refine W_move rfl rfl rfl ?_
    obtain ⟨_, rfl, hc149⟩ := (h105).elem hy145
    refine W_indexS rfl rfl Proofs.Tryd.runUnderlying45 Proofs.Tryd.sizeOf5 rfl (h105.mono hle138) rfl (Int.natCast_nonneg _) hy145 ?_
    refine W_load rfl rfl Proofs.Tryd.isAgg5 rfl (HCells.one (hc149.mono hle138) 0 rfl).at ?_
    refine W_assign rfl rfl rfl ?_
    refine W_assign rfl rfl rfl ?_
    refine W_end ?_
    refine E_then ?_
    refine C_seq_join (fun H' M' L' => H137 = H' ∧ M = M' ∧ [(0, .string (p0_s)), (6, v102), (7, .int .i64 (((bytesL p0_s).length : Int))), (8, .int .i64 ((k106 : Int))), (31, .bool (!(((decide (65 ≤ y143.n)) && (decide (y143.n ≤ 90))) || (((decide (0 < (k106 : Int))) && (decide (48 ≤ y143.n))) && (decide (y143.n ≤ 57))))))] = L') ?_ (fun J156 => ?_)
    · rintro _ _ _ ⟨rfl, rfl, rfl⟩
      refine C_cond (b := !(((decide (65 ≤ y143.n)) && (decide (y143.n ≤ 90))) || (((decide (0 < (k106 : Int))) && (decide (48 ≤ y143.n))) && (decide (y143.n ≤ 57))))) rfl (fun hb157 => ?_) (fun hb157 => ?_)
      · have hm := ite_t' hb157 hm
        refine C_seq ?_
        refine C_region ?_
        refine W_assign rfl rfl rfl ?_
        refine W_end ?_
        refine E_then ?_
        refine C_ret ?_
        refine E_ret_block ?_
        refine E_ret_then ?_
        refine E_ret_then ?_
        refine E_ret_block ?_
        refine E_ret_then ?_
        obtain rfl := Option.some.inj hm
        refine E_weak (Hp.le_trans hle104 hle138) ?_
        exact end1 rfl rfl ⟨rfl, rfl, rfl⟩
      · have hm := ite_f' hb157 hm
        refine C_skip ?_
        refine E_normal_block ?_
        refine E_then ?_
        refine C_region ?_
        refine W_bin rfl rfl rfl rfl rfl ?_
        refine W_move rfl rfl rfl ?_
        refine W_end ?_
        exact E_keepJ (E_back (Nat.lt_succ_self _) ⟨k106 + 1, zs144, hd147, rfl, (by rw [hn141]; exact hm), hle138, rfl, rfl⟩) (List.Perm.refl _) ⟨rfl, rfl, rfl, (congrArg (fun z => some (Value.int .i64 z)) (i64_succ hy145 ((h105.mono hle138)).lenMax)), trivial⟩
    · refine C_region ?_
      refine W_move rfl rfl rfl ?_
      refine W_bin rfl rfl rfl rfl rfl ?_
      refine W_move rfl rfl rfl ?_
      cases hb158 : (decide (65 ≤ y143.n))
      · refine W_no rfl rfl rfl ?_
        refine W_no rfl rfl rfl ?_
        refine W_pick rfl rfl rfl rfl ?_
        refine W_move rfl rfl rfl ?_
        refine W_move rfl rfl rfl ?_
        refine W_bin rfl rfl rfl rfl rfl ?_
        refine W_move rfl rfl rfl ?_
        cases hb159 : (decide (0 < (k106 : Int)))
        · refine W_no rfl rfl rfl ?_
          refine W_no rfl rfl rfl ?_
          refine W_pick rfl rfl rfl rfl ?_
          refine W_move rfl rfl rfl ?_
          refine W_no rfl rfl rfl ?_
          refine W_no rfl rfl rfl ?_
          refine W_pick rfl rfl rfl rfl ?_
          refine W_pick rfl rfl rfl rfl ?_
          refine W_un rfl rfl rfl rfl ?_
          refine W_end ?_
          exact E_keepJ (J156 _ _ _ ⟨rfl, rfl, rfl⟩) (List.Perm.refl _) ⟨rfl, rfl, rfl, rfl, (by show some (Value.bool (true)) = some (Value.bool (!(((decide (65 ≤ y143.n)) && (decide (y143.n ≤ 90))) || (((decide (0 < (k106 : Int))) && (decide (48 ≤ y143.n))) && (decide (y143.n ≤ 57)))))); simp only [hb158, hb159, Bool.and_true, Bool.true_and, Bool.false_and, Bool.and_false, Bool.or_true, Bool.true_or, Bool.or_false, Bool.false_or, Bool.not_true, Bool.not_false]), trivial⟩
        · refine W_move rfl rfl rfl ?_
          refine W_bin rfl rfl rfl rfl rfl ?_
          refine W_pick rfl rfl rfl rfl ?_
          refine W_move rfl rfl rfl ?_
          cases hb160 : (decide (48 ≤ y143.n))
          · refine W_no rfl rfl rfl ?_
            refine W_no rfl rfl rfl ?_
            refine W_pick rfl rfl rfl rfl ?_
            refine W_pick rfl rfl rfl rfl ?_
            refine W_un rfl rfl rfl rfl ?_
            refine W_end ?_
            exact E_keepJ (J156 _ _ _ ⟨rfl, rfl, rfl⟩) (List.Perm.refl _) ⟨rfl, rfl, rfl, rfl, (by show some (Value.bool (true)) = some (Value.bool (!(((decide (65 ≤ y143.n)) && (decide (y143.n ≤ 90))) || (((decide (0 < (k106 : Int))) && (decide (48 ≤ y143.n))) && (decide (y143.n ≤ 57)))))); simp only [hb158, hb159, hb160, Bool.and_true, Bool.true_and, Bool.false_and, Bool.and_false, Bool.or_true, Bool.true_or, Bool.or_false, Bool.false_or, Bool.not_true, Bool.not_false]), trivial⟩
          · refine W_move rfl rfl rfl ?_
            refine W_bin rfl rfl rfl rfl rfl ?_
            refine W_pick rfl rfl rfl rfl ?_
            refine W_pick rfl rfl rfl rfl ?_
            refine W_un rfl rfl rfl rfl ?_
            refine W_end ?_
            exact E_keepJ (J156 _ _ _ ⟨rfl, rfl, rfl⟩) (List.Perm.refl _) ⟨rfl, rfl, rfl, rfl, (by show some (Value.bool (!(decide (y143.n ≤ 57)))) = some (Value.bool (!(((decide (65 ≤ y143.n)) && (decide (y143.n ≤ 90))) || (((decide (0 < (k106 : Int))) && (decide (48 ≤ y143.n))) && (decide (y143.n ≤ 57)))))); simp only [hb158, hb159, hb160, Bool.and_true, Bool.true_and, Bool.false_and, Bool.and_false, Bool.or_true, Bool.true_or, Bool.or_false, Bool.false_or, Bool.not_true, Bool.not_false]), trivial⟩
      · refine W_move rfl rfl rfl ?_
        refine W_bin rfl rfl rfl rfl rfl ?_
        refine W_pick rfl rfl rfl rfl ?_
        refine W_move rfl rfl rfl ?_
        cases hb161 : (decide (y143.n ≤ 90))
        · refine W_move rfl rfl rfl ?_
          refine W_bin rfl rfl rfl rfl rfl ?_
          refine W_move rfl rfl rfl ?_
          cases hb162 : (decide (0 < (k106 : Int)))
          · refine W_no rfl rfl rfl ?_
            refine W_no rfl rfl rfl ?_
            refine W_pick rfl rfl rfl rfl ?_
            refine W_move rfl rfl rfl ?_
            refine W_no rfl rfl rfl ?_
            refine W_no rfl rfl rfl ?_
            refine W_pick rfl rfl rfl rfl ?_
            refine W_pick rfl rfl rfl rfl ?_
            refine W_un rfl rfl rfl rfl ?_
            refine W_end ?_
            exact E_keepJ (J156 _ _ _ ⟨rfl, rfl, rfl⟩) (List.Perm.refl _) ⟨rfl, rfl, rfl, rfl, (by show some (Value.bool (true)) = some (Value.bool (!(((decide (65 ≤ y143.n)) && (decide (y143.n ≤ 90))) || (((decide (0 < (k106 : Int))) && (decide (48 ≤ y143.n))) && (decide (y143.n ≤ 57)))))); simp only [hb158, hb161, hb162, Bool.and_true, Bool.true_and, Bool.false_and, Bool.and_false, Bool.or_true, Bool.true_or, Bool.or_false, Bool.false_or, Bool.not_true, Bool.not_false]), trivial⟩
          · refine W_move rfl rfl rfl ?_
            refine W_bin rfl rfl rfl rfl rfl ?_
            refine W_pick rfl rfl rfl rfl ?_
            refine W_move rfl rfl rfl ?_
            cases hb163 : (decide (48 ≤ y143.n))
            · refine W_no rfl rfl rfl ?_
              refine W_no rfl rfl rfl ?_
              refine W_pick rfl rfl rfl rfl ?_
              refine W_pick rfl rfl rfl rfl ?_
              refine W_un rfl rfl rfl rfl ?_
              refine W_end ?_
              exact E_keepJ (J156 _ _ _ ⟨rfl, rfl, rfl⟩) (List.Perm.refl _) ⟨rfl, rfl, rfl, rfl, (by show some (Value.bool (true)) = some (Value.bool (!(((decide (65 ≤ y143.n)) && (decide (y143.n ≤ 90))) || (((decide (0 < (k106 : Int))) && (decide (48 ≤ y143.n))) && (decide (y143.n ≤ 57)))))); simp only [hb158, hb161, hb162, hb163, Bool.and_true, Bool.true_and, Bool.false_and, Bool.and_false, Bool.or_true, Bool.true_or, Bool.or_false, Bool.false_or, Bool.not_true, Bool.not_false]), trivial⟩
            · refine W_move rfl rfl rfl ?_
              refine W_bin rfl rfl rfl rfl rfl ?_
              refine W_pick rfl rfl rfl rfl ?_
              refine W_pick rfl rfl rfl rfl ?_
              refine W_un rfl rfl rfl rfl ?_
              refine W_end ?_
              exact E_keepJ (J156 _ _ _ ⟨rfl, rfl, rfl⟩) (List.Perm.refl _) ⟨rfl, rfl, rfl, rfl, (by show some (Value.bool (!(decide (y143.n ≤ 57)))) = some (Value.bool (!(((decide (65 ≤ y143.n)) && (decide (y143.n ≤ 90))) || (((decide (0 < (k106 : Int))) && (decide (48 ≤ y143.n))) && (decide (y143.n ≤ 57)))))); simp only [hb158, hb161, hb162, hb163, Bool.and_true, Bool.true_and, Bool.false_and, Bool.and_false, Bool.or_true, Bool.true_or, Bool.or_false, Bool.false_or, Bool.not_true, Bool.not_false]), trivial⟩
        · refine W_no rfl rfl rfl ?_
          refine W_no rfl rfl rfl ?_
          refine W_no rfl rfl rfl ?_
          refine W_no rfl rfl rfl ?_
          refine W_no rfl rfl rfl ?_
          refine W_no rfl rfl rfl ?_
          refine W_no rfl rfl rfl ?_
          refine W_no rfl rfl rfl ?_
          refine W_no rfl rfl rfl ?_
          refine W_no rfl rfl rfl ?_
          refine W_pick rfl rfl rfl rfl ?_
          refine W_un rfl rfl rfl rfl ?_
          refine W_end ?_
          exact E_keepJ (J156 _ _ _ ⟨rfl, rfl, rfl⟩) (List.Perm.refl _) ⟨rfl, rfl, rfl, rfl, (by show some (Value.bool (false)) = some (Value.bool (!(((decide (65 ≤ y143.n)) && (decide (y143.n ≤ 90))) || (((decide (0 < (k106 : Int))) && (decide (48 ≤ y143.n))) && (decide (y143.n ≤ 57)))))); simp only [hb158, hb161, Bool.and_true, Bool.true_and, Bool.false_and, Bool.and_false, Bool.or_true, Bool.true_or, Bool.or_false, Bool.false_or, Bool.not_true, Bool.not_false]), trivial⟩
  · obtain rfl := rng_f hd146 hb148
    have hm : (some ((decide (1 ≤ (p0_s.size : Int))) && (decide ((p0_s.size : Int) ≤ 8)))) = some r := hm
    refine C_exit (E_exit_then ?_)
    refine E_exit_then ?_
    refine E_exit_hit ?_
    refine E_then ?_
    refine C_seq_join (fun H' M' L' => H137 = H' ∧ M = M' ∧ [(2, .bool ((decide (1 ≤ (p0_s.size : Int))) && (decide ((p0_s.size : Int) ≤ 8))))] = L') ?_ (fun J165 => ?_)
    · rintro _ _ _ ⟨rfl, rfl, rfl⟩
      refine C_ret ?_
      obtain rfl := Option.some.inj hm
      refine E_weak (Hp.le_trans hle104 hle138) ?_
      exact end1 rfl rfl ⟨rfl, rfl, rfl⟩
    · refine C_region ?_
      refine W_move rfl rfl rfl ?_
      refine W_lenStr rfl rfl Proofs.Tryd.runUnderlying9 rfl ?_
      refine W_bin rfl rfl rfl rfl rfl ?_
      refine W_move rfl rfl rfl ?_
      cases hb166 : (decide (1 ≤ (p0_s.size : Int)))
      · refine W_no rfl rfl rfl ?_
        refine W_no rfl rfl rfl ?_
        refine W_no rfl rfl rfl ?_
        refine W_pick rfl rfl rfl rfl ?_
        refine W_assign rfl rfl rfl ?_
        refine W_end ?_
        exact E_keepJ (J165 _ _ _ ⟨rfl, rfl, rfl⟩) (List.Perm.refl _) ⟨(by show some (Value.bool (false)) = some (Value.bool ((decide (1 ≤ (p0_s.size : Int))) && (decide ((p0_s.size : Int) ≤ 8)))); simp only [hb166, Bool.and_true, Bool.true_and, Bool.false_and, Bool.and_false, Bool.or_true, Bool.true_or, Bool.or_false, Bool.false_or, Bool.not_true, Bool.not_false]), trivial⟩
      · refine W_move rfl rfl rfl ?_
        refine W_lenStr rfl rfl Proofs.Tryd.runUnderlying9 rfl ?_
        refine W_bin rfl rfl rfl rfl rfl ?_
        refine W_pick rfl rfl rfl rfl ?_
        refine W_assign rfl rfl rfl ?_
        refine W_end ?_
        exact E_keepJ (J165 _ _ _ ⟨rfl, rfl, rfl⟩) (List.Perm.refl _) ⟨(by show some (Value.bool (decide ((p0_s.size : Int) ≤ 8))) = some (Value.bool ((decide (1 ≤ (p0_s.size : Int))) && (decide ((p0_s.size : Int) ≤ 8)))); simp only [hb166, Bool.and_true, Bool.true_and, Bool.false_and, Bool.and_false, Bool.or_true, Bool.true_or, Bool.or_false, Bool.false_or, Bool.not_true, Bool.not_false]), trivial⟩

theorem m_archive_Check_c {B : Nat} {w0 w : World} [Tabs B w0] {H : Hp} {M : List Res} {p0_e : S_api_Event} {r : Int} (hm : m_archive_Check p0_e = some r) (ht : St B w0 H (M) w) :
    Calls Proofs.Tryd.prog 33 [.agg [.int .i64 (p0_e.Time), .string (p0_e.Kind), .string (p0_e.Name), .int .i64 (p0_e.Value)].toArray].toArray w (Ret B w0 fun H' M' v => H = H' ∧ M = M' ∧ .int .i64 (r) = v) := by
  unfold m_archive_Check at hm
  refine enter Proofs.Tryd.func33 rfl rfl rfl ht ?_
  refine C_seq ?_
  refine C_region ?_
  refine W_box (cs := [.int .i64 (p0_e.Time), .string (p0_e.Kind), .string (p0_e.Name), .int .i64 (p0_e.Value)]) rfl rfl rfl rfl (fun b101 => ?_)
  refine W_assign rfl rfl rfl ?_
  refine W_end ?_
  refine E_then ?_
  refine C_seq ?_
  refine C_block ?_
  refine C_seq_join (fun H' M' L' => H = H' ∧ .obj b101 (.cells [.int .i64 (p0_e.Time), .string (p0_e.Kind), .string (p0_e.Name), .int .i64 (p0_e.Value)].toArray 30 (0, 0)) :: M = M' ∧ [(1, .pointer (some ⟨b101, 0, none⟩)), (3, .bool ((decide (p0_e.Time < 0)) || (decide (200000 < p0_e.Time))))] = L') ?_ (fun J103 => ?_)
  · rintro _ _ _ ⟨rfl, rfl, rfl⟩
    refine C_cond (b := (decide (p0_e.Time < 0)) || (decide (200000 < p0_e.Time))) rfl (fun hb104 => ?_) (fun hb104 => ?_)
    · have hm := ite_t' hb104 hm
      refine C_seq ?_
      refine C_region ?_
      refine W_assign rfl rfl rfl ?_
      refine W_end ?_
      refine E_then ?_
      refine C_ret ?_
      refine E_ret_block ?_
      refine E_ret_then ?_
      obtain rfl := Option.some.inj hm
      refine E_drop (List.Sublist.cons _ (List.Sublist.refl _)) ?_
      refine E_weak (Hp.le_refl _) ?_
      exact end1 rfl rfl ⟨rfl, rfl, rfl⟩
    · have hm := ite_f' hb104 hm
      refine C_seq ?_
      refine C_region ?_
      refine W_field (o := 1) rfl rfl Proofs.Tryd.runUnderlying30 rfl Proofs.Tryd.sizeOf9 rfl rfl rfl ?_
      refine W_load rfl rfl Proofs.Tryd.isAgg9 rfl (own_at (List.mem_cons_self ..) rfl) ?_
      obtain ⟨r105, hc106, hm⟩ := bind_some hm
      refine W_call Proofs.Tryd.call46 rfl rfl rfl (fun w ht => by have h := m_archive_kind_c (hm := hc106)  ht; exact h) ?_
      rintro _ _ _ ⟨rfl, rfl, rfl⟩
      refine W_un rfl rfl rfl rfl ?_
      refine W_move rfl rfl rfl ?_
      cases hb107 : (r105)
      · have hm := ite_f' hb107 hm
        refine W_no rfl rfl rfl ?_
        refine W_no rfl rfl rfl ?_
        refine W_no rfl rfl rfl ?_
        refine W_no rfl rfl rfl ?_
        refine W_pick rfl rfl rfl rfl ?_
        refine W_assign rfl rfl rfl ?_
        refine W_end ?_
        refine E_then ?_
        refine C_cond (b := true) rfl (fun _ => ?_) (fun hb => Bool.noConfusion hb)
        refine C_seq ?_
        refine C_region ?_
        refine W_assign rfl rfl rfl ?_
        refine W_end ?_
        refine E_then ?_
        refine C_ret ?_
        refine E_ret_block ?_
        refine E_ret_then ?_
        obtain rfl := Option.some.inj hm
        refine E_drop (List.Sublist.cons _ (List.Sublist.refl _)) ?_
        refine E_weak (Hp.le_refl _) ?_
        exact end1 rfl rfl ⟨rfl, rfl, rfl⟩
      · have hm := ite_t' hb107 hm
        refine W_field (o := 2) rfl rfl Proofs.Tryd.runUnderlying30 rfl Proofs.Tryd.sizeOf9 rfl rfl rfl ?_
        refine W_load rfl rfl Proofs.Tryd.isAgg9 rfl (own_at (List.mem_cons_self ..) rfl) ?_
        obtain ⟨r108, hc109, hm⟩ := bind_some hm
        refine W_call Proofs.Tryd.call47 rfl rfl rfl (fun w ht => by have h := m_netmodel_Name_c (hm := hc109)  ht; exact h) ?_
        rintro _ _ _ ⟨rfl, rfl, rfl⟩
        refine W_un rfl rfl rfl rfl ?_
        refine W_pick rfl rfl rfl rfl ?_
        refine W_assign rfl rfl rfl ?_
        refine W_end ?_
        refine E_then ?_
        refine C_cond (b := !r108) rfl (fun hb110 => ?_) (fun hb110 => ?_)
        · have hm := ite_t' hb110 hm
          refine C_seq ?_
          refine C_region ?_
          refine W_assign rfl rfl rfl ?_
          refine W_end ?_
          refine E_then ?_
          refine C_ret ?_
          refine E_ret_block ?_
          refine E_ret_then ?_
          obtain rfl := Option.some.inj hm
          refine E_drop (List.Sublist.cons _ (List.Sublist.refl _)) ?_
          refine E_weak (Hp.le_refl _) ?_
          exact end1 rfl rfl ⟨rfl, rfl, rfl⟩
        · have hm := ite_f' hb110 hm
          refine C_seq_join (fun H' M' L' => H = H' ∧ M = M' ∧ [(23, .bool ((decide (p0_e.Value < (-1000000))) || (decide (1000000 < p0_e.Value))))] = L') ?_ (fun J112 => ?_)
          · rintro _ _ _ ⟨rfl, rfl, rfl⟩
            refine C_cond (b := (decide (p0_e.Value < (-1000000))) || (decide (1000000 < p0_e.Value))) rfl (fun hb113 => ?_) (fun hb113 => ?_)
            · have hm := ite_t' hb113 hm
              refine C_seq ?_
              refine C_region ?_
              refine W_assign rfl rfl rfl ?_
              refine W_end ?_
              refine E_then ?_
              refine C_ret ?_
              refine E_ret_block ?_
              refine E_ret_then ?_
              obtain rfl := Option.some.inj hm
              refine E_weak (Hp.le_refl _) ?_
              exact end1 rfl rfl ⟨rfl, rfl, rfl⟩
            · have hm := ite_f' hb113 hm
              refine C_skip ?_
              refine E_normal_block ?_
              refine E_then ?_
              refine C_seq ?_
              refine C_region ?_
              refine W_assign rfl rfl rfl ?_
              refine W_end ?_
              refine E_then ?_
              refine C_ret ?_
              obtain rfl := Option.some.inj hm
              refine E_weak (Hp.le_refl _) ?_
              exact end1 rfl rfl ⟨rfl, rfl, rfl⟩
          · refine C_region ?_
            refine W_field (o := 3) rfl rfl Proofs.Tryd.runUnderlying30 rfl Proofs.Tryd.sizeOf3 rfl rfl rfl ?_
            refine W_load rfl rfl Proofs.Tryd.isAgg3 rfl (own_at (List.mem_cons_self ..) rfl) ?_
            refine W_bin rfl rfl rfl rfl rfl ?_
            refine W_move rfl rfl rfl ?_
            cases hb114 : (decide (p0_e.Value < (-1000000)))
            · refine W_field (o := 3) rfl rfl Proofs.Tryd.runUnderlying30 rfl Proofs.Tryd.sizeOf3 rfl rfl rfl ?_
              refine W_load rfl rfl Proofs.Tryd.isAgg3 rfl (own_at (List.mem_cons_self ..) rfl) ?_
              refine W_bin rfl rfl rfl rfl rfl ?_
              refine W_pick rfl rfl rfl rfl ?_
              refine W_assign rfl rfl rfl ?_
              refine W_end ?_
              refine E_drop (List.Sublist.cons _ (List.Sublist.refl _)) ?_
              exact E_keepJ (J112 _ _ _ ⟨rfl, rfl, rfl⟩) (List.Perm.refl _) ⟨(by show some (Value.bool (decide (1000000 < p0_e.Value))) = some (Value.bool ((decide (p0_e.Value < (-1000000))) || (decide (1000000 < p0_e.Value)))); simp only [hb104, hb107, hb110, hb114, Bool.and_true, Bool.true_and, Bool.false_and, Bool.and_false, Bool.or_true, Bool.true_or, Bool.or_false, Bool.false_or, Bool.not_true, Bool.not_false]), trivial⟩
            · refine W_no rfl rfl rfl ?_
              refine W_no rfl rfl rfl ?_
              refine W_no rfl rfl rfl ?_
              refine W_pick rfl rfl rfl rfl ?_
              refine W_assign rfl rfl rfl ?_
              refine W_end ?_
              refine E_drop (List.Sublist.cons _ (List.Sublist.refl _)) ?_
              exact E_keepJ (J112 _ _ _ ⟨rfl, rfl, rfl⟩) (List.Perm.refl _) ⟨(by show some (Value.bool (true)) = some (Value.bool ((decide (p0_e.Value < (-1000000))) || (decide (1000000 < p0_e.Value)))); simp only [hb104, hb107, hb110, hb114, Bool.and_true, Bool.true_and, Bool.false_and, Bool.and_false, Bool.or_true, Bool.true_or, Bool.or_false, Bool.false_or, Bool.not_true, Bool.not_false]), trivial⟩
  · refine C_region ?_
    refine W_field (o := 0) rfl rfl Proofs.Tryd.runUnderlying30 rfl Proofs.Tryd.sizeOf3 rfl rfl rfl ?_
    refine W_load rfl rfl Proofs.Tryd.isAgg3 rfl (own_at (List.mem_cons_self ..) rfl) ?_
    refine W_bin rfl rfl rfl rfl rfl ?_
    refine W_move rfl rfl rfl ?_
    cases hb115 : (decide (p0_e.Time < 0))
    · refine W_field (o := 0) rfl rfl Proofs.Tryd.runUnderlying30 rfl Proofs.Tryd.sizeOf3 rfl rfl rfl ?_
      refine W_load rfl rfl Proofs.Tryd.isAgg3 rfl (own_at (List.mem_cons_self ..) rfl) ?_
      refine W_bin rfl rfl rfl rfl rfl ?_
      refine W_pick rfl rfl rfl rfl ?_
      refine W_assign rfl rfl rfl ?_
      refine W_end ?_
      exact E_keepJ (J103 _ _ _ ⟨rfl, rfl, rfl⟩) (List.Perm.refl _) ⟨rfl, (by show some (Value.bool (decide (200000 < p0_e.Time))) = some (Value.bool ((decide (p0_e.Time < 0)) || (decide (200000 < p0_e.Time)))); simp only [hb115, Bool.and_true, Bool.true_and, Bool.false_and, Bool.and_false, Bool.or_true, Bool.true_or, Bool.or_false, Bool.false_or, Bool.not_true, Bool.not_false]), trivial⟩
    · refine W_no rfl rfl rfl ?_
      refine W_no rfl rfl rfl ?_
      refine W_no rfl rfl rfl ?_
      refine W_pick rfl rfl rfl rfl ?_
      refine W_assign rfl rfl rfl ?_
      refine W_end ?_
      exact E_keepJ (J103 _ _ _ ⟨rfl, rfl, rfl⟩) (List.Perm.refl _) ⟨rfl, (by show some (Value.bool (true)) = some (Value.bool ((decide (p0_e.Time < 0)) || (decide (200000 < p0_e.Time)))); simp only [hb115, Bool.and_true, Bool.true_and, Bool.false_and, Bool.and_false, Bool.or_true, Bool.true_or, Bool.or_false, Bool.false_or, Bool.not_true, Bool.not_false]), trivial⟩

theorem m_archive_Archive_Append_c {B : Nat} {w0 w : World} [Tabs B w0] {H : Hp} {M : List Res} {p0_a : S_archive_Archive} {p1_e : S_api_Event} {b0 : Nat} {v0 : Value} {xs0 : List Value} {r : Int × Int × S_archive_Archive} (hm : m_archive_Archive_Append p0_a p1_e = some r) (h0 : Rw H v0 xs0 p0_a.all_) (ht : St B w0 H (.obj b0 (.cells [v0].toArray 51 (0, 0)) :: .row v0 30 (Rep.sz S_api_Event) p0_a.all_.length xs0 :: M) w) :
    Calls Proofs.Tryd.prog 18 [.pointer (some ⟨b0, 0, none⟩), .agg [.int .i64 (p1_e.Time), .string (p1_e.Kind), .string (p1_e.Name), .int .i64 (p1_e.Value)].toArray].toArray w (Ret B w0 fun H' M' v => H = H' ∧ ∃ qv0 : Value, ∃ qxs0 : List Value, .obj b0 (.cells [qv0].toArray 51 (0, 0)) :: .row qv0 30 (Rep.sz S_api_Event) r.2.2.all_.length qxs0 :: M = M' ∧ .tuple #[.int .i64 (r.1), .int .i64 (r.2.1)] = v ∧ RwF qv0 qxs0 r.2.2.all_) := by
  unfold m_archive_Archive_Append at hm
  refine enter Proofs.Tryd.func18 rfl rfl rfl ht ?_
  refine C_seq ?_
  refine C_region ?_
  refine W_box (cs := [.int .i64 (p1_e.Time), .string (p1_e.Kind), .string (p1_e.Name), .int .i64 (p1_e.Value)]) rfl rfl rfl rfl (fun b101 => ?_)
  refine W_assign rfl rfl rfl ?_
  refine W_assign rfl rfl rfl ?_
  refine W_end ?_
  refine E_then ?_
  refine C_seq ?_
  refine C_seq ?_
  refine C_region ?_
  refine W_loadAgg rfl rfl Proofs.Tryd.isAgg30 Proofs.Tryd.sizeOf30 rfl (own_all (List.mem_cons_self ..)) rfl ?_
  obtain ⟨r102, hc103, hm⟩ := bind_some hm
  refine W_call Proofs.Tryd.call33 rfl rfl rfl (fun w ht => by have h := m_archive_Check_c (hm := hc103)  ht; exact h) ?_
  rintro _ _ _ ⟨rfl, rfl, rfl⟩
  refine W_assign rfl rfl rfl ?_
  refine W_end ?_
  refine E_then ?_
  refine C_seq ?_
  refine C_region ?_
  refine W_move rfl rfl rfl ?_
  refine W_bin rfl rfl rfl rfl rfl ?_
  refine W_end ?_
  refine E_then ?_
  refine C_cond (b := !decide (r102 = 0)) rfl (fun hb104 => ?_) (fun hb104 => ?_)
  · have hm := ite_t' hb104 hm
    refine C_seq ?_
    refine C_region ?_
    refine W_move rfl rfl rfl ?_
    refine W_assign rfl rfl rfl ?_
    refine W_assign rfl rfl rfl ?_
    refine W_end ?_
    refine E_then ?_
    refine C_ret ?_
    refine E_ret_then ?_
    obtain rfl := Option.some.inj hm
    refine E_drop (List.Sublist.cons _ (List.Sublist.refl _)) ?_
    refine E_weak (Hp.le_refl _) ?_
    exact end2 rfl rfl rfl ⟨rfl, v0, xs0, rfl, rfl, (h0).toF⟩
  · have hm := ite_f' hb104 hm
    refine C_skip ?_
    refine E_then ?_
    refine C_seq ?_
    refine C_region ?_
    refine W_move rfl rfl rfl ?_
    refine W_nilCheck rfl rfl rfl ?_
    refine W_field (o := 0) rfl rfl Proofs.Tryd.runUnderlying51 rfl Proofs.Tryd.sizeOf22 rfl rfl rfl ?_
    refine W_load rfl rfl Proofs.Tryd.isAgg22 rfl (own_at (List.mem_cons_of_mem _ (List.mem_cons_self ..)) rfl) ?_
    refine W_lenO (List.mem_cons_of_mem _ (List.mem_cons_of_mem _ (List.mem_cons_self ..))) rfl rfl Proofs.Tryd.runUnderlying22 rfl ?_
    refine W_assign rfl rfl rfl ?_
    refine W_end ?_
    refine E_then ?_
    refine C_seq ?_
    refine C_block ?_
    refine C_seq ?_
    cases hb105 : (decide (0 < (p0_a.all_.length : Int)))
    · have hm := ite_f' hb105 hm
      refine C_region_tok0 14 (phiT [(fun H rs v => [] = rs ∧ .int .i64 ((p0_a.all_.length : Int)) = v), (fun H rs v => [] = rs ∧ .bool (false) = v), (fun H rs v => [] = rs ∧ .bool (false) = v), (fun H rs v => [] = rs ∧ undef = v), (fun H rs v => [] = rs ∧ undef = v), (fun H rs v => [] = rs ∧ undef = v), (fun H rs v => [] = rs ∧ undef = v), (fun H rs v => [] = rs ∧ undef = v), (fun H rs v => [] = rs ∧ undef = v), (fun H rs v => [] = rs ∧ undef = v), (fun H rs v => [] = rs ∧ undef = v), (fun H rs v => [] = rs ∧ undef = v), (fun H rs v => [] = rs ∧ undef = v), (fun H rs v => [] = rs ∧ undef = v)]) [[], [], [], [], [], [], [], [], [], [], [], [], [], []] [[], [], [], [], [], [], [], [], [], [], [], [], [], []] [] [0, 1, 2, 3, 4, 5, 6, 7, 8, 9, 10, 11, 12, 13] Facts.mixed (by kernel_rfl) rfl rfl rfl (by kernel_rfl) (phiT_mono ⟨eq_monoT _ _, eq_monoT _ _, eq_monoT _ _, eq_monoT _ _, eq_monoT _ _, eq_monoT _ _, eq_monoT _ _, eq_monoT _ _, eq_monoT _ _, eq_monoT _ _, eq_monoT _ _, eq_monoT _ _, eq_monoT _ _, eq_monoT _ _, trivial⟩) ⟨?_, ?_, ?_, ?_, ?_, ?_, ?_, ?_, ?_, ?_, ?_, ?_, ?_, ?_, trivial⟩ ?_
      · intro HX hX X Rest hR
        intro hU hUp
        refine W_move rfl rfl rfl ?_
        exact W_end (OneT_end [] (Hp.le_refl _) ⟨rfl, rfl⟩)
      · intro HX hX X Rest hR
        rintro _ _ ⟨rfl, rfl⟩
        intro hU hUp
        refine W_bin rfl rfl rfl rfl rfl ?_
        exact W_end (OneT_end [] (Hp.le_refl _) ⟨rfl, (by first | rfl | (rw [hb105]; try rfl))⟩)
      · intro HX hX X Rest hR
        rintro _ _ ⟨rfl, rfl⟩
        intro hU hUp
        refine W_move rfl rfl rfl ?_
        exact W_end (OneT_end [] (Hp.le_refl _) ⟨rfl, rfl⟩)
      · intro HX hX X Rest hR
        rintro _ _ ⟨rfl, rfl⟩
        intro hU hUp
        refine W_no rfl rfl rfl ?_
        exact W_end (OneT_end [] (Hp.le_refl _) ⟨rfl, rfl⟩)
      · intro HX hX X Rest hR
        rintro _ _ ⟨rfl, rfl⟩
        rintro _ _ ⟨rfl, rfl⟩
        intro hU hUp
        refine W_no rfl rfl rfl ?_
        exact W_end (OneT_end [] (Hp.le_refl _) ⟨rfl, rfl⟩)
      · intro HX hX X Rest hR
        rintro _ _ ⟨rfl, rfl⟩
        intro hU hUp
        refine W_no rfl rfl rfl ?_
        exact W_end (OneT_end [] (Hp.le_refl _) ⟨rfl, rfl⟩)
      · intro HX hX X Rest hR
        rintro _ _ ⟨rfl, rfl⟩
        rintro _ _ ⟨rfl, rfl⟩
        intro hU hUp
        refine W_no rfl rfl rfl ?_
        exact W_end (OneT_end [] (Hp.le_refl _) ⟨rfl, rfl⟩)
      · intro HX hX X Rest hR
        rintro _ _ ⟨rfl, rfl⟩
        rintro _ _ ⟨rfl, rfl⟩
        intro hU hUp
        refine W_no rfl rfl rfl ?_
        exact W_end (OneT_end [] (Hp.le_refl _) ⟨rfl, rfl⟩)
      · intro HX hX X Rest hR
        rintro _ _ ⟨rfl, rfl⟩
        rintro _ _ ⟨rfl, rfl⟩
        intro hU hUp
        refine W_no rfl rfl rfl ?_
        exact W_end (OneT_end [] (Hp.le_refl _) ⟨rfl, rfl⟩)
      · intro HX hX X Rest hR
        rintro _ _ ⟨rfl, rfl⟩
        intro hU hUp
        refine W_no rfl rfl rfl ?_
        exact W_end (OneT_end [] (Hp.le_refl _) ⟨rfl, rfl⟩)
      · intro HX hX X Rest hR
        rintro _ _ ⟨rfl, rfl⟩
        rintro _ _ ⟨rfl, rfl⟩
        intro hU hUp
        refine W_no rfl rfl rfl ?_
        exact W_end (OneT_end [] (Hp.le_refl _) ⟨rfl, rfl⟩)
      · intro HX hX X Rest hR
        rintro _ _ ⟨rfl, rfl⟩
        rintro _ _ ⟨rfl, rfl⟩
        rintro _ _ ⟨rfl, rfl⟩
        intro hU hUp
        refine W_no rfl rfl rfl ?_
        exact W_end (OneT_end [] (Hp.le_refl _) ⟨rfl, rfl⟩)
      · intro HX hX X Rest hR
        rintro _ _ ⟨rfl, rfl⟩
        rintro _ _ ⟨rfl, rfl⟩
        intro hU hUp
        refine W_no rfl rfl rfl ?_
        exact W_end (OneT_end [] (Hp.le_refl _) ⟨rfl, rfl⟩)
      · intro HX hX X Rest hR
        rintro _ _ ⟨rfl, rfl⟩
        rintro _ _ ⟨rfl, rfl⟩
        intro hU hUp
        refine W_no rfl rfl rfl ?_
        exact W_end (OneT_end [] (Hp.le_refl _) ⟨rfl, rfl⟩)
      intro H106 hle107
      rintro _ _ ⟨rfl, rfl⟩
      rintro _ _ ⟨rfl, rfl⟩
      rintro _ _ ⟨rfl, rfl⟩
      rintro _ _ ⟨rfl, rfl⟩
      rintro _ _ ⟨rfl, rfl⟩
      rintro _ _ ⟨rfl, rfl⟩
      rintro _ _ ⟨rfl, rfl⟩
      rintro _ _ ⟨rfl, rfl⟩
      rintro _ _ ⟨rfl, rfl⟩
      rintro _ _ ⟨rfl, rfl⟩
      rintro _ _ ⟨rfl, rfl⟩
      rintro _ _ ⟨rfl, rfl⟩
      rintro _ _ ⟨rfl, rfl⟩
      rintro _ _ ⟨rfl, rfl⟩
      refine W_no rfl rfl rfl ?_
      refine W_pick rfl rfl rfl rfl ?_
      refine W_assign rfl rfl rfl ?_
      refine W_end ?_
      refine E_then ?_
      refine C_cond (b := false) rfl (fun hb => Bool.noConfusion hb) (fun _ => ?_)
      refine C_seq ?_
      refine C_region ?_
      refine W_move rfl rfl rfl ?_
      refine W_bin rfl rfl rfl rfl rfl ?_
      refine W_assign rfl rfl rfl ?_
      refine W_end ?_
      refine E_then ?_
      refine C_cond (b := decide ((p0_a.all_.length : Int) = 300)) rfl (fun hb108 => ?_) (fun hb108 => ?_)
      · have hm := ite_t' hb108 hm
        refine C_seq ?_
        refine C_region ?_
        refine W_assign rfl rfl rfl ?_
        refine W_assign rfl rfl rfl ?_
        refine W_end ?_
        refine E_then ?_
        refine C_ret ?_
        refine E_ret_block ?_
        refine E_ret_then ?_
        obtain rfl := Option.some.inj hm
        refine E_drop (List.Sublist.cons _ (List.Sublist.refl _)) ?_
        refine E_weak hle107 ?_
        exact end2 rfl rfl rfl ⟨rfl, v0, xs0, rfl, rfl, ((h0.mono hle107)).toF⟩
      · have hm := ite_f' hb108 hm
        refine C_skip ?_
        refine E_normal_block ?_
        refine E_then ?_
        refine C_seq ?_
        obtain ⟨hz116, hm⟩ := need_some hm
        refine C_perm (List.Perm.trans (List.Perm.cons _ (List.Perm.swap _ _ _)) (List.Perm.swap _ _ _)) ?_
        refine C_as (M' := [[.row v0 30 (Rep.sz S_api_Event) p0_a.all_.length xs0]].flatten ++ (.obj b101 (.cells [.int .i64 (p1_e.Time), .string (p1_e.Kind), .string (p1_e.Name), .int .i64 (p1_e.Value)].toArray 30 (0, 0)) :: .obj b0 (.cells [v0].toArray 51 (0, 0)) :: M)) rfl ?_
        refine C_region_tok0 8 (phiT [(fun H rs v => [] = rs ∧ .pointer (some ⟨b0, 0, none⟩) = v), (fun H rs v => [] = rs ∧ .pointer (some ⟨b0, 0, none⟩) = v), (fun H rs v => [] = rs ∧ .pointer (some ⟨b0, 0, none⟩) = v), (fun H rs v => [] = rs ∧ .pointer (some ⟨b0, 0, none⟩) = v), (fun H rs v => [] = rs ∧ v0 = v), (fun H rs v => [] = rs ∧ .agg [.int .i64 (p1_e.Time), .string (p1_e.Kind), .string (p1_e.Name), .int .i64 (p1_e.Value)].toArray = v), (fun H rs v => ∃ v121 : Value, [] = rs ∧ v121 = v ∧ RdS H v121 ([p1_e]) ∧ Value.cap' v121 = ([p1_e]).length), (fun H rs v => ∃ v127 : Value, ∃ xs128 : List Value, [.row v127 30 (Rep.sz S_api_Event) (p0_a.all_ ++ ([p1_e])).length xs128] = rs ∧ v127 = v ∧ Rw H v127 xs128 (p0_a.all_ ++ ([p1_e])))]) [[], [], [], [], [], [], [], [8]] [[], [], [], [], [], [], [], []] [[.row v0 30 (Rep.sz S_api_Event) p0_a.all_.length xs0]] [0, 1, 2, 3, 4, 5, 6, 7] Facts.mixed (by kernel_rfl) rfl rfl rfl (by kernel_rfl) (phiT_mono ⟨eq_monoT _ _, eq_monoT _ _, eq_monoT _ _, eq_monoT _ _, eq_monoT _ _, eq_monoT _ _, (by rintro H1 H2 rs v hle ⟨v121, rfl, rfl, h125, hc126⟩; exact ⟨v121, rfl, rfl, (h125.mono hle), (hc126)⟩), (by rintro H1 H2 rs v hle ⟨v127, xs128, rfl, rfl, hr129⟩; exact ⟨v127, xs128, rfl, rfl, (hr129.mono hle)⟩), trivial⟩) ⟨?_, ?_, ?_, ?_, ?_, ?_, ?_, ?_, trivial⟩ ?_
        · intro HX hX X Rest hR
          intro hU hUp
          refine W_move rfl rfl rfl ?_
          exact W_end (OneT_end [] (Hp.le_refl _) ⟨rfl, rfl⟩)
        · intro HX hX X Rest hR
          intro hU hUp
          refine W_move rfl rfl rfl ?_
          exact W_end (OneT_end [] (Hp.le_refl _) ⟨rfl, rfl⟩)
        · intro HX hX X Rest hR
          rintro _ _ ⟨rfl, rfl⟩
          intro hU hUp
          refine W_nilCheck rfl rfl rfl ?_
          exact W_end (OneT_end [] (Hp.le_refl _) ⟨rfl, rfl⟩)
        · intro HX hX X Rest hR
          rintro _ _ ⟨rfl, rfl⟩
          intro hU hUp
          refine W_field (o := 0) rfl rfl Proofs.Tryd.runUnderlying51 rfl Proofs.Tryd.sizeOf22 rfl rfl rfl ?_
          exact W_end (OneT_end [] (Hp.le_refl _) ⟨rfl, rfl⟩)
        · intro HX hX X Rest hR
          rintro _ _ ⟨rfl, rfl⟩
          intro hU hUp
          refine W_load rfl rfl Proofs.Tryd.isAgg22 rfl (own_at (hR _ (List.mem_cons_of_mem _ (List.mem_cons_self ..))) rfl) ?_
          exact W_end (OneT_end [] (Hp.le_refl _) ⟨rfl, rfl⟩)
        · intro HX hX X Rest hR
          intro hU hUp
          refine W_loadAgg rfl rfl Proofs.Tryd.isAgg30 Proofs.Tryd.sizeOf30 rfl (own_all (hR _ (List.mem_cons_self ..))) rfl ?_
          exact W_end (OneT_end [] (Hp.le_refl _) ⟨rfl, rfl⟩)
        · intro HX hX X Rest hR
          rintro _ _ ⟨rfl, rfl⟩
          intro hU hUp
          refine W_buildSlice (α := S_api_Event) (css := [[.int .i64 (p1_e.Time), .string (p1_e.Kind), .string (p1_e.Name), .int .i64 (p1_e.Value)]]) (zs := [.int .i64 (0), .string (⟨#[]⟩), .string (⟨#[]⟩), .int .i64 (0)]) (out := [.int .i64 (p1_e.Time), .string (p1_e.Kind), .string (p1_e.Name), .int .i64 (p1_e.Value)]) (ys := [p1_e]) rfl rfl rfl ⟨rfl, trivial⟩ Proofs.Tryd.runUnderlying22 Proofs.Tryd.sizeOf30 rfl Proofs.Tryd.zeroValue30 (by kernel_rfl) rfl rfl rfl rfl ⟨[.int .i64 (p1_e.Time), .string (p1_e.Kind), .string (p1_e.Name), .int .i64 (p1_e.Value)], [], rfl, rfl, rfl⟩ rfl ?_
          intro b120 v121 H122 hv123 hle124 h125
          have hc126 : Value.cap' v121 = ([p1_e]).length := by rw [hv123]; rfl
          exact W_end (OneT_end [] hle124 ⟨v121, rfl, rfl, (h125), (hc126)⟩)
        · intro HX hX X Rest hR
          rintro _ _ ⟨rfl, rfl⟩
          rintro _ _ ⟨v121, rfl, rfl, h125, hc126⟩
          intro hU hUp
          refine W_as (M' := .row v0 30 (Rep.sz S_api_Event) p0_a.all_.length xs0 :: Rest) rfl ?_
          refine W_appendO (α := S_api_Event) (l := p0_a.all_) (ys := [p1_e]) rfl rfl Proofs.Tryd.underlying22 ⟨_, rfl, rfl, rfl, rfl⟩ rfl rfl rfl rfl rfl ((h0.mono hle107).mono hX) h125 hz116 ?_
          intro v127 xs128 hr129
          exact W_end (OneT_end [.row v127 30 (Rep.sz S_api_Event) (p0_a.all_ ++ ([p1_e])).length xs128] (Hp.le_refl _) ⟨v127, xs128, rfl, rfl, (hr129)⟩)
        intro H130 hle131
        rintro _ _ ⟨rfl, rfl⟩
        rintro _ _ ⟨rfl, rfl⟩
        rintro _ _ ⟨rfl, rfl⟩
        rintro _ _ ⟨rfl, rfl⟩
        rintro _ _ ⟨rfl, rfl⟩
        rintro _ _ ⟨rfl, rfl⟩
        rintro _ _ ⟨v121, rfl, rfl, h125, hc126⟩
        rintro _ _ ⟨v127, xs128, rfl, rfl, hr129⟩
        refine W_as (M' := .row v127 30 (Rep.sz S_api_Event) (p0_a.all_ ++ ([p1_e])).length xs128 :: .obj b101 (.cells [.int .i64 (p1_e.Time), .string (p1_e.Kind), .string (p1_e.Name), .int .i64 (p1_e.Value)].toArray 30 (0, 0)) :: .obj b0 (.cells [v0].toArray 51 (0, 0)) :: M) rfl ?_
        refine W_nilCheck rfl rfl rfl ?_
        refine W_field (o := 0) rfl rfl Proofs.Tryd.runUnderlying51 rfl Proofs.Tryd.sizeOf22 rfl rfl rfl ?_
        refine W_perm (List.Perm.trans (List.Perm.cons _ (List.Perm.swap _ _ _)) (List.Perm.swap _ _ _)) ?_
        refine W_store (cs := [v127]) (out := [v127]) rfl Proofs.Tryd.sizeOf22 rfl rfl (Rw.cells hr129) rfl rfl (all_cons (Rw.one hr129) all_nil) (over_all rfl) ?_
        refine W_end ?_
        refine E_then ?_
        refine C_seq ?_
        refine C_region ?_
        refine W_move rfl rfl rfl ?_
        refine W_bin rfl rfl rfl rfl rfl ?_
        refine W_assign rfl rfl rfl ?_
        refine W_assign rfl rfl rfl ?_
        refine W_end ?_
        refine E_then ?_
        refine C_ret ?_
        obtain rfl := Option.some.inj hm
        refine E_drop (List.Sublist.cons_cons _ (List.Sublist.cons_cons _ (List.Sublist.cons _ (List.Sublist.refl _)))) ?_
        refine E_weak (Hp.le_trans hle107 hle131) ?_
        exact end2 rfl rfl rfl ⟨rfl, v127, xs128, rfl, rfl, (hr129).toF⟩
    · have hm := ite_t' hb105 hm
      obtain ⟨y132, h133, he134, hm⟩ := idx_some hm
      obtain ⟨_, rfl, hg135⟩ := (h0).elem he134
      refine C_region_tok0 14 (phiT [(fun H rs v => [] = rs ∧ .int .i64 ((p0_a.all_.length : Int)) = v), (fun H rs v => [] = rs ∧ .bool (true) = v), (fun H rs v => [] = rs ∧ .bool (true) = v), (fun H rs v => [] = rs ∧ .pointer (some ⟨b101, 0, none⟩) = v), (fun H rs v => [] = rs ∧ .int .i64 (p1_e.Time) = v), (fun H rs v => [] = rs ∧ .pointer (some ⟨b0, 0, none⟩) = v), (fun H rs v => [] = rs ∧ .pointer (some ⟨b0, 0, none⟩) = v), (fun H rs v => [] = rs ∧ .pointer (some ⟨b0, 0, none⟩) = v), (fun H rs v => [] = rs ∧ v0 = v), (fun H rs v => [] = rs ∧ .int .i64 ((p0_a.all_.length : Int)) = v), (fun H rs v => [] = rs ∧ .int .i64 (IntKind.i64.wrap ((p0_a.all_.length : Int) - 1)) = v), (fun H rs v => [] = rs ∧ .pointer (some ((Value.base (v0)).add ((IntKind.i64.wrap ((p0_a.all_.length : Int) - 1) : Int).toNat * Rep.sz S_api_Event))) = v), (fun H rs v => [] = rs ∧ .pointer (some ((Value.base (v0)).add ((IntKind.i64.wrap ((p0_a.all_.length : Int) - 1) : Int).toNat * Rep.sz S_api_Event))) = v), (fun H rs v => [] = rs ∧ .int .i64 (y132.Time) = v)]) [[], [], [], [], [], [], [], [], [], [], [], [], [], []] [[], [], [], [], [], [], [], [], [], [], [], [], [], []] [] [0, 1, 2, 3, 4, 5, 6, 7, 8, 9, 10, 11, 12, 13] Facts.mixed (by kernel_rfl) rfl rfl rfl (by kernel_rfl) (phiT_mono ⟨eq_monoT _ _, eq_monoT _ _, eq_monoT _ _, eq_monoT _ _, eq_monoT _ _, eq_monoT _ _, eq_monoT _ _, eq_monoT _ _, eq_monoT _ _, eq_monoT _ _, eq_monoT _ _, eq_monoT _ _, eq_monoT _ _, eq_monoT _ _, trivial⟩) ⟨?_, ?_, ?_, ?_, ?_, ?_, ?_, ?_, ?_, ?_, ?_, ?_, ?_, ?_, trivial⟩ ?_
      · intro HX hX X Rest hR
        intro hU hUp
        refine W_move rfl rfl rfl ?_
        exact W_end (OneT_end [] (Hp.le_refl _) ⟨rfl, rfl⟩)
      · intro HX hX X Rest hR
        rintro _ _ ⟨rfl, rfl⟩
        intro hU hUp
        refine W_bin rfl rfl rfl rfl rfl ?_
        exact W_end (OneT_end [] (Hp.le_refl _) ⟨rfl, (by first | rfl | (rw [hb105]; try rfl))⟩)
      · intro HX hX X Rest hR
        rintro _ _ ⟨rfl, rfl⟩
        intro hU hUp
        refine W_move rfl rfl rfl ?_
        exact W_end (OneT_end [] (Hp.le_refl _) ⟨rfl, rfl⟩)
      · intro HX hX X Rest hR
        rintro _ _ ⟨rfl, rfl⟩
        intro hU hUp
        refine W_field (o := 0) rfl rfl Proofs.Tryd.runUnderlying30 rfl Proofs.Tryd.sizeOf3 rfl rfl rfl ?_
        exact W_end (OneT_end [] (Hp.le_refl _) ⟨rfl, rfl⟩)
      · intro HX hX X Rest hR
        rintro _ _ ⟨rfl, rfl⟩
        rintro _ _ ⟨rfl, rfl⟩
        intro hU hUp
        refine W_load rfl rfl Proofs.Tryd.isAgg3 rfl (own_at (hR _ (List.mem_cons_self ..)) rfl) ?_
        exact W_end (OneT_end [] (Hp.le_refl _) ⟨rfl, rfl⟩)
      · intro HX hX X Rest hR
        rintro _ _ ⟨rfl, rfl⟩
        intro hU hUp
        refine W_move rfl rfl rfl ?_
        exact W_end (OneT_end [] (Hp.le_refl _) ⟨rfl, rfl⟩)
      · intro HX hX X Rest hR
        rintro _ _ ⟨rfl, rfl⟩
        rintro _ _ ⟨rfl, rfl⟩
        intro hU hUp
        refine W_nilCheck rfl rfl rfl ?_
        exact W_end (OneT_end [] (Hp.le_refl _) ⟨rfl, rfl⟩)
      · intro HX hX X Rest hR
        rintro _ _ ⟨rfl, rfl⟩
        rintro _ _ ⟨rfl, rfl⟩
        intro hU hUp
        refine W_field (o := 0) rfl rfl Proofs.Tryd.runUnderlying51 rfl Proofs.Tryd.sizeOf22 rfl rfl rfl ?_
        exact W_end (OneT_end [] (Hp.le_refl _) ⟨rfl, rfl⟩)
      · intro HX hX X Rest hR
        rintro _ _ ⟨rfl, rfl⟩
        rintro _ _ ⟨rfl, rfl⟩
        intro hU hUp
        refine W_load rfl rfl Proofs.Tryd.isAgg22 rfl (own_at (hR _ (List.mem_cons_of_mem _ (List.mem_cons_self ..))) rfl) ?_
        exact W_end (OneT_end [] (Hp.le_refl _) ⟨rfl, rfl⟩)
      · intro HX hX X Rest hR
        rintro _ _ ⟨rfl, rfl⟩
        intro hU hUp
        refine W_move rfl rfl rfl ?_
        exact W_end (OneT_end [] (Hp.le_refl _) ⟨rfl, rfl⟩)
      · intro HX hX X Rest hR
        rintro _ _ ⟨rfl, rfl⟩
        rintro _ _ ⟨rfl, rfl⟩
        intro hU hUp
        refine W_bin rfl rfl rfl rfl rfl ?_
        exact W_end (OneT_end [] (Hp.le_refl _) ⟨rfl, rfl⟩)
      · intro HX hX X Rest hR
        rintro _ _ ⟨rfl, rfl⟩
        rintro _ _ ⟨rfl, rfl⟩
        rintro _ _ ⟨rfl, rfl⟩
        intro hU hUp
        refine W_indexO (hR _ (List.mem_cons_of_mem _ (List.mem_cons_of_mem _ (List.mem_cons_self ..)))) rfl rfl Proofs.Tryd.runUnderlying22 Proofs.Tryd.sizeOf30 rfl rfl h133 (List.getElem?_eq_some_iff.1 he134).1 ?_
        exact W_end (OneT_end [] (Hp.le_refl _) ⟨rfl, rfl⟩)
      · intro HX hX X Rest hR
        rintro _ _ ⟨rfl, rfl⟩
        rintro _ _ ⟨rfl, rfl⟩
        intro hU hUp
        refine W_field (o := 0) rfl rfl Proofs.Tryd.runUnderlying30 rfl Proofs.Tryd.sizeOf3 rfl rfl rfl ?_
        exact W_end (OneT_end [] (Hp.le_refl _) ⟨rfl, rfl⟩)
      · intro HX hX X Rest hR
        rintro _ _ ⟨rfl, rfl⟩
        rintro _ _ ⟨rfl, rfl⟩
        intro hU hUp
        refine W_load rfl rfl Proofs.Tryd.isAgg3 rfl (row_one0 (hR _ (List.mem_cons_of_mem _ (List.mem_cons_of_mem _ (List.mem_cons_self ..)))) hg135 rfl) ?_
        exact W_end (OneT_end [] (Hp.le_refl _) ⟨rfl, rfl⟩)
      intro H136 hle137
      rintro _ _ ⟨rfl, rfl⟩
      rintro _ _ ⟨rfl, rfl⟩
      rintro _ _ ⟨rfl, rfl⟩
      rintro _ _ ⟨rfl, rfl⟩
      rintro _ _ ⟨rfl, rfl⟩
      rintro _ _ ⟨rfl, rfl⟩
      rintro _ _ ⟨rfl, rfl⟩
      rintro _ _ ⟨rfl, rfl⟩
      rintro _ _ ⟨rfl, rfl⟩
      rintro _ _ ⟨rfl, rfl⟩
      rintro _ _ ⟨rfl, rfl⟩
      rintro _ _ ⟨rfl, rfl⟩
      rintro _ _ ⟨rfl, rfl⟩
      rintro _ _ ⟨rfl, rfl⟩
      refine W_bin rfl rfl rfl rfl rfl ?_
      refine W_pick rfl rfl rfl rfl ?_
      refine W_assign rfl rfl rfl ?_
      refine W_end ?_
      refine E_then ?_
      refine C_cond (b := decide (p1_e.Time < y132.Time)) rfl (fun hb138 => ?_) (fun hb138 => ?_)
      · have hm := ite_t' hb138 hm
        refine C_seq ?_
        refine C_region ?_
        refine W_assign rfl rfl rfl ?_
        refine W_assign rfl rfl rfl ?_
        refine W_end ?_
        refine E_then ?_
        refine C_ret ?_
        refine E_ret_block ?_
        refine E_ret_then ?_
        obtain rfl := Option.some.inj hm
        refine E_drop (List.Sublist.cons _ (List.Sublist.refl _)) ?_
        refine E_weak hle137 ?_
        exact end2 rfl rfl rfl ⟨rfl, v0, xs0, rfl, rfl, ((h0.mono hle137)).toF⟩
      · have hm := ite_f' hb138 hm
        refine C_seq ?_
        refine C_region ?_
        refine W_move rfl rfl rfl ?_
        refine W_bin rfl rfl rfl rfl rfl ?_
        refine W_assign rfl rfl rfl ?_
        refine W_end ?_
        refine E_then ?_
        refine C_cond (b := decide ((p0_a.all_.length : Int) = 300)) rfl (fun hb139 => ?_) (fun hb139 => ?_)
        · have hm := ite_t' hb139 hm
          refine C_seq ?_
          refine C_region ?_
          refine W_assign rfl rfl rfl ?_
          refine W_assign rfl rfl rfl ?_
          refine W_end ?_
          refine E_then ?_
          refine C_ret ?_
          refine E_ret_block ?_
          refine E_ret_then ?_
          obtain rfl := Option.some.inj hm
          refine E_drop (List.Sublist.cons _ (List.Sublist.refl _)) ?_
          refine E_weak hle137 ?_
          exact end2 rfl rfl rfl ⟨rfl, v0, xs0, rfl, rfl, ((h0.mono hle137)).toF⟩
        · have hm := ite_f' hb139 hm
          refine C_skip ?_
          refine E_normal_block ?_
          refine E_then ?_
          refine C_seq ?_
          obtain ⟨hz147, hm⟩ := need_some hm
          refine C_perm (List.Perm.trans (List.Perm.cons _ (List.Perm.swap _ _ _)) (List.Perm.swap _ _ _)) ?_
          refine C_as (M' := [[.row v0 30 (Rep.sz S_api_Event) p0_a.all_.length xs0]].flatten ++ (.obj b101 (.cells [.int .i64 (p1_e.Time), .string (p1_e.Kind), .string (p1_e.Name), .int .i64 (p1_e.Value)].toArray 30 (0, 0)) :: .obj b0 (.cells [v0].toArray 51 (0, 0)) :: M)) rfl ?_
          refine C_region_tok0 8 (phiT [(fun H rs v => [] = rs ∧ .pointer (some ⟨b0, 0, none⟩) = v), (fun H rs v => [] = rs ∧ .pointer (some ⟨b0, 0, none⟩) = v), (fun H rs v => [] = rs ∧ .pointer (some ⟨b0, 0, none⟩) = v), (fun H rs v => [] = rs ∧ .pointer (some ⟨b0, 0, none⟩) = v), (fun H rs v => [] = rs ∧ v0 = v), (fun H rs v => [] = rs ∧ .agg [.int .i64 (p1_e.Time), .string (p1_e.Kind), .string (p1_e.Name), .int .i64 (p1_e.Value)].toArray = v), (fun H rs v => ∃ v152 : Value, [] = rs ∧ v152 = v ∧ RdS H v152 ([p1_e]) ∧ Value.cap' v152 = ([p1_e]).length), (fun H rs v => ∃ v158 : Value, ∃ xs159 : List Value, [.row v158 30 (Rep.sz S_api_Event) (p0_a.all_ ++ ([p1_e])).length xs159] = rs ∧ v158 = v ∧ Rw H v158 xs159 (p0_a.all_ ++ ([p1_e])))]) [[], [], [], [], [], [], [], [8]] [[], [], [], [], [], [], [], []] [[.row v0 30 (Rep.sz S_api_Event) p0_a.all_.length xs0]] [0, 1, 2, 3, 4, 5, 6, 7] Facts.mixed (by kernel_rfl) rfl rfl rfl (by kernel_rfl) (phiT_mono ⟨eq_monoT _ _, eq_monoT _ _, eq_monoT _ _, eq_monoT _ _, eq_monoT _ _, eq_monoT _ _, (by rintro H1 H2 rs v hle ⟨v152, rfl, rfl, h156, hc157⟩; exact ⟨v152, rfl, rfl, (h156.mono hle), (hc157)⟩), (by rintro H1 H2 rs v hle ⟨v158, xs159, rfl, rfl, hr160⟩; exact ⟨v158, xs159, rfl, rfl, (hr160.mono hle)⟩), trivial⟩) ⟨?_, ?_, ?_, ?_, ?_, ?_, ?_, ?_, trivial⟩ ?_
          · intro HX hX X Rest hR
            intro hU hUp
            refine W_move rfl rfl rfl ?_
            exact W_end (OneT_end [] (Hp.le_refl _) ⟨rfl, rfl⟩)
          · intro HX hX X Rest hR
            intro hU hUp
            refine W_move rfl rfl rfl ?_
            exact W_end (OneT_end [] (Hp.le_refl _) ⟨rfl, rfl⟩)
          · intro HX hX X Rest hR
            rintro _ _ ⟨rfl, rfl⟩
            intro hU hUp
            refine W_nilCheck rfl rfl rfl ?_
            exact W_end (OneT_end [] (Hp.le_refl _) ⟨rfl, rfl⟩)
          · intro HX hX X Rest hR
            rintro _ _ ⟨rfl, rfl⟩
            intro hU hUp
            refine W_field (o := 0) rfl rfl Proofs.Tryd.runUnderlying51 rfl Proofs.Tryd.sizeOf22 rfl rfl rfl ?_
            exact W_end (OneT_end [] (Hp.le_refl _) ⟨rfl, rfl⟩)
          · intro HX hX X Rest hR
            rintro _ _ ⟨rfl, rfl⟩
            intro hU hUp
            refine W_load rfl rfl Proofs.Tryd.isAgg22 rfl (own_at (hR _ (List.mem_cons_of_mem _ (List.mem_cons_self ..))) rfl) ?_
            exact W_end (OneT_end [] (Hp.le_refl _) ⟨rfl, rfl⟩)
          · intro HX hX X Rest hR
            intro hU hUp
            refine W_loadAgg rfl rfl Proofs.Tryd.isAgg30 Proofs.Tryd.sizeOf30 rfl (own_all (hR _ (List.mem_cons_self ..))) rfl ?_
            exact W_end (OneT_end [] (Hp.le_refl _) ⟨rfl, rfl⟩)
          · intro HX hX X Rest hR
            rintro _ _ ⟨rfl, rfl⟩
            intro hU hUp
            refine W_buildSlice (α := S_api_Event) (css := [[.int .i64 (p1_e.Time), .string (p1_e.Kind), .string (p1_e.Name), .int .i64 (p1_e.Value)]]) (zs := [.int .i64 (0), .string (⟨#[]⟩), .string (⟨#[]⟩), .int .i64 (0)]) (out := [.int .i64 (p1_e.Time), .string (p1_e.Kind), .string (p1_e.Name), .int .i64 (p1_e.Value)]) (ys := [p1_e]) rfl rfl rfl ⟨rfl, trivial⟩ Proofs.Tryd.runUnderlying22 Proofs.Tryd.sizeOf30 rfl Proofs.Tryd.zeroValue30 (by kernel_rfl) rfl rfl rfl rfl ⟨[.int .i64 (p1_e.Time), .string (p1_e.Kind), .string (p1_e.Name), .int .i64 (p1_e.Value)], [], rfl, rfl, rfl⟩ rfl ?_
            intro b151 v152 H153 hv154 hle155 h156
            have hc157 : Value.cap' v152 = ([p1_e]).length := by rw [hv154]; rfl
            exact W_end (OneT_end [] hle155 ⟨v152, rfl, rfl, (h156), (hc157)⟩)
          · intro HX hX X Rest hR
            rintro _ _ ⟨rfl, rfl⟩
            rintro _ _ ⟨v152, rfl, rfl, h156, hc157⟩
            intro hU hUp
            refine W_as (M' := .row v0 30 (Rep.sz S_api_Event) p0_a.all_.length xs0 :: Rest) rfl ?_
            refine W_appendO (α := S_api_Event) (l := p0_a.all_) (ys := [p1_e]) rfl rfl Proofs.Tryd.underlying22 ⟨_, rfl, rfl, rfl, rfl⟩ rfl rfl rfl rfl rfl ((h0.mono hle137).mono hX) h156 hz147 ?_
            intro v158 xs159 hr160
            exact W_end (OneT_end [.row v158 30 (Rep.sz S_api_Event) (p0_a.all_ ++ ([p1_e])).length xs159] (Hp.le_refl _) ⟨v158, xs159, rfl, rfl, (hr160)⟩)
          intro H161 hle162
          rintro _ _ ⟨rfl, rfl⟩
          rintro _ _ ⟨rfl, rfl⟩
          rintro _ _ ⟨rfl, rfl⟩
          rintro _ _ ⟨rfl, rfl⟩
          rintro _ _ ⟨rfl, rfl⟩
          rintro _ _ ⟨rfl, rfl⟩
          rintro _ _ ⟨v152, rfl, rfl, h156, hc157⟩
          rintro _ _ ⟨v158, xs159, rfl, rfl, hr160⟩
          refine W_as (M' := .row v158 30 (Rep.sz S_api_Event) (p0_a.all_ ++ ([p1_e])).length xs159 :: .obj b101 (.cells [.int .i64 (p1_e.Time), .string (p1_e.Kind), .string (p1_e.Name), .int .i64 (p1_e.Value)].toArray 30 (0, 0)) :: .obj b0 (.cells [v0].toArray 51 (0, 0)) :: M) rfl ?_
          refine W_nilCheck rfl rfl rfl ?_
          refine W_field (o := 0) rfl rfl Proofs.Tryd.runUnderlying51 rfl Proofs.Tryd.sizeOf22 rfl rfl rfl ?_
          refine W_perm (List.Perm.trans (List.Perm.cons _ (List.Perm.swap _ _ _)) (List.Perm.swap _ _ _)) ?_
          refine W_store (cs := [v158]) (out := [v158]) rfl Proofs.Tryd.sizeOf22 rfl rfl (Rw.cells hr160) rfl rfl (all_cons (Rw.one hr160) all_nil) (over_all rfl) ?_
          refine W_end ?_
          refine E_then ?_
          refine C_seq ?_
          refine C_region ?_
          refine W_move rfl rfl rfl ?_
          refine W_bin rfl rfl rfl rfl rfl ?_
          refine W_assign rfl rfl rfl ?_
          refine W_assign rfl rfl rfl ?_
          refine W_end ?_
          refine E_then ?_
          refine C_ret ?_
          obtain rfl := Option.some.inj hm
          refine E_drop (List.Sublist.cons_cons _ (List.Sublist.cons_cons _ (List.Sublist.cons _ (List.Sublist.refl _)))) ?_
          refine E_weak (Hp.le_trans hle137 hle162) ?_
          exact end2 rfl rfl rfl ⟨rfl, v158, xs159, rfl, rfl, (hr160).toF⟩

theorem m_gridhallkeep4_archiveOf_c {B : Nat} {w0 w : World} [Tabs B w0] {H : Hp} {M : List Res} {p0_l : (List S_api_Event)} {v0 : Value} {r : (Option S_archive_Archive)} (hm : m_gridhallkeep4_archiveOf p0_l = some r) (h0 : RdS H v0 p0_l) (ht : St B w0 H (M) w) :
    Calls Proofs.Tryd.prog 7 [v0].toArray w (Ret B w0 fun H' M' v => (r = none ∧ H.le H' ∧ M = M' ∧ .pointer none = v) ∨ (∃ qsp0 : S_archive_Archive, r = some qsp0 ∧ H.le H' ∧ ∃ qb0 : Nat, ∃ qv0 : Value, ∃ qxs0 : List Value, .obj qb0 (.cells [qv0].toArray 51 (0, 0)) :: .row qv0 30 (Rep.sz S_api_Event) qsp0.all_.length qxs0 :: M = M' ∧ .pointer (some ⟨qb0, 0, none⟩) = v ∧ Rw H' qv0 qxs0 qsp0.all_)) := by
  unfold m_gridhallkeep4_archiveOf at hm
  refine enter Proofs.Tryd.func7 rfl rfl rfl ht ?_
  refine C_seq ?_
  refine C_region ?_
  refine W_assign rfl rfl rfl ?_
  refine W_end ?_
  refine E_then ?_
  refine C_seq ?_
  refine C_region ?_
  refine W_call Proofs.Tryd.call22 rfl rfl rfl (fun w ht => by have h := m_archive_New_c (hm := (rfl : m_archive_New = _))  ht; exact h) ?_
  rintro _ H112 _ (⟨hn106, hle108, rfl, rfl⟩ | ⟨sp101, hn109, hle111, b102, v103, xs104, rfl, rfl, h105⟩)
  · have hm := optC_n hn106 hm
    refine W_assign rfl rfl rfl ?_
    refine W_end ?_
    refine E_then ?_
    refine C_seq ?_
    refine C_seq ?_
    refine C_region ?_
    refine W_move rfl rfl rfl ?_
    refine W_ptrNil rfl rfl Proofs.Tryd.runUnderlying23 rfl rfl ?_
    refine W_end ?_
    refine E_then ?_
    refine C_cond (b := true) rfl (fun _ => ?_) (fun hb => Bool.noConfusion hb)
    refine C_seq ?_
    refine C_region ?_
    refine W_assign rfl rfl rfl ?_
    refine W_end ?_
    refine E_then ?_
    refine C_ret ?_
    refine E_ret_then ?_
    obtain rfl := Option.some.inj hm
    exact end1 rfl rfl (.inl ⟨rfl, hle108, rfl, rfl⟩)
  · have hm := optC_s hn109 hm
    refine W_assign rfl rfl rfl ?_
    refine W_end ?_
    refine E_then ?_
    refine C_seq ?_
    refine C_seq ?_
    refine C_region ?_
    refine W_move rfl rfl rfl ?_
    refine W_ptrNil rfl rfl Proofs.Tryd.runUnderlying23 rfl rfl ?_
    refine W_end ?_
    refine E_then ?_
    refine C_cond (b := false) rfl (fun hb => Bool.noConfusion hb) (fun _ => ?_)
    refine C_skip ?_
    refine E_then ?_
    refine C_seq ?_
    refine C_region ?_
    refine W_assign rfl rfl rfl ?_
    refine W_end ?_
    refine E_then ?_
    refine C_seq ?_
    refine C_seq ?_
    refine C_region ?_
    refine W_move rfl rfl rfl ?_
    refine W_move rfl rfl rfl ?_
    refine W_lenR rfl rfl Proofs.Tryd.runUnderlying22 rfl (h0.mono hle111) ?_
    refine W_min rfl rfl rfl rfl ?_
    obtain ⟨hz113, hm⟩ := need_some hm
    refine W_sliceR (α := S_api_Event) (l := 0) (h := (min (p0_l.length : Int) 12 : Int).toNat) (xs := p0_l) rfl rfl Proofs.Tryd.runUnderlying22 Proofs.Tryd.sizeOf30 rfl (h0.mono hle111) (by omega) (by omega) (.inl rfl) (fun cap hcap => by rw [if_pos rfl]; exact (.inl ⟨rfl, rfl⟩)) (fun m hmm => (.inr ⟨_, _, _, rfl, rfl, by omega, by omega, rfl⟩)) (.inl ⟨rfl, rfl⟩) ?_
    intro v114 h115 hc116
    refine W_lenR rfl rfl Proofs.Tryd.runUnderlying22 rfl h115 ?_
    refine W_move rfl rfl rfl ?_
    refine W_end ?_
    refine E_then ?_
    refine C_block ?_
    refine C_keep (L' := [(3, .pointer (some ⟨b102, 0, none⟩)), (4, .int .i64 (0)), (14, v114), (15, .int .i64 (((slc p0_l 0 ((min (p0_l.length : Int) 12 : Int).toNat)).length : Int))), (16, .int .i64 (((0 : Nat) : Int)))]) ⟨rfl, rfl, rfl, rfl, rfl, trivial⟩ (List.Perm.swap _ _ _) ?_
    refine C_loop (fun n H' M' L' => ∃ (k117 : Nat) (zs160' : List S_api_Event), ∃ n148 : Int, ∃ l151 : List S_api_Event, ∃ v149 : Value, ∃ xs150 : List Value, (slc p0_l 0 ((min (p0_l.length : Int) 12 : Int).toNat)).drop k117 = zs160' ∧ zs160'.length = n ∧ forI (fun k y s155 n => m_gridhallkeep4_archiveOf_b1 k y s155.1 s155.2 n) (fun s155 => some (some (S_archive_Archive.mk s155.2))) k117 zs160' (n148, l151) = some r ∧ Rw H' v149 xs150 l151 ∧ H112.le H' ∧ .row v149 30 (Rep.sz S_api_Event) l151.length xs150 :: .obj b102 (.cells [v149].toArray 51 (0, 0)) :: M = M' ∧ [(3, .pointer (some ⟨b102, 0, none⟩)), (4, .int .i64 (n148)), (14, v114), (15, .int .i64 (((slc p0_l 0 ((min (p0_l.length : Int) 12 : Int).toNat)).length : Int))), (16, .int .i64 ((k117 : Int)))] = L') _ ⟨0, _, 0, sp101.all_, v103, xs104, rfl, rfl, hm, h105, (Hp.le_refl _), rfl, rfl⟩ ?_
    rintro _ H153 _ _ ⟨k117, zs160', n148, l151, v149, xs150, hd162, rfl, hm, hr152, hle154, rfl, rfl⟩
    refine C_seq ?_
    refine C_region ?_
    refine W_bin rfl rfl rfl rfl rfl ?_
    refine W_end (E_then ?_)
    refine C_seq ?_
    refine C_cond (b := decide ((k117 : Int) < ((slc p0_l 0 ((min (p0_l.length : Int) 12 : Int).toNat)).length : Int))) rfl (fun hb164 => ?_) (fun hb164 => ?_)
    · obtain ⟨y159, zs160, rfl, hy161, hd163⟩ := rng_t hd162 hb164
      have hm : m_gridhallkeep4_archiveOf_b1 k117 y159 n148 l151 (forI (fun k y s155 n => m_gridhallkeep4_archiveOf_b1 k y s155.1 s155.2 n) (fun s155 => some (some (S_archive_Archive.mk s155.2))) (k117 + 1) zs160) = some r := hm
      generalize hn157 : forI (fun k y s155 n => m_gridhallkeep4_archiveOf_b1 k y s155.1 s155.2 n) (fun s155 => some (some (S_archive_Archive.mk s155.2))) (k117 + 1) zs160 = nx156 at hm
      unfold m_gridhallkeep4_archiveOf_b1 at hm
      refine C_skip (E_then ?_)
      refine C_seq ?_
      refine C_block ?_
      refine C_seq ?_
      refine C_region ?_
      obtain ⟨_, ⟨rfl⟩, hc165⟩ := (h115).elem hy161
      refine W_indexS rfl rfl Proofs.Tryd.runUnderlying22 Proofs.Tryd.sizeOf30 rfl (h115.mono hle154) rfl (Int.natCast_nonneg _) hy161 ?_
      refine W_loadAgg rfl rfl Proofs.Tryd.isAgg30 Proofs.Tryd.sizeOf30 rfl (hc165.mono hle154).at rfl ?_
      refine W_alloc (cs := [.int .i64 (0), .string (⟨#[]⟩), .string (⟨#[]⟩), .int .i64 (0)]) rfl rfl Proofs.Tryd.zeroValue30 rfl (fun b166 => ?_)
      refine W_store (cs := [.int .i64 (y159.Time), .string (y159.Kind), .string (y159.Name), .int .i64 (y159.Value)]) (out := [.int .i64 (y159.Time), .string (y159.Kind), .string (y159.Name), .int .i64 (y159.Value)]) rfl Proofs.Tryd.sizeOf30 rfl rfl rfl rfl rfl (all_cons rfl (all_cons rfl (all_cons rfl (all_cons rfl all_nil)))) (over_all rfl) ?_
      refine W_end ?_
      refine E_then ?_
      refine C_seq ?_
      refine C_region ?_
      refine W_move rfl rfl rfl ?_
      refine W_field (o := 0) rfl rfl Proofs.Tryd.runUnderlying30 rfl Proofs.Tryd.sizeOf3 rfl rfl rfl ?_
      refine W_load rfl rfl Proofs.Tryd.isAgg3 rfl (own_at (List.mem_cons_self ..) rfl) ?_
      obtain ⟨r167, hc168, hm⟩ := bind_some hm
      refine W_call Proofs.Tryd.call9 rfl rfl rfl (fun w ht => by have h := m_gridhallref4_Cut_c (hm := hc168)  ht; exact h) ?_
      rintro _ _ _ ⟨rfl, rfl, rfl⟩
      refine W_bin rfl rfl rfl rfl rfl ?_
      refine W_assign rfl rfl rfl ?_
      refine W_end ?_
      refine E_then ?_
      refine C_seq ?_
      refine C_region ?_
      refine W_move rfl rfl rfl ?_
      refine W_field (o := 0) rfl rfl Proofs.Tryd.runUnderlying30 rfl Proofs.Tryd.sizeOf3 rfl rfl rfl ?_
      refine W_store (cs := [.int .i64 (IntKind.i64.wrap (n148 + r167))]) (out := [.int .i64 (IntKind.i64.wrap (n148 + r167)), .string (y159.Kind), .string (y159.Name), .int .i64 (y159.Value)]) rfl Proofs.Tryd.sizeOf3 rfl rfl rfl rfl rfl (all_cons rfl all_nil) rfl ?_
      refine W_end ?_
      refine E_then ?_
      refine C_region ?_
      refine W_move rfl rfl rfl ?_
      refine W_loadAgg rfl rfl Proofs.Tryd.isAgg30 Proofs.Tryd.sizeOf30 rfl (own_all (List.mem_cons_self ..)) rfl ?_
      refine W_perm (List.Perm.trans (List.Perm.cons _ (List.Perm.swap _ _ _)) (List.Perm.trans (List.Perm.swap _ _ _) (List.Perm.cons _ (List.Perm.swap _ _ _)))) ?_
      obtain ⟨r169, hc170, hm⟩ := bind_some hm
      refine W_call Proofs.Tryd.call18 rfl rfl rfl (fun w ht => by have h := m_archive_Archive_Append_c (hm := hc170) hr152 ht; exact h) ?_
      rintro _ _ _ ⟨rfl, v172, xs173, rfl, rfl, h174⟩
      have h174 := h174 H153
      refine W_end ?_
      refine E_normal_block ?_
      refine E_then ?_
      refine C_region ?_
      refine W_bin rfl rfl rfl rfl rfl ?_
      refine W_move rfl rfl rfl ?_
      refine W_end ?_
      refine E_drop (List.Sublist.cons_cons _ (List.Sublist.cons_cons _ (List.Sublist.cons _ (List.Sublist.refl _)))) ?_
      exact E_keepJ (E_back (Nat.lt_succ_self _) ⟨k117 + 1, zs160, IntKind.i64.wrap (n148 + r167), r169.2.2.all_, v172, xs173, hd163, rfl, (by rw [hn157]; exact hm), h174, hle154, rfl, rfl⟩) (List.Perm.swap _ _ _) ⟨rfl, rfl, rfl, rfl, (congrArg (fun z => some (Value.int .i64 z)) (i64_succ hy161 ((h115.mono hle154)).lenMax)), trivial⟩
    · obtain rfl := rng_f hd162 hb164
      have hm : (some (some (S_archive_Archive.mk l151))) = some r := hm
      refine C_exit (E_exit_then ?_)
      refine E_exit_then ?_
      refine E_exit_hit ?_
      refine E_then ?_
      refine C_seq ?_
      refine C_region ?_
      refine W_move rfl rfl rfl ?_
      refine W_assign rfl rfl rfl ?_
      refine W_end ?_
      refine E_then ?_
      refine C_ret ?_
      obtain rfl := Option.some.inj hm
      refine E_perm (List.Perm.swap _ _ _) ?_
      exact end1 rfl rfl (.inr ⟨(S_archive_Archive.mk l151), rfl, (Hp.le_trans hle111 hle154), b102, v149, xs150, rfl, rfl, hr152⟩)

theorem itoa44_c {B : Nat} {w0 w : World} [Tabs B w0] {H : Hp} {M : List Res} {n : Int} (hn : -9223372036854775808 ≤ n ∧ n ≤ 9223372036854775807) (ht : St B w0 H M w) :
    Calls Proofs.Tryd.prog 44 [.int .i64 n].toArray w (Ret B w0 fun H' M' v => H = H' ∧ M = M' ∧ .string (itoaB n) = v) := by
  have ht1 : Lib.TabIs Proofs.Tryd.prog w "internal/strconv.uint64pow10" .u64 Lib.pow10Tab := by
    have e : gt3 = Lib.pow10Tab := by decide +kernel
    rw [← e]; exact ht.tab (Tabs.t3 (B := B) (w0 := w0)) gn3 (Tabs.below (w0 := w0) rfl)
  refine (Proofs.Tryd.strconv_Itoa n hn.1 hn.2 w ht1).mono ?_
  rintro e w' ⟨rfl, k, os, rfl⟩
  exact ⟨H, M, ht.under (Lib.below_grow _ w (Nat.le_refl _) k os), rfl, rfl, rfl⟩

theorem m_archive_line_c {B : Nat} {w0 w : World} [Tabs B w0] {H : Hp} {M : List Res} {p0_e : S_api_Event} {r : ByteArray} (hm : m_archive_line p0_e = some r) (ht : St B w0 H (M) w) :
    Calls Proofs.Tryd.prog 31 [.agg [.int .i64 (p0_e.Time), .string (p0_e.Kind), .string (p0_e.Name), .int .i64 (p0_e.Value)].toArray].toArray w (Ret B w0 fun H' M' v => H = H' ∧ M = M' ∧ .string (r) = v) := by
  unfold m_archive_line at hm
  refine enter Proofs.Tryd.func31 rfl rfl rfl ht ?_
  refine C_seq ?_
  refine C_region ?_
  refine W_box (cs := [.int .i64 (p0_e.Time), .string (p0_e.Kind), .string (p0_e.Name), .int .i64 (p0_e.Value)]) rfl rfl rfl rfl (fun b101 => ?_)
  refine W_assign rfl rfl rfl ?_
  refine W_end ?_
  refine E_then ?_
  refine C_seq ?_
  obtain ⟨hz102, hm⟩ := need_some hm
  obtain ⟨hq103, hm⟩ := need_some hm
  obtain ⟨hq104, hm⟩ := need_some hm
  obtain ⟨hq105, hm⟩ := need_some hm
  obtain ⟨hq106, hm⟩ := need_some hm
  obtain ⟨hq107, hm⟩ := need_some hm
  obtain ⟨hz108, hm⟩ := need_some hm
  refine C_region_tok0 15 (phiT [(fun H rs v => [] = rs ∧ .pointer (some ⟨b101, 0, none⟩) = v), (fun H rs v => [] = rs ∧ .int .i64 (p0_e.Time) = v), (fun H rs v => [] = rs ∧ .string (itoaB p0_e.Time) = v), (fun H rs v => [] = rs ∧ .string ((itoaB p0_e.Time) ++ (⟨#[32]⟩)) = v), (fun H rs v => [] = rs ∧ .pointer (some ⟨b101, 1, none⟩) = v), (fun H rs v => [] = rs ∧ .string (p0_e.Kind) = v), (fun H rs v => [] = rs ∧ .string (((itoaB p0_e.Time) ++ (⟨#[32]⟩)) ++ p0_e.Kind) = v), (fun H rs v => [] = rs ∧ .string ((((itoaB p0_e.Time) ++ (⟨#[32]⟩)) ++ p0_e.Kind) ++ (⟨#[32]⟩)) = v), (fun H rs v => [] = rs ∧ .pointer (some ⟨b101, 2, none⟩) = v), (fun H rs v => [] = rs ∧ .string (p0_e.Name) = v), (fun H rs v => [] = rs ∧ .string (((((itoaB p0_e.Time) ++ (⟨#[32]⟩)) ++ p0_e.Kind) ++ (⟨#[32]⟩)) ++ p0_e.Name) = v), (fun H rs v => [] = rs ∧ .string ((((((itoaB p0_e.Time) ++ (⟨#[32]⟩)) ++ p0_e.Kind) ++ (⟨#[32]⟩)) ++ p0_e.Name) ++ (⟨#[32]⟩)) = v), (fun H rs v => [] = rs ∧ .pointer (some ⟨b101, 3, none⟩) = v), (fun H rs v => [] = rs ∧ .int .i64 (p0_e.Value) = v), (fun H rs v => [] = rs ∧ .string (itoaB p0_e.Value) = v)]) [[], [], [], [], [], [], [], [], [], [], [], [], [], [], []] [[], [], [], [], [], [], [], [], [], [], [], [], [], [], []] [] [0, 1, 2, 3, 4, 5, 6, 7, 8, 9, 10, 11, 12, 13, 14] Facts.mixed (by kernel_rfl) rfl rfl rfl (by kernel_rfl) (phiT_mono ⟨eq_monoT _ _, eq_monoT _ _, eq_monoT _ _, eq_monoT _ _, eq_monoT _ _, eq_monoT _ _, eq_monoT _ _, eq_monoT _ _, eq_monoT _ _, eq_monoT _ _, eq_monoT _ _, eq_monoT _ _, eq_monoT _ _, eq_monoT _ _, eq_monoT _ _, trivial⟩) ⟨?_, ?_, ?_, ?_, ?_, ?_, ?_, ?_, ?_, ?_, ?_, ?_, ?_, ?_, ?_, trivial⟩ ?_
  · intro HX hX X Rest hR
    intro hU hUp
    refine W_field (o := 0) rfl rfl Proofs.Tryd.runUnderlying30 rfl Proofs.Tryd.sizeOf3 rfl rfl rfl ?_
    exact W_end (OneT_end [] (Hp.le_refl _) ⟨rfl, rfl⟩)
  · intro HX hX X Rest hR
    rintro _ _ ⟨rfl, rfl⟩
    intro hU hUp
    refine W_load rfl rfl Proofs.Tryd.isAgg3 rfl (own_at (hR _ (List.mem_cons_self ..)) rfl) ?_
    exact W_end (OneT_end [] (Hp.le_refl _) ⟨rfl, rfl⟩)
  · intro HX hX X Rest hR
    rintro _ _ ⟨rfl, rfl⟩
    intro hU hUp
    refine W_call Proofs.Tryd.call44 rfl rfl rfl (fun w ht => by have h := itoa44_c hz102 ht; exact h) ?_
    rintro _ _ _ ⟨rfl, rfl, rfl⟩
    exact W_end (OneT_end [] (Hp.le_refl _) ⟨rfl, rfl⟩)
  · intro HX hX X Rest hR
    rintro _ _ ⟨rfl, rfl⟩
    intro hU hUp
    refine W_addStr rfl rfl rfl rfl hq103 ?_
    exact W_end (OneT_end [] (Hp.le_refl _) ⟨rfl, rfl⟩)
  · intro HX hX X Rest hR
    intro hU hUp
    refine W_field (o := 1) rfl rfl Proofs.Tryd.runUnderlying30 rfl Proofs.Tryd.sizeOf9 rfl rfl rfl ?_
    exact W_end (OneT_end [] (Hp.le_refl _) ⟨rfl, rfl⟩)
  · intro HX hX X Rest hR
    rintro _ _ ⟨rfl, rfl⟩
    intro hU hUp
    refine W_load rfl rfl Proofs.Tryd.isAgg9 rfl (own_at (hR _ (List.mem_cons_self ..)) rfl) ?_
    exact W_end (OneT_end [] (Hp.le_refl _) ⟨rfl, rfl⟩)
  · intro HX hX X Rest hR
    rintro _ _ ⟨rfl, rfl⟩
    rintro _ _ ⟨rfl, rfl⟩
    intro hU hUp
    refine W_addStr rfl rfl rfl rfl hq104 ?_
    exact W_end (OneT_end [] (Hp.le_refl _) ⟨rfl, rfl⟩)
  · intro HX hX X Rest hR
    rintro _ _ ⟨rfl, rfl⟩
    intro hU hUp
    refine W_addStr rfl rfl rfl rfl hq105 ?_
    exact W_end (OneT_end [] (Hp.le_refl _) ⟨rfl, rfl⟩)
  · intro HX hX X Rest hR
    intro hU hUp
    refine W_field (o := 2) rfl rfl Proofs.Tryd.runUnderlying30 rfl Proofs.Tryd.sizeOf9 rfl rfl rfl ?_
    exact W_end (OneT_end [] (Hp.le_refl _) ⟨rfl, rfl⟩)
  · intro HX hX X Rest hR
    rintro _ _ ⟨rfl, rfl⟩
    intro hU hUp
    refine W_load rfl rfl Proofs.Tryd.isAgg9 rfl (own_at (hR _ (List.mem_cons_self ..)) rfl) ?_
    exact W_end (OneT_end [] (Hp.le_refl _) ⟨rfl, rfl⟩)
  · intro HX hX X Rest hR
    rintro _ _ ⟨rfl, rfl⟩
    rintro _ _ ⟨rfl, rfl⟩
    intro hU hUp
    refine W_addStr rfl rfl rfl rfl hq106 ?_
    exact W_end (OneT_end [] (Hp.le_refl _) ⟨rfl, rfl⟩)
  · intro HX hX X Rest hR
    rintro _ _ ⟨rfl, rfl⟩
    intro hU hUp
    refine W_addStr rfl rfl rfl rfl hq107 ?_
    exact W_end (OneT_end [] (Hp.le_refl _) ⟨rfl, rfl⟩)
  · intro HX hX X Rest hR
    intro hU hUp
    refine W_field (o := 3) rfl rfl Proofs.Tryd.runUnderlying30 rfl Proofs.Tryd.sizeOf3 rfl rfl rfl ?_
    exact W_end (OneT_end [] (Hp.le_refl _) ⟨rfl, rfl⟩)
  · intro HX hX X Rest hR
    rintro _ _ ⟨rfl, rfl⟩
    intro hU hUp
    refine W_load rfl rfl Proofs.Tryd.isAgg3 rfl (own_at (hR _ (List.mem_cons_self ..)) rfl) ?_
    exact W_end (OneT_end [] (Hp.le_refl _) ⟨rfl, rfl⟩)
  · intro HX hX X Rest hR
    rintro _ _ ⟨rfl, rfl⟩
    rintro _ _ ⟨rfl, rfl⟩
    intro hU hUp
    refine W_call Proofs.Tryd.call44 rfl rfl rfl (fun w ht => by have h := itoa44_c hz108 ht; exact h) ?_
    rintro _ _ _ ⟨rfl, rfl, rfl⟩
    exact W_end (OneT_end [] (Hp.le_refl _) ⟨rfl, rfl⟩)
  intro H109 hle110
  rintro _ _ ⟨rfl, rfl⟩
  rintro _ _ ⟨rfl, rfl⟩
  rintro _ _ ⟨rfl, rfl⟩
  rintro _ _ ⟨rfl, rfl⟩
  rintro _ _ ⟨rfl, rfl⟩
  rintro _ _ ⟨rfl, rfl⟩
  rintro _ _ ⟨rfl, rfl⟩
  rintro _ _ ⟨rfl, rfl⟩
  rintro _ _ ⟨rfl, rfl⟩
  rintro _ _ ⟨rfl, rfl⟩
  rintro _ _ ⟨rfl, rfl⟩
  rintro _ _ ⟨rfl, rfl⟩
  rintro _ _ ⟨rfl, rfl⟩
  rintro _ _ ⟨rfl, rfl⟩
  rintro _ _ ⟨rfl, rfl⟩
  obtain ⟨hq111, hm⟩ := need_some hm
  refine W_addStr rfl rfl rfl rfl hq111 ?_
  refine W_assign rfl rfl rfl ?_
  refine W_end ?_
  refine E_then ?_
  refine C_ret ?_
  obtain rfl := Option.some.inj hm
  refine E_drop (List.Sublist.cons _ (List.Sublist.refl _)) ?_
  refine E_weak hle110 ?_
  exact end1 rfl rfl ⟨rfl, rfl, rfl⟩

theorem m_archive_digest_c {B : Nat} {w0 w : World} [Tabs B w0] {H : Hp} {M : List Res} {p0_n : Int} {line : ByteArray} {r : Int} (hm : m_archive_digest p0_n line = some r) (ht : St B w0 H (M) w) :
    Calls Proofs.Tryd.prog 30 [.int .u64 (p0_n), .string (line)].toArray w (Ret B w0 fun H' M' v => H = H' ∧ M = M' ∧ .int .u64 (r) = v) := by
  unfold m_archive_digest at hm
  refine enter Proofs.Tryd.func30 rfl rfl rfl ht ?_
  refine C_seq ?_
  refine C_region ?_
  refine W_assign rfl rfl rfl ?_
  refine W_end ?_
  refine E_then ?_
  refine C_seq ?_
  refine C_seq ?_
  refine C_region ?_
  refine W_move rfl rfl rfl ?_
  obtain ⟨hq101, hm⟩ := need_some hm
  refine W_addStr rfl rfl rfl rfl hq101 ?_
  obtain ⟨hz102, hm⟩ := need_some hm
  refine W_convBytes rfl rfl Proofs.Tryd.runUnderlying9 Proofs.Tryd.runUnderlying45 Proofs.Tryd.runUnderlying5 rfl hz102 ?_
  intro v103 H104 hle105 h106
  refine W_lenR rfl rfl Proofs.Tryd.runUnderlying45 rfl h106 ?_
  refine W_move rfl rfl rfl ?_
  refine W_end ?_
  refine E_then ?_
  refine C_block ?_
  refine C_keep (L' := [(0, .int .u64 (p0_n)), (9, v103), (10, .int .i64 (((bytesL (line ++ (⟨#[10]⟩))).length : Int))), (11, .int .i64 (((0 : Nat) : Int)))]) ⟨rfl, rfl, rfl, rfl, trivial⟩ (List.Perm.refl _) ?_
  refine C_loop (fun n H' M' L' => ∃ (k107 : Nat) (zs120' : List U8), ∃ n112 : Int, (bytesL (line ++ (⟨#[10]⟩))).drop k107 = zs120' ∧ zs120'.length = n ∧ forI (fun k y s115 n => m_archive_digest_b1 k y s115 n) (fun s115 => some s115) k107 zs120' n112 = some r ∧ H104.le H' ∧ M = M' ∧ [(0, .int .u64 (n112)), (9, v103), (10, .int .i64 (((bytesL (line ++ (⟨#[10]⟩))).length : Int))), (11, .int .i64 ((k107 : Int)))] = L') _ ⟨0, _, p0_n, rfl, rfl, hm, (Hp.le_refl _), rfl, rfl⟩ ?_
  rintro _ H113 _ _ ⟨k107, zs120', n112, hd122, rfl, hm, hle114, rfl, rfl⟩
  refine C_seq ?_
  refine C_region ?_
  refine W_bin rfl rfl rfl rfl rfl ?_
  refine W_end (E_then ?_)
  refine C_seq ?_
  refine C_cond (b := decide ((k107 : Int) < ((bytesL (line ++ (⟨#[10]⟩))).length : Int))) rfl (fun hb124 => ?_) (fun hb124 => ?_)
  · obtain ⟨y119, zs120, rfl, hy121, hd123⟩ := rng_t hd122 hb124
    have hm : m_archive_digest_b1 k107 y119 n112 (forI (fun k y s115 n => m_archive_digest_b1 k y s115 n) (fun s115 => some s115) (k107 + 1) zs120) = some r := hm
    generalize hn117 : forI (fun k y s115 n => m_archive_digest_b1 k y s115 n) (fun s115 => some s115) (k107 + 1) zs120 = nx116 at hm
    unfold m_archive_digest_b1 at hm
    refine C_skip (E_then ?_)
    refine C_seq ?_
    refine C_block ?_
    refine C_seq ?_
    refine C_region ?_
    obtain ⟨_, rfl, hc125⟩ := (h106).elem hy121
    refine W_indexS rfl rfl Proofs.Tryd.runUnderlying45 Proofs.Tryd.sizeOf5 rfl (h106.mono hle114) rfl (Int.natCast_nonneg _) hy121 ?_
    refine W_load rfl rfl Proofs.Tryd.isAgg5 rfl (HCells.one (hc125.mono hle114) 0 rfl).at ?_
    refine W_assign rfl rfl rfl ?_
    refine W_end ?_
    refine E_then ?_
    refine C_region ?_
    refine W_move rfl rfl rfl ?_
    refine W_move rfl rfl rfl ?_
    refine W_convInt rfl rfl Proofs.Tryd.runUnderlying5 Proofs.Tryd.runUnderlying42 rfl ?_
    refine W_bin rfl rfl rfl rfl rfl ?_
    refine W_bin rfl rfl rfl rfl rfl ?_
    refine W_assign rfl rfl rfl ?_
    refine W_end ?_
    refine E_normal_block ?_
    refine E_then ?_
    refine C_region ?_
    refine W_bin rfl rfl rfl rfl rfl ?_
    refine W_move rfl rfl rfl ?_
    refine W_end ?_
    exact E_keepJ (E_back (Nat.lt_succ_self _) ⟨k107 + 1, zs120, IntKind.u64.wrap ((IntKind.u64.wrap ((BitVec.ofInt (IntKind.u64).bits n112 ^^^ BitVec.ofInt (IntKind.u64).bits (IntKind.u64.wrap (y119.n))).toNat)) * 1099511628211), hd123, rfl, (by rw [hn117]; exact hm), hle114, rfl, rfl⟩) (List.Perm.refl _) ⟨rfl, rfl, rfl, (congrArg (fun z => some (Value.int .i64 z)) (i64_succ hy121 ((h106.mono hle114)).lenMax)), trivial⟩
  · obtain rfl := rng_f hd122 hb124
    have hm : (some n112) = some r := hm
    refine C_exit (E_exit_then ?_)
    refine E_exit_then ?_
    refine E_exit_hit ?_
    refine E_then ?_
    refine C_seq ?_
    refine C_region ?_
    refine W_move rfl rfl rfl ?_
    refine W_assign rfl rfl rfl ?_
    refine W_end ?_
    refine E_then ?_
    refine C_ret ?_
    obtain rfl := Option.some.inj hm
    refine E_weak (Hp.le_trans hle105 hle114) ?_
    exact end1 rfl rfl ⟨rfl, rfl, rfl⟩

theorem m_math_bits_Len64_c {B : Nat} {w0 w : World} [Tabs B w0] {H : Hp} {M : List Res} {p0_x : Int} {r : Int} (hm : m_math_bits_Len64 p0_x = some r) (ht : St B w0 H (M) w) :
    Calls Proofs.Tryd.prog 71 [.int .u64 (p0_x)].toArray w (Ret B w0 fun H' M' v => H = H' ∧ M = M' ∧ .int .i64 (r) = v) := by
  unfold m_math_bits_Len64 at hm
  refine enter Proofs.Tryd.func71 rfl rfl rfl ht ?_
  refine C_seq ?_
  refine C_region ?_
  refine W_assign rfl rfl rfl ?_
  refine W_end ?_
  refine E_then ?_
  refine C_seq_join (fun H' M' L' => ∃ n102 : Int, ∃ n103 : Int, m_math_bits_Len64_b3 n102 n103 = some r ∧ H = H' ∧ M = M' ∧ [(0, .int .u64 (n102)), (2, .int .i64 (n103))] = L') ?_ (fun J104 => ?_)
  · rintro _ _ _ ⟨n102, n103, hm, rfl, rfl, rfl⟩
    unfold m_math_bits_Len64_b3 at hm
    refine C_seq_join (fun H' M' L' => ∃ n106 : Int, ∃ n107 : Int, m_math_bits_Len64_b2 n106 n107 = some r ∧ H = H' ∧ M = M' ∧ [(0, .int .u64 (n106)), (2, .int .i64 (n107))] = L') ?_ (fun J108 => ?_)
    · rintro _ _ _ ⟨n106, n107, hm, rfl, rfl, rfl⟩
      unfold m_math_bits_Len64_b2 at hm
      refine C_seq_join (fun H' M' L' => ∃ n110 : Int, ∃ n111 : Int, m_math_bits_Len64_b1 n110 n111 = some r ∧ H = H' ∧ M = M' ∧ [(0, .int .u64 (n110)), (2, .int .i64 (n111))] = L') ?_ (fun J112 => ?_)
      · rintro _ _ _ ⟨n110, n111, hm, rfl, rfl, rfl⟩
        unfold m_math_bits_Len64_b1 at hm
        refine C_seq ?_
        refine C_region ?_
        refine W_move rfl rfl rfl ?_
        refine W_move rfl rfl rfl ?_
        refine W_convInt rfl rfl Proofs.Tryd.runUnderlying42 Proofs.Tryd.runUnderlying5 rfl ?_
        obtain ⟨y113, h114, he115, hm⟩ := idx_some hm
        refine W_indexStr rfl rfl Proofs.Tryd.runUnderlying9 rfl rfl h114 he115 ?_
        refine W_convInt rfl rfl Proofs.Tryd.runUnderlying5 Proofs.Tryd.runUnderlying3 rfl ?_
        refine W_bin rfl rfl rfl rfl rfl ?_
        refine W_assign rfl rfl rfl ?_
        refine W_end ?_
        refine E_then ?_
        refine C_ret ?_
        obtain rfl := Option.some.inj hm
        refine E_weak (Hp.le_refl _) ?_
        exact end1 rfl rfl ⟨rfl, rfl, rfl⟩
      · refine C_seq ?_
        refine C_region ?_
        refine W_move rfl rfl rfl ?_
        refine W_bin rfl rfl rfl rfl rfl ?_
        refine W_end ?_
        refine E_then ?_
        refine C_cond (b := decide (256 ≤ n106)) rfl (fun hb116 => ?_) (fun hb116 => ?_)
        · have hm := ite_t' hb116 hm
          refine C_seq ?_
          refine C_region ?_
          refine W_move rfl rfl rfl ?_
          refine W_shr rfl rfl rfl rfl (by decide) ?_
          refine W_assign rfl rfl rfl ?_
          refine W_end ?_
          refine E_then ?_
          refine C_region ?_
          refine W_move rfl rfl rfl ?_
          refine W_bin rfl rfl rfl rfl rfl ?_
          refine W_assign rfl rfl rfl ?_
          refine W_end ?_
          exact E_keepJ (J112 _ _ _ ⟨shrV .u64 n106 8, IntKind.i64.wrap (n107 + 8), hm, rfl, rfl, rfl⟩) (List.Perm.refl _) ⟨rfl, rfl, trivial⟩
        · have hm := ite_f' hb116 hm
          refine C_skip ?_
          exact E_keepJ (J112 _ _ _ ⟨n106, n107, hm, rfl, rfl, rfl⟩) (List.Perm.refl _) ⟨rfl, rfl, trivial⟩
    · refine C_seq ?_
      refine C_region ?_
      refine W_move rfl rfl rfl ?_
      refine W_bin rfl rfl rfl rfl rfl ?_
      refine W_end ?_
      refine E_then ?_
      refine C_cond (b := decide (65536 ≤ n102)) rfl (fun hb117 => ?_) (fun hb117 => ?_)
      · have hm := ite_t' hb117 hm
        refine C_seq ?_
        refine C_region ?_
        refine W_move rfl rfl rfl ?_
        refine W_shr rfl rfl rfl rfl (by decide) ?_
        refine W_assign rfl rfl rfl ?_
        refine W_end ?_
        refine E_then ?_
        refine C_region ?_
        refine W_move rfl rfl rfl ?_
        refine W_bin rfl rfl rfl rfl rfl ?_
        refine W_assign rfl rfl rfl ?_
        refine W_end ?_
        exact E_keepJ (J108 _ _ _ ⟨shrV .u64 n102 16, IntKind.i64.wrap (n103 + 16), hm, rfl, rfl, rfl⟩) (List.Perm.refl _) ⟨rfl, rfl, trivial⟩
      · have hm := ite_f' hb117 hm
        refine C_skip ?_
        exact E_keepJ (J108 _ _ _ ⟨n102, n103, hm, rfl, rfl, rfl⟩) (List.Perm.refl _) ⟨rfl, rfl, trivial⟩
  · refine C_seq ?_
    refine C_region ?_
    refine W_move rfl rfl rfl ?_
    refine W_bin rfl rfl rfl rfl rfl ?_
    refine W_end ?_
    refine E_then ?_
    refine C_cond (b := decide (4294967296 ≤ p0_x)) rfl (fun hb118 => ?_) (fun hb118 => ?_)
    · have hm := ite_t' hb118 hm
      refine C_seq ?_
      refine C_region ?_
      refine W_move rfl rfl rfl ?_
      refine W_shr rfl rfl rfl rfl (by decide) ?_
      refine W_assign rfl rfl rfl ?_
      refine W_end ?_
      refine E_then ?_
      refine C_region ?_
      refine W_assign rfl rfl rfl ?_
      refine W_end ?_
      exact E_keepJ (J104 _ _ _ ⟨shrV .u64 p0_x 32, 32, hm, rfl, rfl, rfl⟩) (List.Perm.refl _) ⟨rfl, rfl, trivial⟩
    · have hm := ite_f' hb118 hm
      refine C_skip ?_
      exact E_keepJ (J104 _ _ _ ⟨p0_x, 0, hm, rfl, rfl, rfl⟩) (List.Perm.refl _) ⟨rfl, rfl, trivial⟩

theorem m_internal_strconv_log10Pow2_c {B : Nat} {w0 w : World} [Tabs B w0] {H : Hp} {M : List Res} {p0_x : Int} {r : Int} (hm : m_internal_strconv_log10Pow2 p0_x = r) (ht : St B w0 H (M) w) :
    Calls Proofs.Tryd.prog 70 [.int .i64 (p0_x)].toArray w (Ret B w0 fun H' M' v => H = H' ∧ M = M' ∧ .int .i64 (r) = v) := by
  unfold m_internal_strconv_log10Pow2 at hm
  refine enter Proofs.Tryd.func70 rfl rfl rfl ht ?_
  refine C_seq ?_
  refine C_region ?_
  refine W_assign rfl rfl rfl ?_
  refine W_end ?_
  refine E_then ?_
  refine C_seq ?_
  refine C_region ?_
  refine W_move rfl rfl rfl ?_
  refine W_bin rfl rfl rfl rfl rfl ?_
  refine W_shr rfl rfl rfl rfl (by decide) ?_
  refine W_assign rfl rfl rfl ?_
  refine W_end ?_
  refine E_then ?_
  refine C_ret ?_
  obtain rfl := hm
  refine E_weak (Hp.le_refl _) ?_
  exact end1 rfl rfl ⟨rfl, rfl, rfl⟩

theorem m_internal_strconv_bool2_int_c {B : Nat} {w0 w : World} [Tabs B w0] {H : Hp} {M : List Res} {p0_b : Bool} {r : Int} (hm : m_internal_strconv_bool2_int p0_b = r) (ht : St B w0 H (M) w) :
    Calls Proofs.Tryd.prog 72 [.bool (p0_b)].toArray w (Ret B w0 fun H' M' v => H = H' ∧ M = M' ∧ .int .i64 (r) = v) := by
  unfold m_internal_strconv_bool2_int at hm
  refine enter Proofs.Tryd.func72 rfl rfl rfl ht ?_
  refine C_seq ?_
  refine C_region ?_
  refine W_assign rfl rfl rfl ?_
  refine W_end ?_
  refine E_then ?_
  refine C_seq ?_
  refine C_seq ?_
  refine C_region ?_
  refine W_move rfl rfl rfl ?_
  refine W_end ?_
  refine E_then ?_
  refine C_cond (b := p0_b) rfl (fun hb101 => ?_) (fun hb101 => ?_)
  · have hm := ite_t' hb101 hm
    refine C_seq ?_
    refine C_region ?_
    refine W_assign rfl rfl rfl ?_
    refine W_end ?_
    refine E_then ?_
    refine C_ret ?_
    refine E_ret_then ?_
    obtain rfl := hm
    refine E_weak (Hp.le_refl _) ?_
    exact end1 rfl rfl ⟨rfl, rfl, rfl⟩
  · have hm := ite_f' hb101 hm
    refine C_skip ?_
    refine E_then ?_
    refine C_seq ?_
    refine C_region ?_
    refine W_assign rfl rfl rfl ?_
    refine W_end ?_
    refine E_then ?_
    refine C_ret ?_
    obtain rfl := hm
    refine E_weak (Hp.le_refl _) ?_
    exact end1 rfl rfl ⟨rfl, rfl, rfl⟩

theorem m_internal_strconv_numDigits_c {B : Nat} {w0 w : World} [Tabs B w0] {H : Hp} {M : List Res} {p0_d : Int} {r : Int} (hm : m_internal_strconv_numDigits p0_d = some r) (ht : St B w0 H (M) w) :
    Calls Proofs.Tryd.prog 58 [.int .u64 (p0_d)].toArray w (Ret B w0 fun H' M' v => H = H' ∧ M = M' ∧ .int .i64 (r) = v) := by
  unfold m_internal_strconv_numDigits at hm
  refine enter Proofs.Tryd.func58 rfl rfl rfl ht ?_
  refine C_seq ?_
  refine C_region ?_
  refine W_assign rfl rfl rfl ?_
  refine W_end ?_
  refine E_then ?_
  refine C_seq ?_
  refine C_region ?_
  refine W_move rfl rfl rfl ?_
  obtain ⟨r101, hc102, hm⟩ := bind_some hm
  refine W_call Proofs.Tryd.call71 rfl rfl rfl (fun w ht => by have h := m_math_bits_Len64_c (hm := hc102)  ht; exact h) ?_
  rintro _ _ _ ⟨rfl, rfl, rfl⟩
  refine W_call Proofs.Tryd.call70 rfl rfl rfl (fun w ht => by have h := m_internal_strconv_log10Pow2_c (hm := (rfl : m_internal_strconv_log10Pow2 r101 = _))  ht; exact h) ?_
  rintro _ _ _ ⟨rfl, rfl, rfl⟩
  refine W_assign rfl rfl rfl ?_
  refine W_end ?_
  refine E_then ?_
  refine C_seq ?_
  refine C_region ?_
  refine W_move rfl rfl rfl ?_
  refine W_move rfl rfl rfl ?_
  refine W_move rfl rfl rfl ?_
  obtain ⟨y103, h104, he105, hm⟩ := idx_some hm
  refine W_indexAd rfl rfl Proofs.Tryd.runUnderlying101 Proofs.Tryd.sizeOf42 rfl rfl h104 (List.getElem?_eq_some_iff.1 he105).1 ?_
  refine W_load rfl rfl Proofs.Tryd.isAgg42 rfl (tab_at (Tabs.t3 (B := B) (w0 := w0)) gn3 (Tabs.below (w0 := w0) rfl) he105) ?_
  refine W_bin rfl rfl rfl rfl rfl ?_
  refine W_call Proofs.Tryd.call72 rfl rfl rfl (fun w ht => by have h := m_internal_strconv_bool2_int_c (hm := (rfl : m_internal_strconv_bool2_int (decide (y103 ≤ p0_d)) = _))  ht; exact h) ?_
  rintro _ _ _ ⟨rfl, rfl, rfl⟩
  refine W_bin rfl rfl rfl rfl rfl ?_
  refine W_assign rfl rfl rfl ?_
  refine W_end ?_
  refine E_then ?_
  refine C_ret ?_
  obtain rfl := Option.some.inj hm
  refine E_weak (Hp.le_refl _) ?_
  exact end1 rfl rfl ⟨rfl, rfl, rfl⟩

theorem m_internal_strconv_isPowerOfTwo_c {B : Nat} {w0 w : World} [Tabs B w0] {H : Hp} {M : List Res} {p0_x : Int} {r : Bool} (hm : m_internal_strconv_isPowerOfTwo p0_x = r) (ht : St B w0 H (M) w) :
    Calls Proofs.Tryd.prog 73 [.int .i64 (p0_x)].toArray w (Ret B w0 fun H' M' v => H = H' ∧ M = M' ∧ .bool (r) = v) := by
  unfold m_internal_strconv_isPowerOfTwo at hm
  refine enter Proofs.Tryd.func73 rfl rfl rfl ht ?_
  refine C_seq ?_
  refine C_region ?_
  refine W_assign rfl rfl rfl ?_
  refine W_end ?_
  refine E_then ?_
  refine C_seq ?_
  refine C_region ?_
  refine W_move rfl rfl rfl ?_
  refine W_move rfl rfl rfl ?_
  refine W_bin rfl rfl rfl rfl rfl ?_
  refine W_bin rfl rfl rfl rfl rfl ?_
  refine W_bin rfl rfl rfl rfl rfl ?_
  refine W_assign rfl rfl rfl ?_
  refine W_end ?_
  refine E_then ?_
  refine C_ret ?_
  obtain rfl := hm
  refine E_weak (Hp.le_refl _) ?_
  exact end1 rfl rfl ⟨rfl, rfl, rfl⟩

theorem m_math_bits_TrailingZeros64_c {B : Nat} {w0 w : World} [Tabs B w0] {H : Hp} {M : List Res} {p0_x : Int} {r : Int} (hm : m_math_bits_TrailingZeros64 p0_x = some r) (ht : St B w0 H (M) w) :
    Calls Proofs.Tryd.prog 81 [.int .u64 (p0_x)].toArray w (Ret B w0 fun H' M' v => H = H' ∧ M = M' ∧ .int .i64 (r) = v) := by
  unfold m_math_bits_TrailingZeros64 at hm
  refine enter Proofs.Tryd.func81 rfl rfl rfl ht ?_
  refine C_seq ?_
  refine C_region ?_
  refine W_assign rfl rfl rfl ?_
  refine W_end ?_
  refine E_then ?_
  refine C_seq ?_
  refine C_seq ?_
  refine C_region ?_
  refine W_move rfl rfl rfl ?_
  refine W_bin rfl rfl rfl rfl rfl ?_
  refine W_end ?_
  refine E_then ?_
  refine C_cond (b := decide (p0_x = 0)) rfl (fun hb101 => ?_) (fun hb101 => ?_)
  · have hm := ite_t' hb101 hm
    refine C_seq ?_
    refine C_region ?_
    refine W_assign rfl rfl rfl ?_
    refine W_end ?_
    refine E_then ?_
    refine C_ret ?_
    refine E_ret_then ?_
    obtain rfl := Option.some.inj hm
    refine E_weak (Hp.le_refl _) ?_
    exact end1 rfl rfl ⟨rfl, rfl, rfl⟩
  · have hm := ite_f' hb101 hm
    refine C_skip ?_
    refine E_then ?_
    refine C_seq ?_
    refine C_region ?_
    refine W_move rfl rfl rfl ?_
    refine W_move rfl rfl rfl ?_
    refine W_un rfl rfl rfl rfl ?_
    refine W_bin rfl rfl rfl rfl rfl ?_
    refine W_bin rfl rfl rfl rfl rfl ?_
    refine W_shr rfl rfl rfl rfl (by decide) ?_
    obtain ⟨y102, h103, he104, hm⟩ := idx_some hm
    refine W_indexAd rfl rfl Proofs.Tryd.runUnderlying116 Proofs.Tryd.sizeOf5 rfl rfl h103 (List.getElem?_eq_some_iff.1 he104).1 ?_
    refine W_load rfl rfl Proofs.Tryd.isAgg5 rfl (tab_at (Tabs.t7 (B := B) (w0 := w0)) gn7 (Tabs.below (w0 := w0) rfl) he104) ?_
    refine W_convInt rfl rfl Proofs.Tryd.runUnderlying5 Proofs.Tryd.runUnderlying3 rfl ?_
    refine W_assign rfl rfl rfl ?_
    refine W_end ?_
    refine E_then ?_
    refine C_ret ?_
    obtain rfl := Option.some.inj hm
    refine E_weak (Hp.le_refl _) ?_
    exact end1 rfl rfl ⟨rfl, rfl, rfl⟩

theorem m_math_bits_TrailingZeros_c {B : Nat} {w0 w : World} [Tabs B w0] {H : Hp} {M : List Res} {p0_x : Int} {r : Int} (hm : m_math_bits_TrailingZeros p0_x = some r) (ht : St B w0 H (M) w) :
    Calls Proofs.Tryd.prog 74 [.int .u64 (p0_x)].toArray w (Ret B w0 fun H' M' v => H = H' ∧ M = M' ∧ .int .i64 (r) = v) := by
  unfold m_math_bits_TrailingZeros at hm
  refine enter Proofs.Tryd.func74 rfl rfl rfl ht ?_
  refine C_seq ?_
  refine C_region ?_
  refine W_assign rfl rfl rfl ?_
  refine W_end ?_
  refine E_then ?_
  refine C_seq ?_
  refine C_cond (b := false) rfl (fun hb => Bool.noConfusion hb) (fun _ => ?_)
  refine C_skip ?_
  refine E_then ?_
  refine C_seq ?_
  refine C_region ?_
  refine W_move rfl rfl rfl ?_
  obtain ⟨r101, hc102, hm⟩ := bind_some hm
  refine W_call Proofs.Tryd.call81 rfl rfl rfl (fun w ht => by have h := m_math_bits_TrailingZeros64_c (hm := hc102)  ht; exact h) ?_
  rintro _ _ _ ⟨rfl, rfl, rfl⟩
  refine W_assign rfl rfl rfl ?_
  refine W_end ?_
  refine E_then ?_
  refine C_ret ?_
  obtain rfl := Option.some.inj hm
  refine E_weak (Hp.le_refl _) ?_
  exact end1 rfl rfl ⟨rfl, rfl, rfl⟩

theorem m_internal_strconv_formatBits_c {B : Nat} {w0 w : World} [Tabs B w0] {H : Hp} {M : List Res} {dst : (List U8)} {p1_u : Int} {base : Int} {neg : Bool} {append_ : Bool} {v0 : Value} {r : (List U8) × ByteArray} (hm : m_internal_strconv_formatBits dst p1_u base neg append_ = some r) (h0 : RdS H v0 dst) (ht : St B w0 H (M) w) :
    Calls Proofs.Tryd.prog 60 [v0, .int .u64 (p1_u), .int .i64 (base), .bool (neg), .bool (append_)].toArray w (Ret B w0 fun H' M' v => H = H' ∧ ∃ qv0 : Value, ∃ qxs0 : List Value, .row qv0 5 (Rep.sz U8) r.1.length qxs0 :: M = M' ∧ .tuple #[qv0, .string (r.2)] = v ∧ RwF qv0 qxs0 r.1) := by
  unfold m_internal_strconv_formatBits at hm
  refine enter Proofs.Tryd.func60 rfl rfl rfl ht ?_
  refine C_seq ?_
  refine C_region ?_
  refine W_assign rfl rfl rfl ?_
  refine W_assign rfl rfl rfl ?_
  refine W_end ?_
  refine E_then ?_
  refine C_seq ?_
  refine C_seq_join (fun H' M' L' => H = H' ∧ M = M' ∧ [(0, v0), (1, .int .u64 (p1_u)), (2, .int .i64 (base)), (3, .bool (neg)), (4, .bool (append_)), (10, .slice none 0 0), (11, .string (⟨#[]⟩)), (28, .bool (((decide (base < 2)) || (decide (base = 10))) || (decide (36 < base))))] = L') ?_ (fun J103 => ?_)
  · rintro _ _ _ ⟨rfl, rfl, rfl⟩
    refine C_cond (b := ((decide (base < 2)) || (decide (base = 10))) || (decide (36 < base))) rfl (fun hb104 => ?_) (fun hb104 => ?_)
    · have hm := ite_t' hb104 hm
      cases hm
    · have hm := ite_f' hb104 hm
      refine C_skip ?_
      refine E_then ?_
      refine C_seq ?_
      refine C_region ?_
      refine W_allocArr (α := U8) (z := .agg ((List.replicate 65 (0 : Int)).map (Value.int .u8)).toArray) (cs := (List.replicate 65 (0 : Int)).map (Value.int .u8)) (l := List.replicate 65 (⟨0⟩ : U8)) (n := 65) rfl rfl (fun _ => by kernel_rfl) (by kernel_rfl) (RdC.zeros _ _) (by kernel_rfl) rfl ?_
      intro v105 hr106
      have hl107 : (List.replicate 65 (⟨0⟩ : U8)).length = 65 := by first | rfl | (simp only [List.length_set, List.length_replicate, *])
      refine W_end ?_
      refine E_then ?_
      refine C_seq ?_
      refine C_region ?_
      refine W_assign rfl rfl rfl ?_
      refine W_end ?_
      refine E_then ?_
      refine C_seq_join (fun H' M' L' => ∃ n109 : Int, m_internal_strconv_formatBits_b15 base neg append_ n109 = some r ∧ H = H' ∧ .row v105 102 (Rep.sz U8) (List.replicate 65 (⟨0⟩ : U8)).length ((List.replicate 65 (0 : Int)).map (Value.int .u8)) :: M = M' ∧ [(0, v0), (1, .int .u64 (n109)), (2, .int .i64 (base)), (3, .bool (neg)), (4, .bool (append_)), (10, .slice none 0 0), (11, .string (⟨#[]⟩)), (12, .pointer (some (Value.base v105))), (13, .int .i64 (65))] = L') ?_ (fun J110 => ?_)
      · rintro _ _ _ ⟨n109, hm, rfl, rfl, rfl⟩
        unfold m_internal_strconv_formatBits_b15 at hm
        refine C_seq_join (fun H' M' L' => ∃ n440 : Int, ∃ l442 : List U8, ∃ xs441 : List Value, m_internal_strconv_formatBits_b8 neg append_ n440 l442 = some r ∧ Rw H' v105 xs441 l442 ∧ l442.length = 65 ∧ H.le H' ∧ .row v105 102 (Rep.sz U8) l442.length xs441 :: M = M' ∧ [(0, v0), (3, .bool (neg)), (4, .bool (append_)), (10, .slice none 0 0), (11, .string (⟨#[]⟩)), (12, .pointer (some (Value.base v105))), (13, .int .i64 (n440))] = L') ?_ (fun J447 => ?_)
        · rintro H445 _ _ ⟨n440, l442, xs441, hm, hr443, hl444, hle446, rfl, rfl⟩
          unfold m_internal_strconv_formatBits_b8 at hm
          refine C_seq_join (fun H' M' L' => ∃ n458 : Int, ∃ l460 : List U8, ∃ xs459 : List Value, m_internal_strconv_formatBits_b7 append_ n458 l460 = some r ∧ Rw H' v105 xs459 l460 ∧ l460.length = 65 ∧ H445 = H' ∧ .row v105 102 (Rep.sz U8) l460.length xs459 :: M = M' ∧ [(0, v0), (4, .bool (append_)), (10, .slice none 0 0), (11, .string (⟨#[]⟩)), (12, .pointer (some (Value.base v105))), (13, .int .i64 (n458))] = L') ?_ (fun J463 => ?_)
          · rintro _ _ _ ⟨n458, l460, xs459, hm, hr461, hl462, rfl, rfl, rfl⟩
            unfold m_internal_strconv_formatBits_b7 at hm
            refine C_seq ?_
            refine C_seq ?_
            refine C_region ?_
            refine W_move rfl rfl rfl ?_
            refine W_end ?_
            refine E_then ?_
            refine C_cond (b := append_) rfl (fun hb464 => ?_) (fun hb464 => ?_)
            · have hm := ite_t' hb464 hm
              refine C_seq ?_
              cases hm
            · have hm := ite_f' hb464 hm
              refine C_skip ?_
              refine E_then ?_
              refine C_seq ?_
              refine C_region ?_
              refine W_move rfl rfl rfl ?_
              obtain ⟨hz471, hm⟩ := need_some hm
              refine W_freeze (hr461).rd rfl (fun H472 hle473 h474 => ?_)
              refine W_sliceArr (n := 65) rfl rfl Proofs.Tryd.runUnderlying102 Proofs.Tryd.sizeOf5 rfl rfl h474 hl462 (by decide) hz471.1 hz471.2 ?_
              intro v475 h476
              refine W_convToStr rfl rfl Proofs.Tryd.underlying45 Proofs.Tryd.underlying5 Proofs.Tryd.underlying9 rfl h476 ?_
              refine W_assign rfl rfl rfl ?_
              refine W_end ?_
              refine E_then ?_
              refine C_ret ?_
              refine E_nilRow 5 (Rep.sz U8) ?_
              obtain rfl := Option.some.inj hm
              refine E_weak (Hp.le_trans hle446 hle473) ?_
              exact end2 rfl rfl rfl ⟨rfl, (.slice none 0 0), [], rfl, rfl, (Rw.nil (H := H)).toF⟩
          · refine C_seq ?_
            refine C_region ?_
            refine W_move rfl rfl rfl ?_
            refine W_end ?_
            refine E_then ?_
            refine C_cond (b := neg) rfl (fun hb477 => ?_) (fun hb477 => ?_)
            · have hm := ite_t' hb477 hm
              refine C_seq ?_
              refine C_region ?_
              refine W_move rfl rfl rfl ?_
              refine W_bin rfl rfl rfl rfl rfl ?_
              refine W_assign rfl rfl rfl ?_
              refine W_end ?_
              refine E_then ?_
              refine C_region ?_
              refine W_move rfl rfl rfl ?_
              obtain ⟨y478, h479, he480, hm⟩ := idx_some hm
              refine W_indexArr (List.mem_cons_self ..) rfl rfl Proofs.Tryd.runUnderlying102 Proofs.Tryd.sizeOf5 hl444 rfl rfl h479 (List.getElem?_eq_some_iff.1 he480).1 ?_
              obtain ⟨_, rfl, hg481⟩ := (hr443).elem he480
              obtain ⟨hr482, he483, hg484⟩ := Rw.put (cs := [.int .u8 (45)]) (o := 0) (c := [.int .u8 (y478.n)]) (out := [.int .u8 (45)]) (e2 := ⟨45⟩) hr443 he480 rfl hg481 rfl rfl rfl
              refine W_storeO2 (i := (IntKind.i64.wrap (n440 - 1) : Int).toNat * Rep.sz U8 + 0) (cs := [.int .u8 (45)]) rfl Proofs.Tryd.sizeOf5 rfl (row_ad0 _ _) rfl rfl rfl (Rw.room hr443 he480 rfl) rfl (all_cons rfl all_nil) (n' := (l442.set ((IntKind.i64.wrap (n440 - 1) : Int).toNat) ⟨45⟩).length) List.length_set ?_
              generalize over xs441 ((IntKind.i64.wrap (n440 - 1) : Int).toNat * Rep.sz U8 + 0) [.int .u8 (45)] = xs485 at hr482 hg484 ⊢
              have hl486 : (l442.set ((IntKind.i64.wrap (n440 - 1) : Int).toNat) ⟨45⟩).length = 65 := by rw [List.length_set]; exact hl444
              refine W_end ?_
              exact E_keepJ (J463 _ _ _ ⟨IntKind.i64.wrap (n440 - 1), (l442.set ((IntKind.i64.wrap (n440 - 1) : Int).toNat) ⟨45⟩), xs485, hm, hr482, hl486, rfl, rfl, rfl⟩) (List.Perm.refl _) ⟨rfl, rfl, rfl, rfl, rfl, rfl, trivial⟩
            · have hm := ite_f' hb477 hm
              refine C_skip ?_
              exact E_keepJ (J463 _ _ _ ⟨n440, l442, xs441, hm, hr443, hl444, rfl, rfl, rfl⟩) (List.Perm.refl _) ⟨rfl, rfl, rfl, rfl, rfl, rfl, trivial⟩
        · refine C_seq ?_
          refine C_region ?_
          refine W_move rfl rfl rfl ?_
          refine W_call Proofs.Tryd.call73 rfl rfl rfl (fun w ht => by have h := m_internal_strconv_isPowerOfTwo_c (hm := (rfl : m_internal_strconv_isPowerOfTwo base = _))  ht; exact h) ?_
          rintro _ _ _ ⟨rfl, rfl, rfl⟩
          refine W_end ?_
          refine E_then ?_
          refine C_cond (b := (m_internal_strconv_isPowerOfTwo base)) rfl (fun hb487 => ?_) (fun hb487 => ?_)
          · have hm := ite_t' hb487 hm
            refine C_seq ?_
            refine C_region ?_
            refine W_move rfl rfl rfl ?_
            refine W_convInt rfl rfl Proofs.Tryd.runUnderlying3 Proofs.Tryd.runUnderlying90 rfl ?_
            obtain ⟨r488, hc489, hm⟩ := bind_some hm
            refine W_call Proofs.Tryd.call74 rfl rfl rfl (fun w ht => by have h := m_math_bits_TrailingZeros_c (hm := hc489)  ht; exact h) ?_
            rintro _ _ _ ⟨rfl, rfl, rfl⟩
            refine W_convInt rfl rfl Proofs.Tryd.runUnderlying3 Proofs.Tryd.runUnderlying90 rfl ?_
            refine W_assign rfl rfl rfl ?_
            refine W_end ?_
            refine E_then ?_
            refine C_seq ?_
            refine C_region ?_
            refine W_move rfl rfl rfl ?_
            refine W_convInt rfl rfl Proofs.Tryd.runUnderlying3 Proofs.Tryd.runUnderlying42 rfl ?_
            refine W_assign rfl rfl rfl ?_
            refine W_end ?_
            refine E_then ?_
            refine C_seq ?_
            refine C_region ?_
            refine W_move rfl rfl rfl ?_
            refine W_convInt rfl rfl Proofs.Tryd.runUnderlying3 Proofs.Tryd.runUnderlying90 rfl ?_
            refine W_bin rfl rfl rfl rfl rfl ?_
            refine W_assign rfl rfl rfl ?_
            refine W_end ?_
            refine E_then ?_
            refine C_seq_join (fun H' M' L' => ∃ n561 : Int, ∃ n562 : Int, ∃ l564 : List U8, ∃ xs563 : List Value, m_internal_strconv_formatBits_b10 neg append_ n561 n562 l564 = some r ∧ Rw H' v105 xs563 l564 ∧ l564.length = 65 ∧ H.le H' ∧ .row v105 102 (Rep.sz U8) l564.length xs563 :: M = M' ∧ [(0, v0), (1, .int .u64 (n561)), (3, .bool (neg)), (4, .bool (append_)), (10, .slice none 0 0), (11, .string (⟨#[]⟩)), (12, .pointer (some (Value.base v105))), (13, .int .i64 (n562))] = L') ?_ (fun J569 => ?_)
            · rintro H567 _ _ ⟨n561, n562, l564, xs563, hm, hr565, hl566, hle568, rfl, rfl⟩
              unfold m_internal_strconv_formatBits_b10 at hm
              refine C_seq ?_
              refine C_region ?_
              refine W_move rfl rfl rfl ?_
              refine W_bin rfl rfl rfl rfl rfl ?_
              refine W_assign rfl rfl rfl ?_
              refine W_end ?_
              refine E_then ?_
              refine C_region ?_
              refine W_move rfl rfl rfl ?_
              refine W_move rfl rfl rfl ?_
              obtain ⟨y570, h571, he572, hm⟩ := idx_some hm
              refine W_indexStr rfl rfl Proofs.Tryd.runUnderlying9 rfl rfl h571 he572 ?_
              obtain ⟨y573, h574, he575, hm⟩ := idx_some hm
              refine W_indexArr (List.mem_cons_self ..) rfl rfl Proofs.Tryd.runUnderlying102 Proofs.Tryd.sizeOf5 hl566 rfl rfl h574 (List.getElem?_eq_some_iff.1 he575).1 ?_
              obtain ⟨_, rfl, hg576⟩ := (hr565).elem he575
              obtain ⟨hr577, he578, hg579⟩ := Rw.put (cs := [.int .u8 (y570.n)]) (o := 0) (c := [.int .u8 (y573.n)]) (out := [.int .u8 (y570.n)]) (e2 := y570) hr565 he575 rfl hg576 rfl rfl rfl
              refine W_storeO2 (i := (IntKind.i64.wrap (n562 - 1) : Int).toNat * Rep.sz U8 + 0) (cs := [.int .u8 (y570.n)]) rfl Proofs.Tryd.sizeOf5 rfl (row_ad0 _ _) rfl rfl rfl (Rw.room hr565 he575 rfl) rfl (all_cons rfl all_nil) (n' := (l564.set ((IntKind.i64.wrap (n562 - 1) : Int).toNat) y570).length) List.length_set ?_
              generalize over xs563 ((IntKind.i64.wrap (n562 - 1) : Int).toNat * Rep.sz U8 + 0) [.int .u8 (y570.n)] = xs580 at hr577 hg579 ⊢
              have hl581 : (l564.set ((IntKind.i64.wrap (n562 - 1) : Int).toNat) y570).length = 65 := by rw [List.length_set]; exact hl566
              refine W_end ?_
              exact E_keepJ (J447 _ _ _ ⟨IntKind.i64.wrap (n562 - 1), (l564.set ((IntKind.i64.wrap (n562 - 1) : Int).toNat) y570), xs580, hm, hr577, hl581, hle568, rfl, rfl⟩) (List.Perm.refl _) ⟨rfl, rfl, rfl, rfl, rfl, rfl, rfl, trivial⟩
            · refine C_block ?_
              refine C_keep (L' := [(0, v0), (1, .int .u64 (n109)), (3, .bool (neg)), (4, .bool (append_)), (10, .slice none 0 0), (11, .string (⟨#[]⟩)), (12, .pointer (some (Value.base v105))), (13, .int .i64 (65)), (14, .int .u64 (IntKind.u64.wrap (r488))), (15, .int .u64 (IntKind.u64.wrap (base))), (16, .int .u64 (IntKind.u64.wrap ((IntKind.u64.wrap (base)) - 1)))]) ⟨rfl, rfl, rfl, rfl, rfl, rfl, rfl, rfl, rfl, rfl, rfl, trivial⟩ (List.Perm.refl _) ?_
              refine C_loop (fun n H' M' L' => ∃ n622 : Int, ∃ n623 : Int, ∃ l625 : List U8, ∃ xs624 : List Value, loopF (fun s630 n => m_internal_strconv_formatBits_b11 base neg append_ r488 s630.1 s630.2.1 s630.2.2 n) n (n622, n623, l625) = some r ∧ Rw H' v105 xs624 l625 ∧ l625.length = 65 ∧ H.le H' ∧ .row v105 102 (Rep.sz U8) l625.length xs624 :: M = M' ∧ [(0, v0), (1, .int .u64 (n622)), (3, .bool (neg)), (4, .bool (append_)), (10, .slice none 0 0), (11, .string (⟨#[]⟩)), (12, .pointer (some (Value.base v105))), (13, .int .i64 (n623)), (14, .int .u64 (IntKind.u64.wrap (r488))), (15, .int .u64 (IntKind.u64.wrap (base))), (16, .int .u64 (IntKind.u64.wrap ((IntKind.u64.wrap (base)) - 1)))] = L') FUEL ⟨n109, 65, (List.replicate 65 (⟨0⟩ : U8)), ((List.replicate 65 (0 : Int)).map (Value.int .u8)), hm, hr106, hl107, (Hp.le_refl _), rfl, rfl⟩ ?_
              rintro n633 H628 _ _ ⟨n622, n623, l625, xs624, hm, hr626, hl627, hle629, rfl, rfl⟩
              cases n633 with
              | zero => cases hm
              | succ n633 =>
                have hm : m_internal_strconv_formatBits_b11 base neg append_ r488 n622 n623 l625 (loopF (fun s630 n => m_internal_strconv_formatBits_b11 base neg append_ r488 s630.1 s630.2.1 s630.2.2 n) n633) = some r := hm
                generalize hn632 : loopF (fun s630 n => m_internal_strconv_formatBits_b11 base neg append_ r488 s630.1 s630.2.1 s630.2.2 n) n633 = nx631 at hm
                unfold m_internal_strconv_formatBits_b11 at hm
                refine C_seq ?_
                refine C_seq ?_
                refine C_region ?_
                refine W_move rfl rfl rfl ?_
                refine W_move rfl rfl rfl ?_
                refine W_bin rfl rfl rfl rfl rfl ?_
                refine W_end ?_
                refine E_then ?_
                refine C_cond (b := decide ((IntKind.u64.wrap (base)) ≤ n622)) rfl (fun hb639 => ?_) (fun hb639 => ?_)
                · have hm := ite_t' hb639 hm
                  refine C_skip ?_
                  refine E_then ?_
                  refine C_block ?_
                  refine C_seq ?_
                  refine C_region ?_
                  refine W_move rfl rfl rfl ?_
                  refine W_bin rfl rfl rfl rfl rfl ?_
                  refine W_assign rfl rfl rfl ?_
                  refine W_end ?_
                  refine E_then ?_
                  refine C_seq ?_
                  refine C_region ?_
                  refine W_move rfl rfl rfl ?_
                  refine W_move rfl rfl rfl ?_
                  refine W_move rfl rfl rfl ?_
                  refine W_bin rfl rfl rfl rfl rfl ?_
                  obtain ⟨y640, h641, he642, hm⟩ := idx_some hm
                  refine W_indexStr rfl rfl Proofs.Tryd.runUnderlying9 rfl rfl h641 he642 ?_
                  obtain ⟨y643, h644, he645, hm⟩ := idx_some hm
                  refine W_indexArr (List.mem_cons_self ..) rfl rfl Proofs.Tryd.runUnderlying102 Proofs.Tryd.sizeOf5 hl627 rfl rfl h644 (List.getElem?_eq_some_iff.1 he645).1 ?_
                  obtain ⟨_, rfl, hg646⟩ := (hr626).elem he645
                  obtain ⟨hr647, he648, hg649⟩ := Rw.put (cs := [.int .u8 (y640.n)]) (o := 0) (c := [.int .u8 (y643.n)]) (out := [.int .u8 (y640.n)]) (e2 := y640) hr626 he645 rfl hg646 rfl rfl rfl
                  refine W_storeO2 (i := (IntKind.i64.wrap (n623 - 1) : Int).toNat * Rep.sz U8 + 0) (cs := [.int .u8 (y640.n)]) rfl Proofs.Tryd.sizeOf5 rfl (row_ad0 _ _) rfl rfl rfl (Rw.room hr626 he645 rfl) rfl (all_cons rfl all_nil) (n' := (l625.set ((IntKind.i64.wrap (n623 - 1) : Int).toNat) y640).length) List.length_set ?_
                  generalize over xs624 ((IntKind.i64.wrap (n623 - 1) : Int).toNat * Rep.sz U8 + 0) [.int .u8 (y640.n)] = xs650 at hr647 hg649 ⊢
                  have hl651 : (l625.set ((IntKind.i64.wrap (n623 - 1) : Int).toNat) y640).length = 65 := by rw [List.length_set]; exact hl627
                  refine W_end ?_
                  refine E_then ?_
                  refine C_region ?_
                  refine W_move rfl rfl rfl ?_
                  refine W_move rfl rfl rfl ?_
                  obtain ⟨hq652, hm⟩ := need_some hm
                  refine W_shr rfl rfl rfl rfl hq652 ?_
                  refine W_assign rfl rfl rfl ?_
                  refine W_end ?_
                  refine E_normal_block ?_
                  exact E_keepJ (E_back (Nat.lt_succ_self _) ⟨shrV .u64 n622 (IntKind.u64.wrap (r488)), IntKind.i64.wrap (n623 - 1), (l625.set ((IntKind.i64.wrap (n623 - 1) : Int).toNat) y640), xs650, (by rw [hn632]; exact hm), hr647, hl651, hle629, rfl, rfl⟩) (List.Perm.refl _) ⟨rfl, rfl, rfl, rfl, rfl, rfl, rfl, rfl, rfl, rfl, rfl, trivial⟩
                · have hm := ite_f' hb639 hm
                  refine C_exit ?_
                  refine E_exit_then ?_
                  refine E_exit_then ?_
                  refine E_exit_hit ?_
                  exact E_keepJ (J569 _ _ _ ⟨n622, n623, l625, xs624, hm, hr626, hl627, hle629, rfl, rfl⟩) (List.Perm.refl _) ⟨rfl, rfl, rfl, rfl, rfl, rfl, rfl, rfl, trivial⟩
          · have hm := ite_f' hb487 hm
            refine C_seq ?_
            refine C_region ?_
            refine W_move rfl rfl rfl ?_
            refine W_convInt rfl rfl Proofs.Tryd.runUnderlying3 Proofs.Tryd.runUnderlying42 rfl ?_
            refine W_assign rfl rfl rfl ?_
            refine W_end ?_
            refine E_then ?_
            refine C_seq_join (fun H' M' L' => ∃ n724 : Int, ∃ n725 : Int, ∃ l727 : List U8, ∃ xs726 : List Value, m_internal_strconv_formatBits_b13 neg append_ n724 n725 l727 = some r ∧ Rw H' v105 xs726 l727 ∧ l727.length = 65 ∧ H.le H' ∧ .row v105 102 (Rep.sz U8) l727.length xs726 :: M = M' ∧ [(0, v0), (1, .int .u64 (n724)), (3, .bool (neg)), (4, .bool (append_)), (10, .slice none 0 0), (11, .string (⟨#[]⟩)), (12, .pointer (some (Value.base v105))), (13, .int .i64 (n725))] = L') ?_ (fun J732 => ?_)
            · rintro H730 _ _ ⟨n724, n725, l727, xs726, hm, hr728, hl729, hle731, rfl, rfl⟩
              unfold m_internal_strconv_formatBits_b13 at hm
              refine C_seq ?_
              refine C_region ?_
              refine W_move rfl rfl rfl ?_
              refine W_bin rfl rfl rfl rfl rfl ?_
              refine W_assign rfl rfl rfl ?_
              refine W_end ?_
              refine E_then ?_
              refine C_region ?_
              refine W_move rfl rfl rfl ?_
              refine W_move rfl rfl rfl ?_
              obtain ⟨y733, h734, he735, hm⟩ := idx_some hm
              refine W_indexStr rfl rfl Proofs.Tryd.runUnderlying9 rfl rfl h734 he735 ?_
              obtain ⟨y736, h737, he738, hm⟩ := idx_some hm
              refine W_indexArr (List.mem_cons_self ..) rfl rfl Proofs.Tryd.runUnderlying102 Proofs.Tryd.sizeOf5 hl729 rfl rfl h737 (List.getElem?_eq_some_iff.1 he738).1 ?_
              obtain ⟨_, rfl, hg739⟩ := (hr728).elem he738
              obtain ⟨hr740, he741, hg742⟩ := Rw.put (cs := [.int .u8 (y733.n)]) (o := 0) (c := [.int .u8 (y736.n)]) (out := [.int .u8 (y733.n)]) (e2 := y733) hr728 he738 rfl hg739 rfl rfl rfl
              refine W_storeO2 (i := (IntKind.i64.wrap (n725 - 1) : Int).toNat * Rep.sz U8 + 0) (cs := [.int .u8 (y733.n)]) rfl Proofs.Tryd.sizeOf5 rfl (row_ad0 _ _) rfl rfl rfl (Rw.room hr728 he738 rfl) rfl (all_cons rfl all_nil) (n' := (l727.set ((IntKind.i64.wrap (n725 - 1) : Int).toNat) y733).length) List.length_set ?_
              generalize over xs726 ((IntKind.i64.wrap (n725 - 1) : Int).toNat * Rep.sz U8 + 0) [.int .u8 (y733.n)] = xs743 at hr740 hg742 ⊢
              have hl744 : (l727.set ((IntKind.i64.wrap (n725 - 1) : Int).toNat) y733).length = 65 := by rw [List.length_set]; exact hl729
              refine W_end ?_
              exact E_keepJ (J447 _ _ _ ⟨IntKind.i64.wrap (n725 - 1), (l727.set ((IntKind.i64.wrap (n725 - 1) : Int).toNat) y733), xs743, hm, hr740, hl744, hle731, rfl, rfl⟩) (List.Perm.refl _) ⟨rfl, rfl, rfl, rfl, rfl, rfl, rfl, trivial⟩
            · refine C_block ?_
              refine C_keep (L' := [(0, v0), (1, .int .u64 (n109)), (3, .bool (neg)), (4, .bool (append_)), (10, .slice none 0 0), (11, .string (⟨#[]⟩)), (12, .pointer (some (Value.base v105))), (13, .int .i64 (65)), (17, .int .u64 (IntKind.u64.wrap (base)))]) ⟨rfl, rfl, rfl, rfl, rfl, rfl, rfl, rfl, rfl, trivial⟩ (List.Perm.refl _) ?_
              refine C_loop (fun n H' M' L' => ∃ n785 : Int, ∃ n786 : Int, ∃ l788 : List U8, ∃ xs787 : List Value, loopF (fun s793 n => m_internal_strconv_formatBits_b14 base neg append_ s793.1 s793.2.1 s793.2.2 n) n (n785, n786, l788) = some r ∧ Rw H' v105 xs787 l788 ∧ l788.length = 65 ∧ H.le H' ∧ .row v105 102 (Rep.sz U8) l788.length xs787 :: M = M' ∧ [(0, v0), (1, .int .u64 (n785)), (3, .bool (neg)), (4, .bool (append_)), (10, .slice none 0 0), (11, .string (⟨#[]⟩)), (12, .pointer (some (Value.base v105))), (13, .int .i64 (n786)), (17, .int .u64 (IntKind.u64.wrap (base)))] = L') FUEL ⟨n109, 65, (List.replicate 65 (⟨0⟩ : U8)), ((List.replicate 65 (0 : Int)).map (Value.int .u8)), hm, hr106, hl107, (Hp.le_refl _), rfl, rfl⟩ ?_
              rintro n796 H791 _ _ ⟨n785, n786, l788, xs787, hm, hr789, hl790, hle792, rfl, rfl⟩
              cases n796 with
              | zero => cases hm
              | succ n796 =>
                have hm : m_internal_strconv_formatBits_b14 base neg append_ n785 n786 l788 (loopF (fun s793 n => m_internal_strconv_formatBits_b14 base neg append_ s793.1 s793.2.1 s793.2.2 n) n796) = some r := hm
                generalize hn795 : loopF (fun s793 n => m_internal_strconv_formatBits_b14 base neg append_ s793.1 s793.2.1 s793.2.2 n) n796 = nx794 at hm
                unfold m_internal_strconv_formatBits_b14 at hm
                refine C_seq ?_
                refine C_seq ?_
                refine C_region ?_
                refine W_move rfl rfl rfl ?_
                refine W_move rfl rfl rfl ?_
                refine W_bin rfl rfl rfl rfl rfl ?_
                refine W_end ?_
                refine E_then ?_
                refine C_cond (b := decide ((IntKind.u64.wrap (base)) ≤ n785)) rfl (fun hb802 => ?_) (fun hb802 => ?_)
                · have hm := ite_t' hb802 hm
                  refine C_skip ?_
                  refine E_then ?_
                  refine C_block ?_
                  refine C_seq ?_
                  refine C_region ?_
                  refine W_move rfl rfl rfl ?_
                  refine W_bin rfl rfl rfl rfl rfl ?_
                  refine W_assign rfl rfl rfl ?_
                  refine W_end ?_
                  refine E_then ?_
                  refine C_seq ?_
                  refine C_region ?_
                  refine W_move rfl rfl rfl ?_
                  refine W_move rfl rfl rfl ?_
                  obtain ⟨hq803, hm⟩ := need_some hm
                  refine W_quo rfl rfl rfl rfl hq803 ?_
                  refine W_assign rfl rfl rfl ?_
                  refine W_end ?_
                  refine E_then ?_
                  refine C_seq ?_
                  refine C_region ?_
                  refine W_move rfl rfl rfl ?_
                  refine W_move rfl rfl rfl ?_
                  refine W_move rfl rfl rfl ?_
                  refine W_move rfl rfl rfl ?_
                  refine W_bin rfl rfl rfl rfl rfl ?_
                  refine W_bin rfl rfl rfl rfl rfl ?_
                  obtain ⟨y804, h805, he806, hm⟩ := idx_some hm
                  refine W_indexStr rfl rfl Proofs.Tryd.runUnderlying9 rfl rfl h805 he806 ?_
                  obtain ⟨y807, h808, he809, hm⟩ := idx_some hm
                  refine W_indexArr (List.mem_cons_self ..) rfl rfl Proofs.Tryd.runUnderlying102 Proofs.Tryd.sizeOf5 hl790 rfl rfl h808 (List.getElem?_eq_some_iff.1 he809).1 ?_
                  obtain ⟨_, rfl, hg810⟩ := (hr789).elem he809
                  obtain ⟨hr811, he812, hg813⟩ := Rw.put (cs := [.int .u8 (y804.n)]) (o := 0) (c := [.int .u8 (y807.n)]) (out := [.int .u8 (y804.n)]) (e2 := y804) hr789 he809 rfl hg810 rfl rfl rfl
                  refine W_storeO2 (i := (IntKind.i64.wrap (n786 - 1) : Int).toNat * Rep.sz U8 + 0) (cs := [.int .u8 (y804.n)]) rfl Proofs.Tryd.sizeOf5 rfl (row_ad0 _ _) rfl rfl rfl (Rw.room hr789 he809 rfl) rfl (all_cons rfl all_nil) (n' := (l788.set ((IntKind.i64.wrap (n786 - 1) : Int).toNat) y804).length) List.length_set ?_
                  generalize over xs787 ((IntKind.i64.wrap (n786 - 1) : Int).toNat * Rep.sz U8 + 0) [.int .u8 (y804.n)] = xs814 at hr811 hg813 ⊢
                  have hl815 : (l788.set ((IntKind.i64.wrap (n786 - 1) : Int).toNat) y804).length = 65 := by rw [List.length_set]; exact hl790
                  refine W_end ?_
                  refine E_then ?_
                  refine C_region ?_
                  refine W_move rfl rfl rfl ?_
                  refine W_assign rfl rfl rfl ?_
                  refine W_end ?_
                  refine E_normal_block ?_
                  exact E_keepJ (E_back (Nat.lt_succ_self _) ⟨IntKind.u64.wrap (Int.tdiv n785 (IntKind.u64.wrap (base))), IntKind.i64.wrap (n786 - 1), (l788.set ((IntKind.i64.wrap (n786 - 1) : Int).toNat) y804), xs814, (by rw [hn795]; exact hm), hr811, hl815, hle792, rfl, rfl⟩) (List.Perm.refl _) ⟨rfl, rfl, rfl, rfl, rfl, rfl, rfl, rfl, rfl, trivial⟩
                · have hm := ite_f' hb802 hm
                  refine C_exit ?_
                  refine E_exit_then ?_
                  refine E_exit_then ?_
                  refine E_exit_hit ?_
                  exact E_keepJ (J732 _ _ _ ⟨n785, n786, l788, xs787, hm, hr789, hl790, hle792, rfl, rfl⟩) (List.Perm.refl _) ⟨rfl, rfl, rfl, rfl, rfl, rfl, rfl, rfl, trivial⟩
      · refine C_seq ?_
        refine C_region ?_
        refine W_move rfl rfl rfl ?_
        refine W_end ?_
        refine E_then ?_
        refine C_cond (b := neg) rfl (fun hb816 => ?_) (fun hb816 => ?_)
        · have hm := ite_t' hb816 hm
          refine C_region ?_
          refine W_move rfl rfl rfl ?_
          refine W_un rfl rfl rfl rfl ?_
          refine W_assign rfl rfl rfl ?_
          refine W_end ?_
          exact E_keepJ (J110 _ _ _ ⟨IntKind.u64.wrap (0 - p1_u), hm, rfl, rfl, rfl⟩) (List.Perm.refl _) ⟨rfl, rfl, rfl, rfl, rfl, rfl, rfl, rfl, rfl, trivial⟩
        · have hm := ite_f' hb816 hm
          refine C_skip ?_
          exact E_keepJ (J110 _ _ _ ⟨p1_u, hm, rfl, rfl, rfl⟩) (List.Perm.refl _) ⟨rfl, rfl, rfl, rfl, rfl, rfl, rfl, rfl, rfl, trivial⟩
  · refine C_region ?_
    refine W_move rfl rfl rfl ?_
    refine W_bin rfl rfl rfl rfl rfl ?_
    refine W_move rfl rfl rfl ?_
    cases hb817 : (decide (base < 2))
    · refine W_move rfl rfl rfl ?_
      refine W_bin rfl rfl rfl rfl rfl ?_
      refine W_pick rfl rfl rfl rfl ?_
      refine W_move rfl rfl rfl ?_
      cases hb818 : (decide (base = 10))
      · refine W_move rfl rfl rfl ?_
        refine W_bin rfl rfl rfl rfl rfl ?_
        refine W_pick rfl rfl rfl rfl ?_
        refine W_end ?_
        exact E_keepJ (J103 _ _ _ ⟨rfl, rfl, rfl⟩) (List.Perm.refl _) ⟨rfl, rfl, rfl, rfl, rfl, rfl, rfl, (by show some (Value.bool (decide (36 < base))) = some (Value.bool (((decide (base < 2)) || (decide (base = 10))) || (decide (36 < base)))); simp only [hb817, hb818, Bool.and_true, Bool.true_and, Bool.false_and, Bool.and_false, Bool.or_true, Bool.true_or, Bool.or_false, Bool.false_or, Bool.not_true, Bool.not_false]), trivial⟩
      · refine W_no rfl rfl rfl ?_
        refine W_no rfl rfl rfl ?_
        refine W_pick rfl rfl rfl rfl ?_
        refine W_end ?_
        exact E_keepJ (J103 _ _ _ ⟨rfl, rfl, rfl⟩) (List.Perm.refl _) ⟨rfl, rfl, rfl, rfl, rfl, rfl, rfl, (by show some (Value.bool (true)) = some (Value.bool (((decide (base < 2)) || (decide (base = 10))) || (decide (36 < base)))); simp only [hb817, hb818, Bool.and_true, Bool.true_and, Bool.false_and, Bool.and_false, Bool.or_true, Bool.true_or, Bool.or_false, Bool.false_or, Bool.not_true, Bool.not_false]), trivial⟩
    · refine W_no rfl rfl rfl ?_
      refine W_no rfl rfl rfl ?_
      refine W_pick rfl rfl rfl rfl ?_
      refine W_move rfl rfl rfl ?_
      refine W_no rfl rfl rfl ?_
      refine W_no rfl rfl rfl ?_
      refine W_pick rfl rfl rfl rfl ?_
      refine W_end ?_
      exact E_keepJ (J103 _ _ _ ⟨rfl, rfl, rfl⟩) (List.Perm.refl _) ⟨rfl, rfl, rfl, rfl, rfl, rfl, rfl, (by show some (Value.bool (true)) = some (Value.bool (((decide (base < 2)) || (decide (base = 10))) || (decide (36 < base)))); simp only [hb817, Bool.and_true, Bool.true_and, Bool.false_and, Bool.and_false, Bool.or_true, Bool.true_or, Bool.or_false, Bool.false_or, Bool.not_true, Bool.not_false]), trivial⟩

theorem m_internal_strconv_FormatUint_c {B : Nat} {w0 w : World} [Tabs B w0] {H : Hp} {M : List Res} {p0_i : Int} {base : Int} {r : ByteArray} (hm : m_internal_strconv_FormatUint p0_i base = some r) (ht : St B w0 H (M) w) :
    Calls Proofs.Tryd.prog 45 [.int .u64 (p0_i), .int .i64 (base)].toArray w (Ret B w0 fun H' M' v => H = H' ∧ M = M' ∧ .string (r) = v) := by
  unfold m_internal_strconv_FormatUint at hm
  refine enter Proofs.Tryd.func45 rfl rfl rfl ht ?_
  refine C_seq ?_
  refine C_region ?_
  refine W_assign rfl rfl rfl ?_
  refine W_end ?_
  refine E_then ?_
  refine C_seq ?_
  refine C_seq ?_
  refine C_region ?_
  refine W_move rfl rfl rfl ?_
  refine W_bin rfl rfl rfl rfl rfl ?_
  refine W_end ?_
  refine E_then ?_
  refine C_cond (b := decide (base = 10)) rfl (fun hb101 => ?_) (fun hb101 => ?_)
  · have hm := ite_t' hb101 hm
    refine C_seq ?_
    refine C_seq ?_
    refine C_region ?_
    refine W_move rfl rfl rfl ?_
    refine W_bin rfl rfl rfl rfl rfl ?_
    refine W_end ?_
    refine E_then ?_
    refine C_cond (b := decide (p0_i < 100)) rfl (fun hb102 => ?_) (fun hb102 => ?_)
    · have hm := ite_t' hb102 hm
      refine C_seq ?_
      refine C_region ?_
      refine W_move rfl rfl rfl ?_
      refine W_convInt rfl rfl Proofs.Tryd.runUnderlying42 Proofs.Tryd.runUnderlying3 rfl ?_
      cases hm
    · have hm := ite_f' hb102 hm
      refine C_skip ?_
      refine E_then ?_
      refine C_seq ?_
      refine C_region ?_
      refine W_allocArr (α := U8) (z := .agg ((List.replicate 24 (0 : Int)).map (Value.int .u8)).toArray) (cs := (List.replicate 24 (0 : Int)).map (Value.int .u8)) (l := List.replicate 24 (⟨0⟩ : U8)) (n := 24) rfl rfl (fun _ => by kernel_rfl) (by kernel_rfl) (RdC.zeros _ _) (by kernel_rfl) rfl ?_
      intro v103 hr104
      have hl105 : (List.replicate 24 (⟨0⟩ : U8)).length = 24 := by first | rfl | (simp only [List.length_set, List.length_replicate, *])
      refine W_end ?_
      refine E_then ?_
      refine C_seq ?_
      refine C_region ?_
      refine W_move rfl rfl rfl ?_
      obtain ⟨r106, hc107, hm⟩ := bind_some hm
      refine W_call Proofs.Tryd.call58 rfl rfl rfl (fun w ht => by have h := m_internal_strconv_numDigits_c (hm := hc107)  ht; exact h) ?_
      rintro _ _ _ ⟨rfl, rfl, rfl⟩
      refine W_assign rfl rfl rfl ?_
      refine W_end ?_
      refine E_then ?_
      refine C_seq ?_
      cases hm
  · have hm := ite_f' hb101 hm
    refine C_skip ?_
    refine E_then ?_
    refine C_seq ?_
    refine C_region ?_
    refine W_move rfl rfl rfl ?_
    refine W_move rfl rfl rfl ?_
    obtain ⟨r108, hc109, hm⟩ := bind_some hm
    refine W_call Proofs.Tryd.call60 rfl rfl rfl (fun w ht => by have h := m_internal_strconv_formatBits_c (hm := hc109) RdS.nil ht; exact h) ?_
    rintro _ _ _ ⟨rfl, v110, xs111, rfl, rfl, h112⟩
    have h112 := h112 H
    refine W_move rfl rfl rfl ?_
    refine W_extract rfl rfl rfl rfl ?_
    refine W_extract rfl rfl rfl rfl ?_
    refine W_assign rfl rfl rfl ?_
    refine W_assign rfl rfl rfl ?_
    refine W_end ?_
    refine E_then ?_
    refine C_seq ?_
    refine C_region ?_
    refine W_move rfl rfl rfl ?_
    refine W_assign rfl rfl rfl ?_
    refine W_end ?_
    refine E_then ?_
    refine C_ret ?_
    obtain rfl := Option.some.inj hm
    refine E_drop (List.Sublist.cons _ (List.Sublist.refl _)) ?_
    refine E_weak (Hp.le_refl _) ?_
    exact end1 rfl rfl ⟨rfl, rfl, rfl⟩

theorem m_strconv_FormatUint_c {B : Nat} {w0 w : World} [Tabs B w0] {H : Hp} {M : List Res} {p0_i : Int} {base : Int} {r : ByteArray} (hm : m_strconv_FormatUint p0_i base = some r) (ht : St B w0 H (M) w) :
    Calls Proofs.Tryd.prog 32 [.int .u64 (p0_i), .int .i64 (base)].toArray w (Ret B w0 fun H' M' v => H = H' ∧ M = M' ∧ .string (r) = v) := by
  unfold m_strconv_FormatUint at hm
  refine enter Proofs.Tryd.func32 rfl rfl rfl ht ?_
  refine C_seq ?_
  refine C_region ?_
  refine W_assign rfl rfl rfl ?_
  refine W_end ?_
  refine E_then ?_
  refine C_seq ?_
  refine C_region ?_
  refine W_move rfl rfl rfl ?_
  refine W_move rfl rfl rfl ?_
  obtain ⟨r101, hc102, hm⟩ := bind_some hm
  refine W_call Proofs.Tryd.call45 rfl rfl rfl (fun w ht => by have h := m_internal_strconv_FormatUint_c (hm := hc102)  ht; exact h) ?_
  rintro _ _ _ ⟨rfl, rfl, rfl⟩
  refine W_assign rfl rfl rfl ?_
  refine W_end ?_
  refine E_then ?_
  refine C_ret ?_
  obtain rfl := Option.some.inj hm
  refine E_weak (Hp.le_refl _) ?_
  exact end1 rfl rfl ⟨rfl, rfl, rfl⟩

theorem m_archive_Archive_Text_c {B : Nat} {w0 w : World} [Tabs B w0] {H : Hp} {M : List Res} {p0_a : S_archive_Archive} {b0 : Nat} {v0 : Value} {xs0 : List Value} {r : ByteArray} (hm : m_archive_Archive_Text p0_a = some r) (h0 : Rw H v0 xs0 p0_a.all_) (ht : St B w0 H (.obj b0 (.cells [v0].toArray 51 (0, 0)) :: .row v0 30 (Rep.sz S_api_Event) p0_a.all_.length xs0 :: M) w) :
    Calls Proofs.Tryd.prog 17 [.pointer (some ⟨b0, 0, none⟩)].toArray w (Ret B w0 fun H' M' v => H = H' ∧ .obj b0 (.cells [v0].toArray 51 (0, 0)) :: .row v0 30 (Rep.sz S_api_Event) p0_a.all_.length xs0 :: M = M' ∧ .string (r) = v) := by
  unfold m_archive_Archive_Text at hm
  refine enter Proofs.Tryd.func17 rfl rfl rfl ht ?_
  refine C_seq ?_
  refine C_region ?_
  refine W_assign rfl rfl rfl ?_
  refine W_end ?_
  refine E_then ?_
  refine C_seq ?_
  refine C_region ?_
  refine W_assign rfl rfl rfl ?_
  refine W_assign rfl rfl rfl ?_
  refine W_end ?_
  refine E_then ?_
  refine C_seq ?_
  refine C_seq ?_
  refine C_region ?_
  refine W_move rfl rfl rfl ?_
  refine W_nilCheck rfl rfl rfl ?_
  refine W_field (o := 0) rfl rfl Proofs.Tryd.runUnderlying51 rfl Proofs.Tryd.sizeOf22 rfl rfl rfl ?_
  refine W_load rfl rfl Proofs.Tryd.isAgg22 rfl (own_at (List.mem_cons_self ..) rfl) ?_
  refine W_lenO (List.mem_cons_of_mem _ (List.mem_cons_self ..)) rfl rfl Proofs.Tryd.runUnderlying22 rfl ?_
  refine W_move rfl rfl rfl ?_
  refine W_end ?_
  refine E_then ?_
  refine C_block ?_
  refine C_rowMax (List.mem_cons_of_mem _ (List.mem_cons_self ..)) (fun hmx138 => ?_)
  refine C_keep (L' := [(3, .string (⟨#[]⟩)), (4, .int .u64 (14695981039346656037)), (11, v0), (12, .int .i64 ((p0_a.all_.length : Int))), (13, .int .i64 (((0 : Nat) : Int)))]) ⟨rfl, rfl, rfl, rfl, rfl, trivial⟩ (List.Perm.refl _) ?_
  refine C_loop (fun n H' M' L' => ∃ (k101 : Nat) (zs140' : List S_api_Event), ∃ s130 : ByteArray, ∃ n131 : Int, (p0_a.all_).drop k101 = zs140' ∧ zs140'.length = n ∧ forI (fun k y s134 n => m_archive_Archive_Text_b1 k y s134.1 s134.2 n) (fun s134 => some s134.1) k101 zs140' (s130, n131) = some r ∧ H.le H' ∧ .obj b0 (.cells [v0].toArray 51 (0, 0)) :: .row v0 30 (Rep.sz S_api_Event) p0_a.all_.length xs0 :: M = M' ∧ [(3, .string (s130)), (4, .int .u64 (n131)), (11, v0), (12, .int .i64 ((p0_a.all_.length : Int))), (13, .int .i64 ((k101 : Int)))] = L') _ ⟨0, _, ⟨#[]⟩, 14695981039346656037, rfl, rfl, hm, (Hp.le_refl _), rfl, rfl⟩ ?_
  rintro _ H132 _ _ ⟨k101, zs140', s130, n131, hd142, rfl, hm, hle133, rfl, rfl⟩
  refine C_seq ?_
  refine C_region ?_
  refine W_bin rfl rfl rfl rfl rfl ?_
  refine W_end (E_then ?_)
  refine C_seq ?_
  refine C_cond (b := decide ((k101 : Int) < (p0_a.all_.length : Int))) rfl (fun hb144 => ?_) (fun hb144 => ?_)
  · obtain ⟨y139, zs140, rfl, hy141, hd143⟩ := rng_t hd142 hb144
    have hm : m_archive_Archive_Text_b1 k101 y139 s130 n131 (forI (fun k y s134 n => m_archive_Archive_Text_b1 k y s134.1 s134.2 n) (fun s134 => some s134.1) (k101 + 1) zs140) = some r := hm
    generalize hn136 : forI (fun k y s134 n => m_archive_Archive_Text_b1 k y s134.1 s134.2 n) (fun s134 => some s134.1) (k101 + 1) zs140 = nx135 at hm
    unfold m_archive_Archive_Text_b1 at hm
    refine C_skip (E_then ?_)
    refine C_seq ?_
    refine C_block ?_
    refine C_seq ?_
    refine C_region ?_
    refine W_indexO (List.mem_cons_of_mem _ (List.mem_cons_self ..)) rfl rfl Proofs.Tryd.runUnderlying22 Proofs.Tryd.sizeOf30 rfl rfl (Int.natCast_nonneg _) (List.getElem?_eq_some_iff.1 hy141).1 ?_
    obtain ⟨_, rfl, hg145⟩ := (h0).elem hy141
    refine W_loadAgg (cs := [.int .i64 (y139.Time), .string (y139.Kind), .string (y139.Name), .int .i64 (y139.Value)]) rfl rfl Proofs.Tryd.isAgg30 Proofs.Tryd.sizeOf30 rfl (row_cells (List.mem_cons_of_mem _ (List.mem_cons_self ..)) hg145) rfl ?_
    refine W_alloc (cs := [.int .i64 (0), .string (⟨#[]⟩), .string (⟨#[]⟩), .int .i64 (0)]) rfl rfl Proofs.Tryd.zeroValue30 rfl (fun b146 => ?_)
    refine W_store (cs := [.int .i64 (y139.Time), .string (y139.Kind), .string (y139.Name), .int .i64 (y139.Value)]) (out := [.int .i64 (y139.Time), .string (y139.Kind), .string (y139.Name), .int .i64 (y139.Value)]) rfl Proofs.Tryd.sizeOf30 rfl rfl rfl rfl rfl (all_cons rfl (all_cons rfl (all_cons rfl (all_cons rfl all_nil)))) (over_all rfl) ?_
    refine W_end ?_
    refine E_then ?_
    refine C_seq ?_
    refine C_region ?_
    refine W_loadAgg rfl rfl Proofs.Tryd.isAgg30 Proofs.Tryd.sizeOf30 rfl (own_all (List.mem_cons_self ..)) rfl ?_
    obtain ⟨r147, hc148, hm⟩ := bind_some hm
    refine W_call Proofs.Tryd.call31 rfl rfl rfl (fun w ht => by have h := m_archive_line_c (hm := hc148)  ht; exact h) ?_
    rintro _ _ _ ⟨rfl, rfl, rfl⟩
    refine W_assign rfl rfl rfl ?_
    refine W_end ?_
    refine E_then ?_
    refine C_seq ?_
    refine C_region ?_
    refine W_move rfl rfl rfl ?_
    refine W_move rfl rfl rfl ?_
    obtain ⟨r149, hc150, hm⟩ := bind_some hm
    refine W_call Proofs.Tryd.call30 rfl rfl rfl (fun w ht => by have h := m_archive_digest_c (hm := hc150)  ht; exact h) ?_
    rintro _ _ _ ⟨rfl, rfl, rfl⟩
    refine W_assign rfl rfl rfl ?_
    refine W_end ?_
    refine E_then ?_
    refine C_region ?_
    refine W_move rfl rfl rfl ?_
    refine W_move rfl rfl rfl ?_
    obtain ⟨hq151, hm⟩ := need_some hm
    refine W_addStr rfl rfl rfl rfl hq151 ?_
    refine W_move rfl rfl rfl ?_
    obtain ⟨r152, hc153, hm⟩ := bind_some hm
    refine W_call Proofs.Tryd.call32 rfl rfl rfl (fun w ht => by have h := m_strconv_FormatUint_c (hm := hc153)  ht; exact h) ?_
    rintro _ _ _ ⟨rfl, rfl, rfl⟩
    obtain ⟨hq154, hm⟩ := need_some hm
    refine W_addStr rfl rfl rfl rfl hq154 ?_
    obtain ⟨hq155, hm⟩ := need_some hm
    refine W_addStr rfl rfl rfl rfl hq155 ?_
    obtain ⟨hq156, hm⟩ := need_some hm
    refine W_addStr rfl rfl rfl rfl hq156 ?_
    refine W_assign rfl rfl rfl ?_
    refine W_end ?_
    refine E_normal_block ?_
    refine E_then ?_
    refine C_region ?_
    refine W_bin rfl rfl rfl rfl rfl ?_
    refine W_move rfl rfl rfl ?_
    refine W_end ?_
    refine E_drop (List.Sublist.cons _ (List.Sublist.refl _)) ?_
    exact E_keepJ (E_back (Nat.lt_succ_self _) ⟨k101 + 1, zs140, s130 ++ (((r147 ++ (⟨#[32]⟩)) ++ r152) ++ (⟨#[10]⟩)), r149, hd143, rfl, (by rw [hn136]; exact hm), hle133, rfl, rfl⟩) (List.Perm.refl _) ⟨rfl, rfl, rfl, rfl, (congrArg (fun z => some (Value.int .i64 z)) (i64_succ hy141 hmx138)), trivial⟩
  · obtain rfl := rng_f hd142 hb144
    have hm : (some s130) = some r := hm
    refine C_exit (E_exit_then ?_)
    refine E_exit_then ?_
    refine E_exit_hit ?_
    refine E_then ?_
    refine C_seq ?_
    refine C_region ?_
    refine W_move rfl rfl rfl ?_
    refine W_assign rfl rfl rfl ?_
    refine W_end ?_
    refine E_then ?_
    refine C_ret ?_
    obtain rfl := Option.some.inj hm
    refine E_weak hle133 ?_
    exact end1 rfl rfl ⟨rfl, rfl, rfl⟩

theorem m_internal_stringslite_HasPrefix_c {B : Nat} {w0 w : World} [Tabs B w0] {H : Hp} {M : List Res} {p0_s : ByteArray} {p1_prefix : ByteArray} {r : Bool} (hm : m_internal_stringslite_HasPrefix p0_s p1_prefix = some r) (ht : St B w0 H (M) w) :
    Calls Proofs.Tryd.prog 39 [.string (p0_s), .string (p1_prefix)].toArray w (Ret B w0 fun H' M' v => H = H' ∧ M = M' ∧ .bool (r) = v) := by
  unfold m_internal_stringslite_HasPrefix at hm
  refine enter Proofs.Tryd.func39 rfl rfl rfl ht ?_
  refine C_seq ?_
  refine C_region ?_
  refine W_assign rfl rfl rfl ?_
  refine W_end ?_
  refine E_then ?_
  refine C_seq ?_
  refine C_region ?_
  refine W_move rfl rfl rfl ?_
  refine W_lenStr rfl rfl Proofs.Tryd.runUnderlying9 rfl ?_
  refine W_move rfl rfl rfl ?_
  refine W_lenStr rfl rfl Proofs.Tryd.runUnderlying9 rfl ?_
  refine W_bin rfl rfl rfl rfl rfl ?_
  refine W_move rfl rfl rfl ?_
  cases hb101 : (decide ((p1_prefix.size : Int) ≤ (p0_s.size : Int)))
  · have hm := ite_f' hb101 hm
    refine W_no rfl rfl rfl ?_
    refine W_no rfl rfl rfl ?_
    refine W_no rfl rfl rfl ?_
    refine W_no rfl rfl rfl ?_
    refine W_no rfl rfl rfl ?_
    refine W_no rfl rfl rfl ?_
    refine W_pick rfl rfl rfl rfl ?_
    refine W_assign rfl rfl rfl ?_
    refine W_end ?_
    refine E_then ?_
    refine C_ret ?_
    obtain rfl := Option.some.inj hm
    refine E_weak (Hp.le_refl _) ?_
    exact end1 rfl rfl ⟨rfl, rfl, rfl⟩
  · have hm := ite_t' hb101 hm
    refine W_move rfl rfl rfl ?_
    refine W_move rfl rfl rfl ?_
    refine W_lenStr rfl rfl Proofs.Tryd.runUnderlying9 rfl ?_
    obtain ⟨hz102, hm⟩ := need_some hm
    refine W_sliceStr (l := 0) (h := ((p1_prefix.size : Int) : Int).toNat) rfl rfl Proofs.Tryd.runUnderlying9 rfl (.inr ⟨_, _, _, rfl, rfl, by omega, by omega, rfl⟩) (.inl ⟨rfl, rfl⟩) ?_
    refine W_move rfl rfl rfl ?_
    refine W_bin rfl rfl rfl rfl rfl ?_
    refine W_pick rfl rfl rfl rfl ?_
    refine W_assign rfl rfl rfl ?_
    refine W_end ?_
    refine E_then ?_
    refine C_ret ?_
    obtain rfl := Option.some.inj hm
    refine E_weak (Hp.le_refl _) ?_
    exact end1 rfl rfl ⟨rfl, rfl, rfl⟩

theorem m_strings_HasPrefix_c {B : Nat} {w0 w : World} [Tabs B w0] {H : Hp} {M : List Res} {p0_s : ByteArray} {p1_prefix : ByteArray} {r : Bool} (hm : m_strings_HasPrefix p0_s p1_prefix = some r) (ht : St B w0 H (M) w) :
    Calls Proofs.Tryd.prog 23 [.string (p0_s), .string (p1_prefix)].toArray w (Ret B w0 fun H' M' v => H = H' ∧ M = M' ∧ .bool (r) = v) := by
  unfold m_strings_HasPrefix at hm
  refine enter Proofs.Tryd.func23 rfl rfl rfl ht ?_
  refine C_seq ?_
  refine C_region ?_
  refine W_assign rfl rfl rfl ?_
  refine W_end ?_
  refine E_then ?_
  refine C_seq ?_
  refine C_region ?_
  refine W_move rfl rfl rfl ?_
  refine W_move rfl rfl rfl ?_
  obtain ⟨r101, hc102, hm⟩ := bind_some hm
  refine W_call Proofs.Tryd.call39 rfl rfl rfl (fun w ht => by have h := m_internal_stringslite_HasPrefix_c (hm := hc102)  ht; exact h) ?_
  rintro _ _ _ ⟨rfl, rfl, rfl⟩
  refine W_assign rfl rfl rfl ?_
  refine W_end ?_
  refine E_then ?_
  refine C_ret ?_
  obtain rfl := Option.some.inj hm
  refine E_weak (Hp.le_refl _) ?_
  exact end1 rfl rfl ⟨rfl, rfl, rfl⟩

theorem m_gridhallkeep4_archiveFact_c {B : Nat} {w0 w : World} [Tabs B w0] {H : Hp} {M : List Res} {r : Bool} (hm : m_gridhallkeep4_archiveFact = some r) (ht : St B w0 H (M) w) :
    Calls Proofs.Tryd.prog 8 [].toArray w (Ret B w0 fun H' M' v => H = H' ∧ M = M' ∧ .bool (r) = v) := by
  unfold m_gridhallkeep4_archiveFact at hm
  refine enter Proofs.Tryd.func8 rfl rfl rfl ht ?_
  refine C_seq ?_
  refine C_region ?_
  refine W_assign rfl rfl rfl ?_
  refine W_end ?_
  refine E_then ?_
  refine C_seq ?_
  refine C_region ?_
  refine W_call Proofs.Tryd.call22 rfl rfl rfl (fun w ht => by have h := m_archive_New_c (hm := (rfl : m_archive_New = _))  ht; exact h) ?_
  rintro _ H112 _ (⟨hn106, hle108, rfl, rfl⟩ | ⟨sp101, hn109, hle111, b102, v103, xs104, rfl, rfl, h105⟩)
  · have hm := optC_n hn106 hm
    refine W_assign rfl rfl rfl ?_
    refine W_end ?_
    refine E_then ?_
    refine C_seq ?_
    refine C_seq ?_
    refine C_region ?_
    refine W_move rfl rfl rfl ?_
    refine W_ptrNil rfl rfl Proofs.Tryd.runUnderlying23 rfl rfl ?_
    refine W_end ?_
    refine E_then ?_
    refine C_cond (b := true) rfl (fun _ => ?_) (fun hb => Bool.noConfusion hb)
    refine C_seq ?_
    refine C_region ?_
    refine W_assign rfl rfl rfl ?_
    refine W_end ?_
    refine E_then ?_
    refine C_ret ?_
    refine E_ret_then ?_
    obtain rfl := Option.some.inj hm
    refine E_weak hle108 ?_
    exact end1 rfl rfl ⟨rfl, rfl, rfl⟩
  · have hm := optC_s hn109 hm
    refine W_assign rfl rfl rfl ?_
    refine W_end ?_
    refine E_then ?_
    refine C_seq ?_
    refine C_seq ?_
    refine C_region ?_
    refine W_move rfl rfl rfl ?_
    refine W_ptrNil rfl rfl Proofs.Tryd.runUnderlying23 rfl rfl ?_
    refine W_end ?_
    refine E_then ?_
    refine C_cond (b := false) rfl (fun hb => Bool.noConfusion hb) (fun _ => ?_)
    refine C_skip ?_
    refine E_then ?_
    refine C_seq ?_
    refine C_region ?_
    refine W_move rfl rfl rfl ?_
    refine W_build (css := [[.string (⟨#[111, 112, 101, 110]⟩)], [.string (⟨#[83]⟩)]]) (zs := [.int .i64 (0), .string (⟨#[]⟩), .string (⟨#[]⟩), .int .i64 (0)]) (out := [.int .i64 (0), .string (⟨#[111, 112, 101, 110]⟩), .string (⟨#[83]⟩), .int .i64 (0)]) (places := [(0, 1), (1, 1), (2, 1), (3, 1)]) rfl rfl rfl ⟨rfl, rfl, trivial⟩ Proofs.Tryd.zeroValue30 rfl Proofs.Tryd.runUnderlying30 (fun w => by kernel_rfl) rfl ?_
    obtain ⟨r113, hc114, hm⟩ := bind_some hm
    refine W_call Proofs.Tryd.call18 rfl rfl rfl (fun w ht => by have h := m_archive_Archive_Append_c (hm := hc114) h105 ht; exact h) ?_
    rintro _ _ _ ⟨rfl, v116, xs117, rfl, rfl, h118⟩
    have h118 := h118 H112
    refine W_move rfl rfl rfl ?_
    refine W_extract rfl rfl rfl rfl ?_
    refine W_extract rfl rfl rfl rfl ?_
    refine W_assign rfl rfl rfl ?_
    refine W_assign rfl rfl rfl ?_
    refine W_end ?_
    refine E_then ?_
    refine C_seq ?_
    refine C_region ?_
    refine W_move rfl rfl rfl ?_
    refine W_bin rfl rfl rfl rfl rfl ?_
    refine W_move rfl rfl rfl ?_
    cases hb119 : (decide (r113.2.1 = 0))
    · have hm := ite_f' hb119 hm
      refine W_no rfl rfl rfl ?_
      refine W_no rfl rfl rfl ?_
      refine W_pick rfl rfl rfl rfl ?_
      refine W_move rfl rfl rfl ?_
      refine W_no rfl rfl rfl ?_
      refine W_no rfl rfl rfl ?_
      refine W_no rfl rfl rfl ?_
      refine W_pick rfl rfl rfl rfl ?_
      refine W_assign rfl rfl rfl ?_
      refine W_end ?_
      refine E_then ?_
      refine C_ret ?_
      obtain rfl := Option.some.inj hm
      refine E_drop (List.Sublist.cons _ (List.Sublist.cons _ (List.Sublist.refl _))) ?_
      refine E_weak hle111 ?_
      exact end1 rfl rfl ⟨rfl, rfl, rfl⟩
    · have hm := ite_t' hb119 hm
      refine W_move rfl rfl rfl ?_
      refine W_bin rfl rfl rfl rfl rfl ?_
      refine W_pick rfl rfl rfl rfl ?_
      refine W_move rfl rfl rfl ?_
      cases hb120 : (decide (r113.1 = 1))
      · have hm := ite_f' hb120 hm
        refine W_no rfl rfl rfl ?_
        refine W_no rfl rfl rfl ?_
        refine W_no rfl rfl rfl ?_
        refine W_pick rfl rfl rfl rfl ?_
        refine W_assign rfl rfl rfl ?_
        refine W_end ?_
        refine E_then ?_
        refine C_ret ?_
        obtain rfl := Option.some.inj hm
        refine E_drop (List.Sublist.cons _ (List.Sublist.cons _ (List.Sublist.refl _))) ?_
        refine E_weak hle111 ?_
        exact end1 rfl rfl ⟨rfl, rfl, rfl⟩
      · have hm := ite_t' hb120 hm
        refine W_move rfl rfl rfl ?_
        obtain ⟨r121, hc122, hm⟩ := bind_some hm
        refine W_call Proofs.Tryd.call17 rfl rfl rfl (fun w ht => by have h := m_archive_Archive_Text_c (hm := hc122) h118 ht; exact h) ?_
        rintro _ _ _ ⟨rfl, rfl, rfl⟩
        obtain ⟨r123, hc124, hm⟩ := bind_some hm
        refine W_call Proofs.Tryd.call23 rfl rfl rfl (fun w ht => by have h := m_strings_HasPrefix_c (hm := hc124)  ht; exact h) ?_
        rintro _ _ _ ⟨rfl, rfl, rfl⟩
        refine W_pick rfl rfl rfl rfl ?_
        refine W_assign rfl rfl rfl ?_
        refine W_end ?_
        refine E_then ?_
        refine C_ret ?_
        obtain rfl := Option.some.inj hm
        refine E_drop (List.Sublist.cons _ (List.Sublist.cons _ (List.Sublist.refl _))) ?_
        refine E_weak hle111 ?_
        exact end1 rfl rfl ⟨rfl, rfl, rfl⟩

theorem m_archive_Archive_Between_c {B : Nat} {w0 w : World} [Tabs B w0] {H : Hp} {M : List Res} {p0_a : S_archive_Archive} {p1_from : Int} {to : Int} {b0 : Nat} {v0 : Value} {xs0 : List Value} {r : (List S_api_Event)} (hm : m_archive_Archive_Between p0_a p1_from to = some r) (h0 : Rw H v0 xs0 p0_a.all_) (ht : St B w0 H (.obj b0 (.cells [v0].toArray 51 (0, 0)) :: .row v0 30 (Rep.sz S_api_Event) p0_a.all_.length xs0 :: M) w) :
    Calls Proofs.Tryd.prog 10 [.pointer (some ⟨b0, 0, none⟩), .int .i64 (p1_from), .int .i64 (to)].toArray w (Ret B w0 fun H' M' v => H = H' ∧ ∃ qv0 : Value, ∃ qxs0 : List Value, .row qv0 30 (Rep.sz S_api_Event) r.length qxs0 :: .obj b0 (.cells [v0].toArray 51 (0, 0)) :: .row v0 30 (Rep.sz S_api_Event) p0_a.all_.length xs0 :: M = M' ∧ qv0 = v ∧ RwF qv0 qxs0 r) := by
  unfold m_archive_Archive_Between at hm
  refine enter Proofs.Tryd.func10 rfl rfl rfl ht ?_
  refine C_seq ?_
  refine C_region ?_
  refine W_assign rfl rfl rfl ?_
  refine W_end ?_
  refine E_then ?_
  refine C_seq ?_
  refine C_region ?_
  refine W_assign rfl rfl rfl ?_
  refine W_end ?_
  refine E_then ?_
  refine C_seq ?_
  refine C_seq ?_
  refine C_region ?_
  refine W_move rfl rfl rfl ?_
  refine W_nilCheck rfl rfl rfl ?_
  refine W_field (o := 0) rfl rfl Proofs.Tryd.runUnderlying51 rfl Proofs.Tryd.sizeOf22 rfl rfl rfl ?_
  refine W_load rfl rfl Proofs.Tryd.isAgg22 rfl (own_at (List.mem_cons_self ..) rfl) ?_
  refine W_lenO (List.mem_cons_of_mem _ (List.mem_cons_self ..)) rfl rfl Proofs.Tryd.runUnderlying22 rfl ?_
  refine W_move rfl rfl rfl ?_
  refine W_end ?_
  refine E_then ?_
  refine C_block ?_
  refine C_rowMax (List.mem_cons_of_mem _ (List.mem_cons_self ..)) (fun hmx206 => ?_)
  refine C_nilRow 30 (Rep.sz S_api_Event) ?_
  refine C_keep (L' := [(1, .int .i64 (p1_from)), (2, .int .i64 (to)), (7, (.slice none 0 0)), (13, v0), (14, .int .i64 ((p0_a.all_.length : Int))), (15, .int .i64 (((0 : Nat) : Int)))]) ⟨rfl, rfl, rfl, rfl, rfl, rfl, trivial⟩ (List.Perm.refl _) ?_
  refine C_loop (fun n H' M' L' => ∃ (k101 : Nat) (zs208' : List S_api_Event), ∃ l198 : List S_api_Event, ∃ v196 : Value, ∃ xs197 : List Value, (p0_a.all_).drop k101 = zs208' ∧ zs208'.length = n ∧ forI (fun k y s202 n => m_archive_Archive_Between_b3 p1_from to k y s202 n) (fun s202 => some s202) k101 zs208' l198 = some r ∧ Rw H' v196 xs197 l198 ∧ H.le H' ∧ .row v196 30 (Rep.sz S_api_Event) l198.length xs197 :: .obj b0 (.cells [v0].toArray 51 (0, 0)) :: .row v0 30 (Rep.sz S_api_Event) p0_a.all_.length xs0 :: M = M' ∧ [(1, .int .i64 (p1_from)), (2, .int .i64 (to)), (7, v196), (13, v0), (14, .int .i64 ((p0_a.all_.length : Int))), (15, .int .i64 ((k101 : Int)))] = L') _ ⟨0, _, ([] : List S_api_Event), (.slice none 0 0), ([]), rfl, rfl, hm, Rw.nil, (Hp.le_refl _), rfl, rfl⟩ ?_
  rintro _ H200 _ _ ⟨k101, zs208', l198, v196, xs197, hd210, rfl, hm, hr199, hle201, rfl, rfl⟩
  refine C_seq ?_
  refine C_region ?_
  refine W_bin rfl rfl rfl rfl rfl ?_
  refine W_end (E_then ?_)
  refine C_seq ?_
  refine C_cond (b := decide ((k101 : Int) < (p0_a.all_.length : Int))) rfl (fun hb212 => ?_) (fun hb212 => ?_)
  · obtain ⟨y207, zs208, rfl, hy209, hd211⟩ := rng_t hd210 hb212
    have hm : m_archive_Archive_Between_b3 p1_from to k101 y207 l198 (forI (fun k y s202 n => m_archive_Archive_Between_b3 p1_from to k y s202 n) (fun s202 => some s202) (k101 + 1) zs208) = some r := hm
    generalize hn204 : forI (fun k y s202 n => m_archive_Archive_Between_b3 p1_from to k y s202 n) (fun s202 => some s202) (k101 + 1) zs208 = nx203 at hm
    unfold m_archive_Archive_Between_b3 at hm
    refine C_skip (E_then ?_)
    refine C_seq_join (fun H' M' L' => ∃ l232 : List S_api_Event, ∃ v230 : Value, ∃ xs231 : List Value, m_archive_Archive_Between_b4 nx203 l232 = some r ∧ Rw H' v230 xs231 l232 ∧ H200.le H' ∧ .row v230 30 (Rep.sz S_api_Event) l232.length xs231 :: .obj b0 (.cells [v0].toArray 51 (0, 0)) :: .row v0 30 (Rep.sz S_api_Event) p0_a.all_.length xs0 :: M = M' ∧ [(1, .int .i64 (p1_from)), (2, .int .i64 (to)), (7, v230), (13, v0), (14, .int .i64 ((p0_a.all_.length : Int))), (15, .int .i64 ((k101 : Int)))] = L') ?_ (fun J236 => ?_)
    · rintro H234 _ _ ⟨l232, v230, xs231, hm, hr233, hle235, rfl, rfl⟩
      unfold m_archive_Archive_Between_b4 at hm
      refine C_region ?_
      refine W_bin rfl rfl rfl rfl rfl ?_
      refine W_move rfl rfl rfl ?_
      refine W_end ?_
      exact E_keepJ (E_back (Nat.lt_succ_self _) ⟨k101 + 1, zs208, l232, v230, xs231, hd211, rfl, (by rw [hn204]; exact hm), hr233, (Hp.le_trans hle201 hle235), rfl, rfl⟩) (List.Perm.refl _) ⟨rfl, rfl, rfl, rfl, rfl, (congrArg (fun z => some (Value.int .i64 z)) (i64_succ hy209 hmx206)), trivial⟩
    · refine C_block ?_
      refine C_seq ?_
      refine C_region ?_
      refine W_indexO (List.mem_cons_of_mem _ (List.mem_cons_of_mem _ (List.mem_cons_self ..))) rfl rfl Proofs.Tryd.runUnderlying22 Proofs.Tryd.sizeOf30 rfl rfl (Int.natCast_nonneg _) (List.getElem?_eq_some_iff.1 hy209).1 ?_
      obtain ⟨_, rfl, hg237⟩ := (h0).elem hy209
      refine W_loadAgg (cs := [.int .i64 (y207.Time), .string (y207.Kind), .string (y207.Name), .int .i64 (y207.Value)]) rfl rfl Proofs.Tryd.isAgg30 Proofs.Tryd.sizeOf30 rfl (row_cells (List.mem_cons_of_mem _ (List.mem_cons_of_mem _ (List.mem_cons_self ..))) hg237) rfl ?_
      refine W_alloc (cs := [.int .i64 (0), .string (⟨#[]⟩), .string (⟨#[]⟩), .int .i64 (0)]) rfl rfl Proofs.Tryd.zeroValue30 rfl (fun b238 => ?_)
      refine W_store (cs := [.int .i64 (y207.Time), .string (y207.Kind), .string (y207.Name), .int .i64 (y207.Value)]) (out := [.int .i64 (y207.Time), .string (y207.Kind), .string (y207.Name), .int .i64 (y207.Value)]) rfl Proofs.Tryd.sizeOf30 rfl rfl rfl rfl rfl (all_cons rfl (all_cons rfl (all_cons rfl (all_cons rfl all_nil)))) (over_all rfl) ?_
      refine W_end ?_
      refine E_then ?_
      refine C_seq_join (fun H' M' L' => H200 = H' ∧ .obj b238 (.cells [.int .i64 (y207.Time), .string (y207.Kind), .string (y207.Name), .int .i64 (y207.Value)].toArray 30 (0, 0)) :: .row v196 30 (Rep.sz S_api_Event) l198.length xs197 :: .obj b0 (.cells [v0].toArray 51 (0, 0)) :: .row v0 30 (Rep.sz S_api_Event) p0_a.all_.length xs0 :: M = M' ∧ [(1, .int .i64 (p1_from)), (2, .int .i64 (to)), (7, v196), (9, .pointer (some ⟨b238, 0, none⟩)), (13, v0), (14, .int .i64 ((p0_a.all_.length : Int))), (15, .int .i64 ((k101 : Int))), (28, .bool ((decide (p1_from ≤ y207.Time)) && (decide (y207.Time < to))))] = L') ?_ (fun J240 => ?_)
      · rintro _ _ _ ⟨rfl, rfl, rfl⟩
        refine C_cond (b := (decide (p1_from ≤ y207.Time)) && (decide (y207.Time < to))) rfl (fun hb241 => ?_) (fun hb241 => ?_)
        · have hm := ite_t' hb241 hm
          refine C_region ?_
          refine W_move rfl rfl rfl ?_
          refine W_loadAgg rfl rfl Proofs.Tryd.isAgg30 Proofs.Tryd.sizeOf30 rfl (own_all (List.mem_cons_self ..)) rfl ?_
          refine W_buildSlice (α := S_api_Event) (css := [[.int .i64 (y207.Time), .string (y207.Kind), .string (y207.Name), .int .i64 (y207.Value)]]) (zs := [.int .i64 (0), .string (⟨#[]⟩), .string (⟨#[]⟩), .int .i64 (0)]) (out := [.int .i64 (y207.Time), .string (y207.Kind), .string (y207.Name), .int .i64 (y207.Value)]) (ys := [y207]) rfl rfl rfl ⟨rfl, trivial⟩ Proofs.Tryd.runUnderlying22 Proofs.Tryd.sizeOf30 rfl Proofs.Tryd.zeroValue30 (by kernel_rfl) rfl rfl rfl rfl ⟨[.int .i64 (y207.Time), .string (y207.Kind), .string (y207.Name), .int .i64 (y207.Value)], [], rfl, rfl, rfl⟩ rfl ?_
          intro b242 v243 H244 hv245 hle246 h247
          have hc248 : Value.cap' v243 = ([y207]).length := by rw [hv245]; rfl
          obtain ⟨hz249, hm⟩ := need_some hm
          refine W_perm (List.Perm.swap _ _ _) ?_
          refine W_appendO (α := S_api_Event) (l := l198) (ys := [y207]) rfl rfl Proofs.Tryd.underlying22 ⟨_, rfl, rfl, rfl, rfl⟩ rfl rfl rfl rfl rfl (hr199.mono hle246) h247 hz249 ?_
          intro v250 xs251 hr252
          refine W_assign rfl rfl rfl ?_
          refine W_end ?_
          refine E_normal_block ?_
          refine E_drop (List.Sublist.cons_cons _ (List.Sublist.cons _ (List.Sublist.refl _))) ?_
          exact E_keepJ (J236 _ _ _ ⟨(l198 ++ ([y207])), v250, xs251, hm, hr252, hle246, rfl, rfl⟩) (List.Perm.refl _) ⟨rfl, rfl, rfl, rfl, rfl, rfl, trivial⟩
        · have hm := ite_f' hb241 hm
          refine C_skip ?_
          refine E_normal_block ?_
          refine E_drop (List.Sublist.cons _ (List.Sublist.refl _)) ?_
          exact E_keepJ (J236 _ _ _ ⟨l198, v196, xs197, hm, hr199, (Hp.le_refl _), rfl, rfl⟩) (List.Perm.refl _) ⟨rfl, rfl, rfl, rfl, rfl, rfl, trivial⟩
      · refine C_region ?_
        refine W_field (o := 0) rfl rfl Proofs.Tryd.runUnderlying30 rfl Proofs.Tryd.sizeOf3 rfl rfl rfl ?_
        refine W_load rfl rfl Proofs.Tryd.isAgg3 rfl (own_at (List.mem_cons_self ..) rfl) ?_
        refine W_move rfl rfl rfl ?_
        refine W_bin rfl rfl rfl rfl rfl ?_
        refine W_move rfl rfl rfl ?_
        cases hb253 : (decide (p1_from ≤ y207.Time))
        · refine W_no rfl rfl rfl ?_
          refine W_no rfl rfl rfl ?_
          refine W_no rfl rfl rfl ?_
          refine W_no rfl rfl rfl ?_
          refine W_pick rfl rfl rfl rfl ?_
          refine W_end ?_
          exact E_keepJ (J240 _ _ _ ⟨rfl, rfl, rfl⟩) (List.Perm.refl _) ⟨rfl, rfl, rfl, rfl, rfl, rfl, rfl, (by show some (Value.bool (false)) = some (Value.bool ((decide (p1_from ≤ y207.Time)) && (decide (y207.Time < to)))); simp only [hb253, Bool.and_true, Bool.true_and, Bool.false_and, Bool.and_false, Bool.or_true, Bool.true_or, Bool.or_false, Bool.false_or, Bool.not_true, Bool.not_false]), trivial⟩
        · refine W_field (o := 0) rfl rfl Proofs.Tryd.runUnderlying30 rfl Proofs.Tryd.sizeOf3 rfl rfl rfl ?_
          refine W_load rfl rfl Proofs.Tryd.isAgg3 rfl (own_at (List.mem_cons_self ..) rfl) ?_
          refine W_move rfl rfl rfl ?_
          refine W_bin rfl rfl rfl rfl rfl ?_
          refine W_pick rfl rfl rfl rfl ?_
          refine W_end ?_
          exact E_keepJ (J240 _ _ _ ⟨rfl, rfl, rfl⟩) (List.Perm.refl _) ⟨rfl, rfl, rfl, rfl, rfl, rfl, rfl, (by show some (Value.bool (decide (y207.Time < to))) = some (Value.bool ((decide (p1_from ≤ y207.Time)) && (decide (y207.Time < to)))); simp only [hb253, Bool.and_true, Bool.true_and, Bool.false_and, Bool.and_false, Bool.or_true, Bool.true_or, Bool.or_false, Bool.false_or, Bool.not_true, Bool.not_false]), trivial⟩
  · obtain rfl := rng_f hd210 hb212
    have hm : (some l198) = some r := hm
    refine C_exit (E_exit_then ?_)
    refine E_exit_then ?_
    refine E_exit_hit ?_
    refine E_then ?_
    refine C_seq ?_
    refine C_region ?_
    refine W_move rfl rfl rfl ?_
    refine W_assign rfl rfl rfl ?_
    refine W_end ?_
    refine E_then ?_
    refine C_ret ?_
    obtain rfl := Option.some.inj hm
    refine E_weak hle201 ?_
    exact end1 rfl rfl ⟨rfl, v196, xs197, rfl, rfl, (hr199).toF⟩

theorem grow24_c {B : Nat} {w0 w : World} {H : Hp} {M : List Res} {n : Int} (hz : 0 ≤ n ∧ n * 48 ≤ 281474976710656) (ht : St B w0 H M w) :
    Calls Proofs.Tryd.prog 24 [.slice none 0 0, .int .i64 n].toArray w (Ret B w0 fun H' M' v => H = H' ∧ ∃ (v' : Value) (xs' : List Value), .row v' 30 (Rep.sz S_api_Event) ([] : List S_api_Event).length xs' :: M = M' ∧ v' = v ∧ RwF v' xs' ([] : List S_api_Event) ∧ n ≤ Value.cap' v') := by
  refine enter Proofs.Tryd.func24 rfl rfl rfl ht ?_
  have hn : IntKind.i64.wrap (n - IntKind.i64.wrap (((0 : Nat) : Int) - ((0 : Nat) : Int))) = n := by
    rw [show IntKind.i64.wrap (((0 : Nat) : Int) - ((0 : Nat) : Int)) = 0 from rfl, Int.sub_zero, i64_of (by omega) (by omega)]
  refine C_seq ?_
  refine C_region ?_
  refine W_assign rfl rfl rfl ?_
  refine W_end (E_then ?_)
  refine C_seq ?_
  refine C_seq ?_
  refine C_region ?_
  refine W_move rfl rfl rfl ?_
  refine W_bin rfl rfl rfl rfl rfl ?_
  refine W_end (E_then ?_)
  refine C_cond (b := decide (n < 0)) rfl (fun hb => absurd (of_decide_eq_true hb) (by omega)) (fun _ => ?_)
  refine C_skip (E_then ?_)
  refine C_seq_join (fun H1 M1 L1 => ∃ (v' : Value) (xs' : List Value), H = H1 ∧ .row v' 30 (Rep.sz S_api_Event) ([] : List S_api_Event).length xs' :: M = M1 ∧ [(0, v')] = L1 ∧ Rw H v' xs' ([] : List S_api_Event) ∧ n ≤ Value.cap' v') ?_ (fun J => ?_)
  · rintro _ _ _ ⟨v', xs', rfl, rfl, rfl, h, hc⟩
    refine C_seq ?_
    refine C_region ?_
    refine W_move rfl rfl rfl ?_
    refine W_assign rfl rfl rfl ?_
    refine W_end (E_then ?_)
    refine C_ret ?_
    exact end1 rfl rfl ⟨rfl, v', xs', rfl, rfl, h.toF, hc⟩
  · refine C_seq ?_
    refine C_region ?_
    refine W_move rfl rfl rfl ?_
    refine W_move rfl rfl rfl ?_
    refine W_capS rfl rfl Proofs.Tryd.runUnderlying22 rfl ?_
    refine W_move rfl rfl rfl ?_
    refine W_lenS rfl rfl Proofs.Tryd.runUnderlying22 rfl ?_
    refine W_bin rfl rfl rfl rfl rfl ?_
    refine W_bin rfl rfl rfl rfl rfl ?_
    refine W_assign rfl rfl rfl ?_
    refine W_end (E_then ?_)
    rw [hn]
    refine C_seq ?_
    refine C_region ?_
    refine W_move rfl rfl rfl ?_
    refine W_bin rfl rfl rfl rfl rfl ?_
    refine W_end (E_then ?_)
    refine C_cond (b := decide (0 < n)) rfl (fun hb => ?_) (fun hb => ?_)
    · refine C_region ?_
      refine W_move rfl rfl rfl ?_
      refine W_move rfl rfl rfl ?_
      refine W_capS rfl rfl Proofs.Tryd.runUnderlying22 rfl ?_
      refine W_sliceNil rfl rfl Proofs.Tryd.runUnderlying22 Proofs.Tryd.sizeOf30 rfl rfl ?_
      refine W_move rfl rfl rfl ?_
      refine W_growNil (α := S_api_Event) (ze := (S_api_Event.mk 0 (⟨#[]⟩) (⟨#[]⟩) 0)) (bytes := 48) rfl rfl Proofs.Tryd.underlying22 Proofs.Tryd.underlying3 ⟨_, rfl, rfl, rfl, rfl⟩ rfl rfl rfl rfl rfl rfl (of_decide_eq_true hb) hz.2 ?_
      intro v1 xs1 l1 h1 hl1 hc1
      refine W_move rfl rfl rfl ?_
      refine W_lenS rfl rfl Proofs.Tryd.runUnderlying22 rfl ?_
      refine W_sliceOC (α := S_api_Event) (l := 0) (h := 0) rfl rfl Proofs.Tryd.runUnderlying22 Proofs.Tryd.sizeOf30 rfl rfl h1 (by omega) (by omega) (fun m hmm => (.inr ⟨_, _, _, rfl, rfl, by omega, by omega, rfl⟩)) (.inl ⟨rfl, rfl⟩) ?_
      intro v2 xs2 h2 hc2
      refine W_assign rfl rfl rfl ?_
      refine W_end ?_
      exact E_keepJ (J _ _ _ ⟨v2, xs2, rfl, rfl, rfl, h2, by rw [hc2, Nat.sub_zero]; exact hc1⟩) (List.Perm.refl _) ⟨rfl, trivial⟩
    · refine C_skip ?_
      refine E_nilRow 30 (Rep.sz S_api_Event) ?_
      exact E_keepJ (J _ _ _ ⟨.slice none 0 0, [], rfl, rfl, rfl, Rw.nil, by have := of_decide_eq_false hb; simp only [Value.cap']; omega⟩) (List.Perm.refl _) ⟨rfl, trivial⟩

theorem m_slices_Concat_api_Event_api_Event_c {B : Nat} {w0 w : World} [Tabs B w0] {H : Hp} {M : List Res} {slices : (List (List S_api_Event))} {v0 : Value} {r : (List S_api_Event)} (hm : m_slices_Concat_api_Event_api_Event slices = some r) (h0 : RdS H v0 slices) (ht : St B w0 H (M) w) :
    Calls Proofs.Tryd.prog 12 [v0].toArray w (Ret B w0 fun H' M' v => H = H' ∧ ∃ qv0 : Value, ∃ qxs0 : List Value, .row qv0 30 (Rep.sz S_api_Event) r.length qxs0 :: M = M' ∧ qv0 = v ∧ RwF qv0 qxs0 r) := by
  unfold m_slices_Concat_api_Event_api_Event at hm
  refine enter Proofs.Tryd.func12 rfl rfl rfl ht ?_
  refine C_seq ?_
  refine C_region ?_
  refine W_assign rfl rfl rfl ?_
  refine W_end ?_
  refine E_then ?_
  refine C_seq ?_
  refine C_region ?_
  refine W_assign rfl rfl rfl ?_
  refine W_end ?_
  refine E_then ?_
  refine C_seq ?_
  refine C_seq ?_
  refine C_region ?_
  refine W_move rfl rfl rfl ?_
  refine W_lenR rfl rfl Proofs.Tryd.runUnderlying52 rfl h0 ?_
  refine W_move rfl rfl rfl ?_
  refine W_end ?_
  refine E_then ?_
  refine C_block ?_
  refine C_keep (L' := [(0, v0), (3, .int .i64 (0)), (9, v0), (10, .int .i64 ((slices.length : Int))), (11, .int .i64 (((0 : Nat) : Int)))]) ⟨rfl, rfl, rfl, rfl, rfl, trivial⟩ (List.Perm.refl _) ?_
  refine C_loop (fun n H' M' L' => ∃ (k101 : Nat) (zs120' : List (List S_api_Event)), ∃ n112 : Int, (slices).drop k101 = zs120' ∧ zs120'.length = n ∧ forI (fun k y s115 n => m_slices_Concat_api_Event_api_Event_b1 k y s115 n) (fun s115 => need (0 ≤ s115 ∧ s115 * 48 ≤ 281474976710656) (forI (fun k y s170 n => m_slices_Concat_api_Event_api_Event_b2 s115 k y s170 n) (fun s170 => some s170) 0 slices ([] : List S_api_Event))) k101 zs120' n112 = some r ∧ H.le H' ∧ M = M' ∧ [(0, v0), (3, .int .i64 (n112)), (9, v0), (10, .int .i64 ((slices.length : Int))), (11, .int .i64 ((k101 : Int)))] = L') _ ⟨0, _, 0, rfl, rfl, hm, (Hp.le_refl _), rfl, rfl⟩ ?_
  rintro _ H113 _ _ ⟨k101, zs120', n112, hd122, rfl, hm, hle114, rfl, rfl⟩
  refine C_seq ?_
  refine C_region ?_
  refine W_bin rfl rfl rfl rfl rfl ?_
  refine W_end (E_then ?_)
  refine C_seq ?_
  refine C_cond (b := decide ((k101 : Int) < (slices.length : Int))) rfl (fun hb124 => ?_) (fun hb124 => ?_)
  · obtain ⟨y119, zs120, rfl, hy121, hd123⟩ := rng_t hd122 hb124
    have hm : m_slices_Concat_api_Event_api_Event_b1 k101 y119 n112 (forI (fun k y s115 n => m_slices_Concat_api_Event_api_Event_b1 k y s115 n) (fun s115 => need (0 ≤ s115 ∧ s115 * 48 ≤ 281474976710656) (forI (fun k y s170 n => m_slices_Concat_api_Event_api_Event_b2 s115 k y s170 n) (fun s170 => some s170) 0 slices ([] : List S_api_Event))) (k101 + 1) zs120) = some r := hm
    generalize hn117 : forI (fun k y s115 n => m_slices_Concat_api_Event_api_Event_b1 k y s115 n) (fun s115 => need (0 ≤ s115 ∧ s115 * 48 ≤ 281474976710656) (forI (fun k y s170 n => m_slices_Concat_api_Event_api_Event_b2 s115 k y s170 n) (fun s170 => some s170) 0 slices ([] : List S_api_Event))) (k101 + 1) zs120 = nx116 at hm
    unfold m_slices_Concat_api_Event_api_Event_b1 at hm
    refine C_skip (E_then ?_)
    refine C_seq ?_
    refine C_block ?_
    refine C_seq ?_
    refine C_region ?_
    obtain ⟨_, ⟨v126, rfl, h127⟩, hc125⟩ := (h0).elem hy121
    refine W_indexS rfl rfl Proofs.Tryd.runUnderlying52 Proofs.Tryd.sizeOf22 rfl (h0.mono hle114) rfl (Int.natCast_nonneg _) hy121 ?_
    refine W_load rfl rfl Proofs.Tryd.isAgg22 rfl (HCells.one (hc125.mono hle114) 0 rfl).at ?_
    refine W_assign rfl rfl rfl ?_
    refine W_end ?_
    refine E_then ?_
    refine C_seq ?_
    refine C_region ?_
    refine W_move rfl rfl rfl ?_
    refine W_move rfl rfl rfl ?_
    refine W_lenR rfl rfl Proofs.Tryd.runUnderlying22 rfl (h127.mono hle114) ?_
    refine W_bin rfl rfl rfl rfl rfl ?_
    refine W_assign rfl rfl rfl ?_
    refine W_end ?_
    refine E_then ?_
    refine C_seq ?_
    refine C_region ?_
    refine W_move rfl rfl rfl ?_
    refine W_bin rfl rfl rfl rfl rfl ?_
    refine W_end ?_
    refine E_then ?_
    refine C_cond (b := decide ((IntKind.i64.wrap (n112 + (y119.length : Int))) < 0)) rfl (fun hb128 => ?_) (fun hb128 => ?_)
    · have hm := ite_t' hb128 hm
      cases hm
    · have hm := ite_f' hb128 hm
      refine C_skip ?_
      refine E_normal_block ?_
      refine E_then ?_
      refine C_region ?_
      refine W_bin rfl rfl rfl rfl rfl ?_
      refine W_move rfl rfl rfl ?_
      refine W_end ?_
      exact E_keepJ (E_back (Nat.lt_succ_self _) ⟨k101 + 1, zs120, IntKind.i64.wrap (n112 + (y119.length : Int)), hd123, rfl, (by rw [hn117]; exact hm), hle114, rfl, rfl⟩) (List.Perm.refl _) ⟨rfl, rfl, rfl, rfl, (congrArg (fun z => some (Value.int .i64 z)) (i64_succ hy121 ((h0.mono hle114)).lenMax)), trivial⟩
  · obtain rfl := rng_f hd122 hb124
    have hm : (need (0 ≤ n112 ∧ n112 * 48 ≤ 281474976710656) (forI (fun k y s170 n => m_slices_Concat_api_Event_api_Event_b2 n112 k y s170 n) (fun s170 => some s170) 0 slices ([] : List S_api_Event))) = some r := hm
    refine C_exit (E_exit_then ?_)
    refine E_exit_then ?_
    refine E_exit_hit ?_
    refine E_then ?_
    refine C_seq ?_
    refine C_region ?_
    refine W_move rfl rfl rfl ?_
    obtain ⟨hz129, hm⟩ := need_some hm
    refine W_call Proofs.Tryd.call24 rfl rfl rfl (fun w ht => by have h := grow24_c hz129 ht; exact h) ?_
    rintro _ _ _ ⟨rfl, v131, xs132, rfl, rfl, hr133, hcap130⟩
    have hr133 := hr133 H113
    refine W_assign rfl rfl rfl ?_
    refine W_end ?_
    refine E_then ?_
    refine C_seq ?_
    refine C_seq ?_
    refine C_region ?_
    refine W_move rfl rfl rfl ?_
    refine W_lenR rfl rfl Proofs.Tryd.runUnderlying52 rfl (h0.mono hle114) ?_
    refine W_move rfl rfl rfl ?_
    refine W_end ?_
    refine E_then ?_
    refine C_block ?_
    refine C_keep (L' := [(6, v131), (25, v0), (26, .int .i64 ((slices.length : Int))), (27, .int .i64 (((0 : Nat) : Int)))]) ⟨rfl, rfl, rfl, rfl, trivial⟩ (List.Perm.refl _) ?_
    refine C_loop (fun n H' M' L' => ∃ (k134 : Nat) (zs175' : List (List S_api_Event)), ∃ l165 : List S_api_Event, ∃ v163 : Value, ∃ xs164 : List Value, (slices).drop k134 = zs175' ∧ zs175'.length = n ∧ forI (fun k y s170 n => m_slices_Concat_api_Event_api_Event_b2 n112 k y s170 n) (fun s170 => some s170) k134 zs175' l165 = some r ∧ Rw H' v163 xs164 l165 ∧ n112 ≤ (Value.cap' v163 : Int) ∧ H113.le H' ∧ .row v163 30 (Rep.sz S_api_Event) l165.length xs164 :: M = M' ∧ [(6, v163), (25, v0), (26, .int .i64 ((slices.length : Int))), (27, .int .i64 ((k134 : Int)))] = L') _ ⟨0, _, ([] : List S_api_Event), v131, xs132, rfl, rfl, hm, hr133, hcap130, (Hp.le_refl _), rfl, rfl⟩ ?_
    rintro _ H168 _ _ ⟨k134, zs175', l165, v163, xs164, hd177, rfl, hm, hr166, hcap167, hle169, rfl, rfl⟩
    refine C_seq ?_
    refine C_region ?_
    refine W_bin rfl rfl rfl rfl rfl ?_
    refine W_end (E_then ?_)
    refine C_seq ?_
    refine C_cond (b := decide ((k134 : Int) < (slices.length : Int))) rfl (fun hb179 => ?_) (fun hb179 => ?_)
    · obtain ⟨y174, zs175, rfl, hy176, hd178⟩ := rng_t hd177 hb179
      have hm : m_slices_Concat_api_Event_api_Event_b2 n112 k134 y174 l165 (forI (fun k y s170 n => m_slices_Concat_api_Event_api_Event_b2 n112 k y s170 n) (fun s170 => some s170) (k134 + 1) zs175) = some r := hm
      generalize hn172 : forI (fun k y s170 n => m_slices_Concat_api_Event_api_Event_b2 n112 k y s170 n) (fun s170 => some s170) (k134 + 1) zs175 = nx171 at hm
      unfold m_slices_Concat_api_Event_api_Event_b2 at hm
      refine C_skip (E_then ?_)
      refine C_seq ?_
      refine C_block ?_
      refine C_seq ?_
      refine C_region ?_
      obtain ⟨_, ⟨v181, rfl, h182⟩, hc180⟩ := (h0).elem hy176
      refine W_indexS rfl rfl Proofs.Tryd.runUnderlying52 Proofs.Tryd.sizeOf22 rfl ((h0.mono hle114).mono hle169) rfl (Int.natCast_nonneg _) hy176 ?_
      refine W_load rfl rfl Proofs.Tryd.isAgg22 rfl (HCells.one ((hc180.mono hle114).mono hle169) 0 rfl).at ?_
      refine W_assign rfl rfl rfl ?_
      refine W_end ?_
      refine E_then ?_
      refine C_region ?_
      refine W_move rfl rfl rfl ?_
      refine W_move rfl rfl rfl ?_
      obtain ⟨hz183, hm⟩ := need_some hm
      refine W_appendC (α := S_api_Event) (l := l165) (ys := y174) rfl rfl Proofs.Tryd.underlying22 ⟨_, rfl, rfl, rfl, rfl⟩ rfl rfl rfl rfl hr166 ((h182.mono hle114).mono hle169) (by have h1_ := hz183; have h2_ := hcap167; omega) ?_
      intro v186 xs187 hr188 hc184
      have hcap185 : n112 ≤ (Value.cap' v186 : Int) := by rw [hc184]; exact hcap167
      refine W_assign rfl rfl rfl ?_
      refine W_end ?_
      refine E_normal_block ?_
      refine E_then ?_
      refine C_region ?_
      refine W_bin rfl rfl rfl rfl rfl ?_
      refine W_move rfl rfl rfl ?_
      refine W_end ?_
      exact E_keepJ (E_back (Nat.lt_succ_self _) ⟨k134 + 1, zs175, (l165 ++ y174), v186, xs187, hd178, rfl, (by rw [hn172]; exact hm), hr188, hcap185, hle169, rfl, rfl⟩) (List.Perm.refl _) ⟨rfl, rfl, rfl, (congrArg (fun z => some (Value.int .i64 z)) (i64_succ hy176 (((h0.mono hle114).mono hle169)).lenMax)), trivial⟩
    · obtain rfl := rng_f hd177 hb179
      have hm : (some l165) = some r := hm
      refine C_exit (E_exit_then ?_)
      refine E_exit_then ?_
      refine E_exit_hit ?_
      refine E_then ?_
      refine C_seq ?_
      refine C_region ?_
      refine W_move rfl rfl rfl ?_
      refine W_assign rfl rfl rfl ?_
      refine W_end ?_
      refine E_then ?_
      refine C_ret ?_
      obtain rfl := Option.some.inj hm
      refine E_weak (Hp.le_trans hle114 hle169) ?_
      exact end1 rfl rfl ⟨rfl, v163, xs164, rfl, rfl, (hr166).toF⟩

theorem clone25_c {B : Nat} {w0 w : World} {H : Hp} {M : List Res} {s : List S_api_Event} {v0 : Value} (h0 : RdS H v0 s) (hz : s.length * 48 ≤ 140737488355328) (ht : St B w0 H M w) :
    Calls Proofs.Tryd.prog 25 [v0].toArray w (Ret B w0 fun H' M' v => H = H' ∧ ∃ (v' : Value) (xs' : List Value), .row v' 30 (Rep.sz S_api_Event) s.length xs' :: M = M' ∧ v' = v ∧ RwF v' xs' s) := by
  refine enter Proofs.Tryd.func25 rfl rfl rfl ht ?_
  obtain ⟨o, n, c, rfl⟩ := h0.shape
  refine C_seq ?_
  refine C_region ?_
  refine W_assign rfl rfl rfl ?_
  refine W_end (E_then ?_)
  refine C_seq ?_
  refine C_seq ?_
  refine C_region ?_
  refine W_move rfl rfl rfl ?_
  refine W_eqNil rfl rfl Proofs.Tryd.runUnderlying22 rfl rfl ?_
  refine W_end (E_then ?_)
  cases o with
  | none =>
    refine C_cond (b := true) rfl (fun _ => ?_) (fun hb => Bool.noConfusion hb)
    obtain rfl := h0.isNil
    refine C_seq ?_
    refine C_region ?_
    refine W_assign rfl rfl rfl ?_
    refine W_end (E_then ?_)
    refine C_ret (E_ret_then ?_)
    refine E_nilRow 30 (Rep.sz S_api_Event) ?_
    exact end1 rfl rfl ⟨rfl, .slice none 0 0, [], rfl, rfl, (Rw.nil (H := H)).toF⟩
  | some a =>
    refine C_cond (b := false) rfl (fun hb => Bool.noConfusion hb) (fun _ => ?_)
    refine C_skip (E_then ?_)
    refine C_seq ?_
    refine C_region ?_
    refine W_build0 S_api_Event rfl rfl Proofs.Tryd.runUnderlying22 Proofs.Tryd.sizeOf30 ?_
    intro v1 xs1 h1
    refine W_move rfl rfl rfl ?_
    refine W_appendO (α := S_api_Event) (l := []) (ys := s) (bytes := 48) rfl rfl Proofs.Tryd.underlying22 ⟨_, rfl, rfl, rfl, rfl⟩ rfl rfl rfl rfl rfl h1 h0 (by simpa using hz) ?_
    intro v2 xs2 h2
    refine W_assign rfl rfl rfl ?_
    refine W_end (E_then ?_)
    refine C_ret ?_
    exact end1 rfl rfl ⟨rfl, v2, xs2, rfl, rfl, h2.toF⟩

theorem m_archive_Archive_All_c {B : Nat} {w0 w : World} [Tabs B w0] {H : Hp} {M : List Res} {p0_a : S_archive_Archive} {b0 : Nat} {v0 : Value} {xs0 : List Value} {r : (List S_api_Event)} (hm : m_archive_Archive_All p0_a = some r) (h0 : Rw H v0 xs0 p0_a.all_) (ht : St B w0 H (.obj b0 (.cells [v0].toArray 51 (0, 0)) :: .row v0 30 (Rep.sz S_api_Event) p0_a.all_.length xs0 :: M) w) :
    Calls Proofs.Tryd.prog 13 [.pointer (some ⟨b0, 0, none⟩)].toArray w (Ret B w0 fun H' M' v => H = H' ∧ ∃ qv0 : Value, ∃ qxs0 : List Value, .row qv0 30 (Rep.sz S_api_Event) r.length qxs0 :: .obj b0 (.cells [v0].toArray 51 (0, 0)) :: .row v0 30 (Rep.sz S_api_Event) p0_a.all_.length xs0 :: M = M' ∧ qv0 = v ∧ RwF qv0 qxs0 r) := by
  unfold m_archive_Archive_All at hm
  refine enter Proofs.Tryd.func13 rfl rfl rfl ht ?_
  refine C_seq ?_
  refine C_region ?_
  refine W_assign rfl rfl rfl ?_
  refine W_end ?_
  refine E_then ?_
  refine C_seq ?_
  refine C_region ?_
  refine W_move rfl rfl rfl ?_
  refine W_nilCheck rfl rfl rfl ?_
  refine W_field (o := 0) rfl rfl Proofs.Tryd.runUnderlying51 rfl Proofs.Tryd.sizeOf22 rfl rfl rfl ?_
  refine W_load rfl rfl Proofs.Tryd.isAgg22 rfl (own_at (List.mem_cons_self ..) rfl) ?_
  obtain ⟨hz101, hm⟩ := need_some hm
  refine W_perm (List.Perm.swap _ _ _) ?_
  refine W_call Proofs.Tryd.call25 rfl rfl rfl (fun w ht => by obtain ⟨H0_, hl0_, ht0_, hr0_, bk0_⟩ := ht.lendRow h0 rfl; have h := clone25_c hr0_ hz101 ht0_; exact lend_back bk0_ h) ?_
  rintro _ _ _ ⟨rfl, _, rfl, v102, xs103, rfl, rfl, hr104⟩
  have hr104 := hr104 H
  refine W_assign rfl rfl rfl ?_
  refine W_end ?_
  refine E_then ?_
  refine C_ret ?_
  obtain rfl := Option.some.inj hm
  refine E_perm (List.Perm.trans (List.Perm.swap _ _ _) (List.Perm.cons _ (List.Perm.swap _ _ _))) ?_
  refine E_weak (Hp.le_refl _) ?_
  exact end1 rfl rfl ⟨rfl, v102, xs103, rfl, rfl, (hr104).toF⟩

theorem m_slices_Equal_api_Event_api_Event_c {B : Nat} {w0 w : World} [Tabs B w0] {H : Hp} {M : List Res} {p0_s1 : (List S_api_Event)} {p1_s2 : (List S_api_Event)} {v0 : Value} {v1 : Value} {r : Bool} (hm : m_slices_Equal_api_Event_api_Event p0_s1 p1_s2 = some r) (h0 : RdS H v0 p0_s1) (h1 : RdS H v1 p1_s2) (ht : St B w0 H (M) w) :
    Calls Proofs.Tryd.prog 11 [v0, v1].toArray w (Ret B w0 fun H' M' v => H = H' ∧ M = M' ∧ .bool (r) = v) := by
  unfold m_slices_Equal_api_Event_api_Event at hm
  refine enter Proofs.Tryd.func11 rfl rfl rfl ht ?_
  refine C_seq ?_
  refine C_region ?_
  refine W_assign rfl rfl rfl ?_
  refine W_end ?_
  refine E_then ?_
  refine C_seq ?_
  refine C_seq ?_
  refine C_region ?_
  refine W_move rfl rfl rfl ?_
  refine W_lenR rfl rfl Proofs.Tryd.runUnderlying22 rfl h0 ?_
  refine W_move rfl rfl rfl ?_
  refine W_lenR rfl rfl Proofs.Tryd.runUnderlying22 rfl h1 ?_
  refine W_bin rfl rfl rfl rfl rfl ?_
  refine W_end ?_
  refine E_then ?_
  refine C_cond (b := !decide ((p0_s1.length : Int) = (p1_s2.length : Int))) rfl (fun hb101 => ?_) (fun hb101 => ?_)
  · have hm := ite_t' hb101 hm
    refine C_seq ?_
    refine C_region ?_
    refine W_assign rfl rfl rfl ?_
    refine W_end ?_
    refine E_then ?_
    refine C_ret ?_
    refine E_ret_then ?_
    obtain rfl := Option.some.inj hm
    refine E_weak (Hp.le_refl _) ?_
    exact end1 rfl rfl ⟨rfl, rfl, rfl⟩
  · have hm := ite_f' hb101 hm
    refine C_skip ?_
    refine E_then ?_
    refine C_seq ?_
    refine C_seq ?_
    refine C_region ?_
    refine W_move rfl rfl rfl ?_
    refine W_lenR rfl rfl Proofs.Tryd.runUnderlying22 rfl h0 ?_
    refine W_move rfl rfl rfl ?_
    refine W_end ?_
    refine E_then ?_
    refine C_block ?_
    refine C_keep (L' := [(0, v0), (1, v1), (12, .int .i64 ((p0_s1.length : Int))), (13, .int .i64 (((0 : Nat) : Int)))]) ⟨rfl, rfl, rfl, rfl, trivial⟩ (List.Perm.refl _) ?_
    refine C_loop (fun n H' M' L' => ∃ (k102 : Nat) (zs136' : Nat), k102 + zs136' = ((p0_s1.length : Int) : Int).toNat ∧ zs136' = n ∧ forN (fun k s131 n => m_slices_Equal_api_Event_api_Event_b1 p0_s1 p1_s2 k n) (fun _ => some true) zs136' k102 () = some r ∧ H.le H' ∧ M = M' ∧ [(0, v0), (1, v1), (12, .int .i64 ((p0_s1.length : Int))), (13, .int .i64 ((k102 : Int)))] = L') _ ⟨0, _, Nat.zero_add _, rfl, hm, (Hp.le_refl _), rfl, rfl⟩ ?_
    rintro _ H129 _ _ ⟨k102, zs136', hd138, rfl, hm, hle130, rfl, rfl⟩
    refine C_seq ?_
    refine C_region ?_
    refine W_bin rfl rfl rfl rfl rfl ?_
    refine W_end (E_then ?_)
    refine C_seq ?_
    refine C_cond (b := decide ((k102 : Int) < (p0_s1.length : Int))) rfl (fun hb140 => ?_) (fun hb140 => ?_)
    · obtain ⟨zs136, rfl, hd139, hy137⟩ := rngN_t hd138 hb140
      have hm : m_slices_Equal_api_Event_api_Event_b1 p0_s1 p1_s2 k102 (forN (fun k s131 n => m_slices_Equal_api_Event_api_Event_b1 p0_s1 p1_s2 k n) (fun _ => some true) zs136 (k102 + 1)) = some r := hm
      generalize hn133 : forN (fun k s131 n => m_slices_Equal_api_Event_api_Event_b1 p0_s1 p1_s2 k n) (fun _ => some true) zs136 (k102 + 1) = nx132 at hm
      unfold m_slices_Equal_api_Event_api_Event_b1 at hm
      refine C_skip (E_then ?_)
      refine C_seq ?_
      refine C_block ?_
      refine C_seq ?_
      refine C_region ?_
      refine W_move rfl rfl rfl ?_
      refine W_assign rfl rfl rfl ?_
      refine W_end ?_
      refine E_then ?_
      refine C_seq ?_
      obtain ⟨y141, h142, he143, hm⟩ := idx_some hm
      obtain ⟨_, ⟨rfl⟩, hc144⟩ := (h0).elem he143
      obtain ⟨y145, h146, he147, hm⟩ := idx_some hm
      obtain ⟨_, ⟨rfl⟩, hc148⟩ := (h1).elem he147
      refine C_region_tok0 8 (phiT [(fun H rs v => [] = rs ∧ v0 = v), (fun H rs v => [] = rs ∧ .int .i64 ((k102 : Int)) = v), (fun H rs v => [] = rs ∧ .pointer (some ((Value.base (v0)).add (((k102 : Int) : Int).toNat * 4))) = v), (fun H rs v => [] = rs ∧ .agg [.int .i64 (y141.Time), .string (y141.Kind), .string (y141.Name), .int .i64 (y141.Value)].toArray = v), (fun H rs v => [] = rs ∧ v1 = v), (fun H rs v => [] = rs ∧ .int .i64 ((k102 : Int)) = v), (fun H rs v => [] = rs ∧ .pointer (some ((Value.base (v1)).add (((k102 : Int) : Int).toNat * 4))) = v), (fun H rs v => [] = rs ∧ .agg [.int .i64 (y145.Time), .string (y145.Kind), .string (y145.Name), .int .i64 (y145.Value)].toArray = v)]) [[], [], [], [], [], [], [], []] [[], [], [], [], [], [], [], []] [] [0, 1, 2, 3, 4, 5, 6, 7] Facts.mixed (by kernel_rfl) rfl rfl rfl (by kernel_rfl) (phiT_mono ⟨eq_monoT _ _, eq_monoT _ _, eq_monoT _ _, eq_monoT _ _, eq_monoT _ _, eq_monoT _ _, eq_monoT _ _, eq_monoT _ _, trivial⟩) ⟨?_, ?_, ?_, ?_, ?_, ?_, ?_, ?_, trivial⟩ ?_
      · intro HX hX X Rest hR
        intro hU hUp
        refine W_move rfl rfl rfl ?_
        exact W_end (OneT_end [] (Hp.le_refl _) ⟨rfl, rfl⟩)
      · intro HX hX X Rest hR
        intro hU hUp
        refine W_move rfl rfl rfl ?_
        exact W_end (OneT_end [] (Hp.le_refl _) ⟨rfl, rfl⟩)
      · intro HX hX X Rest hR
        rintro _ _ ⟨rfl, rfl⟩
        rintro _ _ ⟨rfl, rfl⟩
        intro hU hUp
        refine W_indexS rfl rfl Proofs.Tryd.runUnderlying22 Proofs.Tryd.sizeOf30 rfl ((h0.mono hle130).mono hX) rfl h142 he143 ?_
        exact W_end (OneT_end [] (Hp.le_refl _) ⟨rfl, rfl⟩)
      · intro HX hX X Rest hR
        rintro _ _ ⟨rfl, rfl⟩
        intro hU hUp
        refine W_loadAgg rfl rfl Proofs.Tryd.isAgg30 Proofs.Tryd.sizeOf30 rfl ((hc144.mono hle130).mono hX).at rfl ?_
        exact W_end (OneT_end [] (Hp.le_refl _) ⟨rfl, rfl⟩)
      · intro HX hX X Rest hR
        intro hU hUp
        refine W_move rfl rfl rfl ?_
        exact W_end (OneT_end [] (Hp.le_refl _) ⟨rfl, rfl⟩)
      · intro HX hX X Rest hR
        intro hU hUp
        refine W_move rfl rfl rfl ?_
        exact W_end (OneT_end [] (Hp.le_refl _) ⟨rfl, rfl⟩)
      · intro HX hX X Rest hR
        rintro _ _ ⟨rfl, rfl⟩
        rintro _ _ ⟨rfl, rfl⟩
        intro hU hUp
        refine W_indexS rfl rfl Proofs.Tryd.runUnderlying22 Proofs.Tryd.sizeOf30 rfl ((h1.mono hle130).mono hX) rfl h146 he147 ?_
        exact W_end (OneT_end [] (Hp.le_refl _) ⟨rfl, rfl⟩)
      · intro HX hX X Rest hR
        rintro _ _ ⟨rfl, rfl⟩
        intro hU hUp
        refine W_loadAgg rfl rfl Proofs.Tryd.isAgg30 Proofs.Tryd.sizeOf30 rfl ((hc148.mono hle130).mono hX).at rfl ?_
        exact W_end (OneT_end [] (Hp.le_refl _) ⟨rfl, rfl⟩)
      intro H149 hle150
      rintro _ _ ⟨rfl, rfl⟩
      rintro _ _ ⟨rfl, rfl⟩
      rintro _ _ ⟨rfl, rfl⟩
      rintro _ _ ⟨rfl, rfl⟩
      rintro _ _ ⟨rfl, rfl⟩
      rintro _ _ ⟨rfl, rfl⟩
      rintro _ _ ⟨rfl, rfl⟩
      rintro _ _ ⟨rfl, rfl⟩
      refine W_neAgg (b := decide (y141.Time = y145.Time) && (decide (y141.Kind = y145.Kind) && (decide (y141.Name = y145.Name) && (decide (y141.Value = y145.Value) && true)))) rfl rfl (by kernel_rfl) rfl rfl (fun w => run_equal_struct (bs := [decide (y141.Time = y145.Time), decide (y141.Kind = y145.Kind), decide (y141.Name = y145.Name), decide (y141.Value = y145.Value)]) Proofs.Tryd.runUnderlying30 (by kernel_rfl) ⟨(by decide), (fldEq_int Proofs.Tryd.isAgg3 Proofs.Tryd.runUnderlying3 rfl rfl), (by decide), (fldEq_str Proofs.Tryd.isAgg9 Proofs.Tryd.runUnderlying9 rfl rfl), (by decide), (fldEq_str Proofs.Tryd.isAgg9 Proofs.Tryd.runUnderlying9 rfl rfl), (by decide), (fldEq_int Proofs.Tryd.isAgg3 Proofs.Tryd.runUnderlying3 rfl rfl), trivial⟩) ?_
      refine W_end ?_
      refine E_then ?_
      refine C_cond (b := !(decide (y141.Time = y145.Time) && (decide (y141.Kind = y145.Kind) && (decide (y141.Name = y145.Name) && (decide (y141.Value = y145.Value) && true))))) rfl (fun hb151 => ?_) (fun hb151 => ?_)
      · have hm := ite_t' hb151 hm
        refine C_seq ?_
        refine C_region ?_
        refine W_assign rfl rfl rfl ?_
        refine W_end ?_
        refine E_then ?_
        refine C_ret ?_
        refine E_ret_block ?_
        refine E_ret_then ?_
        refine E_ret_then ?_
        refine E_ret_block ?_
        refine E_ret_then ?_
        obtain rfl := Option.some.inj hm
        refine E_weak (Hp.le_trans hle130 hle150) ?_
        exact end1 rfl rfl ⟨rfl, rfl, rfl⟩
      · have hm := ite_f' hb151 hm
        refine C_skip ?_
        refine E_normal_block ?_
        refine E_then ?_
        refine C_region ?_
        refine W_bin rfl rfl rfl rfl rfl ?_
        refine W_move rfl rfl rfl ?_
        refine W_end ?_
        exact E_keepJ (E_back (Nat.lt_succ_self _) ⟨k102 + 1, zs136, hd139, rfl, (by rw [hn133]; exact hm), (Hp.le_trans hle130 hle150), rfl, rfl⟩) (List.Perm.refl _) ⟨rfl, rfl, rfl, (congrArg (fun z => some (Value.int .i64 z)) (i64_succN hy137 (toNat_max (len_max (h0).lenMax)))), trivial⟩
    · obtain rfl := rngN_f hd138 hb140
      have hm : (some true) = some r := hm
      refine C_exit (E_exit_then ?_)
      refine E_exit_then ?_
      refine E_exit_hit ?_
      refine E_then ?_
      refine C_seq ?_
      refine C_region ?_
      refine W_assign rfl rfl rfl ?_
      refine W_end ?_
      refine E_then ?_
      refine C_ret ?_
      obtain rfl := Option.some.inj hm
      refine E_weak hle130 ?_
      exact end1 rfl rfl ⟨rfl, rfl, rfl⟩

theorem m_gridhallkeep4_ArchiveParts_1_c {B : Nat} {w0 w : World} [Tabs B w0] {H : Hp} {M : List Res} {p0_e : S_api_Event} {p1_c1 : Int} {b0 : Nat} {r : Bool} (hm : m_gridhallkeep4_ArchiveParts_1 p0_e p1_c1 = r) (ht : St B w0 H (.obj b0 (.cells [.int .i64 (p1_c1)].toArray 3 (0, 0)) :: M) w) :
    Calls Proofs.Tryd.prog 15 [.agg [.int .i64 (p0_e.Time), .string (p0_e.Kind), .string (p0_e.Name), .int .i64 (p0_e.Value)].toArray, .pointer (some ⟨b0, 0, none⟩)].toArray w (Ret B w0 fun H' M' v => H = H' ∧ .obj b0 (.cells [.int .i64 (p1_c1)].toArray 3 (0, 0)) :: M = M' ∧ .bool (r) = v) := by
  unfold m_gridhallkeep4_ArchiveParts_1 at hm
  refine enter Proofs.Tryd.func15 rfl rfl rfl ht ?_
  refine C_seq ?_
  refine C_region ?_
  refine W_box (cs := [.int .i64 (p0_e.Time), .string (p0_e.Kind), .string (p0_e.Name), .int .i64 (p0_e.Value)]) rfl rfl rfl rfl (fun b101 => ?_)
  refine W_assign rfl rfl rfl ?_
  refine W_end ?_
  refine E_then ?_
  refine C_seq ?_
  refine C_region ?_
  refine W_field (o := 0) rfl rfl Proofs.Tryd.runUnderlying30 rfl Proofs.Tryd.sizeOf3 rfl rfl rfl ?_
  refine W_load rfl rfl Proofs.Tryd.isAgg3 rfl (own_at (List.mem_cons_self ..) rfl) ?_
  refine W_load rfl rfl Proofs.Tryd.isAgg3 rfl (own_at (List.mem_cons_of_mem _ (List.mem_cons_self ..)) rfl) ?_
  refine W_bin rfl rfl rfl rfl rfl ?_
  refine W_assign rfl rfl rfl ?_
  refine W_end ?_
  refine E_then ?_
  refine C_ret ?_
  obtain rfl := hm
  refine E_drop (List.Sublist.cons _ (List.Sublist.refl _)) ?_
  refine E_weak (Hp.le_refl _) ?_
  exact end1 rfl rfl ⟨rfl, rfl, rfl⟩

theorem m_slices_IndexFunc_api_Event_api_Event__gridhallkeep4_ArchiveParts_1_c {B : Nat} {w0 w : World} [Tabs B w0] {H : Hp} {M : List Res} {p0_s : (List S_api_Event)} {p1_f_0 : Int} {v0 : Value} {b0 : Nat} {r : Int} (hm : m_slices_IndexFunc_api_Event_api_Event__gridhallkeep4_ArchiveParts_1 p0_s p1_f_0 = some r) (h0 : RdS H v0 p0_s) (ht : St B w0 H (.obj b0 (.cells [.int .i64 (p1_f_0)].toArray 3 (0, 0)) :: M) w) :
    Calls Proofs.Tryd.prog 26 [v0, .func (.func 15) [].toArray [.pointer (some ⟨b0, 0, none⟩)].toArray].toArray w (Ret B w0 fun H' M' v => H = H' ∧ .obj b0 (.cells [.int .i64 (p1_f_0)].toArray 3 (0, 0)) :: M = M' ∧ .int .i64 (r) = v) := by
  unfold m_slices_IndexFunc_api_Event_api_Event__gridhallkeep4_ArchiveParts_1 at hm
  refine enter Proofs.Tryd.func26 rfl rfl rfl ht ?_
  refine C_seq ?_
  refine C_region ?_
  refine W_assign rfl rfl rfl ?_
  refine W_end ?_
  refine E_then ?_
  refine C_seq ?_
  refine C_seq ?_
  refine C_region ?_
  refine W_move rfl rfl rfl ?_
  refine W_lenR rfl rfl Proofs.Tryd.runUnderlying22 rfl h0 ?_
  refine W_move rfl rfl rfl ?_
  refine W_end ?_
  refine E_then ?_
  refine C_block ?_
  refine C_keep (L' := [(0, v0), (1, .func (.func 15) [].toArray [.pointer (some ⟨b0, 0, none⟩)].toArray), (7, .int .i64 ((p0_s.length : Int))), (8, .int .i64 (((0 : Nat) : Int)))]) ⟨rfl, rfl, rfl, rfl, trivial⟩ (List.Perm.refl _) ?_
  refine C_loop (fun n H' M' L' => ∃ (k101 : Nat) (zs119' : Nat), k101 + zs119' = ((p0_s.length : Int) : Int).toNat ∧ zs119' = n ∧ forN (fun k s114 n => m_slices_IndexFunc_api_Event_api_Event__gridhallkeep4_ArchiveParts_1_b1 p0_s p1_f_0 k n) (fun _ => some (-1)) zs119' k101 () = some r ∧ H.le H' ∧ .obj b0 (.cells [.int .i64 (p1_f_0)].toArray 3 (0, 0)) :: M = M' ∧ [(0, v0), (1, .func (.func 15) [].toArray [.pointer (some ⟨b0, 0, none⟩)].toArray), (7, .int .i64 ((p0_s.length : Int))), (8, .int .i64 ((k101 : Int)))] = L') _ ⟨0, _, Nat.zero_add _, rfl, hm, (Hp.le_refl _), rfl, rfl⟩ ?_
  rintro _ H112 _ _ ⟨k101, zs119', hd121, rfl, hm, hle113, rfl, rfl⟩
  refine C_seq ?_
  refine C_region ?_
  refine W_bin rfl rfl rfl rfl rfl ?_
  refine W_end (E_then ?_)
  refine C_seq ?_
  refine C_cond (b := decide ((k101 : Int) < (p0_s.length : Int))) rfl (fun hb123 => ?_) (fun hb123 => ?_)
  · obtain ⟨zs119, rfl, hd122, hy120⟩ := rngN_t hd121 hb123
    have hm : m_slices_IndexFunc_api_Event_api_Event__gridhallkeep4_ArchiveParts_1_b1 p0_s p1_f_0 k101 (forN (fun k s114 n => m_slices_IndexFunc_api_Event_api_Event__gridhallkeep4_ArchiveParts_1_b1 p0_s p1_f_0 k n) (fun _ => some (-1)) zs119 (k101 + 1)) = some r := hm
    generalize hn116 : forN (fun k s114 n => m_slices_IndexFunc_api_Event_api_Event__gridhallkeep4_ArchiveParts_1_b1 p0_s p1_f_0 k n) (fun _ => some (-1)) zs119 (k101 + 1) = nx115 at hm
    unfold m_slices_IndexFunc_api_Event_api_Event__gridhallkeep4_ArchiveParts_1_b1 at hm
    refine C_skip (E_then ?_)
    refine C_seq ?_
    refine C_block ?_
    refine C_seq ?_
    refine C_region ?_
    refine W_move rfl rfl rfl ?_
    refine W_assign rfl rfl rfl ?_
    refine W_end ?_
    refine E_then ?_
    refine C_seq ?_
    refine C_region ?_
    refine W_move rfl rfl rfl ?_
    refine W_move rfl rfl rfl ?_
    refine W_move rfl rfl rfl ?_
    obtain ⟨y124, h125, he126, hm⟩ := idx_some hm
    obtain ⟨_, ⟨rfl⟩, hc127⟩ := (h0).elem he126
    refine W_indexS rfl rfl Proofs.Tryd.runUnderlying22 Proofs.Tryd.sizeOf30 rfl (h0.mono hle113) rfl h125 he126 ?_
    refine W_loadAgg rfl rfl Proofs.Tryd.isAgg30 Proofs.Tryd.sizeOf30 rfl (hc127.mono hle113).at rfl ?_
    refine W_callv Proofs.Tryd.call15 rfl rfl rfl rfl (fun w ht => by have h := m_gridhallkeep4_ArchiveParts_1_c (hm := (rfl : m_gridhallkeep4_ArchiveParts_1 y124 p1_f_0 = _))  ht; exact h) ?_
    rintro _ _ _ ⟨rfl, rfl, rfl⟩
    refine W_end ?_
    refine E_then ?_
    refine C_cond (b := (m_gridhallkeep4_ArchiveParts_1 y124 p1_f_0)) rfl (fun hb128 => ?_) (fun hb128 => ?_)
    · have hm := ite_t' hb128 hm
      refine C_seq ?_
      refine C_region ?_
      refine W_move rfl rfl rfl ?_
      refine W_assign rfl rfl rfl ?_
      refine W_end ?_
      refine E_then ?_
      refine C_ret ?_
      refine E_ret_block ?_
      refine E_ret_then ?_
      refine E_ret_then ?_
      refine E_ret_block ?_
      refine E_ret_then ?_
      obtain rfl := Option.some.inj hm
      refine E_weak hle113 ?_
      exact end1 rfl rfl ⟨rfl, rfl, rfl⟩
    · have hm := ite_f' hb128 hm
      refine C_skip ?_
      refine E_normal_block ?_
      refine E_then ?_
      refine C_region ?_
      refine W_bin rfl rfl rfl rfl rfl ?_
      refine W_move rfl rfl rfl ?_
      refine W_end ?_
      exact E_keepJ (E_back (Nat.lt_succ_self _) ⟨k101 + 1, zs119, hd122, rfl, (by rw [hn116]; exact hm), hle113, rfl, rfl⟩) (List.Perm.refl _) ⟨rfl, rfl, rfl, (congrArg (fun z => some (Value.int .i64 z)) (i64_succN hy120 (toNat_max (len_max (h0).lenMax)))), trivial⟩
  · obtain rfl := rngN_f hd121 hb123
    have hm : (some (-1)) = some r := hm
    refine C_exit (E_exit_then ?_)
    refine E_exit_then ?_
    refine E_exit_hit ?_
    refine E_then ?_
    refine C_seq ?_
    refine C_region ?_
    refine W_assign rfl rfl rfl ?_
    refine W_end ?_
    refine E_then ?_
    refine C_ret ?_
    obtain rfl := Option.some.inj hm
    refine E_weak hle113 ?_
    exact end1 rfl rfl ⟨rfl, rfl, rfl⟩

theorem m_slices_ContainsFunc_api_Event_api_Event__gridhallkeep4_ArchiveParts_1_c {B : Nat} {w0 w : World} [Tabs B w0] {H : Hp} {M : List Res} {p0_s : (List S_api_Event)} {p1_f_0 : Int} {v0 : Value} {b0 : Nat} {r : Bool} (hm : m_slices_ContainsFunc_api_Event_api_Event__gridhallkeep4_ArchiveParts_1 p0_s p1_f_0 = some r) (h0 : RdS H v0 p0_s) (ht : St B w0 H (.obj b0 (.cells [.int .i64 (p1_f_0)].toArray 3 (0, 0)) :: M) w) :
    Calls Proofs.Tryd.prog 14 [v0, .func (.func 15) [].toArray [.pointer (some ⟨b0, 0, none⟩)].toArray].toArray w (Ret B w0 fun H' M' v => H = H' ∧ .obj b0 (.cells [.int .i64 (p1_f_0)].toArray 3 (0, 0)) :: M = M' ∧ .bool (r) = v) := by
  unfold m_slices_ContainsFunc_api_Event_api_Event__gridhallkeep4_ArchiveParts_1 at hm
  refine enter Proofs.Tryd.func14 rfl rfl rfl ht ?_
  refine C_seq ?_
  refine C_region ?_
  refine W_assign rfl rfl rfl ?_
  refine W_end ?_
  refine E_then ?_
  refine C_seq ?_
  refine C_region ?_
  refine W_move rfl rfl rfl ?_
  refine W_move rfl rfl rfl ?_
  obtain ⟨r101, hc102, hm⟩ := bind_some hm
  refine W_call Proofs.Tryd.call26 rfl rfl rfl (fun w ht => by have h := m_slices_IndexFunc_api_Event_api_Event__gridhallkeep4_ArchiveParts_1_c (hm := hc102) h0 ht; exact h) ?_
  rintro _ _ _ ⟨rfl, rfl, rfl⟩
  refine W_bin rfl rfl rfl rfl rfl ?_
  refine W_assign rfl rfl rfl ?_
  refine W_end ?_
  refine E_then ?_
  refine C_ret ?_
  obtain rfl := Option.some.inj hm
  refine E_weak (Hp.le_refl _) ?_
  exact end1 rfl rfl ⟨rfl, rfl, rfl⟩
end Go.Sim
