/-
  Printed by a program: each Go function computes its model.
-/
import Derived.Test.YtldmgakhhhjhoaaDoorConR1
namespace Go.Sim
open Go
set_option linter.unusedVariables false
set_option linter.unusedSimpArgs false
set_option maxRecDepth 100000
theorem m_archive_Recover_c {B : Nat} {w0 w : World} [Tabs B w0] {H : Hp} {M : List Res} {p0_s : ByteArray} {r : (Option S_archive_Archive) × Int × Int} (hm : m_archive_Recover p0_s = some r) (ht : St B w0 H (M) w) :
    Calls Proofs.Tryd.prog 16 [.string (p0_s)].toArray w (Ret B w0 fun H' M' v => (r.1 = none ∧ H.le H' ∧ M = M' ∧ .tuple #[.pointer none, .int .i64 (r.2.1), .int .i64 (r.2.2)] = v) ∨ (∃ qsp0 : S_archive_Archive, r.1 = some qsp0 ∧ H.le H' ∧ ∃ qb0 : Nat, ∃ qv0 : Value, ∃ qxs0 : List Value, .obj qb0 (.cells [qv0].toArray 51 (0, 0)) :: .row qv0 30 (Rep.sz S_api_Event) qsp0.all_.length qxs0 :: M = M' ∧ .tuple #[.pointer (some ⟨qb0, 0, none⟩), .int .i64 (r.2.1), .int .i64 (r.2.2)] = v ∧ Rw H' qv0 qxs0 qsp0.all_)) := by
  unfold m_archive_Recover at hm
  refine enter Proofs.Tryd.func16 rfl rfl rfl ht ?_
  refine C_seq ?_
  refine C_region ?_
  refine W_assign rfl rfl rfl ?_
  refine W_assign rfl rfl rfl ?_
  refine W_assign rfl rfl rfl ?_
  refine W_end ?_
  refine E_then ?_
  refine C_seq ?_
  refine C_seq ?_
  refine C_region ?_
  refine W_move rfl rfl rfl ?_
  refine W_lenStr rfl rfl Proofs.Tryd.runUnderlying9 rfl ?_
  refine W_bin rfl rfl rfl rfl rfl ?_
  refine W_end ?_
  refine E_then ?_
  refine C_cond (b := decide (65536 < (p0_s.size : Int))) rfl (fun hb101 => ?_) (fun hb101 => ?_)
  · have hm := ite_t' hb101 hm
    refine C_seq ?_
    refine C_region ?_
    refine W_assign rfl rfl rfl ?_
    refine W_assign rfl rfl rfl ?_
    refine W_assign rfl rfl rfl ?_
    refine W_end ?_
    refine E_then ?_
    refine C_ret ?_
    refine E_ret_then ?_
    obtain rfl := Option.some.inj hm
    exact end3 rfl rfl rfl rfl (.inl ⟨rfl, (Hp.le_refl _), rfl, rfl⟩)
  · have hm := ite_f' hb101 hm
    refine C_skip ?_
    refine E_then ?_
    refine C_seq ?_
    refine C_region ?_
    refine W_call Proofs.Tryd.call22 rfl rfl rfl (fun w ht => by have h := m_archive_New_c (hm := (rfl : m_archive_New = _))  ht; exact h) ?_
    rintro _ H113 _ (⟨hn107, hle109, rfl, rfl⟩ | ⟨sp102, hn110, hle112, b103, v104, xs105, rfl, rfl, h106⟩)
    · have hm := optC_n hn107 hm
      refine W_assign rfl rfl rfl ?_
      refine W_end ?_
      refine E_then ?_
      refine C_seq ?_
      refine C_region ?_
      refine W_assign rfl rfl rfl ?_
      refine W_assign rfl rfl rfl ?_
      refine W_end ?_
      refine E_then ?_
      refine C_block ?_
      refine C_keep (L' := [(0, .string (p0_s)), (5, .pointer none), (6, .int .i64 (0)), (7, .int .u64 (14695981039346656037))]) ⟨rfl, rfl, rfl, rfl, trivial⟩ (List.Perm.refl _) ?_
      refine C_loop (fun n H' M' L' => loopF (fun s218 n => m_archive_Recover_b1 p0_s n) n () = some r ∧ H113.le H' ∧ M = M' ∧ [(0, .string (p0_s)), (5, .pointer none), (6, .int .i64 (0)), (7, .int .u64 (14695981039346656037))] = L') FUEL ⟨hm, (Hp.le_refl _), rfl, rfl⟩ ?_
      rintro n221 H216 _ _ ⟨hm, hle217, rfl, rfl⟩
      cases n221 with
      | zero => cases hm
      | succ n221 =>
        have hm : m_archive_Recover_b1 p0_s (loopF (fun s218 n => m_archive_Recover_b1 p0_s n) n221) = some r := hm
        generalize hn220 : loopF (fun s218 n => m_archive_Recover_b1 p0_s n) n221 = nx219 at hm
        unfold m_archive_Recover_b1 at hm
        refine C_block ?_
        refine C_seq ?_
        refine C_region ?_
        refine W_move rfl rfl rfl ?_
        refine W_move rfl rfl rfl ?_
        obtain ⟨hz227, hm⟩ := need_some hm
        refine W_sliceStr (l := (0 : Int).toNat) (h := p0_s.size) rfl rfl Proofs.Tryd.runUnderlying9 rfl (.inl ⟨rfl, rfl⟩) (.inr ⟨_, _, _, rfl, rfl, by omega, by omega, rfl⟩) ?_
        obtain ⟨r228, hc229, hm⟩ := bind_some hm
        refine W_call Proofs.Tryd.call27 rfl rfl rfl (fun w ht => by have h := m_strings_Cut_c (hm := hc229)  ht; exact h) ?_
        rintro _ _ _ ⟨rfl, rfl, rfl⟩
        refine W_move rfl rfl rfl ?_
        refine W_extract rfl rfl rfl rfl ?_
        refine W_extract rfl rfl rfl rfl ?_
        refine W_extract rfl rfl rfl rfl ?_
        refine W_assign rfl rfl rfl ?_
        refine W_assign rfl rfl rfl ?_
        refine W_assign rfl rfl rfl ?_
        refine W_end ?_
        refine E_then ?_
        refine C_seq ?_
        refine C_region ?_
        refine W_move rfl rfl rfl ?_
        obtain ⟨r230, hc231, hm⟩ := bind_some hm
        refine W_call Proofs.Tryd.call28 rfl rfl rfl (fun w ht => by have h := m_strings_Split_c (hm := hc231)  ht; exact h) ?_
        rintro _ _ _ ⟨rfl, v232, xs233, rfl, rfl, h234⟩
        have h234 := h234 H216
        refine W_assign rfl rfl rfl ?_
        refine W_end ?_
        refine E_then ?_
        refine C_seq ?_
        refine C_seq_join (fun H' M' L' => H216 = H' ∧ .row v232 9 (Rep.sz ByteArray) r230.length xs233 :: M = M' ∧ [(0, .string (p0_s)), (5, .pointer none), (6, .int .i64 (0)), (7, .int .u64 (14695981039346656037)), (8, .string (r228.1)), (11, v232), (40, .bool ((!r228.2.2) || (!decide ((r230.length : Int) = 5))))] = L') ?_ (fun J236 => ?_)
        · rintro _ _ _ ⟨rfl, rfl, rfl⟩
          refine C_cond (b := (!r228.2.2) || (!decide ((r230.length : Int) = 5))) rfl (fun hb237 => ?_) (fun hb237 => ?_)
          · have hm := ite_t' hb237 hm
            refine C_seq ?_
            refine C_region ?_
            refine W_move rfl rfl rfl ?_
            refine W_move rfl rfl rfl ?_
            refine W_assign rfl rfl rfl ?_
            refine W_assign rfl rfl rfl ?_
            refine W_assign rfl rfl rfl ?_
            refine W_end ?_
            refine E_then ?_
            refine C_ret ?_
            refine E_ret_then ?_
            refine E_ret_block ?_
            refine E_ret_then ?_
            refine E_ret_block ?_
            obtain rfl := Option.some.inj hm
            refine E_drop (List.Sublist.cons _ (List.Sublist.refl _)) ?_
            exact end3 rfl rfl rfl rfl (.inl ⟨rfl, (Hp.le_trans hle109 hle217), rfl, rfl⟩)
          · have hm := ite_f' hb237 hm
            refine C_skip ?_
            refine E_then ?_
            refine C_seq ?_
            refine C_region ?_
            refine W_move rfl rfl rfl ?_
            obtain ⟨y238, h239, he240, hm⟩ := idx_some hm
            refine W_indexO (List.mem_cons_self ..) rfl rfl Proofs.Tryd.runUnderlying58 Proofs.Tryd.sizeOf9 rfl rfl h239 (List.getElem?_eq_some_iff.1 he240).1 ?_
            obtain ⟨_, rfl, hg241⟩ := (h234).elem he240
            refine W_load rfl rfl Proofs.Tryd.isAgg9 rfl (row_one0 (List.mem_cons_self ..) hg241 rfl) ?_
            obtain ⟨hz242, hm⟩ := need_some hm
            refine W_call Proofs.Tryd.call29 rfl rfl rfl (fun w ht => by have h := atoi29_c hz242 ht; exact h) ?_
            rintro _ _ _ ⟨rfl, v243, rfl, rfl, he244⟩
            refine W_move rfl rfl rfl ?_
            refine W_extract rfl rfl rfl rfl ?_
            refine W_extract rfl rfl rfl rfl ?_
            refine W_assign rfl rfl rfl ?_
            refine W_assign rfl rfl rfl ?_
            refine W_end ?_
            refine E_then ?_
            refine C_seq ?_
            refine C_region ?_
            refine W_move rfl rfl rfl ?_
            obtain ⟨y245, h246, he247, hm⟩ := idx_some hm
            refine W_indexO (List.mem_cons_self ..) rfl rfl Proofs.Tryd.runUnderlying58 Proofs.Tryd.sizeOf9 rfl rfl h246 (List.getElem?_eq_some_iff.1 he247).1 ?_
            obtain ⟨_, rfl, hg248⟩ := (h234).elem he247
            refine W_load rfl rfl Proofs.Tryd.isAgg9 rfl (row_one0 (List.mem_cons_self ..) hg248 rfl) ?_
            obtain ⟨hz249, hm⟩ := need_some hm
            refine W_call Proofs.Tryd.call29 rfl rfl rfl (fun w ht => by have h := atoi29_c hz249 ht; exact h) ?_
            rintro _ _ _ ⟨rfl, v250, rfl, rfl, he251⟩
            refine W_move rfl rfl rfl ?_
            refine W_extract rfl rfl rfl rfl ?_
            refine W_extract rfl rfl rfl rfl ?_
            refine W_assign rfl rfl rfl ?_
            refine W_assign rfl rfl rfl ?_
            refine W_end ?_
            refine E_then ?_
            refine C_seq ?_
            obtain ⟨y252, h253, he254, hm⟩ := idx_some hm
            obtain ⟨_, rfl, hg255⟩ := (h234).elem he254
            obtain ⟨y256, h257, he258, hm⟩ := idx_some hm
            obtain ⟨_, rfl, hg259⟩ := (h234).elem he258
            refine C_region_tok0 10 (phiT [(fun H rs v => [] = rs ∧ .int .i64 ((atoiB y238).1) = v), (fun H rs v => [] = rs ∧ v232 = v), (fun H rs v => [] = rs ∧ .pointer (some ((Value.base (v232)).add ((1 : Int).toNat * Rep.sz ByteArray))) = v), (fun H rs v => [] = rs ∧ .string (y252) = v), (fun H rs v => [] = rs ∧ v232 = v), (fun H rs v => [] = rs ∧ .pointer (some ((Value.base (v232)).add ((2 : Int).toNat * Rep.sz ByteArray))) = v), (fun H rs v => [] = rs ∧ .string (y256) = v), (fun H rs v => [] = rs ∧ .int .i64 ((atoiB y245).1) = v), (fun H rs v => [] = rs ∧ .agg [.int .i64 ((atoiB y238).1), .string (y252), .string (y256), .int .i64 ((atoiB y245).1)].toArray = v), (fun H rs v => ∃ b261 : Nat, [.obj b261 (.cells [.int .i64 (0), .string (⟨#[]⟩), .string (⟨#[]⟩), .int .i64 (0)].toArray 30 (0, 0))] = rs ∧ .pointer (some ⟨b261, 0, none⟩) = v)]) [[], [], [], [], [], [], [], [], [], []] [[], [], [], [], [], [], [], [], [], []] [] [0, 1, 2, 3, 4, 5, 6, 7, 8, 9] Facts.mixed (by kernel_rfl) rfl rfl rfl (by kernel_rfl) (phiT_mono ⟨eq_monoT _ _, eq_monoT _ _, eq_monoT _ _, eq_monoT _ _, eq_monoT _ _, eq_monoT _ _, eq_monoT _ _, eq_monoT _ _, eq_monoT _ _, (by rintro H1 H2 rs v hle ⟨b261, rfl, rfl⟩; exact ⟨b261, rfl, rfl⟩), trivial⟩) ⟨?_, ?_, ?_, ?_, ?_, ?_, ?_, ?_, ?_, ?_, trivial⟩ ?_
            · intro HX hX X Rest hR
              intro hU hUp
              refine W_move rfl rfl rfl ?_
              exact W_end (OneT_end [] (Hp.le_refl _) ⟨rfl, rfl⟩)
            · intro HX hX X Rest hR
              intro hU hUp
              refine W_move rfl rfl rfl ?_
              exact W_end (OneT_end [] (Hp.le_refl _) ⟨rfl, rfl⟩)
            · intro HX hX X Rest hR
              rintro _ _ ⟨rfl, rfl⟩
              intro hU hUp
              refine W_indexO (hR _ (List.mem_cons_self ..)) rfl rfl Proofs.Tryd.runUnderlying58 Proofs.Tryd.sizeOf9 rfl rfl h253 (List.getElem?_eq_some_iff.1 he254).1 ?_
              exact W_end (OneT_end [] (Hp.le_refl _) ⟨rfl, rfl⟩)
            · intro HX hX X Rest hR
              rintro _ _ ⟨rfl, rfl⟩
              intro hU hUp
              refine W_load rfl rfl Proofs.Tryd.isAgg9 rfl (row_one0 (hR _ (List.mem_cons_self ..)) hg255 rfl) ?_
              exact W_end (OneT_end [] (Hp.le_refl _) ⟨rfl, rfl⟩)
            · intro HX hX X Rest hR
              intro hU hUp
              refine W_move rfl rfl rfl ?_
              exact W_end (OneT_end [] (Hp.le_refl _) ⟨rfl, rfl⟩)
            · intro HX hX X Rest hR
              rintro _ _ ⟨rfl, rfl⟩
              intro hU hUp
              refine W_indexO (hR _ (List.mem_cons_self ..)) rfl rfl Proofs.Tryd.runUnderlying58 Proofs.Tryd.sizeOf9 rfl rfl h257 (List.getElem?_eq_some_iff.1 he258).1 ?_
              exact W_end (OneT_end [] (Hp.le_refl _) ⟨rfl, rfl⟩)
            · intro HX hX X Rest hR
              rintro _ _ ⟨rfl, rfl⟩
              intro hU hUp
              refine W_load rfl rfl Proofs.Tryd.isAgg9 rfl (row_one0 (hR _ (List.mem_cons_self ..)) hg259 rfl) ?_
              exact W_end (OneT_end [] (Hp.le_refl _) ⟨rfl, rfl⟩)
            · intro HX hX X Rest hR
              intro hU hUp
              refine W_move rfl rfl rfl ?_
              exact W_end (OneT_end [] (Hp.le_refl _) ⟨rfl, rfl⟩)
            · intro HX hX X Rest hR
              rintro _ _ ⟨rfl, rfl⟩
              rintro _ _ ⟨rfl, rfl⟩
              rintro _ _ ⟨rfl, rfl⟩
              rintro _ _ ⟨rfl, rfl⟩
              intro hU hUp
              refine W_build (css := [[.int .i64 ((atoiB y238).1)], [.string (y252)], [.string (y256)], [.int .i64 ((atoiB y245).1)]]) (zs := [.int .i64 (0), .string (⟨#[]⟩), .string (⟨#[]⟩), .int .i64 (0)]) (out := [.int .i64 ((atoiB y238).1), .string (y252), .string (y256), .int .i64 ((atoiB y245).1)]) (places := [(0, 1), (1, 1), (2, 1), (3, 1)]) rfl rfl rfl ⟨rfl, rfl, rfl, rfl, trivial⟩ Proofs.Tryd.zeroValue30 rfl Proofs.Tryd.runUnderlying30 (fun w => by kernel_rfl) rfl ?_
              exact W_end (OneT_end [] (Hp.le_refl _) ⟨rfl, rfl⟩)
            · intro HX hX X Rest hR
              intro hU hUp
              refine W_alloc (cs := [.int .i64 (0), .string (⟨#[]⟩), .string (⟨#[]⟩), .int .i64 (0)]) rfl rfl Proofs.Tryd.zeroValue30 rfl (fun b261 => ?_)
              exact W_end (OneT_end [.obj b261 (.cells [.int .i64 (0), .string (⟨#[]⟩), .string (⟨#[]⟩), .int .i64 (0)].toArray 30 (0, 0))] (Hp.le_refl _) ⟨b261, rfl, rfl⟩)
            intro H262 hle263
            rintro _ _ ⟨rfl, rfl⟩
            rintro _ _ ⟨rfl, rfl⟩
            rintro _ _ ⟨rfl, rfl⟩
            rintro _ _ ⟨rfl, rfl⟩
            rintro _ _ ⟨rfl, rfl⟩
            rintro _ _ ⟨rfl, rfl⟩
            rintro _ _ ⟨rfl, rfl⟩
            rintro _ _ ⟨rfl, rfl⟩
            rintro _ _ ⟨rfl, rfl⟩
            rintro _ _ ⟨b261, rfl, rfl⟩
            refine W_as (M' := .obj b261 (.cells [.int .i64 (0), .string (⟨#[]⟩), .string (⟨#[]⟩), .int .i64 (0)].toArray 30 (0, 0)) :: .row v232 9 (Rep.sz ByteArray) r230.length xs233 :: M) rfl ?_
            refine W_store (cs := [.int .i64 ((atoiB y238).1), .string (y252), .string (y256), .int .i64 ((atoiB y245).1)]) (out := [.int .i64 ((atoiB y238).1), .string (y252), .string (y256), .int .i64 ((atoiB y245).1)]) rfl Proofs.Tryd.sizeOf30 rfl rfl rfl rfl rfl (all_cons rfl (all_cons rfl (all_cons rfl (all_cons rfl all_nil)))) (over_all rfl) ?_
            refine W_end ?_
            refine E_then ?_
            refine C_seq ?_
            refine C_region ?_
            refine W_move rfl rfl rfl ?_
            refine W_loadAgg rfl rfl Proofs.Tryd.isAgg30 Proofs.Tryd.sizeOf30 rfl (own_all (List.mem_cons_self ..)) rfl ?_
            obtain ⟨r264, hc265, hm⟩ := bind_some hm
            refine W_call Proofs.Tryd.call31 rfl rfl rfl (fun w ht => by have h := m_archive_line_c (hm := hc265)  ht; exact h) ?_
            rintro _ _ _ ⟨rfl, rfl, rfl⟩
            obtain ⟨r266, hc267, hm⟩ := bind_some hm
            refine W_call Proofs.Tryd.call30 rfl rfl rfl (fun w ht => by have h := m_archive_digest_c (hm := hc267)  ht; exact h) ?_
            rintro _ _ _ ⟨rfl, rfl, rfl⟩
            refine W_assign rfl rfl rfl ?_
            refine W_end ?_
            refine E_then ?_
            refine C_seq ?_
            refine C_seq ?_
            refine C_region ?_
            refine W_move rfl rfl rfl ?_
            refine W_errNe Proofs.Tryd.runUnderlying61 he244 rfl rfl rfl ?_
            refine W_move rfl rfl rfl ?_
            cases hb268 : ((atoiB y238).2)
            · have hm := ite_f' hb268 hm
              refine W_move rfl rfl rfl ?_
              refine W_errNe Proofs.Tryd.runUnderlying61 he251 rfl rfl rfl ?_
              refine W_pick rfl rfl rfl rfl ?_
              refine W_move rfl rfl rfl ?_
              cases hb269 : ((atoiB y245).2)
              · have hm := ite_f' hb269 hm
                refine W_loadAgg rfl rfl Proofs.Tryd.isAgg30 Proofs.Tryd.sizeOf30 rfl (own_all (List.mem_cons_self ..)) rfl ?_
                obtain ⟨r270, hc271, hm⟩ := bind_some hm
                refine W_call Proofs.Tryd.call31 rfl rfl rfl (fun w ht => by have h := m_archive_line_c (hm := hc271)  ht; exact h) ?_
                rintro _ _ _ ⟨rfl, rfl, rfl⟩
                obtain ⟨hq272, hm⟩ := need_some hm
                refine W_addStr rfl rfl rfl rfl hq272 ?_
                refine W_move rfl rfl rfl ?_
                obtain ⟨r273, hc274, hm⟩ := bind_some hm
                refine W_call Proofs.Tryd.call32 rfl rfl rfl (fun w ht => by have h := m_strconv_FormatUint_c (hm := hc274)  ht; exact h) ?_
                rintro _ _ _ ⟨rfl, rfl, rfl⟩
                obtain ⟨hq275, hm⟩ := need_some hm
                refine W_addStr rfl rfl rfl rfl hq275 ?_
                refine W_move rfl rfl rfl ?_
                refine W_bin rfl rfl rfl rfl rfl ?_
                refine W_pick rfl rfl rfl rfl ?_
                refine W_end ?_
                refine E_then ?_
                refine C_cond (b := !decide (((r270 ++ (⟨#[32]⟩)) ++ r273) = r228.1)) rfl (fun hb276 => ?_) (fun hb276 => ?_)
                · have hm := ite_t' hb276 hm
                  refine C_seq ?_
                  refine C_region ?_
                  refine W_move rfl rfl rfl ?_
                  refine W_move rfl rfl rfl ?_
                  refine W_assign rfl rfl rfl ?_
                  refine W_assign rfl rfl rfl ?_
                  refine W_assign rfl rfl rfl ?_
                  refine W_end ?_
                  refine E_then ?_
                  refine C_ret ?_
                  refine E_ret_then ?_
                  refine E_ret_block ?_
                  refine E_ret_then ?_
                  refine E_ret_block ?_
                  obtain rfl := Option.some.inj hm
                  refine E_drop (List.Sublist.cons _ (List.Sublist.cons _ (List.Sublist.refl _))) ?_
                  exact end3 rfl rfl rfl rfl (.inl ⟨rfl, (Hp.le_trans (Hp.le_trans hle109 hle217) hle263), rfl, rfl⟩)
                · have hm := ite_f' hb276 hm
                  refine C_skip ?_
                  refine E_then ?_
                  refine C_seq ?_
                  refine C_seq ?_
                  cases hm
              · have hm := ite_t' hb269 hm
                refine W_no rfl rfl rfl ?_
                refine W_no rfl rfl rfl ?_
                refine W_no rfl rfl rfl ?_
                refine W_no rfl rfl rfl ?_
                refine W_no rfl rfl rfl ?_
                refine W_no rfl rfl rfl ?_
                refine W_no rfl rfl rfl ?_
                refine W_no rfl rfl rfl ?_
                refine W_pick rfl rfl rfl rfl ?_
                refine W_end ?_
                refine E_then ?_
                refine C_cond (b := true) rfl (fun _ => ?_) (fun hb => Bool.noConfusion hb)
                refine C_seq ?_
                refine C_region ?_
                refine W_move rfl rfl rfl ?_
                refine W_move rfl rfl rfl ?_
                refine W_assign rfl rfl rfl ?_
                refine W_assign rfl rfl rfl ?_
                refine W_assign rfl rfl rfl ?_
                refine W_end ?_
                refine E_then ?_
                refine C_ret ?_
                refine E_ret_then ?_
                refine E_ret_block ?_
                refine E_ret_then ?_
                refine E_ret_block ?_
                obtain rfl := Option.some.inj hm
                refine E_drop (List.Sublist.cons _ (List.Sublist.cons _ (List.Sublist.refl _))) ?_
                exact end3 rfl rfl rfl rfl (.inl ⟨rfl, (Hp.le_trans (Hp.le_trans hle109 hle217) hle263), rfl, rfl⟩)
            · have hm := ite_t' hb268 hm
              refine W_no rfl rfl rfl ?_
              refine W_no rfl rfl rfl ?_
              refine W_pick rfl rfl rfl rfl ?_
              refine W_move rfl rfl rfl ?_
              refine W_no rfl rfl rfl ?_
              refine W_no rfl rfl rfl ?_
              refine W_no rfl rfl rfl ?_
              refine W_no rfl rfl rfl ?_
              refine W_no rfl rfl rfl ?_
              refine W_no rfl rfl rfl ?_
              refine W_no rfl rfl rfl ?_
              refine W_no rfl rfl rfl ?_
              refine W_pick rfl rfl rfl rfl ?_
              refine W_end ?_
              refine E_then ?_
              refine C_cond (b := true) rfl (fun _ => ?_) (fun hb => Bool.noConfusion hb)
              refine C_seq ?_
              refine C_region ?_
              refine W_move rfl rfl rfl ?_
              refine W_move rfl rfl rfl ?_
              refine W_assign rfl rfl rfl ?_
              refine W_assign rfl rfl rfl ?_
              refine W_assign rfl rfl rfl ?_
              refine W_end ?_
              refine E_then ?_
              refine C_ret ?_
              refine E_ret_then ?_
              refine E_ret_block ?_
              refine E_ret_then ?_
              refine E_ret_block ?_
              obtain rfl := Option.some.inj hm
              refine E_drop (List.Sublist.cons _ (List.Sublist.cons _ (List.Sublist.refl _))) ?_
              exact end3 rfl rfl rfl rfl (.inl ⟨rfl, (Hp.le_trans (Hp.le_trans hle109 hle217) hle263), rfl, rfl⟩)
        · refine C_region ?_
          refine W_move rfl rfl rfl ?_
          refine W_un rfl rfl rfl rfl ?_
          refine W_move rfl rfl rfl ?_
          cases hb277 : (r228.2.2)
          · refine W_no rfl rfl rfl ?_
            refine W_no rfl rfl rfl ?_
            refine W_no rfl rfl rfl ?_
            refine W_pick rfl rfl rfl rfl ?_
            refine W_end ?_
            exact E_keepJ (J236 _ _ _ ⟨rfl, rfl, rfl⟩) (List.Perm.refl _) ⟨rfl, rfl, rfl, rfl, rfl, rfl, (by show some (Value.bool (true)) = some (Value.bool ((!r228.2.2) || (!decide ((r230.length : Int) = 5)))); simp only [hb101, hb277, Bool.and_true, Bool.true_and, Bool.false_and, Bool.and_false, Bool.or_true, Bool.true_or, Bool.or_false, Bool.false_or, Bool.not_true, Bool.not_false]), trivial⟩
          · refine W_move rfl rfl rfl ?_
            refine W_lenO (List.mem_cons_self ..) rfl rfl Proofs.Tryd.runUnderlying58 rfl ?_
            refine W_bin rfl rfl rfl rfl rfl ?_
            refine W_pick rfl rfl rfl rfl ?_
            refine W_end ?_
            exact E_keepJ (J236 _ _ _ ⟨rfl, rfl, rfl⟩) (List.Perm.refl _) ⟨rfl, rfl, rfl, rfl, rfl, rfl, (by show some (Value.bool (!decide ((r230.length : Int) = 5))) = some (Value.bool ((!r228.2.2) || (!decide ((r230.length : Int) = 5)))); simp only [hb101, hb277, Bool.and_true, Bool.true_and, Bool.false_and, Bool.and_false, Bool.or_true, Bool.true_or, Bool.or_false, Bool.false_or, Bool.not_true, Bool.not_false]), trivial⟩
    · have hm := optC_s hn110 hm
      refine W_assign rfl rfl rfl ?_
      refine W_end ?_
      refine E_then ?_
      refine C_seq ?_
      refine C_region ?_
      refine W_assign rfl rfl rfl ?_
      refine W_assign rfl rfl rfl ?_
      refine W_end ?_
      refine E_then ?_
      refine C_block ?_
      refine C_keep (L' := [(0, .string (p0_s)), (5, .pointer (some ⟨b103, 0, none⟩)), (6, .int .i64 (0)), (7, .int .u64 (14695981039346656037))]) ⟨rfl, rfl, rfl, rfl, trivial⟩ (List.Perm.swap _ _ _) ?_
      refine C_loop (fun n H' M' L' => ∃ n410 : Int, ∃ n411 : Int, ∃ l414 : List S_api_Event, ∃ v412 : Value, ∃ xs413 : List Value, loopF (fun s418 n => m_archive_Recover_b2 p0_s s418.1 s418.2.1 s418.2.2 n) n (n410, n411, l414) = some r ∧ Rw H' v412 xs413 l414 ∧ H113.le H' ∧ .row v412 30 (Rep.sz S_api_Event) l414.length xs413 :: .obj b103 (.cells [v412].toArray 51 (0, 0)) :: M = M' ∧ [(0, .string (p0_s)), (5, .pointer (some ⟨b103, 0, none⟩)), (6, .int .i64 (n410)), (7, .int .u64 (n411))] = L') FUEL ⟨0, 14695981039346656037, sp102.all_, v104, xs105, hm, h106, (Hp.le_refl _), rfl, rfl⟩ ?_
      rintro n421 H416 _ _ ⟨n410, n411, l414, v412, xs413, hm, hr415, hle417, rfl, rfl⟩
      cases n421 with
      | zero => cases hm
      | succ n421 =>
        have hm : m_archive_Recover_b2 p0_s n410 n411 l414 (loopF (fun s418 n => m_archive_Recover_b2 p0_s s418.1 s418.2.1 s418.2.2 n) n421) = some r := hm
        generalize hn420 : loopF (fun s418 n => m_archive_Recover_b2 p0_s s418.1 s418.2.1 s418.2.2 n) n421 = nx419 at hm
        unfold m_archive_Recover_b2 at hm
        refine C_block ?_
        refine C_seq ?_
        refine C_region ?_
        refine W_move rfl rfl rfl ?_
        refine W_move rfl rfl rfl ?_
        obtain ⟨hz427, hm⟩ := need_some hm
        refine W_sliceStr (l := (n410 : Int).toNat) (h := p0_s.size) rfl rfl Proofs.Tryd.runUnderlying9 rfl (.inl ⟨rfl, rfl⟩) (.inr ⟨_, _, _, rfl, rfl, by omega, by omega, rfl⟩) ?_
        obtain ⟨r428, hc429, hm⟩ := bind_some hm
        refine W_call Proofs.Tryd.call27 rfl rfl rfl (fun w ht => by have h := m_strings_Cut_c (hm := hc429)  ht; exact h) ?_
        rintro _ _ _ ⟨rfl, rfl, rfl⟩
        refine W_move rfl rfl rfl ?_
        refine W_extract rfl rfl rfl rfl ?_
        refine W_extract rfl rfl rfl rfl ?_
        refine W_extract rfl rfl rfl rfl ?_
        refine W_assign rfl rfl rfl ?_
        refine W_assign rfl rfl rfl ?_
        refine W_assign rfl rfl rfl ?_
        refine W_end ?_
        refine E_then ?_
        refine C_seq ?_
        refine C_region ?_
        refine W_move rfl rfl rfl ?_
        obtain ⟨r430, hc431, hm⟩ := bind_some hm
        refine W_call Proofs.Tryd.call28 rfl rfl rfl (fun w ht => by have h := m_strings_Split_c (hm := hc431)  ht; exact h) ?_
        rintro _ _ _ ⟨rfl, v432, xs433, rfl, rfl, h434⟩
        have h434 := h434 H416
        refine W_assign rfl rfl rfl ?_
        refine W_end ?_
        refine E_then ?_
        refine C_seq ?_
        refine C_seq_join (fun H' M' L' => H416 = H' ∧ .row v432 9 (Rep.sz ByteArray) r430.length xs433 :: .row v412 30 (Rep.sz S_api_Event) l414.length xs413 :: .obj b103 (.cells [v412].toArray 51 (0, 0)) :: M = M' ∧ [(0, .string (p0_s)), (5, .pointer (some ⟨b103, 0, none⟩)), (6, .int .i64 (n410)), (7, .int .u64 (n411)), (8, .string (r428.1)), (11, v432), (40, .bool ((!r428.2.2) || (!decide ((r430.length : Int) = 5))))] = L') ?_ (fun J436 => ?_)
        · rintro _ _ _ ⟨rfl, rfl, rfl⟩
          refine C_cond (b := (!r428.2.2) || (!decide ((r430.length : Int) = 5))) rfl (fun hb437 => ?_) (fun hb437 => ?_)
          · have hm := ite_t' hb437 hm
            refine C_seq ?_
            refine C_region ?_
            refine W_move rfl rfl rfl ?_
            refine W_move rfl rfl rfl ?_
            refine W_assign rfl rfl rfl ?_
            refine W_assign rfl rfl rfl ?_
            refine W_assign rfl rfl rfl ?_
            refine W_end ?_
            refine E_then ?_
            refine C_ret ?_
            refine E_ret_then ?_
            refine E_ret_block ?_
            refine E_ret_then ?_
            refine E_ret_block ?_
            obtain rfl := Option.some.inj hm
            refine E_drop (List.Sublist.cons _ (List.Sublist.refl _)) ?_
            refine E_perm (List.Perm.swap _ _ _) ?_
            exact end3 rfl rfl rfl rfl (.inr ⟨(S_archive_Archive.mk l414), rfl, (Hp.le_trans hle112 hle417), b103, v412, xs413, rfl, rfl, hr415⟩)
          · have hm := ite_f' hb437 hm
            refine C_skip ?_
            refine E_then ?_
            refine C_seq ?_
            refine C_region ?_
            refine W_move rfl rfl rfl ?_
            obtain ⟨y438, h439, he440, hm⟩ := idx_some hm
            refine W_indexO (List.mem_cons_self ..) rfl rfl Proofs.Tryd.runUnderlying58 Proofs.Tryd.sizeOf9 rfl rfl h439 (List.getElem?_eq_some_iff.1 he440).1 ?_
            obtain ⟨_, rfl, hg441⟩ := (h434).elem he440
            refine W_load rfl rfl Proofs.Tryd.isAgg9 rfl (row_one0 (List.mem_cons_self ..) hg441 rfl) ?_
            obtain ⟨hz442, hm⟩ := need_some hm
            refine W_call Proofs.Tryd.call29 rfl rfl rfl (fun w ht => by have h := atoi29_c hz442 ht; exact h) ?_
            rintro _ _ _ ⟨rfl, v443, rfl, rfl, he444⟩
            refine W_move rfl rfl rfl ?_
            refine W_extract rfl rfl rfl rfl ?_
            refine W_extract rfl rfl rfl rfl ?_
            refine W_assign rfl rfl rfl ?_
            refine W_assign rfl rfl rfl ?_
            refine W_end ?_
            refine E_then ?_
            refine C_seq ?_
            refine C_region ?_
            refine W_move rfl rfl rfl ?_
            obtain ⟨y445, h446, he447, hm⟩ := idx_some hm
            refine W_indexO (List.mem_cons_self ..) rfl rfl Proofs.Tryd.runUnderlying58 Proofs.Tryd.sizeOf9 rfl rfl h446 (List.getElem?_eq_some_iff.1 he447).1 ?_
            obtain ⟨_, rfl, hg448⟩ := (h434).elem he447
            refine W_load rfl rfl Proofs.Tryd.isAgg9 rfl (row_one0 (List.mem_cons_self ..) hg448 rfl) ?_
            obtain ⟨hz449, hm⟩ := need_some hm
            refine W_call Proofs.Tryd.call29 rfl rfl rfl (fun w ht => by have h := atoi29_c hz449 ht; exact h) ?_
            rintro _ _ _ ⟨rfl, v450, rfl, rfl, he451⟩
            refine W_move rfl rfl rfl ?_
            refine W_extract rfl rfl rfl rfl ?_
            refine W_extract rfl rfl rfl rfl ?_
            refine W_assign rfl rfl rfl ?_
            refine W_assign rfl rfl rfl ?_
            refine W_end ?_
            refine E_then ?_
            refine C_seq ?_
            obtain ⟨y452, h453, he454, hm⟩ := idx_some hm
            obtain ⟨_, rfl, hg455⟩ := (h434).elem he454
            obtain ⟨y456, h457, he458, hm⟩ := idx_some hm
            obtain ⟨_, rfl, hg459⟩ := (h434).elem he458
            refine C_region_tok0 10 (phiT [(fun H rs v => [] = rs ∧ .int .i64 ((atoiB y438).1) = v), (fun H rs v => [] = rs ∧ v432 = v), (fun H rs v => [] = rs ∧ .pointer (some ((Value.base (v432)).add ((1 : Int).toNat * Rep.sz ByteArray))) = v), (fun H rs v => [] = rs ∧ .string (y452) = v), (fun H rs v => [] = rs ∧ v432 = v), (fun H rs v => [] = rs ∧ .pointer (some ((Value.base (v432)).add ((2 : Int).toNat * Rep.sz ByteArray))) = v), (fun H rs v => [] = rs ∧ .string (y456) = v), (fun H rs v => [] = rs ∧ .int .i64 ((atoiB y445).1) = v), (fun H rs v => [] = rs ∧ .agg [.int .i64 ((atoiB y438).1), .string (y452), .string (y456), .int .i64 ((atoiB y445).1)].toArray = v), (fun H rs v => ∃ b461 : Nat, [.obj b461 (.cells [.int .i64 (0), .string (⟨#[]⟩), .string (⟨#[]⟩), .int .i64 (0)].toArray 30 (0, 0))] = rs ∧ .pointer (some ⟨b461, 0, none⟩) = v)]) [[], [], [], [], [], [], [], [], [], []] [[], [], [], [], [], [], [], [], [], []] [] [0, 1, 2, 3, 4, 5, 6, 7, 8, 9] Facts.mixed (by kernel_rfl) rfl rfl rfl (by kernel_rfl) (phiT_mono ⟨eq_monoT _ _, eq_monoT _ _, eq_monoT _ _, eq_monoT _ _, eq_monoT _ _, eq_monoT _ _, eq_monoT _ _, eq_monoT _ _, eq_monoT _ _, (by rintro H1 H2 rs v hle ⟨b461, rfl, rfl⟩; exact ⟨b461, rfl, rfl⟩), trivial⟩) ⟨?_, ?_, ?_, ?_, ?_, ?_, ?_, ?_, ?_, ?_, trivial⟩ ?_
            · intro HX hX X Rest hR
              intro hU hUp
              refine W_move rfl rfl rfl ?_
              exact W_end (OneT_end [] (Hp.le_refl _) ⟨rfl, rfl⟩)
            · intro HX hX X Rest hR
              intro hU hUp
              refine W_move rfl rfl rfl ?_
              exact W_end (OneT_end [] (Hp.le_refl _) ⟨rfl, rfl⟩)
            · intro HX hX X Rest hR
              rintro _ _ ⟨rfl, rfl⟩
              intro hU hUp
              refine W_indexO (hR _ (List.mem_cons_self ..)) rfl rfl Proofs.Tryd.runUnderlying58 Proofs.Tryd.sizeOf9 rfl rfl h453 (List.getElem?_eq_some_iff.1 he454).1 ?_
              exact W_end (OneT_end [] (Hp.le_refl _) ⟨rfl, rfl⟩)
            · intro HX hX X Rest hR
              rintro _ _ ⟨rfl, rfl⟩
              intro hU hUp
              refine W_load rfl rfl Proofs.Tryd.isAgg9 rfl (row_one0 (hR _ (List.mem_cons_self ..)) hg455 rfl) ?_
              exact W_end (OneT_end [] (Hp.le_refl _) ⟨rfl, rfl⟩)
            · intro HX hX X Rest hR
              intro hU hUp
              refine W_move rfl rfl rfl ?_
              exact W_end (OneT_end [] (Hp.le_refl _) ⟨rfl, rfl⟩)
            · intro HX hX X Rest hR
              rintro _ _ ⟨rfl, rfl⟩
              intro hU hUp
              refine W_indexO (hR _ (List.mem_cons_self ..)) rfl rfl Proofs.Tryd.runUnderlying58 Proofs.Tryd.sizeOf9 rfl rfl h457 (List.getElem?_eq_some_iff.1 he458).1 ?_
              exact W_end (OneT_end [] (Hp.le_refl _) ⟨rfl, rfl⟩)
            · intro HX hX X Rest hR
              rintro _ _ ⟨rfl, rfl⟩
              intro hU hUp
              refine W_load rfl rfl Proofs.Tryd.isAgg9 rfl (row_one0 (hR _ (List.mem_cons_self ..)) hg459 rfl) ?_
              exact W_end (OneT_end [] (Hp.le_refl _) ⟨rfl, rfl⟩)
            · intro HX hX X Rest hR
              intro hU hUp
              refine W_move rfl rfl rfl ?_
              exact W_end (OneT_end [] (Hp.le_refl _) ⟨rfl, rfl⟩)
            · intro HX hX X Rest hR
              rintro _ _ ⟨rfl, rfl⟩
              rintro _ _ ⟨rfl, rfl⟩
              rintro _ _ ⟨rfl, rfl⟩
              rintro _ _ ⟨rfl, rfl⟩
              intro hU hUp
              refine W_build (css := [[.int .i64 ((atoiB y438).1)], [.string (y452)], [.string (y456)], [.int .i64 ((atoiB y445).1)]]) (zs := [.int .i64 (0), .string (⟨#[]⟩), .string (⟨#[]⟩), .int .i64 (0)]) (out := [.int .i64 ((atoiB y438).1), .string (y452), .string (y456), .int .i64 ((atoiB y445).1)]) (places := [(0, 1), (1, 1), (2, 1), (3, 1)]) rfl rfl rfl ⟨rfl, rfl, rfl, rfl, trivial⟩ Proofs.Tryd.zeroValue30 rfl Proofs.Tryd.runUnderlying30 (fun w => by kernel_rfl) rfl ?_
              exact W_end (OneT_end [] (Hp.le_refl _) ⟨rfl, rfl⟩)
            · intro HX hX X Rest hR
              intro hU hUp
              refine W_alloc (cs := [.int .i64 (0), .string (⟨#[]⟩), .string (⟨#[]⟩), .int .i64 (0)]) rfl rfl Proofs.Tryd.zeroValue30 rfl (fun b461 => ?_)
              exact W_end (OneT_end [.obj b461 (.cells [.int .i64 (0), .string (⟨#[]⟩), .string (⟨#[]⟩), .int .i64 (0)].toArray 30 (0, 0))] (Hp.le_refl _) ⟨b461, rfl, rfl⟩)
            intro H462 hle463
            rintro _ _ ⟨rfl, rfl⟩
            rintro _ _ ⟨rfl, rfl⟩
            rintro _ _ ⟨rfl, rfl⟩
            rintro _ _ ⟨rfl, rfl⟩
            rintro _ _ ⟨rfl, rfl⟩
            rintro _ _ ⟨rfl, rfl⟩
            rintro _ _ ⟨rfl, rfl⟩
            rintro _ _ ⟨rfl, rfl⟩
            rintro _ _ ⟨rfl, rfl⟩
            rintro _ _ ⟨b461, rfl, rfl⟩
            refine W_as (M' := .obj b461 (.cells [.int .i64 (0), .string (⟨#[]⟩), .string (⟨#[]⟩), .int .i64 (0)].toArray 30 (0, 0)) :: .row v432 9 (Rep.sz ByteArray) r430.length xs433 :: .row v412 30 (Rep.sz S_api_Event) l414.length xs413 :: .obj b103 (.cells [v412].toArray 51 (0, 0)) :: M) rfl ?_
            refine W_store (cs := [.int .i64 ((atoiB y438).1), .string (y452), .string (y456), .int .i64 ((atoiB y445).1)]) (out := [.int .i64 ((atoiB y438).1), .string (y452), .string (y456), .int .i64 ((atoiB y445).1)]) rfl Proofs.Tryd.sizeOf30 rfl rfl rfl rfl rfl (all_cons rfl (all_cons rfl (all_cons rfl (all_cons rfl all_nil)))) (over_all rfl) ?_
            refine W_end ?_
            refine E_then ?_
            refine C_seq ?_
            refine C_region ?_
            refine W_move rfl rfl rfl ?_
            refine W_loadAgg rfl rfl Proofs.Tryd.isAgg30 Proofs.Tryd.sizeOf30 rfl (own_all (List.mem_cons_self ..)) rfl ?_
            obtain ⟨r464, hc465, hm⟩ := bind_some hm
            refine W_call Proofs.Tryd.call31 rfl rfl rfl (fun w ht => by have h := m_archive_line_c (hm := hc465)  ht; exact h) ?_
            rintro _ _ _ ⟨rfl, rfl, rfl⟩
            obtain ⟨r466, hc467, hm⟩ := bind_some hm
            refine W_call Proofs.Tryd.call30 rfl rfl rfl (fun w ht => by have h := m_archive_digest_c (hm := hc467)  ht; exact h) ?_
            rintro _ _ _ ⟨rfl, rfl, rfl⟩
            refine W_assign rfl rfl rfl ?_
            refine W_end ?_
            refine E_then ?_
            refine C_seq ?_
            refine C_seq ?_
            refine C_region ?_
            refine W_move rfl rfl rfl ?_
            refine W_errNe Proofs.Tryd.runUnderlying61 he444 rfl rfl rfl ?_
            refine W_move rfl rfl rfl ?_
            cases hb468 : ((atoiB y438).2)
            · have hm := ite_f' hb468 hm
              refine W_move rfl rfl rfl ?_
              refine W_errNe Proofs.Tryd.runUnderlying61 he451 rfl rfl rfl ?_
              refine W_pick rfl rfl rfl rfl ?_
              refine W_move rfl rfl rfl ?_
              cases hb469 : ((atoiB y445).2)
              · have hm := ite_f' hb469 hm
                refine W_loadAgg rfl rfl Proofs.Tryd.isAgg30 Proofs.Tryd.sizeOf30 rfl (own_all (List.mem_cons_self ..)) rfl ?_
                obtain ⟨r470, hc471, hm⟩ := bind_some hm
                refine W_call Proofs.Tryd.call31 rfl rfl rfl (fun w ht => by have h := m_archive_line_c (hm := hc471)  ht; exact h) ?_
                rintro _ _ _ ⟨rfl, rfl, rfl⟩
                obtain ⟨hq472, hm⟩ := need_some hm
                refine W_addStr rfl rfl rfl rfl hq472 ?_
                refine W_move rfl rfl rfl ?_
                obtain ⟨r473, hc474, hm⟩ := bind_some hm
                refine W_call Proofs.Tryd.call32 rfl rfl rfl (fun w ht => by have h := m_strconv_FormatUint_c (hm := hc474)  ht; exact h) ?_
                rintro _ _ _ ⟨rfl, rfl, rfl⟩
                obtain ⟨hq475, hm⟩ := need_some hm
                refine W_addStr rfl rfl rfl rfl hq475 ?_
                refine W_move rfl rfl rfl ?_
                refine W_bin rfl rfl rfl rfl rfl ?_
                refine W_pick rfl rfl rfl rfl ?_
                refine W_end ?_
                refine E_then ?_
                refine C_cond (b := !decide (((r470 ++ (⟨#[32]⟩)) ++ r473) = r428.1)) rfl (fun hb476 => ?_) (fun hb476 => ?_)
                · have hm := ite_t' hb476 hm
                  refine C_seq ?_
                  refine C_region ?_
                  refine W_move rfl rfl rfl ?_
                  refine W_move rfl rfl rfl ?_
                  refine W_assign rfl rfl rfl ?_
                  refine W_assign rfl rfl rfl ?_
                  refine W_assign rfl rfl rfl ?_
                  refine W_end ?_
                  refine E_then ?_
                  refine C_ret ?_
                  refine E_ret_then ?_
                  refine E_ret_block ?_
                  refine E_ret_then ?_
                  refine E_ret_block ?_
                  obtain rfl := Option.some.inj hm
                  refine E_drop (List.Sublist.cons _ (List.Sublist.cons _ (List.Sublist.refl _))) ?_
                  refine E_perm (List.Perm.swap _ _ _) ?_
                  exact end3 rfl rfl rfl rfl (.inr ⟨(S_archive_Archive.mk l414), rfl, (Hp.le_trans (Hp.le_trans hle112 hle417) hle463), b103, v412, xs413, rfl, rfl, (hr415.mono hle463)⟩)
                · have hm := ite_f' hb476 hm
                  refine C_skip ?_
                  refine E_then ?_
                  refine C_seq ?_
                  refine C_seq ?_
                  refine C_region ?_
                  refine W_move rfl rfl rfl ?_
                  refine W_loadAgg rfl rfl Proofs.Tryd.isAgg30 Proofs.Tryd.sizeOf30 rfl (own_all (List.mem_cons_self ..)) rfl ?_
                  refine W_perm (List.Perm.trans (List.Perm.cons _ (List.Perm.cons _ (List.Perm.swap _ _ _))) (List.Perm.trans (List.Perm.cons _ (List.Perm.swap _ _ _)) (List.Perm.trans (List.Perm.swap _ _ _) (List.Perm.trans (List.Perm.cons _ (List.Perm.cons _ (List.Perm.swap _ _ _))) (List.Perm.cons _ (List.Perm.swap _ _ _)))))) ?_
                  obtain ⟨r477, hc478, hm⟩ := bind_some hm
                  refine W_call Proofs.Tryd.call18 rfl rfl rfl (fun w ht => by have h := m_archive_Archive_Append_c (hm := hc478) (hr415.mono hle463) ht; exact h) ?_
                  rintro _ _ _ ⟨rfl, v480, xs481, rfl, rfl, h482⟩
                  have h482 := h482 H462
                  refine W_move rfl rfl rfl ?_
                  refine W_extract rfl rfl rfl rfl ?_
                  refine W_extract rfl rfl rfl rfl ?_
                  refine W_assign rfl rfl rfl ?_
                  refine W_assign rfl rfl rfl ?_
                  refine W_end ?_
                  refine E_then ?_
                  refine C_seq ?_
                  refine C_region ?_
                  refine W_move rfl rfl rfl ?_
                  refine W_bin rfl rfl rfl rfl rfl ?_
                  refine W_end ?_
                  refine E_then ?_
                  refine C_cond (b := !decide (r477.2.1 = 0)) rfl (fun hb483 => ?_) (fun hb483 => ?_)
                  · have hm := ite_t' hb483 hm
                    refine C_seq ?_
                    refine C_region ?_
                    refine W_move rfl rfl rfl ?_
                    refine W_move rfl rfl rfl ?_
                    refine W_assign rfl rfl rfl ?_
                    refine W_assign rfl rfl rfl ?_
                    refine W_assign rfl rfl rfl ?_
                    refine W_end ?_
                    refine E_then ?_
                    refine C_ret ?_
                    refine E_ret_then ?_
                    refine E_ret_block ?_
                    refine E_ret_then ?_
                    refine E_ret_block ?_
                    obtain rfl := Option.some.inj hm
                    refine E_drop (List.Sublist.cons_cons _ (List.Sublist.cons_cons _ (List.Sublist.cons _ (List.Sublist.cons _ (List.Sublist.refl _))))) ?_
                    exact end3 rfl rfl rfl rfl (.inr ⟨r477.2.2, rfl, (Hp.le_trans (Hp.le_trans hle112 hle417) hle463), b103, v480, xs481, rfl, rfl, h482⟩)
                  · have hm := ite_f' hb483 hm
                    refine C_skip ?_
                    refine E_then ?_
                    refine C_seq ?_
                    refine C_region ?_
                    refine W_move rfl rfl rfl ?_
                    refine W_assign rfl rfl rfl ?_
                    refine W_end ?_
                    refine E_then ?_
                    refine C_region ?_
                    refine W_move rfl rfl rfl ?_
                    refine W_move rfl rfl rfl ?_
                    refine W_lenStr rfl rfl Proofs.Tryd.runUnderlying9 rfl ?_
                    refine W_bin rfl rfl rfl rfl rfl ?_
                    refine W_bin rfl rfl rfl rfl rfl ?_
                    refine W_assign rfl rfl rfl ?_
                    refine W_end ?_
                    refine E_normal_block ?_
                    refine E_drop (List.Sublist.cons_cons _ (List.Sublist.cons_cons _ (List.Sublist.cons _ (List.Sublist.cons _ (List.Sublist.refl _))))) ?_
                    exact E_keepJ (E_back (Nat.lt_succ_self _) ⟨IntKind.i64.wrap (n410 + (IntKind.i64.wrap ((r428.1.size : Int) + 1))), r466, r477.2.2.all_, v480, xs481, (by rw [hn420]; exact hm), h482, (Hp.le_trans hle417 hle463), rfl, rfl⟩) (List.Perm.swap _ _ _) ⟨rfl, rfl, rfl, rfl, trivial⟩
              · have hm := ite_t' hb469 hm
                refine W_no rfl rfl rfl ?_
                refine W_no rfl rfl rfl ?_
                refine W_no rfl rfl rfl ?_
                refine W_no rfl rfl rfl ?_
                refine W_no rfl rfl rfl ?_
                refine W_no rfl rfl rfl ?_
                refine W_no rfl rfl rfl ?_
                refine W_no rfl rfl rfl ?_
                refine W_pick rfl rfl rfl rfl ?_
                refine W_end ?_
                refine E_then ?_
                refine C_cond (b := true) rfl (fun _ => ?_) (fun hb => Bool.noConfusion hb)
                refine C_seq ?_
                refine C_region ?_
                refine W_move rfl rfl rfl ?_
                refine W_move rfl rfl rfl ?_
                refine W_assign rfl rfl rfl ?_
                refine W_assign rfl rfl rfl ?_
                refine W_assign rfl rfl rfl ?_
                refine W_end ?_
                refine E_then ?_
                refine C_ret ?_
                refine E_ret_then ?_
                refine E_ret_block ?_
                refine E_ret_then ?_
                refine E_ret_block ?_
                obtain rfl := Option.some.inj hm
                refine E_drop (List.Sublist.cons _ (List.Sublist.cons _ (List.Sublist.refl _))) ?_
                refine E_perm (List.Perm.swap _ _ _) ?_
                exact end3 rfl rfl rfl rfl (.inr ⟨(S_archive_Archive.mk l414), rfl, (Hp.le_trans (Hp.le_trans hle112 hle417) hle463), b103, v412, xs413, rfl, rfl, (hr415.mono hle463)⟩)
            · have hm := ite_t' hb468 hm
              refine W_no rfl rfl rfl ?_
              refine W_no rfl rfl rfl ?_
              refine W_pick rfl rfl rfl rfl ?_
              refine W_move rfl rfl rfl ?_
              refine W_no rfl rfl rfl ?_
              refine W_no rfl rfl rfl ?_
              refine W_no rfl rfl rfl ?_
              refine W_no rfl rfl rfl ?_
              refine W_no rfl rfl rfl ?_
              refine W_no rfl rfl rfl ?_
              refine W_no rfl rfl rfl ?_
              refine W_no rfl rfl rfl ?_
              refine W_pick rfl rfl rfl rfl ?_
              refine W_end ?_
              refine E_then ?_
              refine C_cond (b := true) rfl (fun _ => ?_) (fun hb => Bool.noConfusion hb)
              refine C_seq ?_
              refine C_region ?_
              refine W_move rfl rfl rfl ?_
              refine W_move rfl rfl rfl ?_
              refine W_assign rfl rfl rfl ?_
              refine W_assign rfl rfl rfl ?_
              refine W_assign rfl rfl rfl ?_
              refine W_end ?_
              refine E_then ?_
              refine C_ret ?_
              refine E_ret_then ?_
              refine E_ret_block ?_
              refine E_ret_then ?_
              refine E_ret_block ?_
              obtain rfl := Option.some.inj hm
              refine E_drop (List.Sublist.cons _ (List.Sublist.cons _ (List.Sublist.refl _))) ?_
              refine E_perm (List.Perm.swap _ _ _) ?_
              exact end3 rfl rfl rfl rfl (.inr ⟨(S_archive_Archive.mk l414), rfl, (Hp.le_trans (Hp.le_trans hle112 hle417) hle463), b103, v412, xs413, rfl, rfl, (hr415.mono hle463)⟩)
        · refine C_region ?_
          refine W_move rfl rfl rfl ?_
          refine W_un rfl rfl rfl rfl ?_
          refine W_move rfl rfl rfl ?_
          cases hb484 : (r428.2.2)
          · refine W_no rfl rfl rfl ?_
            refine W_no rfl rfl rfl ?_
            refine W_no rfl rfl rfl ?_
            refine W_pick rfl rfl rfl rfl ?_
            refine W_end ?_
            exact E_keepJ (J436 _ _ _ ⟨rfl, rfl, rfl⟩) (List.Perm.refl _) ⟨rfl, rfl, rfl, rfl, rfl, rfl, (by show some (Value.bool (true)) = some (Value.bool ((!r428.2.2) || (!decide ((r430.length : Int) = 5)))); simp only [hb101, hb484, Bool.and_true, Bool.true_and, Bool.false_and, Bool.and_false, Bool.or_true, Bool.true_or, Bool.or_false, Bool.false_or, Bool.not_true, Bool.not_false]), trivial⟩
          · refine W_move rfl rfl rfl ?_
            refine W_lenO (List.mem_cons_self ..) rfl rfl Proofs.Tryd.runUnderlying58 rfl ?_
            refine W_bin rfl rfl rfl rfl rfl ?_
            refine W_pick rfl rfl rfl rfl ?_
            refine W_end ?_
            exact E_keepJ (J436 _ _ _ ⟨rfl, rfl, rfl⟩) (List.Perm.refl _) ⟨rfl, rfl, rfl, rfl, rfl, rfl, (by show some (Value.bool (!decide ((r430.length : Int) = 5))) = some (Value.bool ((!r428.2.2) || (!decide ((r430.length : Int) = 5)))); simp only [hb101, hb484, Bool.and_true, Bool.true_and, Bool.false_and, Bool.and_false, Bool.or_true, Bool.true_or, Bool.or_false, Bool.false_or, Bool.not_true, Bool.not_false]), trivial⟩

theorem m_archive_Archive_Digest_c {B : Nat} {w0 w : World} [Tabs B w0] {H : Hp} {M : List Res} {p0_a : S_archive_Archive} {b0 : Nat} {v0 : Value} {xs0 : List Value} {r : Int} (hm : m_archive_Archive_Digest p0_a = some r) (h0 : Rw H v0 xs0 p0_a.all_) (ht : St B w0 H (.obj b0 (.cells [v0].toArray 51 (0, 0)) :: .row v0 30 (Rep.sz S_api_Event) p0_a.all_.length xs0 :: M) w) :
    Calls Proofs.Tryd.prog 19 [.pointer (some ⟨b0, 0, none⟩)].toArray w (Ret B w0 fun H' M' v => H = H' ∧ .obj b0 (.cells [v0].toArray 51 (0, 0)) :: .row v0 30 (Rep.sz S_api_Event) p0_a.all_.length xs0 :: M = M' ∧ .int .u64 (r) = v) := by
  unfold m_archive_Archive_Digest at hm
  refine enter Proofs.Tryd.func19 rfl rfl rfl ht ?_
  refine C_seq ?_
  refine C_region ?_
  refine W_assign rfl rfl rfl ?_
  refine W_end ?_
  refine E_then ?_
  refine C_seq ?_
  refine C_region ?_
  refine W_assign rfl rfl rfl ?_
  refine W_end ?_
  refine E_then ?_
  refine C_seq ?_
  refine C_seq ?_
  refine C_region ?_
  refine W_move rfl rfl rfl ?_
  refine W_nilCheck rfl rfl rfl ?_
  refine W_field (o := 0) rfl rfl Proofs.Tryd.runUnderlying51 rfl Proofs.Tryd.sizeOf22 rfl rfl rfl ?_
  refine W_load rfl rfl Proofs.Tryd.isAgg22 rfl (own_at (List.mem_cons_self ..) rfl) ?_
  refine W_lenO (List.mem_cons_of_mem _ (List.mem_cons_self ..)) rfl rfl Proofs.Tryd.runUnderlying22 rfl ?_
  refine W_move rfl rfl rfl ?_
  refine W_end ?_
  refine E_then ?_
  refine C_block ?_
  refine C_rowMax (List.mem_cons_of_mem _ (List.mem_cons_self ..)) (fun hmx123 => ?_)
  refine C_keep (L' := [(3, .int .u64 (14695981039346656037)), (9, v0), (10, .int .i64 ((p0_a.all_.length : Int))), (11, .int .i64 (((0 : Nat) : Int)))]) ⟨rfl, rfl, rfl, rfl, trivial⟩ (List.Perm.refl _) ?_
  refine C_loop (fun n H' M' L' => ∃ (k101 : Nat) (zs125' : List S_api_Event), ∃ n116 : Int, (p0_a.all_).drop k101 = zs125' ∧ zs125'.length = n ∧ forI (fun k y s119 n => m_archive_Archive_Digest_b1 k y s119 n) (fun s119 => some s119) k101 zs125' n116 = some r ∧ H.le H' ∧ .obj b0 (.cells [v0].toArray 51 (0, 0)) :: .row v0 30 (Rep.sz S_api_Event) p0_a.all_.length xs0 :: M = M' ∧ [(3, .int .u64 (n116)), (9, v0), (10, .int .i64 ((p0_a.all_.length : Int))), (11, .int .i64 ((k101 : Int)))] = L') _ ⟨0, _, 14695981039346656037, rfl, rfl, hm, (Hp.le_refl _), rfl, rfl⟩ ?_
  rintro _ H117 _ _ ⟨k101, zs125', n116, hd127, rfl, hm, hle118, rfl, rfl⟩
  refine C_seq ?_
  refine C_region ?_
  refine W_bin rfl rfl rfl rfl rfl ?_
  refine W_end (E_then ?_)
  refine C_seq ?_
  refine C_cond (b := decide ((k101 : Int) < (p0_a.all_.length : Int))) rfl (fun hb129 => ?_) (fun hb129 => ?_)
  · obtain ⟨y124, zs125, rfl, hy126, hd128⟩ := rng_t hd127 hb129
    have hm : m_archive_Archive_Digest_b1 k101 y124 n116 (forI (fun k y s119 n => m_archive_Archive_Digest_b1 k y s119 n) (fun s119 => some s119) (k101 + 1) zs125) = some r := hm
    generalize hn121 : forI (fun k y s119 n => m_archive_Archive_Digest_b1 k y s119 n) (fun s119 => some s119) (k101 + 1) zs125 = nx120 at hm
    unfold m_archive_Archive_Digest_b1 at hm
    refine C_skip (E_then ?_)
    refine C_seq ?_
    refine C_block ?_
    refine C_seq ?_
    refine C_region ?_
    refine W_indexO (List.mem_cons_of_mem _ (List.mem_cons_self ..)) rfl rfl Proofs.Tryd.runUnderlying22 Proofs.Tryd.sizeOf30 rfl rfl (Int.natCast_nonneg _) (List.getElem?_eq_some_iff.1 hy126).1 ?_
    obtain ⟨_, rfl, hg130⟩ := (h0).elem hy126
    refine W_loadAgg (cs := [.int .i64 (y124.Time), .string (y124.Kind), .string (y124.Name), .int .i64 (y124.Value)]) rfl rfl Proofs.Tryd.isAgg30 Proofs.Tryd.sizeOf30 rfl (row_cells (List.mem_cons_of_mem _ (List.mem_cons_self ..)) hg130) rfl ?_
    refine W_alloc (cs := [.int .i64 (0), .string (⟨#[]⟩), .string (⟨#[]⟩), .int .i64 (0)]) rfl rfl Proofs.Tryd.zeroValue30 rfl (fun b131 => ?_)
    refine W_store (cs := [.int .i64 (y124.Time), .string (y124.Kind), .string (y124.Name), .int .i64 (y124.Value)]) (out := [.int .i64 (y124.Time), .string (y124.Kind), .string (y124.Name), .int .i64 (y124.Value)]) rfl Proofs.Tryd.sizeOf30 rfl rfl rfl rfl rfl (all_cons rfl (all_cons rfl (all_cons rfl (all_cons rfl all_nil)))) (over_all rfl) ?_
    refine W_end ?_
    refine E_then ?_
    refine C_region ?_
    refine W_move rfl rfl rfl ?_
    refine W_loadAgg rfl rfl Proofs.Tryd.isAgg30 Proofs.Tryd.sizeOf30 rfl (own_all (List.mem_cons_self ..)) rfl ?_
    obtain ⟨r132, hc133, hm⟩ := bind_some hm
    refine W_call Proofs.Tryd.call31 rfl rfl rfl (fun w ht => by have h := m_archive_line_c (hm := hc133)  ht; exact h) ?_
    rintro _ _ _ ⟨rfl, rfl, rfl⟩
    obtain ⟨r134, hc135, hm⟩ := bind_some hm
    refine W_call Proofs.Tryd.call30 rfl rfl rfl (fun w ht => by have h := m_archive_digest_c (hm := hc135)  ht; exact h) ?_
    rintro _ _ _ ⟨rfl, rfl, rfl⟩
    refine W_assign rfl rfl rfl ?_
    refine W_end ?_
    refine E_normal_block ?_
    refine E_then ?_
    refine C_region ?_
    refine W_bin rfl rfl rfl rfl rfl ?_
    refine W_move rfl rfl rfl ?_
    refine W_end ?_
    refine E_drop (List.Sublist.cons _ (List.Sublist.refl _)) ?_
    exact E_keepJ (E_back (Nat.lt_succ_self _) ⟨k101 + 1, zs125, r134, hd128, rfl, (by rw [hn121]; exact hm), hle118, rfl, rfl⟩) (List.Perm.refl _) ⟨rfl, rfl, rfl, (congrArg (fun z => some (Value.int .i64 z)) (i64_succ hy126 hmx123)), trivial⟩
  · obtain rfl := rng_f hd127 hb129
    have hm : (some n116) = some r := hm
    refine C_exit (E_exit_then ?_)
    refine E_exit_then ?_
    refine E_exit_hit ?_
    refine E_then ?_
    refine C_seq ?_
    refine C_region ?_
    refine W_move rfl rfl rfl ?_
    refine W_assign rfl rfl rfl ?_
    refine W_end ?_
    refine E_then ?_
    refine C_ret ?_
    obtain rfl := Option.some.inj hm
    refine E_weak hle118 ?_
    exact end1 rfl rfl ⟨rfl, rfl, rfl⟩

theorem m_gridhallkeep4_ArchiveContinues_c {B : Nat} {w0 w : World} [Tabs B w0] {H : Hp} {M : List Res} {p0_l : (List S_api_Event)} {p1_x : S_api_Event} {v0 : Value} {r : Bool} (hm : m_gridhallkeep4_ArchiveContinues p0_l p1_x = some r) (h0 : RdS H v0 p0_l) (ht : St B w0 H (M) w) :
    Calls Proofs.Tryd.prog 4 [v0, .agg [.int .i64 (p1_x.Time), .string (p1_x.Kind), .string (p1_x.Name), .int .i64 (p1_x.Value)].toArray].toArray w (Ret B w0 fun H' M' v => H = H' ∧ M = M' ∧ .bool (r) = v) := by
  unfold m_gridhallkeep4_ArchiveContinues at hm
  refine enter Proofs.Tryd.func4 rfl rfl rfl ht ?_
  refine C_seq ?_
  refine C_region ?_
  refine W_box (cs := [.int .i64 (p1_x.Time), .string (p1_x.Kind), .string (p1_x.Name), .int .i64 (p1_x.Value)]) rfl rfl rfl rfl (fun b101 => ?_)
  refine W_assign rfl rfl rfl ?_
  refine W_end ?_
  refine E_then ?_
  refine C_seq ?_
  refine C_region ?_
  refine W_move rfl rfl rfl ?_
  obtain ⟨r102, hc103, hm⟩ := bind_some hm
  refine W_call Proofs.Tryd.call7 rfl rfl rfl (fun w ht => by have h := m_gridhallkeep4_archiveOf_c (hm := hc103) h0 ht; exact h) ?_
  rintro _ H115 _ (⟨hn109, hle111, rfl, rfl⟩ | ⟨sp104, hn112, hle114, b105, v106, xs107, rfl, rfl, h108⟩)
  · have hm := optC_n hn109 hm
    refine W_assign rfl rfl rfl ?_
    refine W_end ?_
    refine E_then ?_
    refine C_seq ?_
    refine C_seq ?_
    refine C_region ?_
    refine W_move rfl rfl rfl ?_
    refine W_ptrNil rfl rfl Proofs.Tryd.runUnderlying23 rfl rfl ?_
    refine W_move rfl rfl rfl ?_
    refine W_no rfl rfl rfl ?_
    refine W_no rfl rfl rfl ?_
    refine W_pick rfl rfl rfl rfl ?_
    refine W_end ?_
    refine E_then ?_
    refine C_cond (b := true) rfl (fun _ => ?_) (fun hb => Bool.noConfusion hb)
    refine C_seq ?_
    refine C_region ?_
    refine W_assign rfl rfl rfl ?_
    refine W_end ?_
    refine E_then ?_
    refine C_ret ?_
    refine E_ret_then ?_
    obtain rfl := Option.some.inj hm
    refine E_drop (List.Sublist.cons _ (List.Sublist.refl _)) ?_
    refine E_weak hle111 ?_
    exact end1 rfl rfl ⟨rfl, rfl, rfl⟩
  · have hm := optC_s hn112 hm
    refine W_assign rfl rfl rfl ?_
    refine W_end ?_
    refine E_then ?_
    refine C_seq ?_
    refine C_seq ?_
    refine C_region ?_
    refine W_move rfl rfl rfl ?_
    refine W_ptrNil rfl rfl Proofs.Tryd.runUnderlying23 rfl rfl ?_
    refine W_move rfl rfl rfl ?_
    obtain ⟨r116, hc117, hm⟩ := bind_some hm
    refine W_call Proofs.Tryd.call8 rfl rfl rfl (fun w ht => by have h := m_gridhallkeep4_archiveFact_c (hm := hc117)  ht; exact h) ?_
    rintro _ _ _ ⟨rfl, rfl, rfl⟩
    refine W_un rfl rfl rfl rfl ?_
    refine W_pick rfl rfl rfl rfl ?_
    refine W_end ?_
    refine E_then ?_
    refine C_cond (b := !r116) rfl (fun hb118 => ?_) (fun hb118 => ?_)
    · have hm := ite_t' hb118 hm
      refine C_seq ?_
      refine C_region ?_
      refine W_assign rfl rfl rfl ?_
      refine W_end ?_
      refine E_then ?_
      refine C_ret ?_
      refine E_ret_then ?_
      obtain rfl := Option.some.inj hm
      refine E_drop (List.Sublist.cons _ (List.Sublist.cons _ (List.Sublist.cons _ (List.Sublist.refl _)))) ?_
      refine E_weak hle114 ?_
      exact end1 rfl rfl ⟨rfl, rfl, rfl⟩
    · have hm := ite_f' hb118 hm
      refine C_skip ?_
      refine E_then ?_
      refine C_seq ?_
      refine C_region ?_
      refine W_move rfl rfl rfl ?_
      obtain ⟨r119, hc120, hm⟩ := bind_some hm
      refine W_call Proofs.Tryd.call17 rfl rfl rfl (fun w ht => by have h := m_archive_Archive_Text_c (hm := hc120) h108 ht; exact h) ?_
      rintro _ _ _ ⟨rfl, rfl, rfl⟩
      obtain ⟨r121, hc122, hm⟩ := bind_some hm
      refine W_call Proofs.Tryd.call16 rfl rfl rfl (fun w ht => by have h := m_archive_Recover_c (hm := hc122)  ht; exact h) ?_
      rintro _ H134 _ (⟨hn128, hle130, rfl, rfl⟩ | ⟨sp123, hn131, hle133, b124, v125, xs126, rfl, rfl, h127⟩)
      · have hm := optC_n hn128 hm
        refine W_move rfl rfl rfl ?_
        refine W_extract rfl rfl rfl rfl ?_
        refine W_extract rfl rfl rfl rfl ?_
        refine W_extract rfl rfl rfl rfl ?_
        refine W_assign rfl rfl rfl ?_
        refine W_assign rfl rfl rfl ?_
        refine W_assign rfl rfl rfl ?_
        refine W_end ?_
        refine E_then ?_
        refine C_seq ?_
        refine C_seq_join (fun H' M' L' => H134 = H' ∧ .obj b105 (.cells [v106].toArray 51 (0, 0)) :: .row v106 30 (Rep.sz S_api_Event) sp104.all_.length xs107 :: .obj b101 (.cells [.int .i64 (p1_x.Time), .string (p1_x.Kind), .string (p1_x.Name), .int .i64 (p1_x.Value)].toArray 30 (0, 0)) :: M = M' ∧ [(3, .pointer (some ⟨b101, 0, none⟩)), (5, .pointer (some ⟨b105, 0, none⟩)), (6, .pointer none), (33, .bool (true))] = L') ?_ (fun J136 => ?_)
        · rintro _ _ _ ⟨rfl, rfl, rfl⟩
          refine C_cond (b := true) rfl (fun _ => ?_) (fun hb => Bool.noConfusion hb)
          refine C_seq ?_
          refine C_region ?_
          refine W_assign rfl rfl rfl ?_
          refine W_end ?_
          refine E_then ?_
          refine C_ret ?_
          refine E_ret_then ?_
          obtain rfl := Option.some.inj hm
          refine E_drop (List.Sublist.cons _ (List.Sublist.cons _ (List.Sublist.cons _ (List.Sublist.refl _)))) ?_
          refine E_weak (Hp.le_trans hle114 hle130) ?_
          exact end1 rfl rfl ⟨rfl, rfl, rfl⟩
        · refine C_region ?_
          refine W_move rfl rfl rfl ?_
          refine W_bin rfl rfl rfl rfl rfl ?_
          refine W_move rfl rfl rfl ?_
          cases hb137 : (decide (r121.2.2 = 0))
          · refine W_no rfl rfl rfl ?_
            refine W_no rfl rfl rfl ?_
            refine W_pick rfl rfl rfl rfl ?_
            refine W_end ?_
            exact E_keepJ (J136 _ _ _ ⟨rfl, rfl, rfl⟩) (List.Perm.refl _) ⟨rfl, rfl, rfl, rfl, trivial⟩
          · refine W_move rfl rfl rfl ?_
            refine W_ptrNil rfl rfl Proofs.Tryd.runUnderlying23 rfl rfl ?_
            refine W_pick rfl rfl rfl rfl ?_
            refine W_end ?_
            exact E_keepJ (J136 _ _ _ ⟨rfl, rfl, rfl⟩) (List.Perm.refl _) ⟨rfl, rfl, rfl, rfl, trivial⟩
      · have hm := optC_s hn131 hm
        refine W_move rfl rfl rfl ?_
        refine W_extract rfl rfl rfl rfl ?_
        refine W_extract rfl rfl rfl rfl ?_
        refine W_extract rfl rfl rfl rfl ?_
        refine W_assign rfl rfl rfl ?_
        refine W_assign rfl rfl rfl ?_
        refine W_assign rfl rfl rfl ?_
        refine W_end ?_
        refine E_then ?_
        refine C_seq ?_
        refine C_seq_join (fun H' M' L' => H134 = H' ∧ .obj b124 (.cells [v125].toArray 51 (0, 0)) :: .row v125 30 (Rep.sz S_api_Event) sp123.all_.length xs126 :: .obj b105 (.cells [v106].toArray 51 (0, 0)) :: .row v106 30 (Rep.sz S_api_Event) sp104.all_.length xs107 :: .obj b101 (.cells [.int .i64 (p1_x.Time), .string (p1_x.Kind), .string (p1_x.Name), .int .i64 (p1_x.Value)].toArray 30 (0, 0)) :: M = M' ∧ [(3, .pointer (some ⟨b101, 0, none⟩)), (5, .pointer (some ⟨b105, 0, none⟩)), (6, .pointer (some ⟨b124, 0, none⟩)), (33, .bool (!decide (r121.2.2 = 0)))] = L') ?_ (fun J139 => ?_)
        · rintro _ _ _ ⟨rfl, rfl, rfl⟩
          refine C_cond (b := !decide (r121.2.2 = 0)) rfl (fun hb140 => ?_) (fun hb140 => ?_)
          · have hm := ite_t' hb140 hm
            refine C_seq ?_
            refine C_region ?_
            refine W_assign rfl rfl rfl ?_
            refine W_end ?_
            refine E_then ?_
            refine C_ret ?_
            refine E_ret_then ?_
            obtain rfl := Option.some.inj hm
            refine E_drop (List.Sublist.cons _ (List.Sublist.cons _ (List.Sublist.cons _ (List.Sublist.cons _ (List.Sublist.cons _ (List.Sublist.refl _)))))) ?_
            refine E_weak (Hp.le_trans hle114 hle133) ?_
            exact end1 rfl rfl ⟨rfl, rfl, rfl⟩
          · have hm := ite_f' hb140 hm
            refine C_skip ?_
            refine E_then ?_
            refine C_seq ?_
            refine C_region ?_
            refine W_move rfl rfl rfl ?_
            refine W_loadAgg rfl rfl Proofs.Tryd.isAgg30 Proofs.Tryd.sizeOf30 rfl (own_all (List.mem_cons_of_mem _ (List.mem_cons_of_mem _ (List.mem_cons_of_mem _ (List.mem_cons_of_mem _ (List.mem_cons_self ..)))))) rfl ?_
            refine W_perm (List.Perm.trans (List.Perm.cons _ (List.Perm.swap _ _ _)) (List.Perm.trans (List.Perm.swap _ _ _) (List.Perm.trans (List.Perm.cons _ (List.Perm.cons _ (List.Perm.swap _ _ _))) (List.Perm.cons _ (List.Perm.swap _ _ _))))) ?_
            obtain ⟨r141, hc142, hm⟩ := bind_some hm
            refine W_call Proofs.Tryd.call18 rfl rfl rfl (fun w ht => by have h := m_archive_Archive_Append_c (hm := hc142) (h108.mono hle133) ht; exact h) ?_
            rintro _ _ _ ⟨rfl, v144, xs145, rfl, rfl, h146⟩
            have h146 := h146 H134
            refine W_move rfl rfl rfl ?_
            refine W_extract rfl rfl rfl rfl ?_
            refine W_extract rfl rfl rfl rfl ?_
            refine W_assign rfl rfl rfl ?_
            refine W_assign rfl rfl rfl ?_
            refine W_end ?_
            refine E_then ?_
            refine C_seq ?_
            refine C_region ?_
            refine W_move rfl rfl rfl ?_
            refine W_loadAgg rfl rfl Proofs.Tryd.isAgg30 Proofs.Tryd.sizeOf30 rfl (own_all (List.mem_cons_of_mem _ (List.mem_cons_of_mem _ (List.mem_cons_of_mem _ (List.mem_cons_of_mem _ (List.mem_cons_self ..)))))) rfl ?_
            refine W_perm (List.Perm.trans (List.Perm.cons _ (List.Perm.swap _ _ _)) (List.Perm.trans (List.Perm.swap _ _ _) (List.Perm.trans (List.Perm.cons _ (List.Perm.cons _ (List.Perm.swap _ _ _))) (List.Perm.cons _ (List.Perm.swap _ _ _))))) ?_
            obtain ⟨r147, hc148, hm⟩ := bind_some hm
            refine W_call Proofs.Tryd.call18 rfl rfl rfl (fun w ht => by have h := m_archive_Archive_Append_c (hm := hc148) h127 ht; exact h) ?_
            rintro _ _ _ ⟨rfl, v150, xs151, rfl, rfl, h152⟩
            have h152 := h152 H134
            refine W_move rfl rfl rfl ?_
            refine W_extract rfl rfl rfl rfl ?_
            refine W_extract rfl rfl rfl rfl ?_
            refine W_assign rfl rfl rfl ?_
            refine W_assign rfl rfl rfl ?_
            refine W_end ?_
            refine E_then ?_
            refine C_seq ?_
            refine C_region ?_
            refine W_move rfl rfl rfl ?_
            refine W_move rfl rfl rfl ?_
            refine W_bin rfl rfl rfl rfl rfl ?_
            refine W_move rfl rfl rfl ?_
            cases hb153 : (decide (r141.1 = r147.1))
            · have hm := ite_f' hb153 hm
              refine W_no rfl rfl rfl ?_
              refine W_no rfl rfl rfl ?_
              refine W_no rfl rfl rfl ?_
              refine W_pick rfl rfl rfl rfl ?_
              refine W_move rfl rfl rfl ?_
              refine W_no rfl rfl rfl ?_
              refine W_no rfl rfl rfl ?_
              refine W_no rfl rfl rfl ?_
              refine W_no rfl rfl rfl ?_
              refine W_no rfl rfl rfl ?_
              refine W_pick rfl rfl rfl rfl ?_
              refine W_move rfl rfl rfl ?_
              refine W_no rfl rfl rfl ?_
              refine W_no rfl rfl rfl ?_
              refine W_no rfl rfl rfl ?_
              refine W_no rfl rfl rfl ?_
              refine W_no rfl rfl rfl ?_
              refine W_pick rfl rfl rfl rfl ?_
              refine W_assign rfl rfl rfl ?_
              refine W_end ?_
              refine E_then ?_
              refine C_ret ?_
              obtain rfl := Option.some.inj hm
              refine E_drop (List.Sublist.cons _ (List.Sublist.cons _ (List.Sublist.cons _ (List.Sublist.cons _ (List.Sublist.cons _ (List.Sublist.refl _)))))) ?_
              refine E_weak (Hp.le_trans hle114 hle133) ?_
              exact end1 rfl rfl ⟨rfl, rfl, rfl⟩
            · have hm := ite_t' hb153 hm
              refine W_move rfl rfl rfl ?_
              refine W_move rfl rfl rfl ?_
              refine W_bin rfl rfl rfl rfl rfl ?_
              refine W_pick rfl rfl rfl rfl ?_
              refine W_move rfl rfl rfl ?_
              cases hb154 : (decide (r141.2.1 = r147.2.1))
              · have hm := ite_f' hb154 hm
                refine W_no rfl rfl rfl ?_
                refine W_no rfl rfl rfl ?_
                refine W_no rfl rfl rfl ?_
                refine W_no rfl rfl rfl ?_
                refine W_no rfl rfl rfl ?_
                refine W_pick rfl rfl rfl rfl ?_
                refine W_move rfl rfl rfl ?_
                refine W_no rfl rfl rfl ?_
                refine W_no rfl rfl rfl ?_
                refine W_no rfl rfl rfl ?_
                refine W_no rfl rfl rfl ?_
                refine W_no rfl rfl rfl ?_
                refine W_pick rfl rfl rfl rfl ?_
                refine W_assign rfl rfl rfl ?_
                refine W_end ?_
                refine E_then ?_
                refine C_ret ?_
                obtain rfl := Option.some.inj hm
                refine E_drop (List.Sublist.cons _ (List.Sublist.cons _ (List.Sublist.cons _ (List.Sublist.cons _ (List.Sublist.cons _ (List.Sublist.refl _)))))) ?_
                refine E_weak (Hp.le_trans hle114 hle133) ?_
                exact end1 rfl rfl ⟨rfl, rfl, rfl⟩
              · have hm := ite_t' hb154 hm
                refine W_move rfl rfl rfl ?_
                refine W_perm (List.Perm.trans (List.Perm.cons _ (List.Perm.swap _ _ _)) (List.Perm.trans (List.Perm.swap _ _ _) (List.Perm.trans (List.Perm.cons _ (List.Perm.cons _ (List.Perm.swap _ _ _))) (List.Perm.cons _ (List.Perm.swap _ _ _))))) ?_
                obtain ⟨r155, hc156, hm⟩ := bind_some hm
                refine W_call Proofs.Tryd.call17 rfl rfl rfl (fun w ht => by have h := m_archive_Archive_Text_c (hm := hc156) h146 ht; exact h) ?_
                rintro _ _ _ ⟨rfl, rfl, rfl⟩
                refine W_move rfl rfl rfl ?_
                refine W_perm (List.Perm.trans (List.Perm.cons _ (List.Perm.swap _ _ _)) (List.Perm.trans (List.Perm.swap _ _ _) (List.Perm.trans (List.Perm.cons _ (List.Perm.cons _ (List.Perm.swap _ _ _))) (List.Perm.cons _ (List.Perm.swap _ _ _))))) ?_
                obtain ⟨r157, hc158, hm⟩ := bind_some hm
                refine W_call Proofs.Tryd.call17 rfl rfl rfl (fun w ht => by have h := m_archive_Archive_Text_c (hm := hc158) h152 ht; exact h) ?_
                rintro _ _ _ ⟨rfl, rfl, rfl⟩
                refine W_bin rfl rfl rfl rfl rfl ?_
                refine W_pick rfl rfl rfl rfl ?_
                refine W_move rfl rfl rfl ?_
                cases hb159 : (decide (r155 = r157))
                · have hm := ite_f' hb159 hm
                  refine W_no rfl rfl rfl ?_
                  refine W_no rfl rfl rfl ?_
                  refine W_no rfl rfl rfl ?_
                  refine W_no rfl rfl rfl ?_
                  refine W_no rfl rfl rfl ?_
                  refine W_pick rfl rfl rfl rfl ?_
                  refine W_assign rfl rfl rfl ?_
                  refine W_end ?_
                  refine E_then ?_
                  refine C_ret ?_
                  obtain rfl := Option.some.inj hm
                  refine E_drop (List.Sublist.cons _ (List.Sublist.cons _ (List.Sublist.cons _ (List.Sublist.cons _ (List.Sublist.cons _ (List.Sublist.refl _)))))) ?_
                  refine E_weak (Hp.le_trans hle114 hle133) ?_
                  exact end1 rfl rfl ⟨rfl, rfl, rfl⟩
                · have hm := ite_t' hb159 hm
                  refine W_move rfl rfl rfl ?_
                  refine W_perm (List.Perm.trans (List.Perm.cons _ (List.Perm.swap _ _ _)) (List.Perm.trans (List.Perm.swap _ _ _) (List.Perm.trans (List.Perm.cons _ (List.Perm.cons _ (List.Perm.swap _ _ _))) (List.Perm.cons _ (List.Perm.swap _ _ _))))) ?_
                  obtain ⟨r160, hc161, hm⟩ := bind_some hm
                  refine W_call Proofs.Tryd.call19 rfl rfl rfl (fun w ht => by have h := m_archive_Archive_Digest_c (hm := hc161) h146 ht; exact h) ?_
                  rintro _ _ _ ⟨rfl, rfl, rfl⟩
                  refine W_move rfl rfl rfl ?_
                  refine W_perm (List.Perm.trans (List.Perm.cons _ (List.Perm.swap _ _ _)) (List.Perm.trans (List.Perm.swap _ _ _) (List.Perm.trans (List.Perm.cons _ (List.Perm.cons _ (List.Perm.swap _ _ _))) (List.Perm.cons _ (List.Perm.swap _ _ _))))) ?_
                  obtain ⟨r162, hc163, hm⟩ := bind_some hm
                  refine W_call Proofs.Tryd.call19 rfl rfl rfl (fun w ht => by have h := m_archive_Archive_Digest_c (hm := hc163) h152 ht; exact h) ?_
                  rintro _ _ _ ⟨rfl, rfl, rfl⟩
                  refine W_bin rfl rfl rfl rfl rfl ?_
                  refine W_pick rfl rfl rfl rfl ?_
                  refine W_assign rfl rfl rfl ?_
                  refine W_end ?_
                  refine E_then ?_
                  refine C_ret ?_
                  obtain rfl := Option.some.inj hm
                  refine E_drop (List.Sublist.cons _ (List.Sublist.cons _ (List.Sublist.cons _ (List.Sublist.cons _ (List.Sublist.cons _ (List.Sublist.refl _)))))) ?_
                  refine E_weak (Hp.le_trans hle114 hle133) ?_
                  exact end1 rfl rfl ⟨rfl, rfl, rfl⟩
        · refine C_region ?_
          refine W_move rfl rfl rfl ?_
          refine W_bin rfl rfl rfl rfl rfl ?_
          refine W_move rfl rfl rfl ?_
          cases hb164 : (decide (r121.2.2 = 0))
          · refine W_no rfl rfl rfl ?_
            refine W_no rfl rfl rfl ?_
            refine W_pick rfl rfl rfl rfl ?_
            refine W_end ?_
            exact E_keepJ (J139 _ _ _ ⟨rfl, rfl, rfl⟩) (List.Perm.refl _) ⟨rfl, rfl, rfl, (by show some (Value.bool (true)) = some (Value.bool (!decide (r121.2.2 = 0))); simp only [hb118, hb164, Bool.and_true, Bool.true_and, Bool.false_and, Bool.and_false, Bool.or_true, Bool.true_or, Bool.or_false, Bool.false_or, Bool.not_true, Bool.not_false]), trivial⟩
          · refine W_move rfl rfl rfl ?_
            refine W_ptrNil rfl rfl Proofs.Tryd.runUnderlying23 rfl rfl ?_
            refine W_pick rfl rfl rfl rfl ?_
            refine W_end ?_
            exact E_keepJ (J139 _ _ _ ⟨rfl, rfl, rfl⟩) (List.Perm.refl _) ⟨rfl, rfl, rfl, (by show some (Value.bool (false)) = some (Value.bool (!decide (r121.2.2 = 0))); simp only [hb118, hb164, Bool.and_true, Bool.true_and, Bool.false_and, Bool.and_false, Bool.or_true, Bool.true_or, Bool.or_false, Bool.false_or, Bool.not_true, Bool.not_false]), trivial⟩

theorem clone25_c {B : Nat} {w0 w : World} {H : Hp} {M : List Res} {s : List S_api_Event} {v0 : Value} (h0 : RdS H v0 s) (hz : s.length * 48 ≤ 140737488355328) (ht : St B w0 H M w) :
    Calls Proofs.Tryd.prog 25 [v0].toArray w (Ret B w0 fun H' M' v => H = H' ∧ ∃ (v' : Value) (xs' : List Value), .row v' 30 (Rep.sz S_api_Event) s.length xs' :: M = M' ∧ v' = v ∧ RwF v' xs' s) := by
  refine enter Proofs.Tryd.func25 rfl rfl rfl ht ?_
  obtain ⟨o, n, c, rfl⟩ := h0.shape
  refine C_seq ?_
  refine C_region ?_
  refine W_assign rfl rfl rfl ?_
  refine W_end (E_then ?_)
  refine C_seq ?_
  refine C_seq ?_
  refine C_region ?_
  refine W_move rfl rfl rfl ?_
  refine W_eqNil rfl rfl Proofs.Tryd.runUnderlying22 rfl rfl ?_
  refine W_end (E_then ?_)
  cases o with
  | none =>
    refine C_cond (b := true) rfl (fun _ => ?_) (fun hb => Bool.noConfusion hb)
    obtain rfl := h0.isNil
    refine C_seq ?_
    refine C_region ?_
    refine W_assign rfl rfl rfl ?_
    refine W_end (E_then ?_)
    refine C_ret (E_ret_then ?_)
    refine E_nilRow 30 (Rep.sz S_api_Event) ?_
    exact end1 rfl rfl ⟨rfl, .slice none 0 0, [], rfl, rfl, (Rw.nil (H := H)).toF⟩
  | some a =>
    refine C_cond (b := false) rfl (fun hb => Bool.noConfusion hb) (fun _ => ?_)
    refine C_skip (E_then ?_)
    refine C_seq ?_
    refine C_region ?_
    refine W_build0 S_api_Event rfl rfl Proofs.Tryd.runUnderlying22 Proofs.Tryd.sizeOf30 ?_
    intro v1 xs1 h1
    refine W_move rfl rfl rfl ?_
    refine W_appendO (α := S_api_Event) (l := []) (ys := s) (bytes := 48) rfl rfl Proofs.Tryd.underlying22 ⟨_, rfl, rfl, rfl, rfl⟩ rfl rfl rfl rfl rfl h1 h0 (by simpa using hz) ?_
    intro v2 xs2 h2
    refine W_assign rfl rfl rfl ?_
    refine W_end (E_then ?_)
    refine C_ret ?_
    exact end1 rfl rfl ⟨rfl, v2, xs2, rfl, rfl, h2.toF⟩

theorem m_archive_Archive_All_c {B : Nat} {w0 w : World} [Tabs B w0] {H : Hp} {M : List Res} {p0_a : S_archive_Archive} {b0 : Nat} {v0 : Value} {xs0 : List Value} {r : (List S_api_Event)} (hm : m_archive_Archive_All p0_a = some r) (h0 : Rw H v0 xs0 p0_a.all_) (ht : St B w0 H (.obj b0 (.cells [v0].toArray 51 (0, 0)) :: .row v0 30 (Rep.sz S_api_Event) p0_a.all_.length xs0 :: M) w) :
    Calls Proofs.Tryd.prog 13 [.pointer (some ⟨b0, 0, none⟩)].toArray w (Ret B w0 fun H' M' v => H = H' ∧ ∃ qv0 : Value, ∃ qxs0 : List Value, .row qv0 30 (Rep.sz S_api_Event) r.length qxs0 :: .obj b0 (.cells [v0].toArray 51 (0, 0)) :: .row v0 30 (Rep.sz S_api_Event) p0_a.all_.length xs0 :: M = M' ∧ qv0 = v ∧ RwF qv0 qxs0 r) := by
  unfold m_archive_Archive_All at hm
  refine enter Proofs.Tryd.func13 rfl rfl rfl ht ?_
  refine C_seq ?_
  refine C_region ?_
  refine W_assign rfl rfl rfl ?_
  refine W_end ?_
  refine E_then ?_
  refine C_seq ?_
  refine C_region ?_
  refine W_move rfl rfl rfl ?_
  refine W_nilCheck rfl rfl rfl ?_
  refine W_field (o := 0) rfl rfl Proofs.Tryd.runUnderlying51 rfl Proofs.Tryd.sizeOf22 rfl rfl rfl ?_
  refine W_load rfl rfl Proofs.Tryd.isAgg22 rfl (own_at (List.mem_cons_self ..) rfl) ?_
  obtain ⟨hz101, hm⟩ := need_some hm
  refine W_perm (List.Perm.swap _ _ _) ?_
  refine W_call Proofs.Tryd.call25 rfl rfl rfl (fun w ht => by obtain ⟨H0_, hl0_, ht0_, hr0_, bk0_⟩ := ht.lendRow h0 rfl; have h := clone25_c hr0_ hz101 ht0_; exact lend_back bk0_ h) ?_
  rintro _ _ _ ⟨rfl, _, rfl, v102, xs103, rfl, rfl, hr104⟩
  have hr104 := hr104 H
  refine W_assign rfl rfl rfl ?_
  refine W_end ?_
  refine E_then ?_
  refine C_ret ?_
  obtain rfl := Option.some.inj hm
  refine E_perm (List.Perm.trans (List.Perm.swap _ _ _) (List.Perm.cons _ (List.Perm.swap _ _ _))) ?_
  refine E_weak (Hp.le_refl _) ?_
  exact end1 rfl rfl ⟨rfl, v102, xs103, rfl, rfl, (hr104).toF⟩

theorem m_slices_Equal_api_Event_api_Event_c {B : Nat} {w0 w : World} [Tabs B w0] {H : Hp} {M : List Res} {p0_s1 : (List S_api_Event)} {p1_s2 : (List S_api_Event)} {v0 : Value} {v1 : Value} {r : Bool} (hm : m_slices_Equal_api_Event_api_Event p0_s1 p1_s2 = some r) (h0 : RdS H v0 p0_s1) (h1 : RdS H v1 p1_s2) (ht : St B w0 H (M) w) :
    Calls Proofs.Tryd.prog 11 [v0, v1].toArray w (Ret B w0 fun H' M' v => H = H' ∧ M = M' ∧ .bool (r) = v) := by
  unfold m_slices_Equal_api_Event_api_Event at hm
  refine enter Proofs.Tryd.func11 rfl rfl rfl ht ?_
  refine C_seq ?_
  refine C_region ?_
  refine W_assign rfl rfl rfl ?_
  refine W_end ?_
  refine E_then ?_
  refine C_seq ?_
  refine C_seq ?_
  refine C_region ?_
  refine W_move rfl rfl rfl ?_
  refine W_lenR rfl rfl Proofs.Tryd.runUnderlying22 rfl h0 ?_
  refine W_move rfl rfl rfl ?_
  refine W_lenR rfl rfl Proofs.Tryd.runUnderlying22 rfl h1 ?_
  refine W_bin rfl rfl rfl rfl rfl ?_
  refine W_end ?_
  refine E_then ?_
  refine C_cond (b := !decide ((p0_s1.length : Int) = (p1_s2.length : Int))) rfl (fun hb101 => ?_) (fun hb101 => ?_)
  · have hm := ite_t' hb101 hm
    refine C_seq ?_
    refine C_region ?_
    refine W_assign rfl rfl rfl ?_
    refine W_end ?_
    refine E_then ?_
    refine C_ret ?_
    refine E_ret_then ?_
    obtain rfl := Option.some.inj hm
    refine E_weak (Hp.le_refl _) ?_
    exact end1 rfl rfl ⟨rfl, rfl, rfl⟩
  · have hm := ite_f' hb101 hm
    refine C_skip ?_
    refine E_then ?_
    refine C_seq ?_
    refine C_seq ?_
    refine C_region ?_
    refine W_move rfl rfl rfl ?_
    refine W_lenR rfl rfl Proofs.Tryd.runUnderlying22 rfl h0 ?_
    refine W_move rfl rfl rfl ?_
    refine W_end ?_
    refine E_then ?_
    refine C_block ?_
    refine C_keep (L' := [(0, v0), (1, v1), (12, .int .i64 ((p0_s1.length : Int))), (13, .int .i64 (((0 : Nat) : Int)))]) ⟨rfl, rfl, rfl, rfl, trivial⟩ (List.Perm.refl _) ?_
    refine C_loop (fun n H' M' L' => ∃ (k102 : Nat) (zs136' : Nat), k102 + zs136' = ((p0_s1.length : Int) : Int).toNat ∧ zs136' = n ∧ forN (fun k s131 n => m_slices_Equal_api_Event_api_Event_b1 p0_s1 p1_s2 k n) (fun _ => some true) zs136' k102 () = some r ∧ H.le H' ∧ M = M' ∧ [(0, v0), (1, v1), (12, .int .i64 ((p0_s1.length : Int))), (13, .int .i64 ((k102 : Int)))] = L') _ ⟨0, _, Nat.zero_add _, rfl, hm, (Hp.le_refl _), rfl, rfl⟩ ?_
    rintro _ H129 _ _ ⟨k102, zs136', hd138, rfl, hm, hle130, rfl, rfl⟩
    refine C_seq ?_
    refine C_region ?_
    refine W_bin rfl rfl rfl rfl rfl ?_
    refine W_end (E_then ?_)
    refine C_seq ?_
    refine C_cond (b := decide ((k102 : Int) < (p0_s1.length : Int))) rfl (fun hb140 => ?_) (fun hb140 => ?_)
    · obtain ⟨zs136, rfl, hd139, hy137⟩ := rngN_t hd138 hb140
      have hm : m_slices_Equal_api_Event_api_Event_b1 p0_s1 p1_s2 k102 (forN (fun k s131 n => m_slices_Equal_api_Event_api_Event_b1 p0_s1 p1_s2 k n) (fun _ => some true) zs136 (k102 + 1)) = some r := hm
      generalize hn133 : forN (fun k s131 n => m_slices_Equal_api_Event_api_Event_b1 p0_s1 p1_s2 k n) (fun _ => some true) zs136 (k102 + 1) = nx132 at hm
      unfold m_slices_Equal_api_Event_api_Event_b1 at hm
      refine C_skip (E_then ?_)
      refine C_seq ?_
      refine C_block ?_
      refine C_seq ?_
      refine C_region ?_
      refine W_move rfl rfl rfl ?_
      refine W_assign rfl rfl rfl ?_
      refine W_end ?_
      refine E_then ?_
      refine C_seq ?_
      obtain ⟨y141, h142, he143, hm⟩ := idx_some hm
      obtain ⟨_, ⟨rfl⟩, hc144⟩ := (h0).elem he143
      obtain ⟨y145, h146, he147, hm⟩ := idx_some hm
      obtain ⟨_, ⟨rfl⟩, hc148⟩ := (h1).elem he147
      refine C_region_tok0 8 (phiT [(fun H rs v => [] = rs ∧ v0 = v), (fun H rs v => [] = rs ∧ .int .i64 ((k102 : Int)) = v), (fun H rs v => [] = rs ∧ .pointer (some ((Value.base (v0)).add (((k102 : Int) : Int).toNat * 4))) = v), (fun H rs v => [] = rs ∧ .agg [.int .i64 (y141.Time), .string (y141.Kind), .string (y141.Name), .int .i64 (y141.Value)].toArray = v), (fun H rs v => [] = rs ∧ v1 = v), (fun H rs v => [] = rs ∧ .int .i64 ((k102 : Int)) = v), (fun H rs v => [] = rs ∧ .pointer (some ((Value.base (v1)).add (((k102 : Int) : Int).toNat * 4))) = v), (fun H rs v => [] = rs ∧ .agg [.int .i64 (y145.Time), .string (y145.Kind), .string (y145.Name), .int .i64 (y145.Value)].toArray = v)]) [[], [], [], [], [], [], [], []] [[], [], [], [], [], [], [], []] [] [0, 1, 2, 3, 4, 5, 6, 7] Facts.mixed (by kernel_rfl) rfl rfl rfl (by kernel_rfl) (phiT_mono ⟨eq_monoT _ _, eq_monoT _ _, eq_monoT _ _, eq_monoT _ _, eq_monoT _ _, eq_monoT _ _, eq_monoT _ _, eq_monoT _ _, trivial⟩) ⟨?_, ?_, ?_, ?_, ?_, ?_, ?_, ?_, trivial⟩ ?_
      · intro HX hX X Rest hR
        intro hU hUp
        refine W_move rfl rfl rfl ?_
        exact W_end (OneT_end [] (Hp.le_refl _) ⟨rfl, rfl⟩)
      · intro HX hX X Rest hR
        intro hU hUp
        refine W_move rfl rfl rfl ?_
        exact W_end (OneT_end [] (Hp.le_refl _) ⟨rfl, rfl⟩)
      · intro HX hX X Rest hR
        rintro _ _ ⟨rfl, rfl⟩
        rintro _ _ ⟨rfl, rfl⟩
        intro hU hUp
        refine W_indexS rfl rfl Proofs.Tryd.runUnderlying22 Proofs.Tryd.sizeOf30 rfl ((h0.mono hle130).mono hX) rfl h142 he143 ?_
        exact W_end (OneT_end [] (Hp.le_refl _) ⟨rfl, rfl⟩)
      · intro HX hX X Rest hR
        rintro _ _ ⟨rfl, rfl⟩
        intro hU hUp
        refine W_loadAgg rfl rfl Proofs.Tryd.isAgg30 Proofs.Tryd.sizeOf30 rfl ((hc144.mono hle130).mono hX).at rfl ?_
        exact W_end (OneT_end [] (Hp.le_refl _) ⟨rfl, rfl⟩)
      · intro HX hX X Rest hR
        intro hU hUp
        refine W_move rfl rfl rfl ?_
        exact W_end (OneT_end [] (Hp.le_refl _) ⟨rfl, rfl⟩)
      · intro HX hX X Rest hR
        intro hU hUp
        refine W_move rfl rfl rfl ?_
        exact W_end (OneT_end [] (Hp.le_refl _) ⟨rfl, rfl⟩)
      · intro HX hX X Rest hR
        rintro _ _ ⟨rfl, rfl⟩
        rintro _ _ ⟨rfl, rfl⟩
        intro hU hUp
        refine W_indexS rfl rfl Proofs.Tryd.runUnderlying22 Proofs.Tryd.sizeOf30 rfl ((h1.mono hle130).mono hX) rfl h146 he147 ?_
        exact W_end (OneT_end [] (Hp.le_refl _) ⟨rfl, rfl⟩)
      · intro HX hX X Rest hR
        rintro _ _ ⟨rfl, rfl⟩
        intro hU hUp
        refine W_loadAgg rfl rfl Proofs.Tryd.isAgg30 Proofs.Tryd.sizeOf30 rfl ((hc148.mono hle130).mono hX).at rfl ?_
        exact W_end (OneT_end [] (Hp.le_refl _) ⟨rfl, rfl⟩)
      intro H149 hle150
      rintro _ _ ⟨rfl, rfl⟩
      rintro _ _ ⟨rfl, rfl⟩
      rintro _ _ ⟨rfl, rfl⟩
      rintro _ _ ⟨rfl, rfl⟩
      rintro _ _ ⟨rfl, rfl⟩
      rintro _ _ ⟨rfl, rfl⟩
      rintro _ _ ⟨rfl, rfl⟩
      rintro _ _ ⟨rfl, rfl⟩
      refine W_neAgg (b := decide (y141.Time = y145.Time) && (decide (y141.Kind = y145.Kind) && (decide (y141.Name = y145.Name) && (decide (y141.Value = y145.Value) && true)))) rfl rfl (by kernel_rfl) rfl rfl (fun w => run_equal_struct (bs := [decide (y141.Time = y145.Time), decide (y141.Kind = y145.Kind), decide (y141.Name = y145.Name), decide (y141.Value = y145.Value)]) Proofs.Tryd.runUnderlying30 (by kernel_rfl) ⟨(by decide), (fldEq_int Proofs.Tryd.isAgg3 Proofs.Tryd.runUnderlying3 rfl rfl), (by decide), (fldEq_str Proofs.Tryd.isAgg9 Proofs.Tryd.runUnderlying9 rfl rfl), (by decide), (fldEq_str Proofs.Tryd.isAgg9 Proofs.Tryd.runUnderlying9 rfl rfl), (by decide), (fldEq_int Proofs.Tryd.isAgg3 Proofs.Tryd.runUnderlying3 rfl rfl), trivial⟩) ?_
      refine W_end ?_
      refine E_then ?_
      refine C_cond (b := !(decide (y141.Time = y145.Time) && (decide (y141.Kind = y145.Kind) && (decide (y141.Name = y145.Name) && (decide (y141.Value = y145.Value) && true))))) rfl (fun hb151 => ?_) (fun hb151 => ?_)
      · have hm := ite_t' hb151 hm
        refine C_seq ?_
        refine C_region ?_
        refine W_assign rfl rfl rfl ?_
        refine W_end ?_
        refine E_then ?_
        refine C_ret ?_
        refine E_ret_block ?_
        refine E_ret_then ?_
        refine E_ret_then ?_
        refine E_ret_block ?_
        refine E_ret_then ?_
        obtain rfl := Option.some.inj hm
        refine E_weak (Hp.le_trans hle130 hle150) ?_
        exact end1 rfl rfl ⟨rfl, rfl, rfl⟩
      · have hm := ite_f' hb151 hm
        refine C_skip ?_
        refine E_normal_block ?_
        refine E_then ?_
        refine C_region ?_
        refine W_bin rfl rfl rfl rfl rfl ?_
        refine W_move rfl rfl rfl ?_
        refine W_end ?_
        exact E_keepJ (E_back (Nat.lt_succ_self _) ⟨k102 + 1, zs136, hd139, rfl, (by rw [hn133]; exact hm), (Hp.le_trans hle130 hle150), rfl, rfl⟩) (List.Perm.refl _) ⟨rfl, rfl, rfl, (congrArg (fun z => some (Value.int .i64 z)) (i64_succN hy137 (toNat_max (len_max (h0).lenMax)))), trivial⟩
    · obtain rfl := rngN_f hd138 hb140
      have hm : (some true) = some r := hm
      refine C_exit (E_exit_then ?_)
      refine E_exit_then ?_
      refine E_exit_hit ?_
      refine E_then ?_
      refine C_seq ?_
      refine C_region ?_
      refine W_assign rfl rfl rfl ?_
      refine W_end ?_
      refine E_then ?_
      refine C_ret ?_
      obtain rfl := Option.some.inj hm
      refine E_weak hle130 ?_
      exact end1 rfl rfl ⟨rfl, rfl, rfl⟩

theorem m_internal_bytealg_LastIndexByteString_c {B : Nat} {w0 w : World} [Tabs B w0] {H : Hp} {M : List Res} {p0_s : ByteArray} {p1_c : Int} {r : Int} (hm : m_internal_bytealg_LastIndexByteString p0_s p1_c = some r) (ht : St B w0 H (M) w) :
    Calls Proofs.Tryd.prog 37 [.string (p0_s), .int .u8 (p1_c)].toArray w (Ret B w0 fun H' M' v => H = H' ∧ M = M' ∧ .int .i64 (r) = v) := by
  unfold m_internal_bytealg_LastIndexByteString at hm
  refine enter Proofs.Tryd.func37 rfl rfl rfl ht ?_
  refine C_seq ?_
  refine C_region ?_
  refine W_assign rfl rfl rfl ?_
  refine W_end ?_
  refine E_then ?_
  refine C_seq ?_
  refine C_seq ?_
  refine C_region ?_
  refine W_move rfl rfl rfl ?_
  refine W_lenStr rfl rfl Proofs.Tryd.runUnderlying9 rfl ?_
  refine W_bin rfl rfl rfl rfl rfl ?_
  refine W_assign rfl rfl rfl ?_
  refine W_end ?_
  refine E_then ?_
  refine C_block ?_
  refine C_keep (L' := [(0, .string (p0_s)), (1, .int .u8 (p1_c)), (5, .int .i64 (IntKind.i64.wrap ((p0_s.size : Int) - 1)))]) ⟨rfl, rfl, rfl, trivial⟩ (List.Perm.refl _) ?_
  refine C_loop (fun n H' M' L' => ∃ n113 : Int, loopF (fun s116 n => m_internal_bytealg_LastIndexByteString_b1 p0_s p1_c s116 n) n n113 = some r ∧ H.le H' ∧ M = M' ∧ [(0, .string (p0_s)), (1, .int .u8 (p1_c)), (5, .int .i64 (n113))] = L') FUEL ⟨IntKind.i64.wrap ((p0_s.size : Int) - 1), hm, (Hp.le_refl _), rfl, rfl⟩ ?_
  rintro n119 H114 _ _ ⟨n113, hm, hle115, rfl, rfl⟩
  cases n119 with
  | zero => cases hm
  | succ n119 =>
    have hm : m_internal_bytealg_LastIndexByteString_b1 p0_s p1_c n113 (loopF (fun s116 n => m_internal_bytealg_LastIndexByteString_b1 p0_s p1_c s116 n) n119) = some r := hm
    generalize hn118 : loopF (fun s116 n => m_internal_bytealg_LastIndexByteString_b1 p0_s p1_c s116 n) n119 = nx117 at hm
    unfold m_internal_bytealg_LastIndexByteString_b1 at hm
    refine C_seq ?_
    refine C_seq ?_
    refine C_region ?_
    refine W_move rfl rfl rfl ?_
    refine W_bin rfl rfl rfl rfl rfl ?_
    refine W_end ?_
    refine E_then ?_
    refine C_cond (b := decide (0 ≤ n113)) rfl (fun hb125 => ?_) (fun hb125 => ?_)
    · have hm := ite_t' hb125 hm
      refine C_skip ?_
      refine E_then ?_
      refine C_seq ?_
      refine C_block ?_
      refine C_seq ?_
      refine C_region ?_
      refine W_move rfl rfl rfl ?_
      refine W_move rfl rfl rfl ?_
      obtain ⟨y126, h127, he128, hm⟩ := idx_some hm
      refine W_indexStr rfl rfl Proofs.Tryd.runUnderlying9 rfl rfl h127 he128 ?_
      refine W_move rfl rfl rfl ?_
      refine W_bin rfl rfl rfl rfl rfl ?_
      refine W_end ?_
      refine E_then ?_
      refine C_cond (b := decide (y126.n = p1_c)) rfl (fun hb129 => ?_) (fun hb129 => ?_)
      · have hm := ite_t' hb129 hm
        refine C_seq ?_
        refine C_region ?_
        refine W_move rfl rfl rfl ?_
        refine W_assign rfl rfl rfl ?_
        refine W_end ?_
        refine E_then ?_
        refine C_ret ?_
        refine E_ret_block ?_
        refine E_ret_then ?_
        refine E_ret_then ?_
        refine E_ret_block ?_
        refine E_ret_then ?_
        obtain rfl := Option.some.inj hm
        refine E_weak hle115 ?_
        exact end1 rfl rfl ⟨rfl, rfl, rfl⟩
      · have hm := ite_f' hb129 hm
        refine C_skip ?_
        refine E_normal_block ?_
        refine E_then ?_
        refine C_region ?_
        refine W_move rfl rfl rfl ?_
        refine W_bin rfl rfl rfl rfl rfl ?_
        refine W_assign rfl rfl rfl ?_
        refine W_end ?_
        exact E_keepJ (E_back (Nat.lt_succ_self _) ⟨IntKind.i64.wrap (n113 - 1), (by rw [hn118]; exact hm), hle115, rfl, rfl⟩) (List.Perm.refl _) ⟨rfl, rfl, rfl, trivial⟩
    · have hm := ite_f' hb125 hm
      refine C_exit ?_
      refine E_exit_then ?_
      refine E_exit_then ?_
      refine E_exit_hit ?_
      refine E_then ?_
      refine C_seq ?_
      refine C_region ?_
      refine W_assign rfl rfl rfl ?_
      refine W_end ?_
      refine E_then ?_
      refine C_ret ?_
      obtain rfl := Option.some.inj hm
      refine E_weak hle115 ?_
      exact end1 rfl rfl ⟨rfl, rfl, rfl⟩

theorem m_internal_bytealg_hashStrRev_string_c {B : Nat} {w0 w : World} [Tabs B w0] {H : Hp} {M : List Res} {sep : ByteArray} {r : Int × Int} (hm : m_internal_bytealg_hashStrRev_string sep = some r) (ht : St B w0 H (M) w) :
    Calls Proofs.Tryd.prog 49 [.string (sep)].toArray w (Ret B w0 fun H' M' v => H = H' ∧ M = M' ∧ .tuple #[.int .u32 (r.1), .int .u32 (r.2)] = v) := by
  unfold m_internal_bytealg_hashStrRev_string at hm
  refine enter Proofs.Tryd.func49 rfl rfl rfl ht ?_
  refine C_seq ?_
  refine C_region ?_
  refine W_assign rfl rfl rfl ?_
  refine W_assign rfl rfl rfl ?_
  refine W_end ?_
  refine E_then ?_
  refine C_seq ?_
  refine C_region ?_
  refine W_assign rfl rfl rfl ?_
  refine W_end ?_
  refine E_then ?_
  refine C_seq ?_
  refine C_seq ?_
  refine C_region ?_
  refine W_move rfl rfl rfl ?_
  refine W_lenStr rfl rfl Proofs.Tryd.runUnderlying9 rfl ?_
  refine W_bin rfl rfl rfl rfl rfl ?_
  refine W_assign rfl rfl rfl ?_
  refine W_end ?_
  refine E_then ?_
  refine C_block ?_
  refine C_keep (L' := [(0, .string (sep)), (4, .int .u32 (0)), (5, .int .i64 (IntKind.i64.wrap ((sep.size : Int) - 1)))]) ⟨rfl, rfl, rfl, trivial⟩ (List.Perm.refl _) ?_
  refine C_loop (fun n H' M' L' => ∃ n113 : Int, ∃ n114 : Int, loopF (fun s117 n => m_internal_bytealg_hashStrRev_string_b1 sep s117.1 s117.2 n) n (n113, n114) = some r ∧ H.le H' ∧ M = M' ∧ [(0, .string (sep)), (4, .int .u32 (n113)), (5, .int .i64 (n114))] = L') FUEL ⟨0, IntKind.i64.wrap ((sep.size : Int) - 1), hm, (Hp.le_refl _), rfl, rfl⟩ ?_
  rintro n120 H115 _ _ ⟨n113, n114, hm, hle116, rfl, rfl⟩
  cases n120 with
  | zero => cases hm
  | succ n120 =>
    have hm : m_internal_bytealg_hashStrRev_string_b1 sep n113 n114 (loopF (fun s117 n => m_internal_bytealg_hashStrRev_string_b1 sep s117.1 s117.2 n) n120) = some r := hm
    generalize hn119 : loopF (fun s117 n => m_internal_bytealg_hashStrRev_string_b1 sep s117.1 s117.2 n) n120 = nx118 at hm
    unfold m_internal_bytealg_hashStrRev_string_b1 at hm
    refine C_seq ?_
    refine C_seq ?_
    refine C_region ?_
    refine W_move rfl rfl rfl ?_
    refine W_bin rfl rfl rfl rfl rfl ?_
    refine W_end ?_
    refine E_then ?_
    refine C_cond (b := decide (0 ≤ n114)) rfl (fun hb126 => ?_) (fun hb126 => ?_)
    · have hm := ite_t' hb126 hm
      refine C_skip ?_
      refine E_then ?_
      refine C_seq ?_
      refine C_block ?_
      refine C_region ?_
      refine W_move rfl rfl rfl ?_
      refine W_bin rfl rfl rfl rfl rfl ?_
      refine W_move rfl rfl rfl ?_
      refine W_move rfl rfl rfl ?_
      obtain ⟨y127, h128, he129, hm⟩ := idx_some hm
      refine W_indexStr rfl rfl Proofs.Tryd.runUnderlying9 rfl rfl h128 he129 ?_
      refine W_convInt rfl rfl Proofs.Tryd.runUnderlying5 Proofs.Tryd.runUnderlying74 rfl ?_
      refine W_bin rfl rfl rfl rfl rfl ?_
      refine W_assign rfl rfl rfl ?_
      refine W_end ?_
      refine E_normal_block ?_
      refine E_then ?_
      refine C_region ?_
      refine W_move rfl rfl rfl ?_
      refine W_bin rfl rfl rfl rfl rfl ?_
      refine W_assign rfl rfl rfl ?_
      refine W_end ?_
      exact E_keepJ (E_back (Nat.lt_succ_self _) ⟨IntKind.u32.wrap ((IntKind.u32.wrap (n113 * 16777619)) + (IntKind.u32.wrap (y127.n))), IntKind.i64.wrap (n114 - 1), (by rw [hn119]; exact hm), hle116, rfl, rfl⟩) (List.Perm.refl _) ⟨rfl, rfl, rfl, trivial⟩
    · have hm := ite_f' hb126 hm
      refine C_exit ?_
      refine E_exit_then ?_
      refine E_exit_then ?_
      refine E_exit_hit ?_
      refine E_then ?_
      refine C_seq ?_
      refine C_region ?_
      refine W_assign rfl rfl rfl ?_
      refine W_assign rfl rfl rfl ?_
      refine W_end ?_
      refine E_then ?_
      refine C_seq ?_
      refine C_seq ?_
      refine C_region ?_
      refine W_move rfl rfl rfl ?_
      refine W_lenStr rfl rfl Proofs.Tryd.runUnderlying9 rfl ?_
      refine W_assign rfl rfl rfl ?_
      refine W_end ?_
      refine E_then ?_
      refine C_block ?_
      refine C_keep (L' := [(4, .int .u32 (n113)), (6, .int .u32 (1)), (7, .int .u32 (16777619)), (8, .int .i64 ((sep.size : Int)))]) ⟨rfl, rfl, rfl, rfl, trivial⟩ (List.Perm.refl _) ?_
      refine C_loop (fun n H' M' L' => ∃ n146 : Int, ∃ n147 : Int, ∃ n148 : Int, loopF (fun s151 n => m_internal_bytealg_hashStrRev_string_b4 n113 s151.1 s151.2.1 s151.2.2 n) n (n146, n147, n148) = some r ∧ H115.le H' ∧ M = M' ∧ [(4, .int .u32 (n113)), (6, .int .u32 (n146)), (7, .int .u32 (n147)), (8, .int .i64 (n148))] = L') FUEL ⟨1, 16777619, (sep.size : Int), hm, (Hp.le_refl _), rfl, rfl⟩ ?_
      rintro n154 H149 _ _ ⟨n146, n147, n148, hm, hle150, rfl, rfl⟩
      cases n154 with
      | zero => cases hm
      | succ n154 =>
        have hm : m_internal_bytealg_hashStrRev_string_b4 n113 n146 n147 n148 (loopF (fun s151 n => m_internal_bytealg_hashStrRev_string_b4 n113 s151.1 s151.2.1 s151.2.2 n) n154) = some r := hm
        generalize hn153 : loopF (fun s151 n => m_internal_bytealg_hashStrRev_string_b4 n113 s151.1 s151.2.1 s151.2.2 n) n154 = nx152 at hm
        unfold m_internal_bytealg_hashStrRev_string_b4 at hm
        refine C_seq ?_
        refine C_seq ?_
        refine C_region ?_
        refine W_move rfl rfl rfl ?_
        refine W_bin rfl rfl rfl rfl rfl ?_
        refine W_end ?_
        refine E_then ?_
        refine C_cond (b := decide (0 < n148)) rfl (fun hb160 => ?_) (fun hb160 => ?_)
        · have hm := ite_t' hb160 hm
          refine C_skip ?_
          refine E_then ?_
          refine C_seq ?_
          refine C_block ?_
          refine C_seq_join (fun H' M' L' => ∃ n162 : Int, m_internal_bytealg_hashStrRev_string_b5 n147 n148 nx152 n162 = some r ∧ H149 = H' ∧ M = M' ∧ [(4, .int .u32 (n113)), (6, .int .u32 (n162)), (7, .int .u32 (n147)), (8, .int .i64 (n148))] = L') ?_ (fun J163 => ?_)
          · rintro _ _ _ ⟨n162, hm, rfl, rfl, rfl⟩
            unfold m_internal_bytealg_hashStrRev_string_b5 at hm
            refine C_region ?_
            refine W_move rfl rfl rfl ?_
            refine W_move rfl rfl rfl ?_
            refine W_bin rfl rfl rfl rfl rfl ?_
            refine W_assign rfl rfl rfl ?_
            refine W_end ?_
            refine E_normal_block ?_
            refine E_then ?_
            refine C_region ?_
            refine W_move rfl rfl rfl ?_
            refine W_shr rfl rfl rfl rfl (by decide) ?_
            refine W_assign rfl rfl rfl ?_
            refine W_end ?_
            exact E_keepJ (E_back (Nat.lt_succ_self _) ⟨n162, IntKind.u32.wrap (n147 * n147), shrV .i64 n148 1, (by rw [hn153]; exact hm), hle150, rfl, rfl⟩) (List.Perm.refl _) ⟨rfl, rfl, rfl, rfl, trivial⟩
          · refine C_seq ?_
            refine C_region ?_
            refine W_move rfl rfl rfl ?_
            refine W_bin rfl rfl rfl rfl rfl ?_
            refine W_bin rfl rfl rfl rfl rfl ?_
            refine W_end ?_
            refine E_then ?_
            refine C_cond (b := !decide ((IntKind.i64.wrap ((BitVec.ofInt (IntKind.i64).bits n148 &&& BitVec.ofInt (IntKind.i64).bits 1).toNat)) = 0)) rfl (fun hb164 => ?_) (fun hb164 => ?_)
            · have hm := ite_t' hb164 hm
              refine C_region ?_
              refine W_move rfl rfl rfl ?_
              refine W_move rfl rfl rfl ?_
              refine W_bin rfl rfl rfl rfl rfl ?_
              refine W_assign rfl rfl rfl ?_
              refine W_end ?_
              exact E_keepJ (J163 _ _ _ ⟨IntKind.u32.wrap (n146 * n147), hm, rfl, rfl, rfl⟩) (List.Perm.refl _) ⟨rfl, rfl, rfl, rfl, trivial⟩
            · have hm := ite_f' hb164 hm
              refine C_skip ?_
              exact E_keepJ (J163 _ _ _ ⟨n146, hm, rfl, rfl, rfl⟩) (List.Perm.refl _) ⟨rfl, rfl, rfl, rfl, trivial⟩
        · have hm := ite_f' hb160 hm
          refine C_exit ?_
          refine E_exit_then ?_
          refine E_exit_then ?_
          refine E_exit_hit ?_
          refine E_then ?_
          refine C_seq ?_
          refine C_region ?_
          refine W_move rfl rfl rfl ?_
          refine W_move rfl rfl rfl ?_
          refine W_assign rfl rfl rfl ?_
          refine W_assign rfl rfl rfl ?_
          refine W_end ?_
          refine E_then ?_
          refine C_ret ?_
          obtain rfl := Option.some.inj hm
          refine E_weak (Hp.le_trans hle116 hle150) ?_
          exact end2 rfl rfl rfl ⟨rfl, rfl, rfl⟩

theorem m_internal_bytealg_LastIndexRabinKarp_string_c {B : Nat} {w0 w : World} [Tabs B w0] {H : Hp} {M : List Res} {p0_s : ByteArray} {sep : ByteArray} {r : Int} (hm : m_internal_bytealg_LastIndexRabinKarp_string p0_s sep = some r) (ht : St B w0 H (M) w) :
    Calls Proofs.Tryd.prog 38 [.string (p0_s), .string (sep)].toArray w (Ret B w0 fun H' M' v => H = H' ∧ M = M' ∧ .int .i64 (r) = v) := by
  unfold m_internal_bytealg_LastIndexRabinKarp_string at hm
  refine enter Proofs.Tryd.func38 rfl rfl rfl ht ?_
  refine C_seq ?_
  refine C_region ?_
  refine W_assign rfl rfl rfl ?_
  refine W_end ?_
  refine E_then ?_
  refine C_seq ?_
  refine C_region ?_
  refine W_move rfl rfl rfl ?_
  obtain ⟨r101, hc102, hm⟩ := bind_some hm
  refine W_call Proofs.Tryd.call49 rfl rfl rfl (fun w ht => by have h := m_internal_bytealg_hashStrRev_string_c (hm := hc102)  ht; exact h) ?_
  rintro _ _ _ ⟨rfl, rfl, rfl⟩
  refine W_move rfl rfl rfl ?_
  refine W_extract rfl rfl rfl rfl ?_
  refine W_extract rfl rfl rfl rfl ?_
  refine W_assign rfl rfl rfl ?_
  refine W_assign rfl rfl rfl ?_
  refine W_end ?_
  refine E_then ?_
  refine C_seq ?_
  refine C_region ?_
  refine W_move rfl rfl rfl ?_
  refine W_lenStr rfl rfl Proofs.Tryd.runUnderlying9 rfl ?_
  refine W_assign rfl rfl rfl ?_
  refine W_end ?_
  refine E_then ?_
  refine C_seq ?_
  refine C_region ?_
  refine W_move rfl rfl rfl ?_
  refine W_lenStr rfl rfl Proofs.Tryd.runUnderlying9 rfl ?_
  refine W_move rfl rfl rfl ?_
  refine W_bin rfl rfl rfl rfl rfl ?_
  refine W_assign rfl rfl rfl ?_
  refine W_end ?_
  refine E_then ?_
  refine C_seq ?_
  refine C_region ?_
  refine W_assign rfl rfl rfl ?_
  refine W_end ?_
  refine E_then ?_
  refine C_seq ?_
  refine C_seq ?_
  refine C_region ?_
  refine W_move rfl rfl rfl ?_
  refine W_lenStr rfl rfl Proofs.Tryd.runUnderlying9 rfl ?_
  refine W_bin rfl rfl rfl rfl rfl ?_
  refine W_assign rfl rfl rfl ?_
  refine W_end ?_
  refine E_then ?_
  refine C_block ?_
  refine C_keep (L' := [(0, .string (p0_s)), (1, .string (sep)), (5, .int .u32 (r101.1)), (6, .int .u32 (r101.2)), (7, .int .i64 ((sep.size : Int))), (8, .int .i64 (IntKind.i64.wrap ((p0_s.size : Int) - (sep.size : Int)))), (9, .int .u32 (0)), (10, .int .i64 (IntKind.i64.wrap ((p0_s.size : Int) - 1)))]) ⟨rfl, rfl, rfl, rfl, rfl, rfl, rfl, rfl, trivial⟩ (List.Perm.refl _) ?_
  refine C_loop (fun n H' M' L' => ∃ n115 : Int, ∃ n116 : Int, loopF (fun s119 n => m_internal_bytealg_LastIndexRabinKarp_string_b1 p0_s sep r101 s119.1 s119.2 n) n (n115, n116) = some r ∧ H.le H' ∧ M = M' ∧ [(0, .string (p0_s)), (1, .string (sep)), (5, .int .u32 (r101.1)), (6, .int .u32 (r101.2)), (7, .int .i64 ((sep.size : Int))), (8, .int .i64 (IntKind.i64.wrap ((p0_s.size : Int) - (sep.size : Int)))), (9, .int .u32 (n115)), (10, .int .i64 (n116))] = L') FUEL ⟨0, IntKind.i64.wrap ((p0_s.size : Int) - 1), hm, (Hp.le_refl _), rfl, rfl⟩ ?_
  rintro n122 H117 _ _ ⟨n115, n116, hm, hle118, rfl, rfl⟩
  cases n122 with
  | zero => cases hm
  | succ n122 =>
    have hm : m_internal_bytealg_LastIndexRabinKarp_string_b1 p0_s sep r101 n115 n116 (loopF (fun s119 n => m_internal_bytealg_LastIndexRabinKarp_string_b1 p0_s sep r101 s119.1 s119.2 n) n122) = some r := hm
    generalize hn121 : loopF (fun s119 n => m_internal_bytealg_LastIndexRabinKarp_string_b1 p0_s sep r101 s119.1 s119.2 n) n122 = nx120 at hm
    unfold m_internal_bytealg_LastIndexRabinKarp_string_b1 at hm
    refine C_seq ?_
    refine C_seq ?_
    refine C_region ?_
    refine W_move rfl rfl rfl ?_
    refine W_move rfl rfl rfl ?_
    refine W_bin rfl rfl rfl rfl rfl ?_
    refine W_end ?_
    refine E_then ?_
    refine C_cond (b := decide ((IntKind.i64.wrap ((p0_s.size : Int) - (sep.size : Int))) ≤ n116)) rfl (fun hb128 => ?_) (fun hb128 => ?_)
    · have hm := ite_t' hb128 hm
      refine C_skip ?_
      refine E_then ?_
      refine C_seq ?_
      refine C_block ?_
      refine C_region ?_
      refine W_move rfl rfl rfl ?_
      refine W_bin rfl rfl rfl rfl rfl ?_
      refine W_move rfl rfl rfl ?_
      refine W_move rfl rfl rfl ?_
      obtain ⟨y129, h130, he131, hm⟩ := idx_some hm
      refine W_indexStr rfl rfl Proofs.Tryd.runUnderlying9 rfl rfl h130 he131 ?_
      refine W_convInt rfl rfl Proofs.Tryd.runUnderlying5 Proofs.Tryd.runUnderlying74 rfl ?_
      refine W_bin rfl rfl rfl rfl rfl ?_
      refine W_assign rfl rfl rfl ?_
      refine W_end ?_
      refine E_normal_block ?_
      refine E_then ?_
      refine C_region ?_
      refine W_move rfl rfl rfl ?_
      refine W_bin rfl rfl rfl rfl rfl ?_
      refine W_assign rfl rfl rfl ?_
      refine W_end ?_
      exact E_keepJ (E_back (Nat.lt_succ_self _) ⟨IntKind.u32.wrap ((IntKind.u32.wrap (n115 * 16777619)) + (IntKind.u32.wrap (y129.n))), IntKind.i64.wrap (n116 - 1), (by rw [hn121]; exact hm), hle118, rfl, rfl⟩) (List.Perm.refl _) ⟨rfl, rfl, rfl, rfl, rfl, rfl, rfl, rfl, trivial⟩
    · have hm := ite_f' hb128 hm
      refine C_exit ?_
      refine E_exit_then ?_
      refine E_exit_then ?_
      refine E_exit_hit ?_
      refine E_then ?_
      refine C_seq ?_
      refine C_seq ?_
      refine C_region ?_
      refine W_move rfl rfl rfl ?_
      refine W_move rfl rfl rfl ?_
      refine W_bin rfl rfl rfl rfl rfl ?_
      refine W_move rfl rfl rfl ?_
      cases hb132 : (decide (n115 = r101.1))
      · have hm := ite_f' hb132 hm
        refine W_no rfl rfl rfl ?_
        refine W_no rfl rfl rfl ?_
        refine W_no rfl rfl rfl ?_
        refine W_no rfl rfl rfl ?_
        refine W_no rfl rfl rfl ?_
        refine W_pick rfl rfl rfl rfl ?_
        refine W_end ?_
        refine E_then ?_
        refine C_cond (b := false) rfl (fun hb => Bool.noConfusion hb) (fun _ => ?_)
        refine C_skip ?_
        refine E_then ?_
        refine C_seq ?_
        refine C_seq ?_
        refine C_region ?_
        refine W_move rfl rfl rfl ?_
        refine W_bin rfl rfl rfl rfl rfl ?_
        refine W_assign rfl rfl rfl ?_
        refine W_end ?_
        refine E_then ?_
        refine C_block ?_
        refine C_keep (L' := [(0, .string (p0_s)), (1, .string (sep)), (5, .int .u32 (r101.1)), (6, .int .u32 (r101.2)), (7, .int .i64 ((sep.size : Int))), (9, .int .u32 (n115)), (11, .int .i64 (IntKind.i64.wrap ((IntKind.i64.wrap ((p0_s.size : Int) - (sep.size : Int))) - 1)))]) ⟨rfl, rfl, rfl, rfl, rfl, rfl, rfl, trivial⟩ (List.Perm.refl _) ?_
        refine C_loop (fun n H' M' L' => ∃ n157 : Int, ∃ n158 : Int, loopF (fun s161 n => m_internal_bytealg_LastIndexRabinKarp_string_b2 p0_s sep r101 s161.1 s161.2 n) n (n157, n158) = some r ∧ H117.le H' ∧ M = M' ∧ [(0, .string (p0_s)), (1, .string (sep)), (5, .int .u32 (r101.1)), (6, .int .u32 (r101.2)), (7, .int .i64 ((sep.size : Int))), (9, .int .u32 (n157)), (11, .int .i64 (n158))] = L') FUEL ⟨n115, IntKind.i64.wrap ((IntKind.i64.wrap ((p0_s.size : Int) - (sep.size : Int))) - 1), hm, (Hp.le_refl _), rfl, rfl⟩ ?_
        rintro n164 H159 _ _ ⟨n157, n158, hm, hle160, rfl, rfl⟩
        cases n164 with
        | zero => cases hm
        | succ n164 =>
          have hm : m_internal_bytealg_LastIndexRabinKarp_string_b2 p0_s sep r101 n157 n158 (loopF (fun s161 n => m_internal_bytealg_LastIndexRabinKarp_string_b2 p0_s sep r101 s161.1 s161.2 n) n164) = some r := hm
          generalize hn163 : loopF (fun s161 n => m_internal_bytealg_LastIndexRabinKarp_string_b2 p0_s sep r101 s161.1 s161.2 n) n164 = nx162 at hm
          unfold m_internal_bytealg_LastIndexRabinKarp_string_b2 at hm
          refine C_seq ?_
          refine C_seq ?_
          refine C_region ?_
          refine W_move rfl rfl rfl ?_
          refine W_bin rfl rfl rfl rfl rfl ?_
          refine W_end ?_
          refine E_then ?_
          refine C_cond (b := decide (0 ≤ n158)) rfl (fun hb170 => ?_) (fun hb170 => ?_)
          · have hm := ite_t' hb170 hm
            refine C_skip ?_
            refine E_then ?_
            refine C_seq ?_
            refine C_block ?_
            refine C_seq ?_
            refine C_region ?_
            refine W_move rfl rfl rfl ?_
            refine W_bin rfl rfl rfl rfl rfl ?_
            refine W_assign rfl rfl rfl ?_
            refine W_end ?_
            refine E_then ?_
            refine C_seq ?_
            refine C_region ?_
            refine W_move rfl rfl rfl ?_
            refine W_move rfl rfl rfl ?_
            refine W_move rfl rfl rfl ?_
            obtain ⟨y171, h172, he173, hm⟩ := idx_some hm
            refine W_indexStr rfl rfl Proofs.Tryd.runUnderlying9 rfl rfl h172 he173 ?_
            refine W_convInt rfl rfl Proofs.Tryd.runUnderlying5 Proofs.Tryd.runUnderlying74 rfl ?_
            refine W_bin rfl rfl rfl rfl rfl ?_
            refine W_assign rfl rfl rfl ?_
            refine W_end ?_
            refine E_then ?_
            refine C_seq ?_
            refine C_region ?_
            refine W_move rfl rfl rfl ?_
            refine W_move rfl rfl rfl ?_
            refine W_move rfl rfl rfl ?_
            refine W_move rfl rfl rfl ?_
            refine W_move rfl rfl rfl ?_
            refine W_bin rfl rfl rfl rfl rfl ?_
            obtain ⟨y174, h175, he176, hm⟩ := idx_some hm
            refine W_indexStr rfl rfl Proofs.Tryd.runUnderlying9 rfl rfl h175 he176 ?_
            refine W_convInt rfl rfl Proofs.Tryd.runUnderlying5 Proofs.Tryd.runUnderlying74 rfl ?_
            refine W_bin rfl rfl rfl rfl rfl ?_
            refine W_bin rfl rfl rfl rfl rfl ?_
            refine W_assign rfl rfl rfl ?_
            refine W_end ?_
            refine E_then ?_
            refine C_seq ?_
            refine C_region ?_
            refine W_move rfl rfl rfl ?_
            refine W_move rfl rfl rfl ?_
            refine W_bin rfl rfl rfl rfl rfl ?_
            refine W_move rfl rfl rfl ?_
            cases hb177 : (decide ((IntKind.u32.wrap ((IntKind.u32.wrap ((IntKind.u32.wrap (n157 * 16777619)) + (IntKind.u32.wrap (y171.n)))) - (IntKind.u32.wrap (r101.2 * (IntKind.u32.wrap (y174.n)))))) = r101.1))
            · have hm := ite_f' hb177 hm
              refine W_no rfl rfl rfl ?_
              refine W_no rfl rfl rfl ?_
              refine W_no rfl rfl rfl ?_
              refine W_no rfl rfl rfl ?_
              refine W_no rfl rfl rfl ?_
              refine W_no rfl rfl rfl ?_
              refine W_no rfl rfl rfl ?_
              refine W_no rfl rfl rfl ?_
              refine W_pick rfl rfl rfl rfl ?_
              refine W_end ?_
              refine E_then ?_
              refine C_cond (b := false) rfl (fun hb => Bool.noConfusion hb) (fun _ => ?_)
              refine C_skip ?_
              refine E_normal_block ?_
              refine E_then ?_
              refine C_region ?_
              refine W_move rfl rfl rfl ?_
              refine W_bin rfl rfl rfl rfl rfl ?_
              refine W_assign rfl rfl rfl ?_
              refine W_end ?_
              exact E_keepJ (E_back (Nat.lt_succ_self _) ⟨IntKind.u32.wrap ((IntKind.u32.wrap ((IntKind.u32.wrap (n157 * 16777619)) + (IntKind.u32.wrap (y171.n)))) - (IntKind.u32.wrap (r101.2 * (IntKind.u32.wrap (y174.n))))), IntKind.i64.wrap (n158 - 1), (by rw [hn163]; exact hm), hle160, rfl, rfl⟩) (List.Perm.refl _) ⟨rfl, rfl, rfl, rfl, rfl, rfl, rfl, trivial⟩
            · have hm := ite_t' hb177 hm
              refine W_move rfl rfl rfl ?_
              refine W_move rfl rfl rfl ?_
              refine W_move rfl rfl rfl ?_
              refine W_move rfl rfl rfl ?_
              refine W_bin rfl rfl rfl rfl rfl ?_
              obtain ⟨hz178, hm⟩ := need_some hm
              refine W_sliceStr (l := (n158 : Int).toNat) (h := (IntKind.i64.wrap (n158 + (sep.size : Int)) : Int).toNat) rfl rfl Proofs.Tryd.runUnderlying9 rfl (.inr ⟨_, _, _, rfl, rfl, by omega, by omega, rfl⟩) (.inr ⟨_, _, _, rfl, rfl, by omega, by omega, rfl⟩) ?_
              refine W_move rfl rfl rfl ?_
              refine W_bin rfl rfl rfl rfl rfl ?_
              refine W_pick rfl rfl rfl rfl ?_
              refine W_end ?_
              refine E_then ?_
              refine C_cond (b := decide ((p0_s.extract ((n158 : Int).toNat) ((IntKind.i64.wrap (n158 + (sep.size : Int)) : Int).toNat)) = sep)) rfl (fun hb179 => ?_) (fun hb179 => ?_)
              · have hm := ite_t' hb179 hm
                refine C_seq ?_
                refine C_region ?_
                refine W_move rfl rfl rfl ?_
                refine W_assign rfl rfl rfl ?_
                refine W_end ?_
                refine E_then ?_
                refine C_ret ?_
                refine E_ret_block ?_
                refine E_ret_then ?_
                refine E_ret_then ?_
                refine E_ret_block ?_
                refine E_ret_then ?_
                obtain rfl := Option.some.inj hm
                refine E_weak (Hp.le_trans hle118 hle160) ?_
                exact end1 rfl rfl ⟨rfl, rfl, rfl⟩
              · have hm := ite_f' hb179 hm
                refine C_skip ?_
                refine E_normal_block ?_
                refine E_then ?_
                refine C_region ?_
                refine W_move rfl rfl rfl ?_
                refine W_bin rfl rfl rfl rfl rfl ?_
                refine W_assign rfl rfl rfl ?_
                refine W_end ?_
                exact E_keepJ (E_back (Nat.lt_succ_self _) ⟨IntKind.u32.wrap ((IntKind.u32.wrap ((IntKind.u32.wrap (n157 * 16777619)) + (IntKind.u32.wrap (y171.n)))) - (IntKind.u32.wrap (r101.2 * (IntKind.u32.wrap (y174.n))))), IntKind.i64.wrap (n158 - 1), (by rw [hn163]; exact hm), hle160, rfl, rfl⟩) (List.Perm.refl _) ⟨rfl, rfl, rfl, rfl, rfl, rfl, rfl, trivial⟩
          · have hm := ite_f' hb170 hm
            refine C_exit ?_
            refine E_exit_then ?_
            refine E_exit_then ?_
            refine E_exit_hit ?_
            refine E_then ?_
            refine C_seq ?_
            refine C_region ?_
            refine W_assign rfl rfl rfl ?_
            refine W_end ?_
            refine E_then ?_
            refine C_ret ?_
            obtain rfl := Option.some.inj hm
            refine E_weak (Hp.le_trans hle118 hle160) ?_
            exact end1 rfl rfl ⟨rfl, rfl, rfl⟩
      · have hm := ite_t' hb132 hm
        refine W_move rfl rfl rfl ?_
        refine W_move rfl rfl rfl ?_
        obtain ⟨hz180, hm⟩ := need_some hm
        refine W_sliceStr (l := (IntKind.i64.wrap ((p0_s.size : Int) - (sep.size : Int)) : Int).toNat) (h := p0_s.size) rfl rfl Proofs.Tryd.runUnderlying9 rfl (.inl ⟨rfl, rfl⟩) (.inr ⟨_, _, _, rfl, rfl, by omega, by omega, rfl⟩) ?_
        refine W_move rfl rfl rfl ?_
        refine W_bin rfl rfl rfl rfl rfl ?_
        refine W_pick rfl rfl rfl rfl ?_
        refine W_end ?_
        refine E_then ?_
        refine C_cond (b := decide ((p0_s.extract ((IntKind.i64.wrap ((p0_s.size : Int) - (sep.size : Int)) : Int).toNat) p0_s.size) = sep)) rfl (fun hb181 => ?_) (fun hb181 => ?_)
        · have hm := ite_t' hb181 hm
          refine C_seq ?_
          refine C_region ?_
          refine W_move rfl rfl rfl ?_
          refine W_assign rfl rfl rfl ?_
          refine W_end ?_
          refine E_then ?_
          refine C_ret ?_
          refine E_ret_then ?_
          obtain rfl := Option.some.inj hm
          refine E_weak hle118 ?_
          exact end1 rfl rfl ⟨rfl, rfl, rfl⟩
        · have hm := ite_f' hb181 hm
          refine C_skip ?_
          refine E_then ?_
          refine C_seq ?_
          refine C_seq ?_
          refine C_region ?_
          refine W_move rfl rfl rfl ?_
          refine W_bin rfl rfl rfl rfl rfl ?_
          refine W_assign rfl rfl rfl ?_
          refine W_end ?_
          refine E_then ?_
          refine C_block ?_
          refine C_keep (L' := [(0, .string (p0_s)), (1, .string (sep)), (5, .int .u32 (r101.1)), (6, .int .u32 (r101.2)), (7, .int .i64 ((sep.size : Int))), (9, .int .u32 (n115)), (11, .int .i64 (IntKind.i64.wrap ((IntKind.i64.wrap ((p0_s.size : Int) - (sep.size : Int))) - 1)))]) ⟨rfl, rfl, rfl, rfl, rfl, rfl, rfl, trivial⟩ (List.Perm.refl _) ?_
          refine C_loop (fun n H' M' L' => ∃ n206 : Int, ∃ n207 : Int, loopF (fun s210 n => m_internal_bytealg_LastIndexRabinKarp_string_b3 p0_s sep r101 s210.1 s210.2 n) n (n206, n207) = some r ∧ H117.le H' ∧ M = M' ∧ [(0, .string (p0_s)), (1, .string (sep)), (5, .int .u32 (r101.1)), (6, .int .u32 (r101.2)), (7, .int .i64 ((sep.size : Int))), (9, .int .u32 (n206)), (11, .int .i64 (n207))] = L') FUEL ⟨n115, IntKind.i64.wrap ((IntKind.i64.wrap ((p0_s.size : Int) - (sep.size : Int))) - 1), hm, (Hp.le_refl _), rfl, rfl⟩ ?_
          rintro n213 H208 _ _ ⟨n206, n207, hm, hle209, rfl, rfl⟩
          cases n213 with
          | zero => cases hm
          | succ n213 =>
            have hm : m_internal_bytealg_LastIndexRabinKarp_string_b3 p0_s sep r101 n206 n207 (loopF (fun s210 n => m_internal_bytealg_LastIndexRabinKarp_string_b3 p0_s sep r101 s210.1 s210.2 n) n213) = some r := hm
            generalize hn212 : loopF (fun s210 n => m_internal_bytealg_LastIndexRabinKarp_string_b3 p0_s sep r101 s210.1 s210.2 n) n213 = nx211 at hm
            unfold m_internal_bytealg_LastIndexRabinKarp_string_b3 at hm
            refine C_seq ?_
            refine C_seq ?_
            refine C_region ?_
            refine W_move rfl rfl rfl ?_
            refine W_bin rfl rfl rfl rfl rfl ?_
            refine W_end ?_
            refine E_then ?_
            refine C_cond (b := decide (0 ≤ n207)) rfl (fun hb219 => ?_) (fun hb219 => ?_)
            · have hm := ite_t' hb219 hm
              refine C_skip ?_
              refine E_then ?_
              refine C_seq ?_
              refine C_block ?_
              refine C_seq ?_
              refine C_region ?_
              refine W_move rfl rfl rfl ?_
              refine W_bin rfl rfl rfl rfl rfl ?_
              refine W_assign rfl rfl rfl ?_
              refine W_end ?_
              refine E_then ?_
              refine C_seq ?_
              refine C_region ?_
              refine W_move rfl rfl rfl ?_
              refine W_move rfl rfl rfl ?_
              refine W_move rfl rfl rfl ?_
              obtain ⟨y220, h221, he222, hm⟩ := idx_some hm
              refine W_indexStr rfl rfl Proofs.Tryd.runUnderlying9 rfl rfl h221 he222 ?_
              refine W_convInt rfl rfl Proofs.Tryd.runUnderlying5 Proofs.Tryd.runUnderlying74 rfl ?_
              refine W_bin rfl rfl rfl rfl rfl ?_
              refine W_assign rfl rfl rfl ?_
              refine W_end ?_
              refine E_then ?_
              refine C_seq ?_
              refine C_region ?_
              refine W_move rfl rfl rfl ?_
              refine W_move rfl rfl rfl ?_
              refine W_move rfl rfl rfl ?_
              refine W_move rfl rfl rfl ?_
              refine W_move rfl rfl rfl ?_
              refine W_bin rfl rfl rfl rfl rfl ?_
              obtain ⟨y223, h224, he225, hm⟩ := idx_some hm
              refine W_indexStr rfl rfl Proofs.Tryd.runUnderlying9 rfl rfl h224 he225 ?_
              refine W_convInt rfl rfl Proofs.Tryd.runUnderlying5 Proofs.Tryd.runUnderlying74 rfl ?_
              refine W_bin rfl rfl rfl rfl rfl ?_
              refine W_bin rfl rfl rfl rfl rfl ?_
              refine W_assign rfl rfl rfl ?_
              refine W_end ?_
              refine E_then ?_
              refine C_seq ?_
              refine C_region ?_
              refine W_move rfl rfl rfl ?_
              refine W_move rfl rfl rfl ?_
              refine W_bin rfl rfl rfl rfl rfl ?_
              refine W_move rfl rfl rfl ?_
              cases hb226 : (decide ((IntKind.u32.wrap ((IntKind.u32.wrap ((IntKind.u32.wrap (n206 * 16777619)) + (IntKind.u32.wrap (y220.n)))) - (IntKind.u32.wrap (r101.2 * (IntKind.u32.wrap (y223.n)))))) = r101.1))
              · have hm := ite_f' hb226 hm
                refine W_no rfl rfl rfl ?_
                refine W_no rfl rfl rfl ?_
                refine W_no rfl rfl rfl ?_
                refine W_no rfl rfl rfl ?_
                refine W_no rfl rfl rfl ?_
                refine W_no rfl rfl rfl ?_
                refine W_no rfl rfl rfl ?_
                refine W_no rfl rfl rfl ?_
                refine W_pick rfl rfl rfl rfl ?_
                refine W_end ?_
                refine E_then ?_
                refine C_cond (b := false) rfl (fun hb => Bool.noConfusion hb) (fun _ => ?_)
                refine C_skip ?_
                refine E_normal_block ?_
                refine E_then ?_
                refine C_region ?_
                refine W_move rfl rfl rfl ?_
                refine W_bin rfl rfl rfl rfl rfl ?_
                refine W_assign rfl rfl rfl ?_
                refine W_end ?_
                exact E_keepJ (E_back (Nat.lt_succ_self _) ⟨IntKind.u32.wrap ((IntKind.u32.wrap ((IntKind.u32.wrap (n206 * 16777619)) + (IntKind.u32.wrap (y220.n)))) - (IntKind.u32.wrap (r101.2 * (IntKind.u32.wrap (y223.n))))), IntKind.i64.wrap (n207 - 1), (by rw [hn212]; exact hm), hle209, rfl, rfl⟩) (List.Perm.refl _) ⟨rfl, rfl, rfl, rfl, rfl, rfl, rfl, trivial⟩
              · have hm := ite_t' hb226 hm
                refine W_move rfl rfl rfl ?_
                refine W_move rfl rfl rfl ?_
                refine W_move rfl rfl rfl ?_
                refine W_move rfl rfl rfl ?_
                refine W_bin rfl rfl rfl rfl rfl ?_
                obtain ⟨hz227, hm⟩ := need_some hm
                refine W_sliceStr (l := (n207 : Int).toNat) (h := (IntKind.i64.wrap (n207 + (sep.size : Int)) : Int).toNat) rfl rfl Proofs.Tryd.runUnderlying9 rfl (.inr ⟨_, _, _, rfl, rfl, by omega, by omega, rfl⟩) (.inr ⟨_, _, _, rfl, rfl, by omega, by omega, rfl⟩) ?_
                refine W_move rfl rfl rfl ?_
                refine W_bin rfl rfl rfl rfl rfl ?_
                refine W_pick rfl rfl rfl rfl ?_
                refine W_end ?_
                refine E_then ?_
                refine C_cond (b := decide ((p0_s.extract ((n207 : Int).toNat) ((IntKind.i64.wrap (n207 + (sep.size : Int)) : Int).toNat)) = sep)) rfl (fun hb228 => ?_) (fun hb228 => ?_)
                · have hm := ite_t' hb228 hm
                  refine C_seq ?_
                  refine C_region ?_
                  refine W_move rfl rfl rfl ?_
                  refine W_assign rfl rfl rfl ?_
                  refine W_end ?_
                  refine E_then ?_
                  refine C_ret ?_
                  refine E_ret_block ?_
                  refine E_ret_then ?_
                  refine E_ret_then ?_
                  refine E_ret_block ?_
                  refine E_ret_then ?_
                  obtain rfl := Option.some.inj hm
                  refine E_weak (Hp.le_trans hle118 hle209) ?_
                  exact end1 rfl rfl ⟨rfl, rfl, rfl⟩
                · have hm := ite_f' hb228 hm
                  refine C_skip ?_
                  refine E_normal_block ?_
                  refine E_then ?_
                  refine C_region ?_
                  refine W_move rfl rfl rfl ?_
                  refine W_bin rfl rfl rfl rfl rfl ?_
                  refine W_assign rfl rfl rfl ?_
                  refine W_end ?_
                  exact E_keepJ (E_back (Nat.lt_succ_self _) ⟨IntKind.u32.wrap ((IntKind.u32.wrap ((IntKind.u32.wrap (n206 * 16777619)) + (IntKind.u32.wrap (y220.n)))) - (IntKind.u32.wrap (r101.2 * (IntKind.u32.wrap (y223.n))))), IntKind.i64.wrap (n207 - 1), (by rw [hn212]; exact hm), hle209, rfl, rfl⟩) (List.Perm.refl _) ⟨rfl, rfl, rfl, rfl, rfl, rfl, rfl, trivial⟩
            · have hm := ite_f' hb219 hm
              refine C_exit ?_
              refine E_exit_then ?_
              refine E_exit_then ?_
              refine E_exit_hit ?_
              refine E_then ?_
              refine C_seq ?_
              refine C_region ?_
              refine W_assign rfl rfl rfl ?_
              refine W_end ?_
              refine E_then ?_
              refine C_ret ?_
              obtain rfl := Option.some.inj hm
              refine E_weak (Hp.le_trans hle118 hle209) ?_
              exact end1 rfl rfl ⟨rfl, rfl, rfl⟩

theorem m_strings_LastIndex_c {B : Nat} {w0 w : World} [Tabs B w0] {H : Hp} {M : List Res} {p0_s : ByteArray} {substr : ByteArray} {r : Int} (hm : m_strings_LastIndex p0_s substr = some r) (ht : St B w0 H (M) w) :
    Calls Proofs.Tryd.prog 21 [.string (p0_s), .string (substr)].toArray w (Ret B w0 fun H' M' v => H = H' ∧ M = M' ∧ .int .i64 (r) = v) := by
  unfold m_strings_LastIndex at hm
  refine enter Proofs.Tryd.func21 rfl rfl rfl ht ?_
  refine C_seq ?_
  refine C_region ?_
  refine W_assign rfl rfl rfl ?_
  refine W_end ?_
  refine E_then ?_
  refine C_seq ?_
  refine C_region ?_
  refine W_move rfl rfl rfl ?_
  refine W_lenStr rfl rfl Proofs.Tryd.runUnderlying9 rfl ?_
  refine W_assign rfl rfl rfl ?_
  refine W_end ?_
  refine E_then ?_
  refine C_seq ?_
  refine C_block ?_
  refine C_seq ?_
  refine C_region ?_
  refine W_move rfl rfl rfl ?_
  refine W_bin rfl rfl rfl rfl rfl ?_
  refine W_assign rfl rfl rfl ?_
  refine W_end ?_
  refine E_then ?_
  refine C_cond (b := decide ((substr.size : Int) = 0)) rfl (fun hb101 => ?_) (fun hb101 => ?_)
  · have hm := ite_t' hb101 hm
    refine C_seq ?_
    refine C_region ?_
    refine W_move rfl rfl rfl ?_
    refine W_lenStr rfl rfl Proofs.Tryd.runUnderlying9 rfl ?_
    refine W_assign rfl rfl rfl ?_
    refine W_end ?_
    refine E_then ?_
    refine C_ret ?_
    refine E_ret_block ?_
    refine E_ret_then ?_
    obtain rfl := Option.some.inj hm
    refine E_weak (Hp.le_refl _) ?_
    exact end1 rfl rfl ⟨rfl, rfl, rfl⟩
  · have hm := ite_f' hb101 hm
    refine C_seq ?_
    refine C_region ?_
    refine W_move rfl rfl rfl ?_
    refine W_bin rfl rfl rfl rfl rfl ?_
    refine W_assign rfl rfl rfl ?_
    refine W_end ?_
    refine E_then ?_
    refine C_cond (b := decide ((substr.size : Int) = 1)) rfl (fun hb102 => ?_) (fun hb102 => ?_)
    · have hm := ite_t' hb102 hm
      refine C_seq ?_
      refine C_region ?_
      refine W_move rfl rfl rfl ?_
      refine W_move rfl rfl rfl ?_
      obtain ⟨y103, h104, he105, hm⟩ := idx_some hm
      refine W_indexStr rfl rfl Proofs.Tryd.runUnderlying9 rfl rfl h104 he105 ?_
      obtain ⟨r106, hc107, hm⟩ := bind_some hm
      refine W_call Proofs.Tryd.call37 rfl rfl rfl (fun w ht => by have h := m_internal_bytealg_LastIndexByteString_c (hm := hc107)  ht; exact h) ?_
      rintro _ _ _ ⟨rfl, rfl, rfl⟩
      refine W_assign rfl rfl rfl ?_
      refine W_end ?_
      refine E_then ?_
      refine C_ret ?_
      refine E_ret_block ?_
      refine E_ret_then ?_
      obtain rfl := Option.some.inj hm
      refine E_weak (Hp.le_refl _) ?_
      exact end1 rfl rfl ⟨rfl, rfl, rfl⟩
    · have hm := ite_f' hb102 hm
      refine C_seq ?_
      refine C_region ?_
      refine W_move rfl rfl rfl ?_
      refine W_move rfl rfl rfl ?_
      refine W_lenStr rfl rfl Proofs.Tryd.runUnderlying9 rfl ?_
      refine W_bin rfl rfl rfl rfl rfl ?_
      refine W_assign rfl rfl rfl ?_
      refine W_end ?_
      refine E_then ?_
      refine C_cond (b := decide ((substr.size : Int) = (p0_s.size : Int))) rfl (fun hb108 => ?_) (fun hb108 => ?_)
      · have hm := ite_t' hb108 hm
        refine C_seq ?_
        refine C_seq ?_
        refine C_region ?_
        refine W_move rfl rfl rfl ?_
        refine W_move rfl rfl rfl ?_
        refine W_bin rfl rfl rfl rfl rfl ?_
        refine W_end ?_
        refine E_then ?_
        refine C_cond (b := decide (substr = p0_s)) rfl (fun hb109 => ?_) (fun hb109 => ?_)
        · have hm := ite_t' hb109 hm
          refine C_seq ?_
          refine C_region ?_
          refine W_assign rfl rfl rfl ?_
          refine W_end ?_
          refine E_then ?_
          refine C_ret ?_
          refine E_ret_then ?_
          refine E_ret_block ?_
          refine E_ret_then ?_
          obtain rfl := Option.some.inj hm
          refine E_weak (Hp.le_refl _) ?_
          exact end1 rfl rfl ⟨rfl, rfl, rfl⟩
        · have hm := ite_f' hb109 hm
          refine C_skip ?_
          refine E_then ?_
          refine C_seq ?_
          refine C_region ?_
          refine W_assign rfl rfl rfl ?_
          refine W_end ?_
          refine E_then ?_
          refine C_ret ?_
          refine E_ret_block ?_
          refine E_ret_then ?_
          obtain rfl := Option.some.inj hm
          refine E_weak (Hp.le_refl _) ?_
          exact end1 rfl rfl ⟨rfl, rfl, rfl⟩
      · have hm := ite_f' hb108 hm
        refine C_seq ?_
        refine C_region ?_
        refine W_move rfl rfl rfl ?_
        refine W_move rfl rfl rfl ?_
        refine W_lenStr rfl rfl Proofs.Tryd.runUnderlying9 rfl ?_
        refine W_bin rfl rfl rfl rfl rfl ?_
        refine W_assign rfl rfl rfl ?_
        refine W_end ?_
        refine E_then ?_
        refine C_cond (b := decide ((p0_s.size : Int) < (substr.size : Int))) rfl (fun hb110 => ?_) (fun hb110 => ?_)
        · have hm := ite_t' hb110 hm
          refine C_seq ?_
          refine C_region ?_
          refine W_assign rfl rfl rfl ?_
          refine W_end ?_
          refine E_then ?_
          refine C_ret ?_
          refine E_ret_block ?_
          refine E_ret_then ?_
          obtain rfl := Option.some.inj hm
          refine E_weak (Hp.le_refl _) ?_
          exact end1 rfl rfl ⟨rfl, rfl, rfl⟩
        · have hm := ite_f' hb110 hm
          refine C_skip ?_
          refine E_normal_block ?_
          refine E_then ?_
          refine C_seq ?_
          refine C_region ?_
          refine W_move rfl rfl rfl ?_
          refine W_move rfl rfl rfl ?_
          obtain ⟨r111, hc112, hm⟩ := bind_some hm
          refine W_call Proofs.Tryd.call38 rfl rfl rfl (fun w ht => by have h := m_internal_bytealg_LastIndexRabinKarp_string_c (hm := hc112)  ht; exact h) ?_
          rintro _ _ _ ⟨rfl, rfl, rfl⟩
          refine W_assign rfl rfl rfl ?_
          refine W_end ?_
          refine E_then ?_
          refine C_ret ?_
          obtain rfl := Option.some.inj hm
          refine E_weak (Hp.le_refl _) ?_
          exact end1 rfl rfl ⟨rfl, rfl, rfl⟩
end Go.Sim
