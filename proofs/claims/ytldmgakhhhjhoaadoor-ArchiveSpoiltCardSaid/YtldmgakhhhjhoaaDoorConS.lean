/-
  Printed by a program: each Go function computes its model.
-/
import Derived.Test.YtldmgakhhhjhoaaDoorConS1
namespace Go.Sim
open Go
set_option linter.unusedVariables false
set_option linter.unusedSimpArgs false
set_option maxRecDepth 100000
theorem m_archive_Recover_c {B : Nat} {w0 w : World} [Tabs B w0] {H : Hp} {M : List Res} {p0_s : ByteArray} {r : (Option S_archive_Archive) × Int × Int} (hm : m_archive_Recover p0_s = some r) (ht : St B w0 H (M) w) :
    Calls Proofs.Tryd.prog 16 [.string (p0_s)].toArray w (Ret B w0 fun H' M' v => (r.1 = none ∧ H.le H' ∧ M = M' ∧ .tuple #[.pointer none, .int .i64 (r.2.1), .int .i64 (r.2.2)] = v) ∨ (∃ qsp0 : S_archive_Archive, r.1 = some qsp0 ∧ H.le H' ∧ ∃ qb0 : Nat, ∃ qv0 : Value, ∃ qxs0 : List Value, .obj qb0 (.cells [qv0].toArray 51 (0, 0)) :: .row qv0 30 (Rep.sz S_api_Event) qsp0.all_.length qxs0 :: M = M' ∧ .tuple #[.pointer (some ⟨qb0, 0, none⟩), .int .i64 (r.2.1), .int .i64 (r.2.2)] = v ∧ Rw H' qv0 qxs0 qsp0.all_)) := by
  unfold m_archive_Recover at hm
  refine enter Proofs.Tryd.func16 rfl rfl rfl ht ?_
  refine C_seq ?_
  refine C_region ?_
  refine W_assign rfl rfl rfl ?_
  refine W_assign rfl rfl rfl ?_
  refine W_assign rfl rfl rfl ?_
  refine W_end ?_
  refine E_then ?_
  refine C_seq ?_
  refine C_seq ?_
  refine C_region ?_
  refine W_move rfl rfl rfl ?_
  refine W_lenStr rfl rfl Proofs.Tryd.runUnderlying9 rfl ?_
  refine W_bin rfl rfl rfl rfl rfl ?_
  refine W_end ?_
  refine E_then ?_
  refine C_cond (b := decide (65536 < (p0_s.size : Int))) rfl (fun hb101 => ?_) (fun hb101 => ?_)
  · have hm := ite_t' hb101 hm
    refine C_seq ?_
    refine C_region ?_
    refine W_assign rfl rfl rfl ?_
    refine W_assign rfl rfl rfl ?_
    refine W_assign rfl rfl rfl ?_
    refine W_end ?_
    refine E_then ?_
    refine C_ret ?_
    refine E_ret_then ?_
    obtain rfl := Option.some.inj hm
    exact end3 rfl rfl rfl rfl (.inl ⟨rfl, (Hp.le_refl _), rfl, rfl⟩)
  · have hm := ite_f' hb101 hm
    refine C_skip ?_
    refine E_then ?_
    refine C_seq ?_
    refine C_region ?_
    refine W_call Proofs.Tryd.call22 rfl rfl rfl (fun w ht => by have h := m_archive_New_c (hm := (rfl : m_archive_New = _))  ht; exact h) ?_
    rintro _ H113 _ (⟨hn107, hle109, rfl, rfl⟩ | ⟨sp102, hn110, hle112, b103, v104, xs105, rfl, rfl, h106⟩)
    · have hm := optC_n hn107 hm
      refine W_assign rfl rfl rfl ?_
      refine W_end ?_
      refine E_then ?_
      refine C_seq ?_
      refine C_region ?_
      refine W_assign rfl rfl rfl ?_
      refine W_assign rfl rfl rfl ?_
      refine W_end ?_
      refine E_then ?_
      refine C_block ?_
      refine C_keep (L' := [(0, .string (p0_s)), (5, .pointer none), (6, .int .i64 (0)), (7, .int .u64 (14695981039346656037))]) ⟨rfl, rfl, rfl, rfl, trivial⟩ (List.Perm.refl _) ?_
      refine C_loop (fun n H' M' L' => loopF (fun s218 n => m_archive_Recover_b1 p0_s n) n () = some r ∧ H113.le H' ∧ M = M' ∧ [(0, .string (p0_s)), (5, .pointer none), (6, .int .i64 (0)), (7, .int .u64 (14695981039346656037))] = L') FUEL ⟨hm, (Hp.le_refl _), rfl, rfl⟩ ?_
      rintro n221 H216 _ _ ⟨hm, hle217, rfl, rfl⟩
      cases n221 with
      | zero => cases hm
      | succ n221 =>
        have hm : m_archive_Recover_b1 p0_s (loopF (fun s218 n => m_archive_Recover_b1 p0_s n) n221) = some r := hm
        generalize hn220 : loopF (fun s218 n => m_archive_Recover_b1 p0_s n) n221 = nx219 at hm
        unfold m_archive_Recover_b1 at hm
        refine C_block ?_
        refine C_seq ?_
        refine C_region ?_
        refine W_move rfl rfl rfl ?_
        refine W_move rfl rfl rfl ?_
        obtain ⟨hz227, hm⟩ := need_some hm
        refine W_sliceStr (l := (0 : Int).toNat) (h := p0_s.size) rfl rfl Proofs.Tryd.runUnderlying9 rfl (.inl ⟨rfl, rfl⟩) (.inr ⟨_, _, _, rfl, rfl, by omega, by omega, rfl⟩) ?_
        obtain ⟨r228, hc229, hm⟩ := bind_some hm
        refine W_call Proofs.Tryd.call27 rfl rfl rfl (fun w ht => by have h := m_strings_Cut_c (hm := hc229)  ht; exact h) ?_
        rintro _ _ _ ⟨rfl, rfl, rfl⟩
        refine W_move rfl rfl rfl ?_
        refine W_extract rfl rfl rfl rfl ?_
        refine W_extract rfl rfl rfl rfl ?_
        refine W_extract rfl rfl rfl rfl ?_
        refine W_assign rfl rfl rfl ?_
        refine W_assign rfl rfl rfl ?_
        refine W_assign rfl rfl rfl ?_
        refine W_end ?_
        refine E_then ?_
        refine C_seq ?_
        refine C_region ?_
        refine W_move rfl rfl rfl ?_
        obtain ⟨r230, hc231, hm⟩ := bind_some hm
        refine W_call Proofs.Tryd.call28 rfl rfl rfl (fun w ht => by have h := m_strings_Split_c (hm := hc231)  ht; exact h) ?_
        rintro _ _ _ ⟨rfl, v232, xs233, rfl, rfl, h234⟩
        have h234 := h234 H216
        refine W_assign rfl rfl rfl ?_
        refine W_end ?_
        refine E_then ?_
        refine C_seq ?_
        refine C_seq_join (fun H' M' L' => H216 = H' ∧ .row v232 9 (Rep.sz ByteArray) r230.length xs233 :: M = M' ∧ [(0, .string (p0_s)), (5, .pointer none), (6, .int .i64 (0)), (7, .int .u64 (14695981039346656037)), (8, .string (r228.1)), (11, v232), (40, .bool ((!r228.2.2) || (!decide ((r230.length : Int) = 5))))] = L') ?_ (fun J236 => ?_)
        · rintro _ _ _ ⟨rfl, rfl, rfl⟩
          refine C_cond (b := (!r228.2.2) || (!decide ((r230.length : Int) = 5))) rfl (fun hb237 => ?_) (fun hb237 => ?_)
          · have hm := ite_t' hb237 hm
            refine C_seq ?_
            refine C_region ?_
            refine W_move rfl rfl rfl ?_
            refine W_move rfl rfl rfl ?_
            refine W_assign rfl rfl rfl ?_
            refine W_assign rfl rfl rfl ?_
            refine W_assign rfl rfl rfl ?_
            refine W_end ?_
            refine E_then ?_
            refine C_ret ?_
            refine E_ret_then ?_
            refine E_ret_block ?_
            refine E_ret_then ?_
            refine E_ret_block ?_
            obtain rfl := Option.some.inj hm
            refine E_drop (List.Sublist.cons _ (List.Sublist.refl _)) ?_
            exact end3 rfl rfl rfl rfl (.inl ⟨rfl, (Hp.le_trans hle109 hle217), rfl, rfl⟩)
          · have hm := ite_f' hb237 hm
            refine C_skip ?_
            refine E_then ?_
            refine C_seq ?_
            refine C_region ?_
            refine W_move rfl rfl rfl ?_
            obtain ⟨y238, h239, he240, hm⟩ := idx_some hm
            refine W_indexO (List.mem_cons_self ..) rfl rfl Proofs.Tryd.runUnderlying58 Proofs.Tryd.sizeOf9 rfl rfl h239 (List.getElem?_eq_some_iff.1 he240).1 ?_
            obtain ⟨_, rfl, hg241⟩ := (h234).elem he240
            refine W_load rfl rfl Proofs.Tryd.isAgg9 rfl (row_one0 (List.mem_cons_self ..) hg241 rfl) ?_
            obtain ⟨hz242, hm⟩ := need_some hm
            refine W_call Proofs.Tryd.call29 rfl rfl rfl (fun w ht => by have h := atoi29_c hz242 ht; exact h) ?_
            rintro _ _ _ ⟨rfl, v243, rfl, rfl, he244⟩
            refine W_move rfl rfl rfl ?_
            refine W_extract rfl rfl rfl rfl ?_
            refine W_extract rfl rfl rfl rfl ?_
            refine W_assign rfl rfl rfl ?_
            refine W_assign rfl rfl rfl ?_
            refine W_end ?_
            refine E_then ?_
            refine C_seq ?_
            refine C_region ?_
            refine W_move rfl rfl rfl ?_
            obtain ⟨y245, h246, he247, hm⟩ := idx_some hm
            refine W_indexO (List.mem_cons_self ..) rfl rfl Proofs.Tryd.runUnderlying58 Proofs.Tryd.sizeOf9 rfl rfl h246 (List.getElem?_eq_some_iff.1 he247).1 ?_
            obtain ⟨_, rfl, hg248⟩ := (h234).elem he247
            refine W_load rfl rfl Proofs.Tryd.isAgg9 rfl (row_one0 (List.mem_cons_self ..) hg248 rfl) ?_
            obtain ⟨hz249, hm⟩ := need_some hm
            refine W_call Proofs.Tryd.call29 rfl rfl rfl (fun w ht => by have h := atoi29_c hz249 ht; exact h) ?_
            rintro _ _ _ ⟨rfl, v250, rfl, rfl, he251⟩
            refine W_move rfl rfl rfl ?_
            refine W_extract rfl rfl rfl rfl ?_
            refine W_extract rfl rfl rfl rfl ?_
            refine W_assign rfl rfl rfl ?_
            refine W_assign rfl rfl rfl ?_
            refine W_end ?_
            refine E_then ?_
            refine C_seq ?_
            obtain ⟨y252, h253, he254, hm⟩ := idx_some hm
            obtain ⟨_, rfl, hg255⟩ := (h234).elem he254
            obtain ⟨y256, h257, he258, hm⟩ := idx_some hm
            obtain ⟨_, rfl, hg259⟩ := (h234).elem he258
            refine C_region_tok0 10 (phiT [(fun H rs v => [] = rs ∧ .int .i64 ((atoiB y238).1) = v), (fun H rs v => [] = rs ∧ v232 = v), (fun H rs v => [] = rs ∧ .pointer (some ((Value.base (v232)).add ((1 : Int).toNat * Rep.sz ByteArray))) = v), (fun H rs v => [] = rs ∧ .string (y252) = v), (fun H rs v => [] = rs ∧ v232 = v), (fun H rs v => [] = rs ∧ .pointer (some ((Value.base (v232)).add ((2 : Int).toNat * Rep.sz ByteArray))) = v), (fun H rs v => [] = rs ∧ .string (y256) = v), (fun H rs v => [] = rs ∧ .int .i64 ((atoiB y245).1) = v), (fun H rs v => [] = rs ∧ .agg [.int .i64 ((atoiB y238).1), .string (y252), .string (y256), .int .i64 ((atoiB y245).1)].toArray = v), (fun H rs v => ∃ b261 : Nat, [.obj b261 (.cells [.int .i64 (0), .string (⟨#[]⟩), .string (⟨#[]⟩), .int .i64 (0)].toArray 30 (0, 0))] = rs ∧ .pointer (some ⟨b261, 0, none⟩) = v)]) [[], [], [], [], [], [], [], [], [], []] [[], [], [], [], [], [], [], [], [], []] [] [0, 1, 2, 3, 4, 5, 6, 7, 8, 9] Facts.mixed (by kernel_rfl) rfl rfl rfl (by kernel_rfl) (phiT_mono ⟨eq_monoT _ _, eq_monoT _ _, eq_monoT _ _, eq_monoT _ _, eq_monoT _ _, eq_monoT _ _, eq_monoT _ _, eq_monoT _ _, eq_monoT _ _, (by rintro H1 H2 rs v hle ⟨b261, rfl, rfl⟩; exact ⟨b261, rfl, rfl⟩), trivial⟩) ⟨?_, ?_, ?_, ?_, ?_, ?_, ?_, ?_, ?_, ?_, trivial⟩ ?_
            · intro HX hX X Rest hR
              intro hU hUp
              refine W_move rfl rfl rfl ?_
              exact W_end (OneT_end [] (Hp.le_refl _) ⟨rfl, rfl⟩)
            · intro HX hX X Rest hR
              intro hU hUp
              refine W_move rfl rfl rfl ?_
              exact W_end (OneT_end [] (Hp.le_refl _) ⟨rfl, rfl⟩)
            · intro HX hX X Rest hR
              rintro _ _ ⟨rfl, rfl⟩
              intro hU hUp
              refine W_indexO (hR _ (List.mem_cons_self ..)) rfl rfl Proofs.Tryd.runUnderlying58 Proofs.Tryd.sizeOf9 rfl rfl h253 (List.getElem?_eq_some_iff.1 he254).1 ?_
              exact W_end (OneT_end [] (Hp.le_refl _) ⟨rfl, rfl⟩)
            · intro HX hX X Rest hR
              rintro _ _ ⟨rfl, rfl⟩
              intro hU hUp
              refine W_load rfl rfl Proofs.Tryd.isAgg9 rfl (row_one0 (hR _ (List.mem_cons_self ..)) hg255 rfl) ?_
              exact W_end (OneT_end [] (Hp.le_refl _) ⟨rfl, rfl⟩)
            · intro HX hX X Rest hR
              intro hU hUp
              refine W_move rfl rfl rfl ?_
              exact W_end (OneT_end [] (Hp.le_refl _) ⟨rfl, rfl⟩)
            · intro HX hX X Rest hR
              rintro _ _ ⟨rfl, rfl⟩
              intro hU hUp
              refine W_indexO (hR _ (List.mem_cons_self ..)) rfl rfl Proofs.Tryd.runUnderlying58 Proofs.Tryd.sizeOf9 rfl rfl h257 (List.getElem?_eq_some_iff.1 he258).1 ?_
              exact W_end (OneT_end [] (Hp.le_refl _) ⟨rfl, rfl⟩)
            · intro HX hX X Rest hR
              rintro _ _ ⟨rfl, rfl⟩
              intro hU hUp
              refine W_load rfl rfl Proofs.Tryd.isAgg9 rfl (row_one0 (hR _ (List.mem_cons_self ..)) hg259 rfl) ?_
              exact W_end (OneT_end [] (Hp.le_refl _) ⟨rfl, rfl⟩)
            · intro HX hX X Rest hR
              intro hU hUp
              refine W_move rfl rfl rfl ?_
              exact W_end (OneT_end [] (Hp.le_refl _) ⟨rfl, rfl⟩)
            · intro HX hX X Rest hR
              rintro _ _ ⟨rfl, rfl⟩
              rintro _ _ ⟨rfl, rfl⟩
              rintro _ _ ⟨rfl, rfl⟩
              rintro _ _ ⟨rfl, rfl⟩
              intro hU hUp
              refine W_build (css := [[.int .i64 ((atoiB y238).1)], [.string (y252)], [.string (y256)], [.int .i64 ((atoiB y245).1)]]) (zs := [.int .i64 (0), .string (⟨#[]⟩), .string (⟨#[]⟩), .int .i64 (0)]) (out := [.int .i64 ((atoiB y238).1), .string (y252), .string (y256), .int .i64 ((atoiB y245).1)]) (places := [(0, 1), (1, 1), (2, 1), (3, 1)]) rfl rfl rfl ⟨rfl, rfl, rfl, rfl, trivial⟩ Proofs.Tryd.zeroValue30 rfl Proofs.Tryd.runUnderlying30 (fun w => by kernel_rfl) rfl ?_
              exact W_end (OneT_end [] (Hp.le_refl _) ⟨rfl, rfl⟩)
            · intro HX hX X Rest hR
              intro hU hUp
              refine W_alloc (cs := [.int .i64 (0), .string (⟨#[]⟩), .string (⟨#[]⟩), .int .i64 (0)]) rfl rfl Proofs.Tryd.zeroValue30 rfl (fun b261 => ?_)
              exact W_end (OneT_end [.obj b261 (.cells [.int .i64 (0), .string (⟨#[]⟩), .string (⟨#[]⟩), .int .i64 (0)].toArray 30 (0, 0))] (Hp.le_refl _) ⟨b261, rfl, rfl⟩)
            intro H262 hle263
            rintro _ _ ⟨rfl, rfl⟩
            rintro _ _ ⟨rfl, rfl⟩
            rintro _ _ ⟨rfl, rfl⟩
            rintro _ _ ⟨rfl, rfl⟩
            rintro _ _ ⟨rfl, rfl⟩
            rintro _ _ ⟨rfl, rfl⟩
            rintro _ _ ⟨rfl, rfl⟩
            rintro _ _ ⟨rfl, rfl⟩
            rintro _ _ ⟨rfl, rfl⟩
            rintro _ _ ⟨b261, rfl, rfl⟩
            refine W_as (M' := .obj b261 (.cells [.int .i64 (0), .string (⟨#[]⟩), .string (⟨#[]⟩), .int .i64 (0)].toArray 30 (0, 0)) :: .row v232 9 (Rep.sz ByteArray) r230.length xs233 :: M) rfl ?_
            refine W_store (cs := [.int .i64 ((atoiB y238).1), .string (y252), .string (y256), .int .i64 ((atoiB y245).1)]) (out := [.int .i64 ((atoiB y238).1), .string (y252), .string (y256), .int .i64 ((atoiB y245).1)]) rfl Proofs.Tryd.sizeOf30 rfl rfl rfl rfl rfl (all_cons rfl (all_cons rfl (all_cons rfl (all_cons rfl all_nil)))) (over_all rfl) ?_
            refine W_end ?_
            refine E_then ?_
            refine C_seq ?_
            refine C_region ?_
            refine W_move rfl rfl rfl ?_
            refine W_loadAgg rfl rfl Proofs.Tryd.isAgg30 Proofs.Tryd.sizeOf30 rfl (own_all (List.mem_cons_self ..)) rfl ?_
            obtain ⟨r264, hc265, hm⟩ := bind_some hm
            refine W_call Proofs.Tryd.call31 rfl rfl rfl (fun w ht => by have h := m_archive_line_c (hm := hc265)  ht; exact h) ?_
            rintro _ _ _ ⟨rfl, rfl, rfl⟩
            obtain ⟨r266, hc267, hm⟩ := bind_some hm
            refine W_call Proofs.Tryd.call30 rfl rfl rfl (fun w ht => by have h := m_archive_digest_c (hm := hc267)  ht; exact h) ?_
            rintro _ _ _ ⟨rfl, rfl, rfl⟩
            refine W_assign rfl rfl rfl ?_
            refine W_end ?_
            refine E_then ?_
            refine C_seq ?_
            refine C_seq ?_
            refine C_region ?_
            refine W_move rfl rfl rfl ?_
            refine W_errNe Proofs.Tryd.runUnderlying61 he244 rfl rfl rfl ?_
            refine W_move rfl rfl rfl ?_
            cases hb268 : ((atoiB y238).2)
            · have hm := ite_f' hb268 hm
              refine W_move rfl rfl rfl ?_
              refine W_errNe Proofs.Tryd.runUnderlying61 he251 rfl rfl rfl ?_
              refine W_pick rfl rfl rfl rfl ?_
              refine W_move rfl rfl rfl ?_
              cases hb269 : ((atoiB y245).2)
              · have hm := ite_f' hb269 hm
                refine W_loadAgg rfl rfl Proofs.Tryd.isAgg30 Proofs.Tryd.sizeOf30 rfl (own_all (List.mem_cons_self ..)) rfl ?_
                obtain ⟨r270, hc271, hm⟩ := bind_some hm
                refine W_call Proofs.Tryd.call31 rfl rfl rfl (fun w ht => by have h := m_archive_line_c (hm := hc271)  ht; exact h) ?_
                rintro _ _ _ ⟨rfl, rfl, rfl⟩
                obtain ⟨hq272, hm⟩ := need_some hm
                refine W_addStr rfl rfl rfl rfl hq272 ?_
                refine W_move rfl rfl rfl ?_
                obtain ⟨r273, hc274, hm⟩ := bind_some hm
                refine W_call Proofs.Tryd.call32 rfl rfl rfl (fun w ht => by have h := m_strconv_FormatUint_c (hm := hc274)  ht; exact h) ?_
                rintro _ _ _ ⟨rfl, rfl, rfl⟩
                obtain ⟨hq275, hm⟩ := need_some hm
                refine W_addStr rfl rfl rfl rfl hq275 ?_
                refine W_move rfl rfl rfl ?_
                refine W_bin rfl rfl rfl rfl rfl ?_
                refine W_pick rfl rfl rfl rfl ?_
                refine W_end ?_
                refine E_then ?_
                refine C_cond (b := !decide (((r270 ++ (⟨#[32]⟩)) ++ r273) = r228.1)) rfl (fun hb276 => ?_) (fun hb276 => ?_)
                · have hm := ite_t' hb276 hm
                  refine C_seq ?_
                  refine C_region ?_
                  refine W_move rfl rfl rfl ?_
                  refine W_move rfl rfl rfl ?_
                  refine W_assign rfl rfl rfl ?_
                  refine W_assign rfl rfl rfl ?_
                  refine W_assign rfl rfl rfl ?_
                  refine W_end ?_
                  refine E_then ?_
                  refine C_ret ?_
                  refine E_ret_then ?_
                  refine E_ret_block ?_
                  refine E_ret_then ?_
                  refine E_ret_block ?_
                  obtain rfl := Option.some.inj hm
                  refine E_drop (List.Sublist.cons _ (List.Sublist.cons _ (List.Sublist.refl _))) ?_
                  exact end3 rfl rfl rfl rfl (.inl ⟨rfl, (Hp.le_trans (Hp.le_trans hle109 hle217) hle263), rfl, rfl⟩)
                · have hm := ite_f' hb276 hm
                  refine C_skip ?_
                  refine E_then ?_
                  refine C_seq ?_
                  refine C_seq ?_
                  cases hm
              · have hm := ite_t' hb269 hm
                refine W_no rfl rfl rfl ?_
                refine W_no rfl rfl rfl ?_
                refine W_no rfl rfl rfl ?_
                refine W_no rfl rfl rfl ?_
                refine W_no rfl rfl rfl ?_
                refine W_no rfl rfl rfl ?_
                refine W_no rfl rfl rfl ?_
                refine W_no rfl rfl rfl ?_
                refine W_pick rfl rfl rfl rfl ?_
                refine W_end ?_
                refine E_then ?_
                refine C_cond (b := true) rfl (fun _ => ?_) (fun hb => Bool.noConfusion hb)
                refine C_seq ?_
                refine C_region ?_
                refine W_move rfl rfl rfl ?_
                refine W_move rfl rfl rfl ?_
                refine W_assign rfl rfl rfl ?_
                refine W_assign rfl rfl rfl ?_
                refine W_assign rfl rfl rfl ?_
                refine W_end ?_
                refine E_then ?_
                refine C_ret ?_
                refine E_ret_then ?_
                refine E_ret_block ?_
                refine E_ret_then ?_
                refine E_ret_block ?_
                obtain rfl := Option.some.inj hm
                refine E_drop (List.Sublist.cons _ (List.Sublist.cons _ (List.Sublist.refl _))) ?_
                exact end3 rfl rfl rfl rfl (.inl ⟨rfl, (Hp.le_trans (Hp.le_trans hle109 hle217) hle263), rfl, rfl⟩)
            · have hm := ite_t' hb268 hm
              refine W_no rfl rfl rfl ?_
              refine W_no rfl rfl rfl ?_
              refine W_pick rfl rfl rfl rfl ?_
              refine W_move rfl rfl rfl ?_
              refine W_no rfl rfl rfl ?_
              refine W_no rfl rfl rfl ?_
              refine W_no rfl rfl rfl ?_
              refine W_no rfl rfl rfl ?_
              refine W_no rfl rfl rfl ?_
              refine W_no rfl rfl rfl ?_
              refine W_no rfl rfl rfl ?_
              refine W_no rfl rfl rfl ?_
              refine W_pick rfl rfl rfl rfl ?_
              refine W_end ?_
              refine E_then ?_
              refine C_cond (b := true) rfl (fun _ => ?_) (fun hb => Bool.noConfusion hb)
              refine C_seq ?_
              refine C_region ?_
              refine W_move rfl rfl rfl ?_
              refine W_move rfl rfl rfl ?_
              refine W_assign rfl rfl rfl ?_
              refine W_assign rfl rfl rfl ?_
              refine W_assign rfl rfl rfl ?_
              refine W_end ?_
              refine E_then ?_
              refine C_ret ?_
              refine E_ret_then ?_
              refine E_ret_block ?_
              refine E_ret_then ?_
              refine E_ret_block ?_
              obtain rfl := Option.some.inj hm
              refine E_drop (List.Sublist.cons _ (List.Sublist.cons _ (List.Sublist.refl _))) ?_
              exact end3 rfl rfl rfl rfl (.inl ⟨rfl, (Hp.le_trans (Hp.le_trans hle109 hle217) hle263), rfl, rfl⟩)
        · refine C_region ?_
          refine W_move rfl rfl rfl ?_
          refine W_un rfl rfl rfl rfl ?_
          refine W_move rfl rfl rfl ?_
          cases hb277 : (r228.2.2)
          · refine W_no rfl rfl rfl ?_
            refine W_no rfl rfl rfl ?_
            refine W_no rfl rfl rfl ?_
            refine W_pick rfl rfl rfl rfl ?_
            refine W_end ?_
            exact E_keepJ (J236 _ _ _ ⟨rfl, rfl, rfl⟩) (List.Perm.refl _) ⟨rfl, rfl, rfl, rfl, rfl, rfl, (by show some (Value.bool (true)) = some (Value.bool ((!r228.2.2) || (!decide ((r230.length : Int) = 5)))); simp only [hb101, hb277, Bool.and_true, Bool.true_and, Bool.false_and, Bool.and_false, Bool.or_true, Bool.true_or, Bool.or_false, Bool.false_or, Bool.not_true, Bool.not_false]), trivial⟩
          · refine W_move rfl rfl rfl ?_
            refine W_lenO (List.mem_cons_self ..) rfl rfl Proofs.Tryd.runUnderlying58 rfl ?_
            refine W_bin rfl rfl rfl rfl rfl ?_
            refine W_pick rfl rfl rfl rfl ?_
            refine W_end ?_
            exact E_keepJ (J236 _ _ _ ⟨rfl, rfl, rfl⟩) (List.Perm.refl _) ⟨rfl, rfl, rfl, rfl, rfl, rfl, (by show some (Value.bool (!decide ((r230.length : Int) = 5))) = some (Value.bool ((!r228.2.2) || (!decide ((r230.length : Int) = 5)))); simp only [hb101, hb277, Bool.and_true, Bool.true_and, Bool.false_and, Bool.and_false, Bool.or_true, Bool.true_or, Bool.or_false, Bool.false_or, Bool.not_true, Bool.not_false]), trivial⟩
    · have hm := optC_s hn110 hm
      refine W_assign rfl rfl rfl ?_
      refine W_end ?_
      refine E_then ?_
      refine C_seq ?_
      refine C_region ?_
      refine W_assign rfl rfl rfl ?_
      refine W_assign rfl rfl rfl ?_
      refine W_end ?_
      refine E_then ?_
      refine C_block ?_
      refine C_keep (L' := [(0, .string (p0_s)), (5, .pointer (some ⟨b103, 0, none⟩)), (6, .int .i64 (0)), (7, .int .u64 (14695981039346656037))]) ⟨rfl, rfl, rfl, rfl, trivial⟩ (List.Perm.swap _ _ _) ?_
      refine C_loop (fun n H' M' L' => ∃ n410 : Int, ∃ n411 : Int, ∃ l414 : List S_api_Event, ∃ v412 : Value, ∃ xs413 : List Value, loopF (fun s418 n => m_archive_Recover_b2 p0_s s418.1 s418.2.1 s418.2.2 n) n (n410, n411, l414) = some r ∧ Rw H' v412 xs413 l414 ∧ H113.le H' ∧ .row v412 30 (Rep.sz S_api_Event) l414.length xs413 :: .obj b103 (.cells [v412].toArray 51 (0, 0)) :: M = M' ∧ [(0, .string (p0_s)), (5, .pointer (some ⟨b103, 0, none⟩)), (6, .int .i64 (n410)), (7, .int .u64 (n411))] = L') FUEL ⟨0, 14695981039346656037, sp102.all_, v104, xs105, hm, h106, (Hp.le_refl _), rfl, rfl⟩ ?_
      rintro n421 H416 _ _ ⟨n410, n411, l414, v412, xs413, hm, hr415, hle417, rfl, rfl⟩
      cases n421 with
      | zero => cases hm
      | succ n421 =>
        have hm : m_archive_Recover_b2 p0_s n410 n411 l414 (loopF (fun s418 n => m_archive_Recover_b2 p0_s s418.1 s418.2.1 s418.2.2 n) n421) = some r := hm
        generalize hn420 : loopF (fun s418 n => m_archive_Recover_b2 p0_s s418.1 s418.2.1 s418.2.2 n) n421 = nx419 at hm
        unfold m_archive_Recover_b2 at hm
        refine C_block ?_
        refine C_seq ?_
        refine C_region ?_
        refine W_move rfl rfl rfl ?_
        refine W_move rfl rfl rfl ?_
        obtain ⟨hz427, hm⟩ := need_some hm
        refine W_sliceStr (l := (n410 : Int).toNat) (h := p0_s.size) rfl rfl Proofs.Tryd.runUnderlying9 rfl (.inl ⟨rfl, rfl⟩) (.inr ⟨_, _, _, rfl, rfl, by omega, by omega, rfl⟩) ?_
        obtain ⟨r428, hc429, hm⟩ := bind_some hm
        refine W_call Proofs.Tryd.call27 rfl rfl rfl (fun w ht => by have h := m_strings_Cut_c (hm := hc429)  ht; exact h) ?_
        rintro _ _ _ ⟨rfl, rfl, rfl⟩
        refine W_move rfl rfl rfl ?_
        refine W_extract rfl rfl rfl rfl ?_
        refine W_extract rfl rfl rfl rfl ?_
        refine W_extract rfl rfl rfl rfl ?_
        refine W_assign rfl rfl rfl ?_
        refine W_assign rfl rfl rfl ?_
        refine W_assign rfl rfl rfl ?_
        refine W_end ?_
        refine E_then ?_
        refine C_seq ?_
        refine C_region ?_
        refine W_move rfl rfl rfl ?_
        obtain ⟨r430, hc431, hm⟩ := bind_some hm
        refine W_call Proofs.Tryd.call28 rfl rfl rfl (fun w ht => by have h := m_strings_Split_c (hm := hc431)  ht; exact h) ?_
        rintro _ _ _ ⟨rfl, v432, xs433, rfl, rfl, h434⟩
        have h434 := h434 H416
        refine W_assign rfl rfl rfl ?_
        refine W_end ?_
        refine E_then ?_
        refine C_seq ?_
        refine C_seq_join (fun H' M' L' => H416 = H' ∧ .row v432 9 (Rep.sz ByteArray) r430.length xs433 :: .row v412 30 (Rep.sz S_api_Event) l414.length xs413 :: .obj b103 (.cells [v412].toArray 51 (0, 0)) :: M = M' ∧ [(0, .string (p0_s)), (5, .pointer (some ⟨b103, 0, none⟩)), (6, .int .i64 (n410)), (7, .int .u64 (n411)), (8, .string (r428.1)), (11, v432), (40, .bool ((!r428.2.2) || (!decide ((r430.length : Int) = 5))))] = L') ?_ (fun J436 => ?_)
        · rintro _ _ _ ⟨rfl, rfl, rfl⟩
          refine C_cond (b := (!r428.2.2) || (!decide ((r430.length : Int) = 5))) rfl (fun hb437 => ?_) (fun hb437 => ?_)
          · have hm := ite_t' hb437 hm
            refine C_seq ?_
            refine C_region ?_
            refine W_move rfl rfl rfl ?_
            refine W_move rfl rfl rfl ?_
            refine W_assign rfl rfl rfl ?_
            refine W_assign rfl rfl rfl ?_
            refine W_assign rfl rfl rfl ?_
            refine W_end ?_
            refine E_then ?_
            refine C_ret ?_
            refine E_ret_then ?_
            refine E_ret_block ?_
            refine E_ret_then ?_
            refine E_ret_block ?_
            obtain rfl := Option.some.inj hm
            refine E_drop (List.Sublist.cons _ (List.Sublist.refl _)) ?_
            refine E_perm (List.Perm.swap _ _ _) ?_
            exact end3 rfl rfl rfl rfl (.inr ⟨(S_archive_Archive.mk l414), rfl, (Hp.le_trans hle112 hle417), b103, v412, xs413, rfl, rfl, hr415⟩)
          · have hm := ite_f' hb437 hm
            refine C_skip ?_
            refine E_then ?_
            refine C_seq ?_
            refine C_region ?_
            refine W_move rfl rfl rfl ?_
            obtain ⟨y438, h439, he440, hm⟩ := idx_some hm
            refine W_indexO (List.mem_cons_self ..) rfl rfl Proofs.Tryd.runUnderlying58 Proofs.Tryd.sizeOf9 rfl rfl h439 (List.getElem?_eq_some_iff.1 he440).1 ?_
            obtain ⟨_, rfl, hg441⟩ := (h434).elem he440
            refine W_load rfl rfl Proofs.Tryd.isAgg9 rfl (row_one0 (List.mem_cons_self ..) hg441 rfl) ?_
            obtain ⟨hz442, hm⟩ := need_some hm
            refine W_call Proofs.Tryd.call29 rfl rfl rfl (fun w ht => by have h := atoi29_c hz442 ht; exact h) ?_
            rintro _ _ _ ⟨rfl, v443, rfl, rfl, he444⟩
            refine W_move rfl rfl rfl ?_
            refine W_extract rfl rfl rfl rfl ?_
            refine W_extract rfl rfl rfl rfl ?_
            refine W_assign rfl rfl rfl ?_
            refine W_assign rfl rfl rfl ?_
            refine W_end ?_
            refine E_then ?_
            refine C_seq ?_
            refine C_region ?_
            refine W_move rfl rfl rfl ?_
            obtain ⟨y445, h446, he447, hm⟩ := idx_some hm
            refine W_indexO (List.mem_cons_self ..) rfl rfl Proofs.Tryd.runUnderlying58 Proofs.Tryd.sizeOf9 rfl rfl h446 (List.getElem?_eq_some_iff.1 he447).1 ?_
            obtain ⟨_, rfl, hg448⟩ := (h434).elem he447
            refine W_load rfl rfl Proofs.Tryd.isAgg9 rfl (row_one0 (List.mem_cons_self ..) hg448 rfl) ?_
            obtain ⟨hz449, hm⟩ := need_some hm
            refine W_call Proofs.Tryd.call29 rfl rfl rfl (fun w ht => by have h := atoi29_c hz449 ht; exact h) ?_
            rintro _ _ _ ⟨rfl, v450, rfl, rfl, he451⟩
            refine W_move rfl rfl rfl ?_
            refine W_extract rfl rfl rfl rfl ?_
            refine W_extract rfl rfl rfl rfl ?_
            refine W_assign rfl rfl rfl ?_
            refine W_assign rfl rfl rfl ?_
            refine W_end ?_
            refine E_then ?_
            refine C_seq ?_
            obtain ⟨y452, h453, he454, hm⟩ := idx_some hm
            obtain ⟨_, rfl, hg455⟩ := (h434).elem he454
            obtain ⟨y456, h457, he458, hm⟩ := idx_some hm
            obtain ⟨_, rfl, hg459⟩ := (h434).elem he458
            refine C_region_tok0 10 (phiT [(fun H rs v => [] = rs ∧ .int .i64 ((atoiB y438).1) = v), (fun H rs v => [] = rs ∧ v432 = v), (fun H rs v => [] = rs ∧ .pointer (some ((Value.base (v432)).add ((1 : Int).toNat * Rep.sz ByteArray))) = v), (fun H rs v => [] = rs ∧ .string (y452) = v), (fun H rs v => [] = rs ∧ v432 = v), (fun H rs v => [] = rs ∧ .pointer (some ((Value.base (v432)).add ((2 : Int).toNat * Rep.sz ByteArray))) = v), (fun H rs v => [] = rs ∧ .string (y456) = v), (fun H rs v => [] = rs ∧ .int .i64 ((atoiB y445).1) = v), (fun H rs v => [] = rs ∧ .agg [.int .i64 ((atoiB y438).1), .string (y452), .string (y456), .int .i64 ((atoiB y445).1)].toArray = v), (fun H rs v => ∃ b461 : Nat, [.obj b461 (.cells [.int .i64 (0), .string (⟨#[]⟩), .string (⟨#[]⟩), .int .i64 (0)].toArray 30 (0, 0))] = rs ∧ .pointer (some ⟨b461, 0, none⟩) = v)]) [[], [], [], [], [], [], [], [], [], []] [[], [], [], [], [], [], [], [], [], []] [] [0, 1, 2, 3, 4, 5, 6, 7, 8, 9] Facts.mixed (by kernel_rfl) rfl rfl rfl (by kernel_rfl) (phiT_mono ⟨eq_monoT _ _, eq_monoT _ _, eq_monoT _ _, eq_monoT _ _, eq_monoT _ _, eq_monoT _ _, eq_monoT _ _, eq_monoT _ _, eq_monoT _ _, (by rintro H1 H2 rs v hle ⟨b461, rfl, rfl⟩; exact ⟨b461, rfl, rfl⟩), trivial⟩) ⟨?_, ?_, ?_, ?_, ?_, ?_, ?_, ?_, ?_, ?_, trivial⟩ ?_
            · intro HX hX X Rest hR
              intro hU hUp
              refine W_move rfl rfl rfl ?_
              exact W_end (OneT_end [] (Hp.le_refl _) ⟨rfl, rfl⟩)
            · intro HX hX X Rest hR
              intro hU hUp
              refine W_move rfl rfl rfl ?_
              exact W_end (OneT_end [] (Hp.le_refl _) ⟨rfl, rfl⟩)
            · intro HX hX X Rest hR
              rintro _ _ ⟨rfl, rfl⟩
              intro hU hUp
              refine W_indexO (hR _ (List.mem_cons_self ..)) rfl rfl Proofs.Tryd.runUnderlying58 Proofs.Tryd.sizeOf9 rfl rfl h453 (List.getElem?_eq_some_iff.1 he454).1 ?_
              exact W_end (OneT_end [] (Hp.le_refl _) ⟨rfl, rfl⟩)
            · intro HX hX X Rest hR
              rintro _ _ ⟨rfl, rfl⟩
              intro hU hUp
              refine W_load rfl rfl Proofs.Tryd.isAgg9 rfl (row_one0 (hR _ (List.mem_cons_self ..)) hg455 rfl) ?_
              exact W_end (OneT_end [] (Hp.le_refl _) ⟨rfl, rfl⟩)
            · intro HX hX X Rest hR
              intro hU hUp
              refine W_move rfl rfl rfl ?_
              exact W_end (OneT_end [] (Hp.le_refl _) ⟨rfl, rfl⟩)
            · intro HX hX X Rest hR
              rintro _ _ ⟨rfl, rfl⟩
              intro hU hUp
              refine W_indexO (hR _ (List.mem_cons_self ..)) rfl rfl Proofs.Tryd.runUnderlying58 Proofs.Tryd.sizeOf9 rfl rfl h457 (List.getElem?_eq_some_iff.1 he458).1 ?_
              exact W_end (OneT_end [] (Hp.le_refl _) ⟨rfl, rfl⟩)
            · intro HX hX X Rest hR
              rintro _ _ ⟨rfl, rfl⟩
              intro hU hUp
              refine W_load rfl rfl Proofs.Tryd.isAgg9 rfl (row_one0 (hR _ (List.mem_cons_self ..)) hg459 rfl) ?_
              exact W_end (OneT_end [] (Hp.le_refl _) ⟨rfl, rfl⟩)
            · intro HX hX X Rest hR
              intro hU hUp
              refine W_move rfl rfl rfl ?_
              exact W_end (OneT_end [] (Hp.le_refl _) ⟨rfl, rfl⟩)
            · intro HX hX X Rest hR
              rintro _ _ ⟨rfl, rfl⟩
              rintro _ _ ⟨rfl, rfl⟩
              rintro _ _ ⟨rfl, rfl⟩
              rintro _ _ ⟨rfl, rfl⟩
              intro hU hUp
              refine W_build (css := [[.int .i64 ((atoiB y438).1)], [.string (y452)], [.string (y456)], [.int .i64 ((atoiB y445).1)]]) (zs := [.int .i64 (0), .string (⟨#[]⟩), .string (⟨#[]⟩), .int .i64 (0)]) (out := [.int .i64 ((atoiB y438).1), .string (y452), .string (y456), .int .i64 ((atoiB y445).1)]) (places := [(0, 1), (1, 1), (2, 1), (3, 1)]) rfl rfl rfl ⟨rfl, rfl, rfl, rfl, trivial⟩ Proofs.Tryd.zeroValue30 rfl Proofs.Tryd.runUnderlying30 (fun w => by kernel_rfl) rfl ?_
              exact W_end (OneT_end [] (Hp.le_refl _) ⟨rfl, rfl⟩)
            · intro HX hX X Rest hR
              intro hU hUp
              refine W_alloc (cs := [.int .i64 (0), .string (⟨#[]⟩), .string (⟨#[]⟩), .int .i64 (0)]) rfl rfl Proofs.Tryd.zeroValue30 rfl (fun b461 => ?_)
              exact W_end (OneT_end [.obj b461 (.cells [.int .i64 (0), .string (⟨#[]⟩), .string (⟨#[]⟩), .int .i64 (0)].toArray 30 (0, 0))] (Hp.le_refl _) ⟨b461, rfl, rfl⟩)
            intro H462 hle463
            rintro _ _ ⟨rfl, rfl⟩
            rintro _ _ ⟨rfl, rfl⟩
            rintro _ _ ⟨rfl, rfl⟩
            rintro _ _ ⟨rfl, rfl⟩
            rintro _ _ ⟨rfl, rfl⟩
            rintro _ _ ⟨rfl, rfl⟩
            rintro _ _ ⟨rfl, rfl⟩
            rintro _ _ ⟨rfl, rfl⟩
            rintro _ _ ⟨rfl, rfl⟩
            rintro _ _ ⟨b461, rfl, rfl⟩
            refine W_as (M' := .obj b461 (.cells [.int .i64 (0), .string (⟨#[]⟩), .string (⟨#[]⟩), .int .i64 (0)].toArray 30 (0, 0)) :: .row v432 9 (Rep.sz ByteArray) r430.length xs433 :: .row v412 30 (Rep.sz S_api_Event) l414.length xs413 :: .obj b103 (.cells [v412].toArray 51 (0, 0)) :: M) rfl ?_
            refine W_store (cs := [.int .i64 ((atoiB y438).1), .string (y452), .string (y456), .int .i64 ((atoiB y445).1)]) (out := [.int .i64 ((atoiB y438).1), .string (y452), .string (y456), .int .i64 ((atoiB y445).1)]) rfl Proofs.Tryd.sizeOf30 rfl rfl rfl rfl rfl (all_cons rfl (all_cons rfl (all_cons rfl (all_cons rfl all_nil)))) (over_all rfl) ?_
            refine W_end ?_
            refine E_then ?_
            refine C_seq ?_
            refine C_region ?_
            refine W_move rfl rfl rfl ?_
            refine W_loadAgg rfl rfl Proofs.Tryd.isAgg30 Proofs.Tryd.sizeOf30 rfl (own_all (List.mem_cons_self ..)) rfl ?_
            obtain ⟨r464, hc465, hm⟩ := bind_some hm
            refine W_call Proofs.Tryd.call31 rfl rfl rfl (fun w ht => by have h := m_archive_line_c (hm := hc465)  ht; exact h) ?_
            rintro _ _ _ ⟨rfl, rfl, rfl⟩
            obtain ⟨r466, hc467, hm⟩ := bind_some hm
            refine W_call Proofs.Tryd.call30 rfl rfl rfl (fun w ht => by have h := m_archive_digest_c (hm := hc467)  ht; exact h) ?_
            rintro _ _ _ ⟨rfl, rfl, rfl⟩
            refine W_assign rfl rfl rfl ?_
            refine W_end ?_
            refine E_then ?_
            refine C_seq ?_
            refine C_seq ?_
            refine C_region ?_
            refine W_move rfl rfl rfl ?_
            refine W_errNe Proofs.Tryd.runUnderlying61 he444 rfl rfl rfl ?_
            refine W_move rfl rfl rfl ?_
            cases hb468 : ((atoiB y438).2)
            · have hm := ite_f' hb468 hm
              refine W_move rfl rfl rfl ?_
              refine W_errNe Proofs.Tryd.runUnderlying61 he451 rfl rfl rfl ?_
              refine W_pick rfl rfl rfl rfl ?_
              refine W_move rfl rfl rfl ?_
              cases hb469 : ((atoiB y445).2)
              · have hm := ite_f' hb469 hm
                refine W_loadAgg rfl rfl Proofs.Tryd.isAgg30 Proofs.Tryd.sizeOf30 rfl (own_all (List.mem_cons_self ..)) rfl ?_
                obtain ⟨r470, hc471, hm⟩ := bind_some hm
                refine W_call Proofs.Tryd.call31 rfl rfl rfl (fun w ht => by have h := m_archive_line_c (hm := hc471)  ht; exact h) ?_
                rintro _ _ _ ⟨rfl, rfl, rfl⟩
                obtain ⟨hq472, hm⟩ := need_some hm
                refine W_addStr rfl rfl rfl rfl hq472 ?_
                refine W_move rfl rfl rfl ?_
                obtain ⟨r473, hc474, hm⟩ := bind_some hm
                refine W_call Proofs.Tryd.call32 rfl rfl rfl (fun w ht => by have h := m_strconv_FormatUint_c (hm := hc474)  ht; exact h) ?_
                rintro _ _ _ ⟨rfl, rfl, rfl⟩
                obtain ⟨hq475, hm⟩ := need_some hm
                refine W_addStr rfl rfl rfl rfl hq475 ?_
                refine W_move rfl rfl rfl ?_
                refine W_bin rfl rfl rfl rfl rfl ?_
                refine W_pick rfl rfl rfl rfl ?_
                refine W_end ?_
                refine E_then ?_
                refine C_cond (b := !decide (((r470 ++ (⟨#[32]⟩)) ++ r473) = r428.1)) rfl (fun hb476 => ?_) (fun hb476 => ?_)
                · have hm := ite_t' hb476 hm
                  refine C_seq ?_
                  refine C_region ?_
                  refine W_move rfl rfl rfl ?_
                  refine W_move rfl rfl rfl ?_
                  refine W_assign rfl rfl rfl ?_
                  refine W_assign rfl rfl rfl ?_
                  refine W_assign rfl rfl rfl ?_
                  refine W_end ?_
                  refine E_then ?_
                  refine C_ret ?_
                  refine E_ret_then ?_
                  refine E_ret_block ?_
                  refine E_ret_then ?_
                  refine E_ret_block ?_
                  obtain rfl := Option.some.inj hm
                  refine E_drop (List.Sublist.cons _ (List.Sublist.cons _ (List.Sublist.refl _))) ?_
                  refine E_perm (List.Perm.swap _ _ _) ?_
                  exact end3 rfl rfl rfl rfl (.inr ⟨(S_archive_Archive.mk l414), rfl, (Hp.le_trans (Hp.le_trans hle112 hle417) hle463), b103, v412, xs413, rfl, rfl, (hr415.mono hle463)⟩)
                · have hm := ite_f' hb476 hm
                  refine C_skip ?_
                  refine E_then ?_
                  refine C_seq ?_
                  refine C_seq ?_
                  refine C_region ?_
                  refine W_move rfl rfl rfl ?_
                  refine W_loadAgg rfl rfl Proofs.Tryd.isAgg30 Proofs.Tryd.sizeOf30 rfl (own_all (List.mem_cons_self ..)) rfl ?_
                  refine W_perm (List.Perm.trans (List.Perm.cons _ (List.Perm.cons _ (List.Perm.swap _ _ _))) (List.Perm.trans (List.Perm.cons _ (List.Perm.swap _ _ _)) (List.Perm.trans (List.Perm.swap _ _ _) (List.Perm.trans (List.Perm.cons _ (List.Perm.cons _ (List.Perm.swap _ _ _))) (List.Perm.cons _ (List.Perm.swap _ _ _)))))) ?_
                  obtain ⟨r477, hc478, hm⟩ := bind_some hm
                  refine W_call Proofs.Tryd.call18 rfl rfl rfl (fun w ht => by have h := m_archive_Archive_Append_c (hm := hc478) (hr415.mono hle463) ht; exact h) ?_
                  rintro _ _ _ ⟨rfl, v480, xs481, rfl, rfl, h482⟩
                  have h482 := h482 H462
                  refine W_move rfl rfl rfl ?_
                  refine W_extract rfl rfl rfl rfl ?_
                  refine W_extract rfl rfl rfl rfl ?_
                  refine W_assign rfl rfl rfl ?_
                  refine W_assign rfl rfl rfl ?_
                  refine W_end ?_
                  refine E_then ?_
                  refine C_seq ?_
                  refine C_region ?_
                  refine W_move rfl rfl rfl ?_
                  refine W_bin rfl rfl rfl rfl rfl ?_
                  refine W_end ?_
                  refine E_then ?_
                  refine C_cond (b := !decide (r477.2.1 = 0)) rfl (fun hb483 => ?_) (fun hb483 => ?_)
                  · have hm := ite_t' hb483 hm
                    refine C_seq ?_
                    refine C_region ?_
                    refine W_move rfl rfl rfl ?_
                    refine W_move rfl rfl rfl ?_
                    refine W_assign rfl rfl rfl ?_
                    refine W_assign rfl rfl rfl ?_
                    refine W_assign rfl rfl rfl ?_
                    refine W_end ?_
                    refine E_then ?_
                    refine C_ret ?_
                    refine E_ret_then ?_
                    refine E_ret_block ?_
                    refine E_ret_then ?_
                    refine E_ret_block ?_
                    obtain rfl := Option.some.inj hm
                    refine E_drop (List.Sublist.cons_cons _ (List.Sublist.cons_cons _ (List.Sublist.cons _ (List.Sublist.cons _ (List.Sublist.refl _))))) ?_
                    exact end3 rfl rfl rfl rfl (.inr ⟨r477.2.2, rfl, (Hp.le_trans (Hp.le_trans hle112 hle417) hle463), b103, v480, xs481, rfl, rfl, h482⟩)
                  · have hm := ite_f' hb483 hm
                    refine C_skip ?_
                    refine E_then ?_
                    refine C_seq ?_
                    refine C_region ?_
                    refine W_move rfl rfl rfl ?_
                    refine W_assign rfl rfl rfl ?_
                    refine W_end ?_
                    refine E_then ?_
                    refine C_region ?_
                    refine W_move rfl rfl rfl ?_
                    refine W_move rfl rfl rfl ?_
                    refine W_lenStr rfl rfl Proofs.Tryd.runUnderlying9 rfl ?_
                    refine W_bin rfl rfl rfl rfl rfl ?_
                    refine W_bin rfl rfl rfl rfl rfl ?_
                    refine W_assign rfl rfl rfl ?_
                    refine W_end ?_
                    refine E_normal_block ?_
                    refine E_drop (List.Sublist.cons_cons _ (List.Sublist.cons_cons _ (List.Sublist.cons _ (List.Sublist.cons _ (List.Sublist.refl _))))) ?_
                    exact E_keepJ (E_back (Nat.lt_succ_self _) ⟨IntKind.i64.wrap (n410 + (IntKind.i64.wrap ((r428.1.size : Int) + 1))), r466, r477.2.2.all_, v480, xs481, (by rw [hn420]; exact hm), h482, (Hp.le_trans hle417 hle463), rfl, rfl⟩) (List.Perm.swap _ _ _) ⟨rfl, rfl, rfl, rfl, trivial⟩
              · have hm := ite_t' hb469 hm
                refine W_no rfl rfl rfl ?_
                refine W_no rfl rfl rfl ?_
                refine W_no rfl rfl rfl ?_
                refine W_no rfl rfl rfl ?_
                refine W_no rfl rfl rfl ?_
                refine W_no rfl rfl rfl ?_
                refine W_no rfl rfl rfl ?_
                refine W_no rfl rfl rfl ?_
                refine W_pick rfl rfl rfl rfl ?_
                refine W_end ?_
                refine E_then ?_
                refine C_cond (b := true) rfl (fun _ => ?_) (fun hb => Bool.noConfusion hb)
                refine C_seq ?_
                refine C_region ?_
                refine W_move rfl rfl rfl ?_
                refine W_move rfl rfl rfl ?_
                refine W_assign rfl rfl rfl ?_
                refine W_assign rfl rfl rfl ?_
                refine W_assign rfl rfl rfl ?_
                refine W_end ?_
                refine E_then ?_
                refine C_ret ?_
                refine E_ret_then ?_
                refine E_ret_block ?_
                refine E_ret_then ?_
                refine E_ret_block ?_
                obtain rfl := Option.some.inj hm
                refine E_drop (List.Sublist.cons _ (List.Sublist.cons _ (List.Sublist.refl _))) ?_
                refine E_perm (List.Perm.swap _ _ _) ?_
                exact end3 rfl rfl rfl rfl (.inr ⟨(S_archive_Archive.mk l414), rfl, (Hp.le_trans (Hp.le_trans hle112 hle417) hle463), b103, v412, xs413, rfl, rfl, (hr415.mono hle463)⟩)
            · have hm := ite_t' hb468 hm
              refine W_no rfl rfl rfl ?_
              refine W_no rfl rfl rfl ?_
              refine W_pick rfl rfl rfl rfl ?_
              refine W_move rfl rfl rfl ?_
              refine W_no rfl rfl rfl ?_
              refine W_no rfl rfl rfl ?_
              refine W_no rfl rfl rfl ?_
              refine W_no rfl rfl rfl ?_
              refine W_no rfl rfl rfl ?_
              refine W_no rfl rfl rfl ?_
              refine W_no rfl rfl rfl ?_
              refine W_no rfl rfl rfl ?_
              refine W_pick rfl rfl rfl rfl ?_
              refine W_end ?_
              refine E_then ?_
              refine C_cond (b := true) rfl (fun _ => ?_) (fun hb => Bool.noConfusion hb)
              refine C_seq ?_
              refine C_region ?_
              refine W_move rfl rfl rfl ?_
              refine W_move rfl rfl rfl ?_
              refine W_assign rfl rfl rfl ?_
              refine W_assign rfl rfl rfl ?_
              refine W_assign rfl rfl rfl ?_
              refine W_end ?_
              refine E_then ?_
              refine C_ret ?_
              refine E_ret_then ?_
              refine E_ret_block ?_
              refine E_ret_then ?_
              refine E_ret_block ?_
              obtain rfl := Option.some.inj hm
              refine E_drop (List.Sublist.cons _ (List.Sublist.cons _ (List.Sublist.refl _))) ?_
              refine E_perm (List.Perm.swap _ _ _) ?_
              exact end3 rfl rfl rfl rfl (.inr ⟨(S_archive_Archive.mk l414), rfl, (Hp.le_trans (Hp.le_trans hle112 hle417) hle463), b103, v412, xs413, rfl, rfl, (hr415.mono hle463)⟩)
        · refine C_region ?_
          refine W_move rfl rfl rfl ?_
          refine W_un rfl rfl rfl rfl ?_
          refine W_move rfl rfl rfl ?_
          cases hb484 : (r428.2.2)
          · refine W_no rfl rfl rfl ?_
            refine W_no rfl rfl rfl ?_
            refine W_no rfl rfl rfl ?_
            refine W_pick rfl rfl rfl rfl ?_
            refine W_end ?_
            exact E_keepJ (J436 _ _ _ ⟨rfl, rfl, rfl⟩) (List.Perm.refl _) ⟨rfl, rfl, rfl, rfl, rfl, rfl, (by show some (Value.bool (true)) = some (Value.bool ((!r428.2.2) || (!decide ((r430.length : Int) = 5)))); simp only [hb101, hb484, Bool.and_true, Bool.true_and, Bool.false_and, Bool.and_false, Bool.or_true, Bool.true_or, Bool.or_false, Bool.false_or, Bool.not_true, Bool.not_false]), trivial⟩
          · refine W_move rfl rfl rfl ?_
            refine W_lenO (List.mem_cons_self ..) rfl rfl Proofs.Tryd.runUnderlying58 rfl ?_
            refine W_bin rfl rfl rfl rfl rfl ?_
            refine W_pick rfl rfl rfl rfl ?_
            refine W_end ?_
            exact E_keepJ (J436 _ _ _ ⟨rfl, rfl, rfl⟩) (List.Perm.refl _) ⟨rfl, rfl, rfl, rfl, rfl, rfl, (by show some (Value.bool (!decide ((r430.length : Int) = 5))) = some (Value.bool ((!r428.2.2) || (!decide ((r430.length : Int) = 5)))); simp only [hb101, hb484, Bool.and_true, Bool.true_and, Bool.false_and, Bool.and_false, Bool.or_true, Bool.true_or, Bool.or_false, Bool.false_or, Bool.not_true, Bool.not_false]), trivial⟩

theorem clone25_c {B : Nat} {w0 w : World} {H : Hp} {M : List Res} {s : List S_api_Event} {v0 : Value} (h0 : RdS H v0 s) (hz : s.length * 48 ≤ 140737488355328) (ht : St B w0 H M w) :
    Calls Proofs.Tryd.prog 25 [v0].toArray w (Ret B w0 fun H' M' v => H = H' ∧ ∃ (v' : Value) (xs' : List Value), .row v' 30 (Rep.sz S_api_Event) s.length xs' :: M = M' ∧ v' = v ∧ RwF v' xs' s) := by
  refine enter Proofs.Tryd.func25 rfl rfl rfl ht ?_
  obtain ⟨o, n, c, rfl⟩ := h0.shape
  refine C_seq ?_
  refine C_region ?_
  refine W_assign rfl rfl rfl ?_
  refine W_end (E_then ?_)
  refine C_seq ?_
  refine C_seq ?_
  refine C_region ?_
  refine W_move rfl rfl rfl ?_
  refine W_eqNil rfl rfl Proofs.Tryd.runUnderlying22 rfl rfl ?_
  refine W_end (E_then ?_)
  cases o with
  | none =>
    refine C_cond (b := true) rfl (fun _ => ?_) (fun hb => Bool.noConfusion hb)
    obtain rfl := h0.isNil
    refine C_seq ?_
    refine C_region ?_
    refine W_assign rfl rfl rfl ?_
    refine W_end (E_then ?_)
    refine C_ret (E_ret_then ?_)
    refine E_nilRow 30 (Rep.sz S_api_Event) ?_
    exact end1 rfl rfl ⟨rfl, .slice none 0 0, [], rfl, rfl, (Rw.nil (H := H)).toF⟩
  | some a =>
    refine C_cond (b := false) rfl (fun hb => Bool.noConfusion hb) (fun _ => ?_)
    refine C_skip (E_then ?_)
    refine C_seq ?_
    refine C_region ?_
    refine W_build0 S_api_Event rfl rfl Proofs.Tryd.runUnderlying22 Proofs.Tryd.sizeOf30 ?_
    intro v1 xs1 h1
    refine W_move rfl rfl rfl ?_
    refine W_appendO (α := S_api_Event) (l := []) (ys := s) (bytes := 48) rfl rfl Proofs.Tryd.underlying22 ⟨_, rfl, rfl, rfl, rfl⟩ rfl rfl rfl rfl rfl h1 h0 (by simpa using hz) ?_
    intro v2 xs2 h2
    refine W_assign rfl rfl rfl ?_
    refine W_end (E_then ?_)
    refine C_ret ?_
    exact end1 rfl rfl ⟨rfl, v2, xs2, rfl, rfl, h2.toF⟩

theorem m_archive_Archive_All_c {B : Nat} {w0 w : World} [Tabs B w0] {H : Hp} {M : List Res} {p0_a : S_archive_Archive} {b0 : Nat} {v0 : Value} {xs0 : List Value} {r : (List S_api_Event)} (hm : m_archive_Archive_All p0_a = some r) (h0 : Rw H v0 xs0 p0_a.all_) (ht : St B w0 H (.obj b0 (.cells [v0].toArray 51 (0, 0)) :: .row v0 30 (Rep.sz S_api_Event) p0_a.all_.length xs0 :: M) w) :
    Calls Proofs.Tryd.prog 13 [.pointer (some ⟨b0, 0, none⟩)].toArray w (Ret B w0 fun H' M' v => H = H' ∧ ∃ qv0 : Value, ∃ qxs0 : List Value, .row qv0 30 (Rep.sz S_api_Event) r.length qxs0 :: .obj b0 (.cells [v0].toArray 51 (0, 0)) :: .row v0 30 (Rep.sz S_api_Event) p0_a.all_.length xs0 :: M = M' ∧ qv0 = v ∧ RwF qv0 qxs0 r) := by
  unfold m_archive_Archive_All at hm
  refine enter Proofs.Tryd.func13 rfl rfl rfl ht ?_
  refine C_seq ?_
  refine C_region ?_
  refine W_assign rfl rfl rfl ?_
  refine W_end ?_
  refine E_then ?_
  refine C_seq ?_
  refine C_region ?_
  refine W_move rfl rfl rfl ?_
  refine W_nilCheck rfl rfl rfl ?_
  refine W_field (o := 0) rfl rfl Proofs.Tryd.runUnderlying51 rfl Proofs.Tryd.sizeOf22 rfl rfl rfl ?_
  refine W_load rfl rfl Proofs.Tryd.isAgg22 rfl (own_at (List.mem_cons_self ..) rfl) ?_
  obtain ⟨hz101, hm⟩ := need_some hm
  refine W_perm (List.Perm.swap _ _ _) ?_
  refine W_call Proofs.Tryd.call25 rfl rfl rfl (fun w ht => by obtain ⟨H0_, hl0_, ht0_, hr0_, bk0_⟩ := ht.lendRow h0 rfl; have h := clone25_c hr0_ hz101 ht0_; exact lend_back bk0_ h) ?_
  rintro _ _ _ ⟨rfl, _, rfl, v102, xs103, rfl, rfl, hr104⟩
  have hr104 := hr104 H
  refine W_assign rfl rfl rfl ?_
  refine W_end ?_
  refine E_then ?_
  refine C_ret ?_
  obtain rfl := Option.some.inj hm
  refine E_perm (List.Perm.trans (List.Perm.swap _ _ _) (List.Perm.cons _ (List.Perm.swap _ _ _))) ?_
  refine E_weak (Hp.le_refl _) ?_
  exact end1 rfl rfl ⟨rfl, v102, xs103, rfl, rfl, (hr104).toF⟩

theorem m_slices_Equal_api_Event_api_Event_c {B : Nat} {w0 w : World} [Tabs B w0] {H : Hp} {M : List Res} {p0_s1 : (List S_api_Event)} {p1_s2 : (List S_api_Event)} {v0 : Value} {v1 : Value} {r : Bool} (hm : m_slices_Equal_api_Event_api_Event p0_s1 p1_s2 = some r) (h0 : RdS H v0 p0_s1) (h1 : RdS H v1 p1_s2) (ht : St B w0 H (M) w) :
    Calls Proofs.Tryd.prog 11 [v0, v1].toArray w (Ret B w0 fun H' M' v => H = H' ∧ M = M' ∧ .bool (r) = v) := by
  unfold m_slices_Equal_api_Event_api_Event at hm
  refine enter Proofs.Tryd.func11 rfl rfl rfl ht ?_
  refine C_seq ?_
  refine C_region ?_
  refine W_assign rfl rfl rfl ?_
  refine W_end ?_
  refine E_then ?_
  refine C_seq ?_
  refine C_seq ?_
  refine C_region ?_
  refine W_move rfl rfl rfl ?_
  refine W_lenR rfl rfl Proofs.Tryd.runUnderlying22 rfl h0 ?_
  refine W_move rfl rfl rfl ?_
  refine W_lenR rfl rfl Proofs.Tryd.runUnderlying22 rfl h1 ?_
  refine W_bin rfl rfl rfl rfl rfl ?_
  refine W_end ?_
  refine E_then ?_
  refine C_cond (b := !decide ((p0_s1.length : Int) = (p1_s2.length : Int))) rfl (fun hb101 => ?_) (fun hb101 => ?_)
  · have hm := ite_t' hb101 hm
    refine C_seq ?_
    refine C_region ?_
    refine W_assign rfl rfl rfl ?_
    refine W_end ?_
    refine E_then ?_
    refine C_ret ?_
    refine E_ret_then ?_
    obtain rfl := Option.some.inj hm
    refine E_weak (Hp.le_refl _) ?_
    exact end1 rfl rfl ⟨rfl, rfl, rfl⟩
  · have hm := ite_f' hb101 hm
    refine C_skip ?_
    refine E_then ?_
    refine C_seq ?_
    refine C_seq ?_
    refine C_region ?_
    refine W_move rfl rfl rfl ?_
    refine W_lenR rfl rfl Proofs.Tryd.runUnderlying22 rfl h0 ?_
    refine W_move rfl rfl rfl ?_
    refine W_end ?_
    refine E_then ?_
    refine C_block ?_
    refine C_keep (L' := [(0, v0), (1, v1), (12, .int .i64 ((p0_s1.length : Int))), (13, .int .i64 (((0 : Nat) : Int)))]) ⟨rfl, rfl, rfl, rfl, trivial⟩ (List.Perm.refl _) ?_
    refine C_loop (fun n H' M' L' => ∃ (k102 : Nat) (zs136' : Nat), k102 + zs136' = ((p0_s1.length : Int) : Int).toNat ∧ zs136' = n ∧ forN (fun k s131 n => m_slices_Equal_api_Event_api_Event_b1 p0_s1 p1_s2 k n) (fun _ => some true) zs136' k102 () = some r ∧ H.le H' ∧ M = M' ∧ [(0, v0), (1, v1), (12, .int .i64 ((p0_s1.length : Int))), (13, .int .i64 ((k102 : Int)))] = L') _ ⟨0, _, Nat.zero_add _, rfl, hm, (Hp.le_refl _), rfl, rfl⟩ ?_
    rintro _ H129 _ _ ⟨k102, zs136', hd138, rfl, hm, hle130, rfl, rfl⟩
    refine C_seq ?_
    refine C_region ?_
    refine W_bin rfl rfl rfl rfl rfl ?_
    refine W_end (E_then ?_)
    refine C_seq ?_
    refine C_cond (b := decide ((k102 : Int) < (p0_s1.length : Int))) rfl (fun hb140 => ?_) (fun hb140 => ?_)
    · obtain ⟨zs136, rfl, hd139, hy137⟩ := rngN_t hd138 hb140
      have hm : m_slices_Equal_api_Event_api_Event_b1 p0_s1 p1_s2 k102 (forN (fun k s131 n => m_slices_Equal_api_Event_api_Event_b1 p0_s1 p1_s2 k n) (fun _ => some true) zs136 (k102 + 1)) = some r := hm
      generalize hn133 : forN (fun k s131 n => m_slices_Equal_api_Event_api_Event_b1 p0_s1 p1_s2 k n) (fun _ => some true) zs136 (k102 + 1) = nx132 at hm
      unfold m_slices_Equal_api_Event_api_Event_b1 at hm
      refine C_skip (E_then ?_)
      refine C_seq ?_
      refine C_block ?_
      refine C_seq ?_
      refine C_region ?_
      refine W_move rfl rfl rfl ?_
      refine W_assign rfl rfl rfl ?_
      refine W_end ?_
      refine E_then ?_
      refine C_seq ?_
      obtain ⟨y141, h142, he143, hm⟩ := idx_some hm
      obtain ⟨_, ⟨rfl⟩, hc144⟩ := (h0).elem he143
      obtain ⟨y145, h146, he147, hm⟩ := idx_some hm
      obtain ⟨_, ⟨rfl⟩, hc148⟩ := (h1).elem he147
      refine C_region_tok0 8 (phiT [(fun H rs v => [] = rs ∧ v0 = v), (fun H rs v => [] = rs ∧ .int .i64 ((k102 : Int)) = v), (fun H rs v => [] = rs ∧ .pointer (some ((Value.base (v0)).add (((k102 : Int) : Int).toNat * 4))) = v), (fun H rs v => [] = rs ∧ .agg [.int .i64 (y141.Time), .string (y141.Kind), .string (y141.Name), .int .i64 (y141.Value)].toArray = v), (fun H rs v => [] = rs ∧ v1 = v), (fun H rs v => [] = rs ∧ .int .i64 ((k102 : Int)) = v), (fun H rs v => [] = rs ∧ .pointer (some ((Value.base (v1)).add (((k102 : Int) : Int).toNat * 4))) = v), (fun H rs v => [] = rs ∧ .agg [.int .i64 (y145.Time), .string (y145.Kind), .string (y145.Name), .int .i64 (y145.Value)].toArray = v)]) [[], [], [], [], [], [], [], []] [[], [], [], [], [], [], [], []] [] [0, 1, 2, 3, 4, 5, 6, 7] Facts.mixed (by kernel_rfl) rfl rfl rfl (by kernel_rfl) (phiT_mono ⟨eq_monoT _ _, eq_monoT _ _, eq_monoT _ _, eq_monoT _ _, eq_monoT _ _, eq_monoT _ _, eq_monoT _ _, eq_monoT _ _, trivial⟩) ⟨?_, ?_, ?_, ?_, ?_, ?_, ?_, ?_, trivial⟩ ?_
      · intro HX hX X Rest hR
        intro hU hUp
        refine W_move rfl rfl rfl ?_
        exact W_end (OneT_end [] (Hp.le_refl _) ⟨rfl, rfl⟩)
      · intro HX hX X Rest hR
        intro hU hUp
        refine W_move rfl rfl rfl ?_
        exact W_end (OneT_end [] (Hp.le_refl _) ⟨rfl, rfl⟩)
      · intro HX hX X Rest hR
        rintro _ _ ⟨rfl, rfl⟩
        rintro _ _ ⟨rfl, rfl⟩
        intro hU hUp
        refine W_indexS rfl rfl Proofs.Tryd.runUnderlying22 Proofs.Tryd.sizeOf30 rfl ((h0.mono hle130).mono hX) rfl h142 he143 ?_
        exact W_end (OneT_end [] (Hp.le_refl _) ⟨rfl, rfl⟩)
      · intro HX hX X Rest hR
        rintro _ _ ⟨rfl, rfl⟩
        intro hU hUp
        refine W_loadAgg rfl rfl Proofs.Tryd.isAgg30 Proofs.Tryd.sizeOf30 rfl ((hc144.mono hle130).mono hX).at rfl ?_
        exact W_end (OneT_end [] (Hp.le_refl _) ⟨rfl, rfl⟩)
      · intro HX hX X Rest hR
        intro hU hUp
        refine W_move rfl rfl rfl ?_
        exact W_end (OneT_end [] (Hp.le_refl _) ⟨rfl, rfl⟩)
      · intro HX hX X Rest hR
        intro hU hUp
        refine W_move rfl rfl rfl ?_
        exact W_end (OneT_end [] (Hp.le_refl _) ⟨rfl, rfl⟩)
      · intro HX hX X Rest hR
        rintro _ _ ⟨rfl, rfl⟩
        rintro _ _ ⟨rfl, rfl⟩
        intro hU hUp
        refine W_indexS rfl rfl Proofs.Tryd.runUnderlying22 Proofs.Tryd.sizeOf30 rfl ((h1.mono hle130).mono hX) rfl h146 he147 ?_
        exact W_end (OneT_end [] (Hp.le_refl _) ⟨rfl, rfl⟩)
      · intro HX hX X Rest hR
        rintro _ _ ⟨rfl, rfl⟩
        intro hU hUp
        refine W_loadAgg rfl rfl Proofs.Tryd.isAgg30 Proofs.Tryd.sizeOf30 rfl ((hc148.mono hle130).mono hX).at rfl ?_
        exact W_end (OneT_end [] (Hp.le_refl _) ⟨rfl, rfl⟩)
      intro H149 hle150
      rintro _ _ ⟨rfl, rfl⟩
      rintro _ _ ⟨rfl, rfl⟩
      rintro _ _ ⟨rfl, rfl⟩
      rintro _ _ ⟨rfl, rfl⟩
      rintro _ _ ⟨rfl, rfl⟩
      rintro _ _ ⟨rfl, rfl⟩
      rintro _ _ ⟨rfl, rfl⟩
      rintro _ _ ⟨rfl, rfl⟩
      refine W_neAgg (b := decide (y141.Time = y145.Time) && (decide (y141.Kind = y145.Kind) && (decide (y141.Name = y145.Name) && (decide (y141.Value = y145.Value) && true)))) rfl rfl (by kernel_rfl) rfl rfl (fun w => run_equal_struct (bs := [decide (y141.Time = y145.Time), decide (y141.Kind = y145.Kind), decide (y141.Name = y145.Name), decide (y141.Value = y145.Value)]) Proofs.Tryd.runUnderlying30 (by kernel_rfl) ⟨(by decide), (fldEq_int Proofs.Tryd.isAgg3 Proofs.Tryd.runUnderlying3 rfl rfl), (by decide), (fldEq_str Proofs.Tryd.isAgg9 Proofs.Tryd.runUnderlying9 rfl rfl), (by decide), (fldEq_str Proofs.Tryd.isAgg9 Proofs.Tryd.runUnderlying9 rfl rfl), (by decide), (fldEq_int Proofs.Tryd.isAgg3 Proofs.Tryd.runUnderlying3 rfl rfl), trivial⟩) ?_
      refine W_end ?_
      refine E_then ?_
      refine C_cond (b := !(decide (y141.Time = y145.Time) && (decide (y141.Kind = y145.Kind) && (decide (y141.Name = y145.Name) && (decide (y141.Value = y145.Value) && true))))) rfl (fun hb151 => ?_) (fun hb151 => ?_)
      · have hm := ite_t' hb151 hm
        refine C_seq ?_
        refine C_region ?_
        refine W_assign rfl rfl rfl ?_
        refine W_end ?_
        refine E_then ?_
        refine C_ret ?_
        refine E_ret_block ?_
        refine E_ret_then ?_
        refine E_ret_then ?_
        refine E_ret_block ?_
        refine E_ret_then ?_
        obtain rfl := Option.some.inj hm
        refine E_weak (Hp.le_trans hle130 hle150) ?_
        exact end1 rfl rfl ⟨rfl, rfl, rfl⟩
      · have hm := ite_f' hb151 hm
        refine C_skip ?_
        refine E_normal_block ?_
        refine E_then ?_
        refine C_region ?_
        refine W_bin rfl rfl rfl rfl rfl ?_
        refine W_move rfl rfl rfl ?_
        refine W_end ?_
        exact E_keepJ (E_back (Nat.lt_succ_self _) ⟨k102 + 1, zs136, hd139, rfl, (by rw [hn133]; exact hm), (Hp.le_trans hle130 hle150), rfl, rfl⟩) (List.Perm.refl _) ⟨rfl, rfl, rfl, (congrArg (fun z => some (Value.int .i64 z)) (i64_succN hy137 (toNat_max (len_max (h0).lenMax)))), trivial⟩
    · obtain rfl := rngN_f hd138 hb140
      have hm : (some true) = some r := hm
      refine C_exit (E_exit_then ?_)
      refine E_exit_then ?_
      refine E_exit_hit ?_
      refine E_then ?_
      refine C_seq ?_
      refine C_region ?_
      refine W_assign rfl rfl rfl ?_
      refine W_end ?_
      refine E_then ?_
      refine C_ret ?_
      obtain rfl := Option.some.inj hm
      refine E_weak hle130 ?_
      exact end1 rfl rfl ⟨rfl, rfl, rfl⟩

theorem m_gridhallkeep4_ArchiveSpoilt_c {B : Nat} {w0 w : World} [Tabs B w0] {H : Hp} {M : List Res} {p0_l : (List S_api_Event)} {p1_at : Int} {p2_by : Int} {v0 : Value} {r : Bool} (hm : m_gridhallkeep4_ArchiveSpoilt p0_l p1_at p2_by = some r) (h0 : RdS H v0 p0_l) (ht : St B w0 H (M) w) :
    Calls Proofs.Tryd.prog 5 [v0, .int .i64 (p1_at), .int .u8 (p2_by)].toArray w (Ret B w0 fun H' M' v => H = H' ∧ M = M' ∧ .bool (r) = v) := by
  unfold m_gridhallkeep4_ArchiveSpoilt at hm
  refine enter Proofs.Tryd.func5 rfl rfl rfl ht ?_
  refine C_seq ?_
  refine C_region ?_
  refine W_assign rfl rfl rfl ?_
  refine W_end ?_
  refine E_then ?_
  refine C_seq ?_
  refine C_region ?_
  refine W_move rfl rfl rfl ?_
  obtain ⟨r101, hc102, hm⟩ := bind_some hm
  refine W_call Proofs.Tryd.call7 rfl rfl rfl (fun w ht => by have h := m_gridhallkeep4_archiveOf_c (hm := hc102) h0 ht; exact h) ?_
  rintro _ H114 _ (⟨hn108, hle110, rfl, rfl⟩ | ⟨sp103, hn111, hle113, b104, v105, xs106, rfl, rfl, h107⟩)
  · have hm := optC_n hn108 hm
    refine W_assign rfl rfl rfl ?_
    refine W_end ?_
    refine E_then ?_
    refine C_seq ?_
    refine C_seq ?_
    refine C_region ?_
    refine W_move rfl rfl rfl ?_
    refine W_ptrNil rfl rfl Proofs.Tryd.runUnderlying23 rfl rfl ?_
    refine W_move rfl rfl rfl ?_
    refine W_no rfl rfl rfl ?_
    refine W_no rfl rfl rfl ?_
    refine W_pick rfl rfl rfl rfl ?_
    refine W_end ?_
    refine E_then ?_
    refine C_cond (b := true) rfl (fun _ => ?_) (fun hb => Bool.noConfusion hb)
    refine C_seq ?_
    refine C_region ?_
    refine W_assign rfl rfl rfl ?_
    refine W_end ?_
    refine E_then ?_
    refine C_ret ?_
    refine E_ret_then ?_
    obtain rfl := Option.some.inj hm
    refine E_weak hle110 ?_
    exact end1 rfl rfl ⟨rfl, rfl, rfl⟩
  · have hm := optC_s hn111 hm
    refine W_assign rfl rfl rfl ?_
    refine W_end ?_
    refine E_then ?_
    refine C_seq ?_
    refine C_seq ?_
    refine C_region ?_
    refine W_move rfl rfl rfl ?_
    refine W_ptrNil rfl rfl Proofs.Tryd.runUnderlying23 rfl rfl ?_
    refine W_move rfl rfl rfl ?_
    obtain ⟨r115, hc116, hm⟩ := bind_some hm
    refine W_call Proofs.Tryd.call8 rfl rfl rfl (fun w ht => by have h := m_gridhallkeep4_archiveFact_c (hm := hc116)  ht; exact h) ?_
    rintro _ _ _ ⟨rfl, rfl, rfl⟩
    refine W_un rfl rfl rfl rfl ?_
    refine W_pick rfl rfl rfl rfl ?_
    refine W_end ?_
    refine E_then ?_
    refine C_cond (b := !r115) rfl (fun hb117 => ?_) (fun hb117 => ?_)
    · have hm := ite_t' hb117 hm
      refine C_seq ?_
      refine C_region ?_
      refine W_assign rfl rfl rfl ?_
      refine W_end ?_
      refine E_then ?_
      refine C_ret ?_
      refine E_ret_then ?_
      obtain rfl := Option.some.inj hm
      refine E_drop (List.Sublist.cons _ (List.Sublist.cons _ (List.Sublist.refl _))) ?_
      refine E_weak hle113 ?_
      exact end1 rfl rfl ⟨rfl, rfl, rfl⟩
    · have hm := ite_f' hb117 hm
      refine C_skip ?_
      refine E_then ?_
      refine C_seq ?_
      refine C_region ?_
      refine W_move rfl rfl rfl ?_
      obtain ⟨r118, hc119, hm⟩ := bind_some hm
      refine W_call Proofs.Tryd.call17 rfl rfl rfl (fun w ht => by have h := m_archive_Archive_Text_c (hm := hc119) h107 ht; exact h) ?_
      rintro _ _ _ ⟨rfl, rfl, rfl⟩
      obtain ⟨hz120, hm⟩ := need_some hm
      refine W_convBytesB rfl rfl Proofs.Tryd.runUnderlying9 Proofs.Tryd.runUnderlying45 Proofs.Tryd.runUnderlying5 rfl hz120 (fun b121 cap122 hc123 => ?_)
      refine W_assign rfl rfl rfl ?_
      refine W_end ?_
      refine E_then ?_
      refine C_seq ?_
      refine C_seq ?_
      refine C_region ?_
      refine W_move rfl rfl rfl ?_
      refine W_lenS rfl rfl Proofs.Tryd.runUnderlying45 rfl ?_
      refine W_bin rfl rfl rfl rfl rfl ?_
      refine W_end ?_
      refine E_then ?_
      refine C_cond (b := decide (((bytesL r118).length : Int) = 0)) rfl (fun hb124 => ?_) (fun hb124 => ?_)
      · have hm := ite_t' hb124 hm
        refine C_seq ?_
        refine C_region ?_
        refine W_assign rfl rfl rfl ?_
        refine W_end ?_
        refine E_then ?_
        refine C_ret ?_
        refine E_ret_then ?_
        obtain rfl := Option.some.inj hm
        refine E_drop (List.Sublist.cons _ (List.Sublist.cons _ (List.Sublist.cons _ (List.Sublist.refl _)))) ?_
        refine E_weak hle113 ?_
        exact end1 rfl rfl ⟨rfl, rfl, rfl⟩
      · have hm := ite_f' hb124 hm
        refine C_skip ?_
        refine E_then ?_
        refine C_seq ?_
        refine C_region ?_
        refine W_move rfl rfl rfl ?_
        refine W_move rfl rfl rfl ?_
        refine W_lenS rfl rfl Proofs.Tryd.runUnderlying45 rfl ?_
        refine W_bin rfl rfl rfl rfl rfl ?_
        obtain ⟨r125, hc126, hm⟩ := bind_some hm
        refine W_call Proofs.Tryd.call9 rfl rfl rfl (fun w ht => by have h := m_gridhallref4_Cut_c (hm := hc126)  ht; exact h) ?_
        rintro _ _ _ ⟨rfl, rfl, rfl⟩
        refine W_assign rfl rfl rfl ?_
        refine W_end ?_
        refine E_then ?_
        refine C_seq ?_
        refine C_region ?_
        refine W_move rfl rfl rfl ?_
        refine W_move rfl rfl rfl ?_
        obtain ⟨hz127, hm⟩ := need_some hm
        refine W_sliceB rfl rfl Proofs.Tryd.runUnderlying45 Proofs.Tryd.sizeOf5 rfl rfl hz127.1 hz127.2 hc123 ?_
        refine W_convToStrB (List.mem_cons_self ..) rfl rfl Proofs.Tryd.underlying45 Proofs.Tryd.underlying5 Proofs.Tryd.underlying9 rfl (by first | exact Nat.le_refl _ | omega | (rw [List.length_set]; first | exact Nat.le_refl _ | omega)) ?_
        obtain ⟨r128, hc129, hm⟩ := bind_some hm
        refine W_call Proofs.Tryd.call20 rfl rfl rfl (fun w ht => by have h := m_strings_Count_c (hm := hc129)  ht; exact h) ?_
        rintro _ _ _ ⟨rfl, rfl, rfl⟩
        refine W_assign rfl rfl rfl ?_
        refine W_end ?_
        refine E_then ?_
        refine C_seq ?_
        refine C_region ?_
        refine W_move rfl rfl rfl ?_
        refine W_move rfl rfl rfl ?_
        obtain ⟨y130, h131, he132, hm⟩ := idx_some hm
        refine W_indexA rfl rfl Proofs.Tryd.runUnderlying45 Proofs.Tryd.sizeOf5 rfl rfl h131 (by have := (List.getElem?_eq_some_iff.1 he132).1; first | exact this | (rw [List.length_set] at this; exact this)) ?_
        refine W_load rfl rfl Proofs.Tryd.isAgg5 rfl (own_atB (List.mem_cons_self ..) he132) ?_
        refine W_move rfl rfl rfl ?_
        refine W_bin rfl rfl rfl rfl rfl ?_
        obtain ⟨y133, h134, he135, hm⟩ := idx_some hm
        refine W_indexA rfl rfl Proofs.Tryd.runUnderlying45 Proofs.Tryd.sizeOf5 rfl rfl h134 (by have := (List.getElem?_eq_some_iff.1 he135).1; first | exact this | (rw [List.length_set] at this; exact this)) ?_
        refine W_storeB rfl Proofs.Tryd.sizeOf5 rfl rfl he135 ?_
        refine W_end ?_
        refine E_then ?_
        refine C_seq ?_
        refine C_region ?_
        refine W_move rfl rfl rfl ?_
        refine W_convToStrB (List.mem_cons_self ..) rfl rfl Proofs.Tryd.underlying45 Proofs.Tryd.underlying5 Proofs.Tryd.underlying9 rfl (by first | exact Nat.le_refl _ | omega | (rw [List.length_set]; first | exact Nat.le_refl _ | omega)) ?_
        obtain ⟨r136, hc137, hm⟩ := bind_some hm
        refine W_call Proofs.Tryd.call16 rfl rfl rfl (fun w ht => by have h := m_archive_Recover_c (hm := hc137)  ht; exact h) ?_
        rintro _ H149 _ (⟨hn143, hle145, rfl, rfl⟩ | ⟨sp138, hn146, hle148, b139, v140, xs141, rfl, rfl, h142⟩)
        · have hm := optC_n hn143 hm
          refine W_move rfl rfl rfl ?_
          refine W_extract rfl rfl rfl rfl ?_
          refine W_extract rfl rfl rfl rfl ?_
          refine W_extract rfl rfl rfl rfl ?_
          refine W_assign rfl rfl rfl ?_
          refine W_assign rfl rfl rfl ?_
          refine W_assign rfl rfl rfl ?_
          refine W_end ?_
          refine E_then ?_
          refine C_seq ?_
          refine C_seq_join (fun H' M' L' => H149 = H' ∧ .obj b104 (.cells [v105].toArray 51 (0, 0)) :: .row v105 30 (Rep.sz S_api_Event) sp103.all_.length xs106 :: M = M' ∧ [(2, .int .u8 (p2_by)), (7, .pointer (some ⟨b104, 0, none⟩)), (9, .int .i64 (r128)), (10, .pointer none), (56, .bool (true))] = L') ?_ (fun J151 => ?_)
          · rintro _ _ _ ⟨rfl, rfl, rfl⟩
            refine C_cond (b := true) rfl (fun _ => ?_) (fun hb => Bool.noConfusion hb)
            refine C_seq ?_
            refine C_region ?_
            refine W_assign rfl rfl rfl ?_
            refine W_end ?_
            refine E_then ?_
            refine C_ret ?_
            refine E_ret_then ?_
            obtain rfl := Option.some.inj hm
            refine E_drop (List.Sublist.cons _ (List.Sublist.cons _ (List.Sublist.refl _))) ?_
            refine E_weak (Hp.le_trans hle113 hle145) ?_
            exact end1 rfl rfl ⟨rfl, rfl, rfl⟩
          · refine C_region ?_
            refine W_move rfl rfl rfl ?_
            refine W_bin rfl rfl rfl rfl rfl ?_
            refine W_move rfl rfl rfl ?_
            cases hb152 : (decide (r136.2.2 = 0))
            · refine W_no rfl rfl rfl ?_
              refine W_no rfl rfl rfl ?_
              refine W_pick rfl rfl rfl rfl ?_
              refine W_end ?_
              refine E_drop (List.Sublist.cons _ (List.Sublist.refl _)) ?_
              exact E_keepJ (J151 _ _ _ ⟨rfl, rfl, rfl⟩) (List.Perm.refl _) ⟨rfl, rfl, rfl, rfl, rfl, trivial⟩
            · refine W_move rfl rfl rfl ?_
              refine W_ptrNil rfl rfl Proofs.Tryd.runUnderlying23 rfl rfl ?_
              refine W_pick rfl rfl rfl rfl ?_
              refine W_end ?_
              refine E_drop (List.Sublist.cons _ (List.Sublist.refl _)) ?_
              exact E_keepJ (J151 _ _ _ ⟨rfl, rfl, rfl⟩) (List.Perm.refl _) ⟨rfl, rfl, rfl, rfl, rfl, trivial⟩
        · have hm := optC_s hn146 hm
          refine W_move rfl rfl rfl ?_
          refine W_extract rfl rfl rfl rfl ?_
          refine W_extract rfl rfl rfl rfl ?_
          refine W_extract rfl rfl rfl rfl ?_
          refine W_assign rfl rfl rfl ?_
          refine W_assign rfl rfl rfl ?_
          refine W_assign rfl rfl rfl ?_
          refine W_end ?_
          refine E_then ?_
          refine C_seq ?_
          refine C_seq_join (fun H' M' L' => H149 = H' ∧ .obj b139 (.cells [v140].toArray 51 (0, 0)) :: .row v140 30 (Rep.sz S_api_Event) sp138.all_.length xs141 :: .obj b104 (.cells [v105].toArray 51 (0, 0)) :: .row v105 30 (Rep.sz S_api_Event) sp103.all_.length xs106 :: M = M' ∧ [(2, .int .u8 (p2_by)), (7, .pointer (some ⟨b104, 0, none⟩)), (9, .int .i64 (r128)), (10, .pointer (some ⟨b139, 0, none⟩)), (56, .bool (!decide (r136.2.2 = 0)))] = L') ?_ (fun J154 => ?_)
          · rintro _ _ _ ⟨rfl, rfl, rfl⟩
            refine C_cond (b := !decide (r136.2.2 = 0)) rfl (fun hb155 => ?_) (fun hb155 => ?_)
            · have hm := ite_t' hb155 hm
              refine C_seq ?_
              refine C_region ?_
              refine W_assign rfl rfl rfl ?_
              refine W_end ?_
              refine E_then ?_
              refine C_ret ?_
              refine E_ret_then ?_
              obtain rfl := Option.some.inj hm
              refine E_drop (List.Sublist.cons _ (List.Sublist.cons _ (List.Sublist.cons _ (List.Sublist.cons _ (List.Sublist.refl _))))) ?_
              refine E_weak (Hp.le_trans hle113 hle148) ?_
              exact end1 rfl rfl ⟨rfl, rfl, rfl⟩
            · have hm := ite_f' hb155 hm
              refine C_skip ?_
              refine E_then ?_
              refine C_seq ?_
              obtain ⟨r156, hc157, hm⟩ := bind_some hm
              cases hb161 : (decide (r128 ≤ (r156.length : Int)))
              · have hm := ite_f' hb161 hm
                refine C_perm (List.Perm.refl _) ?_
                refine C_as (M' := [[.obj b139 (.cells [v140].toArray 51 (0, 0))], [.row v140 30 (Rep.sz S_api_Event) sp138.all_.length xs141]].flatten ++ (.obj b104 (.cells [v105].toArray 51 (0, 0)) :: .row v105 30 (Rep.sz S_api_Event) sp103.all_.length xs106 :: M)) rfl ?_
                refine C_region_tok0 24 (phiT [(fun H rs v => [] = rs ∧ .pointer (some ⟨b139, 0, none⟩) = v), (fun H rs v => ∃ v165 : Value, ∃ xs166 : List Value, [.row v165 30 (Rep.sz S_api_Event) r156.length xs166, .obj b139 (.cells [v140].toArray 51 (0, 0)), .row v140 30 (Rep.sz S_api_Event) sp138.all_.length xs141] = rs ∧ v165 = v ∧ Rw H v165 xs166 r156), (fun H rs v => [] = rs ∧ .int .i64 ((r156.length : Int)) = v), (fun H rs v => [] = rs ∧ .int .i64 (r128) = v), (fun H rs v => [] = rs ∧ .bool (false) = v), (fun H rs v => [] = rs ∧ .bool (false) = v), (fun H rs v => [] = rs ∧ undef = v), (fun H rs v => [] = rs ∧ undef = v), (fun H rs v => [] = rs ∧ undef = v), (fun H rs v => [] = rs ∧ undef = v), (fun H rs v => [] = rs ∧ undef = v), (fun H rs v => [] = rs ∧ undef = v), (fun H rs v => [] = rs ∧ undef = v), (fun H rs v => [] = rs ∧ undef = v), (fun H rs v => [] = rs ∧ undef = v), (fun H rs v => [] = rs ∧ .bool (false) = v), (fun H rs v => [] = rs ∧ .bool (false) = v), (fun H rs v => [] = rs ∧ undef = v), (fun H rs v => [] = rs ∧ undef = v), (fun H rs v => [] = rs ∧ undef = v), (fun H rs v => [] = rs ∧ undef = v), (fun H rs v => [] = rs ∧ undef = v), (fun H rs v => [] = rs ∧ undef = v), (fun H rs v => [] = rs ∧ undef = v)]) [[], [24, 25], [], [], [], [], [], [], [], [], [], [], [], [], [], [], [], [], [], [], [], [], [], []] [[], [], [1], [], [], [], [], [], [], [], [], [], [], [], [], [], [], [], [], [], [], [], [], []] [[.obj b139 (.cells [v140].toArray 51 (0, 0))], [.row v140 30 (Rep.sz S_api_Event) sp138.all_.length xs141]] [0, 1, 2, 3, 4, 5, 6, 7, 8, 9, 10, 11, 12, 13, 14, 15, 16, 17, 18, 19, 20, 21, 22, 23] Facts.mixed (by kernel_rfl) rfl rfl rfl (by kernel_rfl) (phiT_mono ⟨eq_monoT _ _, (by rintro H1 H2 rs v hle ⟨v165, xs166, rfl, rfl, h167⟩; exact ⟨v165, xs166, rfl, rfl, (h167.mono hle)⟩), eq_monoT _ _, eq_monoT _ _, eq_monoT _ _, eq_monoT _ _, eq_monoT _ _, eq_monoT _ _, eq_monoT _ _, eq_monoT _ _, eq_monoT _ _, eq_monoT _ _, eq_monoT _ _, eq_monoT _ _, eq_monoT _ _, eq_monoT _ _, eq_monoT _ _, eq_monoT _ _, eq_monoT _ _, eq_monoT _ _, eq_monoT _ _, eq_monoT _ _, eq_monoT _ _, eq_monoT _ _, trivial⟩) ⟨?_, ?_, ?_, ?_, ?_, ?_, ?_, ?_, ?_, ?_, ?_, ?_, ?_, ?_, ?_, ?_, ?_, ?_, ?_, ?_, ?_, ?_, ?_, ?_, trivial⟩ ?_
                · intro HX hX X Rest hR
                  intro hU hUp
                  refine W_move rfl rfl rfl ?_
                  exact W_end (OneT_end [] (Hp.le_refl _) ⟨rfl, rfl⟩)
                · intro HX hX X Rest hR
                  rintro _ _ ⟨rfl, rfl⟩
                  intro hU hUp
                  refine W_as (M' := .obj b139 (.cells [v140].toArray 51 (0, 0)) :: .row v140 30 (Rep.sz S_api_Event) sp138.all_.length xs141 :: Rest) rfl ?_
                  refine W_call Proofs.Tryd.call13 rfl rfl rfl (fun w ht => by have h := m_archive_Archive_All_c (hm := hc157) (h142.mono hX) ht; exact h) ?_
                  rintro _ _ _ ⟨rfl, v165, xs166, rfl, rfl, h167⟩
                  have h167 := h167 HX
                  exact W_end (OneT_end [.row v165 30 (Rep.sz S_api_Event) r156.length xs166, .obj b139 (.cells [v140].toArray 51 (0, 0)), .row v140 30 (Rep.sz S_api_Event) sp138.all_.length xs141] (Hp.le_refl _) ⟨v165, xs166, rfl, rfl, (h167)⟩)
                · intro HX hX X Rest hR
                  rintro _ _ ⟨v165, xs166, rfl, rfl, h167⟩
                  intro hU hUp
                  have hU2 : ∀ s ∈ [.row v165 30 (Rep.sz S_api_Event) r156.length xs166, .obj b139 (.cells [v140].toArray 51 (0, 0)), .row v140 30 (Rep.sz S_api_Event) sp138.all_.length xs141], s ∈ Rest := hU
                  refine W_lenO (hU2 _ (List.mem_cons_self ..)) rfl rfl Proofs.Tryd.runUnderlying22 rfl ?_
                  exact W_end (OneT_end [] (Hp.le_refl _) ⟨rfl, rfl⟩)
                · intro HX hX X Rest hR
                  intro hU hUp
                  refine W_move rfl rfl rfl ?_
                  exact W_end (OneT_end [] (Hp.le_refl _) ⟨rfl, rfl⟩)
                · intro HX hX X Rest hR
                  rintro _ _ ⟨rfl, rfl⟩
                  rintro _ _ ⟨rfl, rfl⟩
                  intro hU hUp
                  refine W_bin rfl rfl rfl rfl rfl ?_
                  exact W_end (OneT_end [] (Hp.le_refl _) ⟨rfl, (by first | rfl | (rw [hb161]; try rfl))⟩)
                · intro HX hX X Rest hR
                  rintro _ _ ⟨rfl, rfl⟩
                  rintro _ _ ⟨v165, xs166, rfl, rfl, h167⟩
                  intro hU hUp
                  refine W_move rfl rfl rfl ?_
                  exact W_end (OneT_end [] (Hp.le_refl _) ⟨rfl, rfl⟩)
                · intro HX hX X Rest hR
                  rintro _ _ ⟨rfl, rfl⟩
                  intro hU hUp
                  refine W_no rfl rfl rfl ?_
                  exact W_end (OneT_end [] (Hp.le_refl _) ⟨rfl, rfl⟩)
                · intro HX hX X Rest hR
                  rintro _ _ ⟨rfl, rfl⟩
                  rintro _ _ ⟨rfl, rfl⟩
                  rintro _ _ ⟨rfl, rfl⟩
                  intro hU hUp
                  refine W_no rfl rfl rfl ?_
                  exact W_end (OneT_end [] (Hp.le_refl _) ⟨rfl, rfl⟩)
                · intro HX hX X Rest hR
                  rintro _ _ ⟨rfl, rfl⟩
                  intro hU hUp
                  refine W_no rfl rfl rfl ?_
                  exact W_end (OneT_end [] (Hp.le_refl _) ⟨rfl, rfl⟩)
                · intro HX hX X Rest hR
                  rintro _ _ ⟨rfl, rfl⟩
                  rintro _ _ ⟨rfl, rfl⟩
                  rintro _ _ ⟨rfl, rfl⟩
                  intro hU hUp
                  refine W_no rfl rfl rfl ?_
                  exact W_end (OneT_end [] (Hp.le_refl _) ⟨rfl, rfl⟩)
                · intro HX hX X Rest hR
                  rintro _ _ ⟨rfl, rfl⟩
                  intro hU hUp
                  refine W_no rfl rfl rfl ?_
                  exact W_end (OneT_end [] (Hp.le_refl _) ⟨rfl, rfl⟩)
                · intro HX hX X Rest hR
                  rintro _ _ ⟨rfl, rfl⟩
                  rintro _ _ ⟨rfl, rfl⟩
                  rintro _ _ ⟨rfl, rfl⟩
                  intro hU hUp
                  refine W_no rfl rfl rfl ?_
                  exact W_end (OneT_end [] (Hp.le_refl _) ⟨rfl, rfl⟩)
                · intro HX hX X Rest hR
                  rintro _ _ ⟨rfl, rfl⟩
                  intro hU hUp
                  refine W_no rfl rfl rfl ?_
                  exact W_end (OneT_end [] (Hp.le_refl _) ⟨rfl, rfl⟩)
                · intro HX hX X Rest hR
                  rintro _ _ ⟨rfl, rfl⟩
                  rintro _ _ ⟨rfl, rfl⟩
                  rintro _ _ ⟨rfl, rfl⟩
                  intro hU hUp
                  refine W_no rfl rfl rfl ?_
                  exact W_end (OneT_end [] (Hp.le_refl _) ⟨rfl, rfl⟩)
                · intro HX hX X Rest hR
                  rintro _ _ ⟨rfl, rfl⟩
                  rintro _ _ ⟨rfl, rfl⟩
                  rintro _ _ ⟨rfl, rfl⟩
                  rintro _ _ ⟨rfl, rfl⟩
                  intro hU hUp
                  refine W_no rfl rfl rfl ?_
                  exact W_end (OneT_end [] (Hp.le_refl _) ⟨rfl, rfl⟩)
                · intro HX hX X Rest hR
                  rintro _ _ ⟨rfl, rfl⟩
                  rintro _ _ ⟨rfl, rfl⟩
                  intro hU hUp
                  refine W_pick rfl rfl rfl rfl ?_
                  exact W_end (OneT_end [] (Hp.le_refl _) ⟨rfl, rfl⟩)
                · intro HX hX X Rest hR
                  rintro _ _ ⟨rfl, rfl⟩
                  rintro _ _ ⟨rfl, rfl⟩
                  intro hU hUp
                  refine W_move rfl rfl rfl ?_
                  exact W_end (OneT_end [] (Hp.le_refl _) ⟨rfl, rfl⟩)
                · intro HX hX X Rest hR
                  rintro _ _ ⟨rfl, rfl⟩
                  intro hU hUp
                  refine W_no rfl rfl rfl ?_
                  exact W_end (OneT_end [] (Hp.le_refl _) ⟨rfl, rfl⟩)
                · intro HX hX X Rest hR
                  rintro _ _ ⟨rfl, rfl⟩
                  rintro _ _ ⟨rfl, rfl⟩
                  intro hU hUp
                  refine W_no rfl rfl rfl ?_
                  exact W_end (OneT_end [] (Hp.le_refl _) ⟨rfl, rfl⟩)
                · intro HX hX X Rest hR
                  rintro _ _ ⟨rfl, rfl⟩
                  intro hU hUp
                  refine W_no rfl rfl rfl ?_
                  exact W_end (OneT_end [] (Hp.le_refl _) ⟨rfl, rfl⟩)
                · intro HX hX X Rest hR
                  rintro _ _ ⟨rfl, rfl⟩
                  rintro _ _ ⟨rfl, rfl⟩
                  rintro _ _ ⟨rfl, rfl⟩
                  intro hU hUp
                  refine W_no rfl rfl rfl ?_
                  exact W_end (OneT_end [] (Hp.le_refl _) ⟨rfl, rfl⟩)
                · intro HX hX X Rest hR
                  rintro _ _ ⟨rfl, rfl⟩
                  intro hU hUp
                  refine W_no rfl rfl rfl ?_
                  exact W_end (OneT_end [] (Hp.le_refl _) ⟨rfl, rfl⟩)
                · intro HX hX X Rest hR
                  rintro _ _ ⟨rfl, rfl⟩
                  rintro _ _ ⟨rfl, rfl⟩
                  rintro _ _ ⟨rfl, rfl⟩
                  intro hU hUp
                  refine W_no rfl rfl rfl ?_
                  exact W_end (OneT_end [] (Hp.le_refl _) ⟨rfl, rfl⟩)
                · intro HX hX X Rest hR
                  rintro _ _ ⟨rfl, rfl⟩
                  rintro _ _ ⟨rfl, rfl⟩
                  rintro _ _ ⟨rfl, rfl⟩
                  rintro _ _ ⟨rfl, rfl⟩
                  intro hU hUp
                  refine W_no rfl rfl rfl ?_
                  exact W_end (OneT_end [] (Hp.le_refl _) ⟨rfl, rfl⟩)
                intro H168 hle169
                rintro _ _ ⟨rfl, rfl⟩
                rintro _ _ ⟨v165, xs166, rfl, rfl, h167⟩
                rintro _ _ ⟨rfl, rfl⟩
                rintro _ _ ⟨rfl, rfl⟩
                rintro _ _ ⟨rfl, rfl⟩
                rintro _ _ ⟨rfl, rfl⟩
                rintro _ _ ⟨rfl, rfl⟩
                rintro _ _ ⟨rfl, rfl⟩
                rintro _ _ ⟨rfl, rfl⟩
                rintro _ _ ⟨rfl, rfl⟩
                rintro _ _ ⟨rfl, rfl⟩
                rintro _ _ ⟨rfl, rfl⟩
                rintro _ _ ⟨rfl, rfl⟩
                rintro _ _ ⟨rfl, rfl⟩
                rintro _ _ ⟨rfl, rfl⟩
                rintro _ _ ⟨rfl, rfl⟩
                rintro _ _ ⟨rfl, rfl⟩
                rintro _ _ ⟨rfl, rfl⟩
                rintro _ _ ⟨rfl, rfl⟩
                rintro _ _ ⟨rfl, rfl⟩
                rintro _ _ ⟨rfl, rfl⟩
                rintro _ _ ⟨rfl, rfl⟩
                rintro _ _ ⟨rfl, rfl⟩
                rintro _ _ ⟨rfl, rfl⟩
                refine W_as (M' := .row v165 30 (Rep.sz S_api_Event) r156.length xs166 :: .obj b139 (.cells [v140].toArray 51 (0, 0)) :: .row v140 30 (Rep.sz S_api_Event) sp138.all_.length xs141 :: .obj b104 (.cells [v105].toArray 51 (0, 0)) :: .row v105 30 (Rep.sz S_api_Event) sp103.all_.length xs106 :: M) rfl ?_
                refine W_no rfl rfl rfl ?_
                refine W_pick rfl rfl rfl rfl ?_
                refine W_assign rfl rfl rfl ?_
                refine W_end ?_
                refine E_then ?_
                refine C_ret ?_
                obtain rfl := Option.some.inj hm
                refine E_drop (List.Sublist.cons _ (List.Sublist.cons _ (List.Sublist.cons _ (List.Sublist.cons _ (List.Sublist.cons _ (List.Sublist.refl _)))))) ?_
                refine E_weak (Hp.le_trans (Hp.le_trans hle113 hle148) hle169) ?_
                exact end1 rfl rfl ⟨rfl, rfl, rfl⟩
              · have hm := ite_t' hb161 hm
                obtain ⟨r173, hc174, hm⟩ := bind_some hm
                obtain ⟨hz178, hm⟩ := need_some hm
                obtain ⟨r182, hc183, hm⟩ := bind_some hm
                obtain ⟨hz187, hm⟩ := need_some hm
                obtain ⟨r191, hc192, hm⟩ := bind_some hm
                rcases (Bool.eq_false_or_eq_true (r191)).symm with hb193 | hb193
                · have hm := ite_f' hb193 hm
                  refine C_perm (List.Perm.refl _) ?_
                  refine C_as (M' := [[.obj b139 (.cells [v140].toArray 51 (0, 0))], [.row v140 30 (Rep.sz S_api_Event) sp138.all_.length xs141], [.obj b104 (.cells [v105].toArray 51 (0, 0))], [.row v105 30 (Rep.sz S_api_Event) sp103.all_.length xs106]].flatten ++ (M)) rfl ?_
                  refine C_region_tok0 24 (phiT [(fun H rs v => [] = rs ∧ .pointer (some ⟨b139, 0, none⟩) = v), (fun H rs v => ∃ v209 : Value, ∃ xs210 : List Value, [.row v209 30 (Rep.sz S_api_Event) r156.length xs210] = rs ∧ v209 = v ∧ Rw H v209 xs210 r156), (fun H rs v => [] = rs ∧ .int .i64 ((r156.length : Int)) = v), (fun H rs v => [] = rs ∧ .int .i64 (r128) = v), (fun H rs v => [] = rs ∧ .bool (true) = v), (fun H rs v => [] = rs ∧ .bool (true) = v), (fun H rs v => [] = rs ∧ .pointer (some ⟨b139, 0, none⟩) = v), (fun H rs v => ∃ v212 : Value, ∃ xs213 : List Value, [.row v212 30 (Rep.sz S_api_Event) r173.length xs213] = rs ∧ v212 = v ∧ Rw H v212 xs213 r173), (fun H rs v => [] = rs ∧ .int .i64 (r128) = v), (fun H rs v => ∃ v215 : Value, ∃ xs216 : List Value, [.row v215 30 (Rep.sz S_api_Event) (slc r173 0 ((r128 : Int).toNat)).length xs216] = rs ∧ v215 = v ∧ Rw H v215 xs216 (slc r173 0 ((r128 : Int).toNat))), (fun H rs v => [] = rs ∧ .pointer (some ⟨b104, 0, none⟩) = v), (fun H rs v => ∃ v218 : Value, ∃ xs219 : List Value, [.row v218 30 (Rep.sz S_api_Event) r182.length xs219] = rs ∧ v218 = v ∧ Rw H v218 xs219 r182), (fun H rs v => [] = rs ∧ .int .i64 (r128) = v), (fun H rs v => ∃ v221 : Value, ∃ xs222 : List Value, [.row v221 30 (Rep.sz S_api_Event) (slc r182 0 ((r128 : Int).toNat)).length xs222] = rs ∧ v221 = v ∧ Rw H v221 xs222 (slc r182 0 ((r128 : Int).toNat))), (fun H rs v => [] = rs ∧ .bool (false) = v), (fun H rs v => [] = rs ∧ .bool (false) = v), (fun H rs v => [] = rs ∧ .bool (false) = v), (fun H rs v => [] = rs ∧ undef = v), (fun H rs v => [] = rs ∧ undef = v), (fun H rs v => [] = rs ∧ undef = v), (fun H rs v => [] = rs ∧ undef = v), (fun H rs v => [] = rs ∧ undef = v), (fun H rs v => [] = rs ∧ undef = v), (fun H rs v => [] = rs ∧ undef = v)]) [[], [], [], [], [], [], [], [], [], [7], [], [], [], [11], [], [], [], [], [], [], [], [], [], []] [[], [24, 25], [1], [], [], [], [], [24, 25], [], [], [], [26, 27], [], [], [9, 13], [], [], [], [], [], [], [], [], []] [[.obj b139 (.cells [v140].toArray 51 (0, 0))], [.row v140 30 (Rep.sz S_api_Event) sp138.all_.length xs141], [.obj b104 (.cells [v105].toArray 51 (0, 0))], [.row v105 30 (Rep.sz S_api_Event) sp103.all_.length xs106]] [0, 1, 2, 3, 4, 5, 6, 8, 9, 10, 12, 13, 14, 15, 16, 17, 18, 19, 20, 21, 22, 23, 24, 25, 26, 27] Facts.mixed (by kernel_rfl) rfl rfl rfl (by kernel_rfl) (phiT_mono ⟨eq_monoT _ _, (by rintro H1 H2 rs v hle ⟨v209, xs210, rfl, rfl, h211⟩; exact ⟨v209, xs210, rfl, rfl, (h211.mono hle)⟩), eq_monoT _ _, eq_monoT _ _, eq_monoT _ _, eq_monoT _ _, eq_monoT _ _, (by rintro H1 H2 rs v hle ⟨v212, xs213, rfl, rfl, h214⟩; exact ⟨v212, xs213, rfl, rfl, (h214.mono hle)⟩), eq_monoT _ _, (by rintro H1 H2 rs v hle ⟨v215, xs216, rfl, rfl, hr217⟩; exact ⟨v215, xs216, rfl, rfl, (hr217.mono hle)⟩), eq_monoT _ _, (by rintro H1 H2 rs v hle ⟨v218, xs219, rfl, rfl, h220⟩; exact ⟨v218, xs219, rfl, rfl, (h220.mono hle)⟩), eq_monoT _ _, (by rintro H1 H2 rs v hle ⟨v221, xs222, rfl, rfl, hr223⟩; exact ⟨v221, xs222, rfl, rfl, (hr223.mono hle)⟩), eq_monoT _ _, eq_monoT _ _, eq_monoT _ _, eq_monoT _ _, eq_monoT _ _, eq_monoT _ _, eq_monoT _ _, eq_monoT _ _, eq_monoT _ _, eq_monoT _ _, trivial⟩) ⟨?_, ?_, ?_, ?_, ?_, ?_, ?_, ?_, ?_, ?_, ?_, ?_, ?_, ?_, ?_, ?_, ?_, ?_, ?_, ?_, ?_, ?_, ?_, ?_, trivial⟩ ?_
                  · intro HX hX X Rest hR
                    intro hU hUp
                    refine W_move rfl rfl rfl ?_
                    exact W_end (OneT_end [] (Hp.le_refl _) ⟨rfl, rfl⟩)
                  · intro HX hX X Rest hR
                    rintro _ _ ⟨rfl, rfl⟩
                    rintro hU ⟨Rr, hUp⟩
                    have hUq : (.obj b139 (.cells [v140].toArray 51 (0, 0)) :: .row v140 30 (Rep.sz S_api_Event) sp138.all_.length xs141 :: Rr).Perm Rest := hUp
                    have hR2 : ∀ s ∈ _, s ∈ .obj b139 (.cells [v140].toArray 51 (0, 0)) :: .row v140 30 (Rep.sz S_api_Event) sp138.all_.length xs141 :: Rr := fun s hs => hUq.mem_iff.2 (hR s hs)
                    refine W_perm (M' := .obj b139 (.cells [v140].toArray 51 (0, 0)) :: .row v140 30 (Rep.sz S_api_Event) sp138.all_.length xs141 :: Rr) (List.Perm.append_left [] hUq.symm) ?_
                    refine W_call Proofs.Tryd.call13 rfl rfl rfl (fun w ht => by have h := m_archive_Archive_All_c (hm := hc157) (h142.mono hX) ht; exact h) ?_
                    rintro _ _ _ ⟨rfl, v209, xs210, rfl, rfl, h211⟩
                    have h211 := h211 HX
                    refine W_perm (List.Perm.cons _ hUq) ?_
                    exact W_end (OneT_end [.row v209 30 (Rep.sz S_api_Event) r156.length xs210] (Hp.le_refl _) ⟨v209, xs210, rfl, rfl, (h211)⟩)
                  · intro HX hX X Rest hR
                    rintro _ _ ⟨v209, xs210, rfl, rfl, h211⟩
                    intro hU hUp
                    have hU2 : ∀ s ∈ [.row v209 30 (Rep.sz S_api_Event) r156.length xs210], s ∈ Rest := hU
                    refine W_lenO (hU2 _ (List.mem_cons_self ..)) rfl rfl Proofs.Tryd.runUnderlying22 rfl ?_
                    exact W_end (OneT_end [] (Hp.le_refl _) ⟨rfl, rfl⟩)
                  · intro HX hX X Rest hR
                    intro hU hUp
                    refine W_move rfl rfl rfl ?_
                    exact W_end (OneT_end [] (Hp.le_refl _) ⟨rfl, rfl⟩)
                  · intro HX hX X Rest hR
                    rintro _ _ ⟨rfl, rfl⟩
                    rintro _ _ ⟨rfl, rfl⟩
                    intro hU hUp
                    refine W_bin rfl rfl rfl rfl rfl ?_
                    exact W_end (OneT_end [] (Hp.le_refl _) ⟨rfl, (by first | rfl | (rw [hb161]; try rfl))⟩)
                  · intro HX hX X Rest hR
                    rintro _ _ ⟨rfl, rfl⟩
                    rintro _ _ ⟨v209, xs210, rfl, rfl, h211⟩
                    intro hU hUp
                    refine W_move rfl rfl rfl ?_
                    exact W_end (OneT_end [] (Hp.le_refl _) ⟨rfl, rfl⟩)
                  · intro HX hX X Rest hR
                    rintro _ _ ⟨rfl, rfl⟩
                    intro hU hUp
                    refine W_move rfl rfl rfl ?_
                    exact W_end (OneT_end [] (Hp.le_refl _) ⟨rfl, rfl⟩)
                  · intro HX hX X Rest hR
                    rintro _ _ ⟨rfl, rfl⟩
                    rintro _ _ ⟨rfl, rfl⟩
                    rintro _ _ ⟨rfl, rfl⟩
                    rintro hU ⟨Rr, hUp⟩
                    have hUq : (.obj b139 (.cells [v140].toArray 51 (0, 0)) :: .row v140 30 (Rep.sz S_api_Event) sp138.all_.length xs141 :: Rr).Perm Rest := hUp
                    have hR2 : ∀ s ∈ _, s ∈ .obj b139 (.cells [v140].toArray 51 (0, 0)) :: .row v140 30 (Rep.sz S_api_Event) sp138.all_.length xs141 :: Rr := fun s hs => hUq.mem_iff.2 (hR s hs)
                    refine W_perm (M' := .obj b139 (.cells [v140].toArray 51 (0, 0)) :: .row v140 30 (Rep.sz S_api_Event) sp138.all_.length xs141 :: Rr) (List.Perm.append_left [] hUq.symm) ?_
                    refine W_call Proofs.Tryd.call13 rfl rfl rfl (fun w ht => by have h := m_archive_Archive_All_c (hm := hc174) (h142.mono hX) ht; exact h) ?_
                    rintro _ _ _ ⟨rfl, v212, xs213, rfl, rfl, h214⟩
                    have h214 := h214 HX
                    refine W_perm (List.Perm.cons _ hUq) ?_
                    exact W_end (OneT_end [.row v212 30 (Rep.sz S_api_Event) r173.length xs213] (Hp.le_refl _) ⟨v212, xs213, rfl, rfl, (h214)⟩)
                  · intro HX hX X Rest hR
                    rintro _ _ ⟨rfl, rfl⟩
                    intro hU hUp
                    refine W_move rfl rfl rfl ?_
                    exact W_end (OneT_end [] (Hp.le_refl _) ⟨rfl, rfl⟩)
                  · intro HX hX X Rest hR
                    rintro _ _ ⟨v212, xs213, rfl, rfl, h214⟩
                    rintro _ _ ⟨rfl, rfl⟩
                    rintro _ _ ⟨rfl, rfl⟩
                    intro hU hUp
                    refine W_as (M' := .row v212 30 (Rep.sz S_api_Event) r173.length xs213 :: Rest) rfl ?_
                    refine W_sliceO (α := S_api_Event) (l := 0) (h := (r128 : Int).toNat) rfl rfl Proofs.Tryd.runUnderlying22 Proofs.Tryd.sizeOf30 rfl rfl h214 (by omega) (by omega) (fun m hmm => (.inr ⟨_, _, _, rfl, rfl, by omega, by omega, rfl⟩)) (.inl ⟨rfl, rfl⟩) ?_
                    intro v215 xs216 hr217
                    exact W_end (OneT_end [.row v215 30 (Rep.sz S_api_Event) (slc r173 0 ((r128 : Int).toNat)).length xs216] (Hp.le_refl _) ⟨v215, xs216, rfl, rfl, (hr217)⟩)
                  · intro HX hX X Rest hR
                    rintro _ _ ⟨rfl, rfl⟩
                    intro hU hUp
                    refine W_move rfl rfl rfl ?_
                    exact W_end (OneT_end [] (Hp.le_refl _) ⟨rfl, rfl⟩)
                  · intro HX hX X Rest hR
                    rintro _ _ ⟨rfl, rfl⟩
                    rintro _ _ ⟨v212, xs213, rfl, rfl, h214⟩
                    rintro _ _ ⟨rfl, rfl⟩
                    rintro hU ⟨Rr, hUp⟩
                    have hUq : (.obj b104 (.cells [v105].toArray 51 (0, 0)) :: .row v105 30 (Rep.sz S_api_Event) sp103.all_.length xs106 :: Rr).Perm Rest := hUp
                    have hR2 : ∀ s ∈ _, s ∈ .obj b104 (.cells [v105].toArray 51 (0, 0)) :: .row v105 30 (Rep.sz S_api_Event) sp103.all_.length xs106 :: Rr := fun s hs => hUq.mem_iff.2 (hR s hs)
                    refine W_perm (M' := .obj b104 (.cells [v105].toArray 51 (0, 0)) :: .row v105 30 (Rep.sz S_api_Event) sp103.all_.length xs106 :: Rr) (List.Perm.append_left [] hUq.symm) ?_
                    refine W_call Proofs.Tryd.call13 rfl rfl rfl (fun w ht => by have h := m_archive_Archive_All_c (hm := hc183) ((h107.mono hle148).mono hX) ht; exact h) ?_
                    rintro _ _ _ ⟨rfl, v218, xs219, rfl, rfl, h220⟩
                    have h220 := h220 HX
                    refine W_perm (List.Perm.cons _ hUq) ?_
                    exact W_end (OneT_end [.row v218 30 (Rep.sz S_api_Event) r182.length xs219] (Hp.le_refl _) ⟨v218, xs219, rfl, rfl, (h220)⟩)
                  · intro HX hX X Rest hR
                    rintro _ _ ⟨rfl, rfl⟩
                    intro hU hUp
                    refine W_move rfl rfl rfl ?_
                    exact W_end (OneT_end [] (Hp.le_refl _) ⟨rfl, rfl⟩)
                  · intro HX hX X Rest hR
                    rintro _ _ ⟨v218, xs219, rfl, rfl, h220⟩
                    rintro _ _ ⟨rfl, rfl⟩
                    rintro _ _ ⟨rfl, rfl⟩
                    intro hU hUp
                    refine W_as (M' := .row v218 30 (Rep.sz S_api_Event) r182.length xs219 :: Rest) rfl ?_
                    refine W_sliceO (α := S_api_Event) (l := 0) (h := (r128 : Int).toNat) rfl rfl Proofs.Tryd.runUnderlying22 Proofs.Tryd.sizeOf30 rfl rfl h220 (by omega) (by omega) (fun m hmm => (.inr ⟨_, _, _, rfl, rfl, by omega, by omega, rfl⟩)) (.inl ⟨rfl, rfl⟩) ?_
                    intro v221 xs222 hr223
                    exact W_end (OneT_end [.row v221 30 (Rep.sz S_api_Event) (slc r182 0 ((r128 : Int).toNat)).length xs222] (Hp.le_refl _) ⟨v221, xs222, rfl, rfl, (hr223)⟩)
                  · intro HX hX X Rest hR
                    rintro _ _ ⟨v215, xs216, rfl, rfl, hr217⟩
                    rintro _ _ ⟨v221, xs222, rfl, rfl, hr223⟩
                    rintro _ _ ⟨v218, xs219, rfl, rfl, h220⟩
                    rintro _ _ ⟨rfl, rfl⟩
                    rintro hU ⟨Rr, hUp⟩
                    have hUq : (.row v215 30 (Rep.sz S_api_Event) (slc r173 0 ((r128 : Int).toNat)).length xs216 :: .row v221 30 (Rep.sz S_api_Event) (slc r182 0 ((r128 : Int).toNat)).length xs222 :: Rr).Perm Rest := hUp
                    have hR2 : ∀ s ∈ _, s ∈ .row v215 30 (Rep.sz S_api_Event) (slc r173 0 ((r128 : Int).toNat)).length xs216 :: .row v221 30 (Rep.sz S_api_Event) (slc r182 0 ((r128 : Int).toNat)).length xs222 :: Rr := fun s hs => hUq.mem_iff.2 (hR s hs)
                    refine W_perm (M' := .row v215 30 (Rep.sz S_api_Event) (slc r173 0 ((r128 : Int).toNat)).length xs216 :: .row v221 30 (Rep.sz S_api_Event) (slc r182 0 ((r128 : Int).toNat)).length xs222 :: Rr) (List.Perm.append_left [] hUq.symm) ?_
                    refine W_call Proofs.Tryd.call11 rfl rfl rfl (fun w ht => by obtain ⟨H0_, hl0_, ht0_, hr0_, bk0_⟩ := ht.lendRow hr217 rfl; obtain ⟨H1_, hl1_, ht1_, hr1_, bk1_⟩ := ht0_.lendRow (hr223.mono hl0_) rfl; have h := m_slices_Equal_api_Event_api_Event_c (hm := hc192) (hr0_.mono hl1_) hr1_ ht1_; exact lend_back bk0_ (lend_back bk1_ (h))) ?_
                    rintro _ _ _ ⟨rfl, ⟨_, rfl, ⟨_, rfl, rfl, rfl⟩⟩⟩
                    refine W_perm hUq ?_
                    exact W_end (OneT_end [] (Hp.le_refl _) ⟨rfl, (by first | rfl | (rw [hb193]; try rfl))⟩)
                  · intro HX hX X Rest hR
                    rintro _ _ ⟨rfl, rfl⟩
                    rintro _ _ ⟨rfl, rfl⟩
                    intro hU hUp
                    refine W_pick rfl rfl rfl rfl ?_
                    exact W_end (OneT_end [] (Hp.le_refl _) ⟨rfl, rfl⟩)
                  · intro HX hX X Rest hR
                    rintro _ _ ⟨rfl, rfl⟩
                    rintro _ _ ⟨rfl, rfl⟩
                    intro hU hUp
                    refine W_move rfl rfl rfl ?_
                    exact W_end (OneT_end [] (Hp.le_refl _) ⟨rfl, rfl⟩)
                  · intro HX hX X Rest hR
                    rintro _ _ ⟨rfl, rfl⟩
                    intro hU hUp
                    refine W_no rfl rfl rfl ?_
                    exact W_end (OneT_end [] (Hp.le_refl _) ⟨rfl, rfl⟩)
                  · intro HX hX X Rest hR
                    rintro _ _ ⟨rfl, rfl⟩
                    rintro _ _ ⟨rfl, rfl⟩
                    intro hU hUp
                    refine W_no rfl rfl rfl ?_
                    exact W_end (OneT_end [] (Hp.le_refl _) ⟨rfl, rfl⟩)
                  · intro HX hX X Rest hR
                    rintro _ _ ⟨rfl, rfl⟩
                    intro hU hUp
                    refine W_no rfl rfl rfl ?_
                    exact W_end (OneT_end [] (Hp.le_refl _) ⟨rfl, rfl⟩)
                  · intro HX hX X Rest hR
                    rintro _ _ ⟨rfl, rfl⟩
                    rintro _ _ ⟨rfl, rfl⟩
                    rintro _ _ ⟨rfl, rfl⟩
                    intro hU hUp
                    refine W_no rfl rfl rfl ?_
                    exact W_end (OneT_end [] (Hp.le_refl _) ⟨rfl, rfl⟩)
                  · intro HX hX X Rest hR
                    rintro _ _ ⟨rfl, rfl⟩
                    intro hU hUp
                    refine W_no rfl rfl rfl ?_
                    exact W_end (OneT_end [] (Hp.le_refl _) ⟨rfl, rfl⟩)
                  · intro HX hX X Rest hR
                    rintro _ _ ⟨rfl, rfl⟩
                    rintro _ _ ⟨rfl, rfl⟩
                    rintro _ _ ⟨rfl, rfl⟩
                    intro hU hUp
                    refine W_no rfl rfl rfl ?_
                    exact W_end (OneT_end [] (Hp.le_refl _) ⟨rfl, rfl⟩)
                  · intro HX hX X Rest hR
                    rintro _ _ ⟨rfl, rfl⟩
                    rintro _ _ ⟨rfl, rfl⟩
                    rintro _ _ ⟨rfl, rfl⟩
                    rintro _ _ ⟨rfl, rfl⟩
                    intro hU hUp
                    refine W_no rfl rfl rfl ?_
                    exact W_end (OneT_end [] (Hp.le_refl _) ⟨rfl, rfl⟩)
                  intro H224 hle225
                  rintro _ _ ⟨rfl, rfl⟩
                  rintro _ _ ⟨v209, xs210, rfl, rfl, h211⟩
                  rintro _ _ ⟨rfl, rfl⟩
                  rintro _ _ ⟨rfl, rfl⟩
                  rintro _ _ ⟨rfl, rfl⟩
                  rintro _ _ ⟨rfl, rfl⟩
                  rintro _ _ ⟨rfl, rfl⟩
                  rintro _ _ ⟨v212, xs213, rfl, rfl, h214⟩
                  rintro _ _ ⟨rfl, rfl⟩
                  rintro _ _ ⟨v215, xs216, rfl, rfl, hr217⟩
                  rintro _ _ ⟨rfl, rfl⟩
                  rintro _ _ ⟨v218, xs219, rfl, rfl, h220⟩
                  rintro _ _ ⟨rfl, rfl⟩
                  rintro _ _ ⟨v221, xs222, rfl, rfl, hr223⟩
                  rintro _ _ ⟨rfl, rfl⟩
                  rintro _ _ ⟨rfl, rfl⟩
                  rintro _ _ ⟨rfl, rfl⟩
                  rintro _ _ ⟨rfl, rfl⟩
                  rintro _ _ ⟨rfl, rfl⟩
                  rintro _ _ ⟨rfl, rfl⟩
                  rintro _ _ ⟨rfl, rfl⟩
                  rintro _ _ ⟨rfl, rfl⟩
                  rintro _ _ ⟨rfl, rfl⟩
                  rintro _ _ ⟨rfl, rfl⟩
                  refine W_as (M' := .row v209 30 (Rep.sz S_api_Event) r156.length xs210 :: .row v215 30 (Rep.sz S_api_Event) (slc r173 0 ((r128 : Int).toNat)).length xs216 :: .row v221 30 (Rep.sz S_api_Event) (slc r182 0 ((r128 : Int).toNat)).length xs222 :: .obj b139 (.cells [v140].toArray 51 (0, 0)) :: .row v140 30 (Rep.sz S_api_Event) sp138.all_.length xs141 :: .obj b104 (.cells [v105].toArray 51 (0, 0)) :: .row v105 30 (Rep.sz S_api_Event) sp103.all_.length xs106 :: M) rfl ?_
                  refine W_no rfl rfl rfl ?_
                  refine W_pick rfl rfl rfl rfl ?_
                  refine W_assign rfl rfl rfl ?_
                  refine W_end ?_
                  refine E_then ?_
                  refine C_ret ?_
                  obtain rfl := Option.some.inj hm
                  refine E_drop (List.Sublist.cons _ (List.Sublist.cons _ (List.Sublist.cons _ (List.Sublist.cons _ (List.Sublist.cons _ (List.Sublist.cons _ (List.Sublist.cons _ (List.Sublist.refl _)))))))) ?_
                  refine E_weak (Hp.le_trans (Hp.le_trans hle113 hle148) hle225) ?_
                  exact end1 rfl rfl ⟨rfl, rfl, rfl⟩
                · have hm := ite_t' hb193 hm
                  obtain ⟨r241, hc242, hm⟩ := bind_some hm
                  obtain ⟨r246, hc247, hm⟩ := bind_some hm
                  obtain ⟨r251, hc252, hm⟩ := bind_some hm
                  refine C_perm (List.Perm.refl _) ?_
                  refine C_as (M' := [[.obj b139 (.cells [v140].toArray 51 (0, 0))], [.row v140 30 (Rep.sz S_api_Event) sp138.all_.length xs141], [.obj b104 (.cells [v105].toArray 51 (0, 0))], [.row v105 30 (Rep.sz S_api_Event) sp103.all_.length xs106]].flatten ++ (M)) rfl ?_
                  refine C_region_tok0 24 (phiT [(fun H rs v => [] = rs ∧ .pointer (some ⟨b139, 0, none⟩) = v), (fun H rs v => ∃ v253 : Value, ∃ xs254 : List Value, [.row v253 30 (Rep.sz S_api_Event) r156.length xs254] = rs ∧ v253 = v ∧ Rw H v253 xs254 r156), (fun H rs v => [] = rs ∧ .int .i64 ((r156.length : Int)) = v), (fun H rs v => [] = rs ∧ .int .i64 (r128) = v), (fun H rs v => [] = rs ∧ .bool (true) = v), (fun H rs v => [] = rs ∧ .bool (true) = v), (fun H rs v => [] = rs ∧ .pointer (some ⟨b139, 0, none⟩) = v), (fun H rs v => ∃ v256 : Value, ∃ xs257 : List Value, [.row v256 30 (Rep.sz S_api_Event) r173.length xs257] = rs ∧ v256 = v ∧ Rw H v256 xs257 r173), (fun H rs v => [] = rs ∧ .int .i64 (r128) = v), (fun H rs v => ∃ v259 : Value, ∃ xs260 : List Value, [.row v259 30 (Rep.sz S_api_Event) (slc r173 0 ((r128 : Int).toNat)).length xs260] = rs ∧ v259 = v ∧ Rw H v259 xs260 (slc r173 0 ((r128 : Int).toNat))), (fun H rs v => [] = rs ∧ .pointer (some ⟨b104, 0, none⟩) = v), (fun H rs v => ∃ v262 : Value, ∃ xs263 : List Value, [.row v262 30 (Rep.sz S_api_Event) r182.length xs263] = rs ∧ v262 = v ∧ Rw H v262 xs263 r182), (fun H rs v => [] = rs ∧ .int .i64 (r128) = v), (fun H rs v => ∃ v265 : Value, ∃ xs266 : List Value, [.row v265 30 (Rep.sz S_api_Event) (slc r182 0 ((r128 : Int).toNat)).length xs266] = rs ∧ v265 = v ∧ Rw H v265 xs266 (slc r182 0 ((r128 : Int).toNat))), (fun H rs v => [] = rs ∧ .bool (true) = v), (fun H rs v => [] = rs ∧ .bool (true) = v), (fun H rs v => [] = rs ∧ .bool (true) = v), (fun H rs v => [] = rs ∧ .int .u8 (p2_by) = v), (fun H rs v => [] = rs ∧ .bool (decide (p2_by = 0)) = v), (fun H rs v => [] = rs ∧ .pointer (some ⟨b139, 0, none⟩) = v), (fun H rs v => ∃ v268 : Value, ∃ xs269 : List Value, [.row v268 30 (Rep.sz S_api_Event) r241.length xs269] = rs ∧ v268 = v ∧ Rw H v268 xs269 r241), (fun H rs v => [] = rs ∧ .pointer (some ⟨b104, 0, none⟩) = v), (fun H rs v => ∃ v271 : Value, ∃ xs272 : List Value, [.row v271 30 (Rep.sz S_api_Event) r246.length xs272] = rs ∧ v271 = v ∧ Rw H v271 xs272 r246), (fun H rs v => [] = rs ∧ .bool (r251) = v)]) [[], [], [], [], [], [], [], [], [], [7], [], [], [], [11], [], [], [], [], [], [], [], [], [], []] [[], [24, 25], [1], [], [], [], [], [24, 25], [], [], [], [26, 27], [], [], [9, 13], [], [], [], [], [], [24, 25], [], [26, 27], [20, 22]] [[.obj b139 (.cells [v140].toArray 51 (0, 0))], [.row v140 30 (Rep.sz S_api_Event) sp138.all_.length xs141], [.obj b104 (.cells [v105].toArray 51 (0, 0))], [.row v105 30 (Rep.sz S_api_Event) sp103.all_.length xs106]] [0, 1, 2, 3, 4, 5, 6, 8, 9, 10, 12, 13, 14, 15, 16, 17, 18, 19, 20, 21, 22, 23, 24, 25, 26, 27] Facts.mixed (by kernel_rfl) rfl rfl rfl (by kernel_rfl) (phiT_mono ⟨eq_monoT _ _, (by rintro H1 H2 rs v hle ⟨v253, xs254, rfl, rfl, h255⟩; exact ⟨v253, xs254, rfl, rfl, (h255.mono hle)⟩), eq_monoT _ _, eq_monoT _ _, eq_monoT _ _, eq_monoT _ _, eq_monoT _ _, (by rintro H1 H2 rs v hle ⟨v256, xs257, rfl, rfl, h258⟩; exact ⟨v256, xs257, rfl, rfl, (h258.mono hle)⟩), eq_monoT _ _, (by rintro H1 H2 rs v hle ⟨v259, xs260, rfl, rfl, hr261⟩; exact ⟨v259, xs260, rfl, rfl, (hr261.mono hle)⟩), eq_monoT _ _, (by rintro H1 H2 rs v hle ⟨v262, xs263, rfl, rfl, h264⟩; exact ⟨v262, xs263, rfl, rfl, (h264.mono hle)⟩), eq_monoT _ _, (by rintro H1 H2 rs v hle ⟨v265, xs266, rfl, rfl, hr267⟩; exact ⟨v265, xs266, rfl, rfl, (hr267.mono hle)⟩), eq_monoT _ _, eq_monoT _ _, eq_monoT _ _, eq_monoT _ _, eq_monoT _ _, eq_monoT _ _, (by rintro H1 H2 rs v hle ⟨v268, xs269, rfl, rfl, h270⟩; exact ⟨v268, xs269, rfl, rfl, (h270.mono hle)⟩), eq_monoT _ _, (by rintro H1 H2 rs v hle ⟨v271, xs272, rfl, rfl, h273⟩; exact ⟨v271, xs272, rfl, rfl, (h273.mono hle)⟩), eq_monoT _ _, trivial⟩) ⟨?_, ?_, ?_, ?_, ?_, ?_, ?_, ?_, ?_, ?_, ?_, ?_, ?_, ?_, ?_, ?_, ?_, ?_, ?_, ?_, ?_, ?_, ?_, ?_, trivial⟩ ?_
                  · intro HX hX X Rest hR
                    intro hU hUp
                    refine W_move rfl rfl rfl ?_
                    exact W_end (OneT_end [] (Hp.le_refl _) ⟨rfl, rfl⟩)
                  · intro HX hX X Rest hR
                    rintro _ _ ⟨rfl, rfl⟩
                    rintro hU ⟨Rr, hUp⟩
                    have hUq : (.obj b139 (.cells [v140].toArray 51 (0, 0)) :: .row v140 30 (Rep.sz S_api_Event) sp138.all_.length xs141 :: Rr).Perm Rest := hUp
                    have hR2 : ∀ s ∈ _, s ∈ .obj b139 (.cells [v140].toArray 51 (0, 0)) :: .row v140 30 (Rep.sz S_api_Event) sp138.all_.length xs141 :: Rr := fun s hs => hUq.mem_iff.2 (hR s hs)
                    refine W_perm (M' := .obj b139 (.cells [v140].toArray 51 (0, 0)) :: .row v140 30 (Rep.sz S_api_Event) sp138.all_.length xs141 :: Rr) (List.Perm.append_left [] hUq.symm) ?_
                    refine W_call Proofs.Tryd.call13 rfl rfl rfl (fun w ht => by have h := m_archive_Archive_All_c (hm := hc157) (h142.mono hX) ht; exact h) ?_
                    rintro _ _ _ ⟨rfl, v253, xs254, rfl, rfl, h255⟩
                    have h255 := h255 HX
                    refine W_perm (List.Perm.cons _ hUq) ?_
                    exact W_end (OneT_end [.row v253 30 (Rep.sz S_api_Event) r156.length xs254] (Hp.le_refl _) ⟨v253, xs254, rfl, rfl, (h255)⟩)
                  · intro HX hX X Rest hR
                    rintro _ _ ⟨v253, xs254, rfl, rfl, h255⟩
                    intro hU hUp
                    have hU2 : ∀ s ∈ [.row v253 30 (Rep.sz S_api_Event) r156.length xs254], s ∈ Rest := hU
                    refine W_lenO (hU2 _ (List.mem_cons_self ..)) rfl rfl Proofs.Tryd.runUnderlying22 rfl ?_
                    exact W_end (OneT_end [] (Hp.le_refl _) ⟨rfl, rfl⟩)
                  · intro HX hX X Rest hR
                    intro hU hUp
                    refine W_move rfl rfl rfl ?_
                    exact W_end (OneT_end [] (Hp.le_refl _) ⟨rfl, rfl⟩)
                  · intro HX hX X Rest hR
                    rintro _ _ ⟨rfl, rfl⟩
                    rintro _ _ ⟨rfl, rfl⟩
                    intro hU hUp
                    refine W_bin rfl rfl rfl rfl rfl ?_
                    exact W_end (OneT_end [] (Hp.le_refl _) ⟨rfl, (by first | rfl | (rw [hb161]; try rfl))⟩)
                  · intro HX hX X Rest hR
                    rintro _ _ ⟨rfl, rfl⟩
                    rintro _ _ ⟨v253, xs254, rfl, rfl, h255⟩
                    intro hU hUp
                    refine W_move rfl rfl rfl ?_
                    exact W_end (OneT_end [] (Hp.le_refl _) ⟨rfl, rfl⟩)
                  · intro HX hX X Rest hR
                    rintro _ _ ⟨rfl, rfl⟩
                    intro hU hUp
                    refine W_move rfl rfl rfl ?_
                    exact W_end (OneT_end [] (Hp.le_refl _) ⟨rfl, rfl⟩)
                  · intro HX hX X Rest hR
                    rintro _ _ ⟨rfl, rfl⟩
                    rintro _ _ ⟨rfl, rfl⟩
                    rintro _ _ ⟨rfl, rfl⟩
                    rintro hU ⟨Rr, hUp⟩
                    have hUq : (.obj b139 (.cells [v140].toArray 51 (0, 0)) :: .row v140 30 (Rep.sz S_api_Event) sp138.all_.length xs141 :: Rr).Perm Rest := hUp
                    have hR2 : ∀ s ∈ _, s ∈ .obj b139 (.cells [v140].toArray 51 (0, 0)) :: .row v140 30 (Rep.sz S_api_Event) sp138.all_.length xs141 :: Rr := fun s hs => hUq.mem_iff.2 (hR s hs)
                    refine W_perm (M' := .obj b139 (.cells [v140].toArray 51 (0, 0)) :: .row v140 30 (Rep.sz S_api_Event) sp138.all_.length xs141 :: Rr) (List.Perm.append_left [] hUq.symm) ?_
                    refine W_call Proofs.Tryd.call13 rfl rfl rfl (fun w ht => by have h := m_archive_Archive_All_c (hm := hc174) (h142.mono hX) ht; exact h) ?_
                    rintro _ _ _ ⟨rfl, v256, xs257, rfl, rfl, h258⟩
                    have h258 := h258 HX
                    refine W_perm (List.Perm.cons _ hUq) ?_
                    exact W_end (OneT_end [.row v256 30 (Rep.sz S_api_Event) r173.length xs257] (Hp.le_refl _) ⟨v256, xs257, rfl, rfl, (h258)⟩)
                  · intro HX hX X Rest hR
                    rintro _ _ ⟨rfl, rfl⟩
                    intro hU hUp
                    refine W_move rfl rfl rfl ?_
                    exact W_end (OneT_end [] (Hp.le_refl _) ⟨rfl, rfl⟩)
                  · intro HX hX X Rest hR
                    rintro _ _ ⟨v256, xs257, rfl, rfl, h258⟩
                    rintro _ _ ⟨rfl, rfl⟩
                    rintro _ _ ⟨rfl, rfl⟩
                    intro hU hUp
                    refine W_as (M' := .row v256 30 (Rep.sz S_api_Event) r173.length xs257 :: Rest) rfl ?_
                    refine W_sliceO (α := S_api_Event) (l := 0) (h := (r128 : Int).toNat) rfl rfl Proofs.Tryd.runUnderlying22 Proofs.Tryd.sizeOf30 rfl rfl h258 (by omega) (by omega) (fun m hmm => (.inr ⟨_, _, _, rfl, rfl, by omega, by omega, rfl⟩)) (.inl ⟨rfl, rfl⟩) ?_
                    intro v259 xs260 hr261
                    exact W_end (OneT_end [.row v259 30 (Rep.sz S_api_Event) (slc r173 0 ((r128 : Int).toNat)).length xs260] (Hp.le_refl _) ⟨v259, xs260, rfl, rfl, (hr261)⟩)
                  · intro HX hX X Rest hR
                    rintro _ _ ⟨rfl, rfl⟩
                    intro hU hUp
                    refine W_move rfl rfl rfl ?_
                    exact W_end (OneT_end [] (Hp.le_refl _) ⟨rfl, rfl⟩)
                  · intro HX hX X Rest hR
                    rintro _ _ ⟨rfl, rfl⟩
                    rintro _ _ ⟨v256, xs257, rfl, rfl, h258⟩
                    rintro _ _ ⟨rfl, rfl⟩
                    rintro hU ⟨Rr, hUp⟩
                    have hUq : (.obj b104 (.cells [v105].toArray 51 (0, 0)) :: .row v105 30 (Rep.sz S_api_Event) sp103.all_.length xs106 :: Rr).Perm Rest := hUp
                    have hR2 : ∀ s ∈ _, s ∈ .obj b104 (.cells [v105].toArray 51 (0, 0)) :: .row v105 30 (Rep.sz S_api_Event) sp103.all_.length xs106 :: Rr := fun s hs => hUq.mem_iff.2 (hR s hs)
                    refine W_perm (M' := .obj b104 (.cells [v105].toArray 51 (0, 0)) :: .row v105 30 (Rep.sz S_api_Event) sp103.all_.length xs106 :: Rr) (List.Perm.append_left [] hUq.symm) ?_
                    refine W_call Proofs.Tryd.call13 rfl rfl rfl (fun w ht => by have h := m_archive_Archive_All_c (hm := hc183) ((h107.mono hle148).mono hX) ht; exact h) ?_
                    rintro _ _ _ ⟨rfl, v262, xs263, rfl, rfl, h264⟩
                    have h264 := h264 HX
                    refine W_perm (List.Perm.cons _ hUq) ?_
                    exact W_end (OneT_end [.row v262 30 (Rep.sz S_api_Event) r182.length xs263] (Hp.le_refl _) ⟨v262, xs263, rfl, rfl, (h264)⟩)
                  · intro HX hX X Rest hR
                    rintro _ _ ⟨rfl, rfl⟩
                    intro hU hUp
                    refine W_move rfl rfl rfl ?_
                    exact W_end (OneT_end [] (Hp.le_refl _) ⟨rfl, rfl⟩)
                  · intro HX hX X Rest hR
                    rintro _ _ ⟨v262, xs263, rfl, rfl, h264⟩
                    rintro _ _ ⟨rfl, rfl⟩
                    rintro _ _ ⟨rfl, rfl⟩
                    intro hU hUp
                    refine W_as (M' := .row v262 30 (Rep.sz S_api_Event) r182.length xs263 :: Rest) rfl ?_
                    refine W_sliceO (α := S_api_Event) (l := 0) (h := (r128 : Int).toNat) rfl rfl Proofs.Tryd.runUnderlying22 Proofs.Tryd.sizeOf30 rfl rfl h264 (by omega) (by omega) (fun m hmm => (.inr ⟨_, _, _, rfl, rfl, by omega, by omega, rfl⟩)) (.inl ⟨rfl, rfl⟩) ?_
                    intro v265 xs266 hr267
                    exact W_end (OneT_end [.row v265 30 (Rep.sz S_api_Event) (slc r182 0 ((r128 : Int).toNat)).length xs266] (Hp.le_refl _) ⟨v265, xs266, rfl, rfl, (hr267)⟩)
                  · intro HX hX X Rest hR
                    rintro _ _ ⟨v259, xs260, rfl, rfl, hr261⟩
                    rintro _ _ ⟨v265, xs266, rfl, rfl, hr267⟩
                    rintro _ _ ⟨v262, xs263, rfl, rfl, h264⟩
                    rintro _ _ ⟨rfl, rfl⟩
                    rintro hU ⟨Rr, hUp⟩
                    have hUq : (.row v259 30 (Rep.sz S_api_Event) (slc r173 0 ((r128 : Int).toNat)).length xs260 :: .row v265 30 (Rep.sz S_api_Event) (slc r182 0 ((r128 : Int).toNat)).length xs266 :: Rr).Perm Rest := hUp
                    have hR2 : ∀ s ∈ _, s ∈ .row v259 30 (Rep.sz S_api_Event) (slc r173 0 ((r128 : Int).toNat)).length xs260 :: .row v265 30 (Rep.sz S_api_Event) (slc r182 0 ((r128 : Int).toNat)).length xs266 :: Rr := fun s hs => hUq.mem_iff.2 (hR s hs)
                    refine W_perm (M' := .row v259 30 (Rep.sz S_api_Event) (slc r173 0 ((r128 : Int).toNat)).length xs260 :: .row v265 30 (Rep.sz S_api_Event) (slc r182 0 ((r128 : Int).toNat)).length xs266 :: Rr) (List.Perm.append_left [] hUq.symm) ?_
                    refine W_call Proofs.Tryd.call11 rfl rfl rfl (fun w ht => by obtain ⟨H0_, hl0_, ht0_, hr0_, bk0_⟩ := ht.lendRow hr261 rfl; obtain ⟨H1_, hl1_, ht1_, hr1_, bk1_⟩ := ht0_.lendRow (hr267.mono hl0_) rfl; have h := m_slices_Equal_api_Event_api_Event_c (hm := hc192) (hr0_.mono hl1_) hr1_ ht1_; exact lend_back bk0_ (lend_back bk1_ (h))) ?_
                    rintro _ _ _ ⟨rfl, ⟨_, rfl, ⟨_, rfl, rfl, rfl⟩⟩⟩
                    refine W_perm hUq ?_
                    exact W_end (OneT_end [] (Hp.le_refl _) ⟨rfl, (by first | rfl | (rw [hb193]; try rfl))⟩)
                  · intro HX hX X Rest hR
                    rintro _ _ ⟨rfl, rfl⟩
                    rintro _ _ ⟨rfl, rfl⟩
                    intro hU hUp
                    refine W_pick rfl rfl rfl rfl ?_
                    exact W_end (OneT_end [] (Hp.le_refl _) ⟨rfl, rfl⟩)
                  · intro HX hX X Rest hR
                    rintro _ _ ⟨rfl, rfl⟩
                    rintro _ _ ⟨rfl, rfl⟩
                    intro hU hUp
                    refine W_move rfl rfl rfl ?_
                    exact W_end (OneT_end [] (Hp.le_refl _) ⟨rfl, rfl⟩)
                  · intro HX hX X Rest hR
                    rintro _ _ ⟨rfl, rfl⟩
                    intro hU hUp
                    refine W_move rfl rfl rfl ?_
                    exact W_end (OneT_end [] (Hp.le_refl _) ⟨rfl, rfl⟩)
                  · intro HX hX X Rest hR
                    rintro _ _ ⟨rfl, rfl⟩
                    rintro _ _ ⟨rfl, rfl⟩
                    intro hU hUp
                    refine W_bin rfl rfl rfl rfl rfl ?_
                    exact W_end (OneT_end [] (Hp.le_refl _) ⟨rfl, rfl⟩)
                  · intro HX hX X Rest hR
                    rintro _ _ ⟨rfl, rfl⟩
                    intro hU hUp
                    refine W_move rfl rfl rfl ?_
                    exact W_end (OneT_end [] (Hp.le_refl _) ⟨rfl, rfl⟩)
                  · intro HX hX X Rest hR
                    rintro _ _ ⟨rfl, rfl⟩
                    rintro _ _ ⟨rfl, rfl⟩
                    rintro _ _ ⟨rfl, rfl⟩
                    rintro hU ⟨Rr, hUp⟩
                    have hUq : (.obj b139 (.cells [v140].toArray 51 (0, 0)) :: .row v140 30 (Rep.sz S_api_Event) sp138.all_.length xs141 :: Rr).Perm Rest := hUp
                    have hR2 : ∀ s ∈ _, s ∈ .obj b139 (.cells [v140].toArray 51 (0, 0)) :: .row v140 30 (Rep.sz S_api_Event) sp138.all_.length xs141 :: Rr := fun s hs => hUq.mem_iff.2 (hR s hs)
                    refine W_perm (M' := .obj b139 (.cells [v140].toArray 51 (0, 0)) :: .row v140 30 (Rep.sz S_api_Event) sp138.all_.length xs141 :: Rr) (List.Perm.append_left [] hUq.symm) ?_
                    refine W_call Proofs.Tryd.call13 rfl rfl rfl (fun w ht => by have h := m_archive_Archive_All_c (hm := hc242) (h142.mono hX) ht; exact h) ?_
                    rintro _ _ _ ⟨rfl, v268, xs269, rfl, rfl, h270⟩
                    have h270 := h270 HX
                    refine W_perm (List.Perm.cons _ hUq) ?_
                    exact W_end (OneT_end [.row v268 30 (Rep.sz S_api_Event) r241.length xs269] (Hp.le_refl _) ⟨v268, xs269, rfl, rfl, (h270)⟩)
                  · intro HX hX X Rest hR
                    rintro _ _ ⟨rfl, rfl⟩
                    intro hU hUp
                    refine W_move rfl rfl rfl ?_
                    exact W_end (OneT_end [] (Hp.le_refl _) ⟨rfl, rfl⟩)
                  · intro HX hX X Rest hR
                    rintro _ _ ⟨rfl, rfl⟩
                    rintro _ _ ⟨v268, xs269, rfl, rfl, h270⟩
                    rintro _ _ ⟨rfl, rfl⟩
                    rintro hU ⟨Rr, hUp⟩
                    have hUq : (.obj b104 (.cells [v105].toArray 51 (0, 0)) :: .row v105 30 (Rep.sz S_api_Event) sp103.all_.length xs106 :: Rr).Perm Rest := hUp
                    have hR2 : ∀ s ∈ _, s ∈ .obj b104 (.cells [v105].toArray 51 (0, 0)) :: .row v105 30 (Rep.sz S_api_Event) sp103.all_.length xs106 :: Rr := fun s hs => hUq.mem_iff.2 (hR s hs)
                    refine W_perm (M' := .obj b104 (.cells [v105].toArray 51 (0, 0)) :: .row v105 30 (Rep.sz S_api_Event) sp103.all_.length xs106 :: Rr) (List.Perm.append_left [] hUq.symm) ?_
                    refine W_call Proofs.Tryd.call13 rfl rfl rfl (fun w ht => by have h := m_archive_Archive_All_c (hm := hc247) ((h107.mono hle148).mono hX) ht; exact h) ?_
                    rintro _ _ _ ⟨rfl, v271, xs272, rfl, rfl, h273⟩
                    have h273 := h273 HX
                    refine W_perm (List.Perm.cons _ hUq) ?_
                    exact W_end (OneT_end [.row v271 30 (Rep.sz S_api_Event) r246.length xs272] (Hp.le_refl _) ⟨v271, xs272, rfl, rfl, (h273)⟩)
                  · intro HX hX X Rest hR
                    rintro _ _ ⟨v268, xs269, rfl, rfl, h270⟩
                    rintro _ _ ⟨v271, xs272, rfl, rfl, h273⟩
                    rintro _ _ ⟨v271, xs272, rfl, rfl, h273⟩
                    rintro _ _ ⟨rfl, rfl⟩
                    rintro hU ⟨Rr, hUp⟩
                    have hUq : (.row v268 30 (Rep.sz S_api_Event) r241.length xs269 :: .row v271 30 (Rep.sz S_api_Event) r246.length xs272 :: Rr).Perm Rest := hUp
                    have hR2 : ∀ s ∈ _, s ∈ .row v268 30 (Rep.sz S_api_Event) r241.length xs269 :: .row v271 30 (Rep.sz S_api_Event) r246.length xs272 :: Rr := fun s hs => hUq.mem_iff.2 (hR s hs)
                    refine W_perm (M' := .row v268 30 (Rep.sz S_api_Event) r241.length xs269 :: .row v271 30 (Rep.sz S_api_Event) r246.length xs272 :: Rr) (List.Perm.append_left [] hUq.symm) ?_
                    refine W_call Proofs.Tryd.call11 rfl rfl rfl (fun w ht => by obtain ⟨H0_, hl0_, ht0_, hr0_, bk0_⟩ := ht.lendRow h270 rfl; obtain ⟨H1_, hl1_, ht1_, hr1_, bk1_⟩ := ht0_.lendRow (h273.mono hl0_) rfl; have h := m_slices_Equal_api_Event_api_Event_c (hm := hc252) (hr0_.mono hl1_) hr1_ ht1_; exact lend_back bk0_ (lend_back bk1_ (h))) ?_
                    rintro _ _ _ ⟨rfl, ⟨_, rfl, ⟨_, rfl, rfl, rfl⟩⟩⟩
                    refine W_perm hUq ?_
                    exact W_end (OneT_end [] (Hp.le_refl _) ⟨rfl, rfl⟩)
                  intro H274 hle275
                  rintro _ _ ⟨rfl, rfl⟩
                  rintro _ _ ⟨v253, xs254, rfl, rfl, h255⟩
                  rintro _ _ ⟨rfl, rfl⟩
                  rintro _ _ ⟨rfl, rfl⟩
                  rintro _ _ ⟨rfl, rfl⟩
                  rintro _ _ ⟨rfl, rfl⟩
                  rintro _ _ ⟨rfl, rfl⟩
                  rintro _ _ ⟨v256, xs257, rfl, rfl, h258⟩
                  rintro _ _ ⟨rfl, rfl⟩
                  rintro _ _ ⟨v259, xs260, rfl, rfl, hr261⟩
                  rintro _ _ ⟨rfl, rfl⟩
                  rintro _ _ ⟨v262, xs263, rfl, rfl, h264⟩
                  rintro _ _ ⟨rfl, rfl⟩
                  rintro _ _ ⟨v265, xs266, rfl, rfl, hr267⟩
                  rintro _ _ ⟨rfl, rfl⟩
                  rintro _ _ ⟨rfl, rfl⟩
                  rintro _ _ ⟨rfl, rfl⟩
                  rintro _ _ ⟨rfl, rfl⟩
                  rintro _ _ ⟨rfl, rfl⟩
                  rintro _ _ ⟨rfl, rfl⟩
                  rintro _ _ ⟨v268, xs269, rfl, rfl, h270⟩
                  rintro _ _ ⟨rfl, rfl⟩
                  rintro _ _ ⟨v271, xs272, rfl, rfl, h273⟩
                  rintro _ _ ⟨rfl, rfl⟩
                  refine W_as (M' := .row v253 30 (Rep.sz S_api_Event) r156.length xs254 :: .row v259 30 (Rep.sz S_api_Event) (slc r173 0 ((r128 : Int).toNat)).length xs260 :: .row v265 30 (Rep.sz S_api_Event) (slc r182 0 ((r128 : Int).toNat)).length xs266 :: .row v268 30 (Rep.sz S_api_Event) r241.length xs269 :: .row v271 30 (Rep.sz S_api_Event) r246.length xs272 :: .obj b139 (.cells [v140].toArray 51 (0, 0)) :: .row v140 30 (Rep.sz S_api_Event) sp138.all_.length xs141 :: .obj b104 (.cells [v105].toArray 51 (0, 0)) :: .row v105 30 (Rep.sz S_api_Event) sp103.all_.length xs106 :: M) rfl ?_
                  refine W_eqBool rfl rfl Proofs.Tryd.runUnderlying4 rfl rfl ?_
                  refine W_pick rfl rfl rfl rfl ?_
                  refine W_assign rfl rfl rfl ?_
                  refine W_end ?_
                  refine E_then ?_
                  refine C_ret ?_
                  obtain rfl := Option.some.inj hm
                  refine E_drop (List.Sublist.cons _ (List.Sublist.cons _ (List.Sublist.cons _ (List.Sublist.cons _ (List.Sublist.cons _ (List.Sublist.cons _ (List.Sublist.cons _ (List.Sublist.cons _ (List.Sublist.cons _ (List.Sublist.refl _)))))))))) ?_
                  refine E_weak (Hp.le_trans (Hp.le_trans hle113 hle148) hle275) ?_
                  exact end1 rfl rfl ⟨rfl, rfl, rfl⟩
          · refine C_region ?_
            refine W_move rfl rfl rfl ?_
            refine W_bin rfl rfl rfl rfl rfl ?_
            refine W_move rfl rfl rfl ?_
            cases hb276 : (decide (r136.2.2 = 0))
            · refine W_no rfl rfl rfl ?_
              refine W_no rfl rfl rfl ?_
              refine W_pick rfl rfl rfl rfl ?_
              refine W_end ?_
              refine E_drop (List.Sublist.cons_cons _ (List.Sublist.cons_cons _ (List.Sublist.cons _ (List.Sublist.refl _)))) ?_
              exact E_keepJ (J154 _ _ _ ⟨rfl, rfl, rfl⟩) (List.Perm.refl _) ⟨rfl, rfl, rfl, rfl, (by show some (Value.bool (true)) = some (Value.bool (!decide (r136.2.2 = 0))); simp only [hb117, hb124, hb276, Bool.and_true, Bool.true_and, Bool.false_and, Bool.and_false, Bool.or_true, Bool.true_or, Bool.or_false, Bool.false_or, Bool.not_true, Bool.not_false]), trivial⟩
            · refine W_move rfl rfl rfl ?_
              refine W_ptrNil rfl rfl Proofs.Tryd.runUnderlying23 rfl rfl ?_
              refine W_pick rfl rfl rfl rfl ?_
              refine W_end ?_
              refine E_drop (List.Sublist.cons_cons _ (List.Sublist.cons_cons _ (List.Sublist.cons _ (List.Sublist.refl _)))) ?_
              exact E_keepJ (J154 _ _ _ ⟨rfl, rfl, rfl⟩) (List.Perm.refl _) ⟨rfl, rfl, rfl, rfl, (by show some (Value.bool (false)) = some (Value.bool (!decide (r136.2.2 = 0))); simp only [hb117, hb124, hb276, Bool.and_true, Bool.true_and, Bool.false_and, Bool.and_false, Bool.or_true, Bool.true_or, Bool.or_false, Bool.false_or, Bool.not_true, Bool.not_false]), trivial⟩
end Go.Sim
