/-
  Printed by a program: each Go function computes its model.
-/
import Derived.Test.YtcepgfpbmembnaaDoorConB2
namespace Go.Sim
open Go
set_option linter.unusedVariables false
set_option linter.unusedSimpArgs false
set_option maxRecDepth 100000
theorem m_interlock_Parse_c {B : Nat} {w0 w : World} {H : Hp} {M : List Res} {p0_s : ByteArray} {r : (List S_api_InterlockRule) × Int × Int} (hm : m_interlock_Parse p0_s = some r) (ht : St B w0 H (M) w) :
    Calls Proofs.Tryd.prog 5 [.string (p0_s)].toArray w (Ret B w0 fun H' M' v => H.le H' ∧ ∃ qv0 : Value, ∃ qxs0 : List Value, .row qv0 34 (Rep.sz S_api_InterlockRule) r.1.length qxs0 :: M = M' ∧ .tuple #[qv0, .int .i64 (r.2.1), .int .i64 (r.2.2)] = v ∧ Rw H' qv0 qxs0 r.1) := by
  unfold m_interlock_Parse at hm
  refine enter Proofs.Tryd.func5 rfl rfl rfl ht ?_
  refine C_seq ?_
  refine C_region ?_
  refine W_assign rfl rfl rfl ?_
  refine W_assign rfl rfl rfl ?_
  refine W_assign rfl rfl rfl ?_
  refine W_end ?_
  refine E_then ?_
  refine C_seq ?_
  refine C_seq ?_
  refine C_region ?_
  refine W_move rfl rfl rfl ?_
  refine W_lenStr rfl rfl Proofs.Tryd.runUnderlying9 rfl ?_
  refine W_bin rfl rfl rfl rfl rfl ?_
  refine W_end ?_
  refine E_then ?_
  refine C_cond (b := decide (8192 < (p0_s.size : Int))) rfl (fun hb101 => ?_) (fun hb101 => ?_)
  · have hm := ite_t' hb101 hm
    refine C_seq ?_
    refine C_region ?_
    refine W_assign rfl rfl rfl ?_
    refine W_assign rfl rfl rfl ?_
    refine W_assign rfl rfl rfl ?_
    refine W_end ?_
    refine E_then ?_
    refine C_ret ?_
    refine E_ret_then ?_
    refine E_nilRow 34 (Rep.sz S_api_InterlockRule) ?_
    obtain rfl := Option.some.inj hm
    exact end3 rfl rfl rfl rfl ⟨(Hp.le_refl _), (.slice none 0 0), [], rfl, rfl, Rw.nil⟩
  · have hm := ite_f' hb101 hm
    refine C_skip ?_
    refine E_then ?_
    refine C_seq ?_
    refine C_seq ?_
    refine C_region ?_
    refine W_move rfl rfl rfl ?_
    refine W_bin rfl rfl rfl rfl rfl ?_
    refine W_end ?_
    refine E_then ?_
    refine C_cond (b := decide (p0_s = (⟨#[]⟩))) rfl (fun hb102 => ?_) (fun hb102 => ?_)
    · have hm := ite_t' hb102 hm
      refine C_seq ?_
      refine C_region ?_
      refine W_assign rfl rfl rfl ?_
      refine W_assign rfl rfl rfl ?_
      refine W_assign rfl rfl rfl ?_
      refine W_end ?_
      refine E_then ?_
      refine C_ret ?_
      refine E_ret_then ?_
      refine E_nilRow 34 (Rep.sz S_api_InterlockRule) ?_
      obtain rfl := Option.some.inj hm
      exact end3 rfl rfl rfl rfl ⟨(Hp.le_refl _), (.slice none 0 0), [], rfl, rfl, Rw.nil⟩
    · have hm := ite_f' hb102 hm
      refine C_skip ?_
      refine E_then ?_
      refine C_seq ?_
      refine C_region ?_
      refine W_move rfl rfl rfl ?_
      obtain ⟨r103, hc104, hm⟩ := bind_some hm
      refine W_call Proofs.Tryd.call11 rfl rfl rfl (fun w ht => by have h := m_strings_TrimSuffix_c (hm := hc104)  ht; exact h) ?_
      rintro _ _ _ ⟨rfl, rfl, rfl⟩
      obtain ⟨r105, hc106, hm⟩ := bind_some hm
      refine W_call Proofs.Tryd.call10 rfl rfl rfl (fun w ht => by have h := m_strings_Split_c (hm := hc106)  ht; exact h) ?_
      rintro _ _ _ ⟨rfl, v107, xs108, rfl, rfl, h109⟩
      have h109 := h109 H
      refine W_assign rfl rfl rfl ?_
      refine W_end ?_
      refine E_then ?_
      refine C_seq ?_
      refine C_seq ?_
      refine C_region ?_
      refine W_move rfl rfl rfl ?_
      obtain ⟨r110, hc111, hm⟩ := bind_some hm
      refine W_call Proofs.Tryd.call12 rfl rfl rfl (fun w ht => by have h := m_strings_HasSuffix_c (hm := hc111)  ht; exact h) ?_
      rintro _ _ _ ⟨rfl, rfl, rfl⟩
      refine W_un rfl rfl rfl rfl ?_
      refine W_end ?_
      refine E_then ?_
      refine C_cond (b := !r110) rfl (fun hb112 => ?_) (fun hb112 => ?_)
      · have hm := ite_t' hb112 hm
        refine C_seq ?_
        refine C_region ?_
        refine W_move rfl rfl rfl ?_
        refine W_lenO (List.mem_cons_self ..) rfl rfl Proofs.Tryd.runUnderlying36 rfl ?_
        refine W_bin rfl rfl rfl rfl rfl ?_
        refine W_assign rfl rfl rfl ?_
        refine W_assign rfl rfl rfl ?_
        refine W_assign rfl rfl rfl ?_
        refine W_end ?_
        refine E_then ?_
        refine C_ret ?_
        refine E_ret_then ?_
        refine E_nilRow 34 (Rep.sz S_api_InterlockRule) ?_
        obtain rfl := Option.some.inj hm
        refine E_drop (List.Sublist.cons_cons _ (List.Sublist.cons _ (List.Sublist.refl _))) ?_
        exact end3 rfl rfl rfl rfl ⟨(Hp.le_refl _), (.slice none 0 0), [], rfl, rfl, Rw.nil⟩
      · have hm := ite_f' hb112 hm
        refine C_skip ?_
        refine E_then ?_
        refine C_seq ?_
        refine C_region ?_
        refine W_assign rfl rfl rfl ?_
        refine W_end ?_
        refine E_then ?_
        refine C_seq ?_
        refine C_seq ?_
        refine C_region ?_
        refine W_move rfl rfl rfl ?_
        refine W_lenO (List.mem_cons_self ..) rfl rfl Proofs.Tryd.runUnderlying36 rfl ?_
        refine W_move rfl rfl rfl ?_
        refine W_end ?_
        refine E_then ?_
        refine C_block ?_
        refine C_rowMax (List.mem_cons_self ..) (fun hmx502 => ?_)
        refine C_nilRow 34 (Rep.sz S_api_InterlockRule) ?_
        refine C_keep (L' := [(6, (.slice none 0 0)), (25, v107), (26, .int .i64 ((r105.length : Int))), (27, .int .i64 (((0 : Nat) : Int)))]) ⟨rfl, rfl, rfl, rfl, trivial⟩ (List.Perm.refl _) ?_
        refine C_loop (fun n H' M' L' => ∃ (k113 : Nat) (zs504' : List ByteArray), ∃ l494 : List S_api_InterlockRule, ∃ v492 : Value, ∃ xs493 : List Value, (r105).drop k113 = zs504' ∧ zs504'.length = n ∧ forI (fun k y s498 n => m_interlock_Parse_b5 k y s498 n) (fun s498 => some (s498, 0, 0)) k113 zs504' l494 = some r ∧ Rw H' v492 xs493 l494 ∧ H.le H' ∧ .row v492 34 (Rep.sz S_api_InterlockRule) l494.length xs493 :: .row v107 9 (Rep.sz ByteArray) r105.length xs108 :: M = M' ∧ [(6, v492), (25, v107), (26, .int .i64 ((r105.length : Int))), (27, .int .i64 ((k113 : Int)))] = L') _ ⟨0, _, ([] : List S_api_InterlockRule), (.slice none 0 0), ([]), rfl, rfl, hm, Rw.nil, (Hp.le_refl _), rfl, rfl⟩ ?_
        rintro _ H496 _ _ ⟨k113, zs504', l494, v492, xs493, hd506, rfl, hm, hr495, hle497, rfl, rfl⟩
        refine C_seq ?_
        refine C_region ?_
        refine W_bin rfl rfl rfl rfl rfl ?_
        refine W_end (E_then ?_)
        refine C_seq ?_
        refine C_cond (b := decide ((k113 : Int) < (r105.length : Int))) rfl (fun hb508 => ?_) (fun hb508 => ?_)
        · obtain ⟨y503, zs504, rfl, hy505, hd507⟩ := rng_t hd506 hb508
          have hm : m_interlock_Parse_b5 k113 y503 l494 (forI (fun k y s498 n => m_interlock_Parse_b5 k y s498 n) (fun s498 => some (s498, 0, 0)) (k113 + 1) zs504) = some r := hm
          generalize hn500 : forI (fun k y s498 n => m_interlock_Parse_b5 k y s498 n) (fun s498 => some (s498, 0, 0)) (k113 + 1) zs504 = nx499 at hm
          unfold m_interlock_Parse_b5 at hm
          refine C_skip (E_then ?_)
          refine C_seq ?_
          refine C_block ?_
          refine C_seq ?_
          refine C_region ?_
          refine W_move rfl rfl rfl ?_
          refine W_indexO (List.mem_cons_of_mem _ (List.mem_cons_self ..)) rfl rfl Proofs.Tryd.runUnderlying36 Proofs.Tryd.sizeOf9 rfl rfl (Int.natCast_nonneg _) (List.getElem?_eq_some_iff.1 hy505).1 ?_
          obtain ⟨_, rfl, hg509⟩ := (h109).elem hy505
          refine W_load rfl rfl Proofs.Tryd.isAgg9 rfl (row_one0 (List.mem_cons_of_mem _ (List.mem_cons_self ..)) hg509 rfl) ?_
          refine W_assign rfl rfl rfl ?_
          refine W_assign rfl rfl rfl ?_
          refine W_end ?_
          refine E_then ?_
          refine C_seq ?_
          refine C_region ?_
          refine W_move rfl rfl rfl ?_
          obtain ⟨r510, hc511, hm⟩ := bind_some hm
          refine W_call Proofs.Tryd.call10 rfl rfl rfl (fun w ht => by have h := m_strings_Split_c (hm := hc511)  ht; exact h) ?_
          rintro _ _ _ ⟨rfl, v512, xs513, rfl, rfl, h514⟩
          have h514 := h514 H496
          refine W_build (css := [[v512]]) (zs := [.slice none 0 0, .slice none 0 0, .bool (false)]) (out := [v512, .slice none 0 0, .bool (false)]) (places := [(0, 1), (1, 1), (2, 1)]) rfl rfl rfl ⟨(Rw.cells h514), trivial⟩ Proofs.Tryd.zeroValue42 rfl Proofs.Tryd.runUnderlying42 (fun w => by kernel_rfl) rfl ?_
          refine W_box (cs := [v512, .slice none 0 0, .bool (false)]) rfl rfl rfl rfl (fun b515 => ?_)
          refine W_assign rfl rfl rfl ?_
          refine W_end ?_
          refine E_then ?_
          refine C_seq ?_
          refine C_region ?_
          refine W_move rfl rfl rfl ?_
          refine W_nilRow 49 (Rep.sz S_api_InterlockNode) ?_
          refine W_perm (List.Perm.trans (List.Perm.cons _ (List.Perm.swap _ _ _)) (List.Perm.swap _ _ _)) ?_
          refine W_freeze (h514).rd rfl (fun H516 hle517 h518 => ?_)
          refine W_perm (List.Perm.swap _ _ _) ?_
          obtain ⟨r519, hc520, hm⟩ := bind_some hm
          refine W_call Proofs.Tryd.call13 rfl rfl rfl (fun w ht => by have h := m_interlock_parser_take_c (hm := hc520) h518 Rw.nil ht; exact h) ?_
          rintro _ H527 _ ⟨hle528, v522, v524, xs525, rfl, rfl, h523, h526⟩
          refine W_build (css := [[.bool (r519.1)]]) (zs := [.bool (false), .string (⟨#[]⟩), .slice none 0 0]) (out := [.bool (r519.1), .string (⟨#[]⟩), .slice none 0 0]) (places := [(0, 1), (1, 1), (2, 1)]) rfl rfl rfl ⟨rfl, trivial⟩ Proofs.Tryd.zeroValue34 rfl Proofs.Tryd.runUnderlying34 (fun w => by kernel_rfl) rfl ?_
          refine W_alloc (cs := [.bool (false), .string (⟨#[]⟩), .slice none 0 0]) rfl rfl Proofs.Tryd.zeroValue34 rfl (fun b529 => ?_)
          refine W_store (cs := [.bool (r519.1), .string (⟨#[]⟩), .slice none 0 0]) (out := [.bool (r519.1), .string (⟨#[]⟩), .slice none 0 0]) rfl Proofs.Tryd.sizeOf34 rfl rfl rfl rfl rfl (all_cons rfl (all_cons rfl (all_cons rfl all_nil))) (over_all rfl) ?_
          refine W_end ?_
          refine E_then ?_
          refine C_seq ?_
          refine C_seq ?_
          refine C_region ?_
          refine W_field (o := 0) rfl rfl Proofs.Tryd.runUnderlying34 rfl Proofs.Tryd.sizeOf4 rfl rfl rfl ?_
          refine W_load rfl rfl Proofs.Tryd.isAgg4 rfl (own_at (List.mem_cons_self ..) rfl) ?_
          refine W_un rfl rfl rfl rfl ?_
          refine W_move rfl rfl rfl ?_
          cases hb530 : (r519.1)
          · have hm := ite_f' hb530 hm
            refine W_move rfl rfl rfl ?_
            refine W_perm (List.Perm.trans (List.Perm.swap _ _ _) (List.Perm.cons _ (List.Perm.swap _ _ _))) ?_
            obtain ⟨r531, hc532, hm⟩ := bind_some hm
            refine W_call Proofs.Tryd.call13 rfl rfl rfl (fun w ht => by have h := m_interlock_parser_take_c (hm := hc532) h523 h526 ht; exact h) ?_
            rintro _ H539 _ ⟨hle540, v534, v536, xs537, rfl, rfl, h535, h538⟩
            refine W_un rfl rfl rfl rfl ?_
            refine W_pick rfl rfl rfl rfl ?_
            refine W_end ?_
            refine E_then ?_
            refine C_cond (b := !r531.1) rfl (fun hb541 => ?_) (fun hb541 => ?_)
            · have hm := ite_t' hb541 hm
              refine C_seq ?_
              refine C_region ?_
              refine W_move rfl rfl rfl ?_
              refine W_assign rfl rfl rfl ?_
              refine W_assign rfl rfl rfl ?_
              refine W_assign rfl rfl rfl ?_
              refine W_end ?_
              refine E_then ?_
              refine C_ret ?_
              refine E_ret_then ?_
              refine E_ret_block ?_
              refine E_ret_then ?_
              refine E_ret_then ?_
              refine E_ret_block ?_
              refine E_ret_then ?_
              refine E_nilRow 34 (Rep.sz S_api_InterlockRule) ?_
              obtain rfl := Option.some.inj hm
              refine E_drop (List.Sublist.cons_cons _ (List.Sublist.cons _ (List.Sublist.cons _ (List.Sublist.cons _ (List.Sublist.cons _ (List.Sublist.cons _ (List.Sublist.refl _))))))) ?_
              exact end3 rfl rfl rfl rfl ⟨(Hp.le_trans (Hp.le_trans (Hp.le_trans hle497 hle517) hle528) hle540), (.slice none 0 0), [], rfl, rfl, Rw.nil⟩
            · have hm := ite_f' hb541 hm
              refine C_skip ?_
              refine E_then ?_
              refine C_seq ?_
              refine C_region ?_
              refine W_move rfl rfl rfl ?_
              obtain ⟨r542, hc543, hm⟩ := bind_some hm
              refine W_call Proofs.Tryd.call14 rfl rfl rfl (fun w ht => by have h := m_interlock_parser_name_c (hm := hc543) h535 h538 ht; exact h) ?_
              rintro _ H550 _ ⟨hle551, v545, v547, xs548, rfl, rfl, h546, h549⟩
              refine W_field (o := 1) rfl rfl Proofs.Tryd.runUnderlying34 rfl Proofs.Tryd.sizeOf9 rfl rfl rfl ?_
              refine W_perm (List.Perm.trans (List.Perm.cons _ (List.Perm.swap _ _ _)) (List.Perm.swap _ _ _)) ?_
              refine W_store (cs := [.string (r542.1)]) (out := [.bool (false), .string (r542.1), .slice none 0 0]) rfl Proofs.Tryd.sizeOf9 rfl rfl rfl rfl rfl (all_cons rfl all_nil) rfl ?_
              refine W_end ?_
              refine E_then ?_
              refine C_seq_join (fun H' M' L' => ∃ l564 : (List ByteArray), ∃ l568 : List S_api_InterlockNode, ∃ c570 : Bool, ∃ v563 : Value, ∃ v566 : Value, ∃ xs567 : List Value, m_interlock_Parse_b6 l494 nx499 k113 r542 l564 l568 c570 = some r ∧ RdS H' v563 l564 ∧ Rw H' v566 xs567 l568 ∧ H550.le H' ∧ .row v566 49 (Rep.sz S_api_InterlockNode) l568.length xs567 :: .obj b529 (.cells [.bool (false), .string (r542.1), .slice none 0 0].toArray 34 (0, 0)) :: .obj b515 (.cells [v563, v566, .bool (c570)].toArray 42 (0, 0)) :: .row v492 34 (Rep.sz S_api_InterlockRule) l494.length xs493 :: .row v107 9 (Rep.sz ByteArray) r105.length xs108 :: M = M' ∧ [(6, v492), (7, .int .i64 ((k113 : Int))), (9, .pointer (some ⟨b515, 0, none⟩)), (10, .pointer (some ⟨b529, 0, none⟩)), (25, v107), (26, .int .i64 ((r105.length : Int))), (27, .int .i64 ((k113 : Int)))] = L') ?_ (fun J573 => ?_)
              · rintro H571 _ _ ⟨l564, l568, c570, v563, v566, xs567, hm, h565, hr569, hle572, rfl, rfl⟩
                unfold m_interlock_Parse_b6 at hm
                refine C_seq ?_
                refine C_region ?_
                refine W_move rfl rfl rfl ?_
                refine W_perm (List.Perm.trans (List.Perm.cons _ (List.Perm.swap _ _ _)) (List.Perm.swap _ _ _)) ?_
                obtain ⟨r574, hc575, hm⟩ := bind_some hm
                refine W_call Proofs.Tryd.call15 rfl rfl rfl (fun w ht => by have h := m_interlock_parser_or_c (self := m_interlock_parser_factor) m_interlock_parser_factor_c (hm := hc575) h565 hr569 ht; exact h) ?_
                rintro _ H582 _ ⟨hle583, v577, v579, xs580, rfl, rfl, h578, h581⟩
                refine W_end ?_
                refine E_then ?_
                refine C_seq ?_
                refine C_seq ?_
                refine C_region ?_
                refine W_move rfl rfl rfl ?_
                refine W_nilCheck rfl rfl rfl ?_
                refine W_field (o := 1) rfl rfl Proofs.Tryd.runUnderlying42 rfl Proofs.Tryd.sizeOf32 rfl rfl rfl ?_
                refine W_load rfl rfl Proofs.Tryd.isAgg32 rfl (own_at (List.mem_cons_self ..) rfl) ?_
                refine W_field (o := 2) rfl rfl Proofs.Tryd.runUnderlying34 rfl Proofs.Tryd.sizeOf32 rfl rfl rfl ?_
                refine W_perm (List.Perm.trans (List.Perm.cons _ (List.Perm.swap _ _ _)) (List.Perm.swap _ _ _)) ?_
                refine W_store (cs := [v579]) (out := [.bool (false), .string (r542.1), v579]) rfl Proofs.Tryd.sizeOf32 rfl rfl (Rw.cells h581) rfl rfl (all_cons (Rw.one h581) all_nil) rfl ?_
                refine W_end ?_
                refine E_then ?_
                refine C_block ?_
                refine C_seq_join (fun H' M' L' => H582 = H' ∧ .obj b529 (.cells [.bool (false), .string (r542.1), v579].toArray 34 (0, 0)) :: .row v579 49 (Rep.sz S_api_InterlockNode) r574.2.nodes.length xs580 :: .row v492 34 (Rep.sz S_api_InterlockRule) l494.length xs493 :: .row v107 9 (Rep.sz ByteArray) r105.length xs108 :: M = M' ∧ [(6, v492), (7, .int .i64 ((k113 : Int))), (10, .pointer (some ⟨b529, 0, none⟩)), (25, v107), (26, .int .i64 ((r105.length : Int))), (27, .int .i64 ((k113 : Int))), (64, .bool (r574.2.bad || (decide (0 < (r574.2.words.length : Int)))))] = L') ?_ (fun J585 => ?_)
                · rintro _ _ _ ⟨rfl, rfl, rfl⟩
                  refine C_cond (b := r574.2.bad || (decide (0 < (r574.2.words.length : Int)))) rfl (fun hb586 => ?_) (fun hb586 => ?_)
                  · have hm := ite_t' hb586 hm
                    refine C_seq ?_
                    refine C_region ?_
                    refine W_move rfl rfl rfl ?_
                    refine W_assign rfl rfl rfl ?_
                    refine W_assign rfl rfl rfl ?_
                    refine W_assign rfl rfl rfl ?_
                    refine W_end ?_
                    refine E_then ?_
                    refine C_ret ?_
                    refine E_ret_block ?_
                    refine E_ret_then ?_
                    refine E_ret_block ?_
                    refine E_ret_then ?_
                    refine E_ret_then ?_
                    refine E_ret_block ?_
                    refine E_ret_then ?_
                    refine E_nilRow 34 (Rep.sz S_api_InterlockRule) ?_
                    obtain rfl := Option.some.inj hm
                    refine E_drop (List.Sublist.cons_cons _ (List.Sublist.cons _ (List.Sublist.cons _ (List.Sublist.cons _ (List.Sublist.cons _ (List.Sublist.refl _)))))) ?_
                    exact end3 rfl rfl rfl rfl ⟨(Hp.le_trans (Hp.le_trans (Hp.le_trans (Hp.le_trans (Hp.le_trans (Hp.le_trans hle497 hle517) hle528) hle540) hle551) hle572) hle583), (.slice none 0 0), [], rfl, rfl, Rw.nil⟩
                  · have hm := ite_f' hb586 hm
                    refine C_seq_join (fun H' M' L' => H582 = H' ∧ .obj b529 (.cells [.bool (false), .string (r542.1), v579].toArray 34 (0, 0)) :: .row v579 49 (Rep.sz S_api_InterlockNode) r574.2.nodes.length xs580 :: .row v492 34 (Rep.sz S_api_InterlockRule) l494.length xs493 :: .row v107 9 (Rep.sz ByteArray) r105.length xs108 :: M = M' ∧ [(6, v492), (7, .int .i64 ((k113 : Int))), (10, .pointer (some ⟨b529, 0, none⟩)), (25, v107), (26, .int .i64 ((r105.length : Int))), (27, .int .i64 ((k113 : Int))), (78, .bool ((decide (40 < (r574.2.nodes.length : Int))) || (decide (24 ≤ (k113 : Int)))))] = L') ?_ (fun J588 => ?_)
                    · rintro _ _ _ ⟨rfl, rfl, rfl⟩
                      refine C_cond (b := (decide (40 < (r574.2.nodes.length : Int))) || (decide (24 ≤ (k113 : Int)))) rfl (fun hb589 => ?_) (fun hb589 => ?_)
                      · have hm := ite_t' hb589 hm
                        refine C_seq ?_
                        refine C_region ?_
                        refine W_move rfl rfl rfl ?_
                        refine W_assign rfl rfl rfl ?_
                        refine W_assign rfl rfl rfl ?_
                        refine W_assign rfl rfl rfl ?_
                        refine W_end ?_
                        refine E_then ?_
                        refine C_ret ?_
                        refine E_ret_block ?_
                        refine E_ret_then ?_
                        refine E_ret_block ?_
                        refine E_ret_then ?_
                        refine E_ret_then ?_
                        refine E_ret_block ?_
                        refine E_ret_then ?_
                        refine E_nilRow 34 (Rep.sz S_api_InterlockRule) ?_
                        obtain rfl := Option.some.inj hm
                        refine E_drop (List.Sublist.cons_cons _ (List.Sublist.cons _ (List.Sublist.cons _ (List.Sublist.cons _ (List.Sublist.cons _ (List.Sublist.refl _)))))) ?_
                        exact end3 rfl rfl rfl rfl ⟨(Hp.le_trans (Hp.le_trans (Hp.le_trans (Hp.le_trans (Hp.le_trans (Hp.le_trans hle497 hle517) hle528) hle540) hle551) hle572) hle583), (.slice none 0 0), [], rfl, rfl, Rw.nil⟩
                      · have hm := ite_f' hb589 hm
                        refine C_skip ?_
                        refine E_normal_block ?_
                        refine E_then ?_
                        refine C_region ?_
                        refine W_move rfl rfl rfl ?_
                        refine W_loadAgg rfl rfl Proofs.Tryd.isAgg34 Proofs.Tryd.sizeOf34 rfl (own_all (List.mem_cons_self ..)) rfl ?_
                        refine W_perm (List.Perm.swap _ _ _) ?_
                        refine W_freeze (h581).rd rfl (fun H590 hle591 h592 => ?_)
                        refine W_buildSlice (α := S_api_InterlockRule) (css := [[.bool (false), .string (r542.1), v579]]) (zs := [.bool (false), .string (⟨#[]⟩), .slice none 0 0]) (out := [.bool (false), .string (r542.1), v579]) (ys := [(S_api_InterlockRule.mk false r542.1 r574.2.nodes)]) rfl rfl rfl ⟨rfl, trivial⟩ Proofs.Tryd.runUnderlying22 Proofs.Tryd.sizeOf34 rfl Proofs.Tryd.zeroValue34 (by kernel_rfl) rfl rfl rfl rfl ⟨[.bool (false), .string (r542.1), v579], [], rfl, ⟨v579, rfl, h592⟩, rfl⟩ rfl ?_
                        intro b593 v594 H595 hv596 hle597 h598
                        have hc599 : Value.cap' v594 = ([(S_api_InterlockRule.mk false r542.1 r574.2.nodes)]).length := by rw [hv596]; rfl
                        obtain ⟨hz600, hm⟩ := need_some hm
                        refine W_perm (List.Perm.swap _ _ _) ?_
                        refine W_appendO (α := S_api_InterlockRule) (l := l494) (ys := [(S_api_InterlockRule.mk false r542.1 r574.2.nodes)]) rfl rfl Proofs.Tryd.underlying22 ⟨_, rfl, rfl, rfl, rfl⟩ rfl rfl rfl rfl rfl ((((((((hr495.mono hle517).mono hle528).mono hle540).mono hle551).mono hle572).mono hle583).mono hle591).mono hle597) h598 hz600 ?_
                        intro v601 xs602 hr603
                        refine W_assign rfl rfl rfl ?_
                        refine W_end ?_
                        refine E_normal_block ?_
                        refine E_then ?_
                        refine C_region ?_
                        refine W_bin rfl rfl rfl rfl rfl ?_
                        refine W_move rfl rfl rfl ?_
                        refine W_end ?_
                        refine E_drop (List.Sublist.cons_cons _ (List.Sublist.cons _ (List.Sublist.refl _))) ?_
                        exact E_keepJ (E_back (Nat.lt_succ_self _) ⟨k113 + 1, zs504, (l494 ++ ([(S_api_InterlockRule.mk false r542.1 r574.2.nodes)])), v601, xs602, hd507, rfl, (by rw [hn500]; exact hm), hr603, (Hp.le_trans (Hp.le_trans (Hp.le_trans (Hp.le_trans (Hp.le_trans (Hp.le_trans (Hp.le_trans (Hp.le_trans hle497 hle517) hle528) hle540) hle551) hle572) hle583) hle591) hle597), rfl, rfl⟩) (List.Perm.refl _) ⟨rfl, rfl, rfl, (congrArg (fun z => some (Value.int .i64 z)) (i64_succ hy505 hmx502)), trivial⟩
                    · refine C_region ?_
                      refine W_field (o := 2) rfl rfl Proofs.Tryd.runUnderlying34 rfl Proofs.Tryd.sizeOf32 rfl rfl rfl ?_
                      refine W_load rfl rfl Proofs.Tryd.isAgg32 rfl (own_at (List.mem_cons_self ..) rfl) ?_
                      refine W_lenO (List.mem_cons_of_mem _ (List.mem_cons_self ..)) rfl rfl Proofs.Tryd.runUnderlying32 rfl ?_
                      refine W_bin rfl rfl rfl rfl rfl ?_
                      refine W_move rfl rfl rfl ?_
                      cases hb604 : (decide (40 < (r574.2.nodes.length : Int)))
                      · refine W_move rfl rfl rfl ?_
                        refine W_bin rfl rfl rfl rfl rfl ?_
                        refine W_pick rfl rfl rfl rfl ?_
                        refine W_assign rfl rfl rfl ?_
                        refine W_end ?_
                        exact E_keepJ (J588 _ _ _ ⟨rfl, rfl, rfl⟩) (List.Perm.refl _) ⟨rfl, rfl, rfl, rfl, rfl, rfl, (by show some (Value.bool (decide (24 ≤ (k113 : Int)))) = some (Value.bool ((decide (40 < (r574.2.nodes.length : Int))) || (decide (24 ≤ (k113 : Int))))); simp only [hb101, hb102, hb112, hb530, hb541, hb586, hb604, Bool.and_true, Bool.true_and, Bool.false_and, Bool.and_false, Bool.or_true, Bool.true_or, Bool.or_false, Bool.false_or, Bool.not_true, Bool.not_false]), trivial⟩
                      · refine W_no rfl rfl rfl ?_
                        refine W_no rfl rfl rfl ?_
                        refine W_pick rfl rfl rfl rfl ?_
                        refine W_assign rfl rfl rfl ?_
                        refine W_end ?_
                        exact E_keepJ (J588 _ _ _ ⟨rfl, rfl, rfl⟩) (List.Perm.refl _) ⟨rfl, rfl, rfl, rfl, rfl, rfl, (by show some (Value.bool (true)) = some (Value.bool ((decide (40 < (r574.2.nodes.length : Int))) || (decide (24 ≤ (k113 : Int))))); simp only [hb101, hb102, hb112, hb530, hb541, hb586, hb604, Bool.and_true, Bool.true_and, Bool.false_and, Bool.and_false, Bool.or_true, Bool.true_or, Bool.or_false, Bool.false_or, Bool.not_true, Bool.not_false]), trivial⟩
                · refine C_region ?_
                  refine W_move rfl rfl rfl ?_
                  refine W_nilCheck rfl rfl rfl ?_
                  refine W_field (o := 2) rfl rfl Proofs.Tryd.runUnderlying42 rfl Proofs.Tryd.sizeOf4 rfl rfl rfl ?_
                  refine W_load rfl rfl Proofs.Tryd.isAgg4 rfl (own_at (List.mem_cons_of_mem _ (List.mem_cons_self ..)) rfl) ?_
                  refine W_move rfl rfl rfl ?_
                  cases hb605 : (r574.2.bad)
                  · refine W_move rfl rfl rfl ?_
                    refine W_nilCheck rfl rfl rfl ?_
                    refine W_field (o := 0) rfl rfl Proofs.Tryd.runUnderlying42 rfl Proofs.Tryd.sizeOf36 rfl rfl rfl ?_
                    refine W_load rfl rfl Proofs.Tryd.isAgg36 rfl (own_at (List.mem_cons_of_mem _ (List.mem_cons_self ..)) rfl) ?_
                    refine W_lenR rfl rfl Proofs.Tryd.runUnderlying36 rfl h578 ?_
                    refine W_bin rfl rfl rfl rfl rfl ?_
                    refine W_pick rfl rfl rfl rfl ?_
                    refine W_assign rfl rfl rfl ?_
                    refine W_end ?_
                    refine E_drop (List.Sublist.cons_cons _ (List.Sublist.cons _ (List.Sublist.refl _))) ?_
                    exact E_keepJ (J585 _ _ _ ⟨rfl, rfl, rfl⟩) (List.Perm.refl _) ⟨rfl, rfl, rfl, rfl, rfl, rfl, (by show some (Value.bool (decide (0 < (r574.2.words.length : Int)))) = some (Value.bool (r574.2.bad || (decide (0 < (r574.2.words.length : Int))))); simp only [hb101, hb102, hb112, hb530, hb541, hb605, Bool.and_true, Bool.true_and, Bool.false_and, Bool.and_false, Bool.or_true, Bool.true_or, Bool.or_false, Bool.false_or, Bool.not_true, Bool.not_false]), trivial⟩
                  · refine W_no rfl rfl rfl ?_
                    refine W_no rfl rfl rfl ?_
                    refine W_no rfl rfl rfl ?_
                    refine W_no rfl rfl rfl ?_
                    refine W_no rfl rfl rfl ?_
                    refine W_no rfl rfl rfl ?_
                    refine W_pick rfl rfl rfl rfl ?_
                    refine W_assign rfl rfl rfl ?_
                    refine W_end ?_
                    refine E_drop (List.Sublist.cons_cons _ (List.Sublist.cons _ (List.Sublist.refl _))) ?_
                    exact E_keepJ (J585 _ _ _ ⟨rfl, rfl, rfl⟩) (List.Perm.refl _) ⟨rfl, rfl, rfl, rfl, rfl, rfl, (by show some (Value.bool (true)) = some (Value.bool (r574.2.bad || (decide (0 < (r574.2.words.length : Int))))); simp only [hb101, hb102, hb112, hb530, hb541, hb605, Bool.and_true, Bool.true_and, Bool.false_and, Bool.and_false, Bool.or_true, Bool.true_or, Bool.or_false, Bool.false_or, Bool.not_true, Bool.not_false]), trivial⟩
              · refine C_seq ?_
                refine C_region ?_
                refine W_move rfl rfl rfl ?_
                refine W_perm (List.Perm.trans (List.Perm.swap _ _ _) (List.Perm.cons _ (List.Perm.swap _ _ _))) ?_
                obtain ⟨r606, hc607, hm⟩ := bind_some hm
                refine W_call Proofs.Tryd.call13 rfl rfl rfl (fun w ht => by have h := m_interlock_parser_take_c (hm := hc607) h546 h549 ht; exact h) ?_
                rintro _ H614 _ ⟨hle615, v609, v611, xs612, rfl, rfl, h610, h613⟩
                refine W_un rfl rfl rfl rfl ?_
                refine W_end ?_
                refine E_then ?_
                refine C_cond (b := !r606.1) rfl (fun hb616 => ?_) (fun hb616 => ?_)
                · have hm := ite_t' hb616 hm
                  refine C_region ?_
                  refine W_move rfl rfl rfl ?_
                  refine W_nilCheck rfl rfl rfl ?_
                  refine W_field (o := 2) rfl rfl Proofs.Tryd.runUnderlying42 rfl Proofs.Tryd.sizeOf4 rfl rfl rfl ?_
                  refine W_store (cs := [.bool (true)]) (out := [v609, v611, .bool (true)]) rfl Proofs.Tryd.sizeOf4 rfl rfl rfl rfl rfl (all_cons rfl all_nil) rfl ?_
                  refine W_end ?_
                  exact E_keepJ (J573 _ _ _ ⟨r606.2.words, r606.2.nodes, true, v609, v611, xs612, hm, h610, h613, hle615, rfl, rfl⟩) (List.Perm.trans (List.Perm.swap _ _ _) (List.Perm.cons _ (List.Perm.swap _ _ _))) ⟨rfl, rfl, rfl, rfl, rfl, rfl, rfl, trivial⟩
                · have hm := ite_f' hb616 hm
                  refine C_skip ?_
                  exact E_keepJ (J573 _ _ _ ⟨r606.2.words, r606.2.nodes, r606.2.bad, v609, v611, xs612, hm, h610, h613, hle615, rfl, rfl⟩) (List.Perm.trans (List.Perm.swap _ _ _) (List.Perm.cons _ (List.Perm.swap _ _ _))) ⟨rfl, rfl, rfl, rfl, rfl, rfl, rfl, trivial⟩
          · have hm := ite_t' hb530 hm
            refine W_no rfl rfl rfl ?_
            refine W_no rfl rfl rfl ?_
            refine W_no rfl rfl rfl ?_
            refine W_pick rfl rfl rfl rfl ?_
            refine W_end ?_
            refine E_then ?_
            refine C_cond (b := false) rfl (fun hb => Bool.noConfusion hb) (fun _ => ?_)
            refine C_skip ?_
            refine E_then ?_
            refine C_seq ?_
            refine C_region ?_
            refine W_move rfl rfl rfl ?_
            refine W_perm (List.Perm.trans (List.Perm.swap _ _ _) (List.Perm.cons _ (List.Perm.swap _ _ _))) ?_
            obtain ⟨r617, hc618, hm⟩ := bind_some hm
            refine W_call Proofs.Tryd.call14 rfl rfl rfl (fun w ht => by have h := m_interlock_parser_name_c (hm := hc618) h523 h526 ht; exact h) ?_
            rintro _ H625 _ ⟨hle626, v620, v622, xs623, rfl, rfl, h621, h624⟩
            refine W_field (o := 1) rfl rfl Proofs.Tryd.runUnderlying34 rfl Proofs.Tryd.sizeOf9 rfl rfl rfl ?_
            refine W_perm (List.Perm.trans (List.Perm.cons _ (List.Perm.swap _ _ _)) (List.Perm.swap _ _ _)) ?_
            refine W_store (cs := [.string (r617.1)]) (out := [.bool (true), .string (r617.1), .slice none 0 0]) rfl Proofs.Tryd.sizeOf9 rfl rfl rfl rfl rfl (all_cons rfl all_nil) rfl ?_
            refine W_end ?_
            refine E_then ?_
            refine C_seq_join (fun H' M' L' => ∃ l639 : (List ByteArray), ∃ l643 : List S_api_InterlockNode, ∃ c645 : Bool, ∃ v638 : Value, ∃ v641 : Value, ∃ xs642 : List Value, m_interlock_Parse_b7 l494 nx499 k113 r617 l639 l643 c645 = some r ∧ RdS H' v638 l639 ∧ Rw H' v641 xs642 l643 ∧ H625.le H' ∧ .row v641 49 (Rep.sz S_api_InterlockNode) l643.length xs642 :: .obj b529 (.cells [.bool (true), .string (r617.1), .slice none 0 0].toArray 34 (0, 0)) :: .obj b515 (.cells [v638, v641, .bool (c645)].toArray 42 (0, 0)) :: .row v492 34 (Rep.sz S_api_InterlockRule) l494.length xs493 :: .row v107 9 (Rep.sz ByteArray) r105.length xs108 :: M = M' ∧ [(6, v492), (7, .int .i64 ((k113 : Int))), (9, .pointer (some ⟨b515, 0, none⟩)), (10, .pointer (some ⟨b529, 0, none⟩)), (25, v107), (26, .int .i64 ((r105.length : Int))), (27, .int .i64 ((k113 : Int)))] = L') ?_ (fun J648 => ?_)
            · rintro H646 _ _ ⟨l639, l643, c645, v638, v641, xs642, hm, h640, hr644, hle647, rfl, rfl⟩
              unfold m_interlock_Parse_b7 at hm
              refine C_seq ?_
              refine C_region ?_
              refine W_move rfl rfl rfl ?_
              refine W_perm (List.Perm.trans (List.Perm.cons _ (List.Perm.swap _ _ _)) (List.Perm.swap _ _ _)) ?_
              obtain ⟨r649, hc650, hm⟩ := bind_some hm
              refine W_call Proofs.Tryd.call15 rfl rfl rfl (fun w ht => by have h := m_interlock_parser_or_c (self := m_interlock_parser_factor) m_interlock_parser_factor_c (hm := hc650) h640 hr644 ht; exact h) ?_
              rintro _ H657 _ ⟨hle658, v652, v654, xs655, rfl, rfl, h653, h656⟩
              refine W_end ?_
              refine E_then ?_
              refine C_seq ?_
              refine C_seq ?_
              refine C_region ?_
              refine W_move rfl rfl rfl ?_
              refine W_nilCheck rfl rfl rfl ?_
              refine W_field (o := 1) rfl rfl Proofs.Tryd.runUnderlying42 rfl Proofs.Tryd.sizeOf32 rfl rfl rfl ?_
              refine W_load rfl rfl Proofs.Tryd.isAgg32 rfl (own_at (List.mem_cons_self ..) rfl) ?_
              refine W_field (o := 2) rfl rfl Proofs.Tryd.runUnderlying34 rfl Proofs.Tryd.sizeOf32 rfl rfl rfl ?_
              refine W_perm (List.Perm.trans (List.Perm.cons _ (List.Perm.swap _ _ _)) (List.Perm.swap _ _ _)) ?_
              refine W_store (cs := [v654]) (out := [.bool (true), .string (r617.1), v654]) rfl Proofs.Tryd.sizeOf32 rfl rfl (Rw.cells h656) rfl rfl (all_cons (Rw.one h656) all_nil) rfl ?_
              refine W_end ?_
              refine E_then ?_
              refine C_block ?_
              refine C_seq_join (fun H' M' L' => H657 = H' ∧ .obj b529 (.cells [.bool (true), .string (r617.1), v654].toArray 34 (0, 0)) :: .row v654 49 (Rep.sz S_api_InterlockNode) r649.2.nodes.length xs655 :: .row v492 34 (Rep.sz S_api_InterlockRule) l494.length xs493 :: .row v107 9 (Rep.sz ByteArray) r105.length xs108 :: M = M' ∧ [(6, v492), (7, .int .i64 ((k113 : Int))), (10, .pointer (some ⟨b529, 0, none⟩)), (25, v107), (26, .int .i64 ((r105.length : Int))), (27, .int .i64 ((k113 : Int))), (64, .bool (r649.2.bad || (decide (0 < (r649.2.words.length : Int)))))] = L') ?_ (fun J660 => ?_)
              · rintro _ _ _ ⟨rfl, rfl, rfl⟩
                refine C_cond (b := r649.2.bad || (decide (0 < (r649.2.words.length : Int)))) rfl (fun hb661 => ?_) (fun hb661 => ?_)
                · have hm := ite_t' hb661 hm
                  refine C_seq ?_
                  refine C_region ?_
                  refine W_move rfl rfl rfl ?_
                  refine W_assign rfl rfl rfl ?_
                  refine W_assign rfl rfl rfl ?_
                  refine W_assign rfl rfl rfl ?_
                  refine W_end ?_
                  refine E_then ?_
                  refine C_ret ?_
                  refine E_ret_block ?_
                  refine E_ret_then ?_
                  refine E_ret_block ?_
                  refine E_ret_then ?_
                  refine E_ret_then ?_
                  refine E_ret_block ?_
                  refine E_ret_then ?_
                  refine E_nilRow 34 (Rep.sz S_api_InterlockRule) ?_
                  obtain rfl := Option.some.inj hm
                  refine E_drop (List.Sublist.cons_cons _ (List.Sublist.cons _ (List.Sublist.cons _ (List.Sublist.cons _ (List.Sublist.cons _ (List.Sublist.refl _)))))) ?_
                  exact end3 rfl rfl rfl rfl ⟨(Hp.le_trans (Hp.le_trans (Hp.le_trans (Hp.le_trans (Hp.le_trans hle497 hle517) hle528) hle626) hle647) hle658), (.slice none 0 0), [], rfl, rfl, Rw.nil⟩
                · have hm := ite_f' hb661 hm
                  refine C_seq_join (fun H' M' L' => H657 = H' ∧ .obj b529 (.cells [.bool (true), .string (r617.1), v654].toArray 34 (0, 0)) :: .row v654 49 (Rep.sz S_api_InterlockNode) r649.2.nodes.length xs655 :: .row v492 34 (Rep.sz S_api_InterlockRule) l494.length xs493 :: .row v107 9 (Rep.sz ByteArray) r105.length xs108 :: M = M' ∧ [(6, v492), (7, .int .i64 ((k113 : Int))), (10, .pointer (some ⟨b529, 0, none⟩)), (25, v107), (26, .int .i64 ((r105.length : Int))), (27, .int .i64 ((k113 : Int))), (78, .bool ((decide (40 < (r649.2.nodes.length : Int))) || (decide (24 ≤ (k113 : Int)))))] = L') ?_ (fun J663 => ?_)
                  · rintro _ _ _ ⟨rfl, rfl, rfl⟩
                    refine C_cond (b := (decide (40 < (r649.2.nodes.length : Int))) || (decide (24 ≤ (k113 : Int)))) rfl (fun hb664 => ?_) (fun hb664 => ?_)
                    · have hm := ite_t' hb664 hm
                      refine C_seq ?_
                      refine C_region ?_
                      refine W_move rfl rfl rfl ?_
                      refine W_assign rfl rfl rfl ?_
                      refine W_assign rfl rfl rfl ?_
                      refine W_assign rfl rfl rfl ?_
                      refine W_end ?_
                      refine E_then ?_
                      refine C_ret ?_
                      refine E_ret_block ?_
                      refine E_ret_then ?_
                      refine E_ret_block ?_
                      refine E_ret_then ?_
                      refine E_ret_then ?_
                      refine E_ret_block ?_
                      refine E_ret_then ?_
                      refine E_nilRow 34 (Rep.sz S_api_InterlockRule) ?_
                      obtain rfl := Option.some.inj hm
                      refine E_drop (List.Sublist.cons_cons _ (List.Sublist.cons _ (List.Sublist.cons _ (List.Sublist.cons _ (List.Sublist.cons _ (List.Sublist.refl _)))))) ?_
                      exact end3 rfl rfl rfl rfl ⟨(Hp.le_trans (Hp.le_trans (Hp.le_trans (Hp.le_trans (Hp.le_trans hle497 hle517) hle528) hle626) hle647) hle658), (.slice none 0 0), [], rfl, rfl, Rw.nil⟩
                    · have hm := ite_f' hb664 hm
                      refine C_skip ?_
                      refine E_normal_block ?_
                      refine E_then ?_
                      refine C_region ?_
                      refine W_move rfl rfl rfl ?_
                      refine W_loadAgg rfl rfl Proofs.Tryd.isAgg34 Proofs.Tryd.sizeOf34 rfl (own_all (List.mem_cons_self ..)) rfl ?_
                      refine W_perm (List.Perm.swap _ _ _) ?_
                      refine W_freeze (h656).rd rfl (fun H665 hle666 h667 => ?_)
                      refine W_buildSlice (α := S_api_InterlockRule) (css := [[.bool (true), .string (r617.1), v654]]) (zs := [.bool (false), .string (⟨#[]⟩), .slice none 0 0]) (out := [.bool (true), .string (r617.1), v654]) (ys := [(S_api_InterlockRule.mk true r617.1 r649.2.nodes)]) rfl rfl rfl ⟨rfl, trivial⟩ Proofs.Tryd.runUnderlying22 Proofs.Tryd.sizeOf34 rfl Proofs.Tryd.zeroValue34 (by kernel_rfl) rfl rfl rfl rfl ⟨[.bool (true), .string (r617.1), v654], [], rfl, ⟨v654, rfl, h667⟩, rfl⟩ rfl ?_
                      intro b668 v669 H670 hv671 hle672 h673
                      have hc674 : Value.cap' v669 = ([(S_api_InterlockRule.mk true r617.1 r649.2.nodes)]).length := by rw [hv671]; rfl
                      obtain ⟨hz675, hm⟩ := need_some hm
                      refine W_perm (List.Perm.swap _ _ _) ?_
                      refine W_appendO (α := S_api_InterlockRule) (l := l494) (ys := [(S_api_InterlockRule.mk true r617.1 r649.2.nodes)]) rfl rfl Proofs.Tryd.underlying22 ⟨_, rfl, rfl, rfl, rfl⟩ rfl rfl rfl rfl rfl (((((((hr495.mono hle517).mono hle528).mono hle626).mono hle647).mono hle658).mono hle666).mono hle672) h673 hz675 ?_
                      intro v676 xs677 hr678
                      refine W_assign rfl rfl rfl ?_
                      refine W_end ?_
                      refine E_normal_block ?_
                      refine E_then ?_
                      refine C_region ?_
                      refine W_bin rfl rfl rfl rfl rfl ?_
                      refine W_move rfl rfl rfl ?_
                      refine W_end ?_
                      refine E_drop (List.Sublist.cons_cons _ (List.Sublist.cons _ (List.Sublist.refl _))) ?_
                      exact E_keepJ (E_back (Nat.lt_succ_self _) ⟨k113 + 1, zs504, (l494 ++ ([(S_api_InterlockRule.mk true r617.1 r649.2.nodes)])), v676, xs677, hd507, rfl, (by rw [hn500]; exact hm), hr678, (Hp.le_trans (Hp.le_trans (Hp.le_trans (Hp.le_trans (Hp.le_trans (Hp.le_trans (Hp.le_trans hle497 hle517) hle528) hle626) hle647) hle658) hle666) hle672), rfl, rfl⟩) (List.Perm.refl _) ⟨rfl, rfl, rfl, (congrArg (fun z => some (Value.int .i64 z)) (i64_succ hy505 hmx502)), trivial⟩
                  · refine C_region ?_
                    refine W_field (o := 2) rfl rfl Proofs.Tryd.runUnderlying34 rfl Proofs.Tryd.sizeOf32 rfl rfl rfl ?_
                    refine W_load rfl rfl Proofs.Tryd.isAgg32 rfl (own_at (List.mem_cons_self ..) rfl) ?_
                    refine W_lenO (List.mem_cons_of_mem _ (List.mem_cons_self ..)) rfl rfl Proofs.Tryd.runUnderlying32 rfl ?_
                    refine W_bin rfl rfl rfl rfl rfl ?_
                    refine W_move rfl rfl rfl ?_
                    cases hb679 : (decide (40 < (r649.2.nodes.length : Int)))
                    · refine W_move rfl rfl rfl ?_
                      refine W_bin rfl rfl rfl rfl rfl ?_
                      refine W_pick rfl rfl rfl rfl ?_
                      refine W_assign rfl rfl rfl ?_
                      refine W_end ?_
                      exact E_keepJ (J663 _ _ _ ⟨rfl, rfl, rfl⟩) (List.Perm.refl _) ⟨rfl, rfl, rfl, rfl, rfl, rfl, (by show some (Value.bool (decide (24 ≤ (k113 : Int)))) = some (Value.bool ((decide (40 < (r649.2.nodes.length : Int))) || (decide (24 ≤ (k113 : Int))))); simp only [hb101, hb102, hb112, hb530, hb661, hb679, Bool.and_true, Bool.true_and, Bool.false_and, Bool.and_false, Bool.or_true, Bool.true_or, Bool.or_false, Bool.false_or, Bool.not_true, Bool.not_false]), trivial⟩
                    · refine W_no rfl rfl rfl ?_
                      refine W_no rfl rfl rfl ?_
                      refine W_pick rfl rfl rfl rfl ?_
                      refine W_assign rfl rfl rfl ?_
                      refine W_end ?_
                      exact E_keepJ (J663 _ _ _ ⟨rfl, rfl, rfl⟩) (List.Perm.refl _) ⟨rfl, rfl, rfl, rfl, rfl, rfl, (by show some (Value.bool (true)) = some (Value.bool ((decide (40 < (r649.2.nodes.length : Int))) || (decide (24 ≤ (k113 : Int))))); simp only [hb101, hb102, hb112, hb530, hb661, hb679, Bool.and_true, Bool.true_and, Bool.false_and, Bool.and_false, Bool.or_true, Bool.true_or, Bool.or_false, Bool.false_or, Bool.not_true, Bool.not_false]), trivial⟩
              · refine C_region ?_
                refine W_move rfl rfl rfl ?_
                refine W_nilCheck rfl rfl rfl ?_
                refine W_field (o := 2) rfl rfl Proofs.Tryd.runUnderlying42 rfl Proofs.Tryd.sizeOf4 rfl rfl rfl ?_
                refine W_load rfl rfl Proofs.Tryd.isAgg4 rfl (own_at (List.mem_cons_of_mem _ (List.mem_cons_self ..)) rfl) ?_
                refine W_move rfl rfl rfl ?_
                cases hb680 : (r649.2.bad)
                · refine W_move rfl rfl rfl ?_
                  refine W_nilCheck rfl rfl rfl ?_
                  refine W_field (o := 0) rfl rfl Proofs.Tryd.runUnderlying42 rfl Proofs.Tryd.sizeOf36 rfl rfl rfl ?_
                  refine W_load rfl rfl Proofs.Tryd.isAgg36 rfl (own_at (List.mem_cons_of_mem _ (List.mem_cons_self ..)) rfl) ?_
                  refine W_lenR rfl rfl Proofs.Tryd.runUnderlying36 rfl h653 ?_
                  refine W_bin rfl rfl rfl rfl rfl ?_
                  refine W_pick rfl rfl rfl rfl ?_
                  refine W_assign rfl rfl rfl ?_
                  refine W_end ?_
                  refine E_drop (List.Sublist.cons_cons _ (List.Sublist.cons _ (List.Sublist.refl _))) ?_
                  exact E_keepJ (J660 _ _ _ ⟨rfl, rfl, rfl⟩) (List.Perm.refl _) ⟨rfl, rfl, rfl, rfl, rfl, rfl, (by show some (Value.bool (decide (0 < (r649.2.words.length : Int)))) = some (Value.bool (r649.2.bad || (decide (0 < (r649.2.words.length : Int))))); simp only [hb101, hb102, hb112, hb530, hb680, Bool.and_true, Bool.true_and, Bool.false_and, Bool.and_false, Bool.or_true, Bool.true_or, Bool.or_false, Bool.false_or, Bool.not_true, Bool.not_false]), trivial⟩
                · refine W_no rfl rfl rfl ?_
                  refine W_no rfl rfl rfl ?_
                  refine W_no rfl rfl rfl ?_
                  refine W_no rfl rfl rfl ?_
                  refine W_no rfl rfl rfl ?_
                  refine W_no rfl rfl rfl ?_
                  refine W_pick rfl rfl rfl rfl ?_
                  refine W_assign rfl rfl rfl ?_
                  refine W_end ?_
                  refine E_drop (List.Sublist.cons_cons _ (List.Sublist.cons _ (List.Sublist.refl _))) ?_
                  exact E_keepJ (J660 _ _ _ ⟨rfl, rfl, rfl⟩) (List.Perm.refl _) ⟨rfl, rfl, rfl, rfl, rfl, rfl, (by show some (Value.bool (true)) = some (Value.bool (r649.2.bad || (decide (0 < (r649.2.words.length : Int))))); simp only [hb101, hb102, hb112, hb530, hb680, Bool.and_true, Bool.true_and, Bool.false_and, Bool.and_false, Bool.or_true, Bool.true_or, Bool.or_false, Bool.false_or, Bool.not_true, Bool.not_false]), trivial⟩
            · refine C_seq ?_
              refine C_region ?_
              refine W_move rfl rfl rfl ?_
              refine W_perm (List.Perm.trans (List.Perm.swap _ _ _) (List.Perm.cons _ (List.Perm.swap _ _ _))) ?_
              obtain ⟨r681, hc682, hm⟩ := bind_some hm
              refine W_call Proofs.Tryd.call13 rfl rfl rfl (fun w ht => by have h := m_interlock_parser_take_c (hm := hc682) h621 h624 ht; exact h) ?_
              rintro _ H689 _ ⟨hle690, v684, v686, xs687, rfl, rfl, h685, h688⟩
              refine W_un rfl rfl rfl rfl ?_
              refine W_end ?_
              refine E_then ?_
              refine C_cond (b := !r681.1) rfl (fun hb691 => ?_) (fun hb691 => ?_)
              · have hm := ite_t' hb691 hm
                refine C_region ?_
                refine W_move rfl rfl rfl ?_
                refine W_nilCheck rfl rfl rfl ?_
                refine W_field (o := 2) rfl rfl Proofs.Tryd.runUnderlying42 rfl Proofs.Tryd.sizeOf4 rfl rfl rfl ?_
                refine W_store (cs := [.bool (true)]) (out := [v684, v686, .bool (true)]) rfl Proofs.Tryd.sizeOf4 rfl rfl rfl rfl rfl (all_cons rfl all_nil) rfl ?_
                refine W_end ?_
                exact E_keepJ (J648 _ _ _ ⟨r681.2.words, r681.2.nodes, true, v684, v686, xs687, hm, h685, h688, hle690, rfl, rfl⟩) (List.Perm.trans (List.Perm.swap _ _ _) (List.Perm.cons _ (List.Perm.swap _ _ _))) ⟨rfl, rfl, rfl, rfl, rfl, rfl, rfl, trivial⟩
              · have hm := ite_f' hb691 hm
                refine C_skip ?_
                exact E_keepJ (J648 _ _ _ ⟨r681.2.words, r681.2.nodes, r681.2.bad, v684, v686, xs687, hm, h685, h688, hle690, rfl, rfl⟩) (List.Perm.trans (List.Perm.swap _ _ _) (List.Perm.cons _ (List.Perm.swap _ _ _))) ⟨rfl, rfl, rfl, rfl, rfl, rfl, rfl, trivial⟩
        · obtain rfl := rng_f hd506 hb508
          have hm : (some (l494, 0, 0)) = some r := hm
          refine C_exit (E_exit_then ?_)
          refine E_exit_then ?_
          refine E_exit_hit ?_
          refine E_then ?_
          refine C_seq ?_
          refine C_region ?_
          refine W_move rfl rfl rfl ?_
          refine W_assign rfl rfl rfl ?_
          refine W_assign rfl rfl rfl ?_
          refine W_assign rfl rfl rfl ?_
          refine W_end ?_
          refine E_then ?_
          refine C_ret ?_
          obtain rfl := Option.some.inj hm
          refine E_drop (List.Sublist.cons_cons _ (List.Sublist.cons _ (List.Sublist.refl _))) ?_
          exact end3 rfl rfl rfl rfl ⟨hle497, v492, xs493, rfl, rfl, hr495⟩

theorem m_slices_Equal_api_InterlockNode_api_InterlockNode_c {B : Nat} {w0 w : World} {H : Hp} {M : List Res} {p0_s1 : (List S_api_InterlockNode)} {p1_s2 : (List S_api_InterlockNode)} {v0 : Value} {v1 : Value} {r : Bool} (hm : m_slices_Equal_api_InterlockNode_api_InterlockNode p0_s1 p1_s2 = some r) (h0 : RdS H v0 p0_s1) (h1 : RdS H v1 p1_s2) (ht : St B w0 H (M) w) :
    Calls Proofs.Tryd.prog 18 [v0, v1].toArray w (Ret B w0 fun H' M' v => H = H' ∧ M = M' ∧ .bool (r) = v) := by
  unfold m_slices_Equal_api_InterlockNode_api_InterlockNode at hm
  refine enter Proofs.Tryd.func18 rfl rfl rfl ht ?_
  refine C_seq ?_
  refine C_region ?_
  refine W_assign rfl rfl rfl ?_
  refine W_end ?_
  refine E_then ?_
  refine C_seq ?_
  refine C_seq ?_
  refine C_region ?_
  refine W_move rfl rfl rfl ?_
  refine W_lenR rfl rfl Proofs.Tryd.runUnderlying32 rfl h0 ?_
  refine W_move rfl rfl rfl ?_
  refine W_lenR rfl rfl Proofs.Tryd.runUnderlying32 rfl h1 ?_
  refine W_bin rfl rfl rfl rfl rfl ?_
  refine W_end ?_
  refine E_then ?_
  refine C_cond (b := !decide ((p0_s1.length : Int) = (p1_s2.length : Int))) rfl (fun hb101 => ?_) (fun hb101 => ?_)
  · have hm := ite_t' hb101 hm
    refine C_seq ?_
    refine C_region ?_
    refine W_assign rfl rfl rfl ?_
    refine W_end ?_
    refine E_then ?_
    refine C_ret ?_
    refine E_ret_then ?_
    obtain rfl := Option.some.inj hm
    refine E_weak (Hp.le_refl _) ?_
    exact end1 rfl rfl ⟨rfl, rfl, rfl⟩
  · have hm := ite_f' hb101 hm
    refine C_skip ?_
    refine E_then ?_
    refine C_seq ?_
    refine C_seq ?_
    refine C_region ?_
    refine W_move rfl rfl rfl ?_
    refine W_lenR rfl rfl Proofs.Tryd.runUnderlying32 rfl h0 ?_
    refine W_move rfl rfl rfl ?_
    refine W_end ?_
    refine E_then ?_
    refine C_block ?_
    refine C_keep (L' := [(0, v0), (1, v1), (12, .int .i64 ((p0_s1.length : Int))), (13, .int .i64 (((0 : Nat) : Int)))]) ⟨rfl, rfl, rfl, rfl, trivial⟩ (List.Perm.refl _) ?_
    refine C_loop (fun n H' M' L' => ∃ (k102 : Nat) (zs136' : Nat), k102 + zs136' = ((p0_s1.length : Int) : Int).toNat ∧ zs136' = n ∧ forN (fun k s131 n => m_slices_Equal_api_InterlockNode_api_InterlockNode_b1 p0_s1 p1_s2 k n) (fun _ => some true) zs136' k102 () = some r ∧ H.le H' ∧ M = M' ∧ [(0, v0), (1, v1), (12, .int .i64 ((p0_s1.length : Int))), (13, .int .i64 ((k102 : Int)))] = L') _ ⟨0, _, Nat.zero_add _, rfl, hm, (Hp.le_refl _), rfl, rfl⟩ ?_
    rintro _ H129 _ _ ⟨k102, zs136', hd138, rfl, hm, hle130, rfl, rfl⟩
    refine C_seq ?_
    refine C_region ?_
    refine W_bin rfl rfl rfl rfl rfl ?_
    refine W_end (E_then ?_)
    refine C_seq ?_
    refine C_cond (b := decide ((k102 : Int) < (p0_s1.length : Int))) rfl (fun hb140 => ?_) (fun hb140 => ?_)
    · obtain ⟨zs136, rfl, hd139, hy137⟩ := rngN_t hd138 hb140
      have hm : m_slices_Equal_api_InterlockNode_api_InterlockNode_b1 p0_s1 p1_s2 k102 (forN (fun k s131 n => m_slices_Equal_api_InterlockNode_api_InterlockNode_b1 p0_s1 p1_s2 k n) (fun _ => some true) zs136 (k102 + 1)) = some r := hm
      generalize hn133 : forN (fun k s131 n => m_slices_Equal_api_InterlockNode_api_InterlockNode_b1 p0_s1 p1_s2 k n) (fun _ => some true) zs136 (k102 + 1) = nx132 at hm
      unfold m_slices_Equal_api_InterlockNode_api_InterlockNode_b1 at hm
      refine C_skip (E_then ?_)
      refine C_seq ?_
      refine C_block ?_
      refine C_seq ?_
      refine C_region ?_
      refine W_move rfl rfl rfl ?_
      refine W_assign rfl rfl rfl ?_
      refine W_end ?_
      refine E_then ?_
      refine C_seq ?_
      obtain ⟨y141, h142, he143, hm⟩ := idx_some hm
      obtain ⟨_, ⟨rfl⟩, hc144⟩ := (h0).elem he143
      obtain ⟨y145, h146, he147, hm⟩ := idx_some hm
      obtain ⟨_, ⟨rfl⟩, hc148⟩ := (h1).elem he147
      refine C_region_tok0 8 (phiT [(fun H rs v => [] = rs ∧ v0 = v), (fun H rs v => [] = rs ∧ .int .i64 ((k102 : Int)) = v), (fun H rs v => [] = rs ∧ .pointer (some ((Value.base (v0)).add (((k102 : Int) : Int).toNat * 4))) = v), (fun H rs v => [] = rs ∧ .agg [.int .i64 (y141.Kind), .string (y141.Name), .int .i64 (y141.A), .int .i64 (y141.B_)].toArray = v), (fun H rs v => [] = rs ∧ v1 = v), (fun H rs v => [] = rs ∧ .int .i64 ((k102 : Int)) = v), (fun H rs v => [] = rs ∧ .pointer (some ((Value.base (v1)).add (((k102 : Int) : Int).toNat * 4))) = v), (fun H rs v => [] = rs ∧ .agg [.int .i64 (y145.Kind), .string (y145.Name), .int .i64 (y145.A), .int .i64 (y145.B_)].toArray = v)]) [[], [], [], [], [], [], [], []] [[], [], [], [], [], [], [], []] [] [0, 1, 2, 3, 4, 5, 6, 7] Facts.mixed (by kernel_rfl) rfl rfl rfl (by kernel_rfl) (phiT_mono ⟨eq_monoT _ _, eq_monoT _ _, eq_monoT _ _, eq_monoT _ _, eq_monoT _ _, eq_monoT _ _, eq_monoT _ _, eq_monoT _ _, trivial⟩) ⟨?_, ?_, ?_, ?_, ?_, ?_, ?_, ?_, trivial⟩ ?_
      · intro HX hX X Rest hR
        intro hU hUp
        refine W_move rfl rfl rfl ?_
        exact W_end (OneT_end [] (Hp.le_refl _) ⟨rfl, rfl⟩)
      · intro HX hX X Rest hR
        intro hU hUp
        refine W_move rfl rfl rfl ?_
        exact W_end (OneT_end [] (Hp.le_refl _) ⟨rfl, rfl⟩)
      · intro HX hX X Rest hR
        rintro _ _ ⟨rfl, rfl⟩
        rintro _ _ ⟨rfl, rfl⟩
        intro hU hUp
        refine W_indexS rfl rfl Proofs.Tryd.runUnderlying32 Proofs.Tryd.sizeOf49 rfl ((h0.mono hle130).mono hX) rfl h142 he143 ?_
        exact W_end (OneT_end [] (Hp.le_refl _) ⟨rfl, rfl⟩)
      · intro HX hX X Rest hR
        rintro _ _ ⟨rfl, rfl⟩
        intro hU hUp
        refine W_loadAgg rfl rfl Proofs.Tryd.isAgg49 Proofs.Tryd.sizeOf49 rfl ((hc144.mono hle130).mono hX).at rfl ?_
        exact W_end (OneT_end [] (Hp.le_refl _) ⟨rfl, rfl⟩)
      · intro HX hX X Rest hR
        intro hU hUp
        refine W_move rfl rfl rfl ?_
        exact W_end (OneT_end [] (Hp.le_refl _) ⟨rfl, rfl⟩)
      · intro HX hX X Rest hR
        intro hU hUp
        refine W_move rfl rfl rfl ?_
        exact W_end (OneT_end [] (Hp.le_refl _) ⟨rfl, rfl⟩)
      · intro HX hX X Rest hR
        rintro _ _ ⟨rfl, rfl⟩
        rintro _ _ ⟨rfl, rfl⟩
        intro hU hUp
        refine W_indexS rfl rfl Proofs.Tryd.runUnderlying32 Proofs.Tryd.sizeOf49 rfl ((h1.mono hle130).mono hX) rfl h146 he147 ?_
        exact W_end (OneT_end [] (Hp.le_refl _) ⟨rfl, rfl⟩)
      · intro HX hX X Rest hR
        rintro _ _ ⟨rfl, rfl⟩
        intro hU hUp
        refine W_loadAgg rfl rfl Proofs.Tryd.isAgg49 Proofs.Tryd.sizeOf49 rfl ((hc148.mono hle130).mono hX).at rfl ?_
        exact W_end (OneT_end [] (Hp.le_refl _) ⟨rfl, rfl⟩)
      intro H149 hle150
      rintro _ _ ⟨rfl, rfl⟩
      rintro _ _ ⟨rfl, rfl⟩
      rintro _ _ ⟨rfl, rfl⟩
      rintro _ _ ⟨rfl, rfl⟩
      rintro _ _ ⟨rfl, rfl⟩
      rintro _ _ ⟨rfl, rfl⟩
      rintro _ _ ⟨rfl, rfl⟩
      rintro _ _ ⟨rfl, rfl⟩
      refine W_neAgg (b := decide (y141.Kind = y145.Kind) && (decide (y141.Name = y145.Name) && (decide (y141.A = y145.A) && (decide (y141.B_ = y145.B_) && true)))) rfl rfl (by kernel_rfl) rfl rfl (fun w => run_equal_struct (bs := [decide (y141.Kind = y145.Kind), decide (y141.Name = y145.Name), decide (y141.A = y145.A), decide (y141.B_ = y145.B_)]) Proofs.Tryd.runUnderlying49 (by kernel_rfl) ⟨(by decide), (fldEq_int Proofs.Tryd.isAgg3 Proofs.Tryd.runUnderlying3 rfl rfl), (by decide), (fldEq_str Proofs.Tryd.isAgg9 Proofs.Tryd.runUnderlying9 rfl rfl), (by decide), (fldEq_int Proofs.Tryd.isAgg3 Proofs.Tryd.runUnderlying3 rfl rfl), (by decide), (fldEq_int Proofs.Tryd.isAgg3 Proofs.Tryd.runUnderlying3 rfl rfl), trivial⟩) ?_
      refine W_end ?_
      refine E_then ?_
      refine C_cond (b := !(decide (y141.Kind = y145.Kind) && (decide (y141.Name = y145.Name) && (decide (y141.A = y145.A) && (decide (y141.B_ = y145.B_) && true))))) rfl (fun hb151 => ?_) (fun hb151 => ?_)
      · have hm := ite_t' hb151 hm
        refine C_seq ?_
        refine C_region ?_
        refine W_assign rfl rfl rfl ?_
        refine W_end ?_
        refine E_then ?_
        refine C_ret ?_
        refine E_ret_block ?_
        refine E_ret_then ?_
        refine E_ret_then ?_
        refine E_ret_block ?_
        refine E_ret_then ?_
        obtain rfl := Option.some.inj hm
        refine E_weak (Hp.le_trans hle130 hle150) ?_
        exact end1 rfl rfl ⟨rfl, rfl, rfl⟩
      · have hm := ite_f' hb151 hm
        refine C_skip ?_
        refine E_normal_block ?_
        refine E_then ?_
        refine C_region ?_
        refine W_bin rfl rfl rfl rfl rfl ?_
        refine W_move rfl rfl rfl ?_
        refine W_end ?_
        exact E_keepJ (E_back (Nat.lt_succ_self _) ⟨k102 + 1, zs136, hd139, rfl, (by rw [hn133]; exact hm), (Hp.le_trans hle130 hle150), rfl, rfl⟩) (List.Perm.refl _) ⟨rfl, rfl, rfl, (congrArg (fun z => some (Value.int .i64 z)) (i64_succN hy137 (toNat_max (len_max (h0).lenMax)))), trivial⟩
    · obtain rfl := rngN_f hd138 hb140
      have hm : (some true) = some r := hm
      refine C_exit (E_exit_then ?_)
      refine E_exit_then ?_
      refine E_exit_hit ?_
      refine E_then ?_
      refine C_seq ?_
      refine C_region ?_
      refine W_assign rfl rfl rfl ?_
      refine W_end ?_
      refine E_then ?_
      refine C_ret ?_
      obtain rfl := Option.some.inj hm
      refine E_weak hle130 ?_
      exact end1 rfl rfl ⟨rfl, rfl, rfl⟩

theorem m_gridhallkeep4_sameRules_1_c {B : Nat} {w0 w : World} {H : Hp} {M : List Res} {p0_x : S_api_InterlockRule} {p1_y : S_api_InterlockRule} {v0 : Value} {v1 : Value} {r : Bool} (hm : m_gridhallkeep4_sameRules_1 p0_x p1_y = some r) (h0 : RdS H v0 p0_x.Cond) (h1 : RdS H v1 p1_y.Cond) (ht : St B w0 H (M) w) :
    Calls Proofs.Tryd.prog 17 [.agg [.bool (p0_x.Close), .string (p0_x.Switch), v0].toArray, .agg [.bool (p1_y.Close), .string (p1_y.Switch), v1].toArray].toArray w (Ret B w0 fun H' M' v => H = H' ∧ M = M' ∧ .bool (r) = v) := by
  unfold m_gridhallkeep4_sameRules_1 at hm
  refine enter Proofs.Tryd.func17 rfl rfl rfl ht ?_
  refine C_seq ?_
  refine C_region ?_
  refine W_box (cs := [.bool (p0_x.Close), .string (p0_x.Switch), v0]) rfl rfl rfl rfl (fun b101 => ?_)
  refine W_box (cs := [.bool (p1_y.Close), .string (p1_y.Switch), v1]) rfl rfl rfl rfl (fun b102 => ?_)
  refine W_assign rfl rfl rfl ?_
  refine W_end ?_
  refine E_then ?_
  refine C_seq ?_
  refine C_region ?_
  refine W_field (o := 0) rfl rfl Proofs.Tryd.runUnderlying34 rfl Proofs.Tryd.sizeOf4 rfl rfl rfl ?_
  refine W_load rfl rfl Proofs.Tryd.isAgg4 rfl (own_at (List.mem_cons_of_mem _ (List.mem_cons_self ..)) rfl) ?_
  refine W_field (o := 0) rfl rfl Proofs.Tryd.runUnderlying34 rfl Proofs.Tryd.sizeOf4 rfl rfl rfl ?_
  refine W_load rfl rfl Proofs.Tryd.isAgg4 rfl (own_at (List.mem_cons_self ..) rfl) ?_
  refine W_eqBool rfl rfl Proofs.Tryd.runUnderlying4 rfl rfl ?_
  refine W_move rfl rfl rfl ?_
  cases hb103 : (decide (p0_x.Close = p1_y.Close))
  · have hm := ite_f' hb103 hm
    refine W_no rfl rfl rfl ?_
    refine W_no rfl rfl rfl ?_
    refine W_no rfl rfl rfl ?_
    refine W_no rfl rfl rfl ?_
    refine W_no rfl rfl rfl ?_
    refine W_pick rfl rfl rfl rfl ?_
    refine W_move rfl rfl rfl ?_
    refine W_no rfl rfl rfl ?_
    refine W_no rfl rfl rfl ?_
    refine W_no rfl rfl rfl ?_
    refine W_no rfl rfl rfl ?_
    refine W_no rfl rfl rfl ?_
    refine W_pick rfl rfl rfl rfl ?_
    refine W_assign rfl rfl rfl ?_
    refine W_end ?_
    refine E_then ?_
    refine C_ret ?_
    obtain rfl := Option.some.inj hm
    refine E_drop (List.Sublist.cons _ (List.Sublist.cons _ (List.Sublist.refl _))) ?_
    refine E_weak (Hp.le_refl _) ?_
    exact end1 rfl rfl ⟨rfl, rfl, rfl⟩
  · have hm := ite_t' hb103 hm
    refine W_field (o := 1) rfl rfl Proofs.Tryd.runUnderlying34 rfl Proofs.Tryd.sizeOf9 rfl rfl rfl ?_
    refine W_load rfl rfl Proofs.Tryd.isAgg9 rfl (own_at (List.mem_cons_of_mem _ (List.mem_cons_self ..)) rfl) ?_
    refine W_field (o := 1) rfl rfl Proofs.Tryd.runUnderlying34 rfl Proofs.Tryd.sizeOf9 rfl rfl rfl ?_
    refine W_load rfl rfl Proofs.Tryd.isAgg9 rfl (own_at (List.mem_cons_self ..) rfl) ?_
    refine W_bin rfl rfl rfl rfl rfl ?_
    refine W_pick rfl rfl rfl rfl ?_
    refine W_move rfl rfl rfl ?_
    cases hb104 : (decide (p0_x.Switch = p1_y.Switch))
    · have hm := ite_f' hb104 hm
      refine W_no rfl rfl rfl ?_
      refine W_no rfl rfl rfl ?_
      refine W_no rfl rfl rfl ?_
      refine W_no rfl rfl rfl ?_
      refine W_no rfl rfl rfl ?_
      refine W_pick rfl rfl rfl rfl ?_
      refine W_assign rfl rfl rfl ?_
      refine W_end ?_
      refine E_then ?_
      refine C_ret ?_
      obtain rfl := Option.some.inj hm
      refine E_drop (List.Sublist.cons _ (List.Sublist.cons _ (List.Sublist.refl _))) ?_
      refine E_weak (Hp.le_refl _) ?_
      exact end1 rfl rfl ⟨rfl, rfl, rfl⟩
    · have hm := ite_t' hb104 hm
      refine W_field (o := 2) rfl rfl Proofs.Tryd.runUnderlying34 rfl Proofs.Tryd.sizeOf32 rfl rfl rfl ?_
      refine W_load rfl rfl Proofs.Tryd.isAgg32 rfl (own_at (List.mem_cons_of_mem _ (List.mem_cons_self ..)) rfl) ?_
      refine W_field (o := 2) rfl rfl Proofs.Tryd.runUnderlying34 rfl Proofs.Tryd.sizeOf32 rfl rfl rfl ?_
      refine W_load rfl rfl Proofs.Tryd.isAgg32 rfl (own_at (List.mem_cons_self ..) rfl) ?_
      obtain ⟨r105, hc106, hm⟩ := bind_some hm
      refine W_call Proofs.Tryd.call18 rfl rfl rfl (fun w ht => by have h := m_slices_Equal_api_InterlockNode_api_InterlockNode_c (hm := hc106) h0 h1 ht; exact h) ?_
      rintro _ _ _ ⟨rfl, rfl, rfl⟩
      refine W_pick rfl rfl rfl rfl ?_
      refine W_assign rfl rfl rfl ?_
      refine W_end ?_
      refine E_then ?_
      refine C_ret ?_
      obtain rfl := Option.some.inj hm
      refine E_drop (List.Sublist.cons _ (List.Sublist.cons _ (List.Sublist.refl _))) ?_
      refine E_weak (Hp.le_refl _) ?_
      exact end1 rfl rfl ⟨rfl, rfl, rfl⟩

theorem m_slices_EqualFunc_api_InterlockRule_api_InterlockRule_api_InterlockRule_api_InterlockRule__gridhallkeep4_sameRules_1_c {B : Nat} {w0 w : World} {H : Hp} {M : List Res} {p0_s1 : (List S_api_InterlockRule)} {p1_s2 : (List S_api_InterlockRule)} {v0 : Value} {v1 : Value} {r : Bool} (hm : m_slices_EqualFunc_api_InterlockRule_api_InterlockRule_api_InterlockRule_api_InterlockRule__gridhallkeep4_sameRules_1 p0_s1 p1_s2 = some r) (h0 : RdS H v0 p0_s1) (h1 : RdS H v1 p1_s2) (ht : St B w0 H (M) w) :
    Calls Proofs.Tryd.prog 16 [v0, v1, .func (.func 17) [].toArray [].toArray].toArray w (Ret B w0 fun H' M' v => H = H' ∧ M = M' ∧ .bool (r) = v) := by
  unfold m_slices_EqualFunc_api_InterlockRule_api_InterlockRule_api_InterlockRule_api_InterlockRule__gridhallkeep4_sameRules_1 at hm
  refine enter Proofs.Tryd.func16 rfl rfl rfl ht ?_
  refine C_seq ?_
  refine C_region ?_
  refine W_assign rfl rfl rfl ?_
  refine W_end ?_
  refine E_then ?_
  refine C_seq ?_
  refine C_seq ?_
  refine C_region ?_
  refine W_move rfl rfl rfl ?_
  refine W_lenR rfl rfl Proofs.Tryd.runUnderlying22 rfl h0 ?_
  refine W_move rfl rfl rfl ?_
  refine W_lenR rfl rfl Proofs.Tryd.runUnderlying22 rfl h1 ?_
  refine W_bin rfl rfl rfl rfl rfl ?_
  refine W_end ?_
  refine E_then ?_
  refine C_cond (b := !decide ((p0_s1.length : Int) = (p1_s2.length : Int))) rfl (fun hb101 => ?_) (fun hb101 => ?_)
  · have hm := ite_t' hb101 hm
    refine C_seq ?_
    refine C_region ?_
    refine W_assign rfl rfl rfl ?_
    refine W_end ?_
    refine E_then ?_
    refine C_ret ?_
    refine E_ret_then ?_
    obtain rfl := Option.some.inj hm
    refine E_weak (Hp.le_refl _) ?_
    exact end1 rfl rfl ⟨rfl, rfl, rfl⟩
  · have hm := ite_f' hb101 hm
    refine C_skip ?_
    refine E_then ?_
    refine C_seq ?_
    refine C_seq ?_
    refine C_region ?_
    refine W_move rfl rfl rfl ?_
    refine W_lenR rfl rfl Proofs.Tryd.runUnderlying22 rfl h0 ?_
    refine W_move rfl rfl rfl ?_
    refine W_end ?_
    refine E_then ?_
    refine C_block ?_
    refine C_keep (L' := [(1, v1), (2, .func (.func 17) [].toArray [].toArray), (15, v0), (16, .int .i64 ((p0_s1.length : Int))), (17, .int .i64 (((0 : Nat) : Int)))]) ⟨rfl, rfl, rfl, rfl, rfl, trivial⟩ (List.Perm.refl _) ?_
    refine C_loop (fun n H' M' L' => ∃ (k102 : Nat) (zs138' : List S_api_InterlockRule), (p0_s1).drop k102 = zs138' ∧ zs138'.length = n ∧ forI (fun k y s133 n => m_slices_EqualFunc_api_InterlockRule_api_InterlockRule_api_InterlockRule_api_InterlockRule__gridhallkeep4_sameRules_1_b1 p1_s2 k y n) (fun _ => some true) k102 zs138' () = some r ∧ H.le H' ∧ M = M' ∧ [(1, v1), (2, .func (.func 17) [].toArray [].toArray), (15, v0), (16, .int .i64 ((p0_s1.length : Int))), (17, .int .i64 ((k102 : Int)))] = L') _ ⟨0, _, rfl, rfl, hm, (Hp.le_refl _), rfl, rfl⟩ ?_
    rintro _ H131 _ _ ⟨k102, zs138', hd140, rfl, hm, hle132, rfl, rfl⟩
    refine C_seq ?_
    refine C_region ?_
    refine W_bin rfl rfl rfl rfl rfl ?_
    refine W_end (E_then ?_)
    refine C_seq ?_
    refine C_cond (b := decide ((k102 : Int) < (p0_s1.length : Int))) rfl (fun hb142 => ?_) (fun hb142 => ?_)
    · obtain ⟨y137, zs138, rfl, hy139, hd141⟩ := rng_t hd140 hb142
      have hm : m_slices_EqualFunc_api_InterlockRule_api_InterlockRule_api_InterlockRule_api_InterlockRule__gridhallkeep4_sameRules_1_b1 p1_s2 k102 y137 (forI (fun k y s133 n => m_slices_EqualFunc_api_InterlockRule_api_InterlockRule_api_InterlockRule_api_InterlockRule__gridhallkeep4_sameRules_1_b1 p1_s2 k y n) (fun _ => some true) (k102 + 1) zs138) = some r := hm
      generalize hn135 : forI (fun k y s133 n => m_slices_EqualFunc_api_InterlockRule_api_InterlockRule_api_InterlockRule_api_InterlockRule__gridhallkeep4_sameRules_1_b1 p1_s2 k y n) (fun _ => some true) (k102 + 1) zs138 = nx134 at hm
      unfold m_slices_EqualFunc_api_InterlockRule_api_InterlockRule_api_InterlockRule_api_InterlockRule__gridhallkeep4_sameRules_1_b1 at hm
      refine C_skip (E_then ?_)
      refine C_seq ?_
      refine C_block ?_
      refine C_seq ?_
      refine C_region ?_
      refine W_move rfl rfl rfl ?_
      obtain ⟨_, ⟨v144, rfl, h145⟩, hc143⟩ := (h0).elem hy139
      refine W_indexS rfl rfl Proofs.Tryd.runUnderlying22 Proofs.Tryd.sizeOf34 rfl (h0.mono hle132) rfl (Int.natCast_nonneg _) hy139 ?_
      refine W_loadAgg rfl rfl Proofs.Tryd.isAgg34 Proofs.Tryd.sizeOf34 rfl (hc143.mono hle132).at rfl ?_
      refine W_alloc (cs := [.bool (false), .string (⟨#[]⟩), .slice none 0 0]) rfl rfl Proofs.Tryd.zeroValue34 rfl (fun b146 => ?_)
      refine W_assign rfl rfl rfl ?_
      refine W_store (cs := [.bool (y137.Close), .string (y137.Switch), v144]) (out := [.bool (y137.Close), .string (y137.Switch), v144]) rfl Proofs.Tryd.sizeOf34 rfl rfl rfl rfl rfl (all_cons rfl (all_cons rfl (all_cons (RdS.one1 (h145.mono hle132)) all_nil))) (over_all rfl) ?_
      refine W_end ?_
      refine E_then ?_
      refine C_seq ?_
      refine C_region ?_
      refine W_move rfl rfl rfl ?_
      refine W_move rfl rfl rfl ?_
      obtain ⟨y147, h148, he149, hm⟩ := idx_some hm
      obtain ⟨_, ⟨v151, rfl, h152⟩, hc150⟩ := (h1).elem he149
      refine W_indexS rfl rfl Proofs.Tryd.runUnderlying22 Proofs.Tryd.sizeOf34 rfl (h1.mono hle132) rfl h148 he149 ?_
      refine W_loadAgg rfl rfl Proofs.Tryd.isAgg34 Proofs.Tryd.sizeOf34 rfl (hc150.mono hle132).at rfl ?_
      refine W_alloc (cs := [.bool (false), .string (⟨#[]⟩), .slice none 0 0]) rfl rfl Proofs.Tryd.zeroValue34 rfl (fun b153 => ?_)
      refine W_store (cs := [.bool (y147.Close), .string (y147.Switch), v151]) (out := [.bool (y147.Close), .string (y147.Switch), v151]) rfl Proofs.Tryd.sizeOf34 rfl rfl rfl rfl rfl (all_cons rfl (all_cons rfl (all_cons (RdS.one1 (h152.mono hle132)) all_nil))) (over_all rfl) ?_
      refine W_end ?_
      refine E_then ?_
      refine C_seq ?_
      refine C_region ?_
      refine W_move rfl rfl rfl ?_
      refine W_loadAgg rfl rfl Proofs.Tryd.isAgg34 Proofs.Tryd.sizeOf34 rfl (own_all (List.mem_cons_of_mem _ (List.mem_cons_self ..))) rfl ?_
      refine W_loadAgg rfl rfl Proofs.Tryd.isAgg34 Proofs.Tryd.sizeOf34 rfl (own_all (List.mem_cons_self ..)) rfl ?_
      obtain ⟨r154, hc155, hm⟩ := bind_some hm
      refine W_callv Proofs.Tryd.call17 rfl rfl rfl rfl (fun w ht => by have h := m_gridhallkeep4_sameRules_1_c (hm := hc155) (h145.mono hle132) (h152.mono hle132) ht; exact h) ?_
      rintro _ _ _ ⟨rfl, rfl, rfl⟩
      refine W_un rfl rfl rfl rfl ?_
      refine W_end ?_
      refine E_then ?_
      refine C_cond (b := !r154) rfl (fun hb156 => ?_) (fun hb156 => ?_)
      · have hm := ite_t' hb156 hm
        refine C_seq ?_
        refine C_region ?_
        refine W_assign rfl rfl rfl ?_
        refine W_end ?_
        refine E_then ?_
        refine C_ret ?_
        refine E_ret_block ?_
        refine E_ret_then ?_
        refine E_ret_then ?_
        refine E_ret_block ?_
        refine E_ret_then ?_
        obtain rfl := Option.some.inj hm
        refine E_drop (List.Sublist.cons _ (List.Sublist.cons _ (List.Sublist.refl _))) ?_
        refine E_weak hle132 ?_
        exact end1 rfl rfl ⟨rfl, rfl, rfl⟩
      · have hm := ite_f' hb156 hm
        refine C_skip ?_
        refine E_normal_block ?_
        refine E_then ?_
        refine C_region ?_
        refine W_bin rfl rfl rfl rfl rfl ?_
        refine W_move rfl rfl rfl ?_
        refine W_end ?_
        refine E_drop (List.Sublist.cons _ (List.Sublist.cons _ (List.Sublist.refl _))) ?_
        exact E_keepJ (E_back (Nat.lt_succ_self _) ⟨k102 + 1, zs138, hd141, rfl, (by rw [hn135]; exact hm), hle132, rfl, rfl⟩) (List.Perm.refl _) ⟨rfl, rfl, rfl, rfl, (congrArg (fun z => some (Value.int .i64 z)) (i64_succ hy139 ((h0.mono hle132)).lenMax)), trivial⟩
    · obtain rfl := rng_f hd140 hb142
      have hm : (some true) = some r := hm
      refine C_exit (E_exit_then ?_)
      refine E_exit_then ?_
      refine E_exit_hit ?_
      refine E_then ?_
      refine C_seq ?_
      refine C_region ?_
      refine W_assign rfl rfl rfl ?_
      refine W_end ?_
      refine E_then ?_
      refine C_ret ?_
      obtain rfl := Option.some.inj hm
      refine E_weak hle132 ?_
      exact end1 rfl rfl ⟨rfl, rfl, rfl⟩

theorem m_gridhallkeep4_sameRules_c {B : Nat} {w0 w : World} {H : Hp} {M : List Res} {p0_a : (List S_api_InterlockRule)} {p1_b : (List S_api_InterlockRule)} {v0 : Value} {v1 : Value} {r : Bool} (hm : m_gridhallkeep4_sameRules p0_a p1_b = some r) (h0 : RdS H v0 p0_a) (h1 : RdS H v1 p1_b) (ht : St B w0 H (M) w) :
    Calls Proofs.Tryd.prog 6 [v0, v1].toArray w (Ret B w0 fun H' M' v => H = H' ∧ M = M' ∧ .bool (r) = v) := by
  unfold m_gridhallkeep4_sameRules at hm
  refine enter Proofs.Tryd.func6 rfl rfl rfl ht ?_
  refine C_seq ?_
  refine C_region ?_
  refine W_assign rfl rfl rfl ?_
  refine W_end ?_
  refine E_then ?_
  refine C_seq ?_
  refine C_region ?_
  refine W_move rfl rfl rfl ?_
  refine W_move rfl rfl rfl ?_
  obtain ⟨r101, hc102, hm⟩ := bind_some hm
  refine W_call Proofs.Tryd.call16 rfl rfl rfl (fun w ht => by have h := m_slices_EqualFunc_api_InterlockRule_api_InterlockRule_api_InterlockRule_api_InterlockRule__gridhallkeep4_sameRules_1_c (hm := hc102) h0 h1 ht; exact h) ?_
  rintro _ _ _ ⟨rfl, rfl, rfl⟩
  refine W_assign rfl rfl rfl ?_
  refine W_end ?_
  refine E_then ?_
  refine C_ret ?_
  obtain rfl := Option.some.inj hm
  refine E_weak (Hp.le_refl _) ?_
  exact end1 rfl rfl ⟨rfl, rfl, rfl⟩

theorem m_interlock_index_1_c {B : Nat} {w0 w : World} {H : Hp} {M : List Res} {p0_s : S_api_InterlockState} {p1_c1 : ByteArray} {b0 : Nat} {r : Bool} (hm : m_interlock_index_1 p0_s p1_c1 = r) (ht : St B w0 H (.obj b0 (.cells [.string (p1_c1)].toArray 9 (0, 0)) :: M) w) :
    Calls Proofs.Tryd.prog 40 [.agg [.string (p0_s.Name), .bool (p0_s.Closed)].toArray, .pointer (some ⟨b0, 0, none⟩)].toArray w (Ret B w0 fun H' M' v => H = H' ∧ .obj b0 (.cells [.string (p1_c1)].toArray 9 (0, 0)) :: M = M' ∧ .bool (r) = v) := by
  unfold m_interlock_index_1 at hm
  refine enter Proofs.Tryd.func40 rfl rfl rfl ht ?_
  refine C_seq ?_
  refine C_region ?_
  refine W_box (cs := [.string (p0_s.Name), .bool (p0_s.Closed)]) rfl rfl rfl rfl (fun b101 => ?_)
  refine W_assign rfl rfl rfl ?_
  refine W_end ?_
  refine E_then ?_
  refine C_seq ?_
  refine C_region ?_
  refine W_field (o := 0) rfl rfl Proofs.Tryd.runUnderlying55 rfl Proofs.Tryd.sizeOf9 rfl rfl rfl ?_
  refine W_load rfl rfl Proofs.Tryd.isAgg9 rfl (own_at (List.mem_cons_self ..) rfl) ?_
  refine W_load rfl rfl Proofs.Tryd.isAgg9 rfl (own_at (List.mem_cons_of_mem _ (List.mem_cons_self ..)) rfl) ?_
  refine W_bin rfl rfl rfl rfl rfl ?_
  refine W_assign rfl rfl rfl ?_
  refine W_end ?_
  refine E_then ?_
  refine C_ret ?_
  obtain rfl := hm
  refine E_drop (List.Sublist.cons _ (List.Sublist.refl _)) ?_
  refine E_weak (Hp.le_refl _) ?_
  exact end1 rfl rfl ⟨rfl, rfl, rfl⟩

theorem m_slices_IndexFunc_api_InterlockState_api_InterlockState__interlock_index_1_c {B : Nat} {w0 w : World} {H : Hp} {M : List Res} {p0_s : (List S_api_InterlockState)} {p1_f_0 : ByteArray} {v0 : Value} {b0 : Nat} {r : Int} (hm : m_slices_IndexFunc_api_InterlockState_api_InterlockState__interlock_index_1 p0_s p1_f_0 = some r) (h0 : RdS H v0 p0_s) (ht : St B w0 H (.obj b0 (.cells [.string (p1_f_0)].toArray 9 (0, 0)) :: M) w) :
    Calls Proofs.Tryd.prog 39 [v0, .func (.func 40) [].toArray [.pointer (some ⟨b0, 0, none⟩)].toArray].toArray w (Ret B w0 fun H' M' v => H = H' ∧ .obj b0 (.cells [.string (p1_f_0)].toArray 9 (0, 0)) :: M = M' ∧ .int .i64 (r) = v) := by
  unfold m_slices_IndexFunc_api_InterlockState_api_InterlockState__interlock_index_1 at hm
  refine enter Proofs.Tryd.func39 rfl rfl rfl ht ?_
  refine C_seq ?_
  refine C_region ?_
  refine W_assign rfl rfl rfl ?_
  refine W_end ?_
  refine E_then ?_
  refine C_seq ?_
  refine C_seq ?_
  refine C_region ?_
  refine W_move rfl rfl rfl ?_
  refine W_lenR rfl rfl Proofs.Tryd.runUnderlying56 rfl h0 ?_
  refine W_move rfl rfl rfl ?_
  refine W_end ?_
  refine E_then ?_
  refine C_block ?_
  refine C_keep (L' := [(0, v0), (1, .func (.func 40) [].toArray [.pointer (some ⟨b0, 0, none⟩)].toArray), (7, .int .i64 ((p0_s.length : Int))), (8, .int .i64 (((0 : Nat) : Int)))]) ⟨rfl, rfl, rfl, rfl, trivial⟩ (List.Perm.refl _) ?_
  refine C_loop (fun n H' M' L' => ∃ (k101 : Nat) (zs119' : Nat), k101 + zs119' = ((p0_s.length : Int) : Int).toNat ∧ zs119' = n ∧ forN (fun k s114 n => m_slices_IndexFunc_api_InterlockState_api_InterlockState__interlock_index_1_b1 p0_s p1_f_0 k n) (fun _ => some (-1)) zs119' k101 () = some r ∧ H.le H' ∧ .obj b0 (.cells [.string (p1_f_0)].toArray 9 (0, 0)) :: M = M' ∧ [(0, v0), (1, .func (.func 40) [].toArray [.pointer (some ⟨b0, 0, none⟩)].toArray), (7, .int .i64 ((p0_s.length : Int))), (8, .int .i64 ((k101 : Int)))] = L') _ ⟨0, _, Nat.zero_add _, rfl, hm, (Hp.le_refl _), rfl, rfl⟩ ?_
  rintro _ H112 _ _ ⟨k101, zs119', hd121, rfl, hm, hle113, rfl, rfl⟩
  refine C_seq ?_
  refine C_region ?_
  refine W_bin rfl rfl rfl rfl rfl ?_
  refine W_end (E_then ?_)
  refine C_seq ?_
  refine C_cond (b := decide ((k101 : Int) < (p0_s.length : Int))) rfl (fun hb123 => ?_) (fun hb123 => ?_)
  · obtain ⟨zs119, rfl, hd122, hy120⟩ := rngN_t hd121 hb123
    have hm : m_slices_IndexFunc_api_InterlockState_api_InterlockState__interlock_index_1_b1 p0_s p1_f_0 k101 (forN (fun k s114 n => m_slices_IndexFunc_api_InterlockState_api_InterlockState__interlock_index_1_b1 p0_s p1_f_0 k n) (fun _ => some (-1)) zs119 (k101 + 1)) = some r := hm
    generalize hn116 : forN (fun k s114 n => m_slices_IndexFunc_api_InterlockState_api_InterlockState__interlock_index_1_b1 p0_s p1_f_0 k n) (fun _ => some (-1)) zs119 (k101 + 1) = nx115 at hm
    unfold m_slices_IndexFunc_api_InterlockState_api_InterlockState__interlock_index_1_b1 at hm
    refine C_skip (E_then ?_)
    refine C_seq ?_
    refine C_block ?_
    refine C_seq ?_
    refine C_region ?_
    refine W_move rfl rfl rfl ?_
    refine W_assign rfl rfl rfl ?_
    refine W_end ?_
    refine E_then ?_
    refine C_seq ?_
    refine C_region ?_
    refine W_move rfl rfl rfl ?_
    refine W_move rfl rfl rfl ?_
    refine W_move rfl rfl rfl ?_
    obtain ⟨y124, h125, he126, hm⟩ := idx_some hm
    obtain ⟨_, ⟨rfl⟩, hc127⟩ := (h0).elem he126
    refine W_indexS rfl rfl Proofs.Tryd.runUnderlying56 Proofs.Tryd.sizeOf55 rfl (h0.mono hle113) rfl h125 he126 ?_
    refine W_loadAgg rfl rfl Proofs.Tryd.isAgg55 Proofs.Tryd.sizeOf55 rfl (hc127.mono hle113).at rfl ?_
    refine W_callv Proofs.Tryd.call40 rfl rfl rfl rfl (fun w ht => by have h := m_interlock_index_1_c (hm := (rfl : m_interlock_index_1 y124 p1_f_0 = _))  ht; exact h) ?_
    rintro _ _ _ ⟨rfl, rfl, rfl⟩
    refine W_end ?_
    refine E_then ?_
    refine C_cond (b := (m_interlock_index_1 y124 p1_f_0)) rfl (fun hb128 => ?_) (fun hb128 => ?_)
    · have hm := ite_t' hb128 hm
      refine C_seq ?_
      refine C_region ?_
      refine W_move rfl rfl rfl ?_
      refine W_assign rfl rfl rfl ?_
      refine W_end ?_
      refine E_then ?_
      refine C_ret ?_
      refine E_ret_block ?_
      refine E_ret_then ?_
      refine E_ret_then ?_
      refine E_ret_block ?_
      refine E_ret_then ?_
      obtain rfl := Option.some.inj hm
      refine E_weak hle113 ?_
      exact end1 rfl rfl ⟨rfl, rfl, rfl⟩
    · have hm := ite_f' hb128 hm
      refine C_skip ?_
      refine E_normal_block ?_
      refine E_then ?_
      refine C_region ?_
      refine W_bin rfl rfl rfl rfl rfl ?_
      refine W_move rfl rfl rfl ?_
      refine W_end ?_
      exact E_keepJ (E_back (Nat.lt_succ_self _) ⟨k101 + 1, zs119, hd122, rfl, (by rw [hn116]; exact hm), hle113, rfl, rfl⟩) (List.Perm.refl _) ⟨rfl, rfl, rfl, (congrArg (fun z => some (Value.int .i64 z)) (i64_succN hy120 (toNat_max (len_max (h0).lenMax)))), trivial⟩
  · obtain rfl := rngN_f hd121 hb123
    have hm : (some (-1)) = some r := hm
    refine C_exit (E_exit_then ?_)
    refine E_exit_then ?_
    refine E_exit_hit ?_
    refine E_then ?_
    refine C_seq ?_
    refine C_region ?_
    refine W_assign rfl rfl rfl ?_
    refine W_end ?_
    refine E_then ?_
    refine C_ret ?_
    obtain rfl := Option.some.inj hm
    refine E_weak hle113 ?_
    exact end1 rfl rfl ⟨rfl, rfl, rfl⟩

theorem m_interlock_index_c {B : Nat} {w0 w : World} {H : Hp} {M : List Res} {p0_l : (List S_api_InterlockState)} {name : ByteArray} {v0 : Value} {r : Int} (hm : m_interlock_index p0_l name = some r) (h0 : RdS H v0 p0_l) (ht : St B w0 H (M) w) :
    Calls Proofs.Tryd.prog 31 [v0, .string (name)].toArray w (Ret B w0 fun H' M' v => H = H' ∧ M = M' ∧ .int .i64 (r) = v) := by
  unfold m_interlock_index at hm
  refine enter Proofs.Tryd.func31 rfl rfl rfl ht ?_
  refine C_seq ?_
  refine C_region ?_
  refine W_box (cs := [.string (name)]) rfl rfl rfl rfl (fun b101 => ?_)
  refine W_assign rfl rfl rfl ?_
  refine W_end ?_
  refine E_then ?_
  refine C_seq ?_
  refine C_region ?_
  refine W_move rfl rfl rfl ?_
  refine W_makeFunc rfl rfl rfl rfl ?_
  obtain ⟨r102, hc103, hm⟩ := bind_some hm
  refine W_call Proofs.Tryd.call39 rfl rfl rfl (fun w ht => by have h := m_slices_IndexFunc_api_InterlockState_api_InterlockState__interlock_index_1_c (hm := hc103) h0 ht; exact h) ?_
  rintro _ _ _ ⟨rfl, rfl, rfl⟩
  refine W_assign rfl rfl rfl ?_
  refine W_end ?_
  refine E_then ?_
  refine C_ret ?_
  obtain rfl := Option.some.inj hm
  refine E_drop (List.Sublist.cons _ (List.Sublist.refl _)) ?_
  refine E_weak (Hp.le_refl _) ?_
  exact end1 rfl rfl ⟨rfl, rfl, rfl⟩

theorem m_interlock_CheckStates_c {B : Nat} {w0 w : World} {H : Hp} {M : List Res} {p0_l : (List S_api_InterlockState)} {v0 : Value} {r : Int} (hm : m_interlock_CheckStates p0_l = some r) (h0 : RdS H v0 p0_l) (ht : St B w0 H (M) w) :
    Calls Proofs.Tryd.prog 30 [v0].toArray w (Ret B w0 fun H' M' v => H = H' ∧ M = M' ∧ .int .i64 (r) = v) := by
  unfold m_interlock_CheckStates at hm
  refine enter Proofs.Tryd.func30 rfl rfl rfl ht ?_
  refine C_seq ?_
  refine C_region ?_
  refine W_assign rfl rfl rfl ?_
  refine W_end ?_
  refine E_then ?_
  refine C_seq ?_
  refine C_seq ?_
  refine C_region ?_
  refine W_move rfl rfl rfl ?_
  refine W_lenR rfl rfl Proofs.Tryd.runUnderlying56 rfl h0 ?_
  refine W_bin rfl rfl rfl rfl rfl ?_
  refine W_end ?_
  refine E_then ?_
  refine C_cond (b := decide (32 < (p0_l.length : Int))) rfl (fun hb101 => ?_) (fun hb101 => ?_)
  · have hm := ite_t' hb101 hm
    refine C_seq ?_
    refine C_region ?_
    refine W_assign rfl rfl rfl ?_
    refine W_end ?_
    refine E_then ?_
    refine C_ret ?_
    refine E_ret_then ?_
    obtain rfl := Option.some.inj hm
    refine E_weak (Hp.le_refl _) ?_
    exact end1 rfl rfl ⟨rfl, rfl, rfl⟩
  · have hm := ite_f' hb101 hm
    refine C_skip ?_
    refine E_then ?_
    refine C_seq ?_
    refine C_seq ?_
    refine C_region ?_
    refine W_move rfl rfl rfl ?_
    refine W_lenR rfl rfl Proofs.Tryd.runUnderlying56 rfl h0 ?_
    refine W_move rfl rfl rfl ?_
    refine W_end ?_
    refine E_then ?_
    refine C_block ?_
    refine C_keep (L' := [(0, v0), (8, v0), (9, .int .i64 ((p0_l.length : Int))), (10, .int .i64 (((0 : Nat) : Int)))]) ⟨rfl, rfl, rfl, rfl, trivial⟩ (List.Perm.refl _) ?_
    refine C_loop (fun n H' M' L' => ∃ (k102 : Nat) (zs148' : List S_api_InterlockState), (p0_l).drop k102 = zs148' ∧ zs148'.length = n ∧ forI (fun k y s143 n => m_interlock_CheckStates_b1 p0_l k y n) (fun _ => some 0) k102 zs148' () = some r ∧ H.le H' ∧ M = M' ∧ [(0, v0), (8, v0), (9, .int .i64 ((p0_l.length : Int))), (10, .int .i64 ((k102 : Int)))] = L') _ ⟨0, _, rfl, rfl, hm, (Hp.le_refl _), rfl, rfl⟩ ?_
    rintro _ H141 _ _ ⟨k102, zs148', hd150, rfl, hm, hle142, rfl, rfl⟩
    refine C_seq ?_
    refine C_region ?_
    refine W_bin rfl rfl rfl rfl rfl ?_
    refine W_end (E_then ?_)
    refine C_seq ?_
    refine C_cond (b := decide ((k102 : Int) < (p0_l.length : Int))) rfl (fun hb152 => ?_) (fun hb152 => ?_)
    · obtain ⟨y147, zs148, rfl, hy149, hd151⟩ := rng_t hd150 hb152
      have hm : m_interlock_CheckStates_b1 p0_l k102 y147 (forI (fun k y s143 n => m_interlock_CheckStates_b1 p0_l k y n) (fun _ => some 0) (k102 + 1) zs148) = some r := hm
      generalize hn145 : forI (fun k y s143 n => m_interlock_CheckStates_b1 p0_l k y n) (fun _ => some 0) (k102 + 1) zs148 = nx144 at hm
      unfold m_interlock_CheckStates_b1 at hm
      refine C_skip (E_then ?_)
      refine C_seq ?_
      refine C_block ?_
      refine C_seq ?_
      refine C_region ?_
      refine W_move rfl rfl rfl ?_
      obtain ⟨_, ⟨rfl⟩, hc153⟩ := (h0).elem hy149
      refine W_indexS rfl rfl Proofs.Tryd.runUnderlying56 Proofs.Tryd.sizeOf55 rfl (h0.mono hle142) rfl (Int.natCast_nonneg _) hy149 ?_
      refine W_loadAgg rfl rfl Proofs.Tryd.isAgg55 Proofs.Tryd.sizeOf55 rfl (hc153.mono hle142).at rfl ?_
      refine W_alloc (cs := [.string (⟨#[]⟩), .bool (false)]) rfl rfl Proofs.Tryd.zeroValue55 rfl (fun b154 => ?_)
      refine W_assign rfl rfl rfl ?_
      refine W_store (cs := [.string (y147.Name), .bool (y147.Closed)]) (out := [.string (y147.Name), .bool (y147.Closed)]) rfl Proofs.Tryd.sizeOf55 rfl rfl rfl rfl rfl (all_cons rfl (all_cons rfl all_nil)) (over_all rfl) ?_
      refine W_end ?_
      refine E_then ?_
      refine C_block ?_
      refine C_seq ?_
      refine C_region ?_
      refine W_field (o := 0) rfl rfl Proofs.Tryd.runUnderlying55 rfl Proofs.Tryd.sizeOf9 rfl rfl rfl ?_
      refine W_load rfl rfl Proofs.Tryd.isAgg9 rfl (own_at (List.mem_cons_self ..) rfl) ?_
      obtain ⟨r155, hc156, hm⟩ := bind_some hm
      refine W_call Proofs.Tryd.call21 rfl rfl rfl (fun w ht => by have h := m_netmodel_Name_c (hm := hc156)  ht; exact h) ?_
      rintro _ _ _ ⟨rfl, rfl, rfl⟩
      refine W_un rfl rfl rfl rfl ?_
      refine W_assign rfl rfl rfl ?_
      refine W_end ?_
      refine E_then ?_
      refine C_cond (b := !r155) rfl (fun hb157 => ?_) (fun hb157 => ?_)
      · have hm := ite_t' hb157 hm
        refine C_seq ?_
        refine C_region ?_
        refine W_assign rfl rfl rfl ?_
        refine W_end ?_
        refine E_then ?_
        refine C_ret ?_
        refine E_ret_block ?_
        refine E_ret_block ?_
        refine E_ret_then ?_
        refine E_ret_then ?_
        refine E_ret_block ?_
        refine E_ret_then ?_
        obtain rfl := Option.some.inj hm
        refine E_drop (List.Sublist.cons _ (List.Sublist.refl _)) ?_
        refine E_weak hle142 ?_
        exact end1 rfl rfl ⟨rfl, rfl, rfl⟩
      · have hm := ite_f' hb157 hm
        refine C_seq ?_
        obtain ⟨hz158, hm⟩ := need_some hm
        refine C_region_tok0 5 (phiT [(fun H rs v => [] = rs ∧ v0 = v), (fun H rs v => [] = rs ∧ .int .i64 ((k102 : Int)) = v), (fun H rs v => ∃ v162 : Value, [] = rs ∧ v162 = v ∧ RdS H v162 (slc p0_l 0 (((k102 : Int) : Int).toNat))), (fun H rs v => [] = rs ∧ .pointer (some ⟨b154, 0, none⟩) = v), (fun H rs v => [] = rs ∧ .string (y147.Name) = v)]) [[], [], [], [], []] [[], [], [], [], []] [] [0, 1, 2, 3, 4] Facts.mixed (by kernel_rfl) rfl rfl rfl (by kernel_rfl) (phiT_mono ⟨eq_monoT _ _, eq_monoT _ _, (by rintro H1 H2 rs v hle ⟨v162, rfl, rfl, h163⟩; exact ⟨v162, rfl, rfl, (h163.mono hle)⟩), eq_monoT _ _, eq_monoT _ _, trivial⟩) ⟨?_, ?_, ?_, ?_, ?_, trivial⟩ ?_
        · intro HX hX X Rest hR
          intro hU hUp
          refine W_move rfl rfl rfl ?_
          exact W_end (OneT_end [] (Hp.le_refl _) ⟨rfl, rfl⟩)
        · intro HX hX X Rest hR
          intro hU hUp
          refine W_move rfl rfl rfl ?_
          exact W_end (OneT_end [] (Hp.le_refl _) ⟨rfl, rfl⟩)
        · intro HX hX X Rest hR
          rintro _ _ ⟨rfl, rfl⟩
          rintro _ _ ⟨rfl, rfl⟩
          intro hU hUp
          refine W_sliceR (α := S_api_InterlockState) (l := 0) (h := ((k102 : Int) : Int).toNat) (xs := p0_l) rfl rfl Proofs.Tryd.runUnderlying56 Proofs.Tryd.sizeOf55 rfl ((h0.mono hle142).mono hX) (by omega) (by omega) (.inl rfl) (fun cap hcap => by rw [if_pos rfl]; exact (.inl ⟨rfl, rfl⟩)) (fun m hmm => (.inr ⟨_, _, _, rfl, rfl, by omega, by omega, rfl⟩)) (.inl ⟨rfl, rfl⟩) ?_
          intro v162 h163 hc164
          exact W_end (OneT_end [] (Hp.le_refl _) ⟨v162, rfl, rfl, (h163)⟩)
        · intro HX hX X Rest hR
          intro hU hUp
          refine W_field (o := 0) rfl rfl Proofs.Tryd.runUnderlying55 rfl Proofs.Tryd.sizeOf9 rfl rfl rfl ?_
          exact W_end (OneT_end [] (Hp.le_refl _) ⟨rfl, rfl⟩)
        · intro HX hX X Rest hR
          rintro _ _ ⟨rfl, rfl⟩
          intro hU hUp
          refine W_load rfl rfl Proofs.Tryd.isAgg9 rfl (own_at (hR _ (List.mem_cons_self ..)) rfl) ?_
          exact W_end (OneT_end [] (Hp.le_refl _) ⟨rfl, rfl⟩)
        intro H165 hle166
        rintro _ _ ⟨rfl, rfl⟩
        rintro _ _ ⟨rfl, rfl⟩
        rintro _ _ ⟨v162, rfl, rfl, h163⟩
        rintro _ _ ⟨rfl, rfl⟩
        rintro _ _ ⟨rfl, rfl⟩
        obtain ⟨r167, hc168, hm⟩ := bind_some hm
        refine W_call Proofs.Tryd.call31 rfl rfl rfl (fun w ht => by have h := m_interlock_index_c (hm := hc168) h163 ht; exact h) ?_
        rintro _ _ _ ⟨rfl, rfl, rfl⟩
        refine W_bin rfl rfl rfl rfl rfl ?_
        refine W_assign rfl rfl rfl ?_
        refine W_end ?_
        refine E_then ?_
        refine C_cond (b := decide (0 ≤ r167)) rfl (fun hb169 => ?_) (fun hb169 => ?_)
        · have hm := ite_t' hb169 hm
          refine C_seq ?_
          refine C_region ?_
          refine W_assign rfl rfl rfl ?_
          refine W_end ?_
          refine E_then ?_
          refine C_ret ?_
          refine E_ret_block ?_
          refine E_ret_block ?_
          refine E_ret_then ?_
          refine E_ret_then ?_
          refine E_ret_block ?_
          refine E_ret_then ?_
          obtain rfl := Option.some.inj hm
          refine E_drop (List.Sublist.cons _ (List.Sublist.refl _)) ?_
          refine E_weak (Hp.le_trans hle142 hle166) ?_
          exact end1 rfl rfl ⟨rfl, rfl, rfl⟩
        · have hm := ite_f' hb169 hm
          refine C_skip ?_
          refine E_normal_block ?_
          refine E_normal_block ?_
          refine E_then ?_
          refine C_region ?_
          refine W_bin rfl rfl rfl rfl rfl ?_
          refine W_move rfl rfl rfl ?_
          refine W_end ?_
          refine E_drop (List.Sublist.cons _ (List.Sublist.refl _)) ?_
          exact E_keepJ (E_back (Nat.lt_succ_self _) ⟨k102 + 1, zs148, hd151, rfl, (by rw [hn145]; exact hm), (Hp.le_trans hle142 hle166), rfl, rfl⟩) (List.Perm.refl _) ⟨rfl, rfl, rfl, (congrArg (fun z => some (Value.int .i64 z)) (i64_succ hy149 ((h0.mono hle142)).lenMax)), trivial⟩
    · obtain rfl := rng_f hd150 hb152
      have hm : (some 0) = some r := hm
      refine C_exit (E_exit_then ?_)
      refine E_exit_then ?_
      refine E_exit_hit ?_
      refine E_then ?_
      refine C_seq ?_
      refine C_region ?_
      refine W_assign rfl rfl rfl ?_
      refine W_end ?_
      refine E_then ?_
      refine C_ret ?_
      obtain rfl := Option.some.inj hm
      refine E_weak hle142 ?_
      exact end1 rfl rfl ⟨rfl, rfl, rfl⟩

theorem m_interlock_holds_c {B : Nat} {w0 w : World} {H : Hp} {M : List Res} {p0_l : (List S_api_InterlockNode)} {states : (List S_api_InterlockState)} {v0 : Value} {v1 : Value} {r : Bool} (hm : m_interlock_holds p0_l states = some r) (h0 : RdS H v0 p0_l) (h1 : RdS H v1 states) (ht : St B w0 H (M) w) :
    Calls Proofs.Tryd.prog 32 [v0, v1].toArray w (Ret B w0 fun H' M' v => H = H' ∧ M = M' ∧ .bool (r) = v) := by
  unfold m_interlock_holds at hm
  refine enter Proofs.Tryd.func32 rfl rfl rfl ht ?_
  refine C_seq ?_
  refine C_region ?_
  refine W_assign rfl rfl rfl ?_
  refine W_end ?_
  refine E_then ?_
  refine C_seq ?_
  refine C_region ?_
  refine W_move rfl rfl rfl ?_
  refine W_lenR rfl rfl Proofs.Tryd.runUnderlying32 rfl h0 ?_
  obtain ⟨hz101, hm⟩ := need_some hm
  refine W_makeSlice (α := Bool) (zs := [.bool (false)]) (ze := false) rfl rfl Proofs.Tryd.underlying73 ⟨_, rfl, rfl, rfl, rfl⟩ rfl rfl rfl rfl rfl rfl hz101.1 hz101.2 ?_
  intro v102 xs103 hr104
  refine W_assign rfl rfl rfl ?_
  refine W_end ?_
  refine E_then ?_
  refine C_seq ?_
  refine C_seq ?_
  refine C_region ?_
  refine W_move rfl rfl rfl ?_
  refine W_lenR rfl rfl Proofs.Tryd.runUnderlying32 rfl h0 ?_
  refine W_move rfl rfl rfl ?_
  refine W_end ?_
  refine E_then ?_
  refine C_block ?_
  refine C_keep (L' := [(0, v0), (1, v1), (5, v102), (12, v0), (13, .int .i64 ((p0_l.length : Int))), (14, .int .i64 (((0 : Nat) : Int)))]) ⟨rfl, rfl, rfl, rfl, rfl, rfl, trivial⟩ (List.Perm.refl _) ?_
  refine C_loop (fun n H' M' L' => ∃ (k105 : Nat) (zs623' : List S_api_InterlockNode), ∃ l614 : List Bool, ∃ xs613 : List Value, (p0_l).drop k105 = zs623' ∧ zs623'.length = n ∧ forI (fun k y s618 n => m_interlock_holds_b3 states k y s618 n) (fun s618 => idx s618 (IntKind.i64.wrap ((p0_l.length : Int) - 1)) fun y877 => some y877) k105 zs623' l614 = some r ∧ Rw H' v102 xs613 l614 ∧ H.le H' ∧ .row v102 4 (Rep.sz Bool) l614.length xs613 :: M = M' ∧ [(0, v0), (1, v1), (5, v102), (12, v0), (13, .int .i64 ((p0_l.length : Int))), (14, .int .i64 ((k105 : Int)))] = L') _ ⟨0, _, (List.replicate ((p0_l.length : Int) : Int).toNat (false : Bool)), xs103, rfl, rfl, hm, hr104, (Hp.le_refl _), rfl, rfl⟩ ?_
  rintro _ H616 _ _ ⟨k105, zs623', l614, xs613, hd625, rfl, hm, hr615, hle617, rfl, rfl⟩
  refine C_seq ?_
  refine C_region ?_
  refine W_bin rfl rfl rfl rfl rfl ?_
  refine W_end (E_then ?_)
  refine C_seq ?_
  refine C_cond (b := decide ((k105 : Int) < (p0_l.length : Int))) rfl (fun hb627 => ?_) (fun hb627 => ?_)
  · obtain ⟨y622, zs623, rfl, hy624, hd626⟩ := rng_t hd625 hb627
    have hm : m_interlock_holds_b3 states k105 y622 l614 (forI (fun k y s618 n => m_interlock_holds_b3 states k y s618 n) (fun s618 => idx s618 (IntKind.i64.wrap ((p0_l.length : Int) - 1)) fun y877 => some y877) (k105 + 1) zs623) = some r := hm
    generalize hn620 : forI (fun k y s618 n => m_interlock_holds_b3 states k y s618 n) (fun s618 => idx s618 (IntKind.i64.wrap ((p0_l.length : Int) - 1)) fun y877 => some y877) (k105 + 1) zs623 = nx619 at hm
    unfold m_interlock_holds_b3 at hm
    refine C_skip (E_then ?_)
    refine C_seq_join (fun H' M' L' => ∃ l752 : List Bool, ∃ xs751 : List Value, m_interlock_holds_b4 nx619 l752 = some r ∧ Rw H' v102 xs751 l752 ∧ H616 = H' ∧ .row v102 4 (Rep.sz Bool) l752.length xs751 :: M = M' ∧ [(0, v0), (1, v1), (5, v102), (12, v0), (13, .int .i64 ((p0_l.length : Int))), (14, .int .i64 ((k105 : Int)))] = L') ?_ (fun J754 => ?_)
    · rintro _ _ _ ⟨l752, xs751, hm, hr753, rfl, rfl, rfl⟩
      unfold m_interlock_holds_b4 at hm
      refine C_region ?_
      refine W_bin rfl rfl rfl rfl rfl ?_
      refine W_move rfl rfl rfl ?_
      refine W_end ?_
      exact E_keepJ (E_back (Nat.lt_succ_self _) ⟨k105 + 1, zs623, l752, xs751, hd626, rfl, (by rw [hn620]; exact hm), hr753, hle617, rfl, rfl⟩) (List.Perm.refl _) ⟨rfl, rfl, rfl, rfl, rfl, (congrArg (fun z => some (Value.int .i64 z)) (i64_succ hy624 ((h0.mono hle617)).lenMax)), trivial⟩
    · refine C_block ?_
      refine C_seq ?_
      refine C_region ?_
      refine W_move rfl rfl rfl ?_
      obtain ⟨_, ⟨rfl⟩, hc755⟩ := (h0).elem hy624
      refine W_indexS rfl rfl Proofs.Tryd.runUnderlying32 Proofs.Tryd.sizeOf49 rfl (h0.mono hle617) rfl (Int.natCast_nonneg _) hy624 ?_
      refine W_loadAgg rfl rfl Proofs.Tryd.isAgg49 Proofs.Tryd.sizeOf49 rfl (hc755.mono hle617).at rfl ?_
      refine W_alloc (cs := [.int .i64 (0), .string (⟨#[]⟩), .int .i64 (0), .int .i64 (0)]) rfl rfl Proofs.Tryd.zeroValue49 rfl (fun b756 => ?_)
      refine W_assign rfl rfl rfl ?_
      refine W_store (cs := [.int .i64 (y622.Kind), .string (y622.Name), .int .i64 (y622.A), .int .i64 (y622.B_)]) (out := [.int .i64 (y622.Kind), .string (y622.Name), .int .i64 (y622.A), .int .i64 (y622.B_)]) rfl Proofs.Tryd.sizeOf49 rfl rfl rfl rfl rfl (all_cons rfl (all_cons rfl (all_cons rfl (all_cons rfl all_nil)))) (over_all rfl) ?_
      refine W_end ?_
      refine E_then ?_
      refine C_seq ?_
      refine C_region ?_
      refine W_move rfl rfl rfl ?_
      refine W_field (o := 1) rfl rfl Proofs.Tryd.runUnderlying49 rfl Proofs.Tryd.sizeOf9 rfl rfl rfl ?_
      refine W_load rfl rfl Proofs.Tryd.isAgg9 rfl (own_at (List.mem_cons_self ..) rfl) ?_
      obtain ⟨r757, hc758, hm⟩ := bind_some hm
      refine W_call Proofs.Tryd.call31 rfl rfl rfl (fun w ht => by have h := m_interlock_index_c (hm := hc758) (h1.mono hle617) ht; exact h) ?_
      rintro _ _ _ ⟨rfl, rfl, rfl⟩
      refine W_assign rfl rfl rfl ?_
      refine W_end ?_
      refine E_then ?_
      refine C_seq ?_
      refine C_region ?_
      refine W_field (o := 0) rfl rfl Proofs.Tryd.runUnderlying49 rfl Proofs.Tryd.sizeOf3 rfl rfl rfl ?_
      refine W_load rfl rfl Proofs.Tryd.isAgg3 rfl (own_at (List.mem_cons_self ..) rfl) ?_
      refine W_end ?_
      refine E_then ?_
      refine C_block ?_
      refine C_seq ?_
      refine C_region ?_
      refine W_bin rfl rfl rfl rfl rfl ?_
      refine W_assign rfl rfl rfl ?_
      refine W_end ?_
      refine E_then ?_
      refine C_cond (b := decide (y622.Kind = 0)) rfl (fun hb759 => ?_) (fun hb759 => ?_)
      · have hm := ite_t' hb759 hm
        refine C_region ?_
        refine W_move rfl rfl rfl ?_
        refine W_move rfl rfl rfl ?_
        obtain ⟨y760, h761, he762, hm⟩ := idx_some hm
        refine W_indexO (List.mem_cons_of_mem _ (List.mem_cons_self ..)) rfl rfl Proofs.Tryd.runUnderlying73 Proofs.Tryd.sizeOf4 rfl rfl h761 (List.getElem?_eq_some_iff.1 he762).1 ?_
        obtain ⟨_, rfl, hg763⟩ := (hr615).elem he762
        refine W_perm (List.Perm.swap _ _ _) ?_
        obtain ⟨hr764, he765, hg766⟩ := Rw.put (cs := [.bool (true)]) (o := 0) (c := [.bool (y760)]) (out := [.bool (true)]) (e2 := true) hr615 he762 rfl hg763 rfl rfl rfl
        refine W_storeO2 (i := ((k105 : Int) : Int).toNat * Rep.sz Bool + 0) (cs := [.bool (true)]) rfl Proofs.Tryd.sizeOf4 rfl (row_ad0 _ _) rfl rfl rfl (Rw.room hr615 he762 rfl) rfl (all_cons rfl all_nil) (n' := (l614.set (((k105 : Int) : Int).toNat) true).length) List.length_set ?_
        generalize over xs613 (((k105 : Int) : Int).toNat * Rep.sz Bool + 0) [.bool (true)] = xs767 at hr764 hg766 ⊢
        refine W_end ?_
        refine E_normal_block ?_
        refine E_normal_block ?_
        refine E_drop (List.Sublist.cons_cons _ (List.Sublist.cons _ (List.Sublist.refl _))) ?_
        exact E_keepJ (J754 _ _ _ ⟨(l614.set (((k105 : Int) : Int).toNat) true), xs767, hm, hr764, rfl, rfl, rfl⟩) (List.Perm.refl _) ⟨rfl, rfl, rfl, rfl, rfl, rfl, trivial⟩
      · have hm := ite_f' hb759 hm
        refine C_seq ?_
        refine C_region ?_
        refine W_bin rfl rfl rfl rfl rfl ?_
        refine W_assign rfl rfl rfl ?_
        refine W_end ?_
        refine E_then ?_
        refine C_cond (b := decide (y622.Kind = 2)) rfl (fun hb768 => ?_) (fun hb768 => ?_)
        · have hm := ite_t' hb768 hm
          refine C_region ?_
          refine W_move rfl rfl rfl ?_
          refine W_move rfl rfl rfl ?_
          refine W_move rfl rfl rfl ?_
          refine W_bin rfl rfl rfl rfl rfl ?_
          refine W_move rfl rfl rfl ?_
          cases hb769 : (decide (0 ≤ r757))
          · have hm := ite_f' hb769 hm
            refine W_no rfl rfl rfl ?_
            refine W_no rfl rfl rfl ?_
            refine W_no rfl rfl rfl ?_
            refine W_no rfl rfl rfl ?_
            refine W_no rfl rfl rfl ?_
            refine W_no rfl rfl rfl ?_
            refine W_pick rfl rfl rfl rfl ?_
            obtain ⟨y770, h771, he772, hm⟩ := idx_some hm
            refine W_indexO (List.mem_cons_of_mem _ (List.mem_cons_self ..)) rfl rfl Proofs.Tryd.runUnderlying73 Proofs.Tryd.sizeOf4 rfl rfl h771 (List.getElem?_eq_some_iff.1 he772).1 ?_
            obtain ⟨_, rfl, hg773⟩ := (hr615).elem he772
            refine W_perm (List.Perm.swap _ _ _) ?_
            obtain ⟨hr774, he775, hg776⟩ := Rw.put (cs := [.bool (false)]) (o := 0) (c := [.bool (y770)]) (out := [.bool (false)]) (e2 := false) hr615 he772 rfl hg773 rfl rfl rfl
            refine W_storeO2 (i := ((k105 : Int) : Int).toNat * Rep.sz Bool + 0) (cs := [.bool (false)]) rfl Proofs.Tryd.sizeOf4 rfl (row_ad0 _ _) rfl rfl rfl (Rw.room hr615 he772 rfl) rfl (all_cons rfl all_nil) (n' := (l614.set (((k105 : Int) : Int).toNat) false).length) List.length_set ?_
            generalize over xs613 (((k105 : Int) : Int).toNat * Rep.sz Bool + 0) [.bool (false)] = xs777 at hr774 hg776 ⊢
            refine W_end ?_
            refine E_normal_block ?_
            refine E_normal_block ?_
            refine E_drop (List.Sublist.cons_cons _ (List.Sublist.cons _ (List.Sublist.refl _))) ?_
            exact E_keepJ (J754 _ _ _ ⟨(l614.set (((k105 : Int) : Int).toNat) false), xs777, hm, hr774, rfl, rfl, rfl⟩) (List.Perm.refl _) ⟨rfl, rfl, rfl, rfl, rfl, rfl, trivial⟩
          · have hm := ite_t' hb769 hm
            refine W_move rfl rfl rfl ?_
            refine W_move rfl rfl rfl ?_
            obtain ⟨y778, h779, he780, hm⟩ := idx_some hm
            obtain ⟨_, ⟨rfl⟩, hc781⟩ := (h1).elem he780
            refine W_indexS rfl rfl Proofs.Tryd.runUnderlying56 Proofs.Tryd.sizeOf55 rfl (h1.mono hle617) rfl h779 he780 ?_
            refine W_field (o := 1) rfl rfl Proofs.Tryd.runUnderlying55 rfl Proofs.Tryd.sizeOf4 rfl rfl rfl ?_
            refine W_load rfl rfl Proofs.Tryd.isAgg4 rfl (HCells.one (hc781.mono hle617) 1 rfl).at ?_
            refine W_un rfl rfl rfl rfl ?_
            refine W_pick rfl rfl rfl rfl ?_
            obtain ⟨y782, h783, he784, hm⟩ := idx_some hm
            refine W_indexO (List.mem_cons_of_mem _ (List.mem_cons_self ..)) rfl rfl Proofs.Tryd.runUnderlying73 Proofs.Tryd.sizeOf4 rfl rfl h783 (List.getElem?_eq_some_iff.1 he784).1 ?_
            obtain ⟨_, rfl, hg785⟩ := (hr615).elem he784
            refine W_perm (List.Perm.swap _ _ _) ?_
            obtain ⟨hr786, he787, hg788⟩ := Rw.put (cs := [.bool (!y778.Closed)]) (o := 0) (c := [.bool (y782)]) (out := [.bool (!y778.Closed)]) (e2 := (!y778.Closed)) hr615 he784 rfl hg785 rfl rfl rfl
            refine W_storeO2 (i := ((k105 : Int) : Int).toNat * Rep.sz Bool + 0) (cs := [.bool (!y778.Closed)]) rfl Proofs.Tryd.sizeOf4 rfl (row_ad0 _ _) rfl rfl rfl (Rw.room hr615 he784 rfl) rfl (all_cons rfl all_nil) (n' := (l614.set (((k105 : Int) : Int).toNat) (!y778.Closed)).length) List.length_set ?_
            generalize over xs613 (((k105 : Int) : Int).toNat * Rep.sz Bool + 0) [.bool (!y778.Closed)] = xs789 at hr786 hg788 ⊢
            refine W_end ?_
            refine E_normal_block ?_
            refine E_normal_block ?_
            refine E_drop (List.Sublist.cons_cons _ (List.Sublist.cons _ (List.Sublist.refl _))) ?_
            exact E_keepJ (J754 _ _ _ ⟨(l614.set (((k105 : Int) : Int).toNat) (!y778.Closed)), xs789, hm, hr786, rfl, rfl, rfl⟩) (List.Perm.refl _) ⟨rfl, rfl, rfl, rfl, rfl, rfl, trivial⟩
        · have hm := ite_f' hb768 hm
          refine C_seq ?_
          refine C_region ?_
          refine W_bin rfl rfl rfl rfl rfl ?_
          refine W_assign rfl rfl rfl ?_
          refine W_end ?_
          refine E_then ?_
          refine C_cond (b := decide (y622.Kind = 3)) rfl (fun hb790 => ?_) (fun hb790 => ?_)
          · have hm := ite_t' hb790 hm
            refine C_region ?_
            refine W_move rfl rfl rfl ?_
            refine W_move rfl rfl rfl ?_
            refine W_move rfl rfl rfl ?_
            refine W_bin rfl rfl rfl rfl rfl ?_
            refine W_move rfl rfl rfl ?_
            cases hb791 : (decide (0 ≤ r757))
            · have hm := ite_f' hb791 hm
              refine W_no rfl rfl rfl ?_
              refine W_no rfl rfl rfl ?_
              refine W_no rfl rfl rfl ?_
              refine W_no rfl rfl rfl ?_
              refine W_no rfl rfl rfl ?_
              refine W_pick rfl rfl rfl rfl ?_
              obtain ⟨y792, h793, he794, hm⟩ := idx_some hm
              refine W_indexO (List.mem_cons_of_mem _ (List.mem_cons_self ..)) rfl rfl Proofs.Tryd.runUnderlying73 Proofs.Tryd.sizeOf4 rfl rfl h793 (List.getElem?_eq_some_iff.1 he794).1 ?_
              obtain ⟨_, rfl, hg795⟩ := (hr615).elem he794
              refine W_perm (List.Perm.swap _ _ _) ?_
              obtain ⟨hr796, he797, hg798⟩ := Rw.put (cs := [.bool (false)]) (o := 0) (c := [.bool (y792)]) (out := [.bool (false)]) (e2 := false) hr615 he794 rfl hg795 rfl rfl rfl
              refine W_storeO2 (i := ((k105 : Int) : Int).toNat * Rep.sz Bool + 0) (cs := [.bool (false)]) rfl Proofs.Tryd.sizeOf4 rfl (row_ad0 _ _) rfl rfl rfl (Rw.room hr615 he794 rfl) rfl (all_cons rfl all_nil) (n' := (l614.set (((k105 : Int) : Int).toNat) false).length) List.length_set ?_
              generalize over xs613 (((k105 : Int) : Int).toNat * Rep.sz Bool + 0) [.bool (false)] = xs799 at hr796 hg798 ⊢
              refine W_end ?_
              refine E_normal_block ?_
              refine E_normal_block ?_
              refine E_drop (List.Sublist.cons_cons _ (List.Sublist.cons _ (List.Sublist.refl _))) ?_
              exact E_keepJ (J754 _ _ _ ⟨(l614.set (((k105 : Int) : Int).toNat) false), xs799, hm, hr796, rfl, rfl, rfl⟩) (List.Perm.refl _) ⟨rfl, rfl, rfl, rfl, rfl, rfl, trivial⟩
            · have hm := ite_t' hb791 hm
              refine W_move rfl rfl rfl ?_
              refine W_move rfl rfl rfl ?_
              obtain ⟨y800, h801, he802, hm⟩ := idx_some hm
              obtain ⟨_, ⟨rfl⟩, hc803⟩ := (h1).elem he802
              refine W_indexS rfl rfl Proofs.Tryd.runUnderlying56 Proofs.Tryd.sizeOf55 rfl (h1.mono hle617) rfl h801 he802 ?_
              refine W_field (o := 1) rfl rfl Proofs.Tryd.runUnderlying55 rfl Proofs.Tryd.sizeOf4 rfl rfl rfl ?_
              refine W_load rfl rfl Proofs.Tryd.isAgg4 rfl (HCells.one (hc803.mono hle617) 1 rfl).at ?_
              refine W_pick rfl rfl rfl rfl ?_
              obtain ⟨y804, h805, he806, hm⟩ := idx_some hm
              refine W_indexO (List.mem_cons_of_mem _ (List.mem_cons_self ..)) rfl rfl Proofs.Tryd.runUnderlying73 Proofs.Tryd.sizeOf4 rfl rfl h805 (List.getElem?_eq_some_iff.1 he806).1 ?_
              obtain ⟨_, rfl, hg807⟩ := (hr615).elem he806
              refine W_perm (List.Perm.swap _ _ _) ?_
              obtain ⟨hr808, he809, hg810⟩ := Rw.put (cs := [.bool (y800.Closed)]) (o := 0) (c := [.bool (y804)]) (out := [.bool (y800.Closed)]) (e2 := y800.Closed) hr615 he806 rfl hg807 rfl rfl rfl
              refine W_storeO2 (i := ((k105 : Int) : Int).toNat * Rep.sz Bool + 0) (cs := [.bool (y800.Closed)]) rfl Proofs.Tryd.sizeOf4 rfl (row_ad0 _ _) rfl rfl rfl (Rw.room hr615 he806 rfl) rfl (all_cons rfl all_nil) (n' := (l614.set (((k105 : Int) : Int).toNat) y800.Closed).length) List.length_set ?_
              generalize over xs613 (((k105 : Int) : Int).toNat * Rep.sz Bool + 0) [.bool (y800.Closed)] = xs811 at hr808 hg810 ⊢
              refine W_end ?_
              refine E_normal_block ?_
              refine E_normal_block ?_
              refine E_drop (List.Sublist.cons_cons _ (List.Sublist.cons _ (List.Sublist.refl _))) ?_
              exact E_keepJ (J754 _ _ _ ⟨(l614.set (((k105 : Int) : Int).toNat) y800.Closed), xs811, hm, hr808, rfl, rfl, rfl⟩) (List.Perm.refl _) ⟨rfl, rfl, rfl, rfl, rfl, rfl, trivial⟩
          · have hm := ite_f' hb790 hm
            refine C_seq ?_
            refine C_region ?_
            refine W_bin rfl rfl rfl rfl rfl ?_
            refine W_assign rfl rfl rfl ?_
            refine W_end ?_
            refine E_then ?_
            refine C_cond (b := decide (y622.Kind = 4)) rfl (fun hb812 => ?_) (fun hb812 => ?_)
            · have hm := ite_t' hb812 hm
              refine C_region ?_
              refine W_move rfl rfl rfl ?_
              refine W_move rfl rfl rfl ?_
              refine W_move rfl rfl rfl ?_
              refine W_field (o := 2) rfl rfl Proofs.Tryd.runUnderlying49 rfl Proofs.Tryd.sizeOf3 rfl rfl rfl ?_
              refine W_load rfl rfl Proofs.Tryd.isAgg3 rfl (own_at (List.mem_cons_self ..) rfl) ?_
              obtain ⟨y813, h814, he815, hm⟩ := idx_some hm
              refine W_indexO (List.mem_cons_of_mem _ (List.mem_cons_self ..)) rfl rfl Proofs.Tryd.runUnderlying73 Proofs.Tryd.sizeOf4 rfl rfl h814 (List.getElem?_eq_some_iff.1 he815).1 ?_
              obtain ⟨_, rfl, hg816⟩ := (hr615).elem he815
              refine W_load rfl rfl Proofs.Tryd.isAgg4 rfl (row_one0 (List.mem_cons_of_mem _ (List.mem_cons_self ..)) hg816 rfl) ?_
              refine W_un rfl rfl rfl rfl ?_
              obtain ⟨y817, h818, he819, hm⟩ := idx_some hm
              refine W_indexO (List.mem_cons_of_mem _ (List.mem_cons_self ..)) rfl rfl Proofs.Tryd.runUnderlying73 Proofs.Tryd.sizeOf4 rfl rfl h818 (List.getElem?_eq_some_iff.1 he819).1 ?_
              obtain ⟨_, rfl, hg820⟩ := (hr615).elem he819
              refine W_perm (List.Perm.swap _ _ _) ?_
              obtain ⟨hr821, he822, hg823⟩ := Rw.put (cs := [.bool (!y813)]) (o := 0) (c := [.bool (y817)]) (out := [.bool (!y813)]) (e2 := (!y813)) hr615 he819 rfl hg820 rfl rfl rfl
              refine W_storeO2 (i := ((k105 : Int) : Int).toNat * Rep.sz Bool + 0) (cs := [.bool (!y813)]) rfl Proofs.Tryd.sizeOf4 rfl (row_ad0 _ _) rfl rfl rfl (Rw.room hr615 he819 rfl) rfl (all_cons rfl all_nil) (n' := (l614.set (((k105 : Int) : Int).toNat) (!y813)).length) List.length_set ?_
              generalize over xs613 (((k105 : Int) : Int).toNat * Rep.sz Bool + 0) [.bool (!y813)] = xs824 at hr821 hg823 ⊢
              refine W_end ?_
              refine E_normal_block ?_
              refine E_normal_block ?_
              refine E_drop (List.Sublist.cons_cons _ (List.Sublist.cons _ (List.Sublist.refl _))) ?_
              exact E_keepJ (J754 _ _ _ ⟨(l614.set (((k105 : Int) : Int).toNat) (!y813)), xs824, hm, hr821, rfl, rfl, rfl⟩) (List.Perm.refl _) ⟨rfl, rfl, rfl, rfl, rfl, rfl, trivial⟩
            · have hm := ite_f' hb812 hm
              refine C_seq ?_
              refine C_region ?_
              refine W_bin rfl rfl rfl rfl rfl ?_
              refine W_assign rfl rfl rfl ?_
              refine W_end ?_
              refine E_then ?_
              refine C_cond (b := decide (y622.Kind = 5)) rfl (fun hb825 => ?_) (fun hb825 => ?_)
              · have hm := ite_t' hb825 hm
                refine C_region ?_
                refine W_move rfl rfl rfl ?_
                refine W_move rfl rfl rfl ?_
                refine W_move rfl rfl rfl ?_
                refine W_field (o := 2) rfl rfl Proofs.Tryd.runUnderlying49 rfl Proofs.Tryd.sizeOf3 rfl rfl rfl ?_
                refine W_load rfl rfl Proofs.Tryd.isAgg3 rfl (own_at (List.mem_cons_self ..) rfl) ?_
                obtain ⟨y826, h827, he828, hm⟩ := idx_some hm
                refine W_indexO (List.mem_cons_of_mem _ (List.mem_cons_self ..)) rfl rfl Proofs.Tryd.runUnderlying73 Proofs.Tryd.sizeOf4 rfl rfl h827 (List.getElem?_eq_some_iff.1 he828).1 ?_
                obtain ⟨_, rfl, hg829⟩ := (hr615).elem he828
                refine W_load rfl rfl Proofs.Tryd.isAgg4 rfl (row_one0 (List.mem_cons_of_mem _ (List.mem_cons_self ..)) hg829 rfl) ?_
                refine W_move rfl rfl rfl ?_
                cases hb830 : (y826)
                · have hm := ite_f' hb830 hm
                  refine W_no rfl rfl rfl ?_
                  refine W_no rfl rfl rfl ?_
                  refine W_no rfl rfl rfl ?_
                  refine W_no rfl rfl rfl ?_
                  refine W_no rfl rfl rfl ?_
                  refine W_pick rfl rfl rfl rfl ?_
                  obtain ⟨y831, h832, he833, hm⟩ := idx_some hm
                  refine W_indexO (List.mem_cons_of_mem _ (List.mem_cons_self ..)) rfl rfl Proofs.Tryd.runUnderlying73 Proofs.Tryd.sizeOf4 rfl rfl h832 (List.getElem?_eq_some_iff.1 he833).1 ?_
                  obtain ⟨_, rfl, hg834⟩ := (hr615).elem he833
                  refine W_perm (List.Perm.swap _ _ _) ?_
                  obtain ⟨hr835, he836, hg837⟩ := Rw.put (cs := [.bool (false)]) (o := 0) (c := [.bool (y831)]) (out := [.bool (false)]) (e2 := false) hr615 he833 rfl hg834 rfl rfl rfl
                  refine W_storeO2 (i := ((k105 : Int) : Int).toNat * Rep.sz Bool + 0) (cs := [.bool (false)]) rfl Proofs.Tryd.sizeOf4 rfl (row_ad0 _ _) rfl rfl rfl (Rw.room hr615 he833 rfl) rfl (all_cons rfl all_nil) (n' := (l614.set (((k105 : Int) : Int).toNat) false).length) List.length_set ?_
                  generalize over xs613 (((k105 : Int) : Int).toNat * Rep.sz Bool + 0) [.bool (false)] = xs838 at hr835 hg837 ⊢
                  refine W_end ?_
                  refine E_normal_block ?_
                  refine E_normal_block ?_
                  refine E_drop (List.Sublist.cons_cons _ (List.Sublist.cons _ (List.Sublist.refl _))) ?_
                  exact E_keepJ (J754 _ _ _ ⟨(l614.set (((k105 : Int) : Int).toNat) false), xs838, hm, hr835, rfl, rfl, rfl⟩) (List.Perm.refl _) ⟨rfl, rfl, rfl, rfl, rfl, rfl, trivial⟩
                · have hm := ite_t' hb830 hm
                  refine W_move rfl rfl rfl ?_
                  refine W_field (o := 3) rfl rfl Proofs.Tryd.runUnderlying49 rfl Proofs.Tryd.sizeOf3 rfl rfl rfl ?_
                  refine W_load rfl rfl Proofs.Tryd.isAgg3 rfl (own_at (List.mem_cons_self ..) rfl) ?_
                  obtain ⟨y839, h840, he841, hm⟩ := idx_some hm
                  refine W_indexO (List.mem_cons_of_mem _ (List.mem_cons_self ..)) rfl rfl Proofs.Tryd.runUnderlying73 Proofs.Tryd.sizeOf4 rfl rfl h840 (List.getElem?_eq_some_iff.1 he841).1 ?_
                  obtain ⟨_, rfl, hg842⟩ := (hr615).elem he841
                  refine W_load rfl rfl Proofs.Tryd.isAgg4 rfl (row_one0 (List.mem_cons_of_mem _ (List.mem_cons_self ..)) hg842 rfl) ?_
                  refine W_pick rfl rfl rfl rfl ?_
                  obtain ⟨y843, h844, he845, hm⟩ := idx_some hm
                  refine W_indexO (List.mem_cons_of_mem _ (List.mem_cons_self ..)) rfl rfl Proofs.Tryd.runUnderlying73 Proofs.Tryd.sizeOf4 rfl rfl h844 (List.getElem?_eq_some_iff.1 he845).1 ?_
                  obtain ⟨_, rfl, hg846⟩ := (hr615).elem he845
                  refine W_perm (List.Perm.swap _ _ _) ?_
                  obtain ⟨hr847, he848, hg849⟩ := Rw.put (cs := [.bool (y839)]) (o := 0) (c := [.bool (y843)]) (out := [.bool (y839)]) (e2 := y839) hr615 he845 rfl hg846 rfl rfl rfl
                  refine W_storeO2 (i := ((k105 : Int) : Int).toNat * Rep.sz Bool + 0) (cs := [.bool (y839)]) rfl Proofs.Tryd.sizeOf4 rfl (row_ad0 _ _) rfl rfl rfl (Rw.room hr615 he845 rfl) rfl (all_cons rfl all_nil) (n' := (l614.set (((k105 : Int) : Int).toNat) y839).length) List.length_set ?_
                  generalize over xs613 (((k105 : Int) : Int).toNat * Rep.sz Bool + 0) [.bool (y839)] = xs850 at hr847 hg849 ⊢
                  refine W_end ?_
                  refine E_normal_block ?_
                  refine E_normal_block ?_
                  refine E_drop (List.Sublist.cons_cons _ (List.Sublist.cons _ (List.Sublist.refl _))) ?_
                  exact E_keepJ (J754 _ _ _ ⟨(l614.set (((k105 : Int) : Int).toNat) y839), xs850, hm, hr847, rfl, rfl, rfl⟩) (List.Perm.refl _) ⟨rfl, rfl, rfl, rfl, rfl, rfl, trivial⟩
              · have hm := ite_f' hb825 hm
                refine C_seq ?_
                refine C_region ?_
                refine W_bin rfl rfl rfl rfl rfl ?_
                refine W_assign rfl rfl rfl ?_
                refine W_end ?_
                refine E_then ?_
                refine C_cond (b := decide (y622.Kind = 6)) rfl (fun hb851 => ?_) (fun hb851 => ?_)
                · have hm := ite_t' hb851 hm
                  refine C_region ?_
                  refine W_move rfl rfl rfl ?_
                  refine W_move rfl rfl rfl ?_
                  refine W_move rfl rfl rfl ?_
                  refine W_field (o := 2) rfl rfl Proofs.Tryd.runUnderlying49 rfl Proofs.Tryd.sizeOf3 rfl rfl rfl ?_
                  refine W_load rfl rfl Proofs.Tryd.isAgg3 rfl (own_at (List.mem_cons_self ..) rfl) ?_
                  obtain ⟨y852, h853, he854, hm⟩ := idx_some hm
                  refine W_indexO (List.mem_cons_of_mem _ (List.mem_cons_self ..)) rfl rfl Proofs.Tryd.runUnderlying73 Proofs.Tryd.sizeOf4 rfl rfl h853 (List.getElem?_eq_some_iff.1 he854).1 ?_
                  obtain ⟨_, rfl, hg855⟩ := (hr615).elem he854
                  refine W_load rfl rfl Proofs.Tryd.isAgg4 rfl (row_one0 (List.mem_cons_of_mem _ (List.mem_cons_self ..)) hg855 rfl) ?_
                  refine W_move rfl rfl rfl ?_
                  cases hb856 : (y852)
                  · have hm := ite_f' hb856 hm
                    refine W_move rfl rfl rfl ?_
                    refine W_field (o := 3) rfl rfl Proofs.Tryd.runUnderlying49 rfl Proofs.Tryd.sizeOf3 rfl rfl rfl ?_
                    refine W_load rfl rfl Proofs.Tryd.isAgg3 rfl (own_at (List.mem_cons_self ..) rfl) ?_
                    obtain ⟨y857, h858, he859, hm⟩ := idx_some hm
                    refine W_indexO (List.mem_cons_of_mem _ (List.mem_cons_self ..)) rfl rfl Proofs.Tryd.runUnderlying73 Proofs.Tryd.sizeOf4 rfl rfl h858 (List.getElem?_eq_some_iff.1 he859).1 ?_
                    obtain ⟨_, rfl, hg860⟩ := (hr615).elem he859
                    refine W_load rfl rfl Proofs.Tryd.isAgg4 rfl (row_one0 (List.mem_cons_of_mem _ (List.mem_cons_self ..)) hg860 rfl) ?_
                    refine W_pick rfl rfl rfl rfl ?_
                    obtain ⟨y861, h862, he863, hm⟩ := idx_some hm
                    refine W_indexO (List.mem_cons_of_mem _ (List.mem_cons_self ..)) rfl rfl Proofs.Tryd.runUnderlying73 Proofs.Tryd.sizeOf4 rfl rfl h862 (List.getElem?_eq_some_iff.1 he863).1 ?_
                    obtain ⟨_, rfl, hg864⟩ := (hr615).elem he863
                    refine W_perm (List.Perm.swap _ _ _) ?_
                    obtain ⟨hr865, he866, hg867⟩ := Rw.put (cs := [.bool (y857)]) (o := 0) (c := [.bool (y861)]) (out := [.bool (y857)]) (e2 := y857) hr615 he863 rfl hg864 rfl rfl rfl
                    refine W_storeO2 (i := ((k105 : Int) : Int).toNat * Rep.sz Bool + 0) (cs := [.bool (y857)]) rfl Proofs.Tryd.sizeOf4 rfl (row_ad0 _ _) rfl rfl rfl (Rw.room hr615 he863 rfl) rfl (all_cons rfl all_nil) (n' := (l614.set (((k105 : Int) : Int).toNat) y857).length) List.length_set ?_
                    generalize over xs613 (((k105 : Int) : Int).toNat * Rep.sz Bool + 0) [.bool (y857)] = xs868 at hr865 hg867 ⊢
                    refine W_end ?_
                    refine E_normal_block ?_
                    refine E_normal_block ?_
                    refine E_drop (List.Sublist.cons_cons _ (List.Sublist.cons _ (List.Sublist.refl _))) ?_
                    exact E_keepJ (J754 _ _ _ ⟨(l614.set (((k105 : Int) : Int).toNat) y857), xs868, hm, hr865, rfl, rfl, rfl⟩) (List.Perm.refl _) ⟨rfl, rfl, rfl, rfl, rfl, rfl, trivial⟩
                  · have hm := ite_t' hb856 hm
                    refine W_no rfl rfl rfl ?_
                    refine W_no rfl rfl rfl ?_
                    refine W_no rfl rfl rfl ?_
                    refine W_no rfl rfl rfl ?_
                    refine W_no rfl rfl rfl ?_
                    refine W_pick rfl rfl rfl rfl ?_
                    obtain ⟨y869, h870, he871, hm⟩ := idx_some hm
                    refine W_indexO (List.mem_cons_of_mem _ (List.mem_cons_self ..)) rfl rfl Proofs.Tryd.runUnderlying73 Proofs.Tryd.sizeOf4 rfl rfl h870 (List.getElem?_eq_some_iff.1 he871).1 ?_
                    obtain ⟨_, rfl, hg872⟩ := (hr615).elem he871
                    refine W_perm (List.Perm.swap _ _ _) ?_
                    obtain ⟨hr873, he874, hg875⟩ := Rw.put (cs := [.bool (true)]) (o := 0) (c := [.bool (y869)]) (out := [.bool (true)]) (e2 := true) hr615 he871 rfl hg872 rfl rfl rfl
                    refine W_storeO2 (i := ((k105 : Int) : Int).toNat * Rep.sz Bool + 0) (cs := [.bool (true)]) rfl Proofs.Tryd.sizeOf4 rfl (row_ad0 _ _) rfl rfl rfl (Rw.room hr615 he871 rfl) rfl (all_cons rfl all_nil) (n' := (l614.set (((k105 : Int) : Int).toNat) true).length) List.length_set ?_
                    generalize over xs613 (((k105 : Int) : Int).toNat * Rep.sz Bool + 0) [.bool (true)] = xs876 at hr873 hg875 ⊢
                    refine W_end ?_
                    refine E_normal_block ?_
                    refine E_normal_block ?_
                    refine E_drop (List.Sublist.cons_cons _ (List.Sublist.cons _ (List.Sublist.refl _))) ?_
                    exact E_keepJ (J754 _ _ _ ⟨(l614.set (((k105 : Int) : Int).toNat) true), xs876, hm, hr873, rfl, rfl, rfl⟩) (List.Perm.refl _) ⟨rfl, rfl, rfl, rfl, rfl, rfl, trivial⟩
                · have hm := ite_f' hb851 hm
                  refine C_skip ?_
                  refine E_normal_block ?_
                  refine E_normal_block ?_
                  refine E_drop (List.Sublist.cons _ (List.Sublist.refl _)) ?_
                  exact E_keepJ (J754 _ _ _ ⟨l614, xs613, hm, hr615, rfl, rfl, rfl⟩) (List.Perm.refl _) ⟨rfl, rfl, rfl, rfl, rfl, rfl, trivial⟩
  · obtain rfl := rng_f hd625 hb627
    have hm : (idx l614 (IntKind.i64.wrap ((p0_l.length : Int) - 1)) fun y877 => some y877) = some r := hm
    refine C_exit (E_exit_then ?_)
    refine E_exit_then ?_
    refine E_exit_hit ?_
    refine E_then ?_
    refine C_seq ?_
    refine C_region ?_
    refine W_move rfl rfl rfl ?_
    refine W_move rfl rfl rfl ?_
    refine W_lenR rfl rfl Proofs.Tryd.runUnderlying32 rfl (h0.mono hle617) ?_
    refine W_bin rfl rfl rfl rfl rfl ?_
    obtain ⟨y877, h878, he879, hm⟩ := idx_some hm
    refine W_indexO (List.mem_cons_self ..) rfl rfl Proofs.Tryd.runUnderlying73 Proofs.Tryd.sizeOf4 rfl rfl h878 (List.getElem?_eq_some_iff.1 he879).1 ?_
    obtain ⟨_, rfl, hg880⟩ := (hr615).elem he879
    refine W_load rfl rfl Proofs.Tryd.isAgg4 rfl (row_one0 (List.mem_cons_self ..) hg880 rfl) ?_
    refine W_assign rfl rfl rfl ?_
    refine W_end ?_
    refine E_then ?_
    refine C_ret ?_
    obtain rfl := Option.some.inj hm
    refine E_drop (List.Sublist.cons _ (List.Sublist.refl _)) ?_
    refine E_weak hle617 ?_
    exact end1 rfl rfl ⟨rfl, rfl, rfl⟩

theorem m_interlock_Explain_c {B : Nat} {w0 w : World} {H : Hp} {M : List Res} {p0_l : (List S_api_InterlockRule)} {states : (List S_api_InterlockState)} {closing : Bool} {name : ByteArray} {v0 : Value} {v1 : Value} {r : (List Int) × Int} (hm : m_interlock_Explain p0_l states closing name = some r) (h0 : RdS H v0 p0_l) (h1 : RdS H v1 states) (ht : St B w0 H (M) w) :
    Calls Proofs.Tryd.prog 19 [v0, v1, .bool (closing), .string (name)].toArray w (Ret B w0 fun H' M' v => H = H' ∧ ∃ qv0 : Value, ∃ qxs0 : List Value, .row qv0 3 (Rep.sz Int) r.1.length qxs0 :: M = M' ∧ .tuple #[qv0, .int .i64 (r.2)] = v ∧ RwF qv0 qxs0 r.1) := by
  unfold m_interlock_Explain at hm
  refine enter Proofs.Tryd.func19 rfl rfl rfl ht ?_
  refine C_seq ?_
  refine C_region ?_
  refine W_assign rfl rfl rfl ?_
  refine W_assign rfl rfl rfl ?_
  refine W_end ?_
  refine E_then ?_
  refine C_seq ?_
  refine C_seq ?_
  refine C_region ?_
  refine W_move rfl rfl rfl ?_
  obtain ⟨r101, hc102, hm⟩ := bind_some hm
  refine W_call Proofs.Tryd.call8 rfl rfl rfl (fun w ht => by have h := m_interlock_Check_c (hm := hc102) h0 ht; exact h) ?_
  rintro _ _ _ ⟨rfl, rfl, rfl⟩
  refine W_assign rfl rfl rfl ?_
  refine W_end ?_
  refine E_then ?_
  refine C_seq ?_
  refine C_region ?_
  refine W_move rfl rfl rfl ?_
  refine W_bin rfl rfl rfl rfl rfl ?_
  refine W_end ?_
  refine E_then ?_
  refine C_cond (b := !decide (r101 = 0)) rfl (fun hb103 => ?_) (fun hb103 => ?_)
  · have hm := ite_t' hb103 hm
    refine C_seq ?_
    refine C_region ?_
    refine W_move rfl rfl rfl ?_
    refine W_assign rfl rfl rfl ?_
    refine W_assign rfl rfl rfl ?_
    refine W_end ?_
    refine E_then ?_
    refine C_ret ?_
    refine E_ret_then ?_
    refine E_nilRow 3 (Rep.sz Int) ?_
    obtain rfl := Option.some.inj hm
    refine E_weak (Hp.le_refl _) ?_
    exact end2 rfl rfl rfl ⟨rfl, (.slice none 0 0), [], rfl, rfl, (Rw.nil (H := H)).toF⟩
  · have hm := ite_f' hb103 hm
    refine C_skip ?_
    refine E_then ?_
    refine C_seq ?_
    refine C_seq ?_
    refine C_region ?_
    refine W_move rfl rfl rfl ?_
    obtain ⟨r104, hc105, hm⟩ := bind_some hm
    refine W_call Proofs.Tryd.call30 rfl rfl rfl (fun w ht => by have h := m_interlock_CheckStates_c (hm := hc105) h1 ht; exact h) ?_
    rintro _ _ _ ⟨rfl, rfl, rfl⟩
    refine W_assign rfl rfl rfl ?_
    refine W_end ?_
    refine E_then ?_
    refine C_seq ?_
    refine C_region ?_
    refine W_move rfl rfl rfl ?_
    refine W_bin rfl rfl rfl rfl rfl ?_
    refine W_end ?_
    refine E_then ?_
    refine C_cond (b := !decide (r104 = 0)) rfl (fun hb106 => ?_) (fun hb106 => ?_)
    · have hm := ite_t' hb106 hm
      refine C_seq ?_
      refine C_region ?_
      refine W_move rfl rfl rfl ?_
      refine W_assign rfl rfl rfl ?_
      refine W_assign rfl rfl rfl ?_
      refine W_end ?_
      refine E_then ?_
      refine C_ret ?_
      refine E_ret_then ?_
      refine E_nilRow 3 (Rep.sz Int) ?_
      obtain rfl := Option.some.inj hm
      refine E_weak (Hp.le_refl _) ?_
      exact end2 rfl rfl rfl ⟨rfl, (.slice none 0 0), [], rfl, rfl, (Rw.nil (H := H)).toF⟩
    · have hm := ite_f' hb106 hm
      refine C_skip ?_
      refine E_then ?_
      refine C_seq ?_
      refine C_seq ?_
      refine C_region ?_
      refine W_move rfl rfl rfl ?_
      refine W_move rfl rfl rfl ?_
      obtain ⟨r107, hc108, hm⟩ := bind_some hm
      refine W_call Proofs.Tryd.call31 rfl rfl rfl (fun w ht => by have h := m_interlock_index_c (hm := hc108) h1 ht; exact h) ?_
      rintro _ _ _ ⟨rfl, rfl, rfl⟩
      refine W_bin rfl rfl rfl rfl rfl ?_
      refine W_end ?_
      refine E_then ?_
      refine C_cond (b := decide (r107 < 0)) rfl (fun hb109 => ?_) (fun hb109 => ?_)
      · have hm := ite_t' hb109 hm
        refine C_seq ?_
        refine C_region ?_
        refine W_assign rfl rfl rfl ?_
        refine W_assign rfl rfl rfl ?_
        refine W_end ?_
        refine E_then ?_
        refine C_ret ?_
        refine E_ret_then ?_
        refine E_nilRow 3 (Rep.sz Int) ?_
        obtain rfl := Option.some.inj hm
        refine E_weak (Hp.le_refl _) ?_
        exact end2 rfl rfl rfl ⟨rfl, (.slice none 0 0), [], rfl, rfl, (Rw.nil (H := H)).toF⟩
      · have hm := ite_f' hb109 hm
        refine C_skip ?_
        refine E_then ?_
        refine C_seq ?_
        refine C_region ?_
        refine W_assign rfl rfl rfl ?_
        refine W_end ?_
        refine E_then ?_
        refine C_seq ?_
        refine C_seq ?_
        refine C_region ?_
        refine W_move rfl rfl rfl ?_
        refine W_lenR rfl rfl Proofs.Tryd.runUnderlying22 rfl h0 ?_
        refine W_move rfl rfl rfl ?_
        refine W_end ?_
        refine E_then ?_
        refine C_block ?_
        refine C_nilRow 3 (Rep.sz Int) ?_
        refine C_keep (L' := [(1, v1), (2, .bool (closing)), (3, .string (name)), (12, (.slice none 0 0)), (29, v0), (30, .int .i64 ((p0_l.length : Int))), (31, .int .i64 (((0 : Nat) : Int)))]) ⟨rfl, rfl, rfl, rfl, rfl, rfl, rfl, trivial⟩ (List.Perm.refl _) ?_
        refine C_loop (fun n H' M' L' => ∃ (k110 : Nat) (zs228' : List S_api_InterlockRule), ∃ l219 : List Int, ∃ v217 : Value, ∃ xs218 : List Value, (p0_l).drop k110 = zs228' ∧ zs228'.length = n ∧ forI (fun k y s223 n => m_interlock_Explain_b3 states closing name k y s223 n) (fun s223 => some (s223, 0)) k110 zs228' l219 = some r ∧ Rw H' v217 xs218 l219 ∧ H.le H' ∧ .row v217 3 (Rep.sz Int) l219.length xs218 :: M = M' ∧ [(1, v1), (2, .bool (closing)), (3, .string (name)), (12, v217), (29, v0), (30, .int .i64 ((p0_l.length : Int))), (31, .int .i64 ((k110 : Int)))] = L') _ ⟨0, _, ([] : List Int), (.slice none 0 0), ([]), rfl, rfl, hm, Rw.nil, (Hp.le_refl _), rfl, rfl⟩ ?_
        rintro _ H221 _ _ ⟨k110, zs228', l219, v217, xs218, hd230, rfl, hm, hr220, hle222, rfl, rfl⟩
        refine C_seq ?_
        refine C_region ?_
        refine W_bin rfl rfl rfl rfl rfl ?_
        refine W_end (E_then ?_)
        refine C_seq ?_
        refine C_cond (b := decide ((k110 : Int) < (p0_l.length : Int))) rfl (fun hb232 => ?_) (fun hb232 => ?_)
        · obtain ⟨y227, zs228, rfl, hy229, hd231⟩ := rng_t hd230 hb232
          have hm : m_interlock_Explain_b3 states closing name k110 y227 l219 (forI (fun k y s223 n => m_interlock_Explain_b3 states closing name k y s223 n) (fun s223 => some (s223, 0)) (k110 + 1) zs228) = some r := hm
          generalize hn225 : forI (fun k y s223 n => m_interlock_Explain_b3 states closing name k y s223 n) (fun s223 => some (s223, 0)) (k110 + 1) zs228 = nx224 at hm
          unfold m_interlock_Explain_b3 at hm
          refine C_skip (E_then ?_)
          refine C_seq_join (fun H' M' L' => ∃ l255 : List Int, ∃ v253 : Value, ∃ xs254 : List Value, m_interlock_Explain_b4 nx224 l255 = some r ∧ Rw H' v253 xs254 l255 ∧ H221.le H' ∧ .row v253 3 (Rep.sz Int) l255.length xs254 :: M = M' ∧ [(1, v1), (2, .bool (closing)), (3, .string (name)), (12, v253), (29, v0), (30, .int .i64 ((p0_l.length : Int))), (31, .int .i64 ((k110 : Int)))] = L') ?_ (fun J259 => ?_)
          · rintro H257 _ _ ⟨l255, v253, xs254, hm, hr256, hle258, rfl, rfl⟩
            unfold m_interlock_Explain_b4 at hm
            refine C_region ?_
            refine W_bin rfl rfl rfl rfl rfl ?_
            refine W_move rfl rfl rfl ?_
            refine W_end ?_
            exact E_keepJ (E_back (Nat.lt_succ_self _) ⟨k110 + 1, zs228, l255, v253, xs254, hd231, rfl, (by rw [hn225]; exact hm), hr256, (Hp.le_trans hle222 hle258), rfl, rfl⟩) (List.Perm.refl _) ⟨rfl, rfl, rfl, rfl, rfl, rfl, (congrArg (fun z => some (Value.int .i64 z)) (i64_succ hy229 ((h0.mono hle222)).lenMax)), trivial⟩
          · refine C_block ?_
            refine C_seq ?_
            refine C_region ?_
            refine W_move rfl rfl rfl ?_
            obtain ⟨_, ⟨v261, rfl, h262⟩, hc260⟩ := (h0).elem hy229
            refine W_indexS rfl rfl Proofs.Tryd.runUnderlying22 Proofs.Tryd.sizeOf34 rfl (h0.mono hle222) rfl (Int.natCast_nonneg _) hy229 ?_
            refine W_loadAgg rfl rfl Proofs.Tryd.isAgg34 Proofs.Tryd.sizeOf34 rfl (hc260.mono hle222).at rfl ?_
            refine W_alloc (cs := [.bool (false), .string (⟨#[]⟩), .slice none 0 0]) rfl rfl Proofs.Tryd.zeroValue34 rfl (fun b263 => ?_)
            refine W_assign rfl rfl rfl ?_
            refine W_store (cs := [.bool (y227.Close), .string (y227.Switch), v261]) (out := [.bool (y227.Close), .string (y227.Switch), v261]) rfl Proofs.Tryd.sizeOf34 rfl rfl rfl rfl rfl (all_cons rfl (all_cons rfl (all_cons (RdS.one1 (h262.mono hle222)) all_nil))) (over_all rfl) ?_
            refine W_end ?_
            refine E_then ?_
            refine C_seq ?_
            refine C_region ?_
            refine W_field (o := 0) rfl rfl Proofs.Tryd.runUnderlying34 rfl Proofs.Tryd.sizeOf4 rfl rfl rfl ?_
            refine W_load rfl rfl Proofs.Tryd.isAgg4 rfl (own_at (List.mem_cons_self ..) rfl) ?_
            refine W_move rfl rfl rfl ?_
            refine W_eqBool rfl rfl Proofs.Tryd.runUnderlying4 rfl rfl ?_
            refine W_move rfl rfl rfl ?_
            cases hb264 : (decide (y227.Close = closing))
            · have hm := ite_f' hb264 hm
              refine W_no rfl rfl rfl ?_
              refine W_no rfl rfl rfl ?_
              refine W_no rfl rfl rfl ?_
              refine W_no rfl rfl rfl ?_
              refine W_pick rfl rfl rfl rfl ?_
              refine W_move rfl rfl rfl ?_
              refine W_no rfl rfl rfl ?_
              refine W_no rfl rfl rfl ?_
              refine W_no rfl rfl rfl ?_
              refine W_no rfl rfl rfl ?_
              refine W_no rfl rfl rfl ?_
              refine W_pick rfl rfl rfl rfl ?_
              refine W_end ?_
              refine E_then ?_
              refine C_cond (b := false) rfl (fun hb => Bool.noConfusion hb) (fun _ => ?_)
              refine C_skip ?_
              refine E_normal_block ?_
              refine E_drop (List.Sublist.cons _ (List.Sublist.refl _)) ?_
              exact E_keepJ (J259 _ _ _ ⟨l219, v217, xs218, hm, hr220, (Hp.le_refl _), rfl, rfl⟩) (List.Perm.refl _) ⟨rfl, rfl, rfl, rfl, rfl, rfl, rfl, trivial⟩
            · have hm := ite_t' hb264 hm
              refine W_field (o := 1) rfl rfl Proofs.Tryd.runUnderlying34 rfl Proofs.Tryd.sizeOf9 rfl rfl rfl ?_
              refine W_load rfl rfl Proofs.Tryd.isAgg9 rfl (own_at (List.mem_cons_self ..) rfl) ?_
              refine W_move rfl rfl rfl ?_
              refine W_bin rfl rfl rfl rfl rfl ?_
              refine W_pick rfl rfl rfl rfl ?_
              refine W_move rfl rfl rfl ?_
              cases hb265 : (decide (y227.Switch = name))
              · have hm := ite_f' hb265 hm
                refine W_no rfl rfl rfl ?_
                refine W_no rfl rfl rfl ?_
                refine W_no rfl rfl rfl ?_
                refine W_no rfl rfl rfl ?_
                refine W_no rfl rfl rfl ?_
                refine W_pick rfl rfl rfl rfl ?_
                refine W_end ?_
                refine E_then ?_
                refine C_cond (b := false) rfl (fun hb => Bool.noConfusion hb) (fun _ => ?_)
                refine C_skip ?_
                refine E_normal_block ?_
                refine E_drop (List.Sublist.cons _ (List.Sublist.refl _)) ?_
                exact E_keepJ (J259 _ _ _ ⟨l219, v217, xs218, hm, hr220, (Hp.le_refl _), rfl, rfl⟩) (List.Perm.refl _) ⟨rfl, rfl, rfl, rfl, rfl, rfl, rfl, trivial⟩
              · have hm := ite_t' hb265 hm
                refine W_field (o := 2) rfl rfl Proofs.Tryd.runUnderlying34 rfl Proofs.Tryd.sizeOf32 rfl rfl rfl ?_
                refine W_load rfl rfl Proofs.Tryd.isAgg32 rfl (own_at (List.mem_cons_self ..) rfl) ?_
                refine W_move rfl rfl rfl ?_
                obtain ⟨r266, hc267, hm⟩ := bind_some hm
                refine W_call Proofs.Tryd.call32 rfl rfl rfl (fun w ht => by have h := m_interlock_holds_c (hm := hc267) (h262.mono hle222) (h1.mono hle222) ht; exact h) ?_
                rintro _ _ _ ⟨rfl, rfl, rfl⟩
                refine W_un rfl rfl rfl rfl ?_
                refine W_pick rfl rfl rfl rfl ?_
                refine W_end ?_
                refine E_then ?_
                refine C_cond (b := !r266) rfl (fun hb268 => ?_) (fun hb268 => ?_)
                · have hm := ite_t' hb268 hm
                  refine C_region ?_
                  refine W_move rfl rfl rfl ?_
                  refine W_move rfl rfl rfl ?_
                  refine W_buildSlice (α := Int) (css := [[.int .i64 ((k110 : Int))]]) (zs := [.int .i64 (0)]) (out := [.int .i64 ((k110 : Int))]) (ys := ([((k110 : Int))] : List Int)) rfl rfl rfl ⟨rfl, trivial⟩ Proofs.Tryd.runUnderlying51 Proofs.Tryd.sizeOf3 rfl Proofs.Tryd.zeroValue3 (by kernel_rfl) rfl rfl rfl rfl ⟨[.int .i64 ((k110 : Int))], [], rfl, rfl, rfl⟩ rfl ?_
                  intro b269 v270 H271 hv272 hle273 h274
                  have hc275 : Value.cap' v270 = ([((k110 : Int))] : List Int).length := by rw [hv272]; rfl
                  obtain ⟨hz276, hm⟩ := need_some hm
                  refine W_perm (List.Perm.swap _ _ _) ?_
                  refine W_appendO (α := Int) (l := l219) (ys := ([((k110 : Int))] : List Int)) rfl rfl Proofs.Tryd.underlying51 ⟨_, rfl, rfl, rfl, rfl⟩ rfl rfl rfl rfl rfl (hr220.mono hle273) h274 hz276 ?_
                  intro v277 xs278 hr279
                  refine W_assign rfl rfl rfl ?_
                  refine W_end ?_
                  refine E_normal_block ?_
                  refine E_drop (List.Sublist.cons_cons _ (List.Sublist.cons _ (List.Sublist.refl _))) ?_
                  exact E_keepJ (J259 _ _ _ ⟨(l219 ++ ([((k110 : Int))] : List Int)), v277, xs278, hm, hr279, hle273, rfl, rfl⟩) (List.Perm.refl _) ⟨rfl, rfl, rfl, rfl, rfl, rfl, rfl, trivial⟩
                · have hm := ite_f' hb268 hm
                  refine C_skip ?_
                  refine E_normal_block ?_
                  refine E_drop (List.Sublist.cons _ (List.Sublist.refl _)) ?_
                  exact E_keepJ (J259 _ _ _ ⟨l219, v217, xs218, hm, hr220, (Hp.le_refl _), rfl, rfl⟩) (List.Perm.refl _) ⟨rfl, rfl, rfl, rfl, rfl, rfl, rfl, trivial⟩
        · obtain rfl := rng_f hd230 hb232
          have hm : (some (l219, 0)) = some r := hm
          refine C_exit (E_exit_then ?_)
          refine E_exit_then ?_
          refine E_exit_hit ?_
          refine E_then ?_
          refine C_seq ?_
          refine C_region ?_
          refine W_move rfl rfl rfl ?_
          refine W_assign rfl rfl rfl ?_
          refine W_assign rfl rfl rfl ?_
          refine W_end ?_
          refine E_then ?_
          refine C_ret ?_
          obtain rfl := Option.some.inj hm
          refine E_weak hle222 ?_
          exact end2 rfl rfl rfl ⟨rfl, v217, xs218, rfl, rfl, (hr220).toF⟩

theorem m_slices_Equal_int_int_c {B : Nat} {w0 w : World} {H : Hp} {M : List Res} {p0_s1 : (List Int)} {p1_s2 : (List Int)} {v0 : Value} {v1 : Value} {r : Bool} (hm : m_slices_Equal_int_int p0_s1 p1_s2 = some r) (h0 : RdS H v0 p0_s1) (h1 : RdS H v1 p1_s2) (ht : St B w0 H (M) w) :
    Calls Proofs.Tryd.prog 20 [v0, v1].toArray w (Ret B w0 fun H' M' v => H = H' ∧ M = M' ∧ .bool (r) = v) := by
  unfold m_slices_Equal_int_int at hm
  refine enter Proofs.Tryd.func20 rfl rfl rfl ht ?_
  refine C_seq ?_
  refine C_region ?_
  refine W_assign rfl rfl rfl ?_
  refine W_end ?_
  refine E_then ?_
  refine C_seq ?_
  refine C_seq ?_
  refine C_region ?_
  refine W_move rfl rfl rfl ?_
  refine W_lenR rfl rfl Proofs.Tryd.runUnderlying51 rfl h0 ?_
  refine W_move rfl rfl rfl ?_
  refine W_lenR rfl rfl Proofs.Tryd.runUnderlying51 rfl h1 ?_
  refine W_bin rfl rfl rfl rfl rfl ?_
  refine W_end ?_
  refine E_then ?_
  refine C_cond (b := !decide ((p0_s1.length : Int) = (p1_s2.length : Int))) rfl (fun hb101 => ?_) (fun hb101 => ?_)
  · have hm := ite_t' hb101 hm
    refine C_seq ?_
    refine C_region ?_
    refine W_assign rfl rfl rfl ?_
    refine W_end ?_
    refine E_then ?_
    refine C_ret ?_
    refine E_ret_then ?_
    obtain rfl := Option.some.inj hm
    refine E_weak (Hp.le_refl _) ?_
    exact end1 rfl rfl ⟨rfl, rfl, rfl⟩
  · have hm := ite_f' hb101 hm
    refine C_skip ?_
    refine E_then ?_
    refine C_seq ?_
    refine C_seq ?_
    refine C_region ?_
    refine W_move rfl rfl rfl ?_
    refine W_lenR rfl rfl Proofs.Tryd.runUnderlying51 rfl h0 ?_
    refine W_move rfl rfl rfl ?_
    refine W_end ?_
    refine E_then ?_
    refine C_block ?_
    refine C_keep (L' := [(0, v0), (1, v1), (12, .int .i64 ((p0_s1.length : Int))), (13, .int .i64 (((0 : Nat) : Int)))]) ⟨rfl, rfl, rfl, rfl, trivial⟩ (List.Perm.refl _) ?_
    refine C_loop (fun n H' M' L' => ∃ (k102 : Nat) (zs136' : Nat), k102 + zs136' = ((p0_s1.length : Int) : Int).toNat ∧ zs136' = n ∧ forN (fun k s131 n => m_slices_Equal_int_int_b1 p0_s1 p1_s2 k n) (fun _ => some true) zs136' k102 () = some r ∧ H.le H' ∧ M = M' ∧ [(0, v0), (1, v1), (12, .int .i64 ((p0_s1.length : Int))), (13, .int .i64 ((k102 : Int)))] = L') _ ⟨0, _, Nat.zero_add _, rfl, hm, (Hp.le_refl _), rfl, rfl⟩ ?_
    rintro _ H129 _ _ ⟨k102, zs136', hd138, rfl, hm, hle130, rfl, rfl⟩
    refine C_seq ?_
    refine C_region ?_
    refine W_bin rfl rfl rfl rfl rfl ?_
    refine W_end (E_then ?_)
    refine C_seq ?_
    refine C_cond (b := decide ((k102 : Int) < (p0_s1.length : Int))) rfl (fun hb140 => ?_) (fun hb140 => ?_)
    · obtain ⟨zs136, rfl, hd139, hy137⟩ := rngN_t hd138 hb140
      have hm : m_slices_Equal_int_int_b1 p0_s1 p1_s2 k102 (forN (fun k s131 n => m_slices_Equal_int_int_b1 p0_s1 p1_s2 k n) (fun _ => some true) zs136 (k102 + 1)) = some r := hm
      generalize hn133 : forN (fun k s131 n => m_slices_Equal_int_int_b1 p0_s1 p1_s2 k n) (fun _ => some true) zs136 (k102 + 1) = nx132 at hm
      unfold m_slices_Equal_int_int_b1 at hm
      refine C_skip (E_then ?_)
      refine C_seq ?_
      refine C_block ?_
      refine C_seq ?_
      refine C_region ?_
      refine W_move rfl rfl rfl ?_
      refine W_assign rfl rfl rfl ?_
      refine W_end ?_
      refine E_then ?_
      refine C_seq ?_
      obtain ⟨y141, h142, he143, hm⟩ := idx_some hm
      obtain ⟨_, rfl, hc144⟩ := (h0).elem he143
      obtain ⟨y145, h146, he147, hm⟩ := idx_some hm
      obtain ⟨_, rfl, hc148⟩ := (h1).elem he147
      refine C_region_tok0 8 (phiT [(fun H rs v => [] = rs ∧ v0 = v), (fun H rs v => [] = rs ∧ .int .i64 ((k102 : Int)) = v), (fun H rs v => [] = rs ∧ .pointer (some ((Value.base (v0)).add (((k102 : Int) : Int).toNat * 1))) = v), (fun H rs v => [] = rs ∧ .int .i64 (y141) = v), (fun H rs v => [] = rs ∧ v1 = v), (fun H rs v => [] = rs ∧ .int .i64 ((k102 : Int)) = v), (fun H rs v => [] = rs ∧ .pointer (some ((Value.base (v1)).add (((k102 : Int) : Int).toNat * 1))) = v), (fun H rs v => [] = rs ∧ .int .i64 (y145) = v)]) [[], [], [], [], [], [], [], []] [[], [], [], [], [], [], [], []] [] [0, 1, 2, 3, 4, 5, 6, 7] Facts.mixed (by kernel_rfl) rfl rfl rfl (by kernel_rfl) (phiT_mono ⟨eq_monoT _ _, eq_monoT _ _, eq_monoT _ _, eq_monoT _ _, eq_monoT _ _, eq_monoT _ _, eq_monoT _ _, eq_monoT _ _, trivial⟩) ⟨?_, ?_, ?_, ?_, ?_, ?_, ?_, ?_, trivial⟩ ?_
      · intro HX hX X Rest hR
        intro hU hUp
        refine W_move rfl rfl rfl ?_
        exact W_end (OneT_end [] (Hp.le_refl _) ⟨rfl, rfl⟩)
      · intro HX hX X Rest hR
        intro hU hUp
        refine W_move rfl rfl rfl ?_
        exact W_end (OneT_end [] (Hp.le_refl _) ⟨rfl, rfl⟩)
      · intro HX hX X Rest hR
        rintro _ _ ⟨rfl, rfl⟩
        rintro _ _ ⟨rfl, rfl⟩
        intro hU hUp
        refine W_indexS rfl rfl Proofs.Tryd.runUnderlying51 Proofs.Tryd.sizeOf3 rfl ((h0.mono hle130).mono hX) rfl h142 he143 ?_
        exact W_end (OneT_end [] (Hp.le_refl _) ⟨rfl, rfl⟩)
      · intro HX hX X Rest hR
        rintro _ _ ⟨rfl, rfl⟩
        intro hU hUp
        refine W_load rfl rfl Proofs.Tryd.isAgg3 rfl (HCells.one ((hc144.mono hle130).mono hX) 0 rfl).at ?_
        exact W_end (OneT_end [] (Hp.le_refl _) ⟨rfl, rfl⟩)
      · intro HX hX X Rest hR
        intro hU hUp
        refine W_move rfl rfl rfl ?_
        exact W_end (OneT_end [] (Hp.le_refl _) ⟨rfl, rfl⟩)
      · intro HX hX X Rest hR
        intro hU hUp
        refine W_move rfl rfl rfl ?_
        exact W_end (OneT_end [] (Hp.le_refl _) ⟨rfl, rfl⟩)
      · intro HX hX X Rest hR
        rintro _ _ ⟨rfl, rfl⟩
        rintro _ _ ⟨rfl, rfl⟩
        intro hU hUp
        refine W_indexS rfl rfl Proofs.Tryd.runUnderlying51 Proofs.Tryd.sizeOf3 rfl ((h1.mono hle130).mono hX) rfl h146 he147 ?_
        exact W_end (OneT_end [] (Hp.le_refl _) ⟨rfl, rfl⟩)
      · intro HX hX X Rest hR
        rintro _ _ ⟨rfl, rfl⟩
        intro hU hUp
        refine W_load rfl rfl Proofs.Tryd.isAgg3 rfl (HCells.one ((hc148.mono hle130).mono hX) 0 rfl).at ?_
        exact W_end (OneT_end [] (Hp.le_refl _) ⟨rfl, rfl⟩)
      intro H149 hle150
      rintro _ _ ⟨rfl, rfl⟩
      rintro _ _ ⟨rfl, rfl⟩
      rintro _ _ ⟨rfl, rfl⟩
      rintro _ _ ⟨rfl, rfl⟩
      rintro _ _ ⟨rfl, rfl⟩
      rintro _ _ ⟨rfl, rfl⟩
      rintro _ _ ⟨rfl, rfl⟩
      rintro _ _ ⟨rfl, rfl⟩
      refine W_bin rfl rfl rfl rfl rfl ?_
      refine W_end ?_
      refine E_then ?_
      refine C_cond (b := !decide (y141 = y145)) rfl (fun hb151 => ?_) (fun hb151 => ?_)
      · have hm := ite_t' hb151 hm
        refine C_seq ?_
        refine C_region ?_
        refine W_assign rfl rfl rfl ?_
        refine W_end ?_
        refine E_then ?_
        refine C_ret ?_
        refine E_ret_block ?_
        refine E_ret_then ?_
        refine E_ret_then ?_
        refine E_ret_block ?_
        refine E_ret_then ?_
        obtain rfl := Option.some.inj hm
        refine E_weak (Hp.le_trans hle130 hle150) ?_
        exact end1 rfl rfl ⟨rfl, rfl, rfl⟩
      · have hm := ite_f' hb151 hm
        refine C_skip ?_
        refine E_normal_block ?_
        refine E_then ?_
        refine C_region ?_
        refine W_bin rfl rfl rfl rfl rfl ?_
        refine W_move rfl rfl rfl ?_
        refine W_end ?_
        exact E_keepJ (E_back (Nat.lt_succ_self _) ⟨k102 + 1, zs136, hd139, rfl, (by rw [hn133]; exact hm), (Hp.le_trans hle130 hle150), rfl, rfl⟩) (List.Perm.refl _) ⟨rfl, rfl, rfl, (congrArg (fun z => some (Value.int .i64 z)) (i64_succN hy137 (toNat_max (len_max (h0).lenMax)))), trivial⟩
    · obtain rfl := rngN_f hd138 hb140
      have hm : (some true) = some r := hm
      refine C_exit (E_exit_then ?_)
      refine E_exit_then ?_
      refine E_exit_hit ?_
      refine E_then ?_
      refine C_seq ?_
      refine C_region ?_
      refine W_assign rfl rfl rfl ?_
      refine W_end ?_
      refine E_then ?_
      refine C_ret ?_
      obtain rfl := Option.some.inj hm
      refine E_weak hle130 ?_
      exact end1 rfl rfl ⟨rfl, rfl, rfl⟩

theorem m_gridhallkeep4_interlockFact_c {B : Nat} {w0 w : World} {H : Hp} {M : List Res} {r : Bool} (hm : m_gridhallkeep4_interlockFact = some r) (ht : St B w0 H (M) w) :
    Calls Proofs.Tryd.prog 7 [].toArray w (Ret B w0 fun H' M' v => H = H' ∧ M = M' ∧ .bool (r) = v) := by
  unfold m_gridhallkeep4_interlockFact at hm
  refine enter Proofs.Tryd.func7 rfl rfl rfl ht ?_
  refine C_seq ?_
  refine C_region ?_
  refine W_assign rfl rfl rfl ?_
  refine W_end ?_
  refine E_then ?_
  refine C_seq ?_
  refine C_region ?_
  obtain ⟨r101, hc102, hm⟩ := bind_some hm
  refine W_call Proofs.Tryd.call5 rfl rfl rfl (fun w ht => by have h := m_interlock_Parse_c (hm := hc102)  ht; exact h) ?_
  rintro _ H106 _ ⟨hle107, v103, xs104, rfl, rfl, h105⟩
  refine W_move rfl rfl rfl ?_
  refine W_extract rfl rfl rfl rfl ?_
  refine W_extract rfl rfl rfl rfl ?_
  refine W_extract rfl rfl rfl rfl ?_
  refine W_assign rfl rfl rfl ?_
  refine W_assign rfl rfl rfl ?_
  refine W_assign rfl rfl rfl ?_
  refine W_end ?_
  refine E_then ?_
  refine C_seq ?_
  refine C_region ?_
  refine W_move rfl rfl rfl ?_
  refine W_build (css := [[.string (⟨#[65]⟩)]]) (zs := [.string (⟨#[]⟩), .bool (false)]) (out := [.string (⟨#[65]⟩), .bool (false)]) (places := [(0, 1), (1, 1)]) rfl rfl rfl ⟨rfl, trivial⟩ Proofs.Tryd.zeroValue55 rfl Proofs.Tryd.runUnderlying55 (fun w => by kernel_rfl) rfl ?_
  refine W_build (css := [[.string (⟨#[66]⟩)], [.bool (true)]]) (zs := [.string (⟨#[]⟩), .bool (false)]) (out := [.string (⟨#[66]⟩), .bool (true)]) (places := [(0, 1), (1, 1)]) rfl rfl rfl ⟨rfl, rfl, trivial⟩ Proofs.Tryd.zeroValue55 rfl Proofs.Tryd.runUnderlying55 (fun w => by kernel_rfl) rfl ?_
  refine W_buildSliceO (α := S_api_InterlockState) (css := [[.string (⟨#[65]⟩), .bool (false)], [.string (⟨#[66]⟩), .bool (true)]]) (zs := [.string (⟨#[]⟩), .bool (false), .string (⟨#[]⟩), .bool (false)]) (out := [.string (⟨#[65]⟩), .bool (false), .string (⟨#[66]⟩), .bool (true)]) (ys := [(S_api_InterlockState.mk (⟨#[65]⟩) false), (S_api_InterlockState.mk (⟨#[66]⟩) true)]) rfl rfl rfl ⟨rfl, rfl, trivial⟩ Proofs.Tryd.runUnderlying56 Proofs.Tryd.sizeOf55 rfl Proofs.Tryd.zeroValue55 (by kernel_rfl) rfl rfl rfl rfl ⟨[.string (⟨#[65]⟩), .bool (false)], [.string (⟨#[66]⟩), .bool (true)], rfl, rfl, ⟨[.string (⟨#[66]⟩), .bool (true)], [], rfl, rfl, rfl⟩⟩ rfl ?_
  intro v108 xs109 hr110
  refine W_perm (List.Perm.swap _ _ _) ?_
  obtain ⟨r111, hc112, hm⟩ := bind_some hm
  refine W_call Proofs.Tryd.call19 rfl rfl rfl (fun w ht => by obtain ⟨H0_, hl0_, ht0_, hr0_, bk0_⟩ := ht.lendRow h105 rfl; obtain ⟨H1_, hl1_, ht1_, hr1_, bk1_⟩ := ht0_.lendRow (hr110.mono hl0_) rfl; have h := m_interlock_Explain_c (hm := hc112) (hr0_.mono hl1_) hr1_ ht1_; exact lend_back bk0_ (lend_back bk1_ (h))) ?_
  rintro _ _ _ ⟨rfl, ⟨_, rfl, ⟨_, rfl, v113, xs114, rfl, rfl, h115⟩⟩⟩
  have h115 := h115 H106
  refine W_move rfl rfl rfl ?_
  refine W_extract rfl rfl rfl rfl ?_
  refine W_extract rfl rfl rfl rfl ?_
  refine W_assign rfl rfl rfl ?_
  refine W_assign rfl rfl rfl ?_
  refine W_end ?_
  refine E_then ?_
  refine C_seq ?_
  refine C_region ?_
  refine W_move rfl rfl rfl ?_
  refine W_bin rfl rfl rfl rfl rfl ?_
  refine W_move rfl rfl rfl ?_
  cases hb116 : (decide (r101.2.2 = 0))
  · have hm := ite_f' hb116 hm
    refine W_no rfl rfl rfl ?_
    refine W_no rfl rfl rfl ?_
    refine W_pick rfl rfl rfl rfl ?_
    refine W_move rfl rfl rfl ?_
    refine W_no rfl rfl rfl ?_
    refine W_no rfl rfl rfl ?_
    refine W_pick rfl rfl rfl rfl ?_
    refine W_move rfl rfl rfl ?_
    refine W_no rfl rfl rfl ?_
    refine W_no rfl rfl rfl ?_
    refine W_no rfl rfl rfl ?_
    refine W_pick rfl rfl rfl rfl ?_
    refine W_move rfl rfl rfl ?_
    refine W_no rfl rfl rfl ?_
    refine W_no rfl rfl rfl ?_
    refine W_no rfl rfl rfl ?_
    refine W_pick rfl rfl rfl rfl ?_
    refine W_assign rfl rfl rfl ?_
    refine W_end ?_
    refine E_then ?_
    refine C_ret ?_
    obtain rfl := Option.some.inj hm
    refine E_drop (List.Sublist.cons _ (List.Sublist.cons _ (List.Sublist.cons _ (List.Sublist.refl _)))) ?_
    refine E_weak hle107 ?_
    exact end1 rfl rfl ⟨rfl, rfl, rfl⟩
  · have hm := ite_t' hb116 hm
    refine W_move rfl rfl rfl ?_
    refine W_bin rfl rfl rfl rfl rfl ?_
    refine W_pick rfl rfl rfl rfl ?_
    refine W_move rfl rfl rfl ?_
    cases hb117 : (decide (r101.2.1 = 0))
    · have hm := ite_f' hb117 hm
      refine W_no rfl rfl rfl ?_
      refine W_no rfl rfl rfl ?_
      refine W_pick rfl rfl rfl rfl ?_
      refine W_move rfl rfl rfl ?_
      refine W_no rfl rfl rfl ?_
      refine W_no rfl rfl rfl ?_
      refine W_no rfl rfl rfl ?_
      refine W_pick rfl rfl rfl rfl ?_
      refine W_move rfl rfl rfl ?_
      refine W_no rfl rfl rfl ?_
      refine W_no rfl rfl rfl ?_
      refine W_no rfl rfl rfl ?_
      refine W_pick rfl rfl rfl rfl ?_
      refine W_assign rfl rfl rfl ?_
      refine W_end ?_
      refine E_then ?_
      refine C_ret ?_
      obtain rfl := Option.some.inj hm
      refine E_drop (List.Sublist.cons _ (List.Sublist.cons _ (List.Sublist.cons _ (List.Sublist.refl _)))) ?_
      refine E_weak hle107 ?_
      exact end1 rfl rfl ⟨rfl, rfl, rfl⟩
    · have hm := ite_t' hb117 hm
      refine W_move rfl rfl rfl ?_
      refine W_bin rfl rfl rfl rfl rfl ?_
      refine W_pick rfl rfl rfl rfl ?_
      refine W_move rfl rfl rfl ?_
      cases hb118 : (decide (r111.2 = 0))
      · have hm := ite_f' hb118 hm
        refine W_no rfl rfl rfl ?_
        refine W_no rfl rfl rfl ?_
        refine W_no rfl rfl rfl ?_
        refine W_pick rfl rfl rfl rfl ?_
        refine W_move rfl rfl rfl ?_
        refine W_no rfl rfl rfl ?_
        refine W_no rfl rfl rfl ?_
        refine W_no rfl rfl rfl ?_
        refine W_pick rfl rfl rfl rfl ?_
        refine W_assign rfl rfl rfl ?_
        refine W_end ?_
        refine E_then ?_
        refine C_ret ?_
        obtain rfl := Option.some.inj hm
        refine E_drop (List.Sublist.cons _ (List.Sublist.cons _ (List.Sublist.cons _ (List.Sublist.refl _)))) ?_
        refine E_weak hle107 ?_
        exact end1 rfl rfl ⟨rfl, rfl, rfl⟩
      · have hm := ite_t' hb118 hm
        refine W_move rfl rfl rfl ?_
        refine W_lenO (List.mem_cons_self ..) rfl rfl Proofs.Tryd.runUnderlying22 rfl ?_
        refine W_bin rfl rfl rfl rfl rfl ?_
        refine W_pick rfl rfl rfl rfl ?_
        refine W_move rfl rfl rfl ?_
        cases hb119 : (decide ((r101.1.length : Int) = 1))
        · have hm := ite_f' hb119 hm
          refine W_no rfl rfl rfl ?_
          refine W_no rfl rfl rfl ?_
          refine W_no rfl rfl rfl ?_
          refine W_pick rfl rfl rfl rfl ?_
          refine W_assign rfl rfl rfl ?_
          refine W_end ?_
          refine E_then ?_
          refine C_ret ?_
          obtain rfl := Option.some.inj hm
          refine E_drop (List.Sublist.cons _ (List.Sublist.cons _ (List.Sublist.cons _ (List.Sublist.refl _)))) ?_
          refine E_weak hle107 ?_
          exact end1 rfl rfl ⟨rfl, rfl, rfl⟩
        · have hm := ite_t' hb119 hm
          refine W_move rfl rfl rfl ?_
          refine W_buildSliceO (α := Int) (css := [[.int .i64 (0)]]) (zs := [.int .i64 (0)]) (out := [.int .i64 (0)]) (ys := ([0] : List Int)) rfl rfl rfl ⟨rfl, trivial⟩ Proofs.Tryd.runUnderlying51 Proofs.Tryd.sizeOf3 rfl Proofs.Tryd.zeroValue3 (by kernel_rfl) rfl rfl rfl rfl ⟨[.int .i64 (0)], [], rfl, rfl, rfl⟩ rfl ?_
          intro v120 xs121 hr122
          refine W_perm (List.Perm.trans (List.Perm.cons _ (List.Perm.cons _ (List.Perm.swap _ _ _))) (List.Perm.trans (List.Perm.cons _ (List.Perm.swap _ _ _)) (List.Perm.swap _ _ _))) ?_
          obtain ⟨r123, hc124, hm⟩ := bind_some hm
          refine W_call Proofs.Tryd.call20 rfl rfl rfl (fun w ht => by obtain ⟨H0_, hl0_, ht0_, hr0_, bk0_⟩ := ht.lendRow h115 rfl; obtain ⟨H1_, hl1_, ht1_, hr1_, bk1_⟩ := ht0_.lendRow (hr122.mono hl0_) rfl; have h := m_slices_Equal_int_int_c (hm := hc124) (hr0_.mono hl1_) hr1_ ht1_; exact lend_back bk0_ (lend_back bk1_ (h))) ?_
          rintro _ _ _ ⟨rfl, ⟨_, rfl, ⟨_, rfl, rfl, rfl⟩⟩⟩
          refine W_pick rfl rfl rfl rfl ?_
          refine W_assign rfl rfl rfl ?_
          refine W_end ?_
          refine E_then ?_
          refine C_ret ?_
          obtain rfl := Option.some.inj hm
          refine E_drop (List.Sublist.cons _ (List.Sublist.cons _ (List.Sublist.cons _ (List.Sublist.cons _ (List.Sublist.refl _))))) ?_
          refine E_weak hle107 ?_
          exact end1 rfl rfl ⟨rfl, rfl, rfl⟩

theorem m_gridhallkeep4_InterlockBack_c {B : Nat} {w0 w : World} {H : Hp} {M : List Res} {p0_l : (List S_api_InterlockRule)} {p1_s : ByteArray} {v0 : Value} {r : Bool} (hm : m_gridhallkeep4_InterlockBack p0_l p1_s = some r) (h0 : RdS H v0 p0_l) (ht : St B w0 H (M) w) :
    Calls Proofs.Tryd.prog 3 [v0, .string (p1_s)].toArray w (Ret B w0 fun H' M' v => H = H' ∧ M = M' ∧ .bool (r) = v) := by
  unfold m_gridhallkeep4_InterlockBack at hm
  refine enter Proofs.Tryd.func3 rfl rfl rfl ht ?_
  refine C_seq ?_
  refine C_region ?_
  refine W_assign rfl rfl rfl ?_
  refine W_end ?_
  refine E_then ?_
  refine C_seq ?_
  refine C_region ?_
  refine W_move rfl rfl rfl ?_
  obtain ⟨r101, hc102, hm⟩ := bind_some hm
  refine W_call Proofs.Tryd.call4 rfl rfl rfl (fun w ht => by have h := m_interlock_Print_c (hm := hc102) h0 ht; exact h) ?_
  rintro _ _ _ ⟨rfl, rfl, rfl⟩
  refine W_move rfl rfl rfl ?_
  refine W_extract rfl rfl rfl rfl ?_
  refine W_extract rfl rfl rfl rfl ?_
  refine W_assign rfl rfl rfl ?_
  refine W_assign rfl rfl rfl ?_
  refine W_end ?_
  refine E_then ?_
  refine C_seq_join (fun H' M' L' => m_gridhallkeep4_InterlockBack_b1 p0_l p1_s r101 = some r ∧ H.le H' ∧ M = M' ∧ [(0, v0), (1, .string (p1_s)), (6, .int .i64 (r101.2))] = L') ?_ (fun J118 => ?_)
  · rintro H116 _ _ ⟨hm, hle117, rfl, rfl⟩
    unfold m_gridhallkeep4_InterlockBack_b1 at hm
    refine C_seq ?_
    refine C_region ?_
    refine W_move rfl rfl rfl ?_
    obtain ⟨r119, hc120, hm⟩ := bind_some hm
    refine W_call Proofs.Tryd.call5 rfl rfl rfl (fun w ht => by have h := m_interlock_Parse_c (hm := hc120)  ht; exact h) ?_
    rintro _ H124 _ ⟨hle125, v121, xs122, rfl, rfl, h123⟩
    refine W_move rfl rfl rfl ?_
    refine W_extract rfl rfl rfl rfl ?_
    refine W_extract rfl rfl rfl rfl ?_
    refine W_extract rfl rfl rfl rfl ?_
    refine W_assign rfl rfl rfl ?_
    refine W_assign rfl rfl rfl ?_
    refine W_assign rfl rfl rfl ?_
    refine W_end ?_
    refine E_then ?_
    refine C_seq ?_
    refine C_seq ?_
    refine C_region ?_
    refine W_move rfl rfl rfl ?_
    refine W_bin rfl rfl rfl rfl rfl ?_
    refine W_end ?_
    refine E_then ?_
    refine C_cond (b := !decide (r119.2.2 = 0)) rfl (fun hb126 => ?_) (fun hb126 => ?_)
    · have hm := ite_t' hb126 hm
      refine C_seq ?_
      refine C_region ?_
      obtain ⟨r127, hc128, hm⟩ := bind_some hm
      refine W_call Proofs.Tryd.call7 rfl rfl rfl (fun w ht => by have h := m_gridhallkeep4_interlockFact_c (hm := hc128)  ht; exact h) ?_
      rintro _ _ _ ⟨rfl, rfl, rfl⟩
      refine W_move rfl rfl rfl ?_
      cases hb129 : (r127)
      · have hm := ite_f' hb129 hm
        refine W_no rfl rfl rfl ?_
        refine W_no rfl rfl rfl ?_
        refine W_no rfl rfl rfl ?_
        refine W_pick rfl rfl rfl rfl ?_
        refine W_move rfl rfl rfl ?_
        refine W_no rfl rfl rfl ?_
        refine W_no rfl rfl rfl ?_
        refine W_no rfl rfl rfl ?_
        refine W_no rfl rfl rfl ?_
        refine W_no rfl rfl rfl ?_
        refine W_no rfl rfl rfl ?_
        refine W_no rfl rfl rfl ?_
        refine W_no rfl rfl rfl ?_
        refine W_no rfl rfl rfl ?_
        refine W_no rfl rfl rfl ?_
        refine W_no rfl rfl rfl ?_
        refine W_no rfl rfl rfl ?_
        refine W_pick rfl rfl rfl rfl ?_
        refine W_assign rfl rfl rfl ?_
        refine W_end ?_
        refine E_then ?_
        refine C_ret ?_
        refine E_ret_then ?_
        obtain rfl := Option.some.inj hm
        refine E_drop (List.Sublist.cons _ (List.Sublist.refl _)) ?_
        refine E_weak (Hp.le_trans hle117 hle125) ?_
        exact end1 rfl rfl ⟨rfl, rfl, rfl⟩
      · have hm := ite_t' hb129 hm
        refine W_move rfl rfl rfl ?_
        refine W_lenO (List.mem_cons_self ..) rfl rfl Proofs.Tryd.runUnderlying22 rfl ?_
        refine W_bin rfl rfl rfl rfl rfl ?_
        refine W_pick rfl rfl rfl rfl ?_
        refine W_move rfl rfl rfl ?_
        cases hb130 : (decide ((r119.1.length : Int) = 0))
        · have hm := ite_f' hb130 hm
          refine W_no rfl rfl rfl ?_
          refine W_no rfl rfl rfl ?_
          refine W_no rfl rfl rfl ?_
          refine W_no rfl rfl rfl ?_
          refine W_no rfl rfl rfl ?_
          refine W_no rfl rfl rfl ?_
          refine W_no rfl rfl rfl ?_
          refine W_no rfl rfl rfl ?_
          refine W_no rfl rfl rfl ?_
          refine W_no rfl rfl rfl ?_
          refine W_no rfl rfl rfl ?_
          refine W_no rfl rfl rfl ?_
          refine W_pick rfl rfl rfl rfl ?_
          refine W_assign rfl rfl rfl ?_
          refine W_end ?_
          refine E_then ?_
          refine C_ret ?_
          refine E_ret_then ?_
          obtain rfl := Option.some.inj hm
          refine E_drop (List.Sublist.cons _ (List.Sublist.refl _)) ?_
          refine E_weak (Hp.le_trans hle117 hle125) ?_
          exact end1 rfl rfl ⟨rfl, rfl, rfl⟩
        · have hm := ite_t' hb130 hm
          refine W_move rfl rfl rfl ?_
          refine W_bin rfl rfl rfl rfl rfl ?_
          refine W_move rfl rfl rfl ?_
          cases hb131 : (decide (r101.2 = 0))
          · have hm := ite_f' hb131 hm
            refine W_move rfl rfl rfl ?_
            refine W_bin rfl rfl rfl rfl rfl ?_
            refine W_pick rfl rfl rfl rfl ?_
            refine W_move rfl rfl rfl ?_
            cases hb132 : (decide (r101.2 = 2))
            · have hm := ite_f' hb132 hm
              refine W_move rfl rfl rfl ?_
              refine W_move rfl rfl rfl ?_
              obtain ⟨r133, hc134, hm⟩ := bind_some hm
              refine W_call Proofs.Tryd.call8 rfl rfl rfl (fun w ht => by have h := m_interlock_Check_c (hm := hc134) ((h0.mono hle117).mono hle125) ht; exact h) ?_
              rintro _ _ _ ⟨rfl, rfl, rfl⟩
              refine W_bin rfl rfl rfl rfl rfl ?_
              refine W_pick rfl rfl rfl rfl ?_
              refine W_pick rfl rfl rfl rfl ?_
              refine W_assign rfl rfl rfl ?_
              refine W_end ?_
              refine E_then ?_
              refine C_ret ?_
              refine E_ret_then ?_
              obtain rfl := Option.some.inj hm
              refine E_drop (List.Sublist.cons _ (List.Sublist.refl _)) ?_
              refine E_weak (Hp.le_trans hle117 hle125) ?_
              exact end1 rfl rfl ⟨rfl, rfl, rfl⟩
            · have hm := ite_t' hb132 hm
              refine W_no rfl rfl rfl ?_
              refine W_no rfl rfl rfl ?_
              refine W_no rfl rfl rfl ?_
              refine W_no rfl rfl rfl ?_
              refine W_pick rfl rfl rfl rfl ?_
              refine W_pick rfl rfl rfl rfl ?_
              refine W_assign rfl rfl rfl ?_
              refine W_end ?_
              refine E_then ?_
              refine C_ret ?_
              refine E_ret_then ?_
              obtain rfl := Option.some.inj hm
              refine E_drop (List.Sublist.cons _ (List.Sublist.refl _)) ?_
              refine E_weak (Hp.le_trans hle117 hle125) ?_
              exact end1 rfl rfl ⟨rfl, rfl, rfl⟩
          · have hm := ite_t' hb131 hm
            refine W_no rfl rfl rfl ?_
            refine W_no rfl rfl rfl ?_
            refine W_pick rfl rfl rfl rfl ?_
            refine W_move rfl rfl rfl ?_
            refine W_no rfl rfl rfl ?_
            refine W_no rfl rfl rfl ?_
            refine W_no rfl rfl rfl ?_
            refine W_no rfl rfl rfl ?_
            refine W_pick rfl rfl rfl rfl ?_
            refine W_pick rfl rfl rfl rfl ?_
            refine W_assign rfl rfl rfl ?_
            refine W_end ?_
            refine E_then ?_
            refine C_ret ?_
            refine E_ret_then ?_
            obtain rfl := Option.some.inj hm
            refine E_drop (List.Sublist.cons _ (List.Sublist.refl _)) ?_
            refine E_weak (Hp.le_trans hle117 hle125) ?_
            exact end1 rfl rfl ⟨rfl, rfl, rfl⟩
    · have hm := ite_f' hb126 hm
      refine C_skip ?_
      refine E_then ?_
      refine C_seq ?_
      refine C_region ?_
      refine W_move rfl rfl rfl ?_
      obtain ⟨r135, hc136, hm⟩ := bind_some hm
      refine W_call Proofs.Tryd.call4 rfl rfl rfl (fun w ht => by obtain ⟨H0_, hl0_, ht0_, hr0_, bk0_⟩ := ht.lendRow h123 rfl; have h := m_interlock_Print_c (hm := hc136) hr0_ ht0_; exact lend_back bk0_ (h)) ?_
      rintro _ _ _ ⟨rfl, ⟨_, rfl, rfl, rfl⟩⟩
      refine W_move rfl rfl rfl ?_
      refine W_extract rfl rfl rfl rfl ?_
      refine W_extract rfl rfl rfl rfl ?_
      refine W_assign rfl rfl rfl ?_
      refine W_assign rfl rfl rfl ?_
      refine W_end ?_
      refine E_then ?_
      refine C_seq ?_
      refine C_region ?_
      refine W_move rfl rfl rfl ?_
      obtain ⟨r137, hc138, hm⟩ := bind_some hm
      refine W_call Proofs.Tryd.call5 rfl rfl rfl (fun w ht => by have h := m_interlock_Parse_c (hm := hc138)  ht; exact h) ?_
      rintro _ H142 _ ⟨hle143, v139, xs140, rfl, rfl, h141⟩
      refine W_move rfl rfl rfl ?_
      refine W_extract rfl rfl rfl rfl ?_
      refine W_extract rfl rfl rfl rfl ?_
      refine W_extract rfl rfl rfl rfl ?_
      refine W_assign rfl rfl rfl ?_
      refine W_assign rfl rfl rfl ?_
      refine W_assign rfl rfl rfl ?_
      refine W_end ?_
      refine E_then ?_
      refine C_seq ?_
      refine C_region ?_
      obtain ⟨r144, hc145, hm⟩ := bind_some hm
      refine W_call Proofs.Tryd.call7 rfl rfl rfl (fun w ht => by have h := m_gridhallkeep4_interlockFact_c (hm := hc145)  ht; exact h) ?_
      rintro _ _ _ ⟨rfl, rfl, rfl⟩
      refine W_move rfl rfl rfl ?_
      cases hb146 : (r144)
      · have hm := ite_f' hb146 hm
        refine W_no rfl rfl rfl ?_
        refine W_no rfl rfl rfl ?_
        refine W_pick rfl rfl rfl rfl ?_
        refine W_move rfl rfl rfl ?_
        refine W_no rfl rfl rfl ?_
        refine W_no rfl rfl rfl ?_
        refine W_pick rfl rfl rfl rfl ?_
        refine W_move rfl rfl rfl ?_
        refine W_no rfl rfl rfl ?_
        refine W_no rfl rfl rfl ?_
        refine W_no rfl rfl rfl ?_
        refine W_no rfl rfl rfl ?_
        refine W_no rfl rfl rfl ?_
        refine W_pick rfl rfl rfl rfl ?_
        refine W_move rfl rfl rfl ?_
        refine W_no rfl rfl rfl ?_
        refine W_no rfl rfl rfl ?_
        refine W_no rfl rfl rfl ?_
        refine W_pick rfl rfl rfl rfl ?_
        refine W_assign rfl rfl rfl ?_
        refine W_end ?_
        refine E_then ?_
        refine C_ret ?_
        obtain rfl := Option.some.inj hm
        refine E_drop (List.Sublist.cons _ (List.Sublist.cons _ (List.Sublist.refl _))) ?_
        refine E_weak (Hp.le_trans (Hp.le_trans hle117 hle125) hle143) ?_
        exact end1 rfl rfl ⟨rfl, rfl, rfl⟩
      · have hm := ite_t' hb146 hm
        refine W_move rfl rfl rfl ?_
        refine W_bin rfl rfl rfl rfl rfl ?_
        refine W_pick rfl rfl rfl rfl ?_
        refine W_move rfl rfl rfl ?_
        cases hb147 : (decide (r135.2 = 0))
        · have hm := ite_f' hb147 hm
          refine W_no rfl rfl rfl ?_
          refine W_no rfl rfl rfl ?_
          refine W_pick rfl rfl rfl rfl ?_
          refine W_move rfl rfl rfl ?_
          refine W_no rfl rfl rfl ?_
          refine W_no rfl rfl rfl ?_
          refine W_no rfl rfl rfl ?_
          refine W_no rfl rfl rfl ?_
          refine W_no rfl rfl rfl ?_
          refine W_pick rfl rfl rfl rfl ?_
          refine W_move rfl rfl rfl ?_
          refine W_no rfl rfl rfl ?_
          refine W_no rfl rfl rfl ?_
          refine W_no rfl rfl rfl ?_
          refine W_pick rfl rfl rfl rfl ?_
          refine W_assign rfl rfl rfl ?_
          refine W_end ?_
          refine E_then ?_
          refine C_ret ?_
          obtain rfl := Option.some.inj hm
          refine E_drop (List.Sublist.cons _ (List.Sublist.cons _ (List.Sublist.refl _))) ?_
          refine E_weak (Hp.le_trans (Hp.le_trans hle117 hle125) hle143) ?_
          exact end1 rfl rfl ⟨rfl, rfl, rfl⟩
        · have hm := ite_t' hb147 hm
          refine W_move rfl rfl rfl ?_
          refine W_bin rfl rfl rfl rfl rfl ?_
          refine W_pick rfl rfl rfl rfl ?_
          refine W_move rfl rfl rfl ?_
          cases hb148 : (decide (r137.2.2 = 0))
          · have hm := ite_f' hb148 hm
            refine W_no rfl rfl rfl ?_
            refine W_no rfl rfl rfl ?_
            refine W_no rfl rfl rfl ?_
            refine W_no rfl rfl rfl ?_
            refine W_no rfl rfl rfl ?_
            refine W_pick rfl rfl rfl rfl ?_
            refine W_move rfl rfl rfl ?_
            refine W_no rfl rfl rfl ?_
            refine W_no rfl rfl rfl ?_
            refine W_no rfl rfl rfl ?_
            refine W_pick rfl rfl rfl rfl ?_
            refine W_assign rfl rfl rfl ?_
            refine W_end ?_
            refine E_then ?_
            refine C_ret ?_
            obtain rfl := Option.some.inj hm
            refine E_drop (List.Sublist.cons _ (List.Sublist.cons _ (List.Sublist.refl _))) ?_
            refine E_weak (Hp.le_trans (Hp.le_trans hle117 hle125) hle143) ?_
            exact end1 rfl rfl ⟨rfl, rfl, rfl⟩
          · have hm := ite_t' hb148 hm
            refine W_move rfl rfl rfl ?_
            refine W_lenStr rfl rfl Proofs.Tryd.runUnderlying9 rfl ?_
            refine W_move rfl rfl rfl ?_
            refine W_lenStr rfl rfl Proofs.Tryd.runUnderlying9 rfl ?_
            refine W_bin rfl rfl rfl rfl rfl ?_
            refine W_pick rfl rfl rfl rfl ?_
            refine W_move rfl rfl rfl ?_
            cases hb149 : (decide ((r135.1.size : Int) ≤ (p1_s.size : Int)))
            · have hm := ite_f' hb149 hm
              refine W_no rfl rfl rfl ?_
              refine W_no rfl rfl rfl ?_
              refine W_no rfl rfl rfl ?_
              refine W_pick rfl rfl rfl rfl ?_
              refine W_assign rfl rfl rfl ?_
              refine W_end ?_
              refine E_then ?_
              refine C_ret ?_
              obtain rfl := Option.some.inj hm
              refine E_drop (List.Sublist.cons _ (List.Sublist.cons _ (List.Sublist.refl _))) ?_
              refine E_weak (Hp.le_trans (Hp.le_trans hle117 hle125) hle143) ?_
              exact end1 rfl rfl ⟨rfl, rfl, rfl⟩
            · have hm := ite_t' hb149 hm
              refine W_move rfl rfl rfl ?_
              refine W_move rfl rfl rfl ?_
              refine W_perm (List.Perm.swap _ _ _) ?_
              obtain ⟨r150, hc151, hm⟩ := bind_some hm
              refine W_call Proofs.Tryd.call6 rfl rfl rfl (fun w ht => by obtain ⟨H0_, hl0_, ht0_, hr0_, bk0_⟩ := ht.lendRow (h123.mono hle143) rfl; obtain ⟨H1_, hl1_, ht1_, hr1_, bk1_⟩ := ht0_.lendRow (h141.mono hl0_) rfl; have h := m_gridhallkeep4_sameRules_c (hm := hc151) (hr0_.mono hl1_) hr1_ ht1_; exact lend_back bk0_ (lend_back bk1_ (h))) ?_
              rintro _ _ _ ⟨rfl, ⟨_, rfl, ⟨_, rfl, rfl, rfl⟩⟩⟩
              refine W_pick rfl rfl rfl rfl ?_
              refine W_assign rfl rfl rfl ?_
              refine W_end ?_
              refine E_then ?_
              refine C_ret ?_
              obtain rfl := Option.some.inj hm
              refine E_drop (List.Sublist.cons _ (List.Sublist.cons _ (List.Sublist.refl _))) ?_
              refine E_weak (Hp.le_trans (Hp.le_trans hle117 hle125) hle143) ?_
              exact end1 rfl rfl ⟨rfl, rfl, rfl⟩
  · refine C_seq ?_
    refine C_region ?_
    refine W_move rfl rfl rfl ?_
    refine W_bin rfl rfl rfl rfl rfl ?_
    refine W_end ?_
    refine E_then ?_
    refine C_cond (b := decide (r101.2 = 0)) rfl (fun hb152 => ?_) (fun hb152 => ?_)
    · have hm := ite_t' hb152 hm
      refine C_seq ?_
      refine C_region ?_
      refine W_move rfl rfl rfl ?_
      obtain ⟨r153, hc154, hm⟩ := bind_some hm
      refine W_call Proofs.Tryd.call5 rfl rfl rfl (fun w ht => by have h := m_interlock_Parse_c (hm := hc154)  ht; exact h) ?_
      rintro _ H158 _ ⟨hle159, v155, xs156, rfl, rfl, h157⟩
      refine W_move rfl rfl rfl ?_
      refine W_extract rfl rfl rfl rfl ?_
      refine W_extract rfl rfl rfl rfl ?_
      refine W_extract rfl rfl rfl rfl ?_
      refine W_assign rfl rfl rfl ?_
      refine W_assign rfl rfl rfl ?_
      refine W_assign rfl rfl rfl ?_
      refine W_end ?_
      refine E_then ?_
      refine C_seq ?_
      refine C_region ?_
      refine W_move rfl rfl rfl ?_
      refine W_bin rfl rfl rfl rfl rfl ?_
      refine W_move rfl rfl rfl ?_
      cases hb160 : (decide (r153.2.2 = 0))
      · have hm := ite_f' hb160 hm
        refine W_no rfl rfl rfl ?_
        refine W_no rfl rfl rfl ?_
        refine W_pick rfl rfl rfl rfl ?_
        refine W_move rfl rfl rfl ?_
        refine W_no rfl rfl rfl ?_
        refine W_no rfl rfl rfl ?_
        refine W_no rfl rfl rfl ?_
        refine W_no rfl rfl rfl ?_
        refine W_pick rfl rfl rfl rfl ?_
        refine W_end ?_
        refine E_then ?_
        refine C_cond (b := true) rfl (fun _ => ?_) (fun hb => Bool.noConfusion hb)
        refine C_seq ?_
        refine C_region ?_
        refine W_assign rfl rfl rfl ?_
        refine W_end ?_
        refine E_then ?_
        refine C_ret ?_
        refine E_ret_then ?_
        obtain rfl := Option.some.inj hm
        refine E_drop (List.Sublist.cons _ (List.Sublist.refl _)) ?_
        refine E_weak hle159 ?_
        exact end1 rfl rfl ⟨rfl, rfl, rfl⟩
      · have hm := ite_t' hb160 hm
        refine W_move rfl rfl rfl ?_
        refine W_bin rfl rfl rfl rfl rfl ?_
        refine W_pick rfl rfl rfl rfl ?_
        refine W_move rfl rfl rfl ?_
        cases hb161 : (decide (r153.2.1 = 0))
        · have hm := ite_f' hb161 hm
          refine W_no rfl rfl rfl ?_
          refine W_no rfl rfl rfl ?_
          refine W_no rfl rfl rfl ?_
          refine W_no rfl rfl rfl ?_
          refine W_pick rfl rfl rfl rfl ?_
          refine W_end ?_
          refine E_then ?_
          refine C_cond (b := true) rfl (fun _ => ?_) (fun hb => Bool.noConfusion hb)
          refine C_seq ?_
          refine C_region ?_
          refine W_assign rfl rfl rfl ?_
          refine W_end ?_
          refine E_then ?_
          refine C_ret ?_
          refine E_ret_then ?_
          obtain rfl := Option.some.inj hm
          refine E_drop (List.Sublist.cons _ (List.Sublist.refl _)) ?_
          refine E_weak hle159 ?_
          exact end1 rfl rfl ⟨rfl, rfl, rfl⟩
        · have hm := ite_t' hb161 hm
          refine W_move rfl rfl rfl ?_
          refine W_move rfl rfl rfl ?_
          obtain ⟨r162, hc163, hm⟩ := bind_some hm
          refine W_call Proofs.Tryd.call6 rfl rfl rfl (fun w ht => by obtain ⟨H0_, hl0_, ht0_, hr0_, bk0_⟩ := ht.lendRow h157 rfl; have h := m_gridhallkeep4_sameRules_c (hm := hc163) ((h0.mono hle159).mono hl0_) hr0_ ht0_; exact lend_back bk0_ (h)) ?_
          rintro _ _ _ ⟨rfl, ⟨_, rfl, rfl, rfl⟩⟩
          refine W_un rfl rfl rfl rfl ?_
          refine W_pick rfl rfl rfl rfl ?_
          refine W_end ?_
          refine E_then ?_
          refine C_cond (b := !r162) rfl (fun hb164 => ?_) (fun hb164 => ?_)
          · have hm := ite_t' hb164 hm
            refine C_seq ?_
            refine C_region ?_
            refine W_assign rfl rfl rfl ?_
            refine W_end ?_
            refine E_then ?_
            refine C_ret ?_
            refine E_ret_then ?_
            obtain rfl := Option.some.inj hm
            refine E_drop (List.Sublist.cons _ (List.Sublist.refl _)) ?_
            refine E_weak hle159 ?_
            exact end1 rfl rfl ⟨rfl, rfl, rfl⟩
          · have hm := ite_f' hb164 hm
            refine C_skip ?_
            refine E_drop (List.Sublist.cons _ (List.Sublist.refl _)) ?_
            exact E_keepJ (J118 _ _ _ ⟨hm, hle159, rfl, rfl⟩) (List.Perm.refl _) ⟨rfl, rfl, rfl, trivial⟩
    · have hm := ite_f' hb152 hm
      refine C_skip ?_
      exact E_keepJ (J118 _ _ _ ⟨hm, (Hp.le_refl _), rfl, rfl⟩) (List.Perm.refl _) ⟨rfl, rfl, rfl, trivial⟩
end Go.Sim
