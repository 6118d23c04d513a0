/-
  Printed by a program: each Go function computes its model.
-/
import Derived.Test.YtlcjellgoicajaaDoorConC1
namespace Go.Sim
open Go
set_option linter.unusedVariables false
set_option linter.unusedSimpArgs false
set_option maxRecDepth 100000
theorem m_slices_Equal_api_Event_api_Event_c {B : Nat} {w0 w : World} [Tabs B w0] {H : Hp} {M : List Res} {p0_s1 : (List S_api_Event)} {p1_s2 : (List S_api_Event)} {v0 : Value} {v1 : Value} {r : Bool} (hm : m_slices_Equal_api_Event_api_Event p0_s1 p1_s2 = some r) (h0 : RdS H v0 p0_s1) (h1 : RdS H v1 p1_s2) (ht : St B w0 H (M) w) :
    Calls Proofs.Tryd.prog 11 [v0, v1].toArray w (Ret B w0 fun H' M' v => H = H' ∧ M = M' ∧ .bool (r) = v) := by
  unfold m_slices_Equal_api_Event_api_Event at hm
  refine enter Proofs.Tryd.func11 rfl rfl rfl ht ?_
  refine C_seq ?_
  refine C_region ?_
  refine W_assign rfl rfl rfl ?_
  refine W_end ?_
  refine E_then ?_
  refine C_seq ?_
  refine C_seq ?_
  refine C_region ?_
  refine W_move rfl rfl rfl ?_
  refine W_lenR rfl rfl Proofs.Tryd.runUnderlying34 rfl h0 ?_
  refine W_move rfl rfl rfl ?_
  refine W_lenR rfl rfl Proofs.Tryd.runUnderlying34 rfl h1 ?_
  refine W_bin rfl rfl rfl rfl rfl ?_
  refine W_end ?_
  refine E_then ?_
  refine C_cond (b := !decide ((p0_s1.length : Int) = (p1_s2.length : Int))) rfl (fun hb101 => ?_) (fun hb101 => ?_)
  · have hm := ite_t' hb101 hm
    refine C_seq ?_
    refine C_region ?_
    refine W_assign rfl rfl rfl ?_
    refine W_end ?_
    refine E_then ?_
    refine C_ret ?_
    refine E_ret_then ?_
    obtain rfl := Option.some.inj hm
    refine E_weak (Hp.le_refl _) ?_
    exact end1 rfl rfl ⟨rfl, rfl, rfl⟩
  · have hm := ite_f' hb101 hm
    refine C_skip ?_
    refine E_then ?_
    refine C_seq ?_
    refine C_seq ?_
    refine C_region ?_
    refine W_move rfl rfl rfl ?_
    refine W_lenR rfl rfl Proofs.Tryd.runUnderlying34 rfl h0 ?_
    refine W_move rfl rfl rfl ?_
    refine W_end ?_
    refine E_then ?_
    refine C_block ?_
    refine C_keep (L' := [(0, v0), (1, v1), (12, .int .i64 ((p0_s1.length : Int))), (13, .int .i64 (((0 : Nat) : Int)))]) ⟨rfl, rfl, rfl, rfl, trivial⟩ (List.Perm.refl _) ?_
    refine C_loop (fun n H' M' L' => ∃ (k102 : Nat) (zs136' : Nat), k102 + zs136' = ((p0_s1.length : Int) : Int).toNat ∧ zs136' = n ∧ forN (fun k s131 n => m_slices_Equal_api_Event_api_Event_b1 p0_s1 p1_s2 k n) (fun _ => some true) zs136' k102 () = some r ∧ H.le H' ∧ M = M' ∧ [(0, v0), (1, v1), (12, .int .i64 ((p0_s1.length : Int))), (13, .int .i64 ((k102 : Int)))] = L') _ ⟨0, _, Nat.zero_add _, rfl, hm, (Hp.le_refl _), rfl, rfl⟩ ?_
    rintro _ H129 _ _ ⟨k102, zs136', hd138, rfl, hm, hle130, rfl, rfl⟩
    refine C_seq ?_
    refine C_region ?_
    refine W_bin rfl rfl rfl rfl rfl ?_
    refine W_end (E_then ?_)
    refine C_seq ?_
    refine C_cond (b := decide ((k102 : Int) < (p0_s1.length : Int))) rfl (fun hb140 => ?_) (fun hb140 => ?_)
    · obtain ⟨zs136, rfl, hd139, hy137⟩ := rngN_t hd138 hb140
      have hm : m_slices_Equal_api_Event_api_Event_b1 p0_s1 p1_s2 k102 (forN (fun k s131 n => m_slices_Equal_api_Event_api_Event_b1 p0_s1 p1_s2 k n) (fun _ => some true) zs136 (k102 + 1)) = some r := hm
      generalize hn133 : forN (fun k s131 n => m_slices_Equal_api_Event_api_Event_b1 p0_s1 p1_s2 k n) (fun _ => some true) zs136 (k102 + 1) = nx132 at hm
      unfold m_slices_Equal_api_Event_api_Event_b1 at hm
      refine C_skip (E_then ?_)
      refine C_seq ?_
      refine C_block ?_
      refine C_seq ?_
      refine C_region ?_
      refine W_move rfl rfl rfl ?_
      refine W_assign rfl rfl rfl ?_
      refine W_end ?_
      refine E_then ?_
      refine C_seq ?_
      obtain ⟨y141, h142, he143, hm⟩ := idx_some hm
      obtain ⟨_, ⟨rfl⟩, hc144⟩ := (h0).elem he143
      obtain ⟨y145, h146, he147, hm⟩ := idx_some hm
      obtain ⟨_, ⟨rfl⟩, hc148⟩ := (h1).elem he147
      refine C_region_tok0 8 (phiT [(fun H rs v => [] = rs ∧ v0 = v), (fun H rs v => [] = rs ∧ .int .i64 ((k102 : Int)) = v), (fun H rs v => [] = rs ∧ .pointer (some ((Value.base (v0)).add (((k102 : Int) : Int).toNat * 4))) = v), (fun H rs v => [] = rs ∧ .agg [.int .i64 (y141.Time), .string (y141.Kind), .string (y141.Name), .int .i64 (y141.Value)].toArray = v), (fun H rs v => [] = rs ∧ v1 = v), (fun H rs v => [] = rs ∧ .int .i64 ((k102 : Int)) = v), (fun H rs v => [] = rs ∧ .pointer (some ((Value.base (v1)).add (((k102 : Int) : Int).toNat * 4))) = v), (fun H rs v => [] = rs ∧ .agg [.int .i64 (y145.Time), .string (y145.Kind), .string (y145.Name), .int .i64 (y145.Value)].toArray = v)]) [[], [], [], [], [], [], [], []] [[], [], [], [], [], [], [], []] [] [0, 1, 2, 3, 4, 5, 6, 7] Facts.mixed (by kernel_rfl) rfl rfl rfl (by kernel_rfl) (phiT_mono ⟨eq_monoT _ _, eq_monoT _ _, eq_monoT _ _, eq_monoT _ _, eq_monoT _ _, eq_monoT _ _, eq_monoT _ _, eq_monoT _ _, trivial⟩) ⟨?_, ?_, ?_, ?_, ?_, ?_, ?_, ?_, trivial⟩ ?_
      · intro HX hX X Rest hR
        intro hU hUp
        refine W_move rfl rfl rfl ?_
        exact W_end (OneT_end [] (Hp.le_refl _) ⟨rfl, rfl⟩)
      · intro HX hX X Rest hR
        intro hU hUp
        refine W_move rfl rfl rfl ?_
        exact W_end (OneT_end [] (Hp.le_refl _) ⟨rfl, rfl⟩)
      · intro HX hX X Rest hR
        rintro _ _ ⟨rfl, rfl⟩
        rintro _ _ ⟨rfl, rfl⟩
        intro hU hUp
        refine W_indexS rfl rfl Proofs.Tryd.runUnderlying34 Proofs.Tryd.sizeOf36 rfl ((h0.mono hle130).mono hX) rfl h142 he143 ?_
        exact W_end (OneT_end [] (Hp.le_refl _) ⟨rfl, rfl⟩)
      · intro HX hX X Rest hR
        rintro _ _ ⟨rfl, rfl⟩
        intro hU hUp
        refine W_loadAgg rfl rfl Proofs.Tryd.isAgg36 Proofs.Tryd.sizeOf36 rfl ((hc144.mono hle130).mono hX).at rfl ?_
        exact W_end (OneT_end [] (Hp.le_refl _) ⟨rfl, rfl⟩)
      · intro HX hX X Rest hR
        intro hU hUp
        refine W_move rfl rfl rfl ?_
        exact W_end (OneT_end [] (Hp.le_refl _) ⟨rfl, rfl⟩)
      · intro HX hX X Rest hR
        intro hU hUp
        refine W_move rfl rfl rfl ?_
        exact W_end (OneT_end [] (Hp.le_refl _) ⟨rfl, rfl⟩)
      · intro HX hX X Rest hR
        rintro _ _ ⟨rfl, rfl⟩
        rintro _ _ ⟨rfl, rfl⟩
        intro hU hUp
        refine W_indexS rfl rfl Proofs.Tryd.runUnderlying34 Proofs.Tryd.sizeOf36 rfl ((h1.mono hle130).mono hX) rfl h146 he147 ?_
        exact W_end (OneT_end [] (Hp.le_refl _) ⟨rfl, rfl⟩)
      · intro HX hX X Rest hR
        rintro _ _ ⟨rfl, rfl⟩
        intro hU hUp
        refine W_loadAgg rfl rfl Proofs.Tryd.isAgg36 Proofs.Tryd.sizeOf36 rfl ((hc148.mono hle130).mono hX).at rfl ?_
        exact W_end (OneT_end [] (Hp.le_refl _) ⟨rfl, rfl⟩)
      intro H149 hle150
      rintro _ _ ⟨rfl, rfl⟩
      rintro _ _ ⟨rfl, rfl⟩
      rintro _ _ ⟨rfl, rfl⟩
      rintro _ _ ⟨rfl, rfl⟩
      rintro _ _ ⟨rfl, rfl⟩
      rintro _ _ ⟨rfl, rfl⟩
      rintro _ _ ⟨rfl, rfl⟩
      rintro _ _ ⟨rfl, rfl⟩
      refine W_neAgg (b := decide (y141.Time = y145.Time) && (decide (y141.Kind = y145.Kind) && (decide (y141.Name = y145.Name) && (decide (y141.Value = y145.Value) && true)))) rfl rfl (by kernel_rfl) rfl rfl (fun w => run_equal_struct (bs := [decide (y141.Time = y145.Time), decide (y141.Kind = y145.Kind), decide (y141.Name = y145.Name), decide (y141.Value = y145.Value)]) Proofs.Tryd.runUnderlying36 (by kernel_rfl) ⟨(by decide), (fldEq_int Proofs.Tryd.isAgg3 Proofs.Tryd.runUnderlying3 rfl rfl), (by decide), (fldEq_str Proofs.Tryd.isAgg9 Proofs.Tryd.runUnderlying9 rfl rfl), (by decide), (fldEq_str Proofs.Tryd.isAgg9 Proofs.Tryd.runUnderlying9 rfl rfl), (by decide), (fldEq_int Proofs.Tryd.isAgg3 Proofs.Tryd.runUnderlying3 rfl rfl), trivial⟩) ?_
      refine W_end ?_
      refine E_then ?_
      refine C_cond (b := !(decide (y141.Time = y145.Time) && (decide (y141.Kind = y145.Kind) && (decide (y141.Name = y145.Name) && (decide (y141.Value = y145.Value) && true))))) rfl (fun hb151 => ?_) (fun hb151 => ?_)
      · have hm := ite_t' hb151 hm
        refine C_seq ?_
        refine C_region ?_
        refine W_assign rfl rfl rfl ?_
        refine W_end ?_
        refine E_then ?_
        refine C_ret ?_
        refine E_ret_block ?_
        refine E_ret_then ?_
        refine E_ret_then ?_
        refine E_ret_block ?_
        refine E_ret_then ?_
        obtain rfl := Option.some.inj hm
        refine E_weak (Hp.le_trans hle130 hle150) ?_
        exact end1 rfl rfl ⟨rfl, rfl, rfl⟩
      · have hm := ite_f' hb151 hm
        refine C_skip ?_
        refine E_normal_block ?_
        refine E_then ?_
        refine C_region ?_
        refine W_bin rfl rfl rfl rfl rfl ?_
        refine W_move rfl rfl rfl ?_
        refine W_end ?_
        exact E_keepJ (E_back (Nat.lt_succ_self _) ⟨k102 + 1, zs136, hd139, rfl, (by rw [hn133]; exact hm), (Hp.le_trans hle130 hle150), rfl, rfl⟩) (List.Perm.refl _) ⟨rfl, rfl, rfl, (congrArg (fun z => some (Value.int .i64 z)) (i64_succN hy137 (toNat_max (len_max (h0).lenMax)))), trivial⟩
    · obtain rfl := rngN_f hd138 hb140
      have hm : (some true) = some r := hm
      refine C_exit (E_exit_then ?_)
      refine E_exit_then ?_
      refine E_exit_hit ?_
      refine E_then ?_
      refine C_seq ?_
      refine C_region ?_
      refine W_assign rfl rfl rfl ?_
      refine W_end ?_
      refine E_then ?_
      refine C_ret ?_
      obtain rfl := Option.some.inj hm
      refine E_weak hle130 ?_
      exact end1 rfl rfl ⟨rfl, rfl, rfl⟩

theorem m_gridhallkeep4_ConsoleScripts_c {B : Nat} {w0 w : World} [Tabs B w0] {H : Hp} {M : List Res} {p0_l : (List S_api_ConsoleCommand)} {time : Int} {v0 : Value} {r : Bool} (hm : m_gridhallkeep4_ConsoleScripts p0_l time = some r) (h0 : RdS H v0 p0_l) (ht : St B w0 H (M) w) :
    Calls Proofs.Tryd.prog 4 [v0, .int .i64 (time)].toArray w (Ret B w0 fun H' M' v => H = H' ∧ M = M' ∧ .bool (r) = v) := by
  unfold m_gridhallkeep4_ConsoleScripts at hm
  refine enter Proofs.Tryd.func4 rfl rfl rfl ht ?_
  refine C_seq ?_
  refine C_region ?_
  refine W_assign rfl rfl rfl ?_
  refine W_end ?_
  refine E_then ?_
  refine C_seq ?_
  refine C_region ?_
  refine W_move rfl rfl rfl ?_
  obtain ⟨r101, hc102, hm⟩ := bind_some hm
  refine W_call Proofs.Tryd.call9 rfl rfl rfl (fun w ht => by have h := m_gridhallref4_Cut_c (hm := hc102)  ht; exact h) ?_
  rintro _ _ _ ⟨rfl, rfl, rfl⟩
  refine W_assign rfl rfl rfl ?_
  refine W_end ?_
  refine E_then ?_
  refine C_seq ?_
  refine C_region ?_
  refine W_move rfl rfl rfl ?_
  refine W_assign rfl rfl rfl ?_
  refine W_assign rfl rfl rfl ?_
  refine W_end ?_
  refine E_then ?_
  refine C_seq ?_
  refine C_region ?_
  refine W_assign rfl rfl rfl ?_
  refine W_end ?_
  refine E_then ?_
  refine C_seq ?_
  refine C_seq ?_
  refine C_region ?_
  refine W_move rfl rfl rfl ?_
  refine W_move rfl rfl rfl ?_
  refine W_lenR rfl rfl Proofs.Tryd.runUnderlying32 rfl h0 ?_
  refine W_min rfl rfl rfl rfl ?_
  obtain ⟨hz103, hm⟩ := need_some hm
  refine W_sliceR (α := S_api_ConsoleCommand) (l := 0) (h := (min (p0_l.length : Int) 10 : Int).toNat) (xs := p0_l) rfl rfl Proofs.Tryd.runUnderlying32 Proofs.Tryd.sizeOf23 rfl h0 (by omega) (by omega) (.inl rfl) (fun cap hcap => by rw [if_pos rfl]; exact (.inl ⟨rfl, rfl⟩)) (fun m hmm => (.inr ⟨_, _, _, rfl, rfl, by omega, by omega, rfl⟩)) (.inl ⟨rfl, rfl⟩) ?_
  intro v104 h105 hc106
  refine W_lenR rfl rfl Proofs.Tryd.runUnderlying32 rfl h105 ?_
  refine W_move rfl rfl rfl ?_
  refine W_end ?_
  refine E_then ?_
  refine C_block ?_
  refine C_nilRow 36 (Rep.sz S_api_Event) ?_
  refine C_keep (L' := [(1, .int .i64 (r101)), (5, .string (⟨#[]⟩)), (6, .int .i64 (r101)), (7, (.slice none 0 0)), (25, v104), (26, .int .i64 (((slc p0_l 0 ((min (p0_l.length : Int) 10 : Int).toNat)).length : Int))), (27, .int .i64 (((0 : Nat) : Int)))]) ⟨rfl, rfl, rfl, rfl, rfl, rfl, rfl, trivial⟩ (List.Perm.refl _) ?_
  refine C_loop (fun n H' M' L' => ∃ (k107 : Nat) (zs235' : List S_api_ConsoleCommand), ∃ s222 : ByteArray, ∃ n223 : Int, ∃ l226 : List S_api_Event, ∃ v224 : Value, ∃ xs225 : List Value, (slc p0_l 0 ((min (p0_l.length : Int) 10 : Int).toNat)).drop k107 = zs235' ∧ zs235'.length = n ∧ forI (fun k y s230 n => m_gridhallkeep4_ConsoleScripts_b3 k y s230.1 s230.2.1 s230.2.2 n) (fun s230 => (m_console_Script s230.1 r101).bind fun r289 => need (s230.1.size + (⟨#[116, 101, 108, 108]⟩ : ByteArray).size ≤ maxLen) ((m_console_Script (s230.1 ++ (⟨#[116, 101, 108, 108]⟩)) r101).bind fun r295 => (m_gridhallkeep4_consoleFact).bind fun r300 => if r300 then (if decide (r289.2.2 = 0) then (if decide (r289.2.1 = 0) then ((m_slices_Equal_api_Event_api_Event r289.1 s230.2.2).bind fun r305 => if r305 then (if decide (r295.2.2 = 5) then ((m_strings_Count s230.1 (⟨#[10]⟩)).bind fun r309 => if decide (r295.2.1 = r309) then (some (decide ((r295.1.length : Int) = 0))) else (some false)) else (some false)) else (some false)) else (some false)) else (some false)) else (some false))) k107 zs235' (s222, n223, l226) = some r ∧ Rw H' v224 xs225 l226 ∧ H.le H' ∧ .row v224 36 (Rep.sz S_api_Event) l226.length xs225 :: M = M' ∧ [(1, .int .i64 (r101)), (5, .string (s222)), (6, .int .i64 (n223)), (7, v224), (25, v104), (26, .int .i64 (((slc p0_l 0 ((min (p0_l.length : Int) 10 : Int).toNat)).length : Int))), (27, .int .i64 ((k107 : Int)))] = L') _ ⟨0, _, ⟨#[]⟩, r101, ([] : List S_api_Event), (.slice none 0 0), ([]), rfl, rfl, hm, Rw.nil, (Hp.le_refl _), rfl, rfl⟩ ?_
  rintro _ H228 _ _ ⟨k107, zs235', s222, n223, l226, v224, xs225, hd237, rfl, hm, hr227, hle229, rfl, rfl⟩
  refine C_seq ?_
  refine C_region ?_
  refine W_bin rfl rfl rfl rfl rfl ?_
  refine W_end (E_then ?_)
  refine C_seq ?_
  refine C_cond (b := decide ((k107 : Int) < ((slc p0_l 0 ((min (p0_l.length : Int) 10 : Int).toNat)).length : Int))) rfl (fun hb239 => ?_) (fun hb239 => ?_)
  · obtain ⟨y234, zs235, rfl, hy236, hd238⟩ := rng_t hd237 hb239
    have hm : m_gridhallkeep4_ConsoleScripts_b3 k107 y234 s222 n223 l226 (forI (fun k y s230 n => m_gridhallkeep4_ConsoleScripts_b3 k y s230.1 s230.2.1 s230.2.2 n) (fun s230 => (m_console_Script s230.1 r101).bind fun r289 => need (s230.1.size + (⟨#[116, 101, 108, 108]⟩ : ByteArray).size ≤ maxLen) ((m_console_Script (s230.1 ++ (⟨#[116, 101, 108, 108]⟩)) r101).bind fun r295 => (m_gridhallkeep4_consoleFact).bind fun r300 => if r300 then (if decide (r289.2.2 = 0) then (if decide (r289.2.1 = 0) then ((m_slices_Equal_api_Event_api_Event r289.1 s230.2.2).bind fun r305 => if r305 then (if decide (r295.2.2 = 5) then ((m_strings_Count s230.1 (⟨#[10]⟩)).bind fun r309 => if decide (r295.2.1 = r309) then (some (decide ((r295.1.length : Int) = 0))) else (some false)) else (some false)) else (some false)) else (some false)) else (some false)) else (some false))) (k107 + 1) zs235) = some r := hm
    generalize hn232 : forI (fun k y s230 n => m_gridhallkeep4_ConsoleScripts_b3 k y s230.1 s230.2.1 s230.2.2 n) (fun s230 => (m_console_Script s230.1 r101).bind fun r289 => need (s230.1.size + (⟨#[116, 101, 108, 108]⟩ : ByteArray).size ≤ maxLen) ((m_console_Script (s230.1 ++ (⟨#[116, 101, 108, 108]⟩)) r101).bind fun r295 => (m_gridhallkeep4_consoleFact).bind fun r300 => if r300 then (if decide (r289.2.2 = 0) then (if decide (r289.2.1 = 0) then ((m_slices_Equal_api_Event_api_Event r289.1 s230.2.2).bind fun r305 => if r305 then (if decide (r295.2.2 = 5) then ((m_strings_Count s230.1 (⟨#[10]⟩)).bind fun r309 => if decide (r295.2.1 = r309) then (some (decide ((r295.1.length : Int) = 0))) else (some false)) else (some false)) else (some false)) else (some false)) else (some false)) else (some false))) (k107 + 1) zs235 = nx231 at hm
    unfold m_gridhallkeep4_ConsoleScripts_b3 at hm
    refine C_skip (E_then ?_)
    refine C_seq_join (fun H' M' L' => ∃ s260 : ByteArray, ∃ n261 : Int, ∃ l264 : List S_api_Event, ∃ v262 : Value, ∃ xs263 : List Value, m_gridhallkeep4_ConsoleScripts_b4 nx231 s260 n261 l264 = some r ∧ Rw H' v262 xs263 l264 ∧ H228.le H' ∧ .row v262 36 (Rep.sz S_api_Event) l264.length xs263 :: M = M' ∧ [(1, .int .i64 (r101)), (5, .string (s260)), (6, .int .i64 (n261)), (7, v262), (25, v104), (26, .int .i64 (((slc p0_l 0 ((min (p0_l.length : Int) 10 : Int).toNat)).length : Int))), (27, .int .i64 ((k107 : Int)))] = L') ?_ (fun J268 => ?_)
    · rintro H266 _ _ ⟨s260, n261, l264, v262, xs263, hm, hr265, hle267, rfl, rfl⟩
      unfold m_gridhallkeep4_ConsoleScripts_b4 at hm
      refine C_region ?_
      refine W_bin rfl rfl rfl rfl rfl ?_
      refine W_move rfl rfl rfl ?_
      refine W_end ?_
      exact E_keepJ (E_back (Nat.lt_succ_self _) ⟨k107 + 1, zs235, s260, n261, l264, v262, xs263, hd238, rfl, (by rw [hn232]; exact hm), hr265, (Hp.le_trans hle229 hle267), rfl, rfl⟩) (List.Perm.refl _) ⟨rfl, rfl, rfl, rfl, rfl, rfl, (congrArg (fun z => some (Value.int .i64 z)) (i64_succ hy236 ((h105.mono hle229)).lenMax)), trivial⟩
    · refine C_block ?_
      refine C_seq ?_
      refine C_region ?_
      obtain ⟨_, ⟨rfl⟩, hc269⟩ := (h105).elem hy236
      refine W_indexS rfl rfl Proofs.Tryd.runUnderlying32 Proofs.Tryd.sizeOf23 rfl (h105.mono hle229) rfl (Int.natCast_nonneg _) hy236 ?_
      refine W_loadAgg rfl rfl Proofs.Tryd.isAgg23 Proofs.Tryd.sizeOf23 rfl (hc269.mono hle229).at rfl ?_
      refine W_alloc (cs := [.string (⟨#[]⟩), .string (⟨#[]⟩), .int .i64 (0)]) rfl rfl Proofs.Tryd.zeroValue23 rfl (fun b270 => ?_)
      refine W_store (cs := [.string (y234.Verb), .string (y234.Name), .int .i64 (y234.N)]) (out := [.string (y234.Verb), .string (y234.Name), .int .i64 (y234.N)]) rfl Proofs.Tryd.sizeOf23 rfl rfl rfl rfl rfl (all_cons rfl (all_cons rfl (all_cons rfl all_nil))) (over_all rfl) ?_
      refine W_end ?_
      refine E_then ?_
      refine C_seq ?_
      refine C_region ?_
      refine W_loadAgg rfl rfl Proofs.Tryd.isAgg23 Proofs.Tryd.sizeOf23 rfl (own_all (List.mem_cons_self ..)) rfl ?_
      obtain ⟨r271, hc272, hm⟩ := bind_some hm
      refine W_call Proofs.Tryd.call5 rfl rfl rfl (fun w ht => by have h := m_console_Print_c (hm := hc272)  ht; exact h) ?_
      rintro _ _ _ ⟨rfl, rfl, rfl⟩
      refine W_move rfl rfl rfl ?_
      refine W_extract rfl rfl rfl rfl ?_
      refine W_extract rfl rfl rfl rfl ?_
      refine W_assign rfl rfl rfl ?_
      refine W_assign rfl rfl rfl ?_
      refine W_end ?_
      refine E_then ?_
      refine C_seq ?_
      refine C_seq ?_
      refine C_region ?_
      refine W_move rfl rfl rfl ?_
      refine W_bin rfl rfl rfl rfl rfl ?_
      refine W_end ?_
      refine E_then ?_
      refine C_cond (b := !decide (r271.2 = 0)) rfl (fun hb273 => ?_) (fun hb273 => ?_)
      · have hm := ite_t' hb273 hm
        refine C_exit ?_
        refine E_exit_then ?_
        refine E_exit_hit ?_
        refine E_drop (List.Sublist.cons _ (List.Sublist.refl _)) ?_
        exact E_keepJ (J268 _ _ _ ⟨s222, n223, l226, v224, xs225, hm, hr227, (Hp.le_refl _), rfl, rfl⟩) (List.Perm.refl _) ⟨rfl, rfl, rfl, rfl, rfl, rfl, rfl, trivial⟩
      · have hm := ite_f' hb273 hm
        refine C_skip ?_
        refine E_then ?_
        refine C_seq ?_
        refine C_region ?_
        refine W_move rfl rfl rfl ?_
        refine W_move rfl rfl rfl ?_
        obtain ⟨hq274, hm⟩ := need_some hm
        refine W_addStr rfl rfl rfl rfl hq274 ?_
        obtain ⟨hq275, hm⟩ := need_some hm
        refine W_addStr rfl rfl rfl rfl hq275 ?_
        refine W_assign rfl rfl rfl ?_
        refine W_end ?_
        refine E_then ?_
        refine C_seq ?_
        refine C_region ?_
        refine W_field (o := 0) rfl rfl Proofs.Tryd.runUnderlying23 rfl Proofs.Tryd.sizeOf9 rfl rfl rfl ?_
        refine W_load rfl rfl Proofs.Tryd.isAgg9 rfl (own_at (List.mem_cons_self ..) rfl) ?_
        refine W_end ?_
        refine E_then ?_
        refine C_block ?_
        refine C_seq ?_
        refine C_region ?_
        refine W_bin rfl rfl rfl rfl rfl ?_
        refine W_assign rfl rfl rfl ?_
        refine W_end ?_
        refine E_then ?_
        refine C_cond (b := decide (y234.Verb = (⟨#[119, 97, 105, 116]⟩))) rfl (fun hb276 => ?_) (fun hb276 => ?_)
        · have hm := ite_t' hb276 hm
          refine C_region ?_
          refine W_move rfl rfl rfl ?_
          refine W_field (o := 2) rfl rfl Proofs.Tryd.runUnderlying23 rfl Proofs.Tryd.sizeOf3 rfl rfl rfl ?_
          refine W_load rfl rfl Proofs.Tryd.isAgg3 rfl (own_at (List.mem_cons_self ..) rfl) ?_
          refine W_bin rfl rfl rfl rfl rfl ?_
          refine W_assign rfl rfl rfl ?_
          refine W_end ?_
          refine E_normal_block ?_
          refine E_normal_block ?_
          refine E_drop (List.Sublist.cons _ (List.Sublist.refl _)) ?_
          exact E_keepJ (J268 _ _ _ ⟨s222 ++ (r271.1 ++ (⟨#[10]⟩)), IntKind.i64.wrap (n223 + y234.N), l226, v224, xs225, hm, hr227, (Hp.le_refl _), rfl, rfl⟩) (List.Perm.refl _) ⟨rfl, rfl, rfl, rfl, rfl, rfl, rfl, trivial⟩
        · have hm := ite_f' hb276 hm
          refine C_seq ?_
          refine C_region ?_
          refine W_bin rfl rfl rfl rfl rfl ?_
          refine W_assign rfl rfl rfl ?_
          refine W_end ?_
          refine E_then ?_
          refine C_cond (b := decide (y234.Verb = (⟨#[116, 101, 108, 108]⟩))) rfl (fun hb277 => ?_) (fun hb277 => ?_)
          · have hm := ite_t' hb277 hm
            refine C_skip ?_
            refine E_normal_block ?_
            refine E_normal_block ?_
            refine E_drop (List.Sublist.cons _ (List.Sublist.refl _)) ?_
            exact E_keepJ (J268 _ _ _ ⟨s222 ++ (r271.1 ++ (⟨#[10]⟩)), n223, l226, v224, xs225, hm, hr227, (Hp.le_refl _), rfl, rfl⟩) (List.Perm.refl _) ⟨rfl, rfl, rfl, rfl, rfl, rfl, rfl, trivial⟩
          · have hm := ite_f' hb277 hm
            refine C_region ?_
            refine W_move rfl rfl rfl ?_
            refine W_move rfl rfl rfl ?_
            refine W_field (o := 0) rfl rfl Proofs.Tryd.runUnderlying23 rfl Proofs.Tryd.sizeOf9 rfl rfl rfl ?_
            refine W_load rfl rfl Proofs.Tryd.isAgg9 rfl (own_at (List.mem_cons_self ..) rfl) ?_
            refine W_field (o := 1) rfl rfl Proofs.Tryd.runUnderlying23 rfl Proofs.Tryd.sizeOf9 rfl rfl rfl ?_
            refine W_load rfl rfl Proofs.Tryd.isAgg9 rfl (own_at (List.mem_cons_self ..) rfl) ?_
            refine W_field (o := 2) rfl rfl Proofs.Tryd.runUnderlying23 rfl Proofs.Tryd.sizeOf3 rfl rfl rfl ?_
            refine W_load rfl rfl Proofs.Tryd.isAgg3 rfl (own_at (List.mem_cons_self ..) rfl) ?_
            refine W_build (css := [[.int .i64 (n223)], [.string (y234.Verb)], [.string (y234.Name)], [.int .i64 (y234.N)]]) (zs := [.int .i64 (0), .string (⟨#[]⟩), .string (⟨#[]⟩), .int .i64 (0)]) (out := [.int .i64 (n223), .string (y234.Verb), .string (y234.Name), .int .i64 (y234.N)]) (places := [(0, 1), (1, 1), (2, 1), (3, 1)]) rfl rfl rfl ⟨rfl, rfl, rfl, rfl, trivial⟩ Proofs.Tryd.zeroValue36 rfl Proofs.Tryd.runUnderlying36 (fun w => by kernel_rfl) rfl ?_
            refine W_buildSlice (α := S_api_Event) (css := [[.int .i64 (n223), .string (y234.Verb), .string (y234.Name), .int .i64 (y234.N)]]) (zs := [.int .i64 (0), .string (⟨#[]⟩), .string (⟨#[]⟩), .int .i64 (0)]) (out := [.int .i64 (n223), .string (y234.Verb), .string (y234.Name), .int .i64 (y234.N)]) (ys := [(S_api_Event.mk n223 y234.Verb y234.Name y234.N)]) rfl rfl rfl ⟨rfl, trivial⟩ Proofs.Tryd.runUnderlying34 Proofs.Tryd.sizeOf36 rfl Proofs.Tryd.zeroValue36 (by kernel_rfl) rfl rfl rfl rfl ⟨[.int .i64 (n223), .string (y234.Verb), .string (y234.Name), .int .i64 (y234.N)], [], rfl, rfl, rfl⟩ rfl ?_
            intro b278 v279 H280 hv281 hle282 h283
            have hc284 : Value.cap' v279 = ([(S_api_Event.mk n223 y234.Verb y234.Name y234.N)]).length := by rw [hv281]; rfl
            obtain ⟨hz285, hm⟩ := need_some hm
            refine W_perm (List.Perm.swap _ _ _) ?_
            refine W_appendO (α := S_api_Event) (l := l226) (ys := [(S_api_Event.mk n223 y234.Verb y234.Name y234.N)]) rfl rfl Proofs.Tryd.underlying34 ⟨_, rfl, rfl, rfl, rfl⟩ rfl rfl rfl rfl rfl (hr227.mono hle282) h283 hz285 ?_
            intro v286 xs287 hr288
            refine W_assign rfl rfl rfl ?_
            refine W_end ?_
            refine E_normal_block ?_
            refine E_normal_block ?_
            refine E_drop (List.Sublist.cons_cons _ (List.Sublist.cons _ (List.Sublist.refl _))) ?_
            exact E_keepJ (J268 _ _ _ ⟨s222 ++ (r271.1 ++ (⟨#[10]⟩)), n223, (l226 ++ ([(S_api_Event.mk n223 y234.Verb y234.Name y234.N)])), v286, xs287, hm, hr288, hle282, rfl, rfl⟩) (List.Perm.refl _) ⟨rfl, rfl, rfl, rfl, rfl, rfl, rfl, trivial⟩
  · obtain rfl := rng_f hd237 hb239
    have hm : ((m_console_Script s222 r101).bind fun r289 => need (s222.size + (⟨#[116, 101, 108, 108]⟩ : ByteArray).size ≤ maxLen) ((m_console_Script (s222 ++ (⟨#[116, 101, 108, 108]⟩)) r101).bind fun r295 => (m_gridhallkeep4_consoleFact).bind fun r300 => if r300 then (if decide (r289.2.2 = 0) then (if decide (r289.2.1 = 0) then ((m_slices_Equal_api_Event_api_Event r289.1 l226).bind fun r305 => if r305 then (if decide (r295.2.2 = 5) then ((m_strings_Count s222 (⟨#[10]⟩)).bind fun r309 => if decide (r295.2.1 = r309) then (some (decide ((r295.1.length : Int) = 0))) else (some false)) else (some false)) else (some false)) else (some false)) else (some false)) else (some false))) = some r := hm
    refine C_exit (E_exit_then ?_)
    refine E_exit_then ?_
    refine E_exit_hit ?_
    refine E_then ?_
    refine C_seq ?_
    refine C_region ?_
    refine W_move rfl rfl rfl ?_
    refine W_move rfl rfl rfl ?_
    obtain ⟨r289, hc290, hm⟩ := bind_some hm
    refine W_call Proofs.Tryd.call10 rfl rfl rfl (fun w ht => by have h := m_console_Script_c (hm := hc290)  ht; exact h) ?_
    rintro _ _ _ ⟨rfl, v291, xs292, rfl, rfl, h293⟩
    have h293 := h293 H228
    refine W_move rfl rfl rfl ?_
    refine W_extract rfl rfl rfl rfl ?_
    refine W_extract rfl rfl rfl rfl ?_
    refine W_extract rfl rfl rfl rfl ?_
    refine W_assign rfl rfl rfl ?_
    refine W_assign rfl rfl rfl ?_
    refine W_assign rfl rfl rfl ?_
    refine W_end ?_
    refine E_then ?_
    refine C_seq ?_
    refine C_region ?_
    refine W_move rfl rfl rfl ?_
    obtain ⟨hq294, hm⟩ := need_some hm
    refine W_addStr rfl rfl rfl rfl hq294 ?_
    refine W_move rfl rfl rfl ?_
    obtain ⟨r295, hc296, hm⟩ := bind_some hm
    refine W_call Proofs.Tryd.call10 rfl rfl rfl (fun w ht => by have h := m_console_Script_c (hm := hc296)  ht; exact h) ?_
    rintro _ _ _ ⟨rfl, v297, xs298, rfl, rfl, h299⟩
    have h299 := h299 H228
    refine W_move rfl rfl rfl ?_
    refine W_extract rfl rfl rfl rfl ?_
    refine W_extract rfl rfl rfl rfl ?_
    refine W_extract rfl rfl rfl rfl ?_
    refine W_assign rfl rfl rfl ?_
    refine W_assign rfl rfl rfl ?_
    refine W_assign rfl rfl rfl ?_
    refine W_end ?_
    refine E_then ?_
    refine C_seq ?_
    refine C_region ?_
    obtain ⟨r300, hc301, hm⟩ := bind_some hm
    refine W_call Proofs.Tryd.call7 rfl rfl rfl (fun w ht => by have h := m_gridhallkeep4_consoleFact_c (hm := hc301)  ht; exact h) ?_
    rintro _ _ _ ⟨rfl, rfl, rfl⟩
    refine W_move rfl rfl rfl ?_
    cases hb302 : (r300)
    · have hm := ite_f' hb302 hm
      refine W_no rfl rfl rfl ?_
      refine W_no rfl rfl rfl ?_
      refine W_pick rfl rfl rfl rfl ?_
      refine W_move rfl rfl rfl ?_
      refine W_no rfl rfl rfl ?_
      refine W_no rfl rfl rfl ?_
      refine W_pick rfl rfl rfl rfl ?_
      refine W_move rfl rfl rfl ?_
      refine W_no rfl rfl rfl ?_
      refine W_no rfl rfl rfl ?_
      refine W_no rfl rfl rfl ?_
      refine W_pick rfl rfl rfl rfl ?_
      refine W_move rfl rfl rfl ?_
      refine W_no rfl rfl rfl ?_
      refine W_no rfl rfl rfl ?_
      refine W_pick rfl rfl rfl rfl ?_
      refine W_move rfl rfl rfl ?_
      refine W_no rfl rfl rfl ?_
      refine W_no rfl rfl rfl ?_
      refine W_no rfl rfl rfl ?_
      refine W_no rfl rfl rfl ?_
      refine W_pick rfl rfl rfl rfl ?_
      refine W_move rfl rfl rfl ?_
      refine W_no rfl rfl rfl ?_
      refine W_no rfl rfl rfl ?_
      refine W_no rfl rfl rfl ?_
      refine W_pick rfl rfl rfl rfl ?_
      refine W_assign rfl rfl rfl ?_
      refine W_end ?_
      refine E_then ?_
      refine C_ret ?_
      obtain rfl := Option.some.inj hm
      refine E_drop (List.Sublist.cons _ (List.Sublist.cons _ (List.Sublist.cons _ (List.Sublist.refl _)))) ?_
      refine E_weak hle229 ?_
      exact end1 rfl rfl ⟨rfl, rfl, rfl⟩
    · have hm := ite_t' hb302 hm
      refine W_move rfl rfl rfl ?_
      refine W_bin rfl rfl rfl rfl rfl ?_
      refine W_pick rfl rfl rfl rfl ?_
      refine W_move rfl rfl rfl ?_
      cases hb303 : (decide (r289.2.2 = 0))
      · have hm := ite_f' hb303 hm
        refine W_no rfl rfl rfl ?_
        refine W_no rfl rfl rfl ?_
        refine W_pick rfl rfl rfl rfl ?_
        refine W_move rfl rfl rfl ?_
        refine W_no rfl rfl rfl ?_
        refine W_no rfl rfl rfl ?_
        refine W_no rfl rfl rfl ?_
        refine W_pick rfl rfl rfl rfl ?_
        refine W_move rfl rfl rfl ?_
        refine W_no rfl rfl rfl ?_
        refine W_no rfl rfl rfl ?_
        refine W_pick rfl rfl rfl rfl ?_
        refine W_move rfl rfl rfl ?_
        refine W_no rfl rfl rfl ?_
        refine W_no rfl rfl rfl ?_
        refine W_no rfl rfl rfl ?_
        refine W_no rfl rfl rfl ?_
        refine W_pick rfl rfl rfl rfl ?_
        refine W_move rfl rfl rfl ?_
        refine W_no rfl rfl rfl ?_
        refine W_no rfl rfl rfl ?_
        refine W_no rfl rfl rfl ?_
        refine W_pick rfl rfl rfl rfl ?_
        refine W_assign rfl rfl rfl ?_
        refine W_end ?_
        refine E_then ?_
        refine C_ret ?_
        obtain rfl := Option.some.inj hm
        refine E_drop (List.Sublist.cons _ (List.Sublist.cons _ (List.Sublist.cons _ (List.Sublist.refl _)))) ?_
        refine E_weak hle229 ?_
        exact end1 rfl rfl ⟨rfl, rfl, rfl⟩
      · have hm := ite_t' hb303 hm
        refine W_move rfl rfl rfl ?_
        refine W_bin rfl rfl rfl rfl rfl ?_
        refine W_pick rfl rfl rfl rfl ?_
        refine W_move rfl rfl rfl ?_
        cases hb304 : (decide (r289.2.1 = 0))
        · have hm := ite_f' hb304 hm
          refine W_no rfl rfl rfl ?_
          refine W_no rfl rfl rfl ?_
          refine W_no rfl rfl rfl ?_
          refine W_pick rfl rfl rfl rfl ?_
          refine W_move rfl rfl rfl ?_
          refine W_no rfl rfl rfl ?_
          refine W_no rfl rfl rfl ?_
          refine W_pick rfl rfl rfl rfl ?_
          refine W_move rfl rfl rfl ?_
          refine W_no rfl rfl rfl ?_
          refine W_no rfl rfl rfl ?_
          refine W_no rfl rfl rfl ?_
          refine W_no rfl rfl rfl ?_
          refine W_pick rfl rfl rfl rfl ?_
          refine W_move rfl rfl rfl ?_
          refine W_no rfl rfl rfl ?_
          refine W_no rfl rfl rfl ?_
          refine W_no rfl rfl rfl ?_
          refine W_pick rfl rfl rfl rfl ?_
          refine W_assign rfl rfl rfl ?_
          refine W_end ?_
          refine E_then ?_
          refine C_ret ?_
          obtain rfl := Option.some.inj hm
          refine E_drop (List.Sublist.cons _ (List.Sublist.cons _ (List.Sublist.cons _ (List.Sublist.refl _)))) ?_
          refine E_weak hle229 ?_
          exact end1 rfl rfl ⟨rfl, rfl, rfl⟩
        · have hm := ite_t' hb304 hm
          refine W_move rfl rfl rfl ?_
          refine W_move rfl rfl rfl ?_
          refine W_perm (List.Perm.trans (List.Perm.swap _ _ _) (List.Perm.cons _ (List.Perm.swap _ _ _))) ?_
          obtain ⟨r305, hc306, hm⟩ := bind_some hm
          refine W_call Proofs.Tryd.call11 rfl rfl rfl (fun w ht => by obtain ⟨H0_, hl0_, ht0_, hr0_, bk0_⟩ := ht.lendRow h293 rfl; obtain ⟨H1_, hl1_, ht1_, hr1_, bk1_⟩ := ht0_.lendRow (hr227.mono hl0_) rfl; have h := m_slices_Equal_api_Event_api_Event_c (hm := hc306) (hr0_.mono hl1_) hr1_ ht1_; exact lend_back bk0_ (lend_back bk1_ (h))) ?_
          rintro _ _ _ ⟨rfl, ⟨_, rfl, ⟨_, rfl, rfl, rfl⟩⟩⟩
          refine W_pick rfl rfl rfl rfl ?_
          refine W_move rfl rfl rfl ?_
          cases hb307 : (r305)
          · have hm := ite_f' hb307 hm
            refine W_no rfl rfl rfl ?_
            refine W_no rfl rfl rfl ?_
            refine W_pick rfl rfl rfl rfl ?_
            refine W_move rfl rfl rfl ?_
            refine W_no rfl rfl rfl ?_
            refine W_no rfl rfl rfl ?_
            refine W_no rfl rfl rfl ?_
            refine W_no rfl rfl rfl ?_
            refine W_pick rfl rfl rfl rfl ?_
            refine W_move rfl rfl rfl ?_
            refine W_no rfl rfl rfl ?_
            refine W_no rfl rfl rfl ?_
            refine W_no rfl rfl rfl ?_
            refine W_pick rfl rfl rfl rfl ?_
            refine W_assign rfl rfl rfl ?_
            refine W_end ?_
            refine E_then ?_
            refine C_ret ?_
            obtain rfl := Option.some.inj hm
            refine E_drop (List.Sublist.cons _ (List.Sublist.cons _ (List.Sublist.cons _ (List.Sublist.refl _)))) ?_
            refine E_weak hle229 ?_
            exact end1 rfl rfl ⟨rfl, rfl, rfl⟩
          · have hm := ite_t' hb307 hm
            refine W_move rfl rfl rfl ?_
            refine W_bin rfl rfl rfl rfl rfl ?_
            refine W_pick rfl rfl rfl rfl ?_
            refine W_move rfl rfl rfl ?_
            cases hb308 : (decide (r295.2.2 = 5))
            · have hm := ite_f' hb308 hm
              refine W_no rfl rfl rfl ?_
              refine W_no rfl rfl rfl ?_
              refine W_no rfl rfl rfl ?_
              refine W_no rfl rfl rfl ?_
              refine W_pick rfl rfl rfl rfl ?_
              refine W_move rfl rfl rfl ?_
              refine W_no rfl rfl rfl ?_
              refine W_no rfl rfl rfl ?_
              refine W_no rfl rfl rfl ?_
              refine W_pick rfl rfl rfl rfl ?_
              refine W_assign rfl rfl rfl ?_
              refine W_end ?_
              refine E_then ?_
              refine C_ret ?_
              obtain rfl := Option.some.inj hm
              refine E_drop (List.Sublist.cons _ (List.Sublist.cons _ (List.Sublist.cons _ (List.Sublist.refl _)))) ?_
              refine E_weak hle229 ?_
              exact end1 rfl rfl ⟨rfl, rfl, rfl⟩
            · have hm := ite_t' hb308 hm
              refine W_move rfl rfl rfl ?_
              refine W_move rfl rfl rfl ?_
              obtain ⟨r309, hc310, hm⟩ := bind_some hm
              refine W_call Proofs.Tryd.call12 rfl rfl rfl (fun w ht => by have h := m_strings_Count_c (hm := hc310)  ht; exact h) ?_
              rintro _ _ _ ⟨rfl, rfl, rfl⟩
              refine W_bin rfl rfl rfl rfl rfl ?_
              refine W_pick rfl rfl rfl rfl ?_
              refine W_move rfl rfl rfl ?_
              cases hb311 : (decide (r295.2.1 = r309))
              · have hm := ite_f' hb311 hm
                refine W_no rfl rfl rfl ?_
                refine W_no rfl rfl rfl ?_
                refine W_no rfl rfl rfl ?_
                refine W_pick rfl rfl rfl rfl ?_
                refine W_assign rfl rfl rfl ?_
                refine W_end ?_
                refine E_then ?_
                refine C_ret ?_
                obtain rfl := Option.some.inj hm
                refine E_drop (List.Sublist.cons _ (List.Sublist.cons _ (List.Sublist.cons _ (List.Sublist.refl _)))) ?_
                refine E_weak hle229 ?_
                exact end1 rfl rfl ⟨rfl, rfl, rfl⟩
              · have hm := ite_t' hb311 hm
                refine W_move rfl rfl rfl ?_
                refine W_lenO (List.mem_cons_of_mem _ (List.mem_cons_of_mem _ (List.mem_cons_self ..))) rfl rfl Proofs.Tryd.runUnderlying34 rfl ?_
                refine W_bin rfl rfl rfl rfl rfl ?_
                refine W_pick rfl rfl rfl rfl ?_
                refine W_assign rfl rfl rfl ?_
                refine W_end ?_
                refine E_then ?_
                refine C_ret ?_
                obtain rfl := Option.some.inj hm
                refine E_drop (List.Sublist.cons _ (List.Sublist.cons _ (List.Sublist.cons _ (List.Sublist.refl _)))) ?_
                refine E_weak hle229 ?_
                exact end1 rfl rfl ⟨rfl, rfl, rfl⟩
end Go.Sim
