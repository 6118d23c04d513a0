/-
  Printed by a program: each Go function computes its model.
-/
import Derived.Test.YtfakgoeoclfoaaaGreatDoorConL3
namespace Go.Sim
open Go Go.Proofs.Tryz
set_option linter.unusedVariables false
set_option linter.unusedSimpArgs false
set_option maxRecDepth 100000
theorem m_gridhallkeep4_ForecastExact_c {B : Nat} {w0 w : World} [Tabs B w0] {H : Hp} {M : List Res} {p0_a : Int} {p1_b : Int} {p2_n : Int} {p3_k : Int} {r : Bool} (hm : m_gridhallkeep4_ForecastExact p0_a p1_b p2_n p3_k = some r) (ht : St B w0 H (M) w) :
  Calls prog 5 [.int .i64 (p0_a), .int .i64 (p1_b), .int .i64 (p2_n), .int .i64 (p3_k)].toArray w (Ret B w0 fun H' M' v => H = H' ∧ M = M' ∧ .bool (r) = v) := by
 unfold m_gridhallkeep4_ForecastExact at hm
 refine enter func5 rfl rfl rfl ht ?_
 refine C_seq (C_region ?_)
 refine W_assign rfl rfl rfl ?_
 refine W_end (E_then (C_seq (C_region ?_)))
 refine W_move rfl rfl rfl ?_
 obtain ⟨r101, hc102, hm⟩ := bind_some hm
 refine W_call call8 rfl rfl rfl (fun w ht => by have h := m_gridhallref4_Cut_c (hm := hc102)  ht; exact h) ?_
 rintro _ _ _ ⟨rfl, rfl, rfl⟩
 refine W_move rfl rfl rfl ?_
 obtain ⟨r103, hc104, hm⟩ := bind_some hm
 refine W_call call8 rfl rfl rfl (fun w ht => by have h := m_gridhallref4_Cut_c (hm := hc104)  ht; exact h) ?_
 rintro _ _ _ ⟨rfl, rfl, rfl⟩
 refine W_move rfl rfl rfl ?_
 obtain ⟨r105, hc106, hm⟩ := bind_some hm
 refine W_call call8 rfl rfl rfl (fun w ht => by have h := m_gridhallref4_Cut_c (hm := hc106)  ht; exact h) ?_
 rintro _ _ _ ⟨rfl, rfl, rfl⟩
 refine W_move rfl rfl rfl ?_
 obtain ⟨r107, hc108, hm⟩ := bind_some hm
 refine W_call call8 rfl rfl rfl (fun w ht => by have h := m_gridhallref4_Cut_c (hm := hc108)  ht; exact h) ?_
 rintro _ _ _ ⟨rfl, rfl, rfl⟩
 refine W_assign rfl rfl rfl ?_
 refine W_assign rfl rfl rfl ?_
 refine W_assign rfl rfl rfl ?_
 refine W_assign rfl rfl rfl ?_
 refine W_end (E_then (C_seq (C_region ?_)))
 refine W_assign rfl rfl rfl ?_
 refine W_end (E_then (C_seq (C_seq (C_region ?_))))
 refine W_move rfl rfl rfl ?_
 refine W_move rfl rfl rfl ?_
 refine W_end (E_then (C_block ?_))
 obtain ⟨hq154, hm⟩ := need_some hm
 refine C_nilRow 3 (Rep.sz Int) ?_
 refine C_keep (L' := [(0, .int .i64 (r101)), (1, .int .i64 (r103)), (2, .int .i64 (r105)), (3, .int .i64 (r107)), (9, (.slice none 0 0)), (25, .int .i64 (r105)), (26, .int .i64 (((0 : Nat) : Int)))]) ⟨rfl, rfl, rfl, rfl, rfl, rfl, rfl, trivial⟩ (List.Perm.refl _) ?_
 refine C_loop (fun n H' M' L' => ∃ (k109 : Nat) (zs156' : Nat), ∃ l146 : List Int, ∃ v144 : Value, ∃ xs145 : List Value, k109 + zs156' = (r105 : Int).toNat ∧ zs156' = n ∧ forN (fun k s150 n => m_gridhallkeep4_ForecastExact_b1 r101 r103 k s150 n) (fun s150 => (m_forecast_Residuals s150).bind fun r172 => (m_forecast_Ahead s150 r107).bind fun r177 => (m_rat_Of (IntKind.i64.wrap (r101 + (IntKind.i64.wrap (r103 * (IntKind.i64.wrap ((IntKind.i64.wrap (r105 - 1)) + r107)))))) 1).bind fun r179 => (m_gridhallkeep4_forecastFact).bind fun r181 => if r181 then (if decide (r172.2 = 0) then (if decide (r177.2 = 0) then (if decide (r179.2 = 0) then (if decide (r177.1 = r179.1) then (if decide ((r172.1.length : Int) = r105) then ((m_slices_ContainsFunc_api_Rat_api_Rat__gridhallkeep4_ForecastExact_1 r172.1).bind fun r189 => some (!r189)) else (some false)) else (some false)) else (some false)) else (some false)) else (some false)) else (some false)) zs156' k109 l146 = some r ∧ Rw H' v144 xs145 l146 ∧ H.le H' ∧ .row v144 3 (Rep.sz Int) l146.length xs145 :: M = M' ∧ [(0, .int .i64 (r101)), (1, .int .i64 (r103)), (2, .int .i64 (r105)), (3, .int .i64 (r107)), (9, v144), (25, .int .i64 (r105)), (26, .int .i64 ((k109 : Int)))] = L') _ ⟨0, _, ([] : List Int), (.slice none 0 0), ([]), Nat.zero_add _, rfl, hm, Rw.nil, (Hp.le_refl _), rfl, rfl⟩ ?_
 rintro _ H148 _ _ ⟨k109, zs156', l146, v144, xs145, hd158, rfl, hm, hr147, hle149, rfl, rfl⟩
 refine C_seq (C_region ?_)
 refine W_bin rfl rfl rfl rfl rfl ?_
 refine W_end (E_then (C_seq ?_))
 refine C_cond (b := decide ((k109 : Int) < r105)) rfl (fun hb160 => ?_) (fun hb160 => ?_)
 ·obtain ⟨zs156, rfl, hd159, hy157⟩ := rngN_t hd158 hb160
  have hm : m_gridhallkeep4_ForecastExact_b1 r101 r103 k109 l146 (forN (fun k s150 n => m_gridhallkeep4_ForecastExact_b1 r101 r103 k s150 n) (fun s150 => (m_forecast_Residuals s150).bind fun r172 => (m_forecast_Ahead s150 r107).bind fun r177 => (m_rat_Of (IntKind.i64.wrap (r101 + (IntKind.i64.wrap (r103 * (IntKind.i64.wrap ((IntKind.i64.wrap (r105 - 1)) + r107)))))) 1).bind fun r179 => (m_gridhallkeep4_forecastFact).bind fun r181 => if r181 then (if decide (r172.2 = 0) then (if decide (r177.2 = 0) then (if decide (r179.2 = 0) then (if decide (r177.1 = r179.1) then (if decide ((r172.1.length : Int) = r105) then ((m_slices_ContainsFunc_api_Rat_api_Rat__gridhallkeep4_ForecastExact_1 r172.1).bind fun r189 => some (!r189)) else (some false)) else (some false)) else (some false)) else (some false)) else (some false)) else (some false)) zs156 (k109 + 1)) = some r := hm
  generalize hn152 : forN (fun k s150 n => m_gridhallkeep4_ForecastExact_b1 r101 r103 k s150 n) (fun s150 => (m_forecast_Residuals s150).bind fun r172 => (m_forecast_Ahead s150 r107).bind fun r177 => (m_rat_Of (IntKind.i64.wrap (r101 + (IntKind.i64.wrap (r103 * (IntKind.i64.wrap ((IntKind.i64.wrap (r105 - 1)) + r107)))))) 1).bind fun r179 => (m_gridhallkeep4_forecastFact).bind fun r181 => if r181 then (if decide (r172.2 = 0) then (if decide (r177.2 = 0) then (if decide (r179.2 = 0) then (if decide (r177.1 = r179.1) then (if decide ((r172.1.length : Int) = r105) then ((m_slices_ContainsFunc_api_Rat_api_Rat__gridhallkeep4_ForecastExact_1 r172.1).bind fun r189 => some (!r189)) else (some false)) else (some false)) else (some false)) else (some false)) else (some false)) else (some false)) zs156 (k109 + 1) = nx151 at hm
  unfold m_gridhallkeep4_ForecastExact_b1 at hm
  refine C_skip (E_then (C_seq (C_block (C_seq (C_region ?_)))))
  refine W_move rfl rfl rfl ?_
  refine W_assign rfl rfl rfl ?_
  refine W_end (E_then (C_region ?_))
  refine W_move rfl rfl rfl ?_
  refine W_move rfl rfl rfl ?_
  refine W_move rfl rfl rfl ?_
  refine W_move rfl rfl rfl ?_
  refine W_bin rfl rfl rfl rfl rfl ?_
  refine W_bin rfl rfl rfl rfl rfl ?_
  refine W_buildSlice (α := Int) (css := [[.int .i64 (IntKind.i64.wrap (r101 + (IntKind.i64.wrap (r103 * (k109 : Int)))))]]) (zs := [.int .i64 (0)]) (out := [.int .i64 (IntKind.i64.wrap (r101 + (IntKind.i64.wrap (r103 * (k109 : Int)))))]) (ys := ([(IntKind.i64.wrap (r101 + (IntKind.i64.wrap (r103 * (k109 : Int)))))] : List Int)) rfl rfl rfl ⟨rfl, trivial⟩ runUnderlying22 sizeOf3 rfl zeroValue3 (by kernel_rfl) rfl rfl rfl rfl ⟨[.int .i64 (IntKind.i64.wrap (r101 + (IntKind.i64.wrap (r103 * (k109 : Int)))))], [], rfl, rfl, rfl⟩ rfl ?_
  intro b161 v162 H163 hv164 hle165 h166
  have hc167 : Value.cap' v162 = ([(IntKind.i64.wrap (r101 + (IntKind.i64.wrap (r103 * (k109 : Int)))))] : List Int).length := by rw [hv164]; rfl
  obtain ⟨hz168, hm⟩ := need_some hm
  refine W_appendO (α := Int) (l := l146) (ys := ([(IntKind.i64.wrap (r101 + (IntKind.i64.wrap (r103 * (k109 : Int)))))] : List Int)) rfl rfl underlying22 ⟨_, rfl, rfl, rfl, rfl⟩ rfl rfl rfl rfl rfl (hr147.mono hle165) h166 hz168 ?_
  intro v169 xs170 hr171
  refine W_assign rfl rfl rfl ?_
  refine W_end (E_normal_block (E_then (C_region ?_)))
  refine W_bin rfl rfl rfl rfl rfl ?_
  refine W_move rfl rfl rfl ?_
  refine W_end ?_
  exact E_keepJ (E_back (Nat.lt_succ_self _) ⟨k109 + 1, zs156, (l146 ++ ([(IntKind.i64.wrap (r101 + (IntKind.i64.wrap (r103 * (k109 : Int)))))] : List Int)), v169, xs170, hd159, rfl, (by rw [hn152]; exact hm), hr171, (Hp.le_trans hle149 hle165), rfl, rfl⟩) (List.Perm.refl _) ⟨rfl, rfl, rfl, rfl, rfl, rfl, (congrArg (fun z => some (Value.int .i64 z)) (i64_succN hy157 (toNat_max hq154))), trivial⟩
 ·obtain rfl := rngN_f hd158 hb160
  have hm : ((m_forecast_Residuals l146).bind fun r172 => (m_forecast_Ahead l146 r107).bind fun r177 => (m_rat_Of (IntKind.i64.wrap (r101 + (IntKind.i64.wrap (r103 * (IntKind.i64.wrap ((IntKind.i64.wrap (r105 - 1)) + r107)))))) 1).bind fun r179 => (m_gridhallkeep4_forecastFact).bind fun r181 => if r181 then (if decide (r172.2 = 0) then (if decide (r177.2 = 0) then (if decide (r179.2 = 0) then (if decide (r177.1 = r179.1) then (if decide ((r172.1.length : Int) = r105) then ((m_slices_ContainsFunc_api_Rat_api_Rat__gridhallkeep4_ForecastExact_1 r172.1).bind fun r189 => some (!r189)) else (some false)) else (some false)) else (some false)) else (some false)) else (some false)) else (some false)) = some r := hm
  refine C_exit (E_exit_then (E_exit_then (E_exit_hit (E_then (C_seq (C_region ?_))))))
  refine W_move rfl rfl rfl ?_
  obtain ⟨r172, hc173, hm⟩ := bind_some hm
  refine W_call call14 rfl rfl rfl (fun w ht => by obtain ⟨H0_, hl0_, ht0_, hr0_, bk0_⟩ := ht.lendRow hr147 rfl; have h := m_forecast_Residuals_c (hm := hc173) hr0_ ht0_; exact lend_back bk0_ (h)) ?_
  rintro _ _ _ ⟨rfl, ⟨_, rfl, v174, xs175, rfl, rfl, h176⟩⟩
  have h176 := h176 H148
  refine W_move rfl rfl rfl ?_
  refine W_extract rfl rfl rfl rfl ?_
  refine W_extract rfl rfl rfl rfl ?_
  refine W_assign rfl rfl rfl ?_
  refine W_assign rfl rfl rfl ?_
  refine W_end (E_then (C_seq (C_region ?_)))
  refine W_move rfl rfl rfl ?_
  refine W_move rfl rfl rfl ?_
  obtain ⟨r177, hc178, hm⟩ := bind_some hm
  refine W_call call11 rfl rfl rfl (fun w ht => by obtain ⟨H0_, hl0_, ht0_, hr0_, bk0_⟩ := ht.lendRow hr147 rfl; have h := m_forecast_Ahead_c (hm := hc178) hr0_ ht0_; exact lend_back bk0_ (h)) ?_
  rintro _ _ _ ⟨rfl, ⟨_, rfl, rfl, rfl⟩⟩
  refine W_move rfl rfl rfl ?_
  refine W_extract rfl rfl rfl rfl ?_
  refine W_extract rfl rfl rfl rfl ?_
  refine W_assign rfl rfl rfl ?_
  refine W_assign rfl rfl rfl ?_
  refine W_end (E_then (C_seq (C_region ?_)))
  refine W_move rfl rfl rfl ?_
  refine W_move rfl rfl rfl ?_
  refine W_move rfl rfl rfl ?_
  refine W_bin rfl rfl rfl rfl rfl ?_
  refine W_move rfl rfl rfl ?_
  refine W_bin rfl rfl rfl rfl rfl ?_
  refine W_bin rfl rfl rfl rfl rfl ?_
  refine W_bin rfl rfl rfl rfl rfl ?_
  obtain ⟨r179, hc180, hm⟩ := bind_some hm
  refine W_call call9 rfl rfl rfl (fun w ht => by have h := m_rat_Of_c (hm := hc180)  ht; exact h) ?_
  rintro _ _ _ ⟨rfl, rfl, rfl⟩
  refine W_move rfl rfl rfl ?_
  refine W_extract rfl rfl rfl rfl ?_
  refine W_extract rfl rfl rfl rfl ?_
  refine W_assign rfl rfl rfl ?_
  refine W_assign rfl rfl rfl ?_
  refine W_end (E_then (C_seq (C_region ?_)))
  obtain ⟨r181, hc182, hm⟩ := bind_some hm
  refine W_call call13 rfl rfl rfl (fun w ht => by have h := m_gridhallkeep4_forecastFact_c (hm := hc182)  ht; exact h) ?_
  rintro _ _ _ ⟨rfl, rfl, rfl⟩
  refine W_move rfl rfl rfl ?_
  cases hb183 : (r181)
  ·have hm := ite_f' hb183 hm
   refine W_no rfl rfl rfl ?_
   refine W_no rfl rfl rfl ?_
   refine W_pick rfl rfl rfl rfl ?_
   refine W_move rfl rfl rfl ?_
   refine W_no rfl rfl rfl ?_
   refine W_no rfl rfl rfl ?_
   refine W_pick rfl rfl rfl rfl ?_
   refine W_move rfl rfl rfl ?_
   refine W_no rfl rfl rfl ?_
   refine W_no rfl rfl rfl ?_
   refine W_pick rfl rfl rfl rfl ?_
   refine W_move rfl rfl rfl ?_
   refine W_no rfl rfl rfl ?_
   refine W_no rfl rfl rfl ?_
   refine W_no rfl rfl rfl ?_
   refine W_pick rfl rfl rfl rfl ?_
   refine W_move rfl rfl rfl ?_
   refine W_no rfl rfl rfl ?_
   refine W_no rfl rfl rfl ?_
   refine W_no rfl rfl rfl ?_
   refine W_no rfl rfl rfl ?_
   refine W_pick rfl rfl rfl rfl ?_
   refine W_move rfl rfl rfl ?_
   refine W_no rfl rfl rfl ?_
   refine W_no rfl rfl rfl ?_
   refine W_no rfl rfl rfl ?_
   refine W_pick rfl rfl rfl rfl ?_
   refine W_assign rfl rfl rfl ?_
   refine W_end (E_then (C_ret ?_))
   obtain rfl := Option.some.inj hm
   refine E_drop (List.Sublist.cons _ (List.Sublist.cons _ (List.Sublist.refl _))) ?_
   refine E_weak hle149 ?_
   exact end1 rfl rfl ⟨rfl, rfl, rfl⟩
  ·have hm := ite_t' hb183 hm
   refine W_move rfl rfl rfl ?_
   refine W_bin rfl rfl rfl rfl rfl ?_
   refine W_pick rfl rfl rfl rfl ?_
   refine W_move rfl rfl rfl ?_
   cases hb184 : (decide (r172.2 = 0))
   ·have hm := ite_f' hb184 hm
    refine W_no rfl rfl rfl ?_
    refine W_no rfl rfl rfl ?_
    refine W_pick rfl rfl rfl rfl ?_
    refine W_move rfl rfl rfl ?_
    refine W_no rfl rfl rfl ?_
    refine W_no rfl rfl rfl ?_
    refine W_pick rfl rfl rfl rfl ?_
    refine W_move rfl rfl rfl ?_
    refine W_no rfl rfl rfl ?_
    refine W_no rfl rfl rfl ?_
    refine W_no rfl rfl rfl ?_
    refine W_pick rfl rfl rfl rfl ?_
    refine W_move rfl rfl rfl ?_
    refine W_no rfl rfl rfl ?_
    refine W_no rfl rfl rfl ?_
    refine W_no rfl rfl rfl ?_
    refine W_no rfl rfl rfl ?_
    refine W_pick rfl rfl rfl rfl ?_
    refine W_move rfl rfl rfl ?_
    refine W_no rfl rfl rfl ?_
    refine W_no rfl rfl rfl ?_
    refine W_no rfl rfl rfl ?_
    refine W_pick rfl rfl rfl rfl ?_
    refine W_assign rfl rfl rfl ?_
    refine W_end (E_then (C_ret ?_))
    obtain rfl := Option.some.inj hm
    refine E_drop (List.Sublist.cons _ (List.Sublist.cons _ (List.Sublist.refl _))) ?_
    refine E_weak hle149 ?_
    exact end1 rfl rfl ⟨rfl, rfl, rfl⟩
   ·have hm := ite_t' hb184 hm
    refine W_move rfl rfl rfl ?_
    refine W_bin rfl rfl rfl rfl rfl ?_
    refine W_pick rfl rfl rfl rfl ?_
    refine W_move rfl rfl rfl ?_
    cases hb185 : (decide (r177.2 = 0))
    ·have hm := ite_f' hb185 hm
     refine W_no rfl rfl rfl ?_
     refine W_no rfl rfl rfl ?_
     refine W_pick rfl rfl rfl rfl ?_
     refine W_move rfl rfl rfl ?_
     refine W_no rfl rfl rfl ?_
     refine W_no rfl rfl rfl ?_
     refine W_no rfl rfl rfl ?_
     refine W_pick rfl rfl rfl rfl ?_
     refine W_move rfl rfl rfl ?_
     refine W_no rfl rfl rfl ?_
     refine W_no rfl rfl rfl ?_
     refine W_no rfl rfl rfl ?_
     refine W_no rfl rfl rfl ?_
     refine W_pick rfl rfl rfl rfl ?_
     refine W_move rfl rfl rfl ?_
     refine W_no rfl rfl rfl ?_
     refine W_no rfl rfl rfl ?_
     refine W_no rfl rfl rfl ?_
     refine W_pick rfl rfl rfl rfl ?_
     refine W_assign rfl rfl rfl ?_
     refine W_end (E_then (C_ret ?_))
     obtain rfl := Option.some.inj hm
     refine E_drop (List.Sublist.cons _ (List.Sublist.cons _ (List.Sublist.refl _))) ?_
     refine E_weak hle149 ?_
     exact end1 rfl rfl ⟨rfl, rfl, rfl⟩
    ·have hm := ite_t' hb185 hm
     refine W_move rfl rfl rfl ?_
     refine W_bin rfl rfl rfl rfl rfl ?_
     refine W_pick rfl rfl rfl rfl ?_
     refine W_move rfl rfl rfl ?_
     cases hb186 : (decide (r179.2 = 0))
     ·have hm := ite_f' hb186 hm
      refine W_no rfl rfl rfl ?_
      refine W_no rfl rfl rfl ?_
      refine W_no rfl rfl rfl ?_
      refine W_pick rfl rfl rfl rfl ?_
      refine W_move rfl rfl rfl ?_
      refine W_no rfl rfl rfl ?_
      refine W_no rfl rfl rfl ?_
      refine W_no rfl rfl rfl ?_
      refine W_no rfl rfl rfl ?_
      refine W_pick rfl rfl rfl rfl ?_
      refine W_move rfl rfl rfl ?_
      refine W_no rfl rfl rfl ?_
      refine W_no rfl rfl rfl ?_
      refine W_no rfl rfl rfl ?_
      refine W_pick rfl rfl rfl rfl ?_
      refine W_assign rfl rfl rfl ?_
      refine W_end (E_then (C_ret ?_))
      obtain rfl := Option.some.inj hm
      refine E_drop (List.Sublist.cons _ (List.Sublist.cons _ (List.Sublist.refl _))) ?_
      refine E_weak hle149 ?_
      exact end1 rfl rfl ⟨rfl, rfl, rfl⟩
     ·have hm := ite_t' hb186 hm
      refine W_move rfl rfl rfl ?_
      refine W_move rfl rfl rfl ?_
      refine W_bin rfl rfl rfl rfl rfl ?_
      refine W_pick rfl rfl rfl rfl ?_
      refine W_move rfl rfl rfl ?_
      cases hb187 : (decide (r177.1 = r179.1))
      ·have hm := ite_f' hb187 hm
       refine W_no rfl rfl rfl ?_
       refine W_no rfl rfl rfl ?_
       refine W_no rfl rfl rfl ?_
       refine W_no rfl rfl rfl ?_
       refine W_pick rfl rfl rfl rfl ?_
       refine W_move rfl rfl rfl ?_
       refine W_no rfl rfl rfl ?_
       refine W_no rfl rfl rfl ?_
       refine W_no rfl rfl rfl ?_
       refine W_pick rfl rfl rfl rfl ?_
       refine W_assign rfl rfl rfl ?_
       refine W_end (E_then (C_ret ?_))
       obtain rfl := Option.some.inj hm
       refine E_drop (List.Sublist.cons _ (List.Sublist.cons _ (List.Sublist.refl _))) ?_
       refine E_weak hle149 ?_
       exact end1 rfl rfl ⟨rfl, rfl, rfl⟩
      ·have hm := ite_t' hb187 hm
       refine W_move rfl rfl rfl ?_
       refine W_lenO (List.mem_cons_of_mem _ (List.mem_cons_self ..)) rfl rfl runUnderlying33 rfl ?_
       refine W_move rfl rfl rfl ?_
       refine W_bin rfl rfl rfl rfl rfl ?_
       refine W_pick rfl rfl rfl rfl ?_
       refine W_move rfl rfl rfl ?_
       cases hb188 : (decide ((r172.1.length : Int) = r105))
       ·have hm := ite_f' hb188 hm
        refine W_no rfl rfl rfl ?_
        refine W_no rfl rfl rfl ?_
        refine W_no rfl rfl rfl ?_
        refine W_pick rfl rfl rfl rfl ?_
        refine W_assign rfl rfl rfl ?_
        refine W_end (E_then (C_ret ?_))
        obtain rfl := Option.some.inj hm
        refine E_drop (List.Sublist.cons _ (List.Sublist.cons _ (List.Sublist.refl _))) ?_
        refine E_weak hle149 ?_
        exact end1 rfl rfl ⟨rfl, rfl, rfl⟩
       ·have hm := ite_t' hb188 hm
        refine W_move rfl rfl rfl ?_
        refine W_perm (List.Perm.swap _ _ _) ?_
        obtain ⟨r189, hc190, hm⟩ := bind_some hm
        refine W_call call17 rfl rfl rfl (fun w ht => by obtain ⟨H0_, hl0_, ht0_, hr0_, bk0_⟩ := ht.lendRow h176 rfl; have h := m_slices_ContainsFunc_api_Rat_api_Rat__gridhallkeep4_ForecastExact_1_c (hm := hc190) hr0_ ht0_; exact lend_back bk0_ (h)) ?_
        rintro _ _ _ ⟨rfl, ⟨_, rfl, rfl, rfl⟩⟩
        refine W_un rfl rfl rfl rfl ?_
        refine W_pick rfl rfl rfl rfl ?_
        refine W_assign rfl rfl rfl ?_
        refine W_end (E_then (C_ret ?_))
        obtain rfl := Option.some.inj hm
        refine E_drop (List.Sublist.cons _ (List.Sublist.cons _ (List.Sublist.refl _))) ?_
        refine E_weak hle149 ?_
        exact end1 rfl rfl ⟨rfl, rfl, rfl⟩

theorem m_forecast_Smooth_c {B : Nat} {w0 w : World} [Tabs B w0] {H : Hp} {M : List Res} {p0_l : (List Int)} {p1_p : Int} {p2_q : Int} {v0 : Value} {r : ByteArray × Int} (hm : m_forecast_Smooth p0_l p1_p p2_q = some r) (h0 : RdS H v0 p0_l) (ht : St B w0 H (M) w) :
  Calls prog 19 [v0, .int .i64 (p1_p), .int .i64 (p2_q)].toArray w (Ret B w0 fun H' M' v => H = H' ∧ M = M' ∧ .tuple #[.string (r.1), .int .i64 (r.2)] = v) := by
 unfold m_forecast_Smooth at hm
 refine enter func19 rfl rfl rfl ht ?_
 refine C_seq (C_region ?_)
 refine W_assign rfl rfl rfl ?_
 refine W_assign rfl rfl rfl ?_
 refine W_end (E_then (C_seq (C_seq (C_region ?_))))
 refine W_move rfl rfl rfl ?_
 obtain ⟨r101, hc102, hm⟩ := bind_some hm
 refine W_call call25 rfl rfl rfl (fun w ht => by have h := m_forecast_Check_c (hm := hc102) h0 ht; exact h) ?_
 rintro _ _ _ ⟨rfl, rfl, rfl⟩
 refine W_assign rfl rfl rfl ?_
 refine W_end (E_then (C_seq (C_region ?_)))
 refine W_move rfl rfl rfl ?_
 refine W_bin rfl rfl rfl rfl rfl ?_
 refine W_end (E_then ?_)
 refine C_cond (b := !decide (r101 = 0)) rfl (fun hb103 => ?_) (fun hb103 => ?_)
 ·have hm := ite_t' hb103 hm
  refine C_seq (C_region ?_)
  refine W_move rfl rfl rfl ?_
  refine W_assign rfl rfl rfl ?_
  refine W_assign rfl rfl rfl ?_
  refine W_end (E_then (C_ret (E_ret_then ?_)))
  obtain rfl := Option.some.inj hm
  refine E_weak (Hp.le_refl _) ?_
  exact end2 rfl rfl rfl ⟨rfl, rfl, rfl⟩
 ·have hm := ite_f' hb103 hm
  refine C_skip (E_then (C_seq (C_block ?_)))
  refine C_seq_join (fun H' M' L' => H = H' ∧ M = M' ∧ [(0, v0), (1, .int .i64 (p1_p)), (2, .int .i64 (p2_q)), (17, .bool ((((decide (p2_q < 1)) || (decide (1000 < p2_q))) || (decide (p1_p < 0))) || (decide (p2_q < p1_p))))] = L') ?_ (fun J107 => ?_)
  ·rintro _ _ _ ⟨rfl, rfl, rfl⟩
   refine C_cond (b := (((decide (p2_q < 1)) || (decide (1000 < p2_q))) || (decide (p1_p < 0))) || (decide (p2_q < p1_p))) rfl (fun hb108 => ?_) (fun hb108 => ?_)
   ·have hm := ite_t' hb108 hm
    refine C_seq (C_region ?_)
    refine W_assign rfl rfl rfl ?_
    refine W_assign rfl rfl rfl ?_
    refine W_end (E_then (C_ret (E_ret_block (E_ret_then ?_))))
    obtain rfl := Option.some.inj hm
    refine E_weak (Hp.le_refl _) ?_
    exact end2 rfl rfl rfl ⟨rfl, rfl, rfl⟩
   ·have hm := ite_f' hb108 hm
    refine C_seq (C_region ?_)
    refine W_move rfl rfl rfl ?_
    refine W_lenR rfl rfl runUnderlying22 rfl h0 ?_
    refine W_bin rfl rfl rfl rfl rfl ?_
    refine W_assign rfl rfl rfl ?_
    refine W_end (E_then ?_)
    refine C_cond (b := decide ((p0_l.length : Int) = 0)) rfl (fun hb109 => ?_) (fun hb109 => ?_)
    ·have hm := ite_t' hb109 hm
     refine C_seq (C_region ?_)
     refine W_assign rfl rfl rfl ?_
     refine W_assign rfl rfl rfl ?_
     refine W_end (E_then (C_ret (E_ret_block (E_ret_then ?_))))
     obtain rfl := Option.some.inj hm
     refine E_weak (Hp.le_refl _) ?_
     exact end2 rfl rfl rfl ⟨rfl, rfl, rfl⟩
    ·have hm := ite_f' hb109 hm
     refine C_skip (E_normal_block (E_then (C_seq (C_region ?_))))
     refine W_move rfl rfl rfl ?_
     obtain ⟨y110, h111, he112, hm⟩ := idx_some hm
     obtain ⟨_, rfl, hc113⟩ := (h0).elem he112
     refine W_indexS rfl rfl runUnderlying22 sizeOf3 rfl h0 rfl h111 he112 ?_
     refine W_load rfl rfl isAgg3 rfl (HCells.one hc113 0 rfl).at ?_
     obtain ⟨r114, hc115, hm⟩ := bind_some hm
     refine W_call call30 rfl rfl rfl (fun w ht => by have h := m_large_Whole_c (hm := hc115)  ht; exact h) ?_
     rintro _ H120 _ ⟨hle121, v116, v118, rfl, rfl, h117, h119⟩
     refine W_alloc (cs := [.bool (false), .slice none 0 0, .bool (false), .slice none 0 0]) rfl rfl zeroValue50 rfl (fun b122 => ?_)
     refine W_store (cs := [.bool (r114.N.minus), v116, .bool (r114.D.minus), v118]) (out := [.bool (r114.N.minus), v116, .bool (r114.D.minus), v118]) rfl sizeOf50 rfl rfl rfl rfl rfl (all_cons rfl (all_cons (RdS.one1 h117) (all_cons rfl (all_cons (RdS.one1 h119) all_nil)))) (over_all rfl) ?_
     refine W_end (E_then (C_seq (C_seq (C_region ?_))))
     refine W_move rfl rfl rfl ?_
     obtain ⟨hz123, hm⟩ := need_some hm
     refine W_sliceR (α := Int) (l := (1 : Int).toNat) (h := p0_l.length) (xs := p0_l) rfl rfl runUnderlying22 sizeOf3 rfl (h0.mono hle121) (by omega) (by omega) (.inl rfl) (fun cap hcap => by rw [if_pos rfl]; exact (.inl ⟨rfl, rfl⟩)) (fun m hmm => (.inl ⟨rfl, rfl⟩)) (.inr ⟨_, _, _, rfl, rfl, by omega, by omega, rfl⟩) ?_
     intro v124 h125 hc126
     refine W_lenR rfl rfl runUnderlying22 rfl h125 ?_
     refine W_move rfl rfl rfl ?_
     refine W_end (E_then (C_block ?_))
     refine C_keep (L' := [(1, .int .i64 (p1_p)), (2, .int .i64 (p2_q)), (9, .pointer (some ⟨b122, 0, none⟩)), (42, v124), (43, .int .i64 (((slc p0_l (1 : Int).toNat p0_l.length).length : Int))), (44, .int .i64 (((0 : Nat) : Int)))]) ⟨rfl, rfl, rfl, rfl, rfl, rfl, trivial⟩ (List.Perm.refl _) ?_
     refine C_loop (fun n H' M' L' => ∃ (k127 : Nat) (zs297' : List Int), ∃ c282 : Bool, ∃ l284 : (List U32), ∃ c286 : Bool, ∃ l288 : (List U32), ∃ v283 : Value, ∃ v287 : Value, (slc p0_l (1 : Int).toNat p0_l.length).drop k127 = zs297' ∧ zs297'.length = n ∧ forI (fun k y s292 n => m_forecast_Smooth_b1 p1_p p2_q k y s292.1 s292.2.1 s292.2.2.1 s292.2.2.2 n) (fun s292 => (m_forecast_text (S_large_Rat.mk (S_large_Int.mk s292.1 s292.2.1) (S_large_Int.mk s292.2.2.1 s292.2.2.2))).bind fun r369 => some (r369.1, r369.2)) k127 zs297' (c282, l284, c286, l288) = some r ∧ RdS H' v283 l284 ∧ RdS H' v287 l288 ∧ H120.le H' ∧ .obj b122 (.cells [.bool (c282), v283, .bool (c286), v287].toArray 50 (0, 0)) :: M = M' ∧ [(1, .int .i64 (p1_p)), (2, .int .i64 (p2_q)), (9, .pointer (some ⟨b122, 0, none⟩)), (42, v124), (43, .int .i64 (((slc p0_l (1 : Int).toNat p0_l.length).length : Int))), (44, .int .i64 ((k127 : Int)))] = L') _ ⟨0, _, r114.N.minus, r114.N.words, r114.D.minus, r114.D.words, v116, v118, rfl, rfl, hm, h117, h119, (Hp.le_refl _), rfl, rfl⟩ ?_
     rintro _ H290 _ _ ⟨k127, zs297', c282, l284, c286, l288, v283, v287, hd299, rfl, hm, h285, h289, hle291, rfl, rfl⟩
     refine C_seq (C_region ?_)
     refine W_bin rfl rfl rfl rfl rfl ?_
     refine W_end (E_then (C_seq ?_))
     refine C_cond (b := decide ((k127 : Int) < ((slc p0_l (1 : Int).toNat p0_l.length).length : Int))) rfl (fun hb301 => ?_) (fun hb301 => ?_)
     ·obtain ⟨y296, zs297, rfl, hy298, hd300⟩ := rng_t hd299 hb301
      have hm : m_forecast_Smooth_b1 p1_p p2_q k127 y296 c282 l284 c286 l288 (forI (fun k y s292 n => m_forecast_Smooth_b1 p1_p p2_q k y s292.1 s292.2.1 s292.2.2.1 s292.2.2.2 n) (fun s292 => (m_forecast_text (S_large_Rat.mk (S_large_Int.mk s292.1 s292.2.1) (S_large_Int.mk s292.2.2.1 s292.2.2.2))).bind fun r369 => some (r369.1, r369.2)) (k127 + 1) zs297) = some r := hm
      generalize hn294 : forI (fun k y s292 n => m_forecast_Smooth_b1 p1_p p2_q k y s292.1 s292.2.1 s292.2.2.1 s292.2.2.2 n) (fun s292 => (m_forecast_text (S_large_Rat.mk (S_large_Int.mk s292.1 s292.2.1) (S_large_Int.mk s292.2.2.1 s292.2.2.2))).bind fun r369 => some (r369.1, r369.2)) (k127 + 1) zs297 = nx293 at hm
      unfold m_forecast_Smooth_b1 at hm
      refine C_skip (E_then (C_seq (C_block (C_seq (C_region ?_)))))
      obtain ⟨_, rfl, hc302⟩ := (h125).elem hy298
      refine W_indexS rfl rfl runUnderlying22 sizeOf3 rfl (h125.mono hle291) rfl (Int.natCast_nonneg _) hy298 ?_
      refine W_load rfl rfl isAgg3 rfl (HCells.one (hc302.mono hle291) 0 rfl).at ?_
      refine W_assign rfl rfl rfl ?_
      refine W_end (E_then ?_)
      obtain ⟨r303, hc304, hm⟩ := bind_some hm
      obtain ⟨r311, hc312, hm⟩ := bind_some hm
      obtain ⟨r319, hc320, hm⟩ := bind_some hm
      obtain ⟨r327, hc328, hm⟩ := bind_some hm
      refine C_region_tok0 9 (phiT [(fun H rs v => [] = rs ∧ .agg [.bool (c282), v283, .bool (c286), v287].toArray = v), (fun H rs v => [] = rs ∧ .int .i64 (y296) = v), (fun H rs v => ∃ v335 : Value, ∃ v337 : Value, [] = rs ∧ .agg [.bool (r303.N.minus), v335, .bool (r303.D.minus), v337].toArray = v ∧ RdS H v335 r303.N.words ∧ RdS H v337 r303.D.words), (fun H rs v => [] = rs ∧ .agg [.bool (c282), v283, .bool (c286), v287].toArray = v), (fun H rs v => ∃ v341 : Value, ∃ v343 : Value, [] = rs ∧ .agg [.bool (r311.N.minus), v341, .bool (r311.D.minus), v343].toArray = v ∧ RdS H v341 r311.N.words ∧ RdS H v343 r311.D.words), (fun H rs v => [] = rs ∧ .int .i64 (p1_p) = v), (fun H rs v => [] = rs ∧ .int .i64 (p2_q) = v), (fun H rs v => ∃ v347 : Value, ∃ v349 : Value, [] = rs ∧ .agg [.bool (r319.N.minus), v347, .bool (r319.D.minus), v349].toArray = v ∧ RdS H v347 r319.N.words ∧ RdS H v349 r319.D.words), (fun H rs v => ∃ v353 : Value, ∃ v355 : Value, [] = rs ∧ .agg [.bool (r327.N.minus), v353, .bool (r327.D.minus), v355].toArray = v ∧ RdS H v353 r327.N.words ∧ RdS H v355 r327.D.words)]) [[], [], [], [], [], [], [], [], []] [[], [], [], [], [], [], [], [], []] [] [0, 1, 2, 3, 4, 5, 6, 7, 8] Facts.mixed (by kernel_rfl) (by rfl) (by rfl) (by rfl) (by kernel_rfl) (phiT_mono ⟨eq_monoT _ _, eq_monoT _ _, (by rintro H1 H2 rs v hle ⟨v335, v337, rfl, rfl, h336, h338⟩; exact ⟨v335, v337, rfl, rfl, (h336.mono hle), (h338.mono hle)⟩), eq_monoT _ _, (by rintro H1 H2 rs v hle ⟨v341, v343, rfl, rfl, h342, h344⟩; exact ⟨v341, v343, rfl, rfl, (h342.mono hle), (h344.mono hle)⟩), eq_monoT _ _, eq_monoT _ _, (by rintro H1 H2 rs v hle ⟨v347, v349, rfl, rfl, h348, h350⟩; exact ⟨v347, v349, rfl, rfl, (h348.mono hle), (h350.mono hle)⟩), (by rintro H1 H2 rs v hle ⟨v353, v355, rfl, rfl, h354, h356⟩; exact ⟨v353, v355, rfl, rfl, (h354.mono hle), (h356.mono hle)⟩), trivial⟩) ⟨?_, ?_, ?_, ?_, ?_, ?_, ?_, ?_, ?_, trivial⟩ ?_
      ·intro HX hX X Rest hR
       intro hU hUp
       refine W_loadAgg rfl rfl isAgg50 sizeOf50 rfl (own_all (hR _ (List.mem_cons_self ..))) rfl ?_
       exact W_end (OneT_end [] (Hp.le_refl _) ⟨rfl, rfl⟩)
      ·intro HX hX X Rest hR
       intro hU hUp
       refine W_move rfl rfl rfl ?_
       exact W_end (OneT_end [] (Hp.le_refl _) ⟨rfl, rfl⟩)
      ·intro HX hX X Rest hR
       rintro _ _ ⟨rfl, rfl⟩
       intro hU hUp
       refine W_call call30 rfl rfl rfl (fun w ht => by have h := m_large_Whole_c (hm := hc304)  ht; exact h) ?_
       rintro _ H339 _ ⟨hle340, v335, v337, rfl, rfl, h336, h338⟩
       exact W_end (OneT_end [] hle340 ⟨v335, v337, rfl, rfl, (h336), (h338)⟩)
      ·intro HX hX X Rest hR
       intro hU hUp
       refine W_loadAgg rfl rfl isAgg50 sizeOf50 rfl (own_all (hR _ (List.mem_cons_self ..))) rfl ?_
       exact W_end (OneT_end [] (Hp.le_refl _) ⟨rfl, rfl⟩)
      ·intro HX hX X Rest hR
       rintro _ _ ⟨v335, v337, rfl, rfl, h336, h338⟩
       rintro _ _ ⟨rfl, rfl⟩
       rintro _ _ ⟨v335, v337, rfl, rfl, h336, h338⟩
       intro hU hUp
       refine W_call call34 rfl rfl rfl (fun w ht => by have h := m_large_Rat_Sub_c (hm := hc312) h336 h338 (h285.mono hX) (h289.mono hX) ht; exact h) ?_
       rintro _ H345 _ ⟨hle346, v341, v343, rfl, rfl, h342, h344⟩
       exact W_end (OneT_end [] hle346 ⟨v341, v343, rfl, rfl, (h342), (h344)⟩)
      ·intro HX hX X Rest hR
       intro hU hUp
       refine W_move rfl rfl rfl ?_
       exact W_end (OneT_end [] (Hp.le_refl _) ⟨rfl, rfl⟩)
      ·intro HX hX X Rest hR
       intro hU hUp
       refine W_move rfl rfl rfl ?_
       exact W_end (OneT_end [] (Hp.le_refl _) ⟨rfl, rfl⟩)
      ·intro HX hX X Rest hR
       rintro _ _ ⟨rfl, rfl⟩
       rintro _ _ ⟨rfl, rfl⟩
       rintro _ _ ⟨v341, v343, rfl, rfl, h342, h344⟩
       intro hU hUp
       refine W_call call24 rfl rfl rfl (fun w ht => by have h := m_large_Frac_c (hm := hc320)  ht; exact h) ?_
       rintro _ H351 _ ⟨hle352, v347, v349, rfl, rfl, h348, h350⟩
       exact W_end (OneT_end [] hle352 ⟨v347, v349, rfl, rfl, (h348), (h350)⟩)
      ·intro HX hX X Rest hR
       rintro _ _ ⟨v341, v343, rfl, rfl, h342, h344⟩
       rintro _ _ ⟨v347, v349, rfl, rfl, h348, h350⟩
       rintro _ _ ⟨v347, v349, rfl, rfl, h348, h350⟩
       intro hU hUp
       refine W_call call29 rfl rfl rfl (fun w ht => by have h := m_large_Rat_Mul_c (hm := hc328) h342 h344 h348 h350 ht; exact h) ?_
       rintro _ H357 _ ⟨hle358, v353, v355, rfl, rfl, h354, h356⟩
       exact W_end (OneT_end [] hle358 ⟨v353, v355, rfl, rfl, (h354), (h356)⟩)
      intro H359 hle360
      rintro _ _ ⟨rfl, rfl⟩
      rintro _ _ ⟨rfl, rfl⟩
      rintro _ _ ⟨v335, v337, rfl, rfl, h336, h338⟩
      rintro _ _ ⟨rfl, rfl⟩
      rintro _ _ ⟨v341, v343, rfl, rfl, h342, h344⟩
      rintro _ _ ⟨rfl, rfl⟩
      rintro _ _ ⟨rfl, rfl⟩
      rintro _ _ ⟨v347, v349, rfl, rfl, h348, h350⟩
      rintro _ _ ⟨v353, v355, rfl, rfl, h354, h356⟩
      obtain ⟨r361, hc362, hm⟩ := bind_some hm
      refine W_call call31 rfl rfl rfl (fun w ht => by have h := m_large_Rat_Add_c (hm := hc362) (h285.mono hle360) (h289.mono hle360) h354 h356 ht; exact h) ?_
      rintro _ H367 _ ⟨hle368, v363, v365, rfl, rfl, h364, h366⟩
      refine W_store (cs := [.bool (r361.N.minus), v363, .bool (r361.D.minus), v365]) (out := [.bool (r361.N.minus), v363, .bool (r361.D.minus), v365]) rfl sizeOf50 rfl rfl rfl rfl rfl (all_cons rfl (all_cons (RdS.one1 h364) (all_cons rfl (all_cons (RdS.one1 h366) all_nil)))) (over_all rfl) ?_
      refine W_end (E_normal_block (E_then (C_region ?_)))
      refine W_bin rfl rfl rfl rfl rfl ?_
      refine W_move rfl rfl rfl ?_
      refine W_end ?_
      exact E_keepJ (E_back (Nat.lt_succ_self _) ⟨k127 + 1, zs297, r361.N.minus, r361.N.words, r361.D.minus, r361.D.words, v363, v365, hd300, rfl, (by rw [hn294]; exact hm), h364, h366, (Hp.le_trans (Hp.le_trans hle291 hle360) hle368), rfl, rfl⟩) (List.Perm.refl _) ⟨rfl, rfl, rfl, rfl, rfl, (congrArg (fun z => some (Value.int .i64 z)) (i64_succ hy298 ((h125.mono hle291)).lenMax)), trivial⟩
     ·obtain rfl := rng_f hd299 hb301
      have hm : ((m_forecast_text (S_large_Rat.mk (S_large_Int.mk c282 l284) (S_large_Int.mk c286 l288))).bind fun r369 => some (r369.1, r369.2)) = some r := hm
      refine C_exit (E_exit_then (E_exit_then (E_exit_hit (E_then (C_seq (C_region ?_))))))
      refine W_loadAgg rfl rfl isAgg50 sizeOf50 rfl (own_all (List.mem_cons_self ..)) rfl ?_
      obtain ⟨r369, hc370, hm⟩ := bind_some hm
      refine W_call call26 rfl rfl rfl (fun w ht => by have h := m_forecast_text_c (hm := hc370) h285 h289 ht; exact h) ?_
      rintro _ _ _ ⟨rfl, rfl, rfl⟩
      refine W_extract rfl rfl rfl rfl ?_
      refine W_extract rfl rfl rfl rfl ?_
      refine W_assign rfl rfl rfl ?_
      refine W_assign rfl rfl rfl ?_
      refine W_end (E_then (C_ret ?_))
      obtain rfl := Option.some.inj hm
      refine E_drop (List.Sublist.cons _ (List.Sublist.refl _)) ?_
      refine E_weak (Hp.le_trans hle121 hle291) ?_
      exact end2 rfl rfl rfl ⟨rfl, rfl, rfl⟩
  ·refine C_region ?_
   refine W_move rfl rfl rfl ?_
   refine W_bin rfl rfl rfl rfl rfl ?_
   refine W_move rfl rfl rfl ?_
   cases hb371 : (decide (p2_q < 1))
   ·refine W_move rfl rfl rfl ?_
    refine W_bin rfl rfl rfl rfl rfl ?_
    refine W_pick rfl rfl rfl rfl ?_
    refine W_move rfl rfl rfl ?_
    cases hb372 : (decide (1000 < p2_q))
    ·refine W_move rfl rfl rfl ?_
     refine W_bin rfl rfl rfl rfl rfl ?_
     refine W_pick rfl rfl rfl rfl ?_
     refine W_move rfl rfl rfl ?_
     cases hb373 : (decide (p1_p < 0))
     ·refine W_move rfl rfl rfl ?_
      refine W_move rfl rfl rfl ?_
      refine W_bin rfl rfl rfl rfl rfl ?_
      refine W_pick rfl rfl rfl rfl ?_
      refine W_assign rfl rfl rfl ?_
      refine W_end ?_
      exact E_keepJ (J107 _ _ _ ⟨rfl, rfl, rfl⟩) (List.Perm.refl _) ⟨rfl, rfl, rfl, (by show some (Value.bool (decide (p2_q < p1_p))) = some (Value.bool ((((decide (p2_q < 1)) || (decide (1000 < p2_q))) || (decide (p1_p < 0))) || (decide (p2_q < p1_p)))); first | (simp only [hb103, hb371, hb372, hb373, Bool.and_true, Bool.true_and, Bool.false_and, Bool.and_false, Bool.or_true, Bool.true_or, Bool.or_false, Bool.false_or, Bool.not_true, Bool.not_false]; done) | (simp only [hb103, hb371, hb372, hb373]; first | done | simp only [Bool.and_true, Bool.true_and, Bool.false_and, Bool.and_false, Bool.or_true, Bool.true_or, Bool.or_false, Bool.false_or, Bool.not_true, Bool.not_false])), trivial⟩
     ·refine W_no rfl rfl rfl ?_
      refine W_no rfl rfl rfl ?_
      refine W_no rfl rfl rfl ?_
      refine W_pick rfl rfl rfl rfl ?_
      refine W_assign rfl rfl rfl ?_
      refine W_end ?_
      exact E_keepJ (J107 _ _ _ ⟨rfl, rfl, rfl⟩) (List.Perm.refl _) ⟨rfl, rfl, rfl, (by show some (Value.bool (true)) = some (Value.bool ((((decide (p2_q < 1)) || (decide (1000 < p2_q))) || (decide (p1_p < 0))) || (decide (p2_q < p1_p)))); first | (simp only [hb103, hb371, hb372, hb373, Bool.and_true, Bool.true_and, Bool.false_and, Bool.and_false, Bool.or_true, Bool.true_or, Bool.or_false, Bool.false_or, Bool.not_true, Bool.not_false]; done) | (simp only [hb103, hb371, hb372, hb373]; first | done | simp only [Bool.and_true, Bool.true_and, Bool.false_and, Bool.and_false, Bool.or_true, Bool.true_or, Bool.or_false, Bool.false_or, Bool.not_true, Bool.not_false])), trivial⟩
    ·refine W_no rfl rfl rfl ?_
     refine W_no rfl rfl rfl ?_
     refine W_pick rfl rfl rfl rfl ?_
     refine W_move rfl rfl rfl ?_
     refine W_no rfl rfl rfl ?_
     refine W_no rfl rfl rfl ?_
     refine W_no rfl rfl rfl ?_
     refine W_pick rfl rfl rfl rfl ?_
     refine W_assign rfl rfl rfl ?_
     refine W_end ?_
     exact E_keepJ (J107 _ _ _ ⟨rfl, rfl, rfl⟩) (List.Perm.refl _) ⟨rfl, rfl, rfl, (by show some (Value.bool (true)) = some (Value.bool ((((decide (p2_q < 1)) || (decide (1000 < p2_q))) || (decide (p1_p < 0))) || (decide (p2_q < p1_p)))); first | (simp only [hb103, hb371, hb372, Bool.and_true, Bool.true_and, Bool.false_and, Bool.and_false, Bool.or_true, Bool.true_or, Bool.or_false, Bool.false_or, Bool.not_true, Bool.not_false]; done) | (simp only [hb103, hb371, hb372]; first | done | simp only [Bool.and_true, Bool.true_and, Bool.false_and, Bool.and_false, Bool.or_true, Bool.true_or, Bool.or_false, Bool.false_or, Bool.not_true, Bool.not_false])), trivial⟩
   ·refine W_no rfl rfl rfl ?_
    refine W_no rfl rfl rfl ?_
    refine W_pick rfl rfl rfl rfl ?_
    refine W_move rfl rfl rfl ?_
    refine W_no rfl rfl rfl ?_
    refine W_no rfl rfl rfl ?_
    refine W_pick rfl rfl rfl rfl ?_
    refine W_move rfl rfl rfl ?_
    refine W_no rfl rfl rfl ?_
    refine W_no rfl rfl rfl ?_
    refine W_no rfl rfl rfl ?_
    refine W_pick rfl rfl rfl rfl ?_
    refine W_assign rfl rfl rfl ?_
    refine W_end ?_
    exact E_keepJ (J107 _ _ _ ⟨rfl, rfl, rfl⟩) (List.Perm.refl _) ⟨rfl, rfl, rfl, (by show some (Value.bool (true)) = some (Value.bool ((((decide (p2_q < 1)) || (decide (1000 < p2_q))) || (decide (p1_p < 0))) || (decide (p2_q < p1_p)))); first | (simp only [hb103, hb371, Bool.and_true, Bool.true_and, Bool.false_and, Bool.and_false, Bool.or_true, Bool.true_or, Bool.or_false, Bool.false_or, Bool.not_true, Bool.not_false]; done) | (simp only [hb103, hb371]; first | done | simp only [Bool.and_true, Bool.true_and, Bool.false_and, Bool.and_false, Bool.or_true, Bool.true_or, Bool.or_false, Bool.false_or, Bool.not_true, Bool.not_false])), trivial⟩

theorem m_slices_Min_int_int_c {B : Nat} {w0 w : World} [Tabs B w0] {H : Hp} {M : List Res} {p0_x : (List Int)} {v0 : Value} {r : Int} (hm : m_slices_Min_int_int p0_x = some r) (h0 : RdS H v0 p0_x) (ht : St B w0 H (M) w) :
  Calls prog 20 [v0].toArray w (Ret B w0 fun H' M' v => H = H' ∧ M = M' ∧ .int .i64 (r) = v) := by
 unfold m_slices_Min_int_int at hm
 refine enter func20 rfl rfl rfl ht ?_
 refine C_seq (C_region ?_)
 refine W_assign rfl rfl rfl ?_
 refine W_end (E_then (C_seq (C_seq (C_region ?_))))
 refine W_move rfl rfl rfl ?_
 refine W_lenR rfl rfl runUnderlying22 rfl h0 ?_
 refine W_bin rfl rfl rfl rfl rfl ?_
 refine W_end (E_then ?_)
 refine C_cond (b := decide ((p0_x.length : Int) < 1)) rfl (fun hb101 => ?_) (fun hb101 => ?_)
 ·have hm := ite_t' hb101 hm
  cases hm
 ·have hm := ite_f' hb101 hm
  refine C_skip (E_then (C_seq (C_region ?_)))
  refine W_move rfl rfl rfl ?_
  obtain ⟨y102, h103, he104, hm⟩ := idx_some hm
  obtain ⟨_, rfl, hc105⟩ := (h0).elem he104
  refine W_indexS rfl rfl runUnderlying22 sizeOf3 rfl h0 rfl h103 he104 ?_
  refine W_load rfl rfl isAgg3 rfl (HCells.one hc105 0 rfl).at ?_
  refine W_assign rfl rfl rfl ?_
  refine W_end (E_then (C_seq (C_seq (C_region ?_))))
  refine W_assign rfl rfl rfl ?_
  refine W_end (E_then (C_block ?_))
  refine C_keep (L' := [(0, v0), (3, .int .i64 (y102)), (4, .int .i64 (1))]) ⟨rfl, rfl, rfl, trivial⟩ (List.Perm.refl _) ?_
  refine C_loop (fun n H' M' L' => ∃ n120 : Int, ∃ n121 : Int, loopF (fun s124 n => m_slices_Min_int_int_b1 p0_x s124.1 s124.2 n) n (n120, n121) = some r ∧ H.le H' ∧ M = M' ∧ [(0, v0), (3, .int .i64 (n120)), (4, .int .i64 (n121))] = L') FUEL ⟨y102, 1, hm, (Hp.le_refl _), rfl, rfl⟩ ?_
  rintro n127 H122 _ _ ⟨n120, n121, hm, hle123, rfl, rfl⟩
  cases n127 with
  | zero => cases hm
  | succ n127 =>
   have hm : m_slices_Min_int_int_b1 p0_x n120 n121 (loopF (fun s124 n => m_slices_Min_int_int_b1 p0_x s124.1 s124.2 n) n127) = some r := hm
   generalize hn126 : loopF (fun s124 n => m_slices_Min_int_int_b1 p0_x s124.1 s124.2 n) n127 = nx125 at hm
   unfold m_slices_Min_int_int_b1 at hm
   refine C_seq (C_seq (C_region ?_))
   refine W_move rfl rfl rfl ?_
   refine W_move rfl rfl rfl ?_
   refine W_lenR rfl rfl runUnderlying22 rfl (h0.mono hle123) ?_
   refine W_bin rfl rfl rfl rfl rfl ?_
   refine W_end (E_then ?_)
   refine C_cond (b := decide (n121 < (p0_x.length : Int))) rfl (fun hb133 => ?_) (fun hb133 => ?_)
   ·have hm := ite_t' hb133 hm
    refine C_skip (E_then (C_seq (C_block (C_region ?_))))
    refine W_move rfl rfl rfl ?_
    refine W_move rfl rfl rfl ?_
    refine W_move rfl rfl rfl ?_
    obtain ⟨y134, h135, he136, hm⟩ := idx_some hm
    obtain ⟨_, rfl, hc137⟩ := (h0).elem he136
    refine W_indexS rfl rfl runUnderlying22 sizeOf3 rfl (h0.mono hle123) rfl h135 he136 ?_
    refine W_load rfl rfl isAgg3 rfl (HCells.one (hc137.mono hle123) 0 rfl).at ?_
    refine W_min rfl rfl rfl rfl ?_
    refine W_assign rfl rfl rfl ?_
    refine W_end (E_normal_block (E_then (C_region ?_)))
    refine W_move rfl rfl rfl ?_
    refine W_bin rfl rfl rfl rfl rfl ?_
    refine W_assign rfl rfl rfl ?_
    refine W_end ?_
    exact E_keepJ (E_back (Nat.lt_succ_self _) ⟨min n120 y134, IntKind.i64.wrap (n121 + 1), (by rw [hn126]; exact hm), hle123, rfl, rfl⟩) (List.Perm.refl _) ⟨rfl, rfl, rfl, trivial⟩
   ·have hm := ite_f' hb133 hm
    refine C_exit (E_exit_then (E_exit_then (E_exit_hit (E_then (C_seq (C_region ?_))))))
    refine W_move rfl rfl rfl ?_
    refine W_assign rfl rfl rfl ?_
    refine W_end (E_then (C_ret ?_))
    obtain rfl := Option.some.inj hm
    refine E_weak hle123 ?_
    exact end1 rfl rfl ⟨rfl, rfl, rfl⟩

theorem m_slices_Max_int_int_c {B : Nat} {w0 w : World} [Tabs B w0] {H : Hp} {M : List Res} {p0_x : (List Int)} {v0 : Value} {r : Int} (hm : m_slices_Max_int_int p0_x = some r) (h0 : RdS H v0 p0_x) (ht : St B w0 H (M) w) :
  Calls prog 21 [v0].toArray w (Ret B w0 fun H' M' v => H = H' ∧ M = M' ∧ .int .i64 (r) = v) := by
 unfold m_slices_Max_int_int at hm
 refine enter func21 rfl rfl rfl ht ?_
 refine C_seq (C_region ?_)
 refine W_assign rfl rfl rfl ?_
 refine W_end (E_then (C_seq (C_seq (C_region ?_))))
 refine W_move rfl rfl rfl ?_
 refine W_lenR rfl rfl runUnderlying22 rfl h0 ?_
 refine W_bin rfl rfl rfl rfl rfl ?_
 refine W_end (E_then ?_)
 refine C_cond (b := decide ((p0_x.length : Int) < 1)) rfl (fun hb101 => ?_) (fun hb101 => ?_)
 ·have hm := ite_t' hb101 hm
  cases hm
 ·have hm := ite_f' hb101 hm
  refine C_skip (E_then (C_seq (C_region ?_)))
  refine W_move rfl rfl rfl ?_
  obtain ⟨y102, h103, he104, hm⟩ := idx_some hm
  obtain ⟨_, rfl, hc105⟩ := (h0).elem he104
  refine W_indexS rfl rfl runUnderlying22 sizeOf3 rfl h0 rfl h103 he104 ?_
  refine W_load rfl rfl isAgg3 rfl (HCells.one hc105 0 rfl).at ?_
  refine W_assign rfl rfl rfl ?_
  refine W_end (E_then (C_seq (C_seq (C_region ?_))))
  refine W_assign rfl rfl rfl ?_
  refine W_end (E_then (C_block ?_))
  refine C_keep (L' := [(0, v0), (3, .int .i64 (y102)), (4, .int .i64 (1))]) ⟨rfl, rfl, rfl, trivial⟩ (List.Perm.refl _) ?_
  refine C_loop (fun n H' M' L' => ∃ n120 : Int, ∃ n121 : Int, loopF (fun s124 n => m_slices_Max_int_int_b1 p0_x s124.1 s124.2 n) n (n120, n121) = some r ∧ H.le H' ∧ M = M' ∧ [(0, v0), (3, .int .i64 (n120)), (4, .int .i64 (n121))] = L') FUEL ⟨y102, 1, hm, (Hp.le_refl _), rfl, rfl⟩ ?_
  rintro n127 H122 _ _ ⟨n120, n121, hm, hle123, rfl, rfl⟩
  cases n127 with
  | zero => cases hm
  | succ n127 =>
   have hm : m_slices_Max_int_int_b1 p0_x n120 n121 (loopF (fun s124 n => m_slices_Max_int_int_b1 p0_x s124.1 s124.2 n) n127) = some r := hm
   generalize hn126 : loopF (fun s124 n => m_slices_Max_int_int_b1 p0_x s124.1 s124.2 n) n127 = nx125 at hm
   unfold m_slices_Max_int_int_b1 at hm
   refine C_seq (C_seq (C_region ?_))
   refine W_move rfl rfl rfl ?_
   refine W_move rfl rfl rfl ?_
   refine W_lenR rfl rfl runUnderlying22 rfl (h0.mono hle123) ?_
   refine W_bin rfl rfl rfl rfl rfl ?_
   refine W_end (E_then ?_)
   refine C_cond (b := decide (n121 < (p0_x.length : Int))) rfl (fun hb133 => ?_) (fun hb133 => ?_)
   ·have hm := ite_t' hb133 hm
    refine C_skip (E_then (C_seq (C_block (C_region ?_))))
    refine W_move rfl rfl rfl ?_
    refine W_move rfl rfl rfl ?_
    refine W_move rfl rfl rfl ?_
    obtain ⟨y134, h135, he136, hm⟩ := idx_some hm
    obtain ⟨_, rfl, hc137⟩ := (h0).elem he136
    refine W_indexS rfl rfl runUnderlying22 sizeOf3 rfl (h0.mono hle123) rfl h135 he136 ?_
    refine W_load rfl rfl isAgg3 rfl (HCells.one (hc137.mono hle123) 0 rfl).at ?_
    refine W_max rfl rfl rfl rfl ?_
    refine W_assign rfl rfl rfl ?_
    refine W_end (E_normal_block (E_then (C_region ?_)))
    refine W_move rfl rfl rfl ?_
    refine W_bin rfl rfl rfl rfl rfl ?_
    refine W_assign rfl rfl rfl ?_
    refine W_end ?_
    exact E_keepJ (E_back (Nat.lt_succ_self _) ⟨max n120 y134, IntKind.i64.wrap (n121 + 1), (by rw [hn126]; exact hm), hle123, rfl, rfl⟩) (List.Perm.refl _) ⟨rfl, rfl, rfl, trivial⟩
   ·have hm := ite_f' hb133 hm
    refine C_exit (E_exit_then (E_exit_then (E_exit_hit (E_then (C_seq (C_region ?_))))))
    refine W_move rfl rfl rfl ?_
    refine W_assign rfl rfl rfl ?_
    refine W_end (E_then (C_ret ?_))
    obtain rfl := Option.some.inj hm
    refine E_weak hle123 ?_
    exact end1 rfl rfl ⟨rfl, rfl, rfl⟩

theorem m_large_Int_Cmp_c {B : Nat} {w0 w : World} [Tabs B w0] {H : Hp} {M : List Res} {p0_a : S_large_Int} {p1_b : S_large_Int} {v0 : Value} {v1 : Value} {r : Int} (hm : m_large_Int_Cmp p0_a p1_b = some r) (h0 : RdS H v0 p0_a.words) (h1 : RdS H v1 p1_b.words) (ht : St B w0 H (M) w) :
  Calls prog 50 [.agg [.bool (p0_a.minus), v0].toArray, .agg [.bool (p1_b.minus), v1].toArray].toArray w (Ret B w0 fun H' M' v => H = H' ∧ M = M' ∧ .int .i64 (r) = v) := by
 unfold m_large_Int_Cmp at hm
 refine enter func50 rfl rfl rfl ht ?_
 refine C_seq (C_region ?_)
 refine W_box (cs := [.bool (p0_a.minus), v0]) rfl rfl rfl rfl (fun b101 => ?_)
 refine W_box (cs := [.bool (p1_b.minus), v1]) rfl rfl rfl rfl (fun b102 => ?_)
 refine W_assign rfl rfl rfl ?_
 refine W_end (E_then (C_seq (C_region ?_)))
 refine W_loadAgg rfl rfl isAgg48 sizeOf48 rfl (own_all (List.mem_cons_of_mem _ (List.mem_cons_self ..))) rfl ?_
 refine W_loadAgg rfl rfl isAgg48 sizeOf48 rfl (own_all (List.mem_cons_self ..)) rfl ?_
 obtain ⟨r103, hc104, hm⟩ := bind_some hm
 refine W_call call66 rfl rfl rfl (fun w ht => by have h := m_large_Int_Sub_c (hm := hc104) h0 h1 ht; exact h) ?_
 rintro _ H107 _ ⟨hle108, v105, rfl, rfl, h106⟩
 refine W_call call67 rfl rfl rfl (fun w ht => by have h := m_large_Int_Sign_c (hm := (rfl : m_large_Int_Sign r103 = _)) h106 ht; exact h) ?_
 rintro _ _ _ ⟨rfl, rfl, rfl⟩
 refine W_assign rfl rfl rfl ?_
 refine W_end (E_then (C_ret ?_))
 obtain rfl := Option.some.inj hm
 refine E_drop (List.Sublist.cons _ (List.Sublist.cons _ (List.Sublist.refl _))) ?_
 refine E_weak hle108 ?_
 exact end1 rfl rfl ⟨rfl, rfl, rfl⟩

theorem m_large_Rat_Cmp_c {B : Nat} {w0 w : World} [Tabs B w0] {H : Hp} {M : List Res} {p0_a : S_large_Rat} {p1_b : S_large_Rat} {v0 : Value} {v1 : Value} {v2 : Value} {v3 : Value} {r : Int} (hm : m_large_Rat_Cmp p0_a p1_b = some r) (h0 : RdS H v0 p0_a.N.words) (h1 : RdS H v1 p0_a.D.words) (h2 : RdS H v2 p1_b.N.words) (h3 : RdS H v3 p1_b.D.words) (ht : St B w0 H (M) w) :
  Calls prog 38 [.agg [.bool (p0_a.N.minus), v0, .bool (p0_a.D.minus), v1].toArray, .agg [.bool (p1_b.N.minus), v2, .bool (p1_b.D.minus), v3].toArray].toArray w (Ret B w0 fun H' M' v => H = H' ∧ M = M' ∧ .int .i64 (r) = v) := by
 unfold m_large_Rat_Cmp at hm
 refine enter func38 rfl rfl rfl ht ?_
 refine C_seq (C_region ?_)
 refine W_box (cs := [.bool (p0_a.N.minus), v0, .bool (p0_a.D.minus), v1]) rfl rfl rfl rfl (fun b101 => ?_)
 refine W_box (cs := [.bool (p1_b.N.minus), v2, .bool (p1_b.D.minus), v3]) rfl rfl rfl rfl (fun b102 => ?_)
 refine W_assign rfl rfl rfl ?_
 refine W_end (E_then (C_seq ?_))
 obtain ⟨r103, hc104, hm⟩ := bind_some hm
 refine C_region_tok0 9 (phiT [(fun H rs v => [] = rs ∧ .pointer (some ⟨b101, 0, none⟩) = v), (fun H rs v => [] = rs ∧ .agg [.bool (p0_a.N.minus), v0].toArray = v), (fun H rs v => [] = rs ∧ .pointer (some ⟨b102, 2, none⟩) = v), (fun H rs v => [] = rs ∧ .agg [.bool (p1_b.D.minus), v3].toArray = v), (fun H rs v => ∃ v109 : Value, [] = rs ∧ .agg [.bool (r103.minus), v109].toArray = v ∧ RdS H v109 r103.words), (fun H rs v => [] = rs ∧ .pointer (some ⟨b102, 0, none⟩) = v), (fun H rs v => [] = rs ∧ .agg [.bool (p1_b.N.minus), v2].toArray = v), (fun H rs v => [] = rs ∧ .pointer (some ⟨b101, 2, none⟩) = v), (fun H rs v => [] = rs ∧ .agg [.bool (p0_a.D.minus), v1].toArray = v)]) [[], [], [], [], [], [], [], [], []] [[], [], [], [], [], [], [], [], []] [] [0, 1, 2, 3, 4, 5, 6, 7, 8] Facts.mixed (by kernel_rfl) (by rfl) (by rfl) (by rfl) (by kernel_rfl) (phiT_mono ⟨eq_monoT _ _, eq_monoT _ _, eq_monoT _ _, eq_monoT _ _, (by rintro H1 H2 rs v hle ⟨v109, rfl, rfl, h110⟩; exact ⟨v109, rfl, rfl, (h110.mono hle)⟩), eq_monoT _ _, eq_monoT _ _, eq_monoT _ _, eq_monoT _ _, trivial⟩) ⟨?_, ?_, ?_, ?_, ?_, ?_, ?_, ?_, ?_, trivial⟩ ?_
 ·intro HX hX X Rest hR
  intro hU hUp
  refine W_field (o := 0) rfl rfl runUnderlying50 rfl sizeOf48 rfl rfl rfl ?_
  exact W_end (OneT_end [] (Hp.le_refl _) ⟨rfl, rfl⟩)
 ·intro HX hX X Rest hR
  rintro _ _ ⟨rfl, rfl⟩
  intro hU hUp
  refine W_loadAgg (cs := [.bool (p0_a.N.minus), v0]) rfl rfl isAgg48 sizeOf48 rfl (own_part (hR _ (List.mem_cons_of_mem _ (List.mem_cons_self ..))) rfl) rfl ?_
  exact W_end (OneT_end [] (Hp.le_refl _) ⟨rfl, rfl⟩)
 ·intro HX hX X Rest hR
  intro hU hUp
  refine W_field (o := 2) rfl rfl runUnderlying50 rfl sizeOf48 rfl rfl rfl ?_
  exact W_end (OneT_end [] (Hp.le_refl _) ⟨rfl, rfl⟩)
 ·intro HX hX X Rest hR
  rintro _ _ ⟨rfl, rfl⟩
  intro hU hUp
  refine W_loadAgg (cs := [.bool (p1_b.D.minus), v3]) rfl rfl isAgg48 sizeOf48 rfl (own_part (hR _ (List.mem_cons_self ..)) rfl) rfl ?_
  exact W_end (OneT_end [] (Hp.le_refl _) ⟨rfl, rfl⟩)
 ·intro HX hX X Rest hR
  rintro _ _ ⟨rfl, rfl⟩
  rintro _ _ ⟨rfl, rfl⟩
  intro hU hUp
  refine W_call call44 rfl rfl rfl (fun w ht => by have h := m_large_Int_Mul_c (hm := hc104) (h0.mono hX) (h3.mono hX) ht; exact h) ?_
  rintro _ H111 _ ⟨hle112, v109, rfl, rfl, h110⟩
  exact W_end (OneT_end [] hle112 ⟨v109, rfl, rfl, (h110)⟩)
 ·intro HX hX X Rest hR
  intro hU hUp
  refine W_field (o := 0) rfl rfl runUnderlying50 rfl sizeOf48 rfl rfl rfl ?_
  exact W_end (OneT_end [] (Hp.le_refl _) ⟨rfl, rfl⟩)
 ·intro HX hX X Rest hR
  rintro _ _ ⟨rfl, rfl⟩
  intro hU hUp
  refine W_loadAgg (cs := [.bool (p1_b.N.minus), v2]) rfl rfl isAgg48 sizeOf48 rfl (own_part (hR _ (List.mem_cons_self ..)) rfl) rfl ?_
  exact W_end (OneT_end [] (Hp.le_refl _) ⟨rfl, rfl⟩)
 ·intro HX hX X Rest hR
  intro hU hUp
  refine W_field (o := 2) rfl rfl runUnderlying50 rfl sizeOf48 rfl rfl rfl ?_
  exact W_end (OneT_end [] (Hp.le_refl _) ⟨rfl, rfl⟩)
 ·intro HX hX X Rest hR
  rintro _ _ ⟨rfl, rfl⟩
  intro hU hUp
  refine W_loadAgg (cs := [.bool (p0_a.D.minus), v1]) rfl rfl isAgg48 sizeOf48 rfl (own_part (hR _ (List.mem_cons_of_mem _ (List.mem_cons_self ..))) rfl) rfl ?_
  exact W_end (OneT_end [] (Hp.le_refl _) ⟨rfl, rfl⟩)
 intro H113 hle114
 rintro _ _ ⟨rfl, rfl⟩
 rintro _ _ ⟨rfl, rfl⟩
 rintro _ _ ⟨rfl, rfl⟩
 rintro _ _ ⟨rfl, rfl⟩
 rintro _ _ ⟨v109, rfl, rfl, h110⟩
 rintro _ _ ⟨rfl, rfl⟩
 rintro _ _ ⟨rfl, rfl⟩
 rintro _ _ ⟨rfl, rfl⟩
 rintro _ _ ⟨rfl, rfl⟩
 obtain ⟨r115, hc116, hm⟩ := bind_some hm
 refine W_call call44 rfl rfl rfl (fun w ht => by have h := m_large_Int_Mul_c (hm := hc116) (h2.mono hle114) (h1.mono hle114) ht; exact h) ?_
 rintro _ H119 _ ⟨hle120, v117, rfl, rfl, h118⟩
 obtain ⟨r121, hc122, hm⟩ := bind_some hm
 refine W_call call50 rfl rfl rfl (fun w ht => by have h := m_large_Int_Cmp_c (hm := hc122) (h110.mono hle120) h118 ht; exact h) ?_
 rintro _ _ _ ⟨rfl, rfl, rfl⟩
 refine W_assign rfl rfl rfl ?_
 refine W_end (E_then (C_ret ?_))
 obtain rfl := Option.some.inj hm
 refine E_drop (List.Sublist.cons _ (List.Sublist.cons _ (List.Sublist.refl _))) ?_
 refine E_weak (Hp.le_trans hle114 hle120) ?_
 exact end1 rfl rfl ⟨rfl, rfl, rfl⟩

theorem m_rat_Compare_c {B : Nat} {w0 w : World} [Tabs B w0] {H : Hp} {M : List Res} {p0_a : ByteArray} {p1_b : ByteArray} {r : Int × Int} (hm : m_rat_Compare p0_a p1_b = some r) (ht : St B w0 H (M) w) :
  Calls prog 22 [.string (p0_a), .string (p1_b)].toArray w (Ret B w0 fun H' M' v => H = H' ∧ M = M' ∧ .tuple #[.int .i64 (r.1), .int .i64 (r.2)] = v) := by
 unfold m_rat_Compare at hm
 refine enter func22 rfl rfl rfl ht ?_
 refine C_seq (C_region ?_)
 refine W_assign rfl rfl rfl ?_
 refine W_assign rfl rfl rfl ?_
 refine W_end (E_then (C_seq (C_seq (C_region ?_))))
 refine W_move rfl rfl rfl ?_
 refine W_move rfl rfl rfl ?_
 refine W_buildSliceO (α := ByteArray) (css := [[.string (p0_a)], [.string (p1_b)]]) (zs := [.string (⟨#[]⟩), .string (⟨#[]⟩)]) (out := [.string (p0_a), .string (p1_b)]) (ys := [p0_a, p1_b]) rfl rfl rfl ⟨rfl, rfl, trivial⟩ runUnderlying33 sizeOf25 rfl zeroValue25 (by kernel_rfl) rfl rfl rfl rfl ⟨[.string (p0_a)], [.string (p1_b)], rfl, rfl, ⟨[.string (p1_b)], [], rfl, rfl, rfl⟩⟩ rfl ?_
 intro v101 xs102 hr103
 obtain ⟨r104, hc105, hm⟩ := bind_some hm
 refine W_call call35 rfl rfl rfl (fun w ht => by obtain ⟨H0_, hl0_, ht0_, hr0_, bk0_⟩ := ht.lendRow hr103 rfl; have h := m_rat_CheckAll_c (hm := hc105) hr0_ ht0_; exact lend_back bk0_ (h)) ?_
 rintro _ _ _ ⟨rfl, ⟨_, rfl, rfl, rfl⟩⟩
 refine W_assign rfl rfl rfl ?_
 refine W_end (E_then (C_seq (C_region ?_)))
 refine W_move rfl rfl rfl ?_
 refine W_bin rfl rfl rfl rfl rfl ?_
 refine W_end (E_then ?_)
 refine C_cond (b := !decide (r104 = 0)) rfl (fun hb106 => ?_) (fun hb106 => ?_)
 ·have hm := ite_t' hb106 hm
  refine C_seq (C_region ?_)
  refine W_move rfl rfl rfl ?_
  refine W_assign rfl rfl rfl ?_
  refine W_assign rfl rfl rfl ?_
  refine W_end (E_then (C_ret (E_ret_then ?_)))
  obtain rfl := Option.some.inj hm
  refine E_drop (List.Sublist.cons _ (List.Sublist.refl _)) ?_
  refine E_weak (Hp.le_refl _) ?_
  exact end2 rfl rfl rfl ⟨rfl, rfl, rfl⟩
 ·have hm := ite_f' hb106 hm
  refine C_skip (E_then (C_seq (C_region ?_)))
  refine W_move rfl rfl rfl ?_
  obtain ⟨r107, hc108, hm⟩ := bind_some hm
  refine W_call call37 rfl rfl rfl (fun w ht => by have h := m_large_Parse_c (hm := hc108)  ht; exact h) ?_
  rintro _ H113 _ ⟨hle114, v109, v111, rfl, rfl, h110, h112⟩
  refine W_move rfl rfl rfl ?_
  obtain ⟨r115, hc116, hm⟩ := bind_some hm
  refine W_call call37 rfl rfl rfl (fun w ht => by have h := m_large_Parse_c (hm := hc116)  ht; exact h) ?_
  rintro _ H121 _ ⟨hle122, v117, v119, rfl, rfl, h118, h120⟩
  obtain ⟨r123, hc124, hm⟩ := bind_some hm
  refine W_call call38 rfl rfl rfl (fun w ht => by have h := m_large_Rat_Cmp_c (hm := hc124) (h110.mono hle122) (h112.mono hle122) h118 h120 ht; exact h) ?_
  rintro _ _ _ ⟨rfl, rfl, rfl⟩
  refine W_assign rfl rfl rfl ?_
  refine W_assign rfl rfl rfl ?_
  refine W_end (E_then (C_ret ?_))
  obtain rfl := Option.some.inj hm
  refine E_drop (List.Sublist.cons _ (List.Sublist.refl _)) ?_
  refine E_weak (Hp.le_trans hle114 hle122) ?_
  exact end2 rfl rfl rfl ⟨rfl, rfl, rfl⟩

theorem m_gridhallkeep4_ForecastSmooths_c {B : Nat} {w0 w : World} [Tabs B w0] {H : Hp} {M : List Res} {p0_l : (List Int)} {p1_p : Int} {p2_q : Int} {v0 : Value} {r : Bool} (hm : m_gridhallkeep4_ForecastSmooths p0_l p1_p p2_q = some r) (h0 : RdS H v0 p0_l) (ht : St B w0 H (M) w) :
  Calls prog 6 [v0, .int .i64 (p1_p), .int .i64 (p2_q)].toArray w (Ret B w0 fun H' M' v => H = H' ∧ M = M' ∧ .bool (r) = v) := by
 unfold m_gridhallkeep4_ForecastSmooths at hm
 refine enter func6 rfl rfl rfl ht ?_
 refine C_seq (C_region ?_)
 refine W_assign rfl rfl rfl ?_
 refine W_end (E_then (C_seq (C_region ?_)))
 refine W_move rfl rfl rfl ?_
 refine W_move rfl rfl rfl ?_
 refine W_lenR rfl rfl runUnderlying22 rfl h0 ?_
 refine W_min rfl rfl rfl rfl ?_
 obtain ⟨hz101, hm⟩ := need_some hm
 refine W_sliceR (α := Int) (l := 0) (h := (min (p0_l.length : Int) 20 : Int).toNat) (xs := p0_l) rfl rfl runUnderlying22 sizeOf3 rfl h0 (by omega) (by omega) (.inl rfl) (fun cap hcap => by rw [if_pos rfl]; exact (.inl ⟨rfl, rfl⟩)) (fun m hmm => (.inr ⟨_, _, _, rfl, rfl, by omega, by omega, rfl⟩)) (.inl ⟨rfl, rfl⟩) ?_
 intro v102 h103 hc104
 refine W_assign rfl rfl rfl ?_
 refine W_end (E_then (C_seq (C_region ?_)))
 refine W_move rfl rfl rfl ?_
 refine W_move rfl rfl rfl ?_
 refine W_move rfl rfl rfl ?_
 obtain ⟨r105, hc106, hm⟩ := bind_some hm
 refine W_call call19 rfl rfl rfl (fun w ht => by have h := m_forecast_Smooth_c (hm := hc106) h103 ht; exact h) ?_
 rintro _ _ _ ⟨rfl, rfl, rfl⟩
 refine W_move rfl rfl rfl ?_
 refine W_extract rfl rfl rfl rfl ?_
 refine W_extract rfl rfl rfl rfl ?_
 refine W_assign rfl rfl rfl ?_
 refine W_assign rfl rfl rfl ?_
 refine W_end (E_then (C_seq (C_seq (C_region ?_))))
 refine W_move rfl rfl rfl ?_
 refine W_bin rfl rfl rfl rfl rfl ?_
 refine W_end (E_then ?_)
 refine C_cond (b := !decide (r105.2 = 0)) rfl (fun hb107 => ?_) (fun hb107 => ?_)
 ·have hm := ite_t' hb107 hm
  obtain ⟨r111, hc112, hm⟩ := bind_some hm
  refine C_seq_join (fun H' M' L' => H = H' ∧ M = M' ∧ [(6, .bool (r111 && (decide (r105.1 = (⟨#[]⟩)))))] = L') ?_ (fun J113 => ?_)
  ·rintro _ _ _ ⟨rfl, rfl, rfl⟩
   refine C_ret (E_ret_then ?_)
   obtain rfl := Option.some.inj hm
   refine E_weak (Hp.le_refl _) ?_
   exact end1 rfl rfl ⟨rfl, rfl, rfl⟩
  ·refine C_region ?_
   refine W_call call13 rfl rfl rfl (fun w ht => by have h := m_gridhallkeep4_forecastFact_c (hm := hc112)  ht; exact h) ?_
   rintro _ _ _ ⟨rfl, rfl, rfl⟩
   refine W_move rfl rfl rfl ?_
   cases hb114 : (r111)
   ·refine W_no rfl rfl rfl ?_
    refine W_no rfl rfl rfl ?_
    refine W_pick rfl rfl rfl rfl ?_
    refine W_assign rfl rfl rfl ?_
    refine W_end ?_
    exact E_keepJ (J113 _ _ _ ⟨rfl, rfl, rfl⟩) (List.Perm.refl _) ⟨(by show some (Value.bool (false)) = some (Value.bool (r111 && (decide (r105.1 = (⟨#[]⟩))))); first | (simp only [hb107, hb114, Bool.and_true, Bool.true_and, Bool.false_and, Bool.and_false, Bool.or_true, Bool.true_or, Bool.or_false, Bool.false_or, Bool.not_true, Bool.not_false]; done) | (simp only [hb107, hb114]; first | done | simp only [Bool.and_true, Bool.true_and, Bool.false_and, Bool.and_false, Bool.or_true, Bool.true_or, Bool.or_false, Bool.false_or, Bool.not_true, Bool.not_false])), trivial⟩
   ·refine W_move rfl rfl rfl ?_
    refine W_bin rfl rfl rfl rfl rfl ?_
    refine W_pick rfl rfl rfl rfl ?_
    refine W_assign rfl rfl rfl ?_
    refine W_end ?_
    exact E_keepJ (J113 _ _ _ ⟨rfl, rfl, rfl⟩) (List.Perm.refl _) ⟨(by show some (Value.bool (decide (r105.1 = (⟨#[]⟩)))) = some (Value.bool (r111 && (decide (r105.1 = (⟨#[]⟩))))); first | (simp only [hb107, hb114, Bool.and_true, Bool.true_and, Bool.false_and, Bool.and_false, Bool.or_true, Bool.true_or, Bool.or_false, Bool.false_or, Bool.not_true, Bool.not_false]; done) | (simp only [hb107, hb114]; first | done | simp only [Bool.and_true, Bool.true_and, Bool.false_and, Bool.and_false, Bool.or_true, Bool.true_or, Bool.or_false, Bool.false_or, Bool.not_true, Bool.not_false])), trivial⟩
 ·have hm := ite_f' hb107 hm
  refine C_skip (E_then (C_seq (C_region ?_)))
  refine W_move rfl rfl rfl ?_
  obtain ⟨r115, hc116, hm⟩ := bind_some hm
  refine W_call call19 rfl rfl rfl (fun w ht => by have h := m_forecast_Smooth_c (hm := hc116) h103 ht; exact h) ?_
  rintro _ _ _ ⟨rfl, rfl, rfl⟩
  refine W_move rfl rfl rfl ?_
  refine W_extract rfl rfl rfl rfl ?_
  refine W_extract rfl rfl rfl rfl ?_
  refine W_assign rfl rfl rfl ?_
  refine W_assign rfl rfl rfl ?_
  refine W_end (E_then (C_seq (C_region ?_)))
  refine W_move rfl rfl rfl ?_
  obtain ⟨r117, hc118, hm⟩ := bind_some hm
  refine W_call call19 rfl rfl rfl (fun w ht => by have h := m_forecast_Smooth_c (hm := hc118) h103 ht; exact h) ?_
  rintro _ _ _ ⟨rfl, rfl, rfl⟩
  refine W_move rfl rfl rfl ?_
  refine W_extract rfl rfl rfl rfl ?_
  refine W_extract rfl rfl rfl rfl ?_
  refine W_assign rfl rfl rfl ?_
  refine W_assign rfl rfl rfl ?_
  refine W_end (E_then (C_seq ?_))
  refine C_seq_join (fun H' M' L' => H = H' ∧ M = M' ∧ [(0, v102), (7, .string (r105.1)), (9, .string (r115.1)), (11, .string (r117.1)), (64, .bool (((!decide (r115.2 = 0)) || (!decide (r117.2 = 0))) || (decide (((slc p0_l 0 ((min (p0_l.length : Int) 20 : Int).toNat)).length : Int) = 0))))] = L') ?_ (fun J121 => ?_)
  ·rintro _ _ _ ⟨rfl, rfl, rfl⟩
   refine C_cond (b := ((!decide (r115.2 = 0)) || (!decide (r117.2 = 0))) || (decide (((slc p0_l 0 ((min (p0_l.length : Int) 20 : Int).toNat)).length : Int) = 0))) rfl (fun hb122 => ?_) (fun hb122 => ?_)
   ·have hm := ite_t' hb122 hm
    refine C_seq (C_region ?_)
    refine W_assign rfl rfl rfl ?_
    refine W_end (E_then (C_ret (E_ret_then ?_)))
    obtain rfl := Option.some.inj hm
    refine E_weak (Hp.le_refl _) ?_
    exact end1 rfl rfl ⟨rfl, rfl, rfl⟩
   ·have hm := ite_f' hb122 hm
    refine C_skip (E_then (C_seq (C_region ?_)))
    refine W_move rfl rfl rfl ?_
    obtain ⟨r123, hc124, hm⟩ := bind_some hm
    refine W_call call20 rfl rfl rfl (fun w ht => by have h := m_slices_Min_int_int_c (hm := hc124) h103 ht; exact h) ?_
    rintro _ _ _ ⟨rfl, rfl, rfl⟩
    obtain ⟨r125, hc126, hm⟩ := bind_some hm
    refine W_call call9 rfl rfl rfl (fun w ht => by have h := m_rat_Of_c (hm := hc126)  ht; exact h) ?_
    rintro _ _ _ ⟨rfl, rfl, rfl⟩
    refine W_move rfl rfl rfl ?_
    refine W_extract rfl rfl rfl rfl ?_
    refine W_extract rfl rfl rfl rfl ?_
    refine W_assign rfl rfl rfl ?_
    refine W_assign rfl rfl rfl ?_
    refine W_end (E_then (C_seq (C_region ?_)))
    refine W_move rfl rfl rfl ?_
    obtain ⟨r127, hc128, hm⟩ := bind_some hm
    refine W_call call21 rfl rfl rfl (fun w ht => by have h := m_slices_Max_int_int_c (hm := hc128) h103 ht; exact h) ?_
    rintro _ _ _ ⟨rfl, rfl, rfl⟩
    obtain ⟨r129, hc130, hm⟩ := bind_some hm
    refine W_call call9 rfl rfl rfl (fun w ht => by have h := m_rat_Of_c (hm := hc130)  ht; exact h) ?_
    rintro _ _ _ ⟨rfl, rfl, rfl⟩
    refine W_move rfl rfl rfl ?_
    refine W_extract rfl rfl rfl rfl ?_
    refine W_extract rfl rfl rfl rfl ?_
    refine W_assign rfl rfl rfl ?_
    refine W_assign rfl rfl rfl ?_
    refine W_end (E_then (C_seq (C_region ?_)))
    refine W_move rfl rfl rfl ?_
    obtain ⟨y131, h132, he133, hm⟩ := idx_some hm
    obtain ⟨_, rfl, hc134⟩ := (h103).elem he133
    refine W_indexS rfl rfl runUnderlying22 sizeOf3 rfl h103 rfl h132 he133 ?_
    refine W_load rfl rfl isAgg3 rfl (HCells.one hc134 0 rfl).at ?_
    obtain ⟨r135, hc136, hm⟩ := bind_some hm
    refine W_call call9 rfl rfl rfl (fun w ht => by have h := m_rat_Of_c (hm := hc136)  ht; exact h) ?_
    rintro _ _ _ ⟨rfl, rfl, rfl⟩
    refine W_move rfl rfl rfl ?_
    refine W_extract rfl rfl rfl rfl ?_
    refine W_extract rfl rfl rfl rfl ?_
    refine W_assign rfl rfl rfl ?_
    refine W_assign rfl rfl rfl ?_
    refine W_end (E_then (C_seq (C_region ?_)))
    refine W_move rfl rfl rfl ?_
    refine W_move rfl rfl rfl ?_
    refine W_lenR rfl rfl runUnderlying22 rfl h103 ?_
    refine W_bin rfl rfl rfl rfl rfl ?_
    obtain ⟨y137, h138, he139, hm⟩ := idx_some hm
    obtain ⟨_, rfl, hc140⟩ := (h103).elem he139
    refine W_indexS rfl rfl runUnderlying22 sizeOf3 rfl h103 rfl h138 he139 ?_
    refine W_load rfl rfl isAgg3 rfl (HCells.one hc140 0 rfl).at ?_
    obtain ⟨r141, hc142, hm⟩ := bind_some hm
    refine W_call call9 rfl rfl rfl (fun w ht => by have h := m_rat_Of_c (hm := hc142)  ht; exact h) ?_
    rintro _ _ _ ⟨rfl, rfl, rfl⟩
    refine W_move rfl rfl rfl ?_
    refine W_extract rfl rfl rfl rfl ?_
    refine W_extract rfl rfl rfl rfl ?_
    refine W_assign rfl rfl rfl ?_
    refine W_assign rfl rfl rfl ?_
    refine W_end (E_then (C_seq (C_region ?_)))
    refine W_move rfl rfl rfl ?_
    refine W_move rfl rfl rfl ?_
    obtain ⟨r143, hc144, hm⟩ := bind_some hm
    refine W_call call22 rfl rfl rfl (fun w ht => by have h := m_rat_Compare_c (hm := hc144)  ht; exact h) ?_
    rintro _ _ _ ⟨rfl, rfl, rfl⟩
    refine W_move rfl rfl rfl ?_
    refine W_extract rfl rfl rfl rfl ?_
    refine W_extract rfl rfl rfl rfl ?_
    refine W_assign rfl rfl rfl ?_
    refine W_assign rfl rfl rfl ?_
    refine W_end (E_then (C_seq (C_region ?_)))
    refine W_move rfl rfl rfl ?_
    refine W_move rfl rfl rfl ?_
    obtain ⟨r145, hc146, hm⟩ := bind_some hm
    refine W_call call22 rfl rfl rfl (fun w ht => by have h := m_rat_Compare_c (hm := hc146)  ht; exact h) ?_
    rintro _ _ _ ⟨rfl, rfl, rfl⟩
    refine W_move rfl rfl rfl ?_
    refine W_extract rfl rfl rfl rfl ?_
    refine W_extract rfl rfl rfl rfl ?_
    refine W_assign rfl rfl rfl ?_
    refine W_assign rfl rfl rfl ?_
    refine W_end (E_then ?_)
    obtain ⟨r159, hc160, hm⟩ := bind_some hm
    refine C_seq_join (fun H' M' L' => H = H' ∧ M = M' ∧ [(6, .bool ((((((((((r159 && (decide (r125.2 = 0))) && (decide (r129.2 = 0))) && (decide (r135.2 = 0))) && (decide (r141.2 = 0))) && (decide (r143.2 = 0))) && (decide (r145.2 = 0))) && (decide (r115.1 = r135.1))) && (decide (r117.1 = r141.1))) && (decide (0 ≤ r143.1))) && (decide (r145.1 ≤ 0))))] = L') ?_ (fun J161 => ?_)
    ·rintro _ _ _ ⟨rfl, rfl, rfl⟩
     refine C_ret ?_
     obtain rfl := Option.some.inj hm
     refine E_weak (Hp.le_refl _) ?_
     exact end1 rfl rfl ⟨rfl, rfl, rfl⟩
    ·refine C_region ?_
     refine W_call call13 rfl rfl rfl (fun w ht => by have h := m_gridhallkeep4_forecastFact_c (hm := hc160)  ht; exact h) ?_
     rintro _ _ _ ⟨rfl, rfl, rfl⟩
     refine W_move rfl rfl rfl ?_
     cases hb162 : (r159)
     ·refine W_no rfl rfl rfl ?_
      refine W_no rfl rfl rfl ?_
      refine W_pick rfl rfl rfl rfl ?_
      refine W_move rfl rfl rfl ?_
      refine W_no rfl rfl rfl ?_
      refine W_no rfl rfl rfl ?_
      refine W_pick rfl rfl rfl rfl ?_
      refine W_move rfl rfl rfl ?_
      refine W_no rfl rfl rfl ?_
      refine W_no rfl rfl rfl ?_
      refine W_pick rfl rfl rfl rfl ?_
      refine W_move rfl rfl rfl ?_
      refine W_no rfl rfl rfl ?_
      refine W_no rfl rfl rfl ?_
      refine W_pick rfl rfl rfl rfl ?_
      refine W_move rfl rfl rfl ?_
      refine W_no rfl rfl rfl ?_
      refine W_no rfl rfl rfl ?_
      refine W_pick rfl rfl rfl rfl ?_
      refine W_move rfl rfl rfl ?_
      refine W_no rfl rfl rfl ?_
      refine W_no rfl rfl rfl ?_
      refine W_pick rfl rfl rfl rfl ?_
      refine W_move rfl rfl rfl ?_
      refine W_no rfl rfl rfl ?_
      refine W_no rfl rfl rfl ?_
      refine W_no rfl rfl rfl ?_
      refine W_pick rfl rfl rfl rfl ?_
      refine W_move rfl rfl rfl ?_
      refine W_no rfl rfl rfl ?_
      refine W_no rfl rfl rfl ?_
      refine W_no rfl rfl rfl ?_
      refine W_pick rfl rfl rfl rfl ?_
      refine W_move rfl rfl rfl ?_
      refine W_no rfl rfl rfl ?_
      refine W_no rfl rfl rfl ?_
      refine W_pick rfl rfl rfl rfl ?_
      refine W_move rfl rfl rfl ?_
      refine W_no rfl rfl rfl ?_
      refine W_no rfl rfl rfl ?_
      refine W_pick rfl rfl rfl rfl ?_
      refine W_assign rfl rfl rfl ?_
      refine W_end ?_
      exact E_keepJ (J161 _ _ _ ⟨rfl, rfl, rfl⟩) (List.Perm.refl _) ⟨(by show some (Value.bool (false)) = some (Value.bool ((((((((((r159 && (decide (r125.2 = 0))) && (decide (r129.2 = 0))) && (decide (r135.2 = 0))) && (decide (r141.2 = 0))) && (decide (r143.2 = 0))) && (decide (r145.2 = 0))) && (decide (r115.1 = r135.1))) && (decide (r117.1 = r141.1))) && (decide (0 ≤ r143.1))) && (decide (r145.1 ≤ 0)))); first | (simp only [hb107, hb122, hb162, Bool.and_true, Bool.true_and, Bool.false_and, Bool.and_false, Bool.or_true, Bool.true_or, Bool.or_false, Bool.false_or, Bool.not_true, Bool.not_false]; done) | (simp only [hb107, hb122, hb162]; first | done | simp only [Bool.and_true, Bool.true_and, Bool.false_and, Bool.and_false, Bool.or_true, Bool.true_or, Bool.or_false, Bool.false_or, Bool.not_true, Bool.not_false])), trivial⟩
     ·refine W_move rfl rfl rfl ?_
      refine W_bin rfl rfl rfl rfl rfl ?_
      refine W_pick rfl rfl rfl rfl ?_
      refine W_move rfl rfl rfl ?_
      cases hb163 : (decide (r125.2 = 0))
      ·refine W_no rfl rfl rfl ?_
       refine W_no rfl rfl rfl ?_
       refine W_pick rfl rfl rfl rfl ?_
       refine W_move rfl rfl rfl ?_
       refine W_no rfl rfl rfl ?_
       refine W_no rfl rfl rfl ?_
       refine W_pick rfl rfl rfl rfl ?_
       refine W_move rfl rfl rfl ?_
       refine W_no rfl rfl rfl ?_
       refine W_no rfl rfl rfl ?_
       refine W_pick rfl rfl rfl rfl ?_
       refine W_move rfl rfl rfl ?_
       refine W_no rfl rfl rfl ?_
       refine W_no rfl rfl rfl ?_
       refine W_pick rfl rfl rfl rfl ?_
       refine W_move rfl rfl rfl ?_
       refine W_no rfl rfl rfl ?_
       refine W_no rfl rfl rfl ?_
       refine W_pick rfl rfl rfl rfl ?_
       refine W_move rfl rfl rfl ?_
       refine W_no rfl rfl rfl ?_
       refine W_no rfl rfl rfl ?_
       refine W_no rfl rfl rfl ?_
       refine W_pick rfl rfl rfl rfl ?_
       refine W_move rfl rfl rfl ?_
       refine W_no rfl rfl rfl ?_
       refine W_no rfl rfl rfl ?_
       refine W_no rfl rfl rfl ?_
       refine W_pick rfl rfl rfl rfl ?_
       refine W_move rfl rfl rfl ?_
       refine W_no rfl rfl rfl ?_
       refine W_no rfl rfl rfl ?_
       refine W_pick rfl rfl rfl rfl ?_
       refine W_move rfl rfl rfl ?_
       refine W_no rfl rfl rfl ?_
       refine W_no rfl rfl rfl ?_
       refine W_pick rfl rfl rfl rfl ?_
       refine W_assign rfl rfl rfl ?_
       refine W_end ?_
       exact E_keepJ (J161 _ _ _ ⟨rfl, rfl, rfl⟩) (List.Perm.refl _) ⟨(by show some (Value.bool (false)) = some (Value.bool ((((((((((r159 && (decide (r125.2 = 0))) && (decide (r129.2 = 0))) && (decide (r135.2 = 0))) && (decide (r141.2 = 0))) && (decide (r143.2 = 0))) && (decide (r145.2 = 0))) && (decide (r115.1 = r135.1))) && (decide (r117.1 = r141.1))) && (decide (0 ≤ r143.1))) && (decide (r145.1 ≤ 0)))); first | (simp only [hb107, hb122, hb162, hb163, Bool.and_true, Bool.true_and, Bool.false_and, Bool.and_false, Bool.or_true, Bool.true_or, Bool.or_false, Bool.false_or, Bool.not_true, Bool.not_false]; done) | (simp only [hb107, hb122, hb162, hb163]; first | done | simp only [Bool.and_true, Bool.true_and, Bool.false_and, Bool.and_false, Bool.or_true, Bool.true_or, Bool.or_false, Bool.false_or, Bool.not_true, Bool.not_false])), trivial⟩
      ·refine W_move rfl rfl rfl ?_
       refine W_bin rfl rfl rfl rfl rfl ?_
       refine W_pick rfl rfl rfl rfl ?_
       refine W_move rfl rfl rfl ?_
       cases hb164 : (decide (r129.2 = 0))
       ·refine W_no rfl rfl rfl ?_
        refine W_no rfl rfl rfl ?_
        refine W_pick rfl rfl rfl rfl ?_
        refine W_move rfl rfl rfl ?_
        refine W_no rfl rfl rfl ?_
        refine W_no rfl rfl rfl ?_
        refine W_pick rfl rfl rfl rfl ?_
        refine W_move rfl rfl rfl ?_
        refine W_no rfl rfl rfl ?_
        refine W_no rfl rfl rfl ?_
        refine W_pick rfl rfl rfl rfl ?_
        refine W_move rfl rfl rfl ?_
        refine W_no rfl rfl rfl ?_
        refine W_no rfl rfl rfl ?_
        refine W_pick rfl rfl rfl rfl ?_
        refine W_move rfl rfl rfl ?_
        refine W_no rfl rfl rfl ?_
        refine W_no rfl rfl rfl ?_
        refine W_no rfl rfl rfl ?_
        refine W_pick rfl rfl rfl rfl ?_
        refine W_move rfl rfl rfl ?_
        refine W_no rfl rfl rfl ?_
        refine W_no rfl rfl rfl ?_
        refine W_no rfl rfl rfl ?_
        refine W_pick rfl rfl rfl rfl ?_
        refine W_move rfl rfl rfl ?_
        refine W_no rfl rfl rfl ?_
        refine W_no rfl rfl rfl ?_
        refine W_pick rfl rfl rfl rfl ?_
        refine W_move rfl rfl rfl ?_
        refine W_no rfl rfl rfl ?_
        refine W_no rfl rfl rfl ?_
        refine W_pick rfl rfl rfl rfl ?_
        refine W_assign rfl rfl rfl ?_
        refine W_end ?_
        exact E_keepJ (J161 _ _ _ ⟨rfl, rfl, rfl⟩) (List.Perm.refl _) ⟨(by show some (Value.bool (false)) = some (Value.bool ((((((((((r159 && (decide (r125.2 = 0))) && (decide (r129.2 = 0))) && (decide (r135.2 = 0))) && (decide (r141.2 = 0))) && (decide (r143.2 = 0))) && (decide (r145.2 = 0))) && (decide (r115.1 = r135.1))) && (decide (r117.1 = r141.1))) && (decide (0 ≤ r143.1))) && (decide (r145.1 ≤ 0)))); first | (simp only [hb107, hb122, hb162, hb163, hb164, Bool.and_true, Bool.true_and, Bool.false_and, Bool.and_false, Bool.or_true, Bool.true_or, Bool.or_false, Bool.false_or, Bool.not_true, Bool.not_false]; done) | (simp only [hb107, hb122, hb162, hb163, hb164]; first | done | simp only [Bool.and_true, Bool.true_and, Bool.false_and, Bool.and_false, Bool.or_true, Bool.true_or, Bool.or_false, Bool.false_or, Bool.not_true, Bool.not_false])), trivial⟩
       ·refine W_move rfl rfl rfl ?_
        refine W_bin rfl rfl rfl rfl rfl ?_
        refine W_pick rfl rfl rfl rfl ?_
        refine W_move rfl rfl rfl ?_
        cases hb165 : (decide (r135.2 = 0))
        ·refine W_no rfl rfl rfl ?_
         refine W_no rfl rfl rfl ?_
         refine W_pick rfl rfl rfl rfl ?_
         refine W_move rfl rfl rfl ?_
         refine W_no rfl rfl rfl ?_
         refine W_no rfl rfl rfl ?_
         refine W_pick rfl rfl rfl rfl ?_
         refine W_move rfl rfl rfl ?_
         refine W_no rfl rfl rfl ?_
         refine W_no rfl rfl rfl ?_
         refine W_pick rfl rfl rfl rfl ?_
         refine W_move rfl rfl rfl ?_
         refine W_no rfl rfl rfl ?_
         refine W_no rfl rfl rfl ?_
         refine W_no rfl rfl rfl ?_
         refine W_pick rfl rfl rfl rfl ?_
         refine W_move rfl rfl rfl ?_
         refine W_no rfl rfl rfl ?_
         refine W_no rfl rfl rfl ?_
         refine W_no rfl rfl rfl ?_
         refine W_pick rfl rfl rfl rfl ?_
         refine W_move rfl rfl rfl ?_
         refine W_no rfl rfl rfl ?_
         refine W_no rfl rfl rfl ?_
         refine W_pick rfl rfl rfl rfl ?_
         refine W_move rfl rfl rfl ?_
         refine W_no rfl rfl rfl ?_
         refine W_no rfl rfl rfl ?_
         refine W_pick rfl rfl rfl rfl ?_
         refine W_assign rfl rfl rfl ?_
         refine W_end ?_
         exact E_keepJ (J161 _ _ _ ⟨rfl, rfl, rfl⟩) (List.Perm.refl _) ⟨(by show some (Value.bool (false)) = some (Value.bool ((((((((((r159 && (decide (r125.2 = 0))) && (decide (r129.2 = 0))) && (decide (r135.2 = 0))) && (decide (r141.2 = 0))) && (decide (r143.2 = 0))) && (decide (r145.2 = 0))) && (decide (r115.1 = r135.1))) && (decide (r117.1 = r141.1))) && (decide (0 ≤ r143.1))) && (decide (r145.1 ≤ 0)))); first | (simp only [hb107, hb122, hb162, hb163, hb164, hb165, Bool.and_true, Bool.true_and, Bool.false_and, Bool.and_false, Bool.or_true, Bool.true_or, Bool.or_false, Bool.false_or, Bool.not_true, Bool.not_false]; done) | (simp only [hb107, hb122, hb162, hb163, hb164, hb165]; first | done | simp only [Bool.and_true, Bool.true_and, Bool.false_and, Bool.and_false, Bool.or_true, Bool.true_or, Bool.or_false, Bool.false_or, Bool.not_true, Bool.not_false])), trivial⟩
        ·refine W_move rfl rfl rfl ?_
         refine W_bin rfl rfl rfl rfl rfl ?_
         refine W_pick rfl rfl rfl rfl ?_
         refine W_move rfl rfl rfl ?_
         cases hb166 : (decide (r141.2 = 0))
         ·refine W_no rfl rfl rfl ?_
          refine W_no rfl rfl rfl ?_
          refine W_pick rfl rfl rfl rfl ?_
          refine W_move rfl rfl rfl ?_
          refine W_no rfl rfl rfl ?_
          refine W_no rfl rfl rfl ?_
          refine W_pick rfl rfl rfl rfl ?_
          refine W_move rfl rfl rfl ?_
          refine W_no rfl rfl rfl ?_
          refine W_no rfl rfl rfl ?_
          refine W_no rfl rfl rfl ?_
          refine W_pick rfl rfl rfl rfl ?_
          refine W_move rfl rfl rfl ?_
          refine W_no rfl rfl rfl ?_
          refine W_no rfl rfl rfl ?_
          refine W_no rfl rfl rfl ?_
          refine W_pick rfl rfl rfl rfl ?_
          refine W_move rfl rfl rfl ?_
          refine W_no rfl rfl rfl ?_
          refine W_no rfl rfl rfl ?_
          refine W_pick rfl rfl rfl rfl ?_
          refine W_move rfl rfl rfl ?_
          refine W_no rfl rfl rfl ?_
          refine W_no rfl rfl rfl ?_
          refine W_pick rfl rfl rfl rfl ?_
          refine W_assign rfl rfl rfl ?_
          refine W_end ?_
          exact E_keepJ (J161 _ _ _ ⟨rfl, rfl, rfl⟩) (List.Perm.refl _) ⟨(by show some (Value.bool (false)) = some (Value.bool ((((((((((r159 && (decide (r125.2 = 0))) && (decide (r129.2 = 0))) && (decide (r135.2 = 0))) && (decide (r141.2 = 0))) && (decide (r143.2 = 0))) && (decide (r145.2 = 0))) && (decide (r115.1 = r135.1))) && (decide (r117.1 = r141.1))) && (decide (0 ≤ r143.1))) && (decide (r145.1 ≤ 0)))); first | (simp only [hb107, hb122, hb162, hb163, hb164, hb165, hb166, Bool.and_true, Bool.true_and, Bool.false_and, Bool.and_false, Bool.or_true, Bool.true_or, Bool.or_false, Bool.false_or, Bool.not_true, Bool.not_false]; done) | (simp only [hb107, hb122, hb162, hb163, hb164, hb165, hb166]; first | done | simp only [Bool.and_true, Bool.true_and, Bool.false_and, Bool.and_false, Bool.or_true, Bool.true_or, Bool.or_false, Bool.false_or, Bool.not_true, Bool.not_false])), trivial⟩
         ·refine W_move rfl rfl rfl ?_
          refine W_bin rfl rfl rfl rfl rfl ?_
          refine W_pick rfl rfl rfl rfl ?_
          refine W_move rfl rfl rfl ?_
          cases hb167 : (decide (r143.2 = 0))
          ·refine W_no rfl rfl rfl ?_
           refine W_no rfl rfl rfl ?_
           refine W_pick rfl rfl rfl rfl ?_
           refine W_move rfl rfl rfl ?_
           refine W_no rfl rfl rfl ?_
           refine W_no rfl rfl rfl ?_
           refine W_no rfl rfl rfl ?_
           refine W_pick rfl rfl rfl rfl ?_
           refine W_move rfl rfl rfl ?_
           refine W_no rfl rfl rfl ?_
           refine W_no rfl rfl rfl ?_
           refine W_no rfl rfl rfl ?_
           refine W_pick rfl rfl rfl rfl ?_
           refine W_move rfl rfl rfl ?_
           refine W_no rfl rfl rfl ?_
           refine W_no rfl rfl rfl ?_
           refine W_pick rfl rfl rfl rfl ?_
           refine W_move rfl rfl rfl ?_
           refine W_no rfl rfl rfl ?_
           refine W_no rfl rfl rfl ?_
           refine W_pick rfl rfl rfl rfl ?_
           refine W_assign rfl rfl rfl ?_
           refine W_end ?_
           exact E_keepJ (J161 _ _ _ ⟨rfl, rfl, rfl⟩) (List.Perm.refl _) ⟨(by show some (Value.bool (false)) = some (Value.bool ((((((((((r159 && (decide (r125.2 = 0))) && (decide (r129.2 = 0))) && (decide (r135.2 = 0))) && (decide (r141.2 = 0))) && (decide (r143.2 = 0))) && (decide (r145.2 = 0))) && (decide (r115.1 = r135.1))) && (decide (r117.1 = r141.1))) && (decide (0 ≤ r143.1))) && (decide (r145.1 ≤ 0)))); first | (simp only [hb107, hb122, hb162, hb163, hb164, hb165, hb166, hb167, Bool.and_true, Bool.true_and, Bool.false_and, Bool.and_false, Bool.or_true, Bool.true_or, Bool.or_false, Bool.false_or, Bool.not_true, Bool.not_false]; done) | (simp only [hb107, hb122, hb162, hb163, hb164, hb165, hb166, hb167]; first | done | simp only [Bool.and_true, Bool.true_and, Bool.false_and, Bool.and_false, Bool.or_true, Bool.true_or, Bool.or_false, Bool.false_or, Bool.not_true, Bool.not_false])), trivial⟩
          ·refine W_move rfl rfl rfl ?_
           refine W_bin rfl rfl rfl rfl rfl ?_
           refine W_pick rfl rfl rfl rfl ?_
           refine W_move rfl rfl rfl ?_
           cases hb168 : (decide (r145.2 = 0))
           ·refine W_no rfl rfl rfl ?_
            refine W_no rfl rfl rfl ?_
            refine W_no rfl rfl rfl ?_
            refine W_pick rfl rfl rfl rfl ?_
            refine W_move rfl rfl rfl ?_
            refine W_no rfl rfl rfl ?_
            refine W_no rfl rfl rfl ?_
            refine W_no rfl rfl rfl ?_
            refine W_pick rfl rfl rfl rfl ?_
            refine W_move rfl rfl rfl ?_
            refine W_no rfl rfl rfl ?_
            refine W_no rfl rfl rfl ?_
            refine W_pick rfl rfl rfl rfl ?_
            refine W_move rfl rfl rfl ?_
            refine W_no rfl rfl rfl ?_
            refine W_no rfl rfl rfl ?_
            refine W_pick rfl rfl rfl rfl ?_
            refine W_assign rfl rfl rfl ?_
            refine W_end ?_
            exact E_keepJ (J161 _ _ _ ⟨rfl, rfl, rfl⟩) (List.Perm.refl _) ⟨(by show some (Value.bool (false)) = some (Value.bool ((((((((((r159 && (decide (r125.2 = 0))) && (decide (r129.2 = 0))) && (decide (r135.2 = 0))) && (decide (r141.2 = 0))) && (decide (r143.2 = 0))) && (decide (r145.2 = 0))) && (decide (r115.1 = r135.1))) && (decide (r117.1 = r141.1))) && (decide (0 ≤ r143.1))) && (decide (r145.1 ≤ 0)))); first | (simp only [hb107, hb122, hb162, hb163, hb164, hb165, hb166, hb167, hb168, Bool.and_true, Bool.true_and, Bool.false_and, Bool.and_false, Bool.or_true, Bool.true_or, Bool.or_false, Bool.false_or, Bool.not_true, Bool.not_false]; done) | (simp only [hb107, hb122, hb162, hb163, hb164, hb165, hb166, hb167, hb168]; first | done | simp only [Bool.and_true, Bool.true_and, Bool.false_and, Bool.and_false, Bool.or_true, Bool.true_or, Bool.or_false, Bool.false_or, Bool.not_true, Bool.not_false])), trivial⟩
           ·refine W_move rfl rfl rfl ?_
            refine W_move rfl rfl rfl ?_
            refine W_bin rfl rfl rfl rfl rfl ?_
            refine W_pick rfl rfl rfl rfl ?_
            refine W_move rfl rfl rfl ?_
            cases hb169 : (decide (r115.1 = r135.1))
            ·refine W_no rfl rfl rfl ?_
             refine W_no rfl rfl rfl ?_
             refine W_no rfl rfl rfl ?_
             refine W_pick rfl rfl rfl rfl ?_
             refine W_move rfl rfl rfl ?_
             refine W_no rfl rfl rfl ?_
             refine W_no rfl rfl rfl ?_
             refine W_pick rfl rfl rfl rfl ?_
             refine W_move rfl rfl rfl ?_
             refine W_no rfl rfl rfl ?_
             refine W_no rfl rfl rfl ?_
             refine W_pick rfl rfl rfl rfl ?_
             refine W_assign rfl rfl rfl ?_
             refine W_end ?_
             exact E_keepJ (J161 _ _ _ ⟨rfl, rfl, rfl⟩) (List.Perm.refl _) ⟨(by show some (Value.bool (false)) = some (Value.bool ((((((((((r159 && (decide (r125.2 = 0))) && (decide (r129.2 = 0))) && (decide (r135.2 = 0))) && (decide (r141.2 = 0))) && (decide (r143.2 = 0))) && (decide (r145.2 = 0))) && (decide (r115.1 = r135.1))) && (decide (r117.1 = r141.1))) && (decide (0 ≤ r143.1))) && (decide (r145.1 ≤ 0)))); first | (simp only [hb107, hb122, hb162, hb163, hb164, hb165, hb166, hb167, hb168, hb169, Bool.and_true, Bool.true_and, Bool.false_and, Bool.and_false, Bool.or_true, Bool.true_or, Bool.or_false, Bool.false_or, Bool.not_true, Bool.not_false]; done) | (simp only [hb107, hb122, hb162, hb163, hb164, hb165, hb166, hb167, hb168, hb169]; first | done | simp only [Bool.and_true, Bool.true_and, Bool.false_and, Bool.and_false, Bool.or_true, Bool.true_or, Bool.or_false, Bool.false_or, Bool.not_true, Bool.not_false])), trivial⟩
            ·refine W_move rfl rfl rfl ?_
             refine W_move rfl rfl rfl ?_
             refine W_bin rfl rfl rfl rfl rfl ?_
             refine W_pick rfl rfl rfl rfl ?_
             refine W_move rfl rfl rfl ?_
             cases hb170 : (decide (r117.1 = r141.1))
             ·refine W_no rfl rfl rfl ?_
              refine W_no rfl rfl rfl ?_
              refine W_pick rfl rfl rfl rfl ?_
              refine W_move rfl rfl rfl ?_
              refine W_no rfl rfl rfl ?_
              refine W_no rfl rfl rfl ?_
              refine W_pick rfl rfl rfl rfl ?_
              refine W_assign rfl rfl rfl ?_
              refine W_end ?_
              exact E_keepJ (J161 _ _ _ ⟨rfl, rfl, rfl⟩) (List.Perm.refl _) ⟨(by show some (Value.bool (false)) = some (Value.bool ((((((((((r159 && (decide (r125.2 = 0))) && (decide (r129.2 = 0))) && (decide (r135.2 = 0))) && (decide (r141.2 = 0))) && (decide (r143.2 = 0))) && (decide (r145.2 = 0))) && (decide (r115.1 = r135.1))) && (decide (r117.1 = r141.1))) && (decide (0 ≤ r143.1))) && (decide (r145.1 ≤ 0)))); first | (simp only [hb107, hb122, hb162, hb163, hb164, hb165, hb166, hb167, hb168, hb169, hb170, Bool.and_true, Bool.true_and, Bool.false_and, Bool.and_false, Bool.or_true, Bool.true_or, Bool.or_false, Bool.false_or, Bool.not_true, Bool.not_false]; done) | (simp only [hb107, hb122, hb162, hb163, hb164, hb165, hb166, hb167, hb168, hb169, hb170]; first | done | simp only [Bool.and_true, Bool.true_and, Bool.false_and, Bool.and_false, Bool.or_true, Bool.true_or, Bool.or_false, Bool.false_or, Bool.not_true, Bool.not_false])), trivial⟩
             ·refine W_move rfl rfl rfl ?_
              refine W_bin rfl rfl rfl rfl rfl ?_
              refine W_pick rfl rfl rfl rfl ?_
              refine W_move rfl rfl rfl ?_
              cases hb171 : (decide (0 ≤ r143.1))
              ·refine W_no rfl rfl rfl ?_
               refine W_no rfl rfl rfl ?_
               refine W_pick rfl rfl rfl rfl ?_
               refine W_assign rfl rfl rfl ?_
               refine W_end ?_
               exact E_keepJ (J161 _ _ _ ⟨rfl, rfl, rfl⟩) (List.Perm.refl _) ⟨(by show some (Value.bool (false)) = some (Value.bool ((((((((((r159 && (decide (r125.2 = 0))) && (decide (r129.2 = 0))) && (decide (r135.2 = 0))) && (decide (r141.2 = 0))) && (decide (r143.2 = 0))) && (decide (r145.2 = 0))) && (decide (r115.1 = r135.1))) && (decide (r117.1 = r141.1))) && (decide (0 ≤ r143.1))) && (decide (r145.1 ≤ 0)))); first | (simp only [hb107, hb122, hb162, hb163, hb164, hb165, hb166, hb167, hb168, hb169, hb170, hb171, Bool.and_true, Bool.true_and, Bool.false_and, Bool.and_false, Bool.or_true, Bool.true_or, Bool.or_false, Bool.false_or, Bool.not_true, Bool.not_false]; done) | (simp only [hb107, hb122, hb162, hb163, hb164, hb165, hb166, hb167, hb168, hb169, hb170, hb171]; first | done | simp only [Bool.and_true, Bool.true_and, Bool.false_and, Bool.and_false, Bool.or_true, Bool.true_or, Bool.or_false, Bool.false_or, Bool.not_true, Bool.not_false])), trivial⟩
              ·refine W_move rfl rfl rfl ?_
               refine W_bin rfl rfl rfl rfl rfl ?_
               refine W_pick rfl rfl rfl rfl ?_
               refine W_assign rfl rfl rfl ?_
               refine W_end ?_
               exact E_keepJ (J161 _ _ _ ⟨rfl, rfl, rfl⟩) (List.Perm.refl _) ⟨(by show some (Value.bool (decide (r145.1 ≤ 0))) = some (Value.bool ((((((((((r159 && (decide (r125.2 = 0))) && (decide (r129.2 = 0))) && (decide (r135.2 = 0))) && (decide (r141.2 = 0))) && (decide (r143.2 = 0))) && (decide (r145.2 = 0))) && (decide (r115.1 = r135.1))) && (decide (r117.1 = r141.1))) && (decide (0 ≤ r143.1))) && (decide (r145.1 ≤ 0)))); first | (simp only [hb107, hb122, hb162, hb163, hb164, hb165, hb166, hb167, hb168, hb169, hb170, hb171, Bool.and_true, Bool.true_and, Bool.false_and, Bool.and_false, Bool.or_true, Bool.true_or, Bool.or_false, Bool.false_or, Bool.not_true, Bool.not_false]; done) | (simp only [hb107, hb122, hb162, hb163, hb164, hb165, hb166, hb167, hb168, hb169, hb170, hb171]; first | done | simp only [Bool.and_true, Bool.true_and, Bool.false_and, Bool.and_false, Bool.or_true, Bool.true_or, Bool.or_false, Bool.false_or, Bool.not_true, Bool.not_false])), trivial⟩
  ·refine C_region ?_
   refine W_move rfl rfl rfl ?_
   refine W_bin rfl rfl rfl rfl rfl ?_
   refine W_move rfl rfl rfl ?_
   cases hb172 : (decide (r115.2 = 0))
   ·refine W_no rfl rfl rfl ?_
    refine W_no rfl rfl rfl ?_
    refine W_pick rfl rfl rfl rfl ?_
    refine W_move rfl rfl rfl ?_
    refine W_no rfl rfl rfl ?_
    refine W_no rfl rfl rfl ?_
    refine W_no rfl rfl rfl ?_
    refine W_pick rfl rfl rfl rfl ?_
    refine W_end ?_
    exact E_keepJ (J121 _ _ _ ⟨rfl, rfl, rfl⟩) (List.Perm.refl _) ⟨rfl, rfl, rfl, rfl, (by show some (Value.bool (true)) = some (Value.bool (((!decide (r115.2 = 0)) || (!decide (r117.2 = 0))) || (decide (((slc p0_l 0 ((min (p0_l.length : Int) 20 : Int).toNat)).length : Int) = 0)))); first | (simp only [hb107, hb172, Bool.and_true, Bool.true_and, Bool.false_and, Bool.and_false, Bool.or_true, Bool.true_or, Bool.or_false, Bool.false_or, Bool.not_true, Bool.not_false]; done) | (simp only [hb107, hb172]; first | done | simp only [Bool.and_true, Bool.true_and, Bool.false_and, Bool.and_false, Bool.or_true, Bool.true_or, Bool.or_false, Bool.false_or, Bool.not_true, Bool.not_false])), trivial⟩
   ·refine W_move rfl rfl rfl ?_
    refine W_bin rfl rfl rfl rfl rfl ?_
    refine W_pick rfl rfl rfl rfl ?_
    refine W_move rfl rfl rfl ?_
    cases hb173 : (decide (r117.2 = 0))
    ·refine W_no rfl rfl rfl ?_
     refine W_no rfl rfl rfl ?_
     refine W_no rfl rfl rfl ?_
     refine W_pick rfl rfl rfl rfl ?_
     refine W_end ?_
     exact E_keepJ (J121 _ _ _ ⟨rfl, rfl, rfl⟩) (List.Perm.refl _) ⟨rfl, rfl, rfl, rfl, (by show some (Value.bool (true)) = some (Value.bool (((!decide (r115.2 = 0)) || (!decide (r117.2 = 0))) || (decide (((slc p0_l 0 ((min (p0_l.length : Int) 20 : Int).toNat)).length : Int) = 0)))); first | (simp only [hb107, hb172, hb173, Bool.and_true, Bool.true_and, Bool.false_and, Bool.and_false, Bool.or_true, Bool.true_or, Bool.or_false, Bool.false_or, Bool.not_true, Bool.not_false]; done) | (simp only [hb107, hb172, hb173]; first | done | simp only [Bool.and_true, Bool.true_and, Bool.false_and, Bool.and_false, Bool.or_true, Bool.true_or, Bool.or_false, Bool.false_or, Bool.not_true, Bool.not_false])), trivial⟩
    ·refine W_move rfl rfl rfl ?_
     refine W_lenR rfl rfl runUnderlying22 rfl h103 ?_
     refine W_bin rfl rfl rfl rfl rfl ?_
     refine W_pick rfl rfl rfl rfl ?_
     refine W_end ?_
     exact E_keepJ (J121 _ _ _ ⟨rfl, rfl, rfl⟩) (List.Perm.refl _) ⟨rfl, rfl, rfl, rfl, (by show some (Value.bool (decide (((slc p0_l 0 ((min (p0_l.length : Int) 20 : Int).toNat)).length : Int) = 0))) = some (Value.bool (((!decide (r115.2 = 0)) || (!decide (r117.2 = 0))) || (decide (((slc p0_l 0 ((min (p0_l.length : Int) 20 : Int).toNat)).length : Int) = 0)))); first | (simp only [hb107, hb172, hb173, Bool.and_true, Bool.true_and, Bool.false_and, Bool.and_false, Bool.or_true, Bool.true_or, Bool.or_false, Bool.false_or, Bool.not_true, Bool.not_false]; done) | (simp only [hb107, hb172, hb173]; first | done | simp only [Bool.and_true, Bool.true_and, Bool.false_and, Bool.and_false, Bool.or_true, Bool.true_or, Bool.or_false, Bool.false_or, Bool.not_true, Bool.not_false])), trivial⟩
end Go.Sim
