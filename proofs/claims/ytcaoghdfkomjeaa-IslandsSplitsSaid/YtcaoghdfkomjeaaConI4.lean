/-
  Printed by a program: each Go function computes its model.
-/
import Derived.Test.YtcaoghdfkomjeaaConI3
namespace Go.Sim
open Go
set_option linter.unusedVariables false
set_option linter.unusedSimpArgs false
set_option maxRecDepth 100000
theorem delete48_c {B : Nat} {w0 w : World} {H : Hp} {M : List Res} {l : List S_api_Load} {v0 : Value} {xs : List Value} {i j : Int} (h0 : Rw H v0 xs l) (hz : 0 ≤ i ∧ i < j ∧ j ≤ (l.length : Int)) (ht : St B w0 H (.row v0 43 (Rep.sz S_api_Load) l.length xs :: M) w) :
    Calls Proofs.Try.prog 48 [v0, .int .i64 i, .int .i64 j].toArray w (Ret B w0 fun H' M' v => H = H' ∧ ∃ (v' : Value) (xs' : List Value), .row v' 43 (Rep.sz S_api_Load) (l.take i.toNat ++ l.drop j.toNat).length xs' :: M = M' ∧ v' = v ∧ RwF v' xs' (l.take i.toNat ++ l.drop j.toNat)) := by
  obtain ⟨i, rfl⟩ : ∃ m : Nat, i = m := ⟨i.toNat, by omega⟩
  obtain ⟨j, rfl⟩ : ∃ m : Nat, j = m := ⟨j.toNat, by omega⟩
  have hij : i < j := by omega
  have hj : j ≤ l.length := by omega
  rw [Int.toNat_natCast, Int.toNat_natCast]
  refine enter Proofs.Try.func48 rfl rfl rfl ht ?_
  refine C_rowSome (by omega) (fun gb off cap hv hcap => ?_)
  subst hv
  refine C_seq ?_
  refine C_region ?_
  refine W_assign rfl rfl rfl ?_
  refine W_end (E_then ?_)
  refine C_seq ?_
  refine C_region ?_
  refine W_move rfl rfl rfl ?_
  refine W_move rfl rfl rfl ?_
  refine W_move rfl rfl rfl ?_
  refine W_move rfl rfl rfl ?_
  refine W_lenS rfl rfl Proofs.Try.runUnderlying26 rfl ?_
  refine W_sliceV (m := l.length) (h := j) (l := i) rfl rfl Proofs.Try.runUnderlying26 Proofs.Try.sizeOf43 rfl (.inr ⟨_, rfl⟩) (.inr ⟨_, _, _, rfl, rfl, by omega, by omega, by omega⟩) (.inr ⟨_, _, _, rfl, rfl, by omega, by omega, by omega⟩) (.inr ⟨_, _, _, rfl, rfl, by omega, by omega, by omega⟩) rfl ?_
  refine W_end (E_then ?_)
  refine C_seq ?_
  refine C_seq ?_
  refine C_region ?_
  refine W_move rfl rfl rfl ?_
  refine W_move rfl rfl rfl ?_
  refine W_bin rfl rfl rfl rfl rfl ?_
  refine W_end (E_then ?_)
  refine C_cond (b := decide ((i : Int) = (j : Int))) rfl (fun hb => absurd (of_decide_eq_true hb) (by omega)) (fun _ => ?_)
  refine C_skip (E_then ?_)
  refine C_seq ?_
  refine C_region ?_
  refine W_move rfl rfl rfl ?_
  refine W_lenS rfl rfl Proofs.Try.runUnderlying26 rfl ?_
  refine W_assign rfl rfl rfl ?_
  refine W_end (E_then ?_)
  refine C_seq ?_
  refine C_region_tok0 6 (phiT [(fun H rs v => [] = rs ∧ .slice (some ⟨gb, off, none⟩) l.length cap = v), (fun H rs v => [] = rs ∧ .int .i64 (i : Int) = v), (fun H rs v => [] = rs ∧ .slice (some ⟨gb, off, none⟩) i cap = v), (fun H rs v => [] = rs ∧ .slice (some ⟨gb, off, none⟩) l.length cap = v), (fun H rs v => [] = rs ∧ .int .i64 (j : Int) = v), (fun H rs v => [] = rs ∧ .slice (some (if cap = j then ⟨gb, off, none⟩ else ⟨gb, off + j * Rep.sz S_api_Load, none⟩)) (l.length - j) (cap - j) = v)]) [[], [], [], [], [], []] [[], [], [], [], [], []] [] [0, 1, 2, 3, 4, 5] Facts.mixed (by kernel_rfl) rfl rfl rfl (by kernel_rfl) (phiT_mono ⟨eq_monoT _ _, eq_monoT _ _, eq_monoT _ _, eq_monoT _ _, eq_monoT _ _, eq_monoT _ _, trivial⟩) ⟨?_, ?_, ?_, ?_, ?_, ?_, trivial⟩ ?_
  · intro HX hX X Rest hR
    intro hU
    refine W_move rfl rfl rfl ?_
    exact W_end (OneT_end [] (Hp.le_refl _) ⟨rfl, rfl⟩)
  · intro HX hX X Rest hR
    intro hU
    refine W_move rfl rfl rfl ?_
    exact W_end (OneT_end [] (Hp.le_refl _) ⟨rfl, rfl⟩)
  · intro HX hX X Rest hR
    rintro _ _ ⟨rfl, rfl⟩
    rintro _ _ ⟨rfl, rfl⟩
    intro hU
    refine W_sliceV (m := cap) (h := i) (l := 0) rfl rfl Proofs.Try.runUnderlying26 Proofs.Try.sizeOf43 rfl (.inl rfl) (.inl ⟨rfl, rfl⟩) (.inr ⟨_, _, _, rfl, rfl, by omega, by omega, by omega⟩) (.inl ⟨rfl, rfl⟩) (by rw [if_neg (by omega), Nat.sub_zero, Nat.sub_zero, Option.map_some, Addr.add_lit, Nat.zero_mul, Nat.add_zero]) ?_
    exact W_end (OneT_end [] (Hp.le_refl _) ⟨rfl, rfl⟩)
  · intro HX hX X Rest hR
    intro hU
    refine W_move rfl rfl rfl ?_
    exact W_end (OneT_end [] (Hp.le_refl _) ⟨rfl, rfl⟩)
  · intro HX hX X Rest hR
    intro hU
    refine W_move rfl rfl rfl ?_
    exact W_end (OneT_end [] (Hp.le_refl _) ⟨rfl, rfl⟩)
  · intro HX hX X Rest hR
    rintro _ _ ⟨rfl, rfl⟩
    rintro _ _ ⟨rfl, rfl⟩
    intro hU
    refine W_sliceV (m := cap) (h := l.length) (l := j) rfl rfl Proofs.Try.runUnderlying26 Proofs.Try.sizeOf43 rfl (.inl rfl) (.inl ⟨rfl, rfl⟩) (.inl ⟨rfl, rfl⟩) (.inr ⟨_, _, _, rfl, rfl, by omega, by omega, by omega⟩) (v' := .slice (some (if cap = j then ⟨gb, off, none⟩ else ⟨gb, off + j * Rep.sz S_api_Load, none⟩)) (l.length - j) (cap - j)) (by
      by_cases h : cap = j
      · rw [if_pos h, if_pos h]
      · rw [if_neg h, if_neg h, Option.map_some, Addr.add_lit] <;> rfl) ?_
    exact W_end (OneT_end [] (Hp.le_refl _) ⟨rfl, rfl⟩)
  intro H1 hle1
  rintro _ _ ⟨rfl, rfl⟩
  rintro _ _ ⟨rfl, rfl⟩
  rintro _ _ ⟨rfl, rfl⟩
  rintro _ _ ⟨rfl, rfl⟩
  rintro _ _ ⟨rfl, rfl⟩
  rintro _ _ ⟨rfl, rfl⟩
  refine W_appendDel (α := S_api_Load) (l := l) (i := i) (j := j) (bytes := 40) rfl rfl Proofs.Try.underlying26 ⟨_, rfl, rfl, rfl, rfl⟩ rfl rfl h0 hij hj rfl rfl (fun h => if_neg (by omega)) ?_
  intro gb2 off2 xs2 h2 hcap2
  have hln : (l.take i ++ l.drop j).length = i + (l.length - j) := by simp; omega
  refine W_assign rfl rfl rfl ?_
  refine W_end (E_then ?_)
  refine C_seq ?_
  refine C_region ?_
  refine W_move rfl rfl rfl ?_
  refine W_move rfl rfl rfl ?_
  refine W_lenS rfl rfl Proofs.Try.runUnderlying26 rfl ?_
  refine W_move rfl rfl rfl ?_
  refine W_sliceV (m := cap) (h := l.length) (l := (l.take i ++ l.drop j).length) rfl rfl Proofs.Try.runUnderlying26 Proofs.Try.sizeOf43 rfl (.inl rfl) (.inl ⟨rfl, rfl⟩) (.inr ⟨_, _, _, rfl, rfl, by omega, by omega, by omega⟩) (.inr ⟨_, _, _, rfl, rfl, by omega, by omega, by omega⟩) (by rw [if_neg (by omega), Option.map_some, Addr.add_lit]) ?_
  refine W_clearTail (sz := Rep.sz S_api_Load) (n2 := l.length - (l.take i ++ l.drop j).length) rfl Proofs.Try.underlying26 Proofs.Try.zeroValue43 rfl rfl rfl rfl rfl (by omega) ?_
  refine W_end (E_then ?_)
  refine C_seq ?_
  refine C_region ?_
  refine W_move rfl rfl rfl ?_
  refine W_assign rfl rfl rfl ?_
  refine W_end (E_then ?_)
  refine C_ret ?_
  refine E_weak hle1 ?_
  exact end1 rfl rfl ⟨rfl, _, xs2, rfl, rfl, h2.toF⟩

theorem delete49_c {B : Nat} {w0 w : World} {H : Hp} {M : List Res} {l : List S_api_Store} {v0 : Value} {xs : List Value} {i j : Int} (h0 : Rw H v0 xs l) (hz : 0 ≤ i ∧ i < j ∧ j ≤ (l.length : Int)) (ht : St B w0 H (.row v0 103 (Rep.sz S_api_Store) l.length xs :: M) w) :
    Calls Proofs.Try.prog 49 [v0, .int .i64 i, .int .i64 j].toArray w (Ret B w0 fun H' M' v => H = H' ∧ ∃ (v' : Value) (xs' : List Value), .row v' 103 (Rep.sz S_api_Store) (l.take i.toNat ++ l.drop j.toNat).length xs' :: M = M' ∧ v' = v ∧ RwF v' xs' (l.take i.toNat ++ l.drop j.toNat)) := by
  obtain ⟨i, rfl⟩ : ∃ m : Nat, i = m := ⟨i.toNat, by omega⟩
  obtain ⟨j, rfl⟩ : ∃ m : Nat, j = m := ⟨j.toNat, by omega⟩
  have hij : i < j := by omega
  have hj : j ≤ l.length := by omega
  rw [Int.toNat_natCast, Int.toNat_natCast]
  refine enter Proofs.Try.func49 rfl rfl rfl ht ?_
  refine C_rowSome (by omega) (fun gb off cap hv hcap => ?_)
  subst hv
  refine C_seq ?_
  refine C_region ?_
  refine W_assign rfl rfl rfl ?_
  refine W_end (E_then ?_)
  refine C_seq ?_
  refine C_region ?_
  refine W_move rfl rfl rfl ?_
  refine W_move rfl rfl rfl ?_
  refine W_move rfl rfl rfl ?_
  refine W_move rfl rfl rfl ?_
  refine W_lenS rfl rfl Proofs.Try.runUnderlying27 rfl ?_
  refine W_sliceV (m := l.length) (h := j) (l := i) rfl rfl Proofs.Try.runUnderlying27 Proofs.Try.sizeOf103 rfl (.inr ⟨_, rfl⟩) (.inr ⟨_, _, _, rfl, rfl, by omega, by omega, by omega⟩) (.inr ⟨_, _, _, rfl, rfl, by omega, by omega, by omega⟩) (.inr ⟨_, _, _, rfl, rfl, by omega, by omega, by omega⟩) rfl ?_
  refine W_end (E_then ?_)
  refine C_seq ?_
  refine C_seq ?_
  refine C_region ?_
  refine W_move rfl rfl rfl ?_
  refine W_move rfl rfl rfl ?_
  refine W_bin rfl rfl rfl rfl rfl ?_
  refine W_end (E_then ?_)
  refine C_cond (b := decide ((i : Int) = (j : Int))) rfl (fun hb => absurd (of_decide_eq_true hb) (by omega)) (fun _ => ?_)
  refine C_skip (E_then ?_)
  refine C_seq ?_
  refine C_region ?_
  refine W_move rfl rfl rfl ?_
  refine W_lenS rfl rfl Proofs.Try.runUnderlying27 rfl ?_
  refine W_assign rfl rfl rfl ?_
  refine W_end (E_then ?_)
  refine C_seq ?_
  refine C_region_tok0 6 (phiT [(fun H rs v => [] = rs ∧ .slice (some ⟨gb, off, none⟩) l.length cap = v), (fun H rs v => [] = rs ∧ .int .i64 (i : Int) = v), (fun H rs v => [] = rs ∧ .slice (some ⟨gb, off, none⟩) i cap = v), (fun H rs v => [] = rs ∧ .slice (some ⟨gb, off, none⟩) l.length cap = v), (fun H rs v => [] = rs ∧ .int .i64 (j : Int) = v), (fun H rs v => [] = rs ∧ .slice (some (if cap = j then ⟨gb, off, none⟩ else ⟨gb, off + j * Rep.sz S_api_Store, none⟩)) (l.length - j) (cap - j) = v)]) [[], [], [], [], [], []] [[], [], [], [], [], []] [] [0, 1, 2, 3, 4, 5] Facts.mixed (by kernel_rfl) rfl rfl rfl (by kernel_rfl) (phiT_mono ⟨eq_monoT _ _, eq_monoT _ _, eq_monoT _ _, eq_monoT _ _, eq_monoT _ _, eq_monoT _ _, trivial⟩) ⟨?_, ?_, ?_, ?_, ?_, ?_, trivial⟩ ?_
  · intro HX hX X Rest hR
    intro hU
    refine W_move rfl rfl rfl ?_
    exact W_end (OneT_end [] (Hp.le_refl _) ⟨rfl, rfl⟩)
  · intro HX hX X Rest hR
    intro hU
    refine W_move rfl rfl rfl ?_
    exact W_end (OneT_end [] (Hp.le_refl _) ⟨rfl, rfl⟩)
  · intro HX hX X Rest hR
    rintro _ _ ⟨rfl, rfl⟩
    rintro _ _ ⟨rfl, rfl⟩
    intro hU
    refine W_sliceV (m := cap) (h := i) (l := 0) rfl rfl Proofs.Try.runUnderlying27 Proofs.Try.sizeOf103 rfl (.inl rfl) (.inl ⟨rfl, rfl⟩) (.inr ⟨_, _, _, rfl, rfl, by omega, by omega, by omega⟩) (.inl ⟨rfl, rfl⟩) (by rw [if_neg (by omega), Nat.sub_zero, Nat.sub_zero, Option.map_some, Addr.add_lit, Nat.zero_mul, Nat.add_zero]) ?_
    exact W_end (OneT_end [] (Hp.le_refl _) ⟨rfl, rfl⟩)
  · intro HX hX X Rest hR
    intro hU
    refine W_move rfl rfl rfl ?_
    exact W_end (OneT_end [] (Hp.le_refl _) ⟨rfl, rfl⟩)
  · intro HX hX X Rest hR
    intro hU
    refine W_move rfl rfl rfl ?_
    exact W_end (OneT_end [] (Hp.le_refl _) ⟨rfl, rfl⟩)
  · intro HX hX X Rest hR
    rintro _ _ ⟨rfl, rfl⟩
    rintro _ _ ⟨rfl, rfl⟩
    intro hU
    refine W_sliceV (m := cap) (h := l.length) (l := j) rfl rfl Proofs.Try.runUnderlying27 Proofs.Try.sizeOf103 rfl (.inl rfl) (.inl ⟨rfl, rfl⟩) (.inl ⟨rfl, rfl⟩) (.inr ⟨_, _, _, rfl, rfl, by omega, by omega, by omega⟩) (v' := .slice (some (if cap = j then ⟨gb, off, none⟩ else ⟨gb, off + j * Rep.sz S_api_Store, none⟩)) (l.length - j) (cap - j)) (by
      by_cases h : cap = j
      · rw [if_pos h, if_pos h]
      · rw [if_neg h, if_neg h, Option.map_some, Addr.add_lit] <;> rfl) ?_
    exact W_end (OneT_end [] (Hp.le_refl _) ⟨rfl, rfl⟩)
  intro H1 hle1
  rintro _ _ ⟨rfl, rfl⟩
  rintro _ _ ⟨rfl, rfl⟩
  rintro _ _ ⟨rfl, rfl⟩
  rintro _ _ ⟨rfl, rfl⟩
  rintro _ _ ⟨rfl, rfl⟩
  rintro _ _ ⟨rfl, rfl⟩
  refine W_appendDel (α := S_api_Store) (l := l) (i := i) (j := j) (bytes := 56) rfl rfl Proofs.Try.underlying27 ⟨_, rfl, rfl, rfl, rfl⟩ rfl rfl h0 hij hj rfl rfl (fun h => if_neg (by omega)) ?_
  intro gb2 off2 xs2 h2 hcap2
  have hln : (l.take i ++ l.drop j).length = i + (l.length - j) := by simp; omega
  refine W_assign rfl rfl rfl ?_
  refine W_end (E_then ?_)
  refine C_seq ?_
  refine C_region ?_
  refine W_move rfl rfl rfl ?_
  refine W_move rfl rfl rfl ?_
  refine W_lenS rfl rfl Proofs.Try.runUnderlying27 rfl ?_
  refine W_move rfl rfl rfl ?_
  refine W_sliceV (m := cap) (h := l.length) (l := (l.take i ++ l.drop j).length) rfl rfl Proofs.Try.runUnderlying27 Proofs.Try.sizeOf103 rfl (.inl rfl) (.inl ⟨rfl, rfl⟩) (.inr ⟨_, _, _, rfl, rfl, by omega, by omega, by omega⟩) (.inr ⟨_, _, _, rfl, rfl, by omega, by omega, by omega⟩) (by rw [if_neg (by omega), Option.map_some, Addr.add_lit]) ?_
  refine W_clearTail (sz := Rep.sz S_api_Store) (n2 := l.length - (l.take i ++ l.drop j).length) rfl Proofs.Try.underlying27 Proofs.Try.zeroValue103 rfl rfl rfl rfl rfl (by omega) ?_
  refine W_end (E_then ?_)
  refine C_seq ?_
  refine C_region ?_
  refine W_move rfl rfl rfl ?_
  refine W_assign rfl rfl rfl ?_
  refine W_end (E_then ?_)
  refine C_ret ?_
  refine E_weak hle1 ?_
  exact end1 rfl rfl ⟨rfl, _, xs2, rfl, rfl, h2.toF⟩

theorem m_netmodel_Without_c {B : Nat} {w0 w : World} {H : Hp} {M : List Res} {p0_n : S_api_Network} {name : ByteArray} {v0 : Value} {v1 : Value} {v2 : Value} {v3 : Value} {v4 : Value} {v5 : Value} {r : S_api_Network × Int} (hm : m_netmodel_Without p0_n name = some r) (h0 : RdS H v0 p0_n.Nodes) (h1 : RdS H v1 p0_n.Switches) (h2 : RdS H v2 p0_n.Branches) (h3 : RdS H v3 p0_n.Gens) (h4 : RdS H v4 p0_n.Loads) (h5 : RdS H v5 p0_n.Stores) (ht : St B w0 H (M) w) :
    Calls Proofs.Try.prog 16 [.agg [v0, v1, v2, v3, v4, v5].toArray, .string (name)].toArray w (Ret B w0 fun H' M' v => H.le H' ∧ ∃ qv0 : Value, ∃ qv1 : Value, ∃ qv2 : Value, ∃ qv3 : Value, ∃ qv4 : Value, ∃ qv5 : Value, M = M' ∧ .tuple #[.agg [qv0, qv1, qv2, qv3, qv4, qv5].toArray, .int .i64 (r.2)] = v ∧ RdS H' qv0 r.1.Nodes ∧ RdS H' qv1 r.1.Switches ∧ RdS H' qv2 r.1.Branches ∧ RdS H' qv3 r.1.Gens ∧ RdS H' qv4 r.1.Loads ∧ RdS H' qv5 r.1.Stores) := by
  unfold m_netmodel_Without at hm
  refine enter Proofs.Try.func16 rfl rfl rfl ht ?_
  refine C_seq ?_
  refine C_region ?_
  refine W_box (cs := [v0, v1, v2, v3, v4, v5]) rfl rfl rfl rfl (fun b101 => ?_)
  refine W_alloc (cs := [.slice none 0 0, .slice none 0 0, .slice none 0 0, .slice none 0 0, .slice none 0 0, .slice none 0 0]) rfl rfl Proofs.Try.zeroValue29 rfl (fun b102 => ?_)
  refine W_assign rfl rfl rfl ?_
  refine W_end ?_
  refine E_then ?_
  refine C_seq ?_
  refine C_region ?_
  refine W_loadAgg rfl rfl Proofs.Try.isAgg29 Proofs.Try.sizeOf29 rfl (own_all (List.mem_cons_of_mem _ (List.mem_cons_self ..))) rfl ?_
  refine W_move rfl rfl rfl ?_
  obtain ⟨r103, hc104, hm⟩ := bind_some hm
  refine W_call Proofs.Try.call42 rfl rfl rfl (fun w ht => by have h := m_netmodel_Find_c (hm := hc104) h0 h1 h2 h3 h4 h5 ht; exact h) ?_
  rintro _ _ _ ⟨rfl, rfl, rfl⟩
  refine W_move rfl rfl rfl ?_
  refine W_extract rfl rfl rfl rfl ?_
  refine W_extract rfl rfl rfl rfl ?_
  refine W_extract rfl rfl rfl rfl ?_
  refine W_assign rfl rfl rfl ?_
  refine W_assign rfl rfl rfl ?_
  refine W_assign rfl rfl rfl ?_
  refine W_end ?_
  refine E_then ?_
  refine C_seq ?_
  refine C_block ?_
  refine C_seq ?_
  refine C_region ?_
  refine W_move rfl rfl rfl ?_
  refine W_bin rfl rfl rfl rfl rfl ?_
  refine W_assign rfl rfl rfl ?_
  refine W_end ?_
  refine E_then ?_
  refine C_cond (b := !decide (r103.2.2 = 0)) rfl (fun hb105 => ?_) (fun hb105 => ?_)
  · have hm := ite_t' hb105 hm
    refine C_seq ?_
    refine C_region ?_
    refine W_build (css := []) (zs := [.slice none 0 0, .slice none 0 0, .slice none 0 0, .slice none 0 0, .slice none 0 0, .slice none 0 0]) (out := [.slice none 0 0, .slice none 0 0, .slice none 0 0, .slice none 0 0, .slice none 0 0, .slice none 0 0]) (places := [(0, 1), (1, 1), (2, 1), (3, 1), (4, 1), (5, 1)]) rfl rfl rfl trivial Proofs.Try.zeroValue29 rfl Proofs.Try.runUnderlying29 (fun w => by kernel_rfl) rfl ?_
    refine W_move rfl rfl rfl ?_
    refine W_store (cs := [.slice none 0 0, .slice none 0 0, .slice none 0 0, .slice none 0 0, .slice none 0 0, .slice none 0 0]) (out := [.slice none 0 0, .slice none 0 0, .slice none 0 0, .slice none 0 0, .slice none 0 0, .slice none 0 0]) rfl Proofs.Try.sizeOf29 rfl rfl rfl rfl rfl (all_cons rfl (all_cons rfl (all_cons rfl (all_cons rfl (all_cons rfl (all_cons rfl all_nil)))))) (over_all rfl) ?_
    refine W_assign rfl rfl rfl ?_
    refine W_end ?_
    refine E_then ?_
    refine C_ret ?_
    refine E_ret_block ?_
    refine E_ret_then ?_
    obtain rfl := Option.some.inj hm
    exact endC2 (Hp.le_refl _) rfl (ResV.agg rfl Proofs.Try.isAgg29 Proofs.Try.sizeOf29 (List.mem_cons_self ..) rfl) (ResV.tmp rfl) (List.Sublist.cons _ (List.Sublist.cons _ (List.Sublist.refl _))) (List.Perm.refl _) ⟨(Hp.le_refl _), (.slice none 0 0), (.slice none 0 0), (.slice none 0 0), (.slice none 0 0), (.slice none 0 0), (.slice none 0 0), rfl, rfl, RdS.nil, RdS.nil, RdS.nil, RdS.nil, RdS.nil, RdS.nil⟩
  · have hm := ite_f' hb105 hm
    refine C_seq ?_
    refine C_region ?_
    refine W_move rfl rfl rfl ?_
    refine W_bin rfl rfl rfl rfl rfl ?_
    refine W_assign rfl rfl rfl ?_
    refine W_end ?_
    refine E_then ?_
    refine C_cond (b := decide (r103.1 = (⟨#[110, 111, 100, 101]⟩))) rfl (fun hb106 => ?_) (fun hb106 => ?_)
    · have hm := ite_t' hb106 hm
      refine C_seq ?_
      refine C_region ?_
      refine W_build (css := []) (zs := [.slice none 0 0, .slice none 0 0, .slice none 0 0, .slice none 0 0, .slice none 0 0, .slice none 0 0]) (out := [.slice none 0 0, .slice none 0 0, .slice none 0 0, .slice none 0 0, .slice none 0 0, .slice none 0 0]) (places := [(0, 1), (1, 1), (2, 1), (3, 1), (4, 1), (5, 1)]) rfl rfl rfl trivial Proofs.Try.zeroValue29 rfl Proofs.Try.runUnderlying29 (fun w => by kernel_rfl) rfl ?_
      refine W_store (cs := [.slice none 0 0, .slice none 0 0, .slice none 0 0, .slice none 0 0, .slice none 0 0, .slice none 0 0]) (out := [.slice none 0 0, .slice none 0 0, .slice none 0 0, .slice none 0 0, .slice none 0 0, .slice none 0 0]) rfl Proofs.Try.sizeOf29 rfl rfl rfl rfl rfl (all_cons rfl (all_cons rfl (all_cons rfl (all_cons rfl (all_cons rfl (all_cons rfl all_nil)))))) (over_all rfl) ?_
      refine W_assign rfl rfl rfl ?_
      refine W_end ?_
      refine E_then ?_
      refine C_ret ?_
      refine E_ret_block ?_
      refine E_ret_then ?_
      obtain rfl := Option.some.inj hm
      exact endC2 (Hp.le_refl _) rfl (ResV.agg rfl Proofs.Try.isAgg29 Proofs.Try.sizeOf29 (List.mem_cons_self ..) rfl) (ResV.tmp rfl) (List.Sublist.cons _ (List.Sublist.cons _ (List.Sublist.refl _))) (List.Perm.refl _) ⟨(Hp.le_refl _), (.slice none 0 0), (.slice none 0 0), (.slice none 0 0), (.slice none 0 0), (.slice none 0 0), (.slice none 0 0), rfl, rfl, RdS.nil, RdS.nil, RdS.nil, RdS.nil, RdS.nil, RdS.nil⟩
    · have hm := ite_f' hb106 hm
      refine C_skip ?_
      refine E_normal_block ?_
      refine E_then ?_
      refine C_seq ?_
      refine C_region ?_
      refine W_loadAgg rfl rfl Proofs.Try.isAgg29 Proofs.Try.sizeOf29 rfl (own_all (List.mem_cons_of_mem _ (List.mem_cons_self ..))) rfl ?_
      obtain ⟨r107, hc108, hm⟩ := bind_some hm
      refine W_call Proofs.Try.call44 rfl rfl rfl (fun w ht => by have h := m_netmodel_Copy_c (hm := hc108) h0 h1 h2 h3 h4 h5 ht; exact h) ?_
      rintro _ _ _ ⟨rfl, v109, xs110, v112, xs113, v115, xs116, v118, xs119, v121, xs122, v124, xs125, rfl, rfl, h111, h114, h117, h120, h123, h126⟩
      have h111 := h111 H
      have h114 := h114 H
      have h117 := h117 H
      have h120 := h120 H
      have h123 := h123 H
      have h126 := h126 H
      refine W_alloc (cs := [.slice none 0 0, .slice none 0 0, .slice none 0 0, .slice none 0 0, .slice none 0 0, .slice none 0 0]) rfl rfl Proofs.Try.zeroValue29 rfl (fun b127 => ?_)
      refine W_store (cs := [v109, v112, v115, v118, v121, v124]) (out := [v109, v112, v115, v118, v121, v124]) rfl Proofs.Try.sizeOf29 rfl rfl rfl rfl rfl (all_cons (Rw.one h111) (all_cons (Rw.one h114) (all_cons (Rw.one h117) (all_cons (Rw.one h120) (all_cons (Rw.one h123) (all_cons (Rw.one h126) all_nil)))))) (over_all rfl) ?_
      refine W_end ?_
      refine E_then ?_
      refine C_seq_join (fun H' M' L' => ∃ l154 : List S_api_Switch, ∃ l158 : List S_api_Branch, ∃ l162 : List S_api_Gen, ∃ l166 : List S_api_Load, ∃ l170 : List S_api_Store, ∃ v152 : Value, ∃ xs153 : List Value, ∃ v156 : Value, ∃ xs157 : List Value, ∃ v160 : Value, ∃ xs161 : List Value, ∃ v164 : Value, ∃ xs165 : List Value, ∃ v168 : Value, ∃ xs169 : List Value, m_netmodel_Without_b1 r107 l154 l158 l162 l166 l170 = some r ∧ Rw H' v152 xs153 l154 ∧ Rw H' v156 xs157 l158 ∧ Rw H' v160 xs161 l162 ∧ Rw H' v164 xs165 l166 ∧ Rw H' v168 xs169 l170 ∧ H = H' ∧ .row v152 92 (Rep.sz S_api_Switch) l154.length xs153 :: .row v156 47 (Rep.sz S_api_Branch) l158.length xs157 :: .row v160 39 (Rep.sz S_api_Gen) l162.length xs161 :: .row v164 43 (Rep.sz S_api_Load) l166.length xs165 :: .row v168 103 (Rep.sz S_api_Store) l170.length xs169 :: .obj b127 (.cells [v109, v152, v156, v160, v164, v168].toArray 29 (0, 0)) :: .row v109 9 (Rep.sz ByteArray) r107.Nodes.length xs110 :: .obj b102 (.cells [.slice none 0 0, .slice none 0 0, .slice none 0 0, .slice none 0 0, .slice none 0 0, .slice none 0 0].toArray 29 (0, 0)) :: M = M' ∧ [(4, .pointer (some ⟨b102, 0, none⟩)), (9, .pointer (some ⟨b127, 0, none⟩))] = L') ?_ (fun J172 => ?_)
      · rintro _ _ _ ⟨l154, l158, l162, l166, l170, v152, xs153, v156, xs157, v160, xs161, v164, xs165, v168, xs169, hm, hr155, hr159, hr163, hr167, hr171, rfl, rfl, rfl⟩
        unfold m_netmodel_Without_b1 at hm
        refine C_seq ?_
        refine C_region ?_
        refine W_loadAgg rfl rfl Proofs.Try.isAgg29 Proofs.Try.sizeOf29 rfl (own_all (List.mem_cons_of_mem _ (List.mem_cons_of_mem _ (List.mem_cons_of_mem _ (List.mem_cons_of_mem _ (List.mem_cons_of_mem _ (List.mem_cons_self ..))))))) rfl ?_
        refine W_perm (List.Perm.trans (List.Perm.cons _ (List.Perm.cons _ (List.Perm.cons _ (List.Perm.cons _ (List.Perm.cons _ (List.Perm.cons _ (List.Perm.swap _ _ _))))))) (List.Perm.trans (List.Perm.cons _ (List.Perm.cons _ (List.Perm.cons _ (List.Perm.cons _ (List.Perm.cons _ (List.Perm.swap _ _ _)))))) (List.Perm.trans (List.Perm.cons _ (List.Perm.cons _ (List.Perm.cons _ (List.Perm.cons _ (List.Perm.swap _ _ _))))) (List.Perm.trans (List.Perm.cons _ (List.Perm.cons _ (List.Perm.cons _ (List.Perm.swap _ _ _)))) (List.Perm.trans (List.Perm.cons _ (List.Perm.cons _ (List.Perm.swap _ _ _))) (List.Perm.trans (List.Perm.cons _ (List.Perm.swap _ _ _)) (List.Perm.swap _ _ _))))))) ?_
        refine W_store (cs := [v109, v152, v156, v160, v164, v168]) (out := [v109, v152, v156, v160, v164, v168]) rfl Proofs.Try.sizeOf29 rfl rfl rfl rfl rfl (all_cons (Rw.one h111) (all_cons (Rw.one hr155) (all_cons (Rw.one hr159) (all_cons (Rw.one hr163) (all_cons (Rw.one hr167) (all_cons (Rw.one hr171) all_nil)))))) (over_all rfl) ?_
        refine W_assign rfl rfl rfl ?_
        refine W_end ?_
        refine E_then ?_
        refine C_ret ?_
        refine E_perm (List.Perm.trans (List.Perm.cons _ (List.Perm.cons _ (List.Perm.cons _ (List.Perm.cons _ (List.Perm.cons _ (List.Perm.cons _ (List.Perm.swap _ _ _))))))) (List.Perm.trans (List.Perm.cons _ (List.Perm.cons _ (List.Perm.cons _ (List.Perm.cons _ (List.Perm.cons _ (List.Perm.swap _ _ _)))))) (List.Perm.trans (List.Perm.cons _ (List.Perm.cons _ (List.Perm.cons _ (List.Perm.cons _ (List.Perm.swap _ _ _))))) (List.Perm.trans (List.Perm.cons _ (List.Perm.cons _ (List.Perm.cons _ (List.Perm.swap _ _ _)))) (List.Perm.trans (List.Perm.cons _ (List.Perm.cons _ (List.Perm.swap _ _ _))) (List.Perm.trans (List.Perm.cons _ (List.Perm.swap _ _ _)) (List.Perm.swap _ _ _))))))) ?_
        refine E_freeze (h111).rd rfl (fun H173 hle174 h175 => ?_)
        refine E_perm (List.Perm.swap _ _ _) ?_
        refine E_freeze ((hr155.mono hle174)).rd rfl (fun H176 hle177 h178 => ?_)
        refine E_perm (List.Perm.swap _ _ _) ?_
        refine E_freeze (((hr159.mono hle174).mono hle177)).rd rfl (fun H179 hle180 h181 => ?_)
        refine E_perm (List.Perm.swap _ _ _) ?_
        refine E_freeze ((((hr163.mono hle174).mono hle177).mono hle180)).rd rfl (fun H182 hle183 h184 => ?_)
        refine E_perm (List.Perm.swap _ _ _) ?_
        refine E_freeze (((((hr167.mono hle174).mono hle177).mono hle180).mono hle183)).rd rfl (fun H185 hle186 h187 => ?_)
        refine E_perm (List.Perm.swap _ _ _) ?_
        refine E_freeze ((((((hr171.mono hle174).mono hle177).mono hle180).mono hle183).mono hle186)).rd rfl (fun H188 hle189 h190 => ?_)
        obtain rfl := Option.some.inj hm
        exact endC2 (Hp.le_refl _) rfl (ResV.agg rfl Proofs.Try.isAgg29 Proofs.Try.sizeOf29 (List.mem_cons_self ..) rfl) (ResV.tmp rfl) (List.Sublist.cons _ (List.Sublist.cons _ (List.Sublist.refl _))) (List.Perm.refl _) ⟨(Hp.le_trans (Hp.le_trans (Hp.le_trans (Hp.le_trans (Hp.le_trans hle174 hle177) hle180) hle183) hle186) hle189), v109, v152, v156, v160, v164, v168, rfl, rfl, (((((h175.mono hle177).mono hle180).mono hle183).mono hle186).mono hle189), ((((h178.mono hle180).mono hle183).mono hle186).mono hle189), (((h181.mono hle183).mono hle186).mono hle189), ((h184.mono hle186).mono hle189), (h187.mono hle189), h190⟩
      · refine C_seq ?_
        refine C_region ?_
        refine W_move rfl rfl rfl ?_
        refine W_end ?_
        refine E_then ?_
        refine C_block ?_
        refine C_seq ?_
        refine C_region ?_
        refine W_bin rfl rfl rfl rfl rfl ?_
        refine W_assign rfl rfl rfl ?_
        refine W_end ?_
        refine E_then ?_
        refine C_cond (b := decide (r103.1 = (⟨#[115, 119, 105, 116, 99, 104]⟩))) rfl (fun hb191 => ?_) (fun hb191 => ?_)
        · have hm := ite_t' hb191 hm
          refine C_region ?_
          refine W_field (o := 1) rfl rfl Proofs.Try.runUnderlying29 rfl Proofs.Try.sizeOf23 rfl rfl rfl ?_
          refine W_load rfl rfl Proofs.Try.isAgg23 rfl (own_at (List.mem_cons_self ..) rfl) ?_
          refine W_move rfl rfl rfl ?_
          refine W_move rfl rfl rfl ?_
          refine W_bin rfl rfl rfl rfl rfl ?_
          obtain ⟨hz192, hm⟩ := need_some hm
          refine W_perm (List.Perm.trans (List.Perm.cons _ (List.Perm.swap _ _ _)) (List.Perm.swap _ _ _)) ?_
          refine W_call Proofs.Try.call45 rfl rfl rfl (fun w ht => by have h := delete45_c h114 hz192 ht; exact h) ?_
          rintro _ _ _ ⟨rfl, v193, xs194, rfl, rfl, hr195⟩
          have hr195 := hr195 H
          refine W_field (o := 1) rfl rfl Proofs.Try.runUnderlying29 rfl Proofs.Try.sizeOf23 rfl rfl rfl ?_
          refine W_perm (List.Perm.swap _ _ _) ?_
          refine W_store (cs := [v193]) (out := [v109, v193, v115, v118, v121, v124]) rfl Proofs.Try.sizeOf23 rfl rfl (Rw.cells hr195) rfl rfl (all_cons (Rw.one hr195) all_nil) rfl ?_
          refine W_end ?_
          refine E_normal_block ?_
          refine E_drop (List.Sublist.cons_cons _ (List.Sublist.cons_cons _ (List.Sublist.cons_cons _ (List.Sublist.cons_cons _ (List.Sublist.cons_cons _ (List.Sublist.cons_cons _ (List.Sublist.cons_cons _ (List.Sublist.cons_cons _ (List.Sublist.cons _ (List.Sublist.refl _)))))))))) ?_
          exact E_keepJ (J172 _ _ _ ⟨(r107.Switches.take (r103.2.1).toNat ++ r107.Switches.drop (IntKind.i64.wrap (r103.2.1 + 1)).toNat), r107.Branches, r107.Gens, r107.Loads, r107.Stores, v193, xs194, v115, xs116, v118, xs119, v121, xs122, v124, xs125, hm, hr195, h117, h120, h123, h126, rfl, rfl, rfl⟩) (List.Perm.trans (List.Perm.swap _ _ _) (List.Perm.trans (List.Perm.cons _ (List.Perm.cons _ (List.Perm.swap _ _ _))) (List.Perm.trans (List.Perm.cons _ (List.Perm.swap _ _ _)) (List.Perm.trans (List.Perm.cons _ (List.Perm.cons _ (List.Perm.cons _ (List.Perm.swap _ _ _)))) (List.Perm.trans (List.Perm.cons _ (List.Perm.cons _ (List.Perm.swap _ _ _))) (List.Perm.trans (List.Perm.cons _ (List.Perm.cons _ (List.Perm.cons _ (List.Perm.cons _ (List.Perm.swap _ _ _))))) (List.Perm.trans (List.Perm.cons _ (List.Perm.cons _ (List.Perm.cons _ (List.Perm.swap _ _ _)))) (List.Perm.trans (List.Perm.cons _ (List.Perm.cons _ (List.Perm.cons _ (List.Perm.cons _ (List.Perm.cons _ (List.Perm.swap _ _ _)))))) (List.Perm.cons _ (List.Perm.cons _ (List.Perm.cons _ (List.Perm.cons _ (List.Perm.swap _ _ _))))))))))))) ⟨rfl, rfl, trivial⟩
        · have hm := ite_f' hb191 hm
          refine C_seq ?_
          refine C_region ?_
          refine W_bin rfl rfl rfl rfl rfl ?_
          refine W_assign rfl rfl rfl ?_
          refine W_end ?_
          refine E_then ?_
          refine C_cond (b := decide (r103.1 = (⟨#[98, 114, 97, 110, 99, 104]⟩))) rfl (fun hb196 => ?_) (fun hb196 => ?_)
          · have hm := ite_t' hb196 hm
            refine C_region ?_
            refine W_field (o := 2) rfl rfl Proofs.Try.runUnderlying29 rfl Proofs.Try.sizeOf24 rfl rfl rfl ?_
            refine W_load rfl rfl Proofs.Try.isAgg24 rfl (own_at (List.mem_cons_self ..) rfl) ?_
            refine W_move rfl rfl rfl ?_
            refine W_move rfl rfl rfl ?_
            refine W_bin rfl rfl rfl rfl rfl ?_
            obtain ⟨hz197, hm⟩ := need_some hm
            refine W_perm (List.Perm.trans (List.Perm.cons _ (List.Perm.cons _ (List.Perm.swap _ _ _))) (List.Perm.trans (List.Perm.cons _ (List.Perm.swap _ _ _)) (List.Perm.swap _ _ _))) ?_
            refine W_call Proofs.Try.call46 rfl rfl rfl (fun w ht => by have h := delete46_c h117 hz197 ht; exact h) ?_
            rintro _ _ _ ⟨rfl, v198, xs199, rfl, rfl, hr200⟩
            have hr200 := hr200 H
            refine W_field (o := 2) rfl rfl Proofs.Try.runUnderlying29 rfl Proofs.Try.sizeOf24 rfl rfl rfl ?_
            refine W_perm (List.Perm.swap _ _ _) ?_
            refine W_store (cs := [v198]) (out := [v109, v112, v198, v118, v121, v124]) rfl Proofs.Try.sizeOf24 rfl rfl (Rw.cells hr200) rfl rfl (all_cons (Rw.one hr200) all_nil) rfl ?_
            refine W_end ?_
            refine E_normal_block ?_
            refine E_drop (List.Sublist.cons_cons _ (List.Sublist.cons_cons _ (List.Sublist.cons_cons _ (List.Sublist.cons_cons _ (List.Sublist.cons_cons _ (List.Sublist.cons_cons _ (List.Sublist.cons_cons _ (List.Sublist.cons_cons _ (List.Sublist.cons _ (List.Sublist.refl _)))))))))) ?_
            exact E_keepJ (J172 _ _ _ ⟨r107.Switches, (r107.Branches.take (r103.2.1).toNat ++ r107.Branches.drop (IntKind.i64.wrap (r103.2.1 + 1)).toNat), r107.Gens, r107.Loads, r107.Stores, v112, xs113, v198, xs199, v118, xs119, v121, xs122, v124, xs125, hm, h114, hr200, h120, h123, h126, rfl, rfl, rfl⟩) (List.Perm.trans (List.Perm.cons _ (List.Perm.cons _ (List.Perm.swap _ _ _))) (List.Perm.trans (List.Perm.cons _ (List.Perm.swap _ _ _)) (List.Perm.trans (List.Perm.swap _ _ _) (List.Perm.trans (List.Perm.cons _ (List.Perm.swap _ _ _)) (List.Perm.trans (List.Perm.cons _ (List.Perm.cons _ (List.Perm.cons _ (List.Perm.swap _ _ _)))) (List.Perm.trans (List.Perm.cons _ (List.Perm.cons _ (List.Perm.swap _ _ _))) (List.Perm.trans (List.Perm.cons _ (List.Perm.cons _ (List.Perm.cons _ (List.Perm.cons _ (List.Perm.swap _ _ _))))) (List.Perm.trans (List.Perm.cons _ (List.Perm.cons _ (List.Perm.cons _ (List.Perm.swap _ _ _)))) (List.Perm.trans (List.Perm.cons _ (List.Perm.cons _ (List.Perm.cons _ (List.Perm.cons _ (List.Perm.cons _ (List.Perm.swap _ _ _)))))) (List.Perm.cons _ (List.Perm.cons _ (List.Perm.cons _ (List.Perm.cons _ (List.Perm.swap _ _ _)))))))))))))) ⟨rfl, rfl, trivial⟩
          · have hm := ite_f' hb196 hm
            refine C_seq ?_
            refine C_region ?_
            refine W_bin rfl rfl rfl rfl rfl ?_
            refine W_assign rfl rfl rfl ?_
            refine W_end ?_
            refine E_then ?_
            refine C_cond (b := decide (r103.1 = (⟨#[103, 101, 110]⟩))) rfl (fun hb201 => ?_) (fun hb201 => ?_)
            · have hm := ite_t' hb201 hm
              refine C_region ?_
              refine W_field (o := 3) rfl rfl Proofs.Try.runUnderlying29 rfl Proofs.Try.sizeOf25 rfl rfl rfl ?_
              refine W_load rfl rfl Proofs.Try.isAgg25 rfl (own_at (List.mem_cons_self ..) rfl) ?_
              refine W_move rfl rfl rfl ?_
              refine W_move rfl rfl rfl ?_
              refine W_bin rfl rfl rfl rfl rfl ?_
              obtain ⟨hz202, hm⟩ := need_some hm
              refine W_perm (List.Perm.trans (List.Perm.cons _ (List.Perm.cons _ (List.Perm.cons _ (List.Perm.swap _ _ _)))) (List.Perm.trans (List.Perm.cons _ (List.Perm.cons _ (List.Perm.swap _ _ _))) (List.Perm.trans (List.Perm.cons _ (List.Perm.swap _ _ _)) (List.Perm.swap _ _ _)))) ?_
              refine W_call Proofs.Try.call47 rfl rfl rfl (fun w ht => by have h := delete47_c h120 hz202 ht; exact h) ?_
              rintro _ _ _ ⟨rfl, v203, xs204, rfl, rfl, hr205⟩
              have hr205 := hr205 H
              refine W_field (o := 3) rfl rfl Proofs.Try.runUnderlying29 rfl Proofs.Try.sizeOf25 rfl rfl rfl ?_
              refine W_perm (List.Perm.swap _ _ _) ?_
              refine W_store (cs := [v203]) (out := [v109, v112, v115, v203, v121, v124]) rfl Proofs.Try.sizeOf25 rfl rfl (Rw.cells hr205) rfl rfl (all_cons (Rw.one hr205) all_nil) rfl ?_
              refine W_end ?_
              refine E_normal_block ?_
              refine E_drop (List.Sublist.cons_cons _ (List.Sublist.cons_cons _ (List.Sublist.cons_cons _ (List.Sublist.cons_cons _ (List.Sublist.cons_cons _ (List.Sublist.cons_cons _ (List.Sublist.cons_cons _ (List.Sublist.cons_cons _ (List.Sublist.cons _ (List.Sublist.refl _)))))))))) ?_
              exact E_keepJ (J172 _ _ _ ⟨r107.Switches, r107.Branches, (r107.Gens.take (r103.2.1).toNat ++ r107.Gens.drop (IntKind.i64.wrap (r103.2.1 + 1)).toNat), r107.Loads, r107.Stores, v112, xs113, v115, xs116, v203, xs204, v121, xs122, v124, xs125, hm, h114, h117, hr205, h123, h126, rfl, rfl, rfl⟩) (List.Perm.trans (List.Perm.cons _ (List.Perm.cons _ (List.Perm.swap _ _ _))) (List.Perm.trans (List.Perm.cons _ (List.Perm.swap _ _ _)) (List.Perm.trans (List.Perm.swap _ _ _) (List.Perm.trans (List.Perm.cons _ (List.Perm.cons _ (List.Perm.cons _ (List.Perm.swap _ _ _)))) (List.Perm.trans (List.Perm.cons _ (List.Perm.cons _ (List.Perm.swap _ _ _))) (List.Perm.trans (List.Perm.cons _ (List.Perm.swap _ _ _)) (List.Perm.trans (List.Perm.cons _ (List.Perm.cons _ (List.Perm.swap _ _ _))) (List.Perm.trans (List.Perm.cons _ (List.Perm.cons _ (List.Perm.cons _ (List.Perm.cons _ (List.Perm.swap _ _ _))))) (List.Perm.trans (List.Perm.cons _ (List.Perm.cons _ (List.Perm.cons _ (List.Perm.swap _ _ _)))) (List.Perm.trans (List.Perm.cons _ (List.Perm.cons _ (List.Perm.cons _ (List.Perm.cons _ (List.Perm.cons _ (List.Perm.swap _ _ _)))))) (List.Perm.cons _ (List.Perm.cons _ (List.Perm.cons _ (List.Perm.cons _ (List.Perm.swap _ _ _))))))))))))))) ⟨rfl, rfl, trivial⟩
            · have hm := ite_f' hb201 hm
              refine C_seq ?_
              refine C_region ?_
              refine W_bin rfl rfl rfl rfl rfl ?_
              refine W_assign rfl rfl rfl ?_
              refine W_end ?_
              refine E_then ?_
              refine C_cond (b := decide (r103.1 = (⟨#[108, 111, 97, 100]⟩))) rfl (fun hb206 => ?_) (fun hb206 => ?_)
              · have hm := ite_t' hb206 hm
                refine C_region ?_
                refine W_field (o := 4) rfl rfl Proofs.Try.runUnderlying29 rfl Proofs.Try.sizeOf26 rfl rfl rfl ?_
                refine W_load rfl rfl Proofs.Try.isAgg26 rfl (own_at (List.mem_cons_self ..) rfl) ?_
                refine W_move rfl rfl rfl ?_
                refine W_move rfl rfl rfl ?_
                refine W_bin rfl rfl rfl rfl rfl ?_
                obtain ⟨hz207, hm⟩ := need_some hm
                refine W_perm (List.Perm.trans (List.Perm.cons _ (List.Perm.cons _ (List.Perm.cons _ (List.Perm.cons _ (List.Perm.swap _ _ _))))) (List.Perm.trans (List.Perm.cons _ (List.Perm.cons _ (List.Perm.cons _ (List.Perm.swap _ _ _)))) (List.Perm.trans (List.Perm.cons _ (List.Perm.cons _ (List.Perm.swap _ _ _))) (List.Perm.trans (List.Perm.cons _ (List.Perm.swap _ _ _)) (List.Perm.swap _ _ _))))) ?_
                refine W_call Proofs.Try.call48 rfl rfl rfl (fun w ht => by have h := delete48_c h123 hz207 ht; exact h) ?_
                rintro _ _ _ ⟨rfl, v208, xs209, rfl, rfl, hr210⟩
                have hr210 := hr210 H
                refine W_field (o := 4) rfl rfl Proofs.Try.runUnderlying29 rfl Proofs.Try.sizeOf26 rfl rfl rfl ?_
                refine W_perm (List.Perm.swap _ _ _) ?_
                refine W_store (cs := [v208]) (out := [v109, v112, v115, v118, v208, v124]) rfl Proofs.Try.sizeOf26 rfl rfl (Rw.cells hr210) rfl rfl (all_cons (Rw.one hr210) all_nil) rfl ?_
                refine W_end ?_
                refine E_normal_block ?_
                refine E_drop (List.Sublist.cons_cons _ (List.Sublist.cons_cons _ (List.Sublist.cons_cons _ (List.Sublist.cons_cons _ (List.Sublist.cons_cons _ (List.Sublist.cons_cons _ (List.Sublist.cons_cons _ (List.Sublist.cons_cons _ (List.Sublist.cons _ (List.Sublist.refl _)))))))))) ?_
                exact E_keepJ (J172 _ _ _ ⟨r107.Switches, r107.Branches, r107.Gens, (r107.Loads.take (r103.2.1).toNat ++ r107.Loads.drop (IntKind.i64.wrap (r103.2.1 + 1)).toNat), r107.Stores, v112, xs113, v115, xs116, v118, xs119, v208, xs209, v124, xs125, hm, h114, h117, h120, hr210, h126, rfl, rfl, rfl⟩) (List.Perm.trans (List.Perm.cons _ (List.Perm.cons _ (List.Perm.swap _ _ _))) (List.Perm.trans (List.Perm.cons _ (List.Perm.swap _ _ _)) (List.Perm.trans (List.Perm.swap _ _ _) (List.Perm.trans (List.Perm.cons _ (List.Perm.cons _ (List.Perm.cons _ (List.Perm.swap _ _ _)))) (List.Perm.trans (List.Perm.cons _ (List.Perm.cons _ (List.Perm.swap _ _ _))) (List.Perm.trans (List.Perm.cons _ (List.Perm.swap _ _ _)) (List.Perm.trans (List.Perm.cons _ (List.Perm.cons _ (List.Perm.cons _ (List.Perm.cons _ (List.Perm.swap _ _ _))))) (List.Perm.trans (List.Perm.cons _ (List.Perm.cons _ (List.Perm.cons _ (List.Perm.swap _ _ _)))) (List.Perm.trans (List.Perm.cons _ (List.Perm.cons _ (List.Perm.swap _ _ _))) (List.Perm.trans (List.Perm.cons _ (List.Perm.cons _ (List.Perm.cons _ (List.Perm.swap _ _ _)))) (List.Perm.trans (List.Perm.cons _ (List.Perm.cons _ (List.Perm.cons _ (List.Perm.cons _ (List.Perm.cons _ (List.Perm.swap _ _ _)))))) (List.Perm.cons _ (List.Perm.cons _ (List.Perm.cons _ (List.Perm.cons _ (List.Perm.swap _ _ _)))))))))))))))) ⟨rfl, rfl, trivial⟩
              · have hm := ite_f' hb206 hm
                refine C_region ?_
                refine W_field (o := 5) rfl rfl Proofs.Try.runUnderlying29 rfl Proofs.Try.sizeOf27 rfl rfl rfl ?_
                refine W_load rfl rfl Proofs.Try.isAgg27 rfl (own_at (List.mem_cons_self ..) rfl) ?_
                refine W_move rfl rfl rfl ?_
                refine W_move rfl rfl rfl ?_
                refine W_bin rfl rfl rfl rfl rfl ?_
                obtain ⟨hz211, hm⟩ := need_some hm
                refine W_perm (List.Perm.trans (List.Perm.cons _ (List.Perm.cons _ (List.Perm.cons _ (List.Perm.cons _ (List.Perm.cons _ (List.Perm.swap _ _ _)))))) (List.Perm.trans (List.Perm.cons _ (List.Perm.cons _ (List.Perm.cons _ (List.Perm.cons _ (List.Perm.swap _ _ _))))) (List.Perm.trans (List.Perm.cons _ (List.Perm.cons _ (List.Perm.cons _ (List.Perm.swap _ _ _)))) (List.Perm.trans (List.Perm.cons _ (List.Perm.cons _ (List.Perm.swap _ _ _))) (List.Perm.trans (List.Perm.cons _ (List.Perm.swap _ _ _)) (List.Perm.swap _ _ _)))))) ?_
                refine W_call Proofs.Try.call49 rfl rfl rfl (fun w ht => by have h := delete49_c h126 hz211 ht; exact h) ?_
                rintro _ _ _ ⟨rfl, v212, xs213, rfl, rfl, hr214⟩
                have hr214 := hr214 H
                refine W_field (o := 5) rfl rfl Proofs.Try.runUnderlying29 rfl Proofs.Try.sizeOf27 rfl rfl rfl ?_
                refine W_perm (List.Perm.swap _ _ _) ?_
                refine W_store (cs := [v212]) (out := [v109, v112, v115, v118, v121, v212]) rfl Proofs.Try.sizeOf27 rfl rfl (Rw.cells hr214) rfl rfl (all_cons (Rw.one hr214) all_nil) rfl ?_
                refine W_end ?_
                refine E_normal_block ?_
                refine E_drop (List.Sublist.cons_cons _ (List.Sublist.cons_cons _ (List.Sublist.cons_cons _ (List.Sublist.cons_cons _ (List.Sublist.cons_cons _ (List.Sublist.cons_cons _ (List.Sublist.cons_cons _ (List.Sublist.cons_cons _ (List.Sublist.cons _ (List.Sublist.refl _)))))))))) ?_
                exact E_keepJ (J172 _ _ _ ⟨r107.Switches, r107.Branches, r107.Gens, r107.Loads, (r107.Stores.take (r103.2.1).toNat ++ r107.Stores.drop (IntKind.i64.wrap (r103.2.1 + 1)).toNat), v112, xs113, v115, xs116, v118, xs119, v121, xs122, v212, xs213, hm, h114, h117, h120, h123, hr214, rfl, rfl, rfl⟩) (List.Perm.trans (List.Perm.cons _ (List.Perm.cons _ (List.Perm.swap _ _ _))) (List.Perm.trans (List.Perm.cons _ (List.Perm.swap _ _ _)) (List.Perm.trans (List.Perm.swap _ _ _) (List.Perm.trans (List.Perm.cons _ (List.Perm.cons _ (List.Perm.cons _ (List.Perm.swap _ _ _)))) (List.Perm.trans (List.Perm.cons _ (List.Perm.cons _ (List.Perm.swap _ _ _))) (List.Perm.trans (List.Perm.cons _ (List.Perm.swap _ _ _)) (List.Perm.trans (List.Perm.cons _ (List.Perm.cons _ (List.Perm.cons _ (List.Perm.cons _ (List.Perm.swap _ _ _))))) (List.Perm.trans (List.Perm.cons _ (List.Perm.cons _ (List.Perm.cons _ (List.Perm.swap _ _ _)))) (List.Perm.trans (List.Perm.cons _ (List.Perm.cons _ (List.Perm.swap _ _ _))) (List.Perm.trans (List.Perm.cons _ (List.Perm.cons _ (List.Perm.cons _ (List.Perm.cons _ (List.Perm.cons _ (List.Perm.swap _ _ _)))))) (List.Perm.trans (List.Perm.cons _ (List.Perm.cons _ (List.Perm.cons _ (List.Perm.cons _ (List.Perm.swap _ _ _))))) (List.Perm.trans (List.Perm.cons _ (List.Perm.cons _ (List.Perm.cons _ (List.Perm.swap _ _ _)))) (List.Perm.cons _ (List.Perm.cons _ (List.Perm.cons _ (List.Perm.cons _ (List.Perm.swap _ _ _))))))))))))))))) ⟨rfl, rfl, trivial⟩

theorem m_islands_Splits_c {B : Nat} {w0 w : World} {H : Hp} {M : List Res} {p0_n : S_api_Network} {name : ByteArray} {v0 : Value} {v1 : Value} {v2 : Value} {v3 : Value} {v4 : Value} {v5 : Value} {r : Bool × Int} (hm : m_islands_Splits p0_n name = some r) (h0 : RdS H v0 p0_n.Nodes) (h1 : RdS H v1 p0_n.Switches) (h2 : RdS H v2 p0_n.Branches) (h3 : RdS H v3 p0_n.Gens) (h4 : RdS H v4 p0_n.Loads) (h5 : RdS H v5 p0_n.Stores) (ht : St B w0 H (M) w) :
    Calls Proofs.Try.prog 15 [.agg [v0, v1, v2, v3, v4, v5].toArray, .string (name)].toArray w (Ret B w0 fun H' M' v => H = H' ∧ M = M' ∧ .tuple #[.bool (r.1), .int .i64 (r.2)] = v) := by
  unfold m_islands_Splits at hm
  refine enter Proofs.Try.func15 rfl rfl rfl ht ?_
  refine C_seq ?_
  refine C_region ?_
  refine W_box (cs := [v0, v1, v2, v3, v4, v5]) rfl rfl rfl rfl (fun b101 => ?_)
  refine W_assign rfl rfl rfl ?_
  refine W_assign rfl rfl rfl ?_
  refine W_end ?_
  refine E_then ?_
  refine C_seq ?_
  refine C_region ?_
  refine W_loadAgg rfl rfl Proofs.Try.isAgg29 Proofs.Try.sizeOf29 rfl (own_all (List.mem_cons_self ..)) rfl ?_
  refine W_move rfl rfl rfl ?_
  obtain ⟨r102, hc103, hm⟩ := bind_some hm
  refine W_call Proofs.Try.call42 rfl rfl rfl (fun w ht => by have h := m_netmodel_Find_c (hm := hc103) h0 h1 h2 h3 h4 h5 ht; exact h) ?_
  rintro _ _ _ ⟨rfl, rfl, rfl⟩
  refine W_move rfl rfl rfl ?_
  refine W_extract rfl rfl rfl rfl ?_
  refine W_extract rfl rfl rfl rfl ?_
  refine W_extract rfl rfl rfl rfl ?_
  refine W_assign rfl rfl rfl ?_
  refine W_assign rfl rfl rfl ?_
  refine W_assign rfl rfl rfl ?_
  refine W_end ?_
  refine E_then ?_
  refine C_seq ?_
  refine C_block ?_
  refine C_seq ?_
  refine C_region ?_
  refine W_move rfl rfl rfl ?_
  refine W_bin rfl rfl rfl rfl rfl ?_
  refine W_assign rfl rfl rfl ?_
  refine W_end ?_
  refine E_then ?_
  refine C_cond (b := !decide (r102.2.2 = 0)) rfl (fun hb104 => ?_) (fun hb104 => ?_)
  · have hm := ite_t' hb104 hm
    refine C_seq ?_
    refine C_region ?_
    refine W_move rfl rfl rfl ?_
    refine W_assign rfl rfl rfl ?_
    refine W_assign rfl rfl rfl ?_
    refine W_end ?_
    refine E_then ?_
    refine C_ret ?_
    refine E_ret_block ?_
    refine E_ret_then ?_
    obtain rfl := Option.some.inj hm
    refine E_drop (List.Sublist.cons _ (List.Sublist.refl _)) ?_
    refine E_weak (Hp.le_refl _) ?_
    exact end2 rfl rfl rfl ⟨rfl, rfl, rfl⟩
  · have hm := ite_f' hb104 hm
    refine C_seq_join (fun H' M' L' => H = H' ∧ .obj b101 (.cells [v0, v1, v2, v3, v4, v5].toArray 29 (0, 0)) :: M = M' ∧ [(1, .string (name)), (2, .pointer (some ⟨b101, 0, none⟩)), (22, .bool ((!decide (r102.1 = (⟨#[115, 119, 105, 116, 99, 104]⟩))) && (!decide (r102.1 = (⟨#[98, 114, 97, 110, 99, 104]⟩)))))] = L') ?_ (fun J106 => ?_)
    · rintro _ _ _ ⟨rfl, rfl, rfl⟩
      refine C_cond (b := (!decide (r102.1 = (⟨#[115, 119, 105, 116, 99, 104]⟩))) && (!decide (r102.1 = (⟨#[98, 114, 97, 110, 99, 104]⟩)))) rfl (fun hb107 => ?_) (fun hb107 => ?_)
      · have hm := ite_t' hb107 hm
        refine C_seq ?_
        refine C_region ?_
        refine W_assign rfl rfl rfl ?_
        refine W_assign rfl rfl rfl ?_
        refine W_end ?_
        refine E_then ?_
        refine C_ret ?_
        refine E_ret_block ?_
        refine E_ret_then ?_
        obtain rfl := Option.some.inj hm
        refine E_drop (List.Sublist.cons _ (List.Sublist.refl _)) ?_
        refine E_weak (Hp.le_refl _) ?_
        exact end2 rfl rfl rfl ⟨rfl, rfl, rfl⟩
      · have hm := ite_f' hb107 hm
        refine C_skip ?_
        refine E_normal_block ?_
        refine E_then ?_
        refine C_seq ?_
        refine C_region ?_
        refine W_loadAgg rfl rfl Proofs.Try.isAgg29 Proofs.Try.sizeOf29 rfl (own_all (List.mem_cons_self ..)) rfl ?_
        refine W_move rfl rfl rfl ?_
        obtain ⟨r108, hc109, hm⟩ := bind_some hm
        refine W_call Proofs.Try.call16 rfl rfl rfl (fun w ht => by have h := m_netmodel_Without_c (hm := hc109) h0 h1 h2 h3 h4 h5 ht; exact h) ?_
        rintro _ H122 _ ⟨hle123, v110, v112, v114, v116, v118, v120, rfl, rfl, h111, h113, h115, h117, h119, h121⟩
        refine W_move rfl rfl rfl ?_
        refine W_extract rfl rfl rfl rfl ?_
        refine W_extract rfl rfl rfl rfl ?_
        refine W_alloc (cs := [.slice none 0 0, .slice none 0 0, .slice none 0 0, .slice none 0 0, .slice none 0 0, .slice none 0 0]) rfl rfl Proofs.Try.zeroValue29 rfl (fun b124 => ?_)
        refine W_store (cs := [v110, v112, v114, v116, v118, v120]) (out := [v110, v112, v114, v116, v118, v120]) rfl Proofs.Try.sizeOf29 rfl rfl rfl rfl rfl (all_cons (RdS.one1 h111) (all_cons (RdS.one1 h113) (all_cons (RdS.one1 h115) (all_cons (RdS.one1 h117) (all_cons (RdS.one1 h119) (all_cons (RdS.one1 h121) all_nil)))))) (over_all rfl) ?_
        refine W_assign rfl rfl rfl ?_
        refine W_end ?_
        refine E_then ?_
        refine C_seq ?_
        obtain ⟨r125, hc126, hm⟩ := bind_some hm
        refine C_region_tok0 3 (phiT [(fun H rs v => [] = rs ∧ .agg [v110, v112, v114, v116, v118, v120].toArray = v), (fun H rs v => [] = rs ∧ .int .i64 (r125) = v), (fun H rs v => [] = rs ∧ .agg [v0, v1, v2, v3, v4, v5].toArray = v)]) [[], [], []] [[], [], []] [] [0, 1, 2] Facts.mixed (by kernel_rfl) rfl rfl rfl (by kernel_rfl) (phiT_mono ⟨eq_monoT _ _, eq_monoT _ _, eq_monoT _ _, trivial⟩) ⟨?_, ?_, ?_, trivial⟩ ?_
        · intro HX hX X Rest hR
          intro hU
          refine W_loadAgg rfl rfl Proofs.Try.isAgg29 Proofs.Try.sizeOf29 rfl (own_all (hR _ (List.mem_cons_self ..))) rfl ?_
          exact W_end (OneT_end [] (Hp.le_refl _) ⟨rfl, rfl⟩)
        · intro HX hX X Rest hR
          rintro _ _ ⟨rfl, rfl⟩
          intro hU
          refine W_call Proofs.Try.call43 rfl rfl rfl (fun w ht => by have h := m_islands_Number_c (hm := hc126) (h111.mono hX) (h113.mono hX) (h115.mono hX) (h117.mono hX) (h119.mono hX) (h121.mono hX) ht; exact h) ?_
          rintro _ _ _ ⟨rfl, rfl, rfl⟩
          exact W_end (OneT_end [] (Hp.le_refl _) ⟨rfl, rfl⟩)
        · intro HX hX X Rest hR
          intro hU
          refine W_loadAgg rfl rfl Proofs.Try.isAgg29 Proofs.Try.sizeOf29 rfl (own_all (hR _ (List.mem_cons_of_mem _ (List.mem_cons_self ..)))) rfl ?_
          exact W_end (OneT_end [] (Hp.le_refl _) ⟨rfl, rfl⟩)
        intro H127 hle128
        rintro _ _ ⟨rfl, rfl⟩
        rintro _ _ ⟨rfl, rfl⟩
        rintro _ _ ⟨rfl, rfl⟩
        obtain ⟨r129, hc130, hm⟩ := bind_some hm
        refine W_call Proofs.Try.call43 rfl rfl rfl (fun w ht => by have h := m_islands_Number_c (hm := hc130) ((h0.mono hle123).mono hle128) ((h1.mono hle123).mono hle128) ((h2.mono hle123).mono hle128) ((h3.mono hle123).mono hle128) ((h4.mono hle123).mono hle128) ((h5.mono hle123).mono hle128) ht; exact h) ?_
        rintro _ _ _ ⟨rfl, rfl, rfl⟩
        refine W_bin rfl rfl rfl rfl rfl ?_
        refine W_assign rfl rfl rfl ?_
        refine W_assign rfl rfl rfl ?_
        refine W_end ?_
        refine E_then ?_
        refine C_ret ?_
        obtain rfl := Option.some.inj hm
        refine E_drop (List.Sublist.cons _ (List.Sublist.cons _ (List.Sublist.refl _))) ?_
        refine E_weak (Hp.le_trans hle123 hle128) ?_
        exact end2 rfl rfl rfl ⟨rfl, rfl, rfl⟩
    · refine C_region ?_
      refine W_move rfl rfl rfl ?_
      refine W_bin rfl rfl rfl rfl rfl ?_
      refine W_move rfl rfl rfl ?_
      cases hb131 : (decide (r102.1 = (⟨#[115, 119, 105, 116, 99, 104]⟩)))
      · refine W_move rfl rfl rfl ?_
        refine W_bin rfl rfl rfl rfl rfl ?_
        refine W_pick rfl rfl rfl rfl ?_
        refine W_assign rfl rfl rfl ?_
        refine W_end ?_
        exact E_keepJ (J106 _ _ _ ⟨rfl, rfl, rfl⟩) (List.Perm.refl _) ⟨rfl, rfl, (by show some (Value.bool (!decide (r102.1 = (⟨#[98, 114, 97, 110, 99, 104]⟩)))) = some (Value.bool ((!decide (r102.1 = (⟨#[115, 119, 105, 116, 99, 104]⟩))) && (!decide (r102.1 = (⟨#[98, 114, 97, 110, 99, 104]⟩))))); simp only [hb104, hb131, Bool.and_true, Bool.true_and, Bool.false_and, Bool.and_false, Bool.or_true, Bool.true_or, Bool.or_false, Bool.false_or, Bool.not_true, Bool.not_false]), trivial⟩
      · refine W_no rfl rfl rfl ?_
        refine W_no rfl rfl rfl ?_
        refine W_pick rfl rfl rfl rfl ?_
        refine W_assign rfl rfl rfl ?_
        refine W_end ?_
        exact E_keepJ (J106 _ _ _ ⟨rfl, rfl, rfl⟩) (List.Perm.refl _) ⟨rfl, rfl, (by show some (Value.bool (false)) = some (Value.bool ((!decide (r102.1 = (⟨#[115, 119, 105, 116, 99, 104]⟩))) && (!decide (r102.1 = (⟨#[98, 114, 97, 110, 99, 104]⟩))))); simp only [hb104, hb131, Bool.and_true, Bool.true_and, Bool.false_and, Bool.and_false, Bool.or_true, Bool.true_or, Bool.or_false, Bool.false_or, Bool.not_true, Bool.not_false]), trivial⟩

theorem m_islands_Places_c {B : Nat} {w0 w : World} {H : Hp} {M : List Res} {p0_n : S_api_Network} {v0 : Value} {v1 : Value} {v2 : Value} {v3 : Value} {v4 : Value} {v5 : Value} {r : (List Int) × Int} (hm : m_islands_Places p0_n = some r) (h0 : RdS H v0 p0_n.Nodes) (h1 : RdS H v1 p0_n.Switches) (h2 : RdS H v2 p0_n.Branches) (h3 : RdS H v3 p0_n.Gens) (h4 : RdS H v4 p0_n.Loads) (h5 : RdS H v5 p0_n.Stores) (ht : St B w0 H (M) w) :
    Calls Proofs.Try.prog 17 [.agg [v0, v1, v2, v3, v4, v5].toArray].toArray w (Ret B w0 fun H' M' v => H = H' ∧ ∃ qv0 : Value, ∃ qxs0 : List Value, .row qv0 3 (Rep.sz Int) r.1.length qxs0 :: M = M' ∧ .tuple #[qv0, .int .i64 (r.2)] = v ∧ RwF qv0 qxs0 r.1) := by
  unfold m_islands_Places at hm
  refine enter Proofs.Try.func17 rfl rfl rfl ht ?_
  refine C_seq ?_
  refine C_region ?_
  refine W_box (cs := [v0, v1, v2, v3, v4, v5]) rfl rfl rfl rfl (fun b101 => ?_)
  refine W_assign rfl rfl rfl ?_
  refine W_assign rfl rfl rfl ?_
  refine W_end ?_
  refine E_then ?_
  refine C_seq ?_
  refine C_seq ?_
  refine C_region ?_
  refine W_loadAgg rfl rfl Proofs.Try.isAgg29 Proofs.Try.sizeOf29 rfl (own_all (List.mem_cons_self ..)) rfl ?_
  obtain ⟨r102, hc103, hm⟩ := bind_some hm
  refine W_call Proofs.Try.call13 rfl rfl rfl (fun w ht => by have h := m_netmodel_Check_c (hm := hc103) h0 h1 h2 h3 h4 h5 ht; exact h) ?_
  rintro _ _ _ ⟨rfl, rfl, rfl⟩
  refine W_assign rfl rfl rfl ?_
  refine W_end ?_
  refine E_then ?_
  refine C_seq ?_
  refine C_region ?_
  refine W_move rfl rfl rfl ?_
  refine W_bin rfl rfl rfl rfl rfl ?_
  refine W_end ?_
  refine E_then ?_
  refine C_cond (b := !decide (r102 = 0)) rfl (fun hb104 => ?_) (fun hb104 => ?_)
  · have hm := ite_t' hb104 hm
    refine C_seq ?_
    refine C_region ?_
    refine W_move rfl rfl rfl ?_
    refine W_assign rfl rfl rfl ?_
    refine W_assign rfl rfl rfl ?_
    refine W_end ?_
    refine E_then ?_
    refine C_ret ?_
    refine E_ret_then ?_
    refine E_nilRow 3 (Rep.sz Int) ?_
    obtain rfl := Option.some.inj hm
    refine E_drop (List.Sublist.cons_cons _ (List.Sublist.cons _ (List.Sublist.refl _))) ?_
    refine E_weak (Hp.le_refl _) ?_
    exact end2 rfl rfl rfl ⟨rfl, (.slice none 0 0), [], rfl, rfl, (Rw.nil (H := H)).toF⟩
  · have hm := ite_f' hb104 hm
    refine C_skip ?_
    refine E_then ?_
    refine C_seq ?_
    refine C_region ?_
    refine W_loadAgg rfl rfl Proofs.Try.isAgg29 Proofs.Try.sizeOf29 rfl (own_all (List.mem_cons_self ..)) rfl ?_
    obtain ⟨r105, hc106, hm⟩ := bind_some hm
    refine W_call Proofs.Try.call31 rfl rfl rfl (fun w ht => by have h := m_topology_Get_c (hm := hc106) h0 h1 h2 h3 h4 h5 ht; exact h) ?_
    rintro _ _ _ ⟨rfl, v107, xs108, v110, xs111, rfl, rfl, h109, h112⟩
    have h109 := h109 H
    have h112 := h112 H
    refine W_alloc (cs := [.slice none 0 0, .slice none 0 0]) rfl rfl Proofs.Try.zeroValue77 rfl (fun b113 => ?_)
    refine W_store (cs := [v107, v110]) (out := [v107, v110]) rfl Proofs.Try.sizeOf77 rfl rfl rfl rfl rfl (all_cons (Rw.one h109) (all_cons (Rw.one h112) all_nil)) (over_all rfl) ?_
    refine W_end ?_
    refine E_then ?_
    refine C_seq ?_
    refine C_region ?_
    refine W_assign rfl rfl rfl ?_
    refine W_end ?_
    refine E_then ?_
    refine C_seq ?_
    refine C_seq ?_
    refine C_region ?_
    refine W_field (o := 0) rfl rfl Proofs.Try.runUnderlying77 rfl Proofs.Try.sizeOf30 rfl rfl rfl ?_
    refine W_load rfl rfl Proofs.Try.isAgg30 rfl (own_at (List.mem_cons_self ..) rfl) ?_
    refine W_lenO (List.mem_cons_of_mem _ (List.mem_cons_self ..)) rfl rfl Proofs.Try.runUnderlying30 rfl ?_
    refine W_move rfl rfl rfl ?_
    refine W_end ?_
    refine E_then ?_
    refine C_block ?_
    refine C_rowMax (List.mem_cons_of_mem _ (List.mem_cons_self ..)) (fun hmx169 => ?_)
    refine C_nilRow 3 (Rep.sz Int) ?_
    refine C_drop (List.Sublist.cons_cons _ (List.Sublist.cons_cons _ (List.Sublist.cons_cons _ (List.Sublist.cons_cons _ (List.Sublist.cons _ (List.Sublist.refl _)))))) ?_
    refine C_keep (L' := [(5, .pointer (some ⟨b113, 0, none⟩)), (6, (.slice none 0 0)), (17, v107), (18, .int .i64 ((r105.Bus.length : Int))), (19, .int .i64 (((0 : Nat) : Int)))]) ⟨rfl, rfl, rfl, rfl, rfl, trivial⟩ (List.Perm.refl _) ?_
    refine C_loop (fun n H' M' L' => ∃ (k114 : Nat) (zs171' : List Int), ∃ l161 : List Int, ∃ v159 : Value, ∃ xs160 : List Value, (r105.Bus).drop k114 = zs171' ∧ zs171'.length = n ∧ forI (fun k y s165 n => m_islands_Places_b1 r105 k y s165 n) (fun s165 => some (s165, 0)) k114 zs171' l161 = some r ∧ Rw H' v159 xs160 l161 ∧ H.le H' ∧ .row v159 3 (Rep.sz Int) l161.length xs160 :: .obj b113 (.cells [v107, v110].toArray 77 (0, 0)) :: .row v107 3 (Rep.sz Int) r105.Bus.length xs108 :: .row v110 3 (Rep.sz Int) r105.Island.length xs111 :: M = M' ∧ [(5, .pointer (some ⟨b113, 0, none⟩)), (6, v159), (17, v107), (18, .int .i64 ((r105.Bus.length : Int))), (19, .int .i64 ((k114 : Int)))] = L') _ ⟨0, _, ([] : List Int), (.slice none 0 0), ([]), rfl, rfl, hm, Rw.nil, (Hp.le_refl _), rfl, rfl⟩ ?_
    rintro _ H163 _ _ ⟨k114, zs171', l161, v159, xs160, hd173, rfl, hm, hr162, hle164, rfl, rfl⟩
    refine C_seq ?_
    refine C_region ?_
    refine W_bin rfl rfl rfl rfl rfl ?_
    refine W_end (E_then ?_)
    refine C_seq ?_
    refine C_cond (b := decide ((k114 : Int) < (r105.Bus.length : Int))) rfl (fun hb175 => ?_) (fun hb175 => ?_)
    · obtain ⟨y170, zs171, rfl, hy172, hd174⟩ := rng_t hd173 hb175
      have hm : m_islands_Places_b1 r105 k114 y170 l161 (forI (fun k y s165 n => m_islands_Places_b1 r105 k y s165 n) (fun s165 => some (s165, 0)) (k114 + 1) zs171) = some r := hm
      generalize hn167 : forI (fun k y s165 n => m_islands_Places_b1 r105 k y s165 n) (fun s165 => some (s165, 0)) (k114 + 1) zs171 = nx166 at hm
      unfold m_islands_Places_b1 at hm
      refine C_skip (E_then ?_)
      refine C_seq ?_
      refine C_block ?_
      refine C_seq ?_
      refine C_region ?_
      refine W_indexO (List.mem_cons_of_mem _ (List.mem_cons_of_mem _ (List.mem_cons_self ..))) rfl rfl Proofs.Try.runUnderlying30 Proofs.Try.sizeOf3 rfl rfl (Int.natCast_nonneg _) (List.getElem?_eq_some_iff.1 hy172).1 ?_
      obtain ⟨_, rfl, hg176⟩ := (h109).elem hy172
      refine W_load rfl rfl Proofs.Try.isAgg3 rfl (row_one0 (List.mem_cons_of_mem _ (List.mem_cons_of_mem _ (List.mem_cons_self ..))) hg176 rfl) ?_
      refine W_assign rfl rfl rfl ?_
      refine W_end ?_
      refine E_then ?_
      refine C_region ?_
      refine W_move rfl rfl rfl ?_
      refine W_field (o := 1) rfl rfl Proofs.Try.runUnderlying77 rfl Proofs.Try.sizeOf30 rfl rfl rfl ?_
      refine W_load rfl rfl Proofs.Try.isAgg30 rfl (own_at (List.mem_cons_of_mem _ (List.mem_cons_self ..)) rfl) ?_
      refine W_move rfl rfl rfl ?_
      obtain ⟨y177, h178, he179, hm⟩ := idx_some hm
      refine W_indexO (List.mem_cons_of_mem _ (List.mem_cons_of_mem _ (List.mem_cons_of_mem _ (List.mem_cons_self ..)))) rfl rfl Proofs.Try.runUnderlying30 Proofs.Try.sizeOf3 rfl rfl h178 (List.getElem?_eq_some_iff.1 he179).1 ?_
      obtain ⟨_, rfl, hg180⟩ := (h112).elem he179
      refine W_load rfl rfl Proofs.Try.isAgg3 rfl (row_one0 (List.mem_cons_of_mem _ (List.mem_cons_of_mem _ (List.mem_cons_of_mem _ (List.mem_cons_self ..)))) hg180 rfl) ?_
      refine W_buildSlice (α := Int) (css := [[.int .i64 (y177)]]) (zs := [.int .i64 (0)]) (out := [.int .i64 (y177)]) (ys := [y177]) rfl rfl rfl ⟨rfl, trivial⟩ Proofs.Try.runUnderlying30 Proofs.Try.sizeOf3 rfl Proofs.Try.zeroValue3 (by kernel_rfl) rfl rfl rfl rfl ⟨[.int .i64 (y177)], [], rfl, rfl, rfl⟩ rfl ?_
      intro b181 v182 H183 hv184 hle185 h186
      have hc187 : Value.cap' v182 = ([y177]).length := by rw [hv184]; rfl
      obtain ⟨hz188, hm⟩ := need_some hm
      refine W_appendO (α := Int) (l := l161) (ys := [y177]) rfl rfl Proofs.Try.underlying30 ⟨_, rfl, rfl, rfl, rfl⟩ rfl rfl rfl rfl rfl (hr162.mono hle185) h186 hz188 ?_
      intro v189 xs190 hr191
      refine W_assign rfl rfl rfl ?_
      refine W_end ?_
      refine E_normal_block ?_
      refine E_then ?_
      refine C_region ?_
      refine W_bin rfl rfl rfl rfl rfl ?_
      refine W_move rfl rfl rfl ?_
      refine W_end ?_
      exact E_keepJ (E_back (Nat.lt_succ_self _) ⟨k114 + 1, zs171, (l161 ++ ([y177])), v189, xs190, hd174, rfl, (by rw [hn167]; exact hm), hr191, (Hp.le_trans hle164 hle185), rfl, rfl⟩) (List.Perm.refl _) ⟨rfl, rfl, rfl, rfl, (congrArg (fun z => some (Value.int .i64 z)) (i64_succ hy172 hmx169)), trivial⟩
    · obtain rfl := rng_f hd173 hb175
      have hm : (some (l161, 0)) = some r := hm
      refine C_exit (E_exit_then ?_)
      refine E_exit_then ?_
      refine E_exit_hit ?_
      refine E_then ?_
      refine C_seq ?_
      refine C_region ?_
      refine W_move rfl rfl rfl ?_
      refine W_assign rfl rfl rfl ?_
      refine W_assign rfl rfl rfl ?_
      refine W_end ?_
      refine E_then ?_
      refine C_ret ?_
      obtain rfl := Option.some.inj hm
      refine E_drop (List.Sublist.cons_cons _ (List.Sublist.cons _ (List.Sublist.cons _ (List.Sublist.cons _ (List.Sublist.refl _))))) ?_
      refine E_weak hle164 ?_
      exact end2 rfl rfl rfl ⟨rfl, v159, xs160, rfl, rfl, (hr162).toF⟩

theorem m_netmodel_Node_c {B : Nat} {w0 w : World} {H : Hp} {M : List Res} {p0_n : S_api_Network} {name : ByteArray} {v0 : Value} {v1 : Value} {v2 : Value} {v3 : Value} {v4 : Value} {v5 : Value} {r : Int × Int} (hm : m_netmodel_Node p0_n name = some r) (h0 : RdS H v0 p0_n.Nodes) (h1 : RdS H v1 p0_n.Switches) (h2 : RdS H v2 p0_n.Branches) (h3 : RdS H v3 p0_n.Gens) (h4 : RdS H v4 p0_n.Loads) (h5 : RdS H v5 p0_n.Stores) (ht : St B w0 H (M) w) :
    Calls Proofs.Try.prog 18 [.agg [v0, v1, v2, v3, v4, v5].toArray, .string (name)].toArray w (Ret B w0 fun H' M' v => H = H' ∧ M = M' ∧ .tuple #[.int .i64 (r.1), .int .i64 (r.2)] = v) := by
  unfold m_netmodel_Node at hm
  refine enter Proofs.Try.func18 rfl rfl rfl ht ?_
  refine C_seq ?_
  refine C_region ?_
  refine W_box (cs := [v0, v1, v2, v3, v4, v5]) rfl rfl rfl rfl (fun b101 => ?_)
  refine W_assign rfl rfl rfl ?_
  refine W_assign rfl rfl rfl ?_
  refine W_end ?_
  refine E_then ?_
  refine C_seq ?_
  refine C_seq ?_
  refine C_region ?_
  refine W_loadAgg rfl rfl Proofs.Try.isAgg29 Proofs.Try.sizeOf29 rfl (own_all (List.mem_cons_self ..)) rfl ?_
  obtain ⟨r102, hc103, hm⟩ := bind_some hm
  refine W_call Proofs.Try.call13 rfl rfl rfl (fun w ht => by have h := m_netmodel_Check_c (hm := hc103) h0 h1 h2 h3 h4 h5 ht; exact h) ?_
  rintro _ _ _ ⟨rfl, rfl, rfl⟩
  refine W_assign rfl rfl rfl ?_
  refine W_end ?_
  refine E_then ?_
  refine C_seq ?_
  refine C_region ?_
  refine W_move rfl rfl rfl ?_
  refine W_bin rfl rfl rfl rfl rfl ?_
  refine W_end ?_
  refine E_then ?_
  refine C_cond (b := !decide (r102 = 0)) rfl (fun hb104 => ?_) (fun hb104 => ?_)
  · have hm := ite_t' hb104 hm
    refine C_seq ?_
    refine C_region ?_
    refine W_move rfl rfl rfl ?_
    refine W_assign rfl rfl rfl ?_
    refine W_assign rfl rfl rfl ?_
    refine W_end ?_
    refine E_then ?_
    refine C_ret ?_
    refine E_ret_then ?_
    obtain rfl := Option.some.inj hm
    refine E_drop (List.Sublist.cons _ (List.Sublist.refl _)) ?_
    refine E_weak (Hp.le_refl _) ?_
    exact end2 rfl rfl rfl ⟨rfl, rfl, rfl⟩
  · have hm := ite_f' hb104 hm
    refine C_skip ?_
    refine E_then ?_
    refine C_seq ?_
    refine C_region ?_
    refine W_field (o := 0) rfl rfl Proofs.Try.runUnderlying29 rfl Proofs.Try.sizeOf22 rfl rfl rfl ?_
    refine W_load rfl rfl Proofs.Try.isAgg22 rfl (own_at (List.mem_cons_self ..) rfl) ?_
    refine W_move rfl rfl rfl ?_
    obtain ⟨r105, hc106, hm⟩ := bind_some hm
    refine W_call Proofs.Try.call50 rfl rfl rfl (fun w ht => by have h := m_slices_Index_string_string_c (hm := hc106) h0 ht; exact h) ?_
    rintro _ _ _ ⟨rfl, rfl, rfl⟩
    refine W_assign rfl rfl rfl ?_
    refine W_end ?_
    refine E_then ?_
    refine C_seq ?_
    refine C_seq ?_
    refine C_region ?_
    refine W_move rfl rfl rfl ?_
    refine W_bin rfl rfl rfl rfl rfl ?_
    refine W_end ?_
    refine E_then ?_
    refine C_cond (b := decide (r105 < 0)) rfl (fun hb107 => ?_) (fun hb107 => ?_)
    · have hm := ite_t' hb107 hm
      refine C_seq ?_
      refine C_region ?_
      refine W_assign rfl rfl rfl ?_
      refine W_assign rfl rfl rfl ?_
      refine W_end ?_
      refine E_then ?_
      refine C_ret ?_
      refine E_ret_then ?_
      obtain rfl := Option.some.inj hm
      refine E_drop (List.Sublist.cons _ (List.Sublist.refl _)) ?_
      refine E_weak (Hp.le_refl _) ?_
      exact end2 rfl rfl rfl ⟨rfl, rfl, rfl⟩
    · have hm := ite_f' hb107 hm
      refine C_skip ?_
      refine E_then ?_
      refine C_seq ?_
      refine C_region ?_
      refine W_move rfl rfl rfl ?_
      refine W_assign rfl rfl rfl ?_
      refine W_assign rfl rfl rfl ?_
      refine W_end ?_
      refine E_then ?_
      refine C_ret ?_
      obtain rfl := Option.some.inj hm
      refine E_drop (List.Sublist.cons _ (List.Sublist.refl _)) ?_
      refine E_weak (Hp.le_refl _) ?_
      exact end2 rfl rfl rfl ⟨rfl, rfl, rfl⟩

theorem m_gridhallkeep4_IslandsSplits_c {B : Nat} {w0 w : World} {H : Hp} {M : List Res} {p0_n : S_api_Network} {p1_k : Int} {v0 : Value} {v1 : Value} {v2 : Value} {v3 : Value} {v4 : Value} {v5 : Value} {r : Bool} (hm : m_gridhallkeep4_IslandsSplits p0_n p1_k = some r) (h0 : RdS H v0 p0_n.Nodes) (h1 : RdS H v1 p0_n.Switches) (h2 : RdS H v2 p0_n.Branches) (h3 : RdS H v3 p0_n.Gens) (h4 : RdS H v4 p0_n.Loads) (h5 : RdS H v5 p0_n.Stores) (ht : St B w0 H (M) w) :
    Calls Proofs.Try.prog 5 [.agg [v0, v1, v2, v3, v4, v5].toArray, .int .i64 (p1_k)].toArray w (Ret B w0 fun H' M' v => H = H' ∧ M = M' ∧ .bool (r) = v) := by
  unfold m_gridhallkeep4_IslandsSplits at hm
  refine enter Proofs.Try.func5 rfl rfl rfl ht ?_
  refine C_seq ?_
  refine C_region ?_
  refine W_box (cs := [v0, v1, v2, v3, v4, v5]) rfl rfl rfl rfl (fun b101 => ?_)
  refine W_assign rfl rfl rfl ?_
  refine W_end ?_
  refine E_then ?_
  refine C_seq ?_
  obtain ⟨r105, hc106, hm⟩ := bind_some hm
  refine C_seq_join (fun H' M' L' => H = H' ∧ .obj b101 (.cells [v0, v1, v2, v3, v4, v5].toArray 29 (0, 0)) :: M = M' ∧ [(1, .int .i64 (p1_k)), (2, .pointer (some ⟨b101, 0, none⟩)), (24, .bool ((!decide (r105 = 0)) || (decide ((p0_n.Branches.length : Int) = 0))))] = L') ?_ (fun J107 => ?_)
  · rintro _ _ _ ⟨rfl, rfl, rfl⟩
    refine C_cond (b := (!decide (r105 = 0)) || (decide ((p0_n.Branches.length : Int) = 0))) rfl (fun hb108 => ?_) (fun hb108 => ?_)
    · have hm := ite_t' hb108 hm
      refine C_seq ?_
      refine C_region ?_
      obtain ⟨r109, hc110, hm⟩ := bind_some hm
      refine W_call Proofs.Try.call11 rfl rfl rfl (fun w ht => by have h := m_gridhallkeep4_islandsFact_c (hm := hc110)  ht; exact h) ?_
      rintro _ _ _ ⟨rfl, rfl, rfl⟩
      refine W_assign rfl rfl rfl ?_
      refine W_end ?_
      refine E_then ?_
      refine C_ret ?_
      refine E_ret_then ?_
      obtain rfl := Option.some.inj hm
      refine E_drop (List.Sublist.cons _ (List.Sublist.refl _)) ?_
      refine E_weak (Hp.le_refl _) ?_
      exact end1 rfl rfl ⟨rfl, rfl, rfl⟩
    · have hm := ite_f' hb108 hm
      refine C_skip ?_
      refine E_then ?_
      refine C_seq ?_
      obtain ⟨r111, hc112, hm⟩ := bind_some hm
      obtain ⟨y113, h114, he115, hm⟩ := idx_some hm
      obtain ⟨_, ⟨rfl⟩, hc116⟩ := (h2).elem he115
      refine C_region_tok0 11 (phiT [(fun H rs v => [] = rs ∧ .pointer (some ⟨b101, 2, none⟩) = v), (fun H rs v => [] = rs ∧ v2 = v), (fun H rs v => [] = rs ∧ .int .i64 (p1_k) = v), (fun H rs v => [] = rs ∧ .pointer (some ⟨b101, 2, none⟩) = v), (fun H rs v => [] = rs ∧ v2 = v), (fun H rs v => [] = rs ∧ .int .i64 ((p0_n.Branches.length : Int)) = v), (fun H rs v => [] = rs ∧ .int .i64 (IntKind.i64.wrap ((p0_n.Branches.length : Int) - 1)) = v), (fun H rs v => [] = rs ∧ .int .i64 (r111) = v), (fun H rs v => [] = rs ∧ .pointer (some ((Value.base (v2)).add ((r111 : Int).toNat * 9))) = v), (fun H rs v => [] = rs ∧ .agg [.string (y113.Name), .string (y113.From), .string (y113.To), .int .i64 (y113.X), .int .i64 (y113.Tap), .int .i64 (y113.Shift), .int .i64 (y113.Limit), .int .i64 (y113.Short), .int .i64 (y113.Hold)].toArray = v), (fun H rs v => ∃ b118 : Nat, [.obj b118 (.cells [.string (⟨#[]⟩), .string (⟨#[]⟩), .string (⟨#[]⟩), .int .i64 (0), .int .i64 (0), .int .i64 (0), .int .i64 (0), .int .i64 (0), .int .i64 (0)].toArray 47 (0, 0))] = rs ∧ .pointer (some ⟨b118, 0, none⟩) = v)]) [[], [], [], [], [], [], [], [], [], [], []] [[], [], [], [], [], [], [], [], [], [], []] [] [0, 1, 2, 3, 4, 5, 6, 7, 8, 9, 10] Facts.mixed (by kernel_rfl) rfl rfl rfl (by kernel_rfl) (phiT_mono ⟨eq_monoT _ _, eq_monoT _ _, eq_monoT _ _, eq_monoT _ _, eq_monoT _ _, eq_monoT _ _, eq_monoT _ _, eq_monoT _ _, eq_monoT _ _, eq_monoT _ _, (by rintro H1 H2 rs v hle ⟨b118, rfl, rfl⟩; exact ⟨b118, rfl, rfl⟩), trivial⟩) ⟨?_, ?_, ?_, ?_, ?_, ?_, ?_, ?_, ?_, ?_, ?_, trivial⟩ ?_
      · intro HX hX X Rest hR
        intro hU
        refine W_field (o := 2) rfl rfl Proofs.Try.runUnderlying29 rfl Proofs.Try.sizeOf24 rfl rfl rfl ?_
        exact W_end (OneT_end [] (Hp.le_refl _) ⟨rfl, rfl⟩)
      · intro HX hX X Rest hR
        rintro _ _ ⟨rfl, rfl⟩
        intro hU
        refine W_load rfl rfl Proofs.Try.isAgg24 rfl (own_at (hR _ (List.mem_cons_self ..)) rfl) ?_
        exact W_end (OneT_end [] (Hp.le_refl _) ⟨rfl, rfl⟩)
      · intro HX hX X Rest hR
        intro hU
        refine W_move rfl rfl rfl ?_
        exact W_end (OneT_end [] (Hp.le_refl _) ⟨rfl, rfl⟩)
      · intro HX hX X Rest hR
        intro hU
        refine W_field (o := 2) rfl rfl Proofs.Try.runUnderlying29 rfl Proofs.Try.sizeOf24 rfl rfl rfl ?_
        exact W_end (OneT_end [] (Hp.le_refl _) ⟨rfl, rfl⟩)
      · intro HX hX X Rest hR
        rintro _ _ ⟨rfl, rfl⟩
        intro hU
        refine W_load rfl rfl Proofs.Try.isAgg24 rfl (own_at (hR _ (List.mem_cons_self ..)) rfl) ?_
        exact W_end (OneT_end [] (Hp.le_refl _) ⟨rfl, rfl⟩)
      · intro HX hX X Rest hR
        rintro _ _ ⟨rfl, rfl⟩
        intro hU
        refine W_lenR rfl rfl Proofs.Try.runUnderlying24 rfl (h2.mono hX) ?_
        exact W_end (OneT_end [] (Hp.le_refl _) ⟨rfl, rfl⟩)
      · intro HX hX X Rest hR
        rintro _ _ ⟨rfl, rfl⟩
        intro hU
        refine W_bin rfl rfl rfl rfl rfl ?_
        exact W_end (OneT_end [] (Hp.le_refl _) ⟨rfl, rfl⟩)
      · intro HX hX X Rest hR
        rintro _ _ ⟨rfl, rfl⟩
        rintro _ _ ⟨rfl, rfl⟩
        intro hU
        refine W_call Proofs.Try.call14 rfl rfl rfl (fun w ht => by have h := m_gridhallref4_Cut_c (hm := hc112)  ht; exact h) ?_
        rintro _ _ _ ⟨rfl, rfl, rfl⟩
        exact W_end (OneT_end [] (Hp.le_refl _) ⟨rfl, rfl⟩)
      · intro HX hX X Rest hR
        rintro _ _ ⟨rfl, rfl⟩
        rintro _ _ ⟨rfl, rfl⟩
        intro hU
        refine W_indexS rfl rfl Proofs.Try.runUnderlying24 Proofs.Try.sizeOf47 rfl (h2.mono hX) rfl h114 he115 ?_
        exact W_end (OneT_end [] (Hp.le_refl _) ⟨rfl, rfl⟩)
      · intro HX hX X Rest hR
        rintro _ _ ⟨rfl, rfl⟩
        intro hU
        refine W_loadAgg rfl rfl Proofs.Try.isAgg47 Proofs.Try.sizeOf47 rfl (hc116.mono hX).at rfl ?_
        exact W_end (OneT_end [] (Hp.le_refl _) ⟨rfl, rfl⟩)
      · intro HX hX X Rest hR
        intro hU
        refine W_alloc (cs := [.string (⟨#[]⟩), .string (⟨#[]⟩), .string (⟨#[]⟩), .int .i64 (0), .int .i64 (0), .int .i64 (0), .int .i64 (0), .int .i64 (0), .int .i64 (0)]) rfl rfl Proofs.Try.zeroValue47 rfl (fun b118 => ?_)
        exact W_end (OneT_end [.obj b118 (.cells [.string (⟨#[]⟩), .string (⟨#[]⟩), .string (⟨#[]⟩), .int .i64 (0), .int .i64 (0), .int .i64 (0), .int .i64 (0), .int .i64 (0), .int .i64 (0)].toArray 47 (0, 0))] (Hp.le_refl _) ⟨b118, rfl, rfl⟩)
      intro H119 hle120
      rintro _ _ ⟨rfl, rfl⟩
      rintro _ _ ⟨rfl, rfl⟩
      rintro _ _ ⟨rfl, rfl⟩
      rintro _ _ ⟨rfl, rfl⟩
      rintro _ _ ⟨rfl, rfl⟩
      rintro _ _ ⟨rfl, rfl⟩
      rintro _ _ ⟨rfl, rfl⟩
      rintro _ _ ⟨rfl, rfl⟩
      rintro _ _ ⟨rfl, rfl⟩
      rintro _ _ ⟨rfl, rfl⟩
      rintro _ _ ⟨b118, rfl, rfl⟩
      refine W_as (M' := .obj b118 (.cells [.string (⟨#[]⟩), .string (⟨#[]⟩), .string (⟨#[]⟩), .int .i64 (0), .int .i64 (0), .int .i64 (0), .int .i64 (0), .int .i64 (0), .int .i64 (0)].toArray 47 (0, 0)) :: .obj b101 (.cells [v0, v1, v2, v3, v4, v5].toArray 29 (0, 0)) :: M) rfl ?_
      refine W_store (cs := [.string (y113.Name), .string (y113.From), .string (y113.To), .int .i64 (y113.X), .int .i64 (y113.Tap), .int .i64 (y113.Shift), .int .i64 (y113.Limit), .int .i64 (y113.Short), .int .i64 (y113.Hold)]) (out := [.string (y113.Name), .string (y113.From), .string (y113.To), .int .i64 (y113.X), .int .i64 (y113.Tap), .int .i64 (y113.Shift), .int .i64 (y113.Limit), .int .i64 (y113.Short), .int .i64 (y113.Hold)]) rfl Proofs.Try.sizeOf47 rfl rfl rfl rfl rfl (all_cons rfl (all_cons rfl (all_cons rfl (all_cons rfl (all_cons rfl (all_cons rfl (all_cons rfl (all_cons rfl (all_cons rfl all_nil))))))))) (over_all rfl) ?_
      refine W_end ?_
      refine E_then ?_
      refine C_seq ?_
      refine C_region ?_
      refine W_loadAgg rfl rfl Proofs.Try.isAgg29 Proofs.Try.sizeOf29 rfl (own_all (List.mem_cons_of_mem _ (List.mem_cons_self ..))) rfl ?_
      refine W_field (o := 0) rfl rfl Proofs.Try.runUnderlying47 rfl Proofs.Try.sizeOf9 rfl rfl rfl ?_
      refine W_load rfl rfl Proofs.Try.isAgg9 rfl (own_at (List.mem_cons_self ..) rfl) ?_
      obtain ⟨r121, hc122, hm⟩ := bind_some hm
      refine W_call Proofs.Try.call15 rfl rfl rfl (fun w ht => by have h := m_islands_Splits_c (hm := hc122) (h0.mono hle120) (h1.mono hle120) (h2.mono hle120) (h3.mono hle120) (h4.mono hle120) (h5.mono hle120) ht; exact h) ?_
      rintro _ _ _ ⟨rfl, rfl, rfl⟩
      refine W_move rfl rfl rfl ?_
      refine W_extract rfl rfl rfl rfl ?_
      refine W_extract rfl rfl rfl rfl ?_
      refine W_assign rfl rfl rfl ?_
      refine W_assign rfl rfl rfl ?_
      refine W_end ?_
      refine E_then ?_
      refine C_seq ?_
      refine C_region ?_
      refine W_loadAgg rfl rfl Proofs.Try.isAgg29 Proofs.Try.sizeOf29 rfl (own_all (List.mem_cons_of_mem _ (List.mem_cons_self ..))) rfl ?_
      refine W_field (o := 0) rfl rfl Proofs.Try.runUnderlying47 rfl Proofs.Try.sizeOf9 rfl rfl rfl ?_
      refine W_load rfl rfl Proofs.Try.isAgg9 rfl (own_at (List.mem_cons_self ..) rfl) ?_
      obtain ⟨r123, hc124, hm⟩ := bind_some hm
      refine W_call Proofs.Try.call16 rfl rfl rfl (fun w ht => by have h := m_netmodel_Without_c (hm := hc124) (h0.mono hle120) (h1.mono hle120) (h2.mono hle120) (h3.mono hle120) (h4.mono hle120) (h5.mono hle120) ht; exact h) ?_
      rintro _ H137 _ ⟨hle138, v125, v127, v129, v131, v133, v135, rfl, rfl, h126, h128, h130, h132, h134, h136⟩
      refine W_move rfl rfl rfl ?_
      refine W_extract rfl rfl rfl rfl ?_
      refine W_extract rfl rfl rfl rfl ?_
      refine W_alloc (cs := [.slice none 0 0, .slice none 0 0, .slice none 0 0, .slice none 0 0, .slice none 0 0, .slice none 0 0]) rfl rfl Proofs.Try.zeroValue29 rfl (fun b139 => ?_)
      refine W_store (cs := [v125, v127, v129, v131, v133, v135]) (out := [v125, v127, v129, v131, v133, v135]) rfl Proofs.Try.sizeOf29 rfl rfl rfl rfl rfl (all_cons (RdS.one1 h126) (all_cons (RdS.one1 h128) (all_cons (RdS.one1 h130) (all_cons (RdS.one1 h132) (all_cons (RdS.one1 h134) (all_cons (RdS.one1 h136) all_nil)))))) (over_all rfl) ?_
      refine W_assign rfl rfl rfl ?_
      refine W_end ?_
      refine E_then ?_
      refine C_seq ?_
      refine C_region ?_
      refine W_loadAgg rfl rfl Proofs.Try.isAgg29 Proofs.Try.sizeOf29 rfl (own_all (List.mem_cons_self ..)) rfl ?_
      obtain ⟨r140, hc141, hm⟩ := bind_some hm
      refine W_call Proofs.Try.call17 rfl rfl rfl (fun w ht => by have h := m_islands_Places_c (hm := hc141) h126 h128 h130 h132 h134 h136 ht; exact h) ?_
      rintro _ _ _ ⟨rfl, v142, xs143, rfl, rfl, h144⟩
      have h144 := h144 H137
      refine W_move rfl rfl rfl ?_
      refine W_extract rfl rfl rfl rfl ?_
      refine W_extract rfl rfl rfl rfl ?_
      refine W_assign rfl rfl rfl ?_
      refine W_assign rfl rfl rfl ?_
      refine W_end ?_
      refine E_then ?_
      refine C_seq ?_
      refine C_region ?_
      refine W_loadAgg rfl rfl Proofs.Try.isAgg29 Proofs.Try.sizeOf29 rfl (own_all (List.mem_cons_of_mem _ (List.mem_cons_of_mem _ (List.mem_cons_of_mem _ (List.mem_cons_self ..))))) rfl ?_
      refine W_field (o := 1) rfl rfl Proofs.Try.runUnderlying47 rfl Proofs.Try.sizeOf9 rfl rfl rfl ?_
      refine W_load rfl rfl Proofs.Try.isAgg9 rfl (own_at (List.mem_cons_of_mem _ (List.mem_cons_of_mem _ (List.mem_cons_self ..))) rfl) ?_
      obtain ⟨r145, hc146, hm⟩ := bind_some hm
      refine W_call Proofs.Try.call18 rfl rfl rfl (fun w ht => by have h := m_netmodel_Node_c (hm := hc146) ((h0.mono hle120).mono hle138) ((h1.mono hle120).mono hle138) ((h2.mono hle120).mono hle138) ((h3.mono hle120).mono hle138) ((h4.mono hle120).mono hle138) ((h5.mono hle120).mono hle138) ht; exact h) ?_
      rintro _ _ _ ⟨rfl, rfl, rfl⟩
      refine W_move rfl rfl rfl ?_
      refine W_extract rfl rfl rfl rfl ?_
      refine W_extract rfl rfl rfl rfl ?_
      refine W_assign rfl rfl rfl ?_
      refine W_assign rfl rfl rfl ?_
      refine W_end ?_
      refine E_then ?_
      refine C_seq ?_
      refine C_region ?_
      refine W_loadAgg rfl rfl Proofs.Try.isAgg29 Proofs.Try.sizeOf29 rfl (own_all (List.mem_cons_of_mem _ (List.mem_cons_of_mem _ (List.mem_cons_of_mem _ (List.mem_cons_self ..))))) rfl ?_
      refine W_field (o := 2) rfl rfl Proofs.Try.runUnderlying47 rfl Proofs.Try.sizeOf9 rfl rfl rfl ?_
      refine W_load rfl rfl Proofs.Try.isAgg9 rfl (own_at (List.mem_cons_of_mem _ (List.mem_cons_of_mem _ (List.mem_cons_self ..))) rfl) ?_
      obtain ⟨r147, hc148, hm⟩ := bind_some hm
      refine W_call Proofs.Try.call18 rfl rfl rfl (fun w ht => by have h := m_netmodel_Node_c (hm := hc148) ((h0.mono hle120).mono hle138) ((h1.mono hle120).mono hle138) ((h2.mono hle120).mono hle138) ((h3.mono hle120).mono hle138) ((h4.mono hle120).mono hle138) ((h5.mono hle120).mono hle138) ht; exact h) ?_
      rintro _ _ _ ⟨rfl, rfl, rfl⟩
      refine W_move rfl rfl rfl ?_
      refine W_extract rfl rfl rfl rfl ?_
      refine W_extract rfl rfl rfl rfl ?_
      refine W_assign rfl rfl rfl ?_
      refine W_assign rfl rfl rfl ?_
      refine W_end ?_
      refine E_then ?_
      refine C_seq ?_
      refine C_seq_join (fun H' M' L' => H137 = H' ∧ .row v142 3 (Rep.sz Int) r140.1.length xs143 :: M = M' ∧ [(6, .bool (r121.1)), (10, v142), (12, .int .i64 (r145.1)), (14, .int .i64 (r147.1)), (106, .bool ((((((((!decide (r121.2 = 0)) || (!decide (r123.2 = 0))) || (!decide (r140.2 = 0))) || (!decide (r145.2 = 0))) || (!decide (r147.2 = 0))) || (!decide ((r140.1.length : Int) = (p0_n.Nodes.length : Int)))) || (decide ((r140.1.length : Int) ≤ r145.1))) || (decide ((r140.1.length : Int) ≤ r147.1))))] = L') ?_ (fun J156 => ?_)
      · rintro _ _ _ ⟨rfl, rfl, rfl⟩
        refine C_cond (b := (((((((!decide (r121.2 = 0)) || (!decide (r123.2 = 0))) || (!decide (r140.2 = 0))) || (!decide (r145.2 = 0))) || (!decide (r147.2 = 0))) || (!decide ((r140.1.length : Int) = (p0_n.Nodes.length : Int)))) || (decide ((r140.1.length : Int) ≤ r145.1))) || (decide ((r140.1.length : Int) ≤ r147.1))) rfl (fun hb157 => ?_) (fun hb157 => ?_)
        · have hm := ite_t' hb157 hm
          refine C_seq ?_
          refine C_region ?_
          refine W_assign rfl rfl rfl ?_
          refine W_end ?_
          refine E_then ?_
          refine C_ret ?_
          refine E_ret_then ?_
          obtain rfl := Option.some.inj hm
          refine E_drop (List.Sublist.cons _ (List.Sublist.refl _)) ?_
          refine E_weak (Hp.le_trans hle120 hle138) ?_
          exact end1 rfl rfl ⟨rfl, rfl, rfl⟩
        · have hm := ite_f' hb157 hm
          refine C_skip ?_
          refine E_then ?_
          refine C_seq ?_
          obtain ⟨r158, hc159, hm⟩ := bind_some hm
          cases hb160 : (r158)
          · have hm := ite_f' hb160 hm
            refine C_region_tok0 12 (phiT [(fun H rs v => [] = rs ∧ .bool (false) = v), (fun H rs v => [] = rs ∧ .bool (false) = v), (fun H rs v => [] = rs ∧ undef = v), (fun H rs v => [] = rs ∧ undef = v), (fun H rs v => [] = rs ∧ undef = v), (fun H rs v => [] = rs ∧ undef = v), (fun H rs v => [] = rs ∧ undef = v), (fun H rs v => [] = rs ∧ undef = v), (fun H rs v => [] = rs ∧ undef = v), (fun H rs v => [] = rs ∧ undef = v), (fun H rs v => [] = rs ∧ undef = v), (fun H rs v => [] = rs ∧ undef = v)]) [[], [], [], [], [], [], [], [], [], [], [], []] [[], [], [], [], [], [], [], [], [], [], [], []] [] [0, 1, 2, 3, 4, 5, 6, 7, 8, 9, 10, 11] Facts.mixed (by kernel_rfl) rfl rfl rfl (by kernel_rfl) (phiT_mono ⟨eq_monoT _ _, eq_monoT _ _, eq_monoT _ _, eq_monoT _ _, eq_monoT _ _, eq_monoT _ _, eq_monoT _ _, eq_monoT _ _, eq_monoT _ _, eq_monoT _ _, eq_monoT _ _, eq_monoT _ _, trivial⟩) ⟨?_, ?_, ?_, ?_, ?_, ?_, ?_, ?_, ?_, ?_, ?_, ?_, trivial⟩ ?_
            · intro HX hX X Rest hR
              intro hU
              refine W_call Proofs.Try.call11 rfl rfl rfl (fun w ht => by have h := m_gridhallkeep4_islandsFact_c (hm := hc159)  ht; exact h) ?_
              rintro _ _ _ ⟨rfl, rfl, rfl⟩
              exact W_end (OneT_end [] (Hp.le_refl _) ⟨rfl, (by rw [hb160]; try rfl)⟩)
            · intro HX hX X Rest hR
              rintro _ _ ⟨rfl, rfl⟩
              rintro _ _ ⟨rfl, rfl⟩
              intro hU
              refine W_move rfl rfl rfl ?_
              exact W_end (OneT_end [] (Hp.le_refl _) ⟨rfl, rfl⟩)
            · intro HX hX X Rest hR
              rintro _ _ ⟨rfl, rfl⟩
              intro hU
              refine W_no rfl rfl rfl ?_
              exact W_end (OneT_end [] (Hp.le_refl _) ⟨rfl, rfl⟩)
            · intro HX hX X Rest hR
              rintro _ _ ⟨rfl, rfl⟩
              intro hU
              refine W_no rfl rfl rfl ?_
              exact W_end (OneT_end [] (Hp.le_refl _) ⟨rfl, rfl⟩)
            · intro HX hX X Rest hR
              rintro _ _ ⟨rfl, rfl⟩
              intro hU
              refine W_no rfl rfl rfl ?_
              exact W_end (OneT_end [] (Hp.le_refl _) ⟨rfl, rfl⟩)
            · intro HX hX X Rest hR
              rintro _ _ ⟨rfl, rfl⟩
              rintro _ _ ⟨rfl, rfl⟩
              rintro _ _ ⟨rfl, rfl⟩
              intro hU
              refine W_no rfl rfl rfl ?_
              exact W_end (OneT_end [] (Hp.le_refl _) ⟨rfl, rfl⟩)
            · intro HX hX X Rest hR
              rintro _ _ ⟨rfl, rfl⟩
              rintro _ _ ⟨rfl, rfl⟩
              intro hU
              refine W_no rfl rfl rfl ?_
              exact W_end (OneT_end [] (Hp.le_refl _) ⟨rfl, rfl⟩)
            · intro HX hX X Rest hR
              rintro _ _ ⟨rfl, rfl⟩
              intro hU
              refine W_no rfl rfl rfl ?_
              exact W_end (OneT_end [] (Hp.le_refl _) ⟨rfl, rfl⟩)
            · intro HX hX X Rest hR
              rintro _ _ ⟨rfl, rfl⟩
              intro hU
              refine W_no rfl rfl rfl ?_
              exact W_end (OneT_end [] (Hp.le_refl _) ⟨rfl, rfl⟩)
            · intro HX hX X Rest hR
              rintro _ _ ⟨rfl, rfl⟩
              rintro _ _ ⟨rfl, rfl⟩
              rintro _ _ ⟨rfl, rfl⟩
              intro hU
              refine W_no rfl rfl rfl ?_
              exact W_end (OneT_end [] (Hp.le_refl _) ⟨rfl, rfl⟩)
            · intro HX hX X Rest hR
              rintro _ _ ⟨rfl, rfl⟩
              rintro _ _ ⟨rfl, rfl⟩
              intro hU
              refine W_no rfl rfl rfl ?_
              exact W_end (OneT_end [] (Hp.le_refl _) ⟨rfl, rfl⟩)
            · intro HX hX X Rest hR
              rintro _ _ ⟨rfl, rfl⟩
              rintro _ _ ⟨rfl, rfl⟩
              rintro _ _ ⟨rfl, rfl⟩
              intro hU
              refine W_no rfl rfl rfl ?_
              exact W_end (OneT_end [] (Hp.le_refl _) ⟨rfl, rfl⟩)
            intro H161 hle162
            rintro _ _ ⟨rfl, rfl⟩
            rintro _ _ ⟨rfl, rfl⟩
            rintro _ _ ⟨rfl, rfl⟩
            rintro _ _ ⟨rfl, rfl⟩
            rintro _ _ ⟨rfl, rfl⟩
            rintro _ _ ⟨rfl, rfl⟩
            rintro _ _ ⟨rfl, rfl⟩
            rintro _ _ ⟨rfl, rfl⟩
            rintro _ _ ⟨rfl, rfl⟩
            rintro _ _ ⟨rfl, rfl⟩
            rintro _ _ ⟨rfl, rfl⟩
            rintro _ _ ⟨rfl, rfl⟩
            refine W_no rfl rfl rfl ?_
            refine W_pick rfl rfl rfl rfl ?_
            refine W_assign rfl rfl rfl ?_
            refine W_end ?_
            refine E_then ?_
            refine C_ret ?_
            obtain rfl := Option.some.inj hm
            refine E_drop (List.Sublist.cons _ (List.Sublist.refl _)) ?_
            refine E_weak (Hp.le_trans (Hp.le_trans hle120 hle138) hle162) ?_
            exact end1 rfl rfl ⟨rfl, rfl, rfl⟩
          · have hm := ite_t' hb160 hm
            obtain ⟨y163, h164, he165, hm⟩ := idx_some hm
            obtain ⟨_, rfl, hg166⟩ := (h144).elem he165
            obtain ⟨y167, h168, he169, hm⟩ := idx_some hm
            obtain ⟨_, rfl, hg170⟩ := (h144).elem he169
            refine C_region_tok0 12 (phiT [(fun H rs v => [] = rs ∧ .bool (true) = v), (fun H rs v => [] = rs ∧ .bool (true) = v), (fun H rs v => [] = rs ∧ .bool (r121.1) = v), (fun H rs v => [] = rs ∧ v142 = v), (fun H rs v => [] = rs ∧ .int .i64 (r145.1) = v), (fun H rs v => [] = rs ∧ .pointer (some ((Value.base (v142)).add ((r145.1 : Int).toNat * Rep.sz Int))) = v), (fun H rs v => [] = rs ∧ .int .i64 (y163) = v), (fun H rs v => [] = rs ∧ v142 = v), (fun H rs v => [] = rs ∧ .int .i64 (r147.1) = v), (fun H rs v => [] = rs ∧ .pointer (some ((Value.base (v142)).add ((r147.1 : Int).toNat * Rep.sz Int))) = v), (fun H rs v => [] = rs ∧ .int .i64 (y167) = v), (fun H rs v => [] = rs ∧ .bool (!decide (y163 = y167)) = v)]) [[], [], [], [], [], [], [], [], [], [], [], []] [[], [], [], [], [], [], [], [], [], [], [], []] [] [0, 1, 2, 3, 4, 5, 6, 7, 8, 9, 10, 11] Facts.mixed (by kernel_rfl) rfl rfl rfl (by kernel_rfl) (phiT_mono ⟨eq_monoT _ _, eq_monoT _ _, eq_monoT _ _, eq_monoT _ _, eq_monoT _ _, eq_monoT _ _, eq_monoT _ _, eq_monoT _ _, eq_monoT _ _, eq_monoT _ _, eq_monoT _ _, eq_monoT _ _, trivial⟩) ⟨?_, ?_, ?_, ?_, ?_, ?_, ?_, ?_, ?_, ?_, ?_, ?_, trivial⟩ ?_
            · intro HX hX X Rest hR
              intro hU
              refine W_call Proofs.Try.call11 rfl rfl rfl (fun w ht => by have h := m_gridhallkeep4_islandsFact_c (hm := hc159)  ht; exact h) ?_
              rintro _ _ _ ⟨rfl, rfl, rfl⟩
              exact W_end (OneT_end [] (Hp.le_refl _) ⟨rfl, (by rw [hb160]; try rfl)⟩)
            · intro HX hX X Rest hR
              rintro _ _ ⟨rfl, rfl⟩
              rintro _ _ ⟨rfl, rfl⟩
              intro hU
              refine W_move rfl rfl rfl ?_
              exact W_end (OneT_end [] (Hp.le_refl _) ⟨rfl, rfl⟩)
            · intro HX hX X Rest hR
              rintro _ _ ⟨rfl, rfl⟩
              intro hU
              refine W_move rfl rfl rfl ?_
              exact W_end (OneT_end [] (Hp.le_refl _) ⟨rfl, rfl⟩)
            · intro HX hX X Rest hR
              rintro _ _ ⟨rfl, rfl⟩
              intro hU
              refine W_move rfl rfl rfl ?_
              exact W_end (OneT_end [] (Hp.le_refl _) ⟨rfl, rfl⟩)
            · intro HX hX X Rest hR
              rintro _ _ ⟨rfl, rfl⟩
              intro hU
              refine W_move rfl rfl rfl ?_
              exact W_end (OneT_end [] (Hp.le_refl _) ⟨rfl, rfl⟩)
            · intro HX hX X Rest hR
              rintro _ _ ⟨rfl, rfl⟩
              rintro _ _ ⟨rfl, rfl⟩
              rintro _ _ ⟨rfl, rfl⟩
              intro hU
              refine W_indexO (hR _ (List.mem_cons_self ..)) rfl rfl Proofs.Try.runUnderlying30 Proofs.Try.sizeOf3 rfl rfl h164 (List.getElem?_eq_some_iff.1 he165).1 ?_
              exact W_end (OneT_end [] (Hp.le_refl _) ⟨rfl, rfl⟩)
            · intro HX hX X Rest hR
              rintro _ _ ⟨rfl, rfl⟩
              rintro _ _ ⟨rfl, rfl⟩
              intro hU
              refine W_load rfl rfl Proofs.Try.isAgg3 rfl (row_one0 (hR _ (List.mem_cons_self ..)) hg166 rfl) ?_
              exact W_end (OneT_end [] (Hp.le_refl _) ⟨rfl, rfl⟩)
            · intro HX hX X Rest hR
              rintro _ _ ⟨rfl, rfl⟩
              intro hU
              refine W_move rfl rfl rfl ?_
              exact W_end (OneT_end [] (Hp.le_refl _) ⟨rfl, rfl⟩)
            · intro HX hX X Rest hR
              rintro _ _ ⟨rfl, rfl⟩
              intro hU
              refine W_move rfl rfl rfl ?_
              exact W_end (OneT_end [] (Hp.le_refl _) ⟨rfl, rfl⟩)
            · intro HX hX X Rest hR
              rintro _ _ ⟨rfl, rfl⟩
              rintro _ _ ⟨rfl, rfl⟩
              rintro _ _ ⟨rfl, rfl⟩
              intro hU
              refine W_indexO (hR _ (List.mem_cons_self ..)) rfl rfl Proofs.Try.runUnderlying30 Proofs.Try.sizeOf3 rfl rfl h168 (List.getElem?_eq_some_iff.1 he169).1 ?_
              exact W_end (OneT_end [] (Hp.le_refl _) ⟨rfl, rfl⟩)
            · intro HX hX X Rest hR
              rintro _ _ ⟨rfl, rfl⟩
              rintro _ _ ⟨rfl, rfl⟩
              intro hU
              refine W_load rfl rfl Proofs.Try.isAgg3 rfl (row_one0 (hR _ (List.mem_cons_self ..)) hg170 rfl) ?_
              exact W_end (OneT_end [] (Hp.le_refl _) ⟨rfl, rfl⟩)
            · intro HX hX X Rest hR
              rintro _ _ ⟨rfl, rfl⟩
              rintro _ _ ⟨rfl, rfl⟩
              rintro _ _ ⟨rfl, rfl⟩
              intro hU
              refine W_bin rfl rfl rfl rfl rfl ?_
              exact W_end (OneT_end [] (Hp.le_refl _) ⟨rfl, rfl⟩)
            intro H171 hle172
            rintro _ _ ⟨rfl, rfl⟩
            rintro _ _ ⟨rfl, rfl⟩
            rintro _ _ ⟨rfl, rfl⟩
            rintro _ _ ⟨rfl, rfl⟩
            rintro _ _ ⟨rfl, rfl⟩
            rintro _ _ ⟨rfl, rfl⟩
            rintro _ _ ⟨rfl, rfl⟩
            rintro _ _ ⟨rfl, rfl⟩
            rintro _ _ ⟨rfl, rfl⟩
            rintro _ _ ⟨rfl, rfl⟩
            rintro _ _ ⟨rfl, rfl⟩
            rintro _ _ ⟨rfl, rfl⟩
            refine W_eqBool rfl rfl Proofs.Try.runUnderlying4 rfl rfl ?_
            refine W_pick rfl rfl rfl rfl ?_
            refine W_assign rfl rfl rfl ?_
            refine W_end ?_
            refine E_then ?_
            refine C_ret ?_
            obtain rfl := Option.some.inj hm
            refine E_drop (List.Sublist.cons _ (List.Sublist.refl _)) ?_
            refine E_weak (Hp.le_trans (Hp.le_trans hle120 hle138) hle172) ?_
            exact end1 rfl rfl ⟨rfl, rfl, rfl⟩
      · refine C_region ?_
        refine W_move rfl rfl rfl ?_
        refine W_bin rfl rfl rfl rfl rfl ?_
        refine W_move rfl rfl rfl ?_
        cases hb173 : (decide (r121.2 = 0))
        · refine W_no rfl rfl rfl ?_
          refine W_no rfl rfl rfl ?_
          refine W_pick rfl rfl rfl rfl ?_
          refine W_move rfl rfl rfl ?_
          refine W_no rfl rfl rfl ?_
          refine W_no rfl rfl rfl ?_
          refine W_pick rfl rfl rfl rfl ?_
          refine W_move rfl rfl rfl ?_
          refine W_no rfl rfl rfl ?_
          refine W_no rfl rfl rfl ?_
          refine W_pick rfl rfl rfl rfl ?_
          refine W_move rfl rfl rfl ?_
          refine W_no rfl rfl rfl ?_
          refine W_no rfl rfl rfl ?_
          refine W_pick rfl rfl rfl rfl ?_
          refine W_move rfl rfl rfl ?_
          refine W_no rfl rfl rfl ?_
          refine W_no rfl rfl rfl ?_
          refine W_no rfl rfl rfl ?_
          refine W_no rfl rfl rfl ?_
          refine W_no rfl rfl rfl ?_
          refine W_no rfl rfl rfl ?_
          refine W_pick rfl rfl rfl rfl ?_
          refine W_move rfl rfl rfl ?_
          refine W_no rfl rfl rfl ?_
          refine W_no rfl rfl rfl ?_
          refine W_no rfl rfl rfl ?_
          refine W_no rfl rfl rfl ?_
          refine W_pick rfl rfl rfl rfl ?_
          refine W_move rfl rfl rfl ?_
          refine W_no rfl rfl rfl ?_
          refine W_no rfl rfl rfl ?_
          refine W_no rfl rfl rfl ?_
          refine W_no rfl rfl rfl ?_
          refine W_pick rfl rfl rfl rfl ?_
          refine W_end ?_
          refine E_drop (List.Sublist.cons_cons _ (List.Sublist.cons _ (List.Sublist.cons _ (List.Sublist.cons _ (List.Sublist.refl _))))) ?_
          exact E_keepJ (J156 _ _ _ ⟨rfl, rfl, rfl⟩) (List.Perm.refl _) ⟨rfl, rfl, rfl, rfl, (by show some (Value.bool (true)) = some (Value.bool ((((((((!decide (r121.2 = 0)) || (!decide (r123.2 = 0))) || (!decide (r140.2 = 0))) || (!decide (r145.2 = 0))) || (!decide (r147.2 = 0))) || (!decide ((r140.1.length : Int) = (p0_n.Nodes.length : Int)))) || (decide ((r140.1.length : Int) ≤ r145.1))) || (decide ((r140.1.length : Int) ≤ r147.1)))); simp only [hb108, hb173, Bool.and_true, Bool.true_and, Bool.false_and, Bool.and_false, Bool.or_true, Bool.true_or, Bool.or_false, Bool.false_or, Bool.not_true, Bool.not_false]), trivial⟩
        · refine W_move rfl rfl rfl ?_
          refine W_bin rfl rfl rfl rfl rfl ?_
          refine W_pick rfl rfl rfl rfl ?_
          refine W_move rfl rfl rfl ?_
          cases hb174 : (decide (r123.2 = 0))
          · refine W_no rfl rfl rfl ?_
            refine W_no rfl rfl rfl ?_
            refine W_pick rfl rfl rfl rfl ?_
            refine W_move rfl rfl rfl ?_
            refine W_no rfl rfl rfl ?_
            refine W_no rfl rfl rfl ?_
            refine W_pick rfl rfl rfl rfl ?_
            refine W_move rfl rfl rfl ?_
            refine W_no rfl rfl rfl ?_
            refine W_no rfl rfl rfl ?_
            refine W_pick rfl rfl rfl rfl ?_
            refine W_move rfl rfl rfl ?_
            refine W_no rfl rfl rfl ?_
            refine W_no rfl rfl rfl ?_
            refine W_no rfl rfl rfl ?_
            refine W_no rfl rfl rfl ?_
            refine W_no rfl rfl rfl ?_
            refine W_no rfl rfl rfl ?_
            refine W_pick rfl rfl rfl rfl ?_
            refine W_move rfl rfl rfl ?_
            refine W_no rfl rfl rfl ?_
            refine W_no rfl rfl rfl ?_
            refine W_no rfl rfl rfl ?_
            refine W_no rfl rfl rfl ?_
            refine W_pick rfl rfl rfl rfl ?_
            refine W_move rfl rfl rfl ?_
            refine W_no rfl rfl rfl ?_
            refine W_no rfl rfl rfl ?_
            refine W_no rfl rfl rfl ?_
            refine W_no rfl rfl rfl ?_
            refine W_pick rfl rfl rfl rfl ?_
            refine W_end ?_
            refine E_drop (List.Sublist.cons_cons _ (List.Sublist.cons _ (List.Sublist.cons _ (List.Sublist.cons _ (List.Sublist.refl _))))) ?_
            exact E_keepJ (J156 _ _ _ ⟨rfl, rfl, rfl⟩) (List.Perm.refl _) ⟨rfl, rfl, rfl, rfl, (by show some (Value.bool (true)) = some (Value.bool ((((((((!decide (r121.2 = 0)) || (!decide (r123.2 = 0))) || (!decide (r140.2 = 0))) || (!decide (r145.2 = 0))) || (!decide (r147.2 = 0))) || (!decide ((r140.1.length : Int) = (p0_n.Nodes.length : Int)))) || (decide ((r140.1.length : Int) ≤ r145.1))) || (decide ((r140.1.length : Int) ≤ r147.1)))); simp only [hb108, hb173, hb174, Bool.and_true, Bool.true_and, Bool.false_and, Bool.and_false, Bool.or_true, Bool.true_or, Bool.or_false, Bool.false_or, Bool.not_true, Bool.not_false]), trivial⟩
          · refine W_move rfl rfl rfl ?_
            refine W_bin rfl rfl rfl rfl rfl ?_
            refine W_pick rfl rfl rfl rfl ?_
            refine W_move rfl rfl rfl ?_
            cases hb175 : (decide (r140.2 = 0))
            · refine W_no rfl rfl rfl ?_
              refine W_no rfl rfl rfl ?_
              refine W_pick rfl rfl rfl rfl ?_
              refine W_move rfl rfl rfl ?_
              refine W_no rfl rfl rfl ?_
              refine W_no rfl rfl rfl ?_
              refine W_pick rfl rfl rfl rfl ?_
              refine W_move rfl rfl rfl ?_
              refine W_no rfl rfl rfl ?_
              refine W_no rfl rfl rfl ?_
              refine W_no rfl rfl rfl ?_
              refine W_no rfl rfl rfl ?_
              refine W_no rfl rfl rfl ?_
              refine W_no rfl rfl rfl ?_
              refine W_pick rfl rfl rfl rfl ?_
              refine W_move rfl rfl rfl ?_
              refine W_no rfl rfl rfl ?_
              refine W_no rfl rfl rfl ?_
              refine W_no rfl rfl rfl ?_
              refine W_no rfl rfl rfl ?_
              refine W_pick rfl rfl rfl rfl ?_
              refine W_move rfl rfl rfl ?_
              refine W_no rfl rfl rfl ?_
              refine W_no rfl rfl rfl ?_
              refine W_no rfl rfl rfl ?_
              refine W_no rfl rfl rfl ?_
              refine W_pick rfl rfl rfl rfl ?_
              refine W_end ?_
              refine E_drop (List.Sublist.cons_cons _ (List.Sublist.cons _ (List.Sublist.cons _ (List.Sublist.cons _ (List.Sublist.refl _))))) ?_
              exact E_keepJ (J156 _ _ _ ⟨rfl, rfl, rfl⟩) (List.Perm.refl _) ⟨rfl, rfl, rfl, rfl, (by show some (Value.bool (true)) = some (Value.bool ((((((((!decide (r121.2 = 0)) || (!decide (r123.2 = 0))) || (!decide (r140.2 = 0))) || (!decide (r145.2 = 0))) || (!decide (r147.2 = 0))) || (!decide ((r140.1.length : Int) = (p0_n.Nodes.length : Int)))) || (decide ((r140.1.length : Int) ≤ r145.1))) || (decide ((r140.1.length : Int) ≤ r147.1)))); simp only [hb108, hb173, hb174, hb175, Bool.and_true, Bool.true_and, Bool.false_and, Bool.and_false, Bool.or_true, Bool.true_or, Bool.or_false, Bool.false_or, Bool.not_true, Bool.not_false]), trivial⟩
            · refine W_move rfl rfl rfl ?_
              refine W_bin rfl rfl rfl rfl rfl ?_
              refine W_pick rfl rfl rfl rfl ?_
              refine W_move rfl rfl rfl ?_
              cases hb176 : (decide (r145.2 = 0))
              · refine W_no rfl rfl rfl ?_
                refine W_no rfl rfl rfl ?_
                refine W_pick rfl rfl rfl rfl ?_
                refine W_move rfl rfl rfl ?_
                refine W_no rfl rfl rfl ?_
                refine W_no rfl rfl rfl ?_
                refine W_no rfl rfl rfl ?_
                refine W_no rfl rfl rfl ?_
                refine W_no rfl rfl rfl ?_
                refine W_no rfl rfl rfl ?_
                refine W_pick rfl rfl rfl rfl ?_
                refine W_move rfl rfl rfl ?_
                refine W_no rfl rfl rfl ?_
                refine W_no rfl rfl rfl ?_
                refine W_no rfl rfl rfl ?_
                refine W_no rfl rfl rfl ?_
                refine W_pick rfl rfl rfl rfl ?_
                refine W_move rfl rfl rfl ?_
                refine W_no rfl rfl rfl ?_
                refine W_no rfl rfl rfl ?_
                refine W_no rfl rfl rfl ?_
                refine W_no rfl rfl rfl ?_
                refine W_pick rfl rfl rfl rfl ?_
                refine W_end ?_
                refine E_drop (List.Sublist.cons_cons _ (List.Sublist.cons _ (List.Sublist.cons _ (List.Sublist.cons _ (List.Sublist.refl _))))) ?_
                exact E_keepJ (J156 _ _ _ ⟨rfl, rfl, rfl⟩) (List.Perm.refl _) ⟨rfl, rfl, rfl, rfl, (by show some (Value.bool (true)) = some (Value.bool ((((((((!decide (r121.2 = 0)) || (!decide (r123.2 = 0))) || (!decide (r140.2 = 0))) || (!decide (r145.2 = 0))) || (!decide (r147.2 = 0))) || (!decide ((r140.1.length : Int) = (p0_n.Nodes.length : Int)))) || (decide ((r140.1.length : Int) ≤ r145.1))) || (decide ((r140.1.length : Int) ≤ r147.1)))); simp only [hb108, hb173, hb174, hb175, hb176, Bool.and_true, Bool.true_and, Bool.false_and, Bool.and_false, Bool.or_true, Bool.true_or, Bool.or_false, Bool.false_or, Bool.not_true, Bool.not_false]), trivial⟩
              · refine W_move rfl rfl rfl ?_
                refine W_bin rfl rfl rfl rfl rfl ?_
                refine W_pick rfl rfl rfl rfl ?_
                refine W_move rfl rfl rfl ?_
                cases hb177 : (decide (r147.2 = 0))
                · refine W_no rfl rfl rfl ?_
                  refine W_no rfl rfl rfl ?_
                  refine W_no rfl rfl rfl ?_
                  refine W_no rfl rfl rfl ?_
                  refine W_no rfl rfl rfl ?_
                  refine W_no rfl rfl rfl ?_
                  refine W_pick rfl rfl rfl rfl ?_
                  refine W_move rfl rfl rfl ?_
                  refine W_no rfl rfl rfl ?_
                  refine W_no rfl rfl rfl ?_
                  refine W_no rfl rfl rfl ?_
                  refine W_no rfl rfl rfl ?_
                  refine W_pick rfl rfl rfl rfl ?_
                  refine W_move rfl rfl rfl ?_
                  refine W_no rfl rfl rfl ?_
                  refine W_no rfl rfl rfl ?_
                  refine W_no rfl rfl rfl ?_
                  refine W_no rfl rfl rfl ?_
                  refine W_pick rfl rfl rfl rfl ?_
                  refine W_end ?_
                  refine E_drop (List.Sublist.cons_cons _ (List.Sublist.cons _ (List.Sublist.cons _ (List.Sublist.cons _ (List.Sublist.refl _))))) ?_
                  exact E_keepJ (J156 _ _ _ ⟨rfl, rfl, rfl⟩) (List.Perm.refl _) ⟨rfl, rfl, rfl, rfl, (by show some (Value.bool (true)) = some (Value.bool ((((((((!decide (r121.2 = 0)) || (!decide (r123.2 = 0))) || (!decide (r140.2 = 0))) || (!decide (r145.2 = 0))) || (!decide (r147.2 = 0))) || (!decide ((r140.1.length : Int) = (p0_n.Nodes.length : Int)))) || (decide ((r140.1.length : Int) ≤ r145.1))) || (decide ((r140.1.length : Int) ≤ r147.1)))); simp only [hb108, hb173, hb174, hb175, hb176, hb177, Bool.and_true, Bool.true_and, Bool.false_and, Bool.and_false, Bool.or_true, Bool.true_or, Bool.or_false, Bool.false_or, Bool.not_true, Bool.not_false]), trivial⟩
                · refine W_move rfl rfl rfl ?_
                  refine W_lenO (List.mem_cons_self ..) rfl rfl Proofs.Try.runUnderlying30 rfl ?_
                  refine W_field (o := 0) rfl rfl Proofs.Try.runUnderlying29 rfl Proofs.Try.sizeOf22 rfl rfl rfl ?_
                  refine W_load rfl rfl Proofs.Try.isAgg22 rfl (own_at (List.mem_cons_of_mem _ (List.mem_cons_of_mem _ (List.mem_cons_of_mem _ (List.mem_cons_self ..)))) rfl) ?_
                  refine W_lenR rfl rfl Proofs.Try.runUnderlying22 rfl ((h0.mono hle120).mono hle138) ?_
                  refine W_bin rfl rfl rfl rfl rfl ?_
                  refine W_pick rfl rfl rfl rfl ?_
                  refine W_move rfl rfl rfl ?_
                  cases hb178 : (decide ((r140.1.length : Int) = (p0_n.Nodes.length : Int)))
                  · refine W_no rfl rfl rfl ?_
                    refine W_no rfl rfl rfl ?_
                    refine W_no rfl rfl rfl ?_
                    refine W_no rfl rfl rfl ?_
                    refine W_pick rfl rfl rfl rfl ?_
                    refine W_move rfl rfl rfl ?_
                    refine W_no rfl rfl rfl ?_
                    refine W_no rfl rfl rfl ?_
                    refine W_no rfl rfl rfl ?_
                    refine W_no rfl rfl rfl ?_
                    refine W_pick rfl rfl rfl rfl ?_
                    refine W_end ?_
                    refine E_drop (List.Sublist.cons_cons _ (List.Sublist.cons _ (List.Sublist.cons _ (List.Sublist.cons _ (List.Sublist.refl _))))) ?_
                    exact E_keepJ (J156 _ _ _ ⟨rfl, rfl, rfl⟩) (List.Perm.refl _) ⟨rfl, rfl, rfl, rfl, (by show some (Value.bool (true)) = some (Value.bool ((((((((!decide (r121.2 = 0)) || (!decide (r123.2 = 0))) || (!decide (r140.2 = 0))) || (!decide (r145.2 = 0))) || (!decide (r147.2 = 0))) || (!decide ((r140.1.length : Int) = (p0_n.Nodes.length : Int)))) || (decide ((r140.1.length : Int) ≤ r145.1))) || (decide ((r140.1.length : Int) ≤ r147.1)))); simp only [hb108, hb173, hb174, hb175, hb176, hb177, hb178, Bool.and_true, Bool.true_and, Bool.false_and, Bool.and_false, Bool.or_true, Bool.true_or, Bool.or_false, Bool.false_or, Bool.not_true, Bool.not_false]), trivial⟩
                  · refine W_move rfl rfl rfl ?_
                    refine W_move rfl rfl rfl ?_
                    refine W_lenO (List.mem_cons_self ..) rfl rfl Proofs.Try.runUnderlying30 rfl ?_
                    refine W_bin rfl rfl rfl rfl rfl ?_
                    refine W_pick rfl rfl rfl rfl ?_
                    refine W_move rfl rfl rfl ?_
                    cases hb179 : (decide ((r140.1.length : Int) ≤ r145.1))
                    · refine W_move rfl rfl rfl ?_
                      refine W_move rfl rfl rfl ?_
                      refine W_lenO (List.mem_cons_self ..) rfl rfl Proofs.Try.runUnderlying30 rfl ?_
                      refine W_bin rfl rfl rfl rfl rfl ?_
                      refine W_pick rfl rfl rfl rfl ?_
                      refine W_end ?_
                      refine E_drop (List.Sublist.cons_cons _ (List.Sublist.cons _ (List.Sublist.cons _ (List.Sublist.cons _ (List.Sublist.refl _))))) ?_
                      exact E_keepJ (J156 _ _ _ ⟨rfl, rfl, rfl⟩) (List.Perm.refl _) ⟨rfl, rfl, rfl, rfl, (by show some (Value.bool (decide ((r140.1.length : Int) ≤ r147.1))) = some (Value.bool ((((((((!decide (r121.2 = 0)) || (!decide (r123.2 = 0))) || (!decide (r140.2 = 0))) || (!decide (r145.2 = 0))) || (!decide (r147.2 = 0))) || (!decide ((r140.1.length : Int) = (p0_n.Nodes.length : Int)))) || (decide ((r140.1.length : Int) ≤ r145.1))) || (decide ((r140.1.length : Int) ≤ r147.1)))); simp only [hb108, hb173, hb174, hb175, hb176, hb177, hb178, hb179, Bool.and_true, Bool.true_and, Bool.false_and, Bool.and_false, Bool.or_true, Bool.true_or, Bool.or_false, Bool.false_or, Bool.not_true, Bool.not_false]), trivial⟩
                    · refine W_no rfl rfl rfl ?_
                      refine W_no rfl rfl rfl ?_
                      refine W_no rfl rfl rfl ?_
                      refine W_no rfl rfl rfl ?_
                      refine W_pick rfl rfl rfl rfl ?_
                      refine W_end ?_
                      refine E_drop (List.Sublist.cons_cons _ (List.Sublist.cons _ (List.Sublist.cons _ (List.Sublist.cons _ (List.Sublist.refl _))))) ?_
                      exact E_keepJ (J156 _ _ _ ⟨rfl, rfl, rfl⟩) (List.Perm.refl _) ⟨rfl, rfl, rfl, rfl, (by show some (Value.bool (true)) = some (Value.bool ((((((((!decide (r121.2 = 0)) || (!decide (r123.2 = 0))) || (!decide (r140.2 = 0))) || (!decide (r145.2 = 0))) || (!decide (r147.2 = 0))) || (!decide ((r140.1.length : Int) = (p0_n.Nodes.length : Int)))) || (decide ((r140.1.length : Int) ≤ r145.1))) || (decide ((r140.1.length : Int) ≤ r147.1)))); simp only [hb108, hb173, hb174, hb175, hb176, hb177, hb178, hb179, Bool.and_true, Bool.true_and, Bool.false_and, Bool.and_false, Bool.or_true, Bool.true_or, Bool.or_false, Bool.false_or, Bool.not_true, Bool.not_false]), trivial⟩
  · refine C_region ?_
    refine W_loadAgg rfl rfl Proofs.Try.isAgg29 Proofs.Try.sizeOf29 rfl (own_all (List.mem_cons_self ..)) rfl ?_
    refine W_call Proofs.Try.call13 rfl rfl rfl (fun w ht => by have h := m_netmodel_Check_c (hm := hc106) h0 h1 h2 h3 h4 h5 ht; exact h) ?_
    rintro _ _ _ ⟨rfl, rfl, rfl⟩
    refine W_bin rfl rfl rfl rfl rfl ?_
    refine W_move rfl rfl rfl ?_
    cases hb180 : (decide (r105 = 0))
    · refine W_no rfl rfl rfl ?_
      refine W_no rfl rfl rfl ?_
      refine W_no rfl rfl rfl ?_
      refine W_no rfl rfl rfl ?_
      refine W_pick rfl rfl rfl rfl ?_
      refine W_end ?_
      exact E_keepJ (J107 _ _ _ ⟨rfl, rfl, rfl⟩) (List.Perm.refl _) ⟨rfl, rfl, (by show some (Value.bool (true)) = some (Value.bool ((!decide (r105 = 0)) || (decide ((p0_n.Branches.length : Int) = 0)))); simp only [hb180, Bool.and_true, Bool.true_and, Bool.false_and, Bool.and_false, Bool.or_true, Bool.true_or, Bool.or_false, Bool.false_or, Bool.not_true, Bool.not_false]), trivial⟩
    · refine W_field (o := 2) rfl rfl Proofs.Try.runUnderlying29 rfl Proofs.Try.sizeOf24 rfl rfl rfl ?_
      refine W_load rfl rfl Proofs.Try.isAgg24 rfl (own_at (List.mem_cons_self ..) rfl) ?_
      refine W_lenR rfl rfl Proofs.Try.runUnderlying24 rfl h2 ?_
      refine W_bin rfl rfl rfl rfl rfl ?_
      refine W_pick rfl rfl rfl rfl ?_
      refine W_end ?_
      exact E_keepJ (J107 _ _ _ ⟨rfl, rfl, rfl⟩) (List.Perm.refl _) ⟨rfl, rfl, (by show some (Value.bool (decide ((p0_n.Branches.length : Int) = 0))) = some (Value.bool ((!decide (r105 = 0)) || (decide ((p0_n.Branches.length : Int) = 0)))); simp only [hb180, Bool.and_true, Bool.true_and, Bool.false_and, Bool.and_false, Bool.or_true, Bool.true_or, Bool.or_false, Bool.false_or, Bool.not_true, Bool.not_false]), trivial⟩

theorem m_gridhallkeep4_cut_c {B : Nat} {w0 w : World} {H : Hp} {M : List Res} {p0_n : S_api_Network} {v0 : Value} {v1 : Value} {v2 : Value} {v3 : Value} {v4 : Value} {v5 : Value} {r : S_api_Network} (hm : m_gridhallkeep4_cut p0_n = some r) (h0 : RdS H v0 p0_n.Nodes) (h1 : RdS H v1 p0_n.Switches) (h2 : RdS H v2 p0_n.Branches) (h3 : RdS H v3 p0_n.Gens) (h4 : RdS H v4 p0_n.Loads) (h5 : RdS H v5 p0_n.Stores) (ht : St B w0 H (M) w) :
    Calls Proofs.Try.prog 19 [.agg [v0, v1, v2, v3, v4, v5].toArray].toArray w (Ret B w0 fun H' M' v => H.le H' ∧ ∃ qv0 : Value, ∃ qv1 : Value, ∃ qv2 : Value, ∃ qv3 : Value, ∃ qv4 : Value, ∃ qv5 : Value, M = M' ∧ .agg [qv0, qv1, qv2, qv3, qv4, qv5].toArray = v ∧ RdS H' qv0 r.Nodes ∧ RdS H' qv1 r.Switches ∧ RdS H' qv2 r.Branches ∧ RdS H' qv3 r.Gens ∧ RdS H' qv4 r.Loads ∧ RdS H' qv5 r.Stores) := by
  unfold m_gridhallkeep4_cut at hm
  refine enter Proofs.Try.func19 rfl rfl rfl ht ?_
  refine C_seq ?_
  refine C_region ?_
  refine W_box (cs := [v0, v1, v2, v3, v4, v5]) rfl rfl rfl rfl (fun b101 => ?_)
  refine W_alloc (cs := [.slice none 0 0, .slice none 0 0, .slice none 0 0, .slice none 0 0, .slice none 0 0, .slice none 0 0]) rfl rfl Proofs.Try.zeroValue29 rfl (fun b102 => ?_)
  refine W_end ?_
  refine E_then ?_
  refine C_seq ?_
  refine C_region ?_
  refine W_field (o := 4) rfl rfl Proofs.Try.runUnderlying29 rfl Proofs.Try.sizeOf26 rfl rfl rfl ?_
  refine W_load rfl rfl Proofs.Try.isAgg26 rfl (own_at (List.mem_cons_of_mem _ (List.mem_cons_self ..)) rfl) ?_
  refine W_field (o := 4) rfl rfl Proofs.Try.runUnderlying29 rfl Proofs.Try.sizeOf26 rfl rfl rfl ?_
  refine W_load rfl rfl Proofs.Try.isAgg26 rfl (own_at (List.mem_cons_of_mem _ (List.mem_cons_self ..)) rfl) ?_
  refine W_lenR rfl rfl Proofs.Try.runUnderlying26 rfl h4 ?_
  refine W_min rfl rfl rfl rfl ?_
  obtain ⟨hz103, hm⟩ := need_some hm
  refine W_sliceR (α := S_api_Load) (l := 0) (h := (min (p0_n.Loads.length : Int) 4 : Int).toNat) (xs := p0_n.Loads) rfl rfl Proofs.Try.runUnderlying26 Proofs.Try.sizeOf43 rfl h4 (by omega) (by omega) (.inl rfl) (fun cap hcap => by rw [if_pos rfl]; exact (.inl ⟨rfl, rfl⟩)) (fun m hmm => (.inr ⟨_, _, _, rfl, rfl, by omega, by omega, rfl⟩)) (.inl ⟨rfl, rfl⟩) ?_
  intro v104 h105 hc106
  refine W_field (o := 4) rfl rfl Proofs.Try.runUnderlying29 rfl Proofs.Try.sizeOf26 rfl rfl rfl ?_
  refine W_perm (List.Perm.swap _ _ _) ?_
  refine W_store (cs := [v104]) (out := [v0, v1, v2, v3, v104, v5]) rfl Proofs.Try.sizeOf26 rfl rfl (RdS.cells h105) rfl rfl (all_cons (RdS.one1 h105) all_nil) rfl ?_
  refine W_end ?_
  refine E_then ?_
  refine C_seq ?_
  refine C_region ?_
  refine W_field (o := 3) rfl rfl Proofs.Try.runUnderlying29 rfl Proofs.Try.sizeOf25 rfl rfl rfl ?_
  refine W_load rfl rfl Proofs.Try.isAgg25 rfl (own_at (List.mem_cons_self ..) rfl) ?_
  refine W_field (o := 3) rfl rfl Proofs.Try.runUnderlying29 rfl Proofs.Try.sizeOf25 rfl rfl rfl ?_
  refine W_load rfl rfl Proofs.Try.isAgg25 rfl (own_at (List.mem_cons_self ..) rfl) ?_
  refine W_lenR rfl rfl Proofs.Try.runUnderlying25 rfl h3 ?_
  refine W_min rfl rfl rfl rfl ?_
  obtain ⟨hz107, hm⟩ := need_some hm
  refine W_sliceR (α := S_api_Gen) (l := 0) (h := (min (p0_n.Gens.length : Int) 4 : Int).toNat) (xs := p0_n.Gens) rfl rfl Proofs.Try.runUnderlying25 Proofs.Try.sizeOf39 rfl h3 (by omega) (by omega) (.inl rfl) (fun cap hcap => by rw [if_pos rfl]; exact (.inl ⟨rfl, rfl⟩)) (fun m hmm => (.inr ⟨_, _, _, rfl, rfl, by omega, by omega, rfl⟩)) (.inl ⟨rfl, rfl⟩) ?_
  intro v108 h109 hc110
  refine W_field (o := 3) rfl rfl Proofs.Try.runUnderlying29 rfl Proofs.Try.sizeOf25 rfl rfl rfl ?_
  refine W_store (cs := [v108]) (out := [v0, v1, v2, v108, v104, v5]) rfl Proofs.Try.sizeOf25 rfl rfl (RdS.cells h109) rfl rfl (all_cons (RdS.one1 h109) all_nil) rfl ?_
  refine W_end ?_
  refine E_then ?_
  refine C_seq ?_
  refine C_region ?_
  refine W_loadAgg rfl rfl Proofs.Try.isAgg29 Proofs.Try.sizeOf29 rfl (own_all (List.mem_cons_self ..)) rfl ?_
  refine W_perm (List.Perm.swap _ _ _) ?_
  refine W_store (cs := [v0, v1, v2, v108, v104, v5]) (out := [v0, v1, v2, v108, v104, v5]) rfl Proofs.Try.sizeOf29 rfl rfl rfl rfl rfl (all_cons (RdS.one1 h0) (all_cons (RdS.one1 h1) (all_cons (RdS.one1 h2) (all_cons (RdS.one1 h109) (all_cons (RdS.one1 h105) (all_cons (RdS.one1 h5) all_nil)))))) (over_all rfl) ?_
  refine W_end ?_
  refine E_then ?_
  refine C_ret ?_
  obtain rfl := Option.some.inj hm
  exact endC1 (Hp.le_refl _) rfl (ResV.agg rfl Proofs.Try.isAgg29 Proofs.Try.sizeOf29 (List.mem_cons_self ..) rfl) (List.Sublist.cons _ (List.Sublist.cons _ (List.Sublist.refl _))) (List.Perm.refl _) ⟨(Hp.le_refl _), v0, v1, v2, v108, v104, v5, rfl, rfl, h0, h1, h2, h109, h105, h5⟩

theorem m_blackstart_gen_1_c {B : Nat} {w0 w : World} {H : Hp} {M : List Res} {p0_g : S_api_Gen} {p1_c1 : ByteArray} {b0 : Nat} {r : Bool} (hm : m_blackstart_gen_1 p0_g p1_c1 = r) (ht : St B w0 H (.obj b0 (.cells [.string (p1_c1)].toArray 9 (0, 0)) :: M) w) :
    Calls Proofs.Try.prog 74 [.agg [.string (p0_g.Name), .string (p0_g.Node), .int .i64 (p0_g.Least), .int .i64 (p0_g.Most), .int .i64 (p0_g.Ramp)].toArray, .pointer (some ⟨b0, 0, none⟩)].toArray w (Ret B w0 fun H' M' v => H = H' ∧ .obj b0 (.cells [.string (p1_c1)].toArray 9 (0, 0)) :: M = M' ∧ .bool (r) = v) := by
  unfold m_blackstart_gen_1 at hm
  refine enter Proofs.Try.func74 rfl rfl rfl ht ?_
  refine C_seq ?_
  refine C_region ?_
  refine W_box (cs := [.string (p0_g.Name), .string (p0_g.Node), .int .i64 (p0_g.Least), .int .i64 (p0_g.Most), .int .i64 (p0_g.Ramp)]) rfl rfl rfl rfl (fun b101 => ?_)
  refine W_assign rfl rfl rfl ?_
  refine W_end ?_
  refine E_then ?_
  refine C_seq ?_
  refine C_region ?_
  refine W_field (o := 0) rfl rfl Proofs.Try.runUnderlying39 rfl Proofs.Try.sizeOf9 rfl rfl rfl ?_
  refine W_load rfl rfl Proofs.Try.isAgg9 rfl (own_at (List.mem_cons_self ..) rfl) ?_
  refine W_load rfl rfl Proofs.Try.isAgg9 rfl (own_at (List.mem_cons_of_mem _ (List.mem_cons_self ..)) rfl) ?_
  refine W_bin rfl rfl rfl rfl rfl ?_
  refine W_assign rfl rfl rfl ?_
  refine W_end ?_
  refine E_then ?_
  refine C_ret ?_
  obtain rfl := hm
  refine E_drop (List.Sublist.cons _ (List.Sublist.refl _)) ?_
  refine E_weak (Hp.le_refl _) ?_
  exact end1 rfl rfl ⟨rfl, rfl, rfl⟩

theorem m_slices_IndexFunc_api_Gen_api_Gen__blackstart_gen_1_c {B : Nat} {w0 w : World} {H : Hp} {M : List Res} {p0_s : (List S_api_Gen)} {p1_f_0 : ByteArray} {v0 : Value} {b0 : Nat} {r : Int} (hm : m_slices_IndexFunc_api_Gen_api_Gen__blackstart_gen_1 p0_s p1_f_0 = some r) (h0 : RdS H v0 p0_s) (ht : St B w0 H (.obj b0 (.cells [.string (p1_f_0)].toArray 9 (0, 0)) :: M) w) :
    Calls Proofs.Try.prog 73 [v0, .func (.func 74) [].toArray [.pointer (some ⟨b0, 0, none⟩)].toArray].toArray w (Ret B w0 fun H' M' v => H = H' ∧ .obj b0 (.cells [.string (p1_f_0)].toArray 9 (0, 0)) :: M = M' ∧ .int .i64 (r) = v) := by
  unfold m_slices_IndexFunc_api_Gen_api_Gen__blackstart_gen_1 at hm
  refine enter Proofs.Try.func73 rfl rfl rfl ht ?_
  refine C_seq ?_
  refine C_region ?_
  refine W_assign rfl rfl rfl ?_
  refine W_end ?_
  refine E_then ?_
  refine C_seq ?_
  refine C_seq ?_
  refine C_region ?_
  refine W_move rfl rfl rfl ?_
  refine W_lenR rfl rfl Proofs.Try.runUnderlying25 rfl h0 ?_
  refine W_move rfl rfl rfl ?_
  refine W_end ?_
  refine E_then ?_
  refine C_block ?_
  refine C_keep (L' := [(0, v0), (1, .func (.func 74) [].toArray [.pointer (some ⟨b0, 0, none⟩)].toArray), (7, .int .i64 ((p0_s.length : Int))), (8, .int .i64 (((0 : Nat) : Int)))]) ⟨rfl, rfl, rfl, rfl, trivial⟩ (List.Perm.refl _) ?_
  refine C_loop (fun n H' M' L' => ∃ (k101 : Nat) (zs119' : Nat), k101 + zs119' = ((p0_s.length : Int) : Int).toNat ∧ zs119' = n ∧ forN (fun k s114 n => m_slices_IndexFunc_api_Gen_api_Gen__blackstart_gen_1_b1 p0_s p1_f_0 k n) (fun _ => some (-1)) zs119' k101 () = some r ∧ H.le H' ∧ .obj b0 (.cells [.string (p1_f_0)].toArray 9 (0, 0)) :: M = M' ∧ [(0, v0), (1, .func (.func 74) [].toArray [.pointer (some ⟨b0, 0, none⟩)].toArray), (7, .int .i64 ((p0_s.length : Int))), (8, .int .i64 ((k101 : Int)))] = L') _ ⟨0, _, Nat.zero_add _, rfl, hm, (Hp.le_refl _), rfl, rfl⟩ ?_
  rintro _ H112 _ _ ⟨k101, zs119', hd121, rfl, hm, hle113, rfl, rfl⟩
  refine C_seq ?_
  refine C_region ?_
  refine W_bin rfl rfl rfl rfl rfl ?_
  refine W_end (E_then ?_)
  refine C_seq ?_
  refine C_cond (b := decide ((k101 : Int) < (p0_s.length : Int))) rfl (fun hb123 => ?_) (fun hb123 => ?_)
  · obtain ⟨zs119, rfl, hd122, hy120⟩ := rngN_t hd121 hb123
    have hm : m_slices_IndexFunc_api_Gen_api_Gen__blackstart_gen_1_b1 p0_s p1_f_0 k101 (forN (fun k s114 n => m_slices_IndexFunc_api_Gen_api_Gen__blackstart_gen_1_b1 p0_s p1_f_0 k n) (fun _ => some (-1)) zs119 (k101 + 1)) = some r := hm
    generalize hn116 : forN (fun k s114 n => m_slices_IndexFunc_api_Gen_api_Gen__blackstart_gen_1_b1 p0_s p1_f_0 k n) (fun _ => some (-1)) zs119 (k101 + 1) = nx115 at hm
    unfold m_slices_IndexFunc_api_Gen_api_Gen__blackstart_gen_1_b1 at hm
    refine C_skip (E_then ?_)
    refine C_seq ?_
    refine C_block ?_
    refine C_seq ?_
    refine C_region ?_
    refine W_move rfl rfl rfl ?_
    refine W_assign rfl rfl rfl ?_
    refine W_end ?_
    refine E_then ?_
    refine C_seq ?_
    refine C_region ?_
    refine W_move rfl rfl rfl ?_
    refine W_move rfl rfl rfl ?_
    refine W_move rfl rfl rfl ?_
    obtain ⟨y124, h125, he126, hm⟩ := idx_some hm
    obtain ⟨_, ⟨rfl⟩, hc127⟩ := (h0).elem he126
    refine W_indexS rfl rfl Proofs.Try.runUnderlying25 Proofs.Try.sizeOf39 rfl (h0.mono hle113) rfl h125 he126 ?_
    refine W_loadAgg rfl rfl Proofs.Try.isAgg39 Proofs.Try.sizeOf39 rfl (hc127.mono hle113).at rfl ?_
    refine W_callv Proofs.Try.call74 rfl rfl rfl rfl (fun w ht => by have h := m_blackstart_gen_1_c (hm := (rfl : m_blackstart_gen_1 y124 p1_f_0 = _))  ht; exact h) ?_
    rintro _ _ _ ⟨rfl, rfl, rfl⟩
    refine W_end ?_
    refine E_then ?_
    refine C_cond (b := (m_blackstart_gen_1 y124 p1_f_0)) rfl (fun hb128 => ?_) (fun hb128 => ?_)
    · have hm := ite_t' hb128 hm
      refine C_seq ?_
      refine C_region ?_
      refine W_move rfl rfl rfl ?_
      refine W_assign rfl rfl rfl ?_
      refine W_end ?_
      refine E_then ?_
      refine C_ret ?_
      refine E_ret_block ?_
      refine E_ret_then ?_
      refine E_ret_then ?_
      refine E_ret_block ?_
      refine E_ret_then ?_
      obtain rfl := Option.some.inj hm
      refine E_weak hle113 ?_
      exact end1 rfl rfl ⟨rfl, rfl, rfl⟩
    · have hm := ite_f' hb128 hm
      refine C_skip ?_
      refine E_normal_block ?_
      refine E_then ?_
      refine C_region ?_
      refine W_bin rfl rfl rfl rfl rfl ?_
      refine W_move rfl rfl rfl ?_
      refine W_end ?_
      exact E_keepJ (E_back (Nat.lt_succ_self _) ⟨k101 + 1, zs119, hd122, rfl, (by rw [hn116]; exact hm), hle113, rfl, rfl⟩) (List.Perm.refl _) ⟨rfl, rfl, rfl, (congrArg (fun z => some (Value.int .i64 z)) (i64_succN hy120 (toNat_max (len_max (h0).lenMax)))), trivial⟩
  · obtain rfl := rngN_f hd121 hb123
    have hm : (some (-1)) = some r := hm
    refine C_exit (E_exit_then ?_)
    refine E_exit_then ?_
    refine E_exit_hit ?_
    refine E_then ?_
    refine C_seq ?_
    refine C_region ?_
    refine W_assign rfl rfl rfl ?_
    refine W_end ?_
    refine E_then ?_
    refine C_ret ?_
    obtain rfl := Option.some.inj hm
    refine E_weak hle113 ?_
    exact end1 rfl rfl ⟨rfl, rfl, rfl⟩

theorem m_blackstart_gen_c {B : Nat} {w0 w : World} {H : Hp} {M : List Res} {p0_n : S_api_Network} {name : ByteArray} {v0 : Value} {v1 : Value} {v2 : Value} {v3 : Value} {v4 : Value} {v5 : Value} {r : Int} (hm : m_blackstart_gen p0_n name = some r) (h0 : RdS H v0 p0_n.Nodes) (h1 : RdS H v1 p0_n.Switches) (h2 : RdS H v2 p0_n.Branches) (h3 : RdS H v3 p0_n.Gens) (h4 : RdS H v4 p0_n.Loads) (h5 : RdS H v5 p0_n.Stores) (ht : St B w0 H (M) w) :
    Calls Proofs.Try.prog 54 [.agg [v0, v1, v2, v3, v4, v5].toArray, .string (name)].toArray w (Ret B w0 fun H' M' v => H = H' ∧ M = M' ∧ .int .i64 (r) = v) := by
  unfold m_blackstart_gen at hm
  refine enter Proofs.Try.func54 rfl rfl rfl ht ?_
  refine C_seq ?_
  refine C_region ?_
  refine W_box (cs := [v0, v1, v2, v3, v4, v5]) rfl rfl rfl rfl (fun b101 => ?_)
  refine W_box (cs := [.string (name)]) rfl rfl rfl rfl (fun b102 => ?_)
  refine W_assign rfl rfl rfl ?_
  refine W_end ?_
  refine E_then ?_
  refine C_seq ?_
  refine C_region ?_
  refine W_field (o := 3) rfl rfl Proofs.Try.runUnderlying29 rfl Proofs.Try.sizeOf25 rfl rfl rfl ?_
  refine W_load rfl rfl Proofs.Try.isAgg25 rfl (own_at (List.mem_cons_of_mem _ (List.mem_cons_self ..)) rfl) ?_
  refine W_makeFunc rfl rfl rfl rfl ?_
  obtain ⟨r103, hc104, hm⟩ := bind_some hm
  refine W_call Proofs.Try.call73 rfl rfl rfl (fun w ht => by have h := m_slices_IndexFunc_api_Gen_api_Gen__blackstart_gen_1_c (hm := hc104) h3 ht; exact h) ?_
  rintro _ _ _ ⟨rfl, rfl, rfl⟩
  refine W_assign rfl rfl rfl ?_
  refine W_end ?_
  refine E_then ?_
  refine C_ret ?_
  obtain rfl := Option.some.inj hm
  refine E_drop (List.Sublist.cons _ (List.Sublist.cons _ (List.Sublist.refl _))) ?_
  refine E_weak (Hp.le_refl _) ?_
  exact end1 rfl rfl ⟨rfl, rfl, rfl⟩

theorem m_blackstart_check_c {B : Nat} {w0 w : World} {H : Hp} {M : List Res} {p0_n : S_api_Network} {sources : (List ByteArray)} {v0 : Value} {v1 : Value} {v2 : Value} {v3 : Value} {v4 : Value} {v5 : Value} {v6 : Value} {r : Int} (hm : m_blackstart_check p0_n sources = some r) (h0 : RdS H v0 p0_n.Nodes) (h1 : RdS H v1 p0_n.Switches) (h2 : RdS H v2 p0_n.Branches) (h3 : RdS H v3 p0_n.Gens) (h4 : RdS H v4 p0_n.Loads) (h5 : RdS H v5 p0_n.Stores) (h6 : RdS H v6 sources) (ht : St B w0 H (M) w) :
    Calls Proofs.Try.prog 51 [.agg [v0, v1, v2, v3, v4, v5].toArray, v6].toArray w (Ret B w0 fun H' M' v => H = H' ∧ M = M' ∧ .int .i64 (r) = v) := by
  unfold m_blackstart_check at hm
  refine enter Proofs.Try.func51 rfl rfl rfl ht ?_
  refine C_seq ?_
  refine C_region ?_
  refine W_box (cs := [v0, v1, v2, v3, v4, v5]) rfl rfl rfl rfl (fun b101 => ?_)
  refine W_assign rfl rfl rfl ?_
  refine W_end ?_
  refine E_then ?_
  refine C_seq ?_
  refine C_seq ?_
  refine C_region ?_
  refine W_loadAgg rfl rfl Proofs.Try.isAgg29 Proofs.Try.sizeOf29 rfl (own_all (List.mem_cons_self ..)) rfl ?_
  obtain ⟨r102, hc103, hm⟩ := bind_some hm
  refine W_call Proofs.Try.call13 rfl rfl rfl (fun w ht => by have h := m_netmodel_Check_c (hm := hc103) h0 h1 h2 h3 h4 h5 ht; exact h) ?_
  rintro _ _ _ ⟨rfl, rfl, rfl⟩
  refine W_assign rfl rfl rfl ?_
  refine W_end ?_
  refine E_then ?_
  refine C_seq ?_
  refine C_region ?_
  refine W_move rfl rfl rfl ?_
  refine W_bin rfl rfl rfl rfl rfl ?_
  refine W_end ?_
  refine E_then ?_
  refine C_cond (b := !decide (r102 = 0)) rfl (fun hb104 => ?_) (fun hb104 => ?_)
  · have hm := ite_t' hb104 hm
    refine C_seq ?_
    refine C_region ?_
    refine W_move rfl rfl rfl ?_
    refine W_assign rfl rfl rfl ?_
    refine W_end ?_
    refine E_then ?_
    refine C_ret ?_
    refine E_ret_then ?_
    obtain rfl := Option.some.inj hm
    refine E_drop (List.Sublist.cons _ (List.Sublist.refl _)) ?_
    refine E_weak (Hp.le_refl _) ?_
    exact end1 rfl rfl ⟨rfl, rfl, rfl⟩
  · have hm := ite_f' hb104 hm
    refine C_skip ?_
    refine E_then ?_
    refine C_seq ?_
    refine C_seq ?_
    refine C_region ?_
    refine W_move rfl rfl rfl ?_
    refine W_lenR rfl rfl Proofs.Try.runUnderlying22 rfl h6 ?_
    refine W_move rfl rfl rfl ?_
    refine W_end ?_
    refine E_then ?_
    refine C_block ?_
    refine C_keep (L' := [(1, v6), (2, .pointer (some ⟨b101, 0, none⟩)), (13, v6), (14, .int .i64 ((sources.length : Int))), (15, .int .i64 (((0 : Nat) : Int)))]) ⟨rfl, rfl, rfl, rfl, rfl, trivial⟩ (List.Perm.refl _) ?_
    refine C_loop (fun n H' M' L' => ∃ (k105 : Nat) (zs135' : List ByteArray), (sources).drop k105 = zs135' ∧ zs135'.length = n ∧ forI (fun k y s130 n => m_blackstart_check_b1 p0_n sources k y n) (fun _ => some 0) k105 zs135' () = some r ∧ H.le H' ∧ .obj b101 (.cells [v0, v1, v2, v3, v4, v5].toArray 29 (0, 0)) :: M = M' ∧ [(1, v6), (2, .pointer (some ⟨b101, 0, none⟩)), (13, v6), (14, .int .i64 ((sources.length : Int))), (15, .int .i64 ((k105 : Int)))] = L') _ ⟨0, _, rfl, rfl, hm, (Hp.le_refl _), rfl, rfl⟩ ?_
    rintro _ H128 _ _ ⟨k105, zs135', hd137, rfl, hm, hle129, rfl, rfl⟩
    refine C_seq ?_
    refine C_region ?_
    refine W_bin rfl rfl rfl rfl rfl ?_
    refine W_end (E_then ?_)
    refine C_seq ?_
    refine C_cond (b := decide ((k105 : Int) < (sources.length : Int))) rfl (fun hb139 => ?_) (fun hb139 => ?_)
    · obtain ⟨y134, zs135, rfl, hy136, hd138⟩ := rng_t hd137 hb139
      have hm : m_blackstart_check_b1 p0_n sources k105 y134 (forI (fun k y s130 n => m_blackstart_check_b1 p0_n sources k y n) (fun _ => some 0) (k105 + 1) zs135) = some r := hm
      generalize hn132 : forI (fun k y s130 n => m_blackstart_check_b1 p0_n sources k y n) (fun _ => some 0) (k105 + 1) zs135 = nx131 at hm
      unfold m_blackstart_check_b1 at hm
      refine C_skip (E_then ?_)
      refine C_seq ?_
      refine C_block ?_
      refine C_seq ?_
      refine C_region ?_
      refine W_move rfl rfl rfl ?_
      obtain ⟨_, rfl, hc140⟩ := (h6).elem hy136
      refine W_indexS rfl rfl Proofs.Try.runUnderlying22 Proofs.Try.sizeOf9 rfl (h6.mono hle129) rfl (Int.natCast_nonneg _) hy136 ?_
      refine W_load rfl rfl Proofs.Try.isAgg9 rfl (HCells.one (hc140.mono hle129) 0 rfl).at ?_
      refine W_assign rfl rfl rfl ?_
      refine W_assign rfl rfl rfl ?_
      refine W_end ?_
      refine E_then ?_
      refine C_block ?_
      refine C_seq ?_
      refine C_region ?_
      refine W_loadAgg rfl rfl Proofs.Try.isAgg29 Proofs.Try.sizeOf29 rfl (own_all (List.mem_cons_self ..)) rfl ?_
      refine W_move rfl rfl rfl ?_
      obtain ⟨r141, hc142, hm⟩ := bind_some hm
      refine W_call Proofs.Try.call54 rfl rfl rfl (fun w ht => by have h := m_blackstart_gen_c (hm := hc142) (h0.mono hle129) (h1.mono hle129) (h2.mono hle129) (h3.mono hle129) (h4.mono hle129) (h5.mono hle129) ht; exact h) ?_
      rintro _ _ _ ⟨rfl, rfl, rfl⟩
      refine W_bin rfl rfl rfl rfl rfl ?_
      refine W_assign rfl rfl rfl ?_
      refine W_end ?_
      refine E_then ?_
      refine C_cond (b := decide (r141 < 0)) rfl (fun hb143 => ?_) (fun hb143 => ?_)
      · have hm := ite_t' hb143 hm
        refine C_seq ?_
        refine C_region ?_
        refine W_assign rfl rfl rfl ?_
        refine W_end ?_
        refine E_then ?_
        refine C_ret ?_
        refine E_ret_block ?_
        refine E_ret_block ?_
        refine E_ret_then ?_
        refine E_ret_then ?_
        refine E_ret_block ?_
        refine E_ret_then ?_
        obtain rfl := Option.some.inj hm
        refine E_drop (List.Sublist.cons _ (List.Sublist.refl _)) ?_
        refine E_weak hle129 ?_
        exact end1 rfl rfl ⟨rfl, rfl, rfl⟩
      · have hm := ite_f' hb143 hm
        refine C_seq ?_
        refine C_region ?_
        refine W_move rfl rfl rfl ?_
        refine W_move rfl rfl rfl ?_
        obtain ⟨hz144, hm⟩ := need_some hm
        refine W_sliceR (α := ByteArray) (l := 0) (h := ((k105 : Int) : Int).toNat) (xs := sources) rfl rfl Proofs.Try.runUnderlying22 Proofs.Try.sizeOf9 rfl (h6.mono hle129) (by omega) (by omega) (.inl rfl) (fun cap hcap => by rw [if_pos rfl]; exact (.inl ⟨rfl, rfl⟩)) (fun m hmm => (.inr ⟨_, _, _, rfl, rfl, by omega, by omega, rfl⟩)) (.inl ⟨rfl, rfl⟩) ?_
        intro v145 h146 hc147
        refine W_move rfl rfl rfl ?_
        obtain ⟨r148, hc149, hm⟩ := bind_some hm
        refine W_call Proofs.Try.call52 rfl rfl rfl (fun w ht => by have h := m_slices_Contains_string_string_c (hm := hc149) h146 ht; exact h) ?_
        rintro _ _ _ ⟨rfl, rfl, rfl⟩
        refine W_assign rfl rfl rfl ?_
        refine W_end ?_
        refine E_then ?_
        refine C_cond (b := r148) rfl (fun hb150 => ?_) (fun hb150 => ?_)
        · have hm := ite_t' hb150 hm
          refine C_seq ?_
          refine C_region ?_
          refine W_assign rfl rfl rfl ?_
          refine W_end ?_
          refine E_then ?_
          refine C_ret ?_
          refine E_ret_block ?_
          refine E_ret_block ?_
          refine E_ret_then ?_
          refine E_ret_then ?_
          refine E_ret_block ?_
          refine E_ret_then ?_
          obtain rfl := Option.some.inj hm
          refine E_drop (List.Sublist.cons _ (List.Sublist.refl _)) ?_
          refine E_weak hle129 ?_
          exact end1 rfl rfl ⟨rfl, rfl, rfl⟩
        · have hm := ite_f' hb150 hm
          refine C_skip ?_
          refine E_normal_block ?_
          refine E_normal_block ?_
          refine E_then ?_
          refine C_region ?_
          refine W_bin rfl rfl rfl rfl rfl ?_
          refine W_move rfl rfl rfl ?_
          refine W_end ?_
          exact E_keepJ (E_back (Nat.lt_succ_self _) ⟨k105 + 1, zs135, hd138, rfl, (by rw [hn132]; exact hm), hle129, rfl, rfl⟩) (List.Perm.refl _) ⟨rfl, rfl, rfl, rfl, (congrArg (fun z => some (Value.int .i64 z)) (i64_succ hy136 ((h6.mono hle129)).lenMax)), trivial⟩
    · obtain rfl := rng_f hd137 hb139
      have hm : (some 0) = some r := hm
      refine C_exit (E_exit_then ?_)
      refine E_exit_then ?_
      refine E_exit_hit ?_
      refine E_then ?_
      refine C_seq ?_
      refine C_region ?_
      refine W_assign rfl rfl rfl ?_
      refine W_end ?_
      refine E_then ?_
      refine C_ret ?_
      obtain rfl := Option.some.inj hm
      refine E_drop (List.Sublist.cons _ (List.Sublist.refl _)) ?_
      refine E_weak hle129 ?_
      exact end1 rfl rfl ⟨rfl, rfl, rfl⟩

theorem m_blackstart_path_1_c {B : Nat} {w0 w : World} {H : Hp} {M : List Res} {p0_s : ByteArray} {p1_c1 : (List Int)} {p2_c2 : S_api_Network} {b0 : Nat} {v0 : Value} {b1 : Nat} {v1 : Value} {v2 : Value} {v3 : Value} {v4 : Value} {v5 : Value} {v6 : Value} {r : Int} (hm : m_blackstart_path_1 p0_s p1_c1 p2_c2 = some r) (h0 : RdS H v0 p1_c1) (h1 : RdS H v1 p2_c2.Nodes) (h2 : RdS H v2 p2_c2.Switches) (h3 : RdS H v3 p2_c2.Branches) (h4 : RdS H v4 p2_c2.Gens) (h5 : RdS H v5 p2_c2.Loads) (h6 : RdS H v6 p2_c2.Stores) (ht : St B w0 H (.obj b0 (.cells [v0].toArray 30 (0, 0)) :: .obj b1 (.cells [v1, v2, v3, v4, v5, v6].toArray 29 (0, 0)) :: M) w) :
    Calls Proofs.Try.prog 71 [.string (p0_s), .pointer (some ⟨b0, 0, none⟩), .pointer (some ⟨b1, 0, none⟩)].toArray w (Ret B w0 fun H' M' v => H = H' ∧ .obj b0 (.cells [v0].toArray 30 (0, 0)) :: .obj b1 (.cells [v1, v2, v3, v4, v5, v6].toArray 29 (0, 0)) :: M = M' ∧ .int .i64 (r) = v) := by
  unfold m_blackstart_path_1 at hm
  refine enter Proofs.Try.func71 rfl rfl rfl ht ?_
  refine C_seq ?_
  refine C_region ?_
  refine W_assign rfl rfl rfl ?_
  refine W_end ?_
  refine E_then ?_
  refine C_seq ?_
  obtain ⟨r101, hc102, hm⟩ := bind_some hm
  refine C_region_tok0 5 (phiT [(fun H rs v => [] = rs ∧ v0 = v), (fun H rs v => [] = rs ∧ .pointer (some ⟨b1, 0, none⟩) = v), (fun H rs v => [] = rs ∧ v1 = v), (fun H rs v => [] = rs ∧ .string (p0_s) = v), (fun H rs v => [] = rs ∧ .int .i64 (r101) = v)]) [[], [], [], [], []] [[], [], [], [], []] [] [0, 1, 2, 3, 4] Facts.mixed (by kernel_rfl) rfl rfl rfl (by kernel_rfl) (phiT_mono ⟨eq_monoT _ _, eq_monoT _ _, eq_monoT _ _, eq_monoT _ _, eq_monoT _ _, trivial⟩) ⟨?_, ?_, ?_, ?_, ?_, trivial⟩ ?_
  · intro HX hX X Rest hR
    intro hU
    refine W_load rfl rfl Proofs.Try.isAgg30 rfl (own_at (hR _ (List.mem_cons_self ..)) rfl) ?_
    exact W_end (OneT_end [] (Hp.le_refl _) ⟨rfl, rfl⟩)
  · intro HX hX X Rest hR
    intro hU
    refine W_field (o := 0) rfl rfl Proofs.Try.runUnderlying29 rfl Proofs.Try.sizeOf22 rfl rfl rfl ?_
    exact W_end (OneT_end [] (Hp.le_refl _) ⟨rfl, rfl⟩)
  · intro HX hX X Rest hR
    rintro _ _ ⟨rfl, rfl⟩
    intro hU
    refine W_load rfl rfl Proofs.Try.isAgg22 rfl (own_at (hR _ (List.mem_cons_of_mem _ (List.mem_cons_self ..))) rfl) ?_
    exact W_end (OneT_end [] (Hp.le_refl _) ⟨rfl, rfl⟩)
  · intro HX hX X Rest hR
    intro hU
    refine W_move rfl rfl rfl ?_
    exact W_end (OneT_end [] (Hp.le_refl _) ⟨rfl, rfl⟩)
  · intro HX hX X Rest hR
    rintro _ _ ⟨rfl, rfl⟩
    rintro _ _ ⟨rfl, rfl⟩
    intro hU
    refine W_call Proofs.Try.call50 rfl rfl rfl (fun w ht => by have h := m_slices_Index_string_string_c (hm := hc102) (h1.mono hX) ht; exact h) ?_
    rintro _ _ _ ⟨rfl, rfl, rfl⟩
    exact W_end (OneT_end [] (Hp.le_refl _) ⟨rfl, rfl⟩)
  intro H103 hle104
  rintro _ _ ⟨rfl, rfl⟩
  rintro _ _ ⟨rfl, rfl⟩
  rintro _ _ ⟨rfl, rfl⟩
  rintro _ _ ⟨rfl, rfl⟩
  rintro _ _ ⟨rfl, rfl⟩
  obtain ⟨y105, h106, he107, hm⟩ := idx_some hm
  obtain ⟨_, rfl, hc108⟩ := (h0).elem he107
  refine W_indexS rfl rfl Proofs.Try.runUnderlying30 Proofs.Try.sizeOf3 rfl (h0.mono hle104) rfl h106 he107 ?_
  refine W_load rfl rfl Proofs.Try.isAgg3 rfl (HCells.one (hc108.mono hle104) 0 rfl).at ?_
  refine W_assign rfl rfl rfl ?_
  refine W_end ?_
  refine E_then ?_
  refine C_ret ?_
  obtain rfl := Option.some.inj hm
  refine E_weak hle104 ?_
  exact end1 rfl rfl ⟨rfl, rfl, rfl⟩

theorem m_graph_all_c {B : Nat} {w0 w : World} {H : Hp} {M : List Res} {p0_l : (List S_A2_Int)} {v0 : Value} {r : (List Int)} (hm : m_graph_all p0_l = some r) (h0 : RdS H v0 p0_l) (ht : St B w0 H (M) w) :
    Calls Proofs.Try.prog 92 [v0].toArray w (Ret B w0 fun H' M' v => H = H' ∧ ∃ qv0 : Value, ∃ qxs0 : List Value, .row qv0 3 (Rep.sz Int) r.length qxs0 :: M = M' ∧ qv0 = v ∧ RwF qv0 qxs0 r) := by
  unfold m_graph_all at hm
  refine enter Proofs.Try.func92 rfl rfl rfl ht ?_
  refine C_seq ?_
  refine C_region ?_
  refine W_assign rfl rfl rfl ?_
  refine W_end ?_
  refine E_then ?_
  refine C_seq ?_
  refine C_region ?_
  refine W_move rfl rfl rfl ?_
  refine W_lenR rfl rfl Proofs.Try.runUnderlying117 rfl h0 ?_
  obtain ⟨hz101, hm⟩ := need_some hm
  refine W_makeSlice (α := Int) (zs := [.int .i64 (0)]) (ze := 0) rfl rfl Proofs.Try.underlying30 ⟨_, rfl, rfl, rfl, rfl⟩ rfl rfl rfl rfl rfl rfl hz101.1 hz101.2 ?_
  intro v102 xs103 hr104
  refine W_assign rfl rfl rfl ?_
  refine W_end ?_
  refine E_then ?_
  refine C_seq ?_
  refine C_seq ?_
  refine C_region ?_
  refine W_move rfl rfl rfl ?_
  refine W_lenO (List.mem_cons_self ..) rfl rfl Proofs.Try.runUnderlying30 rfl ?_
  refine W_move rfl rfl rfl ?_
  refine W_end ?_
  refine E_then ?_
  refine C_block ?_
  refine C_rowMax (List.mem_cons_self ..) (fun hmx140 => ?_)
  refine C_keep (L' := [(3, v102), (9, .int .i64 (((List.replicate ((p0_l.length : Int) : Int).toNat (0 : Int)).length : Int))), (10, .int .i64 (((0 : Nat) : Int)))]) ⟨rfl, rfl, rfl, trivial⟩ (List.Perm.refl _) ?_
  refine C_loop (fun n H' M' L' => ∃ (k105 : Nat) (zs142' : Nat), ∃ l132 : List Int, ∃ xs131 : List Value, k105 + zs142' = (((List.replicate ((p0_l.length : Int) : Int).toNat (0 : Int)).length : Int) : Int).toNat ∧ zs142' = n ∧ forN (fun k s136 n => m_graph_all_b1 k s136 n) (fun s136 => some s136) zs142' k105 l132 = some r ∧ Rw H' v102 xs131 l132 ∧ H.le H' ∧ .row v102 3 (Rep.sz Int) l132.length xs131 :: M = M' ∧ [(3, v102), (9, .int .i64 (((List.replicate ((p0_l.length : Int) : Int).toNat (0 : Int)).length : Int))), (10, .int .i64 ((k105 : Int)))] = L') _ ⟨0, _, (List.replicate ((p0_l.length : Int) : Int).toNat (0 : Int)), xs103, Nat.zero_add _, rfl, hm, hr104, (Hp.le_refl _), rfl, rfl⟩ ?_
  rintro _ H134 _ _ ⟨k105, zs142', l132, xs131, hd144, rfl, hm, hr133, hle135, rfl, rfl⟩
  refine C_seq ?_
  refine C_region ?_
  refine W_bin rfl rfl rfl rfl rfl ?_
  refine W_end (E_then ?_)
  refine C_seq ?_
  refine C_cond (b := decide ((k105 : Int) < ((List.replicate ((p0_l.length : Int) : Int).toNat (0 : Int)).length : Int))) rfl (fun hb146 => ?_) (fun hb146 => ?_)
  · obtain ⟨zs142, rfl, hd145, hy143⟩ := rngN_t hd144 hb146
    have hm : m_graph_all_b1 k105 l132 (forN (fun k s136 n => m_graph_all_b1 k s136 n) (fun s136 => some s136) zs142 (k105 + 1)) = some r := hm
    generalize hn138 : forN (fun k s136 n => m_graph_all_b1 k s136 n) (fun s136 => some s136) zs142 (k105 + 1) = nx137 at hm
    unfold m_graph_all_b1 at hm
    refine C_skip (E_then ?_)
    refine C_seq ?_
    refine C_block ?_
    refine C_seq ?_
    refine C_region ?_
    refine W_move rfl rfl rfl ?_
    refine W_assign rfl rfl rfl ?_
    refine W_end ?_
    refine E_then ?_
    refine C_region ?_
    refine W_move rfl rfl rfl ?_
    refine W_move rfl rfl rfl ?_
    refine W_move rfl rfl rfl ?_
    obtain ⟨y147, h148, he149, hm⟩ := idx_some hm
    refine W_indexO (List.mem_cons_self ..) rfl rfl Proofs.Try.runUnderlying30 Proofs.Try.sizeOf3 rfl rfl h148 (List.getElem?_eq_some_iff.1 he149).1 ?_
    obtain ⟨_, rfl, hg150⟩ := (hr133).elem he149
    obtain ⟨hr151, he152, hg153⟩ := Rw.put (cs := [.int .i64 ((k105 : Int))]) (o := 0) (c := [.int .i64 (y147)]) (out := [.int .i64 ((k105 : Int))]) (e2 := ((k105 : Int))) hr133 he149 rfl hg150 rfl rfl rfl
    refine W_storeO2 (i := ((k105 : Int) : Int).toNat * Rep.sz Int + 0) (cs := [.int .i64 ((k105 : Int))]) rfl Proofs.Try.sizeOf3 rfl (row_ad0 _ _) rfl rfl rfl (Rw.room hr133 he149 rfl) rfl (all_cons rfl all_nil) (n' := (l132.set (((k105 : Int) : Int).toNat) ((k105 : Int))).length) List.length_set ?_
    generalize over xs131 (((k105 : Int) : Int).toNat * Rep.sz Int + 0) [.int .i64 ((k105 : Int))] = xs154 at hr151 hg153 ⊢
    refine W_end ?_
    refine E_normal_block ?_
    refine E_then ?_
    refine C_region ?_
    refine W_bin rfl rfl rfl rfl rfl ?_
    refine W_move rfl rfl rfl ?_
    refine W_end ?_
    exact E_keepJ (E_back (Nat.lt_succ_self _) ⟨k105 + 1, zs142, (l132.set (((k105 : Int) : Int).toNat) ((k105 : Int))), xs154, hd145, rfl, (by rw [hn138]; exact hm), hr151, hle135, rfl, rfl⟩) (List.Perm.refl _) ⟨rfl, rfl, (congrArg (fun z => some (Value.int .i64 z)) (i64_succN hy143 (toNat_max (len_max hmx140)))), trivial⟩
  · obtain rfl := rngN_f hd144 hb146
    have hm : (some l132) = some r := hm
    refine C_exit (E_exit_then ?_)
    refine E_exit_then ?_
    refine E_exit_hit ?_
    refine E_then ?_
    refine C_seq ?_
    refine C_region ?_
    refine W_move rfl rfl rfl ?_
    refine W_assign rfl rfl rfl ?_
    refine W_end ?_
    refine E_then ?_
    refine C_ret ?_
    obtain rfl := Option.some.inj hm
    refine E_weak hle135 ?_
    exact end1 rfl rfl ⟨rfl, v102, xs131, rfl, rfl, (hr133).toF⟩

theorem m_graph_path_c {B : Nat} {w0 w : World} {H : Hp} {M : List Res} {p0_n : Int} {p1_l : (List S_A2_Int)} {edges : (List Int)} {p3_from : Int} {to : Int} {v0 : Value} {v1 : Value} {r : (List Int) × Bool} (hm : m_graph_path p0_n p1_l edges p3_from to = some r) (h0 : RdS H v0 p1_l) (h1 : RdS H v1 edges) (ht : St B w0 H (M) w) :
    Calls Proofs.Try.prog 91 [.int .i64 (p0_n), v0, v1, .int .i64 (p3_from), .int .i64 (to)].toArray w (Ret B w0 fun H' M' v => H = H' ∧ ∃ qv0 : Value, ∃ qxs0 : List Value, .row qv0 3 (Rep.sz Int) r.1.length qxs0 :: M = M' ∧ .tuple #[qv0, .bool (r.2)] = v ∧ RwF qv0 qxs0 r.1) := by
  unfold m_graph_path at hm
  refine enter Proofs.Try.func91 rfl rfl rfl ht ?_
  refine C_seq ?_
  refine C_region ?_
  refine W_assign rfl rfl rfl ?_
  refine W_assign rfl rfl rfl ?_
  refine W_end ?_
  refine E_then ?_
  refine C_seq ?_
  refine C_region ?_
  refine W_buildSliceO (α := Int) (css := [[.int .i64 ((-1))]]) (zs := [.int .i64 (0)]) (out := [.int .i64 ((-1))]) (ys := [((-1))]) rfl rfl rfl ⟨rfl, trivial⟩ Proofs.Try.runUnderlying30 Proofs.Try.sizeOf3 rfl Proofs.Try.zeroValue3 (by kernel_rfl) rfl rfl rfl rfl ⟨[.int .i64 ((-1))], [], rfl, rfl, rfl⟩ rfl ?_
  intro v101 xs102 hr103
  refine W_move rfl rfl rfl ?_
  obtain ⟨hz104, hm⟩ := need_some hm
  refine W_call Proofs.Try.call93 rfl rfl rfl (fun w ht => by obtain ⟨H0_, hl0_, ht0_, hr0_, bk0_⟩ := ht.lendRow hr103 rfl; have h := repeat93_c hr0_ hz104 ht0_; exact lend_back bk0_ h) ?_
  rintro _ _ _ ⟨rfl, _, rfl, v105, xs106, rfl, rfl, hr107⟩
  have hr107 := hr107 H
  refine W_assign rfl rfl rfl ?_
  refine W_end ?_
  refine E_then ?_
  refine C_seq ?_
  refine C_region ?_
  refine W_move rfl rfl rfl ?_
  refine W_move rfl rfl rfl ?_
  obtain ⟨y108, h109, he110, hm⟩ := idx_some hm
  refine W_indexO (List.mem_cons_of_mem _ (List.mem_cons_self ..)) rfl rfl Proofs.Try.runUnderlying30 Proofs.Try.sizeOf3 rfl rfl h109 (List.getElem?_eq_some_iff.1 he110).1 ?_
  obtain ⟨_, rfl, hg111⟩ := (hr107).elem he110
  refine W_perm (List.Perm.swap _ _ _) ?_
  obtain ⟨hr112, he113, hg114⟩ := Rw.put (cs := [.int .i64 (0)]) (o := 0) (c := [.int .i64 (y108)]) (out := [.int .i64 (0)]) (e2 := 0) hr107 he110 rfl hg111 rfl rfl rfl
  refine W_storeO2 (i := (to : Int).toNat * Rep.sz Int + 0) (cs := [.int .i64 (0)]) rfl Proofs.Try.sizeOf3 rfl (row_ad0 _ _) rfl rfl rfl (Rw.room hr107 he110 rfl) rfl (all_cons rfl all_nil) (n' := ((repL ([((-1))]) p0_n).set ((to : Int).toNat) 0).length) List.length_set ?_
  generalize over xs106 ((to : Int).toNat * Rep.sz Int + 0) [.int .i64 (0)] = xs115 at hr112 hg114 ⊢
  refine W_end ?_
  refine E_then ?_
  refine C_seq ?_
  refine C_seq ?_
  refine C_region ?_
  refine W_move rfl rfl rfl ?_
  refine W_buildSliceO (α := Int) (css := [[.int .i64 (to)]]) (zs := [.int .i64 (0)]) (out := [.int .i64 (to)]) (ys := [to]) rfl rfl rfl ⟨rfl, trivial⟩ Proofs.Try.runUnderlying30 Proofs.Try.sizeOf3 rfl Proofs.Try.zeroValue3 (by kernel_rfl) rfl rfl rfl rfl ⟨[.int .i64 (to)], [], rfl, rfl, rfl⟩ rfl ?_
  intro v116 xs117 hr118
  refine W_assign rfl rfl rfl ?_
  refine W_end ?_
  refine E_then ?_
  refine C_block ?_
  refine C_drop (List.Sublist.cons_cons _ (List.Sublist.cons_cons _ (List.Sublist.cons _ (List.Sublist.refl _)))) ?_
  refine C_keep (L' := [(1, v0), (2, v1), (3, .int .i64 (p3_from)), (4, .int .i64 (to)), (12, v105), (13, v116)]) ⟨rfl, rfl, rfl, rfl, rfl, rfl, trivial⟩ (List.Perm.swap _ _ _) ?_
  refine C_loop (fun n H' M' L' => ∃ l1075 : List Int, ∃ l1079 : List Int, ∃ xs1074 : List Value, ∃ v1077 : Value, ∃ xs1078 : List Value, loopF (fun s1083 n => m_graph_path_b9 p1_l edges p3_from to s1083.1 s1083.2 n) n (l1075, l1079) = some r ∧ Rw H' v105 xs1074 l1075 ∧ Rw H' v1077 xs1078 l1079 ∧ H.le H' ∧ .row v105 3 (Rep.sz Int) l1075.length xs1074 :: .row v1077 3 (Rep.sz Int) l1079.length xs1078 :: M = M' ∧ [(1, v0), (2, v1), (3, .int .i64 (p3_from)), (4, .int .i64 (to)), (12, v105), (13, v1077)] = L') FUEL ⟨((repL ([((-1))]) p0_n).set ((to : Int).toNat) 0), ([to]), xs115, v116, xs117, hm, hr112, hr118, (Hp.le_refl _), rfl, rfl⟩ ?_
  rintro n1086 H1081 _ _ ⟨l1075, l1079, xs1074, v1077, xs1078, hm, hr1076, hr1080, hle1082, rfl, rfl⟩
  cases n1086 with
  | zero => cases hm
  | succ n1086 =>
    have hm : m_graph_path_b9 p1_l edges p3_from to l1075 l1079 (loopF (fun s1083 n => m_graph_path_b9 p1_l edges p3_from to s1083.1 s1083.2 n) n1086) = some r := hm
    generalize hn1085 : loopF (fun s1083 n => m_graph_path_b9 p1_l edges p3_from to s1083.1 s1083.2 n) n1086 = nx1084 at hm
    unfold m_graph_path_b9 at hm
    refine C_seq ?_
    refine C_seq ?_
    refine C_region ?_
    refine W_move rfl rfl rfl ?_
    refine W_lenO (List.mem_cons_of_mem _ (List.mem_cons_self ..)) rfl rfl Proofs.Try.runUnderlying30 rfl ?_
    refine W_bin rfl rfl rfl rfl rfl ?_
    refine W_end ?_
    refine E_then ?_
    refine C_cond (b := decide (0 < (l1079.length : Int))) rfl (fun hb1092 => ?_) (fun hb1092 => ?_)
    · have hm := ite_t' hb1092 hm
      refine C_skip ?_
      refine E_then ?_
      refine C_block ?_
      refine C_seq ?_
      refine C_region ?_
      refine W_move rfl rfl rfl ?_
      obtain ⟨y1093, h1094, he1095, hm⟩ := idx_some hm
      refine W_indexO (List.mem_cons_of_mem _ (List.mem_cons_self ..)) rfl rfl Proofs.Try.runUnderlying30 Proofs.Try.sizeOf3 rfl rfl h1094 (List.getElem?_eq_some_iff.1 he1095).1 ?_
      obtain ⟨_, rfl, hg1096⟩ := (hr1080).elem he1095
      refine W_load rfl rfl Proofs.Try.isAgg3 rfl (row_one0 (List.mem_cons_of_mem _ (List.mem_cons_self ..)) hg1096 rfl) ?_
      refine W_assign rfl rfl rfl ?_
      refine W_end ?_
      refine E_then ?_
      refine C_seq ?_
      refine C_region ?_
      refine W_move rfl rfl rfl ?_
      obtain ⟨hz1097, hm⟩ := need_some hm
      refine W_perm (List.Perm.swap _ _ _) ?_
      refine W_sliceO (α := Int) (l := (1 : Int).toNat) (h := l1079.length) rfl rfl Proofs.Try.runUnderlying30 Proofs.Try.sizeOf3 rfl rfl hr1080 (by omega) (by omega) (fun m hmm => (.inl ⟨rfl, rfl⟩)) (.inr ⟨_, _, _, rfl, rfl, by omega, by omega, rfl⟩) ?_
      intro v1098 xs1099 hr1100
      refine W_assign rfl rfl rfl ?_
      refine W_end ?_
      refine E_then ?_
      refine C_seq ?_
      refine C_region ?_
      refine W_move rfl rfl rfl ?_
      refine W_lenR rfl rfl Proofs.Try.runUnderlying30 rfl (h1.mono hle1082) ?_
      refine W_move rfl rfl rfl ?_
      refine W_end ?_
      refine E_then ?_
      refine C_block ?_
      refine C_keep (L' := [(1, v0), (2, v1), (3, .int .i64 (p3_from)), (4, .int .i64 (to)), (12, v105), (13, v1098), (14, .int .i64 (y1093)), (41, v1), (42, .int .i64 ((edges.length : Int))), (43, .int .i64 (((0 : Nat) : Int)))]) ⟨rfl, rfl, rfl, rfl, rfl, rfl, rfl, rfl, rfl, rfl, trivial⟩ (List.Perm.swap _ _ _) ?_
      refine C_loop (fun n H' M' L' => ∃ (k1101 : Nat) (zs1415' : List Int), ∃ l1402 : List Int, ∃ l1406 : List Int, ∃ xs1401 : List Value, ∃ v1404 : Value, ∃ xs1405 : List Value, (edges).drop k1101 = zs1415' ∧ zs1415'.length = n ∧ forI (fun k y s1410 n => m_graph_path_b12 p1_l y1093 k y s1410.1 s1410.2 n) (fun s1410 => nx1084 (s1410.1, s1410.2)) k1101 zs1415' (l1402, l1406) = some r ∧ Rw H' v105 xs1401 l1402 ∧ Rw H' v1404 xs1405 l1406 ∧ H1081.le H' ∧ .row v105 3 (Rep.sz Int) l1402.length xs1401 :: .row v1404 3 (Rep.sz Int) l1406.length xs1405 :: M = M' ∧ [(1, v0), (2, v1), (3, .int .i64 (p3_from)), (4, .int .i64 (to)), (12, v105), (13, v1404), (14, .int .i64 (y1093)), (41, v1), (42, .int .i64 ((edges.length : Int))), (43, .int .i64 ((k1101 : Int)))] = L') _ ⟨0, _, l1075, (slc l1079 (1 : Int).toNat l1079.length), xs1074, v1098, xs1099, rfl, rfl, hm, hr1076, hr1100, (Hp.le_refl _), rfl, rfl⟩ ?_
      rintro _ H1408 _ _ ⟨k1101, zs1415', l1402, l1406, xs1401, v1404, xs1405, hd1417, rfl, hm, hr1403, hr1407, hle1409, rfl, rfl⟩
      refine C_seq ?_
      refine C_region ?_
      refine W_bin rfl rfl rfl rfl rfl ?_
      refine W_end (E_then ?_)
      refine C_seq ?_
      refine C_cond (b := decide ((k1101 : Int) < (edges.length : Int))) rfl (fun hb1419 => ?_) (fun hb1419 => ?_)
      · obtain ⟨y1414, zs1415, rfl, hy1416, hd1418⟩ := rng_t hd1417 hb1419
        have hm : m_graph_path_b12 p1_l y1093 k1101 y1414 l1402 l1406 (forI (fun k y s1410 n => m_graph_path_b12 p1_l y1093 k y s1410.1 s1410.2 n) (fun s1410 => nx1084 (s1410.1, s1410.2)) (k1101 + 1) zs1415) = some r := hm
        generalize hn1412 : forI (fun k y s1410 n => m_graph_path_b12 p1_l y1093 k y s1410.1 s1410.2 n) (fun s1410 => nx1084 (s1410.1, s1410.2)) (k1101 + 1) zs1415 = nx1411 at hm
        unfold m_graph_path_b12 at hm
        refine C_skip (E_then ?_)
        refine C_seq_join (fun H' M' L' => ∃ l1486 : List Int, ∃ l1490 : List Int, ∃ xs1485 : List Value, ∃ v1488 : Value, ∃ xs1489 : List Value, m_graph_path_b13 nx1411 l1486 l1490 = some r ∧ Rw H' v105 xs1485 l1486 ∧ Rw H' v1488 xs1489 l1490 ∧ H1408.le H' ∧ .row v105 3 (Rep.sz Int) l1486.length xs1485 :: .row v1488 3 (Rep.sz Int) l1490.length xs1489 :: M = M' ∧ [(1, v0), (2, v1), (3, .int .i64 (p3_from)), (4, .int .i64 (to)), (12, v105), (13, v1488), (14, .int .i64 (y1093)), (41, v1), (42, .int .i64 ((edges.length : Int))), (43, .int .i64 ((k1101 : Int)))] = L') ?_ (fun J1494 => ?_)
        · rintro H1492 _ _ ⟨l1486, l1490, xs1485, v1488, xs1489, hm, hr1487, hr1491, hle1493, rfl, rfl⟩
          unfold m_graph_path_b13 at hm
          refine C_region ?_
          refine W_bin rfl rfl rfl rfl rfl ?_
          refine W_move rfl rfl rfl ?_
          refine W_end ?_
          exact E_keepJ (E_back (Nat.lt_succ_self _) ⟨k1101 + 1, zs1415, l1486, l1490, xs1485, v1488, xs1489, hd1418, rfl, (by rw [hn1412]; exact hm), hr1487, hr1491, (Hp.le_trans hle1409 hle1493), rfl, rfl⟩) (List.Perm.refl _) ⟨rfl, rfl, rfl, rfl, rfl, rfl, rfl, rfl, rfl, (congrArg (fun z => some (Value.int .i64 z)) (i64_succ hy1416 (((h1.mono hle1082).mono hle1409)).lenMax)), trivial⟩
        · refine C_block ?_
          refine C_seq ?_
          refine C_region ?_
          obtain ⟨_, rfl, hc1495⟩ := (h1).elem hy1416
          refine W_indexS rfl rfl Proofs.Try.runUnderlying30 Proofs.Try.sizeOf3 rfl ((h1.mono hle1082).mono hle1409) rfl (Int.natCast_nonneg _) hy1416 ?_
          refine W_load rfl rfl Proofs.Try.isAgg3 rfl (HCells.one ((hc1495.mono hle1082).mono hle1409) 0 rfl).at ?_
          refine W_assign rfl rfl rfl ?_
          refine W_end ?_
          refine E_then ?_
          refine C_seq ?_
          refine C_region ?_
          refine W_move rfl rfl rfl ?_
          refine W_move rfl rfl rfl ?_
          obtain ⟨y1496, h1497, he1498, hm⟩ := idx_some hm
          obtain ⟨_, ⟨rfl⟩, hc1499⟩ := (h0).elem he1498
          refine W_indexS rfl rfl Proofs.Try.runUnderlying117 Proofs.Try.sizeOf118 rfl ((h0.mono hle1082).mono hle1409) rfl h1497 he1498 ?_
          refine W_loadAgg rfl rfl Proofs.Try.isAgg118 Proofs.Try.sizeOf118 rfl ((hc1499.mono hle1082).mono hle1409).at rfl ?_
          refine W_alloc (cs := [.int .i64 (0), .int .i64 (0)]) rfl rfl Proofs.Try.zeroValue118 rfl (fun b1500 => ?_)
          refine W_store (cs := [.int .i64 (y1496.a0), .int .i64 (y1496.a1)]) (out := [.int .i64 (y1496.a0), .int .i64 (y1496.a1)]) rfl Proofs.Try.sizeOf118 rfl rfl rfl rfl rfl (all_cons rfl (all_cons rfl all_nil)) (over_all rfl) ?_
          refine W_end ?_
          refine E_then ?_
          refine C_seq ?_
          refine C_region ?_
          refine W_indexAd rfl rfl Proofs.Try.runUnderlying118 Proofs.Try.sizeOf3 rfl rfl (by decide) (by decide) ?_
          refine W_load rfl rfl Proofs.Try.isAgg3 rfl (own_at (List.mem_cons_self ..) rfl) ?_
          refine W_move rfl rfl rfl ?_
          refine W_bin rfl rfl rfl rfl rfl ?_
          refine W_move rfl rfl rfl ?_
          cases hb1501 : (decide (y1496.a0 = y1093))
          · have hm := ite_f' hb1501 hm
            refine W_indexAd rfl rfl Proofs.Try.runUnderlying118 Proofs.Try.sizeOf3 rfl rfl (by decide) (by decide) ?_
            refine W_load rfl rfl Proofs.Try.isAgg3 rfl (own_at (List.mem_cons_self ..) rfl) ?_
            refine W_move rfl rfl rfl ?_
            refine W_bin rfl rfl rfl rfl rfl ?_
            refine W_pick rfl rfl rfl rfl ?_
            refine W_end ?_
            refine E_then ?_
            refine C_cond (b := decide (y1496.a1 = y1093)) rfl (fun hb1502 => ?_) (fun hb1502 => ?_)
            · have hm := ite_t' hb1502 hm
              refine C_seq ?_
              refine C_region ?_
              refine W_indexAd rfl rfl Proofs.Try.runUnderlying118 Proofs.Try.sizeOf3 rfl rfl (by decide) (by decide) ?_
              refine W_load rfl rfl Proofs.Try.isAgg3 rfl (own_at (List.mem_cons_self ..) rfl) ?_
              refine W_indexAd rfl rfl Proofs.Try.runUnderlying118 Proofs.Try.sizeOf3 rfl rfl (by decide) (by decide) ?_
              refine W_load rfl rfl Proofs.Try.isAgg3 rfl (own_at (List.mem_cons_self ..) rfl) ?_
              refine W_bin rfl rfl rfl rfl rfl ?_
              refine W_move rfl rfl rfl ?_
              refine W_bin rfl rfl rfl rfl rfl ?_
              refine W_assign rfl rfl rfl ?_
              refine W_end ?_
              refine E_then ?_
              refine C_seq ?_
              refine C_region ?_
              refine W_move rfl rfl rfl ?_
              refine W_move rfl rfl rfl ?_
              obtain ⟨y1503, h1504, he1505, hm⟩ := idx_some hm
              refine W_indexO (List.mem_cons_of_mem _ (List.mem_cons_self ..)) rfl rfl Proofs.Try.runUnderlying30 Proofs.Try.sizeOf3 rfl rfl h1504 (List.getElem?_eq_some_iff.1 he1505).1 ?_
              obtain ⟨_, rfl, hg1506⟩ := (hr1403).elem he1505
              refine W_load rfl rfl Proofs.Try.isAgg3 rfl (row_one0 (List.mem_cons_of_mem _ (List.mem_cons_self ..)) hg1506 rfl) ?_
              refine W_bin rfl rfl rfl rfl rfl ?_
              refine W_end ?_
              refine E_then ?_
              refine C_cond (b := decide (y1503 < 0)) rfl (fun hb1507 => ?_) (fun hb1507 => ?_)
              · have hm := ite_t' hb1507 hm
                refine C_seq ?_
                refine C_region ?_
                refine W_move rfl rfl rfl ?_
                refine W_move rfl rfl rfl ?_
                refine W_move rfl rfl rfl ?_
                refine W_move rfl rfl rfl ?_
                obtain ⟨y1508, h1509, he1510, hm⟩ := idx_some hm
                refine W_indexO (List.mem_cons_of_mem _ (List.mem_cons_self ..)) rfl rfl Proofs.Try.runUnderlying30 Proofs.Try.sizeOf3 rfl rfl h1509 (List.getElem?_eq_some_iff.1 he1510).1 ?_
                obtain ⟨_, rfl, hg1511⟩ := (hr1403).elem he1510
                refine W_load rfl rfl Proofs.Try.isAgg3 rfl (row_one0 (List.mem_cons_of_mem _ (List.mem_cons_self ..)) hg1511 rfl) ?_
                refine W_bin rfl rfl rfl rfl rfl ?_
                obtain ⟨y1512, h1513, he1514, hm⟩ := idx_some hm
                refine W_indexO (List.mem_cons_of_mem _ (List.mem_cons_self ..)) rfl rfl Proofs.Try.runUnderlying30 Proofs.Try.sizeOf3 rfl rfl h1513 (List.getElem?_eq_some_iff.1 he1514).1 ?_
                obtain ⟨_, rfl, hg1515⟩ := (hr1403).elem he1514
                refine W_perm (List.Perm.swap _ _ _) ?_
                obtain ⟨hr1516, he1517, hg1518⟩ := Rw.put (cs := [.int .i64 (IntKind.i64.wrap (y1508 + 1))]) (o := 0) (c := [.int .i64 (y1512)]) (out := [.int .i64 (IntKind.i64.wrap (y1508 + 1))]) (e2 := (IntKind.i64.wrap (y1508 + 1))) hr1403 he1514 rfl hg1515 rfl rfl rfl
                refine W_storeO2 (i := (IntKind.i64.wrap ((IntKind.i64.wrap (y1496.a0 + y1496.a1)) - y1093) : Int).toNat * Rep.sz Int + 0) (cs := [.int .i64 (IntKind.i64.wrap (y1508 + 1))]) rfl Proofs.Try.sizeOf3 rfl (row_ad0 _ _) rfl rfl rfl (Rw.room hr1403 he1514 rfl) rfl (all_cons rfl all_nil) (n' := (l1402.set ((IntKind.i64.wrap ((IntKind.i64.wrap (y1496.a0 + y1496.a1)) - y1093) : Int).toNat) (IntKind.i64.wrap (y1508 + 1))).length) List.length_set ?_
                generalize over xs1401 ((IntKind.i64.wrap ((IntKind.i64.wrap (y1496.a0 + y1496.a1)) - y1093) : Int).toNat * Rep.sz Int + 0) [.int .i64 (IntKind.i64.wrap (y1508 + 1))] = xs1519 at hr1516 hg1518 ⊢
                refine W_end ?_
                refine E_then ?_
                refine C_region ?_
                refine W_move rfl rfl rfl ?_
                refine W_move rfl rfl rfl ?_
                refine W_buildSlice (α := Int) (css := [[.int .i64 (IntKind.i64.wrap ((IntKind.i64.wrap (y1496.a0 + y1496.a1)) - y1093))]]) (zs := [.int .i64 (0)]) (out := [.int .i64 (IntKind.i64.wrap ((IntKind.i64.wrap (y1496.a0 + y1496.a1)) - y1093))]) (ys := [(IntKind.i64.wrap ((IntKind.i64.wrap (y1496.a0 + y1496.a1)) - y1093))]) rfl rfl rfl ⟨rfl, trivial⟩ Proofs.Try.runUnderlying30 Proofs.Try.sizeOf3 rfl Proofs.Try.zeroValue3 (by kernel_rfl) rfl rfl rfl rfl ⟨[.int .i64 (IntKind.i64.wrap ((IntKind.i64.wrap (y1496.a0 + y1496.a1)) - y1093))], [], rfl, rfl, rfl⟩ rfl ?_
                intro b1520 v1521 H1522 hv1523 hle1524 h1525
                have hc1526 : Value.cap' v1521 = ([(IntKind.i64.wrap ((IntKind.i64.wrap (y1496.a0 + y1496.a1)) - y1093))]).length := by rw [hv1523]; rfl
                obtain ⟨hz1527, hm⟩ := need_some hm
                refine W_perm (List.Perm.trans (List.Perm.cons _ (List.Perm.swap _ _ _)) (List.Perm.swap _ _ _)) ?_
                refine W_appendO (α := Int) (l := l1406) (ys := [(IntKind.i64.wrap ((IntKind.i64.wrap (y1496.a0 + y1496.a1)) - y1093))]) rfl rfl Proofs.Try.underlying30 ⟨_, rfl, rfl, rfl, rfl⟩ rfl rfl rfl rfl rfl (hr1407.mono hle1524) h1525 hz1527 ?_
                intro v1528 xs1529 hr1530
                refine W_assign rfl rfl rfl ?_
                refine W_end ?_
                refine E_normal_block ?_
                refine E_drop (List.Sublist.cons_cons _ (List.Sublist.cons_cons _ (List.Sublist.cons _ (List.Sublist.refl _)))) ?_
                exact E_keepJ (J1494 _ _ _ ⟨(l1402.set ((IntKind.i64.wrap ((IntKind.i64.wrap (y1496.a0 + y1496.a1)) - y1093) : Int).toNat) (IntKind.i64.wrap (y1508 + 1))), (l1406 ++ ([(IntKind.i64.wrap ((IntKind.i64.wrap (y1496.a0 + y1496.a1)) - y1093))])), xs1519, v1528, xs1529, hm, (hr1516.mono hle1524), hr1530, hle1524, rfl, rfl⟩) (List.Perm.swap _ _ _) ⟨rfl, rfl, rfl, rfl, rfl, rfl, rfl, rfl, rfl, rfl, trivial⟩
              · have hm := ite_f' hb1507 hm
                refine C_skip ?_
                refine E_normal_block ?_
                refine E_drop (List.Sublist.cons _ (List.Sublist.refl _)) ?_
                exact E_keepJ (J1494 _ _ _ ⟨l1402, l1406, xs1401, v1404, xs1405, hm, hr1403, hr1407, (Hp.le_refl _), rfl, rfl⟩) (List.Perm.refl _) ⟨rfl, rfl, rfl, rfl, rfl, rfl, rfl, rfl, rfl, rfl, trivial⟩
            · have hm := ite_f' hb1502 hm
              refine C_skip ?_
              refine E_normal_block ?_
              refine E_drop (List.Sublist.cons _ (List.Sublist.refl _)) ?_
              exact E_keepJ (J1494 _ _ _ ⟨l1402, l1406, xs1401, v1404, xs1405, hm, hr1403, hr1407, (Hp.le_refl _), rfl, rfl⟩) (List.Perm.refl _) ⟨rfl, rfl, rfl, rfl, rfl, rfl, rfl, rfl, rfl, rfl, trivial⟩
          · have hm := ite_t' hb1501 hm
            refine W_no rfl rfl rfl ?_
            refine W_no rfl rfl rfl ?_
            refine W_no rfl rfl rfl ?_
            refine W_no rfl rfl rfl ?_
            refine W_pick rfl rfl rfl rfl ?_
            refine W_end ?_
            refine E_then ?_
            refine C_cond (b := true) rfl (fun _ => ?_) (fun hb => Bool.noConfusion hb)
            refine C_seq ?_
            refine C_region ?_
            refine W_indexAd rfl rfl Proofs.Try.runUnderlying118 Proofs.Try.sizeOf3 rfl rfl (by decide) (by decide) ?_
            refine W_load rfl rfl Proofs.Try.isAgg3 rfl (own_at (List.mem_cons_self ..) rfl) ?_
            refine W_indexAd rfl rfl Proofs.Try.runUnderlying118 Proofs.Try.sizeOf3 rfl rfl (by decide) (by decide) ?_
            refine W_load rfl rfl Proofs.Try.isAgg3 rfl (own_at (List.mem_cons_self ..) rfl) ?_
            refine W_bin rfl rfl rfl rfl rfl ?_
            refine W_move rfl rfl rfl ?_
            refine W_bin rfl rfl rfl rfl rfl ?_
            refine W_assign rfl rfl rfl ?_
            refine W_end ?_
            refine E_then ?_
            refine C_seq ?_
            refine C_region ?_
            refine W_move rfl rfl rfl ?_
            refine W_move rfl rfl rfl ?_
            obtain ⟨y1531, h1532, he1533, hm⟩ := idx_some hm
            refine W_indexO (List.mem_cons_of_mem _ (List.mem_cons_self ..)) rfl rfl Proofs.Try.runUnderlying30 Proofs.Try.sizeOf3 rfl rfl h1532 (List.getElem?_eq_some_iff.1 he1533).1 ?_
            obtain ⟨_, rfl, hg1534⟩ := (hr1403).elem he1533
            refine W_load rfl rfl Proofs.Try.isAgg3 rfl (row_one0 (List.mem_cons_of_mem _ (List.mem_cons_self ..)) hg1534 rfl) ?_
            refine W_bin rfl rfl rfl rfl rfl ?_
            refine W_end ?_
            refine E_then ?_
            refine C_cond (b := decide (y1531 < 0)) rfl (fun hb1535 => ?_) (fun hb1535 => ?_)
            · have hm := ite_t' hb1535 hm
              refine C_seq ?_
              refine C_region ?_
              refine W_move rfl rfl rfl ?_
              refine W_move rfl rfl rfl ?_
              refine W_move rfl rfl rfl ?_
              refine W_move rfl rfl rfl ?_
              obtain ⟨y1536, h1537, he1538, hm⟩ := idx_some hm
              refine W_indexO (List.mem_cons_of_mem _ (List.mem_cons_self ..)) rfl rfl Proofs.Try.runUnderlying30 Proofs.Try.sizeOf3 rfl rfl h1537 (List.getElem?_eq_some_iff.1 he1538).1 ?_
              obtain ⟨_, rfl, hg1539⟩ := (hr1403).elem he1538
              refine W_load rfl rfl Proofs.Try.isAgg3 rfl (row_one0 (List.mem_cons_of_mem _ (List.mem_cons_self ..)) hg1539 rfl) ?_
              refine W_bin rfl rfl rfl rfl rfl ?_
              obtain ⟨y1540, h1541, he1542, hm⟩ := idx_some hm
              refine W_indexO (List.mem_cons_of_mem _ (List.mem_cons_self ..)) rfl rfl Proofs.Try.runUnderlying30 Proofs.Try.sizeOf3 rfl rfl h1541 (List.getElem?_eq_some_iff.1 he1542).1 ?_
              obtain ⟨_, rfl, hg1543⟩ := (hr1403).elem he1542
              refine W_perm (List.Perm.swap _ _ _) ?_
              obtain ⟨hr1544, he1545, hg1546⟩ := Rw.put (cs := [.int .i64 (IntKind.i64.wrap (y1536 + 1))]) (o := 0) (c := [.int .i64 (y1540)]) (out := [.int .i64 (IntKind.i64.wrap (y1536 + 1))]) (e2 := (IntKind.i64.wrap (y1536 + 1))) hr1403 he1542 rfl hg1543 rfl rfl rfl
              refine W_storeO2 (i := (IntKind.i64.wrap ((IntKind.i64.wrap (y1496.a0 + y1496.a1)) - y1093) : Int).toNat * Rep.sz Int + 0) (cs := [.int .i64 (IntKind.i64.wrap (y1536 + 1))]) rfl Proofs.Try.sizeOf3 rfl (row_ad0 _ _) rfl rfl rfl (Rw.room hr1403 he1542 rfl) rfl (all_cons rfl all_nil) (n' := (l1402.set ((IntKind.i64.wrap ((IntKind.i64.wrap (y1496.a0 + y1496.a1)) - y1093) : Int).toNat) (IntKind.i64.wrap (y1536 + 1))).length) List.length_set ?_
              generalize over xs1401 ((IntKind.i64.wrap ((IntKind.i64.wrap (y1496.a0 + y1496.a1)) - y1093) : Int).toNat * Rep.sz Int + 0) [.int .i64 (IntKind.i64.wrap (y1536 + 1))] = xs1547 at hr1544 hg1546 ⊢
              refine W_end ?_
              refine E_then ?_
              refine C_region ?_
              refine W_move rfl rfl rfl ?_
              refine W_move rfl rfl rfl ?_
              refine W_buildSlice (α := Int) (css := [[.int .i64 (IntKind.i64.wrap ((IntKind.i64.wrap (y1496.a0 + y1496.a1)) - y1093))]]) (zs := [.int .i64 (0)]) (out := [.int .i64 (IntKind.i64.wrap ((IntKind.i64.wrap (y1496.a0 + y1496.a1)) - y1093))]) (ys := [(IntKind.i64.wrap ((IntKind.i64.wrap (y1496.a0 + y1496.a1)) - y1093))]) rfl rfl rfl ⟨rfl, trivial⟩ Proofs.Try.runUnderlying30 Proofs.Try.sizeOf3 rfl Proofs.Try.zeroValue3 (by kernel_rfl) rfl rfl rfl rfl ⟨[.int .i64 (IntKind.i64.wrap ((IntKind.i64.wrap (y1496.a0 + y1496.a1)) - y1093))], [], rfl, rfl, rfl⟩ rfl ?_
              intro b1548 v1549 H1550 hv1551 hle1552 h1553
              have hc1554 : Value.cap' v1549 = ([(IntKind.i64.wrap ((IntKind.i64.wrap (y1496.a0 + y1496.a1)) - y1093))]).length := by rw [hv1551]; rfl
              obtain ⟨hz1555, hm⟩ := need_some hm
              refine W_perm (List.Perm.trans (List.Perm.cons _ (List.Perm.swap _ _ _)) (List.Perm.swap _ _ _)) ?_
              refine W_appendO (α := Int) (l := l1406) (ys := [(IntKind.i64.wrap ((IntKind.i64.wrap (y1496.a0 + y1496.a1)) - y1093))]) rfl rfl Proofs.Try.underlying30 ⟨_, rfl, rfl, rfl, rfl⟩ rfl rfl rfl rfl rfl (hr1407.mono hle1552) h1553 hz1555 ?_
              intro v1556 xs1557 hr1558
              refine W_assign rfl rfl rfl ?_
              refine W_end ?_
              refine E_normal_block ?_
              refine E_drop (List.Sublist.cons_cons _ (List.Sublist.cons_cons _ (List.Sublist.cons _ (List.Sublist.refl _)))) ?_
              exact E_keepJ (J1494 _ _ _ ⟨(l1402.set ((IntKind.i64.wrap ((IntKind.i64.wrap (y1496.a0 + y1496.a1)) - y1093) : Int).toNat) (IntKind.i64.wrap (y1536 + 1))), (l1406 ++ ([(IntKind.i64.wrap ((IntKind.i64.wrap (y1496.a0 + y1496.a1)) - y1093))])), xs1547, v1556, xs1557, hm, (hr1544.mono hle1552), hr1558, hle1552, rfl, rfl⟩) (List.Perm.swap _ _ _) ⟨rfl, rfl, rfl, rfl, rfl, rfl, rfl, rfl, rfl, rfl, trivial⟩
            · have hm := ite_f' hb1535 hm
              refine C_skip ?_
              refine E_normal_block ?_
              refine E_drop (List.Sublist.cons _ (List.Sublist.refl _)) ?_
              exact E_keepJ (J1494 _ _ _ ⟨l1402, l1406, xs1401, v1404, xs1405, hm, hr1403, hr1407, (Hp.le_refl _), rfl, rfl⟩) (List.Perm.refl _) ⟨rfl, rfl, rfl, rfl, rfl, rfl, rfl, rfl, rfl, rfl, trivial⟩
      · obtain rfl := rng_f hd1417 hb1419
        have hm : (nx1084 (l1402, l1406)) = some r := hm
        refine C_exit (E_exit_then ?_)
        refine E_exit_then ?_
        refine E_exit_hit ?_
        refine E_normal_block ?_
        exact E_keepJ (E_back (Nat.lt_succ_self _) ⟨l1402, l1406, xs1401, v1404, xs1405, (by rw [hn1085]; exact hm), hr1403, hr1407, (Hp.le_trans hle1082 hle1409), rfl, rfl⟩) (List.Perm.refl _) ⟨rfl, rfl, rfl, rfl, rfl, rfl, trivial⟩
    · have hm := ite_f' hb1092 hm
      refine C_exit ?_
      refine E_exit_then ?_
      refine E_exit_then ?_
      refine E_exit_hit ?_
      refine E_then ?_
      refine C_seq ?_
      refine C_seq ?_
      refine C_region ?_
      refine W_move rfl rfl rfl ?_
      refine W_move rfl rfl rfl ?_
      obtain ⟨y1559, h1560, he1561, hm⟩ := idx_some hm
      refine W_indexO (List.mem_cons_self ..) rfl rfl Proofs.Try.runUnderlying30 Proofs.Try.sizeOf3 rfl rfl h1560 (List.getElem?_eq_some_iff.1 he1561).1 ?_
      obtain ⟨_, rfl, hg1562⟩ := (hr1076).elem he1561
      refine W_load rfl rfl Proofs.Try.isAgg3 rfl (row_one0 (List.mem_cons_self ..) hg1562 rfl) ?_
      refine W_bin rfl rfl rfl rfl rfl ?_
      refine W_end ?_
      refine E_then ?_
      refine C_cond (b := decide (y1559 < 0)) rfl (fun hb1563 => ?_) (fun hb1563 => ?_)
      · have hm := ite_t' hb1563 hm
        refine C_seq ?_
        refine C_region ?_
        refine W_assign rfl rfl rfl ?_
        refine W_assign rfl rfl rfl ?_
        refine W_end ?_
        refine E_then ?_
        refine C_ret ?_
        refine E_ret_then ?_
        refine E_nilRow 3 (Rep.sz Int) ?_
        obtain rfl := Option.some.inj hm
        refine E_drop (List.Sublist.cons_cons _ (List.Sublist.cons _ (List.Sublist.cons _ (List.Sublist.refl _)))) ?_
        refine E_weak hle1082 ?_
        exact end2 rfl rfl rfl ⟨rfl, (.slice none 0 0), [], rfl, rfl, (Rw.nil (H := H)).toF⟩
      · have hm := ite_f' hb1563 hm
        refine C_skip ?_
        refine E_then ?_
        refine C_seq ?_
        refine C_region ?_
        refine W_assign rfl rfl rfl ?_
        refine W_end ?_
        refine E_then ?_
        refine C_seq ?_
        refine C_seq ?_
        refine C_region ?_
        refine W_move rfl rfl rfl ?_
        refine W_assign rfl rfl rfl ?_
        refine W_end ?_
        refine E_then ?_
        refine C_block ?_
        refine C_nilRow 3 (Rep.sz Int) ?_
        refine C_drop (List.Sublist.cons_cons _ (List.Sublist.cons_cons _ (List.Sublist.cons _ (List.Sublist.refl _)))) ?_
        refine C_keep (L' := [(1, v0), (2, v1), (4, .int .i64 (to)), (12, v105), (19, (.slice none 0 0)), (20, .int .i64 (p3_from))]) ⟨rfl, rfl, rfl, rfl, rfl, rfl, trivial⟩ (List.Perm.refl _) ?_
        refine C_loop (fun n H' M' L' => ∃ l2258 : List Int, ∃ n2260 : Int, ∃ v2256 : Value, ∃ xs2257 : List Value, loopF (fun s2263 n => m_graph_path_b22 p1_l edges to l1075 s2263.1 s2263.2 n) n (l2258, n2260) = some r ∧ Rw H' v2256 xs2257 l2258 ∧ H1081.le H' ∧ .row v2256 3 (Rep.sz Int) l2258.length xs2257 :: .row v105 3 (Rep.sz Int) l1075.length xs1074 :: M = M' ∧ [(1, v0), (2, v1), (4, .int .i64 (to)), (12, v105), (19, v2256), (20, .int .i64 (n2260))] = L') FUEL ⟨([] : List Int), p3_from, (.slice none 0 0), ([]), hm, Rw.nil, (Hp.le_refl _), rfl, rfl⟩ ?_
        rintro n2266 H2261 _ _ ⟨l2258, n2260, v2256, xs2257, hm, hr2259, hle2262, rfl, rfl⟩
        cases n2266 with
        | zero => cases hm
        | succ n2266 =>
          have hm : m_graph_path_b22 p1_l edges to l1075 l2258 n2260 (loopF (fun s2263 n => m_graph_path_b22 p1_l edges to l1075 s2263.1 s2263.2 n) n2266) = some r := hm
          generalize hn2265 : loopF (fun s2263 n => m_graph_path_b22 p1_l edges to l1075 s2263.1 s2263.2 n) n2266 = nx2264 at hm
          unfold m_graph_path_b22 at hm
          refine C_seq ?_
          refine C_seq ?_
          refine C_region ?_
          refine W_move rfl rfl rfl ?_
          refine W_move rfl rfl rfl ?_
          refine W_bin rfl rfl rfl rfl rfl ?_
          refine W_end ?_
          refine E_then ?_
          refine C_cond (b := !decide (n2260 = to)) rfl (fun hb2272 => ?_) (fun hb2272 => ?_)
          · have hm := ite_t' hb2272 hm
            refine C_skip ?_
            refine E_then ?_
            refine C_block ?_
            refine C_seq ?_
            refine C_region ?_
            refine W_move rfl rfl rfl ?_
            refine W_lenR rfl rfl Proofs.Try.runUnderlying30 rfl ((h1.mono hle1082).mono hle2262) ?_
            refine W_move rfl rfl rfl ?_
            refine W_end ?_
            refine E_then ?_
            refine C_block ?_
            refine C_keep (L' := [(1, v0), (2, v1), (4, .int .i64 (to)), (12, v105), (19, v2256), (20, .int .i64 (n2260)), (95, v1), (96, .int .i64 ((edges.length : Int))), (97, .int .i64 (((0 : Nat) : Int)))]) ⟨rfl, rfl, rfl, rfl, rfl, rfl, rfl, rfl, rfl, trivial⟩ (List.Perm.refl _) ?_
            refine C_loop (fun n H' M' L' => ∃ (k2273 : Nat) (zs2499' : List Int), (edges).drop k2273 = zs2499' ∧ zs2499'.length = n ∧ forI (fun k y s2494 n => m_graph_path_b25 p1_l l1075 l2258 n2260 nx2264 k y n) (fun _ => nx2264 (l2258, n2260)) k2273 zs2499' () = some r ∧ H2261.le H' ∧ .row v2256 3 (Rep.sz Int) l2258.length xs2257 :: .row v105 3 (Rep.sz Int) l1075.length xs1074 :: M = M' ∧ [(1, v0), (2, v1), (4, .int .i64 (to)), (12, v105), (19, v2256), (20, .int .i64 (n2260)), (95, v1), (96, .int .i64 ((edges.length : Int))), (97, .int .i64 ((k2273 : Int)))] = L') _ ⟨0, _, rfl, rfl, hm, (Hp.le_refl _), rfl, rfl⟩ ?_
            rintro _ H2492 _ _ ⟨k2273, zs2499', hd2501, rfl, hm, hle2493, rfl, rfl⟩
            refine C_seq ?_
            refine C_region ?_
            refine W_bin rfl rfl rfl rfl rfl ?_
            refine W_end (E_then ?_)
            refine C_seq ?_
            refine C_cond (b := decide ((k2273 : Int) < (edges.length : Int))) rfl (fun hb2503 => ?_) (fun hb2503 => ?_)
            · obtain ⟨y2498, zs2499, rfl, hy2500, hd2502⟩ := rng_t hd2501 hb2503
              have hm : m_graph_path_b25 p1_l l1075 l2258 n2260 nx2264 k2273 y2498 (forI (fun k y s2494 n => m_graph_path_b25 p1_l l1075 l2258 n2260 nx2264 k y n) (fun _ => nx2264 (l2258, n2260)) (k2273 + 1) zs2499) = some r := hm
              generalize hn2496 : forI (fun k y s2494 n => m_graph_path_b25 p1_l l1075 l2258 n2260 nx2264 k y n) (fun _ => nx2264 (l2258, n2260)) (k2273 + 1) zs2499 = nx2495 at hm
              unfold m_graph_path_b25 at hm
              refine C_skip (E_then ?_)
              refine C_seq_join (fun H' M' L' => m_graph_path_b26 nx2495 = some r ∧ H2492.le H' ∧ .row v2256 3 (Rep.sz Int) l2258.length xs2257 :: .row v105 3 (Rep.sz Int) l1075.length xs1074 :: M = M' ∧ [(1, v0), (2, v1), (4, .int .i64 (to)), (12, v105), (19, v2256), (20, .int .i64 (n2260)), (95, v1), (96, .int .i64 ((edges.length : Int))), (97, .int .i64 ((k2273 : Int)))] = L') ?_ (fun J2558 => ?_)
              · rintro H2556 _ _ ⟨hm, hle2557, rfl, rfl⟩
                unfold m_graph_path_b26 at hm
                refine C_region ?_
                refine W_bin rfl rfl rfl rfl rfl ?_
                refine W_move rfl rfl rfl ?_
                refine W_end ?_
                exact E_keepJ (E_back (Nat.lt_succ_self _) ⟨k2273 + 1, zs2499, hd2502, rfl, (by rw [hn2496]; exact hm), (Hp.le_trans hle2493 hle2557), rfl, rfl⟩) (List.Perm.refl _) ⟨rfl, rfl, rfl, rfl, rfl, rfl, rfl, rfl, (congrArg (fun z => some (Value.int .i64 z)) (i64_succ hy2500 ((((h1.mono hle1082).mono hle2262).mono hle2493)).lenMax)), trivial⟩
              · refine C_block ?_
                refine C_seq ?_
                refine C_region ?_
                obtain ⟨_, rfl, hc2559⟩ := (h1).elem hy2500
                refine W_indexS rfl rfl Proofs.Try.runUnderlying30 Proofs.Try.sizeOf3 rfl (((h1.mono hle1082).mono hle2262).mono hle2493) rfl (Int.natCast_nonneg _) hy2500 ?_
                refine W_load rfl rfl Proofs.Try.isAgg3 rfl (HCells.one (((hc2559.mono hle1082).mono hle2262).mono hle2493) 0 rfl).at ?_
                refine W_assign rfl rfl rfl ?_
                refine W_end ?_
                refine E_then ?_
                refine C_seq ?_
                refine C_region ?_
                refine W_move rfl rfl rfl ?_
                refine W_move rfl rfl rfl ?_
                obtain ⟨y2560, h2561, he2562, hm⟩ := idx_some hm
                obtain ⟨_, ⟨rfl⟩, hc2563⟩ := (h0).elem he2562
                refine W_indexS rfl rfl Proofs.Try.runUnderlying117 Proofs.Try.sizeOf118 rfl (((h0.mono hle1082).mono hle2262).mono hle2493) rfl h2561 he2562 ?_
                refine W_loadAgg rfl rfl Proofs.Try.isAgg118 Proofs.Try.sizeOf118 rfl (((hc2563.mono hle1082).mono hle2262).mono hle2493).at rfl ?_
                refine W_alloc (cs := [.int .i64 (0), .int .i64 (0)]) rfl rfl Proofs.Try.zeroValue118 rfl (fun b2564 => ?_)
                refine W_store (cs := [.int .i64 (y2560.a0), .int .i64 (y2560.a1)]) (out := [.int .i64 (y2560.a0), .int .i64 (y2560.a1)]) rfl Proofs.Try.sizeOf118 rfl rfl rfl rfl rfl (all_cons rfl (all_cons rfl all_nil)) (over_all rfl) ?_
                refine W_end ?_
                refine E_then ?_
                refine C_seq ?_
                refine C_seq ?_
                refine C_region ?_
                refine W_indexAd rfl rfl Proofs.Try.runUnderlying118 Proofs.Try.sizeOf3 rfl rfl (by decide) (by decide) ?_
                refine W_load rfl rfl Proofs.Try.isAgg3 rfl (own_at (List.mem_cons_self ..) rfl) ?_
                refine W_move rfl rfl rfl ?_
                refine W_bin rfl rfl rfl rfl rfl ?_
                refine W_move rfl rfl rfl ?_
                cases hb2565 : (decide (y2560.a0 = n2260))
                · have hm := ite_f' hb2565 hm
                  refine W_indexAd rfl rfl Proofs.Try.runUnderlying118 Proofs.Try.sizeOf3 rfl rfl (by decide) (by decide) ?_
                  refine W_load rfl rfl Proofs.Try.isAgg3 rfl (own_at (List.mem_cons_self ..) rfl) ?_
                  refine W_move rfl rfl rfl ?_
                  refine W_bin rfl rfl rfl rfl rfl ?_
                  refine W_pick rfl rfl rfl rfl ?_
                  refine W_end ?_
                  refine E_then ?_
                  refine C_cond (b := !decide (y2560.a1 = n2260)) rfl (fun hb2566 => ?_) (fun hb2566 => ?_)
                  · have hm := ite_t' hb2566 hm
                    refine C_exit ?_
                    refine E_exit_then ?_
                    refine E_exit_hit ?_
                    refine E_drop (List.Sublist.cons _ (List.Sublist.refl _)) ?_
                    exact E_keepJ (J2558 _ _ _ ⟨hm, (Hp.le_refl _), rfl, rfl⟩) (List.Perm.refl _) ⟨rfl, rfl, rfl, rfl, rfl, rfl, rfl, rfl, rfl, trivial⟩
                  · have hm := ite_f' hb2566 hm
                    refine C_skip ?_
                    refine E_then ?_
                    refine C_seq ?_
                    refine C_region ?_
                    refine W_indexAd rfl rfl Proofs.Try.runUnderlying118 Proofs.Try.sizeOf3 rfl rfl (by decide) (by decide) ?_
                    refine W_load rfl rfl Proofs.Try.isAgg3 rfl (own_at (List.mem_cons_self ..) rfl) ?_
                    refine W_indexAd rfl rfl Proofs.Try.runUnderlying118 Proofs.Try.sizeOf3 rfl rfl (by decide) (by decide) ?_
                    refine W_load rfl rfl Proofs.Try.isAgg3 rfl (own_at (List.mem_cons_self ..) rfl) ?_
                    refine W_bin rfl rfl rfl rfl rfl ?_
                    refine W_move rfl rfl rfl ?_
                    refine W_bin rfl rfl rfl rfl rfl ?_
                    refine W_assign rfl rfl rfl ?_
                    refine W_end ?_
                    refine E_then ?_
                    refine C_seq ?_
                    obtain ⟨y2567, h2568, he2569, hm⟩ := idx_some hm
                    obtain ⟨_, rfl, hg2570⟩ := (hr1076).elem he2569
                    obtain ⟨y2571, h2572, he2573, hm⟩ := idx_some hm
                    obtain ⟨_, rfl, hg2574⟩ := (hr1076).elem he2573
                    refine C_region_tok0 9 (phiT [(fun H rs v => [] = rs ∧ v105 = v), (fun H rs v => [] = rs ∧ .int .i64 (IntKind.i64.wrap ((IntKind.i64.wrap (y2560.a0 + y2560.a1)) - n2260)) = v), (fun H rs v => [] = rs ∧ .pointer (some ((Value.base (v105)).add ((IntKind.i64.wrap ((IntKind.i64.wrap (y2560.a0 + y2560.a1)) - n2260) : Int).toNat * Rep.sz Int))) = v), (fun H rs v => [] = rs ∧ .int .i64 (y2567) = v), (fun H rs v => [] = rs ∧ v105 = v), (fun H rs v => [] = rs ∧ .int .i64 (n2260) = v), (fun H rs v => [] = rs ∧ .pointer (some ((Value.base (v105)).add ((n2260 : Int).toNat * Rep.sz Int))) = v), (fun H rs v => [] = rs ∧ .int .i64 (y2571) = v), (fun H rs v => [] = rs ∧ .int .i64 (IntKind.i64.wrap (y2571 - 1)) = v)]) [[], [], [], [], [], [], [], [], []] [[], [], [], [], [], [], [], [], []] [] [0, 1, 2, 3, 4, 5, 6, 7, 8] Facts.mixed (by kernel_rfl) rfl rfl rfl (by kernel_rfl) (phiT_mono ⟨eq_monoT _ _, eq_monoT _ _, eq_monoT _ _, eq_monoT _ _, eq_monoT _ _, eq_monoT _ _, eq_monoT _ _, eq_monoT _ _, eq_monoT _ _, trivial⟩) ⟨?_, ?_, ?_, ?_, ?_, ?_, ?_, ?_, ?_, trivial⟩ ?_
                    · intro HX hX X Rest hR
                      intro hU
                      refine W_move rfl rfl rfl ?_
                      exact W_end (OneT_end [] (Hp.le_refl _) ⟨rfl, rfl⟩)
                    · intro HX hX X Rest hR
                      intro hU
                      refine W_move rfl rfl rfl ?_
                      exact W_end (OneT_end [] (Hp.le_refl _) ⟨rfl, rfl⟩)
                    · intro HX hX X Rest hR
                      rintro _ _ ⟨rfl, rfl⟩
                      rintro _ _ ⟨rfl, rfl⟩
                      intro hU
                      refine W_indexO (hR _ (List.mem_cons_of_mem _ (List.mem_cons_of_mem _ (List.mem_cons_self ..)))) rfl rfl Proofs.Try.runUnderlying30 Proofs.Try.sizeOf3 rfl rfl h2568 (List.getElem?_eq_some_iff.1 he2569).1 ?_
                      exact W_end (OneT_end [] (Hp.le_refl _) ⟨rfl, rfl⟩)
                    · intro HX hX X Rest hR
                      rintro _ _ ⟨rfl, rfl⟩
                      intro hU
                      refine W_load rfl rfl Proofs.Try.isAgg3 rfl (row_one0 (hR _ (List.mem_cons_of_mem _ (List.mem_cons_of_mem _ (List.mem_cons_self ..)))) hg2570 rfl) ?_
                      exact W_end (OneT_end [] (Hp.le_refl _) ⟨rfl, rfl⟩)
                    · intro HX hX X Rest hR
                      intro hU
                      refine W_move rfl rfl rfl ?_
                      exact W_end (OneT_end [] (Hp.le_refl _) ⟨rfl, rfl⟩)
                    · intro HX hX X Rest hR
                      intro hU
                      refine W_move rfl rfl rfl ?_
                      exact W_end (OneT_end [] (Hp.le_refl _) ⟨rfl, rfl⟩)
                    · intro HX hX X Rest hR
                      rintro _ _ ⟨rfl, rfl⟩
                      rintro _ _ ⟨rfl, rfl⟩
                      intro hU
                      refine W_indexO (hR _ (List.mem_cons_of_mem _ (List.mem_cons_of_mem _ (List.mem_cons_self ..)))) rfl rfl Proofs.Try.runUnderlying30 Proofs.Try.sizeOf3 rfl rfl h2572 (List.getElem?_eq_some_iff.1 he2573).1 ?_
                      exact W_end (OneT_end [] (Hp.le_refl _) ⟨rfl, rfl⟩)
                    · intro HX hX X Rest hR
                      rintro _ _ ⟨rfl, rfl⟩
                      intro hU
                      refine W_load rfl rfl Proofs.Try.isAgg3 rfl (row_one0 (hR _ (List.mem_cons_of_mem _ (List.mem_cons_of_mem _ (List.mem_cons_self ..)))) hg2574 rfl) ?_
                      exact W_end (OneT_end [] (Hp.le_refl _) ⟨rfl, rfl⟩)
                    · intro HX hX X Rest hR
                      rintro _ _ ⟨rfl, rfl⟩
                      intro hU
                      refine W_bin rfl rfl rfl rfl rfl ?_
                      exact W_end (OneT_end [] (Hp.le_refl _) ⟨rfl, rfl⟩)
                    intro H2575 hle2576
                    rintro _ _ ⟨rfl, rfl⟩
                    rintro _ _ ⟨rfl, rfl⟩
                    rintro _ _ ⟨rfl, rfl⟩
                    rintro _ _ ⟨rfl, rfl⟩
                    rintro _ _ ⟨rfl, rfl⟩
                    rintro _ _ ⟨rfl, rfl⟩
                    rintro _ _ ⟨rfl, rfl⟩
                    rintro _ _ ⟨rfl, rfl⟩
                    rintro _ _ ⟨rfl, rfl⟩
                    refine W_bin rfl rfl rfl rfl rfl ?_
                    refine W_end ?_
                    refine E_then ?_
                    refine C_cond (b := decide (y2567 = (IntKind.i64.wrap (y2571 - 1)))) rfl (fun hb2577 => ?_) (fun hb2577 => ?_)
                    · have hm := ite_t' hb2577 hm
                      refine C_seq ?_
                      refine C_region ?_
                      refine W_move rfl rfl rfl ?_
                      refine W_move rfl rfl rfl ?_
                      refine W_buildSlice (α := Int) (css := [[.int .i64 (y2498)]]) (zs := [.int .i64 (0)]) (out := [.int .i64 (y2498)]) (ys := [y2498]) rfl rfl rfl ⟨rfl, trivial⟩ Proofs.Try.runUnderlying30 Proofs.Try.sizeOf3 rfl Proofs.Try.zeroValue3 (by kernel_rfl) rfl rfl rfl rfl ⟨[.int .i64 (y2498)], [], rfl, rfl, rfl⟩ rfl ?_
                      intro b2578 v2579 H2580 hv2581 hle2582 h2583
                      have hc2584 : Value.cap' v2579 = ([y2498]).length := by rw [hv2581]; rfl
                      obtain ⟨hz2585, hm⟩ := need_some hm
                      refine W_perm (List.Perm.swap _ _ _) ?_
                      refine W_appendO (α := Int) (l := l2258) (ys := [y2498]) rfl rfl Proofs.Try.underlying30 ⟨_, rfl, rfl, rfl, rfl⟩ rfl rfl rfl rfl rfl (((hr2259.mono hle2493).mono hle2576).mono hle2582) h2583 hz2585 ?_
                      intro v2586 xs2587 hr2588
                      refine W_assign rfl rfl rfl ?_
                      refine W_end ?_
                      refine E_then ?_
                      refine C_seq ?_
                      refine C_region ?_
                      refine W_move rfl rfl rfl ?_
                      refine W_assign rfl rfl rfl ?_
                      refine W_end ?_
                      refine E_then ?_
                      refine C_exit ?_
                      refine E_exit_miss rfl ?_
                      refine E_exit_then ?_
                      refine E_exit_then ?_
                      refine E_exit_hit ?_
                      refine E_normal_block ?_
                      refine E_drop (List.Sublist.cons_cons _ (List.Sublist.cons _ (List.Sublist.refl _))) ?_
                      exact E_keepJ (E_back (Nat.lt_succ_self _) ⟨(l2258 ++ ([y2498])), IntKind.i64.wrap ((IntKind.i64.wrap (y2560.a0 + y2560.a1)) - n2260), v2586, xs2587, (by rw [hn2265]; exact hm), hr2588, (Hp.le_trans (Hp.le_trans (Hp.le_trans hle2262 hle2493) hle2576) hle2582), rfl, rfl⟩) (List.Perm.refl _) ⟨rfl, rfl, rfl, rfl, rfl, rfl, trivial⟩
                    · have hm := ite_f' hb2577 hm
                      refine C_skip ?_
                      refine E_normal_block ?_
                      refine E_drop (List.Sublist.cons _ (List.Sublist.refl _)) ?_
                      exact E_keepJ (J2558 _ _ _ ⟨hm, hle2576, rfl, rfl⟩) (List.Perm.refl _) ⟨rfl, rfl, rfl, rfl, rfl, rfl, rfl, rfl, rfl, trivial⟩
                · have hm := ite_t' hb2565 hm
                  refine W_no rfl rfl rfl ?_
                  refine W_no rfl rfl rfl ?_
                  refine W_no rfl rfl rfl ?_
                  refine W_no rfl rfl rfl ?_
                  refine W_pick rfl rfl rfl rfl ?_
                  refine W_end ?_
                  refine E_then ?_
                  refine C_cond (b := false) rfl (fun hb => Bool.noConfusion hb) (fun _ => ?_)
                  refine C_skip ?_
                  refine E_then ?_
                  refine C_seq ?_
                  refine C_region ?_
                  refine W_indexAd rfl rfl Proofs.Try.runUnderlying118 Proofs.Try.sizeOf3 rfl rfl (by decide) (by decide) ?_
                  refine W_load rfl rfl Proofs.Try.isAgg3 rfl (own_at (List.mem_cons_self ..) rfl) ?_
                  refine W_indexAd rfl rfl Proofs.Try.runUnderlying118 Proofs.Try.sizeOf3 rfl rfl (by decide) (by decide) ?_
                  refine W_load rfl rfl Proofs.Try.isAgg3 rfl (own_at (List.mem_cons_self ..) rfl) ?_
                  refine W_bin rfl rfl rfl rfl rfl ?_
                  refine W_move rfl rfl rfl ?_
                  refine W_bin rfl rfl rfl rfl rfl ?_
                  refine W_assign rfl rfl rfl ?_
                  refine W_end ?_
                  refine E_then ?_
                  refine C_seq ?_
                  obtain ⟨y2589, h2590, he2591, hm⟩ := idx_some hm
                  obtain ⟨_, rfl, hg2592⟩ := (hr1076).elem he2591
                  obtain ⟨y2593, h2594, he2595, hm⟩ := idx_some hm
                  obtain ⟨_, rfl, hg2596⟩ := (hr1076).elem he2595
                  refine C_region_tok0 9 (phiT [(fun H rs v => [] = rs ∧ v105 = v), (fun H rs v => [] = rs ∧ .int .i64 (IntKind.i64.wrap ((IntKind.i64.wrap (y2560.a0 + y2560.a1)) - n2260)) = v), (fun H rs v => [] = rs ∧ .pointer (some ((Value.base (v105)).add ((IntKind.i64.wrap ((IntKind.i64.wrap (y2560.a0 + y2560.a1)) - n2260) : Int).toNat * Rep.sz Int))) = v), (fun H rs v => [] = rs ∧ .int .i64 (y2589) = v), (fun H rs v => [] = rs ∧ v105 = v), (fun H rs v => [] = rs ∧ .int .i64 (n2260) = v), (fun H rs v => [] = rs ∧ .pointer (some ((Value.base (v105)).add ((n2260 : Int).toNat * Rep.sz Int))) = v), (fun H rs v => [] = rs ∧ .int .i64 (y2593) = v), (fun H rs v => [] = rs ∧ .int .i64 (IntKind.i64.wrap (y2593 - 1)) = v)]) [[], [], [], [], [], [], [], [], []] [[], [], [], [], [], [], [], [], []] [] [0, 1, 2, 3, 4, 5, 6, 7, 8] Facts.mixed (by kernel_rfl) rfl rfl rfl (by kernel_rfl) (phiT_mono ⟨eq_monoT _ _, eq_monoT _ _, eq_monoT _ _, eq_monoT _ _, eq_monoT _ _, eq_monoT _ _, eq_monoT _ _, eq_monoT _ _, eq_monoT _ _, trivial⟩) ⟨?_, ?_, ?_, ?_, ?_, ?_, ?_, ?_, ?_, trivial⟩ ?_
                  · intro HX hX X Rest hR
                    intro hU
                    refine W_move rfl rfl rfl ?_
                    exact W_end (OneT_end [] (Hp.le_refl _) ⟨rfl, rfl⟩)
                  · intro HX hX X Rest hR
                    intro hU
                    refine W_move rfl rfl rfl ?_
                    exact W_end (OneT_end [] (Hp.le_refl _) ⟨rfl, rfl⟩)
                  · intro HX hX X Rest hR
                    rintro _ _ ⟨rfl, rfl⟩
                    rintro _ _ ⟨rfl, rfl⟩
                    intro hU
                    refine W_indexO (hR _ (List.mem_cons_of_mem _ (List.mem_cons_of_mem _ (List.mem_cons_self ..)))) rfl rfl Proofs.Try.runUnderlying30 Proofs.Try.sizeOf3 rfl rfl h2590 (List.getElem?_eq_some_iff.1 he2591).1 ?_
                    exact W_end (OneT_end [] (Hp.le_refl _) ⟨rfl, rfl⟩)
                  · intro HX hX X Rest hR
                    rintro _ _ ⟨rfl, rfl⟩
                    intro hU
                    refine W_load rfl rfl Proofs.Try.isAgg3 rfl (row_one0 (hR _ (List.mem_cons_of_mem _ (List.mem_cons_of_mem _ (List.mem_cons_self ..)))) hg2592 rfl) ?_
                    exact W_end (OneT_end [] (Hp.le_refl _) ⟨rfl, rfl⟩)
                  · intro HX hX X Rest hR
                    intro hU
                    refine W_move rfl rfl rfl ?_
                    exact W_end (OneT_end [] (Hp.le_refl _) ⟨rfl, rfl⟩)
                  · intro HX hX X Rest hR
                    intro hU
                    refine W_move rfl rfl rfl ?_
                    exact W_end (OneT_end [] (Hp.le_refl _) ⟨rfl, rfl⟩)
                  · intro HX hX X Rest hR
                    rintro _ _ ⟨rfl, rfl⟩
                    rintro _ _ ⟨rfl, rfl⟩
                    intro hU
                    refine W_indexO (hR _ (List.mem_cons_of_mem _ (List.mem_cons_of_mem _ (List.mem_cons_self ..)))) rfl rfl Proofs.Try.runUnderlying30 Proofs.Try.sizeOf3 rfl rfl h2594 (List.getElem?_eq_some_iff.1 he2595).1 ?_
                    exact W_end (OneT_end [] (Hp.le_refl _) ⟨rfl, rfl⟩)
                  · intro HX hX X Rest hR
                    rintro _ _ ⟨rfl, rfl⟩
                    intro hU
                    refine W_load rfl rfl Proofs.Try.isAgg3 rfl (row_one0 (hR _ (List.mem_cons_of_mem _ (List.mem_cons_of_mem _ (List.mem_cons_self ..)))) hg2596 rfl) ?_
                    exact W_end (OneT_end [] (Hp.le_refl _) ⟨rfl, rfl⟩)
                  · intro HX hX X Rest hR
                    rintro _ _ ⟨rfl, rfl⟩
                    intro hU
                    refine W_bin rfl rfl rfl rfl rfl ?_
                    exact W_end (OneT_end [] (Hp.le_refl _) ⟨rfl, rfl⟩)
                  intro H2597 hle2598
                  rintro _ _ ⟨rfl, rfl⟩
                  rintro _ _ ⟨rfl, rfl⟩
                  rintro _ _ ⟨rfl, rfl⟩
                  rintro _ _ ⟨rfl, rfl⟩
                  rintro _ _ ⟨rfl, rfl⟩
                  rintro _ _ ⟨rfl, rfl⟩
                  rintro _ _ ⟨rfl, rfl⟩
                  rintro _ _ ⟨rfl, rfl⟩
                  rintro _ _ ⟨rfl, rfl⟩
                  refine W_bin rfl rfl rfl rfl rfl ?_
                  refine W_end ?_
                  refine E_then ?_
                  refine C_cond (b := decide (y2589 = (IntKind.i64.wrap (y2593 - 1)))) rfl (fun hb2599 => ?_) (fun hb2599 => ?_)
                  · have hm := ite_t' hb2599 hm
                    refine C_seq ?_
                    refine C_region ?_
                    refine W_move rfl rfl rfl ?_
                    refine W_move rfl rfl rfl ?_
                    refine W_buildSlice (α := Int) (css := [[.int .i64 (y2498)]]) (zs := [.int .i64 (0)]) (out := [.int .i64 (y2498)]) (ys := [y2498]) rfl rfl rfl ⟨rfl, trivial⟩ Proofs.Try.runUnderlying30 Proofs.Try.sizeOf3 rfl Proofs.Try.zeroValue3 (by kernel_rfl) rfl rfl rfl rfl ⟨[.int .i64 (y2498)], [], rfl, rfl, rfl⟩ rfl ?_
                    intro b2600 v2601 H2602 hv2603 hle2604 h2605
                    have hc2606 : Value.cap' v2601 = ([y2498]).length := by rw [hv2603]; rfl
                    obtain ⟨hz2607, hm⟩ := need_some hm
                    refine W_perm (List.Perm.swap _ _ _) ?_
                    refine W_appendO (α := Int) (l := l2258) (ys := [y2498]) rfl rfl Proofs.Try.underlying30 ⟨_, rfl, rfl, rfl, rfl⟩ rfl rfl rfl rfl rfl (((hr2259.mono hle2493).mono hle2598).mono hle2604) h2605 hz2607 ?_
                    intro v2608 xs2609 hr2610
                    refine W_assign rfl rfl rfl ?_
                    refine W_end ?_
                    refine E_then ?_
                    refine C_seq ?_
                    refine C_region ?_
                    refine W_move rfl rfl rfl ?_
                    refine W_assign rfl rfl rfl ?_
                    refine W_end ?_
                    refine E_then ?_
                    refine C_exit ?_
                    refine E_exit_miss rfl ?_
                    refine E_exit_then ?_
                    refine E_exit_then ?_
                    refine E_exit_hit ?_
                    refine E_normal_block ?_
                    refine E_drop (List.Sublist.cons_cons _ (List.Sublist.cons _ (List.Sublist.refl _))) ?_
                    exact E_keepJ (E_back (Nat.lt_succ_self _) ⟨(l2258 ++ ([y2498])), IntKind.i64.wrap ((IntKind.i64.wrap (y2560.a0 + y2560.a1)) - n2260), v2608, xs2609, (by rw [hn2265]; exact hm), hr2610, (Hp.le_trans (Hp.le_trans (Hp.le_trans hle2262 hle2493) hle2598) hle2604), rfl, rfl⟩) (List.Perm.refl _) ⟨rfl, rfl, rfl, rfl, rfl, rfl, trivial⟩
                  · have hm := ite_f' hb2599 hm
                    refine C_skip ?_
                    refine E_normal_block ?_
                    refine E_drop (List.Sublist.cons _ (List.Sublist.refl _)) ?_
                    exact E_keepJ (J2558 _ _ _ ⟨hm, hle2598, rfl, rfl⟩) (List.Perm.refl _) ⟨rfl, rfl, rfl, rfl, rfl, rfl, rfl, rfl, rfl, trivial⟩
            · obtain rfl := rng_f hd2501 hb2503
              have hm : (nx2264 (l2258, n2260)) = some r := hm
              refine C_exit (E_exit_then ?_)
              refine E_exit_then ?_
              refine E_exit_hit ?_
              refine E_normal_block ?_
              exact E_keepJ (E_back (Nat.lt_succ_self _) ⟨l2258, n2260, v2256, xs2257, (by rw [hn2265]; exact hm), (hr2259.mono hle2493), (Hp.le_trans hle2262 hle2493), rfl, rfl⟩) (List.Perm.refl _) ⟨rfl, rfl, rfl, rfl, rfl, rfl, trivial⟩
          · have hm := ite_f' hb2272 hm
            refine C_exit ?_
            refine E_exit_then ?_
            refine E_exit_then ?_
            refine E_exit_hit ?_
            refine E_then ?_
            refine C_seq ?_
            refine C_region ?_
            refine W_move rfl rfl rfl ?_
            refine W_assign rfl rfl rfl ?_
            refine W_assign rfl rfl rfl ?_
            refine W_end ?_
            refine E_then ?_
            refine C_ret ?_
            obtain rfl := Option.some.inj hm
            refine E_drop (List.Sublist.cons_cons _ (List.Sublist.cons _ (List.Sublist.refl _))) ?_
            refine E_weak (Hp.le_trans hle1082 hle2262) ?_
            exact end2 rfl rfl rfl ⟨rfl, v2256, xs2257, rfl, rfl, (hr2259).toF⟩
end Go.Sim
