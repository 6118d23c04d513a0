/-
  Boards of alarms, in plain Lean: the law of the model.
-/
import Derived.Test.YtnfkndhlceiicaaBrdR
namespace Go.Sim
open Go
set_option linter.unusedVariables false
set_option linter.unusedSimpArgs false
set_option linter.unusedSectionVars false
set_option linter.unnecessarySimpa false

def keepE (W : List BA) (x : Ent) : Bool := decide (x.Name ∈ W)
theorem del_eq (W : List BA) (x : Ent) : m_alarm_Board_Shown_1 x W = some (!keepE W x) := by
  unfold m_alarm_Board_Shown_1
  rw [acont_eq]; rfl
theorem delfunc_gd (W : List BA) (A : List Ent) (hA : A.length ≤ 1000) : Gd (m_slices_DeleteFunc_api_AlarmEntry_api_AlarmEntry__alarm_Board_Shown_1 A W) (fun r => r = A.filter (keepE W)) := by
  unfold m_slices_DeleteFunc_api_AlarmEntry_api_AlarmEntry__alarm_Board_Shown_1
  refine Gd.bnd (P := fun r => (r = -1 ∧ ∀ x ∈ A, keepE W x = true) ∨ ∃ (i : Nat) (h : i < A.length), r = i ∧ keepE W A[i] = false ∧ ∀ x ∈ A.take i, keepE W x = true) ?_ (fun r hr => ?_)
  · unfold m_slices_IndexFunc_api_AlarmEntry_api_AlarmEntry__alarm_Board_Shown_1
    refine Gd.forN (fun m i _ => i + m = A.length ∧ ∀ x ∈ A.take i, keepE W x = true) ?_ ?_ (A.length : Int).toNat 0 () ⟨by omega, by simp⟩
    · intro m i _ nx ⟨hi, hno⟩ hnx
      have hlt : i < A.length := by omega
      unfold m_slices_IndexFunc_api_AlarmEntry_api_AlarmEntry__alarm_Board_Shown_1_b1
      refine Gd.idxN hlt ?_
      rw [del_eq]
      refine Gd.ite (fun h => Gd.ret (.inr ⟨i, hlt, rfl, by simpa using h, hno⟩)) (fun h => hnx () ⟨by omega, ?_⟩)
      rw [List.take_succ_eq_append_getElem hlt]
      intro x hx
      rcases List.mem_append.1 hx with hx | hx
      · exact hno x hx
      · simp at hx; subst hx; simpa using h
    · intro i _ ⟨hi, hno⟩
      rw [List.take_of_length_le (by omega)] at hno
      exact Gd.ret (.inl ⟨rfl, hno⟩)
  · rcases hr with ⟨rfl, hall⟩ | ⟨i, hi, rfl, hki, hpre⟩
    · exact Gd.ite (fun _ => Gd.ret (List.filter_eq_self.2 hall).symm) (fun h => by simp at h)
    · refine Gd.ite (fun h => by simp at h) (fun _ => ?_)
      have hw0 : IntKind.i64.wrap ((i : Int) + 1) = ((i + 1 : Nat) : Int) := by rw [wrap_id ⟨by omega, by omega⟩]; omega
      rw [hw0]
      have hinit : A.take i = (A.take (i + 1)).filter (keepE W) := by
        rw [List.take_succ_eq_append_getElem hi, List.filter_append, List.filter_eq_self.2 hpre]
        simp [List.filter_cons, hki]
      refine Gd.loopF (fun (s : List Ent × Int × Int) => ∃ p q : Nat, s.2.1 = p ∧ s.2.2 = q ∧ p < q ∧ q ≤ A.length ∧ s.1.length = A.length ∧ s.1.take p = (A.take q).filter (keepE W) ∧ s.1.drop q = A.drop q) (fun s => A.length - s.2.2.toNat) ?_ FUEL _ ⟨i, i + 1, rfl, rfl, by omega, by omega, rfl, hinit, rfl⟩ (by unfold FUEL; omega)
      rintro ⟨l, n1, n2⟩ nx ⟨p, q, h1, h2, hpq, hqA, hl, htk, hdr⟩ hn
      simp only at h1 h2 hl htk hdr
      subst h1; subst h2
      unfold m_slices_DeleteFunc_api_AlarmEntry_api_AlarmEntry__alarm_Board_Shown_1_b3 m_slices_DeleteFunc_api_AlarmEntry_api_AlarmEntry__alarm_Board_Shown_1_b4
      have hwq : IntKind.i64.wrap ((q : Int) + 1) = ((q + 1 : Nat) : Int) := by rw [wrap_id ⟨by omega, by omega⟩]; omega
      have hwp : IntKind.i64.wrap ((p : Int) + 1) = ((p + 1 : Nat) : Int) := by rw [wrap_id ⟨by omega, by omega⟩]; omega
      rw [hwq]
      refine Gd.ite (fun h => ?_) (fun h => ?_)
      · have hq : q < l.length := by
          have : (q : Int) < ((l.length : Nat) : Int) := by simpa using h
          omega
        have hqa : q < A.length := by omega
        have hv : l[q] = A[q] := by
          have e1 := List.drop_eq_getElem_cons hq
          have e2 := List.drop_eq_getElem_cons hqa
          rw [hdr, e2] at e1
          exact (List.cons.inj e1).1.symm
        have hd2 : l.drop (q + 1) = A.drop (q + 1) := by
          have := congrArg (List.drop 1) hdr
          simpa [List.drop_drop] using this
        have htk2 : (A.take (q + 1)).filter (keepE W) = (A.take q).filter (keepE W) ++ (if keepE W A[q] then [A[q]] else []) := by
          rw [List.take_succ_eq_append_getElem hqa, List.filter_append]
          congr 1
          simp only [List.filter_cons, List.filter_nil]
        refine Gd.idxN hq ?_
        rw [del_eq, hv]
        refine Gd.ite (fun hk => Gd.idxN (show p < l.length by omega) ?_) (fun hk => ?_)
        · have hk : keepE W A[q] = true := by simpa using hk
          rw [hwp, Int.toNat_natCast]
          refine hn _ ⟨p + 1, q + 1, rfl, rfl, by omega, by omega, by simpa using hl, ?_, ?_⟩ (by simp only [Int.toNat_natCast]; omega)
          · simp only
            have hp : p < (l.set p A[q]).length := by simp; omega
            rw [List.take_succ_eq_append_getElem hp, List.getElem_set_self, htk2, if_pos hk, List.take_set_of_le (Nat.le_refl p), htk]
          · simp only
            rw [List.drop_set_of_lt (by omega), hd2]
        · have hk : keepE W A[q] = false := by simpa using hk
          refine hn _ ⟨p, q + 1, rfl, rfl, by omega, by omega, hl, ?_, hd2⟩ (by simp only [Int.toNat_natCast]; omega)
          simp only
          rw [htk2, if_neg (by simp [hk]), List.append_nil, htk]
      · have hq : l.length ≤ q := by
          have : ((l.length : Nat) : Int) ≤ (q : Int) := by simpa using h
          omega
        have hqe : q = A.length := by omega
        refine Gd.nd ⟨Int.natCast_nonneg p, show (p : Int) ≤ ((l.length : Nat) : Int) by omega⟩ (Gd.nd ⟨Int.natCast_nonneg p, ?_⟩ (Gd.ret ?_))
        · simp only [Int.toNat_natCast, List.length_append, List.length_take, List.length_replicate]; omega
        · unfold slc
          rw [List.drop_zero, Nat.sub_zero, Int.toNat_natCast, List.take_append_of_le_length (by simp; omega), List.take_take, Nat.min_self, htk, hqe, List.take_length]

theorem all_gd (cs : List Cz) (E : List Ent) (la : Int) (hE : E.length ≤ 12) : Gd (m_alarm_Board_All ⟨cs, E, la⟩) (fun A => A.Perm E ∧ SrtE A) := by
  unfold m_alarm_Board_All
  exact Gd.nd (by simp only; omega) (Gd.bnd (sort_gdE E hE) (fun r hr => Gd.ret hr))
theorem shown_gd (cs : List Cz) (E : List Ent) (la : Int) (hE : E.length ≤ 12) {W : List BA} (hW : m_alarm_causesOf cs (E.map (·.Name)) = some W) :
    Gd (m_alarm_Board_Shown ⟨cs, E, la⟩) (fun F => ∃ A : List Ent, A.Perm E ∧ SrtE A ∧ F = A.filter (keepE W)) := by
  unfold m_alarm_Board_Shown
  refine Gd.seen (fun pre out => out = pre.map (·.Name)) ?_ ?_ _ rfl
  · rintro i y out nn pre hpre rfl hn
    obtain ⟨hpl, _, _⟩ := pre_lt hpre
    have hpl : pre.length < E.length := hpl
    unfold m_alarm_Board_Shown_b1
    exact Gd.nd (by simp only [List.length_map, List.length_singleton]; omega) (hn _ (by simp))
  · rintro out rfl
    refine Gd.bind_eq hW (Gd.bnd (all_gd cs E la hE) (fun A ⟨hp, hs⟩ => Gd.bnd (delfunc_gd W A (by have := hp.length_eq; omega)) (fun F hF => Gd.ret ⟨A, hp, hs, hF⟩)))

theorem sindex_gd (l : List BA) (p : BA) : Gd (m_slices_Index_string_string l p) (fun r => (r = -1 ∧ p ∉ l) ∨ ∃ (k : Nat) (h : k < l.length), r = k ∧ l[k] = p) := by
  unfold m_slices_Index_string_string
  refine Gd.forN (fun m i _ => i + m = l.length ∧ p ∉ l.take i) ?_ ?_ (l.length : Int).toNat 0 () ⟨by omega, by simp⟩
  · intro m i _ nx ⟨hi, hno⟩ hnx
    unfold m_slices_Index_string_string_b1
    refine Gd.idxN (by omega) (Gd.ite (fun h => Gd.ret (.inr ⟨i, by omega, rfl, ?_⟩)) (fun h => hnx () ⟨by omega, ?_⟩))
    · have : p = l[i] := by simpa using h
      exact this.symm
    · rw [List.take_succ_eq_append_getElem (by omega), List.mem_append, List.mem_singleton]
      rintro (h' | h')
      · exact hno h'
      · simp [h'] at h
  · intro i _ ⟨hi, hno⟩
    rw [List.take_of_length_le (by omega)] at hno
    exact Gd.ret (.inl ⟨rfl, hno⟩)
theorem bindex_gd (cs : List Cz) (E : List Ent) (la : Int) (p : BA) : Gd (m_alarm_Board_index ⟨cs, E, la⟩ p) (fun r => (r = -1 ∧ p ∉ E.map (·.Name)) ∨ ∃ (k : Nat) (h : k < E.length), r = k ∧ E[k].Name = p) := by
  unfold m_alarm_Board_index
  refine Gd.bnd (P := fun r => (r = -1 ∧ p ∉ E.map (·.Name)) ∨ ∃ (k : Nat) (h : k < E.length), r = k ∧ E[k].Name = p) ?_ (fun r hr => Gd.ret hr)
  unfold m_slices_IndexFunc_api_AlarmEntry_api_AlarmEntry__alarm_Board_index_1
  refine Gd.forN (fun m i _ => i + m = E.length ∧ p ∉ (E.take i).map (·.Name)) ?_ ?_ (E.length : Int).toNat 0 () ⟨by omega, by simp⟩
  · intro m i _ nx ⟨hi, hno⟩ hnx
    have hlt : i < E.length := by omega
    unfold m_slices_IndexFunc_api_AlarmEntry_api_AlarmEntry__alarm_Board_index_1_b1 m_alarm_Board_index_1
    refine Gd.idxN hlt (Gd.ite (fun h => Gd.ret (.inr ⟨i, hlt, rfl, by simpa using h⟩)) (fun h => hnx () ⟨by omega, ?_⟩))
    rw [List.take_succ_eq_append_getElem hlt, List.map_append, List.mem_append]
    rintro (h' | h')
    · exact hno h'
    · simp at h'; simp [h'] at h
  · intro i _ ⟨hi, hno⟩
    rw [List.take_of_length_le (by omega)] at hno
    exact Gd.ret (.inl ⟨rfl, hno⟩)

/-- What a board is like that has these alarms. -/
structure BOk (on : List BA) (E : List Ent) : Prop where
  nm : E.map (·.Name) = on
  nd : on.Nodup
  ack : ∀ e ∈ E, e.Acked = false
  vld : ∀ x ∈ on, m_netmodel_Name x = some true
theorem BOk.len {on : List BA} {E : List Ent} (h : BOk on E) : E.length = on.length := by rw [← h.nm]; simp
theorem raise_gd {cs : List Cz} {on : List BA} {E : List Ent} {la : Int} (h : BOk on E) {s : BA} (hs : s.size ≤ maxLen) (hl : E.length ≤ 20) (t : Int) :
    Gd (m_alarm_Board_Raise ⟨cs, E, la⟩ s t) (fun r => (r.1 ≠ 0 ∧ r.2 = ⟨cs, E, la⟩) ∨ (r.1 = 0 ∧ ∃ e : Ent, r.2 = ⟨cs, E ++ [e], t⟩ ∧ BOk (on ++ [s]) (E ++ [e]))) := by
  unfold m_alarm_Board_Raise
  obtain ⟨b, hb, _⟩ := aname_gd s hs
  refine Gd.bind_eq hb (Gd.ite (fun _ => Gd.ret (.inl ⟨by simp, rfl⟩)) (fun hbt => Gd.ite (fun _ => Gd.ret (.inl ⟨by simp, rfl⟩)) (fun _ => ?_)))
  have hbt : b = true := by simpa using hbt
  subst hbt
  refine Gd.bnd (bindex_gd cs E la s) (fun r hr => ?_)
  rcases hr with ⟨rfl, hno⟩ | ⟨k, hk, rfl, _⟩
  · refine Gd.ite (fun h => by simp at h) (fun _ => Gd.ite (fun _ => Gd.ret (.inl ⟨by simp, rfl⟩)) (fun _ => Gd.nd (by simp; omega) (Gd.ret (.inr ⟨rfl, ⟨s, t, false⟩, rfl, ?_, ?_, ?_, ?_⟩))))
    · rw [List.map_append, h.nm]; rfl
    · rw [List.nodup_append]
      refine ⟨h.nd, by simp, fun a ha b hb => ?_⟩
      simp at hb; subst hb
      intro e; subst e
      rw [h.nm] at hno
      exact hno ha
    · intro e he
      rcases List.mem_append.1 he with he | he
      · exact h.ack e he
      · simp at he; subst he; rfl
    · intro x hx
      rcases List.mem_append.1 hx with hx | hx
      · exact h.vld x hx
      · simp at hx; subst hx; exact hb
  · exact Gd.ite (fun _ => Gd.ret (.inl ⟨by simp, rfl⟩)) (fun h => by simp at h)

theorem acheck_ok {cs : List Cz} {l : List BA} (hc : m_alarm_Check cs = some 0) (hl : l.length ≤ 24) (hnd : l.Nodup) (hv : ∀ x ∈ l, m_netmodel_Name x = some true) : m_alarm_check cs l = some 0 := by
  rw [← Gd.eq]
  unfold m_alarm_check
  refine Gd.bind_eq hc (Gd.ite (fun h => by simp at h) (fun _ => Gd.ite (fun h => by simp at h; omega) (fun _ => ?_)))
  refine Gd.forI (Q := fun z => z = 0) (fun i ys (_ : Unit) => i + ys.length = l.length ∧ ys = l.drop i) ?_ (fun _ _ _ => Gd.ret rfl) _ _ _ ⟨Nat.zero_add _, rfl⟩
  rintro i y ys _ nx ⟨hi, hys⟩ hn
  simp only [List.length_cons] at hi
  have hlt : i < l.length := by omega
  rw [List.drop_eq_getElem_cons hlt] at hys
  obtain ⟨rfl, rfl⟩ := List.cons.inj hys
  unfold m_alarm_check_b1
  have hs : slc l 0 ((i : Int).toNat) = l.take i := by unfold slc; rw [List.drop_zero, Int.toNat_natCast, Nat.sub_zero]
  have hno : l[i] ∉ l.take i := by
    have h1 : l.take (i + 1) = l.take i ++ [l[i]] := List.take_succ_eq_append_getElem hlt
    have h2 : (l.take (i + 1)).Nodup := (List.take_sublist _ _).nodup hnd
    rw [h1, List.nodup_append] at h2
    exact fun hm => h2.2.2 _ hm _ (List.mem_singleton_self _) rfl
  refine Gd.bind_eq (hv _ (List.getElem_mem hlt)) (Gd.ite (fun h => by simp at h) (fun _ => Gd.nd (by omega) ?_))
  rw [hs, acont_eq]
  exact Gd.ite (fun h => absurd (by simpa using h) hno) (fun _ => hn _ ⟨by omega, rfl⟩)

theorem Srt.pw {l : List BA} (h : Srt l) : l.Pairwise leS := by
  rw [List.pairwise_iff_getElem]
  intro i j hi hj hij
  exact h i j _ _ hij (List.getElem?_eq_getElem hi) (List.getElem?_eq_getElem hj)
theorem srt_unique : ∀ {a b : List BA}, a.Pairwise leS → b.Pairwise leS → a.Perm b → a = b
  | [], b, _, _, h => (List.Perm.nil_eq h)
  | x :: xs, [], _, _, h => absurd h.length_eq (by simp)
  | x :: xs, y :: ys, ha, hb, h => by
    rw [List.pairwise_cons] at ha hb
    have hxy : x = y := by
      have h1 : x ∈ y :: ys := h.mem_iff.1 (List.mem_cons_self ..)
      have h2 : y ∈ x :: xs := h.mem_iff.2 (List.mem_cons_self ..)
      rcases List.mem_cons.1 h1 with e | h1
      · exact e
      · rcases List.mem_cons.1 h2 with e | h2
        · exact e.symm
        · exact leS_anti (ha.1 y h2) (hb.1 x h1)
    subst hxy
    rw [srt_unique ha.2 hb.2 ((List.perm_cons x).1 h)]
theorem bequal_refl (l : List BA) : m_slices_Equal_string_string l l = some true := by
  rw [← Gd.eq]
  unfold m_slices_Equal_string_string
  refine Gd.ite (fun h => by simp at h) (fun _ => ?_)
  refine Gd.forN (Q := fun z => z = true) (fun m i (_ : Unit) => i + m = l.length) ?_ (fun _ _ _ => Gd.ret rfl) (l.length : Int).toNat 0 () (by omega)
  intro m i _ nx hi hn
  unfold m_slices_Equal_string_string_b1
  exact Gd.idxN (by omega) (Gd.idxN (by omega) (Gd.ite (fun h => by simp at h) (fun _ => hn _ (by omega))))

/-- The end of the law: a board that has these alarms. -/
theorem end_gd {cs : List Cz} {on : List BA} {E : List Ent} {la : Int} (n : Int) (h : BOk on E) (hl : on.length ≤ 12) (hc : m_alarm_Check cs = some 0) (h40 : cs.length ≤ 40) :
    Gd (m_gridhallkeep4_AlarmBoards_b6 cs (n, ⟨cs, E, la⟩) on) (fun z => z = true) := by
  have hEl := h.len
  obtain ⟨W, hW, hWok⟩ := causesOf_gd cs on hl h40 h.nd
  have hck := acheck_ok hc (by omega) h.nd h.vld
  have hcs : m_alarm_Causes cs on = some (W, 0) := by
    rw [← Gd.eq]
    unfold m_alarm_Causes
    exact Gd.bind_eq hck (Gd.ite (fun h => by simp at h) (fun _ => Gd.bind_eq hW (Gd.ret rfl)))
  obtain ⟨F, hF, A, hAp, hAs, hFA⟩ := shown_gd cs E la (by omega) (W := W) (by rw [h.nm]; exact hW)
  obtain ⟨A2, hA2, hA2p, _⟩ := all_gd cs E la (by omega)
  have hAl := hAp.length_eq
  have hFl : F.length ≤ 12 := by
    have := List.length_filter_le (keepE W) A
    rw [hFA]; omega
  have hFE : ∀ x ∈ F, x ∈ E := fun x hx => by
    rw [hFA] at hx
    exact hAp.mem_iff.1 (List.mem_filter.1 hx).1
  have hFs : ∀ (i j : Nat) (hi : i < F.length) (hj : j < F.length), i < j → F[i].Time ≤ F[j].Time := by
    have hpw : A.Pairwise leE := by
      rw [List.pairwise_iff_getElem]
      intro i j hi hj hij
      exact hAs i j _ _ hij (List.getElem?_eq_getElem hi) (List.getElem?_eq_getElem hj)
    have hpf : F.Pairwise leE := by rw [hFA]; exact hpw.filter _
    rw [List.pairwise_iff_getElem] at hpf
    exact fun i j hi hj hij => leE_time (hpf i j hi hj hij)
  have hFW : (F.map (·.Name)).Perm W := by
    have hndF : (F.map (·.Name)).Nodup := by
      have h1 : (A.map (·.Name)).Nodup := (hAp.map (·.Name)).nodup_iff.2 (by rw [h.nm]; exact h.nd)
      have h2 : (F.map (·.Name)).Sublist (A.map (·.Name)) := by rw [hFA]; exact List.filter_sublist.map _
      exact h2.nodup h1
    refine (List.perm_ext_iff_of_nodup hndF hWok.nd).2 (fun y => ⟨fun hy => ?_, fun hy => ?_⟩)
    · obtain ⟨x, hx, rfl⟩ := List.mem_map.1 hy
      rw [hFA] at hx
      have := (List.mem_filter.1 hx).2
      unfold keepE at this
      simpa using this
    · have hyo := ((hWok.mem y).1 hy).1
      rw [← h.nm] at hyo
      obtain ⟨x, hx, rfl⟩ := List.mem_map.1 hyo
      refine List.mem_map.2 ⟨x, ?_, rfl⟩
      rw [hFA]
      exact List.mem_filter.2 ⟨hAp.mem_iff.2 hx, by unfold keepE; simpa using hy⟩
  unfold m_gridhallkeep4_AlarmBoards_b6
  refine Gd.bind_eq hcs (Gd.bind_eq hF ?_)
  refine Gd.forI (Q := fun z => z = true) (fun i ys s => i + ys.length = F.length ∧ ys = F.drop i ∧ s = (F.take i).map (·.Name)) ?_ ?_ _ _ _ ⟨Nat.zero_add _, rfl, rfl⟩
  · rintro i y ys s nx ⟨hi, hys, rfl⟩ hnx
    simp only [List.length_cons] at hi
    have hlt : i < F.length := by omega
    rw [List.drop_eq_getElem_cons hlt] at hys
    obtain ⟨rfl, rfl⟩ := List.cons.inj hys
    have htk : (F.take i).map (·.Name) ++ [F[i].Name] = (F.take (i + 1)).map (·.Name) := by
      rw [List.take_succ_eq_append_getElem hlt, List.map_append]; rfl
    unfold m_gridhallkeep4_AlarmBoards_b5
    rw [htk]
    refine Gd.nd (by simp; omega) (Gd.ite (fun ha => ?_) (fun _ => Gd.ite (fun h0 => Gd.bind_eq hF ?_) (fun _ => hnx _ ⟨by omega, rfl, rfl⟩)))
    · have := h.ack _ (hFE _ (List.getElem_mem hlt))
      rw [this] at ha; cases ha
    · obtain ⟨k, rfl⟩ : ∃ k, i = k + 1 := ⟨i - 1, by
        have : (0 : Int) < (i : Int) := by simpa using h0
        omega⟩
      have hw : IntKind.i64.wrap (((k + 1 : Nat) : Int) - 1) = (k : Int) := by rw [wrap_id ⟨by omega, by omega⟩]; omega
      rw [hw]
      have hk : k < F.length := by omega
      refine Gd.idxN hk (Gd.ite (fun hlt2 => ?_) (fun _ => hnx _ ⟨by omega, rfl, rfl⟩))
      have := hFs k (k + 1) hk hlt (by omega)
      have hlt2 : F[k + 1].Time < F[k].Time := by simpa using hlt2
      omega
  · rintro i s ⟨hi, _, rfl⟩
    simp only [List.length_nil] at hi
    rw [List.take_of_length_le (by omega)]
    obtain ⟨r, hr, hrp, hrs⟩ := sort_gd (F.map (·.Name)) (by simpa using hFl)
    refine Gd.bind_eq hr ?_
    refine Gd.bind_eq alarmFact_true ?_
    refine Gd.ite (fun _ => ?_) (fun h => by cases h)
    refine Gd.ite (fun _ => ?_) (fun h => by simp at h)
    refine Gd.bind_eq hA2 (Gd.ite (fun _ => ?_) (fun h2 => ?_))
    · have e : r = W := srt_unique hrs.pw hWok.srt.pw (hrp.trans hFW)
      subst e
      exact Gd.bind_eq (bequal_refl r) (Gd.ret rfl)
    · have := hA2p.length_eq
      simp at h2; omega

theorem nodup_idx {l : List BA} (h : l.Nodup) {i j : Nat} (hi : i < l.length) (hj : j < l.length) (e : l[i] = l[j]) : i = j := by
  have hpw := List.pairwise_iff_getElem.1 h
  rcases Nat.lt_trichotomy i j with q | q | q
  · exact absurd e (hpw i j hi hj q)
  · exact q
  · exact absurd e.symm (hpw j i hj hi q)

theorem AlarmBoards_true (cs : List Cz) (names : List BA) (clear : BA) (hc : CzSz cs) (hnm : BaSz names) : m_gridhallkeep4_AlarmBoards cs names clear = some true := by
  rw [← Gd.eq]
  unfold m_gridhallkeep4_AlarmBoards
  obtain ⟨e, he, h40⟩ := aCheck_gd cs hc
  by_cases h0 : e = 0
  · subst h0
    have h40 := h40 rfl
    have hnew : m_alarm_New cs = some (some ⟨cs, [], 0⟩, 0) := by
      rw [← Gd.eq]
      unfold m_alarm_New
      exact Gd.bind_eq he (Gd.ite (fun h => by simp at h) (fun _ => Gd.nd (by omega) (Gd.ret rfl)))
    refine Gd.bind_eq hnew ?_
    simp only [optC]
    have hL : (slc names 0 ((min (names.length : Int) 8 : Int).toNat)).length ≤ 8 := by unfold slc; simp; omega
    have hLs : BaSz (slc names 0 ((min (names.length : Int) 8 : Int).toNat)) := fun x hx => hnm x (by unfold slc at hx; exact List.mem_of_mem_drop (List.mem_of_mem_take hx))
    generalize slc names 0 ((min (names.length : Int) 8 : Int).toNat) = L at hL hLs
    refine Gd.ite (fun h => by simp at h) (fun _ => Gd.nd (by omega) ?_)
    refine Gd.seen (fun pre (s : List BA × List Cz × List Ent × Int) => s.2.1 = cs ∧ s.1.length ≤ pre.length ∧ BOk s.1 s.2.2.1) ?_ ?_ _ ⟨rfl, by simp, ⟨rfl, by simp, by simp, by simp⟩⟩
    · rintro i y ⟨on, c, E, la⟩ nn pre hpre ⟨rfl, hol, hb⟩ hn
      obtain ⟨hpl, hyl, hpm⟩ := pre_lt hpre
      have hEl := hb.len
      simp only at hol hb hEl
      unfold m_gridhallkeep4_AlarmBoards_b3 m_gridhallkeep4_AlarmBoards_b4
      refine Gd.bnd (raise_gd (cs := c) hb (hLs y hyl) (by omega) _) (fun r hr => ?_)
      rcases hr with ⟨hne, hr⟩ | ⟨h0, en, hr, hb2⟩
      · refine Gd.ite (fun h => absurd (by simpa using h) hne) (fun _ => ?_)
        rw [hr]
        exact hn _ ⟨rfl, by simp; omega, hb⟩
      · refine Gd.ite (fun _ => Gd.nd (by simp only [List.length_singleton]; omega) ?_) (fun h => by simp [h0] at h)
        rw [hr]
        exact hn _ ⟨rfl, by simp; omega, hb2⟩
    · rintro ⟨on, c, E, la⟩ ⟨rfl, hol, hb⟩
      have hEl := hb.len
      simp only at hol hb hEl
      have hol8 : on.length ≤ 8 := by omega
      refine Gd.bnd (sindex_gd on clear) (fun r hr => ?_)
      rcases hr with ⟨rfl, hno⟩ | ⟨k, hk, rfl, hkc⟩
      · have hack : ∀ la, m_alarm_Board_Ack ⟨c, E, la⟩ clear = some (8, ⟨c, E, la⟩) := fun la => by
          rw [← Gd.eq]
          unfold m_alarm_Board_Ack
          refine Gd.bnd (bindex_gd c E la clear) (fun r hr => ?_)
          rcases hr with ⟨rfl, _⟩ | ⟨q, hq, rfl, hqc⟩
          · exact Gd.ite (fun _ => Gd.ret rfl) (fun h => by simp at h)
          · refine absurd ?_ hno
            rw [← hb.nm, ← hqc]
            exact List.mem_map.2 ⟨E[q], List.getElem_mem hq, rfl⟩
        have hclr : ∀ la, m_alarm_Board_Clear ⟨c, E, la⟩ clear = some (8, ⟨c, E, la⟩) := fun la => by
          rw [← Gd.eq]
          unfold m_alarm_Board_Clear
          refine Gd.bnd (bindex_gd c E la clear) (fun r hr => ?_)
          rcases hr with ⟨rfl, _⟩ | ⟨q, hq, rfl, hqc⟩
          · exact Gd.ite (fun _ => Gd.ret rfl) (fun h => by simp at h)
          · refine absurd ?_ hno
            rw [← hb.nm, ← hqc]
            exact List.mem_map.2 ⟨E[q], List.getElem_mem hq, rfl⟩
        refine Gd.bind_eq (hack la) (Gd.bind_eq (hack la) (Gd.bind_eq (hclr la) (Gd.ite (fun h => by simp at h) (fun _ => Gd.ite (fun h => by simp at h) (fun _ => ?_)))))
        exact end_gd _ hb (show on.length ≤ 12 by omega) he h40
      · have hkE : k < E.length := by omega
        have hkn : E[k].Name = clear := by
          have : (E.map (·.Name))[k]'(by simpa using hkE) = on[k] := by simp only [hb.nm]
          rw [← hkc, ← this]; simp
        have hkon : clear ∈ on := hkc ▸ List.getElem_mem hk
        have bidx : ∀ (E2 : List Ent) (la : Int), E2.map (·.Name) = on → m_alarm_Board_index ⟨c, E2, la⟩ clear = some (k : Int) := fun E2 la h2 => by
          rw [← Gd.eq]
          refine (bindex_gd c E2 la clear).mono (fun r hr => ?_)
          rcases hr with ⟨_, hno⟩ | ⟨q, hq, rfl, hqc⟩
          · rw [h2] at hno; exact absurd hkon hno
          · have hq2 : q < on.length := by rw [← h2]; simpa using hq
            have : on[q] = on[k] := by
              have h3 : (E2.map (·.Name))[q]'(by simpa using hq) = on[q] := by simp only [h2]
              rw [hkc, ← h3, ← hqc]; simp
            rw [nodup_idx hb.nd hq2 hk this]
        have hsetn : ∀ x : Ent, x.Name = clear → (E.set k x).map (·.Name) = on := fun x hx => by
          rw [List.map_set, hx, hb.nm, ← hkc, List.set_getElem_self]
        let e1 : Ent := ⟨E[k].Name, E[k].Time, true⟩
        have hn1 : (E.set k e1).map (·.Name) = on := hsetn e1 hkn
        have hack1 : m_alarm_Board_Ack ⟨c, E, la⟩ clear = some (0, ⟨c, E.set k e1, la⟩) := by
          rw [← Gd.eq]
          unfold m_alarm_Board_Ack
          refine Gd.bind_eq (bidx E la hb.nm) (Gd.ite (fun h => by simp at h; omega) (fun _ => Gd.idxN hkE (Gd.ite (fun h => ?_) (fun _ => Gd.idxN hkE (Gd.ret ?_)))))
          · rw [hb.ack _ (List.getElem_mem hkE)] at h; cases h
          · rw [Int.toNat_natCast]
        have hack2 : m_alarm_Board_Ack ⟨c, E.set k e1, la⟩ clear = some (11, ⟨c, E.set k e1, la⟩) := by
          rw [← Gd.eq]
          unfold m_alarm_Board_Ack
          refine Gd.bind_eq (bidx _ la hn1) (Gd.ite (fun h => by simp at h; omega) (fun _ => Gd.idxN (by simpa using hkE) (Gd.ite (fun _ => Gd.ret rfl) (fun h => ?_))))
          simp [e1] at h
        have hwk : IntKind.i64.wrap ((k : Int) + 1) = ((k + 1 : Nat) : Int) := by rw [wrap_id ⟨by omega, by omega⟩]; omega
        have hset : (E.set k e1).take k ++ (E.set k e1).drop (k + 1) = E.take k ++ E.drop (k + 1) := by
          rw [List.take_set_of_le (Nat.le_refl k), List.drop_set_of_lt (by omega)]
        have hclr : m_alarm_Board_Clear ⟨c, E.set k e1, la⟩ clear = some (0, ⟨c, E.take k ++ E.drop (k + 1), la⟩) := by
          rw [← Gd.eq]
          unfold m_alarm_Board_Clear
          refine Gd.bind_eq (bidx _ la hn1) (Gd.ite (fun h => by simp at h; omega) (fun _ => ?_))
          rw [hwk]
          refine Gd.nd ⟨by omega, by omega, by simp; omega⟩ (Gd.ret ?_)
          rw [Int.toNat_natCast, Int.toNat_natCast, hset]
        have hb2 : BOk (on.take k ++ on.drop (k + 1)) (E.take k ++ E.drop (k + 1)) := by
          have hsub : (on.take k ++ on.drop (k + 1)).Sublist on := by
            have h1 : (on.drop (k + 1)).Sublist (on.drop k) := by
              rw [← List.drop_drop]; exact List.drop_sublist _ _
            have := (List.Sublist.refl (on.take k)).append h1
            rwa [List.take_append_drop] at this
          refine ⟨by rw [List.map_append, List.map_take, List.map_drop, hb.nm], hsub.nodup hb.nd, fun e he => ?_, fun x hx => hb.vld x (hsub.subset hx)⟩
          rcases List.mem_append.1 he with he | he
          · exact hb.ack e (List.mem_of_mem_take he)
          · exact hb.ack e (List.mem_of_mem_drop he)
        refine Gd.bind_eq hack1 (Gd.bind_eq hack2 (Gd.bind_eq hclr (Gd.ite (fun h => ?_) (fun _ => Gd.ite (fun _ => ?_) (fun h => by simp at h)))))
        · simp at h; omega
        · rw [hwk]
          refine Gd.nd ⟨by omega, by omega, by simp only; omega⟩ ?_
          rw [Int.toNat_natCast, Int.toNat_natCast]
          exact end_gd _ hb2 (by simp; omega) he h40
  · have hnew : m_alarm_New cs = some (none, e) := by
      rw [← Gd.eq]
      unfold m_alarm_New
      exact Gd.bind_eq he (Gd.ite (fun _ => Gd.ret rfl) (fun h => absurd (by simpa using h) h0))
    refine Gd.bind_eq hnew ?_
    simp only [optC]
    exact Gd.bind_eq alarmFact_true (Gd.ite (fun _ => Gd.bind_eq he (Gd.ret (by simp))) (fun h => by simp at h))
end Go.Sim
