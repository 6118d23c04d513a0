/-
  Printed by a program: the models of the Go functions.
-/
import Derived.Test.YtogalpcheddenaaSimV
namespace Go.Sim
open Go
set_option linter.unusedVariables false
structure S_api_UpkeepJob where
  Name : ByteArray
  Long : Int
  First : Int
  Last : Int
  Weight : Int
  deriving DecidableEq
instance : Rep S_api_UpkeepJob where
  sz := 5
  E H cs x := cs = [.string (x.Name), .int .i64 (x.Long), .int .i64 (x.First), .int .i64 (x.Last), .int .i64 (x.Weight)]
  len h := by obtain rfl := h; rfl
  mono hle h := by obtain rfl := h; exact rfl
  one h := by obtain rfl := h; exact (all_cons rfl (all_cons rfl (all_cons rfl (all_cons rfl (all_cons rfl all_nil)))))
instance : Flat S_api_UpkeepJob := ⟨fun h => h⟩
structure S_A2_Int where
  a0 : Int
  a1 : Int
  deriving DecidableEq
instance : Rep S_A2_Int where
  sz := 2
  E H cs x := cs = [.int .i64 (x.a0), .int .i64 (x.a1)]
  len h := by obtain rfl := h; rfl
  mono hle h := by obtain rfl := h; exact rfl
  one h := by obtain rfl := h; exact (all_cons rfl (all_cons rfl all_nil))
instance : Flat S_A2_Int := ⟨fun h => h⟩
structure S_api_UpkeepTask where
  Jobs : (List S_api_UpkeepJob)
  Apart : (List S_A2_Int)
  Crews : Int
  deriving DecidableEq
instance : Rep S_api_UpkeepTask where
  sz := 3
  E H cs x := ∃ v0 : Value, ∃ v1 : Value, cs = [v0, v1, .int .i64 (x.Crews)] ∧ RdS H v0 x.Jobs ∧ RdS H v1 x.Apart
  len h := by obtain ⟨v0, v1, rfl, h0, h1⟩ := h; rfl
  mono hle h := by obtain ⟨v0, v1, rfl, h0, h1⟩ := h; exact ⟨v0, v1, rfl, h0.mono hle, h1.mono hle⟩
  one h := by obtain ⟨v0, v1, rfl, h0, h1⟩ := h; exact (all_cons (RdS.one1 h0) (all_cons (RdS.one1 h1) (all_cons rfl all_nil)))
structure S_upkeep_search where
  t : S_api_UpkeepTask
  best : (List Int)
  cost : Int
  deriving DecidableEq
instance : Rep S_upkeep_search where
  sz := 5
  E H cs x := ∃ v0 : Value, ∃ v1 : Value, ∃ v3 : Value, cs = [v0, v1, .int .i64 (x.t.Crews), v3, .int .i64 (x.cost)] ∧ RdS H v0 x.t.Jobs ∧ RdS H v1 x.t.Apart ∧ RdS H v3 x.best
  len h := by obtain ⟨v0, v1, v3, rfl, h0, h1, h2⟩ := h; rfl
  mono hle h := by obtain ⟨v0, v1, v3, rfl, h0, h1, h2⟩ := h; exact ⟨v0, v1, v3, rfl, h0.mono hle, h1.mono hle, h2.mono hle⟩
  one h := by obtain ⟨v0, v1, v3, rfl, h0, h1, h2⟩ := h; exact (all_cons (RdS.one1 h0) (all_cons (RdS.one1 h1) (all_cons rfl (all_cons (RdS.one1 h2) (all_cons rfl all_nil)))))

def m_gridhallref4_In (p0_n : Int) (p1_low : Int) (p2_high : Int) : Bool := ((decide (p1_low ≤ p0_n)) && (decide (p0_n ≤ p2_high)))

def m_gridhallkeep4_small_b4 (nx201 : List S_api_UpkeepJob → Option (S_api_UpkeepTask)) (l227 : List S_api_UpkeepJob) : Option (S_api_UpkeepTask) := nx201 l227
def m_gridhallkeep4_small_b3 (k111 : Nat) (l196 : List S_api_UpkeepJob) (nx201 : List S_api_UpkeepJob → Option (S_api_UpkeepTask)) : Option (S_api_UpkeepTask) := idx l196 (k111 : Int) fun y232 => if (m_gridhallref4_In y232.First 0 60) && (m_gridhallref4_In y232.Last 0 60) then (m_gridhallkeep4_small_b4 nx201 (l196.set (((k111 : Int) : Int).toNat) (S_api_UpkeepJob.mk y232.Name y232.Long y232.First (min y232.Last (IntKind.i64.wrap (y232.First + 4))) y232.Weight))) else (m_gridhallkeep4_small_b4 nx201 l196)
def m_gridhallkeep4_small (p0_t : S_api_UpkeepTask) : Option (S_api_UpkeepTask) := need (0 ≤ (min (p0_t.Jobs.length : Int) 4) ∧ (min (p0_t.Jobs.length : Int) 4) ≤ (p0_t.Jobs.length : Int)) (need ((slc p0_t.Jobs 0 ((min (p0_t.Jobs.length : Int) 4 : Int).toNat)).length * 48 ≤ 140737488355328) (forN (fun k s200 n => m_gridhallkeep4_small_b3 k s200 n) (fun s200 => some (S_api_UpkeepTask.mk s200 p0_t.Apart p0_t.Crews)) (((slc p0_t.Jobs 0 ((min (p0_t.Jobs.length : Int) 4 : Int).toNat)).length : Int) : Int).toNat 0 (slc p0_t.Jobs 0 ((min (p0_t.Jobs.length : Int) 4 : Int).toNat))))

def m_netmodel_Name_b1 (k106 : Nat) (y143 : U8) (nx140 : Unit → Option (Bool)) : Option (Bool) := if !(((decide (65 ≤ y143.n)) && (decide (y143.n ≤ 90))) || (((decide (0 < (k106 : Int))) && (decide (48 ≤ y143.n))) && (decide (y143.n ≤ 57)))) then (some false) else (nx140 ())
def m_netmodel_Name (p0_s : ByteArray) : Option (Bool) := need (p0_s.size ≤ maxLen) (forI (fun k y s139 n => m_netmodel_Name_b1 k y n) (fun _ => some ((decide (1 ≤ (p0_s.size : Int))) && (decide ((p0_s.size : Int) ≤ 8)))) 0 (bytesL p0_s) ())

def m_upkeep_Check_1 (p0_x : S_api_UpkeepJob) (p1_c1 : S_api_UpkeepJob) : Bool := (decide (p0_x.Name = p1_c1.Name))

def m_slices_IndexFunc_api_UpkeepJob_api_UpkeepJob__upkeep_Check_1_b1 (p0_s : (List S_api_UpkeepJob)) (p1_f_0 : S_api_UpkeepJob) (k101 : Nat) (nx115 : Unit → Option (Int)) : Option (Int) := idx p0_s (k101 : Int) fun y124 => if (m_upkeep_Check_1 y124 p1_f_0) then (some ((k101 : Int))) else (nx115 ())
def m_slices_IndexFunc_api_UpkeepJob_api_UpkeepJob__upkeep_Check_1 (p0_s : (List S_api_UpkeepJob)) (p1_f_0 : S_api_UpkeepJob) : Option (Int) := forN (fun k s114 n => m_slices_IndexFunc_api_UpkeepJob_api_UpkeepJob__upkeep_Check_1_b1 p0_s p1_f_0 k n) (fun _ => some ((-1))) ((p0_s.length : Int) : Int).toNat 0 ()

def m_slices_ContainsFunc_api_UpkeepJob_api_UpkeepJob__upkeep_Check_1 (p0_s : (List S_api_UpkeepJob)) (p1_f_0 : S_api_UpkeepJob) : Option (Bool) := (m_slices_IndexFunc_api_UpkeepJob_api_UpkeepJob__upkeep_Check_1 p0_s p1_f_0).bind fun r101 => some (decide (0 ≤ r101))

def m_upkeep_Check_b5 (p0_t : S_api_UpkeepTask) (y290 : S_A2_Int) (k298 : Nat) (nx316 : Unit → Option (Int)) : Option (Int) := idx [y290.a0, y290.a1] (k298 : Int) fun y325 => if (decide (y325 < 0)) || (decide ((p0_t.Jobs.length : Int) ≤ y325)) then (some 8) else (nx316 ())
def m_upkeep_Check_b4 (p0_t : S_api_UpkeepTask) (k205 : Nat) (y290 : S_A2_Int) (nx287 : Unit → Option (Int)) : Option (Int) := forN (fun k s315 n => m_upkeep_Check_b5 p0_t y290 k n) (fun _ => if decide (y290.a0 = y290.a1) then (some 3) else (nx287 ())) (2 : Int).toNat 0 ()
def m_upkeep_Check_b1 (p0_t : S_api_UpkeepTask) (k108 : Nat) (y171 : S_api_UpkeepJob) (nx168 : Unit → Option (Int)) : Option (Int) := (m_netmodel_Name y171.Name).bind fun r179 => if !r179 then (some 6) else (need (0 ≤ (k108 : Int) ∧ (k108 : Int) ≤ (p0_t.Jobs.length : Int)) ((m_slices_ContainsFunc_api_UpkeepJob_api_UpkeepJob__upkeep_Check_1 (slc p0_t.Jobs 0 (((k108 : Int) : Int).toNat)) y171).bind fun r186 => if r186 then (some 7) else (if (((((((decide (y171.Long < 1)) || (decide (60 < y171.Long))) || (decide (y171.First < 0))) || (decide (y171.Last < y171.First))) || (decide (60 < y171.Last))) || (decide ((IntKind.i64.wrap ((IntKind.i64.wrap (y171.First + 12)) - 1)) < y171.Last))) || (decide (y171.Weight < 0))) || (decide (1000 < y171.Weight)) then (some 4) else (nx168 ()))))
def m_upkeep_Check (p0_t : S_api_UpkeepTask) : Option (Int) := if (decide (6 < (p0_t.Jobs.length : Int))) || (decide (256 < (p0_t.Apart.length : Int))) then (some 2) else (if (decide (p0_t.Crews < 1)) || (decide (6 < p0_t.Crews)) then (some 4) else (forI (fun k y s167 n => m_upkeep_Check_b1 p0_t k y n) (fun _ => forI (fun k y s286 n => m_upkeep_Check_b4 p0_t k y n) (fun _ => some 0) 0 p0_t.Apart ()) 0 p0_t.Jobs ()))

def m_slices_Index_2_int_2_int_b1 (p0_s : (List S_A2_Int)) (p1_v : S_A2_Int) (k102 : Nat) (nx124 : Unit → Option (Int)) : Option (Int) := idx p0_s (k102 : Int) fun y133 => if decide (p1_v.a0 = y133.a0) && (decide (p1_v.a1 = y133.a1) && true) then (some ((k102 : Int))) else (nx124 ())
def m_slices_Index_2_int_2_int (p0_s : (List S_A2_Int)) (p1_v : S_A2_Int) : Option (Int) := forN (fun k s123 n => m_slices_Index_2_int_2_int_b1 p0_s p1_v k n) (fun _ => some ((-1))) ((p0_s.length : Int) : Int).toNat 0 ()

def m_slices_Contains_2_int_2_int (p0_s : (List S_A2_Int)) (p1_v : S_A2_Int) : Option (Bool) := (m_slices_Index_2_int_2_int p0_s p1_v).bind fun r102 => some (decide (0 ≤ r102))

def m_upkeep_wrong_b6 (y102 : Int) (y106 : S_api_UpkeepJob) (nx457 : List Int → Option (Int)) (y475 : Int) (y479 : S_api_UpkeepJob) (n524 : Int) (l526 : List Int) (nx532 : (Int × List Int) → Option (Int)) : Option (Int) := if decide (n524 < (min (IntKind.i64.wrap (y475 + y479.Long)) (IntKind.i64.wrap (y102 + y106.Long)))) then (idx l526 n524 fun y541 => idx l526 n524 fun y545 => nx532 (IntKind.i64.wrap (n524 + 1), (l526.set ((n524 : Int).toNat) (IntKind.i64.wrap (y541 + 1))))) else (nx457 l526)
def m_upkeep_wrong_b7 (y102 : Int) (y106 : S_api_UpkeepJob) (nx457 : List Int → Option (Int)) (y475 : Int) (y479 : S_api_UpkeepJob) (n598 : Int) (l600 : List Int) (nx606 : (Int × List Int) → Option (Int)) : Option (Int) := if decide (n598 < (min (IntKind.i64.wrap (y475 + y479.Long)) (IntKind.i64.wrap (y102 + y106.Long)))) then (idx l600 n598 fun y615 => idx l600 n598 fun y619 => nx606 (IntKind.i64.wrap (n598 + 1), (l600.set ((n598 : Int).toNat) (IntKind.i64.wrap (y615 + 1))))) else (nx457 l600)
def m_upkeep_wrong_b8 (p0_t : S_api_UpkeepTask) (y102 : Int) (y106 : S_api_UpkeepJob) (l451 : List Int) (n654 : Int) (nx658 : Int → Option (Int)) : Option (Int) := if decide (n654 < (IntKind.i64.wrap (y102 + y106.Long))) then (idx l451 n654 fun y667 => if decide (p0_t.Crews < (IntKind.i64.wrap (y667 + 1))) then (some 9) else (nx658 (IntKind.i64.wrap (n654 + 1)))) else (some 0)
def m_upkeep_wrong_b5 (p0_t : S_api_UpkeepTask) (p1_l : (List Int)) (p2_i : Int) (y102 : Int) (y106 : S_api_UpkeepJob) (k115 : Nat) (l451 : List Int) (nx457 : List Int → Option (Int)) : Option (Int) := idx p1_l (k115 : Int) fun y467 => idx p1_l p2_i fun y471 => idx p1_l (k115 : Int) fun y475 => idx p0_t.Jobs (k115 : Int) fun y479 => if decide ((max y467 y471) < (min (IntKind.i64.wrap (y475 + y479.Long)) (IntKind.i64.wrap (y102 + y106.Long)))) then ((m_slices_Contains_2_int_2_int p0_t.Apart (S_A2_Int.mk p2_i ((k115 : Int)))).bind fun r554 => if r554 then (some 11) else ((m_slices_Contains_2_int_2_int p0_t.Apart (S_A2_Int.mk ((k115 : Int)) p2_i)).bind fun r557 => if r557 then (some 11) else (loopF (fun s605 n => m_upkeep_wrong_b7 y102 y106 nx457 y475 y479 s605.1 s605.2 n) FUEL (max y467 y471, l451)))) else (loopF (fun s531 n => m_upkeep_wrong_b6 y102 y106 nx457 y475 y479 s531.1 s531.2 n) FUEL (max y467 y471, l451))
def m_upkeep_wrong (p0_t : S_api_UpkeepTask) (p1_l : (List Int)) (p2_i : Int) : Option (Int) := idx p1_l p2_i fun y102 => idx p0_t.Jobs p2_i fun y106 => need (p2_i ≤ 9223372036854775807) (forN (fun k s456 n => m_upkeep_wrong_b5 p0_t p1_l p2_i y102 y106 k s456 n) (fun s456 => idx p1_l p2_i fun y628 => loopF (fun s657 n => m_upkeep_wrong_b8 p0_t y102 y106 s456 s657 n) FUEL y628) (p2_i : Int).toNat 0 (List.replicate 120 (0 : Int)))

def m_upkeep_search_try_b4 (n317 : Int) (nx333 : (Int × (List S_api_UpkeepJob) × (List S_A2_Int) × Int × (List Int) × Int) → Option (S_upkeep_search)) (l377 : (List S_api_UpkeepJob)) (l380 : (List S_A2_Int)) (n382 : Int) (l384 : (List Int)) (n387 : Int) : Option (S_upkeep_search) := nx333 (IntKind.i64.wrap (n317 + 1), l377, l380, n382, l384, n387)
def m_upkeep_search_try_b3 (self : S_upkeep_search → (List Int) → Int → Option (S_upkeep_search)) (p1_l : (List Int)) (cost : Int) (y114 : S_api_UpkeepJob) (n317 : Int) (l319 : (List S_api_UpkeepJob)) (l322 : (List S_A2_Int)) (n324 : Int) (l326 : (List Int)) (n329 : Int) (nx333 : (Int × (List S_api_UpkeepJob) × (List S_A2_Int) × Int × (List Int) × Int) → Option (S_upkeep_search)) : Option (S_upkeep_search) := if decide (n317 ≤ y114.Last) then (need (0 ≤ (p1_l.length : Int) ∧ (p1_l.length : Int) ≤ (p1_l.length : Int)) (need (((slc p1_l 0 (((p1_l.length : Int) : Int).toNat)).length + ([n317]).length) * 8 ≤ 140737488355328) ((m_upkeep_wrong (S_api_UpkeepTask.mk l319 l322 n324) ((slc p1_l 0 (((p1_l.length : Int) : Int).toNat)) ++ ([n317])) ((p1_l.length : Int))).bind fun r407 => if decide (r407 = 0) then ((self (S_upkeep_search.mk (S_api_UpkeepTask.mk l319 l322 n324) l326 n329) ((slc p1_l 0 (((p1_l.length : Int) : Int).toNat)) ++ ([n317])) (IntKind.i64.wrap (cost + (IntKind.i64.wrap (y114.Weight * (IntKind.i64.wrap (n317 - y114.First))))))).bind fun r413 => m_upkeep_search_try_b4 n317 nx333 r413.t.Jobs r413.t.Apart r413.t.Crews r413.best r413.cost) else (m_upkeep_search_try_b4 n317 nx333 l319 l322 n324 l326 n329)))) else (some (S_upkeep_search.mk (S_api_UpkeepTask.mk l319 l322 n324) l326 n329))
def m_upkeep_search_try_step (self : S_upkeep_search → (List Int) → Int → Option (S_upkeep_search)) (p0_s : S_upkeep_search) (p1_l : (List Int)) (cost : Int) : Option (S_upkeep_search) := if (!p0_s.best.isEmpty) && (decide (p0_s.cost ≤ cost)) then (some p0_s) else (if decide ((p1_l.length : Int) = (p0_s.t.Jobs.length : Int)) then (need (p1_l.length * 8 ≤ 140737488355328) (need (0 < p1_l.length) (some (S_upkeep_search.mk p0_s.t p1_l cost)))) else (idx p0_s.t.Jobs (p1_l.length : Int) fun y114 => loopF (fun s332 n => m_upkeep_search_try_b3 self p1_l cost y114 s332.1 s332.2.1 s332.2.2.1 s332.2.2.2.1 s332.2.2.2.2.1 s332.2.2.2.2.2 n) FUEL (y114.First, p0_s.t.Jobs, p0_s.t.Apart, p0_s.t.Crews, p0_s.best, p0_s.cost)))
def m_upkeep_search_try_fuel : Nat → S_upkeep_search → (List Int) → Int → Option (S_upkeep_search)
  | 0 => fun _ _ _ => none
  | n + 1 => m_upkeep_search_try_step (m_upkeep_search_try_fuel n)
def m_upkeep_search_try (p0_s : S_upkeep_search) (p1_l : (List Int)) (cost : Int) : Option (S_upkeep_search) := m_upkeep_search_try_fuel FUEL p0_s p1_l cost

def m_upkeep_Best (p0_t : S_api_UpkeepTask) : Option ((List Int) × Int × Int) := (m_upkeep_Check p0_t).bind fun r102 => if !decide (r102 = 0) then (some ([], 0, r102)) else (if decide ((p0_t.Jobs.length : Int) = 0) then (some ([], 0, 0)) else ((m_upkeep_search_try (S_upkeep_search.mk p0_t [] 0) [] 0).bind fun r107 => if r107.best.isEmpty then (some ([], 0, 8)) else (some (r107.best, r107.cost, 0))))

def m_slices_Equal_int_int_b1 (p0_s1 : (List Int)) (p1_s2 : (List Int)) (k102 : Nat) (nx132 : Unit → Option (Bool)) : Option (Bool) := idx p0_s1 (k102 : Int) fun y141 => idx p1_s2 (k102 : Int) fun y145 => if !decide (y141 = y145) then (some false) else (nx132 ())
def m_slices_Equal_int_int (p0_s1 : (List Int)) (p1_s2 : (List Int)) : Option (Bool) := if !decide ((p0_s1.length : Int) = (p1_s2.length : Int)) then (some false) else (forN (fun k s131 n => m_slices_Equal_int_int_b1 p0_s1 p1_s2 k n) (fun _ => some true) ((p0_s1.length : Int) : Int).toNat 0 ())

def m_gridhallkeep4_upkeepFact : Option (Bool) := (m_upkeep_Best (S_api_UpkeepTask.mk ([(S_api_UpkeepJob.mk (⟨#[65]⟩) 1 0 1 3), (S_api_UpkeepJob.mk (⟨#[66]⟩) 1 0 1 3)]) ([(S_A2_Int.mk 0 1)]) 2)).bind fun r114 => if decide (r114.2.2 = 0) then (if decide (r114.2.1 = 3) then ((m_slices_Equal_int_int r114.1 ([0, 1])).bind fun r125 => some r125) else (some false)) else (some false)

def m_gridhallkeep4_UpkeepCrews (p0_t : S_api_UpkeepTask) : Option (Bool) := (m_gridhallkeep4_small p0_t).bind fun r102 => (m_upkeep_Best r102).bind fun r114 => if !decide (r114.2.2 = 0) then ((m_gridhallkeep4_upkeepFact).bind fun r124 => some (r124 && (decide (r114.2.1 = 0)))) else (need (0 ≤ (max 0 (IntKind.i64.wrap ((r102.Apart.length : Int) - 1))) ∧ (max 0 (IntKind.i64.wrap ((r102.Apart.length : Int) - 1))) ≤ (r102.Apart.length : Int)) ((m_upkeep_Best (S_api_UpkeepTask.mk r102.Jobs r102.Apart (min (IntKind.i64.wrap (r102.Crews + 1)) 6))).bind fun r138 => (m_upkeep_Best (S_api_UpkeepTask.mk r102.Jobs (slc r102.Apart 0 ((max 0 (IntKind.i64.wrap ((r102.Apart.length : Int) - 1)) : Int).toNat)) r102.Crews)).bind fun r144 => (m_gridhallkeep4_upkeepFact).bind fun r156 => some ((((r156 && (decide (r138.2.2 = 0))) && (decide (r144.2.2 = 0))) && (decide (r138.2.1 ≤ r114.2.1))) && (decide (r144.2.1 ≤ r114.2.1)))))

def m_gridhallkeep4_UpkeepAlone (p0_t : S_api_UpkeepTask) : Option (Bool) := (m_gridhallkeep4_small p0_t).bind fun r102 => (m_upkeep_Best (S_api_UpkeepTask.mk r102.Jobs [] r102.Crews)).bind fun r114 => if (!decide (r114.2.2 = 0)) || (decide ((r102.Jobs.length : Int) = 0)) then ((m_gridhallkeep4_upkeepFact).bind fun r126 => some (r126 && (decide (r114.2.1 = 0)))) else (need (0 ≤ (IntKind.i64.wrap ((r102.Jobs.length : Int) - 1)) ∧ (IntKind.i64.wrap ((r102.Jobs.length : Int) - 1)) ≤ (r102.Jobs.length : Int)) ((m_upkeep_Best (S_api_UpkeepTask.mk (slc r102.Jobs 0 ((IntKind.i64.wrap ((r102.Jobs.length : Int) - 1) : Int).toNat)) [] r102.Crews)).bind fun r134 => (m_gridhallkeep4_upkeepFact).bind fun r144 => some ((r144 && (decide (r134.2.2 = 0))) && (decide (r134.2.1 ≤ r114.2.1)))))

def m_upkeep_Verify_b2 (p0_t : S_api_UpkeepTask) (p1_l : (List Int)) (k192 : Nat) (nx202 : Unit → Option (Int × Int)) : Option (Int × Int) := (m_upkeep_wrong p0_t p1_l ((k192 : Int))).bind fun r211 => if !decide (r211 = 0) then (some (0, r211)) else (nx202 ())
def m_upkeep_Verify_b1 (p1_l : (List Int)) (k106 : Nat) (y164 : S_api_UpkeepJob) (n157 : Int) (nx161 : Int → Option (Int × Int)) : Option (Int × Int) := idx p1_l (k106 : Int) fun y172 => if decide (y172 < y164.First) then (some (0, 12)) else (idx p1_l (k106 : Int) fun y177 => if decide (y164.Last < y177) then (some (0, 12)) else (idx p1_l (k106 : Int) fun y184 => nx161 (IntKind.i64.wrap (n157 + (IntKind.i64.wrap (y164.Weight * (IntKind.i64.wrap (y184 - y164.First))))))))
def m_upkeep_Verify (p0_t : S_api_UpkeepTask) (p1_l : (List Int)) : Option (Int × Int) := (m_upkeep_Check p0_t).bind fun r102 => if !decide (r102 = 0) then (some (0, r102)) else (if !decide ((p1_l.length : Int) = (p0_t.Jobs.length : Int)) then (some (0, 3)) else (forI (fun k y s160 n => m_upkeep_Verify_b1 p1_l k y s160 n) (fun s160 => forN (fun k s201 n => m_upkeep_Verify_b2 p0_t p1_l k n) (fun _ => some (s160, 0)) ((p1_l.length : Int) : Int).toNat 0 ()) 0 p0_t.Jobs 0))

def m_gridhallkeep4_UpkeepVerified (p0_t : S_api_UpkeepTask) (other : (List Int)) : Option (Bool) := (m_gridhallkeep4_small p0_t).bind fun r102 => (m_upkeep_Best r102).bind fun r114 => (m_upkeep_Verify r102 other).bind fun r120 => if !decide (r114.2.2 = 0) then ((m_gridhallkeep4_upkeepFact).bind fun r129 => some (((r129 && (decide ((r114.1.length : Int) = 0))) && (decide (r114.2.1 = 0))) && ((!decide (r114.2.2 = 8)) || (!decide (r120.2 = 0))))) else ((m_upkeep_Verify r102 r114.1).bind fun r136 => (m_gridhallkeep4_upkeepFact).bind fun r144 => some (((r144 && (decide (r136.2 = 0))) && (decide (r136.1 = r114.2.1))) && ((!decide (r120.2 = 0)) || (decide (r114.2.1 ≤ r120.1)))))
end Go.Sim
