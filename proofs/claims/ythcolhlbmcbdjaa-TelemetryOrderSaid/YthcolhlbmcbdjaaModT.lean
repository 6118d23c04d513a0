/-
  Printed by a program: the models of the Go functions.
-/
import Derived.Test.YthcolhlbmcbdjaaSimX
import Derived.Laws.Bits64b
namespace Go.Sim
open Go
set_option linter.unusedVariables false
structure S_api_TelemetryMsg where
  Point : ByteArray
  Number : Int
  Time : Int
  Value : Int
  deriving DecidableEq
instance : Rep S_api_TelemetryMsg where
  sz := 4
  E H cs x := cs = [.string (x.Point), .int .i64 (x.Number), .int .i64 (x.Time), .int .i64 (x.Value)]
  len h := by obtain rfl := h; rfl
  mono hle h := by obtain rfl := h; exact rfl
  one h := by obtain rfl := h; exact (all_cons rfl (all_cons rfl (all_cons rfl (all_cons rfl all_nil))))
instance : Flat S_api_TelemetryMsg := ⟨fun h => h⟩
structure S_telemetry_point where
  TelemetryMsg : S_api_TelemetryMsg
  many : Int
  deriving DecidableEq
instance : Rep S_telemetry_point where
  sz := 5
  E H cs x := cs = [.string (x.TelemetryMsg.Point), .int .i64 (x.TelemetryMsg.Number), .int .i64 (x.TelemetryMsg.Time), .int .i64 (x.TelemetryMsg.Value), .int .i64 (x.many)]
  len h := by obtain rfl := h; rfl
  mono hle h := by obtain rfl := h; exact rfl
  one h := by obtain rfl := h; exact (all_cons rfl (all_cons rfl (all_cons rfl (all_cons rfl (all_cons rfl all_nil)))))
instance : Flat S_telemetry_point := ⟨fun h => h⟩
structure S_telemetry_Points where
  age : Int
  all_ : (List S_telemetry_point)
  deriving DecidableEq
instance : Rep S_telemetry_Points where
  sz := 2
  E H cs x := ∃ v1 : Value, cs = [.int .i64 (x.age), v1] ∧ RdS H v1 x.all_
  len h := by obtain ⟨v1, rfl, h0⟩ := h; rfl
  mono hle h := by obtain ⟨v1, rfl, h0⟩ := h; exact ⟨v1, rfl, h0.mono hle⟩
  one h := by obtain ⟨v1, rfl, h0⟩ := h; exact (all_cons rfl (all_cons (RdS.one1 h0) all_nil))

def m_telemetry_New (age : Int) : (Option S_telemetry_Points) × Int := if (decide (age < 0)) || (decide (200000 < age)) then (none, 4) else ((some (S_telemetry_Points.mk age ([] : List S_telemetry_point))), 0)

def m_netmodel_Name_b1 (k106 : Nat) (y143 : U8) (nx140 : Unit → Option (Bool)) : Option (Bool) := if !(((decide (65 ≤ y143.n)) && (decide (y143.n ≤ 90))) || (((decide (0 < (k106 : Int))) && (decide (48 ≤ y143.n))) && (decide (y143.n ≤ 57)))) then (some false) else (nx140 ())
def m_netmodel_Name (p0_s : ByteArray) : Option (Bool) := need (p0_s.size ≤ maxLen) (forI (fun k y s139 n => m_netmodel_Name_b1 k y n) (fun _ => some ((decide (1 ≤ (p0_s.size : Int))) && (decide ((p0_s.size : Int) ≤ 8)))) 0 (bytesL p0_s) ())

def m_telemetry_Check (p0_m : S_api_TelemetryMsg) : Option (Int) := (m_netmodel_Name p0_m.Point).bind fun r102 => if !r102 then (some 6) else (if (((decide (p0_m.Number < 1)) || (decide (1000000 < p0_m.Number))) || (decide (p0_m.Value < (-1000000)))) || (decide (1000000 < p0_m.Value)) then (some 4) else (if (decide (p0_m.Time < 0)) || (decide (200000 < p0_m.Time)) then (some 12) else (some 0)))

def m_telemetry_Points_index_1 (p0_x : S_telemetry_point) (p1_c1 : ByteArray) : Bool := (decide (p0_x.TelemetryMsg.Point = p1_c1))

def m_slices_IndexFunc_telemetry_point_telemetry_point__telemetry_Points_index_1_b1 (p0_s : (List S_telemetry_point)) (p1_f_0 : ByteArray) (k101 : Nat) (nx115 : Unit → Option (Int)) : Option (Int) := idx p0_s (k101 : Int) fun y124 => if (m_telemetry_Points_index_1 y124 p1_f_0) then (some (k101 : Int)) else (nx115 ())
def m_slices_IndexFunc_telemetry_point_telemetry_point__telemetry_Points_index_1 (p0_s : (List S_telemetry_point)) (p1_f_0 : ByteArray) : Option (Int) := forN (fun k s114 n => m_slices_IndexFunc_telemetry_point_telemetry_point__telemetry_Points_index_1_b1 p0_s p1_f_0 k n) (fun _ => some (-1)) ((p0_s.length : Int) : Int).toNat 0 ()

def m_telemetry_Points_index (p0_p : S_telemetry_Points) (name : ByteArray) : Option (Int) := (m_slices_IndexFunc_telemetry_point_telemetry_point__telemetry_Points_index_1 p0_p.all_ name).bind fun r102 => some r102

def m_telemetry_Points_Take_b1 (p0_p : S_telemetry_Points) (l165 : List S_telemetry_point) : Option (Bool × Int × S_telemetry_Points) := some (true, 0, (S_telemetry_Points.mk p0_p.age l165))
def m_telemetry_Points_Take (p0_p : S_telemetry_Points) (p1_m : S_api_TelemetryMsg) : Option (Bool × Int × S_telemetry_Points) := (m_telemetry_Check p1_m).bind fun r102 => if !decide (r102 = 0) then (some (false, r102, p0_p)) else ((m_telemetry_Points_index p0_p p1_m.Point).bind fun r105 => if (decide (r105 < 0)) && (decide ((p0_p.all_.length : Int) = 24)) then (some (false, 9, p0_p)) else (if decide (r105 < 0) then (need ((p0_p.all_.length + ([(S_telemetry_point.mk p1_m 1)]).length) * 48 ≤ 140737488355328) (m_telemetry_Points_Take_b1 p0_p (p0_p.all_ ++ ([(S_telemetry_point.mk p1_m 1)])))) else (idx p0_p.all_ r105 fun y197 => if decide (p1_m.Number ≤ y197.TelemetryMsg.Number) then (some (false, 0, p0_p)) else (idx p0_p.all_ r105 fun y204 => if decide (p1_m.Time < y204.TelemetryMsg.Time) then (some (false, 12, p0_p)) else (idx p0_p.all_ r105 fun y211 => idx p0_p.all_ r105 fun y217 => m_telemetry_Points_Take_b1 p0_p (p0_p.all_.set ((r105 : Int).toNat) (S_telemetry_point.mk p1_m (IntKind.i64.wrap (y211.many + 1)))))))))

def m_telemetry_Points_Value (p0_p : S_telemetry_Points) (name : ByteArray) (now : Int) : Option (Int × Int × Int) := (m_telemetry_Points_index p0_p name).bind fun r101 => if (decide (now < 0)) || (decide (200000 < now)) then (some (0, 0, 12)) else (if decide (r101 < 0) then (some (0, 2, 0)) else (idx p0_p.all_ r101 fun y107 => if decide (now < y107.TelemetryMsg.Time) then (some (0, 0, 12)) else (idx p0_p.all_ r101 fun y112 => if decide ((IntKind.i64.wrap (now - y112.TelemetryMsg.Time)) ≤ p0_p.age) then (idx p0_p.all_ r101 fun y119 => some (y119.TelemetryMsg.Value, 0, 0)) else (idx p0_p.all_ r101 fun y123 => some (y123.TelemetryMsg.Value, 1, 0)))))

def m_gridhallkeep4_telemetryFact : Option (Bool) := optC (((m_telemetry_New 10)).1) (some false) (fun sp101 => if !decide ((((m_telemetry_New 10)).2) = 0) then (some false) else ((m_telemetry_Points_Take sp101 (S_api_TelemetryMsg.mk (⟨#[65]⟩) 3 100 7)).bind fun r119 => (m_telemetry_Points_Value r119.2.2 (⟨#[65]⟩) 111).bind fun r125 => some ((((r119.1 && (decide (r119.2.1 = 0))) && (decide (r125.2.2 = 0))) && (decide (r125.1 = 7))) && (decide (r125.2.1 = 1)))))

def m_gridhallref4_Cut_b1 (p1_low : Int) (n103 : Int) : Option (Int) := some (IntKind.i64.wrap (p1_low + n103))
def m_gridhallref4_Cut (p0_n : Int) (p1_low : Int) (p2_high : Int) : Option (Int) := need ((IntKind.i64.wrap ((IntKind.i64.wrap (p2_high - p1_low)) + 1)) ≠ 0) (if decide ((Int.tmod p0_n (IntKind.i64.wrap ((IntKind.i64.wrap (p2_high - p1_low)) + 1))) < 0) then (m_gridhallref4_Cut_b1 p1_low (IntKind.i64.wrap ((Int.tmod p0_n (IntKind.i64.wrap ((IntKind.i64.wrap (p2_high - p1_low)) + 1))) + (IntKind.i64.wrap ((IntKind.i64.wrap (p2_high - p1_low)) + 1))))) else (m_gridhallref4_Cut_b1 p1_low (Int.tmod p0_n (IntKind.i64.wrap ((IntKind.i64.wrap (p2_high - p1_low)) + 1)))))

def m_math_bits_Len64_b1 (n110 : Int) (n111 : Int) : Option (Int) := idx (bytesL (⟨#[0, 1, 2, 2, 3, 3, 3, 3, 4, 4, 4, 4, 4, 4, 4, 4, 5, 5, 5, 5, 5, 5, 5, 5, 5, 5, 5, 5, 5, 5, 5, 5, 6, 6, 6, 6, 6, 6, 6, 6, 6, 6, 6, 6, 6, 6, 6, 6, 6, 6, 6, 6, 6, 6, 6, 6, 6, 6, 6, 6, 6, 6, 6, 6, 7, 7, 7, 7, 7, 7, 7, 7, 7, 7, 7, 7, 7, 7, 7, 7, 7, 7, 7, 7, 7, 7, 7, 7, 7, 7, 7, 7, 7, 7, 7, 7, 7, 7, 7, 7, 7, 7, 7, 7, 7, 7, 7, 7, 7, 7, 7, 7, 7, 7, 7, 7, 7, 7, 7, 7, 7, 7, 7, 7, 7, 7, 7, 7, 8, 8, 8, 8, 8, 8, 8, 8, 8, 8, 8, 8, 8, 8, 8, 8, 8, 8, 8, 8, 8, 8, 8, 8, 8, 8, 8, 8, 8, 8, 8, 8, 8, 8, 8, 8, 8, 8, 8, 8, 8, 8, 8, 8, 8, 8, 8, 8, 8, 8, 8, 8, 8, 8, 8, 8, 8, 8, 8, 8, 8, 8, 8, 8, 8, 8, 8, 8, 8, 8, 8, 8, 8, 8, 8, 8, 8, 8, 8, 8, 8, 8, 8, 8, 8, 8, 8, 8, 8, 8, 8, 8, 8, 8, 8, 8, 8, 8, 8, 8, 8, 8, 8, 8, 8, 8, 8, 8, 8, 8, 8, 8, 8, 8, 8, 8, 8, 8, 8, 8, 8, 8, 8, 8, 8, 8, 8, 8]⟩)) (IntKind.u8.wrap (n110)) fun y113 => some (IntKind.i64.wrap (n111 + (IntKind.i64.wrap (y113.n))))
def m_math_bits_Len64_b2 (n106 : Int) (n107 : Int) : Option (Int) := if decide (256 ≤ n106) then (m_math_bits_Len64_b1 (shrV .u64 n106 8) (IntKind.i64.wrap (n107 + 8))) else (m_math_bits_Len64_b1 n106 n107)
def m_math_bits_Len64_b3 (n102 : Int) (n103 : Int) : Option (Int) := if decide (65536 ≤ n102) then (m_math_bits_Len64_b2 (shrV .u64 n102 16) (IntKind.i64.wrap (n103 + 16))) else (m_math_bits_Len64_b2 n102 n103)
def m_math_bits_Len64 (p0_x : Int) : Option (Int) := if decide (4294967296 ≤ p0_x) then (m_math_bits_Len64_b3 (shrV .u64 p0_x 32) 32) else (m_math_bits_Len64_b3 p0_x 0)

def m_math_bits_Len (p0_x : Int) : Option (Int) := (m_math_bits_Len64 p0_x).bind fun r101 => some r101

def m_internal_bytealg_CompareString (p0_a : ByteArray) (p1_b : ByteArray) : Int := (cmpS p0_a p1_b)

def m_strings_Compare (p0_a : ByteArray) (p1_b : ByteArray) : Int := (m_internal_bytealg_CompareString p0_a p1_b)

def m_telemetry_Points_List_1 (p0_a : S_api_TelemetryMsg) (p1_b : S_api_TelemetryMsg) : Int := (m_strings_Compare p0_a.Point p1_b.Point)

def m_slices_insertionSortCmpFunc_api_TelemetryMsg__telemetry_Points_List_1_b4 (p1_a : Int) (n445 : Int) (nx449 : (List S_api_TelemetryMsg × Int) → Option ((List S_api_TelemetryMsg))) (l562 : List S_api_TelemetryMsg) (n564 : Int) (nx568 : (List S_api_TelemetryMsg × Int) → Option ((List S_api_TelemetryMsg))) : Option ((List S_api_TelemetryMsg)) := if decide (p1_a < n564) then (idx l562 n564 fun y579 => idx l562 (IntKind.i64.wrap (n564 - 1)) fun y583 => if decide ((m_telemetry_Points_List_1 y579 y583) < 0) then (idx l562 (IntKind.i64.wrap (n564 - 1)) fun y590 => idx l562 n564 fun y594 => idx l562 n564 fun y598 => idx (l562.set ((n564 : Int).toNat) y590) (IntKind.i64.wrap (n564 - 1)) fun y612 => nx568 (((l562.set ((n564 : Int).toNat) y590).set ((IntKind.i64.wrap (n564 - 1) : Int).toNat) y594), IntKind.i64.wrap (n564 - 1))) else (nx449 (l562, IntKind.i64.wrap (n445 + 1)))) else (nx449 (l562, IntKind.i64.wrap (n445 + 1)))
def m_slices_insertionSortCmpFunc_api_TelemetryMsg__telemetry_Points_List_1_b3 (p1_a : Int) (p2_b : Int) (l443 : List S_api_TelemetryMsg) (n445 : Int) (nx449 : (List S_api_TelemetryMsg × Int) → Option ((List S_api_TelemetryMsg))) : Option ((List S_api_TelemetryMsg)) := if decide (n445 < p2_b) then (loopF (fun s567 n => m_slices_insertionSortCmpFunc_api_TelemetryMsg__telemetry_Points_List_1_b4 p1_a n445 nx449 s567.1 s567.2 n) FUEL (l443, n445)) else (some l443)
def m_slices_insertionSortCmpFunc_api_TelemetryMsg__telemetry_Points_List_1 (data : (List S_api_TelemetryMsg)) (p1_a : Int) (p2_b : Int) : Option ((List S_api_TelemetryMsg)) := loopF (fun s448 n => m_slices_insertionSortCmpFunc_api_TelemetryMsg__telemetry_Points_List_1_b3 p1_a p2_b s448.1 s448.2 n) FUEL (data, IntKind.i64.wrap (p1_a + 1))

def m_slices_pdqsortCmpFunc_api_TelemetryMsg__telemetry_Points_List_1_b4 : Option ((List S_api_TelemetryMsg)) := none
def m_slices_pdqsortCmpFunc_api_TelemetryMsg__telemetry_Points_List_1_b3 (data : (List S_api_TelemetryMsg)) (p1_a : Int) (p2_b : Int) (limit : Int) (nx120 : Unit → Option ((List S_api_TelemetryMsg))) : Option ((List S_api_TelemetryMsg)) := if decide ((IntKind.i64.wrap (p2_b - p1_a)) ≤ 12) then ((m_slices_insertionSortCmpFunc_api_TelemetryMsg__telemetry_Points_List_1 data p1_a p2_b).bind fun r129 => some r129) else (if decide (limit = 0) then none else m_slices_pdqsortCmpFunc_api_TelemetryMsg__telemetry_Points_List_1_b4)
def m_slices_pdqsortCmpFunc_api_TelemetryMsg__telemetry_Points_List_1 (data : (List S_api_TelemetryMsg)) (p1_a : Int) (p2_b : Int) (limit : Int) : Option ((List S_api_TelemetryMsg)) := loopF (fun s119 n => m_slices_pdqsortCmpFunc_api_TelemetryMsg__telemetry_Points_List_1_b3 data p1_a p2_b limit n) FUEL ()

def m_slices_SortFunc_api_TelemetryMsg_api_TelemetryMsg__telemetry_Points_List_1 (p0_x : (List S_api_TelemetryMsg)) : Option ((List S_api_TelemetryMsg)) := (m_math_bits_Len (IntKind.u64.wrap ((p0_x.length : Int)))).bind fun r101 => (m_slices_pdqsortCmpFunc_api_TelemetryMsg__telemetry_Points_List_1 p0_x 0 (p0_x.length : Int) r101).bind fun r103 => some r103

def m_telemetry_Points_List_b1 (k101 : Nat) (y151 : S_telemetry_point) (l142 : List S_api_TelemetryMsg) (nx147 : List S_api_TelemetryMsg → Option ((List S_api_TelemetryMsg))) : Option ((List S_api_TelemetryMsg)) := need ((l142.length + ([y151.TelemetryMsg]).length) * 40 ≤ 140737488355328) (nx147 (l142 ++ ([y151.TelemetryMsg])))
def m_telemetry_Points_List (p0_p : S_telemetry_Points) : Option ((List S_api_TelemetryMsg)) := forI (fun k y s146 n => m_telemetry_Points_List_b1 k y s146 n) (fun s146 => (m_slices_SortFunc_api_TelemetryMsg_api_TelemetryMsg__telemetry_Points_List_1 s146).bind fun r170 => some r170) 0 p0_p.all_ ([] : List S_api_TelemetryMsg)

def m_gridhallkeep4_TelemetryAges_b2 (age : Int) (n164 : Int) (l167 : List S_telemetry_point) (r189 : (Int)) (r191 : (Int)) (k198 : Nat) (y246 : S_api_TelemetryMsg) (nx242 : Unit → Option (Bool)) : Option (Bool) := (m_telemetry_Points_Value (S_telemetry_Points.mk n164 l167) y246.Point r189).bind fun r254 => (m_telemetry_Points_Value (S_telemetry_Points.mk n164 l167) y246.Point (IntKind.i64.wrap (r189 + r191))).bind fun r256 => if (decide (r254.2.2 = 0)) && ((((((!decide (r256.2.2 = 0)) || (!decide (r254.1 = r256.1))) || (!decide (r254.1 = y246.Value))) || (decide (r256.2.1 < r254.2.1))) || (decide (r254.2.1 = 2))) || (!decide ((decide (r254.2.1 = 0)) = (decide ((IntKind.i64.wrap (r189 - y246.Time)) ≤ age))))) then (some false) else (nx242 ())
def m_gridhallkeep4_TelemetryAges_b1 (age : Int) (k137 : Nat) (y175 : S_api_TelemetryMsg) (n164 : Int) (l167 : List S_telemetry_point) (nx172 : (Int × List S_telemetry_point) → Option (Bool)) : Option (Bool) := (m_telemetry_Points_Take (S_telemetry_Points.mk n164 l167) y175).bind fun r183 => nx172 (r183.2.2.age, r183.2.2.all_)
def m_gridhallkeep4_TelemetryAges (age : Int) (p1_l : (List S_api_TelemetryMsg)) (now : Int) (later : Int) : Option (Bool) := optC (((m_telemetry_New age)).1) ((m_gridhallkeep4_telemetryFact).bind fun r118 => some r118) (fun sp101 => if !decide ((((m_telemetry_New age)).2) = 0) then ((m_gridhallkeep4_telemetryFact).bind fun r129 => some false) else (need (0 ≤ (min (p1_l.length : Int) 8) ∧ (min (p1_l.length : Int) 8) ≤ (p1_l.length : Int)) (forI (fun k y s171 n => m_gridhallkeep4_TelemetryAges_b1 age k y s171.1 s171.2 n) (fun s171 => (m_gridhallref4_Cut now 0 1000).bind fun r189 => (m_gridhallref4_Cut later 0 1000).bind fun r191 => (m_telemetry_Points_List (S_telemetry_Points.mk s171.1 s171.2)).bind fun r193 => forI (fun k y s241 n => m_gridhallkeep4_TelemetryAges_b2 age s171.1 s171.2 r189 r191 k y n) (fun _ => (m_gridhallkeep4_telemetryFact).bind fun r272 => some r272) 0 r193 ()) 0 (slc p1_l 0 ((min (p1_l.length : Int) 8 : Int).toNat)) (sp101.age, sp101.all_))))

def m_slices_Equal_api_TelemetryMsg_api_TelemetryMsg_b1 (p0_s1 : (List S_api_TelemetryMsg)) (p1_s2 : (List S_api_TelemetryMsg)) (k102 : Nat) (nx132 : Unit → Option (Bool)) : Option (Bool) := idx p0_s1 (k102 : Int) fun y141 => idx p1_s2 (k102 : Int) fun y145 => if !(decide (y141.Point = y145.Point) && (decide (y141.Number = y145.Number) && (decide (y141.Time = y145.Time) && (decide (y141.Value = y145.Value) && true)))) then (some false) else (nx132 ())
def m_slices_Equal_api_TelemetryMsg_api_TelemetryMsg (p0_s1 : (List S_api_TelemetryMsg)) (p1_s2 : (List S_api_TelemetryMsg)) : Option (Bool) := if !decide ((p0_s1.length : Int) = (p1_s2.length : Int)) then (some false) else (forN (fun k s131 n => m_slices_Equal_api_TelemetryMsg_api_TelemetryMsg_b1 p0_s1 p1_s2 k n) (fun _ => some true) ((p0_s1.length : Int) : Int).toNat 0 ())

def m_gridhallkeep4_TelemetryOrder_b3 (turn : Int) (l196 : List S_api_TelemetryMsg) (k350 : Nat) (n401 : Int) (l404 : List S_telemetry_point) (nx409 : (Int × List S_telemetry_point) → Option (Bool)) : Option (Bool) := (m_gridhallref4_Cut turn 0 (IntKind.i64.wrap ((l196.length : Int) - 1))).bind fun r419 => need ((l196.length : Int) ≠ 0) (idx l196 (Int.tmod (IntKind.i64.wrap ((k350 : Int) + r419)) (l196.length : Int)) fun y422 => (m_telemetry_Points_Take (S_telemetry_Points.mk n401 l404) y422).bind fun r427 => (m_telemetry_Points_Take r427.2.2 y422).bind fun r433 => nx409 (r433.2.2.age, r433.2.2.all_))
def m_gridhallkeep4_TelemetryOrder_b2 (k297 : Nat) (y336 : S_api_TelemetryMsg) (n324 : Int) (l327 : List S_telemetry_point) (nx332 : (Int × List S_telemetry_point) → Option (Bool)) : Option (Bool) := (m_telemetry_Points_Take (S_telemetry_Points.mk n324 l327) y336).bind fun r344 => nx332 (r344.2.2.age, r344.2.2.all_)
def m_gridhallkeep4_TelemetryOrder_b1 (k109 : Nat) (l196 : List S_api_TelemetryMsg) (nx201 : List S_api_TelemetryMsg → Option (Bool)) : Option (Bool) := idx l196 (k109 : Int) fun y211 => (m_gridhallref4_Cut y211.Number 1 1000).bind fun r215 => idx l196 (k109 : Int) fun y217 => idx (l196.set (((k109 : Int) : Int).toNat) (S_api_TelemetryMsg.mk y217.Point r215 y217.Time y217.Value)) (k109 : Int) fun y225 => idx (l196.set (((k109 : Int) : Int).toNat) (S_api_TelemetryMsg.mk y217.Point r215 y217.Time y217.Value)) (k109 : Int) fun y229 => idx ((l196.set (((k109 : Int) : Int).toNat) (S_api_TelemetryMsg.mk y217.Point r215 y217.Time y217.Value)).set (((k109 : Int) : Int).toNat) (S_api_TelemetryMsg.mk y229.Point y229.Number (IntKind.i64.wrap (10 * y225.Number)) y229.Value)) (k109 : Int) fun y237 => idx ((l196.set (((k109 : Int) : Int).toNat) (S_api_TelemetryMsg.mk y217.Point r215 y217.Time y217.Value)).set (((k109 : Int) : Int).toNat) (S_api_TelemetryMsg.mk y229.Point y229.Number (IntKind.i64.wrap (10 * y225.Number)) y229.Value)) (k109 : Int) fun y241 => nx201 (((l196.set (((k109 : Int) : Int).toNat) (S_api_TelemetryMsg.mk y217.Point r215 y217.Time y217.Value)).set (((k109 : Int) : Int).toNat) (S_api_TelemetryMsg.mk y229.Point y229.Number (IntKind.i64.wrap (10 * y225.Number)) y229.Value)).set (((k109 : Int) : Int).toNat) (S_api_TelemetryMsg.mk y241.Point y241.Number y241.Time (Int.tmod y237.Number 7)))
def m_gridhallkeep4_TelemetryOrder (p0_l : (List S_api_TelemetryMsg)) (turn : Int) : Option (Bool) := need (0 ≤ (min (p0_l.length : Int) 12) ∧ (min (p0_l.length : Int) 12) ≤ (p0_l.length : Int)) (need ((slc p0_l 0 ((min (p0_l.length : Int) 12 : Int).toNat)).length * 40 ≤ 140737488355328) (forN (fun k s200 n => m_gridhallkeep4_TelemetryOrder_b1 k s200 n) (fun s200 => optC (((m_telemetry_New 5)).1) (optC (((m_telemetry_New 5)).1) (some false) (fun sp261 => some false)) (fun sp249 => optC (((m_telemetry_New 5)).1) (some false) (fun sp279 => if (!decide ((((m_telemetry_New 5)).2) = 0)) || (!decide ((((m_telemetry_New 5)).2) = 0)) then (some false) else (forI (fun k y s331 n => m_gridhallkeep4_TelemetryOrder_b2 k y s331.1 s331.2 n) (fun s331 => forN (fun k s408 n => m_gridhallkeep4_TelemetryOrder_b3 turn s200 k s408.1 s408.2 n) (fun s408 => (m_gridhallkeep4_telemetryFact).bind fun r439 => if r439 then ((m_telemetry_Points_List (S_telemetry_Points.mk s331.1 s331.2)).bind fun r442 => (m_telemetry_Points_List (S_telemetry_Points.mk s408.1 s408.2)).bind fun r447 => (m_slices_Equal_api_TelemetryMsg_api_TelemetryMsg r442 r447).bind fun r452 => some r452) else (some false)) ((s200.length : Int) : Int).toNat 0 (sp279.age, sp279.all_)) 0 s200 (sp249.age, sp249.all_))))) (((slc p0_l 0 ((min (p0_l.length : Int) 12 : Int).toNat)).length : Int) : Int).toNat 0 (slc p0_l 0 ((min (p0_l.length : Int) 12 : Int).toNat))))
end Go.Sim
