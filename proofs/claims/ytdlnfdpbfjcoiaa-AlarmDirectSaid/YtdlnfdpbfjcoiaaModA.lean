/-
  Printed by a program: the models of the Go functions.
-/
import Derived.Test.YtdlnfdpbfjcoiaaSimX
import Derived.Laws.Bits64b
namespace Go.Sim
open Go
set_option linter.unusedVariables false
structure S_api_AlarmCause where
  Of : ByteArray
  By : ByteArray
  deriving DecidableEq
instance : Rep S_api_AlarmCause where
  sz := 2
  E H cs x := cs = [.string (x.Of), .string (x.By)]
  len h := by obtain rfl := h; rfl
  mono hle h := by obtain rfl := h; exact rfl
  one h := by obtain rfl := h; exact (all_cons rfl (all_cons rfl all_nil))
instance : Flat S_api_AlarmCause := ⟨fun h => h⟩

def m_netmodel_Name_b1 (k106 : Nat) (y143 : U8) (nx140 : Unit → Option (Bool)) : Option (Bool) := if !(((decide (65 ≤ y143.n)) && (decide (y143.n ≤ 90))) || (((decide (0 < (k106 : Int))) && (decide (48 ≤ y143.n))) && (decide (y143.n ≤ 57)))) then (some false) else (nx140 ())
def m_netmodel_Name (p0_s : ByteArray) : Option (Bool) := need (p0_s.size ≤ maxLen) (forI (fun k y s139 n => m_netmodel_Name_b1 k y n) (fun _ => some ((decide (1 ≤ (p0_s.size : Int))) && (decide ((p0_s.size : Int) ≤ 8)))) 0 (bytesL p0_s) ())

def m_slices_Index_api_AlarmCause_api_AlarmCause_b1 (p0_s : (List S_api_AlarmCause)) (p1_v : S_api_AlarmCause) (k102 : Nat) (nx124 : Unit → Option (Int)) : Option (Int) := idx p0_s (k102 : Int) fun y133 => if decide (p1_v.Of = y133.Of) && (decide (p1_v.By = y133.By) && true) then (some (k102 : Int)) else (nx124 ())
def m_slices_Index_api_AlarmCause_api_AlarmCause (p0_s : (List S_api_AlarmCause)) (p1_v : S_api_AlarmCause) : Option (Int) := forN (fun k s123 n => m_slices_Index_api_AlarmCause_api_AlarmCause_b1 p0_s p1_v k n) (fun _ => some (-1)) ((p0_s.length : Int) : Int).toNat 0 ()

def m_slices_Contains_api_AlarmCause_api_AlarmCause (p0_s : (List S_api_AlarmCause)) (p1_v : S_api_AlarmCause) : Option (Bool) := (m_slices_Index_api_AlarmCause_api_AlarmCause p0_s p1_v).bind fun r102 => some (decide (0 ≤ r102))

def m_alarm_Check_b1 (p0_l : (List S_api_AlarmCause)) (k102 : Nat) (y155 : S_api_AlarmCause) (nx152 : Unit → Option (Int)) : Option (Int) := (m_netmodel_Name y155.Of).bind fun r163 => if r163 then ((m_netmodel_Name y155.By).bind fun r166 => if !r166 then (some 6) else (if decide (y155.Of = y155.By) then (some 3) else (need (0 ≤ (k102 : Int) ∧ (k102 : Int) ≤ (p0_l.length : Int)) ((m_slices_Contains_api_AlarmCause_api_AlarmCause (slc p0_l 0 (((k102 : Int) : Int).toNat)) y155).bind fun r179 => if r179 then (some 7) else (nx152 ()))))) else (some 6)
def m_alarm_Check (p0_l : (List S_api_AlarmCause)) : Option (Int) := if decide (40 < (p0_l.length : Int)) then (some 2) else (forI (fun k y s151 n => m_alarm_Check_b1 p0_l k y n) (fun _ => some 0) 0 p0_l ())

def m_slices_Index_string_string_b1 (p0_s : (List ByteArray)) (p1_v : ByteArray) (k101 : Nat) (nx115 : Unit → Option (Int)) : Option (Int) := idx p0_s (k101 : Int) fun y124 => if decide (p1_v = y124) then (some (k101 : Int)) else (nx115 ())
def m_slices_Index_string_string (p0_s : (List ByteArray)) (p1_v : ByteArray) : Option (Int) := forN (fun k s114 n => m_slices_Index_string_string_b1 p0_s p1_v k n) (fun _ => some (-1)) ((p0_s.length : Int) : Int).toNat 0 ()

def m_slices_Contains_string_string (p0_s : (List ByteArray)) (p1_v : ByteArray) : Option (Bool) := (m_slices_Index_string_string p0_s p1_v).bind fun r101 => some (decide (0 ≤ r101))

def m_alarm_check_b1 (p1_l : (List ByteArray)) (k105 : Nat) (y134 : ByteArray) (nx131 : Unit → Option (Int)) : Option (Int) := (m_netmodel_Name y134).bind fun r141 => if !r141 then (some 6) else (need (0 ≤ (k105 : Int) ∧ (k105 : Int) ≤ (p1_l.length : Int)) ((m_slices_Contains_string_string (slc p1_l 0 (((k105 : Int) : Int).toNat)) y134).bind fun r148 => if r148 then (some 7) else (nx131 ())))
def m_alarm_check (causes : (List S_api_AlarmCause)) (p1_l : (List ByteArray)) : Option (Int) := (m_alarm_Check causes).bind fun r101 => if !decide (r101 = 0) then (some r101) else (if decide (24 < (p1_l.length : Int)) then (some 2) else (forI (fun k y s130 n => m_alarm_check_b1 p1_l k y n) (fun _ => some 0) 0 p1_l ()))

def m_alarm_explained_b13 (nx868 : (List ByteArray × List ByteArray) → Option ((List ByteArray))) (l910 : List ByteArray) (l914 : List ByteArray) : Option ((List ByteArray)) := nx868 (l910, l914)
def m_alarm_explained_b12 (p1_l : (List ByteArray)) (y682 : ByteArray) (k690 : Nat) (y871 : S_api_AlarmCause) (l859 : List ByteArray) (l863 : List ByteArray) (nx868 : (List ByteArray × List ByteArray) → Option ((List ByteArray))) : Option ((List ByteArray)) := if decide (y871.Of = y682) then ((m_slices_Contains_string_string p1_l y871.By).bind fun r922 => if r922 then ((m_slices_Contains_string_string l859 y871.By).bind fun r925 => if !r925 then (need ((l859.length + ([y871.By]).length) * 16 ≤ 140737488355328) (need ((l863.length + ([y871.By]).length) * 16 ≤ 140737488355328) (m_alarm_explained_b13 nx868 (l859 ++ ([y871.By])) (l863 ++ ([y871.By]))))) else (m_alarm_explained_b13 nx868 l859 l863)) else (m_alarm_explained_b13 nx868 l859 l863)) else (m_alarm_explained_b13 nx868 l859 l863)
def m_alarm_explained_b9 (causes : (List S_api_AlarmCause)) (p1_l : (List ByteArray)) (l664 : List ByteArray) (l668 : List ByteArray) (nx673 : (List ByteArray × List ByteArray) → Option ((List ByteArray))) : Option ((List ByteArray)) := if decide (0 < (l668.length : Int)) then (idx l668 0 fun y682 => need (0 ≤ 1 ∧ 1 ≤ (l668.length : Int)) (forI (fun k y s867 n => m_alarm_explained_b12 p1_l y682 k y s867.1 s867.2 n) (fun s867 => nx673 (s867.1, s867.2)) 0 causes (l664, (slc l668 (1 : Int).toNat l668.length)))) else (some l664)
def m_alarm_explained (causes : (List S_api_AlarmCause)) (p1_l : (List ByteArray)) (name : ByteArray) : Option ((List ByteArray)) := loopF (fun s672 n => m_alarm_explained_b9 causes p1_l s672.1 s672.2 n) FUEL (([] : List ByteArray), ([name]))

def m_alarm_isCause_1 (p0_by : ByteArray) (p1_c1 : ByteArray) (p2_c2 : (List S_api_AlarmCause)) (p3_c3 : (List ByteArray)) : Option (Bool) := if ltS p0_by p1_c1 then (some true) else ((m_alarm_explained p2_c2 p3_c3 p0_by).bind fun r102 => (m_slices_Contains_string_string r102 p1_c1).bind fun r112 => some (!r112))

def m_slices_IndexFunc_string_string__alarm_isCause_1_b1 (p0_s : (List ByteArray)) (p1_f_0 : ByteArray) (p1_f_1 : (List S_api_AlarmCause)) (p1_f_2 : (List ByteArray)) (k101 : Nat) (nx119 : Unit → Option (Int)) : Option (Int) := idx p0_s (k101 : Int) fun y128 => (m_alarm_isCause_1 y128 p1_f_0 p1_f_1 p1_f_2).bind fun r132 => if r132 then (some (k101 : Int)) else (nx119 ())
def m_slices_IndexFunc_string_string__alarm_isCause_1 (p0_s : (List ByteArray)) (p1_f_0 : ByteArray) (p1_f_1 : (List S_api_AlarmCause)) (p1_f_2 : (List ByteArray)) : Option (Int) := forN (fun k s118 n => m_slices_IndexFunc_string_string__alarm_isCause_1_b1 p0_s p1_f_0 p1_f_1 p1_f_2 k n) (fun _ => some (-1)) ((p0_s.length : Int) : Int).toNat 0 ()

def m_slices_ContainsFunc_string_string__alarm_isCause_1 (p0_s : (List ByteArray)) (p1_f_0 : ByteArray) (p1_f_1 : (List S_api_AlarmCause)) (p1_f_2 : (List ByteArray)) : Option (Bool) := (m_slices_IndexFunc_string_string__alarm_isCause_1 p0_s p1_f_0 p1_f_1 p1_f_2).bind fun r101 => some (decide (0 ≤ r101))

def m_alarm_isCause (causes : (List S_api_AlarmCause)) (p1_l : (List ByteArray)) (name : ByteArray) : Option (Bool) := (m_alarm_explained causes p1_l name).bind fun r104 => (m_slices_ContainsFunc_string_string__alarm_isCause_1 r104 name causes p1_l).bind fun r109 => some (!r109)

def m_math_bits_Len64_b1 (n110 : Int) (n111 : Int) : Option (Int) := idx (bytesL (⟨#[0, 1, 2, 2, 3, 3, 3, 3, 4, 4, 4, 4, 4, 4, 4, 4, 5, 5, 5, 5, 5, 5, 5, 5, 5, 5, 5, 5, 5, 5, 5, 5, 6, 6, 6, 6, 6, 6, 6, 6, 6, 6, 6, 6, 6, 6, 6, 6, 6, 6, 6, 6, 6, 6, 6, 6, 6, 6, 6, 6, 6, 6, 6, 6, 7, 7, 7, 7, 7, 7, 7, 7, 7, 7, 7, 7, 7, 7, 7, 7, 7, 7, 7, 7, 7, 7, 7, 7, 7, 7, 7, 7, 7, 7, 7, 7, 7, 7, 7, 7, 7, 7, 7, 7, 7, 7, 7, 7, 7, 7, 7, 7, 7, 7, 7, 7, 7, 7, 7, 7, 7, 7, 7, 7, 7, 7, 7, 7, 8, 8, 8, 8, 8, 8, 8, 8, 8, 8, 8, 8, 8, 8, 8, 8, 8, 8, 8, 8, 8, 8, 8, 8, 8, 8, 8, 8, 8, 8, 8, 8, 8, 8, 8, 8, 8, 8, 8, 8, 8, 8, 8, 8, 8, 8, 8, 8, 8, 8, 8, 8, 8, 8, 8, 8, 8, 8, 8, 8, 8, 8, 8, 8, 8, 8, 8, 8, 8, 8, 8, 8, 8, 8, 8, 8, 8, 8, 8, 8, 8, 8, 8, 8, 8, 8, 8, 8, 8, 8, 8, 8, 8, 8, 8, 8, 8, 8, 8, 8, 8, 8, 8, 8, 8, 8, 8, 8, 8, 8, 8, 8, 8, 8, 8, 8, 8, 8, 8, 8, 8, 8, 8, 8, 8, 8, 8, 8]⟩)) (IntKind.u8.wrap (n110)) fun y113 => some (IntKind.i64.wrap (n111 + (IntKind.i64.wrap (y113.n))))
def m_math_bits_Len64_b2 (n106 : Int) (n107 : Int) : Option (Int) := if decide (256 ≤ n106) then (m_math_bits_Len64_b1 (shrV .u64 n106 8) (IntKind.i64.wrap (n107 + 8))) else (m_math_bits_Len64_b1 n106 n107)
def m_math_bits_Len64_b3 (n102 : Int) (n103 : Int) : Option (Int) := if decide (65536 ≤ n102) then (m_math_bits_Len64_b2 (shrV .u64 n102 16) (IntKind.i64.wrap (n103 + 16))) else (m_math_bits_Len64_b2 n102 n103)
def m_math_bits_Len64 (p0_x : Int) : Option (Int) := if decide (4294967296 ≤ p0_x) then (m_math_bits_Len64_b3 (shrV .u64 p0_x 32) 32) else (m_math_bits_Len64_b3 p0_x 0)

def m_math_bits_Len (p0_x : Int) : Option (Int) := (m_math_bits_Len64 p0_x).bind fun r101 => some r101

def m_cmp_isNaN_string (p0_x : ByteArray) : Bool := (!decide (p0_x = p0_x))

def m_cmp_Less_string (p0_x : ByteArray) (p1_y : ByteArray) : Bool := (((m_cmp_isNaN_string p0_x) && (!(m_cmp_isNaN_string p1_y))) || (ltS p0_x p1_y))

def m_slices_insertionSortOrdered_string_b4 (p1_a : Int) (n445 : Int) (nx449 : (List ByteArray × Int) → Option ((List ByteArray))) (l562 : List ByteArray) (n564 : Int) (nx568 : (List ByteArray × Int) → Option ((List ByteArray))) : Option ((List ByteArray)) := if decide (p1_a < n564) then (idx l562 n564 fun y579 => idx l562 (IntKind.i64.wrap (n564 - 1)) fun y583 => if (m_cmp_Less_string y579 y583) then (idx l562 (IntKind.i64.wrap (n564 - 1)) fun y590 => idx l562 n564 fun y594 => idx l562 n564 fun y598 => idx (l562.set ((n564 : Int).toNat) y590) (IntKind.i64.wrap (n564 - 1)) fun y612 => nx568 (((l562.set ((n564 : Int).toNat) y590).set ((IntKind.i64.wrap (n564 - 1) : Int).toNat) y594), IntKind.i64.wrap (n564 - 1))) else (nx449 (l562, IntKind.i64.wrap (n445 + 1)))) else (nx449 (l562, IntKind.i64.wrap (n445 + 1)))
def m_slices_insertionSortOrdered_string_b3 (p1_a : Int) (p2_b : Int) (l443 : List ByteArray) (n445 : Int) (nx449 : (List ByteArray × Int) → Option ((List ByteArray))) : Option ((List ByteArray)) := if decide (n445 < p2_b) then (loopF (fun s567 n => m_slices_insertionSortOrdered_string_b4 p1_a n445 nx449 s567.1 s567.2 n) FUEL (l443, n445)) else (some l443)
def m_slices_insertionSortOrdered_string (data : (List ByteArray)) (p1_a : Int) (p2_b : Int) : Option ((List ByteArray)) := loopF (fun s448 n => m_slices_insertionSortOrdered_string_b3 p1_a p2_b s448.1 s448.2 n) FUEL (data, IntKind.i64.wrap (p1_a + 1))

def m_slices_pdqsortOrdered_string_b4 : Option ((List ByteArray)) := none
def m_slices_pdqsortOrdered_string_b3 (data : (List ByteArray)) (p1_a : Int) (p2_b : Int) (limit : Int) (nx120 : Unit → Option ((List ByteArray))) : Option ((List ByteArray)) := if decide ((IntKind.i64.wrap (p2_b - p1_a)) ≤ 12) then ((m_slices_insertionSortOrdered_string data p1_a p2_b).bind fun r129 => some r129) else (if decide (limit = 0) then none else m_slices_pdqsortOrdered_string_b4)
def m_slices_pdqsortOrdered_string (data : (List ByteArray)) (p1_a : Int) (p2_b : Int) (limit : Int) : Option ((List ByteArray)) := loopF (fun s119 n => m_slices_pdqsortOrdered_string_b3 data p1_a p2_b limit n) FUEL ()

def m_slices_Sort_string_string (p0_x : (List ByteArray)) : Option ((List ByteArray)) := (m_math_bits_Len (IntKind.u64.wrap ((p0_x.length : Int)))).bind fun r101 => (m_slices_pdqsortOrdered_string p0_x 0 (p0_x.length : Int) r101).bind fun r103 => some r103

def m_alarm_causesOf_b4 (nx195 : List ByteArray → Option ((List ByteArray))) (l221 : List ByteArray) : Option ((List ByteArray)) := nx195 l221
def m_alarm_causesOf_b3 (causes : (List S_api_AlarmCause)) (p1_l : (List ByteArray)) (k101 : Nat) (y198 : ByteArray) (l190 : List ByteArray) (nx195 : List ByteArray → Option ((List ByteArray))) : Option ((List ByteArray)) := (m_alarm_isCause causes p1_l y198).bind fun r227 => if r227 then (need ((l190.length + ([y198]).length) * 16 ≤ 140737488355328) (m_alarm_causesOf_b4 nx195 (l190 ++ ([y198])))) else (m_alarm_causesOf_b4 nx195 l190)
def m_alarm_causesOf (causes : (List S_api_AlarmCause)) (p1_l : (List ByteArray)) : Option ((List ByteArray)) := forI (fun k y s194 n => m_alarm_causesOf_b3 causes p1_l k y s194 n) (fun s194 => (m_slices_Sort_string_string s194).bind fun r241 => some r241) 0 p1_l ([] : List ByteArray)

def m_alarm_Causes (causes : (List S_api_AlarmCause)) (p1_l : (List ByteArray)) : Option ((List ByteArray) × Int) := (m_alarm_check causes p1_l).bind fun r101 => if !decide (r101 = 0) then (some (([] : List ByteArray), r101)) else ((m_alarm_causesOf causes p1_l).bind fun r104 => some (r104, 0))

def m_slices_Equal_string_string_b1 (p0_s1 : (List ByteArray)) (p1_s2 : (List ByteArray)) (k102 : Nat) (nx132 : Unit → Option (Bool)) : Option (Bool) := idx p0_s1 (k102 : Int) fun y141 => idx p1_s2 (k102 : Int) fun y145 => if !decide (y141 = y145) then (some false) else (nx132 ())
def m_slices_Equal_string_string (p0_s1 : (List ByteArray)) (p1_s2 : (List ByteArray)) : Option (Bool) := if !decide ((p0_s1.length : Int) = (p1_s2.length : Int)) then (some false) else (forN (fun k s131 n => m_slices_Equal_string_string_b1 p0_s1 p1_s2 k n) (fun _ => some true) ((p0_s1.length : Int) : Int).toNat 0 ())

def m_gridhallkeep4_alarmFact : Option (Bool) := (m_alarm_Causes ([(S_api_AlarmCause.mk (⟨#[66]⟩) (⟨#[65]⟩)), (S_api_AlarmCause.mk (⟨#[67]⟩) (⟨#[66]⟩))]) ([(⟨#[67]⟩), (⟨#[65]⟩), (⟨#[66]⟩)])).bind fun r107 => if decide (r107.2 = 0) then ((m_slices_Equal_string_string r107.1 ([(⟨#[65]⟩)])).bind fun r116 => some r116) else (some false)

def m_gridhallref4_Cut_b1 (p1_low : Int) (n103 : Int) : Option (Int) := some (IntKind.i64.wrap (p1_low + n103))
def m_gridhallref4_Cut (p0_n : Int) (p1_low : Int) (p2_high : Int) : Option (Int) := need ((IntKind.i64.wrap ((IntKind.i64.wrap (p2_high - p1_low)) + 1)) ≠ 0) (if decide ((Int.tmod p0_n (IntKind.i64.wrap ((IntKind.i64.wrap (p2_high - p1_low)) + 1))) < 0) then (m_gridhallref4_Cut_b1 p1_low (IntKind.i64.wrap ((Int.tmod p0_n (IntKind.i64.wrap ((IntKind.i64.wrap (p2_high - p1_low)) + 1))) + (IntKind.i64.wrap ((IntKind.i64.wrap (p2_high - p1_low)) + 1))))) else (m_gridhallref4_Cut_b1 p1_low (Int.tmod p0_n (IntKind.i64.wrap ((IntKind.i64.wrap (p2_high - p1_low)) + 1)))))

def m_alarm_Explain_b4 (nx259 : List ByteArray → Option ((List ByteArray) × Int)) (l298 : List ByteArray) : Option ((List ByteArray) × Int) := nx259 l298
def m_alarm_Explain_b3 (name : ByteArray) (r107 : ((List ByteArray))) (k117 : Nat) (y263 : ByteArray) (l254 : List ByteArray) (nx259 : List ByteArray → Option ((List ByteArray) × Int)) : Option ((List ByteArray) × Int) := if decide (y263 = name) then (need ((l254.length + ([y263]).length) * 16 ≤ 140737488355328) (m_alarm_Explain_b4 nx259 (l254 ++ ([y263])))) else ((m_slices_Contains_string_string r107 y263).bind fun r305 => if r305 then (need ((l254.length + ([y263]).length) * 16 ≤ 140737488355328) (m_alarm_Explain_b4 nx259 (l254 ++ ([y263])))) else (m_alarm_Explain_b4 nx259 l254))
def m_alarm_Explain (causes : (List S_api_AlarmCause)) (p1_l : (List ByteArray)) (name : ByteArray) : Option ((List ByteArray) × Int) := (m_alarm_check causes p1_l).bind fun r101 => if !decide (r101 = 0) then (some (([] : List ByteArray), r101)) else ((m_slices_Contains_string_string p1_l name).bind fun r104 => if !r104 then (some (([] : List ByteArray), 8)) else ((m_alarm_explained causes p1_l name).bind fun r107 => (m_alarm_causesOf causes p1_l).bind fun r112 => forI (fun k y s258 n => m_alarm_Explain_b3 name r107 k y s258 n) (fun s258 => some (s258, 0)) 0 r112 ([] : List ByteArray)))

def m_gridhallkeep4_AlarmDirect_b1 (r121 : ((List ByteArray) × Int)) (k136 : Nat) (y152 : ByteArray) (nx148 : Unit → Option (Bool)) : Option (Bool) := (m_slices_Contains_string_string r121.1 y152).bind fun r159 => if !r159 then (some false) else (nx148 ())
def m_gridhallkeep4_AlarmDirect (causes : (List S_api_AlarmCause)) (p1_l : (List ByteArray)) (p2_k : Int) : Option (Bool) := need (0 ≤ (min (p1_l.length : Int) 10) ∧ (min (p1_l.length : Int) 10) ≤ (p1_l.length : Int)) ((m_alarm_Check causes).bind fun r108 => if (!decide (r108 = 0)) || (decide ((causes.length : Int) = 0)) then ((m_gridhallkeep4_alarmFact).bind fun r112 => some r112) else ((m_gridhallref4_Cut p2_k 0 (IntKind.i64.wrap ((causes.length : Int) - 1))).bind fun r114 => idx causes r114 fun y116 => (m_alarm_Explain causes (slc p1_l 0 ((min (p1_l.length : Int) 10 : Int).toNat)) y116.Of).bind fun r121 => (m_alarm_Explain causes (slc p1_l 0 ((min (p1_l.length : Int) 10 : Int).toNat)) y116.By).bind fun r126 => if (!decide (r121.2 = 0)) || (!decide (r126.2 = 0)) then ((m_gridhallkeep4_alarmFact).bind fun r134 => some r134) else (forI (fun k y s147 n => m_gridhallkeep4_AlarmDirect_b1 r121 k y n) (fun _ => (m_gridhallkeep4_alarmFact).bind fun r165 => some (r165 && (decide (0 < (r126.1.length : Int))))) 0 r126.1 ())))

def m_slices_IsSorted_string_string_b1 (p0_x : (List ByteArray)) (n131 : Int) (nx135 : Int → Option (Bool)) : Option (Bool) := if decide (0 < n131) then (idx p0_x n131 fun y144 => idx p0_x (IntKind.i64.wrap (n131 - 1)) fun y148 => if (m_cmp_Less_string y144 y148) then (some false) else (nx135 (IntKind.i64.wrap (n131 - 1)))) else (some true)
def m_slices_IsSorted_string_string (p0_x : (List ByteArray)) : Option (Bool) := loopF (fun s134 n => m_slices_IsSorted_string_string_b1 p0_x s134 n) FUEL (IntKind.i64.wrap ((p0_x.length : Int) - 1))

def m_gridhallkeep4_AlarmCovered_b4 (r105 : ((List ByteArray) × Int)) (k238 : Nat) (y254 : ByteArray) (nx250 : Unit → Option (Bool)) : Option (Bool) := (m_slices_Contains_string_string r105.1 y254).bind fun r261 => if !r261 then (some false) else (nx250 ())
def m_gridhallkeep4_AlarmCovered_b3 (causes : (List S_api_AlarmCause)) (p1_l : (List ByteArray)) (r105 : ((List ByteArray) × Int)) (k118 : Nat) (y221 : ByteArray) (nx218 : Unit → Option (Bool)) : Option (Bool) := (m_alarm_Explain causes (slc p1_l 0 ((min (p1_l.length : Int) 10 : Int).toNat)) y221).bind fun r228 => if decide (r228.2 = 0) then (if decide ((r228.1.length : Int) = 0) then (some false) else ((m_slices_IsSorted_string_string r228.1).bind fun r235 => if !r235 then (some false) else (forI (fun k y s249 n => m_gridhallkeep4_AlarmCovered_b4 r105 k y n) (fun _ => (m_slices_Contains_string_string r105.1 y221).bind fun r264 => if r264 then ((m_slices_Equal_string_string r228.1 ([y221])).bind fun r270 => if !r270 then (some false) else (nx218 ())) else (nx218 ())) 0 r228.1 ()))) else (some false)
def m_gridhallkeep4_AlarmCovered (causes : (List S_api_AlarmCause)) (p1_l : (List ByteArray)) : Option (Bool) := need (0 ≤ (min (p1_l.length : Int) 10) ∧ (min (p1_l.length : Int) 10) ≤ (p1_l.length : Int)) ((m_alarm_Causes causes (slc p1_l 0 ((min (p1_l.length : Int) 10 : Int).toNat))).bind fun r105 => if !decide (r105.2 = 0) then ((m_gridhallkeep4_alarmFact).bind fun r114 => some (r114 && (decide ((r105.1.length : Int) = 0)))) else (forI (fun k y s217 n => m_gridhallkeep4_AlarmCovered_b3 causes p1_l r105 k y n) (fun _ => (m_gridhallkeep4_alarmFact).bind fun r273 => some r273) 0 (slc p1_l 0 ((min (p1_l.length : Int) 10 : Int).toNat)) ()))
end Go.Sim
