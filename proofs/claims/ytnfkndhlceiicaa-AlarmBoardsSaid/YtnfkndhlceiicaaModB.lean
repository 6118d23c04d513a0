/-
  Printed by a program: the models of the Go functions.
-/
import Derived.Test.YtnfkndhlceiicaaSimX
import Derived.Laws.Bits64b
namespace Go.Sim
open Go
set_option linter.unusedVariables false
structure S_api_AlarmCause where
  Of : ByteArray
  By : ByteArray
  deriving DecidableEq
instance : Rep S_api_AlarmCause where
  sz := 2
  E H cs x := cs = [.string (x.Of), .string (x.By)]
  len h := by obtain rfl := h; rfl
  mono hle h := by obtain rfl := h; exact rfl
  one h := by obtain rfl := h; exact (all_cons rfl (all_cons rfl all_nil))
instance : Flat S_api_AlarmCause := ⟨fun h => h⟩
structure S_api_AlarmEntry where
  Name : ByteArray
  Time : Int
  Acked : Bool
  deriving DecidableEq
instance : Rep S_api_AlarmEntry where
  sz := 3
  E H cs x := cs = [.string (x.Name), .int .i64 (x.Time), .bool (x.Acked)]
  len h := by obtain rfl := h; rfl
  mono hle h := by obtain rfl := h; exact rfl
  one h := by obtain rfl := h; exact (all_cons rfl (all_cons rfl (all_cons rfl all_nil)))
instance : Flat S_api_AlarmEntry := ⟨fun h => h⟩
structure S_alarm_Board where
  causes : (List S_api_AlarmCause)
  all_ : (List S_api_AlarmEntry)
  last : Int
  deriving DecidableEq
instance : Rep S_alarm_Board where
  sz := 3
  E H cs x := ∃ v0 : Value, ∃ v1 : Value, cs = [v0, v1, .int .i64 (x.last)] ∧ RdS H v0 x.causes ∧ RdS H v1 x.all_
  len h := by obtain ⟨v0, v1, rfl, h0, h1⟩ := h; rfl
  mono hle h := by obtain ⟨v0, v1, rfl, h0, h1⟩ := h; exact ⟨v0, v1, rfl, h0.mono hle, h1.mono hle⟩
  one h := by obtain ⟨v0, v1, rfl, h0, h1⟩ := h; exact (all_cons (RdS.one1 h0) (all_cons (RdS.one1 h1) (all_cons rfl all_nil)))

def m_netmodel_Name_b1 (k106 : Nat) (y143 : U8) (nx140 : Unit → Option (Bool)) : Option (Bool) := if !(((decide (65 ≤ y143.n)) && (decide (y143.n ≤ 90))) || (((decide (0 < (k106 : Int))) && (decide (48 ≤ y143.n))) && (decide (y143.n ≤ 57)))) then (some false) else (nx140 ())
def m_netmodel_Name (p0_s : ByteArray) : Option (Bool) := need (p0_s.size ≤ maxLen) (forI (fun k y s139 n => m_netmodel_Name_b1 k y n) (fun _ => some ((decide (1 ≤ (p0_s.size : Int))) && (decide ((p0_s.size : Int) ≤ 8)))) 0 (bytesL p0_s) ())

def m_slices_Index_api_AlarmCause_api_AlarmCause_b1 (p0_s : (List S_api_AlarmCause)) (p1_v : S_api_AlarmCause) (k102 : Nat) (nx124 : Unit → Option (Int)) : Option (Int) := idx p0_s (k102 : Int) fun y133 => if decide (p1_v.Of = y133.Of) && (decide (p1_v.By = y133.By) && true) then (some (k102 : Int)) else (nx124 ())
def m_slices_Index_api_AlarmCause_api_AlarmCause (p0_s : (List S_api_AlarmCause)) (p1_v : S_api_AlarmCause) : Option (Int) := forN (fun k s123 n => m_slices_Index_api_AlarmCause_api_AlarmCause_b1 p0_s p1_v k n) (fun _ => some (-1)) ((p0_s.length : Int) : Int).toNat 0 ()

def m_slices_Contains_api_AlarmCause_api_AlarmCause (p0_s : (List S_api_AlarmCause)) (p1_v : S_api_AlarmCause) : Option (Bool) := (m_slices_Index_api_AlarmCause_api_AlarmCause p0_s p1_v).bind fun r102 => some (decide (0 ≤ r102))

def m_alarm_Check_b1 (p0_l : (List S_api_AlarmCause)) (k102 : Nat) (y155 : S_api_AlarmCause) (nx152 : Unit → Option (Int)) : Option (Int) := (m_netmodel_Name y155.Of).bind fun r163 => if r163 then ((m_netmodel_Name y155.By).bind fun r166 => if !r166 then (some 6) else (if decide (y155.Of = y155.By) then (some 3) else (need (0 ≤ (k102 : Int) ∧ (k102 : Int) ≤ (p0_l.length : Int)) ((m_slices_Contains_api_AlarmCause_api_AlarmCause (slc p0_l 0 (((k102 : Int) : Int).toNat)) y155).bind fun r179 => if r179 then (some 7) else (nx152 ()))))) else (some 6)
def m_alarm_Check (p0_l : (List S_api_AlarmCause)) : Option (Int) := if decide (40 < (p0_l.length : Int)) then (some 2) else (forI (fun k y s151 n => m_alarm_Check_b1 p0_l k y n) (fun _ => some 0) 0 p0_l ())

def m_alarm_New (causes : (List S_api_AlarmCause)) : Option ((Option S_alarm_Board) × Int) := (m_alarm_Check causes).bind fun r101 => if !decide (r101 = 0) then (some (none, r101)) else (need (causes.length * 32 ≤ 140737488355328) (some ((some (S_alarm_Board.mk causes ([] : List S_api_AlarmEntry) 0)), 0)))

def m_slices_Index_string_string_b1 (p0_s : (List ByteArray)) (p1_v : ByteArray) (k101 : Nat) (nx115 : Unit → Option (Int)) : Option (Int) := idx p0_s (k101 : Int) fun y124 => if decide (p1_v = y124) then (some (k101 : Int)) else (nx115 ())
def m_slices_Index_string_string (p0_s : (List ByteArray)) (p1_v : ByteArray) : Option (Int) := forN (fun k s114 n => m_slices_Index_string_string_b1 p0_s p1_v k n) (fun _ => some (-1)) ((p0_s.length : Int) : Int).toNat 0 ()

def m_slices_Contains_string_string (p0_s : (List ByteArray)) (p1_v : ByteArray) : Option (Bool) := (m_slices_Index_string_string p0_s p1_v).bind fun r101 => some (decide (0 ≤ r101))

def m_alarm_check_b1 (p1_l : (List ByteArray)) (k105 : Nat) (y134 : ByteArray) (nx131 : Unit → Option (Int)) : Option (Int) := (m_netmodel_Name y134).bind fun r141 => if !r141 then (some 6) else (need (0 ≤ (k105 : Int) ∧ (k105 : Int) ≤ (p1_l.length : Int)) ((m_slices_Contains_string_string (slc p1_l 0 (((k105 : Int) : Int).toNat)) y134).bind fun r148 => if r148 then (some 7) else (nx131 ())))
def m_alarm_check (causes : (List S_api_AlarmCause)) (p1_l : (List ByteArray)) : Option (Int) := (m_alarm_Check causes).bind fun r101 => if !decide (r101 = 0) then (some r101) else (if decide (24 < (p1_l.length : Int)) then (some 2) else (forI (fun k y s130 n => m_alarm_check_b1 p1_l k y n) (fun _ => some 0) 0 p1_l ()))

def m_alarm_explained_b13 (nx868 : (List ByteArray × List ByteArray) → Option ((List ByteArray))) (l910 : List ByteArray) (l914 : List ByteArray) : Option ((List ByteArray)) := nx868 (l910, l914)
def m_alarm_explained_b12 (p1_l : (List ByteArray)) (y682 : ByteArray) (k690 : Nat) (y871 : S_api_AlarmCause) (l859 : List ByteArray) (l863 : List ByteArray) (nx868 : (List ByteArray × List ByteArray) → Option ((List ByteArray))) : Option ((List ByteArray)) := if decide (y871.Of = y682) then ((m_slices_Contains_string_string p1_l y871.By).bind fun r922 => if r922 then ((m_slices_Contains_string_string l859 y871.By).bind fun r925 => if !r925 then (need ((l859.length + ([y871.By]).length) * 16 ≤ 140737488355328) (need ((l863.length + ([y871.By]).length) * 16 ≤ 140737488355328) (m_alarm_explained_b13 nx868 (l859 ++ ([y871.By])) (l863 ++ ([y871.By]))))) else (m_alarm_explained_b13 nx868 l859 l863)) else (m_alarm_explained_b13 nx868 l859 l863)) else (m_alarm_explained_b13 nx868 l859 l863)
def m_alarm_explained_b9 (causes : (List S_api_AlarmCause)) (p1_l : (List ByteArray)) (l664 : List ByteArray) (l668 : List ByteArray) (nx673 : (List ByteArray × List ByteArray) → Option ((List ByteArray))) : Option ((List ByteArray)) := if decide (0 < (l668.length : Int)) then (idx l668 0 fun y682 => need (0 ≤ 1 ∧ 1 ≤ (l668.length : Int)) (forI (fun k y s867 n => m_alarm_explained_b12 p1_l y682 k y s867.1 s867.2 n) (fun s867 => nx673 (s867.1, s867.2)) 0 causes (l664, (slc l668 (1 : Int).toNat l668.length)))) else (some l664)
def m_alarm_explained (causes : (List S_api_AlarmCause)) (p1_l : (List ByteArray)) (name : ByteArray) : Option ((List ByteArray)) := loopF (fun s672 n => m_alarm_explained_b9 causes p1_l s672.1 s672.2 n) FUEL (([] : List ByteArray), ([name]))

def m_alarm_isCause_1 (p0_by : ByteArray) (p1_c1 : ByteArray) (p2_c2 : (List S_api_AlarmCause)) (p3_c3 : (List ByteArray)) : Option (Bool) := if ltS p0_by p1_c1 then (some true) else ((m_alarm_explained p2_c2 p3_c3 p0_by).bind fun r102 => (m_slices_Contains_string_string r102 p1_c1).bind fun r112 => some (!r112))

def m_slices_IndexFunc_string_string__alarm_isCause_1_b1 (p0_s : (List ByteArray)) (p1_f_0 : ByteArray) (p1_f_1 : (List S_api_AlarmCause)) (p1_f_2 : (List ByteArray)) (k101 : Nat) (nx119 : Unit → Option (Int)) : Option (Int) := idx p0_s (k101 : Int) fun y128 => (m_alarm_isCause_1 y128 p1_f_0 p1_f_1 p1_f_2).bind fun r132 => if r132 then (some (k101 : Int)) else (nx119 ())
def m_slices_IndexFunc_string_string__alarm_isCause_1 (p0_s : (List ByteArray)) (p1_f_0 : ByteArray) (p1_f_1 : (List S_api_AlarmCause)) (p1_f_2 : (List ByteArray)) : Option (Int) := forN (fun k s118 n => m_slices_IndexFunc_string_string__alarm_isCause_1_b1 p0_s p1_f_0 p1_f_1 p1_f_2 k n) (fun _ => some (-1)) ((p0_s.length : Int) : Int).toNat 0 ()

def m_slices_ContainsFunc_string_string__alarm_isCause_1 (p0_s : (List ByteArray)) (p1_f_0 : ByteArray) (p1_f_1 : (List S_api_AlarmCause)) (p1_f_2 : (List ByteArray)) : Option (Bool) := (m_slices_IndexFunc_string_string__alarm_isCause_1 p0_s p1_f_0 p1_f_1 p1_f_2).bind fun r101 => some (decide (0 ≤ r101))

def m_alarm_isCause (causes : (List S_api_AlarmCause)) (p1_l : (List ByteArray)) (name : ByteArray) : Option (Bool) := (m_alarm_explained causes p1_l name).bind fun r104 => (m_slices_ContainsFunc_string_string__alarm_isCause_1 r104 name causes p1_l).bind fun r109 => some (!r109)

def m_math_bits_Len64_b1 (n110 : Int) (n111 : Int) : Option (Int) := idx (bytesL (⟨#[0, 1, 2, 2, 3, 3, 3, 3, 4, 4, 4, 4, 4, 4, 4, 4, 5, 5, 5, 5, 5, 5, 5, 5, 5, 5, 5, 5, 5, 5, 5, 5, 6, 6, 6, 6, 6, 6, 6, 6, 6, 6, 6, 6, 6, 6, 6, 6, 6, 6, 6, 6, 6, 6, 6, 6, 6, 6, 6, 6, 6, 6, 6, 6, 7, 7, 7, 7, 7, 7, 7, 7, 7, 7, 7, 7, 7, 7, 7, 7, 7, 7, 7, 7, 7, 7, 7, 7, 7, 7, 7, 7, 7, 7, 7, 7, 7, 7, 7, 7, 7, 7, 7, 7, 7, 7, 7, 7, 7, 7, 7, 7, 7, 7, 7, 7, 7, 7, 7, 7, 7, 7, 7, 7, 7, 7, 7, 7, 8, 8, 8, 8, 8, 8, 8, 8, 8, 8, 8, 8, 8, 8, 8, 8, 8, 8, 8, 8, 8, 8, 8, 8, 8, 8, 8, 8, 8, 8, 8, 8, 8, 8, 8, 8, 8, 8, 8, 8, 8, 8, 8, 8, 8, 8, 8, 8, 8, 8, 8, 8, 8, 8, 8, 8, 8, 8, 8, 8, 8, 8, 8, 8, 8, 8, 8, 8, 8, 8, 8, 8, 8, 8, 8, 8, 8, 8, 8, 8, 8, 8, 8, 8, 8, 8, 8, 8, 8, 8, 8, 8, 8, 8, 8, 8, 8, 8, 8, 8, 8, 8, 8, 8, 8, 8, 8, 8, 8, 8, 8, 8, 8, 8, 8, 8, 8, 8, 8, 8, 8, 8, 8, 8, 8, 8, 8, 8]⟩)) (IntKind.u8.wrap (n110)) fun y113 => some (IntKind.i64.wrap (n111 + (IntKind.i64.wrap (y113.n))))
def m_math_bits_Len64_b2 (n106 : Int) (n107 : Int) : Option (Int) := if decide (256 ≤ n106) then (m_math_bits_Len64_b1 (shrV .u64 n106 8) (IntKind.i64.wrap (n107 + 8))) else (m_math_bits_Len64_b1 n106 n107)
def m_math_bits_Len64_b3 (n102 : Int) (n103 : Int) : Option (Int) := if decide (65536 ≤ n102) then (m_math_bits_Len64_b2 (shrV .u64 n102 16) (IntKind.i64.wrap (n103 + 16))) else (m_math_bits_Len64_b2 n102 n103)
def m_math_bits_Len64 (p0_x : Int) : Option (Int) := if decide (4294967296 ≤ p0_x) then (m_math_bits_Len64_b3 (shrV .u64 p0_x 32) 32) else (m_math_bits_Len64_b3 p0_x 0)

def m_math_bits_Len (p0_x : Int) : Option (Int) := (m_math_bits_Len64 p0_x).bind fun r101 => some r101

def m_cmp_isNaN_string (p0_x : ByteArray) : Bool := (!decide (p0_x = p0_x))

def m_cmp_Less_string (p0_x : ByteArray) (p1_y : ByteArray) : Bool := (((m_cmp_isNaN_string p0_x) && (!(m_cmp_isNaN_string p1_y))) || (ltS p0_x p1_y))

def m_slices_insertionSortOrdered_string_b4 (p1_a : Int) (n445 : Int) (nx449 : (List ByteArray × Int) → Option ((List ByteArray))) (l562 : List ByteArray) (n564 : Int) (nx568 : (List ByteArray × Int) → Option ((List ByteArray))) : Option ((List ByteArray)) := if decide (p1_a < n564) then (idx l562 n564 fun y579 => idx l562 (IntKind.i64.wrap (n564 - 1)) fun y583 => if (m_cmp_Less_string y579 y583) then (idx l562 (IntKind.i64.wrap (n564 - 1)) fun y590 => idx l562 n564 fun y594 => idx l562 n564 fun y598 => idx (l562.set ((n564 : Int).toNat) y590) (IntKind.i64.wrap (n564 - 1)) fun y612 => nx568 (((l562.set ((n564 : Int).toNat) y590).set ((IntKind.i64.wrap (n564 - 1) : Int).toNat) y594), IntKind.i64.wrap (n564 - 1))) else (nx449 (l562, IntKind.i64.wrap (n445 + 1)))) else (nx449 (l562, IntKind.i64.wrap (n445 + 1)))
def m_slices_insertionSortOrdered_string_b3 (p1_a : Int) (p2_b : Int) (l443 : List ByteArray) (n445 : Int) (nx449 : (List ByteArray × Int) → Option ((List ByteArray))) : Option ((List ByteArray)) := if decide (n445 < p2_b) then (loopF (fun s567 n => m_slices_insertionSortOrdered_string_b4 p1_a n445 nx449 s567.1 s567.2 n) FUEL (l443, n445)) else (some l443)
def m_slices_insertionSortOrdered_string (data : (List ByteArray)) (p1_a : Int) (p2_b : Int) : Option ((List ByteArray)) := loopF (fun s448 n => m_slices_insertionSortOrdered_string_b3 p1_a p2_b s448.1 s448.2 n) FUEL (data, IntKind.i64.wrap (p1_a + 1))

def m_slices_pdqsortOrdered_string_b4 : Option ((List ByteArray)) := none
def m_slices_pdqsortOrdered_string_b3 (data : (List ByteArray)) (p1_a : Int) (p2_b : Int) (limit : Int) (nx120 : Unit → Option ((List ByteArray))) : Option ((List ByteArray)) := if decide ((IntKind.i64.wrap (p2_b - p1_a)) ≤ 12) then ((m_slices_insertionSortOrdered_string data p1_a p2_b).bind fun r129 => some r129) else (if decide (limit = 0) then none else m_slices_pdqsortOrdered_string_b4)
def m_slices_pdqsortOrdered_string (data : (List ByteArray)) (p1_a : Int) (p2_b : Int) (limit : Int) : Option ((List ByteArray)) := loopF (fun s119 n => m_slices_pdqsortOrdered_string_b3 data p1_a p2_b limit n) FUEL ()

def m_slices_Sort_string_string (p0_x : (List ByteArray)) : Option ((List ByteArray)) := (m_math_bits_Len (IntKind.u64.wrap ((p0_x.length : Int)))).bind fun r101 => (m_slices_pdqsortOrdered_string p0_x 0 (p0_x.length : Int) r101).bind fun r103 => some r103

def m_alarm_causesOf_b4 (nx195 : List ByteArray → Option ((List ByteArray))) (l221 : List ByteArray) : Option ((List ByteArray)) := nx195 l221
def m_alarm_causesOf_b3 (causes : (List S_api_AlarmCause)) (p1_l : (List ByteArray)) (k101 : Nat) (y198 : ByteArray) (l190 : List ByteArray) (nx195 : List ByteArray → Option ((List ByteArray))) : Option ((List ByteArray)) := (m_alarm_isCause causes p1_l y198).bind fun r227 => if r227 then (need ((l190.length + ([y198]).length) * 16 ≤ 140737488355328) (m_alarm_causesOf_b4 nx195 (l190 ++ ([y198])))) else (m_alarm_causesOf_b4 nx195 l190)
def m_alarm_causesOf (causes : (List S_api_AlarmCause)) (p1_l : (List ByteArray)) : Option ((List ByteArray)) := forI (fun k y s194 n => m_alarm_causesOf_b3 causes p1_l k y s194 n) (fun s194 => (m_slices_Sort_string_string s194).bind fun r241 => some r241) 0 p1_l ([] : List ByteArray)

def m_alarm_Causes (causes : (List S_api_AlarmCause)) (p1_l : (List ByteArray)) : Option ((List ByteArray) × Int) := (m_alarm_check causes p1_l).bind fun r101 => if !decide (r101 = 0) then (some (([] : List ByteArray), r101)) else ((m_alarm_causesOf causes p1_l).bind fun r104 => some (r104, 0))

def m_slices_Equal_string_string_b1 (p0_s1 : (List ByteArray)) (p1_s2 : (List ByteArray)) (k102 : Nat) (nx132 : Unit → Option (Bool)) : Option (Bool) := idx p0_s1 (k102 : Int) fun y141 => idx p1_s2 (k102 : Int) fun y145 => if !decide (y141 = y145) then (some false) else (nx132 ())
def m_slices_Equal_string_string (p0_s1 : (List ByteArray)) (p1_s2 : (List ByteArray)) : Option (Bool) := if !decide ((p0_s1.length : Int) = (p1_s2.length : Int)) then (some false) else (forN (fun k s131 n => m_slices_Equal_string_string_b1 p0_s1 p1_s2 k n) (fun _ => some true) ((p0_s1.length : Int) : Int).toNat 0 ())

def m_gridhallkeep4_alarmFact : Option (Bool) := (m_alarm_Causes ([(S_api_AlarmCause.mk (⟨#[66]⟩) (⟨#[65]⟩)), (S_api_AlarmCause.mk (⟨#[67]⟩) (⟨#[66]⟩))]) ([(⟨#[67]⟩), (⟨#[65]⟩), (⟨#[66]⟩)])).bind fun r107 => if decide (r107.2 = 0) then ((m_slices_Equal_string_string r107.1 ([(⟨#[65]⟩)])).bind fun r116 => some r116) else (some false)

def m_alarm_Board_index_1 (p0_x : S_api_AlarmEntry) (p1_c1 : ByteArray) : Bool := (decide (p0_x.Name = p1_c1))

def m_slices_IndexFunc_api_AlarmEntry_api_AlarmEntry__alarm_Board_index_1_b1 (p0_s : (List S_api_AlarmEntry)) (p1_f_0 : ByteArray) (k101 : Nat) (nx115 : Unit → Option (Int)) : Option (Int) := idx p0_s (k101 : Int) fun y124 => if (m_alarm_Board_index_1 y124 p1_f_0) then (some (k101 : Int)) else (nx115 ())
def m_slices_IndexFunc_api_AlarmEntry_api_AlarmEntry__alarm_Board_index_1 (p0_s : (List S_api_AlarmEntry)) (p1_f_0 : ByteArray) : Option (Int) := forN (fun k s114 n => m_slices_IndexFunc_api_AlarmEntry_api_AlarmEntry__alarm_Board_index_1_b1 p0_s p1_f_0 k n) (fun _ => some (-1)) ((p0_s.length : Int) : Int).toNat 0 ()

def m_alarm_Board_index (p0_b : S_alarm_Board) (name : ByteArray) : Option (Int) := (m_slices_IndexFunc_api_AlarmEntry_api_AlarmEntry__alarm_Board_index_1 p0_b.all_ name).bind fun r102 => some r102

def m_alarm_Board_Raise (p0_b : S_alarm_Board) (name : ByteArray) (time : Int) : Option (Int × S_alarm_Board) := (m_netmodel_Name name).bind fun r101 => if !r101 then (some (6, p0_b)) else (if (decide (time < p0_b.last)) || (decide (200000 < time)) then (some (12, p0_b)) else ((m_alarm_Board_index p0_b name).bind fun r107 => if decide (0 ≤ r107) then (some (7, p0_b)) else (if decide ((p0_b.all_.length : Int) = 24) then (some (9, p0_b)) else (need ((p0_b.all_.length + ([(S_api_AlarmEntry.mk name time false)]).length) * 32 ≤ 140737488355328) (some (0, (S_alarm_Board.mk p0_b.causes (p0_b.all_ ++ ([(S_api_AlarmEntry.mk name time false)])) time)))))))

def m_alarm_Board_Ack (p0_b : S_alarm_Board) (name : ByteArray) : Option (Int × S_alarm_Board) := (m_alarm_Board_index p0_b name).bind fun r101 => if decide (r101 < 0) then (some (8, p0_b)) else (idx p0_b.all_ r101 fun y104 => if y104.Acked then (some (11, p0_b)) else (idx p0_b.all_ r101 fun y109 => some (0, (S_alarm_Board.mk p0_b.causes (p0_b.all_.set ((r101 : Int).toNat) (S_api_AlarmEntry.mk y109.Name y109.Time true)) p0_b.last))))

def m_alarm_Board_Clear (p0_b : S_alarm_Board) (name : ByteArray) : Option (Int × S_alarm_Board) := (m_alarm_Board_index p0_b name).bind fun r101 => if decide (r101 < 0) then (some (8, p0_b)) else (need (0 ≤ r101 ∧ r101 < (IntKind.i64.wrap (r101 + 1)) ∧ (IntKind.i64.wrap (r101 + 1)) ≤ (p0_b.all_.length : Int)) (some (0, (S_alarm_Board.mk p0_b.causes (p0_b.all_.take (r101).toNat ++ p0_b.all_.drop (IntKind.i64.wrap (r101 + 1)).toNat) p0_b.last))))

def m_cmp_isNaN_int (p0_x : Int) : Bool := (!decide (p0_x = p0_x))

def m_cmp_Compare_int (p0_x : Int) (p1_y : Int) : Int := if (m_cmp_isNaN_int p0_x) then (if (m_cmp_isNaN_int p1_y) then 0 else (-1)) else (if (m_cmp_isNaN_int p1_y) then 1 else (if decide (p0_x < p1_y) then (-1) else (if decide (p1_y < p0_x) then 1 else 0)))

def m_cmp_Compare_string (p0_x : ByteArray) (p1_y : ByteArray) : Int := if (m_cmp_isNaN_string p0_x) then (if (m_cmp_isNaN_string p1_y) then 0 else (-1)) else (if (m_cmp_isNaN_string p1_y) then 1 else (if ltS p0_x p1_y then (-1) else (if ltS p1_y p0_x then 1 else 0)))

def m_cmp_Or_int_b1 (k101 : Nat) (y112 : Int) (nx109 : Unit → Option (Int)) : Option (Int) := if !decide (y112 = 0) then (some y112) else (nx109 ())
def m_cmp_Or_int (vals : (List Int)) : Option (Int) := forI (fun k y s108 n => m_cmp_Or_int_b1 k y n) (fun _ => some 0) 0 vals ()

def m_alarm_Board_All_1 (p0_x : S_api_AlarmEntry) (p1_y : S_api_AlarmEntry) : Option (Int) := (m_cmp_Or_int ([((m_cmp_Compare_int p0_x.Time p1_y.Time)), ((m_cmp_Compare_string p0_x.Name p1_y.Name))])).bind fun r108 => some r108

def m_slices_insertionSortCmpFunc_api_AlarmEntry__alarm_Board_All_1_b4 (p1_a : Int) (n457 : Int) (nx461 : (List S_api_AlarmEntry × Int) → Option ((List S_api_AlarmEntry))) (l578 : List S_api_AlarmEntry) (n580 : Int) (nx584 : (List S_api_AlarmEntry × Int) → Option ((List S_api_AlarmEntry))) : Option ((List S_api_AlarmEntry)) := if decide (p1_a < n580) then (idx l578 n580 fun y595 => idx l578 (IntKind.i64.wrap (n580 - 1)) fun y599 => (m_alarm_Board_All_1 y595 y599).bind fun r605 => if decide (r605 < 0) then (idx l578 (IntKind.i64.wrap (n580 - 1)) fun y608 => idx l578 n580 fun y612 => idx l578 n580 fun y616 => idx (l578.set ((n580 : Int).toNat) y608) (IntKind.i64.wrap (n580 - 1)) fun y630 => nx584 (((l578.set ((n580 : Int).toNat) y608).set ((IntKind.i64.wrap (n580 - 1) : Int).toNat) y612), IntKind.i64.wrap (n580 - 1))) else (nx461 (l578, IntKind.i64.wrap (n457 + 1)))) else (nx461 (l578, IntKind.i64.wrap (n457 + 1)))
def m_slices_insertionSortCmpFunc_api_AlarmEntry__alarm_Board_All_1_b3 (p1_a : Int) (p2_b : Int) (l455 : List S_api_AlarmEntry) (n457 : Int) (nx461 : (List S_api_AlarmEntry × Int) → Option ((List S_api_AlarmEntry))) : Option ((List S_api_AlarmEntry)) := if decide (n457 < p2_b) then (loopF (fun s583 n => m_slices_insertionSortCmpFunc_api_AlarmEntry__alarm_Board_All_1_b4 p1_a n457 nx461 s583.1 s583.2 n) FUEL (l455, n457)) else (some l455)
def m_slices_insertionSortCmpFunc_api_AlarmEntry__alarm_Board_All_1 (data : (List S_api_AlarmEntry)) (p1_a : Int) (p2_b : Int) : Option ((List S_api_AlarmEntry)) := loopF (fun s460 n => m_slices_insertionSortCmpFunc_api_AlarmEntry__alarm_Board_All_1_b3 p1_a p2_b s460.1 s460.2 n) FUEL (data, IntKind.i64.wrap (p1_a + 1))

def m_slices_pdqsortCmpFunc_api_AlarmEntry__alarm_Board_All_1_b4 : Option ((List S_api_AlarmEntry)) := none
def m_slices_pdqsortCmpFunc_api_AlarmEntry__alarm_Board_All_1_b3 (data : (List S_api_AlarmEntry)) (p1_a : Int) (p2_b : Int) (limit : Int) (nx120 : Unit → Option ((List S_api_AlarmEntry))) : Option ((List S_api_AlarmEntry)) := if decide ((IntKind.i64.wrap (p2_b - p1_a)) ≤ 12) then ((m_slices_insertionSortCmpFunc_api_AlarmEntry__alarm_Board_All_1 data p1_a p2_b).bind fun r129 => some r129) else (if decide (limit = 0) then none else m_slices_pdqsortCmpFunc_api_AlarmEntry__alarm_Board_All_1_b4)
def m_slices_pdqsortCmpFunc_api_AlarmEntry__alarm_Board_All_1 (data : (List S_api_AlarmEntry)) (p1_a : Int) (p2_b : Int) (limit : Int) : Option ((List S_api_AlarmEntry)) := loopF (fun s119 n => m_slices_pdqsortCmpFunc_api_AlarmEntry__alarm_Board_All_1_b3 data p1_a p2_b limit n) FUEL ()

def m_slices_SortFunc_api_AlarmEntry_api_AlarmEntry__alarm_Board_All_1 (p0_x : (List S_api_AlarmEntry)) : Option ((List S_api_AlarmEntry)) := (m_math_bits_Len (IntKind.u64.wrap ((p0_x.length : Int)))).bind fun r101 => (m_slices_pdqsortCmpFunc_api_AlarmEntry__alarm_Board_All_1 p0_x 0 (p0_x.length : Int) r101).bind fun r103 => some r103

def m_alarm_Board_All (p0_b : S_alarm_Board) : Option ((List S_api_AlarmEntry)) := need (p0_b.all_.length * 32 ≤ 140737488355328) ((m_slices_SortFunc_api_AlarmEntry_api_AlarmEntry__alarm_Board_All_1 p0_b.all_).bind fun r105 => some r105)

def m_alarm_Board_Shown_1 (p0_x : S_api_AlarmEntry) (p1_c1 : (List ByteArray)) : Option (Bool) := (m_slices_Contains_string_string p1_c1 p0_x.Name).bind fun r102 => some (!r102)

def m_slices_IndexFunc_api_AlarmEntry_api_AlarmEntry__alarm_Board_Shown_1_b1 (p0_s : (List S_api_AlarmEntry)) (p1_f_0 : (List ByteArray)) (k101 : Nat) (nx119 : Unit → Option (Int)) : Option (Int) := idx p0_s (k101 : Int) fun y128 => (m_alarm_Board_Shown_1 y128 p1_f_0).bind fun r132 => if r132 then (some (k101 : Int)) else (nx119 ())
def m_slices_IndexFunc_api_AlarmEntry_api_AlarmEntry__alarm_Board_Shown_1 (p0_s : (List S_api_AlarmEntry)) (p1_f_0 : (List ByteArray)) : Option (Int) := forN (fun k s118 n => m_slices_IndexFunc_api_AlarmEntry_api_AlarmEntry__alarm_Board_Shown_1_b1 p0_s p1_f_0 k n) (fun _ => some (-1)) ((p0_s.length : Int) : Int).toNat 0 ()

def m_slices_DeleteFunc_api_AlarmEntry_api_AlarmEntry__alarm_Board_Shown_1_b4 (n199 : Int) (nx203 : (List S_api_AlarmEntry × Int × Int) → Option ((List S_api_AlarmEntry))) (l230 : List S_api_AlarmEntry) (n232 : Int) : Option ((List S_api_AlarmEntry)) := nx203 (l230, n232, IntKind.i64.wrap (n199 + 1))
def m_slices_DeleteFunc_api_AlarmEntry_api_AlarmEntry__alarm_Board_Shown_1_b3 (del_0 : (List ByteArray)) (l196 : List S_api_AlarmEntry) (n198 : Int) (n199 : Int) (nx203 : (List S_api_AlarmEntry × Int × Int) → Option ((List S_api_AlarmEntry))) : Option ((List S_api_AlarmEntry)) := if decide (n199 < (l196.length : Int)) then (idx l196 n199 fun y234 => (m_alarm_Board_Shown_1 y234 del_0).bind fun r239 => if !r239 then (idx l196 n198 fun y242 => m_slices_DeleteFunc_api_AlarmEntry_api_AlarmEntry__alarm_Board_Shown_1_b4 n199 nx203 (l196.set ((n198 : Int).toNat) y234) (IntKind.i64.wrap (n198 + 1))) else (m_slices_DeleteFunc_api_AlarmEntry_api_AlarmEntry__alarm_Board_Shown_1_b4 n199 nx203 l196 n198)) else (need (0 ≤ n198 ∧ n198 ≤ (l196.length : Int)) (need (0 ≤ n198 ∧ n198 ≤ ((l196.take (n198).toNat ++ List.replicate (l196.length - (n198).toNat) ((S_api_AlarmEntry.mk (⟨#[]⟩) 0 false) : S_api_AlarmEntry)).length : Int)) (some (slc (l196.take (n198).toNat ++ List.replicate (l196.length - (n198).toNat) ((S_api_AlarmEntry.mk (⟨#[]⟩) 0 false) : S_api_AlarmEntry)) 0 ((n198 : Int).toNat)))))
def m_slices_DeleteFunc_api_AlarmEntry_api_AlarmEntry__alarm_Board_Shown_1 (p0_s : (List S_api_AlarmEntry)) (del_0 : (List ByteArray)) : Option ((List S_api_AlarmEntry)) := (m_slices_IndexFunc_api_AlarmEntry_api_AlarmEntry__alarm_Board_Shown_1 p0_s del_0).bind fun r101 => if decide (r101 = (-1)) then (some p0_s) else (loopF (fun s202 n => m_slices_DeleteFunc_api_AlarmEntry_api_AlarmEntry__alarm_Board_Shown_1_b3 del_0 s202.1 s202.2.1 s202.2.2 n) FUEL (p0_s, r101, IntKind.i64.wrap (r101 + 1)))

def m_alarm_Board_Shown_b1 (k101 : Nat) (y151 : S_api_AlarmEntry) (l142 : List ByteArray) (nx147 : List ByteArray → Option ((List S_api_AlarmEntry))) : Option ((List S_api_AlarmEntry)) := need ((l142.length + ([y151.Name]).length) * 16 ≤ 140737488355328) (nx147 (l142 ++ ([y151.Name])))
def m_alarm_Board_Shown (p0_b : S_alarm_Board) : Option ((List S_api_AlarmEntry)) := forI (fun k y s146 n => m_alarm_Board_Shown_b1 k y s146 n) (fun s146 => (m_alarm_causesOf p0_b.causes s146).bind fun r170 => (m_alarm_Board_All p0_b).bind fun r176 => (m_slices_DeleteFunc_api_AlarmEntry_api_AlarmEntry__alarm_Board_Shown_1 r176 r170).bind fun r184 => some r184) 0 p0_b.all_ ([] : List ByteArray)

def m_gridhallkeep4_AlarmBoards_b4 (nx301 : (List ByteArray × (List S_api_AlarmCause) × List S_api_AlarmEntry × Int) → Option (Bool)) (l335 : List ByteArray) (l338 : (List S_api_AlarmCause)) (l342 : List S_api_AlarmEntry) (n344 : Int) : Option (Bool) := nx301 (l335, l338, l342, n344)
def m_gridhallkeep4_AlarmBoards_b5 (r393 : (Int × S_alarm_Board)) (k434 : Nat) (y528 : S_api_AlarmEntry) (l519 : List ByteArray) (nx524 : List ByteArray → Option (Bool)) : Option (Bool) := need ((l519.length + ([y528.Name]).length) * 16 ≤ 140737488355328) (if y528.Acked then (some false) else (if decide (0 < (k434 : Int)) then ((m_alarm_Board_Shown r393.2).bind fun r551 => idx r551 (IntKind.i64.wrap ((k434 : Int) - 1)) fun y556 => if decide (y528.Time < y556.Time) then (some false) else (nx524 (l519 ++ ([y528.Name])))) else (nx524 (l519 ++ ([y528.Name])))))
def m_gridhallkeep4_AlarmBoards_b6 (causes : (List S_api_AlarmCause)) (r393 : (Int × S_alarm_Board)) (l421 : List ByteArray) : Option (Bool) := (m_alarm_Causes causes l421).bind fun r424 => (m_alarm_Board_Shown r393.2).bind fun r429 => forI (fun k y s523 n => m_gridhallkeep4_AlarmBoards_b5 r393 k y s523 n) (fun s523 => (m_slices_Sort_string_string s523).bind fun r569 => (m_gridhallkeep4_alarmFact).bind fun r574 => if r574 then (if decide (r424.2 = 0) then ((m_alarm_Board_All r393.2).bind fun r578 => if decide ((r578.length : Int) = (l421.length : Int)) then ((m_slices_Equal_string_string r569 r424.1).bind fun r584 => some r584) else (some false)) else (some false)) else (some false)) 0 r429 ([] : List ByteArray)
def m_gridhallkeep4_AlarmBoards_b3 (causes : (List S_api_AlarmCause)) (k135 : Nat) (y304 : ByteArray) (l288 : List ByteArray) (l291 : (List S_api_AlarmCause)) (l295 : List S_api_AlarmEntry) (n297 : Int) (nx301 : (List ByteArray × (List S_api_AlarmCause) × List S_api_AlarmEntry × Int) → Option (Bool)) : Option (Bool) := (m_alarm_Board_Raise (S_alarm_Board.mk l291 l295 n297) y304 (IntKind.i64.wrap (Int.tdiv (k135 : Int) 2))).bind fun r349 => if decide (r349.1 = 0) then (need ((l288.length + ([y304]).length) * 16 ≤ 140737488355328) (m_gridhallkeep4_AlarmBoards_b4 nx301 (l288 ++ ([y304])) r349.2.causes r349.2.all_ r349.2.last)) else (m_gridhallkeep4_AlarmBoards_b4 nx301 l288 r349.2.causes r349.2.all_ r349.2.last)
def m_gridhallkeep4_AlarmBoards (causes : (List S_api_AlarmCause)) (names : (List ByteArray)) (clear : ByteArray) : Option (Bool) := (m_alarm_New causes).bind fun r101 => optC r101.1 ((m_gridhallkeep4_alarmFact).bind fun r119 => if r119 then ((m_alarm_Check causes).bind fun r122 => some (decide (r122 = r101.2))) else (some false)) (fun sp103 => if !decide (r101.2 = 0) then ((m_gridhallkeep4_alarmFact).bind fun r128 => if r128 then (some false) else (some false)) else (need (0 ≤ (min (names.length : Int) 8) ∧ (min (names.length : Int) 8) ≤ (names.length : Int)) (forI (fun k y s300 n => m_gridhallkeep4_AlarmBoards_b3 causes k y s300.1 s300.2.1 s300.2.2.1 s300.2.2.2 n) (fun s300 => (m_slices_Index_string_string s300.1 clear).bind fun r371 => (m_alarm_Board_Ack (S_alarm_Board.mk s300.2.1 s300.2.2.1 s300.2.2.2) clear).bind fun r373 => (m_alarm_Board_Ack r373.2 clear).bind fun r383 => (m_alarm_Board_Clear r383.2 clear).bind fun r393 => if ((decide (r371 < 0)) && ((!decide (r373.1 = 8)) || (!decide (r393.1 = 8)))) || ((decide (0 ≤ r371)) && (((!decide (r373.1 = 0)) || (!decide (r383.1 = 11))) || (!decide (r393.1 = 0)))) then (some false) else (if decide (0 ≤ r371) then (need (0 ≤ r371 ∧ r371 < (IntKind.i64.wrap (r371 + 1)) ∧ (IntKind.i64.wrap (r371 + 1)) ≤ (s300.1.length : Int)) (m_gridhallkeep4_AlarmBoards_b6 causes r393 (s300.1.take (r371).toNat ++ s300.1.drop (IntKind.i64.wrap (r371 + 1)).toNat))) else (m_gridhallkeep4_AlarmBoards_b6 causes r393 s300.1))) 0 (slc names 0 ((min (names.length : Int) 8 : Int).toNat)) (([] : List ByteArray), sp103.causes, sp103.all_, sp103.last))))
end Go.Sim
