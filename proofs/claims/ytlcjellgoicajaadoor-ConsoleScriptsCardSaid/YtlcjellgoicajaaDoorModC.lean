/-
  Printed by a program: the models of the Go functions.
-/
import Derived.Test.YtlcjellgoicajaaDoorSimZ
import Derived.Laws.Bits64b
namespace Go.Sim
open Go
set_option linter.unusedVariables false
def gt3 : List Int := [1, 10, 100, 1000, 10000, 100000, 1000000, 10000000, 100000000, 1000000000, 10000000000, 100000000000, 1000000000000, 10000000000000, 100000000000000, 1000000000000000, 10000000000000000, 100000000000000000, 1000000000000000000, 10000000000000000000]
def gt6 : List Int := [0, 1, 28, 2, 29, 14, 24, 3, 30, 22, 20, 15, 25, 17, 4, 8, 31, 27, 13, 23, 21, 19, 16, 7, 26, 12, 18, 6, 11, 5, 10, 9]
def gt7 : List Int := [0, 1, 56, 2, 57, 49, 28, 3, 61, 58, 42, 50, 38, 29, 17, 4, 62, 47, 59, 36, 45, 43, 51, 22, 53, 39, 33, 30, 24, 18, 12, 5, 63, 55, 48, 27, 60, 41, 37, 16, 46, 35, 44, 21, 52, 32, 23, 11, 54, 26, 40, 15, 34, 20, 31, 10, 25, 14, 19, 9, 13, 8, 7, 6]
structure S_api_ConsoleCommand where
  Verb : ByteArray
  Name : ByteArray
  N : Int
  deriving DecidableEq
instance : Rep S_api_ConsoleCommand where
  sz := 3
  E H cs x := cs = [.string (x.Verb), .string (x.Name), .int .i64 (x.N)]
  len h := by obtain rfl := h; rfl
  mono hle h := by obtain rfl := h; exact rfl
  one h := by obtain rfl := h; exact (all_cons rfl (all_cons rfl (all_cons rfl all_nil)))
instance : Flat S_api_ConsoleCommand := ⟨fun h => h⟩
structure S_console_form where
  verb : ByteArray
  name : Bool
  n : Bool
  low_ : Int
  high_ : Int
  deriving DecidableEq
instance : Rep S_console_form where
  sz := 5
  E H cs x := cs = [.string (x.verb), .bool (x.name), .bool (x.n), .int .i64 (x.low_), .int .i64 (x.high_)]
  len h := by obtain rfl := h; rfl
  mono hle h := by obtain rfl := h; exact rfl
  one h := by obtain rfl := h; exact (all_cons rfl (all_cons rfl (all_cons rfl (all_cons rfl (all_cons rfl all_nil)))))
instance : Flat S_console_form := ⟨fun h => h⟩
structure S_A8_S_console_form where
  a0 : S_console_form
  a1 : S_console_form
  a2 : S_console_form
  a3 : S_console_form
  a4 : S_console_form
  a5 : S_console_form
  a6 : S_console_form
  a7 : S_console_form
  deriving DecidableEq
instance : Rep S_A8_S_console_form where
  sz := 40
  E H cs x := cs = [.string (x.a0.verb), .bool (x.a0.name), .bool (x.a0.n), .int .i64 (x.a0.low_), .int .i64 (x.a0.high_), .string (x.a1.verb), .bool (x.a1.name), .bool (x.a1.n), .int .i64 (x.a1.low_), .int .i64 (x.a1.high_), .string (x.a2.verb), .bool (x.a2.name), .bool (x.a2.n), .int .i64 (x.a2.low_), .int .i64 (x.a2.high_), .string (x.a3.verb), .bool (x.a3.name), .bool (x.a3.n), .int .i64 (x.a3.low_), .int .i64 (x.a3.high_), .string (x.a4.verb), .bool (x.a4.name), .bool (x.a4.n), .int .i64 (x.a4.low_), .int .i64 (x.a4.high_), .string (x.a5.verb), .bool (x.a5.name), .bool (x.a5.n), .int .i64 (x.a5.low_), .int .i64 (x.a5.high_), .string (x.a6.verb), .bool (x.a6.name), .bool (x.a6.n), .int .i64 (x.a6.low_), .int .i64 (x.a6.high_), .string (x.a7.verb), .bool (x.a7.name), .bool (x.a7.n), .int .i64 (x.a7.low_), .int .i64 (x.a7.high_)]
  len h := by obtain rfl := h; rfl
  mono hle h := by obtain rfl := h; exact rfl
  one h := by obtain rfl := h; exact (all_cons rfl (all_cons rfl (all_cons rfl (all_cons rfl (all_cons rfl (all_cons rfl (all_cons rfl (all_cons rfl (all_cons rfl (all_cons rfl (all_cons rfl (all_cons rfl (all_cons rfl (all_cons rfl (all_cons rfl (all_cons rfl (all_cons rfl (all_cons rfl (all_cons rfl (all_cons rfl (all_cons rfl (all_cons rfl (all_cons rfl (all_cons rfl (all_cons rfl (all_cons rfl (all_cons rfl (all_cons rfl (all_cons rfl (all_cons rfl (all_cons rfl (all_cons rfl (all_cons rfl (all_cons rfl (all_cons rfl (all_cons rfl (all_cons rfl (all_cons rfl (all_cons rfl (all_cons rfl all_nil))))))))))))))))))))))))))))))))))))))))
instance : Flat S_A8_S_console_form := ⟨fun h => h⟩
structure S_api_Event where
  Time : Int
  Kind : ByteArray
  Name : ByteArray
  Value : Int
  deriving DecidableEq
instance : Rep S_api_Event where
  sz := 4
  E H cs x := cs = [.int .i64 (x.Time), .string (x.Kind), .string (x.Name), .int .i64 (x.Value)]
  len h := by obtain rfl := h; rfl
  mono hle h := by obtain rfl := h; exact rfl
  one h := by obtain rfl := h; exact (all_cons rfl (all_cons rfl (all_cons rfl (all_cons rfl all_nil))))
instance : Flat S_api_Event := ⟨fun h => h⟩

def m_console_forms : S_A8_S_console_form := (S_A8_S_console_form.mk (S_console_form.mk (⟨#[111, 112, 101, 110]⟩) true false 0 0) (S_console_form.mk (⟨#[99, 108, 111, 115, 101]⟩) true false 0 0) (S_console_form.mk (⟨#[97, 99, 107]⟩) true false 0 0) (S_console_form.mk (⟨#[108, 111, 97, 100]⟩) true true 0 100000) (S_console_form.mk (⟨#[103, 101, 110]⟩) true true 0 100000) (S_console_form.mk (⟨#[115, 116, 111, 114, 101]⟩) true true ((-100000)) 100000) (S_console_form.mk (⟨#[119, 97, 105, 116]⟩) false true 0 3600) (S_console_form.mk (⟨#[116, 101, 108, 108]⟩) false false 0 0))

def m_console_find_b1 (verb : ByteArray) (k102 : Nat) (nx116 : Unit → Option (S_console_form × Bool)) : Option (S_console_form × Bool) := idx ([(S_console_form.mk (((m_console_forms)).a0.verb) (((m_console_forms)).a0.name) (((m_console_forms)).a0.n) (((m_console_forms)).a0.low_) (((m_console_forms)).a0.high_)), (S_console_form.mk (((m_console_forms)).a1.verb) (((m_console_forms)).a1.name) (((m_console_forms)).a1.n) (((m_console_forms)).a1.low_) (((m_console_forms)).a1.high_)), (S_console_form.mk (((m_console_forms)).a2.verb) (((m_console_forms)).a2.name) (((m_console_forms)).a2.n) (((m_console_forms)).a2.low_) (((m_console_forms)).a2.high_)), (S_console_form.mk (((m_console_forms)).a3.verb) (((m_console_forms)).a3.name) (((m_console_forms)).a3.n) (((m_console_forms)).a3.low_) (((m_console_forms)).a3.high_)), (S_console_form.mk (((m_console_forms)).a4.verb) (((m_console_forms)).a4.name) (((m_console_forms)).a4.n) (((m_console_forms)).a4.low_) (((m_console_forms)).a4.high_)), (S_console_form.mk (((m_console_forms)).a5.verb) (((m_console_forms)).a5.name) (((m_console_forms)).a5.n) (((m_console_forms)).a5.low_) (((m_console_forms)).a5.high_)), (S_console_form.mk (((m_console_forms)).a6.verb) (((m_console_forms)).a6.name) (((m_console_forms)).a6.n) (((m_console_forms)).a6.low_) (((m_console_forms)).a6.high_)), (S_console_form.mk (((m_console_forms)).a7.verb) (((m_console_forms)).a7.name) (((m_console_forms)).a7.n) (((m_console_forms)).a7.low_) (((m_console_forms)).a7.high_))] : List S_console_form) (k102 : Int) fun y125 => if decide (y125.verb = verb) then (some (y125, true)) else (nx116 ())
def m_console_find (verb : ByteArray) : Option (S_console_form × Bool) := forN (fun k s115 n => m_console_find_b1 verb k n) (fun _ => some ((S_console_form.mk (⟨#[]⟩) false false 0 0), false)) (8 : Int).toNat 0 ()

def m_netmodel_Name_b1 (k106 : Nat) (y143 : U8) (nx140 : Unit → Option (Bool)) : Option (Bool) := if !(((decide (65 ≤ y143.n)) && (decide (y143.n ≤ 90))) || (((decide (0 < (k106 : Int))) && (decide (48 ≤ y143.n))) && (decide (y143.n ≤ 57)))) then (some false) else (nx140 ())
def m_netmodel_Name (p0_s : ByteArray) : Option (Bool) := need (p0_s.size ≤ maxLen) (forI (fun k y s139 n => m_netmodel_Name_b1 k y n) (fun _ => some ((decide (1 ≤ (p0_s.size : Int))) && (decide ((p0_s.size : Int) ≤ 8)))) 0 (bytesL p0_s) ())

def m_console_Check (p0_c : S_api_ConsoleCommand) : Option (Int) := (m_console_find p0_c.Verb).bind fun r102 => if !r102.2 then (some 5) else (if r102.1.name then ((m_netmodel_Name p0_c.Name).bind fun r119 => if !r119 then (some 6) else (if (!r102.1.n) && (!decide (p0_c.N = 0)) then (some 3) else (if r102.1.n && ((decide (p0_c.N < r102.1.low_)) || (decide (r102.1.high_ < p0_c.N))) then (some 4) else (some 0)))) else (if (!decide (p0_c.Name = (⟨#[]⟩))) || ((!r102.1.n) && (!decide (p0_c.N = 0))) then (some 3) else (if r102.1.n && ((decide (p0_c.N < r102.1.low_)) || (decide (r102.1.high_ < p0_c.N))) then (some 4) else (some 0))))

def m_console_Print_b1 (s117 : ByteArray) : Option (ByteArray × Int) := some (s117, 0)
def m_console_Print_b2 (p0_c : S_api_ConsoleCommand) (r105 : (S_console_form × Bool)) (s111 : ByteArray) : Option (ByteArray × Int) := if r105.1.n then (need (-9223372036854775808 ≤ p0_c.N ∧ p0_c.N ≤ 9223372036854775807) (need ((⟨#[32]⟩ : ByteArray).size + (itoaB p0_c.N).size ≤ maxLen) (need (s111.size + ((⟨#[32]⟩ : ByteArray) ++ (itoaB p0_c.N)).size ≤ maxLen) (m_console_Print_b1 (s111 ++ ((⟨#[32]⟩ : ByteArray) ++ (itoaB p0_c.N))))))) else (m_console_Print_b1 s111)
def m_console_Print (p0_c : S_api_ConsoleCommand) : Option (ByteArray × Int) := (m_console_Check p0_c).bind fun r102 => if !decide (r102 = 0) then (some ((⟨#[]⟩), r102)) else ((m_console_find p0_c.Verb).bind fun r105 => if r105.1.name then (need ((⟨#[32]⟩ : ByteArray).size + p0_c.Name.size ≤ maxLen) (need (p0_c.Verb.size + ((⟨#[32]⟩ : ByteArray) ++ p0_c.Name).size ≤ maxLen) (m_console_Print_b2 p0_c r105 (p0_c.Verb ++ ((⟨#[32]⟩ : ByteArray) ++ p0_c.Name))))) else (m_console_Print_b2 p0_c r105 p0_c.Verb))

def m_internal_stringslite_IndexByte (p0_s : ByteArray) (p1_c : Int) : Int := (idxB p0_s p1_c)

def m_internal_stringslite_Index (p0_s : ByteArray) (substr : ByteArray) : Option (Int) := if (decide ((substr.size : Int) = 0)) || (decide (substr = p0_s)) then (some 0) else (if decide ((substr.size : Int) = 1) then (idx (bytesL substr) 0 fun y105 => some (m_internal_stringslite_IndexByte p0_s y105.n)) else (if decide ((p0_s.size : Int) ≤ (substr.size : Int)) then (some (-1)) else none))

def m_strings_Index (p0_s : ByteArray) (substr : ByteArray) : Option (Int) := (m_internal_stringslite_Index p0_s substr).bind fun r101 => some r101

def m_strings_Count_b1 (substr : ByteArray) (s118 : ByteArray) (n119 : Int) (nx123 : (ByteArray × Int) → Option (Int)) : Option (Int) := (m_strings_Index s118 substr).bind fun r131 => if decide (r131 = (-1)) then (some n119) else (need (0 ≤ (IntKind.i64.wrap (r131 + (substr.size : Int))) ∧ (IntKind.i64.wrap (r131 + (substr.size : Int))) ≤ (s118.size : Int)) (nx123 (s118.extract ((IntKind.i64.wrap (r131 + (substr.size : Int)) : Int).toNat) s118.size, IntKind.i64.wrap (n119 + 1))))
def m_strings_Count (p0_s : ByteArray) (substr : ByteArray) : Option (Int) := if decide ((substr.size : Int) = 0) then none else (if decide ((substr.size : Int) = 1) then (idx (bytesL substr) 0 fun y103 => some (cntB p0_s y103.n)) else (loopF (fun s122 n => m_strings_Count_b1 substr s122.1 s122.2 n) FUEL (p0_s, 0)))

def m_strings_genSplit_b2 (s183 : ByteArray) (l186 : List ByteArray) (n188 : Int) : Option ((List ByteArray)) := idx l186 n188 fun y192 => need (0 ≤ (IntKind.i64.wrap (n188 + 1)) ∧ (IntKind.i64.wrap (n188 + 1)) ≤ ((l186.set ((n188 : Int).toNat) s183).length : Int)) (some (slc (l186.set ((n188 : Int).toNat) s183) 0 ((IntKind.i64.wrap (n188 + 1) : Int).toNat)))
def m_strings_genSplit_b3 (p0_s : ByteArray) (sep : ByteArray) (sepSave : Int) (n106 : Int) (s244 : ByteArray) (l247 : List ByteArray) (n249 : Int) (nx253 : (ByteArray × List ByteArray × Int) → Option ((List ByteArray))) : Option ((List ByteArray)) := if decide (n249 < (IntKind.i64.wrap ((min n106 (IntKind.i64.wrap ((p0_s.size : Int) + 1))) - 1))) then ((m_strings_Index s244 sep).bind fun r262 => if decide (r262 < 0) then (m_strings_genSplit_b2 s244 l247 n249) else (need (0 ≤ (IntKind.i64.wrap (r262 + sepSave)) ∧ (IntKind.i64.wrap (r262 + sepSave)) ≤ (s244.size : Int)) (idx l247 n249 fun y266 => need (0 ≤ (IntKind.i64.wrap (r262 + (sep.size : Int))) ∧ (IntKind.i64.wrap (r262 + (sep.size : Int))) ≤ (s244.size : Int)) (nx253 (s244.extract ((IntKind.i64.wrap (r262 + (sep.size : Int)) : Int).toNat) s244.size, (l247.set ((n249 : Int).toNat) (s244.extract 0 ((IntKind.i64.wrap (r262 + sepSave) : Int).toNat))), IntKind.i64.wrap (n249 + 1)))))) else (m_strings_genSplit_b2 s244 l247 n249)
def m_strings_genSplit_b4 (p0_s : ByteArray) (sep : ByteArray) (sepSave : Int) (n106 : Int) : Option ((List ByteArray)) := need (0 ≤ (min n106 (IntKind.i64.wrap ((p0_s.size : Int) + 1))) ∧ (min n106 (IntKind.i64.wrap ((p0_s.size : Int) + 1))) * 16 ≤ 140737488355328) (loopF (fun s252 n => m_strings_genSplit_b3 p0_s sep sepSave n106 s252.1 s252.2.1 s252.2.2 n) FUEL (p0_s, (List.replicate (min n106 (IntKind.i64.wrap ((p0_s.size : Int) + 1)) : Int).toNat ((⟨#[]⟩) : ByteArray)), 0))
def m_strings_genSplit (p0_s : ByteArray) (sep : ByteArray) (sepSave : Int) (p3_n : Int) : Option ((List ByteArray)) := if decide (p3_n = 0) then (some ([] : List ByteArray)) else (if decide (sep = (⟨#[]⟩)) then none else (if decide (p3_n < 0) then ((m_strings_Count p0_s sep).bind fun r276 => m_strings_genSplit_b4 p0_s sep sepSave (IntKind.i64.wrap (r276 + 1))) else (m_strings_genSplit_b4 p0_s sep sepSave p3_n)))

def m_strings_Split (p0_s : ByteArray) (sep : ByteArray) : Option ((List ByteArray)) := (m_strings_genSplit p0_s sep 0 (-1)).bind fun r101 => some r101

def m_console_Parse_b1 (y125 : ByteArray) (s135 : ByteArray) (n156 : Int) : Option (S_api_ConsoleCommand × Int) := (m_console_Check (S_api_ConsoleCommand.mk y125 s135 n156)).bind fun r160 => if !decide (r160 = 0) then (some ((S_api_ConsoleCommand.mk (⟨#[]⟩) (⟨#[]⟩) 0), r160)) else (some ((S_api_ConsoleCommand.mk y125 s135 n156), 0))
def m_console_Parse_b2 (r104 : ((List ByteArray))) (r113 : (S_console_form × Bool)) (n120 : Int) (y125 : ByteArray) (s135 : ByteArray) : Option (S_api_ConsoleCommand × Int) := if r113.1.n then (idx r104 (IntKind.i64.wrap (n120 - 1)) fun y164 => need (y164.size ≤ 281474976710656) (if (atoiB y164).2 then (some ((S_api_ConsoleCommand.mk (⟨#[]⟩) (⟨#[]⟩) 0), 5)) else (need (-9223372036854775808 ≤ ((atoiB y164).1) ∧ ((atoiB y164).1) ≤ 9223372036854775807) (idx r104 (IntKind.i64.wrap (n120 - 1)) fun y173 => if !decide ((itoaB ((atoiB y164).1)) = y173) then (some ((S_api_ConsoleCommand.mk (⟨#[]⟩) (⟨#[]⟩) 0), 5)) else (m_console_Parse_b1 y125 s135 ((atoiB y164).1)))))) else (m_console_Parse_b1 y125 s135 0)
def m_console_Parse_b3 (r104 : ((List ByteArray))) (r113 : (S_console_form × Bool)) (n120 : Int) : Option (S_api_ConsoleCommand × Int) := if (!r113.2) || (!decide ((r104.length : Int) = n120)) then (some ((S_api_ConsoleCommand.mk (⟨#[]⟩) (⟨#[]⟩) 0), 5)) else (idx r104 0 fun y125 => if r113.1.name then (idx r104 1 fun y183 => m_console_Parse_b2 r104 r113 n120 y125 y183) else (m_console_Parse_b2 r104 r113 n120 y125 (⟨#[]⟩)))
def m_console_Parse_b4 (r104 : ((List ByteArray))) (r113 : (S_console_form × Bool)) (n117 : Int) : Option (S_api_ConsoleCommand × Int) := if r113.1.n then (m_console_Parse_b3 r104 r113 (IntKind.i64.wrap (n117 + 1))) else (m_console_Parse_b3 r104 r113 n117)
def m_console_Parse (p0_s : ByteArray) : Option (S_api_ConsoleCommand × Int) := if decide (8192 < (p0_s.size : Int)) then (some ((S_api_ConsoleCommand.mk (⟨#[]⟩) (⟨#[]⟩) 0), 2)) else ((m_strings_Split p0_s (⟨#[32]⟩)).bind fun r104 => idx r104 0 fun y109 => (m_console_find y109).bind fun r113 => if r113.1.name then (m_console_Parse_b4 r104 r113 (IntKind.i64.wrap (1 + 1))) else (m_console_Parse_b4 r104 r113 1))

def m_gridhallkeep4_consoleFact : Option (Bool) := (m_console_Parse (⟨#[108, 111, 97, 100, 32, 76, 49, 32, 50, 48]⟩)).bind fun r101 => some ((decide (r101.2 = 0)) && (decide (r101.1.Verb = (⟨#[108, 111, 97, 100]⟩)) && (decide (r101.1.Name = (⟨#[76, 49]⟩)) && (decide (r101.1.N = 20) && true))))

def m_gridhallkeep4_ConsoleBack_b1 (p0_c : S_api_ConsoleCommand) (p1_s : ByteArray) (r102 : (ByteArray × Int)) : Option (Bool) := (m_console_Parse p1_s).bind fun r113 => if !decide (r113.2 = 0) then ((m_gridhallkeep4_consoleFact).bind fun r117 => if r117 then ((m_console_Check p0_c).bind fun r120 => if decide (r102.2 = r120) then (some (decide (r113.1.Verb = (⟨#[]⟩)) && (decide (r113.1.Name = (⟨#[]⟩)) && (decide (r113.1.N = 0) && true)))) else (some false)) else (some false)) else ((m_console_Print r113.1).bind fun r123 => (m_gridhallkeep4_consoleFact).bind fun r129 => some ((r129 && (decide (r123.2 = 0))) && (decide (r123.1 = p1_s))))
def m_gridhallkeep4_ConsoleBack (p0_c : S_api_ConsoleCommand) (p1_s : ByteArray) : Option (Bool) := (m_console_Print p0_c).bind fun r102 => if decide (r102.2 = 0) then ((m_console_Parse r102.1).bind fun r135 => if (!decide (r135.2 = 0)) || (!(decide (r135.1.Verb = p0_c.Verb) && (decide (r135.1.Name = p0_c.Name) && (decide (r135.1.N = p0_c.N) && true)))) then (some false) else (m_gridhallkeep4_ConsoleBack_b1 p0_c p1_s r102)) else (m_gridhallkeep4_ConsoleBack_b1 p0_c p1_s r102)

def m_gridhallref4_Cut_b1 (p1_low : Int) (n103 : Int) : Option (Int) := some (IntKind.i64.wrap (p1_low + n103))
def m_gridhallref4_Cut (p0_n : Int) (p1_low : Int) (p2_high : Int) : Option (Int) := need ((IntKind.i64.wrap ((IntKind.i64.wrap (p2_high - p1_low)) + 1)) ≠ 0) (if decide ((Int.tmod p0_n (IntKind.i64.wrap ((IntKind.i64.wrap (p2_high - p1_low)) + 1))) < 0) then (m_gridhallref4_Cut_b1 p1_low (IntKind.i64.wrap ((Int.tmod p0_n (IntKind.i64.wrap ((IntKind.i64.wrap (p2_high - p1_low)) + 1))) + (IntKind.i64.wrap ((IntKind.i64.wrap (p2_high - p1_low)) + 1))))) else (m_gridhallref4_Cut_b1 p1_low (Int.tmod p0_n (IntKind.i64.wrap ((IntKind.i64.wrap (p2_high - p1_low)) + 1)))))

def m_internal_stringslite_HasSuffix (p0_s : ByteArray) (suffix : ByteArray) : Option (Bool) := if decide ((suffix.size : Int) ≤ (p0_s.size : Int)) then (need (0 ≤ (IntKind.i64.wrap ((p0_s.size : Int) - (suffix.size : Int))) ∧ (IntKind.i64.wrap ((p0_s.size : Int) - (suffix.size : Int))) ≤ (p0_s.size : Int)) (some (decide ((p0_s.extract ((IntKind.i64.wrap ((p0_s.size : Int) - (suffix.size : Int)) : Int).toNat) p0_s.size) = suffix)))) else (some false)

def m_internal_stringslite_TrimSuffix (p0_s : ByteArray) (suffix : ByteArray) : Option (ByteArray) := (m_internal_stringslite_HasSuffix p0_s suffix).bind fun r101 => if r101 then (need (0 ≤ (IntKind.i64.wrap ((p0_s.size : Int) - (suffix.size : Int))) ∧ (IntKind.i64.wrap ((p0_s.size : Int) - (suffix.size : Int))) ≤ (p0_s.size : Int)) (some (p0_s.extract 0 ((IntKind.i64.wrap ((p0_s.size : Int) - (suffix.size : Int)) : Int).toNat)))) else (some p0_s)

def m_strings_TrimSuffix (p0_s : ByteArray) (suffix : ByteArray) : Option (ByteArray) := (m_internal_stringslite_TrimSuffix p0_s suffix).bind fun r101 => some r101

def m_strings_HasSuffix (p0_s : ByteArray) (suffix : ByteArray) : Option (Bool) := (m_internal_stringslite_HasSuffix p0_s suffix).bind fun r101 => some r101

def m_console_Script_b4 (nx231 : (Int × List S_api_Event) → Option ((List S_api_Event) × Int × Int)) (n260 : Int) (l263 : List S_api_Event) : Option ((List S_api_Event) × Int × Int) := nx231 (n260, l263)
def m_console_Script_b3 (k116 : Nat) (y235 : ByteArray) (n223 : Int) (l226 : List S_api_Event) (nx231 : (Int × List S_api_Event) → Option ((List S_api_Event) × Int × Int)) : Option ((List S_api_Event) × Int × Int) := (m_console_Parse y235).bind fun r269 => if !decide (r269.2 = 0) then (some (([] : List S_api_Event), (k116 : Int), r269.2)) else (if decide (r269.1.Verb = (⟨#[116, 101, 108, 108]⟩)) then (m_console_Script_b4 nx231 n223 l226) else (if decide (r269.1.Verb = (⟨#[119, 97, 105, 116]⟩)) then (if decide (200000 < (IntKind.i64.wrap (n223 + r269.1.N))) then (some (([] : List S_api_Event), (k116 : Int), 12)) else (m_console_Script_b4 nx231 (IntKind.i64.wrap (n223 + r269.1.N)) l226)) else (need ((l226.length + ([(S_api_Event.mk n223 r269.1.Verb r269.1.Name r269.1.N)]).length) * 48 ≤ 140737488355328) (m_console_Script_b4 nx231 n223 (l226 ++ ([(S_api_Event.mk n223 r269.1.Verb r269.1.Name r269.1.N)]))))))
def m_console_Script (text : ByteArray) (time : Int) : Option ((List S_api_Event) × Int × Int) := if decide (8192 < (text.size : Int)) then (some (([] : List S_api_Event), 0, 2)) else (if (decide (time < 0)) || (decide (200000 < time)) then (some (([] : List S_api_Event), 0, 12)) else (if decide (text = (⟨#[]⟩)) then (some (([] : List S_api_Event), 0, 0)) else ((m_strings_TrimSuffix text (⟨#[10]⟩)).bind fun r106 => (m_strings_Split r106 (⟨#[10]⟩)).bind fun r108 => (m_strings_HasSuffix text (⟨#[10]⟩)).bind fun r113 => if !r113 then (some (([] : List S_api_Event), (IntKind.i64.wrap ((r108.length : Int) - 1)), 5)) else (forI (fun k y s230 n => m_console_Script_b3 k y s230.1 s230.2 n) (fun s230 => some (s230.2, 0, 0)) 0 r108 (time, ([] : List S_api_Event))))))

def m_slices_Equal_api_Event_api_Event_b1 (p0_s1 : (List S_api_Event)) (p1_s2 : (List S_api_Event)) (k102 : Nat) (nx132 : Unit → Option (Bool)) : Option (Bool) := idx p0_s1 (k102 : Int) fun y141 => idx p1_s2 (k102 : Int) fun y145 => if !(decide (y141.Time = y145.Time) && (decide (y141.Kind = y145.Kind) && (decide (y141.Name = y145.Name) && (decide (y141.Value = y145.Value) && true)))) then (some false) else (nx132 ())
def m_slices_Equal_api_Event_api_Event (p0_s1 : (List S_api_Event)) (p1_s2 : (List S_api_Event)) : Option (Bool) := if !decide ((p0_s1.length : Int) = (p1_s2.length : Int)) then (some false) else (forN (fun k s131 n => m_slices_Equal_api_Event_api_Event_b1 p0_s1 p1_s2 k n) (fun _ => some true) ((p0_s1.length : Int) : Int).toNat 0 ())

def m_gridhallkeep4_ConsoleScripts_b4 (nx231 : (ByteArray × Int × List S_api_Event) → Option (Bool)) (s260 : ByteArray) (n261 : Int) (l264 : List S_api_Event) : Option (Bool) := nx231 (s260, n261, l264)
def m_gridhallkeep4_ConsoleScripts_b3 (k107 : Nat) (y234 : S_api_ConsoleCommand) (s222 : ByteArray) (n223 : Int) (l226 : List S_api_Event) (nx231 : (ByteArray × Int × List S_api_Event) → Option (Bool)) : Option (Bool) := (m_console_Print y234).bind fun r271 => if !decide (r271.2 = 0) then (m_gridhallkeep4_ConsoleScripts_b4 nx231 s222 n223 l226) else (need (r271.1.size + (⟨#[10]⟩ : ByteArray).size ≤ maxLen) (need (s222.size + (r271.1 ++ (⟨#[10]⟩)).size ≤ maxLen) (if decide (y234.Verb = (⟨#[119, 97, 105, 116]⟩)) then (m_gridhallkeep4_ConsoleScripts_b4 nx231 (s222 ++ (r271.1 ++ (⟨#[10]⟩))) (IntKind.i64.wrap (n223 + y234.N)) l226) else (if decide (y234.Verb = (⟨#[116, 101, 108, 108]⟩)) then (m_gridhallkeep4_ConsoleScripts_b4 nx231 (s222 ++ (r271.1 ++ (⟨#[10]⟩))) n223 l226) else (need ((l226.length + ([(S_api_Event.mk n223 y234.Verb y234.Name y234.N)]).length) * 48 ≤ 140737488355328) (m_gridhallkeep4_ConsoleScripts_b4 nx231 (s222 ++ (r271.1 ++ (⟨#[10]⟩))) n223 (l226 ++ ([(S_api_Event.mk n223 y234.Verb y234.Name y234.N)]))))))))
def m_gridhallkeep4_ConsoleScripts (p0_l : (List S_api_ConsoleCommand)) (time : Int) : Option (Bool) := (m_gridhallref4_Cut time 0 1000).bind fun r101 => need (0 ≤ (min (p0_l.length : Int) 10) ∧ (min (p0_l.length : Int) 10) ≤ (p0_l.length : Int)) (forI (fun k y s230 n => m_gridhallkeep4_ConsoleScripts_b3 k y s230.1 s230.2.1 s230.2.2 n) (fun s230 => (m_console_Script s230.1 r101).bind fun r289 => need (s230.1.size + (⟨#[116, 101, 108, 108]⟩ : ByteArray).size ≤ maxLen) ((m_console_Script (s230.1 ++ (⟨#[116, 101, 108, 108]⟩)) r101).bind fun r295 => (m_gridhallkeep4_consoleFact).bind fun r300 => if r300 then (if decide (r289.2.2 = 0) then (if decide (r289.2.1 = 0) then ((m_slices_Equal_api_Event_api_Event r289.1 s230.2.2).bind fun r305 => if r305 then (if decide (r295.2.2 = 5) then ((m_strings_Count s230.1 (⟨#[10]⟩)).bind fun r309 => if decide (r295.2.1 = r309) then (some (decide ((r295.1.length : Int) = 0))) else (some false)) else (some false)) else (some false)) else (some false)) else (some false)) else (some false))) 0 (slc p0_l 0 ((min (p0_l.length : Int) 10 : Int).toNat)) (⟨#[]⟩, r101, ([] : List S_api_Event)))
end Go.Sim
