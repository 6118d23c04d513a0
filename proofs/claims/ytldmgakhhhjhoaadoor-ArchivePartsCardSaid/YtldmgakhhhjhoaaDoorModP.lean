/-
  Printed by a program: the models of the Go functions.
-/
import Derived.Test.YtldmgakhhhjhoaaDoorSimZ
import Derived.Laws.Bits64b
namespace Go.Sim
open Go
set_option linter.unusedVariables false
def gt3 : List Int := [1, 10, 100, 1000, 10000, 100000, 1000000, 10000000, 100000000, 1000000000, 10000000000, 100000000000, 1000000000000, 10000000000000, 100000000000000, 1000000000000000, 10000000000000000, 100000000000000000, 1000000000000000000, 10000000000000000000]
def gt6 : List Int := [0, 1, 28, 2, 29, 14, 24, 3, 30, 22, 20, 15, 25, 17, 4, 8, 31, 27, 13, 23, 21, 19, 16, 7, 26, 12, 18, 6, 11, 5, 10, 9]
def gt7 : List Int := [0, 1, 56, 2, 57, 49, 28, 3, 61, 58, 42, 50, 38, 29, 17, 4, 62, 47, 59, 36, 45, 43, 51, 22, 53, 39, 33, 30, 24, 18, 12, 5, 63, 55, 48, 27, 60, 41, 37, 16, 46, 35, 44, 21, 52, 32, 23, 11, 54, 26, 40, 15, 34, 20, 31, 10, 25, 14, 19, 9, 13, 8, 7, 6]
structure S_api_Event where
  Time : Int
  Kind : ByteArray
  Name : ByteArray
  Value : Int
  deriving DecidableEq
instance : Rep S_api_Event where
  sz := 4
  E H cs x := cs = [.int .i64 (x.Time), .string (x.Kind), .string (x.Name), .int .i64 (x.Value)]
  len h := by obtain rfl := h; rfl
  mono hle h := by obtain rfl := h; exact rfl
  one h := by obtain rfl := h; exact (all_cons rfl (all_cons rfl (all_cons rfl (all_cons rfl all_nil))))
instance : Flat S_api_Event := ⟨fun h => h⟩
structure S_archive_Archive where
  all_ : (List S_api_Event)
  deriving DecidableEq
instance : Rep S_archive_Archive where
  sz := 1
  E H cs x := ∃ v0 : Value, cs = [v0] ∧ RdS H v0 x.all_
  len h := by obtain ⟨v0, rfl, h0⟩ := h; rfl
  mono hle h := by obtain ⟨v0, rfl, h0⟩ := h; exact ⟨v0, rfl, h0.mono hle⟩
  one h := by obtain ⟨v0, rfl, h0⟩ := h; exact (all_cons (RdS.one1 h0) all_nil)

def m_archive_New : (Option S_archive_Archive) := (some (S_archive_Archive.mk ([] : List S_api_Event)))

def m_gridhallref4_Cut_b1 (p1_low : Int) (n103 : Int) : Option (Int) := some (IntKind.i64.wrap (p1_low + n103))
def m_gridhallref4_Cut (p0_n : Int) (p1_low : Int) (p2_high : Int) : Option (Int) := need ((IntKind.i64.wrap ((IntKind.i64.wrap (p2_high - p1_low)) + 1)) ≠ 0) (if decide ((Int.tmod p0_n (IntKind.i64.wrap ((IntKind.i64.wrap (p2_high - p1_low)) + 1))) < 0) then (m_gridhallref4_Cut_b1 p1_low (IntKind.i64.wrap ((Int.tmod p0_n (IntKind.i64.wrap ((IntKind.i64.wrap (p2_high - p1_low)) + 1))) + (IntKind.i64.wrap ((IntKind.i64.wrap (p2_high - p1_low)) + 1))))) else (m_gridhallref4_Cut_b1 p1_low (Int.tmod p0_n (IntKind.i64.wrap ((IntKind.i64.wrap (p2_high - p1_low)) + 1)))))

def m_archive_kind_b1 (k106 : Nat) (y123 : U8) (nx120 : Unit → Option (Bool)) : Option (Bool) := if (decide (y123.n < 97)) || (decide (122 < y123.n)) then (some false) else (nx120 ())
def m_archive_kind (p0_s : ByteArray) : Option (Bool) := need (p0_s.size ≤ maxLen) (forI (fun k y s119 n => m_archive_kind_b1 k y n) (fun _ => some ((decide (1 ≤ (p0_s.size : Int))) && (decide ((p0_s.size : Int) ≤ 8)))) 0 (bytesL p0_s) ())

def m_netmodel_Name_b1 (k106 : Nat) (y143 : U8) (nx140 : Unit → Option (Bool)) : Option (Bool) := if !(((decide (65 ≤ y143.n)) && (decide (y143.n ≤ 90))) || (((decide (0 < (k106 : Int))) && (decide (48 ≤ y143.n))) && (decide (y143.n ≤ 57)))) then (some false) else (nx140 ())
def m_netmodel_Name (p0_s : ByteArray) : Option (Bool) := need (p0_s.size ≤ maxLen) (forI (fun k y s139 n => m_netmodel_Name_b1 k y n) (fun _ => some ((decide (1 ≤ (p0_s.size : Int))) && (decide ((p0_s.size : Int) ≤ 8)))) 0 (bytesL p0_s) ())

def m_archive_Check (p0_e : S_api_Event) : Option (Int) := if (decide (p0_e.Time < 0)) || (decide (200000 < p0_e.Time)) then (some 12) else ((m_archive_kind p0_e.Kind).bind fun r105 => if r105 then ((m_netmodel_Name p0_e.Name).bind fun r108 => if !r108 then (some 6) else (if (decide (p0_e.Value < (-1000000))) || (decide (1000000 < p0_e.Value)) then (some 4) else (some 0))) else (some 6))

def m_archive_Archive_Append (p0_a : S_archive_Archive) (p1_e : S_api_Event) : Option (Int × Int × S_archive_Archive) := (m_archive_Check p1_e).bind fun r102 => if !decide (r102 = 0) then (some (0, r102, p0_a)) else (if decide (0 < (p0_a.all_.length : Int)) then (idx p0_a.all_ (IntKind.i64.wrap ((p0_a.all_.length : Int) - 1)) fun y132 => if decide (p1_e.Time < y132.Time) then (some (0, 12, p0_a)) else (if decide ((p0_a.all_.length : Int) = 300) then (some (0, 9, p0_a)) else (need ((p0_a.all_.length + ([p1_e]).length) * 48 ≤ 140737488355328) (some ((IntKind.i64.wrap ((p0_a.all_.length : Int) + 1)), 0, (S_archive_Archive.mk (p0_a.all_ ++ ([p1_e])))))))) else (if decide ((p0_a.all_.length : Int) = 300) then (some (0, 9, p0_a)) else (need ((p0_a.all_.length + ([p1_e]).length) * 48 ≤ 140737488355328) (some ((IntKind.i64.wrap ((p0_a.all_.length : Int) + 1)), 0, (S_archive_Archive.mk (p0_a.all_ ++ ([p1_e]))))))))

def m_gridhallkeep4_archiveOf_b1 (k117 : Nat) (y159 : S_api_Event) (n148 : Int) (l151 : List S_api_Event) (nx156 : (Int × List S_api_Event) → Option ((Option S_archive_Archive))) : Option ((Option S_archive_Archive)) := (m_gridhallref4_Cut y159.Time 0 50).bind fun r167 => (m_archive_Archive_Append (S_archive_Archive.mk l151) (S_api_Event.mk (IntKind.i64.wrap (n148 + r167)) y159.Kind y159.Name y159.Value)).bind fun r169 => nx156 (IntKind.i64.wrap (n148 + r167), r169.2.2.all_)
def m_gridhallkeep4_archiveOf (p0_l : (List S_api_Event)) : Option ((Option S_archive_Archive)) := optC (m_archive_New) (some none) (fun sp101 => need (0 ≤ (min (p0_l.length : Int) 12) ∧ (min (p0_l.length : Int) 12) ≤ (p0_l.length : Int)) (forI (fun k y s155 n => m_gridhallkeep4_archiveOf_b1 k y s155.1 s155.2 n) (fun s155 => some (some (S_archive_Archive.mk s155.2))) 0 (slc p0_l 0 ((min (p0_l.length : Int) 12 : Int).toNat)) (0, sp101.all_)))

def m_archive_line (p0_e : S_api_Event) : Option (ByteArray) := need (-9223372036854775808 ≤ p0_e.Time ∧ p0_e.Time ≤ 9223372036854775807) (need ((itoaB p0_e.Time).size + (⟨#[32]⟩ : ByteArray).size ≤ maxLen) (need (((itoaB p0_e.Time) ++ (⟨#[32]⟩)).size + p0_e.Kind.size ≤ maxLen) (need ((((itoaB p0_e.Time) ++ (⟨#[32]⟩)) ++ p0_e.Kind).size + (⟨#[32]⟩ : ByteArray).size ≤ maxLen) (need (((((itoaB p0_e.Time) ++ (⟨#[32]⟩)) ++ p0_e.Kind) ++ (⟨#[32]⟩)).size + p0_e.Name.size ≤ maxLen) (need ((((((itoaB p0_e.Time) ++ (⟨#[32]⟩)) ++ p0_e.Kind) ++ (⟨#[32]⟩)) ++ p0_e.Name).size + (⟨#[32]⟩ : ByteArray).size ≤ maxLen) (need (-9223372036854775808 ≤ p0_e.Value ∧ p0_e.Value ≤ 9223372036854775807) (need (((((((itoaB p0_e.Time) ++ (⟨#[32]⟩)) ++ p0_e.Kind) ++ (⟨#[32]⟩)) ++ p0_e.Name) ++ (⟨#[32]⟩)).size + (itoaB p0_e.Value).size ≤ maxLen) (some (((((((itoaB p0_e.Time) ++ (⟨#[32]⟩)) ++ p0_e.Kind) ++ (⟨#[32]⟩)) ++ p0_e.Name) ++ (⟨#[32]⟩)) ++ (itoaB p0_e.Value))))))))))

def m_archive_digest_b1 (k107 : Nat) (y119 : U8) (n112 : Int) (nx116 : Int → Option (Int)) : Option (Int) := nx116 (IntKind.u64.wrap ((IntKind.u64.wrap ((BitVec.ofInt (IntKind.u64).bits n112 ^^^ BitVec.ofInt (IntKind.u64).bits (IntKind.u64.wrap (y119.n))).toNat)) * 1099511628211))
def m_archive_digest (p0_n : Int) (line : ByteArray) : Option (Int) := need (line.size + (⟨#[10]⟩ : ByteArray).size ≤ maxLen) (need ((line ++ (⟨#[10]⟩)).size ≤ maxLen) (forI (fun k y s115 n => m_archive_digest_b1 k y s115 n) (fun s115 => some s115) 0 (bytesL (line ++ (⟨#[10]⟩))) p0_n))

def m_math_bits_Len64_b1 (n110 : Int) (n111 : Int) : Option (Int) := idx (bytesL (⟨#[0, 1, 2, 2, 3, 3, 3, 3, 4, 4, 4, 4, 4, 4, 4, 4, 5, 5, 5, 5, 5, 5, 5, 5, 5, 5, 5, 5, 5, 5, 5, 5, 6, 6, 6, 6, 6, 6, 6, 6, 6, 6, 6, 6, 6, 6, 6, 6, 6, 6, 6, 6, 6, 6, 6, 6, 6, 6, 6, 6, 6, 6, 6, 6, 7, 7, 7, 7, 7, 7, 7, 7, 7, 7, 7, 7, 7, 7, 7, 7, 7, 7, 7, 7, 7, 7, 7, 7, 7, 7, 7, 7, 7, 7, 7, 7, 7, 7, 7, 7, 7, 7, 7, 7, 7, 7, 7, 7, 7, 7, 7, 7, 7, 7, 7, 7, 7, 7, 7, 7, 7, 7, 7, 7, 7, 7, 7, 7, 8, 8, 8, 8, 8, 8, 8, 8, 8, 8, 8, 8, 8, 8, 8, 8, 8, 8, 8, 8, 8, 8, 8, 8, 8, 8, 8, 8, 8, 8, 8, 8, 8, 8, 8, 8, 8, 8, 8, 8, 8, 8, 8, 8, 8, 8, 8, 8, 8, 8, 8, 8, 8, 8, 8, 8, 8, 8, 8, 8, 8, 8, 8, 8, 8, 8, 8, 8, 8, 8, 8, 8, 8, 8, 8, 8, 8, 8, 8, 8, 8, 8, 8, 8, 8, 8, 8, 8, 8, 8, 8, 8, 8, 8, 8, 8, 8, 8, 8, 8, 8, 8, 8, 8, 8, 8, 8, 8, 8, 8, 8, 8, 8, 8, 8, 8, 8, 8, 8, 8, 8, 8, 8, 8, 8, 8, 8, 8]⟩)) (IntKind.u8.wrap (n110)) fun y113 => some (IntKind.i64.wrap (n111 + (IntKind.i64.wrap (y113.n))))
def m_math_bits_Len64_b2 (n106 : Int) (n107 : Int) : Option (Int) := if decide (256 ≤ n106) then (m_math_bits_Len64_b1 (shrV .u64 n106 8) (IntKind.i64.wrap (n107 + 8))) else (m_math_bits_Len64_b1 n106 n107)
def m_math_bits_Len64_b3 (n102 : Int) (n103 : Int) : Option (Int) := if decide (65536 ≤ n102) then (m_math_bits_Len64_b2 (shrV .u64 n102 16) (IntKind.i64.wrap (n103 + 16))) else (m_math_bits_Len64_b2 n102 n103)
def m_math_bits_Len64 (p0_x : Int) : Option (Int) := if decide (4294967296 ≤ p0_x) then (m_math_bits_Len64_b3 (shrV .u64 p0_x 32) 32) else (m_math_bits_Len64_b3 p0_x 0)

def m_internal_strconv_log10Pow2 (p0_x : Int) : Int := (shrV .i64 (IntKind.i64.wrap (p0_x * 78913)) 18)

def m_internal_strconv_bool2_int (p0_b : Bool) : Int := if p0_b then 1 else 0

def m_internal_strconv_numDigits (p0_d : Int) : Option (Int) := (m_math_bits_Len64 p0_d).bind fun r101 => idx gt3 (m_internal_strconv_log10Pow2 r101) fun y103 => some (IntKind.i64.wrap ((m_internal_strconv_log10Pow2 r101) + (m_internal_strconv_bool2_int (decide (y103 ≤ p0_d)))))

def m_internal_strconv_isPowerOfTwo (p0_x : Int) : Bool := (decide ((IntKind.i64.wrap ((BitVec.ofInt (IntKind.i64).bits p0_x &&& BitVec.ofInt (IntKind.i64).bits (IntKind.i64.wrap (p0_x - 1))).toNat)) = 0))

def m_math_bits_TrailingZeros64 (p0_x : Int) : Option (Int) := if decide (p0_x = 0) then (some 64) else (idx gt7 (shrV .u64 (IntKind.u64.wrap ((IntKind.u64.wrap ((BitVec.ofInt (IntKind.u64).bits p0_x &&& BitVec.ofInt (IntKind.u64).bits (IntKind.u64.wrap (0 - p0_x))).toNat)) * 285870213051353865)) 58) fun y102 => some (IntKind.i64.wrap (y102)))

def m_math_bits_TrailingZeros (p0_x : Int) : Option (Int) := (m_math_bits_TrailingZeros64 p0_x).bind fun r101 => some r101

def m_internal_strconv_formatBits_b7 (append_ : Bool) (n458 : Int) (l460 : List U8) : Option ((List U8) × ByteArray) := if append_ then none else (need (0 ≤ n458 ∧ n458 ≤ (65 : Int)) (some (([] : List U8), (bstr (l460.drop (n458 : Int).toNat)))))
def m_internal_strconv_formatBits_b8 (neg : Bool) (append_ : Bool) (n440 : Int) (l442 : List U8) : Option ((List U8) × ByteArray) := if neg then (idx l442 (IntKind.i64.wrap (n440 - 1)) fun y478 => m_internal_strconv_formatBits_b7 append_ (IntKind.i64.wrap (n440 - 1)) (l442.set ((IntKind.i64.wrap (n440 - 1) : Int).toNat) ⟨45⟩)) else (m_internal_strconv_formatBits_b7 append_ n440 l442)
def m_internal_strconv_formatBits_b10 (neg : Bool) (append_ : Bool) (n561 : Int) (n562 : Int) (l564 : List U8) : Option ((List U8) × ByteArray) := idx (bytesL (⟨#[48, 49, 50, 51, 52, 53, 54, 55, 56, 57, 97, 98, 99, 100, 101, 102, 103, 104, 105, 106, 107, 108, 109, 110, 111, 112, 113, 114, 115, 116, 117, 118, 119, 120, 121, 122]⟩)) n561 fun y570 => idx l564 (IntKind.i64.wrap (n562 - 1)) fun y573 => m_internal_strconv_formatBits_b8 neg append_ (IntKind.i64.wrap (n562 - 1)) (l564.set ((IntKind.i64.wrap (n562 - 1) : Int).toNat) y570)
def m_internal_strconv_formatBits_b11 (base : Int) (neg : Bool) (append_ : Bool) (r488 : (Int)) (n622 : Int) (n623 : Int) (l625 : List U8) (nx631 : (Int × Int × List U8) → Option ((List U8) × ByteArray)) : Option ((List U8) × ByteArray) := if decide ((IntKind.u64.wrap (base)) ≤ n622) then (idx (bytesL (⟨#[48, 49, 50, 51, 52, 53, 54, 55, 56, 57, 97, 98, 99, 100, 101, 102, 103, 104, 105, 106, 107, 108, 109, 110, 111, 112, 113, 114, 115, 116, 117, 118, 119, 120, 121, 122]⟩)) (IntKind.u64.wrap ((BitVec.ofInt (IntKind.u64).bits n622 &&& BitVec.ofInt (IntKind.u64).bits (IntKind.u64.wrap ((IntKind.u64.wrap (base)) - 1))).toNat)) fun y640 => idx l625 (IntKind.i64.wrap (n623 - 1)) fun y643 => need (0 ≤ (IntKind.u64.wrap (r488))) (nx631 (shrV .u64 n622 (IntKind.u64.wrap (r488)), IntKind.i64.wrap (n623 - 1), (l625.set ((IntKind.i64.wrap (n623 - 1) : Int).toNat) y640)))) else (m_internal_strconv_formatBits_b10 neg append_ n622 n623 l625)
def m_internal_strconv_formatBits_b13 (neg : Bool) (append_ : Bool) (n724 : Int) (n725 : Int) (l727 : List U8) : Option ((List U8) × ByteArray) := idx (bytesL (⟨#[48, 49, 50, 51, 52, 53, 54, 55, 56, 57, 97, 98, 99, 100, 101, 102, 103, 104, 105, 106, 107, 108, 109, 110, 111, 112, 113, 114, 115, 116, 117, 118, 119, 120, 121, 122]⟩)) n724 fun y733 => idx l727 (IntKind.i64.wrap (n725 - 1)) fun y736 => m_internal_strconv_formatBits_b8 neg append_ (IntKind.i64.wrap (n725 - 1)) (l727.set ((IntKind.i64.wrap (n725 - 1) : Int).toNat) y733)
def m_internal_strconv_formatBits_b14 (base : Int) (neg : Bool) (append_ : Bool) (n785 : Int) (n786 : Int) (l788 : List U8) (nx794 : (Int × Int × List U8) → Option ((List U8) × ByteArray)) : Option ((List U8) × ByteArray) := if decide ((IntKind.u64.wrap (base)) ≤ n785) then (need ((IntKind.u64.wrap (base)) ≠ 0) (idx (bytesL (⟨#[48, 49, 50, 51, 52, 53, 54, 55, 56, 57, 97, 98, 99, 100, 101, 102, 103, 104, 105, 106, 107, 108, 109, 110, 111, 112, 113, 114, 115, 116, 117, 118, 119, 120, 121, 122]⟩)) (IntKind.u64.wrap (n785 - (IntKind.u64.wrap ((IntKind.u64.wrap (Int.tdiv n785 (IntKind.u64.wrap (base)))) * (IntKind.u64.wrap (base)))))) fun y804 => idx l788 (IntKind.i64.wrap (n786 - 1)) fun y807 => nx794 (IntKind.u64.wrap (Int.tdiv n785 (IntKind.u64.wrap (base))), IntKind.i64.wrap (n786 - 1), (l788.set ((IntKind.i64.wrap (n786 - 1) : Int).toNat) y804)))) else (m_internal_strconv_formatBits_b13 neg append_ n785 n786 l788)
def m_internal_strconv_formatBits_b15 (base : Int) (neg : Bool) (append_ : Bool) (n109 : Int) : Option ((List U8) × ByteArray) := if (m_internal_strconv_isPowerOfTwo base) then ((m_math_bits_TrailingZeros (IntKind.u64.wrap (base))).bind fun r488 => loopF (fun s630 n => m_internal_strconv_formatBits_b11 base neg append_ r488 s630.1 s630.2.1 s630.2.2 n) FUEL (n109, 65, (List.replicate 65 (⟨0⟩ : U8)))) else (loopF (fun s793 n => m_internal_strconv_formatBits_b14 base neg append_ s793.1 s793.2.1 s793.2.2 n) FUEL (n109, 65, (List.replicate 65 (⟨0⟩ : U8))))
def m_internal_strconv_formatBits (dst : (List U8)) (p1_u : Int) (base : Int) (neg : Bool) (append_ : Bool) : Option ((List U8) × ByteArray) := if ((decide (base < 2)) || (decide (base = 10))) || (decide (36 < base)) then none else (if neg then (m_internal_strconv_formatBits_b15 base neg append_ (IntKind.u64.wrap (0 - p1_u))) else (m_internal_strconv_formatBits_b15 base neg append_ p1_u))

def m_internal_strconv_FormatUint (p0_i : Int) (base : Int) : Option (ByteArray) := if decide (base = 10) then (if decide (p0_i < 100) then none else ((m_internal_strconv_numDigits p0_i).bind fun r106 => none)) else ((m_internal_strconv_formatBits [] p0_i base false false).bind fun r108 => some r108.2)

def m_strconv_FormatUint (p0_i : Int) (base : Int) : Option (ByteArray) := (m_internal_strconv_FormatUint p0_i base).bind fun r101 => some r101

def m_archive_Archive_Text_b1 (k101 : Nat) (y139 : S_api_Event) (s130 : ByteArray) (n131 : Int) (nx135 : (ByteArray × Int) → Option (ByteArray)) : Option (ByteArray) := (m_archive_line y139).bind fun r147 => (m_archive_digest n131 r147).bind fun r149 => need (r147.size + (⟨#[32]⟩ : ByteArray).size ≤ maxLen) ((m_strconv_FormatUint r149 16).bind fun r152 => need ((r147 ++ (⟨#[32]⟩)).size + r152.size ≤ maxLen) (need (((r147 ++ (⟨#[32]⟩)) ++ r152).size + (⟨#[10]⟩ : ByteArray).size ≤ maxLen) (need (s130.size + (((r147 ++ (⟨#[32]⟩)) ++ r152) ++ (⟨#[10]⟩)).size ≤ maxLen) (nx135 (s130 ++ (((r147 ++ (⟨#[32]⟩)) ++ r152) ++ (⟨#[10]⟩)), r149)))))
def m_archive_Archive_Text (p0_a : S_archive_Archive) : Option (ByteArray) := forI (fun k y s134 n => m_archive_Archive_Text_b1 k y s134.1 s134.2 n) (fun s134 => some s134.1) 0 p0_a.all_ (⟨#[]⟩, 14695981039346656037)

def m_internal_stringslite_HasPrefix (p0_s : ByteArray) (p1_prefix : ByteArray) : Option (Bool) := if decide ((p1_prefix.size : Int) ≤ (p0_s.size : Int)) then (need (0 ≤ (p1_prefix.size : Int) ∧ (p1_prefix.size : Int) ≤ (p0_s.size : Int)) (some (decide ((p0_s.extract 0 (((p1_prefix.size : Int) : Int).toNat)) = p1_prefix)))) else (some false)

def m_strings_HasPrefix (p0_s : ByteArray) (p1_prefix : ByteArray) : Option (Bool) := (m_internal_stringslite_HasPrefix p0_s p1_prefix).bind fun r101 => some r101

def m_gridhallkeep4_archiveFact : Option (Bool) := optC (m_archive_New) (some false) (fun sp101 => (m_archive_Archive_Append sp101 (S_api_Event.mk 0 (⟨#[111, 112, 101, 110]⟩) (⟨#[83]⟩) 0)).bind fun r113 => if decide (r113.2.1 = 0) then (if decide (r113.1 = 1) then ((m_archive_Archive_Text r113.2.2).bind fun r121 => (m_strings_HasPrefix r121 (⟨#[48, 32, 111, 112, 101, 110, 32, 83, 32, 48, 32]⟩)).bind fun r123 => some r123) else (some false)) else (some false))

def m_archive_Archive_Between_b4 (nx203 : List S_api_Event → Option ((List S_api_Event))) (l232 : List S_api_Event) : Option ((List S_api_Event)) := nx203 l232
def m_archive_Archive_Between_b3 (p1_from : Int) (to : Int) (k101 : Nat) (y207 : S_api_Event) (l198 : List S_api_Event) (nx203 : List S_api_Event → Option ((List S_api_Event))) : Option ((List S_api_Event)) := if (decide (p1_from ≤ y207.Time)) && (decide (y207.Time < to)) then (need ((l198.length + ([y207]).length) * 48 ≤ 140737488355328) (m_archive_Archive_Between_b4 nx203 (l198 ++ ([y207])))) else (m_archive_Archive_Between_b4 nx203 l198)
def m_archive_Archive_Between (p0_a : S_archive_Archive) (p1_from : Int) (to : Int) : Option ((List S_api_Event)) := forI (fun k y s202 n => m_archive_Archive_Between_b3 p1_from to k y s202 n) (fun s202 => some s202) 0 p0_a.all_ ([] : List S_api_Event)

def m_slices_Concat_api_Event_api_Event_b2 (n112 : Int) (k134 : Nat) (y174 : (List S_api_Event)) (l165 : List S_api_Event) (nx171 : List S_api_Event → Option ((List S_api_Event))) : Option ((List S_api_Event)) := need (((l165.length + y174.length : Nat) : Int) ≤ n112) (nx171 (l165 ++ y174))
def m_slices_Concat_api_Event_api_Event_b1 (k101 : Nat) (y119 : (List S_api_Event)) (n112 : Int) (nx116 : Int → Option ((List S_api_Event))) : Option ((List S_api_Event)) := if decide ((IntKind.i64.wrap (n112 + (y119.length : Int))) < 0) then none else (nx116 (IntKind.i64.wrap (n112 + (y119.length : Int))))
def m_slices_Concat_api_Event_api_Event (slices : (List (List S_api_Event))) : Option ((List S_api_Event)) := forI (fun k y s115 n => m_slices_Concat_api_Event_api_Event_b1 k y s115 n) (fun s115 => need (0 ≤ s115 ∧ s115 * 48 ≤ 281474976710656) (forI (fun k y s170 n => m_slices_Concat_api_Event_api_Event_b2 s115 k y s170 n) (fun s170 => some s170) 0 slices ([] : List S_api_Event))) 0 slices 0

def m_archive_Archive_All (p0_a : S_archive_Archive) : Option ((List S_api_Event)) := need (p0_a.all_.length * 48 ≤ 140737488355328) (some p0_a.all_)

def m_slices_Equal_api_Event_api_Event_b1 (p0_s1 : (List S_api_Event)) (p1_s2 : (List S_api_Event)) (k102 : Nat) (nx132 : Unit → Option (Bool)) : Option (Bool) := idx p0_s1 (k102 : Int) fun y141 => idx p1_s2 (k102 : Int) fun y145 => if !(decide (y141.Time = y145.Time) && (decide (y141.Kind = y145.Kind) && (decide (y141.Name = y145.Name) && (decide (y141.Value = y145.Value) && true)))) then (some false) else (nx132 ())
def m_slices_Equal_api_Event_api_Event (p0_s1 : (List S_api_Event)) (p1_s2 : (List S_api_Event)) : Option (Bool) := if !decide ((p0_s1.length : Int) = (p1_s2.length : Int)) then (some false) else (forN (fun k s131 n => m_slices_Equal_api_Event_api_Event_b1 p0_s1 p1_s2 k n) (fun _ => some true) ((p0_s1.length : Int) : Int).toNat 0 ())

def m_gridhallkeep4_ArchiveParts_1 (p0_e : S_api_Event) (p1_c1 : Int) : Bool := (decide (p0_e.Time < p1_c1))

def m_slices_IndexFunc_api_Event_api_Event__gridhallkeep4_ArchiveParts_1_b1 (p0_s : (List S_api_Event)) (p1_f_0 : Int) (k101 : Nat) (nx115 : Unit → Option (Int)) : Option (Int) := idx p0_s (k101 : Int) fun y124 => if (m_gridhallkeep4_ArchiveParts_1 y124 p1_f_0) then (some (k101 : Int)) else (nx115 ())
def m_slices_IndexFunc_api_Event_api_Event__gridhallkeep4_ArchiveParts_1 (p0_s : (List S_api_Event)) (p1_f_0 : Int) : Option (Int) := forN (fun k s114 n => m_slices_IndexFunc_api_Event_api_Event__gridhallkeep4_ArchiveParts_1_b1 p0_s p1_f_0 k n) (fun _ => some (-1)) ((p0_s.length : Int) : Int).toNat 0 ()

def m_slices_ContainsFunc_api_Event_api_Event__gridhallkeep4_ArchiveParts_1 (p0_s : (List S_api_Event)) (p1_f_0 : Int) : Option (Bool) := (m_slices_IndexFunc_api_Event_api_Event__gridhallkeep4_ArchiveParts_1 p0_s p1_f_0).bind fun r101 => some (decide (0 ≤ r101))

def m_gridhallkeep4_ArchiveParts (p0_l : (List S_api_Event)) (p1_t : Int) : Option (Bool) := (m_gridhallkeep4_archiveOf p0_l).bind fun r102 => optC r102 (some false) (fun sp104 => (m_gridhallkeep4_archiveFact).bind fun r116 => if !r116 then (some false) else ((m_gridhallref4_Cut p1_t 0 700).bind fun r119 => (m_archive_Archive_Between sp104 0 r119).bind fun r121 => (m_archive_Archive_Between sp104 r119 200001).bind fun r131 => (m_slices_Concat_api_Event_api_Event ([r121, r131])).bind fun r145 => (m_archive_Archive_All sp104).bind fun r150 => (m_slices_Equal_api_Event_api_Event r145 r150).bind fun r155 => if r155 then ((m_slices_ContainsFunc_api_Event_api_Event__gridhallkeep4_ArchiveParts_1 r131 r119).bind fun r158 => some (!r158)) else (some false)))
end Go.Sim
