/-
  Printed by a program: the models of the Go functions.
-/
import Derived.Test.YthcolhlbmcbdjaaSimX
import Derived.Laws.Bits64b
namespace Go.Sim
open Go
set_option linter.unusedVariables false
structure S_console_form where
  verb : ByteArray
  name : Bool
  n : Bool
  low_ : Int
  high_ : Int
  deriving DecidableEq
instance : Rep S_console_form where
  sz := 5
  E H cs x := cs = [.string (x.verb), .bool (x.name), .bool (x.n), .int .i64 (x.low_), .int .i64 (x.high_)]
  len h := by obtain rfl := h; rfl
  mono hle h := by obtain rfl := h; exact rfl
  one h := by obtain rfl := h; exact (all_cons rfl (all_cons rfl (all_cons rfl (all_cons rfl (all_cons rfl all_nil)))))
instance : Flat S_console_form := ⟨fun h => h⟩
structure S_A8_S_console_form where
  a0 : S_console_form
  a1 : S_console_form
  a2 : S_console_form
  a3 : S_console_form
  a4 : S_console_form
  a5 : S_console_form
  a6 : S_console_form
  a7 : S_console_form
  deriving DecidableEq
instance : Rep S_A8_S_console_form where
  sz := 40
  E H cs x := cs = [.string (x.a0.verb), .bool (x.a0.name), .bool (x.a0.n), .int .i64 (x.a0.low_), .int .i64 (x.a0.high_), .string (x.a1.verb), .bool (x.a1.name), .bool (x.a1.n), .int .i64 (x.a1.low_), .int .i64 (x.a1.high_), .string (x.a2.verb), .bool (x.a2.name), .bool (x.a2.n), .int .i64 (x.a2.low_), .int .i64 (x.a2.high_), .string (x.a3.verb), .bool (x.a3.name), .bool (x.a3.n), .int .i64 (x.a3.low_), .int .i64 (x.a3.high_), .string (x.a4.verb), .bool (x.a4.name), .bool (x.a4.n), .int .i64 (x.a4.low_), .int .i64 (x.a4.high_), .string (x.a5.verb), .bool (x.a5.name), .bool (x.a5.n), .int .i64 (x.a5.low_), .int .i64 (x.a5.high_), .string (x.a6.verb), .bool (x.a6.name), .bool (x.a6.n), .int .i64 (x.a6.low_), .int .i64 (x.a6.high_), .string (x.a7.verb), .bool (x.a7.name), .bool (x.a7.n), .int .i64 (x.a7.low_), .int .i64 (x.a7.high_)]
  len h := by obtain rfl := h; rfl
  mono hle h := by obtain rfl := h; exact rfl
  one h := by obtain rfl := h; exact (all_cons rfl (all_cons rfl (all_cons rfl (all_cons rfl (all_cons rfl (all_cons rfl (all_cons rfl (all_cons rfl (all_cons rfl (all_cons rfl (all_cons rfl (all_cons rfl (all_cons rfl (all_cons rfl (all_cons rfl (all_cons rfl (all_cons rfl (all_cons rfl (all_cons rfl (all_cons rfl (all_cons rfl (all_cons rfl (all_cons rfl (all_cons rfl (all_cons rfl (all_cons rfl (all_cons rfl (all_cons rfl (all_cons rfl (all_cons rfl (all_cons rfl (all_cons rfl (all_cons rfl (all_cons rfl (all_cons rfl (all_cons rfl (all_cons rfl (all_cons rfl (all_cons rfl (all_cons rfl all_nil))))))))))))))))))))))))))))))))))))))))
instance : Flat S_A8_S_console_form := ⟨fun h => h⟩

def m_console_forms : S_A8_S_console_form := (S_A8_S_console_form.mk (S_console_form.mk (⟨#[111, 112, 101, 110]⟩) true false 0 0) (S_console_form.mk (⟨#[99, 108, 111, 115, 101]⟩) true false 0 0) (S_console_form.mk (⟨#[97, 99, 107]⟩) true false 0 0) (S_console_form.mk (⟨#[108, 111, 97, 100]⟩) true true 0 100000) (S_console_form.mk (⟨#[103, 101, 110]⟩) true true 0 100000) (S_console_form.mk (⟨#[115, 116, 111, 114, 101]⟩) true true ((-100000)) 100000) (S_console_form.mk (⟨#[119, 97, 105, 116]⟩) false true 0 3600) (S_console_form.mk (⟨#[116, 101, 108, 108]⟩) false false 0 0))

def m_internal_stringslite_HasPrefix (p0_s : ByteArray) (p1_prefix : ByteArray) : Option (Bool) := if decide ((p1_prefix.size : Int) ≤ (p0_s.size : Int)) then (need (0 ≤ (p1_prefix.size : Int) ∧ (p1_prefix.size : Int) ≤ (p0_s.size : Int)) (some (decide ((p0_s.extract 0 (((p1_prefix.size : Int) : Int).toNat)) = p1_prefix)))) else (some false)

def m_strings_HasPrefix (p0_s : ByteArray) (p1_prefix : ByteArray) : Option (Bool) := (m_internal_stringslite_HasPrefix p0_s p1_prefix).bind fun r101 => some r101

def m_math_bits_Len64_b1 (n110 : Int) (n111 : Int) : Option (Int) := idx (bytesL (⟨#[0, 1, 2, 2, 3, 3, 3, 3, 4, 4, 4, 4, 4, 4, 4, 4, 5, 5, 5, 5, 5, 5, 5, 5, 5, 5, 5, 5, 5, 5, 5, 5, 6, 6, 6, 6, 6, 6, 6, 6, 6, 6, 6, 6, 6, 6, 6, 6, 6, 6, 6, 6, 6, 6, 6, 6, 6, 6, 6, 6, 6, 6, 6, 6, 7, 7, 7, 7, 7, 7, 7, 7, 7, 7, 7, 7, 7, 7, 7, 7, 7, 7, 7, 7, 7, 7, 7, 7, 7, 7, 7, 7, 7, 7, 7, 7, 7, 7, 7, 7, 7, 7, 7, 7, 7, 7, 7, 7, 7, 7, 7, 7, 7, 7, 7, 7, 7, 7, 7, 7, 7, 7, 7, 7, 7, 7, 7, 7, 8, 8, 8, 8, 8, 8, 8, 8, 8, 8, 8, 8, 8, 8, 8, 8, 8, 8, 8, 8, 8, 8, 8, 8, 8, 8, 8, 8, 8, 8, 8, 8, 8, 8, 8, 8, 8, 8, 8, 8, 8, 8, 8, 8, 8, 8, 8, 8, 8, 8, 8, 8, 8, 8, 8, 8, 8, 8, 8, 8, 8, 8, 8, 8, 8, 8, 8, 8, 8, 8, 8, 8, 8, 8, 8, 8, 8, 8, 8, 8, 8, 8, 8, 8, 8, 8, 8, 8, 8, 8, 8, 8, 8, 8, 8, 8, 8, 8, 8, 8, 8, 8, 8, 8, 8, 8, 8, 8, 8, 8, 8, 8, 8, 8, 8, 8, 8, 8, 8, 8, 8, 8, 8, 8, 8, 8, 8, 8]⟩)) (IntKind.u8.wrap (n110)) fun y113 => some (IntKind.i64.wrap (n111 + (IntKind.i64.wrap (y113.n))))
def m_math_bits_Len64_b2 (n106 : Int) (n107 : Int) : Option (Int) := if decide (256 ≤ n106) then (m_math_bits_Len64_b1 (shrV .u64 n106 8) (IntKind.i64.wrap (n107 + 8))) else (m_math_bits_Len64_b1 n106 n107)
def m_math_bits_Len64_b3 (n102 : Int) (n103 : Int) : Option (Int) := if decide (65536 ≤ n102) then (m_math_bits_Len64_b2 (shrV .u64 n102 16) (IntKind.i64.wrap (n103 + 16))) else (m_math_bits_Len64_b2 n102 n103)
def m_math_bits_Len64 (p0_x : Int) : Option (Int) := if decide (4294967296 ≤ p0_x) then (m_math_bits_Len64_b3 (shrV .u64 p0_x 32) 32) else (m_math_bits_Len64_b3 p0_x 0)

def m_math_bits_Len (p0_x : Int) : Option (Int) := (m_math_bits_Len64 p0_x).bind fun r101 => some r101

def m_cmp_isNaN_string (p0_x : ByteArray) : Bool := (!decide (p0_x = p0_x))

def m_cmp_Less_string (p0_x : ByteArray) (p1_y : ByteArray) : Bool := (((m_cmp_isNaN_string p0_x) && (!(m_cmp_isNaN_string p1_y))) || (ltS p0_x p1_y))

def m_slices_insertionSortOrdered_string_b4 (p1_a : Int) (n445 : Int) (nx449 : (List ByteArray × Int) → Option ((List ByteArray))) (l562 : List ByteArray) (n564 : Int) (nx568 : (List ByteArray × Int) → Option ((List ByteArray))) : Option ((List ByteArray)) := if decide (p1_a < n564) then (idx l562 n564 fun y579 => idx l562 (IntKind.i64.wrap (n564 - 1)) fun y583 => if (m_cmp_Less_string y579 y583) then (idx l562 (IntKind.i64.wrap (n564 - 1)) fun y590 => idx l562 n564 fun y594 => idx l562 n564 fun y598 => idx (l562.set ((n564 : Int).toNat) y590) (IntKind.i64.wrap (n564 - 1)) fun y612 => nx568 (((l562.set ((n564 : Int).toNat) y590).set ((IntKind.i64.wrap (n564 - 1) : Int).toNat) y594), IntKind.i64.wrap (n564 - 1))) else (nx449 (l562, IntKind.i64.wrap (n445 + 1)))) else (nx449 (l562, IntKind.i64.wrap (n445 + 1)))
def m_slices_insertionSortOrdered_string_b3 (p1_a : Int) (p2_b : Int) (l443 : List ByteArray) (n445 : Int) (nx449 : (List ByteArray × Int) → Option ((List ByteArray))) : Option ((List ByteArray)) := if decide (n445 < p2_b) then (loopF (fun s567 n => m_slices_insertionSortOrdered_string_b4 p1_a n445 nx449 s567.1 s567.2 n) FUEL (l443, n445)) else (some l443)
def m_slices_insertionSortOrdered_string (data : (List ByteArray)) (p1_a : Int) (p2_b : Int) : Option ((List ByteArray)) := loopF (fun s448 n => m_slices_insertionSortOrdered_string_b3 p1_a p2_b s448.1 s448.2 n) FUEL (data, IntKind.i64.wrap (p1_a + 1))

def m_slices_pdqsortOrdered_string_b4 : Option ((List ByteArray)) := none
def m_slices_pdqsortOrdered_string_b3 (data : (List ByteArray)) (p1_a : Int) (p2_b : Int) (limit : Int) (nx120 : Unit → Option ((List ByteArray))) : Option ((List ByteArray)) := if decide ((IntKind.i64.wrap (p2_b - p1_a)) ≤ 12) then ((m_slices_insertionSortOrdered_string data p1_a p2_b).bind fun r129 => some r129) else (if decide (limit = 0) then none else m_slices_pdqsortOrdered_string_b4)
def m_slices_pdqsortOrdered_string (data : (List ByteArray)) (p1_a : Int) (p2_b : Int) (limit : Int) : Option ((List ByteArray)) := loopF (fun s119 n => m_slices_pdqsortOrdered_string_b3 data p1_a p2_b limit n) FUEL ()

def m_slices_Sort_string_string (p0_x : (List ByteArray)) : Option ((List ByteArray)) := (m_math_bits_Len (IntKind.u64.wrap ((p0_x.length : Int)))).bind fun r101 => (m_slices_pdqsortOrdered_string p0_x 0 (p0_x.length : Int) r101).bind fun r103 => some r103

def m_console_Complete_b4 (nx207 : List ByteArray → Option ((List ByteArray))) (l236 : List ByteArray) : Option ((List ByteArray)) := nx207 l236
def m_console_Complete_b3 (p0_s : ByteArray) (k101 : Nat) (l202 : List ByteArray) (nx207 : List ByteArray → Option ((List ByteArray))) : Option ((List ByteArray)) := idx ([(S_console_form.mk (((m_console_forms)).a0.verb) (((m_console_forms)).a0.name) (((m_console_forms)).a0.n) (((m_console_forms)).a0.low_) (((m_console_forms)).a0.high_)), (S_console_form.mk (((m_console_forms)).a1.verb) (((m_console_forms)).a1.name) (((m_console_forms)).a1.n) (((m_console_forms)).a1.low_) (((m_console_forms)).a1.high_)), (S_console_form.mk (((m_console_forms)).a2.verb) (((m_console_forms)).a2.name) (((m_console_forms)).a2.n) (((m_console_forms)).a2.low_) (((m_console_forms)).a2.high_)), (S_console_form.mk (((m_console_forms)).a3.verb) (((m_console_forms)).a3.name) (((m_console_forms)).a3.n) (((m_console_forms)).a3.low_) (((m_console_forms)).a3.high_)), (S_console_form.mk (((m_console_forms)).a4.verb) (((m_console_forms)).a4.name) (((m_console_forms)).a4.n) (((m_console_forms)).a4.low_) (((m_console_forms)).a4.high_)), (S_console_form.mk (((m_console_forms)).a5.verb) (((m_console_forms)).a5.name) (((m_console_forms)).a5.n) (((m_console_forms)).a5.low_) (((m_console_forms)).a5.high_)), (S_console_form.mk (((m_console_forms)).a6.verb) (((m_console_forms)).a6.name) (((m_console_forms)).a6.n) (((m_console_forms)).a6.low_) (((m_console_forms)).a6.high_)), (S_console_form.mk (((m_console_forms)).a7.verb) (((m_console_forms)).a7.name) (((m_console_forms)).a7.n) (((m_console_forms)).a7.low_) (((m_console_forms)).a7.high_))] : List S_console_form) (k101 : Int) fun y241 => (m_strings_HasPrefix y241.verb p0_s).bind fun r245 => if r245 then (need ((l202.length + ([y241.verb]).length) * 16 ≤ 140737488355328) (m_console_Complete_b4 nx207 (l202 ++ ([y241.verb])))) else (m_console_Complete_b4 nx207 l202)
def m_console_Complete (p0_s : ByteArray) : Option ((List ByteArray)) := forN (fun k s206 n => m_console_Complete_b3 p0_s k s206 n) (fun s206 => (m_slices_Sort_string_string s206).bind fun r259 => some r259) (8 : Int).toNat 0 ([] : List ByteArray)

def m_slices_IsSorted_string_string_b1 (p0_x : (List ByteArray)) (n131 : Int) (nx135 : Int → Option (Bool)) : Option (Bool) := if decide (0 < n131) then (idx p0_x n131 fun y144 => idx p0_x (IntKind.i64.wrap (n131 - 1)) fun y148 => if (m_cmp_Less_string y144 y148) then (some false) else (nx135 (IntKind.i64.wrap (n131 - 1)))) else (some true)
def m_slices_IsSorted_string_string (p0_x : (List ByteArray)) : Option (Bool) := loopF (fun s134 n => m_slices_IsSorted_string_string_b1 p0_x s134 n) FUEL (IntKind.i64.wrap ((p0_x.length : Int) - 1))

def m_slices_Equal_string_string_b1 (p0_s1 : (List ByteArray)) (p1_s2 : (List ByteArray)) (k102 : Nat) (nx132 : Unit → Option (Bool)) : Option (Bool) := idx p0_s1 (k102 : Int) fun y141 => idx p1_s2 (k102 : Int) fun y145 => if !decide (y141 = y145) then (some false) else (nx132 ())
def m_slices_Equal_string_string (p0_s1 : (List ByteArray)) (p1_s2 : (List ByteArray)) : Option (Bool) := if !decide ((p0_s1.length : Int) = (p1_s2.length : Int)) then (some false) else (forN (fun k s131 n => m_slices_Equal_string_string_b1 p0_s1 p1_s2 k n) (fun _ => some true) ((p0_s1.length : Int) : Int).toNat 0 ())

def m_gridhallkeep4_ConsoleCompletes_b4 (nx204 : List ByteArray → Option (Bool)) (l231 : List ByteArray) : Option (Bool) := nx204 l231
def m_gridhallkeep4_ConsoleCompletes_b3 (p0_s : ByteArray) (k110 : Nat) (y208 : ByteArray) (l199 : List ByteArray) (nx204 : List ByteArray → Option (Bool)) : Option (Bool) := (m_strings_HasPrefix y208 p0_s).bind fun r237 => if r237 then (need ((l199.length + ([y208]).length) * 16 ≤ 140737488355328) (m_gridhallkeep4_ConsoleCompletes_b4 nx204 (l199 ++ ([y208])))) else (m_gridhallkeep4_ConsoleCompletes_b4 nx204 l199)
def m_gridhallkeep4_ConsoleCompletes (p0_s : ByteArray) : Option (Bool) := (m_console_Complete (⟨#[]⟩)).bind fun r101 => if decide ((r101.length : Int) = 8) then ((m_slices_IsSorted_string_string r101).bind fun r107 => if !r107 then (some false) else (forI (fun k y s203 n => m_gridhallkeep4_ConsoleCompletes_b3 p0_s k y s203 n) (fun s203 => (m_console_Complete p0_s).bind fun r251 => (m_slices_Equal_string_string r251 s203).bind fun r256 => some r256) 0 r101 ([] : List ByteArray))) else (some false)
end Go.Sim
