/-
  Printed by a program: the models of the Go functions.
-/
import Derived.Test.YtogalpcheddenaaSimX
import Derived.Laws.Bits64b
namespace Go.Sim
open Go
set_option linter.unusedVariables false
structure S_api_PermitPaper where
  Number : Int
  Holder : ByteArray
  Devices : (List ByteArray)
  deriving DecidableEq
instance : Rep S_api_PermitPaper where
  sz := 3
  E H cs x := ∃ v2 : Value, cs = [.int .i64 (x.Number), .string (x.Holder), v2] ∧ RdS H v2 x.Devices
  len h := by obtain ⟨v2, rfl, h0⟩ := h; rfl
  mono hle h := by obtain ⟨v2, rfl, h0⟩ := h; exact ⟨v2, rfl, h0.mono hle⟩
  one h := by obtain ⟨v2, rfl, h0⟩ := h; exact (all_cons rfl (all_cons rfl (all_cons (RdS.one1 h0) all_nil)))
structure S_permit_Desk where
  devices : (List ByteArray)
  papers : (List S_api_PermitPaper)
  last : Int
  deriving DecidableEq
instance : Rep S_permit_Desk where
  sz := 3
  E H cs x := ∃ v0 : Value, ∃ v1 : Value, cs = [v0, v1, .int .i64 (x.last)] ∧ RdS H v0 x.devices ∧ RdS H v1 x.papers
  len h := by obtain ⟨v0, v1, rfl, h0, h1⟩ := h; rfl
  mono hle h := by obtain ⟨v0, v1, rfl, h0, h1⟩ := h; exact ⟨v0, v1, rfl, h0.mono hle, h1.mono hle⟩
  one h := by obtain ⟨v0, v1, rfl, h0, h1⟩ := h; exact (all_cons (RdS.one1 h0) (all_cons (RdS.one1 h1) (all_cons rfl all_nil)))

def m_netmodel_Name_b1 (k106 : Nat) (y143 : U8) (nx140 : Unit → Option (Bool)) : Option (Bool) := if !(((decide (65 ≤ y143.n)) && (decide (y143.n ≤ 90))) || (((decide (0 < (k106 : Int))) && (decide (48 ≤ y143.n))) && (decide (y143.n ≤ 57)))) then (some false) else (nx140 ())
def m_netmodel_Name (p0_s : ByteArray) : Option (Bool) := need (p0_s.size ≤ maxLen) (forI (fun k y s139 n => m_netmodel_Name_b1 k y n) (fun _ => some ((decide (1 ≤ (p0_s.size : Int))) && (decide ((p0_s.size : Int) ≤ 8)))) 0 (bytesL p0_s) ())

def m_slices_Index_string_string_b1 (p0_s : (List ByteArray)) (p1_v : ByteArray) (k101 : Nat) (nx115 : Unit → Option (Int)) : Option (Int) := idx p0_s (k101 : Int) fun y124 => if decide (p1_v = y124) then (some ((k101 : Int))) else (nx115 ())
def m_slices_Index_string_string (p0_s : (List ByteArray)) (p1_v : ByteArray) : Option (Int) := forN (fun k s114 n => m_slices_Index_string_string_b1 p0_s p1_v k n) (fun _ => some ((-1))) ((p0_s.length : Int) : Int).toNat 0 ()

def m_slices_Contains_string_string (p0_s : (List ByteArray)) (p1_v : ByteArray) : Option (Bool) := (m_slices_Index_string_string p0_s p1_v).bind fun r101 => some (decide (0 ≤ r101))

def m_permit_Check_b1 (p0_l : (List ByteArray)) (k102 : Nat) (y131 : ByteArray) (nx128 : Unit → Option (Int)) : Option (Int) := (m_netmodel_Name y131).bind fun r138 => if !r138 then (some 6) else (need (0 ≤ (k102 : Int) ∧ (k102 : Int) ≤ (p0_l.length : Int)) ((m_slices_Contains_string_string (slc p0_l 0 (((k102 : Int) : Int).toNat)) y131).bind fun r145 => if r145 then (some 7) else (nx128 ())))
def m_permit_Check (p0_l : (List ByteArray)) : Option (Int) := if decide (256 < (p0_l.length : Int)) then (some 2) else (forI (fun k y s127 n => m_permit_Check_b1 p0_l k y n) (fun _ => some 0) 0 p0_l ())

def m_permit_New (devices : (List ByteArray)) : Option ((Option S_permit_Desk) × Int) := (m_permit_Check devices).bind fun r101 => if !decide (r101 = 0) then (some (none, r101)) else (need (devices.length * 16 ≤ 140737488355328) (some ((some (S_permit_Desk.mk devices ([] : List S_api_PermitPaper) 0)), 0)))

def m_permit_Desk_Issue_1 (p0_s : ByteArray) (p1_c1 : S_permit_Desk) : Option (Bool) := (m_slices_Contains_string_string p1_c1.devices p0_s).bind fun r101 => some (!r101)

def m_slices_IndexFunc_string_string__permit_Desk_Issue_1_b1 (p0_s : (List ByteArray)) (p1_f_0 : S_permit_Desk) (k101 : Nat) (nx119 : Unit → Option (Int)) : Option (Int) := idx p0_s (k101 : Int) fun y128 => (m_permit_Desk_Issue_1 y128 p1_f_0).bind fun r132 => if r132 then (some ((k101 : Int))) else (nx119 ())
def m_slices_IndexFunc_string_string__permit_Desk_Issue_1 (p0_s : (List ByteArray)) (p1_f_0 : S_permit_Desk) : Option (Int) := forN (fun k s118 n => m_slices_IndexFunc_string_string__permit_Desk_Issue_1_b1 p0_s p1_f_0 k n) (fun _ => some ((-1))) ((p0_s.length : Int) : Int).toNat 0 ()

def m_slices_ContainsFunc_string_string__permit_Desk_Issue_1 (p0_s : (List ByteArray)) (p1_f_0 : S_permit_Desk) : Option (Bool) := (m_slices_IndexFunc_string_string__permit_Desk_Issue_1 p0_s p1_f_0).bind fun r101 => some (decide (0 ≤ r101))

def m_permit_Desk_Issue (p0_d : S_permit_Desk) (holder : ByteArray) (devices : (List ByteArray)) : Option (Int × Int × S_permit_Desk) := (m_netmodel_Name holder).bind fun r102 => if !r102 then (some (0, 6, p0_d)) else ((m_permit_Check devices).bind fun r105 => if !decide (r105 = 0) then (some (0, r105, p0_d)) else ((m_slices_ContainsFunc_string_string__permit_Desk_Issue_1 devices p0_d).bind fun r108 => if r108 then (some (0, 8, p0_d)) else (if decide ((devices.length : Int) = 0) then (some (0, 3, p0_d)) else (if decide (12 < (devices.length : Int)) then (some (0, 2, p0_d)) else (if decide ((p0_d.papers.length : Int) = 20) then (some (0, 9, p0_d)) else (need (devices.length * 16 ≤ 140737488355328) (need ((p0_d.papers.length + ([(S_api_PermitPaper.mk (IntKind.i64.wrap (p0_d.last + 1)) holder devices)]).length) * 48 ≤ 140737488355328) (some ((IntKind.i64.wrap (p0_d.last + 1)), 0, (S_permit_Desk.mk p0_d.devices (p0_d.papers ++ ([(S_api_PermitPaper.mk (IntKind.i64.wrap (p0_d.last + 1)) holder devices)])) (IntKind.i64.wrap (p0_d.last + 1))))))))))))

def m_permit_Desk_Tags_b4 (nx210 : List Int → Option ((List Int) × Int)) (l240 : List Int) : Option ((List Int) × Int) := nx210 l240
def m_permit_Desk_Tags_b3 (device : ByteArray) (k104 : Nat) (y214 : S_api_PermitPaper) (l205 : List Int) (nx210 : List Int → Option ((List Int) × Int)) : Option ((List Int) × Int) := (m_slices_Contains_string_string y214.Devices device).bind fun r249 => if r249 then (need ((l205.length + ([y214.Number]).length) * 8 ≤ 140737488355328) (m_permit_Desk_Tags_b4 nx210 (l205 ++ ([y214.Number])))) else (m_permit_Desk_Tags_b4 nx210 l205)
def m_permit_Desk_Tags (p0_d : S_permit_Desk) (device : ByteArray) : Option ((List Int) × Int) := (m_slices_Contains_string_string p0_d.devices device).bind fun r101 => if !r101 then (some (([] : List Int), 8)) else (forI (fun k y s209 n => m_permit_Desk_Tags_b3 device k y s209 n) (fun s209 => some (s209, 0)) 0 p0_d.papers ([] : List Int))

def m_permit_Desk_Held_b4 (nx207 : List ByteArray → Option ((List ByteArray))) (l236 : List ByteArray) : Option ((List ByteArray)) := nx207 l236
def m_permit_Desk_Held_b3 (p0_d : S_permit_Desk) (k101 : Nat) (y210 : ByteArray) (l202 : List ByteArray) (nx207 : List ByteArray → Option ((List ByteArray))) : Option ((List ByteArray)) := (m_permit_Desk_Tags p0_d y210).bind fun r242 => if decide (0 < (r242.1.length : Int)) then (need ((l202.length + ([y210]).length) * 16 ≤ 140737488355328) (m_permit_Desk_Held_b4 nx207 (l202 ++ ([y210])))) else (m_permit_Desk_Held_b4 nx207 l202)
def m_permit_Desk_Held (p0_d : S_permit_Desk) : Option ((List ByteArray)) := forI (fun k y s206 n => m_permit_Desk_Held_b3 p0_d k y s206 n) (fun s206 => some s206) 0 p0_d.devices ([] : List ByteArray)

def m_slices_Equal_string_string_b1 (p0_s1 : (List ByteArray)) (p1_s2 : (List ByteArray)) (k102 : Nat) (nx132 : Unit → Option (Bool)) : Option (Bool) := idx p0_s1 (k102 : Int) fun y141 => idx p1_s2 (k102 : Int) fun y145 => if !decide (y141 = y145) then (some false) else (nx132 ())
def m_slices_Equal_string_string (p0_s1 : (List ByteArray)) (p1_s2 : (List ByteArray)) : Option (Bool) := if !decide ((p0_s1.length : Int) = (p1_s2.length : Int)) then (some false) else (forN (fun k s131 n => m_slices_Equal_string_string_b1 p0_s1 p1_s2 k n) (fun _ => some true) ((p0_s1.length : Int) : Int).toNat 0 ())

def m_gridhallkeep4_permitFact : Option (Bool) := (m_permit_New ([(⟨#[65]⟩), (⟨#[66]⟩)])).bind fun r107 => optC r107.1 (some false) (fun sp109 => if !decide (r107.2 = 0) then (some false) else ((m_permit_Desk_Issue sp109 (⟨#[84, 69, 65, 77]⟩) ([(⟨#[66]⟩)])).bind fun r135 => if decide (r135.2.1 = 0) then (if decide (r135.1 = 1) then ((m_permit_Desk_Held r135.2.2).bind fun r147 => (m_slices_Equal_string_string r147 ([(⟨#[66]⟩)])).bind fun r155 => some r155) else (some false)) else (some false)))

def m_permit_Desk_Papers_b1 (k105 : Nat) (l166 : List S_api_PermitPaper) (nx171 : List S_api_PermitPaper → Option ((List S_api_PermitPaper))) : Option ((List S_api_PermitPaper)) := idx l166 (k105 : Int) fun y181 => need (y181.Devices.length * 16 ≤ 140737488355328) (idx l166 (k105 : Int) fun y191 => nx171 (l166.set (((k105 : Int) : Int).toNat) (S_api_PermitPaper.mk y191.Number y191.Holder y181.Devices)))
def m_permit_Desk_Papers (p0_d : S_permit_Desk) : Option ((List S_api_PermitPaper)) := need (p0_d.papers.length * 48 ≤ 140737488355328) (forN (fun k s170 n => m_permit_Desk_Papers_b1 k s170 n) (fun s170 => some s170) ((p0_d.papers.length : Int) : Int).toNat 0 p0_d.papers)

def m_permit_Desk_find_1 (p0_p : S_api_PermitPaper) (p1_c1 : Int) : Bool := (decide (p0_p.Number = p1_c1))

def m_slices_IndexFunc_api_PermitPaper_api_PermitPaper__permit_Desk_find_1_b1 (p0_s : (List S_api_PermitPaper)) (p1_f_0 : Int) (k101 : Nat) (nx119 : Unit → Option (Int)) : Option (Int) := idx p0_s (k101 : Int) fun y128 => if (m_permit_Desk_find_1 y128 p1_f_0) then (some ((k101 : Int))) else (nx119 ())
def m_slices_IndexFunc_api_PermitPaper_api_PermitPaper__permit_Desk_find_1 (p0_s : (List S_api_PermitPaper)) (p1_f_0 : Int) : Option (Int) := forN (fun k s118 n => m_slices_IndexFunc_api_PermitPaper_api_PermitPaper__permit_Desk_find_1_b1 p0_s p1_f_0 k n) (fun _ => some ((-1))) ((p0_s.length : Int) : Int).toNat 0 ()

def m_permit_Desk_find (p0_d : S_permit_Desk) (number : Int) (holder : ByteArray) : Option (Int × Int) := (m_slices_IndexFunc_api_PermitPaper_api_PermitPaper__permit_Desk_find_1 p0_d.papers number).bind fun r102 => if decide (r102 < 0) then (some (0, 8)) else (idx p0_d.papers r102 fun y105 => if !decide (y105.Holder = holder) then (some (0, 18)) else (some (r102, 0)))

def m_permit_Desk_Return (p0_d : S_permit_Desk) (number : Int) (holder : ByteArray) : Option (Int × S_permit_Desk) := (m_permit_Desk_find p0_d number holder).bind fun r101 => if !decide (r101.2 = 0) then (some (r101.2, p0_d)) else (need (0 ≤ r101.1 ∧ r101.1 < (IntKind.i64.wrap (r101.1 + 1)) ∧ (IntKind.i64.wrap (r101.1 + 1)) ≤ (p0_d.papers.length : Int)) (some (0, (S_permit_Desk.mk p0_d.devices (p0_d.papers.take (r101.1).toNat ++ p0_d.papers.drop (IntKind.i64.wrap (r101.1 + 1)).toNat) p0_d.last))))

def m_gridhallkeep4_PermitGone_b5 (devices : (List ByteArray)) (k375 : Nat) (y475 : S_api_PermitPaper) (l461 : (List ByteArray)) (l465 : List S_api_PermitPaper) (n467 : Int) (nx471 : ((List ByteArray) × List S_api_PermitPaper × Int) → Option (Bool)) : Option (Bool) := (m_permit_Desk_Held (S_permit_Desk.mk l461 l465 n467)).bind fun r485 => if decide ((r485.length : Int) = 0) then (some false) else ((m_permit_Desk_Return (S_permit_Desk.mk l461 l465 n467) y475.Number y475.Holder).bind fun r491 => if decide (r491.1 = 0) then ((m_permit_Desk_Return r491.2 y475.Number y475.Holder).bind fun r502 => if !decide (r502.1 = 8) then (some false) else (nx471 (r502.2.devices, r502.2.papers, r502.2.last))) else (some false))
def m_gridhallkeep4_PermitGone_b6 (devices : (List ByteArray)) (l358 : (List ByteArray)) (l362 : List S_api_PermitPaper) (n364 : Int) : Option (Bool) := (m_permit_Desk_Papers (S_permit_Desk.mk l358 l362 n364)).bind fun r368 => forI (fun k y s470 n => m_gridhallkeep4_PermitGone_b5 devices k y s470.1 s470.2.1 s470.2.2 n) (fun s470 => (m_gridhallkeep4_permitFact).bind fun r513 => if r513 then ((m_permit_Desk_Held (S_permit_Desk.mk s470.1 s470.2.1 s470.2.2)).bind fun r516 => if decide ((r516.length : Int) = 0) then ((m_permit_Desk_Papers (S_permit_Desk.mk s470.1 s470.2.1 s470.2.2)).bind fun r522 => some (decide ((r522.length : Int) = 0))) else (some false)) else (some false)) 0 r368 (l358, l362, n364)
def m_gridhallkeep4_PermitGone_b10 (nx684 : (Int × (List ByteArray) × List S_api_PermitPaper × Int) → Option (Bool)) (n716 : Int) (l718 : (List ByteArray)) (l722 : List S_api_PermitPaper) (n724 : Int) : Option (Bool) := nx684 (n716, l718, l722, n724)
def m_gridhallkeep4_PermitGone_b9 (devices : (List ByteArray)) (k533 : Nat) (y687 : ByteArray) (n672 : Int) (l674 : (List ByteArray)) (l678 : List S_api_PermitPaper) (n680 : Int) (nx684 : (Int × (List ByteArray) × List S_api_PermitPaper × Int) → Option (Bool)) : Option (Bool) := if decide ((devices.length : Int) = 0) then (m_gridhallkeep4_PermitGone_b6 devices l674 l678 n680) else (need ((devices.length : Int) ≠ 0) (need (0 ≤ (Int.tmod (k533 : Int) (devices.length : Int)) ∧ (Int.tmod (k533 : Int) (devices.length : Int)) ≤ (devices.length : Int)) (need (0 ≤ 1 ∧ 1 ≤ ((slc devices (Int.tmod (k533 : Int) (devices.length : Int) : Int).toNat devices.length).length : Int)) ((m_permit_Desk_Issue (S_permit_Desk.mk l674 l678 n680) y687 (slc (slc devices (Int.tmod (k533 : Int) (devices.length : Int) : Int).toNat devices.length) 0 ((1 : Int).toNat))).bind fun r739 => if decide (r739.2.1 = 0) then (if decide (r739.1 ≤ n672) then (some false) else (m_gridhallkeep4_PermitGone_b10 nx684 r739.1 r739.2.2.devices r739.2.2.papers r739.2.2.last)) else (m_gridhallkeep4_PermitGone_b10 nx684 n672 r739.2.2.devices r739.2.2.papers r739.2.2.last)))))
def m_gridhallkeep4_PermitGone (devices : (List ByteArray)) (holders : (List ByteArray)) : Option (Bool) := (m_permit_New devices).bind fun r101 => optC r101.1 ((m_gridhallkeep4_permitFact).bind fun r119 => if r119 then ((m_permit_Check devices).bind fun r122 => if decide (r101.2 = r122) then (some true) else (some false)) else (some false)) (fun sp103 => if !decide (r101.2 = 0) then ((m_gridhallkeep4_permitFact).bind fun r129 => if r129 then ((m_permit_Check devices).bind fun r132 => if decide (r101.2 = r132) then (some false) else (some false)) else (some false)) else (need (0 ≤ (min (holders.length : Int) 10) ∧ (min (holders.length : Int) 10) ≤ (holders.length : Int)) (forI (fun k y s683 n => m_gridhallkeep4_PermitGone_b9 devices k y s683.1 s683.2.1 s683.2.2.1 s683.2.2.2 n) (fun s683 => m_gridhallkeep4_PermitGone_b6 devices s683.2.1 s683.2.2.1 s683.2.2.2) 0 (slc holders 0 ((min (holders.length : Int) 10 : Int).toNat)) (0, sp103.devices, sp103.papers, sp103.last))))
end Go.Sim
