/-
  Printed by a program: the models of the Go functions.
-/
import Derived.Test.YtfmhkgnbceoclaaSimX
import Derived.Laws.Bits64b
namespace Go.Sim
open Go
set_option linter.unusedVariables false

structure S_api_Switch where
  Name : ByteArray
  A : ByteArray
  B_ : ByteArray
  Breaker : Bool
  Open : Bool
  deriving DecidableEq
instance : Rep S_api_Switch where
  sz := 5
  E H cs x := cs = [.string (x.Name), .string (x.A), .string (x.B_), .bool (x.Breaker), .bool (x.Open)]
  len h := by obtain rfl := h; rfl
  mono hle h := by obtain rfl := h; exact rfl
  one h := by obtain rfl := h; exact (all_cons rfl (all_cons rfl (all_cons rfl (all_cons rfl (all_cons rfl all_nil)))))
instance : Flat S_api_Switch := ⟨fun h => h⟩
structure S_api_Branch where
  Name : ByteArray
  From : ByteArray
  To : ByteArray
  X : Int
  Tap : Int
  Shift : Int
  Limit : Int
  Short : Int
  Hold : Int
  deriving DecidableEq
instance : Rep S_api_Branch where
  sz := 9
  E H cs x := cs = [.string (x.Name), .string (x.From), .string (x.To), .int .i64 (x.X), .int .i64 (x.Tap), .int .i64 (x.Shift), .int .i64 (x.Limit), .int .i64 (x.Short), .int .i64 (x.Hold)]
  len h := by obtain rfl := h; rfl
  mono hle h := by obtain rfl := h; exact rfl
  one h := by obtain rfl := h; exact (all_cons rfl (all_cons rfl (all_cons rfl (all_cons rfl (all_cons rfl (all_cons rfl (all_cons rfl (all_cons rfl (all_cons rfl all_nil)))))))))
instance : Flat S_api_Branch := ⟨fun h => h⟩
structure S_api_Gen where
  Name : ByteArray
  Node : ByteArray
  Least : Int
  Most : Int
  Ramp : Int
  deriving DecidableEq
instance : Rep S_api_Gen where
  sz := 5
  E H cs x := cs = [.string (x.Name), .string (x.Node), .int .i64 (x.Least), .int .i64 (x.Most), .int .i64 (x.Ramp)]
  len h := by obtain rfl := h; rfl
  mono hle h := by obtain rfl := h; exact rfl
  one h := by obtain rfl := h; exact (all_cons rfl (all_cons rfl (all_cons rfl (all_cons rfl (all_cons rfl all_nil)))))
instance : Flat S_api_Gen := ⟨fun h => h⟩
structure S_api_Load where
  Name : ByteArray
  Node : ByteArray
  Demand : Int
  deriving DecidableEq
instance : Rep S_api_Load where
  sz := 3
  E H cs x := cs = [.string (x.Name), .string (x.Node), .int .i64 (x.Demand)]
  len h := by obtain rfl := h; rfl
  mono hle h := by obtain rfl := h; exact rfl
  one h := by obtain rfl := h; exact (all_cons rfl (all_cons rfl (all_cons rfl all_nil)))
instance : Flat S_api_Load := ⟨fun h => h⟩
structure S_api_Store where
  Name : ByteArray
  Node : ByteArray
  Charge : Int
  Discharge : Int
  Capacity : Int
  deriving DecidableEq
instance : Rep S_api_Store where
  sz := 5
  E H cs x := cs = [.string (x.Name), .string (x.Node), .int .i64 (x.Charge), .int .i64 (x.Discharge), .int .i64 (x.Capacity)]
  len h := by obtain rfl := h; rfl
  mono hle h := by obtain rfl := h; exact rfl
  one h := by obtain rfl := h; exact (all_cons rfl (all_cons rfl (all_cons rfl (all_cons rfl (all_cons rfl all_nil)))))
instance : Flat S_api_Store := ⟨fun h => h⟩
structure S_api_Network where
  Nodes : (List ByteArray)
  Switches : (List S_api_Switch)
  Branches : (List S_api_Branch)
  Gens : (List S_api_Gen)
  Loads : (List S_api_Load)
  Stores : (List S_api_Store)
  deriving DecidableEq
instance : Rep S_api_Network where
  sz := 6
  E H cs x := ∃ v0 : Value, ∃ v1 : Value, ∃ v2 : Value, ∃ v3 : Value, ∃ v4 : Value, ∃ v5 : Value, cs = [v0, v1, v2, v3, v4, v5] ∧ RdS H v0 x.Nodes ∧ RdS H v1 x.Switches ∧ RdS H v2 x.Branches ∧ RdS H v3 x.Gens ∧ RdS H v4 x.Loads ∧ RdS H v5 x.Stores
  len h := by obtain ⟨v0, v1, v2, v3, v4, v5, rfl, h0, h1, h2, h3, h4, h5⟩ := h; rfl
  mono hle h := by obtain ⟨v0, v1, v2, v3, v4, v5, rfl, h0, h1, h2, h3, h4, h5⟩ := h; exact ⟨v0, v1, v2, v3, v4, v5, rfl, h0.mono hle, h1.mono hle, h2.mono hle, h3.mono hle, h4.mono hle, h5.mono hle⟩
  one h := by obtain ⟨v0, v1, v2, v3, v4, v5, rfl, h0, h1, h2, h3, h4, h5⟩ := h; exact (all_cons (RdS.one1 h0) (all_cons (RdS.one1 h1) (all_cons (RdS.one1 h2) (all_cons (RdS.one1 h3) (all_cons (RdS.one1 h4) (all_cons (RdS.one1 h5) all_nil))))))
structure S_api_BlackstartStep where
  Gen : ByteArray
  Devices : (List ByteArray)
  deriving DecidableEq
instance : Rep S_api_BlackstartStep where
  sz := 2
  E H cs x := ∃ v1 : Value, cs = [.string (x.Gen), v1] ∧ RdS H v1 x.Devices
  len h := by obtain ⟨v1, rfl, h0⟩ := h; rfl
  mono hle h := by obtain ⟨v1, rfl, h0⟩ := h; exact ⟨v1, rfl, h0.mono hle⟩
  one h := by obtain ⟨v1, rfl, h0⟩ := h; exact (all_cons rfl (all_cons (RdS.one1 h0) all_nil))
structure S_netmodel_checker where
  seen : (List (ByteArray × Bool))
  nodes : (List ByteArray)
  deriving DecidableEq
structure S_api_Topology where
  Bus : (List Int)
  Island : (List Int)
  deriving DecidableEq
instance : Rep S_api_Topology where
  sz := 2
  E H cs x := ∃ v0 : Value, ∃ v1 : Value, cs = [v0, v1] ∧ RdS H v0 x.Bus ∧ RdS H v1 x.Island
  len h := by obtain ⟨v0, v1, rfl, h0, h1⟩ := h; rfl
  mono hle h := by obtain ⟨v0, v1, rfl, h0, h1⟩ := h; exact ⟨v0, v1, rfl, h0.mono hle, h1.mono hle⟩
  one h := by obtain ⟨v0, v1, rfl, h0, h1⟩ := h; exact (all_cons (RdS.one1 h0) (all_cons (RdS.one1 h1) all_nil))
structure S_A2_Int where
  a0 : Int
  a1 : Int
  deriving DecidableEq
instance : Rep S_A2_Int where
  sz := 2
  E H cs x := cs = [.int .i64 (x.a0), .int .i64 (x.a1)]
  len h := by obtain rfl := h; rfl
  mono hle h := by obtain rfl := h; exact rfl
  one h := by obtain rfl := h; exact (all_cons rfl (all_cons rfl all_nil))
instance : Flat S_A2_Int := ⟨fun h => h⟩

def m_gridhallkeep4_cut (p0_n : S_api_Network) : Option (S_api_Network) := need (0 ≤ (min (p0_n.Loads.length : Int) 4) ∧ (min (p0_n.Loads.length : Int) 4) ≤ (p0_n.Loads.length : Int)) (need (0 ≤ (min (p0_n.Gens.length : Int) 4) ∧ (min (p0_n.Gens.length : Int) 4) ≤ (p0_n.Gens.length : Int)) (some (S_api_Network.mk p0_n.Nodes p0_n.Switches p0_n.Branches (slc p0_n.Gens 0 ((min (p0_n.Gens.length : Int) 4 : Int).toNat)) (slc p0_n.Loads 0 ((min (p0_n.Loads.length : Int) 4 : Int).toNat)) p0_n.Stores)))

def m_netmodel_Name_b1 (k106 : Nat) (y143 : U8) (nx140 : Unit → Option (Bool)) : Option (Bool) := if !(((decide (65 ≤ y143.n)) && (decide (y143.n ≤ 90))) || (((decide (0 < (k106 : Int))) && (decide (48 ≤ y143.n))) && (decide (y143.n ≤ 57)))) then (some false) else (nx140 ())
def m_netmodel_Name (p0_s : ByteArray) : Option (Bool) := need (p0_s.size ≤ maxLen) (forI (fun k y s139 n => m_netmodel_Name_b1 k y n) (fun _ => some ((decide (1 ≤ (p0_s.size : Int))) && (decide ((p0_s.size : Int) ≤ 8)))) 0 (bytesL p0_s) ())

def m_slices_Index_string_string_b1 (p0_s : (List ByteArray)) (p1_v : ByteArray) (k101 : Nat) (nx115 : Unit → Option (Int)) : Option (Int) := idx p0_s (k101 : Int) fun y124 => if decide (p1_v = y124) then (some (k101 : Int)) else (nx115 ())
def m_slices_Index_string_string (p0_s : (List ByteArray)) (p1_v : ByteArray) : Option (Int) := forN (fun k s114 n => m_slices_Index_string_string_b1 p0_s p1_v k n) (fun _ => some (-1)) ((p0_s.length : Int) : Int).toNat 0 ()

def m_slices_Contains_string_string (p0_s : (List ByteArray)) (p1_v : ByteArray) : Option (Bool) := (m_slices_Index_string_string p0_s p1_v).bind fun r101 => some (decide (0 ≤ r101))

def m_netmodel_checker_device_b1 (p0_c : S_netmodel_checker) (name : ByteArray) (nodes : (List ByteArray)) (k109 : Nat) (y124 : ByteArray) (nx121 : Unit → Option (Int × S_netmodel_checker)) : Option (Int × S_netmodel_checker) := (m_slices_Contains_string_string p0_c.nodes y124).bind fun r131 => if !r131 then (some (6, (S_netmodel_checker.mk (mput p0_c.seen name true) p0_c.nodes))) else (nx121 ())
def m_netmodel_checker_device (p0_c : S_netmodel_checker) (name : ByteArray) (nodes : (List ByteArray)) : Option (Int × S_netmodel_checker) := (m_netmodel_Name name).bind fun r102 => if !r102 then (some (5, p0_c)) else (if (mget p0_c.seen name).getD false then (some (7, p0_c)) else (forI (fun k y s120 n => m_netmodel_checker_device_b1 p0_c name nodes k y n) (fun _ => if decide ((nodes.length : Int) = 2) then (idx nodes 0 fun y137 => idx nodes 1 fun y141 => if decide (y137 = y141) then (some (3, (S_netmodel_checker.mk (mput p0_c.seen name true) p0_c.nodes))) else (some (0, (S_netmodel_checker.mk (mput p0_c.seen name true) p0_c.nodes)))) else (some (0, (S_netmodel_checker.mk (mput p0_c.seen name true) p0_c.nodes)))) 0 nodes ()))

def m_netmodel_out (p0_n : Int) (p1_low : Int) (p2_high : Int) : Bool := ((decide (p0_n < p1_low)) || (decide (p2_high < p0_n)))

def m_netmodel_Branch (p0_b : S_api_Branch) : Int := if (((((m_netmodel_out p0_b.X 1 10000) || (m_netmodel_out p0_b.Tap 500 1500)) || (m_netmodel_out p0_b.Shift (-1000) 1000)) || (m_netmodel_out p0_b.Limit 0 100000)) || (m_netmodel_out p0_b.Short p0_b.Limit 100000)) || (m_netmodel_out p0_b.Hold 0 200000) then 4 else 0

def m_netmodel_permitted (p0_n : Int) : Bool := (!(m_netmodel_out p0_n 0 100000))

def m_netmodel_checker_ends_b3 (p0_c : S_netmodel_checker) (k296 : Nat) (y369 : S_api_Store) (l361 : (List (ByteArray × Bool))) (nx366 : (List (ByteArray × Bool)) → Option (Int × S_netmodel_checker)) : Option (Int × S_netmodel_checker) := (m_netmodel_checker_device (S_netmodel_checker.mk l361 p0_c.nodes) y369.Name ([y369.Node])).bind fun r383 => if !decide (r383.1 = 0) then (some (r383.1, (S_netmodel_checker.mk r383.2.seen p0_c.nodes))) else (if ((!(m_netmodel_permitted y369.Charge)) || (!(m_netmodel_permitted y369.Discharge))) || (!(m_netmodel_permitted y369.Capacity)) then (some (4, (S_netmodel_checker.mk r383.2.seen p0_c.nodes))) else (nx366 r383.2.seen))
def m_netmodel_checker_ends_b2 (p0_c : S_netmodel_checker) (k207 : Nat) (y270 : S_api_Load) (l262 : (List (ByteArray × Bool))) (nx267 : (List (ByteArray × Bool)) → Option (Int × S_netmodel_checker)) : Option (Int × S_netmodel_checker) := (m_netmodel_checker_device (S_netmodel_checker.mk l262 p0_c.nodes) y270.Name ([y270.Node])).bind fun r284 => if !decide (r284.1 = 0) then (some (r284.1, (S_netmodel_checker.mk r284.2.seen p0_c.nodes))) else (if !(m_netmodel_permitted y270.Demand) then (some (4, (S_netmodel_checker.mk r284.2.seen p0_c.nodes))) else (nx267 r284.2.seen))
def m_netmodel_checker_ends_b1 (p0_c : S_netmodel_checker) (k103 : Nat) (y176 : S_api_Gen) (l168 : (List (ByteArray × Bool))) (nx173 : (List (ByteArray × Bool)) → Option (Int × S_netmodel_checker)) : Option (Int × S_netmodel_checker) := (m_netmodel_checker_device (S_netmodel_checker.mk l168 p0_c.nodes) y176.Name ([y176.Node])).bind fun r190 => if !decide (r190.1 = 0) then (some (r190.1, (S_netmodel_checker.mk r190.2.seen p0_c.nodes))) else (if ((!(m_netmodel_permitted y176.Least)) || (m_netmodel_out y176.Most y176.Least 100000)) || (!(m_netmodel_permitted y176.Ramp)) then (some (4, (S_netmodel_checker.mk r190.2.seen p0_c.nodes))) else (nx173 r190.2.seen))
def m_netmodel_checker_ends (p0_c : S_netmodel_checker) (p1_n : S_api_Network) : Option (Int × S_netmodel_checker) := forI (fun k y s172 n => m_netmodel_checker_ends_b1 p0_c k y s172 n) (fun s172 => forI (fun k y s266 n => m_netmodel_checker_ends_b2 p0_c k y s266 n) (fun s266 => forI (fun k y s365 n => m_netmodel_checker_ends_b3 p0_c k y s365 n) (fun s365 => some (0, (S_netmodel_checker.mk s365 p0_c.nodes))) 0 p1_n.Stores s266) 0 p1_n.Loads s172) 0 p1_n.Gens p0_c.seen

def m_netmodel_Check_b3 (p0_n : S_api_Network) (k262 : Nat) (y325 : S_api_Branch) (l317 : (List (ByteArray × Bool))) (nx322 : (List (ByteArray × Bool)) → Option (Int)) : Option (Int) := (m_netmodel_checker_device (S_netmodel_checker.mk l317 p0_n.Nodes) y325.Name ([y325.From, y325.To])).bind fun r339 => if !decide (r339.1 = 0) then (some r339.1) else (if !decide ((m_netmodel_Branch y325) = 0) then (some (m_netmodel_Branch y325)) else (nx322 r339.2.seen))
def m_netmodel_Check_b2 (p0_n : S_api_Network) (k176 : Nat) (y237 : S_api_Switch) (l229 : (List (ByteArray × Bool))) (nx234 : (List (ByteArray × Bool)) → Option (Int)) : Option (Int) := (m_netmodel_checker_device (S_netmodel_checker.mk l229 p0_n.Nodes) y237.Name ([y237.A, y237.B_])).bind fun r251 => if !decide (r251.1 = 0) then (some r251.1) else (nx234 r251.2.seen)
def m_netmodel_Check_b1 (p0_n : S_api_Network) (k111 : Nat) (y158 : ByteArray) (l150 : (List (ByteArray × Bool))) (nx155 : (List (ByteArray × Bool)) → Option (Int)) : Option (Int) := (m_netmodel_checker_device (S_netmodel_checker.mk l150 p0_n.Nodes) y158 []).bind fun r165 => if !decide (r165.1 = 0) then (some r165.1) else (nx155 r165.2.seen)
def m_netmodel_Check (p0_n : S_api_Network) : Option (Int) := if (((((decide (24 < (p0_n.Nodes.length : Int))) || (decide (32 < (p0_n.Switches.length : Int)))) || (decide (24 < (p0_n.Branches.length : Int)))) || (decide (10 < (p0_n.Gens.length : Int)))) || (decide (12 < (p0_n.Loads.length : Int)))) || (decide (4 < (p0_n.Stores.length : Int))) then (some 2) else (forI (fun k y s154 n => m_netmodel_Check_b1 p0_n k y s154 n) (fun s154 => forI (fun k y s233 n => m_netmodel_Check_b2 p0_n k y s233 n) (fun s233 => forI (fun k y s321 n => m_netmodel_Check_b3 p0_n k y s321 n) (fun s321 => (m_netmodel_checker_ends (S_netmodel_checker.mk s321 p0_n.Nodes) p0_n).bind fun r351 => some r351.1) 0 p0_n.Branches s233) 0 p0_n.Switches s154) 0 p0_n.Nodes ([] : (List (ByteArray × Bool))))

def m_blackstart_gen_1 (p0_g : S_api_Gen) (p1_c1 : ByteArray) : Bool := (decide (p0_g.Name = p1_c1))

def m_slices_IndexFunc_api_Gen_api_Gen__blackstart_gen_1_b1 (p0_s : (List S_api_Gen)) (p1_f_0 : ByteArray) (k101 : Nat) (nx115 : Unit → Option (Int)) : Option (Int) := idx p0_s (k101 : Int) fun y124 => if (m_blackstart_gen_1 y124 p1_f_0) then (some (k101 : Int)) else (nx115 ())
def m_slices_IndexFunc_api_Gen_api_Gen__blackstart_gen_1 (p0_s : (List S_api_Gen)) (p1_f_0 : ByteArray) : Option (Int) := forN (fun k s114 n => m_slices_IndexFunc_api_Gen_api_Gen__blackstart_gen_1_b1 p0_s p1_f_0 k n) (fun _ => some (-1)) ((p0_s.length : Int) : Int).toNat 0 ()

def m_blackstart_gen (p0_n : S_api_Network) (name : ByteArray) : Option (Int) := (m_slices_IndexFunc_api_Gen_api_Gen__blackstart_gen_1 p0_n.Gens name).bind fun r103 => some r103

def m_blackstart_check_b1 (p0_n : S_api_Network) (sources : (List ByteArray)) (k105 : Nat) (y134 : ByteArray) (nx131 : Unit → Option (Int)) : Option (Int) := (m_blackstart_gen p0_n y134).bind fun r141 => if decide (r141 < 0) then (some 6) else (need (0 ≤ (k105 : Int) ∧ (k105 : Int) ≤ (sources.length : Int)) ((m_slices_Contains_string_string (slc sources 0 (((k105 : Int) : Int).toNat)) y134).bind fun r148 => if r148 then (some 7) else (nx131 ())))
def m_blackstart_check (p0_n : S_api_Network) (sources : (List ByteArray)) : Option (Int) := (m_netmodel_Check p0_n).bind fun r102 => if !decide (r102 = 0) then (some r102) else (forI (fun k y s130 n => m_blackstart_check_b1 p0_n sources k y n) (fun _ => some 0) 0 sources ())

def m_netmodel_Copy (p0_n : S_api_Network) : Option (S_api_Network) := need (p0_n.Nodes.length * 16 ≤ 140737488355328) (need (p0_n.Switches.length * 56 ≤ 140737488355328) (need (p0_n.Branches.length * 96 ≤ 140737488355328) (need (p0_n.Gens.length * 56 ≤ 140737488355328) (need (p0_n.Loads.length * 40 ≤ 140737488355328) (need (p0_n.Stores.length * 56 ≤ 140737488355328) (some p0_n))))))

def m_station_edges_b4 (nx308 : (List S_A2_Int × List Int) → Option ((List S_A2_Int) × (List Int))) (l357 : List S_A2_Int) (l361 : List Int) : Option ((List S_A2_Int) × (List Int)) := nx308 (l357, l361)
def m_station_edges_b3 (p0_n : S_api_Network) (p1_open : Bool) (k102 : Nat) (y311 : S_api_Switch) (l299 : List S_A2_Int) (l303 : List Int) (nx308 : (List S_A2_Int × List Int) → Option ((List S_A2_Int) × (List Int))) : Option ((List S_A2_Int) × (List Int)) := if decide (y311.Open = p1_open) then ((m_slices_Index_string_string p0_n.Nodes y311.A).bind fun r369 => (m_slices_Index_string_string p0_n.Nodes y311.B_).bind fun r371 => need ((l299.length + ([(S_A2_Int.mk r369 r371)]).length) * 16 ≤ 140737488355328) (need ((l303.length + ([((k102 : Int))] : List Int).length) * 8 ≤ 140737488355328) (m_station_edges_b4 nx308 (l299 ++ ([(S_A2_Int.mk r369 r371)])) (l303 ++ ([((k102 : Int))] : List Int))))) else (m_station_edges_b4 nx308 l299 l303)
def m_station_edges (p0_n : S_api_Network) (p1_open : Bool) : Option ((List S_A2_Int) × (List Int)) := forI (fun k y s307 n => m_station_edges_b3 p0_n p1_open k y s307.1 s307.2 n) (fun s307 => some (s307.1, s307.2)) 0 p0_n.Switches (([] : List S_A2_Int), ([] : List Int))

def m_graph_Check_b1 (p0_n : Int) (k105 : Nat) (y124 : S_A2_Int) (nx121 : Unit → Option (Int)) : Option (Int) := if decide (y124.a0 < 0) then (some 4) else (if decide (p0_n ≤ y124.a0) then (some 4) else (if decide (y124.a1 < 0) then (some 4) else (if decide (p0_n ≤ y124.a1) then (some 4) else (nx121 ()))))
def m_graph_Check (p0_n : Int) (p1_l : (List S_A2_Int)) : Option (Int) := if ((decide (p0_n < 0)) || (decide (24 < p0_n))) || (decide (64 < (p1_l.length : Int))) then (some 2) else (forI (fun k y s120 n => m_graph_Check_b1 p0_n k y n) (fun _ => some 0) 0 p1_l ())

def m_math_bits_Mul64 (p0_x : Int) (p1_y : Int) : Int × Int := ((IntKind.u64.wrap ((IntKind.u64.wrap ((IntKind.u64.wrap ((shrV .u64 p0_x 32) * (shrV .u64 p1_y 32))) + (shrV .u64 (IntKind.u64.wrap ((IntKind.u64.wrap ((shrV .u64 p0_x 32) * (IntKind.u64.wrap ((BitVec.ofInt (IntKind.u64).bits p1_y &&& BitVec.ofInt (IntKind.u64).bits 4294967295).toNat)))) + (shrV .u64 (IntKind.u64.wrap ((IntKind.u64.wrap ((BitVec.ofInt (IntKind.u64).bits p0_x &&& BitVec.ofInt (IntKind.u64).bits 4294967295).toNat)) * (IntKind.u64.wrap ((BitVec.ofInt (IntKind.u64).bits p1_y &&& BitVec.ofInt (IntKind.u64).bits 4294967295).toNat)))) 32))) 32))) + (shrV .u64 (IntKind.u64.wrap ((IntKind.u64.wrap ((BitVec.ofInt (IntKind.u64).bits (IntKind.u64.wrap ((IntKind.u64.wrap ((shrV .u64 p0_x 32) * (IntKind.u64.wrap ((BitVec.ofInt (IntKind.u64).bits p1_y &&& BitVec.ofInt (IntKind.u64).bits 4294967295).toNat)))) + (shrV .u64 (IntKind.u64.wrap ((IntKind.u64.wrap ((BitVec.ofInt (IntKind.u64).bits p0_x &&& BitVec.ofInt (IntKind.u64).bits 4294967295).toNat)) * (IntKind.u64.wrap ((BitVec.ofInt (IntKind.u64).bits p1_y &&& BitVec.ofInt (IntKind.u64).bits 4294967295).toNat)))) 32))) &&& BitVec.ofInt (IntKind.u64).bits 4294967295).toNat)) + (IntKind.u64.wrap ((IntKind.u64.wrap ((BitVec.ofInt (IntKind.u64).bits p0_x &&& BitVec.ofInt (IntKind.u64).bits 4294967295).toNat)) * (shrV .u64 p1_y 32))))) 32))), (IntKind.u64.wrap (p0_x * p1_y)))

def m_math_bits_Mul (p0_x : Int) (p1_y : Int) : Int × Int := ((((m_math_bits_Mul64 p0_x p1_y)).1), (((m_math_bits_Mul64 p0_x p1_y)).2))

def m_graph_parts_b69 (nx5179 : (List Int × Int) → Option ((List Int))) (l6449 : List Int) (n6451 : Int) : Option ((List Int)) := nx5179 (l6449, n6451)
def m_graph_parts_b82 (nx7587 : (List Int × List Int) → Option ((List Int))) (l7651 : List Int) (l7655 : List Int) : Option ((List Int)) := nx7587 (l7651, l7655)
def m_graph_parts_b81 (without : Int) (n5175 : Int) (y7313 : Int) (k7321 : Nat) (y7590 : S_A2_Int) (l7578 : List Int) (l7582 : List Int) (nx7587 : (List Int × List Int) → Option ((List Int))) : Option ((List Int)) := if decide ((k7321 : Int) = without) then (m_graph_parts_b82 nx7587 l7578 l7582) else (if decide (y7590.a0 = y7313) then (idx l7578 (IntKind.i64.wrap ((IntKind.i64.wrap (y7590.a0 + y7590.a1)) - y7313)) fun y7689 => if decide (y7689 < 0) then (idx l7578 (IntKind.i64.wrap ((IntKind.i64.wrap (y7590.a0 + y7590.a1)) - y7313)) fun y7694 => need ((l7582.length + ([(IntKind.i64.wrap ((IntKind.i64.wrap (y7590.a0 + y7590.a1)) - y7313))] : List Int).length) * 8 ≤ 140737488355328) (m_graph_parts_b82 nx7587 (l7578.set ((IntKind.i64.wrap ((IntKind.i64.wrap (y7590.a0 + y7590.a1)) - y7313) : Int).toNat) n5175) (l7582 ++ ([(IntKind.i64.wrap ((IntKind.i64.wrap (y7590.a0 + y7590.a1)) - y7313))] : List Int)))) else (m_graph_parts_b82 nx7587 l7578 l7582)) else (if !decide (y7590.a1 = y7313) then (m_graph_parts_b82 nx7587 l7578 l7582) else (idx l7578 (IntKind.i64.wrap ((IntKind.i64.wrap (y7590.a0 + y7590.a1)) - y7313)) fun y7665 => if decide (y7665 < 0) then (idx l7578 (IntKind.i64.wrap ((IntKind.i64.wrap (y7590.a0 + y7590.a1)) - y7313)) fun y7670 => need ((l7582.length + ([(IntKind.i64.wrap ((IntKind.i64.wrap (y7590.a0 + y7590.a1)) - y7313))] : List Int).length) * 8 ≤ 140737488355328) (m_graph_parts_b82 nx7587 (l7578.set ((IntKind.i64.wrap ((IntKind.i64.wrap (y7590.a0 + y7590.a1)) - y7313) : Int).toNat) n5175) (l7582 ++ ([(IntKind.i64.wrap ((IntKind.i64.wrap (y7590.a0 + y7590.a1)) - y7313))] : List Int)))) else (m_graph_parts_b82 nx7587 l7578 l7582))))
def m_graph_parts_b78 (p1_l : (List S_A2_Int)) (without : Int) (n5175 : Int) (nx5179 : (List Int × Int) → Option ((List Int))) (l7295 : List Int) (l7299 : List Int) (nx7304 : (List Int × List Int) → Option ((List Int))) : Option ((List Int)) := if decide (0 < (l7299.length : Int)) then (idx l7299 0 fun y7313 => need (0 ≤ 1 ∧ 1 ≤ (l7299.length : Int)) (forI (fun k y s7586 n => m_graph_parts_b81 without n5175 y7313 k y s7586.1 s7586.2 n) (fun s7586 => nx7304 (s7586.1, s7586.2)) 0 p1_l (l7295, (slc l7299 (1 : Int).toNat l7299.length)))) else (m_graph_parts_b69 nx5179 l7295 (IntKind.i64.wrap (n5175 + 1)))
def m_graph_parts_b55 (p1_l : (List S_A2_Int)) (without : Int) (k108 : Nat) (l5173 : List Int) (n5175 : Int) (nx5179 : (List Int × Int) → Option ((List Int))) : Option ((List Int)) := idx l5173 (k108 : Int) fun y6455 => if decide (0 ≤ y6455) then (m_graph_parts_b69 nx5179 l5173 n5175) else (idx l5173 (k108 : Int) fun y6460 => loopF (fun s7303 n => m_graph_parts_b78 p1_l without n5175 nx5179 s7303.1 s7303.2 n) FUEL ((l5173.set (((k108 : Int) : Int).toNat) n5175), ([((k108 : Int))] : List Int)))
def m_graph_parts (p0_n : Int) (p1_l : (List S_A2_Int)) (without : Int) : Option ((List Int)) := need (([((-1))] : List Int).length = 1 ∧ 0 ≤ p0_n ∧ p0_n * 8 ≤ 140737488355328) (need (p0_n ≤ 9223372036854775807) (forN (fun k s5178 n => m_graph_parts_b55 p1_l without k s5178.1 s5178.2 n) (fun s5178 => some s5178.1) (p0_n : Int).toNat 0 ((repL ([((-1))] : List Int) p0_n), 0)))

def m_graph_Components (p0_n : Int) (p1_l : (List S_A2_Int)) : Option ((List Int) × Int) := (m_graph_Check p0_n p1_l).bind fun r101 => if !decide (r101 = 0) then (some (([] : List Int), r101)) else ((m_graph_parts p0_n p1_l (-1)).bind fun r104 => some (r104, 0))

def m_station_Buses (p0_n : S_api_Network) : Option ((List Int)) := (m_station_edges p0_n false).bind fun r102 => (m_graph_Components (p0_n.Nodes.length : Int) r102.1).bind fun r110 => some r110.1

def m_topology_Get_b2 (p0_n : S_api_Network) (r103 : ((List Int))) (k129 : Nat) (y220 : S_api_Branch) (l212 : List S_A2_Int) (nx217 : List S_A2_Int → Option (S_api_Topology)) : Option (S_api_Topology) := (m_slices_Index_string_string p0_n.Nodes y220.From).bind fun r228 => idx r103 r228 fun y230 => (m_slices_Index_string_string p0_n.Nodes y220.To).bind fun r234 => idx r103 r234 fun y236 => need ((l212.length + ([(S_A2_Int.mk y230 y236)]).length) * 16 ≤ 140737488355328) (nx217 (l212 ++ ([(S_A2_Int.mk y230 y236)])))
def m_topology_Get_b1 (k109 : Nat) (y122 : Int) (n114 : Int) (nx118 : Int → Option (S_api_Topology)) : Option (S_api_Topology) := nx118 (max n114 (IntKind.i64.wrap (y122 + 1)))
def m_topology_Get (p0_n : S_api_Network) : Option (S_api_Topology) := (m_station_Buses p0_n).bind fun r103 => forI (fun k y s117 n => m_topology_Get_b1 k y s117 n) (fun s117 => forI (fun k y s216 n => m_topology_Get_b2 p0_n r103 k y s216 n) (fun s216 => (m_graph_Components s117 s216).bind fun r260 => some (S_api_Topology.mk r103 r260.1)) 0 p0_n.Branches ([] : List S_A2_Int)) 0 r103 0

def m_islands_Places_b1 (r105 : (S_api_Topology)) (k114 : Nat) (y170 : Int) (l161 : List Int) (nx166 : List Int → Option ((List Int) × Int)) : Option ((List Int) × Int) := idx r105.Island y170 fun y177 => need ((l161.length + ([y177] : List Int).length) * 8 ≤ 140737488355328) (nx166 (l161 ++ ([y177] : List Int)))
def m_islands_Places (p0_n : S_api_Network) : Option ((List Int) × Int) := (m_netmodel_Check p0_n).bind fun r102 => if !decide (r102 = 0) then (some (([] : List Int), r102)) else ((m_topology_Get p0_n).bind fun r105 => forI (fun k y s165 n => m_islands_Places_b1 r105 k y s165 n) (fun s165 => some (s165, 0)) 0 r105.Bus ([] : List Int))

def m_blackstart_path_1 (p0_s : ByteArray) (p1_c1 : (List Int)) (p2_c2 : S_api_Network) : Option (Int) := (m_slices_Index_string_string p2_c2.Nodes p0_s).bind fun r101 => idx p1_c1 r101 fun y105 => some y105

def m_graph_all_b1 (k105 : Nat) (l132 : List Int) (nx137 : List Int → Option ((List Int))) : Option ((List Int)) := idx l132 (k105 : Int) fun y147 => nx137 (l132.set (((k105 : Int) : Int).toNat) ((k105 : Int)))
def m_graph_all (p0_l : (List S_A2_Int)) : Option ((List Int)) := need (0 ≤ (p0_l.length : Int) ∧ (p0_l.length : Int) * 8 ≤ 140737488355328) (forN (fun k s136 n => m_graph_all_b1 k s136 n) (fun s136 => some s136) (((List.replicate ((p0_l.length : Int) : Int).toNat (0 : Int)).length : Int) : Int).toNat 0 (List.replicate ((p0_l.length : Int) : Int).toNat (0 : Int)))

def m_graph_path_b13 (nx1411 : (List Int × List Int) → Option ((List Int) × Bool)) (l1486 : List Int) (l1490 : List Int) : Option ((List Int) × Bool) := nx1411 (l1486, l1490)
def m_graph_path_b12 (p1_l : (List S_A2_Int)) (y1093 : Int) (k1101 : Nat) (y1414 : Int) (l1402 : List Int) (l1406 : List Int) (nx1411 : (List Int × List Int) → Option ((List Int) × Bool)) : Option ((List Int) × Bool) := idx p1_l y1414 fun y1496 => if decide (y1496.a0 = y1093) then (idx l1402 (IntKind.i64.wrap ((IntKind.i64.wrap (y1496.a0 + y1496.a1)) - y1093)) fun y1531 => if decide (y1531 < 0) then (idx l1402 y1093 fun y1536 => idx l1402 (IntKind.i64.wrap ((IntKind.i64.wrap (y1496.a0 + y1496.a1)) - y1093)) fun y1540 => need ((l1406.length + ([(IntKind.i64.wrap ((IntKind.i64.wrap (y1496.a0 + y1496.a1)) - y1093))] : List Int).length) * 8 ≤ 140737488355328) (m_graph_path_b13 nx1411 (l1402.set ((IntKind.i64.wrap ((IntKind.i64.wrap (y1496.a0 + y1496.a1)) - y1093) : Int).toNat) (IntKind.i64.wrap (y1536 + 1))) (l1406 ++ ([(IntKind.i64.wrap ((IntKind.i64.wrap (y1496.a0 + y1496.a1)) - y1093))] : List Int)))) else (m_graph_path_b13 nx1411 l1402 l1406)) else (if decide (y1496.a1 = y1093) then (idx l1402 (IntKind.i64.wrap ((IntKind.i64.wrap (y1496.a0 + y1496.a1)) - y1093)) fun y1503 => if decide (y1503 < 0) then (idx l1402 y1093 fun y1508 => idx l1402 (IntKind.i64.wrap ((IntKind.i64.wrap (y1496.a0 + y1496.a1)) - y1093)) fun y1512 => need ((l1406.length + ([(IntKind.i64.wrap ((IntKind.i64.wrap (y1496.a0 + y1496.a1)) - y1093))] : List Int).length) * 8 ≤ 140737488355328) (m_graph_path_b13 nx1411 (l1402.set ((IntKind.i64.wrap ((IntKind.i64.wrap (y1496.a0 + y1496.a1)) - y1093) : Int).toNat) (IntKind.i64.wrap (y1508 + 1))) (l1406 ++ ([(IntKind.i64.wrap ((IntKind.i64.wrap (y1496.a0 + y1496.a1)) - y1093))] : List Int)))) else (m_graph_path_b13 nx1411 l1402 l1406)) else (m_graph_path_b13 nx1411 l1402 l1406))
def m_graph_path_b26 (nx2495 : Unit → Option ((List Int) × Bool)) : Option ((List Int) × Bool) := nx2495 ()
def m_graph_path_b25 (p1_l : (List S_A2_Int)) (l1075 : List Int) (l2258 : List Int) (n2260 : Int) (nx2264 : (List Int × Int) → Option ((List Int) × Bool)) (k2273 : Nat) (y2498 : Int) (nx2495 : Unit → Option ((List Int) × Bool)) : Option ((List Int) × Bool) := idx p1_l y2498 fun y2560 => if decide (y2560.a0 = n2260) then (idx l1075 (IntKind.i64.wrap ((IntKind.i64.wrap (y2560.a0 + y2560.a1)) - n2260)) fun y2589 => idx l1075 n2260 fun y2593 => if decide (y2589 = (IntKind.i64.wrap (y2593 - 1))) then (need ((l2258.length + ([y2498] : List Int).length) * 8 ≤ 140737488355328) (nx2264 ((l2258 ++ ([y2498] : List Int)), IntKind.i64.wrap ((IntKind.i64.wrap (y2560.a0 + y2560.a1)) - n2260)))) else (m_graph_path_b26 nx2495)) else (if !decide (y2560.a1 = n2260) then (m_graph_path_b26 nx2495) else (idx l1075 (IntKind.i64.wrap ((IntKind.i64.wrap (y2560.a0 + y2560.a1)) - n2260)) fun y2567 => idx l1075 n2260 fun y2571 => if decide (y2567 = (IntKind.i64.wrap (y2571 - 1))) then (need ((l2258.length + ([y2498] : List Int).length) * 8 ≤ 140737488355328) (nx2264 ((l2258 ++ ([y2498] : List Int)), IntKind.i64.wrap ((IntKind.i64.wrap (y2560.a0 + y2560.a1)) - n2260)))) else (m_graph_path_b26 nx2495)))
def m_graph_path_b22 (p1_l : (List S_A2_Int)) (edges : (List Int)) (to : Int) (l1075 : List Int) (l2258 : List Int) (n2260 : Int) (nx2264 : (List Int × Int) → Option ((List Int) × Bool)) : Option ((List Int) × Bool) := if !decide (n2260 = to) then (forI (fun k y s2494 n => m_graph_path_b25 p1_l l1075 l2258 n2260 nx2264 k y n) (fun _ => nx2264 (l2258, n2260)) 0 edges ()) else (some (l2258, true))
def m_graph_path_b9 (p1_l : (List S_A2_Int)) (edges : (List Int)) (p3_from : Int) (to : Int) (l1075 : List Int) (l1079 : List Int) (nx1084 : (List Int × List Int) → Option ((List Int) × Bool)) : Option ((List Int) × Bool) := if decide (0 < (l1079.length : Int)) then (idx l1079 0 fun y1093 => need (0 ≤ 1 ∧ 1 ≤ (l1079.length : Int)) (forI (fun k y s1410 n => m_graph_path_b12 p1_l y1093 k y s1410.1 s1410.2 n) (fun s1410 => nx1084 (s1410.1, s1410.2)) 0 edges (l1075, (slc l1079 (1 : Int).toNat l1079.length)))) else (idx l1075 p3_from fun y1559 => if decide (y1559 < 0) then (some (([] : List Int), false)) else (loopF (fun s2263 n => m_graph_path_b22 p1_l edges to l1075 s2263.1 s2263.2 n) FUEL (([] : List Int), p3_from)))
def m_graph_path (p0_n : Int) (p1_l : (List S_A2_Int)) (edges : (List Int)) (p3_from : Int) (to : Int) : Option ((List Int) × Bool) := need (([((-1))] : List Int).length = 1 ∧ 0 ≤ p0_n ∧ p0_n * 8 ≤ 140737488355328) (idx (repL ([((-1))] : List Int) p0_n) to fun y108 => loopF (fun s1083 n => m_graph_path_b9 p1_l edges p3_from to s1083.1 s1083.2 n) FUEL (((repL ([((-1))] : List Int) p0_n).set ((to : Int).toNat) 0), ([to] : List Int)))

def m_graph_Path (p0_n : Int) (p1_l : (List S_A2_Int)) (p2_from : Int) (to : Int) : Option ((List Int) × Int) := (m_graph_Check p0_n p1_l).bind fun r101 => if !decide (r101 = 0) then (some (([] : List Int), r101)) else (if (((decide (p2_from < 0)) || (decide (p0_n ≤ p2_from))) || (decide (to < 0))) || (decide (p0_n ≤ to)) then (some (([] : List Int), 4)) else ((m_graph_all p1_l).bind fun r109 => (m_graph_path p0_n p1_l r109 p2_from to).bind fun r114 => if !r114.2 then (some (([] : List Int), 8)) else (some (r114.1, 0))))

def m_blackstart_path_b4 (nx314 : (List S_A2_Int × List ByteArray) → Option ((List ByteArray) × Bool)) (l363 : List S_A2_Int) (l367 : List ByteArray) : Option ((List ByteArray) × Bool) := nx314 (l363, l367)
def m_blackstart_path_b5 (l309 : List ByteArray) (k425 : Nat) (y481 : Int) (l472 : List ByteArray) (nx477 : List ByteArray → Option ((List ByteArray) × Bool)) : Option ((List ByteArray) × Bool) := idx l309 y481 fun y488 => need ((l472.length + ([y488]).length) * 16 ≤ 140737488355328) (nx477 (l472 ++ ([y488])))
def m_blackstart_path_b3 (p0_n : S_api_Network) (r102 : ((List Int) × Int)) (k108 : Nat) (y317 : S_api_Switch) (l305 : List S_A2_Int) (l309 : List ByteArray) (nx314 : (List S_A2_Int × List ByteArray) → Option ((List ByteArray) × Bool)) : Option ((List ByteArray) × Bool) := if y317.Open then ((m_blackstart_path_1 y317.A r102.1 p0_n).bind fun r375 => (m_blackstart_path_1 y317.B_ r102.1 p0_n).bind fun r377 => need ((l305.length + ([(S_A2_Int.mk r375 r377)]).length) * 16 ≤ 140737488355328) (need ((l309.length + ([y317.Name]).length) * 16 ≤ 140737488355328) (m_blackstart_path_b4 nx314 (l305 ++ ([(S_A2_Int.mk r375 r377)])) (l309 ++ ([y317.Name]))))) else (m_blackstart_path_b4 nx314 l305 l309)
def m_blackstart_path (p0_n : S_api_Network) (p1_a : ByteArray) (p2_b : ByteArray) : Option ((List ByteArray) × Bool) := (m_islands_Places p0_n).bind fun r102 => forI (fun k y s313 n => m_blackstart_path_b3 p0_n r102 k y s313.1 s313.2 n) (fun s313 => (m_blackstart_path_1 p1_a r102.1 p0_n).bind fun r410 => (m_blackstart_path_1 p2_b r102.1 p0_n).bind fun r412 => (m_graph_Path (p0_n.Nodes.length : Int) s313.1 r410 r412).bind fun r414 => if !decide (r414.2 = 0) then (some (([] : List ByteArray), false)) else (forI (fun k y s476 n => m_blackstart_path_b5 s313.2 k y s476 n) (fun s476 => some (s476, true)) 0 r414.1 ([] : List ByteArray))) 0 p0_n.Switches (([] : List S_A2_Int), ([] : List ByteArray))

def m_blackstart_closeSwitch_1 (p0_s : S_api_Switch) (p1_c1 : ByteArray) : Bool := (decide (p0_s.Name = p1_c1))

def m_slices_IndexFunc_api_Switch_api_Switch__blackstart_closeSwitch_1_b1 (p0_s : (List S_api_Switch)) (p1_f_0 : ByteArray) (k101 : Nat) (nx115 : Unit → Option (Int)) : Option (Int) := idx p0_s (k101 : Int) fun y124 => if (m_blackstart_closeSwitch_1 y124 p1_f_0) then (some (k101 : Int)) else (nx115 ())
def m_slices_IndexFunc_api_Switch_api_Switch__blackstart_closeSwitch_1 (p0_s : (List S_api_Switch)) (p1_f_0 : ByteArray) : Option (Int) := forN (fun k s114 n => m_slices_IndexFunc_api_Switch_api_Switch__blackstart_closeSwitch_1_b1 p0_s p1_f_0 k n) (fun _ => some (-1)) ((p0_s.length : Int) : Int).toNat 0 ()

def m_blackstart_closeSwitch (p0_n : S_api_Network) (name : ByteArray) : Option (S_api_Network) := (m_slices_IndexFunc_api_Switch_api_Switch__blackstart_closeSwitch_1 p0_n.Switches name).bind fun r102 => idx p0_n.Switches r102 fun y106 => some (S_api_Network.mk p0_n.Nodes (p0_n.Switches.set ((r102 : Int).toNat) (S_api_Switch.mk y106.Name y106.A y106.B_ y106.Breaker false)) p0_n.Branches p0_n.Gens p0_n.Loads p0_n.Stores)

def m_blackstart_Plan_b89 (l4521 : List S_api_BlackstartStep) : Option ((List S_api_BlackstartStep) × Int) := some (l4521, 0)
def m_blackstart_Plan_b172 (nx8326 : (ByteArray × List ByteArray) → Option ((List S_api_BlackstartStep) × Int)) (s8535 : ByteArray) (l8538 : List ByteArray) : Option ((List S_api_BlackstartStep) × Int) := nx8326 (s8535, l8538)
def m_blackstart_Plan_b176 (nx8679 : (ByteArray × List ByteArray) → Option ((List S_api_BlackstartStep) × Int)) (s8712 : ByteArray) (l8715 : List ByteArray) : Option ((List S_api_BlackstartStep) × Int) := nx8679 (s8712, l8715)
def m_blackstart_Plan_b175 (l7456 : (List ByteArray)) (l7460 : List S_api_Switch) (l7463 : (List S_api_Branch)) (l7466 : (List S_api_Gen)) (l7469 : (List S_api_Load)) (l7472 : (List S_api_Store)) (y8329 : S_api_Gen) (k8548 : Nat) (y8683 : ByteArray) (s8671 : ByteArray) (l8674 : List ByteArray) (nx8679 : (ByteArray × List ByteArray) → Option ((List S_api_BlackstartStep) × Int)) : Option ((List S_api_BlackstartStep) × Int) := (m_blackstart_gen (S_api_Network.mk l7456 l7460 l7463 l7466 l7469 l7472) y8683).bind fun r8721 => idx l7466 r8721 fun y8723 => (m_blackstart_path (S_api_Network.mk l7456 l7460 l7463 l7466 l7469 l7472) y8723.Node y8329.Node).bind fun r8727 => if r8727.2 && ((decide (s8671 = (⟨#[]⟩))) || (decide ((r8727.1.length : Int) < (l8674.length : Int)))) then (m_blackstart_Plan_b176 nx8679 y8329.Name r8727.1) else (m_blackstart_Plan_b176 nx8679 s8671 l8674)
def m_blackstart_Plan_b177 (k8744 : Nat) (y8851 : ByteArray) (l8826 : (List ByteArray)) (l8830 : List S_api_Switch) (l8833 : (List S_api_Branch)) (l8836 : (List S_api_Gen)) (l8839 : (List S_api_Load)) (l8842 : (List S_api_Store)) (nx8847 : ((List ByteArray) × List S_api_Switch × (List S_api_Branch) × (List S_api_Gen) × (List S_api_Load) × (List S_api_Store)) → Option ((List S_api_BlackstartStep) × Int)) : Option ((List S_api_BlackstartStep) × Int) := (m_blackstart_closeSwitch (S_api_Network.mk l8826 l8830 l8833 l8836 l8839 l8842) y8851).bind fun r8858 => nx8847 (r8858.Nodes, r8858.Switches, r8858.Branches, r8858.Gens, r8858.Loads, r8858.Stores)
def m_blackstart_Plan_b167 (l7449 : List ByteArray) (l7456 : (List ByteArray)) (l7460 : List S_api_Switch) (l7463 : (List S_api_Branch)) (l7466 : (List S_api_Gen)) (l7469 : (List S_api_Load)) (l7472 : (List S_api_Store)) (k7487 : Nat) (y8329 : S_api_Gen) (s8318 : ByteArray) (l8321 : List ByteArray) (nx8326 : (ByteArray × List ByteArray) → Option ((List S_api_BlackstartStep) × Int)) : Option ((List S_api_BlackstartStep) × Int) := (m_slices_Contains_string_string l7449 y8329.Name).bind fun r8545 => if r8545 then (m_blackstart_Plan_b172 nx8326 s8318 l8321) else (forI (fun k y s8678 n => m_blackstart_Plan_b175 l7456 l7460 l7463 l7466 l7469 l7472 y8329 k y s8678.1 s8678.2 n) (fun s8678 => m_blackstart_Plan_b172 nx8326 s8678.1 s8678.2) 0 l7449 (s8318, l8321))
def m_blackstart_Plan_b148 (l7449 : List ByteArray) (l7453 : List S_api_BlackstartStep) (l7456 : (List ByteArray)) (l7460 : List S_api_Switch) (l7463 : (List S_api_Branch)) (l7466 : (List S_api_Gen)) (l7469 : (List S_api_Load)) (l7472 : (List S_api_Store)) (nx7477 : (List ByteArray × List S_api_BlackstartStep × (List ByteArray) × List S_api_Switch × (List S_api_Branch) × (List S_api_Gen) × (List S_api_Load) × (List S_api_Store)) → Option ((List S_api_BlackstartStep) × Int)) : Option ((List S_api_BlackstartStep) × Int) := if decide ((l7449.length : Int) < (l7466.length : Int)) then (forI (fun k y s8325 n => m_blackstart_Plan_b167 l7449 l7456 l7460 l7463 l7466 l7469 l7472 k y s8325.1 s8325.2 n) (fun s8325 => if decide (s8325.1 = (⟨#[]⟩)) then (some (([] : List S_api_BlackstartStep), 8)) else (forI (fun k y s8846 n => m_blackstart_Plan_b177 k y s8846.1 s8846.2.1 s8846.2.2.1 s8846.2.2.2.1 s8846.2.2.2.2.1 s8846.2.2.2.2.2 n) (fun s8846 => need ((l7449.length + ([s8325.1]).length) * 16 ≤ 140737488355328) (need ((l7453.length + ([(S_api_BlackstartStep.mk s8325.1 s8325.2)]).length) * 40 ≤ 140737488355328) (nx7477 ((l7449 ++ ([s8325.1])), (l7453 ++ ([(S_api_BlackstartStep.mk s8325.1 s8325.2)])), s8846.1, s8846.2.1, s8846.2.2.1, s8846.2.2.2.1, s8846.2.2.2.2.1, s8846.2.2.2.2.2)))) 0 s8325.2 (l7456, l7460, l7463, l7466, l7469, l7472))) 0 l7466 (⟨#[]⟩, ([] : List ByteArray))) else (m_blackstart_Plan_b89 l7453)
def m_blackstart_Plan (p0_n : S_api_Network) (sources : (List ByteArray)) : Option ((List S_api_BlackstartStep) × Int) := (m_blackstart_check p0_n sources).bind fun r102 => if !decide (r102 = 0) then (some (([] : List S_api_BlackstartStep), r102)) else ((m_netmodel_Copy p0_n).bind fun r105 => need (sources.length * 16 ≤ 140737488355328) (loopF (fun s7476 n => m_blackstart_Plan_b148 s7476.1 s7476.2.1 s7476.2.2.1 s7476.2.2.2.1 s7476.2.2.2.2.1 s7476.2.2.2.2.2.1 s7476.2.2.2.2.2.2.1 s7476.2.2.2.2.2.2.2 n) FUEL (sources, ([] : List S_api_BlackstartStep), r105.Nodes, r105.Switches, r105.Branches, r105.Gens, r105.Loads, r105.Stores)))

def m_slices_Equal_string_string_b1 (p0_s1 : (List ByteArray)) (p1_s2 : (List ByteArray)) (k102 : Nat) (nx132 : Unit → Option (Bool)) : Option (Bool) := idx p0_s1 (k102 : Int) fun y141 => idx p1_s2 (k102 : Int) fun y145 => if !decide (y141 = y145) then (some false) else (nx132 ())
def m_slices_Equal_string_string (p0_s1 : (List ByteArray)) (p1_s2 : (List ByteArray)) : Option (Bool) := if !decide ((p0_s1.length : Int) = (p1_s2.length : Int)) then (some false) else (forN (fun k s131 n => m_slices_Equal_string_string_b1 p0_s1 p1_s2 k n) (fun _ => some true) ((p0_s1.length : Int) : Int).toNat 0 ())

def m_gridhallkeep4_blackstartFact : Option (Bool) := (m_blackstart_Plan (S_api_Network.mk ([(⟨#[65]⟩), (⟨#[66]⟩)]) ([(S_api_Switch.mk (⟨#[83]⟩) (⟨#[65]⟩) (⟨#[66]⟩) false true)]) [] ([(S_api_Gen.mk (⟨#[71]⟩) (⟨#[65]⟩) 0 0 0), (S_api_Gen.mk (⟨#[72]⟩) (⟨#[66]⟩) 0 0 0)]) [] []) ([(⟨#[71]⟩)])).bind fun r126 => if decide (r126.2 = 0) then (if decide ((r126.1.length : Int) = 1) then (idx r126.1 0 fun y135 => if decide (y135.Gen = (⟨#[72]⟩)) then (idx r126.1 0 fun y142 => (m_slices_Equal_string_string y142.Devices ([(⟨#[83]⟩)])).bind fun r151 => some r151) else (some false)) else (some false)) else (some false)

def m_gridhallref4_Cut_b1 (p1_low : Int) (n103 : Int) : Option (Int) := some (IntKind.i64.wrap (p1_low + n103))
def m_gridhallref4_Cut (p0_n : Int) (p1_low : Int) (p2_high : Int) : Option (Int) := need ((IntKind.i64.wrap ((IntKind.i64.wrap (p2_high - p1_low)) + 1)) ≠ 0) (if decide ((Int.tmod p0_n (IntKind.i64.wrap ((IntKind.i64.wrap (p2_high - p1_low)) + 1))) < 0) then (m_gridhallref4_Cut_b1 p1_low (IntKind.i64.wrap ((Int.tmod p0_n (IntKind.i64.wrap ((IntKind.i64.wrap (p2_high - p1_low)) + 1))) + (IntKind.i64.wrap ((IntKind.i64.wrap (p2_high - p1_low)) + 1))))) else (m_gridhallref4_Cut_b1 p1_low (Int.tmod p0_n (IntKind.i64.wrap ((IntKind.i64.wrap (p2_high - p1_low)) + 1)))))

def m_blackstart_perform_1 (p0_x : S_api_Switch) (p1_c1 : ByteArray) : Bool := (decide (p0_x.Name = p1_c1))

def m_slices_IndexFunc_api_Switch_api_Switch__blackstart_perform_1_b1 (p0_s : (List S_api_Switch)) (p1_f_0 : ByteArray) (k101 : Nat) (nx115 : Unit → Option (Int)) : Option (Int) := idx p0_s (k101 : Int) fun y124 => if (m_blackstart_perform_1 y124 p1_f_0) then (some (k101 : Int)) else (nx115 ())
def m_slices_IndexFunc_api_Switch_api_Switch__blackstart_perform_1 (p0_s : (List S_api_Switch)) (p1_f_0 : ByteArray) : Option (Int) := forN (fun k s114 n => m_slices_IndexFunc_api_Switch_api_Switch__blackstart_perform_1_b1 p0_s p1_f_0 k n) (fun _ => some (-1)) ((p0_s.length : Int) : Int).toNat 0 ()

def m_blackstart_perform_2 (gen : Int) (p1_c1 : (List Int)) (p2_c2 : S_api_Network) : Option (Int) := idx p2_c2.Gens gen fun y101 => (m_slices_Index_string_string p2_c2.Nodes y101.Node).bind fun r105 => idx p1_c1 r105 fun y109 => some y109

def m_blackstart_perform_3S3 (p0_r : ByteArray) (p1_c1_0 : (List Int)) (p1_c1_1 : S_api_Network) (p3_c3 : Int) : Option (Bool) := (m_blackstart_gen p1_c1_1 p0_r).bind fun r101 => (m_blackstart_perform_2 r101 p1_c1_0 p1_c1_1).bind fun r103 => (m_blackstart_perform_2 p3_c3 p1_c1_0 p1_c1_1).bind fun r107 => some (decide (r103 = r107))

def m_slices_IndexFunc_string_string__blackstart_perform_3S3_b1 (p0_s : (List ByteArray)) (p1_f_0_0 : (List Int)) (p1_f_0_1 : S_api_Network) (p1_f_2 : Int) (k101 : Nat) (nx119 : Unit → Option (Int)) : Option (Int) := idx p0_s (k101 : Int) fun y128 => (m_blackstart_perform_3S3 y128 p1_f_0_0 p1_f_0_1 p1_f_2).bind fun r132 => if r132 then (some (k101 : Int)) else (nx119 ())
def m_slices_IndexFunc_string_string__blackstart_perform_3S3 (p0_s : (List ByteArray)) (p1_f_0_0 : (List Int)) (p1_f_0_1 : S_api_Network) (p1_f_2 : Int) : Option (Int) := forN (fun k s118 n => m_slices_IndexFunc_string_string__blackstart_perform_3S3_b1 p0_s p1_f_0_0 p1_f_0_1 p1_f_2 k n) (fun _ => some (-1)) ((p0_s.length : Int) : Int).toNat 0 ()

def m_slices_ContainsFunc_string_string__blackstart_perform_3S3 (p0_s : (List ByteArray)) (p1_f_0_0 : (List Int)) (p1_f_0_1 : S_api_Network) (p1_f_2 : Int) : Option (Bool) := (m_slices_IndexFunc_string_string__blackstart_perform_3S3 p0_s p1_f_0_0 p1_f_0_1 p1_f_2).bind fun r101 => some (decide (0 ≤ r101))

def m_blackstart_perform_b1 (p0_n : S_api_Network) (k114 : Nat) (y169 : ByteArray) (l161 : List S_api_Switch) (nx166 : List S_api_Switch → Option (Int × S_api_Network)) : Option (Int × S_api_Network) := (m_slices_IndexFunc_api_Switch_api_Switch__blackstart_perform_1 l161 y169).bind fun r177 => if decide (r177 < 0) then (some (6, (S_api_Network.mk p0_n.Nodes l161 p0_n.Branches p0_n.Gens p0_n.Loads p0_n.Stores))) else (idx l161 r177 fun y180 => if !y180.Open then (some (11, (S_api_Network.mk p0_n.Nodes l161 p0_n.Branches p0_n.Gens p0_n.Loads p0_n.Stores))) else (idx l161 r177 fun y185 => nx166 (l161.set ((r177 : Int).toNat) (S_api_Switch.mk y185.Name y185.A y185.B_ y185.Breaker false))))
def m_blackstart_perform (p0_n : S_api_Network) (running : (List ByteArray)) (p2_s : S_api_BlackstartStep) : Option (Int × S_api_Network) := (m_blackstart_gen p0_n p2_s.Gen).bind fun r103 => if decide (r103 < 0) then (some (6, p0_n)) else ((m_slices_Contains_string_string running p2_s.Gen).bind fun r110 => if r110 then (some (7, p0_n)) else (if decide (32 < (p2_s.Devices.length : Int)) then (some (2, p0_n)) else (forI (fun k y s165 n => m_blackstart_perform_b1 p0_n k y s165 n) (fun s165 => (m_islands_Places (S_api_Network.mk p0_n.Nodes s165 p0_n.Branches p0_n.Gens p0_n.Loads p0_n.Stores)).bind fun r193 => (m_slices_ContainsFunc_string_string__blackstart_perform_3S3 running r193.1 (S_api_Network.mk p0_n.Nodes s165 p0_n.Branches p0_n.Gens p0_n.Loads p0_n.Stores) r103).bind fun r200 => if !r200 then (some (15, (S_api_Network.mk p0_n.Nodes s165 p0_n.Branches p0_n.Gens p0_n.Loads p0_n.Stores))) else (some (0, (S_api_Network.mk p0_n.Nodes s165 p0_n.Branches p0_n.Gens p0_n.Loads p0_n.Stores)))) 0 p2_s.Devices p0_n.Switches)))

def m_blackstart_Verify_b1 (k131 : Nat) (y294 : S_api_BlackstartStep) (l267 : List ByteArray) (l270 : (List ByteArray)) (l274 : List S_api_Switch) (l277 : (List S_api_Branch)) (l280 : (List S_api_Gen)) (l283 : (List S_api_Load)) (l286 : (List S_api_Store)) (nx291 : (List ByteArray × (List ByteArray) × List S_api_Switch × (List S_api_Branch) × (List S_api_Gen) × (List S_api_Load) × (List S_api_Store)) → Option (S_api_Network × Int × Int)) : Option (S_api_Network × Int × Int) := (m_blackstart_perform (S_api_Network.mk l270 l274 l277 l280 l283 l286) l267 y294).bind fun r304 => if !decide (r304.1 = 0) then (some ((S_api_Network.mk [] [] [] [] [] []), (k131 : Int), r304.1)) else (need ((l267.length + ([y294.Gen]).length) * 16 ≤ 140737488355328) (nx291 ((l267 ++ ([y294.Gen])), r304.2.Nodes, r304.2.Switches, r304.2.Branches, r304.2.Gens, r304.2.Loads, r304.2.Stores)))
def m_blackstart_Verify (p0_n : S_api_Network) (sources : (List ByteArray)) (p2_l : (List S_api_BlackstartStep)) : Option (S_api_Network × Int × Int) := (m_blackstart_check p0_n sources).bind fun r103 => if !decide (r103 = 0) then (some ((S_api_Network.mk [] [] [] [] [] []), 0, r103)) else (if decide (10 < (p2_l.length : Int)) then (some ((S_api_Network.mk [] [] [] [] [] []), 0, 2)) else ((m_netmodel_Copy p0_n).bind fun r107 => need (sources.length * 16 ≤ 140737488355328) (forI (fun k y s290 n => m_blackstart_Verify_b1 k y s290.1 s290.2.1 s290.2.2.1 s290.2.2.2.1 s290.2.2.2.2.1 s290.2.2.2.2.2.1 s290.2.2.2.2.2.2 n) (fun s290 => some ((S_api_Network.mk s290.2.1 s290.2.2.1 s290.2.2.2.1 s290.2.2.2.2.1 s290.2.2.2.2.2.1 s290.2.2.2.2.2.2), 0, 0)) 0 p2_l (sources, r107.Nodes, r107.Switches, r107.Branches, r107.Gens, r107.Loads, r107.Stores))))

def m_gridhallkeep4_BlackstartLess (p0_n : S_api_Network) (sources : (List ByteArray)) (p2_k : Int) : Option (Bool) := (m_gridhallkeep4_cut p0_n).bind fun r102 => (m_blackstart_Plan r102 sources).bind fun r118 => if (!decide (r118.2 = 0)) || (decide ((r118.1.length : Int) = 0)) then ((m_gridhallkeep4_blackstartFact).bind fun r128 => some r128) else ((m_gridhallref4_Cut p2_k 0 (IntKind.i64.wrap ((r118.1.length : Int) - 1))).bind fun r130 => idx r118.1 r130 fun y132 => if decide ((y132.Devices.length : Int) = 0) then ((m_gridhallkeep4_blackstartFact).bind fun r139 => some r139) else (idx r118.1 r130 fun y141 => (m_blackstart_Verify r102 sources (r118.1.set ((r130 : Int).toNat) (S_api_BlackstartStep.mk y141.Gen []))).bind fun r154 => (m_gridhallkeep4_blackstartFact).bind fun r175 => some ((r175 && (decide (r154.2.2 = 15))) && (decide (r154.2.1 = r130)))))

def m_netmodel_Node (p0_n : S_api_Network) (name : ByteArray) : Option (Int × Int) := (m_netmodel_Check p0_n).bind fun r102 => if !decide (r102 = 0) then (some (0, r102)) else ((m_slices_Index_string_string p0_n.Nodes name).bind fun r105 => if decide (r105 < 0) then (some (0, 6)) else (some (r105, 0)))

def m_gridhallkeep4_BlackstartPlans_1_b1 (name : ByteArray) (p1_c1 : S_api_Network) (p2_c2 : (List Int)) (k101 : Nat) (y126 : S_api_Gen) (nx123 : Unit → Option (Int)) : Option (Int) := if decide (y126.Name = name) then ((m_netmodel_Node p1_c1 y126.Node).bind fun r135 => idx p2_c2 (min r135.1 (IntKind.i64.wrap ((p2_c2.length : Int) - 1))) fun y137 => some y137) else (nx123 ())
def m_gridhallkeep4_BlackstartPlans_1 (name : ByteArray) (p1_c1 : S_api_Network) (p2_c2 : (List Int)) : Option (Int) := forI (fun k y s122 n => m_gridhallkeep4_BlackstartPlans_1_b1 name p1_c1 p2_c2 k y n) (fun _ => some (-1)) 0 p1_c1.Gens ()

def m_gridhallkeep4_BlackstartPlans_2 (p0_x : ByteArray) (p1_c1_0 : S_api_Network) (p1_c1_1 : (List Int)) (p2_c2 : S_api_BlackstartStep) : Option (Bool) := (m_gridhallkeep4_BlackstartPlans_1 p0_x p1_c1_0 p1_c1_1).bind fun r101 => (m_gridhallkeep4_BlackstartPlans_1 p2_c2.Gen p1_c1_0 p1_c1_1).bind fun r105 => some (decide (r101 = r105))

def m_slices_IndexFunc_string_string__gridhallkeep4_BlackstartPlans_2_b1 (p0_s : (List ByteArray)) (p1_f_0_0 : S_api_Network) (p1_f_0_1 : (List Int)) (p1_f_1 : S_api_BlackstartStep) (k101 : Nat) (nx119 : Unit → Option (Int)) : Option (Int) := idx p0_s (k101 : Int) fun y128 => (m_gridhallkeep4_BlackstartPlans_2 y128 p1_f_0_0 p1_f_0_1 p1_f_1).bind fun r132 => if r132 then (some (k101 : Int)) else (nx119 ())
def m_slices_IndexFunc_string_string__gridhallkeep4_BlackstartPlans_2 (p0_s : (List ByteArray)) (p1_f_0_0 : S_api_Network) (p1_f_0_1 : (List Int)) (p1_f_1 : S_api_BlackstartStep) : Option (Int) := forN (fun k s118 n => m_slices_IndexFunc_string_string__gridhallkeep4_BlackstartPlans_2_b1 p0_s p1_f_0_0 p1_f_0_1 p1_f_1 k n) (fun _ => some (-1)) ((p0_s.length : Int) : Int).toNat 0 ()

def m_slices_ContainsFunc_string_string__gridhallkeep4_BlackstartPlans_2 (p0_s : (List ByteArray)) (p1_f_0_0 : S_api_Network) (p1_f_0_1 : (List Int)) (p1_f_1 : S_api_BlackstartStep) : Option (Bool) := (m_slices_IndexFunc_string_string__gridhallkeep4_BlackstartPlans_2 p0_s p1_f_0_0 p1_f_0_1 p1_f_1).bind fun r101 => some (decide (0 ≤ r101))

def m_gridhallkeep4_BlackstartPlans_b1 (sources : (List ByteArray)) (r102 : (S_api_Network)) (r157 : ((List Int) × Int)) (k167 : Nat) (y188 : S_api_BlackstartStep) (nx185 : Unit → Option (Bool)) : Option (Bool) := (m_slices_ContainsFunc_string_string__gridhallkeep4_BlackstartPlans_2 sources r102 r157.1 y188).bind fun r198 => if !r198 then (some false) else (nx185 ())
def m_gridhallkeep4_BlackstartPlans (p0_n : S_api_Network) (sources : (List ByteArray)) : Option (Bool) := (m_gridhallkeep4_cut p0_n).bind fun r102 => (m_blackstart_Plan r102 sources).bind fun r118 => if !decide (r118.2 = 0) then ((m_gridhallkeep4_blackstartFact).bind fun r129 => some (r129 && (decide ((r118.1.length : Int) = 0)))) else ((m_blackstart_Verify r102 sources r118.1).bind fun r136 => if ((!decide (r136.2.2 = 0)) || (!decide (r136.2.1 = 0))) || (!decide ((IntKind.i64.wrap ((r118.1.length : Int) + (sources.length : Int))) = (r102.Gens.length : Int))) then (some false) else ((m_islands_Places r136.1).bind fun r157 => if (!decide (r157.2 = 0)) || (!decide ((r157.1.length : Int) = (r102.Nodes.length : Int))) then (some false) else (forI (fun k y s184 n => m_gridhallkeep4_BlackstartPlans_b1 sources r102 r157 k y n) (fun _ => (m_gridhallkeep4_blackstartFact).bind fun r201 => some r201) 0 r118.1 ())))

def m_blackstart_Path_b1 (p0_n : S_api_Network) (p1_a : ByteArray) (p2_b : ByteArray) (k105 : Nat) (nx121 : Unit → Option ((List ByteArray) × Int)) : Option ((List ByteArray) × Int) := idx [p1_a, p2_b] (k105 : Int) fun y130 => (m_slices_Contains_string_string p0_n.Nodes y130).bind fun r133 => if !r133 then (some (([] : List ByteArray), 6)) else (nx121 ())
def m_blackstart_Path (p0_n : S_api_Network) (p1_a : ByteArray) (p2_b : ByteArray) : Option ((List ByteArray) × Int) := (m_netmodel_Check p0_n).bind fun r102 => if !decide (r102 = 0) then (some (([] : List ByteArray), r102)) else (forN (fun k s120 n => m_blackstart_Path_b1 p0_n p1_a p2_b k n) (fun _ => (m_blackstart_path p0_n p1_a p2_b).bind fun r136 => if !r136.2 then (some (([] : List ByteArray), 8)) else (some (r136.1, 0))) (2 : Int).toNat 0 ())

def m_netmodel_find_1 (p0_x : S_api_Switch) (p1_c1 : ByteArray) : Bool := (decide (p0_x.Name = p1_c1))

def m_slices_IndexFunc_api_Switch_api_Switch__netmodel_find_1_b1 (p0_s : (List S_api_Switch)) (p1_f_0 : ByteArray) (k101 : Nat) (nx115 : Unit → Option (Int)) : Option (Int) := idx p0_s (k101 : Int) fun y124 => if (m_netmodel_find_1 y124 p1_f_0) then (some (k101 : Int)) else (nx115 ())
def m_slices_IndexFunc_api_Switch_api_Switch__netmodel_find_1 (p0_s : (List S_api_Switch)) (p1_f_0 : ByteArray) : Option (Int) := forN (fun k s114 n => m_slices_IndexFunc_api_Switch_api_Switch__netmodel_find_1_b1 p0_s p1_f_0 k n) (fun _ => some (-1)) ((p0_s.length : Int) : Int).toNat 0 ()

def m_netmodel_find_2 (p0_x : S_api_Branch) (p1_c1 : ByteArray) : Bool := (decide (p0_x.Name = p1_c1))

def m_slices_IndexFunc_api_Branch_api_Branch__netmodel_find_2_b1 (p0_s : (List S_api_Branch)) (p1_f_0 : ByteArray) (k101 : Nat) (nx115 : Unit → Option (Int)) : Option (Int) := idx p0_s (k101 : Int) fun y124 => if (m_netmodel_find_2 y124 p1_f_0) then (some (k101 : Int)) else (nx115 ())
def m_slices_IndexFunc_api_Branch_api_Branch__netmodel_find_2 (p0_s : (List S_api_Branch)) (p1_f_0 : ByteArray) : Option (Int) := forN (fun k s114 n => m_slices_IndexFunc_api_Branch_api_Branch__netmodel_find_2_b1 p0_s p1_f_0 k n) (fun _ => some (-1)) ((p0_s.length : Int) : Int).toNat 0 ()

def m_netmodel_find_3 (p0_x : S_api_Gen) (p1_c1 : ByteArray) : Bool := (decide (p0_x.Name = p1_c1))

def m_slices_IndexFunc_api_Gen_api_Gen__netmodel_find_3_b1 (p0_s : (List S_api_Gen)) (p1_f_0 : ByteArray) (k101 : Nat) (nx115 : Unit → Option (Int)) : Option (Int) := idx p0_s (k101 : Int) fun y124 => if (m_netmodel_find_3 y124 p1_f_0) then (some (k101 : Int)) else (nx115 ())
def m_slices_IndexFunc_api_Gen_api_Gen__netmodel_find_3 (p0_s : (List S_api_Gen)) (p1_f_0 : ByteArray) : Option (Int) := forN (fun k s114 n => m_slices_IndexFunc_api_Gen_api_Gen__netmodel_find_3_b1 p0_s p1_f_0 k n) (fun _ => some (-1)) ((p0_s.length : Int) : Int).toNat 0 ()

def m_netmodel_find_4 (p0_x : S_api_Load) (p1_c1 : ByteArray) : Bool := (decide (p0_x.Name = p1_c1))

def m_slices_IndexFunc_api_Load_api_Load__netmodel_find_4_b1 (p0_s : (List S_api_Load)) (p1_f_0 : ByteArray) (k101 : Nat) (nx115 : Unit → Option (Int)) : Option (Int) := idx p0_s (k101 : Int) fun y124 => if (m_netmodel_find_4 y124 p1_f_0) then (some (k101 : Int)) else (nx115 ())
def m_slices_IndexFunc_api_Load_api_Load__netmodel_find_4 (p0_s : (List S_api_Load)) (p1_f_0 : ByteArray) : Option (Int) := forN (fun k s114 n => m_slices_IndexFunc_api_Load_api_Load__netmodel_find_4_b1 p0_s p1_f_0 k n) (fun _ => some (-1)) ((p0_s.length : Int) : Int).toNat 0 ()

def m_netmodel_find_5 (p0_x : S_api_Store) (p1_c1 : ByteArray) : Bool := (decide (p0_x.Name = p1_c1))

def m_slices_IndexFunc_api_Store_api_Store__netmodel_find_5_b1 (p0_s : (List S_api_Store)) (p1_f_0 : ByteArray) (k101 : Nat) (nx115 : Unit → Option (Int)) : Option (Int) := idx p0_s (k101 : Int) fun y124 => if (m_netmodel_find_5 y124 p1_f_0) then (some (k101 : Int)) else (nx115 ())
def m_slices_IndexFunc_api_Store_api_Store__netmodel_find_5 (p0_s : (List S_api_Store)) (p1_f_0 : ByteArray) : Option (Int) := forN (fun k s114 n => m_slices_IndexFunc_api_Store_api_Store__netmodel_find_5_b1 p0_s p1_f_0 k n) (fun _ => some (-1)) ((p0_s.length : Int) : Int).toNat 0 ()

def m_netmodel_find (p0_n : S_api_Network) (name : ByteArray) : Option (ByteArray × Int) := (m_slices_Index_string_string p0_n.Nodes name).bind fun r103 => if decide (0 ≤ r103) then (some ((⟨#[110, 111, 100, 101]⟩), r103)) else ((m_slices_IndexFunc_api_Switch_api_Switch__netmodel_find_1 p0_n.Switches name).bind fun r106 => if decide (0 ≤ r106) then (some ((⟨#[115, 119, 105, 116, 99, 104]⟩), r106)) else ((m_slices_IndexFunc_api_Branch_api_Branch__netmodel_find_2 p0_n.Branches name).bind fun r109 => if decide (0 ≤ r109) then (some ((⟨#[98, 114, 97, 110, 99, 104]⟩), r109)) else ((m_slices_IndexFunc_api_Gen_api_Gen__netmodel_find_3 p0_n.Gens name).bind fun r112 => if decide (0 ≤ r112) then (some ((⟨#[103, 101, 110]⟩), r112)) else ((m_slices_IndexFunc_api_Load_api_Load__netmodel_find_4 p0_n.Loads name).bind fun r115 => if decide (0 ≤ r115) then (some ((⟨#[108, 111, 97, 100]⟩), r115)) else ((m_slices_IndexFunc_api_Store_api_Store__netmodel_find_5 p0_n.Stores name).bind fun r118 => if decide (0 ≤ r118) then (some ((⟨#[115, 116, 111, 114, 101]⟩), r118)) else (some ((⟨#[]⟩), (-1))))))))

def m_netmodel_Find (p0_n : S_api_Network) (name : ByteArray) : Option (ByteArray × Int × Int) := (m_netmodel_Check p0_n).bind fun r102 => if !decide (r102 = 0) then (some ((⟨#[]⟩), 0, r102)) else ((m_netmodel_find p0_n name).bind fun r105 => if decide (r105.2 < 0) then (some ((⟨#[]⟩), 0, 6)) else (some (r105.1, r105.2, 0)))

def m_netmodel_Set (p0_n : S_api_Network) (name : ByteArray) (p2_open : Bool) : Option (S_api_Network × Int) := (m_netmodel_Find p0_n name).bind fun r103 => if !decide (r103.2.2 = 0) then (some ((S_api_Network.mk [] [] [] [] [] []), r103.2.2)) else (if !decide (r103.1 = (⟨#[115, 119, 105, 116, 99, 104]⟩)) then (some ((S_api_Network.mk [] [] [] [] [] []), 1)) else ((m_netmodel_Copy p0_n).bind fun r107 => idx r107.Switches r103.2.1 fun y128 => some ((S_api_Network.mk r107.Nodes (r107.Switches.set ((r103.2.1 : Int).toNat) (S_api_Switch.mk y128.Name y128.A y128.B_ y128.Breaker p2_open)) r107.Branches r107.Gens r107.Loads r107.Stores), 0)))

def m_gridhallkeep4_BlackstartPaths_1_b1 (k102 : Nat) (y201 : ByteArray) (l178 : (List ByteArray)) (l181 : (List S_api_Switch)) (l184 : (List S_api_Branch)) (l187 : (List S_api_Gen)) (l190 : (List S_api_Load)) (l193 : (List S_api_Store)) (nx198 : ((List ByteArray) × (List S_api_Switch) × (List S_api_Branch) × (List S_api_Gen) × (List S_api_Load) × (List S_api_Store)) → Option (Bool)) : Option (Bool) := (m_netmodel_Set (S_api_Network.mk l178 l181 l184 l187 l190 l193) y201 false).bind fun r208 => nx198 (r208.1.Nodes, r208.1.Switches, r208.1.Branches, r208.1.Gens, r208.1.Loads, r208.1.Stores)
def m_gridhallkeep4_BlackstartPaths_1 (names : (List ByteArray)) (p1_c1 : S_api_Network) (p2_c2 : Int) (p3_c3 : Int) : Option (Bool) := forI (fun k y s197 n => m_gridhallkeep4_BlackstartPaths_1_b1 k y s197.1 s197.2.1 s197.2.2.1 s197.2.2.2.1 s197.2.2.2.2.1 s197.2.2.2.2.2 n) (fun s197 => (m_islands_Places (S_api_Network.mk s197.1 s197.2.1 s197.2.2.1 s197.2.2.2.1 s197.2.2.2.2.1 s197.2.2.2.2.2)).bind fun r224 => if decide (r224.2 = 0) then (if decide ((r224.1.length : Int) = (p1_c1.Nodes.length : Int)) then (idx r224.1 p2_c2 fun y235 => idx r224.1 p3_c3 fun y239 => some (decide (y235 = y239))) else (some false)) else (some false)) 0 names (p1_c1.Nodes, p1_c1.Switches, p1_c1.Branches, p1_c1.Gens, p1_c1.Loads, p1_c1.Stores)

def m_gridhallkeep4_BlackstartPaths_b1 (p0_n : S_api_Network) (r113 : (Int)) (r117 : (Int)) (r127 : ((List ByteArray) × Int)) (k170 : Nat) (nx196 : Unit → Option (Bool)) : Option (Bool) := need (r127.1.length * 16 ≤ 140737488355328) (need (0 ≤ (k170 : Int) ∧ (k170 : Int) < (IntKind.i64.wrap ((k170 : Int) + 1)) ∧ (IntKind.i64.wrap ((k170 : Int) + 1)) ≤ (r127.1.length : Int)) ((m_gridhallkeep4_BlackstartPaths_1 (r127.1.take ((k170 : Int)).toNat ++ r127.1.drop (IntKind.i64.wrap ((k170 : Int) + 1)).toNat) p0_n r113 r117).bind fun r214 => if r214 then (some false) else (nx196 ())))
def m_gridhallkeep4_BlackstartPaths (p0_n : S_api_Network) (p1_i : Int) (p2_j : Int) : Option (Bool) := (m_netmodel_Check p0_n).bind fun r107 => if (!decide (r107 = 0)) || (decide ((p0_n.Nodes.length : Int) = 0)) then ((m_gridhallkeep4_blackstartFact).bind fun r111 => some r111) else ((m_gridhallref4_Cut p1_i 0 (IntKind.i64.wrap ((p0_n.Nodes.length : Int) - 1))).bind fun r113 => (m_gridhallref4_Cut p2_j 0 (IntKind.i64.wrap ((p0_n.Nodes.length : Int) - 1))).bind fun r117 => idx p0_n.Nodes r113 fun y119 => idx p0_n.Nodes r117 fun y123 => (m_blackstart_Path p0_n y119 y123).bind fun r127 => idx p0_n.Nodes r117 fun y137 => idx p0_n.Nodes r113 fun y141 => (m_blackstart_Path p0_n y137 y141).bind fun r145 => if !decide (r127.2 = 0) then ((m_gridhallkeep4_blackstartFact).bind fun r161 => some (((r161 && (decide (r127.2 = 8))) && (decide (r145.2 = r127.2))) && (decide ((r127.1.length : Int) = 0)))) else (if (!decide (r145.2 = 0)) || (!decide ((r145.1.length : Int) = (r127.1.length : Int))) then (some false) else (forN (fun k s195 n => m_gridhallkeep4_BlackstartPaths_b1 p0_n r113 r117 r127 k n) (fun _ => (m_gridhallkeep4_blackstartFact).bind fun r217 => if r217 then ((m_gridhallkeep4_BlackstartPaths_1 r127.1 p0_n r113 r117).bind fun r220 => some r220) else (some false)) ((r127.1.length : Int) : Int).toNat 0 ())))
end Go.Sim
