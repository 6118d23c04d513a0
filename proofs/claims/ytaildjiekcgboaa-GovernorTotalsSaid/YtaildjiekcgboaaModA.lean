/-
  Printed by a program: the models of the Go functions.
-/
import Derived.Test.YtaildjiekcgboaaSimH
namespace Go.Sim
open Go
set_option linter.unusedVariables false
structure S_api_GovernorSetup where
  Set : Int
  Least : Int
  Most : Int
  Droop : Int
  Band : Int
  Ramp : Int
  deriving DecidableEq
instance : Rep S_api_GovernorSetup where
  sz := 6
  E H cs x := cs = [.int .i64 (x.Set), .int .i64 (x.Least), .int .i64 (x.Most), .int .i64 (x.Droop), .int .i64 (x.Band), .int .i64 (x.Ramp)]
  len h := by obtain rfl := h; rfl
  mono hle h := by obtain rfl := h; exact rfl
  one h := by obtain rfl := h; exact (all_cons rfl (all_cons rfl (all_cons rfl (all_cons rfl (all_cons rfl (all_cons rfl all_nil))))))

def m_governor_out (p0_n : Int) (p1_low : Int) (p2_high : Int) : Bool := ((decide (p0_n < p1_low)) || (decide (p2_high < p0_n)))

def m_governor_wrong (p0_f : Int) : Bool := ((m_governor_out p0_f ((-10000)) 10000))

def m_gridhallref4_Cut_b1 (p1_low : Int) (n103 : Int) : Option (Int) := some (IntKind.i64.wrap (p1_low + n103))
def m_gridhallref4_Cut (p0_n : Int) (p1_low : Int) (p2_high : Int) : Option (Int) := need ((IntKind.i64.wrap ((IntKind.i64.wrap (p2_high - p1_low)) + 1)) ≠ 0) (if decide ((Int.tmod p0_n (IntKind.i64.wrap ((IntKind.i64.wrap (p2_high - p1_low)) + 1))) < 0) then (m_gridhallref4_Cut_b1 p1_low (IntKind.i64.wrap ((Int.tmod p0_n (IntKind.i64.wrap ((IntKind.i64.wrap (p2_high - p1_low)) + 1))) + (IntKind.i64.wrap ((IntKind.i64.wrap (p2_high - p1_low)) + 1))))) else (m_gridhallref4_Cut_b1 p1_low (Int.tmod p0_n (IntKind.i64.wrap ((IntKind.i64.wrap (p2_high - p1_low)) + 1)))))

def m_governor_Check (p0_g : S_api_GovernorSetup) : Int := if (((((m_governor_out p0_g.Least 0 p0_g.Most) || (decide (100000 < p0_g.Most))) || (m_governor_out p0_g.Set p0_g.Least p0_g.Most)) || (m_governor_out p0_g.Droop 1 10000)) || (m_governor_out p0_g.Band 0 10000)) || (m_governor_out p0_g.Ramp 0 100000) then 4 else 0

def m_governor_target_b1 (p0_g : S_api_GovernorSetup) (n104 : Int) : Option (Int) := need (p0_g.Droop ≠ 0) (some (min (max (IntKind.i64.wrap (p0_g.Set - (IntKind.i64.wrap (Int.tdiv n104 p0_g.Droop)))) p0_g.Least) p0_g.Most))
def m_governor_target (p0_g : S_api_GovernorSetup) (p1_f : Int) : Option (Int) := if decide (p0_g.Band < p1_f) then (m_governor_target_b1 p0_g (IntKind.i64.wrap (p1_f - p0_g.Band))) else (if decide (p1_f < (IntKind.i64.wrap (0 - p0_g.Band))) then (m_governor_target_b1 p0_g (IntKind.i64.wrap (p1_f + p0_g.Band))) else (m_governor_target_b1 p0_g 0))

def m_governor_Target (p0_g : S_api_GovernorSetup) (p1_f : Int) : Option (Int × Int) := if !decide ((m_governor_Check p0_g) = 0) then (some (0, ((m_governor_Check p0_g)))) else (if (m_governor_wrong p1_f) then (some (0, 4)) else ((m_governor_target p0_g p1_f).bind fun r104 => some (r104, 0)))

def m_governor_Next (p0_g : S_api_GovernorSetup) (now : Int) (p2_f : Int) : Option (Int × Int) := (m_governor_Target p0_g p2_f).bind fun r102 => if !decide (r102.2 = 0) then (some (0, r102.2)) else (if (m_governor_out now p0_g.Least p0_g.Most) then (some (0, 11)) else (some ((min (max r102.1 (IntKind.i64.wrap (now - p0_g.Ramp))) (IntKind.i64.wrap (now + p0_g.Ramp))), 0)))

def m_governor_check_b1 (k102 : Nat) (y114 : S_api_GovernorSetup) (nx111 : Unit → Option (Int)) : Option (Int) := if !decide ((m_governor_Check y114) = 0) then (some ((m_governor_Check y114))) else (nx111 ())
def m_governor_check (p0_l : (List S_api_GovernorSetup)) : Option (Int) := if decide (10 < (p0_l.length : Int)) then (some 2) else (forI (fun k y s n => m_governor_check_b1 k y n) (fun _ => some 0) 0 p0_l ())

def m_governor_total_b1 (p1_f : Int) (k101 : Nat) (y118 : S_api_GovernorSetup) (n112 : Int) (nx115 : Int → Option (Int)) : Option (Int) := (m_governor_target y118 p1_f).bind fun r126 => nx115 (IntKind.i64.wrap (n112 + r126))
def m_governor_total (p0_l : (List S_api_GovernorSetup)) (p1_f : Int) : Option (Int) := forI (fun k y s n => m_governor_total_b1 p1_f k y s n) (fun s => some s) 0 p0_l 0

def m_governor_Total (p0_l : (List S_api_GovernorSetup)) (p1_f : Int) : Option (Int × Int) := (m_governor_check p0_l).bind fun r101 => if !decide (r101 = 0) then (some (0, r101)) else (if (m_governor_wrong p1_f) then (some (0, 4)) else ((m_governor_total p0_l p1_f).bind fun r105 => some (r105, 0)))

def m_governor_Settle_b1 (p0_l : (List S_api_GovernorSetup)) (demand : Int) (n114 : Int) (nx117 : Int → Option (Int × Int)) : Option (Int × Int) := if decide ((-10000) ≤ n114) then ((m_governor_total p0_l n114).bind fun r126 => if decide (demand ≤ r126) then (some (n114, 0)) else (nx117 (IntKind.i64.wrap (n114 - 1)))) else (some (0, 8))
def m_governor_Settle (p0_l : (List S_api_GovernorSetup)) (demand : Int) : Option (Int × Int) := (m_governor_check p0_l).bind fun r101 => if !decide (r101 = 0) then (some (0, r101)) else (loopF (fun s n => m_governor_Settle_b1 p0_l demand s n) FUEL 10000)

def m_gridhallkeep4_governorFact : Option (Bool) := (m_governor_Target (S_api_GovernorSetup.mk 50 0 100 10 20 0) ((-65))).bind fun r102 => (m_governor_Settle ([(S_api_GovernorSetup.mk 50 0 100 10 20 0)]) 54).bind fun r110 => some ((((decide (r102.2 = 0)) && (decide (r110.2 = 0))) && (decide (r102.1 = 54))) && (decide (r110.1 = (-60))))

def m_gridhallkeep4_GovernorFalls (p0_g : S_api_GovernorSetup) (p1_f : Int) (up : Int) : Option (Bool) := (m_gridhallref4_Cut p1_f ((-10000)) 10000).bind fun r102 => (m_gridhallref4_Cut up 0 (IntKind.i64.wrap (10000 - r102))).bind fun r104 => (m_governor_Target p0_g r102).bind fun r106 => (m_governor_Target p0_g (IntKind.i64.wrap (r102 + r104))).bind fun r108 => if !decide (r106.2 = 0) then ((m_gridhallkeep4_governorFact).bind fun r116 => some (((r116 && (decide (r106.1 = 0))) && (decide (r108.1 = 0))) && (decide (r108.2 = r106.2)))) else ((m_gridhallkeep4_governorFact).bind fun r128 => some ((((r128 && (decide (r108.2 = 0))) && (decide (r108.1 ≤ r106.1))) && (decide (p0_g.Least ≤ r108.1))) && (decide (r106.1 ≤ p0_g.Most))))

def m_gridhallkeep4_GovernorTotals_b1 (p1_f : Int) (k111 : Nat) (y130 : S_api_GovernorSetup) (n124 : Int) (nx127 : Int → Option (Bool)) : Option (Bool) := (m_governor_Target y130 p1_f).bind fun r138 => if !decide (r138.2 = 0) then (some false) else (nx127 (IntKind.i64.wrap (n124 + r138.1)))
def m_gridhallkeep4_GovernorTotals (p0_l : (List S_api_GovernorSetup)) (p1_f : Int) : Option (Bool) := (m_governor_Total p0_l p1_f).bind fun r101 => if !decide (r101.2 = 0) then ((m_gridhallkeep4_governorFact).bind fun r107 => some (r107 && (decide (r101.1 = 0)))) else (forI (fun k y s n => m_gridhallkeep4_GovernorTotals_b1 p1_f k y s n) (fun s => (m_gridhallkeep4_governorFact).bind fun r144 => some (r144 && (decide (s = r101.1)))) 0 p0_l 0)

def m_gridhallkeep4_GovernorSettles (p0_l : (List S_api_GovernorSetup)) (demand : Int) : Option (Bool) := (m_governor_Settle p0_l demand).bind fun r101 => if !decide (r101.2 = 0) then ((m_governor_Total p0_l ((-10000))).bind fun r104 => (m_gridhallkeep4_governorFact).bind fun r113 => some ((r113 && (decide (r101.1 = 0))) && ((((decide (r101.2 = 8)) && (decide (r104.2 = 0))) && (decide (r104.1 < demand))) || ((!decide (r101.2 = 8)) && (decide (r104.2 = r101.2)))))) else ((m_governor_Total p0_l r101.1).bind fun r121 => if (!decide (r121.2 = 0)) || (decide (r121.1 < demand)) then (some false) else (if decide (r101.1 = 10000) then ((m_gridhallkeep4_governorFact).bind fun r127 => some r127) else ((m_governor_Total p0_l (IntKind.i64.wrap (r101.1 + 1))).bind fun r129 => (m_gridhallkeep4_governorFact).bind fun r135 => some ((r135 && (decide (r129.2 = 0))) && (decide (r129.1 < demand))))))

def m_gridhallkeep4_GovernorReaches_b1 (p0_g : S_api_GovernorSetup) (p2_f : Int) (r102 : (Int × Int)) (k114 : Nat) (n141 : Int) (nx144 : Int → Option (Bool)) : Option (Bool) := (m_governor_Next p0_g n141 p2_f).bind fun r153 => if (((!decide (r153.2 = 0)) || (decide (p0_g.Ramp < (max (IntKind.i64.wrap (r153.1 - n141)) (IntKind.i64.wrap (n141 - r153.1)))))) || (decide ((max (IntKind.i64.wrap (n141 - r102.1)) (IntKind.i64.wrap (r102.1 - n141))) < (max (IntKind.i64.wrap (r153.1 - r102.1)) (IntKind.i64.wrap (r102.1 - r153.1)))))) || ((!decide (r153.1 = r102.1)) && (!decide ((max (IntKind.i64.wrap (r153.1 - n141)) (IntKind.i64.wrap (n141 - r153.1))) = p0_g.Ramp))) then (some false) else (nx144 r153.1)
def m_gridhallkeep4_GovernorReaches (p0_g : S_api_GovernorSetup) (now : Int) (p2_f : Int) : Option (Bool) := (m_governor_Target p0_g p2_f).bind fun r102 => if !decide (r102.2 = 0) then ((m_gridhallkeep4_governorFact).bind fun r108 => some (r108 && (decide (r102.1 = 0)))) else ((m_gridhallref4_Cut now p0_g.Least p0_g.Most).bind fun r112 => forN (fun k s n => m_gridhallkeep4_GovernorReaches_b1 p0_g p2_f r102 k s n) (fun s => (m_gridhallkeep4_governorFact).bind fun r170 => some (r170 && (((decide (p0_g.Ramp = 0)) || (decide (s = r102.1))) || (decide ((IntKind.i64.wrap (50 * p0_g.Ramp)) < (IntKind.i64.wrap (p0_g.Most - p0_g.Least))))))) (50 : Int).toNat 0 r112)
end Go.Sim
