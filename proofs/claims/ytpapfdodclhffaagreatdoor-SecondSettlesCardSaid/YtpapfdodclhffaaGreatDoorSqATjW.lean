/-
  The proof, part A of TjW.
-/
import Derived.Laws.Bits64b
import Derived.Test.YtpapfdodclhffaaGreatDoorSqA2
set_option linter.unusedVariables false
set_option linter.unusedSimpArgs false
set_option linter.unusedSectionVars false
set_option linter.unnecessarySimpa false
namespace Go.Sim
open Go
open _root_.Go.IntKind (i64 u64 u32 u8)
def qG (j:aG):Option (aG):=cZ (0<=(min (j.bM.length:Int) 4)/\(min (j.bM.length:Int) 4)<=(j.bM.length:Int)) (cZ (0<=(min (j.dI.length:Int) 4)/\(min (j.dI.length:Int) 4)<=(j.dI.length:Int)) (some (aG.mk j.bP j.aT j.aL (pM j.dI 0 ((min (j.dI.length:Int) 4:Int).toNat)) (pM j.bM 0 ((min (j.bM.length:Int) 4:Int).toNat)) j.cB)))
def kC (o:aN):Option (aN):=(qG o.bN).bind λj=>cZ (0<=(min (j.bM.length:Int) 3)/\(min (j.bM.length:Int) 3)<=(j.bM.length:Int)) (some (aN.mk (aG.mk j.bP j.aT j.aL j.dI (pM j.bM 0 ((min (j.bM.length:Int) 3:Int).toNat)) j.cB) o.jO))
def qH:aG:=(aG.mk ([(⟨#[65]⟩),(⟨#[66]⟩)]) ([(aX.mk (⟨#[83]⟩) (⟨#[65]⟩) (⟨#[66]⟩) false true)]) ([(aS.mk (⟨#[76]⟩) (⟨#[65]⟩) (⟨#[66]⟩) 1000 1000 0 40 60 10)]) ([(bK.mk (⟨#[71]⟩) (⟨#[65]⟩) 10 50 0)]) ([(aI.mk (⟨#[68]⟩) (⟨#[66]⟩) 30)]) ([]:List bW))
def cG (j:aC):Int:=(j.events.a1.length:Int)
def c_:Option (Bool):=(oO (aN.mk ((qH)) [])).bind λJ=>AA J.1 (some false) (λY=>if !decide (J.2=0) then (some false) else ((gF Y (aB.mk 5 (⟨#[108,111,97,100]⟩) (⟨#[68]⟩) 20)).bind λo=>(fC o.2.2 0).bind λR=>(fC R.2 0).bind λj=>(gP j.2).bind λI=>if decide (o.1=1) then (if decide (o.2.1=0) then (if decide (R.1=0) then (if decide (j.1=0) then (if decide ((aZ j.2)=1) then (if decide ((cG j.2)=1) then (if decide (I.1=I.2) then (some (!decide (I.1=0))) else (some false)) else (some false)) else (some false)) else (some false)) else (some false)) else (some false)) else (some false)))
def fV (j:aC):Option ((List aP)):=cZ (j.fM.length*72<=140737488355328) (some j.fM)
def jC (j:aC) (o:Int):Option (Int×aC):=if (decide (o<0)) || (decide ((j.fM.length:Int)<=o)) then (some (8,j)) else (idx j.fM o λJ=>(lq j ([J])).bind λI=>some (I.1,I.2))
def eE (j:aC):Int:=j.done
def iF:Bool:=true
def bB (o:aC->Option (Bool×aC)) (j:aC):Option (Bool×aC):=if !(iF) then (some (false,j)) else (o j)
def dF (I:(List aB)) (o:aC) (j:aC->Option (Bool×aC)) (R:Nat) (Y:(Int)) (J:Int) (U:Bool):Option (Bool×aC):=if U then (if decide (0<(I.length:Int)) then (cZ ((I.length:Int)≠0) (idx I (Int.tmod (R:Int) (I.length:Int)) λZ=>(gF o Z).bind λRE=>bB j RE.2.2)) else (bB j o)) else (if decide ((Int.tmod Y 10)=3) then ((hO o J).bind λRF=>bB j RF.2) else (if decide ((Int.tmod Y 10)=4) then ((jC o J).bind λRG=>bB j RG.2) else (if decide ((Int.tmod Y 10)=5) then ((gE o).bind λRH=>bB j RH.2) else (if decide ((Int.tmod Y 10)=6) then (if decide (Y<30) then ((fZ o).bind λRI=>bB j RI.2) else (bB j o)) else ((fC o J).bind λRJ=>bB j RJ.2)))))
def eN (o:(List aB)) (I:aC) (j:aC->Option (Bool×aC)) (J:Nat) (Y:(Int)) (R:Int):Option (Bool×aC):=if decide ((Int.tmod Y 10)=0) then (dF o I j J Y R (decide ((Int.tmod Y 10)=0))) else (if decide ((Int.tmod Y 10)=1) then (dF o I j J Y R (decide ((Int.tmod Y 10)=1))) else (dF o I j J Y R (decide ((Int.tmod Y 10)=2))))
def fT (J:(List aB)) (R:Nat) (U:Int) (j:aC) (o:aC->Option (Bool×aC)):Option (Bool×aC):=(jI U 0 79).bind λY=>(fV j).bind λI=>if decide (0<(I.length:Int)) then (cZ ((I.length:Int)≠0) (eN J j o R Y (Int.tmod (i64.wrap (Int.tdiv Y 10)) (I.length:Int)))) else (eN J j o R Y (i64.wrap (Int.tdiv Y 10)))
def dV (o:aC) (I:(List aB)) (calls:(List Int)):Option (Bool×aC):=cZ (0<=(min (calls.length:Int) 20)/\(min (calls.length:Int) 20)<=(calls.length:Int)) (eL (λk y j n=>fT I k y j n) (λj=>some (true,j)) 0 (pM calls 0 ((min (calls.length:Int) 20:Int).toNat)) o)
def mo (R:Nat) (j:aC) (o:aC->Option (Bool)):Option (Bool):=(fV j).bind λJ=>if decide (0<(J.length:Int)) then ((fC j 0).bind λI=>if !decide (I.1=0) then (some false) else (o I.2)) else (o j)
def kM (R:aC):Option (Bool):=(gE R).bind λI=>if !decide (I.1=0) then (some false) else (lH (λk j n=>mo k j n) (λj=>(gP j).bind λJ=>(fR j).bind λo=>(c_).bind λU=>if U then ((fV j).bind λY=>if decide ((Y.length:Int)=0) then (if decide (J.1=J.2) then (if decide ((cG j)=(o.length:Int)) then (if decide ((eE j)=(o.length:Int)) then (some (decide ((aZ j)=(o.length:Int)))) else (some false)) else (some false)) else (some false)) else (some false)) else (some false)) (100:Int).toNat 0 I.2)
def mq (j:aC) (I:aC->Option (Bool)):Option (Bool):=(fV j).bind λJ=>if decide (0<(J.length:Int)) then ((hO j 0).bind λo=>if !decide (o.1=0) then (some false) else (I o.2)) else (kM j)
def gR (o:aN) (I:(List aB)) (calls:(List Int)):Option (Bool):=(kC o).bind λJ=>(oO J).bind λj=>AA j.1 ((c_).bind λR=>some R) (λY=>if !decide (j.2=0) then ((c_).bind λRE=>some false) else (cZ (0<=(min (calls.length:Int) 12)/\(min (calls.length:Int) 12)<=(calls.length:Int)) ((dV Y I (pM calls 0 ((min (calls.length:Int) 12:Int).toNat))).bind λU=>iV (λZ n=>mq Z n) gO U.2)))
end Go.Sim
