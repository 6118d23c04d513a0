/-
  The proof, part A of TjV.
-/
import Derived.Laws.Bits64b
import Derived.Test.YtpapfdodclhffaaGreatDoorSqA2
set_option linter.unusedVariables false
set_option linter.unusedSimpArgs false
set_option linter.unusedSectionVars false
set_option linter.unnecessarySimpa false
namespace Go.Sim
open Go
open _root_.Go.IntKind (i64 u64 u32 u8)
def qG (j:aG):Option (aG):=cZ (0<=(min (j.bM.length:Int) 4)/\(min (j.bM.length:Int) 4)<=(j.bM.length:Int)) (cZ (0<=(min (j.dI.length:Int) 4)/\(min (j.dI.length:Int) 4)<=(j.dI.length:Int)) (some (aG.mk j.bP j.aT j.aL (pM j.dI 0 ((min (j.dI.length:Int) 4:Int).toNat)) (pM j.bM 0 ((min (j.bM.length:Int) 4:Int).toNat)) j.cB)))
def kC (o:aN):Option (aN):=(qG o.bN).bind λj=>cZ (0<=(min (j.bM.length:Int) 3)/\(min (j.bM.length:Int) 3)<=(j.bM.length:Int)) (some (aN.mk (aG.mk j.bP j.aT j.aL j.dI (pM j.bM 0 ((min (j.bM.length:Int) 3:Int).toNat)) j.cB) o.jO))
def qH:aG:=(aG.mk ([(⟨#[65]⟩),(⟨#[66]⟩)]) ([(aX.mk (⟨#[83]⟩) (⟨#[65]⟩) (⟨#[66]⟩) false true)]) ([(aS.mk (⟨#[76]⟩) (⟨#[65]⟩) (⟨#[66]⟩) 1000 1000 0 40 60 10)]) ([(bK.mk (⟨#[71]⟩) (⟨#[65]⟩) 10 50 0)]) ([(aI.mk (⟨#[68]⟩) (⟨#[66]⟩) 30)]) ([]:List bW))
def cG (j:aC):Int:=(j.events.a1.length:Int)
def c_:Option (Bool):=(oO (aN.mk ((qH)) [])).bind λJ=>AA J.1 (some false) (λY=>if !decide (J.2=0) then (some false) else ((gF Y (aB.mk 5 (⟨#[108,111,97,100]⟩) (⟨#[68]⟩) 20)).bind λo=>(fC o.2.2 0).bind λR=>(fC R.2 0).bind λj=>(gP j.2).bind λI=>if decide (o.1=1) then (if decide (o.2.1=0) then (if decide (R.1=0) then (if decide (j.1=0) then (if decide ((aZ j.2)=1) then (if decide ((cG j.2)=1) then (if decide (I.1=I.2) then (some (!decide (I.1=0))) else (some false)) else (some false)) else (some false)) else (some false)) else (some false)) else (some false)) else (some false)))
def fV (j:aC):Option ((List aP)):=cZ (j.fM.length*72<=140737488355328) (some j.fM)
def jC (j:aC) (o:Int):Option (Int×aC):=if (decide (o<0)) || (decide ((j.fM.length:Int)<=o)) then (some (8,j)) else (idx j.fM o λJ=>(lq j ([J])).bind λI=>some (I.1,I.2))
def jS (j:aC):Option (Bool):=(gP j).bind λo=>(fR j).bind λI=>if decide ((cG j)<(I.length:Int)) then (some true) else (some (decide (o.1=o.2)))
def bG (o:aC->Option (Bool×aC)) (j:aC):Option (Bool×aC):=(jS j).bind λI=>if !I then (some (false,j)) else (o j)
def dR (J:(List aB)) (o:aC) (j:aC->Option (Bool×aC)) (U:Nat) (I:(Int)) (R:Int) (Y:Bool):Option (Bool×aC):=if Y then (if decide (0<(J.length:Int)) then (cZ ((J.length:Int)≠0) (idx J (Int.tmod (U:Int) (J.length:Int)) λZ=>(gF o Z).bind λRF=>bG j RF.2.2)) else (bG j o)) else (if decide ((Int.tmod I 10)=3) then ((hO o R).bind λRG=>bG j RG.2) else (if decide ((Int.tmod I 10)=4) then ((jC o R).bind λRH=>bG j RH.2) else (if decide ((Int.tmod I 10)=5) then ((gE o).bind λRI=>bG j RI.2) else (if decide ((Int.tmod I 10)=6) then (if decide (I<30) then ((fZ o).bind λRJ=>bG j RJ.2) else (bG j o)) else ((fC o R).bind λRK=>bG j RK.2)))))
def fA (I:(List aB)) (J:aC) (o:aC->Option (Bool×aC)) (R:Nat) (j:(Int)) (U:Int):Option (Bool×aC):=if decide ((Int.tmod j 10)=0) then (dR I J o R j U (decide ((Int.tmod j 10)=0))) else (if decide ((Int.tmod j 10)=1) then (dR I J o R j U (decide ((Int.tmod j 10)=1))) else (dR I J o R j U (decide ((Int.tmod j 10)=2))))
def gG (R:(List aB)) (U:Nat) (Y:Int) (o:aC) (I:aC->Option (Bool×aC)):Option (Bool×aC):=(jI Y 0 79).bind λj=>(fV o).bind λJ=>if decide (0<(J.length:Int)) then (cZ ((J.length:Int)≠0) (fA R o I U j (Int.tmod (i64.wrap (Int.tdiv j 10)) (J.length:Int)))) else (fA R o I U j (i64.wrap (Int.tdiv j 10)))
def fI (o:aC) (I:(List aB)) (calls:(List Int)):Option (Bool×aC):=cZ (0<=(min (calls.length:Int) 20)/\(min (calls.length:Int) 20)<=(calls.length:Int)) (eL (λk y j n=>gG I k y j n) (λj=>some (true,j)) 0 (pM calls 0 ((min (calls.length:Int) 20:Int).toNat)) o)
def iN (o:aN) (I:(List aB)) (calls:(List Int)):Option (Bool):=(kC o).bind λJ=>(oO J).bind λj=>AA j.1 ((c_).bind λR=>some R) (λY=>if !decide (j.2=0) then ((c_).bind λRE=>some false) else ((c_).bind λU=>if U then ((fI Y I calls).bind λZ=>some Z.1) else (some false)))
end Go.Sim
