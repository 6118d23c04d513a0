/-
  The proof, part A of TjU.
-/
import Derived.Laws.Bits64b
import Derived.Test.YtpapfdodclhffaaGreatDoorSqA2
set_option linter.unusedVariables false
set_option linter.unusedSimpArgs false
set_option linter.unusedSectionVars false
set_option linter.unnecessarySimpa false
namespace Go.Sim
open Go Go.RowKit
open _root_.Go.IntKind (i64 u64 u32 u8)
section
variable {κ ν:Type}[DecidableEq κ] [yG κ] [MV ν]
end
section
variable {x:Cx}{ops:Array Oper}{Q:mj}{rest:List Oper}{H:Hp}{M M':List b_}{L L':Env}
variable {d:Nat}{ty:TypeId}{pos:String}{aft:Array Edge}{g:Option (Nat×Bool)}
variable {κ ν:Type}[DecidableEq κ] [yG κ] [MV ν]
end
section
variable {x:Cx}{ops:Array Oper}{Q:mj}{rest:List Oper}{H:Hp}{M M':List b_}{L L':Env}
variable {d:Nat}{ty:TypeId}{pos:String}{aft:Array Edge}{g:Option (Nat×Bool)}
def KA (P:Program) (d:Nat) (xs ys:Array RV) (T:TypeId) (o:Nat) (b:Bool):Prop:=
 ∀ w,∃ u v,(part T xs o).run P w=.ok u w/\(part T ys o).run P w=.ok v w/\(Op.equalIn d T u v).run P w=.ok b w
def Q7 (P:Program) (d:Nat) (xs ys:Array RV):List Field->List Bool->Prop
 | [],[]=>True
 | f::fs,b::bs=>f.name ≠ "_" /\ KA P d xs ys f.type f.offset b/\Q7 P d xs ys fs bs
 | _,_=>False
theorem BM {P:Program}{t:TypeId}{fs:Array Field}{xs ys:Array RV}{w:World}{d:Nat}{bs:List Bool} (J:∀ w,(underlying t).run P w=.ok (.struct fs) w) (hs:P.stoodInHeld t=false)
  (h:Q7 P d xs ys fs.toList bs):(Op.equalIn (d+1) t (.agg xs) (.agg ys)).run P w=.ok (bs.all id) w:=by
 unfold Op.equalIn;simp only [Se,J,Sb,program,Sem.run,hs,Te,TV];rw [<- Array.forIn_toList]
 revert h
 generalize fs.toList=l;intro h
 induction l generalizing bs with
 | nil=>
  cases bs with
  | nil=>simp
  | cons b bs=>exact h.elim
 | cons f l ih=>
  cases bs with
  | nil=>exact h.elim
  | cons b bs=>
   obtain ⟨h1,h2,I⟩:=h;obtain ⟨u,v,Y,q2,Z⟩:=h2 w;rw [List.forIn_cons];simp only [R9 h1,Se,Y,q2,Z,Sb];cases b with
   | false=>simp
   | true=>
    simp only [Bool.not_true,Te,TV,Sk,Sb];have:=ih I;simpa using this
theorem Et {P:Program}{d T o:Nat}{xs ys:Array RV}{k:IntKind}{m n:Int} (hA:∀ w,(isAgg T).run P w=.ok false w) (I:∀ w,(underlying T).run P w=.ok (.int k) w) (J:xs[o]? = some (.int k m)) (Y:ys[o]? = some (.int k n)):
  KA P (d+1) xs ys T o (decide (m=n)):=λw=>by
 refine ⟨_,_,by simp only [part,Se,hA,Sb,Te,TV,J,Sk]; rfl,by simp only [part,Se,hA,Sb,Te,TV,Y,Sk]; rfl,?_⟩
 unfold Op.equalIn;simp [I,Fo]
theorem Eu {P:Program}{d T o:Nat}{xs ys:Array RV}{m n:RU} (hA:∀ w,(isAgg T).run P w=.ok false w) (I:∀ w,(underlying T).run P w=.ok .string w) (J:xs[o]? = some (.string m)) (Y:ys[o]? = some (.string n)):
  KA P (d+1) xs ys T o (decide (m=n)):=λw=>by
 refine ⟨_,_,by simp only [part,Se,hA,Sb,Te,TV,J,Sk]; rfl,by simp only [part,Se,hA,Sb,Te,TV,Y,Sk]; rfl,?_⟩
 unfold Op.equalIn;simp [I,E2]
theorem MR {t u:TypeId}{y z:Operand}{xs ys:List RV}{b:Bool} (Y:gd ops L ⟨some d,.binOp .neq t y z u,ty,pos,aft,g⟩=some true) (hN:Nat.blt d x.N=true)
  (J:x.P.eqGuardType x.P.depth t=false) (hy:ev L y=some (.agg xs.toArray)) (hz:ev L z=some (.agg ys.toArray)) (h:∀ w,(Op.equalIn 10000 t (.agg xs.toArray) (.agg ys.toArray)).run x.P w=.ok b w)
  (k:W x ops Q rest H M ((d,.bool (!b))::L)):W x ops Q (⟨some d,.binOp .neq t y z u,ty,pos,aft,g⟩::rest) H M L:=
 gL rfl Y hN (λc w hs _=>by
  have I:(Op.equal t (.agg xs.toArray) (.agg ys.toArray)).run x.P w=.ok b w:=h w;have Z:∀ w,(program:Sem Program).run x.P w=.ok x.P w:=λ_=>rfl;simp only [execOp,hs.ev hy,hs.ev hz,Se,eqGuard,binOp];simp [I,Z,J]) k
end
end Go.Sim
namespace Go.Sim
open Go
open _root_.Go.IntKind (i64 u64 u32 u8)
def qG (j:aG):Option (aG):=cZ (0<=(min (j.bM.length:Int) 4)/\(min (j.bM.length:Int) 4)<=(j.bM.length:Int)) (cZ (0<=(min (j.dI.length:Int) 4)/\(min (j.dI.length:Int) 4)<=(j.dI.length:Int)) (some (aG.mk j.bP j.aT j.aL (pM j.dI 0 ((min (j.dI.length:Int) 4:Int).toNat)) (pM j.bM 0 ((min (j.bM.length:Int) 4:Int).toNat)) j.cB)))
def kC (o:aN):Option (aN):=(qG o.bN).bind λj=>cZ (0<=(min (j.bM.length:Int) 3)/\(min (j.bM.length:Int) 3)<=(j.bM.length:Int)) (some (aN.mk (aG.mk j.bP j.aT j.aL j.dI (pM j.bM 0 ((min (j.bM.length:Int) 3:Int).toNat)) j.cB) o.jO))
def qH:aG:=(aG.mk ([(⟨#[65]⟩),(⟨#[66]⟩)]) ([(aX.mk (⟨#[83]⟩) (⟨#[65]⟩) (⟨#[66]⟩) false true)]) ([(aS.mk (⟨#[76]⟩) (⟨#[65]⟩) (⟨#[66]⟩) 1000 1000 0 40 60 10)]) ([(bK.mk (⟨#[71]⟩) (⟨#[65]⟩) 10 50 0)]) ([(aI.mk (⟨#[68]⟩) (⟨#[66]⟩) 30)]) ([]:List bW))
def cG (j:aC):Int:=(j.events.a1.length:Int)
def c_:Option (Bool):=(oO (aN.mk ((qH)) [])).bind λJ=>AA J.1 (some false) (λY=>if !decide (J.2=0) then (some false) else ((gF Y (aB.mk 5 (⟨#[108,111,97,100]⟩) (⟨#[68]⟩) 20)).bind λo=>(fC o.2.2 0).bind λR=>(fC R.2 0).bind λj=>(gP j.2).bind λI=>if decide (o.1=1) then (if decide (o.2.1=0) then (if decide (R.1=0) then (if decide (j.1=0) then (if decide ((aZ j.2)=1) then (if decide ((cG j.2)=1) then (if decide (I.1=I.2) then (some (!decide (I.1=0))) else (some false)) else (some false)) else (some false)) else (some false)) else (some false)) else (some false)) else (some false)))
def fV (j:aC):Option ((List aP)):=cZ (j.fM.length*72<=140737488355328) (some j.fM)
def jC (j:aC) (o:Int):Option (Int×aC):=if (decide (o<0)) || (decide ((j.fM.length:Int)<=o)) then (some (8,j)) else (idx j.fM o λJ=>(lq j ([J])).bind λI=>some (I.1,I.2))
def eE (j:aC):Int:=j.done
def lC (J:(List aB)) (R:(List aB)) (I:Nat) (U:Unit->Option (Bool)):Option (Bool):=idx J (I:Int) λj=>idx R (I:Int) λo=>if !(decide (j.Time=o.Time) && (decide (j.Kind=o.Kind) && (decide (j.Name=o.Name) && (decide (j.Value=o.Value) && true)))) then (some false) else (U ())
def eU (j:(List aB)) (o:(List aB)):Option (Bool):=if !decide ((j.length:Int)=(o.length:Int)) then (some false) else (lH (λk I n=>lC j o k n) (λ_=>some true) ((j.length:Int):Int).toNat 0 ())
def jA (j:aC) (o:(List aB)):Option (Bool×(List aB)):=(fR j).bind λI=>if decide ((aZ j)<(o.length:Int)) then (some (false,o)) else (if decide ((I.length:Int)<(aZ j)) then (some (false,o)) else (if decide ((aZ j)<(eE j)) then (some (false,o)) else (if decide ((I.length:Int)<(cG j)) then (some (false,o)) else (cZ (0<=(o.length:Int)/\(o.length:Int)<=(I.length:Int)) ((eU (pM I 0 (((o.length:Int):Int).toNat)) o).bind λJ=>if !J then (some (false,o)) else (cZ (0<=(aZ j)/\(aZ j)<=(I.length:Int)) (cZ ((pM I 0 (((aZ j):Int).toNat)).length*48<=140737488355328) (some (true,pM I 0 (((aZ j):Int).toNat))))))))))
def bF (J:(List aB)) (I:(aC×(List aB))->Option (Bool×aC×(List aB))) (j:aC):Option (Bool×aC×(List aB)):=(jA j J).bind λo=>if !o.1 then (some (false,j,o.2)) else (I (j,o.2))
def dJ (R:(List aB)) (o:aC) (I:(List aB)) (j:(aC×(List aB))->Option (Bool×aC×(List aB))) (Y:Nat) (J:(Int)) (U:Int) (Z:Bool):Option (Bool×aC×(List aB)):=if Z then (if decide (0<(R.length:Int)) then (cZ ((R.length:Int)≠0) (idx R (Int.tmod (Y:Int) (R.length:Int)) λRF=>(gF o RF).bind λRG=>bF I j RG.2.2)) else (bF I j o)) else (if decide ((Int.tmod J 10)=3) then ((hO o U).bind λRH=>bF I j RH.2) else (if decide ((Int.tmod J 10)=4) then ((jC o U).bind λRI=>bF I j RI.2) else (if decide ((Int.tmod J 10)=5) then ((gE o).bind λRJ=>bF I j RJ.2) else (if decide ((Int.tmod J 10)=6) then (if decide (J<30) then ((fZ o).bind λRK=>bF I j RK.2) else (bF I j o)) else ((fC o U).bind λRM=>bF I j RM.2)))))
def eV (I:(List aB)) (J:aC) (R:(List aB)) (o:(aC×(List aB))->Option (Bool×aC×(List aB))) (U:Nat) (j:(Int)) (Y:Int):Option (Bool×aC×(List aB)):=if decide ((Int.tmod j 10)=0) then (dJ I J R o U j Y (decide ((Int.tmod j 10)=0))) else (if decide ((Int.tmod j 10)=1) then (dJ I J R o U j Y (decide ((Int.tmod j 10)=1))) else (dJ I J R o U j Y (decide ((Int.tmod j 10)=2))))
def fY (R:(List aB)) (U:Nat) (Z:Int) (o:aC) (Y:(List aB)) (I:(aC×(List aB))->Option (Bool×aC×(List aB))):Option (Bool×aC×(List aB)):=(jI Z 0 79).bind λj=>(fV o).bind λJ=>if decide (0<(J.length:Int)) then (cZ ((J.length:Int)≠0) (eV R o Y I U j (Int.tmod (i64.wrap (Int.tdiv j 10)) (J.length:Int)))) else (eV R o Y I U j (i64.wrap (Int.tdiv j 10)))
def fF (o:aC) (I:(List aB)) (calls:(List Int)) (J:(List aB)):Option (Bool×aC×(List aB)):=cZ (0<=(min (calls.length:Int) 20)/\(min (calls.length:Int) 20)<=(calls.length:Int)) (eL (λk y j n=>fY I k y j.1 j.2 n) (λj=>some (true,j.1,j.2)) 0 (pM calls 0 ((min (calls.length:Int) 20:Int).toNat)) (o,J))
def iD (o:aN) (I:(List aB)) (calls:(List Int)):Option (Bool):=(kC o).bind λJ=>(oO J).bind λj=>AA j.1 ((c_).bind λR=>some R) (λY=>if !decide (j.2=0) then ((c_).bind λRE=>some false) else ((c_).bind λU=>if U then ((fF Y I calls []).bind λZ=>some Z.1) else (some false)))
end Go.Sim
