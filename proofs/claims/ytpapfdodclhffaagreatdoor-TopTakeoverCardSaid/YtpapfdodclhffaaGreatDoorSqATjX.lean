/-
  The proof, part A of TjX.
-/
import Derived.Laws.Bits64b
import Derived.Test.YtpapfdodclhffaaGreatDoorSqA2
set_option linter.unusedVariables false
set_option linter.unusedSimpArgs false
set_option linter.unusedSectionVars false
set_option linter.unnecessarySimpa false
namespace Go.Sim
open Go Go.RowKit
open _root_.Go.IntKind (i64 u64 u32 u8)
section
variable {κ ν:Type}[DecidableEq κ] [yG κ] [MV ν]
end
section
variable {x:Cx}{ops:Array Oper}{Q:mj}{rest:List Oper}{H:Hp}{M M':List b_}{L L':Env}
variable {d:Nat}{ty:TypeId}{pos:String}{aft:Array Edge}{g:Option (Nat×Bool)}
variable {κ ν:Type}[DecidableEq κ] [yG κ] [MV ν]
end
section
variable {x:Cx}{ops:Array Oper}{Q:mj}{rest:List Oper}{H:Hp}{M M':List b_}{L L':Env}
variable {d:Nat}{ty:TypeId}{pos:String}{aft:Array Edge}{g:Option (Nat×Bool)}
def KA (P:Program) (d:Nat) (xs ys:Array RV) (T:TypeId) (o:Nat) (b:Bool):Prop:=
 ∀ w,∃ u v,(part T xs o).run P w=.ok u w/\(part T ys o).run P w=.ok v w/\(Op.equalIn d T u v).run P w=.ok b w
def Q7 (P:Program) (d:Nat) (xs ys:Array RV):List Field->List Bool->Prop
 | [],[]=>True
 | f::fs,b::bs=>f.name ≠ "_" /\ KA P d xs ys f.type f.offset b/\Q7 P d xs ys fs bs
 | _,_=>False
theorem BM {P:Program}{t:TypeId}{fs:Array Field}{xs ys:Array RV}{w:World}{d:Nat}{bs:List Bool} (J:∀ w,(underlying t).run P w=.ok (.struct fs) w) (hs:P.stoodInHeld t=false)
  (h:Q7 P d xs ys fs.toList bs):(Op.equalIn (d+1) t (.agg xs) (.agg ys)).run P w=.ok (bs.all id) w:=by
 unfold Op.equalIn;simp only [Se,J,Sb,program,Sem.run,hs,Te,TV];rw [<- Array.forIn_toList]
 revert h
 generalize fs.toList=l;intro h
 induction l generalizing bs with
 | nil=>
  cases bs with
  | nil=>simp
  | cons b bs=>exact h.elim
 | cons f l ih=>
  cases bs with
  | nil=>exact h.elim
  | cons b bs=>
   obtain ⟨h1,h2,I⟩:=h;obtain ⟨u,v,Y,q2,Z⟩:=h2 w;rw [List.forIn_cons];simp only [R9 h1,Se,Y,q2,Z,Sb];cases b with
   | false=>simp
   | true=>
    simp only [Bool.not_true,Te,TV,Sk,Sb];have:=ih I;simpa using this
theorem Et {P:Program}{d T o:Nat}{xs ys:Array RV}{k:IntKind}{m n:Int} (hA:∀ w,(isAgg T).run P w=.ok false w) (I:∀ w,(underlying T).run P w=.ok (.int k) w) (J:xs[o]? = some (.int k m)) (Y:ys[o]? = some (.int k n)):
  KA P (d+1) xs ys T o (decide (m=n)):=λw=>by
 refine ⟨_,_,by simp only [part,Se,hA,Sb,Te,TV,J,Sk]; rfl,by simp only [part,Se,hA,Sb,Te,TV,Y,Sk]; rfl,?_⟩
 unfold Op.equalIn;simp [I,Fo]
theorem Eu {P:Program}{d T o:Nat}{xs ys:Array RV}{m n:RU} (hA:∀ w,(isAgg T).run P w=.ok false w) (I:∀ w,(underlying T).run P w=.ok .string w) (J:xs[o]? = some (.string m)) (Y:ys[o]? = some (.string n)):
  KA P (d+1) xs ys T o (decide (m=n)):=λw=>by
 refine ⟨_,_,by simp only [part,Se,hA,Sb,Te,TV,J,Sk]; rfl,by simp only [part,Se,hA,Sb,Te,TV,Y,Sk]; rfl,?_⟩
 unfold Op.equalIn;simp [I,E2]
theorem MR {t u:TypeId}{y z:Operand}{xs ys:List RV}{b:Bool} (Y:gd ops L ⟨some d,.binOp .neq t y z u,ty,pos,aft,g⟩=some true) (hN:Nat.blt d x.N=true)
  (J:x.P.eqGuardType x.P.depth t=false) (hy:ev L y=some (.agg xs.toArray)) (hz:ev L z=some (.agg ys.toArray)) (h:∀ w,(Op.equalIn 10000 t (.agg xs.toArray) (.agg ys.toArray)).run x.P w=.ok b w)
  (k:W x ops Q rest H M ((d,.bool (!b))::L)):W x ops Q (⟨some d,.binOp .neq t y z u,ty,pos,aft,g⟩::rest) H M L:=
 gL rfl Y hN (λc w hs _=>by
  have I:(Op.equal t (.agg xs.toArray) (.agg ys.toArray)).run x.P w=.ok b w:=h w;have Z:∀ w,(program:Sem Program).run x.P w=.ok x.P w:=λ_=>rfl;simp only [execOp,hs.ev hy,hs.ev hz,Se,eqGuard,binOp];simp [I,Z,J]) k
end
end Go.Sim
namespace Go.Sim
open Go
open _root_.Go.IntKind (i64 u64 u32 u8)
def lC (J:(List aB)) (R:(List aB)) (I:Nat) (U:Unit->Option (Bool)):Option (Bool):=idx J (I:Int) λj=>idx R (I:Int) λo=>if !(decide (j.Time=o.Time) && (decide (j.Kind=o.Kind) && (decide (j.Name=o.Name) && (decide (j.Value=o.Value) && true)))) then (some false) else (U ())
def eU (j:(List aB)) (o:(List aB)):Option (Bool):=if !decide ((j.length:Int)=(o.length:Int)) then (some false) else (lH (λk I n=>lC j o k n) (λ_=>some true) ((j.length:Int):Int).toNat 0 ())
def pq (j:aN):Option (aN):=cZ (0<=(min (j.bN.bM.length:Int) 3)/\(min (j.bN.bM.length:Int) 3)<=(j.bN.bM.length:Int)) (cZ (0<=(min (j.bN.dI.length:Int) 4)/\(min (j.bN.dI.length:Int) 4)<=(j.bN.dI.length:Int)) (some (aN.mk (aG.mk j.bN.bP j.bN.aT j.bN.aL (pM j.bN.dI 0 ((min (j.bN.dI.length:Int) 4:Int).toNat)) (pM j.bN.bM 0 ((min (j.bN.bM.length:Int) 3:Int).toNat)) j.bN.cB) j.jO)))
def ra:aG:=(aG.mk ([(⟨#[65]⟩),(⟨#[66]⟩)]) ([]:List aX) ([(aS.mk (⟨#[76]⟩) (⟨#[65]⟩) (⟨#[66]⟩) 1000 1000 0 40 60 10)]) ([(bK.mk (⟨#[71]⟩) (⟨#[65]⟩) 10 50 0)]) ([(aI.mk (⟨#[68]⟩) (⟨#[66]⟩) 30)]) ([]:List bW))
def qQ (j:bH):Int:=j.time
def vx (j:bH):Option ((List aB)):=(mX j.log).bind λo=>some o
def r_ (j:bH):Option (dB):=cZ (j.state.iJ.length*16<=140737488355328) (cZ (j.state.kV.length*16<=140737488355328) (some j.state))
def lI:Option (Bool):=(nk (aN.mk ((ra)) [])).bind λo=>AA o.1 (some false) (λY=>if !decide (o.2=0) then (some false) else ((kz Y (aB.mk 5 (⟨#[108,111,97,100]⟩) (⟨#[68]⟩) 20)).bind λj=>if decide (j.1=0) then (if decide ((qQ j.2)=5) then ((vx j.2).bind λI=>if decide ((I.length:Int)=1) then ((r_ j.2).bind λJ=>if decide ((J.kV.length:Int)=1) then ((r_ j.2).bind λR=>idx R.kV 0 λU=>some (decide (U=(⟨#[50,48]⟩)))) else (some false)) else (some false)) else (some false)) else (some false)))
def fU (j:aC->Option (Bool)) (o:aC):Option (Bool):=j o
def n6 (R:Nat) (I:aB) (J:bH) (o:bH->Option (Bool)):Option (Bool):=(kz J I).bind λj=>if !decide (j.1=0) then (some false) else (o j.2)
def lV (o:(List aB)) (R:Nat) (U:Int) (I:aC) (j:aC->Option (Bool)):Option (Bool):=(jI U 0 9).bind λJ=>if (decide (J<4)) && (decide (0<(o.length:Int))) then (cZ ((o.length:Int)≠0) (idx o (Int.tmod (R:Int) (o.length:Int)) λY=>(gF I Y).bind λZ=>fU j Z.2.2)) else (if decide (J=4) then ((hO I 0).bind λRF=>fU j RF.2) else (if decide (J=5) then ((gE I).bind λRG=>fU j RG.2) else ((fC I 0).bind λRH=>fU j RH.2)))
def jG (RG:aN) (RH:(List aB)) (calls:(List Int)):Option (Bool):=(pq RG).bind λU=>(oO U).bind λRD=>AA RD.1 ((lI).bind λRQ=>(lI).bind λRI=>if RI then ((qv U).bind λRJ=>some (decide (RJ=RD.2))) else (some false)) (λY=>(lI).bind λRK=>if (!RK) || (!decide (RD.2=0)) then ((lI).bind λRM=>if RM then (some false) else (some false)) else (cZ (0<=(min (calls.length:Int) 15)/\(min (calls.length:Int) 15)<=(calls.length:Int)) (eL (λk y j n=>lV RH k y j n) (λj=>(fR j).bind λI=>(fR j).bind λo=>cZ (0<=(min (aZ j) (o.length:Int))/\(min (aZ j) (o.length:Int))<=(I.length:Int)) ((fZ j).bind λJ=>if decide (J.1=0) then (if !decide (((pM I 0 ((min (aZ j) (o.length:Int):Int).toNat)).length:Int)=(aZ J.2)) then (some false) else ((fR J.2).bind λR=>(nk U).bind λRE=>AA RE.1 (if decide (RE.2=0) then (some false) else (some false)) (λZ=>if decide (RE.2=0) then (if decide ((R.length:Int)<((pM I 0 ((min (aZ j) (o.length:Int):Int).toNat)).length:Int)) then (some false) else (cZ (0<=((pM I 0 ((min (aZ j) (o.length:Int):Int).toNat)).length:Int)/\((pM I 0 ((min (aZ j) (o.length:Int):Int).toNat)).length:Int)<=(R.length:Int)) ((eU (pM R 0 ((((pM I 0 ((min (aZ j) (o.length:Int):Int).toNat)).length:Int):Int).toNat)) (pM I 0 ((min (aZ j) (o.length:Int):Int).toNat))).bind λRN=>if !RN then (some false) else (eL (λk y RF n=>n6 k y RF n) (λRF=>(gP J.2).bind λRO=>(jL RF).bind λRP=>some (decide (RO.1=RP))) 0 R Z)))) else (some false)))) else (some false))) 0 (pM calls 0 ((min (calls.length:Int) 15:Int).toNat)) Y)))
end Go.Sim
