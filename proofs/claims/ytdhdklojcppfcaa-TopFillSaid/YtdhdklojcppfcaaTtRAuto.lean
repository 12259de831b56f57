/- Written by a program of mine (wip/tools/gen.py): contexts and conditions of functions. -/
import Derived.Test.YtdhdklojcppfcaaTtBAuto
import Derived.Test.YtdhdklojcppfcaaTtRSpec
import Derived.Test.YtdhdklojcppfcaaProg
set_option linter.all false
set_option linter.unusedVariables false
set_option maxRecDepth 100000
set_option maxHeartbeats 4000000
namespace Go.Tt
open Go Go.Sx
def TR:Tabs:={
 tyL:=[(3,I),(4,.bo),(56,(.sl I)),(57,(.sl (.st (.p I I)))),(62,(.st (.p I I)))],
 elL:=[(56,3),(57,62)],
 oneL:=[],
 mtyL:=[(122,(3,221)),(123,(3,221)),(147,(153,3)),(148,(153,3)),(249,(3,4)),(282,(4,281))] }
def k81:Con:={ args:=[I,I,I],res:=[.bo],pre:=zda,val:=zbt }
def k82:Con:={ args:=[I],res:=[I],pre:=zdt,val:=zaW }
def k97:Con:={ args:=[I,I],res:=[.bo],pre:=ref09u_Has_p,val:=ref09u_Has }
def k32:Con:={ args:=[(.sl I),I],res:=[I],pre:=ref09u_Needs_p,val:=ref09u_Needs }
def k23:Con:={ args:=[(.sl I),(.sl (.st (.p I I)))],res:=[.bo],pre:=zdu,val:=zbe }
def cx81:Cx:=mkCx TR 15 [] [] [] [] [] [] [] none
def V81 (x:Int × Int × Int):Prop:=(((decide ((x.2.1:Int)<=x.1)&&decide ((x.1:Int)<=x.2.2)):Bool)=(zbt x))
theorem e81 (x:Ds k81.args):vcFun cx81 Go.Proofs.Try.f81 k81 x=V81 x:=by kernel_rfl
def cx82:Cx:=mkCx TR 13 [] [] [] [] [] [(3,⟨[(3,false),(4,false)],[],[],[]⟩)] [] none
def V82 (x:Int):Prop:=Z.LoopP (X:=(Prod Int Int)) ((1,0)) (fun s0 K0=>(((decide ((s0.2:Int)<x)=true)->(Z.in64 (2*s0.1)∧(Z.in64 (s0.2+1)∧(K0 ((2*s0.1),(s0.2+1))))))∧((decide ((s0.2:Int)<x)=false)->((s0.1:Int)=(zaW x)))))
theorem e82 (x:Ds k82.args):vcFun cx82 Go.Proofs.Try.f82 k82 x=V82 x:=by kernel_rfl
def cx97:Cx:=mkCx TR 11 [(82,k82)] [] [] [] [] [] [] none
def V97 (x:Int × Int):Prop:=((zdt x.2)∧(((((zaW x.2):Int)≠0)∧Z.in64 (Int.tdiv x.1 (zaW x.2)))∧(((2:Int)≠0)∧((((Int.tmod (Int.tdiv x.1 (zaW x.2)) 2)==1):Bool)=(ref09u_Has x)))))
theorem e97 (x:Ds k97.args):vcFun cx97 Go.Proofs.Try.f97 k97 x=V97 x:=by kernel_rfl
def cx32:Cx:=mkCx TR 23 [(97,k97)] [] [] [] [] [(3,⟨[(5,false),(6,false)],[],[],[]⟩)] [] none
def V32 (x:(List Int) × Int):Prop:=Z.LoopP (X:=(Prod Int Int)) ((0,0)) (fun s0 K0=>(((decide ((s0.2:Int)<(x.1.length:Int))=true)->((ref09u_Has_p (x.2,s0.2))∧((((ref09u_Has (x.2,s0.2))=true)->(((0:Int)<=s0.2∧(s0.2:Int)<(x.1.length:Int))∧(Z.in64 (s0.1+(x.1.getD (Int.toNat s0.2) 0))∧(Z.in64 (s0.2+1)∧(K0 ((s0.1+(x.1.getD (Int.toNat s0.2) 0)),(s0.2+1)))))))∧(((ref09u_Has (x.2,s0.2))=false)->(Z.in64 (s0.2+1)∧(K0 (s0.1,(s0.2+1))))))))∧((decide ((s0.2:Int)<(x.1.length:Int))=false)->((s0.1:Int)=(ref09u_Needs x)))))
theorem e32 (x:Ds k32.args):vcFun cx32 Go.Proofs.Try.f32 k32 x=V32 x:=by kernel_rfl
def cx23:Cx:=mkCx TR 63 [(81,k81),(82,k82)] [] [] [] [] [(5,⟨[(5,false),(6,false)],[],[],[]⟩),(11,⟨[(7,false)],[],[],[]⟩)] [] none
def V23 (x:(List Int) × List (Int × Int)):Prop:=((zda ((x.1.length:Int),1,8))∧(((((!(zbt ((x.1.length:Int),1,8)))||decide ((8:Int)<(x.2.length:Int)))=true)->((false:Bool)=(zbe x)))∧((((!(zbt ((x.1.length:Int),1,8)))||decide ((8:Int)<(x.2.length:Int)))=false)->Z.LoopP (X:=(Prod Int Int)) ((0,0)) (fun s0 K0=>(((decide ((s0.2:Int)<(x.1.length:Int))=true)->(((0:Int)<=s0.2∧(s0.2:Int)<(x.1.length:Int))∧((zda ((x.1.getD (Int.toNat s0.2) 0),0,48))∧((((!(zbt ((x.1.getD (Int.toNat s0.2) 0),0,48)))=true)->((false:Bool)=(zbe x)))∧(((!(zbt ((x.1.getD (Int.toNat s0.2) 0),0,48)))=false)->(((0:Int)<=s0.2∧(s0.2:Int)<(x.1.length:Int))∧(Z.in64 (s0.1+(x.1.getD (Int.toNat s0.2) 0))∧(Z.in64 (s0.2+1)∧(K0 ((s0.1+(x.1.getD (Int.toNat s0.2) 0)),(s0.2+1)))))))))))∧((decide ((s0.2:Int)<(x.1.length:Int))=false)->Z.LoopP (X:=Int) (0) (fun s1 K1=>(((decide ((s1:Int)<(x.2.length:Int))=true)->(((0:Int)<=s1∧(s1:Int)<(x.2.length:Int))∧((zdt (x.1.length:Int))∧(Z.in64 ((zaW (x.1.length:Int)) - 1)∧((zda ((x.2.getD (Int.toNat s1) (0,0)).1,0,((zaW (x.1.length:Int)) - 1)))∧((((!(zbt ((x.2.getD (Int.toNat s1) (0,0)).1,0,((zaW (x.1.length:Int)) - 1))))=false)->((0:Int)<=s1∧(s1:Int)<(x.2.length:Int)))∧((((!(zbt ((x.2.getD (Int.toNat s1) (0,0)).1,0,((zaW (x.1.length:Int)) - 1))))=false)->(zda ((x.2.getD (Int.toNat s1) (0,0)).2,0,1048576)))∧(((((!(zbt ((x.2.getD (Int.toNat s1) (0,0)).1,0,((zaW (x.1.length:Int)) - 1))))||(!(zbt ((x.2.getD (Int.toNat s1) (0,0)).2,0,1048576))))=true)->((false:Bool)=(zbe x)))∧((((!(zbt ((x.2.getD (Int.toNat s1) (0,0)).1,0,((zaW (x.1.length:Int)) - 1))))||(!(zbt ((x.2.getD (Int.toNat s1) (0,0)).2,0,1048576))))=false)->(Z.in64 (s1+1)∧(K1 (s1+1))))))))))))∧((decide ((s1:Int)<(x.2.length:Int))=false)->((decide ((0:Int)<s0.1):Bool)=(zbe x)))))))))))
theorem e23 (x:Ds k23.args):vcFun cx23 Go.Proofs.Try.f23 k23 x=V23 x:=by kernel_rfl
end Go.Tt
