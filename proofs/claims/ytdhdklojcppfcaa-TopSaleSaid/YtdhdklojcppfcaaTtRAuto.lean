/- Written by a program of mine (wip/tools/gen.py): contexts and conditions of functions. -/
import Derived.Test.YtdhdklojcppfcaaTtBAuto
import Derived.Test.YtdhdklojcppfcaaTtRSpec
import Derived.Test.YtdhdklojcppfcaaProg
set_option linter.all false
set_option linter.unusedVariables false
set_option maxRecDepth 100000
set_option maxHeartbeats 4000000
open Int renaming toNat->yby
open Go.Proofs.Try
namespace Go.Tt
open Go Go.Sx
def TR:Tabs:={
 tyL:=[(3,I),(4,.bo),(56,(.sl I)),(57,(.sl (.st (.p I I)))),(62,(.st (.p I I)))],
 elL:=[(56,3),(57,62)],
 oneL:=[],
 mtyL:=[(122,(3,221)),(123,(3,221)),(147,(153,3)),(148,(153,3)),(249,(3,4)),(282,(4,281))] }
def k81:Con:={ args:=[I,I,I],res:=[.bo],pre:=zdz,val:=zbv }
def k82:Con:={ args:=[I],res:=[I],pre:=zec,val:=zb }
def k97:Con:={ args:=[I,I],res:=[.bo],pre:=zhl,val:=zfo }
def k32:Con:={ args:=[(.sl I),I],res:=[I],pre:=zjd,val:=zhk }
def k23:Con:={ args:=[(.sl I),(.sl (.st (.p I I)))],res:=[.bo],pre:=zfB,val:=zbW }
def cx81:Cx:=mkCx TR 15 [] [] [] [] [] [] [] none
abbrev yZG:=(Prod Int Int)
def V81 (x:Int × Int × Int):Prop:=(((decide ((x.2.1:Int)<=x.1)&&decide ((x.1:Int)<=x.2.2)):Bool)=(zbv x))
theorem e81 (x:Ds k81.args):vcFun cx81 f81 k81 x=V81 x:=by kernel_rfl
def cx82:Cx:=mkCx TR 13 [] [] [] [] [] [(3,⟨[(3,false),(4,false)],[],[],[]⟩)] [] none
def V82 (x:Int):Prop:=Z.LoopP (X:=yZG) ((1,0)) (fun s0 K0=>(((decide ((s0.2:Int)<x)=true)->(Z.in64 (2*s0.1)/\(Z.in64 (s0.2+1)/\(K0 ((2*s0.1),(s0.2+1))))))/\((decide ((s0.2:Int)<x)=false)->((s0.1:Int)=(zb x)))))
theorem e82 (x:Ds k82.args):vcFun cx82 f82 k82 x=V82 x:=by kernel_rfl
def cx97:Cx:=mkCx TR 11 [(82,k82)] [] [] [] [] [] [] none
def V97 (x:Int × Int):Prop:=((zec x.2)/\(((((zb x.2):Int)≠0)/\Z.in64 (Int.tdiv x.1 (zb x.2)))/\(((2:Int)≠0)/\((((Int.tmod (Int.tdiv x.1 (zb x.2)) 2)==1):Bool)=(zfo x)))))
theorem e97 (x:Ds k97.args):vcFun cx97 f97 k97 x=V97 x:=by kernel_rfl
def cx32:Cx:=mkCx TR 23 [(97,k97)] [] [] [] [] [(3,⟨[(5,false),(6,false)],[],[],[]⟩)] [] none
def V32 (x:(List Int) × Int):Prop:=Z.LoopP (X:=yZG) ((0,0)) (fun s0 K0=>(((decide ((s0.2:Int)<(x.1.length:Int))=true)->((zhl (x.2,s0.2))/\((((zfo (x.2,s0.2))=true)->(((0:Int)<=s0.2/\(s0.2:Int)<(x.1.length:Int))/\(Z.in64 (s0.1+(x.1.getD (yby s0.2) 0))/\(Z.in64 (s0.2+1)/\(K0 ((s0.1+(x.1.getD (yby s0.2) 0)),(s0.2+1)))))))/\(((zfo (x.2,s0.2))=false)->(Z.in64 (s0.2+1)/\(K0 (s0.1,(s0.2+1))))))))/\((decide ((s0.2:Int)<(x.1.length:Int))=false)->((s0.1:Int)=(zhk x)))))
theorem e32 (x:Ds k32.args):vcFun cx32 f32 k32 x=V32 x:=by kernel_rfl
def cx23:Cx:=mkCx TR 63 [(81,k81),(82,k82)] [] [] [] [] [(5,⟨[(5,false),(6,false)],[],[],[]⟩),(11,⟨[(7,false)],[],[],[]⟩)] [] none
def V23 (x:(List Int) × List (Int × Int)):Prop:=((zdz ((x.1.length:Int),1,8))/\(((((!(zbv ((x.1.length:Int),1,8)))||decide ((8:Int)<(x.2.length:Int)))=true)->((false:Bool)=(zbW x)))/\((((!(zbv ((x.1.length:Int),1,8)))||decide ((8:Int)<(x.2.length:Int)))=false)->Z.LoopP (X:=yZG) ((0,0)) (fun s0 K0=>(((decide ((s0.2:Int)<(x.1.length:Int))=true)->(((0:Int)<=s0.2/\(s0.2:Int)<(x.1.length:Int))/\((zdz ((x.1.getD (yby s0.2) 0),0,48))/\((((!(zbv ((x.1.getD (yby s0.2) 0),0,48)))=true)->((false:Bool)=(zbW x)))/\(((!(zbv ((x.1.getD (yby s0.2) 0),0,48)))=false)->(((0:Int)<=s0.2/\(s0.2:Int)<(x.1.length:Int))/\(Z.in64 (s0.1+(x.1.getD (yby s0.2) 0))/\(Z.in64 (s0.2+1)/\(K0 ((s0.1+(x.1.getD (yby s0.2) 0)),(s0.2+1)))))))))))/\((decide ((s0.2:Int)<(x.1.length:Int))=false)->Z.LoopP (X:=Int) (0) (fun s1 K1=>(((decide ((s1:Int)<(x.2.length:Int))=true)->(((0:Int)<=s1/\(s1:Int)<(x.2.length:Int))/\((zec (x.1.length:Int))/\(Z.in64 ((zb (x.1.length:Int)) - 1)/\((zdz ((x.2.getD (yby s1) (0,0)).1,0,((zb (x.1.length:Int)) - 1)))/\((((!(zbv ((x.2.getD (yby s1) (0,0)).1,0,((zb (x.1.length:Int)) - 1))))=false)->((0:Int)<=s1/\(s1:Int)<(x.2.length:Int)))/\((((!(zbv ((x.2.getD (yby s1) (0,0)).1,0,((zb (x.1.length:Int)) - 1))))=false)->(zdz ((x.2.getD (yby s1) (0,0)).2,0,1048576)))/\(((((!(zbv ((x.2.getD (yby s1) (0,0)).1,0,((zb (x.1.length:Int)) - 1))))||(!(zbv ((x.2.getD (yby s1) (0,0)).2,0,1048576))))=true)->((false:Bool)=(zbW x)))/\((((!(zbv ((x.2.getD (yby s1) (0,0)).1,0,((zb (x.1.length:Int)) - 1))))||(!(zbv ((x.2.getD (yby s1) (0,0)).2,0,1048576))))=false)->(Z.in64 (s1+1)/\(K1 (s1+1))))))))))))/\((decide ((s1:Int)<(x.2.length:Int))=false)->((decide ((0:Int)<s0.1):Bool)=(zbW x)))))))))))
theorem e23 (x:Ds k23.args):vcFun cx23 f23 k23 x=V23 x:=by kernel_rfl
end Go.Tt
