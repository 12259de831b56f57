/- Written by a program of mine (wip/tools/gen.py): contexts and conditions of functions. -/
import Derived.Test.YtfjkenhmaebpmaaFireSpec5
import Derived.Test.YtfjkenhmaebpmaaProg
set_option linter.all false
set_option linter.unusedVariables false
set_option maxRecDepth 100000
set_option maxHeartbeats 4000000
namespace Go.Fire
open Go Go.Sx
def T5:Tabs:={
 tyL:=[(3,I),(4,.bo),(5,(.i .u8)),(22,(.sl (.st (.p (.st (.p I I)) (.st (.p I I)))))),(24,(.st (.p (.sl (.st (.p (.st (.p I I)) (.st (.p I I))))) (.p I (.p I I))))),(26,(.st (.p I (.p I (.p I (.p I (.p I I))))))),(27,(.sl I)),(30,(.st (.p I I))),(31,I),(52,(.f1 (.sl I) .bo)),(58,(.st (.p (.st (.p I I)) (.st (.p I I))))),(61,(.sl (.i .u8)))],
 elL:=[(22,58),(27,3),(61,5)],
 oneL:=[22,27],
 mtyL:=[(88,(97,97)),(107,(111,3))] }
def k36:Con:={ args:=[(.st (.p (.sl (.st (.p (.st (.p I I)) (.st (.p I I))))) (.p I (.p I I)))),(.sl I)],res:=[.bo],pre:=ref03u_Places_p,val:=ref03u_Places }
def k9:Con:={ args:=[(.st (.p (.sl (.st (.p (.st (.p I I)) (.st (.p I I))))) (.p I (.p I I)))),(.st (.p I (.p I (.p I (.p I (.p I I)))))),(.sl I),(.sl (.i .u8))],res:=[.bo],pre:=law03u_FirePlan_p,val:=law03u_FirePlan }
def cx36:Cx:=mkCx T5 41 [(44,k44)] [] [] [] [] [(2,⟨[(5,false)],[],[],[]⟩)] [] none
def V36 (x:((List ((Int × Int) × Int × Int)) × Int × Int × Int) × List Int):Prop:=Z.LoopP (X:=Int) (0) (fun s0 K0=>(((decide ((s0:Int)<(x.2.length:Int))=true)→(((0:Int)≤s0∧(s0:Int)<(x.2.length:Int))∧(Z.in64 ((x.1.1.length:Int) - 1)∧((ref03u_in_p ((x.2.getD (Int.toNat s0) 0),0,((x.1.1.length:Int) - 1)))∧((((decide ((0:Int)<s0)=true)∧((!(ref03u_in ((x.2.getD (Int.toNat s0) 0),0,((x.1.1.length:Int) - 1))))=false))→((0:Int)≤s0∧(s0:Int)<(x.2.length:Int)))∧((((decide ((0:Int)<s0)=true)∧((!(ref03u_in ((x.2.getD (Int.toNat s0) 0),0,((x.1.1.length:Int) - 1))))=false))→Z.in64 (s0 - 1))∧((((decide ((0:Int)<s0)=true)∧((!(ref03u_in ((x.2.getD (Int.toNat s0) 0),0,((x.1.1.length:Int) - 1))))=false))→((0:Int)≤(s0 - 1)∧((s0 - 1):Int)<(x.2.length:Int)))∧(((((!(ref03u_in ((x.2.getD (Int.toNat s0) 0),0,((x.1.1.length:Int) - 1))))||(decide ((0:Int)<s0)&&decide (((x.2.getD (Int.toNat s0) 0):Int)≤(x.2.getD (Int.toNat (s0 - 1)) 0))))=true)→((false:Bool)=(ref03u_Places x)))∧((((!(ref03u_in ((x.2.getD (Int.toNat s0) 0),0,((x.1.1.length:Int) - 1))))||(decide ((0:Int)<s0)&&decide (((x.2.getD (Int.toNat s0) 0):Int)≤(x.2.getD (Int.toNat (s0 - 1)) 0))))=false)→(Z.in64 (s0+1)∧(K0 (s0+1))))))))))))∧((decide ((s0:Int)<(x.2.length:Int))=false)→((decide ((0:Int)<(x.2.length:Int)):Bool)=(ref03u_Places x)))))
theorem e36 (x:Ds k36.args):vcFun cx36 Go.Proofs.Try.f36 k36 x=V36 x:=by kernel_rfl
end Go.Fire
