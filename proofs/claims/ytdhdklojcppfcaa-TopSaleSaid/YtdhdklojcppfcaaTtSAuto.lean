/- Written by a program of mine (wip/tools/gen.py): contexts and conditions of functions. -/
import Derived.Test.YtdhdklojcppfcaaTtSSpec
import Derived.Test.YtdhdklojcppfcaaProg
set_option linter.all false
set_option linter.unusedVariables false
set_option maxRecDepth 100000
set_option maxHeartbeats 4000000
open Int renaming fdiv->ydE,toNat->yby
namespace Go.Tt
open Go Go.Sx
def TS:Tabs:={
 tyL:=[(3,I),(4,.bo),(24,(.sl (.st (.p I I)))),(31,(.st (.p I I))),(36,I),(41,(.sl (.st (.p (.st (.p I I)) (.st (.p I I)))))),(43,(.st (.p (.st (.p I I)) (.p (.st (.p I I)) (.p I (.p (.sl (.st (.p (.st (.p I I)) (.st (.p I I))))) (.p (.st (.p I I)) (.p (.st (.p I I)) I)))))))),(54,(.sl (.st (.p (.st (.p I I)) (.p (.st (.p I I)) (.p I (.p (.sl (.st (.p (.st (.p I I)) (.st (.p I I))))) (.p (.st (.p I I)) (.p (.st (.p I I)) I))))))))),(55,(.sl (.st (.p (.st (.p I I)) (.p (.st (.p I I)) (.st (.p I I))))))),(56,(.sl I)),(68,(.st (.p (.st (.p I I)) (.p (.st (.p I I)) (.st (.p I I)))))),(121,(.st (.p I I))),(135,(.f1 I .bo)),(136,(.sl (.st (.p (.st (.p (.st (.p I I)) (.p (.st (.p I I)) (.p I (.p (.sl (.st (.p (.st (.p I I)) (.st (.p I I))))) (.p (.st (.p I I)) (.p (.st (.p I I)) I))))))) (.st (.p I I)))))),(140,(.st (.p (.st (.p (.st (.p I I)) (.p (.st (.p I I)) (.p I (.p (.sl (.st (.p (.st (.p I I)) (.st (.p I I))))) (.p (.st (.p I I)) (.p (.st (.p I I)) I))))))) (.st (.p I I))))),(142,(.st (.p (.st (.p I I)) (.st (.p I I))))),(143,(.f1 (.st (.p (.st (.p I I)) (.p (.st (.p I I)) (.st (.p I I))))) .bo)),(222,(.i .u64)),(224,(.f1 (.st (.p (.st (.p I I)) (.p (.st (.p I I)) (.p I (.p (.sl (.st (.p (.st (.p I I)) (.st (.p I I))))) (.p (.st (.p I I)) (.p (.st (.p I I)) I))))))) .bo)),(265,(.st (.p (.sl (.st (.p I I))) (.st (.p (.st (.p I I)) (.p (.st (.p I I)) (.p I (.p (.sl (.st (.p (.st (.p I I)) (.st (.p I I))))) (.p (.st (.p I I)) (.p (.st (.p I I)) I)))))))))),(266,(.sl (.im "pencilworks/shade.bounds" .u (.st (.p I I)) .u))),(268,(.st (.st (.p (.st (.p I I)) (.st (.p I I)))))),(270,(.im "pencilworks/shade.bounds" .u (.st (.p I I)) .u)),(299,(.f1 (.st (.p (.st (.p I I)) (.st (.p I I)))) .bo)),(342,(.st (.p I I))),(344,(.st (.p (.sl (.st (.p I I))) (.p I I))))],
 elL:=[(24,121),(41,142),(54,43),(55,68),(56,3),(136,140),(266,270)],
 oneL:=[24,41],
 mtyL:=[(122,(3,221)),(123,(3,221)),(147,(153,3)),(148,(153,3)),(249,(3,4)),(282,(4,281))],
 mthL:=[((265, "pencilworks/shade.bounds"),255),((268, "pencilworks/shade.bounds"),260)] }
def k62:Con:={ args:=[I,(.f1 I .bo)],res:=[I],pre:=zdp,val:=zdy }
def cx62:Cx:=mkCx TS 26 [] [] [] [] [] [(2,⟨[(5,false),(6,false)],[],[],[]⟩)] [] none
def V62 (x:Int × Go.Sx.Fun Int Bool):Prop:=Z.LoopP (X:=(Prod Int Int)) ((0,x.1)) (fun s0 K0=>(((decide ((s0.1:Int)<s0.2)=true)->(Z.in64 (s0.1+s0.2)/\(((0:Int)<=1/\(1:Int)<=64)/\((x.2.pre (Go.IntKind.wrap .i64 (ydE (Go.IntKind.wrap .u64 (s0.1+s0.2)) (2^(yby (1))))))/\((((!(x.2.val (Go.IntKind.wrap .i64 (ydE (Go.IntKind.wrap .u64 (s0.1+s0.2)) (2^(yby (1)))))))=true)->(Z.in64 ((Go.IntKind.wrap .i64 (ydE (Go.IntKind.wrap .u64 (s0.1+s0.2)) (2^(yby (1)))))+1)/\(K0 (((Go.IntKind.wrap .i64 (ydE (Go.IntKind.wrap .u64 (s0.1+s0.2)) (2^(yby (1)))))+1),s0.2))))/\(((!(x.2.val (Go.IntKind.wrap .i64 (ydE (Go.IntKind.wrap .u64 (s0.1+s0.2)) (2^(yby (1)))))))=false)->(K0 (s0.1,(Go.IntKind.wrap .i64 (ydE (Go.IntKind.wrap .u64 (s0.1+s0.2)) (2^(yby (1)))))))))))))/\((decide ((s0.1:Int)<s0.2)=false)->((s0.1:Int)=(zdy x)))))
theorem e62 (x:Ds k62.args):vcFun cx62 Go.Proofs.Try.f62 k62 x=V62 x:=by kernel_rfl
end Go.Tt
