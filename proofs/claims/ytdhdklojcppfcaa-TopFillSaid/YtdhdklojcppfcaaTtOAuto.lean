/- Written by a program of mine (wip/tools/gen.py): contexts and conditions of functions. -/
import Derived.Test.YtdhdklojcppfcaaTtOSpec
import Derived.Test.YtdhdklojcppfcaaProg
set_option linter.all false
set_option linter.unusedVariables false
set_option maxRecDepth 100000
set_option maxHeartbeats 4000000
namespace Go.Tt
open Go Go.Sx
def T:Tabs:={
 tyL:=[(3,I),(4,.bo),(5,(.i .u8)),(31,(.st (.p I I))),(36,I),(45,(.i .u32)),(56,(.sl I)),(70,(.sl (.sl I))),(91,(.sl (.st (.p I (.p I (.p I I)))))),(92,(.sl (.st (.p I (.p (.st (.p I I)) (.st (.p I I))))))),(94,(.st (.p (.sl (.st (.p I (.p (.st (.p I I)) (.st (.p I I)))))) (.sl (.st (.p I (.p I (.p I I)))))))),(98,(.st (.p I (.p (.st (.p I I)) (.st (.p I I)))))),(100,(.st (.p I (.p I (.p I I))))),(132,(.f2 I I I)),(135,(.f1 I .bo)),(156,(.f1 I I)),(158,(.arr 8 I)),(159,(.arr 8 (.arr 8 I))),(175,(.rn (.st (.p (.sl I) (.p (.sl I) (.sl I)))))),(178,(.st .u)),(179,I),(180,(.arr 8 I)),(182,(.st (.p (.rn (.st (.p (.sl I) (.p (.sl I) (.sl I))))) (.p (.arr 8 (.arr 8 I)) (.p (.arr 8 I) I))))),(183,(.sl I)),(185,(.st (.p (.sl I) (.p (.sl I) (.sl I))))),(186,(.ref (.st (.p (.rn (.st (.p (.sl I) (.p (.sl I) (.sl I))))) (.p (.arr 8 (.arr 8 I)) (.p (.arr 8 I) I)))))),(189,(.st (.p I I))),(190,(.sq false I)),(191,(.sq false I)),(196,(.st .u)),(197,(.sl (.im "pencilworks/order.many" (.st (.p I (.p (.st (.p I I)) (.st (.p I I))))) I (.im "pencilworks/order.ready" (.st (.p I (.p (.st (.p I I)) (.st (.p I I))))) I .u)))),(199,(.im "pencilworks/order.many" (.st (.p I (.p (.st (.p I I)) (.st (.p I I))))) I (.im "pencilworks/order.ready" (.st (.p I (.p (.st (.p I I)) (.st (.p I I))))) I .u))),(200,(.f1 I .bo)),(212,(.f1 (.st (.p I (.p I (.p I I)))) I)),(222,(.i .u64)),(244,(.f1 (.st (.p I (.p (.st (.p I I)) (.st (.p I I))))) .bo)),(245,(.f1 (.st (.p I (.p I (.p I I)))) .bo)),(249,(.mp I .bo)),(305,(.i .u64))],
 elL:=[(56,3),(70,56),(91,100),(92,98),(183,179),(197,199)],
 oneL:=[56,91,92,175,183,249],
 mtyL:=[(122,(3,221)),(123,(3,221)),(147,(153,3)),(148,(153,3)),(249,(3,4)),(282,(4,281))],
 mthL:=[((178, "pencilworks/order.many"),251),((178, "pencilworks/order.ready"),252),((196, "pencilworks/order.many"),253),((196, "pencilworks/order.ready"),254)] }
def k39:Con:={ args:=[(.st (.p (.sl (.st (.p I (.p (.st (.p I I)) (.st (.p I I)))))) (.sl (.st (.p I (.p I (.p I I)))))))],res:=[I,I,I],pre:=order_Lack_p,val:=zaf }
def k87:NCon:={ args:=[(.sl I)],res:=[(.sl I)],pos:=0,el:=3,box:=false,pre:=zbl,val:=zai }
def k38:Con:={ args:=[(.st (.p (.sl (.st (.p I (.p (.st (.p I I)) (.st (.p I I)))))) (.sl (.st (.p I (.p I (.p I I)))))))],res:=[(.sl (.sl I)),I],pre:=order_Share_p,val:=zaz }
abbrev o210n1 (x:Int):Int:=(Go.IntKind.wrap .u64 ((((Int.toNat ((Int.fdiv x (2^(Int.toNat (1)))))) &&& (Int.toNat (6148914691236517205)):Nat):Int)+(((Int.toNat (x)) &&& (Int.toNat (6148914691236517205)):Nat):Int)))
abbrev o210n2 (x:Int):Int:=(Go.IntKind.wrap .u64 ((((Int.toNat ((Int.fdiv (o210n1 x) (2^(Int.toNat (2)))))) &&& (Int.toNat (3689348814741910323)):Nat):Int)+(((Int.toNat ((o210n1 x))) &&& (Int.toNat (3689348814741910323)):Nat):Int)))
abbrev o210n3 (x:Int):Int:=(Go.IntKind.wrap .u64 ((Int.fdiv (o210n2 x) (2^(Int.toNat (4))))+(o210n2 x)))
abbrev o210n4 (x:Int):Int:=(Go.IntKind.wrap .u64 ((((Int.toNat ((o210n3 x))) &&& (Int.toNat (1085102592571150095)):Nat):Int)+(Int.fdiv (((Int.toNat ((o210n3 x))) &&& (Int.toNat (1085102592571150095)):Nat):Int) (2^(Int.toNat (8))))))
abbrev o210n5 (x:Int):Int:=(Go.IntKind.wrap .u64 ((o210n4 x)+(Int.fdiv (o210n4 x) (2^(Int.toNat (16))))))
abbrev o210n6 (x:Int):Int:=(Go.IntKind.wrap .u64 ((o210n5 x)+(Int.fdiv (o210n5 x) (2^(Int.toNat (32))))))
def V210 (x:Int):Prop:=(((0:Int)<=1∧(1:Int)<=64)∧(((0:Int)<=(Int.fdiv x (2^(Int.toNat (1))))∧(0:Int)<=6148914691236517205)∧(((0:Int)<=x∧(0:Int)<=6148914691236517205)∧(((0:Int)<=2∧(2:Int)<=64)∧(((0:Int)<=(Int.fdiv (o210n1 x) (2^(Int.toNat (2))))∧(0:Int)<=3689348814741910323)∧(((0:Int)<=(o210n1 x)∧(0:Int)<=3689348814741910323)∧(((0:Int)<=4∧(4:Int)<=64)∧(((0:Int)<=(o210n3 x)∧(0:Int)<=1085102592571150095)∧(((0:Int)<=8∧(8:Int)<=64)∧(((0:Int)<=16∧(16:Int)<=64)∧(((0:Int)<=32∧(32:Int)<=64)∧(((0:Int)<=(Go.IntKind.wrap .i64 (o210n6 x))∧(0:Int)<=127)∧(((((Int.toNat ((Go.IntKind.wrap .i64 (o210n6 x)))) &&& (Int.toNat (127)):Nat):Int):Int)=(math_bits_OnesCount64 x))))))))))))))
def cx87:Cx:=mkCx T 8 [] [] [] [] [] [] [] none
def V87 (x:List Int):Prop:=(True∧(((x=[])->(((true=true)->(([]:(List Int))=(zai x)))∧((true=false)->(Z.roomy 1 (((List.replicate 0 0)++x).length:Int)∧((((List.replicate 0 0)++x):(List Int))=(zai x))))))∧(((false=true)->(([]:(List Int))=(zai x)))∧((false=false)->(Z.roomy 1 (((List.replicate 0 0)++x).length:Int)∧((((List.replicate 0 0)++x):(List Int))=(zai x)))))))
theorem e87 (x:Ds k87.args):vcFunN cx87 Go.Proofs.Try.f87 k87 x=V87 x:=by kernel_rfl
end Go.Tt
