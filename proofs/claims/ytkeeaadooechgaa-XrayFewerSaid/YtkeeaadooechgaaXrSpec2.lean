/-
  Chapter 6: what each function of the reference gives, and the statements. No program in sight.
-/
import Derived.Test.YtkeeaadooechgaaXrSpec
set_option linter.all false
set_option maxRecDepth 100000
set_option linter.unusedVariables false
namespace Go.Xr
open Go Go.Sx
def ref06u_Crate (x:Crate):Bool:=crateB x
def ref06u_Crate_p (x:Crate):Prop:=x.1.length≤big
def ref06u_Bad (x:Truth × Int × Int):Bool:=badB x.1 x.2.1 x.2.2
def ref06u_Bad_p (x:Truth × Int × Int):Prop:=smallT x.1∧(0≤x.2.1∧x.2.1<8)∧0≤x.2.2∧x.2.2<8
def ref06u_Many (x:Crate × Truth):Int:=manyV x.2 x.1
def ref06u_Many_p (x:Crate × Truth):Prop:=crateB x.1=true∧smallT x.2∧x.2.2<2^x.1.2.1.toNat
def ref06u_Count (x:Crate × List Look):(Int × Int) × Int:=xray_Count x
def ref06u_Count_p (x:Crate × List Look):Prop:=x.1.1.length≤big∧x.2.length≤big
def ref06u_Causes (x:Crate × List Look):Found × Int:=xray_Causes x
def ref06u_Causes_p (x:Crate × List Look):Prop:=x.1.1.length≤big∧x.2.length≤big
def ref06u_Judge (x:Crate × (List Look) × Int × Int):Int × Int:=xray_Judge x
def ref06u_Judge_p (x:Crate × (List Look) × Int × Int):Prop:=x.1.1.length≤big∧x.2.1.length≤big
def law06u_great (x:Crate × Int):Bool:=decide (16<(x.1.1.length:Int))||(crateB x.1&&(decide (x.2<(x.1.1.length:Int)*x.1.2.1)||decide (10<(x.1.1.length:Int)+x.1.2.1)))
def law06u_great_p (_:Crate × Int):Prop:=True
def law06u_XrayCounts (_:Crate × (List Look) × Int × Int):Bool:=true
def law06u_XrayCounts_p (_:Crate × (List Look) × Int × Int):Prop:=True
def pickL (bits most:Int):List Int→Int→Int→Int
 | [],_,s=>s
 | i::l,n,s=>cond (hasB bits i&&decide (n<most)) (pickL bits most l (n+1) (orI s (2^i.toNat))) (pickL bits most l n s)
def truthV (c:Crate) (rows cols:Int):Truth:=(pickL rows c.2.2.1 (idx c.1.length) 0 0,pickL cols c.2.2.2 (idx c.2.1.toNat) 0 0)
def byteP (n:Int):Prop:=0≤n∧n≤255
def law06u_truth (x:Crate × Int × Int):Truth:=truthV x.1 x.2.1 x.2.2
def law06u_truth_p (x:Crate × Int × Int):Prop:=crateB x.1=true∧byteP x.2.1∧byteP x.2.2
def seeV (c:Crate) (t:Truth) (n:Int):Look:=(Int.tmod n (c.1.length:Int),Int.tmod (Int.fdiv n 16) c.2.1,cond (Int.fdiv n 4096==0) 2 (cond (badB t (Int.tmod n (c.1.length:Int)) (Int.tmod (Int.fdiv n 16) c.2.1)) 1 0))
def law06u_seen (x:Crate × Truth × List Int):List Look:=x.2.2.map (seeV x.1 x.2.1)
def law06u_seen_p (x:Crate × Truth × List Int):Prop:=crateB x.1=true∧smallT x.2.1∧(∀ n∈x.2.2,0≤n∧n≤65535)∧x.2.2.length≤40
def law06u_XrayTrue (_:Crate × Int × Int × List Int):Bool:=true
def law06u_XrayTrue_p (x:Crate × Int × Int × List Int):Prop:=byteP x.2.1∧byteP x.2.2.1∧∀ n∈x.2.2.2,0≤n∧n≤65535
def law06u_XrayEnds (_:Crate × (List Look) × Int × Int):Bool:=true
def law06u_XrayEnds_p (_:Crate × (List Look) × Int × Int):Prop:=True
def law06u_XrayMore (_:Crate × (List Look) × Look × Int):Bool:=true
def law06u_XrayMore_p (x:Crate × (List Look) × Look × Int):Prop:=byteP x.2.2.2
end Go.Xr
