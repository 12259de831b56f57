/-
  Chapter 6: what each function of the reference gives, and the statements. No program in sight.
-/
import Derived.Test.YtkeeaadooechgaaXrSpec
set_option linter.all false
set_option maxRecDepth 100000
set_option linter.unusedVariables false
namespace Go.Xr
open Go Go.Sx
def ref06u_power (x:Int):Int:=2^x.toNat
def ref06u_power_p (x:Int):Prop:=0≤x∧x≤60
def ref06u_Has (x:Int × Int):Bool:=hasB x.1 x.2
def ref06u_Has_p (x:Int × Int):Prop:=smallSet x.1∧0≤x.2∧x.2≤60
def ref06u_Size (x:Int):Int:=sizeV x
def ref06u_Size_p (x:Int):Prop:=smallSet x
def ref06u_Crate (x:Crate):Bool:=crateB x
def ref06u_Crate_p (x:Crate):Prop:=x.1.length≤big
def ref06u_Place (x:Crate × Int × Int):Bool:=placeB x.1 x.2.1 x.2.2
def ref06u_Place_p (x:Crate × Int × Int):Prop:=crateB x.1=true
def ref06u_Bad (x:Truth × Int × Int):Bool:=badB x.1 x.2.1 x.2.2
def ref06u_Bad_p (x:Truth × Int × Int):Prop:=smallT x.1∧(0≤x.2.1∧x.2.1<8)∧0≤x.2.2∧x.2.2<8
def ref06u_Many (x:Crate × Truth):Int:=manyV x.2 x.1
def ref06u_Many_p (x:Crate × Truth):Prop:=crateB x.1=true∧smallT x.2∧x.2.2<2^x.1.2.1.toNat
def ref06u_Fits (x:Truth × List Look):Bool:=x.2.all (fitB x.1)
def ref06u_Fits_p (x:Truth × List Look):Prop:=smallT x.1∧(∀ l∈x.2,atPlace l)∧x.2.length≤big
def ref06u_Truths (x:Crate × List Look):List Truth:=truthsV x.1 fun t=>x.2.all (fitB t)
def ref06u_Truths_p (x:Crate × List Look):Prop:=crateB x.1=true∧x.2.all (lookB x.1)=true∧x.2.length≤big
def ref06u_Looks (x:Crate × List Look):Bool:=x.2.all (lookB x.1)
def ref06u_Looks_p (x:Crate × List Look):Prop:=crateB x.1=true∧x.2.length≤big
def ref06u_start (x:Crate × List Look):(List Truth) × Int:=(cond (openE x.1 x.2 true==0) (truthsV x.1 fun t=>x.2.all (fitB t)) [],openE x.1 x.2 true)
def ref06u_start_p (x:Crate × List Look):Prop:=x.1.1.length≤big∧x.2.length≤big
def ref06u_Count (x:Crate × List Look):(Int × Int) × Int:=xray_Count x
def ref06u_Count_p (x:Crate × List Look):Prop:=x.1.1.length≤big∧x.2.length≤big
def law06u_great (x:Crate × Int):Bool:=decide (16<(x.1.1.length:Int))||(crateB x.1&&(decide (x.2<(x.1.1.length:Int)*x.1.2.1)||decide (10<(x.1.1.length:Int)+x.1.2.1)))
def law06u_great_p (_:Crate × Int):Prop:=True
def byteP (n:Int):Prop:=0≤n∧n≤255
def law06u_XrayEnds (_:Crate × (List Look) × Int × Int):Bool:=true
def law06u_XrayEnds_p (_:Crate × (List Look) × Int × Int):Prop:=True
def law06u_XrayMore (_:Crate × (List Look) × Look × Int):Bool:=true
def law06u_XrayMore_p (x:Crate × (List Look) × Look × Int):Prop:=byteP x.2.2.2
end Go.Xr
