/-
  Chapter 6: what each function of the program gives, in plain Lean. No program in sight.
-/
import Derived.Test.YtkeeaadooechgaaXrPrel
set_option linter.all false
set_option maxRecDepth 100000
set_option linter.unusedVariables false
namespace Go.Xr
open Go Go.Sx
abbrev Crate:=(List Int) × Int × Int × Int
abbrev Look:=Int × Int × Int
abbrev Truth:=Int × Int
abbrev Spot:=Int × Int
abbrev LookI:=(Fun Truth Bool) × Unit
abbrev Found:=Int × Int × Int × Int
abbrev Pict:=Found × (Int × Int) × (List (List Int)) × Int
abbrev Plan:=Crate × Int × Int × Int
def hasB (s n:Int):Bool:=s.toNat.testBit n.toNat
def sizeV (x:Int):Int:=(((List.range 8).countP fun k=>hasB x (k:Nat):Nat):Int)
def orI (a b:Int):Int:=((a.toNat ||| b.toNat:Nat):Int)
def andI (a b:Int):Int:=((a.toNat &&& b.toNat:Nat):Int)
def smallSet (s:Int):Prop:=0≤s∧s≤255
def idx (n:Nat):List Int:=(List.range n).map fun k=>((k:Nat):Int)
def crateB (c:Crate):Bool:=((inB (c.1.length:Int) 1 8&&inB c.2.1 1 8)&&c.1.all fun n=>inB n 1 1000)&&(inB c.2.2.1 0 3&&inB c.2.2.2 0 3)
def placeB (c:Crate) (r k:Int):Bool:=inB r 0 ((c.1.length:Int) - 1)&&inB k 0 (c.2.1 - 1)
def lookB (c:Crate) (x:Look):Bool:=placeB c x.1 x.2.1&&inB x.2.2 0 2
def badB (t:Truth) (r k:Int):Bool:=hasB t.1 r||hasB t.2 k
def fitB (t:Truth) (x:Look):Bool:=cond (x.2.2==0) (!badB t x.1 x.2.1) (cond (x.2.2==1) (badB t x.1 x.2.1) true)
def setsV (many most:Int):List Int:=(idx (2^many.toNat)).filter fun s=>decide (sizeV s≤most)
def truthsV (c:Crate) (F:Truth→Bool):List Truth:=(setsV (c.1.length:Int) c.2.2.1).flatMap fun a=>((setsV c.2.1 c.2.2.2).filter fun b=>F (a,b)).map fun b=>(a,b)
def manyR (t:Truth) (cols:Int):List Int→Nat→Int
 | [],_=>0
 | lie::l,k=>cond (hasB t.1 (k:Nat)) (lie*cols) (lie*sizeV t.2)+manyR t cols l (k+1)
def manyV (t:Truth) (c:Crate):Int:=manyR t c.2.1 c.1 0
def atPlace (x:Look):Prop:=(0≤x.1∧x.1<8)∧0≤x.2.1∧x.2.1<8
def smallT (t:Truth):Prop:=smallSet t.1∧smallSet t.2
def endsV (a:Int) (l:List Int):Int × Int:=l.foldl (fun e x=>(min e.1 x,max e.2 x)) (a,a)
def getG (g:List (List Int)) (i k:Int):Int:=(g.getD i.toNat (List.replicate 8 0)).getD k.toNat 0
def setG (g:List (List Int)) (i k v:Int):List (List Int):=g.set i.toNat ((g.getD i.toNat (List.replicate 8 0)).set k.toNat v)
def spotsK (t:Truth) (r:Int):List Int→List (List Int)→List (List Int)
 | [],g=>g
 | k::l,g=>spotsK t r l (cond (badB t r k) (setG g r k (getG g r k+1)) g)
def spotsR (t:Truth) (cols:Nat):List Int→List (List Int)→List (List Int)
 | [],g=>g
 | r::l,g=>spotsR t cols l (spotsK t r (idx cols) g)
def foundV (p:Pict) (t:Truth):Found:=(orI p.1.1 t.1,orI p.1.2.1 t.2,cond (p.2.2.2==0) t.1 (andI p.1.2.2.1 t.1),cond (p.2.2.2==0) t.2 (andI p.1.2.2.2 t.2))
def addV (c:Crate) (p:Pict) (t:Truth):Pict :=
 (foundV p t,cond (p.2.2.2==0) (manyV t c,manyV t c) (min (manyV t c) p.2.1.1,max (manyV t c) p.2.1.2),spotsR t c.2.1.toNat (idx c.1.length) p.2.2.1,p.2.2.2+1)
def pict0:Pict:=((0,0,0,0),(0,0),List.replicate 8 (List.replicate 8 0),0)
def pictV (c:Crate) (l:List Look):Pict:=(truthsV c fun t=>l.all (fitB t)).foldl (addV c) pict0
def openE (c:Crate) (l:List Look) (valid:Bool):Int :=
 cond (!crateB c) 1 (cond (decide (40<(l.length:Int))) 3 (cond (!valid||!l.all (lookB c)) 2 (cond ((pictV c l).2.2.2==0) 6 0)))
structure PictOk (p:Pict):Prop where
 can:smallSet p.1.1∧smallSet p.1.2.1
 sure:smallSet p.1.2.2.1∧smallSet p.1.2.2.2
 many:(0≤p.2.1.1∧p.2.1.1≤100000)∧0≤p.2.1.2∧p.2.1.2≤100000
 g8:p.2.2.1.length=8
 r8:∀ r∈p.2.2.1,r.length=8
 le:∀ i k:Nat,0≤getG p.2.2.1 (i:Nat) (k:Nat)∧getG p.2.2.1 (i:Nat) (k:Nat)≤p.2.2.2
 cnt:0≤p.2.2.2∧p.2.2.2<100000
 le2:p.2.1.1≤p.2.1.2
def insR (lt:Int→Int→Bool) (x:Int):List Int→List Int
 | []=>[x]
 | y::r=>cond (lt x y) (y::insR lt x r) (x::y::r)
def sortV (lt:Int→Int→Bool) (l:List Int):List Int:=(l.foldl (fun r x=>insR lt x r) []).reverse
def leftR (rows:Int):List Int→Nat→List Int
 | [],_=>[]
 | lie::l,k=>cond (hasB rows (k:Nat)) (leftR rows l (k+1)) (lie::leftR rows l (k+1))
def moreB (x y:Int):Bool:=decide (y<x)
def heavyV (c:Crate) (rows:Int):List Int:=(sortV moreB (leftR rows c.1 0)).take c.2.2.1.toNat
def worstV (c:Crate) (rows cols:Int):Int:=(heavyV c rows).sum*c.2.1+(c.1.sum - (heavyV c rows).sum)*min c.2.2.2 (c.2.1 - cols)
def lieOf (p:Plan) (r:Int):Int:=p.1.1.getD r.toNat 0
def fromTo (a b:Int):List Int:=(List.range (b - a).toNat).map fun (k:Nat)=>a+(k:Int)
def laterV (p:Plan) (after:Spot):List Int:=fromTo (after.1+1) (p.1.1.length:Int)
def rowsV (p:Plan) (after:Spot) (many:Int):Int:=((sortV (fun x y=>moreB (lieOf p x) (lieOf p y)) (laterV p after)).take many.toNat).foldl (fun s r=>orI s (2^r.toNat)) p.2.2.1
def freshV (p:Plan) (after:Spot):Int:=((idx p.1.2.1.toNat).countP fun k=>!hasB p.2.2.2 k&&(decide (0<(laterV p after).length)||decide (after.2<k)):Nat)
def canV (p:Plan) (after:Spot) (many:Int):Bool:=decide (worstV p.1 (rowsV p after many) (sizeV p.2.2.2+min (freshV p after) many)≤p.2.1)
def withV (p:Plan) (s:Spot):Plan:=(p.1,p.2.1,orI p.2.2.1 (2^s.1.toNat),orI p.2.2.2 (2^s.2.toNat))
def spotAt (c:Crate) (i:Int):Spot:=(Int.tdiv i c.2.1,Int.tmod i c.2.1)
def allP (c:Crate):Int:=(c.1.length:Int)*c.2.1
def nextV (p:Plan) (many:Int):List Int→Option Spot
 | []=>none
 | i::l=>cond (canV (withV p (spotAt p.1 i)) (spotAt p.1 i) (many - 1)) (some (spotAt p.1 i)) (nextV p many l)
def placesV (c:Crate) (after:Spot):List Int:=fromTo (after.1*c.2.1+after.2+1) (allP c)
def fromN:Nat→Plan→Spot→List Spot
 | 0,_,_=>[]
 | n+1,p,after=>match nextV p ((n:Int)+1) (placesV p.1 after) with
  | some s=>s::fromN n (withV p s) s
  | none=>[]
def plan0 (c:Crate) (most:Int):Plan:=(c,most,0,0)
def manyN (c:Crate) (most:Int):Nat→Nat→Nat
 | 0,m=>m
 | n+1,m=>cond (canV (plan0 c most) (-1,-1) (m:Int)) m (manyN c most n (m+1))
def fewestV (c:Crate) (most:Int):List Spot:=fromN (manyN c most (allP c).toNat 0) (plan0 c most) (0,-1)
structure PlanOk (p:Plan):Prop where
 crate:crateB p.1=true
 rows:smallSet p.2.2.1
 cols:smallSet p.2.2.2
def spotOk (c:Crate) (s:Spot):Prop:=(-1≤s.1∧s.1<(c.1.length:Int))∧-1≤s.2∧s.2<c.2.1
def xray_within (x:Int × Int × Int):Bool:=inB x.1 x.2.1 x.2.2
def xray_within_p (_:Int × Int × Int):Prop:=True
def ref06u_in (x:Int × Int × Int):Bool:=inB x.1 x.2.1 x.2.2
def ref06u_in_p (_:Int × Int × Int):Prop:=True
def xray_isCrate_1 (x:Int):Bool:=!inB x 1 1000
def xray_isCrate_1u_p (_:Int):Prop:=True
def slices_IndexFunc_Lint_int (x:(List Int) × Fun Int Bool):Int:=ixF x.2.val x.1 0
def slices_IndexFunc_Lint_int_p (x:(List Int) × Fun Int Bool):Prop:=x.1.length≤big∧∀ a∈x.1,x.2.pre a
def slices_ContainsFunc_Lint_int (x:(List Int) × Fun Int Bool):Bool:=x.1.any x.2.val
def slices_ContainsFunc_Lint_int_p (x:(List Int) × Fun Int Bool):Prop:=x.1.length≤big∧∀ a∈x.1,x.2.pre a
def slices_IndexFunc_Lapi_Look_api_Look (x:(List Look) × Fun Look Bool):Int:=ixF x.2.val x.1 0
def slices_IndexFunc_Lapi_Look_api_Look_p (x:(List Look) × Fun Look Bool):Prop:=x.1.length≤big∧∀ a∈x.1,x.2.pre a
def slices_ContainsFunc_Lapi_Look_api_Look (x:(List Look) × Fun Look Bool):Bool:=x.1.any x.2.val
def slices_ContainsFunc_Lapi_Look_api_Look_p (x:(List Look) × Fun Look Bool):Prop:=x.1.length≤big∧∀ a∈x.1,x.2.pre a
def xray_isCrate (x:Crate):Bool:=crateB x
def xray_isCrate_p (x:Crate):Prop:=x.1.length≤big
def less1 (a:Int):Int:=IntKind.wrap .i64 (a - 1)
def placeE (c:Crate) (r k:Int):Bool:=inB r 0 ((c.1.length:Int) - 1)&&inB k 0 (less1 c.2.1)
def xray_isPlace (x:Crate × Int × Int):Bool:=placeE x.1 x.2.1 x.2.2
def xray_isPlace_p (x:Crate × Int × Int):Prop:=x.1.1.length≤big
def xray_open_1 (x:Look × Crate):Bool:=!lookB x.2 x.1
def xray_open_1u_p (x:Look × Crate):Prop:=crateB x.2=true
def xray_set_has (x:Int × Int):Bool:=hasB x.1 x.2
def xray_set_has_p (x:Int × Int):Prop:=0≤x.1∧0≤x.2∧x.2<64
def math_bits_OnesCount64 (x:Int):Int:=sizeV x
def math_bits_OnesCount64u_p (x:Int):Prop:=smallSet x
def math_bits_OnesCount32 (_:Int):Int:=0
def math_bits_OnesCount32u_p (_:Int):Prop:=False
def math_bits_OnesCount (x:Int):Int:=sizeV x
def math_bits_OnesCount_p (x:Int):Prop:=smallSet x
def xray_set_size (x:Int):Int:=sizeV x
def xray_set_size_p (x:Int):Prop:=smallSet x
def xray_sets_1 (x:Int × Int):List Int:=setsV x.1 x.2
def xray_sets_1u_p (x:Int × Int):Prop:=0≤x.1∧x.1≤8
def xray_sets (x:Int × Int):Sx.Seq Int:=⟨xray_sets_1u_p x,setsV x.1 x.2⟩
def xray_sets_p (_:Int × Int):Prop:=True
def xray_truth_bad (x:Truth × Int × Int):Bool:=badB x.1 x.2.1 x.2.2
def xray_truth_bad_p (x:Truth × Int × Int):Prop:=smallT x.1∧(0≤x.2.1∧x.2.1<8)∧0≤x.2.2∧x.2.2<8
def xray_truth_many (x:Truth × Crate):Int:=manyV x.1 x.2
def xray_truth_many_p (x:Truth × Crate):Prop:=smallT x.1∧crateB x.2=true
def xray_good_fits (x:Look × Truth):Bool:=!badB x.2 x.1.1 x.1.2.1
def xray_good_fits_p (x:Look × Truth):Prop:=atPlace x.1∧smallT x.2
def xray_bad_fits (x:Look × Truth):Bool:=badB x.2 x.1.1 x.1.2.1
def xray_bad_fits_p (x:Look × Truth):Prop:=atPlace x.1∧smallT x.2
def xray_nothing_fits (_:Look × Truth):Bool:=true
def xray_nothing_fits_p (_:Look × Truth):Prop:=True
def lookI (x:Look):LookI:=cond (x.2.2==0) (⟨fun y=>xray_good_fits_p (x,y),fun y=>xray_good_fits (x,y)⟩,()) (cond (x.2.2==1) (⟨fun y=>xray_bad_fits_p (x,y),fun y=>xray_bad_fits (x,y)⟩,()) (⟨fun y=>xray_nothing_fits_p (x,y),fun y=>xray_nothing_fits (x,y)⟩,()))
def xray_lookOf (x:Look):LookI:=lookI x
def xray_lookOf_p (x:Look):Prop:=0≤x.2.2∧x.2.2≤2
def xray_truths_1 (x:Crate × List LookI):List Truth:=truthsV x.1 fun t=>x.2.all fun l=>l.1.val t
def xray_truths_1u_p (x:Crate × List LookI):Prop:=(x.1.1.length≤8∧0≤x.1.2.1∧x.1.2.1≤8∧x.2.length≤40)∧∀ t,smallT t→∀ l∈x.2,l.1.pre t
def xray_truths (x:Crate × List LookI):Sx.Seq Truth:=⟨xray_truths_1u_p x,xray_truths_1 x⟩
def xray_truths_p (_:Crate × List LookI):Prop:=True
def xray_ends_int (x:Int × List Int):Int × Int:=endsV x.1 x.2
def xray_ends_int_p (x:Int × List Int):Prop:=x.2.length≤big
def xray_picture_add (x:Pict × Crate × Truth):Pict:=addV x.2.1 x.1 x.2.2
def xray_picture_add_p (x:Pict × Crate × Truth):Prop:=PictOk x.1∧crateB x.2.1=true∧smallT x.2.2
def xray_open (x:Crate × (List Look) × Bool):(Option Pict) × Int:=(cond (openE x.1 x.2.1 x.2.2==0) (some (pictV x.1 x.2.1)) none,openE x.1 x.2.1 x.2.2)
def xray_open_p (x:Crate × (List Look) × Bool):Prop:=x.1.1.length≤big∧x.2.1.length≤big
def xray_Count (x:Crate × List Look):(Int × Int) × Int:=(cond (openE x.1 x.2 true==0) (pictV x.1 x.2).2.1 (0,0),openE x.1 x.2 true)
def xray_Count_p (x:Crate × List Look):Prop:=x.1.1.length≤big∧x.2.length≤big
def xray_Causes (x:Crate × List Look):Found × Int:=(cond (openE x.1 x.2 true==0) (pictV x.1 x.2).1 (0,0,0,0),openE x.1 x.2 true)
def xray_Causes_p (x:Crate × List Look):Prop:=x.1.1.length≤big∧x.2.length≤big
def judgeV (c:Crate) (l:List Look) (r k:Int):Int:=cond (getG (pictV c l).2.2.1 r k==0) 0 (cond (getG (pictV c l).2.2.1 r k==(pictV c l).2.2.2) 2 1)
def xray_Judge (x:Crate × (List Look) × Int × Int):Int × Int:=(cond (openE x.1 x.2.1 (placeE x.1 x.2.2.1 x.2.2.2)==0) (judgeV x.1 x.2.1 x.2.2.1 x.2.2.2) 0,openE x.1 x.2.1 (placeE x.1 x.2.2.1 x.2.2.2))
def xray_Judge_p (x:Crate × (List Look) × Int × Int):Prop:=x.1.1.length≤big∧x.2.1.length≤big
def goodOf (s:Spot):Look:=(s.1,s.2,0)
def xray_Missed (x:Crate × List Spot):Int × Int:=(cond (openE x.1 (x.2.map goodOf) true==0) (pictV x.1 (x.2.map goodOf)).2.1.2 0,openE x.1 (x.2.map goodOf) true)
def xray_Missed_p (x:Crate × List Spot):Prop:=x.1.1.length≤big∧x.2.length≤big
def lenTab:List Int:=[0,1,2,2,3,3,3,3,4,4,4,4,4,4,4,4,5,5,5,5,5,5,5,5,5,5,5,5,5,5,5,5,6,6,6,6,6,6,6,6,6,6,6,6,6,6,6,6,6,6,6,6,6,6,6,6,6,6,6,6,6,6,6,6,7,7,7,7,7,7,7,7,7,7,7,7,7,7,7,7,7,7,7,7,7,7,7,7,7,7,7,7,7,7,7,7,7,7,7,7,7,7,7,7,7,7,7,7,7,7,7,7,7,7,7,7,7,7,7,7,7,7,7,7,7,7,7,7,8,8,8,8,8,8,8,8,8,8,8,8,8,8,8,8,8,8,8,8,8,8,8,8,8,8,8,8,8,8,8,8,8,8,8,8,8,8,8,8,8,8,8,8,8,8,8,8,8,8,8,8,8,8,8,8,8,8,8,8,8,8,8,8,8,8,8,8,8,8,8,8,8,8,8,8,8,8,8,8,8,8,8,8,8,8,8,8,8,8,8,8,8,8,8,8,8,8,8,8,8,8,8,8,8,8,8,8,8,8,8,8,8,8,8,8,8,8,8,8,8,8,8,8,8,8,8,8]
def lenV (x:Int):Int:=lenTab.getD x.toNat 0
def math_bits_Len64 (x:Int):Int:=lenV x
def math_bits_Len64u_p (x:Int):Prop:=0≤x∧x≤8
def math_bits_Len32 (_:Int):Int:=0
def math_bits_Len32u_p (_:Int):Prop:=False
def math_bits_Len (x:Int):Int:=lenV x
def math_bits_Len_p (x:Int):Prop:=0≤x∧x≤8
def cmp_isNaN_int (_:Int):Bool:=false
def cmp_isNaN_int_p (_:Int):Prop:=True
def cmpV (a b:Int):Int:=cond (decide (a<b)) (-1) (cond (decide (b<a)) 1 0)
def cmp_Compare_int (x:Int × Int):Int:=cmpV x.1 x.2
def cmp_Compare_int_p (_:Int × Int):Prop:=True
def xray_worst_1 (x:Int × Int):Int:=cmpV x.2 x.1
def xray_worst_1u_p (_:Int × Int):Prop:=True
def xray_plan_can_1 (x:Int × Int × Plan):Int:=cmpV (lieOf x.2.2 x.2.1) (lieOf x.2.2 x.1)
def xray_plan_can_1u_p (x:Int × Int × Plan):Prop:=(0≤x.1∧x.1<(x.2.2.1.1.length:Int))∧0≤x.2.1∧x.2.1<(x.2.2.1.1.length:Int)
def xray_worst (x:Crate × Int × Int):Int:=worstV x.1 x.2.1 x.2.2
def xray_worst_p (x:Crate × Int × Int):Prop:=crateB x.1=true∧smallSet x.2.1∧0≤x.2.2∧x.2.2≤16
def xray_plan_can (x:Plan × Spot × Int):Bool:=canV x.1 x.2.1 x.2.2
def xray_plan_can_p (x:Plan × Spot × Int):Prop:=PlanOk x.1∧spotOk x.1.1 x.2.1∧0≤x.2.2∧x.2.2≤64
def xray_plan_with (x:Plan × Spot):Plan:=withV x.1 x.2
def xray_plan_with_p (x:Plan × Spot):Prop:=PlanOk x.1∧(0≤x.2.1∧x.2.1<8)∧0≤x.2.2∧x.2.2<8
def ref06u_Spots (x:(List Spot) × List Spot):Bool:=x.1==x.2
def ref06u_Spots_p (x:(List Spot) × List Spot):Prop:=x.1.length≤big∧x.2.length≤big
def law06u_span (x:Int × Int):Int × Int:=x
def law06u_span_p (_:Int × Int):Prop:=True
def crate0:Crate:=([10,20,30],4,1,1)
def looks0:List Look:=[(2,1,1),(2,0,0)]
def law06u_crate (_:Unit):Crate:=crate0
def law06u_crate_p (_:Unit):Prop:=True
def law06u_looks (_:Unit):List Look:=looks0
def law06u_looks_p (_:Unit):Prop:=True
def xray_Fewest_1 (x:Plan × Spot × Int × Crate × Int):(List Spot) × Int:=(fromN x.2.2.1.toNat x.1 x.2.1,x.2.2.2.2)
def xray_Fewest_1u_p (x:Plan × Spot × Int × Crate × Int):Prop:=PlanOk x.1∧spotOk x.1.1 x.2.1∧(0≤x.2.2.1∧x.2.2.1≤64)∧(0≤x.2.1.1∧x.2.2.2.1=x.1.1∧x.2.2.2.2=allP x.1.1)
def m44 (x:Plan × Spot × Int × Crate × Int):Nat:=x.2.2.1.toNat
def xray_Fewest_1u_q (x y:Plan × Spot × Int × Crate × Int):Prop:=xray_Fewest_1u_p y∧m44 y<m44 x
def fewestE (c:Crate) (most:Int):Int:=cond (!crateB c) 1 (cond (!inB most 0 1048576) 2 0)
def xray_Fewest (x:Crate × Int):(List Spot) × Int:=(cond (fewestE x.1 x.2==0) (fewestV x.1 x.2) [],fewestE x.1 x.2)
def xray_Fewest_p (x:Crate × Int):Prop:=x.1.1.length≤big
def law06u_alive (_:Unit):Bool:=true
def law06u_alive_p (_:Unit):Prop:=True
end Go.Xr
