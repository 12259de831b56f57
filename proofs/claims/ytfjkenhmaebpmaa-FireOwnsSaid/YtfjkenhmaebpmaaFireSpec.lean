/-
  Chapter 3: what each function of the program gives, in plain Lean. No program in sight.
-/
import Derived.Test.YtfjkenhmaebpmaaFirePrel
set_option linter.all false
set_option maxRecDepth 100000
set_option linter.unusedVariables false
namespace Go.Fire
open Go Go.Sx
abbrev Place:=(Int × Int) × Int × Int
abbrev Kiln:=(List Place) × Int × Int × Int
abbrev Fire:=Int × Int × Int × Int × Int × Int
abbrev Stand:=Kiln × Fire × Place
def placeB (p:Place):Bool:=spanB p.1 500 1500&&spanB p.2 (-200) 200
def kilnB (k:Kiln):Bool:=inB (k.1.length:Int) 1 8&&(inB k.2.1 0 100&&(inB k.2.2.1 1 2000&&(inB k.2.2.2 50 2000&&k.1.all placeB)))
def fireB (f:Fire):Bool:=(inB f.1 0 f.2.1&&(decide (f.2.1≤f.2.2.1)&&decide (f.2.2.1≤4000)))&&(inB f.2.2.2.1 1 12&&(inB f.2.2.2.2.1 1 4000&&inB f.2.2.2.2.2 1 4000))
def heatB (n:Int):Bool:=inB n 0 2000
def progB (l:List Int):Bool:=inB (l.length:Int) 1 40&&l.all heatB
def mostV (err:Int) (p:Place) (set:Int):Int:=p.1.2*(set+err)+1000*p.2.2
def leastV (err:Int) (p:Place) (set:Int):Int:=p.1.1*(max 0 (set - err))+1000*p.2.1
def heatOf (k:Kiln) (place set:Int):(Int × Int) × Int :=
 cond (!kilnB k) ((0,0),1) (cond (!inB place 0 ((k.1.length:Int) - 1)||!heatB set) ((0,0),2)
  ((leastV k.2.1 (k.1.getD place.toNat ((0,0),0,0)) set / 1000,-((-(mostV k.2.1 (k.1.getD place.toNat ((0,0),0,0)) set)) / 1000)),0))
def coldV (s:Stand) (set heat:Int):Bool:=decide (mostV s.1.2.1 s.2.2 set≤1000*heat)
def soakV (s:Stand) (set:Int):Bool:=decide (1000*s.2.1.2.1≤leastV s.1.2.1 s.2.2 set)
def slowV (s:Stand) (before now by_:Int):Bool:=decide (s.2.2.1.2*(now+s.1.2.1 - max 0 (before - s.1.2.1))≤1000*by_)
def hourAt (l:List Int) (i:Nat):Int × List Int:=((i:Int),[l.getD (i - 1) 0,l.getD i 0])
def hoursV (l:List Int):List (Int × List Int):=(List.range l.length).map (hourAt l)
def firstH (from_:Int) (F:Int × Int→Bool):List (Int × List Int)→Int
 | []=>-1
 | e::r=>cond (decide (from_≤e.1)&&!F (e.2.getD 0 0,e.2.getD 1 0)) e.1 (firstH from_ F r)
def firstOf (l:List Int) (from_:Int) (F:Int × Int→Bool):Int:=firstH from_ F (hoursV l)
def heldV (s:Stand):List Int→Int→Bool
 | [],_=>false
 | set::l,many=>cond (!soakV s set) (heldV s l 0) (cond (many+1==s.2.1.2.2.2.1) true (heldV s l (many+1)))
def setOk (n:Int):Prop:=0≤n∧n≤2000
def standOk (s:Stand):Prop:=(0≤s.1.2.1∧s.1.2.1≤100)∧placeB s.2.2=true∧fireB s.2.1=true
def listOk (l:List Int):Prop:=progB l=true
def fire_within (x:Int × Int × Int):Bool:=inB x.1 x.2.1 x.2.2
def fire_within_p (_:Int × Int × Int):Prop:=True
def ref03u_in (x:Int × Int × Int):Bool:=inB x.1 x.2.1 x.2.2
def ref03u_in_p (_:Int × Int × Int):Prop:=True
def fire_isSpan (x:Span × Int × Int):Bool:=spanB x.1 x.2.1 x.2.2
def fire_isSpan_p (_:Span × Int × Int):Prop:=True
def ref03u_span (x:Span × Int × Int):Bool:=spanB x.1 x.2.1 x.2.2
def ref03u_span_p (_:Span × Int × Int):Prop:=True
def fire_isHeat (x:Int):Bool:=heatB x
def fire_isHeat_p (_:Int):Prop:=True
def fire_check_1 (x:Int):Bool:=!heatB x
def fire_check_1u_p (_:Int):Prop:=True
def fire_isKiln_1 (x:Place):Bool:=!placeB x
def fire_isKiln_1u_p (_:Place):Prop:=True
def slices_IndexFunc_Lint_int (x:(List Int) × Fun Int Bool):Int:=ixF x.2.val x.1 0
def slices_IndexFunc_Lint_int_p (x:(List Int) × Fun Int Bool):Prop:=x.1.length≤big∧∀ a∈x.1,x.2.pre a
def slices_ContainsFunc_Lint_int (x:(List Int) × Fun Int Bool):Bool:=x.1.any x.2.val
def slices_ContainsFunc_Lint_int_p (x:(List Int) × Fun Int Bool):Prop:=x.1.length≤big∧∀ a∈x.1,x.2.pre a
def slices_IndexFunc_Lapi_Place_api_Place (x:(List Place) × Fun Place Bool):Int:=ixF x.2.val x.1 0
def slices_IndexFunc_Lapi_Place_api_Place_p (x:(List Place) × Fun Place Bool):Prop:=x.1.length≤big∧∀ a∈x.1,x.2.pre a
def slices_ContainsFunc_Lapi_Place_api_Place (x:(List Place) × Fun Place Bool):Bool:=x.1.any x.2.val
def slices_ContainsFunc_Lapi_Place_api_Place_p (x:(List Place) × Fun Place Bool):Prop:=x.1.length≤big∧∀ a∈x.1,x.2.pre a
def fire_isKiln (x:Kiln):Bool:=kilnB x
def fire_isKiln_p (_:Kiln):Prop:=True
def ref03u_Kiln (x:Kiln):Bool:=kilnB x
def ref03u_Kiln_p (x:Kiln):Prop:=x.1.length≤140737488355328
def fire_areFires (x:List Fire):Bool:=x.all fireB
def fire_areFires_p (x:List Fire):Prop:=x.length≤big
def ref03u_Fire (x:Fire):Bool:=fireB x
def ref03u_Fire_p (_:Fire):Prop:=True
def ref03u_Program (x:List Int):Bool:=progB x
def ref03u_Program_p (x:List Int):Prop:=x.length≤140737488355328
def fire_check (x:Kiln × (List Int) × List Fire):Int :=
 cond (!kilnB x.1||!x.2.2.all fireB) 1 (cond (decide ((40:Int)<(x.2.1.length:Int))||decide ((8:Int)<(x.2.2.length:Int))) 3 (cond (((x.2.1.length:Int)==0)||x.2.1.any fun n=>!heatB n) 2 0))
def fire_check_p (x:Kiln × (List Int) × List Fire):Prop:=x.2.2.length≤big
def fire_thousandth (x:Int):Int:=x / 1000
def fire_thousandth_p (x:Int):Prop:=-1000000000≤x∧x≤1000000000
def fire_most_of (x:Int × Place × Int):Int:=mostV x.1 x.2.1 x.2.2
def fire_most_of_p (x:Int × Place × Int):Prop:=(0≤x.1∧x.1≤100)∧placeB x.2.1=true∧setOk x.2.2
def fire_least_of (x:Int × Place × Int):Int:=leastV x.1 x.2.1 x.2.2
def fire_least_of_p (x:Int × Place × Int):Prop:=(0≤x.1∧x.1≤100)∧placeB x.2.1=true∧setOk x.2.2
def fire_Heat (x:Kiln × Int × Int):(Int × Int) × Int:=heatOf x.1 x.2.1 x.2.2
def fire_Heat_p (_:Kiln × Int × Int):Prop:=True
def fire_stand_isCold (x:Stand × Int × Int):Bool:=coldV x.1 x.2.1 x.2.2
def fire_stand_isCold_p (x:Stand × Int × Int):Prop:=standOk x.1∧setOk x.2.1∧0≤x.2.2∧x.2.2≤4000
def fire_stand_isSoaked (x:Stand × Int):Bool:=soakV x.1 x.2
def fire_stand_isSoaked_p (x:Stand × Int):Prop:=standOk x.1∧setOk x.2
def fire_stand_isSlow (x:Stand × Int × Int × Int):Bool:=slowV x.1 x.2.1 x.2.2.1 x.2.2.2
def fire_stand_isSlow_p (x:Stand × Int × Int × Int):Prop:=standOk x.1∧setOk x.2.1∧setOk x.2.2.1∧0≤x.2.2.2∧x.2.2.2≤4000
def fire_hours_1 (x:List Int):List (Int × List Int):=hoursV x
def fire_hours_1u_p (x:List Int):Prop:=x.length≤big
def fire_hours (x:List Int):Seq (Int × List Int):=⟨fire_hours_1u_p x,fire_hours_1 x⟩
def fire_hours_p (_:List Int):Prop:=True
def fire_first (x:(List Int) × Int × Fun (Int × Int) Bool):Int:=firstOf x.1 x.2.1 x.2.2.val
def fire_first_p (x:(List Int) × Int × Fun (Int × Int) Bool):Prop:=x.1.length≤big∧∀ e∈hoursV x.1,x.2.2.pre (e.2.getD 0 0,e.2.getD 1 0)
def fire_rules_1u_1 (x:Int × Int × Stand):Bool:=coldV x.2.2 x.2.1 x.2.2.2.1.1
def fire_rules_1u_1u_p (x:Int × Int × Stand):Prop:=standOk x.2.2∧setOk x.2.1
def fire_rules_2u_1 (x:Int × Int × Stand):Bool:=coldV x.2.2 x.2.1 x.2.2.2.1.2.2.1
def fire_rules_2u_1u_p (x:Int × Int × Stand):Prop:=standOk x.2.2∧setOk x.2.1
def fire_rules_3u_1 (x:Int × Int × Stand):Bool:=slowV x.2.2 x.1 x.2.1 x.2.2.2.1.2.2.2.2.1
def fire_rules_3u_1u_p (x:Int × Int × Stand):Prop:=standOk x.2.2∧setOk x.1∧setOk x.2.1
def fire_rules_4u_1 (x:Int × Int × Stand):Bool:=slowV x.2.2 x.2.1 x.1 x.2.2.2.1.2.2.2.2.2
def fire_rules_4u_1u_p (x:Int × Int × Stand):Prop:=standOk x.2.2∧setOk x.1∧setOk x.2.1
def fire_rules_6u_1 (x:Int × Int × Stand):Bool:=coldV x.2.2 x.2.1 x.2.2.2.1.1
def fire_rules_6u_1u_p (x:Int × Int × Stand):Prop:=standOk x.2.2∧setOk x.2.1
def ruleP (x:Stand × List Int):Prop:=standOk x.1∧listOk x.2
def fire_rules_1 (x:Stand × List Int):Int:=firstOf (x.2.take 1) 0 fun e=>coldV x.1 e.2 x.1.2.1.1
def fire_rules_1u_p (x:Stand × List Int):Prop:=ruleP x
def fire_rules_2 (x:Stand × List Int):Int:=firstOf x.2 0 fun e=>coldV x.1 e.2 x.1.2.1.2.2.1
def fire_rules_2u_p (x:Stand × List Int):Prop:=ruleP x
def fire_rules_3 (x:Stand × List Int):Int:=firstOf x.2 1 fun e=>slowV x.1 e.1 e.2 x.1.2.1.2.2.2.2.1
def fire_rules_3u_p (x:Stand × List Int):Prop:=ruleP x
def fire_rules_4 (x:Stand × List Int):Int:=firstOf x.2 1 fun e=>slowV x.1 e.2 e.1 x.1.2.1.2.2.2.2.2
def fire_rules_4u_p (x:Stand × List Int):Prop:=ruleP x
def fire_rules_5 (x:Stand × List Int):Int:=cond (heldV x.1 x.2 0) (-1) 0
def fire_rules_5u_p (x:Stand × List Int):Prop:=ruleP x
def fire_rules_6 (x:Stand × List Int):Int:=firstOf x.2 ((x.2.length:Int) - 1) fun e=>coldV x.1 e.2 x.1.2.1.1
def fire_rules_6u_p (x:Stand × List Int):Prop:=ruleP x
def fire_rules (_:Unit):List (Int × Fun (Stand × List Int) Int) :=
 [(1,⟨fire_rules_1u_p,fire_rules_1⟩),(2,⟨fire_rules_2u_p,fire_rules_2⟩),(3,⟨fire_rules_3u_p,fire_rules_3⟩),(4,⟨fire_rules_4u_p,fire_rules_4⟩),(5,⟨fire_rules_5u_p,fire_rules_5⟩),(6,⟨fire_rules_6u_p,fire_rules_6⟩)]
def fire_rules_p (_:Unit):Prop:=True
def brkGo (x:Stand × List Int):List (Int × Fun (Stand × List Int) Int)→Int × Int
 | []=>(0,0)
 | r::t=>cond (decide (0≤r.2.val x)) (r.1,r.2.val x) (brkGo x t)
def fire_stand_broken (x:Stand × List Int):Int × Int:=brkGo x (fire_rules ())
def fire_stand_broken_p (x:Stand × List Int):Prop:=ruleP x
def badAt (k:Kiln) (f:Fire) (l:List Int) (i:Nat):Bool:=!((fire_stand_broken ((k,f,k.1.getD i ((0,0),0,0)),l)).1==0)
def badsFrom (k:Kiln) (f:Fire) (l:List Int):Nat→Nat→List Int
 | 0,_=>[]
 | n+1,i=>cond (badAt k f l i) ((i:Int)::badsFrom k f l n (i+1)) (badsFrom k f l n (i+1))
def checkV (k:Kiln) (f:Fire) (l:List Int):(List Int) × Int :=
 cond (!(fire_check (k,l,[f])==0)) ([],fire_check (k,l,[f])) (badsFrom k f l k.1.length 0,0)
def fire_Check (x:Kiln × Fire × List Int):(List Int) × Int:=checkV x.1 x.2.1 x.2.2
def fire_Check_p (_:Kiln × Fire × List Int):Prop:=True
def wr (n:Int):Int:=IntKind.wrap .u16 n
def whyV (k:Kiln) (f:Fire) (l:List Int) (place:Int):Int × Int × Int :=
 cond (!(fire_check (k,l,[f])==0)) (0,0,fire_check (k,l,[f])) (cond (!inB place 0 ((k.1.length:Int) - 1)) (0,0,2)
  (cond ((fire_stand_broken ((k,f,k.1.getD place.toNat ((0,0),0,0)),l)).1==0) (0,0,4)
   ((fire_stand_broken ((k,f,k.1.getD place.toNat ((0,0),0,0)),l)).1,(fire_stand_broken ((k,f,k.1.getD place.toNat ((0,0),0,0)),l)).2,0)))
def fire_Why (x:Kiln × Fire × (List Int) × Int):Int × Int × Int:=whyV x.1 x.2.1 x.2.2.1 x.2.2.2
def fire_Why_p (_:Kiln × Fire × (List Int) × Int):Prop:=True
abbrev State:=Int × Int
abbrev Came:=State→Option State
abbrev Plnr:=Kiln × Fire × (List Stand) × Came × List State
def noneS:State:=(-1,0)
def fire_none (_:Unit):State:=noneS
def fire_none_p (_:Unit):Prop:=True
def slices_IndexFunc_Lfire_stand_fire_stand (x:(List Stand) × Fun Stand Bool):Int:=ixF x.2.val x.1 0
def slices_IndexFunc_Lfire_stand_fire_stand_p (x:(List Stand) × Fun Stand Bool):Prop:=x.1.length≤big∧∀ a∈x.1,x.2.pre a
def slices_ContainsFunc_Lfire_stand_fire_stand (x:(List Stand) × Fun Stand Bool):Bool:=x.1.any x.2.val
def slices_ContainsFunc_Lfire_stand_fire_stand_p (x:(List Stand) × Fun Stand Bool):Prop:=x.1.length≤big∧∀ a∈x.1,x.2.pre a
def fire_every_1 (x:Stand × Fun Stand Bool):Bool:=!x.2.val x.1
def fire_every_1u_p (x:Stand × Fun Stand Bool):Prop:=x.2.pre x.1
def fire_every (x:(List Stand) × Fun Stand Bool):Bool:=x.1.all x.2.val
def fire_every_p (x:(List Stand) × Fun Stand Bool):Prop:=x.1.length≤big∧∀ a∈x.1,x.2.pre a
def fire_planner_isCold_1 (x:Stand × Int × Int):Bool:=coldV x.1 x.2.1 x.2.2
def fire_planner_isCold_1u_p (x:Stand × Int × Int):Prop:=fire_stand_isCold_p x
def fire_planner_enter_1 (x:Stand × Int):Bool:=soakV x.1 x.2
def fire_planner_enter_1u_p (x:Stand × Int):Prop:=fire_stand_isSoaked_p x
def goesV (f:Fire) (before set:Int) (s:Stand):Bool:=slowV s before set f.2.2.2.2.1&&slowV s set before f.2.2.2.2.2
def fire_planner_follows_1 (x:Stand × Int × Int × Plnr):Bool:=goesV x.2.2.2.2.1 x.2.1 x.2.2.1 x.1
def fireOk (f:Fire):Prop:=fireB f=true
def fire_planner_follows_1u_p (x:Stand × Int × Int × Plnr):Prop:=standOk x.1∧setOk x.2.1∧setOk x.2.2.1∧fireOk x.2.2.2.2.1
def standsOk (l:List Stand):Prop:=l.length≤8∧∀ s∈l,standOk s
def allCold (l:List Stand) (set heat:Int):Bool:=l.all fun s=>coldV s set heat
def fire_planner_isCold (x:Plnr × Int × Int):Bool:=allCold x.1.2.2.1 x.2.1 x.2.2
def fire_planner_isCold_p (x:Plnr × Int × Int):Prop:=standsOk x.1.2.2.1∧setOk x.2.1∧0≤x.2.2∧x.2.2≤4000
def followsV (ramp:Int) (f:Fire) (l:List Stand) (before set:Int):Bool :=
 (decide (max (set - before) (before - set)≤ramp)&&allCold l set f.2.2.1)&&l.all (goesV f before set)
def fire_planner_follows (x:Plnr × Int × Int):Bool:=followsV x.1.1.2.2.1 x.1.2.1 x.1.2.2.1 x.2.1 x.2.2
def fire_planner_follows_p (x:Plnr × Int × Int):Prop:=standsOk x.1.2.2.1∧fireOk x.1.2.1∧setOk x.2.1∧setOk x.2.2
def backs (came:Came):Nat→State→List Int
 | 0,_=>[]
 | n+1,s=>cond (s.1==noneS.1&&s.2==noneS.2) [] (s.1::backs came n ((came s).getD (0,0)))
def chain (came:Came):Nat→State→Prop
 | 0,s=>s=noneS
 | n+1,s=>s=noneS∨chain came n ((came s).getD (0,0))
def progOf (came:Came) (s:State):List Int:=(backs came 50 s).reverse
def fire_planner_program (x:Plnr × State):List Int:=progOf x.1.2.2.2.1 x.2
def fire_planner_program_p (x:Plnr × State):Prop:=chain x.1.2.2.2.1 49 x.2
def eqS (a b:State):Bool:=a.1==b.1&&a.2==b.2
def soakedV (f:Fire) (l:List Stand) (set had:Int):Int:=cond (decide (had<f.2.2.2.1)) (cond (l.all fun s=>soakV s set) (had+1) 0) had
def enterV (f:Fire) (l:List Stand) (set:Int) (from_:State) (st:Came × List State):Came × List State :=
 cond (st.1 (set,soakedV f l set from_.2)).isSome st (Z.mput eqS st.1 (set,soakedV f l set from_.2) from_,st.2++[(set,soakedV f l set from_.2)])
def sweep (step:Int) (ok:Int→Bool) (f:Fire) (l:List Stand) (from_:State):Nat→Int→Came × List State→Came × List State
 | 0,_,st=>st
 | n+1,set,st=>cond (decide (set≤2000)) (sweep step ok f l from_ n (set+step) (cond (ok set) (enterV f l set from_ st) st)) st
def startV (k:Kiln) (f:Fire) (l:List Stand):Came × List State :=
 sweep k.2.2.2 (fun set=>allCold l set f.1&&allCold l set f.2.2.1) f l noneS 50 0 (fun _=>none,[])
def searchV (k:Kiln) (f:Fire) (l:List Stand):Nat→Came × List State→(List Int) × Int
 | 0,_=>([],4)
 | n+1,(came,queue)=>match queue with
  | []=>([],4)
  | s::q=>cond (s.2==f.2.2.2.1&&allCold l s.1 f.1) (progOf came s,0)
    (searchV k f l n (cond (decide ((progOf came s).length<40)) (sweep k.2.2.2 (followsV k.2.2.1 f l s.1) f l s 50 0 (came,q)) (came,q)))
def placesB (k:Kiln):List Int→Int→Bool
 | [],_=>true
 | n::l,prev=>(inB n 0 ((k.1.length:Int) - 1)&&decide (prev<n))&&placesB k l n
def standsOf (k:Kiln) (f:Fire) (l:List Int):List Stand:=l.map fun n=>(k,f,k.1.getD n.toNat ((0,0),0,0))
def planV (k:Kiln) (f:Fire) (places:List Int):(List Int) × Int :=
 cond (!kilnB k||!fireB f) ([],1) (cond (!placesB k places (-1)||(places.length:Int)==0) ([],2)
  (searchV k f (standsOf k f places) 600 (startV k f (standsOf k f places))))
def fire_Plan (x:Kiln × Fire × List Int):(List Int) × Int:=planV x.1 x.2.1 x.2.2
def fire_Plan_p (_:Kiln × Fire × List Int):Prop:=True
def takenB (taken place:Int):Bool:=(((((Int.fdiv taken (2^place.toNat)).toNat &&& (1:Int).toNat:Nat):Int))==1)
def takeV (taken place:Int):Int:=((taken.toNat ||| ((1:Int)*2^place.toNat).toNat:Nat):Int)
def fire_Stand_1 (x:Int × Int × Int × Kiln × (List Fire) × List Int):Bool :=
 cond (takenB x.2.2.1 x.2.1) false ((fire_stand_broken ((x.2.2.2.1,x.2.2.2.2.1.getD x.1.toNat (0,0,0,0,0,0),x.2.2.2.1.1.getD x.2.1.toNat ((0,0),0,0)),x.2.2.2.2.2)).1==0)
def fire_Stand_1u_p (x:Int × Int × Int × Kiln × (List Fire) × List Int):Prop :=
 (0≤x.1∧x.1<(x.2.2.2.2.1.length:Int))∧(0≤x.2.1∧x.2.1<(x.2.2.2.1.1.length:Int))∧0≤x.2.2.1∧kilnB x.2.2.2.1=true∧x.2.2.2.2.1.all fireB=true∧progB x.2.2.2.2.2=true
abbrev Can:=Int × Int × Int→Bool
def manyStep (can:Can) (next:Int→Int) (i taken:Int) (acc:Int) (p:Nat):Int:=cond (can (i,(p:Int),taken)) (max acc (1+next (takeV taken (p:Int)))) acc
def manyG (can:Can) (places len:Nat):Nat→Int→Int
 | 0,_=>0
 | n+1,taken=>(List.range places).foldl (manyStep can (manyG can places len n) ((len:Int) - ((n:Int)+1)) taken) (manyG can places len n taken)
def manyV (can:Can) (places len:Nat) (from_ taken:Int):Int:=manyG can places len ((len:Int) - from_).toNat taken
def fire_Stand_2 (x:Int × Int × (List Fire) × Kiln × Fun (Int × Int × Int) Bool):Int:=manyV x.2.2.2.2.val x.2.2.2.1.1.length x.2.2.1.length x.1 x.2.1
def fire_Stand_2u_p (x:Int × Int × (List Fire) × Kiln × Fun (Int × Int × Int) Bool):Prop :=
 (0≤x.1∧x.1≤(x.2.2.1.length:Int))∧(0≤x.2.1∧x.2.1<256)∧x.2.2.1.length≤8∧x.2.2.2.1.1.length≤8 ∧
  ∀ i p t,(0≤i∧i<(x.2.2.1.length:Int))→(0≤p∧p<(x.2.2.2.1.1.length:Int))→(0≤t∧t<256)→x.2.2.2.2.pre (i,p,t)
def fire_Stand_2u_i (x:Int × Int × (List Fire) × Kiln × Fun (Int × Int × Int) Bool) (s:Int × Int) (r:Int):Prop:=r=manyV x.2.2.2.2.val x.2.2.2.1.1.length x.2.2.1.length s.1 s.2
def m63 (x:Int × Int × (List Fire) × Kiln × Fun (Int × Int × Int) Bool):Nat:=((x.2.2.1.length:Int) - x.1).toNat
def fire_Stand_2u_q (y x:Int × Int × (List Fire) × Kiln × Fun (Int × Int × Int) Bool):Prop:=fire_Stand_2u_p x∧m63 x<m63 y
def canOf (k:Kiln) (l:List Fire) (prog:List Int):Fun (Int × Int × Int) Bool:=⟨fun y=>fire_Stand_1u_p (y.1,y.2.1,y.2.2,k,l,prog),fun y=>fire_Stand_1 (y.1,y.2.1,y.2.2,k,l,prog)⟩
def manyI (x:Kiln × (List Fire) × List Int) (s:Int × Int) (r:Int):Prop:=fire_Stand_2u_i (0,0,x.2.1,x.1,canOf x.1 x.2.1 x.2.2) s r
def placeAt (can:Can) (places len:Nat) (i taken:Int):Nat→Nat→Int
 | 0,_=>-1
 | n+1,p=>cond (can (i,(p:Int),taken)&&1+manyV can places len (i+1) (takeV taken (p:Int))==manyV can places len i taken) (p:Int) (placeAt can places len i taken n (p+1))
def standGo (can:Can) (places len:Nat):Nat→Nat→Int→List Int
 | 0,_,_=>[]
 | n+1,i,taken=>placeAt can places len (i:Int) taken places 0::standGo can places len n (i+1)
   (cond (placeAt can places len (i:Int) taken places 0==-1) taken (takeV taken (placeAt can places len (i:Int) taken places 0)))
def standV (k:Kiln) (l:List Fire) (prog:List Int):(List Int) × Int :=
 cond (!(fire_check (k,prog,l)==0)) ([],fire_check (k,prog,l)) (standGo (canOf k l prog).val k.1.length l.length l.length 0 0,0)
def fire_Stand (x:Kiln × (List Fire) × List Int):(List Int) × Int:=standV x.1 x.2.1 x.2.2
def fire_Stand_p (x:Kiln × (List Fire) × List Int):Prop:=x.2.1.length≤big
def sameL:List Int→List Int→Bool
 | [],[]=>true
 | a::l,b::r=>a==b&&sameL l r
 | _,_=>false
def ref03u_Ints (x:(List Int) × List Int):Bool:=sameL x.1 x.2
def ref03u_Ints_p (x:(List Int) × List Int):Prop:=x.1.length≤big
def law03u_span (x:Int × Int):Span:=(x.1,x.2)
def law03u_span_p (_:Int × Int):Prop:=True
def firesV:Fire × Fire:=((150,700,1000,2,350,400),150,700,1100,2,400,400)
def law03u_fires (_:Unit):Fire × Fire:=firesV
def law03u_fires_p (_:Unit):Prop:=True
def kilnV:Kiln:=([((900,1000),-10,10),((1000,1100),0,20)],10,300,100)
def law03u_kiln (_:Unit):Kiln:=kilnV
def law03u_kiln_p (_:Unit):Prop:=True
def programV:List Int:=[100,400,700,900,900,600,300,100]
def law03u_program (_:Unit):List Int:=programV
def law03u_program_p (_:Unit):Prop:=True
def law03u_alive (_:Unit):Bool:=true
def law03u_alive_p (_:Unit):Prop:=True
def law03u_FireNames (_:Unit):Bool:=true
def law03u_FireNames_p (_:Unit):Prop:=True
end Go.Fire
