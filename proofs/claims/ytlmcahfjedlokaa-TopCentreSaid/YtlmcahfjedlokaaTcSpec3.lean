/-
  Slat: what each function gives. No program in sight.
-/
import Derived.Test.YtlmcahfjedlokaaTcMix
set_option linter.all false
set_option maxRecDepth 100000
namespace Go.Tc
open Go Go.Sx
abbrev Slat:=Span × Span × Span × Span
abbrev Jig:=Span × Span × Span × Span × Int × Int
abbrev Sand:=Jig × Slat × Slat
def timesS (s:Span) (n:Int):Span:=(min (n*s.1) (n*s.2),max (n*s.1) (n*s.2))
def plusS (a b:Span):Span:=(a.1+b.1,a.2+b.2)
def sumS (l:List Span):Span:=l.foldl plusS (0,0)
def lessS (a b:Span):Span:=sumS [a,timesS b (-1)]
def farS (s:Span):Int:=max s.2 (-s.1)
def inS (a b:Span):Bool:=decide (b.1≤a.1)&&decide (a.2≤b.2)
def andS (a b:Span):Span:=(max a.1 b.1,min a.2 b.2)
def slatB (s:Slat):Bool:=((spanB s.1 1 10000&&spanB s.2.1 0 s.1.1)&&spanB s.2.2.1 (-500) 500)&&spanB s.2.2.2 (-50) 50
def jigB (j:Jig):Bool:=((((spanB j.1 0 500&&spanB j.2.1 1 5000)&&spanB j.2.2.1 (-500) 500)&&spanB j.2.2.2.1 (-500) 500)&&inB j.2.2.2.2.1 0 500)&&inB j.2.2.2.2.2 1 10
def smallS (b:Int) (s:Span):Prop:=(-b≤s.1∧s.1≤b)∧-b≤s.2∧s.2≤b
structure SandOk (x:Sand):Prop where
 j:jigB x.1=true
 a:slatB x.2.1=true
 b:slatB x.2.2=true
def ref05u_in (x:Int × Int × Int):Bool:=inB x.1 x.2.1 x.2.2
def ref05u_in_p (_:Int × Int × Int):Prop:=True
def ref05u_span (x:Span × Int × Int):Bool:=spanB x.1 x.2.1 x.2.2
def ref05u_span_p (_:Span × Int × Int):Prop:=True
def ref05u_Slat (x:Slat):Bool:=slatB x
def ref05u_Slat_p (_:Slat):Prop:=True
def ref05u_Jig (x:Jig):Bool:=jigB x
def ref05u_Jig_p (_:Jig):Prop:=True
def slat_within (x:Int × Int × Int):Bool:=inB x.1 x.2.1 x.2.2
def slat_within_p (_:Int × Int × Int):Prop:=True
def slat_span_is (x:Span × Int × Int):Bool:=spanB x.1 x.2.1 x.2.2
def slat_span_is_p (_:Span × Int × Int):Prop:=True
def slat_isSlat (x:Slat):Bool:=slatB x
def slat_isSlat_p (_:Slat):Prop:=True
def slat_isJig_1 (x:Slat):Bool:=!slatB x
def slat_isJig_1u_p (_:Slat):Prop:=True
def slices_IndexFunc_Lapi_Slat_api_Slat (x:(List Slat) × Fun Slat Bool):Int:=ixF x.2.val x.1 0
def slices_IndexFunc_Lapi_Slat_api_Slat_p (x:(List Slat) × Fun Slat Bool):Prop:=x.1.length≤big∧∀ a∈x.1,x.2.pre a
def slices_ContainsFunc_Lapi_Slat_api_Slat (x:(List Slat) × Fun Slat Bool):Bool:=x.1.any x.2.val
def slices_ContainsFunc_Lapi_Slat_api_Slat_p (x:(List Slat) × Fun Slat Bool):Prop:=x.1.length≤big∧∀ a∈x.1,x.2.pre a
def slices_IndexFunc_Lint_int (x:(List Int) × Fun Int Bool):Int:=ixF x.2.val x.1 0
def slices_IndexFunc_Lint_int_p (x:(List Int) × Fun Int Bool):Prop:=x.1.length≤big∧∀ a∈x.1,x.2.pre a
def slices_ContainsFunc_Lint_int (x:(List Int) × Fun Int Bool):Bool:=x.1.any x.2.val
def slices_ContainsFunc_Lint_int_p (x:(List Int) × Fun Int Bool):Prop:=x.1.length≤big∧∀ a∈x.1,x.2.pre a
def slat_isJig (x:Jig × List Slat):Bool:=jigB x.1&&x.2.all slatB
def slat_isJig_p (x:Jig × List Slat):Prop:=x.2.length≤big
def slat_span_times (x:Span × Int):Span:=timesS x.1 x.2
def slat_span_times_p (x:Span × Int):Prop:=smallS 1000000 x.1∧-10≤x.2∧x.2≤10
def slat_sum (l:List Span):Span:=sumS l
def slat_sum_p (l:List Span):Prop:=l.length≤10∧∀ s∈l,smallS 10000000 s
def slat_less (x:Span × Span):Span:=lessS x.1 x.2
def slat_less_p (x:Span × Span):Prop:=smallS 1000000 x.1∧smallS 1000000 x.2
def slat_span_far (s:Span):Int:=farS s
def slat_span_far_p (s:Span):Prop:=smallS 10000000 s
def slat_span_in (x:Span × Span):Bool:=inS x.1 x.2
def slat_span_in_p (_:Span × Span):Prop:=True
def slat_span_and (x:Span × Span):Span:=andS x.1 x.2
def slat_span_and_p (_:Span × Span):Prop:=True
def slat_span_isEmpty (s:Span):Bool:=decide (s.2<s.1)
def slat_span_isEmpty_p (_:Span):Prop:=True
def firstS (x:Sand):Span:=lessS x.2.1.2.2.1 x.2.2.2.2.1
def moreS (x:Sand):Span:=timesS (lessS x.2.1.2.2.2 x.2.2.2.2.2) (x.1.2.2.2.2.2 - 1)
def playS (x:Sand):Span:=(-x.1.2.2.2.2.1,x.1.2.2.2.2.1)
def roomS (x:Sand):Span:=sumS [x.2.1.2.1,x.2.2.2.1,lessS x.1.1 x.1.2.1]
def highS (x:Sand):Span:=sumS [lessS x.2.1.1 x.2.2.1,lessS x.1.2.1 x.1.1,timesS x.2.1.2.1 (-2),timesS x.1.2.2.2.1 (-2)]
def sideS (x:Sand) (i:Int):Span:=sumS [x.2.1.2.2.1,timesS x.2.1.2.2.2 i,x.2.2.2.2.1,timesS x.2.2.2.2.2 i,timesS x.1.2.2.1 (-2)]
def slat_sandwich_shifts (x:Sand):Span × Span × Span:=(firstS x,moreS x,playS x)
def slat_sandwich_shifts_p (x:Sand):Prop:=SandOk x
def slat_sandwich_room (x:Sand):Span:=roomS x
def slat_sandwich_room_p (x:Sand):Prop:=SandOk x
def slat_sandwich_high (x:Sand):Span:=highS x
def slat_sandwich_high_p (x:Sand):Prop:=SandOk x
def cond1 (x:Sand):Bool:=inS (firstS x) (playS x)&&inS (sumS [firstS x,moreS x]) (playS x)
def cond2 (x:Sand):Bool:=(!slat_span_isEmpty (andS (firstS x) (playS x)))&&!slat_span_isEmpty (andS (sumS [andS (firstS x) (playS x),moreS x]) (playS x))
def slat_conditions_1 (x:Sand):Bool:=cond1 x
def slat_conditions_1u_p (x:Sand):Prop:=SandOk x
def slat_conditions_2 (x:Sand):Bool:=cond2 x
def slat_conditions_2u_p (x:Sand):Prop:=SandOk x
def slat_conditions_3 (x:Sand):Bool:=decide (0≤(roomS x).1)
def slat_conditions_3u_p (x:Sand):Prop:=SandOk x
def slat_conditions_4 (x:Sand):Bool:=decide (0≤(roomS x).2)
def slat_conditions_4u_p (x:Sand):Prop:=SandOk x
abbrev CondF:=(Fun Sand Bool) × Fun Sand Bool
abbrev noCF:CondF:=(⟨fun _=>False,fun _=>false⟩,⟨fun _=>False,fun _=>false⟩)
def slat_conditions (_:Unit):List CondF :=
 [(⟨slat_conditions_1u_p,slat_conditions_1⟩,⟨slat_conditions_2u_p,slat_conditions_2⟩),(⟨slat_conditions_3u_p,slat_conditions_3⟩,⟨slat_conditions_4u_p,slat_conditions_4⟩)]
def slat_conditions_p (_:Unit):Prop:=True
def closesV (x:Sand):Int:=cond (cond2 x&&slat_conditions_4 x) (cond (cond1 x&&slat_conditions_3 x) 2 1) 0
def slat_sandwich_closes (x:Sand):Int:=closesV x
def slat_sandwich_closes_p (x:Sand):Prop:=SandOk x
def slat_Closes (x:Jig × Slat × Slat):Int × Int:=cond (slat_isJig (x.1,[x.2.1,x.2.2])) (closesV x,0) (0,1)
def slat_Closes_p (_:Jig × Slat × Slat):Prop:=True
def offsV (x:Sand):List (Int × Span):=(List.range x.1.2.2.2.2.2.toNat).map fun i=>((i:Nat),sideS x (i:Nat))
def slat_sandwich_offs_1 (x:Sand):List (Int × Span):=offsV x
def slat_sandwich_offs_1u_p (x:Sand):Prop:=SandOk x
def slat_sandwich_offs (x:Sand):Sx.Seq (Int × Span):=⟨SandOk x,offsV x⟩
def slat_sandwich_offs_p (_:Sand):Prop:=True
def slat_Off (x:Jig × Slat × Slat × Int):Span × Span × Int :=
 cond (slat_isJig (x.1,[x.2.1,x.2.2.1])) (cond (inB x.2.2.2 0 (x.1.2.2.2.2.2 - 1)) (sideS (x.1,x.2.1,x.2.2.1) x.2.2.2,highS (x.1,x.2.1,x.2.2.1),0) ((0,0),(0,0),2)) ((0,0),(0,0),1)
def slat_Off_p (_:Jig × Slat × Slat × Int):Prop:=True
def withinS (a b:Span) (n:Int):Bool:=decide (farS a*farS a+farS b*farS b≤4*n*n)
def slat_isWithin (x:Span × Span × Int):Bool:=withinS x.1 x.2.1 x.2.2
def slat_isWithin_p (x:Span × Span × Int):Prop:=(smallS 10000000 x.1∧smallS 10000000 x.2.1)∧0≤x.2.2∧x.2.2≤1000
def slat_Grades_2 (x:Int × Span × Sand):Bool:=withinS x.2.1 (highS x.2.2) x.1
def slat_Grades_2u_p (x:Int × Span × Sand):Prop:=(SandOk x.2.2∧smallS 10000000 x.2.1)∧0≤x.1∧x.1≤1000
def limB:Int→List Int→Bool
 | _,[]=>true
 | last,n::r=>inB n (last+1) 1000&&limB n r
def slat_Grades_1 (x:Int × Int):Bool × Int:=(!inB x.1 (x.2+1) 1000,x.1)
def slat_Grades_1u_p (x:Int × Int):Prop:=-1≤x.2∧x.2≤1000
def gradeV (x:Sand) (l:List Int) (i:Int):Int:=ixF (fun n=>withinS (sideS x i) (highS x) n) l 0
def gradesV (x:Sand) (l:List Int):List Int:=(List.range x.1.2.2.2.2.2.toNat).map fun i=>gradeV x l (i:Nat)
def slat_Grades (x:Jig × Slat × Slat × List Int):(List Int) × Int :=
 cond (slat_isJig (x.1,[x.2.1,x.2.2.1])) (cond (decide (8<(x.2.2.2.length:Int))) ([],3)
  (cond (((x.2.2.2.length:Int)==0)||!limB (-1) x.2.2.2) ([],2) (cond (closesV (x.1,x.2.1,x.2.2.1)==2) (gradesV (x.1,x.2.1,x.2.2.1) x.2.2.2,0) ([],6)))) ([],1)
def slat_Grades_p (_:Jig × Slat × Slat × List Int):Prop:=True
def pickV (s:Span) (at_:Int) (by_:List Int):Int :=
 s.1+Int.tmod (IntKind.u16.wrap (by_.getD (Int.tmod at_ (by_.length:Int)).toNat 0+IntKind.u16.wrap at_)) (s.2 - s.1+1)
def top_TopCentre_1 (x:Span × Int × List Int):Int × Int:=(pickV x.1 (x.2.1+1) x.2.2,x.2.1+1)
def top_TopCentre_1u_p (x:Span × Int × List Int):Prop:=(smallS 1000000 x.1∧x.1.1≤x.1.2)∧(0≤x.2.1∧x.2.1≤1000)∧0<x.2.2.length∧∀ b∈x.2.2,0≤b∧b≤65535
def top_awake05 (_:Unit):Bool:=true
def top_awake05u_p (_:Unit):Prop:=True
def top_TopCentre (_:Press × Int × Int × Jig × Slat × Slat × (List Int) × List Int):Bool:=true
def top_TopCentre_p (x:Press × Int × Int × Jig × Slat × Slat × (List Int) × List Int):Prop:=∀ b∈x.2.2.2.2.2.2.2,0≤b∧b≤65535
end Go.Tc
/-
 Facts on spans of slats and jigs. Plain Lean;no program in sight.
-/
namespace Go.Tc
open Go Go.Sx
theorem spn_iff {s:Span} {a b:Int}:spanB s a b=true↔a≤s.1∧s.1≤s.2∧s.2≤b:=by
 simp [spanB]
 try omega
theorem times_m1 (s:Span) (h:s.1≤s.2):timesS s (-1)=(-s.2,-s.1):=by
 unfold timesS
 rw [Int.min_eq_right (by omega),Int.max_eq_left (by omega)]
 ext<;>simp only<;>omega
theorem times_m2 (s:Span) (h:s.1≤s.2):timesS s (-2)=(-2*s.2,-2*s.1):=by
 unfold timesS
 rw [Int.min_eq_right (by omega),Int.max_eq_left (by omega)]
theorem times_pos (s:Span) (h:s.1≤s.2) {n:Int} (hn:0≤n):timesS s n=(n*s.1,n*s.2):=by
 unfold timesS
 have:=Int.mul_le_mul_of_nonneg_left h hn
 rw [Int.min_eq_left this,Int.max_eq_right this]
theorem less_eq (a b:Span) (h:b.1≤b.2):lessS a b=(a.1 - b.2,a.2 - b.1):=by
 unfold lessS sumS
 rw [times_m1 b h]
 show plusS (plusS (0,0) a) (-b.2,-b.1)=_
 unfold plusS
 ext<;>simp only<;>omega
structure SlatIs (a:Slat):Prop where
 t:1≤a.1.1∧a.1.1≤a.1.2∧a.1.2≤10000
 d:0≤a.2.1.1∧a.2.1.1≤a.2.1.2∧a.2.1.2≤10000
 s:-500≤a.2.2.1.1∧a.2.2.1.1≤a.2.2.1.2∧a.2.2.1.2≤500
 p:-50≤a.2.2.2.1∧a.2.2.2.1≤a.2.2.2.2∧a.2.2.2.2≤50
theorem slat_is {s:Slat} (h:slatB s=true):SlatIs s:=by
 simp only [slatB,Bool.and_eq_true,spn_iff] at h
 obtain ⟨⟨⟨h1,h2⟩,h3⟩,h4⟩:=h
 exact ⟨h1,⟨h2.1,h2.2.1,by omega⟩,h3,h4⟩
structure JigIs (j:Jig):Prop where
 g:0≤j.1.1∧j.1.1≤j.1.2∧j.1.2≤500
 l:1≤j.2.1.1∧j.2.1.1≤j.2.1.2∧j.2.1.2≤5000
 s:-500≤j.2.2.1.1∧j.2.2.1.1≤j.2.2.1.2∧j.2.2.1.2≤500
 h:-500≤j.2.2.2.1.1∧j.2.2.2.1.1≤j.2.2.2.1.2∧j.2.2.2.1.2≤500
 p:0≤j.2.2.2.2.1∧j.2.2.2.2.1≤500
 n:1≤j.2.2.2.2.2∧j.2.2.2.2.2≤10
theorem jig_is {j:Jig} (h:jigB j=true):JigIs j:=by
 simp only [jigB,Bool.and_eq_true,spn_iff,inB_iff] at h
 obtain ⟨⟨⟨⟨⟨h1,h2⟩,h3⟩,h4⟩,h5⟩,h6⟩:=h
 exact ⟨h1,h2,h3,h4,h5,h6⟩
theorem SandOk.is {x:Sand} (h:SandOk x):JigIs x.1∧SlatIs x.2.1∧SlatIs x.2.2:=⟨jig_is h.j,slat_is h.a,slat_is h.b⟩
theorem first_eq {x:Sand} (h:SandOk x):firstS x=(x.2.1.2.2.1.1 - x.2.2.2.2.1.2,x.2.1.2.2.1.2 - x.2.2.2.2.1.1):=less_eq _ _ h.is.2.2.s.2.1
theorem pitch_eq {x:Sand} (h:SandOk x):lessS x.2.1.2.2.2 x.2.2.2.2.2=(x.2.1.2.2.2.1 - x.2.2.2.2.2.2,x.2.1.2.2.2.2 - x.2.2.2.2.2.1):=less_eq _ _ h.is.2.2.p.2.1
theorem room_eq {x:Sand} (h:SandOk x):roomS x=(x.2.1.2.1.1+x.2.2.2.1.1+x.1.1.1 - x.1.2.1.2,x.2.1.2.1.2+x.2.2.2.1.2+x.1.1.2 - x.1.2.1.1):=by
 unfold roomS sumS
 rw [less_eq _ _ h.is.1.l.2.1]
 show plusS (plusS (plusS (0,0) _) _) _=_
 unfold plusS
 ext<;>simp only<;>omega
theorem high_eq {x:Sand} (h:SandOk x):highS x=(x.2.1.1.1 - x.2.2.1.2+(x.1.2.1.1 - x.1.1.2) - 2*x.2.1.2.1.2 - 2*x.1.2.2.2.1.2,x.2.1.1.2 - x.2.2.1.1+(x.1.2.1.2 - x.1.1.1) - 2*x.2.1.2.1.1 - 2*x.1.2.2.2.1.1):=by
 obtain ⟨hj,ha,hb⟩:=h.is
 unfold highS sumS
 rw [less_eq _ _ hb.t.2.1,less_eq _ _ hj.g.2.1,times_m2 _ ha.d.2.1,times_m2 _ hj.h.2.1]
 show plusS (plusS (plusS (plusS (0,0) _) _) _) _=_
 unfold plusS
 ext<;>simp only<;>omega
theorem side_eq {x:Sand} (h:SandOk x) {i:Int} (hi:0≤i):sideS x i=(x.2.1.2.2.1.1+i*x.2.1.2.2.2.1+x.2.2.2.2.1.1+i*x.2.2.2.2.2.1 - 2*x.1.2.2.1.2,x.2.1.2.2.1.2+i*x.2.1.2.2.2.2+x.2.2.2.2.1.2+i*x.2.2.2.2.2.2 - 2*x.1.2.2.1.1):=by
 obtain ⟨hj,ha,hb⟩:=h.is
 unfold sideS sumS
 rw [times_pos _ ha.p.2.1 hi,times_pos _ hb.p.2.1 hi,times_m2 _ hj.s.2.1]
 show plusS (plusS (plusS (plusS (plusS (0,0) _) _) _) _) _=_
 unfold plusS
 ext<;>simp only<;>omega
theorem mul_in {n a:Int} {N A:Int} (hn:0≤n∧n≤N) (ha:-A≤a∧a≤A) (hA:0≤A):-(N*A)≤n*a∧n*a≤N*A:=by
 have h1:=Int.mul_le_mul_of_nonneg_left ha.1 hn.1
 have h2:=Int.mul_le_mul_of_nonneg_left ha.2 hn.1
 have h3:=Int.mul_le_mul_of_nonneg_right hn.2 hA
 rw [Int.mul_neg] at h1
 omega
theorem side_small {x:Sand} (h:SandOk x) {i:Int} (hi:0≤i∧i≤10):smallS 10000 (sideS x i):=by
 obtain ⟨hj,ha,hb⟩:=h.is
 have h1:=ha.p;have h2:=hb.p;have h3:=ha.s;have h4:=hb.s;have h5:=hj.s
 have m1:=mul_in hi (a:=x.2.1.2.2.2.1) (A:=50) (by omega) (by decide)
 have m2:=mul_in hi (a:=x.2.1.2.2.2.2) (A:=50) (by omega) (by decide)
 have m3:=mul_in hi (a:=x.2.2.2.2.2.1) (A:=50) (by omega) (by decide)
 have m4:=mul_in hi (a:=x.2.2.2.2.2.2) (A:=50) (by omega) (by decide)
 rw [side_eq h hi.1]
 exact ⟨⟨by simp only;omega,by simp only;omega⟩,by simp only;omega,by simp only;omega⟩
theorem high_small {x:Sand} (h:SandOk x):smallS 100000 (highS x):=by
 obtain ⟨hj,ha,hb⟩:=h.is
 have h1:=ha.t;have h2:=hb.t;have h3:=ha.d;have h4:=hj.l;have h5:=hj.g;have h6:=hj.h
 rw [high_eq h]
 exact ⟨⟨by simp only;omega,by simp only;omega⟩,by simp only;omega,by simp only;omega⟩
theorem isJig_two {j:Jig} {a b:Slat}:slat_isJig (j,[a,b])=true↔SandOk (j,a,b):=by
 unfold slat_isJig
 simp only [List.all_cons,List.all_nil,Bool.and_true,Bool.and_eq_true]
 exact ⟨fun ⟨h1,h2,h3⟩=>⟨h1,h2,h3⟩,fun h=>⟨h.j,h.a,h.b⟩⟩
end Go.Tc
/-
 TopCentre: names for what its condition repeats.
-/
namespace Go.Tc
open Go Go.Sx
abbrev CArgs:=Press × Int × Int × Jig × Slat × Slat × (List Int) × List Int
abbrev dieT (x:CArgs):=(x.1.1.getD (Int.toNat x.2.1) (0,0,0))
abbrev wideT (x:CArgs):=(die_Wide (x.1,x.2.1,x.2.2.1))
abbrev jigT (x:CArgs):=(x.2.2.2.1.1,(wideT x).1,x.2.2.2.1.2.2)
abbrev pk0 (x:CArgs):=(top_TopCentre_1 ((dieT x).2,0,x.2.2.2.2.2.2.2))
abbrev pk1 (x:CArgs):=(top_TopCentre_1 (x.1.2.1,(pk0 x).2,x.2.2.2.2.2.2.2))
abbrev pk2 (x:CArgs):=(top_TopCentre_1 (x.2.2.2.2.1.1,(pk1 x).2,x.2.2.2.2.2.2.2))
abbrev pk3 (x:CArgs):=(top_TopCentre_1 (x.2.2.2.2.2.1.1,(pk2 x).2,x.2.2.2.2.2.2.2))
abbrev pk4 (x:CArgs):=(top_TopCentre_1 (x.2.2.2.2.1.2.1,(pk3 x).2,x.2.2.2.2.2.2.2))
abbrev pk5 (x:CArgs):=(top_TopCentre_1 (x.2.2.2.2.2.1.2.1,(pk4 x).2,x.2.2.2.2.2.2.2))
abbrev pk6 (x:CArgs):=(top_TopCentre_1 (x.2.2.2.1.1,(pk5 x).2,x.2.2.2.2.2.2.2))
abbrev pk7 (x:CArgs):=(top_TopCentre_1 (x.2.2.2.1.2.2.2.1,(pk6 x).2,x.2.2.2.2.2.2.2))
abbrev pk8 (x:CArgs):=(top_TopCentre_1 (x.2.2.2.2.1.2.2.1,(pk7 x).2,x.2.2.2.2.2.2.2))
abbrev pk9 (x:CArgs):=(top_TopCentre_1 (x.2.2.2.2.1.2.2.2,(pk8 x).2,x.2.2.2.2.2.2.2))
abbrev pk10 (x:CArgs):=(top_TopCentre_1 (x.2.2.2.2.2.1.2.2.1,(pk9 x).2,x.2.2.2.2.2.2.2))
abbrev pk11 (x:CArgs):=(top_TopCentre_1 (x.2.2.2.2.2.1.2.2.2,(pk10 x).2,x.2.2.2.2.2.2.2))
abbrev pk12 (x:CArgs):=(top_TopCentre_1 (x.2.2.2.1.2.2.1,(pk11 x).2,x.2.2.2.2.2.2.2))
end Go.Tc
