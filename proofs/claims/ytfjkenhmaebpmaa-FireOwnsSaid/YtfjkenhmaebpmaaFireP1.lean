/-
  Chapter 3: conditions of the functions of Heat, Check and Why, proved.
-/
import Derived.Test.YtfjkenhmaebpmaaFireAuto
set_option linter.all false
set_option maxRecDepth 100000
set_option linter.unusedVariables false
namespace Go.Fire
open Go Go.Sx
theorem mixed:Go.Proofs.Try.prog.follows .mixedOrders=true:=by kernel_rfl
theorem tabs_ok:TabsOk Go.Proofs.Try.prog T:=by
 refine ⟨by kernel_rfl,fun p hp=>?_⟩
 simp only [T,List.mem_cons,List.not_mem_nil,or_false] at hp
 rcases hp with rfl | rfl <;>
  exact ⟨by kernel_rfl,deep_keyed (by kernel_rfl) (of_decide_eq_true (by kernel_rfl)) (by kernel_rfl) (by kernel_rfl),by kernel_rfl⟩
theorem place_iff {p:Place}:placeB p=true↔(500≤p.1.1∧p.1.1≤p.1.2∧p.1.2≤1500)∧-200≤p.2.1∧p.2.1≤p.2.2∧p.2.2≤200:=by
 simp only [placeB,Bool.and_eq_true,span_iff]
structure OkK (k:Kiln):Prop where
 len:1≤(k.1.length:Int)∧(k.1.length:Int)≤8
 err:0≤k.2.1∧k.2.1≤100
 ramp:1≤k.2.2.1∧k.2.2.1≤2000
 step:50≤k.2.2.2∧k.2.2.2≤2000
 place:∀ p∈k.1,placeB p=true
theorem kiln_iff {k:Kiln}:kilnB k=true↔OkK k:=by
 simp only [kilnB,Bool.and_eq_true,inB_iff,List.all_eq_true]
 exact ⟨fun ⟨h1,h2,h3,h29,h30⟩=>⟨h1,h2,h3,h29,h30⟩,fun h=>⟨h.1,h.2,h.3,h.4,h.5⟩⟩
theorem fire_iff {f:Fire}:fireB f=true↔((0≤f.1∧f.1≤f.2.1)∧f.2.1≤f.2.2.1∧f.2.2.1≤4000)∧(1≤f.2.2.2.1∧f.2.2.2.1≤12)∧(1≤f.2.2.2.2.1∧f.2.2.2.2.1≤4000)∧1≤f.2.2.2.2.2∧f.2.2.2.2.2≤4000:=by
 simp only [fireB,Bool.and_eq_true,inB_iff,decide_eq_true_eq]
theorem prog_iff {l:List Int}:progB l=true↔(1≤(l.length:Int)∧(l.length:Int)≤40)∧∀ n∈l,0≤n∧n≤2000:=by
 simp only [progB,Bool.and_eq_true,inB_iff,List.all_eq_true,heatB]
theorem v41 (x:Int × Int × Int) (_:k41.pre x):V41 x:=rfl
theorem v44 (x:Int × Int × Int) (_:k44.pre x):V44 x:=rfl
theorem v69 (x:Span × Int × Int) (_:k69.pre x):V69 x:=by
 show (_:Bool)=_
 simp only [fire_isSpan,spanB,Bool.and_assoc]
theorem v66 (x:Span × Int × Int) (_:k66.pre x):V66 x:=by
 show (_:Bool)=_
 simp only [ref03u_span,spanB,Bool.and_assoc]
theorem v42 (x:Int) (_:k42.pre x):V42 x:=⟨trivial,rfl⟩
theorem v72 (x:Int) (_:k72.pre x):V72 x:=⟨trivial,rfl⟩
theorem v68 (x:Place) (_:k68.pre x):V68 x:=by
 refine ⟨trivial,fun _=>trivial,?_⟩
 simp only [fire_isKiln_1,fire_isSpan,placeB,Bool.not_and]
theorem v88 (x:(List Int) × Fun Int Bool) (h:k88.pre x):V88 x:=ixF_loop x.1 0 x.2 h.1 h.2
theorem v71 (x:(List Int) × Fun Int Bool) (h:k71.pre x):V71 x:=⟨h,any_ix _ _⟩
theorem v87 (x:(List Place) × Fun Place Bool) (h:k87.pre x):V87 x:=ixF_loop x.1 ((0,0),0,0) x.2 h.1 h.2
theorem v70 (x:(List Place) × Fun Place Bool) (h:k70.pre x):V70 x:=⟨h,any_ix _ _⟩
theorem v40 (x:Kiln) (_:k40.pre x):V40 x:=by
 refine ⟨trivial,fun _=>trivial,fun _=>trivial,fun _=>trivial,fun h=>⟨?_,fun _ _=>trivial⟩,?_⟩
 ·have h:((((inB x.2.1 0 100&&inB x.2.2.1 1 2000)&&inB x.2.2.2 50 2000))&&inB (x.1.length:Int) 1 8)=true:=h
  simp only [Bool.and_eq_true,inB_iff] at h
  show x.1.length≤big
  simp only [big];omega
 ·show ((((inB x.2.1 0 100&&inB x.2.2.1 1 2000)&&inB x.2.2.2 50 2000))&&inB (x.1.length:Int) 1 8&&!(x.1.any fun a=>!placeB a))=kilnB x
  rw [any_not,kilnB]
  cases inB (x.1.length:Int) 1 8<;>cases inB x.2.1 0 100<;>cases inB x.2.2.1 1 2000<;>cases inB x.2.2.2 50 2000<;>rfl
theorem v29 (x:Kiln) (hp:k29.pre x):V29 x:=by
 have hb:x.1.length≤140737488355328:=hp
 refine ⟨fun s=>0≤s∧s≤(x.1.length:Int)∧x.1.all placeB=(x.1.drop s.toNat).all placeB,fun s=>((x.1.length:Int) - s).toNat,⟨by omega,by omega,rfl⟩,?_⟩
 rintro s ⟨h1,h2,h3⟩
 have e:ref03u_Kiln x=(inB (x.1.length:Int) 1 8&&(inB x.2.1 0 100&&(inB x.2.2.1 1 2000&&(inB x.2.2.2 50 2000&&x.1.all placeB)))):=rfl
 rw [e]
 refine ⟨fun h=>?_,fun h=>?_⟩
 ·have h:s<(x.1.length:Int):=of_decide_eq_true h
  rw [all_drop placeB x.1 ((0,0),0,0) s h1 h] at h3
  obtain ⟨y,hy⟩:∃ y,y=x.1.getD s.toNat ((0,0),0,0):=⟨_,rfl⟩
  rw [←hy] at h3
  have ev:((!(ref03u_span (y.1,500,1500)))||(!(ref03u_span (y.2,(-200),200))))=!placeB y:=by
   simp only [ref03u_span,placeB,Bool.not_and]
  rw [←hy,ev]
  refine ⟨⟨h1,h⟩,trivial,fun _=>⟨h1,h⟩,fun _=>trivial,fun hv=>?_,fun hv=>⟨by simp only [Z.in64];omega,⟨by omega,by omega,?_⟩,by simp only;omega⟩⟩
  ·rw [h3,not_iff.1.1 hv,Bool.false_and,Bool.and_false,Bool.and_false,Bool.and_false,Bool.and_false]
  ·rw [h3,not_iff.2.1 hv,Bool.true_and]
 ·have h:¬ s<(x.1.length:Int):=of_decide_eq_false h
  rw [List.drop_eq_nil_of_le (by omega),List.all_nil] at h3
  rw [h3,Bool.and_true]
  refine ⟨trivial,fun _=>trivial,fun _=>trivial,fun _=>trivial,?_⟩
  simp only [ref03u_in,Bool.and_assoc]
theorem v52 (x:List Fire) (hp:k52.pre x):V52 x:=by
 have hb:x.length≤big:=hp
 simp only [big] at hb
 refine ⟨fun s=>0≤s∧s≤(x.length:Int)∧x.all fireB=(x.drop s.toNat).all fireB,fun s=>((x.length:Int) - s).toNat,⟨by omega,by omega,rfl⟩,?_⟩
 rintro s ⟨h1,h2,h3⟩
 have e:fire_areFires x=x.all fireB:=rfl
 rw [e]
 refine ⟨fun h=>?_,fun h=>?_⟩
 ·have h:s<(x.length:Int):=of_decide_eq_true h
  rw [all_drop fireB x (0,0,0,0,0,0) s h1 h] at h3
  obtain ⟨y,hy⟩:∃ y,y=x.getD s.toNat (0,0,0,0,0,0):=⟨_,rfl⟩
  rw [←hy] at h3
  have ev:((((!((fire_within (y.1,0,y.2.1)&&decide (y.2.1≤y.2.2.1))&&decide (y.2.2.1≤4000)))||(!(fire_within (y.2.2.2.1,1,12))))||(!(fire_within (y.2.2.2.2.1,1,4000))))||(!(fire_within (y.2.2.2.2.2,1,4000))))=!fireB y:=by
   simp only [fire_within,fireB,Bool.not_and,Bool.or_assoc]
  rw [←hy,ev]
  refine ⟨⟨h1,h⟩,trivial,fun _=>trivial,fun _=>trivial,fun _=>trivial,fun hv=>?_,fun hv=>⟨by simp only [Z.in64];omega,⟨by omega,by omega,?_⟩,by simp only;omega⟩⟩
  ·rw [h3,not_iff.1.1 hv,Bool.false_and]
  ·rw [h3,not_iff.2.1 hv,Bool.true_and]
 ·have h:¬ s<(x.length:Int):=of_decide_eq_false h
  rw [List.drop_eq_nil_of_le (by omega),List.all_nil] at h3
  rw [h3]
theorem v30 (x:Fire) (_:k30.pre x):V30 x:=by
 refine ⟨trivial,fun _=>trivial,fun _=>trivial,fun _=>trivial,?_⟩
 simp only [ref03u_Fire,ref03u_in,fireB,Bool.and_assoc]
theorem v31 (x:List Int) (hp:k31.pre x):V31 x:=by
 have hb:x.length≤140737488355328:=hp
 refine ⟨fun s=>0≤s∧s≤(x.length:Int)∧x.all heatB=(x.drop s.toNat).all heatB,fun s=>((x.length:Int) - s).toNat,⟨by omega,by omega,rfl⟩,?_⟩
 rintro s ⟨h1,h2,h3⟩
 have e:ref03u_Program x=(inB (x.length:Int) 1 40&&x.all heatB):=rfl
 rw [e]
 refine ⟨fun h=>?_,fun h=>?_⟩
 ·have h:s<(x.length:Int):=of_decide_eq_true h
  rw [all_drop heatB x 0 s h1 h] at h3
  obtain ⟨y,hy⟩:∃ y,y=x.getD s.toNat 0:=⟨_,rfl⟩
  rw [←hy] at h3
  have ev:(!(ref03u_in (y,0,2000)))=!heatB y:=rfl
  rw [←hy,ev]
  refine ⟨⟨h1,h⟩,trivial,fun hv=>?_,fun hv=>⟨by simp only [Z.in64];omega,⟨by omega,by omega,?_⟩,by simp only;omega⟩⟩
  ·rw [h3,not_iff.1.1 hv,Bool.false_and,Bool.and_false]
  ·rw [h3,not_iff.2.1 hv,Bool.true_and]
 ·have h:¬ s<(x.length:Int):=of_decide_eq_false h
  rw [List.drop_eq_nil_of_le (by omega),List.all_nil] at h3
  rw [h3,Bool.and_true]
  exact ⟨trivial,rfl⟩
theorem v48 (x:Kiln × (List Int) × List Fire) (hp:k48.pre x):V48 x:=by
 obtain ⟨k,l,f⟩:=x
 have hb:f.length≤big:=hp
 have e1:fire_isKiln k=kilnB k:=rfl
 have e2:fire_areFires f=f.all fireB:=rfl
 have e3:slices_ContainsFunc_Lint_int (l,⟨fire_check_1u_p,fire_check_1⟩)=l.any fun n=>!heatB n:=rfl
 have e:fire_check (k,l,f)=cond (!kilnB k||!f.all fireB) 1 (cond (decide ((40:Int)<(l.length:Int))||decide ((8:Int)<(f.length:Int))) 3 (cond (((l.length:Int)==0)||l.any fun n=>!heatB n) 2 0)):=rfl
 rw [V48,e]
 dsimp only
 rw [e1,e2,e3]
 refine ⟨trivial,fun _=>hb,fun h=>?_,fun h=>⟨fun h2=>?_,fun h2=>⟨fun _=>⟨?_,fun _ _=>trivial⟩,fun h3=>?_,fun h3=>?_⟩⟩⟩
 ·rw [h];rfl
 ·rw [h,h2];rfl
 ·simp only [Bool.or_eq_false_iff,decide_eq_false_iff_not] at h2
  show l.length≤big
  simp only [big];omega
 ·rw [h,h2,h3];rfl
 ·rw [h,h2,h3];rfl
theorem v43 (x:Int) (hp:k43.pre x):V43 x:=by
 have hb:-1000000000≤x∧x≤1000000000:=hp
 have e:fire_thousandth x=x / 1000:=rfl
 rw [V43,e]
 refine ⟨fun h=>?_,fun h=>?_⟩
 ·have h:x<0:=of_decide_eq_true h
  have e1:Int.tdiv (999 - x) 1000=(999 - x) / 1000:=Int.tdiv_eq_ediv_of_nonneg (by omega)
  rw [e1]
  refine ⟨by simp only [Z.in64];omega,⟨by omega,by simp only [Z.in64];omega⟩,by simp only [Z.in64];omega,by omega⟩
 ·have h:¬ x<0:=of_decide_eq_false h
  have e1:Int.tdiv x 1000=x / 1000:=Int.tdiv_eq_ediv_of_nonneg (by omega)
  rw [e1]
  exact ⟨⟨by omega,by simp only [Z.in64];omega⟩,rfl⟩
theorem most_bd {err set:Int} {p:Place} (he:0≤err∧err≤100) (hp:placeB p=true) (hs:setOk set):(0≤p.1.2*(set+err)∧p.1.2*(set+err)≤3150000)∧-200000≤mostV err p set∧mostV err p set≤3350000:=by
 have P:=place_iff.1 hp
 have q:=mul_bd (a:=p.1.2) (A:=1500) ⟨by omega,by omega⟩ (b:=set+err) (B:=2100) ⟨by have:=hs.1;omega,by have:=hs.2;omega⟩
 unfold mostV;omega
theorem least_bd {err set:Int} {p:Place} (he:0≤err∧err≤100) (hp:placeB p=true) (hs:setOk set):(0≤p.1.1*(max 0 (set - err))∧p.1.1*(max 0 (set - err))≤3000000)∧-200000≤leastV err p set∧leastV err p set≤3200000:=by
 have P:=place_iff.1 hp
 have q:=mul_bd (a:=p.1.1) (A:=1500) ⟨by omega,by omega⟩ (b:=max 0 (set - err)) (B:=2000) ⟨by omega,by have:=hs.2;have:=hs.1;omega⟩
 unfold leastV;omega
theorem v103 (x:Int × Place × Int) (hp:k103.pre x):V103 x:=by
 obtain ⟨err,p,set⟩:=x
 obtain ⟨h1,h2,h3⟩:(0≤err∧err≤100)∧placeB p=true∧setOk set:=hp
 have P:=place_iff.1 h2
 obtain ⟨q1,q2⟩:=most_bd h1 h2 h3
 have s1:=h3.1
 have s2:=h3.2
 refine ⟨?_,?_,?_,?_,rfl⟩
 ·show Z.in64 (set+err);simp only [Z.in64];omega
 ·show Z.in64 (p.1.2*(set+err));simp only [Z.in64];omega
 ·show Z.in64 (1000*p.2.2);simp only [Z.in64];omega
 ·show Z.in64 (p.1.2*(set+err)+1000*p.2.2);simp only [Z.in64];omega
theorem v104 (x:Int × Place × Int) (hp:k104.pre x):V104 x:=by
 obtain ⟨err,p,set⟩:=x
 obtain ⟨h1,h2,h3⟩:(0≤err∧err≤100)∧placeB p=true∧setOk set:=hp
 have P:=place_iff.1 h2
 obtain ⟨q1,q2⟩:=least_bd h1 h2 h3
 have s1:=h3.1
 have s2:=h3.2
 refine ⟨?_,?_,?_,?_,rfl⟩
 ·show Z.in64 (set - err);simp only [Z.in64];omega
 ·show Z.in64 (p.1.1*(max 0 (set - err)));simp only [Z.in64];omega
 ·show Z.in64 (1000*p.2.1);simp only [Z.in64];omega
 ·show Z.in64 (p.1.1*(max 0 (set - err))+1000*p.2.1);simp only [Z.in64];omega
theorem v14 (x:Kiln × Int × Int) (_:k14.pre x):V14 x:=by
 obtain ⟨k,place,set⟩:=x
 have e:fire_Heat (k,place,set)=heatOf k place set:=rfl
 rw [V14,e]
 dsimp only
 refine ⟨trivial,fun h=>?_,fun h=>?_⟩
 ·rw [heatOf,show (!kilnB k)=true from h];rfl
 have hk:kilnB k=true:=not_iff.2.1 h
 have K:=kiln_iff.1 hk
 have hl:=K.len
 refine ⟨by simp only [Z.in64];omega,trivial,fun _=>trivial,fun h2=>?_,fun h2=>?_⟩
 ·rw [heatOf,hk,show (!inB place 0 ((k.1.length:Int) - 1)||!heatB set)=true from h2];rfl
 have h2':(!inB place 0 ((k.1.length:Int) - 1)||!heatB set)=false:=h2
 have eh:heatOf k place set=((leastV k.2.1 (k.1.getD place.toNat ((0,0),0,0)) set / 1000,-((-(mostV k.2.1 (k.1.getD place.toNat ((0,0),0,0)) set)) / 1000)),0):=by rw [heatOf,hk,h2'];rfl
 rw [eh]
 simp only [Bool.or_eq_false_iff,Bool.not_eq_false',heatB,inB_iff] at h2'
 obtain ⟨hp,hs⟩:=h2'
 have hix:0≤place∧place<(k.1.length:Int):=by omega
 have hpl:=K.place _ (getD_mem' k.1 ((0,0),0,0) place hix.1 hix.2)
 obtain ⟨p,hpp⟩:∃ p,p=k.1.getD place.toNat ((0,0),0,0):=⟨_,rfl⟩
 rw [←hpp] at hpl ⊢
 obtain ⟨_,a1,a2⟩:=least_bd K.err hpl hs
 obtain ⟨_,b1,b2⟩:=most_bd K.err hpl hs
 refine ⟨fun s=>(s.1=0∧s.2=[0,0])∨(s.1=1∧s.2=[leastV k.2.1 p set,0])∨(s.1=2∧s.2=[leastV k.2.1 p set,mostV k.2.1 p set]),fun s=>(2 - s.1).toNat,.inl ⟨rfl,rfl⟩,?_⟩
 rintro ⟨i,en⟩ hI
 simp only at hI
 rcases hI with ⟨h1,h2⟩ | ⟨h1,h2⟩ | ⟨h1,h2⟩
 ·subst h1;subst h2
  have u1:(0:Int)≤0:=by decide
  have u2:(0:Int)<2:=by decide
  have u3:(2 - ((0:Int)+1)).toNat<(2 - (0:Int)).toNat:=by decide
  have u4:decide ((0:Int)<2)=false→False:=by decide
  have u5:Z.in64 ((0:Int)+1):=by simp only [Z.in64];omega
  exact ⟨fun _=>⟨⟨u1,u2⟩,hix,⟨(p,set),K.err,hpl,hs⟩,⟨K.err,hpl,hs⟩,⟨u1,u2⟩,u5,rfl,rfl,.inr (.inl ⟨rfl,rfl⟩),u3⟩,fun h=>(u4 h).elim⟩
 ·subst h1;subst h2
  have u1:(0:Int)≤1:=by decide
  have u2:(1:Int)<2:=by decide
  have u3:(2 - ((1:Int)+1)).toNat<(2 - (1:Int)).toNat:=by decide
  have u4:decide ((1:Int)<2)=false→False:=by decide
  have u5:Z.in64 ((1:Int)+1):=by simp only [Z.in64];omega
  exact ⟨fun _=>⟨⟨u1,u2⟩,hix,⟨(p,set),K.err,hpl,hs⟩,⟨K.err,hpl,hs⟩,⟨u1,u2⟩,u5,rfl,rfl,.inr (.inr ⟨rfl,rfl⟩),u3⟩,fun h=>(u4 h).elim⟩
 ·subst h1;subst h2
  have g0:([leastV k.2.1 p set,mostV k.2.1 p set]:List Int).getD (Int.toNat 0) 0=leastV k.2.1 p set:=rfl
  have g1:([leastV k.2.1 p set,mostV k.2.1 p set]:List Int).getD (Int.toNat 1) 0=mostV k.2.1 p set:=rfl
  have g2:fire_thousandth (-(mostV k.2.1 p set))=(-(mostV k.2.1 p set)) / 1000:=rfl
  have g3:fire_thousandth (leastV k.2.1 p set)=leastV k.2.1 p set / 1000:=rfl
  have u4:decide ((2:Int)<2)=true→False:=by decide
  refine ⟨fun h=>(u4 h).elim,fun _=>?_⟩
  dsimp only
  rw [g0,g1,g2,g3]
  refine ⟨⟨by omega,by omega⟩,⟨by omega,by omega⟩,⟨by omega,by omega⟩,by simp only [Z.in64];omega,⟨by omega,by omega⟩,by simp only [Z.in64];omega,rfl⟩
theorem v79 (x:Stand × Int × Int) (hp:k79.pre x):V79 x:=by
 obtain ⟨s,set,heat⟩:=x
 obtain ⟨⟨h1,h2,h3⟩,h29,h30,h31⟩:standOk s∧setOk set∧0≤heat∧heat≤4000:=hp
 refine ⟨⟨h1,h2,h29⟩,?_,rfl⟩
 show Z.in64 (1000*heat);simp only [Z.in64];omega
theorem v81 (x:Stand × Int) (hp:k81.pre x):V81 x:=by
 obtain ⟨s,set⟩:=x
 obtain ⟨⟨h1,h2,h3⟩,h29⟩:standOk s∧setOk set:=hp
 have F:=fire_iff.1 h3
 refine ⟨⟨h1,h2,h29⟩,?_,rfl⟩
 show Z.in64 (1000*s.2.1.2.1);simp only [Z.in64];omega
theorem v85 (x:Stand × Int × Int × Int) (hp:k85.pre x):V85 x:=by
 obtain ⟨s,before,now,by_⟩:=x
 obtain ⟨⟨h1,h2,h3⟩,h29,h30,h31,h7⟩:standOk s∧setOk before∧setOk now∧0≤by_∧by_≤4000:=hp
 have P:=place_iff.1 h2
 have b1:=h29.1
 have b2:=h29.2
 have n1:=h30.1
 have n2:=h30.2
 have q:=mul_sb (a:=s.2.2.1.2) (A:=1500) ⟨by omega,by omega⟩ (b:=now+s.1.2.1 - max 0 (before - s.1.2.1)) (B:=2100) ⟨by omega,by omega⟩
 refine ⟨?_,?_,?_,?_,?_,rfl⟩
 ·show Z.in64 (now+s.1.2.1);simp only [Z.in64];omega
 ·show Z.in64 (before - s.1.2.1);simp only [Z.in64];omega
 ·show Z.in64 (now+s.1.2.1 - max 0 (before - s.1.2.1));simp only [Z.in64];omega
 ·show Z.in64 (s.2.2.1.2*(now+s.1.2.1 - max 0 (before - s.1.2.1)));simp only [Z.in64];omega
 ·show Z.in64 (1000*by_);simp only [Z.in64];omega
theorem range_from {α:Type} (f:Nat→α) {d n:Nat} (h:d<n):(List.range' d (n - d)).map f=f d::(List.range' (d+1) (n - (d+1))).map f:=by
 rw [show n - d=(n - (d+1))+1 by omega,List.range'_succ,List.map_cons]
theorem v107 (ly:Nat) (x:List Int) (hp:k107.pre x):V107 ly x:=by
 have hb:x.length≤big:=hp
 simp only [big] at hb
 obtain ⟨N,hN⟩:∃ N,N=hoursV x:=⟨_,rfl⟩
 have hN':fire_hours_1 x=N:=hN.symm
 refine ⟨trivial,trivial,trivial,fun s=>s.2.2=false∧∃ d:Nat,s.1=(d:Int)∧d≤x.length∧N=s.2.1++(List.range' d (x.length - d)).map (hourAt x),fun s=>((x.length:Int) - s.1).toNat,⟨rfl,0,rfl,by omega,by rw [hN,hoursV,List.range_eq_range'];rfl⟩,?_⟩
 rintro ⟨d0,out,fl⟩ ⟨g0,d,g1,g2,g3⟩
 simp only at g0 g1 g3
 subst g0 g1
 refine ⟨fun hd=>?_,fun hd _=>?_⟩
 ·have hd:(d:Int)<(x.length:Int):=of_decide_eq_true hd
  have hdn:d<x.length:=by omega
  rw [range_from (hourAt x) hdn] at g3
  have eh:hourAt x d=((d:Int),((List.replicate 2 0).set 0 (x.getD (Int.toNat (max 0 ((d:Int) - 1))) 0)).set 1 (x.getD (Int.toNat (d:Int)) 0)):=by
   rw [show Int.toNat (max 0 ((d:Int) - 1))=d - 1 by omega,show Int.toNat (d:Int)=d by omega];rfl
  rw [eh] at g3
  dsimp only
  rw [hN']
  refine ⟨⟨by omega,hd⟩,trivial,trivial,trivial,trivial,by simp only [Z.in64];omega,trivial,⟨by omega,by omega⟩,trivial,trivial,trivial,⟨rfl,rfl⟩,⟨_,g3⟩,⟨trivial,fun h=>(by cases h),fun _=>⟨by simp only [Z.in64];omega,⟨rfl,d+1,by show (d:Int)+1=((d+1:Nat):Int);omega,by omega,?_⟩,?_⟩⟩,trivial,fun _ h=>(by cases h),fun h=>(by cases h)⟩
  ·rw [g3];simp
  ·show ((x.length:Int) - ((d:Int)+1)).toNat<((x.length:Int) - (d:Int)).toNat;omega
 ·have hd:¬ (d:Int)<(x.length:Int):=of_decide_eq_false hd
  show out=fire_hours_1 _
  rw [hN',g3,show x.length - d=0 by omega];simp
theorem v105 (x:List Int) (_:k105.pre x):V105 x:=rfl
theorem v90 (x:(List Int) × Int × Fun (Int × Int) Bool) (hp:k90.pre x):V90 x:=by
 obtain ⟨l,from_,F⟩:=x
 obtain ⟨h1,h2⟩:l.length≤big∧∀ e∈hoursV l,F.pre (e.2.getD 0 0,e.2.getD 1 0):=hp
 refine ⟨trivial,h1,fun r _=>firstOf l from_ F.val=firstH from_ F.val r∧∀ e∈r,F.pre (e.2.getD 0 0,e.2.getD 1 0),⟨rfl,h2⟩,?_,?_⟩
 ·rintro e r s ⟨g1,g2⟩
  have e0:fire_first (l,from_,F)=firstH from_ F.val (e::r):=g1
  refine ⟨fun _=>⟨by omega,by omega⟩,fun _=>⟨by omega,by omega⟩,fun _=>g2 _ List.mem_cons_self,fun hv=>?_,fun hv=>⟨?_,fun y hy=>g2 y (List.mem_cons_of_mem _ hy)⟩⟩
  ·show e.1=fire_first (l,from_,F)
   have hv:(decide (from_≤e.1)&&!F.val (e.2.getD 0 0,e.2.getD 1 0))=true:=hv
   rw [e0,firstH,hv];rfl
  ·have hv:(decide (from_≤e.1)&&!F.val (e.2.getD 0 0,e.2.getD 1 0))=false:=hv
   rw [g1,firstH,hv];rfl
 ·rintro s ⟨g1,_⟩
  exact g1.symm
theorem v91 (x:Int × Int × Stand) (hp:k91.pre x):V91 x:=by
 obtain ⟨a,b,s⟩:=x
 obtain ⟨h1,h2⟩:standOk s∧setOk b:=hp
 have F:=fire_iff.1 h1.2.2
 exact ⟨⟨h1,h2,by show 0≤s.2.1.1;omega,by show s.2.1.1≤4000;omega⟩,rfl⟩
theorem v93 (x:Int × Int × Stand) (hp:k93.pre x):V93 x:=by
 obtain ⟨a,b,s⟩:=x
 obtain ⟨h1,h2⟩:standOk s∧setOk b:=hp
 have F:=fire_iff.1 h1.2.2
 exact ⟨⟨h1,h2,by show 0≤s.2.1.2.2.1;omega,by show s.2.1.2.2.1≤4000;omega⟩,rfl⟩
theorem v95 (x:Int × Int × Stand) (hp:k95.pre x):V95 x:=by
 obtain ⟨a,b,s⟩:=x
 obtain ⟨h1,h2,h3⟩:standOk s∧setOk a∧setOk b:=hp
 have F:=fire_iff.1 h1.2.2
 exact ⟨⟨h1,h2,h3,by show 0≤s.2.1.2.2.2.2.1;omega,by show s.2.1.2.2.2.2.1≤4000;omega⟩,rfl⟩
theorem v97 (x:Int × Int × Stand) (hp:k97.pre x):V97 x:=by
 obtain ⟨a,b,s⟩:=x
 obtain ⟨h1,h2,h3⟩:standOk s∧setOk a∧setOk b:=hp
 have F:=fire_iff.1 h1.2.2
 exact ⟨⟨h1,h3,h2,by show 0≤s.2.1.2.2.2.2.2;omega,by show s.2.1.2.2.2.2.2≤4000;omega⟩,rfl⟩
theorem v100 (x:Int × Int × Stand) (hp:k100.pre x):V100 x:=by
 obtain ⟨a,b,s⟩:=x
 obtain ⟨h1,h2⟩:standOk s∧setOk b:=hp
 have F:=fire_iff.1 h1.2.2
 exact ⟨⟨h1,h2,by show 0≤s.2.1.1;omega,by show s.2.1.1≤4000;omega⟩,rfl⟩
theorem hours_ok {l:List Int} (h:∀ n∈l,0≤n∧n≤2000) {e:Int × List Int} (he:e∈hoursV l):setOk (e.2.getD 0 0)∧setOk (e.2.getD 1 0):=by
 obtain ⟨i,hi,rfl⟩:=List.mem_map.1 he
 have hi:=List.mem_range.1 hi
 exact ⟨h _ (getD_mem l 0 (i - 1) (by omega)),h _ (getD_mem l 0 i hi)⟩
theorem v89 (x:Stand × List Int) (hp:k89.pre x):V89 x:=by
 obtain ⟨s,l⟩:=x
 obtain ⟨h1,h2⟩:standOk s∧progB l=true:=hp
 have L:=prog_iff.1 h2
 have ht:∀ n∈l.take 1,0≤n∧n≤2000:=fun n hn=>L.2 n (List.mem_of_mem_take hn)
 refine ⟨⟨by omega,L.1.1⟩,⟨?_,fun e he=>⟨h1,(hours_ok ht he).2⟩⟩,rfl⟩
 show (l.take 1).length≤big
 rw [List.length_take];simp only [big];omega
theorem v92 (x:Stand × List Int) (hp:k92.pre x):V92 x:=by
 obtain ⟨s,l⟩:=x
 obtain ⟨h1,h2⟩:standOk s∧progB l=true:=hp
 have L:=prog_iff.1 h2
 refine ⟨⟨?_,fun e he=>⟨h1,(hours_ok L.2 he).2⟩⟩,rfl⟩
 show l.length≤big
 simp only [big];omega
theorem v94 (x:Stand × List Int) (hp:k94.pre x):V94 x:=by
 obtain ⟨s,l⟩:=x
 obtain ⟨h1,h2⟩:standOk s∧progB l=true:=hp
 have L:=prog_iff.1 h2
 refine ⟨⟨?_,fun e he=>⟨h1,(hours_ok L.2 he).1,(hours_ok L.2 he).2⟩⟩,rfl⟩
 show l.length≤big
 simp only [big];omega
theorem v96 (x:Stand × List Int) (hp:k96.pre x):V96 x:=by
 obtain ⟨s,l⟩:=x
 obtain ⟨h1,h2⟩:standOk s∧progB l=true:=hp
 have L:=prog_iff.1 h2
 refine ⟨⟨?_,fun e he=>⟨h1,(hours_ok L.2 he).1,(hours_ok L.2 he).2⟩⟩,rfl⟩
 show l.length≤big
 simp only [big];omega
theorem v99 (x:Stand × List Int) (hp:k99.pre x):V99 x:=by
 obtain ⟨s,l⟩:=x
 obtain ⟨h1,h2⟩:standOk s∧progB l=true:=hp
 have L:=prog_iff.1 h2
 refine ⟨?_,⟨?_,fun e he=>⟨h1,(hours_ok L.2 he).2⟩⟩,rfl⟩
 ·show Z.in64 ((l.length:Int) - 1);simp only [Z.in64];omega
 ·show l.length≤big
  simp only [big];omega
theorem v98 (x:Stand × List Int) (hp:k98.pre x):V98 x:=by
 obtain ⟨s,l⟩:=x
 obtain ⟨h1,h2⟩:standOk s∧progB l=true:=hp
 have L:=prog_iff.1 h2
 have F:=fire_iff.1 h1.2.2
 have e:fire_rules_5 (s,l)=cond (heldV s l 0) (-1) 0:=rfl
 rw [V98,e]
 dsimp only
 refine ⟨fun q=>∃ i:Nat,q.2=(i:Int)∧i≤l.length∧(0≤q.1∧q.1≤(i:Int))∧heldV s l 0=heldV s (l.drop i) q.1,fun q=>((l.length:Int) - q.2).toNat,⟨0,rfl,Nat.zero_le _,by simp,rfl⟩,?_⟩
 rintro ⟨m,i0⟩ ⟨i,g1,g2,g3,g4⟩
 simp only at g1 g3 g4
 subst g1
 refine ⟨fun hi=>?_,fun hi=>?_⟩
 ·have hi:(i:Int)<(l.length:Int):=of_decide_eq_true hi
  rw [drop_getD l 0 i (by omega),heldV] at g4
  have hs:=L.2 _ (getD_mem l 0 i (by omega))
  have ev:fire_stand_isSoaked (s,l.getD (Int.toNat (i:Int)) 0)=soakV s (l.getD i 0):=rfl
  have hm:((l.length:Int) - ((i:Int)+1)).toNat<((l.length:Int) - (i:Int)).toNat:=by omega
  have e1:(i:Int)+1=((i+1:Nat):Int):=by omega
  rw [ev]
  refine ⟨⟨by omega,hi⟩,by simp only [Z.in64];omega,⟨h1,hs⟩,fun hv=>⟨fun h=>?_,fun _=>⟨by simp only [Z.in64];omega,⟨i+1,e1,by omega,⟨by show (0:Int)≤0;omega,by show (0:Int)≤((i+1:Nat):Int);omega⟩,?_⟩,hm⟩⟩,fun hv=>⟨fun h=>?_,fun h=>⟨by simp only [Z.in64];omega,⟨i+1,e1,by omega,⟨by show 0≤m+1;omega,by show m+1≤((i+1:Nat):Int);omega⟩,?_⟩,hm⟩⟩⟩
  ·exfalso
   have h:(0:Int)=s.2.1.2.2.2.1:=by simpa using h
   omega
  ·rw [g4,hv];rfl
  ·rw [g4,hv,h];rfl
  ·rw [g4,hv,h];rfl
 ·have hi:¬ (i:Int)<(l.length:Int):=of_decide_eq_false hi
  rw [List.drop_eq_nil_of_le (by omega),heldV] at g4
  rw [g4];rfl
theorem v73 (x:Unit) (_:k73.pre x):V73 x:=rfl
theorem v49 (x:Stand × List Int) (hp:k49.pre x):V49 x:=by
 obtain ⟨s,l⟩:=x
 have hp:ruleP (s,l):=hp
 obtain ⟨R,hR⟩:∃ R,R=fire_rules ():=⟨_,rfl⟩
 have hlen:R.length=6:=by rw [hR];rfl
 have hpre:∀ r∈R,r.2.pre (s,l):=fun r hr=>by
  rw [hR] at hr
  simp only [fire_rules,List.mem_cons,List.not_mem_nil,or_false] at hr
  rcases hr with rfl | rfl | rfl | rfl | rfl | rfl<;>exact hp
 have e:fire_stand_broken (s,l)=brkGo (s,l) R:=by rw [hR];rfl
 rw [V49,e]
 dsimp only
 rw [←hR]
 refine ⟨trivial,fun q=>∃ i:Nat,q=(i:Int)∧i≤R.length∧brkGo (s,l) R=brkGo (s,l) (R.drop i),fun q=>((R.length:Int) - q).toNat,⟨0,rfl,Nat.zero_le _,rfl⟩,?_⟩
 rintro q ⟨i,rfl,g2,g3⟩
 refine ⟨fun hi=>?_,fun hi=>?_⟩
 ·have hi:(i:Int)<(R.length:Int):=of_decide_eq_true hi
  rw [drop_getD R (0,⟨fun _=>False,fun _=>0⟩) i (by omega),brkGo] at g3
  have hm:=hpre _ (getD_mem R (0,⟨fun _=>False,fun _=>0⟩) i (by omega))
  refine ⟨⟨by omega,hi⟩,hm,fun hv=>?_,fun hv=>⟨by simp only [Z.in64];omega,⟨i+1,by omega,by omega,?_⟩,by show ((R.length:Int) - ((i:Int)+1)).toNat<((R.length:Int) - (i:Int)).toNat;omega⟩⟩
  ·rw [g3,show decide (0≤(R.getD i (0,⟨fun _=>False,fun _=>0⟩)).2.val (s,l))=true from hv];rfl
  ·rw [g3,show decide (0≤(R.getD i (0,⟨fun _=>False,fun _=>0⟩)).2.val (s,l))=false from hv];rfl
 ·have hi:¬ (i:Int)<(R.length:Int):=of_decide_eq_false hi
  rw [List.drop_eq_nil_of_le (by omega),brkGo] at g3
  exact g3.symm
theorem check_ok {k:Kiln} {f:Fire} {l:List Int}:fire_check (k,l,[f])=0↔kilnB k=true∧fireB f=true∧progB l=true:=by
 have e:fire_check (k,l,[f])=cond (!kilnB k||!(fireB f&&true)) 1 (cond (decide ((40:Int)<(l.length:Int))||false) 3 (cond (((l.length:Int)==0)||l.any fun n=>!heatB n) 2 0)):=rfl
 rw [e,Bool.and_true,Bool.or_false]
 have ep:progB l=(inB (l.length:Int) 1 40&&l.all heatB):=rfl
 have ea:(l.any fun n=>!heatB n)=!l.all heatB:=by rw [←any_not];simp
 rw [ep,ea]
 cases kilnB k with
 | false=>simp
 | true =>
  cases fireB f with
  | false=>simp
  | true =>
   cases l.all heatB with
   | false =>
    simp only [Bool.not_true,Bool.or_self,cond_false,Bool.not_false,Bool.or_true,cond_true,Bool.and_false]
    cases decide ((40:Int)<(l.length:Int))<;>simp
   | true =>
    simp only [Bool.not_true,Bool.or_self,cond_false,Bool.or_false,Bool.and_true,inB_iff,true_and]
    by_cases h:(40:Int)<(l.length:Int)
    ·rw [decide_eq_true h];simp;omega
    ·rw [decide_eq_false h,cond_false]
     by_cases h0:(l.length:Int)=0
     ·rw [h0];simp
     ·rw [show ((l.length:Int)==0)=false by simpa using h0,cond_false]
      simp;omega
theorem v16 (x:Kiln × Fire × List Int) (_:k16.pre x):V16 x:=by
 obtain ⟨k,f,l⟩:=x
 have e:fire_Check (k,f,l)=checkV k f l:=rfl
 have e1:(List.replicate 1 ((0:Int),(0:Int),(0:Int),(0:Int),(0:Int),(0:Int))).set 0 f=[f]:=rfl
 rw [V16,e]
 dsimp only
 rw [e1]
 refine ⟨by show (1:Nat)≤big;simp only [big];omega,fun h=>?_,fun h=>?_⟩
 ·rw [checkV,h];rfl
 have eC:checkV k f l=(badsFrom k f l k.1.length 0,0):=by rw [checkV,h];rfl
 have h0:fire_check (k,l,[f])=0:=by simpa using h
 obtain ⟨hk,hf,hl⟩:=check_ok.1 h0
 have K:=kiln_iff.1 hk
 have hn:=K.len
 rw [eC]
 refine ⟨fun q=>∃ i:Nat,q.2=(i:Int)∧i≤k.1.length∧q.1.length≤i∧badsFrom k f l k.1.length 0=q.1++badsFrom k f l (k.1.length - i) i,fun q=>((k.1.length:Int) - q.2).toNat,⟨0,rfl,Nat.zero_le _,Nat.zero_le _,rfl⟩,?_⟩
 rintro ⟨out,i0⟩ ⟨i,g1,g2,g3,g4⟩
 simp only at g1 g3 g4
 subst g1
 refine ⟨fun hi=>?_,fun hi=>?_⟩
 ·have hi:(i:Int)<(k.1.length:Int):=of_decide_eq_true hi
  have hb:badsFrom k f l (k.1.length - i) i=cond (badAt k f l i) ((i:Int)::badsFrom k f l (k.1.length - (i+1)) (i+1)) (badsFrom k f l (k.1.length - (i+1)) (i+1)):=by
   rw [show k.1.length - i=(k.1.length - (i+1))+1 by omega,badsFrom]
  rw [hb] at g4
  have e2:(List.replicate 1 (0:Int)).set 0 (i:Int)=[(i:Int)]:=rfl
  have hm:((k.1.length:Int) - ((i:Int)+1)).toNat<((k.1.length:Int) - (i:Int)).toNat:=by omega
  have hpl:=K.place _ (getD_mem k.1 ((0,0),0,0) i (by omega))
  rw [e2]
  refine ⟨⟨by omega,hi⟩,⟨⟨K.err,hpl,hf⟩,hl⟩,fun hv=>⟨by simp only [Z.in64];omega,rfl,⟨i+1,by show (i:Int)+1=((i+1:Nat):Int);omega,by omega,by show out.length≤i+1;omega,?_⟩,hm⟩,fun hv=>⟨roomy_of (by omega) (by omega) (by show ((out++[(i:Int)]).length:Int)≤1000001;rw [List.length_append,List.length_singleton];omega),by simp only [Z.in64];omega,rfl,⟨i+1,by show (i:Int)+1=((i+1:Nat):Int);omega,by omega,by show (out++[(i:Int)]).length≤i+1;rw [List.length_append,List.length_singleton];omega,?_⟩,hm⟩⟩
  ·have hv:((fire_stand_broken ((k,f,k.1.getD i ((0,0),0,0)),l)).1==0)=true:=hv
   rw [g4,badAt,hv];rfl
  ·have hv:((fire_stand_broken ((k,f,k.1.getD i ((0,0),0,0)),l)).1==0)=false:=hv
   rw [g4,badAt,hv];simp
 ·have hi:¬ (i:Int)<(k.1.length:Int):=of_decide_eq_false hi
  rw [g4,show k.1.length - i=0 by omega,badsFrom,List.append_nil]
end Go.Fire
