/-
  Shade: how black leads can be, and which shades they have.
-/
import Derived.Test.YtdhdklojcppfcaaTtSP2
set_option linter.all false
set_option maxRecDepth 100000
set_option maxHeartbeats 4000000
set_option linter.unusedVariables false
namespace Go.Tt
open Go Go.Sx
theorem take_snoc {α β:Type} (f:α->β) (l:List α) (d:α) (i:Nat) (h:i<l.length):(l.take (i+1)).map f=(l.take i).map f++[f (l.getD i d)]:=by
 rw [List.take_succ_eq_append_getElem h,List.map_append]
 simp [List.getD,h]
theorem v133 (x:(List Tint) × Leads) (h:k133.pre x):V133 x:=by
 obtain ⟨hc,hl⟩:curveB x.1=true∧leadsB x.2=true:=h
 have L:=leads_of hl
 have s6:=L.s6
 obtain ⟨ss,hss⟩:∃ ss,ss=x.2.2.2.2.1:=⟨_,rfl⟩
 have hst:∀ s∈ss,strokeB s=true:=by rw [hss];exact L.str
 have hb:blackB x=(boundsR x::ss.map boundsS).foldl meet (0,200):=by rw [hss];rfl
 unfold V133
 rw [<-hss]
 rw [<-hss] at s6
 refine ⟨fun s=>0<=s.2∧s.2<=(ss.length:Int)∧s.1=recipeS x::(ss.take s.2.toNat).map strokeS,fun s=>((ss.length:Int) - s.2).toNat,⟨by simp,by simp,rfl⟩,?_⟩
 rintro ⟨r,i⟩ ⟨i1,i2,e⟩
 simp only at i1 i2 e ⊢
 obtain ⟨i,rfl⟩:=Int.eq_ofNat_of_zero_le i1
 simp only [Int.toNat_natCast] at e ⊢
 subst e
 refine ⟨fun hi=>?_,fun hi=>?_⟩
 ·have hi:=of_decide_eq_true hi
  have hi':i<ss.length:=by omega
  refine ⟨⟨i1,hi⟩,?_,by simp only [Z.in64];omega,trivial,⟨by omega,by omega,?_⟩,by omega⟩
  ·refine roomy_of (by decide) (by decide) ?_
   simp only [List.length_append,List.length_cons,List.length_map,List.length_take,List.length_set,List.length_replicate];omega
  ·show recipeS x::(ss.take i).map strokeS++[strokeS (ss.getD i ((0,0),0,0))]=recipeS x::(ss.take ((i:Int)+1).toNat).map strokeS
   rw [show ((i:Int)+1).toNat=i+1 by omega,take_snoc strokeS ss ((0,0),0,0) i hi',List.cons_append]
 have hi:=of_decide_eq_false hi
 have:i=ss.length:=by omega
 subst this
 rw [List.take_length]
 obtain ⟨A,hA⟩:∃ A,A=recipeS x::ss.map strokeS:=⟨_,rfl⟩
 rw [<-hA]
 have hAl:A.length=ss.length+1:=by rw [hA];simp
 have hAv:A.map (fun s=>s.1.val ())=boundsR x::ss.map boundsS:=by rw [hA,List.map_cons,List.map_map];rfl
 have hAp:∀ a∈A,a.1.pre ():=by
  intro a ha
  rw [hA] at ha
  rcases List.mem_cons.1 ha with rfl | ha
  ·exact ⟨hc,hl⟩
  ·obtain ⟨s,hs,rfl⟩:=List.mem_map.1 ha
   exact hst s hs
 rw [<-hAv] at hb
 refine ⟨fun s=>0<=s.1∧s.1<=(A.length:Int)∧((A.drop s.1.toNat).map fun s=>s.1.val ()).foldl meet s.2=blackB x,fun s=>((A.length:Int) - s.1).toNat,⟨by simp,by simp,hb.symm⟩,?_⟩
 rintro ⟨i,o⟩ ⟨i1,i2,e⟩
 simp only at i1 i2 e ⊢
 refine ⟨fun hi=>?_,fun hi=>?_⟩
 ·have hi:=of_decide_eq_true hi
  rw [zcV A zeroS i i1 hi,List.map_cons,List.foldl_cons] at e
  refine ⟨⟨i1,hi⟩,hAp _ (zca A zeroS i i1 hi),by simp only [Z.in64];omega,trivial,trivial,⟨by omega,by omega,e⟩,?_⟩
  show ((A.length:Int) - (i+1)).toNat<((A.length:Int) - i).toNat
  omega
 ·have hi:=of_decide_eq_false hi
  rw [List.drop_eq_nil_of_le (by omega)] at e
  exact e
theorem any_bad {l:List Leads}:(l.any fun a=>!leadsB a)=false↔∀ a∈l,leadsB a=true:=by
 rw [List.any_eq_false]
 exact ⟨fun h a ha=>by have:=h a ha;cases hb:leadsB a with | true=>rfl | false=>rw [hb] at this;exact absurd rfl this,fun h a ha=>by rw [h a ha];decide⟩
theorem v66 (x:(List Tint) × (List Leads) × Int × Bool) (h:k66.pre x):V66 x:=by
 obtain ⟨c,l,most,ok⟩:=x
 have hm:most<=100:=h
 refine ⟨trivial,fun hc=>?_,fun hc=>⟨fun hl=>?_,fun hl=>⟨fun ho=>?_,fun hb=>?_,fun hb=>?_⟩⟩⟩
 ·have hc:(!curveB c)=true:=hc
  show _=zax (c,l,most,ok)
  simp only [zax];rw [hc];rfl
 ·have hc:(!curveB c)=false:=hc
  show _=zax (c,l,most,ok)
  simp only [zax];rw [hc,hl];rfl
 ·have hl:=of_decide_eq_false hl
  exact ⟨by show l.length<=big;simp only at hl;simp only [big];omega,fun _ _=>trivial⟩
 ·have hc:(!curveB c)=false:=hc
  have hb:(!ok||l.any fun a=>!leadsB a)=true:=hb
  show _=zax (c,l,most,ok)
  simp only [zax];rw [hc,hl,hb];rfl
 have hc:(!curveB c)=false:=hc
 have hb:(!ok||l.any fun a=>!leadsB a)=false:=hb
 have eo:zax (c,l,most,ok)=openL c l []:=by simp only [zax];rw [hc,hl,hb];rfl
 have hl:=of_decide_eq_false hl
 simp only at hl
 rw [Bool.or_eq_false_iff] at hb
 have hgood:=any_bad.1 hb.2
 refine ⟨fun s=>0<=s.2∧s.2<=(l.length:Int)∧s.1.length=s.2.toNat∧openL c (l.drop s.2.toNat) s.1=openL c l [],fun s=>((l.length:Int) - s.2).toNat,⟨by simp,by simp,rfl,rfl⟩,?_⟩
 rintro ⟨r,i⟩ ⟨i1,i2,e1,e2⟩
 simp only at i1 i2 e1 e2 ⊢
 refine ⟨fun hi=>?_,fun hi=>?_⟩
 ·have hi:=of_decide_eq_true hi
  have hmem:=zca l ((0,0),(0,0),0,[],(0,0),(0,0),0) i i1 hi
  rw [zcV l ((0,0),(0,0),0,[],(0,0),(0,0),0) i i1 hi,openL] at e2
  refine ⟨⟨i1,hi⟩,⟨not_iff.2.1 hc,hgood _ hmem⟩,fun hd=>?_,fun hd=>?_⟩
  ·have hd:decide ((blackB (c,l.getD i.toNat ((0,0),(0,0),0,[],(0,0),(0,0),0))).2<(blackB (c,l.getD i.toNat ((0,0),(0,0),0,[],(0,0),(0,0),0))).1)=true:=hd
   rw [hd,cond_true] at e2
   rw [eo,<-e2]
  ·have hd:decide ((blackB (c,l.getD i.toNat ((0,0),(0,0),0,[],(0,0),(0,0),0))).2<(blackB (c,l.getD i.toNat ((0,0),(0,0),0,[],(0,0),(0,0),0))).1)=false:=hd
   rw [hd,cond_false] at e2
   refine ⟨roomy_of (by decide) (by decide) (by rw [List.length_append,e1];simp;omega),by simp only [Z.in64];omega,⟨by omega,by omega,by rw [List.length_append,e1];simp;omega,e2⟩,?_⟩
   show ((l.length:Int) - (i+1)).toNat<((l.length:Int) - i).toNat
   omega
 ·have hi:=of_decide_eq_false hi
  rw [List.drop_eq_nil_of_le (by omega)] at e2
  rw [eo,<-e2];rfl
theorem open_one (c:List Tint) (l:Leads) (ok:Bool):zax (c,[l],1,ok)=cond (!curveB c) ([],1) (cond (!ok||!leadsB l) ([],2) (cond (decide ((blackB (c,l)).2<(blackB (c,l)).1)) ([],6) ([(l,blackB (c,l))],0))):=by
 simp only [zax,List.any_cons,List.any_nil,Bool.or_false,List.length_cons,List.length_nil,openL]
 rfl
theorem v15 (x:(List Tint) × Leads) (_:k15.pre x):V15 x:=by
 obtain ⟨c,l⟩:=x
 have eo:=open_one c l true
 have e1:(List.replicate 1 ((((0,0),(0,0),0,[],(0,0),(0,0),0):Leads))).set 0 l=[l]:=rfl
 have eb:zak (c,l)=blackV c l:=rfl
 unfold V15
 simp only [e1,eb]
 refine ⟨by show (1:Int)<=100;omega,?_⟩
 rw [eo]
 unfold blackV
 cases curveB c with
 | false=>exact ⟨fun _=>rfl,fun h=>by cases h⟩
 | true =>
  cases leadsB l with
  | false=>exact ⟨fun _=>rfl,fun h=>by cases h⟩
  | true =>
   cases decide ((blackB (c,l)).2<(blackB (c,l)).1) with
   | true=>exact ⟨fun _=>rfl,fun h=>by cases h⟩
   | false=>exact ⟨(fun h=>by cases h),fun _=>⟨⟨by omega,by show (0:Int)<1;omega⟩,rfl⟩⟩
theorem v21 (x:(List Tint) × (List Shade) × Leads) (h:k21.pre x):V21 x:=by
 obtain ⟨c,s,l⟩:=x
 have hs:s.length<=1000:=h
 have hpre:zaC (s,badF):=⟨by show s.length<=big;simp only [big];omega,fun _ _=>trivial⟩
 have eb:zan (c,s,l)=hasV c s l:=rfl
 have ea:zam (s,badF)=s.any fun x=>!shadeB x:=rfl
 have eo:openH (c,s,l)=_:=open_one c l (!s.any fun x=>!shadeB x)
 obtain ⟨O,hO⟩:∃ O,O=openH (c,s,l):=⟨_,rfl⟩
 refine ⟨trivial,fun hc=>?_,fun hc=>⟨hpre,by show (1:Int)<=100;omega,fun ho=>?_,fun ho=>?_⟩⟩
 ·have hc:(curveB c&&decide (8<(s.length:Int)))=true:=hc
  rw [eb,hasV,hc];rfl
 ·have hc:(curveB c&&decide (8<(s.length:Int)))=false:=hc
  rw [eb,hasV,hc,cond_false]
  show ([],(openH (c,s,l)).2)=_
  have ho:(!((openH (c,s,l)).2==0))=true:=ho
  rw [eo] at ho ⊢
  rw [Bool.not_not] at ho ⊢
  revert ho
  cases curveB c with
  | false=>intro _;rfl
  | true =>
   cases (s.any (fun x=>!shadeB x)||!leadsB l) with
   | true=>intro _;rfl
   | false =>
    cases decide ((blackB (c,l)).2<(blackB (c,l)).1) with
    | true=>intro _;rfl
    | false=>intro ho;cases ho
 ·have hc:(curveB c&&decide (8<(s.length:Int)))=false:=hc
  have ho:(!((openH (c,s,l)).2==0))=false:=ho
  have good:openH (c,s,l)=([(l,blackB (c,l))],0)∧hasV c s l=(hasL (hasS (blackB (c,l)) l) s 0,0):=by
   rw [hasV,hc,cond_false]
   rw [eo] at ho ⊢
   rw [Bool.not_not] at ho ⊢
   revert ho
   cases curveB c with
   | false=>intro ho;cases ho
   | true =>
    cases (s.any (fun x=>!shadeB x)||!leadsB l) with
    | true=>intro ho;cases ho
    | false =>
     cases decide ((blackB (c,l)).2<(blackB (c,l)).1) with
     | true=>intro ho;cases ho
     | false=>intro ho;exact ⟨rfl,rfl⟩
  have e0:((openH (c,s,l)).1.getD (Int.toNat 0) (((0,0),(0,0),0,[],(0,0),(0,0),0),0,0)).2=blackB (c,l):=by rw [good.1];rfl
  simp only [e0]
  refine ⟨by rw [good.1];exact ⟨by omega,by show (0:Int)<1;omega⟩,fun t=>0<=t.2∧t.2<=(s.length:Int)∧(t.1.length:Int)<=t.2∧t.1++hasL (hasS (blackB (c,l)) l) (s.drop t.2.toNat) t.2=hasL (hasS (blackB (c,l)) l) s 0,fun t=>((s.length:Int) - t.2).toNat,⟨by simp,by simp,by simp,rfl⟩,?_⟩
  rintro ⟨r,i⟩ ⟨i1,i2,i3,e⟩
  simp only at i1 i2 i3 e ⊢
  refine ⟨fun hi=>?_,fun hi=>?_⟩
  ·have hi:=of_decide_eq_true hi
   rw [zcV s ((0,0),(0,0),0,0) i i1 hi,hasL] at e
   obtain ⟨y,hy⟩:∃ y,y=s.getD i.toNat ((0,0),(0,0),0,0):=⟨_,rfl⟩
   rw [<-hy] at e
   rw [<-hy]
   have hlen:((r++(List.replicate 1 0).set 0 i).length:Int)<=i+1:=by rw [List.length_append];simp;omega
   have meas:((s.length:Int) - (i+1)).toNat<((s.length:Int) - i).toNat:=by omega
   refine ⟨⟨i1,hi⟩,trivial,trivial,trivial,fun hb=>?_,fun hb=>?_⟩
   ·have hb:hasS (blackB (c,l)) l y=true:=hb
    rw [hb,cond_true] at e
    refine ⟨roomy_of (by decide) (by decide) (by omega),by simp only [Z.in64];omega,trivial,trivial,⟨by omega,by omega,hlen,?_⟩,meas⟩
    show (r++[i])++_=_
    rw [List.append_assoc];exact e
   ·have hb:hasS (blackB (c,l)) l y=false:=hb
    rw [hb,cond_false] at e
    exact ⟨by simp only [Z.in64];omega,trivial,trivial,⟨by omega,by omega,by show (r.length:Int)<=i+1;omega,e⟩,meas⟩
  ·have hi:=of_decide_eq_false hi
   rw [List.drop_eq_nil_of_le (by omega),hasL,List.append_nil] at e
   rw [eb,good.2,<-e]
end Go.Tt
