/-
  TopSold: which batches surely have which shades.
-/
import Derived.Test.YtdhdklojcppfcaaTtOS
import Derived.Test.YtdhdklojcppfcaaTtSP3
import Derived.Test.YtdhdklojcppfcaaTtLAuto
set_option linter.all false
set_option maxRecDepth 100000
set_option maxHeartbeats 4000000
set_option linter.unusedVariables false
namespace Go.Tt
open Go Go.Sx
theorem tabs_okL:TabsOk Go.Proofs.Try.prog TL:=⟨by kernel_rfl,maps_ok⟩
theorem v37 (x:Span × Span) (_:k37.pre x):V37 x:=rfl
theorem v36 (x:Unit) (_:k36.pre x):V36 x:=⟨trivial,trivial,by kernel_rfl⟩
theorem meet_eq (a b:Span):(meet a b==a)=inS a b:=by
 refine bool_ext ?_
 rw [beq_iff_eq,Prod.ext_iff]
 simp only [meet,inS,Bool.and_eq_true,decide_eq_true_eq]
 constructor
 ·rintro ⟨h1,h2⟩;omega
 ·rintro ⟨h1,h2⟩;omega
def sureB (c:List Tint) (l:Leads) (s:Shade):Bool:=(inS (blackB (c,l)) s.1&&inS l.2.2.2.2.1 s.2.1)&&inS l.2.2.2.2.2.1 s.2.2
theorem has_sure (c:List Tint) (l:Leads):hasS (blackB (c,l)) l=sureB c l:=by
 funext s
 simp only [hasS,sureB,meet_eq,Bool.and_assoc]
theorem hasL_mem {p:Shade->Bool}:∀ {s:List Shade} {i:Int} {v:Int},v∈hasL p s i↔∃ k,k<s.length∧v=i+(k:Nat)∧p (s.getD k ((0,0),(0,0),0,0))=true
 | [],i,v=>⟨(fun h=>by cases h),fun ⟨k,h,_⟩=>(by cases h)⟩
 | a::s,i,v=>by
  have ih:=hasL_mem (p:=p) (s:=s) (i:=i+1) (v:=v)
  rw [hasL]
  have go:v∈hasL p s (i+1)↔∃ k,k+1<(a::s).length∧v=i+((k+1:Nat):Int)∧p ((a::s).getD (k+1) ((0,0),(0,0),0,0))=true:=by
   rw [ih]
   constructor
   ·rintro ⟨k,h1,h2,h3⟩;exact ⟨k,by simp;omega,by omega,h3⟩
   ·rintro ⟨k,h1,h2,h3⟩;exact ⟨k,by simp at h1;omega,by omega,h3⟩
  cases hp:p a with
  | true =>
   rw [cond_true,List.mem_cons,go]
   constructor
   ·rintro (h | ⟨k,h1,h2,h3⟩)
    ·exact ⟨0,by simp,by omega,hp⟩
    ·exact ⟨k+1,h1,h2,h3⟩
   ·rintro ⟨k,h1,h2,h3⟩
    cases k with
    | zero=>left;omega
    | succ k=>right;exact ⟨k,h1,h2,h3⟩
  | false =>
   rw [cond_false,go]
   constructor
   ·rintro ⟨k,h1,h2,h3⟩;exact ⟨k+1,h1,h2,h3⟩
   ·rintro ⟨k,h1,h2,h3⟩
    cases k with
    | zero=>rw [show (a::s).getD 0 ((0,0),(0,0),0,0)=a from rfl,hp] at h3;cases h3
    | succ k=>exact ⟨k,h1,h2,h3⟩
structure Known (c:List Tint) (s:List Shade) (l:Leads):Prop where
 has:(hasV c s l).1=hasL (sureB c l) s 0
 black:(blackV c l).1=blackB (c,l)
 many:0<=l.2.2.2.2.2.2∧l.2.2.2.2.2.2<=topN
theorem known_of {c:List Tint} {s:List Shade} {l:Leads} (h:(hasV c s l).2=0):Known c s l:=by
 unfold hasV at h
 cases h1:(curveB c&&decide (8<(s.length:Int))) with
 | true=>rw [h1] at h;cases h
 | false =>
  rw [h1,cond_false] at h
  cases h2:curveB c with
  | false=>rw [h2] at h;cases h
  | true =>
   rw [h2,Bool.not_true,cond_false] at h
   cases h3:(s.any (fun x=>!shadeB x)||!leadsB l) with
   | true=>rw [h3] at h;cases h
   | false =>
    rw [h3,cond_false] at h
    cases h4:decide ((blackB (c,l)).2<(blackB (c,l)).1) with
    | true=>rw [h4] at h;cases h
    | false =>
     have h5:=not_iff.2.1 (Bool.or_eq_false_iff.1 h3).2
     refine ⟨?_,?_,(leads_of h5).many⟩
     ·unfold hasV
      rw [h1,h2,h3,h4,has_sure];rfl
     ·unfold blackV
      rw [h2,h5,h4];rfl
abbrev row0:List Bool:=List.replicate 8 false
def cell (T:List (List Bool)) (i k:Nat):Bool:=(T.getD i row0).getD k false
structure Grid (T:List (List Bool)):Prop where
 l:T.length=8
 r:∀ i,i<8->(T.getD i row0).length=8
theorem grid_set {T:List (List Bool)} (h:Grid T) {i k:Nat} (hi:i<8) (hk:k<8) (v:Bool) :
  Grid (T.set i ((T.getD i row0).set k v))∧∀ a b,cell (T.set i ((T.getD i row0).set k v)) a b=if a=i∧b=k then v else cell T a b:=by
 have hi':i<T.length:=by rw [h.l];exact hi
 have hg:∀ a,(T.set i ((T.getD i row0).set k v)).getD a row0=if a=i then (T.getD i row0).set k v else T.getD a row0:=fun a=>by
  by_cases e:a=i
  ·subst e;rw [if_pos rfl];simp [List.getD,hi']
  ·rw [if_neg e];simp [List.getD,List.getElem?_set,Ne.symm e]
 refine ⟨⟨by rw [List.length_set];exact h.l,fun a ha=>?_⟩,fun a b=>?_⟩
 ·rw [hg]
  by_cases e:a=i
  ·rw [if_pos e,List.length_set];exact h.r i hi
  ·rw [if_neg e];exact h.r a ha
 ·unfold cell
  rw [hg]
  by_cases e:a=i
  ·subst e
   rw [if_pos rfl]
   have hr:=h.r a hi
   by_cases e2:b=k
   ·subst e2
    rw [if_pos ⟨rfl,rfl⟩]
    have:b<(T.getD a row0).length:=by rw [hr];exact hk
    generalize T.getD a row0=r at this ⊢
    simp [List.getD,this]
   ·rw [if_neg (fun hh=>e2 hh.2)]
    generalize T.getD a row0=r
    simp [List.getD,List.getElem?_set,Ne.symm e2]
  ·rw [if_neg e,if_neg (fun hh=>e hh.1)]
theorem grid0:Grid (List.replicate 8 row0):=⟨by simp,fun i hi=>by match i,hi with | 0,_=>rfl | 1,_=>rfl | 2,_=>rfl | 3,_=>rfl | 4,_=>rfl | 5,_=>rfl | 6,_=>rfl | 7,_=>rfl | n+8,h=>omega⟩
structure SupIs (c:List Tint) (s:List Shade) (l:Leads) (y:Supply):Prop where
 sm:smallSet y.1
 bit:∀ k:Nat,hasB y.1 (k:Nat)=(decide (k<s.length)&&sureB c l (s.getD k ((0,0),(0,0),0,0)))
 rest:y.2=((l.2.2.2.2.2.2,l.2.2.2.2.2.2),0,0)
 many:0<=l.2.2.2.2.2.2∧l.2.2.2.2.2.2<=topN
theorem SupIs.ok {c:List Tint} {s:List Shade} {l:Leads} {y:Supply} (h:SupIs c s l y):supplyB y=true:=by
 have h1:=h.sm
 have h2:=h.many
 have e:=h.rest
 rw [zeb,e]
 simp only [smallSet] at h1
 exact ⟨h1,⟨h2.1,Int.le_refl _,h2.2⟩,Int.le_refl 0,Int.le_refl 0,by show (0:Int)<=1048576;omega⟩
def ordOk (S:Nat) (o:Order):Prop:=orderB o=true∧o.1<(S:Int)
theorem sold_sale {c:List Tint} {l:List Leads} {s:List Shade} {od:List Order} {sup:List Supply} (hl:l.length<=8) (ho:od.length<=8) (hsl:sup.length=l.length)
  (hs:∀ a,a<l.length->SupIs c s (l.getD a ((0,0),(0,0),0,[],(0,0),(0,0),0)) (sup.getD a (0,(0,0),0,0))) (hod:∀ o∈od,ordOk s.length o):saleB (sup,od)=true:=by
 refine zdN.2 ⟨by show sup.length<=8;omega,ho,fun y hy=>?_,fun o h=>(hod o h).1⟩
 obtain ⟨a,ha,e⟩:=List.getElem_of_mem hy
 have ha:a<sup.length:=ha
 have:=(hs a (by omega)).ok
 have e2:sup.getD a (0,(0,0),0,0)=y:=by rw [<-e];simp [List.getD,ha]
 rwa [e2] at this
theorem sold_can {c:List Tint} {l:List Leads} {s:List Shade} {od:List Order} {sup:List Supply} (hsl:sup.length=l.length)
  (hs:∀ a,a<l.length->SupIs c s (l.getD a ((0,0),(0,0),0,[],(0,0),(0,0),0)) (sup.getD a (0,(0,0),0,0))) (hod:∀ o∈od,ordOk s.length o) {a:Nat} (ha:a<l.length) :
  ∃ r:List Bool,(worstM (sup,od)).2.2.getD a 0=setOf r∧r.length=od.length∧∀ k,k<od.length->r.getD k false=sureB c (l.getD a ((0,0),(0,0),0,[],(0,0),(0,0),0)) (s.getD (od.getD k (0,0,0,0)).1.toNat ((0,0),(0,0),0,0)):=by
 have H:=hs a ha
 refine ⟨od.map (canB (sup.getD a (0,(0,0),0,0)).1 (worstReady (sup.getD a (0,(0,0),0,0)))),?_,by simp,fun k hk=>?_⟩
 ·have:a<sup.length:=by omega
  simp [worstM,marketV,List.getD,this]
 ·obtain ⟨o,ho⟩:∃ o,o=od.getD k (0,0,0,0):=⟨_,rfl⟩
  have hom:o∈od:=by rw [ho];exact zaS od _ k hk
  have e:(od.map (canB (sup.getD a (0,(0,0),0,0)).1 (worstReady (sup.getD a (0,(0,0),0,0))))).getD k false=canB (sup.getD a (0,(0,0),0,0)).1 (worstReady (sup.getD a (0,(0,0),0,0))) o:=by
   rw [ho];simp [List.getD,hk]
  rw [e,<-ho]
  obtain ⟨h1,h2⟩:=hod o hom
  have h1:=zdy.1 h1
  have er:worstReady (sup.getD a (0,(0,0),0,0))=0:=by simp only [worstReady,H.rest]
  have hb:=H.bit o.1.toNat
  rw [show ((o.1.toNat:Nat):Int)=o.1 from Int.toNat_of_nonneg h1.1.1] at hb
  simp only [canB,er,hb]
  have d1:decide (o.1.toNat<s.length)=true:=decide_eq_true (by omega)
  have d2:decide ((0:Int)<=o.2.2.1)=true:=decide_eq_true h1.2.2.1.1
  rw [d1,d2,Bool.true_and,Bool.and_true]
end Go.Tt
