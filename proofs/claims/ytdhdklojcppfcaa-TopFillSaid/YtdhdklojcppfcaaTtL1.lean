/-
  TopSold: which batches surely have which shades.
-/
import Derived.Test.YtdhdklojcppfcaaTtOS
import Derived.Test.YtdhdklojcppfcaaTtSP3
import Derived.Test.YtdhdklojcppfcaaTtLAuto
set_option linter.all false
set_option maxRecDepth 100000
set_option maxHeartbeats 4000000
set_option linter.unusedVariables false
namespace Go.Tt
open Go Go.Sx
theorem meet_eq (a b:Span):(meet a b==a)=inS a b:=by
 refine bool_ext ?_
 rw [beq_iff_eq,Prod.ext_iff]
 simp only [meet,inS,Bool.and_eq_true,decide_eq_true_eq]
 constructor
 ·rintro ⟨h1,h2⟩;omega
 ·rintro ⟨h1,h2⟩;omega
def sureB (c:List Tint) (l:Leads) (s:Shade):Bool:=(inS (blackB (c,l)) s.1&&inS l.2.2.2.2.1 s.2.1)&&inS l.2.2.2.2.2.1 s.2.2
theorem has_sure (c:List Tint) (l:Leads):hasS (blackB (c,l)) l=sureB c l:=by
 funext s
 simp only [hasS,sureB,meet_eq,Bool.and_assoc]
theorem hasL_mem {p:Shade->Bool}:∀ {s:List Shade} {i:Int} {v:Int},v∈hasL p s i↔∃ k,k<s.length∧v=i+(k:Nat)∧p (s.getD k ((0,0),(0,0),0,0))=true
 | [],i,v=>⟨(fun h=>by cases h),fun ⟨k,h,_⟩=>(by cases h)⟩
 | a::s,i,v=>by
  have ih:=hasL_mem (p:=p) (s:=s) (i:=i+1) (v:=v)
  rw [hasL]
  have go:v∈hasL p s (i+1)↔∃ k,k+1<(a::s).length∧v=i+((k+1:Nat):Int)∧p ((a::s).getD (k+1) ((0,0),(0,0),0,0))=true:=by
   rw [ih]
   constructor
   ·rintro ⟨k,h1,h2,h3⟩;exact ⟨k,by simp;omega,by omega,h3⟩
   ·rintro ⟨k,h1,h2,h3⟩;exact ⟨k,by simp at h1;omega,by omega,h3⟩
  cases hp:p a with
  | true =>
   rw [cond_true,List.mem_cons,go]
   constructor
   ·rintro (h | ⟨k,h1,h2,h3⟩)
    ·exact ⟨0,by simp,by omega,hp⟩
    ·exact ⟨k+1,h1,h2,h3⟩
   ·rintro ⟨k,h1,h2,h3⟩
    cases k with
    | zero=>left;omega
    | succ k=>right;exact ⟨k,h1,h2,h3⟩
  | false =>
   rw [cond_false,go]
   constructor
   ·rintro ⟨k,h1,h2,h3⟩;exact ⟨k+1,h1,h2,h3⟩
   ·rintro ⟨k,h1,h2,h3⟩
    cases k with
    | zero=>rw [show (a::s).getD 0 ((0,0),(0,0),0,0)=a from rfl,hp] at h3;cases h3
    | succ k=>exact ⟨k,h1,h2,h3⟩
structure Known (c:List Tint) (s:List Shade) (l:Leads):Prop where
 has:(hasV c s l).1=hasL (sureB c l) s 0
 black:(blackV c l).1=blackB (c,l)
 many:0<=l.2.2.2.2.2.2∧l.2.2.2.2.2.2<=topN
theorem known_of {c:List Tint} {s:List Shade} {l:Leads} (h:(hasV c s l).2=0):Known c s l:=by
 unfold hasV at h
 cases h1:(curveB c&&decide (8<(s.length:Int))) with
 | true=>rw [h1] at h;cases h
 | false =>
  rw [h1,cond_false] at h
  cases h2:curveB c with
  | false=>rw [h2] at h;cases h
  | true =>
   rw [h2,Bool.not_true,cond_false] at h
   cases h3:(s.any (fun x=>!shadeB x)||!leadsB l) with
   | true=>rw [h3] at h;cases h
   | false =>
    rw [h3,cond_false] at h
    cases h4:decide ((blackB (c,l)).2<(blackB (c,l)).1) with
    | true=>rw [h4] at h;cases h
    | false =>
     have h5:=not_iff.2.1 (Bool.or_eq_false_iff.1 h3).2
     refine ⟨?_,?_,(leads_of h5).many⟩
     ·unfold hasV
      rw [h1,h2,h3,h4,has_sure];rfl
     ·unfold blackV
      rw [h2,h5,h4];rfl
abbrev row0:List Bool:=List.replicate 8 false
def cell (T:List (List Bool)) (i k:Nat):Bool:=(T.getD i row0).getD k false
structure Grid (T:List (List Bool)):Prop where
 l:T.length=8
 r:∀ i,i<8->(T.getD i row0).length=8
structure SupIs (c:List Tint) (s:List Shade) (l:Leads) (y:Supply):Prop where
 sm:smallSet y.1
 bit:∀ k:Nat,hasB y.1 (k:Nat)=(decide (k<s.length)&&sureB c l (s.getD k ((0,0),(0,0),0,0)))
 rest:y.2=((l.2.2.2.2.2.2,l.2.2.2.2.2.2),0,0)
 many:0<=l.2.2.2.2.2.2∧l.2.2.2.2.2.2<=topN
theorem SupIs.ok {c:List Tint} {s:List Shade} {l:Leads} {y:Supply} (h:SupIs c s l y):supplyB y=true:=by
 have h1:=h.sm
 have h2:=h.many
 have e:=h.rest
 rw [supply_iff,e]
 simp only [smallSet] at h1
 exact ⟨h1,⟨h2.1,Int.le_refl _,h2.2⟩,Int.le_refl 0,Int.le_refl 0,by show (0:Int)<=1048576;omega⟩
end Go.Tt
