/-
  Shade: the conditions.
-/
import Derived.Test.YtdhdklojcppfcaaTtSAuto
import Derived.Test.YtdhdklojcppfcaaTtMix
set_option linter.all false
set_option maxRecDepth 100000
set_option maxHeartbeats 4000000
set_option linter.unusedVariables false
namespace Go.Tt
open Go Go.Sx
theorem zaK:TabsOk Go.Proofs.Try.prog TS:=⟨by kernel_rfl,maps_ok⟩
theorem v134 (x:Int × Int × Int) (_:k134.pre x):V134 x:=rfl
theorem v68 (x:Span × Int × Int) (_:k68.pre x):V68 x:=by
 show _=spanB x.1 x.2.1 x.2.2
 simp only [spanB,Bool.and_assoc]
theorem v203 (x:Stroke) (_:k203.pre x):V203 x:=by
 refine ⟨trivial,fun _=>trivial,?_⟩
 show ((!spanB x.1 0 1000)||(!spanB x.2 1 4000))=!strokeB x
 simp only [strokeB,Bool.not_and]
theorem v214 (x:(List Stroke) × Fun Stroke Bool) (h:k214.pre x):V214 x:=ixF_loop x.1 ((0,0),0,0) x.2 h.1 h.2
theorem v204 (x:(List Stroke) × Fun Stroke Bool) (h:k204.pre x):V204 x:=⟨h,any_ix _ _⟩
theorem v178 (x:(List Leads) × Fun Leads Bool) (h:k178.pre x):V178 x:=ixF_loop x.1 ((0,0),(0,0),0,[],(0,0),(0,0),0) x.2 h.1 h.2
theorem v131 (x:(List Leads) × Fun Leads Bool) (h:k131.pre x):V131 x:=⟨h,any_ix _ _⟩
theorem v135 (x:(List Shade) × Fun Shade Bool) (h:k135.pre x):V135 x:=ixF_loop x.1 ((0,0),(0,0),0,0) x.2 h.1 h.2
theorem v70 (x:(List Shade) × Fun Shade Bool) (h:k70.pre x):V70 x:=⟨h,any_ix _ _⟩
theorem v179 (x:Leads) (_:k179.pre x):V179 x:=by
 refine ⟨trivial,fun _=>trivial,fun _=>trivial,trivial,fun _=>trivial,fun _=>trivial,fun h=>⟨?_,fun _ _=>trivial⟩,?_⟩
 ·have h:=(Bool.and_eq_true _ _▸h).2
  have:=of_decide_eq_true h
  show x.2.2.2.1.length<=big
  simp only [big];omega
 ·show ((_&&decide _)&&!(x.2.2.2.1.any fun s=>!strokeB s))=leadsB x
  rw [any_not];rfl
theorem v132 (x:Leads) (_:k132.pre x):V132 x:=⟨trivial,rfl⟩
theorem v67 (x:Shade) (_:k67.pre x):V67 x:=by
 refine ⟨trivial,fun _=>trivial,fun _=>trivial,?_⟩
 show (((!spanB x.1 0 200)||(!spanB x.2.1 0 10000))||(!spanB x.2.2 0 10000))=!shadeB x
 simp only [shadeB,Bool.not_and,Bool.or_assoc]
theorem v71 (x:Span × Span) (_:k71.pre x):V71 x:=rfl
theorem range_all (p:Nat->Bool) (n i:Nat) (h:i<n) (hh:(List.range n).all p=true):p i=true:=List.all_eq_true.1 hh i (List.mem_range.2 h)
theorem v69 (x:List Tint) (_:k69.pre x):V69 x:=by
 have hw:zaq ((x.length:Int),2,8)=inB (x.length:Int) 2 8:=rfl
 have key:∀ {a b c:Bool},(((!a)||(!b))||(!c))=!((a&&b)&&c):=by decide
 have key2:∀ {a b:Bool},((!a)||(!b))=!(a&&b):=by decide
 simp only [V69,hw]
 refine ⟨trivial,fun h=>?_,fun h=>?_,fun h=>?_,fun h=>?_,fun h=>?_⟩
 ·have h:=inB_iff.1 (not_iff.2.1 h);omega
 ·rw [key2] at h
  have h:=inB_iff.1 (Bool.and_eq_true _ _▸not_iff.2.1 h).1
  simp only [Z.in64];omega
 ·rw [key2] at h
  have h:=inB_iff.1 (Bool.and_eq_true _ _▸not_iff.2.1 h).1
  omega
 ·rw [key] at h
  have h:=not_iff.1.1 h
  show false=curveB x
  rw [curveB]
  have e:((x.length:Int) - 1).toNat=x.length - 1:=by omega
  rw [e] at h
  rw [show Int.toNat 0=0 from rfl] at h
  rw [h];rfl
 ·rw [key] at h
  have h:=not_iff.2.1 h
  have e:((x.length:Int) - 1).toNat=x.length - 1:=by omega
  rw [e,show Int.toNat 0=0 from rfl] at h
  have h8:=inB_iff.1 (Bool.and_eq_true _ _▸(Bool.and_eq_true _ _▸h).1).1
  have hc:curveB x=(List.range x.length).all (tintB x):=by rw [curveB,h,Bool.true_and]
  refine ⟨fun s=>0<=s∧s<=(x.length:Int)∧(List.range s.toNat).all (tintB x)=true,fun s=>((x.length:Int) - s).toNat,⟨by omega,by omega,rfl⟩,?_⟩
  rintro s ⟨s1,s2,s3⟩
  obtain ⟨s,rfl⟩:=Int.eq_ofNat_of_zero_le s1
  simp only [Int.toNat_natCast] at s3 ⊢
  have hk:∀ {a b c d:Bool},((!a)||(b&&(c||d)))=!(a&&(!b||(!c&&!d))):=by decide
  refine ⟨fun hi=>?_,fun hi=>?_⟩
  ·have hi:=of_decide_eq_true hi
   have hsl:s<x.length:=by omega
   have hpos:∀ {p:Prop},(decide ((0:Int)<(s:Int))=true∧p)->1<=s:=fun h=>by have:=of_decide_eq_true h.1;omega
   have ed:((s:Int) - 1).toNat=s - 1:=by omega
   rw [ed]
   have et:((!(zaq ((x.getD s (0,0)).2,0,200)))||(decide ((0:Int)<(s:Int))&&(decide ((x.getD s (0,0)).1<=(x.getD (s - 1) (0,0)).1)||decide ((x.getD s (0,0)).2<(x.getD (s - 1) (0,0)).2))))=!tintB x s:=by
    rw [hk]
    congr 1
    show (inB _ _ _&&_)=(inB _ _ _&&_)
    congr 1
    have a:(!decide ((0:Int)<(s:Int)))=(s==0):=by
     cases s with
     | zero=>rfl
     | succ n=>simp
    have b:(!decide ((x.getD s (0,0)).1<=(x.getD (s - 1) (0,0)).1))=decide ((x.getD (s - 1) (0,0)).1<(x.getD s (0,0)).1):=by
     rw [<-decide_not];exact decide_eq_decide.2 (by omega)
    have c:(!decide ((x.getD s (0,0)).2<(x.getD (s - 1) (0,0)).2))=decide ((x.getD (s - 1) (0,0)).2<=(x.getD s (0,0)).2):=by
     rw [<-decide_not];exact decide_eq_decide.2 (by omega)
    rw [a,b,c]
   rw [et]
   refine ⟨⟨s1,hi⟩,trivial,fun h=>?_,fun h=>?_,fun h=>?_,fun h=>?_,fun h=>?_,fun h=>?_⟩
   ·simp only [Z.in64];omega
   ·have:=hpos h;omega
   ·simp only [Z.in64];omega
   ·have:=hpos h.2;omega
   ·have h:=not_iff.1.1 h
    show false=curveB x
    rw [hc]
    refine (Bool.eq_false_iff.2 fun hh=>?_).symm
    rw [range_all (tintB x) _ s hsl hh] at h;cases h
   ·have h:=not_iff.2.1 h
    refine ⟨by simp only [Z.in64];omega,⟨by omega,by omega,?_⟩,by omega⟩
    rw [show ((s:Int)+1).toNat=s+1 by omega,List.range_succ,List.all_append,s3]
    simp [h]
  ·have hi:=of_decide_eq_false hi
   have:s=x.length:=by omega
   subst this
   show true=curveB x
   rw [hc,s3]
end Go.Tt
