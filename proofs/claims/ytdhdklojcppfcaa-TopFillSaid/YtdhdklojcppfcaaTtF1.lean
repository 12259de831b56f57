/-
  TopFill: small conditions, and what the law knows.
-/
import Derived.Test.YtdhdklojcppfcaaTtL2
import Derived.Test.YtdhdklojcppfcaaTtBP6
import Derived.Test.YtdhdklojcppfcaaTtRP2
import Derived.Test.YtdhdklojcppfcaaTtFAuto
set_option linter.all false
set_option maxRecDepth 100000
set_option maxHeartbeats 4000000
set_option linter.unusedVariables false
namespace Go.Tt
open Go Go.Sx
theorem tabs_okF:TabsOk Go.Proofs.Try.prog TF:=⟨by kernel_rfl,maps_ok⟩
theorem v24 (x:Span × Span) (_:k24.pre x):V24 x:=rfl
theorem v20 (x:Unit) (_:k20.pre x):V20 x:=⟨trivial,trivial,by kernel_rfl⟩
theorem v25 (x:SureIn) (h:k25.pre x):V25 x:=by
 obtain ⟨⟨h1,h2,h3⟩,h4⟩:((0<=x.1∧x.1<(x.2.2.2.1.length:Int))∧(0<=x.2.1∧x.2.1<(x.2.2.2.2.1.length:Int))∧x.1<(x.2.2.2.2.2.length:Int))∧∀ a,x.2.2.1.pre a:=h
 exact ⟨h1,h2,h4 _,fun _=>⟨h1.1,h3⟩,fun _=>h2,fun _=>h4 _,fun _=>⟨h1.1,h3⟩,fun _=>h2,fun _=>h4 _,rfl⟩
theorem have_sum (l:List Pile) (s:Int):haveV l s=sumN l.length fun a=>cond (touchB s (l.getD a noP).1) (l.getD a noP).2 0:=by
 have key:∀ n,n<=l.length->haveV (l.take n) s=sumN n fun a=>cond (touchB s (l.getD a noP).1) (l.getD a noP).2 0:=by
  intro n
  induction n with
  | zero=>intro _;rfl
  | succ n ih =>
   intro h
   have:=have_take l s (n:Nat) (by omega) (by omega)
   rw [zbn,<-ih (by omega)]
   exact this
 have:=key l.length (Nat.le_refl _)
 rwa [List.take_length] at this
theorem sum_sum (s:Int) (l:List Int):sumV s l=sumN l.length fun k=>cond (hasB s (k:Nat)) (l.getD k 0) 0:=by
 rw [sumV,selS_sumN]
 exact zdy fun i _=>by rw [Nat.zero_add]
structure PileIs (c:List Tint) (s:List Shade) (l:Leads) (y:Pile):Prop where
 sm:smallSet y.1
 bit:∀ k:Nat,hasB y.1 (k:Nat)=(decide (k<s.length)&&sureB c l (s.getD k noS))
 rest:y.2=l.2.2.2.2.2.2
 many:0<=l.2.2.2.2.2.2∧l.2.2.2.2.2.2<=topN
theorem touch_sure {c:List Tint} {s:List Shade} {l:Leads} {y:Pile} (h:PileIs c s l y) (X:Int):touchB X y.1=(List.range s.length).any fun k=>hasB X (k:Nat)&&sureB c l (s.getD k noS):=by
 refine bool_ext ?_
 rw [touch_iff,List.any_eq_true]
 constructor
 ·rintro ⟨k,h1,h2⟩
  rw [h.bit k,Bool.and_eq_true] at h2
  exact ⟨k,List.mem_range.2 (of_decide_eq_true h2.1),by rw [h1,h2.2];rfl⟩
 ·rintro ⟨k,hk,h1⟩
  rw [Bool.and_eq_true] at h1
  exact ⟨k,h1.1,by rw [h.bit k,h1.2,decide_eq_true (List.mem_range.1 hk)];rfl⟩
theorem sure_is {c:List Tint} {l:List Leads} {s:List Shade} {B:List Span} {i k:Nat} (hB:B.getD i (0,0)=blackB (c,l.getD i noL)):zbT ((i:Int),(k:Int),inF,B,s,l)=sureB c (l.getD i noL) (s.getD k noS):=by
 show ((inS (B.getD i (0,0)) _&&_)&&_)=_
 rw [hB];rfl
theorem app_getD {α:Type} (l:List α) (d y:α) (a:Nat):(l++[y]).getD a d=if a<l.length then l.getD a d else if a=l.length then y else d:=by
 by_cases h1:a<l.length
 ·rw [if_pos h1];simp [List.getD,List.getElem?_append,h1]
 ·rw [if_neg h1]
  by_cases h2:a=l.length
  ·subst h2;rw [if_pos rfl];simp [List.getD,List.getElem?_append]
  ·rw [if_neg h2]
   have:(l++[y]).length<=a:=by rw [List.length_append];simp;omega
   simp [List.getD,List.getElem?_eq_none this]
end Go.Tt
