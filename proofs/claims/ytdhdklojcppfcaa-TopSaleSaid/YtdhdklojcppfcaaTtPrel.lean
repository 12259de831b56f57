/-
  Small facts on lists and numbers, for the conditions of chapter 10. Plain Lean; no program in sight.
-/
import Derived.Test.YtdhdklojcppfcaaSH
set_option linter.all false
set_option maxRecDepth 100000
set_option linter.unusedVariables false
open Int renaming toNat->yby
open List renaming any_cons->ydt,getD->yda
namespace Go.Tt
open Go Go.Sx
abbrev I:Ty:=.i .i64
abbrev big:Nat:=1000000
def inB (n a b:Int):Bool:=decide (a<=n)&&decide (n<=b)
def ixF {α:Type} (p:α->Bool):List α->Int->Int
 | [],_=>-1
 | a::l,i=>cond (p a) i (ixF p l (i+1))
theorem inB_iff {n a b:Int}:inB n a b=true↔a<=n/\n<=b:=by simp [inB]
theorem ze {a b:Bool} (h:a=true↔b=true):a=b:=by cases a<;>cases b<;>simp_all
theorem not_iff {a:Bool}:((!a)=true↔a=false)/\((!a)=false↔a=true):=by cases a<;>simp
theorem zmb {α:Type} (l:List α) (d:α) (i:Nat) (h:i<l.length):l.drop i=l.getD i d::l.drop (i+1):=by
 rw [List.drop_eq_getElem_cons h]
 simp [yda,h]
theorem zgW {α:Type} (l:List α) (d:α) (i:Int) (h0:0<=i) (h:i<(l.length:Int)):l.drop i.toNat=l.getD i.toNat d::l.drop (i+1).toNat:=by
 have e:(i+1).toNat=i.toNat+1:=by omega
 rw [e]
 exact zmb l d _ (by omega)
theorem zan {α:Type} (l:List α) (d:α) (i:Nat) (h:i<l.length):l.getD i d∈l:=by
 simp [yda,h]
theorem zbx {α:Type} (l:List α) (d:α) (i:Int) (h0:0<=i) (h:i<(l.length:Int)):l.getD i.toNat d∈l:=zan l d _ (by omega)
theorem ixF_any {α:Type} (p:α->Bool):∀ (l:List α) (i:Int),0<=i->(0<=ixF p l i↔l.any p=true)
 | [],i,_=>by simp [ixF]
 | a::l,i,h=>by
  simp only [ixF,ydt]
  cases ha:p a with
  | true=>simp [h]
  | false=>simpa using ixF_any p l (i+1) (by omega)
theorem any_ix {α:Type} (p:α->Bool) (l:List α):decide (0<=ixF p l 0)=l.any p:=by
 refine ze ?_
 rw [decide_eq_true_eq]
 exact ixF_any p l 0 (by omega)
theorem any_not {α:Type} (p:α->Bool) (l:List α):(!l.any fun a=>!p a)=l.all p:=by
 induction l with
 | nil=>rfl
 | cons a l ih=>simp only [ydt,List.all_cons,Bool.not_or,Bool.not_not,ih]
theorem zhQ {α:Type} (l:List α) (d:α) (F:Fun α Bool) (hl:l.length<=big) (hp:∀ a∈l,F.pre a) :
  Z.LoopP (X:=Int) 0 (fun s0 K0=>(((decide ((s0:Int)<(l.length:Int))=true)->(((0:Int)<=s0/\(s0:Int)<(l.length:Int))/\((F.pre (l.getD (yby s0) d))/\((((F.val (l.getD (yby s0) d))=true)->((s0:Int)=ixF F.val l 0))/\(((F.val (l.getD (yby s0) d))=false)->(Z.in64 (s0+1)/\(K0 (s0+1))))))))/\((decide ((s0:Int)<(l.length:Int))=false)->(((-1):Int)=ixF F.val l 0)))):=by
 refine ⟨fun s=>0<=s/\s<=(l.length:Int)/\ixF F.val l 0=ixF F.val (l.drop s.toNat) s,fun s=>((l.length:Int) - s).toNat,⟨by omega,by omega,rfl⟩,?_⟩
 rintro s ⟨h1,h2,h3⟩
 refine ⟨fun h=>?_,fun h=>?_⟩
 ·have h:=of_decide_eq_true h
  have e:=zgW l d s h1 h
  refine ⟨⟨h1,h⟩,hp _ (zbx l d s h1 h),fun hv=>?_,fun hv=>⟨?_,⟨?_,?_,?_⟩,?_⟩⟩
  ·rw [h3,e,ixF,hv,cond_true]
  ·simp only [Z.in64];simp only [big] at hl;omega
  ·omega
  ·omega
  ·rw [h3,e,ixF,hv,cond_false]
  ·simp only;omega
 ·have h:=of_decide_eq_false h
  have e:l.drop s.toNat=[]:=List.drop_eq_nil_of_le (by omega)
  rw [h3,e,ixF]
theorem zkq {c n:Int} (hc:0<=c) (hc':c<=100) (hn:n<=1000001):Z.roomy c n:=by
 unfold Z.roomy
 have h1:n*(24*c+8)<=1000001*(24*c+8):=Int.mul_le_mul_of_nonneg_right hn (by omega)
 omega
abbrev Span:=Int × Int
def spanB (s:Span) (a b:Int):Bool:=decide (a<=s.1)&&(decide (s.1<=s.2)&&decide (s.2<=b))
theorem zmR {s:Span} {a b:Int}:spanB s a b=true↔a<=s.1/\s.1<=s.2/\s.2<=b:=by simp [spanB]
end Go.Tt
