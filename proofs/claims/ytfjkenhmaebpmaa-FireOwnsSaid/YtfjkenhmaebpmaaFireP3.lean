/-
  Chapter 3: the condition of a planner's program, proved: it goes back from state to state, and is turned round in place.
-/
import Derived.Test.YtfjkenhmaebpmaaFireP2
set_option linter.all false
set_option maxRecDepth 100000
set_option linter.unusedVariables false
namespace Go.Fire
open Go Go.Sx
theorem getD_set (l:List Int) (i k:Nat) (v:Int) (hi:i<l.length):(l.set i v).getD k 0=if k=i then v else l.getD k 0:=by
 simp only [List.getD,List.getElem?_set]
 by_cases h:i=k
 ·subst h;simp [hi]
 ·simp [h,Ne.symm h]
theorem rev_done {l r:List Int} (hn:r.length=l.length) (h:∀ k,k<l.length→r.getD k 0=l.getD (l.length - 1 - k) 0):r=l.reverse:=by
 refine List.ext_getElem (by simp [hn]) fun k h1 h2=>?_
 have:=h k (by omega)
 rw [List.getElem_reverse]
 simp only [List.getD] at this
 rw [List.getElem?_eq_getElem h1,List.getElem?_eq_getElem (by omega)] at this
 simpa using this
def Turning (l:List Int) (s:Int × Int × List Int):Prop :=
 ∃ i:Nat,s.1=(i:Int)∧s.2.1=(l.length:Int) - 1 - (i:Int)∧s.2.2.length=l.length∧2*i≤l.length+1 ∧
  ∀ k,k<l.length→s.2.2.getD k 0=if k<i∨l.length<k+i+1 then l.getD (l.length - 1 - k) 0 else l.getD k 0
theorem turning_end {l:List Int} {s:Int × Int × List Int} (h:Turning l s) (he:decide (s.1<s.2.1)=false):s.2.2=l.reverse:=by
 obtain ⟨i,e1,e2,e3,e4,h⟩:=h
 have he:¬ s.1<s.2.1:=of_decide_eq_false he
 refine rev_done e3 fun k hk=>?_
 rw [h k hk]
 split
 ·rfl
 ·rw [show l.length - 1 - k=k by omega]
theorem turning_step {l:List Int} {i j:Int} {r:List Int} (h:Turning l (i,j,r)) (he:decide (i<j)=true) :
  (0≤i∧i<(r.length:Int))∧(0≤j∧j<(r.length:Int))∧((j - 1 - (i+1)).toNat<(j - i).toNat)∧Turning l (i+1,j - 1,(r.set i.toNat (r.getD j.toNat 0)).set j.toNat (r.getD i.toNat 0)):=by
 obtain ⟨n,e1,e2,e3,e4,h⟩:=h
 simp only at e1 e2 e3 h
 have he:i<j:=of_decide_eq_true he
 subst e1
 have hj:j.toNat=l.length - 1 - n:=by omega
 refine ⟨⟨by omega,by omega⟩,⟨by omega,by omega⟩,by omega,n+1,by simp only;omega,by simp only;omega,by simp only [List.length_set];exact e3,by omega,fun k hk=>?_⟩
 simp only
 rw [getD_set _ _ _ _ (by rw [List.length_set];omega),getD_set _ _ _ _ (by omega),hj,show (n:Int).toNat=n from rfl,h n (by omega),h (l.length - 1 - n) (by omega)]
 rw [if_neg (show ¬ (n<n∨l.length<n+n+1) by omega),if_neg (show ¬ (l.length - 1 - n<n∨l.length<l.length - 1 - n+n+1) by omega)]
 by_cases k1:k=l.length - 1 - n
 ·subst k1
  rw [if_pos rfl,if_pos (Or.inr (show l.length<l.length - 1 - n+(n+1)+1 by omega))]
  rw [show l.length - 1 - (l.length - 1 - n)=n by omega]
 rw [if_neg k1]
 by_cases k2:k=n
 ·subst k2
  rw [if_pos rfl,if_pos (Or.inl (show k<k+1 by omega))]
 rw [if_neg k2,h k hk]
 by_cases k3:k<n∨l.length<k+n+1
 ·rw [if_pos k3,if_pos (show k<n+1∨l.length<k+(n+1)+1 by omega)]
 ·rw [if_neg k3,if_neg (show ¬ (k<n+1∨l.length<k+(n+1)+1) by omega)]
theorem turning_start (l:List Int):Turning l (0,(l.length:Int) - 1,l):=by
 refine ⟨0,rfl,by simp only;omega,rfl,by omega,fun k hk=>?_⟩
 rw [if_neg (by omega)]
theorem v57 (x:Plnr × State) (hp:k57.pre x):V57 x:=by
 obtain ⟨⟨kk,f,l,came,queue⟩,s⟩:=x
 have hc:chain came 49 s:=hp
 have e:fire_planner_program ((kk,f,l,came,queue),s)=(backs came 50 s).reverse:=rfl
 rw [V57,e]
 dsimp only
 refine ⟨fun q=>∃ n:Nat,q.1.length+n=49∧chain came n q.2∧backs came 50 s=q.1++backs came (n+1) q.2,fun q=>49 - q.1.length,⟨49,rfl,hc,rfl⟩,?_⟩
 rintro ⟨out,a,b⟩ ⟨n,h1,h2,h3⟩
 simp only at h1 h2 h3
 have e2:(List.replicate 1 (0:Int)).set 0 a=[a]:=rfl
 dsimp only
 rw [e2]
 refine ⟨trivial,fun h=>?_,fun h=>?_⟩
 ·have h:(a==noneS.1&&b==noneS.2)=false:=not_iff.1.1 h
  have hb:backs came (n+1) (a,b)=a::backs came n ((came (a,b)).getD (0,0)):=by rw [backs,h];rfl
  cases n with
  | zero =>
   have h2:(a,b)=noneS:=h2
   cases h2;cases h
  | succ n =>
   have h2:chain came n ((came (a,b)).getD (0,0)):=by
    rcases h2 with h2 | h2
    ·cases h2;cases h
    ·exact h2
   refine ⟨roomy_of (by omega) (by omega) ?_,⟨n,?_,h2,?_⟩,?_⟩
   ·simp only [List.length_append,List.length_singleton];omega
   ·simp only [List.length_append,List.length_singleton];omega
   ·rw [h3,hb];simp
   ·simp only [List.length_append,List.length_singleton];omega
 ·have h:(a==noneS.1&&b==noneS.2)=true:=not_iff.2.1 h
  have hb:backs came (n+1) (a,b)=[]:=by rw [backs,h];rfl
  rw [hb,List.append_nil] at h3
  rw [h3]
  refine ⟨trivial,by simp only [Z.in64];omega,Turning out,fun q=>(q.2.1 - q.1).toNat,turning_start out,?_⟩
  rintro ⟨i,j,r⟩ hT
  refine ⟨fun hd=>?_,fun hd=>turning_end hT hd⟩
  obtain ⟨g1,g2,g3,g4⟩:=turning_step hT hd
  have hlen:r.length=out.length:=by obtain ⟨_,_,_,e3,_⟩:=hT;exact e3
  refine ⟨g2,g1,g1,⟨g2.1,by simp only [List.length_set];exact g2.2⟩,by simp only [Z.in64];omega,by simp only [Z.in64];omega,rfl,g4,g3⟩
end Go.Fire
