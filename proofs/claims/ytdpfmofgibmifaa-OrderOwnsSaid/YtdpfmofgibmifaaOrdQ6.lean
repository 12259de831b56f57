/-
  Chapter 10: OrderOwns.
-/
import Derived.Test.YtdpfmofgibmifaaOrdAuto3
import Derived.Test.YtdpfmofgibmifaaOrdR1
set_option linter.all false
set_option maxRecDepth 100000
set_option maxHeartbeats 4000000
set_option linter.unusedVariables false
namespace Go.OrdN
open Go Go.Sx Go.Ord
theorem tabs_ok3:TabsOk Go.Proofs.Try.prog T3:=by
 refine ⟨by kernel_rfl,fun p hp=>?_⟩
 simp only [T3,List.mem_cons,List.not_mem_nil,or_false] at hp
 rcases hp with rfl <;>
  exact ⟨by kernel_rfl,Maps.int_keyed (q:=.i64) (by kernel_rfl),by kernel_rfl⟩
theorem v21 (x:Sale) (hp:k21.pre x):V21 x:=Go.Ord.v21 x hp
theorem rm1' {n:Int} (hn:n≤2000):Z.roomy 1 n:=roomy_of (by decide) (by decide) (by omega)
theorem getD_set_ne' {α:Type} (l:List α) (i j:Nat) (v d:α) (h:j≠i):(l.set i v).getD j d=l.getD j d:=by
 simp [List.getD,List.getElem?_set,Ne.symm h]
theorem getD_set_eq' {α:Type} (l:List α) (i:Nat) (v d:α) (h:i<l.length):(l.set i v).getD i d=v:=by
 simp [List.getD,h]
theorem v12 (x:Sale) (_:k12.pre x):V12 x:=by
 refine ⟨trivial,fun _=>⟨trivial,rfl⟩,fun hg=>?_⟩
 have hsh:=great_short hg
 obtain ⟨sup,ord⟩:=x
 obtain ⟨hs,ho⟩:sup.length≤16∧ord.length≤16:=hsh
 have hd:=share_dims (sup,ord)
 refine ⟨rm5 (by show (sup.length:Int)≤100;omega),roomy_of (by decide) (by decide) (by show (ord.length:Int)≤_;omega),trivial,?_⟩
 obtain ⟨A,hA⟩:∃ A,A=(order_Share (sup,ord)).1:=⟨_,rfl⟩
 rw [←hA] at hd
 rw [←hA]
 obtain ⟨hd1,hd2⟩:=hd
 have hrow:∀ i,i<A.length→(A.getD i []).length≤1000:=fun i hi=>hd2 _ (getD_mem A [] i hi)
 refine ⟨fun s=>(0≤s.2.1∧s.2.1≤(A.length:Int))∧s.1=A.take s.2.1.toNat∧s.2.2.length=A.length∧∀ j:Nat,s.2.1.toNat≤j→s.2.2.getD j []=A.getD j [],fun s=>((A.length:Int) - s.2.1).toNat,⟨⟨by simp,by simp⟩,by simp,rfl,fun _ _=>rfl⟩,?_⟩
 rintro ⟨cp,i,cur⟩ ⟨⟨i1,i2⟩,e1,e2,e3⟩
 simp only at i1 i2 e1 e2 e3 ⊢
 subst e1
 refine ⟨fun hi=>?_,fun hi=>?_⟩
 ·have hi:=of_decide_eq_true hi
  obtain ⟨i,rfl⟩:=Int.eq_ofNat_of_zero_le i1
  simp only [Int.toNat_natCast] at e3 ⊢
  have hi':i<A.length:=by omega
  have er:=e3 i (Nat.le_refl _)
  have hr:=hrow i hi'
  simp only [er]
  refine ⟨⟨by omega,by rw [e2];exact hi⟩,rm1' (by show ((A.getD i []).length:Int)≤2000;omega),rm1' (by simp;omega),fun s=>(0≤s.1∧s.1≤((A.getD i []).length:Int))∧s.2.length=A.length∧(∀ j:Nat,j≠i→s.2.getD j []=cur.getD j [])∧(s.2.getD i []).length=(A.getD i []).length,fun s=>(((A.getD i []).length:Int) - s.1).toNat,⟨⟨by simp,by simp⟩,e2,fun _ _=>rfl,by rw [er]⟩,?_⟩
  rintro ⟨k,c2⟩ ⟨⟨k1,k2⟩,f1,f2,f3⟩
  simp only at k1 k2 f1 f2 f3 ⊢
  refine ⟨fun hk=>?_,fun hk=>?_⟩
  ·have hk:=of_decide_eq_true hk
   refine ⟨⟨k1,by rw [f3];exact hk⟩,by simp only [Z.in64];omega,trivial,trivial,trivial,trivial,trivial,⟨⟨by omega,by omega⟩,by rw [List.length_set];exact f1,fun j hj=>by rw [getD_set_ne' _ _ _ _ _ hj];exact f2 j hj,by rw [getD_set_eq' _ _ _ _ (by omega),List.length_set];exact f3⟩,by omega⟩
  ·refine ⟨by simp only [Z.in64];omega,trivial,trivial,⟨⟨by omega,by omega⟩,?_,f1,fun j hj=>?_⟩,by omega⟩
   ·have e:((i:Int)+1).toNat=i+1:=by omega
    show A.take i++[A.getD i []]=A.take ((i:Int)+1).toNat
    rw [e,List.take_succ]
    simp [List.getD,hi']
   ·rw [f2 j (by omega)];exact e3 j (by omega)
 have hi:=of_decide_eq_false hi
 have e:A.take i.toNat=A:=List.take_of_length_le (by omega)
 rw [e]
 refine ⟨trivial,trivial,trivial,trivial,fun s=>0≤s∧s≤(sup.length:Int),fun s=>((sup.length:Int) - s).toNat,⟨by omega,by omega⟩,?_⟩
 rintro s ⟨s1,s2⟩
 refine ⟨fun hs=>?_,fun _=>?_⟩
 ·have hs:s<(sup.length:Int):=of_decide_eq_true hs
  refine ⟨⟨s1,hs⟩,⟨s1,hs⟩,fun hb=>?_,fun _=>⟨by simp only [Z.in64];omega,trivial,trivial,trivial,trivial,trivial,⟨by omega,by omega⟩,by show ((sup.length:Int) - (s+1)).toNat<((sup.length:Int) - s).toNat;omega⟩⟩
  exfalso
  simp at hb
 refine ⟨fun s=>0≤s∧s≤(ord.length:Int),fun s=>((ord.length:Int) - s).toNat,⟨by omega,by omega⟩,?_⟩
 rintro s ⟨s1,s2⟩
 refine ⟨fun hs=>?_,fun _=>?_⟩
 ·have hs:s<(ord.length:Int):=of_decide_eq_true hs
  refine ⟨⟨s1,hs⟩,⟨s1,hs⟩,fun hb=>?_,fun _=>⟨by simp only [Z.in64];omega,trivial,trivial,trivial,trivial,trivial,⟨by omega,by omega⟩,by show ((ord.length:Int) - (s+1)).toNat<((ord.length:Int) - s).toNat;omega⟩⟩
  exfalso
  simp at hb
 refine ⟨⟨hd1,hd1,hd2⟩,fun _=>trivial,?_⟩
 show (((A==A)&&((order_Share (sup,ord)).2==(order_Share (sup,ord)).2))&&true)=true
 simp
end Go.OrdN
