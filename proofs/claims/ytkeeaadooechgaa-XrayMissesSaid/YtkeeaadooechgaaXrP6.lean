/-
  Chapter 6: a short list is put in order.
-/
import Derived.Test.YtkeeaadooechgaaXrP5
set_option linter.all false
set_option maxRecDepth 100000
set_option maxHeartbeats 4000000
set_option linter.unusedVariables false
namespace Go.Xr
open Go Go.Sx
theorem app_getD {α:Type} (A:List α) (a:α) (T:List α) (d:α):(A++a::T).getD A.length d=a:=by simp [List.getD]
theorem app_getD1 {α:Type} (A:List α) (a b:α) (T:List α) (d:α):(A++a::b::T).getD (A.length+1) d=b:=by
 simp [List.getD]
theorem app_swap {α:Type} (A:List α) (a b:α) (T:List α):((A++a::b::T).set (A.length+1) a).set A.length b=A++b::a::T:=by
 rw [List.set_append_right (h:=by omega),show A.length+1 - A.length=1 by omega,List.set_append_right (h:=by omega),Nat.sub_self]
 rfl
theorem insR_pass {lt:Int→Int→Bool} {x:Int}:∀ {R S:List Int},(∀ y∈R,lt x y=true)→insR lt x (R++S)=R++insR lt x S
 | [],_,_=>rfl
 | y::R,S,h=>by
  rw [List.cons_append,insR,h y List.mem_cons_self,cond_true,insR_pass (R:=R) fun z hz=>h z (List.mem_cons_of_mem _ hz)]
  rfl
theorem insR_perm {lt:Int→Int→Bool} {x:Int}:∀ {R:List Int},List.Perm (insR lt x R) (x::R)
 | []=>.refl _
 | y::R=>by
  rw [insR]
  cases lt x y
  ·exact .refl _
  ·exact ((insR_perm (R:=R)).cons y).trans (.swap x y R)
def accV (lt:Int→Int→Bool) (l:List Int):List Int:=l.foldl (fun r x=>insR lt x r) []
theorem acc_app {lt:Int→Int→Bool} (l:List Int) (x:Int):accV lt (l++[x])=insR lt x (accV lt l):=by simp only [accV,List.foldl_append,List.foldl_cons,List.foldl_nil]
theorem acc_perm_aux {lt:Int→Int→Bool}:∀ {l r:List Int},List.Perm (l.foldl (fun r x=>insR lt x r) r) (l++r)
 | [],r=>.refl _
 | x::l,r=>by
  refine (acc_perm_aux (l:=l) (r:=insR lt x r)).trans ?_
  refine (List.Perm.append_left l insR_perm).trans ?_
  rw [List.cons_append]
  exact List.perm_middle
theorem acc_perm {lt:Int→Int→Bool} {l:List Int}:List.Perm (accV lt l) l:=by
 have:=acc_perm_aux (lt:=lt) (l:=l) (r:=[])
 rwa [List.append_nil] at this
theorem sort_perm {lt:Int→Int→Bool} {l:List Int}:List.Perm (sortV lt l) l:=(List.reverse_perm _).trans acc_perm
theorem sort_len {lt:Int→Int→Bool} {l:List Int}:(sortV lt l).length=l.length:=sort_perm.length_eq
theorem sort_mem {lt:Int→Int→Bool} {l:List Int} {x:Int}:x∈sortV lt l↔x∈l:=sort_perm.mem_iff
theorem sort_loop (lt:Int→Int→Bool) (cmp:Int→Int→Int) (P:Int→Int→Prop) (hcmp:∀ a b,decide (cmp a b<0)=lt a b) (l:List Int) (hlen:l.length≤8) (hP:∀ a∈l,∀ b∈l,P a b) (E:(Prod Int (List Int))→Prop) (hE:∀ i,E (i,sortV lt l)) :
  Z.LoopP (X:=(Prod Int (List Int))) (((0:Int)+1,l)) (fun s2 K2=>(((decide ((s2.1:Int)<(l.length:Int))=true)→Z.LoopP (X:=(Prod Int (List Int))) ((s2.1,s2.2)) (fun s3 K3=>(((decide (((0:Int):Int)<s3.1)=true)→((0:Int)≤s3.1∧(s3.1:Int)<(s3.2.length:Int)))∧(((decide (((0:Int):Int)<s3.1)=true)→Z.in64 (s3.1 - 1))∧(((decide (((0:Int):Int)<s3.1)=true)→((0:Int)≤(s3.1 - 1)∧((s3.1 - 1):Int)<(s3.2.length:Int)))∧(((decide (((0:Int):Int)<s3.1)=true)→(P (s3.2.getD (Int.toNat s3.1) 0) (s3.2.getD (Int.toNat (s3.1 - 1)) 0)))∧((((decide (((0:Int):Int)<s3.1)&&decide (((cmp (s3.2.getD (Int.toNat s3.1) 0) (s3.2.getD (Int.toNat (s3.1 - 1)) 0)):Int)<0))=true)→(Z.in64 (s3.1 - 1)∧(Z.in64 (s3.1 - 1)∧(((0:Int)≤(s3.1 - 1)∧((s3.1 - 1):Int)<(s3.2.length:Int))∧(((0:Int)≤s3.1∧(s3.1:Int)<(s3.2.length:Int))∧(((0:Int)≤s3.1∧(s3.1:Int)<(s3.2.length:Int))∧(((0:Int)≤(s3.1 - 1)∧((s3.1 - 1):Int)<((s3.2.set (Int.toNat s3.1) (s3.2.getD (Int.toNat (s3.1 - 1)) 0)).length:Int))∧(Z.in64 (s3.1 - 1)∧(K3 ((s3.1 - 1),((s3.2.set (Int.toNat s3.1) (s3.2.getD (Int.toNat (s3.1 - 1)) 0)).set (Int.toNat (s3.1 - 1)) (s3.2.getD (Int.toNat s3.1) 0))))))))))))∧(((decide (((0:Int):Int)<s3.1)&&decide (((cmp (s3.2.getD (Int.toNat s3.1) 0) (s3.2.getD (Int.toNat (s3.1 - 1)) 0)):Int)<0))=false)→(Z.in64 (s2.1+1)∧(K2 ((s2.1+1),s3.2)))))))))))∧((decide ((s2.1:Int)<(l.length:Int))=false)→E s2))):=by
 refine ⟨fun s=>(1≤s.1∧s.1≤(l.length:Int)+1)∧s.2=(accV lt (l.take s.1.toNat)).reverse++l.drop s.1.toNat,fun s=>((l.length:Int)+1 - s.1).toNat,⟨⟨by show (1:Int)≤0+1;omega,by show (0:Int)+1≤(l.length:Int)+1;omega⟩,?_⟩,?_⟩
 ·show l=(accV lt (l.take 1)).reverse++l.drop 1
  cases l<;>rfl
 rintro ⟨i,d⟩ ⟨⟨i1,i2⟩,hd⟩
 simp only at i1 i2 hd
 refine ⟨fun hi=>?_,fun hi=>?_⟩
 ·have hi:i<(l.length:Int):=of_decide_eq_true hi
  have hx:=getD_mem' l 0 i (by omega) hi
  have edrop:=drop_getD' l 0 i (by omega) hi
  have etake:=take_one l 0 i (by omega) hi
  generalize l.getD i.toNat 0=x at hx edrop etake
  have hRl:(accV lt (l.take i.toNat)).length=i.toNat:=by rw [acc_perm.length_eq,List.length_take];omega
  have hRm:∀ y∈accV lt (l.take i.toNat),y∈l:=fun y hy=>List.mem_of_mem_take (acc_perm.mem_iff.1 hy)
  have hnext:accV lt (l.take (i+1).toNat)=insR lt x (accV lt (l.take i.toNat)):=by rw [etake,acc_app]
  generalize accV lt (l.take i.toNat)=R at hRl hRm hnext hd
  refine ⟨fun s=>(0≤s.1∧s.1≤i)∧∃ R1 R2,R=R1++R2∧(R2.length:Int)=s.1∧(∀ y∈R1,lt x y=true)∧s.2=R2.reverse++x::(R1.reverse++l.drop (i+1).toNat),fun s=>s.1.toNat,⟨⟨by show 0≤i;omega,by show i≤i;omega⟩,[],R,rfl,by show (R.length:Int)=i;omega,fun _ h=>(by cases h),?_⟩,?_⟩
  ·show d=_
   rw [hd,edrop];rfl
  rintro ⟨j,e⟩ ⟨⟨j1,j2⟩,R1,R2,hR,hR2,hlt,he⟩
  simp only at j1 j2 hR2 he
  have hlen:(e.length:Int)=(l.length:Int):=by
   rw [he]
   have:R.length=R1.length+R2.length:=by rw [hR,List.length_append]
   simp only [List.length_append,List.length_reverse,List.length_cons,List.length_drop]
   omega
  have stop:insR lt x R2=x::R2→Z.in64 (i+1)∧((1≤i+1∧i+1≤(l.length:Int)+1)∧e=(accV lt (l.take (i+1).toNat)).reverse++l.drop (i+1).toNat)∧((l.length:Int)+1 - (i+1)).toNat<((l.length:Int)+1 - i).toNat:=by
   intro hs
   refine ⟨by simp only [Z.in64];omega,⟨⟨by omega,by omega⟩,?_⟩,by omega⟩
   rw [hnext,hR,insR_pass hlt,hs,he]
   simp
  by_cases hj:0<j
  ·have hj':decide ((0:Int)<j)=true:=decide_eq_true hj
   obtain ⟨y,R3,rfl⟩:∃ y R3,R2=y::R3:=by
    cases R2 with
    | nil=>simp at hR2;omega
    | cons y R3=>exact ⟨y,R3,rfl⟩
   simp only [List.length_cons] at hR2
   have he2:e=R3.reverse++y::x::(R1.reverse++l.drop (i+1).toNat):=by rw [he];simp
   have ej:j.toNat=R3.reverse.length+1:=by simp only [List.length_reverse];omega
   have ej1:(j - 1).toNat=R3.reverse.length:=by simp only [List.length_reverse];omega
   have g1:e.getD j.toNat 0=x:=by rw [he2,ej,app_getD1]
   have g2:e.getD (j - 1).toNat 0=y:=by rw [he2,ej1,app_getD]
   have hy:y∈l:=hRm y (by rw [hR];simp)
   refine ⟨fun _=>⟨j1,by show j<(e.length:Int);omega⟩,fun _=>by simp only [Z.in64];omega,fun _=>⟨by show 0≤j - 1;omega,by show j - 1<(e.length:Int);omega⟩,fun _=>?_,fun hc=>?_,fun hc=>?_⟩
   ·show P (e.getD j.toNat 0) (e.getD (j - 1).toNat 0)
    rw [g1,g2];exact hP _ hx _ hy
   ·have hc:(decide ((0:Int)<j)&&decide (cmp (e.getD j.toNat 0) (e.getD (j - 1).toNat 0)<0))=true:=hc
    rw [g1,g2,hcmp,hj',Bool.true_and] at hc
    refine ⟨by simp only [Z.in64];omega,by simp only [Z.in64];omega,⟨by show 0≤j - 1;omega,by show j - 1<(e.length:Int);omega⟩,⟨j1,by show j<(e.length:Int);omega⟩,⟨j1,by show j<(e.length:Int);omega⟩,⟨by show 0≤j - 1;omega,by rw [List.length_set];show j - 1<(e.length:Int);omega⟩,by simp only [Z.in64];omega,⟨⟨by show 0≤j - 1;omega,by show j - 1≤i;omega⟩,R1++[y],R3,by rw [hR];simp,by show (R3.length:Int)=j - 1;omega,?_,?_⟩,by show (j - 1).toNat<j.toNat;omega⟩
    ·intro z hz
     rcases List.mem_append.1 hz with hz | hz
     ·exact hlt z hz
     ·rw [List.mem_singleton.1 hz];exact hc
    ·show (e.set j.toNat (e.getD (j - 1).toNat 0)).set (j - 1).toNat (e.getD j.toNat 0)=_
     rw [g1,g2,he2,ej,ej1,app_swap]
     simp
   ·have hc:(decide ((0:Int)<j)&&decide (cmp (e.getD j.toNat 0) (e.getD (j - 1).toNat 0)<0))=false:=hc
    rw [g1,g2,hcmp,hj',Bool.true_and] at hc
    exact stop (by rw [insR,hc];rfl)
  ·have hj':decide ((0:Int)<j)=false:=decide_eq_false hj
   have hR2':R2=[]:=by
    cases R2 with
    | nil=>rfl
    | cons y R3=>simp at hR2;omega
   have no:∀ {Q:Prop},decide ((0:Int)<j)=true→Q:=fun h=>by rw [hj'] at h;cases h
   refine ⟨no,no,no,no,fun hc=>?_,fun _=>stop (by rw [hR2'];rfl)⟩
   have hc:(decide ((0:Int)<j)&&decide (cmp (e.getD j.toNat 0) (e.getD (j - 1).toNat 0)<0))=true:=hc
   rw [hj',Bool.false_and] at hc
   cases hc
 ·have hi:¬ i<(l.length:Int):=of_decide_eq_false hi
  rw [hd,List.take_of_length_le (by omega),List.drop_eq_nil_of_le (by omega),List.append_nil]
  exact hE i
end Go.Xr
