/-
  Chapter 6: the picture.
-/
import Derived.Test.YtkeeaadooechgaaXrP3
set_option linter.all false
set_option maxRecDepth 100000
set_option maxHeartbeats 4000000
set_option linter.unusedVariables false
namespace Go.Xr
open Go Go.Sx
theorem idx_nodup (n:Nat):(idx n).Nodup:=by
 unfold idx
 exact List.Pairwise.map _ (fun a b (h:a≠b)=>by intro e;exact h (Int.ofNat.inj e)) List.nodup_range
theorem take_all {n:Nat} {k:Int} (h:(n:Int)≤k):(idx n).take k.toNat=idx n:=List.take_of_length_le (by rw [idx_len];omega)
theorem add_loop (x:Pict × Crate × Truth) (f:Found) (m:Int × Int) (w:List Int) (hp:PictOk x.1) (hc:CrateOk x.2.1) (ht:smallT x.2.2)
  (hfin:(f,m,spotsR x.2.2 x.2.1.2.1.toNat (idx x.2.1.1.length) x.1.2.2.1,x.1.2.2.2+1)=xray_picture_add x) :
  Z.LoopP (X:=(Prod Int (Prod (Prod Int (Prod Int (Prod Int Int))) (Prod (Prod Int Int) (Prod (List (List Int)) Int))))) (0,f,m,x.1.2.2.1,(x.1.2.2.2+1)) (fun s0 K0=>(((decide ((s0.1:Int)<(x.2.1.1.length:Int))=true)→Z.LoopP (X:=(Prod Int (Prod (Prod Int (Prod Int (Prod Int Int))) (Prod (Prod Int Int) (Prod (List (List Int)) Int))))) ((0,s0.2)) (fun s1 K1=>(((decide ((s1.1:Int)<x.2.1.2.1)=true)→((xray_truth_bad_p (x.2.2,s0.1,s1.1))∧((((xray_truth_bad (x.2.2,s0.1,s1.1))=true)→(((0:Int)≤s0.1∧(s0.1:Int)<8)∧(((0:Int)≤s1.1∧(s1.1:Int)<8)∧(Z.in64 (((s1.2.2.2.1.getD (Int.toNat s0.1) (List.replicate 8 0)).getD (Int.toNat s1.1) 0)+1)∧(((0:Int)≤s0.1∧(s0.1:Int)<8)∧(((0:Int)≤s1.1∧(s1.1:Int)<8)∧(Z.in64 (s1.1+1)∧(((w:(List Int))=w)∧(K1 ((s1.1+1),s1.2.1,s1.2.2.1,(s1.2.2.2.1.set (Int.toNat s0.1) ((s1.2.2.2.1.getD (Int.toNat s0.1) (List.replicate 8 0)).set (Int.toNat s1.1) (((s1.2.2.2.1.getD (Int.toNat s0.1) (List.replicate 8 0)).getD (Int.toNat s1.1) 0)+1))),s1.2.2.2.2))))))))))∧(((xray_truth_bad (x.2.2,s0.1,s1.1))=false)→(Z.in64 (s1.1+1)∧(((w:(List Int))=w)∧(K1 ((s1.1+1),s1.2))))))))∧((decide ((s1.1:Int)<x.2.1.2.1)=false)→(Z.in64 (s0.1+1)∧(((w:(List Int))=w)∧(K0 ((s0.1+1),s1.2))))))))∧((decide ((s0.1:Int)<(x.2.1.1.length:Int))=false)→((s0.2:(Prod (Prod Int (Prod Int (Prod Int Int))) (Prod (Prod Int Int) (Prod (List (List Int)) Int))))=(xray_picture_add x))))):=by
 have hr8:=hc.r8
 have hc1:=hc.c1
 have hc8:=hc.c8
 have hcnt:=hp.cnt
 have hn:((x.2.1.2.1.toNat:Nat):Int)=x.2.1.2.1:=by omega
 have grid:∀ k:Int,0≤k→k≤(x.2.1.1.length:Int)→_:=fun k k1 k2=>spotsR_get (t:=x.2.2) (n:=x.2.1.2.1.toNat) (by omega) (l:=(idx x.2.1.1.length).take k.toNat) (g:=x.1.2.2.1) (fun r hr=>by have:=idx_mem.1 (List.mem_of_mem_take hr);omega) ((idx_nodup _).sublist (List.take_sublist _ _)) hp.g8 hp.r8
 refine ⟨fun s=>(0≤s.1∧s.1≤(x.2.1.1.length:Int))∧s.2=(f,m,spotsR x.2.2 x.2.1.2.1.toNat ((idx x.2.1.1.length).take s.1.toNat) x.1.2.2.1,x.1.2.2.2+1),fun s=>((x.2.1.1.length:Int) - s.1).toNat,⟨⟨by simp,by simp⟩,rfl⟩,?_⟩
 rintro ⟨i,s⟩ ⟨⟨i1,i2⟩,hs⟩
 simp only at i1 i2 hs ⊢
 subst hs
 refine ⟨fun hlt=>?_,fun hlt=>?_⟩
 ·have hlt:=of_decide_eq_true hlt
  obtain ⟨⟨g1,g2⟩,g3⟩:=grid i i1 i2
  generalize hg:spotsR x.2.2 x.2.1.2.1.toNat ((idx x.2.1.1.length).take i.toNat) x.1.2.2.1=g at g1 g2 g3
  have hi8:0≤i∧i<8:=⟨i1,by omega⟩
  have row:∀ k:Int,0≤k→k≤x.2.1.2.1→_:=fun k k1 k2=>spotsK_get (t:=x.2.2) hi8 (l:=(idx x.2.1.2.1.toNat).take k.toNat) (g:=g) (fun r hr=>by have:=idx_mem.1 (List.mem_of_mem_take hr);omega) ((idx_nodup _).sublist (List.take_sublist _ _)) g1 g2
  refine ⟨fun s=>(0≤s.1∧s.1≤x.2.1.2.1)∧s.2=(f,m,spotsK x.2.2 i ((idx x.2.1.2.1.toNat).take s.1.toNat) g,x.1.2.2.2+1),fun s=>(x.2.1.2.1 - s.1).toNat,⟨⟨by simp,by simp;omega⟩,rfl⟩,?_⟩
  rintro ⟨k,s⟩ ⟨⟨k1,k2⟩,hs⟩
  simp only at k1 k2 hs ⊢
  subst hs
  refine ⟨fun hlt2=>?_,fun hlt2=>?_⟩
  ·have hlt2:=of_decide_eq_true hlt2
   have hk8:0≤k∧k<8:=⟨k1,by omega⟩
   obtain ⟨⟨r1,r2⟩,r3⟩:=row k k1 k2
   have hval:=r3 i.toNat k.toNat
   have hg3:=g3 i.toNat k.toNat
   have hle:=hp.le i.toNat k.toNat
   rw [show ((i.toNat:Nat):Int)=i by omega,show ((k.toNat:Nat):Int)=k by omega] at hval hg3 hle
   have hnk:k∉(idx x.2.1.2.1.toNat).take k.toNat:=by
    intro hm
    obtain ⟨n,h1,h2⟩:=List.mem_iff_getElem.1 hm
    rw [List.length_take,idx_len] at h1
    rw [List.getElem_take] at h2
    simp [idx] at h2
    omega
   have hval':getG (spotsK x.2.2 i ((idx x.2.1.2.1.toNat).take k.toNat) g) i k=getG g i k:=by
    rw [hval];simp [hnk]
   have hb1:0≤getG g i k∧getG g i k≤100001:=by
    rw [hg3]
    cases (decide (i∈(idx x.2.1.1.length).take i.toNat∧k.toNat<x.2.1.2.1.toNat)&&badB x.2.2 i k)<;>simp only [cond_true,cond_false]<;>omega
   have etake:(idx x.2.1.2.1.toNat).take (k+1).toNat=(idx x.2.1.2.1.toNat).take k.toNat++[k]:=idx_take k1 (by omega)
   have enext:spotsK x.2.2 i ((idx x.2.1.2.1.toNat).take (k+1).toNat) g=cond (badB x.2.2 i k) (setG (spotsK x.2.2 i ((idx x.2.1.2.1.toNat).take k.toNat) g) i k (getG g i k+1)) (spotsK x.2.2 i ((idx x.2.1.2.1.toNat).take k.toNat) g):=by
    rw [etake,spots_app]
    simp only [spotsK,hval']
   have hadd:((spotsK x.2.2 i ((idx x.2.1.2.1.toNat).take k.toNat) g).getD i.toNat (List.replicate 8 0)).getD k.toNat 0=getG g i k:=hval'
   refine ⟨⟨ht,hi8,hk8⟩,fun hb=>⟨hi8,hk8,by rw [hadd];simp only [Z.in64];omega,hi8,hk8,by simp only [Z.in64];omega,trivial,⟨⟨by omega,by omega⟩,?_⟩,by show (x.2.1.2.1 - (k+1)).toNat<(x.2.1.2.1 - k).toNat;omega⟩,fun hb=>⟨by simp only [Z.in64];omega,trivial,⟨⟨by omega,by omega⟩,?_⟩,by show (x.2.1.2.1 - (k+1)).toNat<(x.2.1.2.1 - k).toNat;omega⟩⟩
   ·rw [enext,show badB x.2.2 i k=true from hb,cond_true,hadd];rfl
   ·rw [enext,show badB x.2.2 i k=false from hb,cond_false]
  ·have hlt2:=of_decide_eq_false hlt2
   refine ⟨by simp only [Z.in64];omega,trivial,⟨⟨by omega,by omega⟩,?_⟩,by show ((x.2.1.1.length:Int) - (i+1)).toNat<((x.2.1.1.length:Int) - i).toNat;omega⟩
   rw [take_all (by omega),idx_take i1 hlt,spotsR_app,hg]
   rfl
 ·have hlt:=of_decide_eq_false hlt
  rw [take_all (by omega)]
  exact hfin
theorem small_or {a b:Int} (ha:smallSet a) (hb:smallSet b):smallSet (orI a b):=by
 have h1:a.toNat<2^8:=by simp only [smallSet] at ha;omega
 have h2:b.toNat<2^8:=by simp only [smallSet] at hb;omega
 have:=Nat.or_lt_two_pow h1 h2
 simp only [smallSet,orI];omega
theorem small_and {a b:Int} (ha:smallSet a):smallSet (andI a b):=by
 have:=Nat.and_le_left (n:=a.toNat) (m:=b.toNat)
 simp only [smallSet] at ha
 simp only [smallSet,andI];omega
theorem v55 (x:Pict × Crate × Truth) (h:k55.pre x):V55 x:=by
 obtain ⟨hp,hc,ht⟩:=h
 have hc0:=hc
 have hc:=crate_iff.1 hc
 have hcnt:=hp.cnt
 refine ⟨⟨ht,hc0⟩,by simp only [Z.in64];omega,fun he=>?_,fun he=>?_⟩
 ·have he:x.1.2.2.2=0:=by simp at he;omega
  refine ⟨by show (2:Nat)≤big;decide,⟨hp.can.1.1,ht.1.1⟩,⟨hp.can.2.1,ht.2.1⟩,⟨ht.1.1,ht.1.1⟩,⟨ht.2.1,ht.2.1⟩,add_loop x _ _ _ hp hc ht ?_⟩
  have e0:(x.1.2.2.2==0)=true:=by rw [he];rfl
  have e1:∀ a:Int,((a.toNat &&& a.toNat:Nat):Int)=((a.toNat:Nat):Int):=fun a=>by rw [Nat.and_self]
  simp only [xray_picture_add,addV,foundV,e0,cond_true,e1,orI]
  rw [Int.toNat_of_nonneg ht.1.1,Int.toNat_of_nonneg ht.2.1]
  simp [xray_ends_int,endsV,xray_truth_many]
 ·have he:x.1.2.2.2≠0:=by simp at he;omega
  refine ⟨by show (2:Nat)≤big;decide,⟨hp.can.1.1,ht.1.1⟩,⟨hp.can.2.1,ht.2.1⟩,⟨hp.sure.1.1,ht.1.1⟩,⟨hp.sure.2.1,ht.2.1⟩,add_loop x _ _ _ hp hc ht ?_⟩
  have e0:(x.1.2.2.2==0)=false:=by simpa using he
  have h2:=hp.le2
  simp only [xray_picture_add,addV,foundV,e0,cond_false,orI,andI]
  refine Prod.ext rfl (Prod.ext (Prod.ext ?_ ?_) rfl)
  ·show min (min (manyV x.2.2 x.2.1) x.1.2.1.1) x.1.2.1.2=min (manyV x.2.2 x.2.1) x.1.2.1.1
   omega
  ·show max (max (manyV x.2.2 x.2.1) x.1.2.1.1) x.1.2.1.2=max (manyV x.2.2 x.2.1) x.1.2.1.2
   omega
end Go.Xr
