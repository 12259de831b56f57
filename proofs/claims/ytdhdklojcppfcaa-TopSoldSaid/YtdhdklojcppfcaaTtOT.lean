/-
  Chapter 10: what lacks most.
-/
import Derived.Test.YtdhdklojcppfcaaTtO4
import Derived.Test.YtdhdklojcppfcaaTtOP8
set_option linter.all false
set_option maxRecDepth 100000
set_option maxHeartbeats 4000000
set_option linter.unusedVariables false
namespace Go.Tt
open Go Go.Sx
def under (n:Nat) (X:Int):Prop:=0<=X∧X<2^n
theorem under_nat {n:Nat} {X:Int} (h:under n X):∃ m:Nat,X=(m:Int)∧m<2^n:=by
 refine ⟨X.toNat,by have:=h.1;omega,?_⟩
 have h1:=h.1
 have h2:=h.2
 have:(2^n:Int)=((2^n:Nat):Int):=by simp
 rw [this] at h2
 omega
theorem under_bit {n:Nat} {X:Int} (h:under n X) {k:Nat} (hk:n<=k):hasB X (k:Nat)=false:=by
 obtain ⟨m,rfl,hm⟩:=under_nat h
 simp only [hasB,Int.toNat_natCast]
 exact Nat.testBit_lt_two_pow (Nat.lt_of_lt_of_le hm (Nat.pow_le_pow_right (by decide) hk))
theorem sub_iff {s t:Int} (hs:0<=s) (ht:0<=t):subB s t=true↔∀ k:Nat,hasB s (k:Nat)=true->hasB t (k:Nat)=true:=by
 obtain ⟨a,rfl⟩:=Int.eq_ofNat_of_zero_le hs
 obtain ⟨b,rfl⟩:=Int.eq_ofNat_of_zero_le ht
 simp only [subB,hasB,Int.toNat_natCast,beq_iff_eq]
 constructor
 ·intro h k hk
  have h:a ^^^ (a &&& b)=0:=by omega
  have:=congrArg (fun x=>x.testBit k) h
  simp only [Nat.testBit_xor,Nat.testBit_and,Nat.zero_testBit,hk,Bool.true_and] at this
  cases hb:b.testBit k with
  | true=>rfl
  | false=>rw [hb] at this;cases this
 ·intro h
  have:a ^^^ (a &&& b)=0:=by
   apply Nat.eq_of_testBit_eq
   intro k
   simp only [Nat.testBit_xor,Nat.testBit_and,Nat.zero_testBit]
   cases ha:a.testBit k with
   | false=>rfl
   | true=>rw [h k ha];rfl
  rw [this];rfl
theorem touch_iff {a t:Int}:touchB a t=true↔∃ k:Nat,hasB a (k:Nat)=true∧hasB t (k:Nat)=true:=by
 simp only [touchB,hasB,Int.toNat_natCast,Bool.not_eq_true',beq_eq_false_iff_ne]
 constructor
 ·intro h
  have h:a.toNat &&& t.toNat≠0:=fun e=>h (by rw [e];rfl)
  have:∃ k,(a.toNat &&& t.toNat).testBit k=true:=by
   refine Classical.byContradiction fun hn=>h (Nat.eq_of_testBit_eq fun k=>?_)
   rw [Nat.zero_testBit]
   cases hk:(a.toNat &&& t.toNat).testBit k with
   | false=>rfl
   | true=>exact absurd ⟨k,hk⟩ hn
  obtain ⟨k,hk⟩:=this
  rw [Nat.testBit_and,Bool.and_eq_true] at hk
  exact ⟨k,hk⟩
 ·rintro ⟨k,h1,h2⟩ h
  have h:a.toNat &&& t.toNat=0:=by omega
  have:=congrArg (fun x=>x.testBit k) h
  simp only [Nat.testBit_and,Nat.zero_testBit,h1,h2] at this
  cases this
theorem touch_any {row:List Bool} {X:Int}:touchB (setOf row) X=(List.range row.length).any fun k=>hasB X (k:Nat)&&row.getD k false:=by
 refine bool_ext ?_
 rw [touch_iff,List.any_eq_true]
 constructor
 ·rintro ⟨k,h1,h2⟩
  rw [has_setOf] at h1
  have hk:k<row.length:=by
   refine Classical.byContradiction fun hn=>?_
   rw [List.getD,List.getElem?_eq_none (by omega)] at h1
   cases h1
  exact ⟨k,List.mem_range.2 hk,by rw [h1,h2];rfl⟩
 ·rintro ⟨k,_,h⟩
  rw [Bool.and_eq_true] at h
  exact ⟨k,by rw [has_setOf];exact h.2,h.1⟩
theorem pow_nat (n:Nat):(2^n:Int)=((2^n:Nat):Int):=by simp
theorem parts_all {n:Nat}:partsV (allV n)=setsTo (2^n):=by
 have h1:(allV n).toNat+1=2^n:=by
  have:=Nat.pow_pos (n:=n) (show 0<2 by decide)
  simp only [allV]
  rw [pow_nat]
  omega
 have h2:(0:Int)<=allV n∧allV n<2^n:=by
  have:=Nat.pow_pos (n:=n) (show 0<2 by decide)
  simp only [allV]
  rw [pow_nat]
  omega
 rw [partsV,h1,List.filter_eq_self]
 intro y hy
 simp only [setsTo,List.mem_map,List.mem_range] at hy
 obtain ⟨m,hm,rfl⟩:=hy
 have hu:under n (m:Int):=⟨by omega,by rw [pow_nat];omega⟩
 rw [sub_iff (by omega) h2.1]
 intro k hk
 have hkn:k<n:=by
  refine Classical.byContradiction fun hn=>?_
  rw [under_bit hu (by omega)] at hk;cases hk
 have e:(allV n).toNat=2^n - 1:=by omega
 simp only [hasB,e,Int.toNat_natCast]
 rw [Nat.testBit_two_pow_sub_one]
 exact decide_eq_true hkn
theorem size_zero:sizeV 0=0:=by decide
theorem size_nn (x:Int):0<=sizeV x:=Int.natCast_nonneg _
structure Most (L:Int->Int) (l:List Int) (b:Int × Int):Prop where
 nn:0<=b.2
 zero:b.2=0->b=(0,0)
 val:b≠(0,0)->b.1∈l∧L b.1=b.2
 max:∀ x∈l,L x<=b.2
 small:∀ x∈l,L x=b.2->0<b.2->sizeV b.1<=sizeV x
theorem most_fold (L:Int->Int):∀ (l p:List Int) (b:Int × Int),Most L p b->Most L (p++l) (l.foldl (fun b x=>cond (worseB (x,L x) b) (x,L x) b) b)
 | [],p,b,h=>by rw [List.append_nil];exact h
 | y::l,p,b,h=>by
  rw [List.foldl_cons]
  have key:Most L (p++[y]) (cond (worseB (y,L y) b) (y,L y) b):=by
   cases hw:worseB (y,L y) b with
   | true =>
    rw [cond_true]
    have hw:cond (!(L y==b.2)) (decide (b.2<L y)) (decide (sizeV y<sizeV b.1))=true:=hw
    have hcase:b.2<L y∨(L y=b.2∧sizeV y<sizeV b.1):=by
     by_cases e:L y=b.2
     ·rw [beq_iff_eq.2 e] at hw
      exact .inr ⟨e,of_decide_eq_true hw⟩
     ·rw [beq_eq_false_iff_ne.2 e] at hw
      exact .inl (of_decide_eq_true hw)
    have hpos:0<L y:=by
     rcases hcase with h1 | ⟨h1,h2⟩
     ·have:=h.nn;omega
     ·have:=h.nn
      rcases Int.lt_or_eq_of_le this with h3 | h3
      ·omega
      ·rw [h.zero h3.symm] at h2
       have:=size_nn y
       rw [size_zero] at h2;omega
    refine ⟨Int.le_of_lt hpos,fun e=>absurd e (by simp only;omega),fun _=>⟨by simp,rfl⟩,fun x hx=>?_,fun x hx he _=>?_⟩
    ·simp only
     rcases List.mem_append.1 hx with hx | hx
     ·have:=h.max x hx;omega
     ·rw [List.mem_singleton.1 hx];exact Int.le_refl _
    ·simp only at he ⊢
     rcases List.mem_append.1 hx with hx | hx
     ·have h1:=h.max x hx
      rcases hcase with h2 | ⟨h2,h3⟩
      ·omega
      ·have:=h.small x hx (by omega) (by omega)
       omega
     ·rw [List.mem_singleton.1 hx];exact Int.le_refl _
   | false =>
    rw [cond_false]
    have hw:cond (!(L y==b.2)) (decide (b.2<L y)) (decide (sizeV y<sizeV b.1))=false:=hw
    have hcase:L y<=b.2∧(L y=b.2->sizeV b.1<=sizeV y):=by
     by_cases e:L y=b.2
     ·rw [beq_iff_eq.2 e] at hw
      have:=of_decide_eq_false hw
      exact ⟨by omega,fun _=>by omega⟩
     ·rw [beq_eq_false_iff_ne.2 e] at hw
      have:=of_decide_eq_false hw
      exact ⟨by omega,fun e'=>absurd e' e⟩
    refine ⟨h.nn,h.zero,fun hb=>⟨List.mem_append.2 (.inl (h.val hb).1),(h.val hb).2⟩,fun x hx=>?_,fun x hx he hp=>?_⟩
    ·rcases List.mem_append.1 hx with hx | hx
     ·exact h.max x hx
     ·rw [List.mem_singleton.1 hx];exact hcase.1
    ·rcases List.mem_append.1 hx with hx | hx
     ·exact h.small x hx he hp
     ·rw [List.mem_singleton.1 hx] at he ⊢;exact hcase.2 he
  have:=most_fold L l (p++[y]) _ key
  rwa [List.append_assoc] at this
theorem most_spec (L:Int->Int) (l:List Int):Most L l (mostV L l):=by
 have:=most_fold L l [] (0,0) ⟨Int.le_refl _,fun _=>rfl,fun h=>absurd rfl h,fun x hx=>(by cases hx),fun x hx=>(by cases hx)⟩
 exact this
theorem lackM_sum (m:Market) (X:Int):lackM m X=(sumN m.1.length fun k=>cond (hasB X (k:Nat)) (m.1.getD k 0) 0) - sumN m.2.1.length fun i=>cond (touchB (m.2.2.getD i 0) X) (m.2.1.getD i 0) 0:=by
 simp only [lackM,selS_sumN,Nat.zero_add]
theorem setsTo_mem {n:Nat} {x:Int}:x∈setsTo n↔0<=x∧x<(n:Int):=by
 simp only [setsTo,List.mem_map,List.mem_range]
 constructor
 ·rintro ⟨m,hm,rfl⟩;omega
 ·rintro ⟨h1,h2⟩;exact ⟨x.toNat,by omega,by omega⟩
theorem lack_empty (m:Market):lackM m 0=0:=by
 rw [lackM_sum]
 have h1:(sumN m.1.length fun k=>cond (hasB 0 (k:Nat)) (m.1.getD k 0) 0)=0:=by
  refine (zcL (g:=fun _=>0) fun k _=>?_).trans (zec _)
  simp [hasB]
 have h2:(sumN m.2.1.length fun i=>cond (touchB (m.2.2.getD i 0) 0) (m.2.1.getD i 0) 0)=0:=by
  refine (zcL (g:=fun _=>0) fun k _=>?_).trans (zec _)
  have:touchB (m.2.2.getD k 0) 0=false:=by simp [touchB]
  rw [this];rfl
 rw [h1,h2];rfl
end Go.Tt
