/-
  Chapter 10: what lacks most.
-/
import Derived.Test.YtdhdklojcppfcaaTtO4
import Derived.Test.YtdhdklojcppfcaaTtOP8
set_option linter.all false
set_option maxRecDepth 100000
set_option maxHeartbeats 4000000
set_option linter.unusedVariables false
open Bool renaming and_eq_true->yac
open Int renaming eq_ofNat_of_zero_le->ydF,le_refl->ydz,toNat_natCast->ydw
open List renaming mem_append->yas,mem_map->ycp,mem_range->ycU,mem_singleton->yat
open Nat renaming eq_of_testBit_eq->ydU,pow_le_pow_right->ydH,pow_pos->ydV,testBit_and->ydS,testBit_xor->ydR,zero_testBit->ydT
namespace Go.Tt
open Go Go.Sx
def under (n:Nat) (X:Int):Prop:=0<=X/\X<2^n
theorem zl {n:Nat} {X:Int} (h:under n X):∃ m:Nat,X=(m:Int)/\m<2^n:=by
 refine ⟨X.toNat,by have:=h.1;omega,?_⟩
 have h1:=h.1
 have h2:=h.2
 have:(2^n:Int)=((2^n:Nat):Int):=by simp
 rw [this] at h2
 omega
theorem zic {n:Nat} {X:Int} (hn:n<=8) (h:under n X):smallSet X:=by
 obtain ⟨m,rfl,hm⟩:=zl h
 have:2^n<=2^8:=ydH (by decide) hn
 simp only [smallSet];omega
theorem zid {n:Nat} {X:Int} (h:under n X) {k:Nat} (hk:n<=k):hasB X (k:Nat)=false:=by
 obtain ⟨m,rfl,hm⟩:=zl h
 simp only [hasB,ydw]
 exact Nat.testBit_lt_two_pow (Nat.lt_of_lt_of_le hm (ydH (by decide) hk))
theorem sub_iff {s t:Int} (hs:0<=s) (ht:0<=t):subB s t=true↔∀ k:Nat,hasB s (k:Nat)=true->hasB t (k:Nat)=true:=by
 obtain ⟨a,rfl⟩:=ydF hs
 obtain ⟨b,rfl⟩:=ydF ht
 simp only [subB,hasB,ydw,beq_iff_eq]
 constructor
 ·intro h k hk
  have h:a ^^^ (a &&& b)=0:=by omega
  have:=congrArg (fun x=>x.testBit k) h
  simp only [ydR,ydS,ydT,hk,Bool.true_and] at this
  cases hb:b.testBit k with
  | true=>rfl
  | false=>rw [hb] at this;cases this
 ·intro h
  have:a ^^^ (a &&& b)=0:=by
   apply ydU
   intro k
   simp only [ydR,ydS,ydT]
   cases ha:a.testBit k with
   | false=>rfl
   | true=>rw [h k ha];rfl
  rw [this];rfl
theorem zie {a t:Int}:touchB a t=true↔∃ k:Nat,hasB a (k:Nat)=true/\hasB t (k:Nat)=true:=by
 simp only [touchB,hasB,ydw,Bool.not_eq_true',beq_eq_false_iff_ne]
 constructor
 ·intro h
  have h:a.toNat &&& t.toNat≠0:=fun e=>h (by rw [e];rfl)
  have:∃ k,(a.toNat &&& t.toNat).testBit k=true:=by
   refine Classical.byContradiction fun hn=>h (ydU fun k=>?_)
   rw [ydT]
   cases hk:(a.toNat &&& t.toNat).testBit k with
   | false=>rfl
   | true=>exact absurd ⟨k,hk⟩ hn
  obtain ⟨k,hk⟩:=this
  rw [ydS,yac] at hk
  exact ⟨k,hk⟩
 ·rintro ⟨k,h1,h2⟩ h
  have h:a.toNat &&& t.toNat=0:=by omega
  have:=congrArg (fun x=>x.testBit k) h
  simp only [ydS,ydT,h1,h2] at this
  cases this
theorem zoA {row:List Bool} {X:Int}:touchB (setOf row) X=(List.range row.length).any fun k=>hasB X (k:Nat)&&row.getD k false:=by
 refine ze ?_
 rw [zie,List.any_eq_true]
 constructor
 ·rintro ⟨k,h1,h2⟩
  rw [ziI] at h1
  have hk:k<row.length:=by
   refine Classical.byContradiction fun hn=>?_
   rw [List.getD,List.getElem?_eq_none (by omega)] at h1
   cases h1
  exact ⟨k,ycU.2 hk,by rw [h1,h2];rfl⟩
 ·rintro ⟨k,_,h⟩
  rw [yac] at h
  exact ⟨k,by rw [ziI];exact h.2,h.1⟩
theorem zig (l:List Int) (i:Int) (h0:0<=i) (h:i<(l.length:Int)):l.take (i+1).toNat=l.take i.toNat++[l.getD i.toNat 0]:=by
 have:=zcF (id:Int->Int) l 0 i h0 h
 simpa using this
theorem zlw (p:Nat->Bool) (l:List Int) (i:Int) (h0:0<=i) (h:i<(l.length:Int)):selS p (l.take (i+1).toNat) 0=selS p (l.take i.toNat) 0+cond (p i.toNat) (l.getD i.toNat 0) 0:=by
 rw [zig l i h0 h,zkp]
 congr 2
 rw [List.length_take]
 congr 1
 omega
theorem pow_nat (n:Nat):(2^n:Int)=((2^n:Nat):Int):=by simp
theorem zix {n:Nat}:partsV (allV n)=setsTo (2^n):=by
 have h1:(allV n).toNat+1=2^n:=by
  have:=ydV (n:=n) (show 0<2 by decide)
  simp only [allV]
  rw [pow_nat]
  omega
 have h2:(0:Int)<=allV n/\allV n<2^n:=by
  have:=ydV (n:=n) (show 0<2 by decide)
  simp only [allV]
  rw [pow_nat]
  omega
 rw [partsV,h1,List.filter_eq_self]
 intro y hy
 simp only [setsTo,ycp,ycU] at hy
 obtain ⟨m,hm,rfl⟩:=hy
 have hu:under n (m:Int):=⟨by omega,by rw [pow_nat];omega⟩
 rw [sub_iff (by omega) h2.1]
 intro k hk
 have hkn:k<n:=by
  refine Classical.byContradiction fun hn=>?_
  rw [zid hu (by omega)] at hk;cases hk
 have e:(allV n).toNat=2^n - 1:=by omega
 simp only [hasB,e,ydw]
 rw [Nat.testBit_two_pow_sub_one]
 exact decide_eq_true hkn
theorem zoE:sizeV 0=0:=by decide
theorem size_nn (x:Int):0<=sizeV x:=Int.natCast_nonneg _
structure Most (L:Int->Int) (l:List Int) (b:Int × Int):Prop where
 nn:0<=b.2
 zero:b.2=0->b=(0,0)
 val:b≠(0,0)->b.1∈l/\L b.1=b.2
 max:∀ x∈l,L x<=b.2
 small:∀ x∈l,L x=b.2->0<b.2->sizeV b.1<=sizeV x
theorem zlM (L:Int->Int):∀ (l p:List Int) (b:Int × Int),Most L p b->Most L (p++l) (l.foldl (fun b x=>cond (worseB (x,L x) b) (x,L x) b) b)
 | [],p,b,h=>by rw [List.append_nil];exact h
 | y::l,p,b,h=>by
  rw [List.foldl_cons]
  have key:Most L (p++[y]) (cond (worseB (y,L y) b) (y,L y) b):=by
   cases hw:worseB (y,L y) b with
   | true =>
    rw [cond_true]
    have hw:cond (!(L y==b.2)) (decide (b.2<L y)) (decide (sizeV y<sizeV b.1))=true:=hw
    have hcase:b.2<L y\/(L y=b.2/\sizeV y<sizeV b.1):=by
     by_cases e:L y=b.2
     ·rw [beq_iff_eq.2 e] at hw
      exact .inr ⟨e,of_decide_eq_true hw⟩
     ·rw [beq_eq_false_iff_ne.2 e] at hw
      exact .inl (of_decide_eq_true hw)
    have hpos:0<L y:=by
     rcases hcase with h1 | ⟨h1,h2⟩
     ·have:=h.nn;omega
     ·have:=h.nn
      rcases Int.lt_or_eq_of_le this with h3 | h3
      ·omega
      ·rw [h.zero h3.symm] at h2
       have:=size_nn y
       rw [zoE] at h2;omega
    refine ⟨Int.le_of_lt hpos,fun e=>absurd e (by simp only;omega),fun _=>⟨by simp,rfl⟩,fun x hx=>?_,fun x hx he _=>?_⟩
    ·simp only
     rcases yas.1 hx with hx | hx
     ·have:=h.max x hx;omega
     ·rw [yat.1 hx];exact ydz _
    ·simp only at he ⊢
     rcases yas.1 hx with hx | hx
     ·have h1:=h.max x hx
      rcases hcase with h2 | ⟨h2,h3⟩
      ·omega
      ·have:=h.small x hx (by omega) (by omega)
       omega
     ·rw [yat.1 hx];exact ydz _
   | false =>
    rw [cond_false]
    have hw:cond (!(L y==b.2)) (decide (b.2<L y)) (decide (sizeV y<sizeV b.1))=false:=hw
    have hcase:L y<=b.2/\(L y=b.2->sizeV b.1<=sizeV y):=by
     by_cases e:L y=b.2
     ·rw [beq_iff_eq.2 e] at hw
      have:=of_decide_eq_false hw
      exact ⟨by omega,fun _=>by omega⟩
     ·rw [beq_eq_false_iff_ne.2 e] at hw
      have:=of_decide_eq_false hw
      exact ⟨by omega,fun e'=>absurd e' e⟩
    refine ⟨h.nn,h.zero,fun hb=>⟨yas.2 (.inl (h.val hb).1),(h.val hb).2⟩,fun x hx=>?_,fun x hx he hp=>?_⟩
    ·rcases yas.1 hx with hx | hx
     ·exact h.max x hx
     ·rw [yat.1 hx];exact hcase.1
    ·rcases yas.1 hx with hx | hx
     ·exact h.small x hx he hp
     ·rw [yat.1 hx] at he ⊢;exact hcase.2 he
  have:=zlM L l (p++[y]) _ key
  rwa [List.append_assoc] at this
theorem ziB (L:Int->Int) (l:List Int):Most L l (mostV L l):=by
 have:=zlM L l [] (0,0) ⟨ydz _,fun _=>rfl,fun h=>absurd rfl h,fun x hx=>(by cases hx),fun x hx=>(by cases hx)⟩
 exact this
theorem ziD (m:Market) (X:Int):lackM m X=(sumN m.1.length fun k=>cond (hasB X (k:Nat)) (m.1.getD k 0) 0) - sumN m.2.1.length fun i=>cond (touchB (m.2.2.getD i 0) X) (m.2.1.getD i 0) 0:=by
 simp only [lackM,zim,Nat.zero_add]
theorem zcQ {n:Nat} {x:Int}:x∈setsTo n↔0<=x/\x<(n:Int):=by
 simp only [setsTo,ycp,ycU]
 constructor
 ·rintro ⟨m,hm,rfl⟩;omega
 ·rintro ⟨h1,h2⟩;exact ⟨x.toNat,by omega,by omega⟩
theorem zft (m:Market):lackM m 0=0:=by
 rw [ziD]
 have h1:(sumN m.1.length fun k=>cond (hasB 0 (k:Nat)) (m.1.getD k 0) 0)=0:=by
  refine (zaA (g:=fun _=>0) fun k _=>?_).trans (zbl _)
  simp [hasB]
 have h2:(sumN m.2.1.length fun i=>cond (touchB (m.2.2.getD i 0) 0) (m.2.1.getD i 0) 0)=0:=by
  refine (zaA (g:=fun _=>0) fun k _=>?_).trans (zbl _)
  have:touchB (m.2.2.getD k 0) 0=false:=by simp [touchB]
  rw [this];rfl
 rw [h1,h2];rfl
end Go.Tt
