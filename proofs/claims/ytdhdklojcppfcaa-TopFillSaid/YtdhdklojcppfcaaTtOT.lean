/-
  Chapter 10: what lacks most.
-/
import Derived.Test.YtdhdklojcppfcaaTtO4
import Derived.Test.YtdhdklojcppfcaaTtOP8
set_option linter.all false
set_option maxRecDepth 100000
set_option maxHeartbeats 4000000
set_option linter.unusedVariables false
namespace Go.Tt
open Go Go.Sx
def under (n:Nat) (X:Int):Prop:=0<=X∧X<2^n
theorem under_nat {n:Nat} {X:Int} (h:under n X):∃ m:Nat,X=(m:Int)∧m<2^n:=by
 refine ⟨X.toNat,by have:=h.1;omega,?_⟩
 have h1:=h.1
 have h2:=h.2
 have:(2^n:Int)=((2^n:Nat):Int):=by simp
 rw [this] at h2
 omega
theorem under_small {n:Nat} {X:Int} (hn:n<=8) (h:under n X):smallSet X:=by
 obtain ⟨m,rfl,hm⟩:=under_nat h
 have:2^n<=2^8:=Nat.pow_le_pow_right (by decide) hn
 simp only [smallSet];omega
theorem touch_iff {a t:Int}:touchB a t=true↔∃ k:Nat,hasB a (k:Nat)=true∧hasB t (k:Nat)=true:=by
 simp only [touchB,hasB,Int.toNat_natCast,Bool.not_eq_true',beq_eq_false_iff_ne]
 constructor
 ·intro h
  have h:a.toNat &&& t.toNat≠0:=fun e=>h (by rw [e];rfl)
  have:∃ k,(a.toNat &&& t.toNat).testBit k=true:=by
   refine Classical.byContradiction fun hn=>h (Nat.eq_of_testBit_eq fun k=>?_)
   rw [Nat.zero_testBit]
   cases hk:(a.toNat &&& t.toNat).testBit k with
   | false=>rfl
   | true=>exact absurd ⟨k,hk⟩ hn
  obtain ⟨k,hk⟩:=this
  rw [Nat.testBit_and,Bool.and_eq_true] at hk
  exact ⟨k,hk⟩
 ·rintro ⟨k,h1,h2⟩ h
  have h:a.toNat &&& t.toNat=0:=by omega
  have:=congrArg (fun x=>x.testBit k) h
  simp only [Nat.testBit_and,Nat.zero_testBit,h1,h2] at this
  cases this
theorem take_getD (l:List Int) (i:Int) (h0:0<=i) (h:i<(l.length:Int)):l.take (i+1).toNat=l.take i.toNat++[l.getD i.toNat 0]:=by
 have:=take_map (id:Int->Int) l 0 i h0 h
 simpa using this
theorem selS_step (p:Nat->Bool) (l:List Int) (i:Int) (h0:0<=i) (h:i<(l.length:Int)):selS p (l.take (i+1).toNat) 0=selS p (l.take i.toNat) 0+cond (p i.toNat) (l.getD i.toNat 0) 0:=by
 rw [take_getD l i h0 h,selS_app]
 congr 2
 rw [List.length_take]
 congr 1
 omega
theorem pow_nat (n:Nat):(2^n:Int)=((2^n:Nat):Int):=by simp
structure Most (L:Int->Int) (l:List Int) (b:Int × Int):Prop where
 nn:0<=b.2
 zero:b.2=0->b=(0,0)
 val:b≠(0,0)->b.1∈l∧L b.1=b.2
 max:∀ x∈l,L x<=b.2
 small:∀ x∈l,L x=b.2->0<b.2->sizeV b.1<=sizeV x
end Go.Tt
