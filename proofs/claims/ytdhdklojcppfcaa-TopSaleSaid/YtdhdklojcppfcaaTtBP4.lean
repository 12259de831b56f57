/-
  Box: Most, Lack, and what Fill asks.
-/
import Derived.Test.YtdhdklojcppfcaaTtBP3
set_option linter.all false
set_option maxRecDepth 100000
set_option maxHeartbeats 4000000
set_option linter.unusedVariables false
open Int renaming mul_le_mul_of_nonneg_left->yaU
open List renaming mem_cons->yaq,mem_cons_of_mem->yal,mem_cons_self->yam
namespace Go.Tt
open Go Go.Sx
theorem v83 (x:(List Int) × (List Pile) × Int) (_:k83.pre x):V83 x:=by
 refine ⟨trivial,fun h=>?_,fun h=>⟨trivial,fun h2=>?_,fun h2=>?_⟩⟩
 ·have h:boxB x.1 x.2.1=false:=not_iff.1.1 h
  show (1:Int)=zam x
  rw [zam,h];rfl
 ·have h:boxB x.1 x.2.1=true:=not_iff.2.1 h
  have h2:inB x.2.2 0 topN=false:=not_iff.1.1 h2
  show (2:Int)=zam x
  rw [zam,h,h2];rfl
 ·have h:boxB x.1 x.2.1=true:=not_iff.2.1 h
  have h2:inB x.2.2 0 topN=true:=not_iff.2.1 h2
  show (0:Int)=zam x
  rw [zam,h,h2];rfl
theorem zmG (x:(List Int) × (List Pile) × Int):(zam x=0/\BoxIs x.1 x.2.1/\0<=x.2.2/\x.2.2<=topN)\/(zam x=1/\boxB x.1 x.2.1=false)\/(zam x=2/\boxB x.1 x.2.1=true/\inB x.2.2 0 topN=false):=by
 cases h:boxB x.1 x.2.1 with
 | false=>right;left;exact ⟨by rw [zam,h];rfl,rfl⟩
 | true =>
  cases h2:inB x.2.2 0 topN with
  | false=>right;right;exact ⟨by rw [zam,h,h2];rfl,rfl,rfl⟩
  | true=>left;exact ⟨by rw [zam,h,h2];rfl,box_iff.1 h,inB_iff.1 h2⟩
theorem zns {x:(List Int) × (List Pile) × Int} (h:zam x=0):BoxIs x.1 x.2.1/\0<=x.2.2/\x.2.2<=topN:=by
 rcases zmG x with ⟨_,h1⟩ | ⟨h1,_⟩ | ⟨h1,_⟩
 ·exact h1
 ·rw [h] at h1;cases h1
 ·rw [h] at h1;cases h1
theorem v30 (x:(List Int) × (List Pile) × Int) (_:k30.pre x):V30 x:=by
 refine ⟨trivial,fun h=>?_,fun h=>?_⟩
 ·have h:(zam x==0)=false:=not_iff.1.1 h
  show (0,0,zam x)=zbp x
  rw [zbp,h];rfl
 ·have h:(zam x==0)=true:=not_iff.2.1 h
  obtain ⟨hb,h0,h1⟩:=zns (eq_of_beq h)
  have h1':x.2.2<=8388609:=by simp only [topN] at h1;omega
  refine ⟨⟨hb.n8,hb.nd,h0,h1'⟩,hb.ok h0 h1',fun h2=>?_,fun h2=>?_⟩
  ·have h2:((lackB (timesV x.1 x.2.2) x.2.1).2==0)=true:=h2
   show (0,0,4)=zbp x
   rw [zbp,h,h2];rfl
  ·have h2:((lackB (timesV x.1 x.2.2) x.2.1).2==0)=false:=h2
   show _=zbp x
   rw [zbp,h,h2];rfl
theorem zjF (d:Int->Int) (b s:Int) (r:List Int):proofV d b (s::r)=cond (decide (0<d s)) (b,s,0) (proofV d b r):=rfl
theorem BoxIs.most_p {need:List Int} {l:List Pile} (h:BoxIs need l):zby (8388608,mostF need l) :=
 ⟨⟨by show (0:Int)<=8388608;decide,by show (8388608:Int)<=most40;decide⟩,fun i h1 h2=>⟨box_iff.2 h,by show (0:Int)<=i;omega,h2⟩⟩
theorem most_bd (x:(List Int) × List Pile):0<=mostB x/\mostB x<=8388608:=(zgU (n:=8388608) (by decide) _).1
theorem v22 (x:(List Int) × List Pile) (_:k22.pre x):V22 x:=by
 refine ⟨trivial,fun h=>?_,fun h=>?_⟩
 ·have h:boxB x.1 x.2=false:=not_iff.1.1 h
  show (0,0,1)=zbC x
  rw [zbC,h];rfl
 ·have hv:boxB x.1 x.2=true:=not_iff.2.1 h
  have hb:=box_iff.1 hv
  have hm:=most_bd x
  have hval:zbC x=proofV (lacksV (timesV x.1 (mostB x+1)) x.2) (mostB x) (setsV x.1.length):=by rw [zbC,hv];rfl
  have hok:=hb.ok (n:=mostB x+1) (by omega) (by omega)
  generalize hB:mostB x=b at hm hval hok
  refine ⟨hb.most_p,⟨hb.l8,hb.small⟩,by simp only [hB,Z.in64];omega,⟨hb.n8,hb.nd,by show 0<=b+1;omega,by show b+1<=8388609;omega⟩,trivial,⟨by show (0:Int)<=(x.1.length:Int);omega,by show (x.1.length:Int)<=8;have:=hb.n8;omega⟩,?_⟩
  simp only [hB]
  refine ⟨fun r s=>s=(b,0,0)/\(∀ e∈r,smallSet e)/\zbC x=proofV (lacksV (timesV x.1 (b+1)) x.2) b r,⟨rfl,fun e he=>zjx hb.n8 he,hval⟩,?_,?_⟩
  ·rintro e r s ⟨rfl,hs,he⟩
   have hse:=hs e yam
   have hst:zbj (zaQ x.2,e)=haveV x.2 e:=zjp (fun p hp=>(hb.small p hp).1) e
   have hsm:zbB (e,zaN (x.1,b+1))=sumV e (timesV x.1 (b+1)):=rfl
   rw [zjF] at he
   refine ⟨⟨new_ok hb.l8 hb.small,hse⟩,⟨hse.1,hok.n8,hok.need⟩,fun h1=>⟨by first | rfl | trivial,by first | rfl | trivial,trivial,rfl,fun e' h'=>hs e' (yal _ h'),?_⟩,fun h1=>⟨by first | rfl | trivial,by first | rfl | trivial,trivial,?_⟩⟩
   ·have h1:=of_decide_eq_true h1
    rw [hst,hsm] at h1
    rw [he,show decide (0<lacksV (timesV x.1 (b+1)) x.2 e)=false from decide_eq_false (by rw [lacksV];omega)];rfl
   ·have h1:=of_decide_eq_false h1
    rw [hst,hsm] at h1
    show (b,e,0)=zbC x
    rw [he,show decide (0<lacksV (timesV x.1 (b+1)) x.2 e)=true from decide_eq_true (by rw [lacksV];omega)];rfl
  ·rintro s ⟨rfl,_,he⟩
   exact he.symm
theorem zjE (d:Int->Int) (b:Int):∀ l:List Int,(∃ s∈l,0<d s)->∃ s∈l,0<d s/\proofV d b l=(b,s,0)
 | [],h=>by obtain ⟨s,hs,_⟩:=h;cases hs
 | a::l,h=>by
  rw [zjF]
  cases hd:decide (0<d a) with
  | true=>exact ⟨a,yam,of_decide_eq_true hd,rfl⟩
  | false =>
   have hd:=of_decide_eq_false hd
   obtain ⟨s,hs,h1⟩:=h
   rcases yaq.1 hs with rfl | hs
   ·exact absurd h1 hd
   ·obtain ⟨s',h2,h3,h4⟩:=zjE d b l ⟨s,hs,h1⟩
    exact ⟨s',yal _ h2,h3,h4⟩
theorem zfZ (s n:Int) (need:List Int):sumV s (timesV need n)=sumV s need*n:=by
 have key:∀ (l:List Int) (k:Nat),selS (fun k=>hasB s (k:Nat)) (l.map fun x=>x*n) k=selS (fun k=>hasB s (k:Nat)) l k*n:=by
  intro l
  induction l with
  | nil=>intro k;simp [selS]
  | cons a l ih =>
   intro k
   simp only [List.map_cons,selS,ih,Int.add_mul]
   cases hasB s (k:Nat)<;>simp
 exact key need 0
theorem have_bd {l:List Pile} (hp:∀ p∈l,amount p.2) (s:Int):0<=haveV l s/\haveV l s<=topN*(l.length:Int):=by
 induction l with
 | nil=>simp [haveV]
 | cons p l ih =>
  have:=ih fun q hq=>hp q (yal _ hq)
  have h:=hp p yam
  simp only [amount,topN] at h this ⊢
  simp only [haveV,List.length_cons]
  cases touchB s p.1<;>simp only [cond_true,cond_false]<;>omega
theorem has_all {n k:Nat} (h:k<n):hasB (allV n) (k:Nat)=true:=by
 have e:allV n=((2^n - 1:Nat):Int):=by
  have:=Nat.two_pow_pos n
  simp only [allV]
  rw [pow_nat];omega
 rw [e]
 simp only [hasB,Int.toNat_natCast,Nat.testBit_two_pow_sub_one]
 exact decide_eq_true h
theorem zpF {p:Nat->Bool} {l:List Int} {k:Nat} (h0:∀ a∈l,0<=a) (hp:∀ i,i<l.length->p (k+i)=true) {a:Int} (ha:a∈l):a<=selS p l k:=by
 have key:∀ (l:List Int) (k:Nat),(∀ a∈l,0<=a)->(∀ i,i<l.length->p (k+i)=true)->0<=selS p l k/\∀ a∈l,a<=selS p l k:=by
  intro l
  induction l with
  | nil=>intro k _ _;exact ⟨by simp [selS],(fun _ h=>by cases h)⟩
  | cons b l ih =>
   intro k h0 hp
   have hb:=h0 b yam
   obtain ⟨h1,h2⟩:=ih (k+1) (fun a ha=>h0 a (yal _ ha)) fun i hi=>by
    have:=hp (i+1) (by simp;omega)
    rwa [show k+(i+1)=k+1+i from by omega] at this
   have hk:=hp 0 (by simp)
   rw [Nat.add_zero] at hk
   simp only [selS,hk,cond_true]
   refine ⟨by omega,fun a ha=>?_⟩
   rcases yaq.1 ha with rfl | ha
   ·omega
   ·have:=h2 a ha;omega
 exact (key l k h0 hp).2 a ha
theorem all_pos {need:List Int} {l:List Pile} (h:BoxIs need l):0<sumV (allV need.length) need:=by
 obtain ⟨n,hn,h0⟩:=h.some
 have:=zpF (p:=fun k=>hasB (allV need.length) (k:Nat)) (l:=need) (k:=0) (fun a ha=>(h.nd a ha).1) (fun i hi=>has_all (by rw [Nat.zero_add];exact hi)) hn
 rw [sumV];omega
theorem all_in {n:Nat} (h:1<=n):allV n∈setsV n:=by
 refine zgb.2 ⟨?_,by simp only [allV];omega⟩
 have:(2:Nat)^1<=2^n:=Nat.pow_le_pow_right (by decide) h
 simp only [allV]
 rw [pow_nat];omega
theorem most_is {need:List Int} {l:List Pile} (h:BoxIs need l):∃ s,zbC (need,l)=(mostB (need,l),s,0)/\s∈setsV need.length/\haveV l s<sumV s need*(mostB (need,l)+1)/\∀ n,0<=n->(canF (timesV need n) l=true↔n<=mostB (need,l)):=by
 obtain ⟨g1,g2,g3⟩:=zgU (n:=8388608) (by decide) (mostF need l).val
 have hB:mostB (need,l)=greatV 8388608 (mostF need l).val:=rfl
 rw [<-hB] at g1 g2 g3
 generalize hb:mostB (need,l)=b at g1 g2 g3
 have hcan:∀ n,canF (timesV need n) l=true↔∀ s∈setsV need.length,sumV s need*n<=haveV l s:=by
  intro n
  rw [can_iff,zej]
  exact ⟨fun h s hs=>by rw [<-zfZ];exact h s hs,fun h s hs=>by rw [zfZ];exact h s hs⟩
 have hsum:∀ s,0<=sumV s need:=fun s=>(sum_b40 h.n8 (fun a ha=>by have:=h.nd a ha;simp only [most40];omega) s).1
 have hle:canF (timesV need b) l=true:=by
  rcases g2 with e | e
  ·rw [hcan,e]
   intro s _
   have:=(have_bd (fun p hp=>(h.pile p hp).2) s).1
   omega
  ·exact e
 have hmore:∃ s∈setsV need.length,haveV l s<sumV s need*(b+1):=by
  rcases g3 with e | e
  ·refine ⟨_,all_in h.n1,?_⟩
   have h1:=(have_bd (fun p hp=>(h.pile p hp).2) (allV need.length)).2
   have h2:=all_pos h
   have h3:1*(b+1)<=sumV (allV need.length) need*(b+1):=Int.mul_le_mul_of_nonneg_right (by omega) (by omega)
   have h8:=h.l8
   simp only [topN] at h1
   omega
  ·have e:canF (timesV need (b+1)) l=false:=e
   have hn:¬ ∀ s∈setsV need.length,sumV s need*(b+1)<=haveV l s:=fun hall=>by
    rw [(hcan (b+1)).2 hall] at e;cases e
   refine Classical.byContradiction fun hno=>hn fun s hs=>?_
   refine Classical.byContradiction fun hlt=>hno ⟨s,hs,by omega⟩
 obtain ⟨s₁,m1,m2⟩:=hmore
 obtain ⟨s,hs,h1,h2⟩:=zjE (lacksV (timesV need (b+1)) l) b (setsV need.length) ⟨s₁,m1,by rw [lacksV,zfZ];omega⟩
 rw [lacksV,zfZ] at h1
 refine ⟨s,?_,hs,by omega,fun n hn=>?_⟩
 ·rw [zbC,show boxB need l=true from box_iff.2 h,cond_true]
  simp only [hb]
  exact h2
 ·constructor
  ·intro hc
   have h3:=(hcan n).1 hc s hs
   refine Classical.byContradiction fun hgt=>?_
   have h4:sumV s need*(b+1)<=sumV s need*n:=yaU (by omega) (hsum s)
   omega
  ·intro hn'
   rw [hcan]
   intro s' hs'
   have h3:=(hcan b).1 hle s' hs'
   have h4:sumV s' need*n<=sumV s' need*b:=yaU hn' (hsum s')
   omega
end Go.Tt
