/-
  Chapter 6: how many are bad at most; whether a plan can be good enough.
-/
import Derived.Test.YtkeeaadooechgaaXrP6
set_option linter.all false
set_option maxRecDepth 100000
set_option maxHeartbeats 4000000
set_option linter.unusedVariables false
namespace Go.Xr
open Go Go.Sx
theorem left_app {rows a:Int}:∀ (l:List Int) (k:Nat),leftR rows (l++[a]) k=leftR rows l k++cond (hasB rows ((k+l.length:Nat):Int)) [] [a]
 | [],k=>by simp only [List.nil_append,leftR,List.length_nil,Nat.add_zero]
 | b::l,k=>by
  simp only [List.cons_append,leftR,left_app l (k+1),List.length_cons]
  rw [show k+1+l.length=k+(l.length+1) by omega]
  cases hasB rows (k:Nat)<;>rfl
theorem left_sub {rows:Int}:∀ (l:List Int) (k:Nat),List.Sublist (leftR rows l k) l
 | [],_=>.slnil
 | b::l,k=>by
  rw [leftR]
  cases hasB rows (k:Nat)
  ·exact (left_sub l (k+1)).cons₂ b
  ·exact (left_sub l (k+1)).cons b
theorem sum_bd:∀ {l:List Int},(∀ n∈l,1≤n∧n≤1000)→0≤l.sum∧l.sum≤1000*(l.length:Int)
 | [],_=>by simp
 | a::l,h=>by
  have ih:=sum_bd (l:=l) fun n hn=>h n (List.mem_cons_of_mem _ hn)
  have:=h a List.mem_cons_self
  simp only [List.sum_cons,List.length_cons]
  omega
theorem sum_take {l:List Int} {k:Int} (h0:0≤k) (h:k<(l.length:Int)):(l.take (k+1).toNat).sum=(l.take k.toNat).sum+l.getD k.toNat 0:=by
 rw [take_one l 0 k h0 h,List.sum_append]
 simp
theorem take_min (l:List Int) (n:Int):l.take (min (l.length:Int) n).toNat=l.take n.toNat:=by
 by_cases h:n≤(l.length:Int)
 ·rw [Int.min_eq_right h]
 ·rw [Int.min_eq_left (by omega),List.take_of_length_le (by omega),List.take_of_length_le (by omega)]
theorem mul_ss {a b A B:Int} (ha:-A≤a∧a≤A) (hb:-B≤b∧b≤B):-(A*B)≤a*b∧a*b≤A*B:=by
 by_cases h:0≤a
 ·exact mul_sb ⟨h,ha.2⟩ hb
 ·have:=mul_sb (a:=-a) (b:=b) (A:=A) (B:=B) ⟨by omega,by omega⟩ hb
  rw [Int.neg_mul] at this
  omega
theorem add_up (l:List Int) (hl:l.length≤8) (hb:∀ n∈l,1≤n∧n≤1000) (Q:Prop) (hQ:Q) (E:(Prod Int Int)→Prop) (hE:∀ k,E (l.sum,k)) :
  Z.LoopP (X:=(Prod Int Int)) ((0,0)) (fun s4 K4=>(((decide ((s4.2:Int)<(l.length:Int))=true)→(((0:Int)≤s4.2∧(s4.2:Int)<(l.length:Int))∧(Z.in64 (s4.1+(l.getD (Int.toNat s4.2) 0))∧(Z.in64 (s4.2+1)∧(Q∧(K4 ((s4.1+(l.getD (Int.toNat s4.2) 0)),(s4.2+1))))))))∧((decide ((s4.2:Int)<(l.length:Int))=false)→E s4))):=by
 refine ⟨fun s=>(0≤s.2∧s.2≤(l.length:Int))∧s.1=(l.take s.2.toNat).sum,fun s=>((l.length:Int) - s.2).toNat,⟨⟨by simp,by simp⟩,rfl⟩,?_⟩
 rintro ⟨n,k⟩ ⟨⟨h1,h2⟩,h3⟩
 simp only at h1 h2 h3
 subst h3
 refine ⟨fun hk=>?_,fun hk=>?_⟩
 ·have hk:k<(l.length:Int):=of_decide_eq_true hk
  have hm:=hb _ (getD_mem' l 0 k h1 hk)
  have hs:=sum_bd (l:=l.take k.toNat) fun n hn=>hb n (List.mem_of_mem_take hn)
  rw [List.length_take] at hs
  refine ⟨⟨h1,hk⟩,by simp only [Z.in64];omega,by simp only [Z.in64];omega,hQ,⟨⟨by show 0≤k+1;omega,by show k+1≤_;omega⟩,?_⟩,by show ((l.length:Int) - (k+1)).toNat<((l.length:Int) - k).toNat;omega⟩
  show _=(l.take (k+1).toNat).sum
  rw [sum_take h1 hk]
 ·have hk:¬ k<(l.length:Int):=of_decide_eq_false hk
  rw [List.take_of_length_le (by omega)]
  exact hE k
theorem heavy_mem {c:Crate} {rows n:Int} (h:n∈heavyV c rows):n∈c.1:=(left_sub c.1 0).subset (sort_mem.1 (List.mem_of_mem_take h))
theorem left_len (rows:Int) (l:List Int):(leftR rows l 0).length≤l.length:=(left_sub l 0).length_le
theorem v63 (x:Crate × Int × Int) (h:k63.pre x):V63 x:=by
 obtain ⟨hc,hrows,hg0,hg⟩:=h
 have hc:=crate_iff.1 hc
 have hr8:=hc.r8
 have hc1:=hc.c1
 have hc8:=hc.c8
 have hcl:=hc.clamps
 have hdi:=hc.dies
 refine ⟨fun s=>(0≤s.2∧s.2≤(x.1.1.length:Int))∧s.1=leftR x.2.1 (x.1.1.take s.2.toNat) 0,fun s=>((x.1.1.length:Int) - s.2).toNat,⟨⟨by simp,by simp⟩,rfl⟩,?_⟩
 rintro ⟨l,k⟩ ⟨⟨k1,k2⟩,hl⟩
 simp only at k1 k2 hl
 subst hl
 refine ⟨fun hk=>?_,fun hk=>?_⟩
 ·have hk:k<(x.1.1.length:Int):=of_decide_eq_true hk
  have e:=left_app (rows:=x.2.1) (a:=x.1.1.getD k.toNat 0) (x.1.1.take k.toNat) 0
  rw [←take_one x.1.1 0 k k1 hk,Nat.zero_add,show (((x.1.1.take k.toNat).length:Nat):Int)=k by rw [List.length_take];omega] at e
  have hlen:=left_len x.2.1 (x.1.1.take k.toNat)
  rw [List.length_take] at hlen
  refine ⟨⟨k1,hk⟩,⟨hrows.1,k1,by show k<64;omega⟩,fun hb=>⟨roomy_of (by decide) (by decide) ?_,by simp only [Z.in64];omega,⟨⟨by show 0≤k+1;omega,by show k+1≤_;omega⟩,?_⟩,by show ((x.1.1.length:Int) - (k+1)).toNat<((x.1.1.length:Int) - k).toNat;omega⟩,fun hb=>⟨by simp only [Z.in64];omega,⟨⟨by show 0≤k+1;omega,by show k+1≤_;omega⟩,?_⟩,by show ((x.1.1.length:Int) - (k+1)).toNat<((x.1.1.length:Int) - k).toNat;omega⟩⟩
  ·simp only [List.length_append,List.length_set,List.length_replicate]
   omega
  ·show _=leftR x.2.1 (x.1.1.take (k+1).toNat) 0
   have hb:hasB x.2.1 k=false:=by simpa using (show (!hasB x.2.1 k)=true from hb)
   rw [e,hb];rfl
  ·show _=leftR x.2.1 (x.1.1.take (k+1).toNat) 0
   have hb:hasB x.2.1 k=true:=by simpa using (show (!hasB x.2.1 k)=false from hb)
   rw [e,hb,cond_true,List.append_nil]
 ·have hk:¬ k<(x.1.1.length:Int):=of_decide_eq_false hk
  rw [List.take_of_length_le (by omega)]
  have hlen:=left_len x.2.1 x.1.1
  have hsub:=left_sub (rows:=x.2.1) x.1.1 0
  have hHE:heavyV x.1 x.2.1=(sortV moreB (leftR x.2.1 x.1.1 0)).take x.1.2.2.1.toNat:=rfl
  have hHm:∀ n∈heavyV x.1 x.2.1,1≤n∧n≤1000:=fun n hn=>hc.lie n (heavy_mem hn)
  have hslen:=sort_len (lt:=moreB) (l:=leftR x.2.1 x.1.1 0)
  generalize hL:leftR x.2.1 x.1.1 0=L at hlen hsub hHE hslen
  have hn0:(L.length:Int)≤8:=by omega
  refine ⟨trivial,trivial,trivial,trivial,trivial,?_,trivial,fun s=>s=(0,(L.length:Int),(math_bits_Len (Go.IntKind.wrap .u64 (L.length:Int))),true,true,L),fun _=>0,rfl,?_⟩
  ·show 0≤Go.IntKind.wrap .u64 (L.length:Int)∧_
   rw [wrap_u ⟨by omega,by omega⟩]
   exact ⟨by omega,hn0⟩
  rintro s rfl
  refine ⟨by simp only [Z.in64];omega,fun _=>⟨trivial,trivial,trivial,trivial,by simp only [Z.in64];omega,?_⟩,fun hd=>?_⟩
  ·dsimp only
   refine sort_loop moreB (fun a b=>xray_worst_1 (a,b)) (fun a b=>xray_worst_1u_p (a,b)) (fun a b=>cmp_lt b a) L (by omega) (fun _ _ _ _=>trivial) _ ?_
   intro i
   refine ⟨⟨by dsimp only;omega,by dsimp only;omega⟩,?_⟩
   dsimp only
   refine add_up x.1.1 hr8 hc.lie _ (by first | rfl | trivial) _ ?_
   intro i
   dsimp only
   rw [take_min,←hHE]
   have hHl:(heavyV x.1 x.2.1).length≤8:=by rw [hHE,List.length_take,hslen];omega
   refine add_up (heavyV x.1 x.2.1) hHl hHm _ (by first | rfl | trivial) _ ?_
   intro i
   dsimp only
   have b1:=sum_bd hc.lie
   have b2:=sum_bd hHm
   have hm:-16≤min x.1.2.2.2 (x.1.2.1 - x.2.2)∧min x.1.2.2.2 (x.1.2.1 - x.2.2)≤16:=by omega
   have m1:=mul_bd (a:=(heavyV x.1 x.2.1).sum) (b:=x.1.2.1) (A:=8000) (B:=8) (by omega) (by omega)
   have m2:=mul_ss (a:=min x.1.2.2.2 (x.1.2.1 - x.2.2)) (b:=x.1.1.sum - (heavyV x.1 x.2.1).sum) (A:=16) (B:=8000) hm (by omega)
   rw [Int.mul_comm (min x.1.2.2.2 (x.1.2.1 - x.2.2))] at m2
   refine ⟨by simp only [Z.in64];omega,by simp only [Z.in64];omega,by simp only [Z.in64];omega,by simp only [Z.in64];omega,by simp only [Z.in64];omega,rfl⟩
  ·have hd:¬ (L.length:Int) - 0≤12:=of_decide_eq_false hd
   omega
end Go.Xr
