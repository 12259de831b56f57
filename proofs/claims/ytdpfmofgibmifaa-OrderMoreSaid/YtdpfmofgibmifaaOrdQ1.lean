/-
  Chapter 10: OrderTrue and OrderCases: what is so in the worst case is so in each truth.
-/
import Derived.Test.YtdpfmofgibmifaaOrdP11
set_option linter.all false
set_option maxRecDepth 100000
set_option maxHeartbeats 4000000
set_option linter.unusedVariables false
namespace Go.Ord
open Go Go.Sx
theorem lackM_sum (m:Market) (X:Int):lackM m X=(sumN m.1.length fun k=>cond (hasB X (k:Nat)) (m.1.getD k 0) 0) - sumN m.2.1.length fun i=>cond (touchB (m.2.2.getD i 0) X) (m.2.1.getD i 0) 0:=by
 simp only [lackM,selS_sumN,Nat.zero_add]
theorem meets_mono {m m':Market} (h:∀ X,lackM m' X≤lackM m X) {X:Int} (hm:meetsM m X=true):meetsM m' X=true:=by
 simp only [meetsM,List.all_eq_true,Bool.not_eq_true',decide_eq_false_iff_not] at hm ⊢
 intro y hy
 have:=hm y hy
 have:=h y
 omega
theorem meets_iff {m:Market} {X:Int}:meetsM m X=true↔∀ y∈partsV X,lackM m y≤0:=by
 simp only [meetsM,List.all_eq_true,Bool.not_eq_true',decide_eq_false_iff_not]
 exact ⟨fun h y hy=>by have:=h y hy;omega,fun h y hy=>by have:=h y hy;omega⟩
theorem touch_mono {ord:List Order} {sh rd rd':Int} (h:rd'≤rd) {X:Int} (ht:touchB (setOf (ord.map (canB sh rd))) X=true):touchB (setOf (ord.map (canB sh rd'))) X=true:=by
 obtain ⟨k,h1,h2⟩:=touch_iff.1 ht
 refine touch_iff.2 ⟨k,?_,h2⟩
 rw [has_setOf] at h1 ⊢
 simp only [List.getD,List.getElem?_map] at h1 ⊢
 cases hk:ord[k]? with
 | none=>rw [hk] at h1;cases h1
 | some o =>
  rw [hk] at h1
  have h1:canB sh rd o=true:=h1
  show canB sh rd' o=true
  simp only [canB,Bool.and_eq_true,decide_eq_true_eq] at h1 ⊢
  exact ⟨h1.1,by omega⟩
structure Acc (P:Int→Int) (M:Int→Bool) (l:List Int) (b:Int × Int):Prop where
 met:M b.1=true
 val:P b.1=b.2
 mem:b.1=0∨b.1∈l
 nn:0≤b.2
 max:∀ x∈l,M x=true→P x≤b.2
 first:∀ x∈l,M x=true→P x=b.2→b.1≤x
theorem acc_fold {P:Int→Int} {M:Int→Bool}:∀ (l p:List Int) (b:Int × Int),(p++l).Pairwise (·≤·)→(∀ x∈p++l,0≤x)→Acc P M p b →
  Acc P M (p++l) (l.foldl (fun b x=>cond (decide (b.2<P x)&&M x) (x,P x) b) b)
 | [],p,b,_,_,h=>by rw [List.append_nil];exact h
 | y::l,p,b,hs,h0,h=>by
  rw [List.foldl_cons]
  have key:Acc P M (p++[y]) (cond (decide (b.2<P y)&&M y) (y,P y) b):=by
   cases hw:(decide (b.2<P y)&&M y) with
   | true =>
    rw [Bool.and_eq_true,decide_eq_true_eq] at hw
    rw [cond_true]
    refine ⟨hw.2,rfl,.inr (by simp),by have:=h.nn;simp only;omega,fun x hx hM=>?_,fun x hx hM he=>?_⟩
    ·simp only
     rcases List.mem_append.1 hx with hx | hx
     ·have:=h.max x hx hM;omega
     ·rw [List.mem_singleton.1 hx];exact Int.le_refl _
    ·simp only at he ⊢
     rcases List.mem_append.1 hx with hx | hx
     ·have:=h.max x hx hM;omega
     ·rw [List.mem_singleton.1 hx];exact Int.le_refl _
   | false =>
    rw [cond_false]
    refine ⟨h.met,h.val,h.mem.imp id fun hb=>List.mem_append.2 (.inl hb),h.nn,fun x hx hM=>?_,fun x hx hM he=>?_⟩
    ·rcases List.mem_append.1 hx with hx | hx
     ·exact h.max x hx hM
     ·rw [List.mem_singleton.1 hx] at hM ⊢
      rw [hM,Bool.and_true] at hw
      have:=of_decide_eq_false hw
      omega
    ·rcases List.mem_append.1 hx with hx | hx
     ·exact h.first x hx hM he
     ·rw [List.mem_singleton.1 hx]
      rcases h.mem with hb | hb
      ·rw [hb];exact h0 y (by simp)
      ·have:=(List.pairwise_append.1 hs).2.2 b.1 hb y List.mem_cons_self
       exact this
  have:=acc_fold l (p++[y]) _ (by rwa [List.append_assoc]) (by rw [List.append_assoc];exact h0) key
  rwa [List.append_assoc] at this
theorem setsTo_sorted (n:Nat):(setsTo n).Pairwise (·≤·):=by
 rw [setsTo,List.pairwise_map]
 refine List.Pairwise.imp ?_ List.pairwise_lt_range
 intro a b h
 omega
theorem setsTo_mem {n:Nat} {x:Int}:x∈setsTo n↔0≤x∧x<(n:Int):=by
 simp only [setsTo,List.mem_map,List.mem_range]
 constructor
 ·rintro ⟨m,hm,rfl⟩;omega
 ·rintro ⟨h1,h2⟩;exact ⟨x.toNat,by omega,by omega⟩
theorem lack_empty (m:Market):lackM m 0=0:=by
 rw [lackM_sum]
 have h1:(sumN m.1.length fun k=>cond (hasB 0 (k:Nat)) (m.1.getD k 0) 0)=0:=by
  refine (sumN_congr (g:=fun _=>0) fun k _=>?_).trans (sumN_const _)
  simp [hasB]
 have h2:(sumN m.2.1.length fun i=>cond (touchB (m.2.2.getD i 0) 0) (m.2.1.getD i 0) 0)=0:=by
  refine (sumN_congr (g:=fun _=>0) fun k _=>?_).trans (sumN_const _)
  have:touchB (m.2.2.getD k 0) 0=false:=by simp [touchB]
  rw [this];rfl
 rw [h1,h2];rfl
theorem meets_empty (m:Market):meetsM m 0=true:=by
 rw [meets_iff]
 intro y hy
 simp only [partsV,List.mem_filter,setsTo_mem] at hy
 have:y=0:=by have h1:=hy.1.1;have h2:=hy.1.2;simp at h2;omega
 rw [this,lack_empty];exact Int.le_refl _
theorem price_empty (l:List Order):priceV l 0=0:=by
 rw [priceV,selS_sumN]
 refine (sumN_congr (g:=fun _=>0) fun k _=>?_).trans (sumN_const _)
 simp [hasB]
theorem accept_spec {x:Sale} (h:saleB x=true):(order_Accept x).2.2=0∧under x.2.length (order_Accept x).1∧Acc (priceV x.2) (meetsM (worstM x)) (setsTo (2^x.2.length)) ((order_Accept x).1,(order_Accept x).2.1):=by
 have eA:order_Accept x=((acceptV (priceV x.2) (meetsM (worstM x)) (partsV (allV x.2.length))).1,(acceptV (priceV x.2) (meetsM (worstM x)) (partsV (allV x.2.length))).2,0):=by rw [order_Accept,h];rfl
 rw [parts_all] at eA
 have hA:=acc_fold (P:=priceV x.2) (M:=meetsM (worstM x)) (setsTo (2^x.2.length)) [] (0,0) (setsTo_sorted _) (fun x hx=>(setsTo_mem.1 hx).1) ⟨meets_empty _,price_empty _,.inl rfl,Int.le_refl _,fun x hx=>(by cases hx),fun x hx=>(by cases hx)⟩
 have hA:Acc (priceV x.2) (meetsM (worstM x)) (setsTo (2^x.2.length)) (acceptV (priceV x.2) (meetsM (worstM x)) (setsTo (2^x.2.length))):=hA
 rw [eA]
 refine ⟨rfl,?_,hA⟩
 have hp:=Nat.pow_pos (n:=x.2.length) (show 0<2 by decide)
 rcases hA.mem with h0 | h0
 ·show under x.2.length (acceptV _ _ _).1
  rw [h0]
  exact ⟨Int.le_refl _,by rw [pow_nat];omega⟩
 ·have:=setsTo_mem.1 h0
  exact ⟨this.1,by rw [pow_nat];exact this.2⟩
theorem meets_ok {x:Sale} (h:saleB x=true):(order_Meets x).2=0∧((order_Meets x).1=2∧meetsM (worstM x) (allV x.2.length)=true∨(order_Meets x).1=1∧meetsM (worstM x) (allV x.2.length)=false∧meetsM (bestM x) (allV x.2.length)=true∨(order_Meets x).1=0∧meetsM (worstM x) (allV x.2.length)=false∧meetsM (bestM x) (allV x.2.length)=false):=by
 have eM:order_Meets x=cond (meetsM (worstM x) (allV x.2.length)) (2,0) (cond (meetsM (bestM x) (allV x.2.length)) (1,0) (0,0)):=by rw [order_Meets,h];rfl
 rw [eM]
 cases meetsM (worstM x) (allV x.2.length)<;>cases meetsM (bestM x) (allV x.2.length)<;>simp
theorem meets_bad {x:Sale} (h:saleB x=false):order_Meets x=(0,1):=by rw [order_Meets,h];rfl
theorem range_app {α:Type} (f:Nat→α) (i:Int) (h:0≤i):(List.range (i+1).toNat).map f=(List.range i.toNat).map f++[f i.toNat]:=by
 have e:(i+1).toNat=i.toNat+1:=by omega
 rw [e,List.range_succ,List.map_append];rfl
end Go.Ord
