/-
  Chapter 10: OrderTrue and OrderCases: what is so in the worst case is so in each truth.
-/
import Derived.Test.YtdpfmofgibmifaaOrdP11
set_option linter.all false
set_option maxRecDepth 100000
set_option maxHeartbeats 4000000
set_option linter.unusedVariables false
namespace Go.Ord
open Go Go.Sx
theorem lackM_sum (m:Market) (X:Int):lackM m X=(sumN m.1.length fun k=>cond (hasB X (k:Nat)) (m.1.getD k 0) 0) - sumN m.2.1.length fun i=>cond (touchB (m.2.2.getD i 0) X) (m.2.1.getD i 0) 0:=by
 simp only [lackM,selS_sumN,Nat.zero_add]
theorem lack_mono {m m':Market} (ha:m'.1=m.1) (hl:m'.2.1.length=m.2.1.length) (hm:∀ i,i<m.2.1.length→m.2.1.getD i 0≤m'.2.1.getD i 0) (h0:∀ i,i<m.2.1.length→0≤m.2.1.getD i 0) {X:Int}
  (hs:∀ i,i<m.2.1.length→touchB (m.2.2.getD i 0) X=true→touchB (m'.2.2.getD i 0) X=true):lackM m' X≤lackM m X:=by
 rw [lackM_sum,lackM_sum,ha,hl]
 have:(sumN m.2.1.length fun i=>cond (touchB (m.2.2.getD i 0) X) (m.2.1.getD i 0) 0)≤sumN m.2.1.length fun i=>cond (touchB (m'.2.2.getD i 0) X) (m'.2.1.getD i 0) 0:=by
  refine sumN_le fun i hi=>?_
  have h1:=hm i hi
  have h2:=h0 i hi
  cases h:touchB (m.2.2.getD i 0) X with
  | true=>rw [hs i hi h];exact h1
  | false =>
   rw [cond_false]
   cases touchB (m'.2.2.getD i 0) X
   ·exact Int.le_refl _
   ·rw [cond_true];omega
 omega
theorem meets_mono {m m':Market} (h:∀ X,lackM m' X≤lackM m X) {X:Int} (hm:meetsM m X=true):meetsM m' X=true:=by
 simp only [meetsM,List.all_eq_true,Bool.not_eq_true',decide_eq_false_iff_not] at hm ⊢
 intro y hy
 have:=hm y hy
 have:=h y
 omega
theorem meets_iff {m:Market} {X:Int}:meetsM m X=true↔∀ y∈partsV X,lackM m y≤0:=by
 simp only [meetsM,List.all_eq_true,Bool.not_eq_true',decide_eq_false_iff_not]
 exact ⟨fun h y hy=>by have:=h y hy;omega,fun h y hy=>by have:=h y hy;omega⟩
theorem touch_mono {ord:List Order} {sh rd rd':Int} (h:rd'≤rd) {X:Int} (ht:touchB (setOf (ord.map (canB sh rd))) X=true):touchB (setOf (ord.map (canB sh rd'))) X=true:=by
 obtain ⟨k,h1,h2⟩:=touch_iff.1 ht
 refine touch_iff.2 ⟨k,?_,h2⟩
 rw [has_setOf] at h1 ⊢
 simp only [List.getD,List.getElem?_map] at h1 ⊢
 cases hk:ord[k]? with
 | none=>rw [hk] at h1;cases h1
 | some o =>
  rw [hk] at h1
  have h1:canB sh rd o=true:=h1
  show canB sh rd' o=true
  simp only [canB,Bool.and_eq_true,decide_eq_true_eq] at h1 ⊢
  exact ⟨h1.1,by omega⟩
abbrev truthM (s:Sale) (many ready:List Int):Market:=caseM (caseOf s many ready) (askedV s)
theorem truth_mono {s:Sale} {many many' ready ready':List Int} (h1:many.length=s.1.length) (h2:many'.length=s.1.length) (hm:∀ i,i<s.1.length→0≤many.getD i 0∧many.getD i 0≤many'.getD i 0) (hr:∀ i,i<s.1.length→ready'.getD i 0≤ready.getD i 0) (X:Int):lackM (truthM s many' ready') X≤lackM (truthM s many ready) X:=by
 have e1:(truthM s many ready).2.1.length=s.1.length:=h1
 refine lack_mono (m:=truthM s many ready) (m':=truthM s many' ready') rfl (h2.trans h1.symm) (fun i hi=>(hm i (by rwa [e1] at hi)).2) (fun i hi=>(hm i (by rwa [e1] at hi)).1) (fun i hi ht=>?_)
 have hi:i<s.1.length:=by rwa [e1] at hi
 have eg:∀ r:List Int,(truthM s many r).2.2.getD i 0=setOf (s.2.map (canB (s.1.getD i noSupply).1 (r.getD i 0))):=by
  intro r
  simp [truthM,caseM,caseOf,List.getD,hi]
 rw [eg] at ht
 have:(truthM s many' ready').2.2.getD i 0=setOf (s.2.map (canB (s.1.getD i noSupply).1 (ready'.getD i 0))):=eg ready'
 rw [this]
 exact touch_mono (hr i hi) ht
structure Acc (P:Int→Int) (M:Int→Bool) (l:List Int) (b:Int × Int):Prop where
 met:M b.1=true
 val:P b.1=b.2
 mem:b.1=0∨b.1∈l
 nn:0≤b.2
 max:∀ x∈l,M x=true→P x≤b.2
 first:∀ x∈l,M x=true→P x=b.2→b.1≤x
theorem acc_fold {P:Int→Int} {M:Int→Bool}:∀ (l p:List Int) (b:Int × Int),(p++l).Pairwise (·≤·)→(∀ x∈p++l,0≤x)→Acc P M p b →
  Acc P M (p++l) (l.foldl (fun b x=>cond (decide (b.2<P x)&&M x) (x,P x) b) b)
 | [],p,b,_,_,h=>by rw [List.append_nil];exact h
 | y::l,p,b,hs,h0,h=>by
  rw [List.foldl_cons]
  have key:Acc P M (p++[y]) (cond (decide (b.2<P y)&&M y) (y,P y) b):=by
   cases hw:(decide (b.2<P y)&&M y) with
   | true =>
    rw [Bool.and_eq_true,decide_eq_true_eq] at hw
    rw [cond_true]
    refine ⟨hw.2,rfl,.inr (by simp),by have:=h.nn;simp only;omega,fun x hx hM=>?_,fun x hx hM he=>?_⟩
    ·simp only
     rcases List.mem_append.1 hx with hx | hx
     ·have:=h.max x hx hM;omega
     ·rw [List.mem_singleton.1 hx];exact Int.le_refl _
    ·simp only at he ⊢
     rcases List.mem_append.1 hx with hx | hx
     ·have:=h.max x hx hM;omega
     ·rw [List.mem_singleton.1 hx];exact Int.le_refl _
   | false =>
    rw [cond_false]
    refine ⟨h.met,h.val,h.mem.imp id fun hb=>List.mem_append.2 (.inl hb),h.nn,fun x hx hM=>?_,fun x hx hM he=>?_⟩
    ·rcases List.mem_append.1 hx with hx | hx
     ·exact h.max x hx hM
     ·rw [List.mem_singleton.1 hx] at hM ⊢
      rw [hM,Bool.and_true] at hw
      have:=of_decide_eq_false hw
      omega
    ·rcases List.mem_append.1 hx with hx | hx
     ·exact h.first x hx hM he
     ·rw [List.mem_singleton.1 hx]
      rcases h.mem with hb | hb
      ·rw [hb];exact h0 y (by simp)
      ·have:=(List.pairwise_append.1 hs).2.2 b.1 hb y List.mem_cons_self
       exact this
  have:=acc_fold l (p++[y]) _ (by rwa [List.append_assoc]) (by rw [List.append_assoc];exact h0) key
  rwa [List.append_assoc] at this
theorem setsTo_sorted (n:Nat):(setsTo n).Pairwise (·≤·):=by
 rw [setsTo,List.pairwise_map]
 refine List.Pairwise.imp ?_ List.pairwise_lt_range
 intro a b h
 omega
theorem setsTo_mem {n:Nat} {x:Int}:x∈setsTo n↔0≤x∧x<(n:Int):=by
 simp only [setsTo,List.mem_map,List.mem_range]
 constructor
 ·rintro ⟨m,hm,rfl⟩;omega
 ·rintro ⟨h1,h2⟩;exact ⟨x.toNat,by omega,by omega⟩
theorem lack_empty (m:Market):lackM m 0=0:=by
 rw [lackM_sum]
 have h1:(sumN m.1.length fun k=>cond (hasB 0 (k:Nat)) (m.1.getD k 0) 0)=0:=by
  refine (sumN_congr (g:=fun _=>0) fun k _=>?_).trans (sumN_const _)
  simp [hasB]
 have h2:(sumN m.2.1.length fun i=>cond (touchB (m.2.2.getD i 0) 0) (m.2.1.getD i 0) 0)=0:=by
  refine (sumN_congr (g:=fun _=>0) fun k _=>?_).trans (sumN_const _)
  have:touchB (m.2.2.getD k 0) 0=false:=by simp [touchB]
  rw [this];rfl
 rw [h1,h2];rfl
theorem meets_empty (m:Market):meetsM m 0=true:=by
 rw [meets_iff]
 intro y hy
 simp only [partsV,List.mem_filter,setsTo_mem] at hy
 have:y=0:=by have h1:=hy.1.1;have h2:=hy.1.2;simp at h2;omega
 rw [this,lack_empty];exact Int.le_refl _
theorem price_empty (l:List Order):priceV l 0=0:=by
 rw [priceV,selS_sumN]
 refine (sumN_congr (g:=fun _=>0) fun k _=>?_).trans (sumN_const _)
 simp [hasB]
theorem accept_spec {x:Sale} (h:saleB x=true):(order_Accept x).2.2=0∧under x.2.length (order_Accept x).1∧Acc (priceV x.2) (meetsM (worstM x)) (setsTo (2^x.2.length)) ((order_Accept x).1,(order_Accept x).2.1):=by
 have eA:order_Accept x=((acceptV (priceV x.2) (meetsM (worstM x)) (partsV (allV x.2.length))).1,(acceptV (priceV x.2) (meetsM (worstM x)) (partsV (allV x.2.length))).2,0):=by rw [order_Accept,h];rfl
 rw [parts_all] at eA
 have hA:=acc_fold (P:=priceV x.2) (M:=meetsM (worstM x)) (setsTo (2^x.2.length)) [] (0,0) (setsTo_sorted _) (fun x hx=>(setsTo_mem.1 hx).1) ⟨meets_empty _,price_empty _,.inl rfl,Int.le_refl _,fun x hx=>(by cases hx),fun x hx=>(by cases hx)⟩
 have hA:Acc (priceV x.2) (meetsM (worstM x)) (setsTo (2^x.2.length)) (acceptV (priceV x.2) (meetsM (worstM x)) (setsTo (2^x.2.length))):=hA
 rw [eA]
 refine ⟨rfl,?_,hA⟩
 have hp:=Nat.pow_pos (n:=x.2.length) (show 0<2 by decide)
 rcases hA.mem with h0 | h0
 ·show under x.2.length (acceptV _ _ _).1
  rw [h0]
  exact ⟨Int.le_refl _,by rw [pow_nat];omega⟩
 ·have:=setsTo_mem.1 h0
  exact ⟨this.1,by rw [pow_nat];exact this.2⟩
theorem meets_ok {x:Sale} (h:saleB x=true):(order_Meets x).2=0∧((order_Meets x).1=2∧meetsM (worstM x) (allV x.2.length)=true∨(order_Meets x).1=1∧meetsM (worstM x) (allV x.2.length)=false∧meetsM (bestM x) (allV x.2.length)=true∨(order_Meets x).1=0∧meetsM (worstM x) (allV x.2.length)=false∧meetsM (bestM x) (allV x.2.length)=false):=by
 have eM:order_Meets x=cond (meetsM (worstM x) (allV x.2.length)) (2,0) (cond (meetsM (bestM x) (allV x.2.length)) (1,0) (0,0)):=by rw [order_Meets,h];rfl
 rw [eM]
 cases meetsM (worstM x) (allV x.2.length)<;>cases meetsM (bestM x) (allV x.2.length)<;>simp
theorem pick_in {s:Span} {b:Int} (h:s.1≤s.2):s.1≤pickV s b∧pickV s b≤s.2:=by
 have h6:=Int.emod_nonneg b (show s.2 - s.1+1≠0 by omega)
 have h7:=Int.emod_lt_of_pos b (show 0<s.2 - s.1+1 by omega)
 simp only [pickV];omega
theorem allpow' (n:Nat):(1*2^(Int.toNat ((n:Nat):Int)) - 1:Int)=allV n:=by rw [Int.toNat_natCast,Int.one_mul];rfl
def byAt (by_:List Int) (i:Int):Int:=by_.getD (Int.toNat (Int.tmod i (by_.length:Int))) 0
def manyT (s:Sale) (by_:List Int):List Int:=(List.range s.1.length).map fun i=>pickV (s.1.getD i noSupply).2.1 (byAt by_ (2*((i:Nat):Int)))
def readyT (s:Sale) (by_:List Int):List Int:=(List.range s.1.length).map fun i=>pickV (s.1.getD i noSupply).2.2 (byAt by_ (2*((i:Nat):Int)+1))
theorem range_app {α:Type} (f:Nat→α) (i:Int) (h:0≤i):(List.range (i+1).toNat).map f=(List.range i.toNat).map f++[f i.toNat]:=by
 have e:(i+1).toNat=i.toNat+1:=by omega
 rw [e,List.range_succ,List.map_append];rfl
theorem byAt_ok {by_:List Int} (hl:(by_.length:Int)≠0) (hb:∀ b∈by_,0≤b∧b<4294967296) {i:Int} (hi:0≤i) :
  (0≤Int.tmod i (by_.length:Int)∧Int.tmod i (by_.length:Int)<(by_.length:Int))∧0≤byAt by_ i∧byAt by_ i<4294967296:=by
 have h:0≤Int.tmod i (by_.length:Int)∧Int.tmod i (by_.length:Int)<(by_.length:Int):=by
  rw [Int.tmod_eq_emod_of_nonneg hi]
  exact ⟨Int.emod_nonneg _ hl,Int.emod_lt_of_pos _ (by omega)⟩
 exact ⟨h,hb _ (getD_mem' by_ 0 _ h.1 h.2)⟩
theorem v6 (x:Sale × List Int) (hp:k6.pre x):V6 x:=by
 obtain ⟨⟨sup,ord⟩,bys⟩:=x
 obtain ⟨hbl,hbb⟩:bys.length≤140737488355328∧∀ b∈bys,0≤b∧b<4294967296:=hp
 refine ⟨trivial,fun hg=>?_,fun _=>⟨trivial,rfl⟩,fun hg=>?_⟩
 ·rw [Bool.or_eq_false_iff] at hg
  exact great_short hg.1
 rw [Bool.or_eq_false_iff,Bool.or_eq_false_iff] at hg
 obtain ⟨⟨hg1,hg2⟩,hg3⟩:=hg
 have h:saleB (sup,ord)=true:=by simpa using (show (!saleB (sup,ord))=false from hg3)
 have hl0:(bys.length:Int)≠0:=beq_eq_false_iff_ne.1 hg2
 have S:=sale_iff.1 h
 have hs8:(sup.length:Int)≤8:=by have:=S.s8;simp only at this;omega
 have ho8:(ord.length:Int)≤8:=by have:=S.o8;simp only at this;omega
 have hsn:∀ i:Nat,i<sup.length→supplyB (sup.getD i noSupply)=true:=fun i hi=>S.sup _ (getD_mem sup _ i hi)
 refine ⟨fun s=>0≤s.2.2∧s.2.2≤(sup.length:Int)∧s.1=(List.range s.2.2.toNat).map (fun i=>pickV (sup.getD i noSupply).2.1 (byAt bys (2*((i:Nat):Int))))∧s.2.1=(List.range s.2.2.toNat).map (fun i=>pickV (sup.getD i noSupply).2.2 (byAt bys (2*((i:Nat):Int)+1))),fun s=>((sup.length:Int) - s.2.2).toNat,⟨by simp,by simp,rfl,rfl⟩,?_⟩
 rintro ⟨l,r,i⟩ ⟨i1,i2,e1,e2⟩
 simp only at i1 i2 e1 e2 ⊢
 subst e1;subst e2
 refine ⟨fun hi=>?_,fun hi=>?_⟩
 ·have hi:=of_decide_eq_true hi
  have hyo:=supply_iff.1 (hsn i.toNat (by omega))
  have b1:=byAt_ok hl0 hbb (i:=2*i) (by omega)
  have b2:=byAt_ok hl0 hbb (i:=2*i+1) (by omega)
  have ei:((i.toNat:Nat):Int)=i:=by omega
  have a1:=range_app (fun i=>pickV (sup.getD i noSupply).2.1 (byAt bys (2*((i:Nat):Int)))) i i1
  have a2:=range_app (fun i=>pickV (sup.getD i noSupply).2.2 (byAt bys (2*((i:Nat):Int)+1))) i i1
  rw [ei] at a1 a2
  refine ⟨⟨i1,hi⟩,by simp only [Z.in64];omega,hl0,b1.1,⟨hyo.2.1,b1.2⟩,rm1 (by rw [List.length_append];simp;omega),by simp only [Z.in64];omega,by simp only [Z.in64];omega,hl0,b2.1,⟨hyo.2.2,b2.2⟩,rm1 (by rw [List.length_append];simp;omega),by simp only [Z.in64];omega,⟨by show 0≤i+1;omega,by show i+1≤_;omega,a1.symm,a2.symm⟩,?_⟩
  show ((sup.length:Int) - (i+1)).toNat<((sup.length:Int) - i).toNat
  omega
 have hi:=of_decide_eq_false hi
 have hin:i.toNat=sup.length:=by omega
 rw [hin]
 obtain ⟨many,hmany⟩:∃ many,many=manyT (sup,ord) bys:=⟨_,rfl⟩
 obtain ⟨ready,hready⟩:∃ ready,ready=readyT (sup,ord) bys:=⟨_,rfl⟩
 have f1:(List.range sup.length).map (fun i=>pickV (sup.getD i noSupply).2.1 (byAt bys (2*((i:Nat):Int))))=many:=hmany.symm
 have f2:(List.range sup.length).map (fun i=>pickV (sup.getD i noSupply).2.2 (byAt bys (2*((i:Nat):Int)+1)))=ready:=hready.symm
 rw [f1,f2]
 have lm:many.length=sup.length:=by rw [←f1];simp
 have lr:ready.length=sup.length:=by rw [←f2];simp
 have hget1:∀ i:Nat,i<sup.length→(sup.getD i noSupply).2.1.1≤many.getD i 0∧many.getD i 0≤(sup.getD i noSupply).2.1.2:=by
  intro i hi
  rw [←f1,range_getD _ 0 hi]
  exact pick_in (supply_iff.1 (hsn i hi)).2.1.2.1
 have hget2:∀ i:Nat,i<sup.length→(sup.getD i noSupply).2.2.1≤ready.getD i 0∧ready.getD i 0≤(sup.getD i noSupply).2.2.2:=by
  intro i hi
  rw [←f2,range_getD _ 0 hi]
  exact pick_in (supply_iff.1 (hsn i hi)).2.2.2.1
 have hmam:∀ n∈many,amount n:=by
  intro n hn
  obtain ⟨i,hi,rfl⟩:=List.getElem_of_mem hn
  have h1:=hget1 i (by omega)
  have h2:=(supply_iff.1 (hsn i (by omega))).2.1
  have:many.getD i 0=many[i]:=by simp [List.getD,hi]
  rw [this] at h1
  exact ⟨by omega,by omega⟩
 have hC:CaseOk (caseOf (sup,ord) many ready) (askedV (sup,ord)):=caseOf_ok h lm hmam
 have hun:under (askedV (sup,ord)).length (1*2^(Int.toNat (ord.length:Int)) - 1):=by rw [allpow',asked_len];exact all_under' _
 have hsh:=short_of h
 have hshl:=shl_ok (k:=(ord.length:Int)) (by omega) (by omega)
 have hww:∀ X,lackM (truthM (sup,ord) many ready) X≤lackM (worstM (sup,ord)) X:=by
  intro X
  rw [←caseM_worst]
  refine truth_mono (by simp) lm (fun i hi=>?_) (fun i hi=>?_) X
  ·rw [map_getD worstMany noSupply rfl]
   have:=hget1 i hi
   have h2:=(supply_iff.1 (hsn i hi)).2.1
   exact ⟨h2.1,this.1⟩
  ·rw [map_getD worstReady noSupply rfl]
   exact (hget2 i hi).2
 have hbb2:∀ X,lackM (bestM (sup,ord)) X≤lackM (truthM (sup,ord) many ready) X:=by
  intro X
  rw [←caseM_best]
  refine truth_mono lm (by simp) (fun i hi=>?_) (fun i hi=>?_) X
  ·rw [map_getD bestMany noSupply rfl]
   have:=hget1 i hi
   have h2:=(supply_iff.1 (hsn i hi)).2.1
   exact ⟨by omega,this.2⟩
  ·rw [map_getD bestReady noSupply rfl]
   exact (hget2 i hi).1
 obtain ⟨hm0,hmc⟩:=meets_ok h
 obtain ⟨ha0,hau,hA⟩:=accept_spec h
 obtain ⟨is,his⟩:∃ is,is=meetsM (truthM (sup,ord) many ready) (allV ord.length):=⟨_,rfl⟩
 have eis:ref10u_Met (ref10u_CaseOf ((sup,ord),many,ready),ref10u_Asked (sup,ord),1*2^(Int.toNat (ord.length:Int)) - 1)=is:=by
  rw [allpow',his];rfl
 have h2is:(order_Meets (sup,ord)).1=2→is=true:=by
  intro h2
  rcases hmc with ⟨_,h3⟩ | ⟨h3,_⟩ | ⟨h3,_⟩
  ·rw [his];exact meets_mono hww h3
  ·omega
  ·omega
 have h0is:(order_Meets (sup,ord)).1=0→is=false:=by
  intro h2
  rcases hmc with ⟨h3,_⟩ | ⟨h3,_⟩ | ⟨_,_,h3⟩
  ·omega
  ·omega
  ·cases hh:is with
   | false=>rfl
   | true =>
    rw [hh] at his
    rw [meets_mono hbb2 his.symm] at h3;cases h3
 have hr:0≤(order_Meets (sup,ord)).1∧(order_Meets (sup,ord)).1≤2:=by
  rcases hmc with ⟨h3,_⟩ | ⟨h3,_⟩ | ⟨h3,_⟩<;>omega
 have hin64:Z.in64 (1*2^(Int.toNat (ord.length:Int)) - 1):=by
  have:=under_small (by rw [asked_len];exact S.o8) hun
  simp only [smallSet] at this
  simp only [Z.in64];omega
 refine ⟨⟨h,lr⟩,hsh,⟨⟨by omega,by show (ord.length:Int)<64;omega⟩,hshl.2⟩,hin64,⟨hC,hun⟩,trivial,fun hb=>?_,fun _=>?_⟩
 ·exfalso
  rw [eis] at hb
  have hb:((((!((order_Meets (sup,ord)).2==0))||(((order_Meets (sup,ord)).1==2)&&(!is)))||(((order_Meets (sup,ord)).1==0)&&is))||decide ((order_Meets (sup,ord)).1<0)||decide (2<(order_Meets (sup,ord)).1))=true:=hb
  rw [hm0,decide_eq_false (by omega:¬ (order_Meets (sup,ord)).1<0),decide_eq_false (by omega:¬ 2<(order_Meets (sup,ord)).1)] at hb
  simp only [beq_self_eq_true,Bool.not_true,Bool.false_or,Bool.or_false,Bool.or_eq_true,Bool.and_eq_true,beq_iff_eq,Bool.not_eq_true'] at hb
  rcases hb with ⟨h1,h2⟩ | ⟨h1,h2⟩
  ·rw [h2is h1] at h2;cases h2
  ·rw [h0is h1] at h2;cases h2
 have hun2:under (askedV (sup,ord)).length (order_Accept (sup,ord)).1:=by rw [asked_len];exact hau
 have haM:ref10u_Met (ref10u_CaseOf ((sup,ord),many,ready),ref10u_Asked (sup,ord),(order_Accept (sup,ord)).1)=true:=meets_mono hww hA.met
 have hau2:(order_Accept (sup,ord)).1<1*2^(Int.toNat (ord.length:Int)):=by
  rw [Int.toNat_natCast,Int.one_mul];exact hau.2
 refine ⟨trivial,fun _=>⟨⟨by omega,by show (ord.length:Int)<64;omega⟩,hshl.2⟩,fun _=>⟨hC,hun2⟩,fun hb=>?_,fun _=>?_⟩
 ·exfalso
  rw [haM] at hb
  have hb:((((!((order_Accept (sup,ord)).2.2==0))||decide ((order_Accept (sup,ord)).1<0))||decide (1*2^(Int.toNat (ord.length:Int))≤(order_Accept (sup,ord)).1))||(!true))=true:=hb
  rw [ha0,decide_eq_false (by have:=hau.1;omega:¬ (order_Accept (sup,ord)).1<0),decide_eq_false (by omega:¬ 1*2^(Int.toNat (ord.length:Int))≤(order_Accept (sup,ord)).1)] at hb
  cases hb
 obtain ⟨X,hX⟩:∃ X,X=(order_Accept (sup,ord)).1:=⟨_,rfl⟩
 obtain ⟨p,hpr⟩:∃ p,p=(order_Accept (sup,ord)).2.1:=⟨_,rfl⟩
 have hv:=hA.val
 simp only at hv
 rw [←hX,←hpr] at hv
 rw [←hX] at hau
 rw [←hX,←hpr]
 have prices:∀ a∈ord.map (fun o:Order=>o.2.2.2),amount a:=by
  intro a ha
  obtain ⟨o,ho,rfl⟩:=List.mem_map.1 ha
  have:=order_iff.1 (S.ord o ho)
  exact ⟨this.2.2.2.1,by have:=this.2.2.2.2;simp only [topN];omega⟩
 have pl:(ord.map (fun o:Order=>o.2.2.2)).length=ord.length:=by simp
 have bp:=selS_bd (p:=fun k=>hasB X (k:Nat)) (l:=ord.map fun o:Order=>o.2.2.2) (k:=0) prices
 refine ⟨fun t=>0≤t.2∧t.2≤(ord.length:Int)∧t.1=p - selS (fun k=>hasB X (k:Nat)) ((ord.map fun o=>o.2.2.2).take t.2.toNat) 0,fun t=>((ord.length:Int) - t.2).toNat,⟨by simp,by simp,by simp [selS]⟩,?_⟩
 rintro ⟨a,k⟩ ⟨k1,k2,e1⟩
 simp only at k1 k2 e1 ⊢
 subst e1
 have bk:=selS_tb (p:=fun k=>hasB X (k:Nat)) (by rw [pl];omega) prices k
 have hpb:0≤p∧p≤8*topN:=by
  rw [←hv]
  show 0≤selS _ _ _∧selS _ _ _≤_
  rw [pl] at bp
  simp only [topN] at bp ⊢
  omega
 refine ⟨fun hk=>?_,fun hk=>?_⟩
 ·have hk:=of_decide_eq_true hk
  have es:=selS_step (fun k=>hasB X (k:Nat)) (ord.map fun o:Order=>o.2.2.2) k k1 (by rw [pl];exact hk)
  have ek:((k.toNat:Nat):Int)=k:=by omega
  have eg:(ord.map fun o:Order=>o.2.2.2).getD k.toNat 0=(ord.getD k.toNat (0,0,0,0)).2.2.2:=by
   simp only [List.getD,List.getElem?_map]
   cases ord[k.toNat]?<;>rfl
  have hak:=prices _ (getD_mem' (ord.map fun o:Order=>o.2.2.2) 0 k k1 (by rw [pl];exact hk))
  rw [eg] at hak es
  simp only [amount,topN] at hak bk hpb
  rw [ek] at es
  refine ⟨⟨k1,hk⟩,⟨k1,by omega⟩,⟨?_,by decide⟩,fun hb=>⟨by simp only [Z.in64];omega,by simp only [Z.in64];omega,?_,?_,?_,⟨by show 0≤k+1;omega,by show k+1≤_;omega,?_⟩,?_⟩,fun hb=>⟨by simp only [Z.in64];omega,?_,?_,?_,⟨by show 0≤k+1;omega,by show k+1≤_;omega,?_⟩,?_⟩⟩
  all_goals first | trivial | rfl | skip
  ·rw [Int.fdiv_eq_ediv_of_nonneg _ (Int.le_of_lt (Int.pow_pos (by decide)))]
   exact Int.ediv_nonneg hau.1 (Int.le_of_lt (Int.pow_pos (by decide)))
  ·rw [has_div hau.1 k1] at hb
   show _=p - selS _ (List.take (k+1).toNat _) 0
   rw [es,hb,cond_true];omega
  ·show ((ord.length:Int) - (k+1)).toNat<((ord.length:Int) - k).toNat
   omega
  ·rw [has_div hau.1 k1] at hb
   show _=p - selS _ (List.take (k+1).toNat _) 0
   rw [es,hb];simp
  ·show ((ord.length:Int) - (k+1)).toNat<((ord.length:Int) - k).toNat
   omega
 ·have hk:=of_decide_eq_false hk
  rw [List.take_of_length_le (by rw [pl];omega)]
  have e0:p - selS (fun k=>hasB X (k:Nat)) (ord.map fun o:Order=>o.2.2.2) 0=0:=by
   rw [←hv];exact Int.sub_self _
  refine ⟨fun _=>trivial,?_⟩
  rw [e0];rfl
end Go.Ord
