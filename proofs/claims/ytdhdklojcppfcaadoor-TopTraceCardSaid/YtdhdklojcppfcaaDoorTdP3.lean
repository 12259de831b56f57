/-
  Recall: the conditions.
-/
import Derived.Test.YtdhdklojcppfcaaDoorTdBP
import Derived.Test.YtdhdklojcppfcaaDoorTdBits
set_option linter.all false
set_option maxRecDepth 100000
set_option maxHeartbeats 4000000
namespace Go.Td
open Go Go.Sx
theorem wrap32u {x:Int} (h0:0<=x) (h1:x<=top32):IntKind.u32.wrap x=x:=by
 have h1:x<=4294967295:=h1
 show x % (2^32:Int)=x
 omega
theorem wrap64u {x:Int} (h0:0<=x) (h1:x<=top32):IntKind.i64.wrap x=x:=by
 have h1:x<=4294967295:=h1
 rw [IntKind.wrap_i64];omega
theorem v34 (x:Int × Int × Int) (_:k34.pre x):V34 x:=rfl
theorem shl24 {n:Nat} (h:n<=24):(1*2^(Int.toNat ((n:Nat):Int)):Int)=bitZ n∧1<=bitZ n∧bitZ n<=16777216:=by
 rw [Int.toNat_natCast]
 exact ⟨one_shl n,bit_pos n,bit_24 h⟩
theorem v35 (x:Int × List Batch) (h:k35.pre x):V35 x:=by
 have h:x.2.length<=24:=h
 obtain ⟨e,h1,h2⟩:=shl24 h
 simp only [V35,e]
 refine ⟨⟨⟨by omega,by omega⟩,by simp only [Z.in64];omega⟩,by simp only [Z.in64];omega,trivial,?_⟩
 show (!inB x.1 0 (bitZ x.2.length - 1))=!inB x.1 0 ((1*2^x.2.length:Int) - 1)
 rw [one_shl]
theorem cards_at {l:List Batch} (h:cardsB l=true) (i:Nat) (hi:i<l.length):cardB i (l.getD i noB)=true :=
 List.all_eq_true.1 h i (List.mem_range.2 hi)
theorem cards_of {l:List Batch} (h:∀ i,i<l.length->cardB i (l.getD i noB)=true):cardsB l=true :=
 List.all_eq_true.2 fun i hi=>h i (List.mem_range.1 hi)
theorem v36 (x:List Batch) (h:k36.pre x):V36 x:=by
 have h:x.length<=big:=h
 refine ⟨fun s=>(0<=s∧s<=(x.length:Int))∧∀ i:Nat,(i:Int)<s->cardB i (x.getD i noB)=true,fun s=>((x.length:Int) - s).toNat,⟨⟨by omega,by omega⟩,fun i hi=>by omega⟩,?_⟩
 rintro s ⟨⟨s0,s1⟩,hs⟩
 obtain ⟨n,rfl⟩:∃ n:Nat,s=(n:Int):=⟨s.toNat,by omega⟩
 refine ⟨fun hd=>?_,fun hd=>?_⟩
 ·have hd:(n:Int)<(x.length:Int):=of_decide_eq_true hd
  have hn:n<x.length:=by omega
  refine ⟨⟨s0,hd⟩,fun hl=>?_,fun hl=>?_,fun hl=>trivial,fun _=>trivial,fun hb=>?_,fun hb=>?_⟩
  ·have hl:¬ (24:Int)<=n:=of_decide_eq_false hl
   obtain ⟨e,h1,h2⟩:=shl24 (show n<=24 by omega)
   rw [e]
   exact ⟨⟨s0,by omega⟩,by simp only [Z.in64];omega⟩
  ·have hl:¬ (24:Int)<=n:=of_decide_eq_false hl
   obtain ⟨e,h1,h2⟩:=shl24 (show n<=24 by omega)
   rw [e]
   simp only [Z.in64];omega
  ·have:cardB n (x.getD n noB)=false:=by
    have hb:((decide ((24:Int)<=(n:Int))||!inB (x.getD n noB).1 0 ((1*2^n:Int) - 1))||!inB (x.getD n noB).2 0 1048576)=true:=hb
    unfold cardB
    rw [show decide (n<24)=!decide ((24:Int)<=(n:Int)) by
     by_cases hc:n<24
     ·rw [decide_eq_true hc,decide_eq_false (by omega)];rfl
     ·rw [decide_eq_false hc,decide_eq_true (by omega)];rfl]
    revert hb
    cases decide ((24:Int)<=(n:Int))<;>cases inB (x.getD n noB).1 0 ((1*2^n:Int) - 1)<;>cases inB (x.getD n noB).2 0 1048576<;>simp
   show false=cardsB x
   cases hc:cardsB x with
   | false=>rfl
   | true=>rw [cards_at hc n hn] at this;cases this
  ·refine ⟨by simp only [Z.in64,big] at *;omega,⟨⟨by omega,by omega⟩,fun i hi=>?_⟩,by show ((x.length:Int) - ((n:Int)+1)).toNat<((x.length:Int) - (n:Int)).toNat;omega⟩
   by_cases hin:i=n
   ·subst hin
    have hb:((decide ((24:Int)<=(i:Int))||!inB (x.getD i noB).1 0 ((1*2^i:Int) - 1))||!inB (x.getD i noB).2 0 1048576)=false:=hb
    unfold cardB
    rw [show decide (i<24)=!decide ((24:Int)<=(i:Int)) by
     by_cases hc:i<24
     ·rw [decide_eq_true hc,decide_eq_false (by omega)];rfl
     ·rw [decide_eq_false hc,decide_eq_true (by omega)];rfl]
    revert hb
    cases decide ((24:Int)<=(i:Int))<;>cases inB (x.getD i noB).1 0 ((1*2^i:Int) - 1)<;>cases inB (x.getD i noB).2 0 1048576<;>simp
   ·exact hs i (by omega)
 ·have hd:¬ (n:Int)<(x.length:Int):=of_decide_eq_false hd
  show true=cardsB x
  exact (cards_of fun i hi=>hs i (by omega)).symm
theorem v25 (x:List Int) (h:k25.pre x):V25 x:=by
 obtain ⟨h,ha⟩:x.length<=big∧∀ a∈x,0<=a∧a<=top32:=h
 refine ⟨fun s=>(0<=s.2∧s.2<=(x.length:Int))∧0<=s.1∧(x.drop s.2.toNat).foldl orZ s.1=zao x,fun s=>((x.length:Int) - s.2).toNat,⟨⟨by simp,by simp⟩,by simp,rfl⟩,?_⟩
 rintro ⟨a,s⟩ ⟨⟨s0,s1⟩,a0,e⟩
 simp only at s0 s1 a0 e ⊢
 refine ⟨fun hd=>?_,fun hd=>?_⟩
 ·have hd:=of_decide_eq_true hd
  have hm:=ha _ (zcv x 0 s s0 hd)
  rw [drop_getD' x 0 s s0 hd,List.foldl_cons] at e
  exact ⟨⟨s0,hd⟩,⟨a0,hm.1⟩,by simp only [Z.in64,big] at *;omega,⟨⟨by omega,by omega⟩,or_nn _ _,e⟩,by omega⟩
 ·have hd:¬ s<(x.length:Int):=of_decide_eq_false hd
  rw [List.drop_eq_nil_of_le (by omega)] at e
  exact e
theorem v27 (x:Int) (_:k27.pre x):V27 x:=rfl
theorem v38 (ly:Nat) (x:Int) (h:k38.pre x):V38 ly x:=by
 obtain ⟨h0,h1⟩:0<=x∧x<=top32:=h
 refine ⟨fun s=>(0<=s.1∧s.1<=top32)∧s.2.2=false∧bitsZ x=s.2.1++bitsZ s.1,fun s=>s.1.toNat,⟨⟨h0,h1⟩,rfl,rfl⟩,?_⟩
 rintro ⟨a,l,b⟩ ⟨⟨a0,a1⟩,rfl,e⟩
 dsimp only at a0 a1 e ⊢
 refine ⟨fun hd=>?_,fun hd _=>?_⟩
 ·have ha:a≠0:=by
   intro h;subst h;cases hd
  have hb:(a==0)=false:=by simpa using ha
  have hc:=bits_cons (show 0<a by omega) a1
  have ht:zag a=((lowN 32 a.toNat:Nat):Int):=by simp only [zag,hb,cond_false]
  rw [hc] at e
  have hw:IntKind.u32.wrap (a - 1)=a - 1:=wrap32u (by omega) (by omega)
  have hlt:(andZ a (a - 1)).toNat<a.toNat:=by
   rw [and_nat]
   have:a.toNat &&& (a - 1).toNat<=(a - 1).toNat:=Nat.and_le_right
   omega
  rw [ht,hw]
  refine ⟨trivial,trivial,⟨a0,a1⟩,⟨rfl,rfl⟩,⟨_,e⟩,⟨trivial,(fun h=>by cases h),fun _=>⟨⟨a0,by omega⟩,⟨⟨and_nn a (a - 1),and_top a1⟩,rfl,?_⟩,hlt⟩⟩,trivial,(fun _ h=>by cases h),fun h=>by cases h⟩
  show bitsZ x=(l++[_])++bitsZ (andZ a (a - 1))
  rw [e,List.append_assoc];rfl
 ·have ha:a=0:=by
   cases hb:(a==0) with
   | true=>simpa using hb
   | false=>rw [hb] at hd;cases hd
  subst ha
  rw [bits_zero,List.append_nil] at e
  exact e.symm
theorem v71 (x:(List Batch) × Int) (h:k71.pre x):V71 x:=by
 obtain ⟨h1,h2,h3⟩:(0<=x.2∧x.2<(x.1.length:Int))∧0<=(x.1.getD x.2.toNat noB).1∧(x.1.getD x.2.toNat noB).1<=top32:=h
 exact ⟨h1,wrap32u h2 h3⟩
theorem v73 (x:(Int->Option Int) × Int) (_:k73.pre x):V73 x:=rfl
theorem v22 (x:List Batch) (_:k22.pre x):V22 x:=rfl
theorem v23 (x:(List Batch) × List Int) (h:k23.pre x):V23 x:=by
 obtain ⟨h1,h2⟩:x.1.length<=big∧x.2.length<=big:=h
 refine ⟨h1,fun hc=>?_,fun hc=>⟨?_,fun hb=>?_,fun hb=>?_⟩⟩
 ·have hc:(!cardsB x.1)=true:=hc
  show 1=zaj x
  simp only [zaj,not_iff.1.1 hc,cond_false]
 ·have hc:(!cardsB x.1)=false:=hc
  have hc:=not_iff.2.1 hc
  refine ⟨h2,fun _ _=>?_⟩
  show x.1.length<=24
  by_cases hl:x.1.length<=24
  ·exact hl
  ·have:=cards_at hc 24 (by omega)
   simp [cardB] at this
 ·have hc:(!cardsB x.1)=false:=hc
  show 2=zaj x
  have hb:(x.2.any fun s=>!inB s 0 ((1*2^x.1.length:Int) - 1))=true:=hb
  simp only [zaj,not_iff.2.1 hc,cond_true,hb]
 ·have hc:(!cardsB x.1)=false:=hc
  show 0=zaj x
  have hb:(x.2.any fun s=>!inB s 0 ((1*2^x.1.length:Int) - 1))=false:=hb
  simp only [zaj,not_iff.2.1 hc,cond_true,hb,cond_false]
end Go.Td
/-
 Recall: reach,blame,the way ahead.
-/
namespace Go.Td
open Go Go.Sx
theorem onV_leaf {w:Way} {c:Int} (h:w.1.val c=0) (s:Met):onV w s c=on0 s c:=by
 unfold onV
 rw [h,bits_zero,List.foldl_nil]
 unfold on0
 cases s.1.getD c.toNat false<;>rfl
theorem Short.leaf {w:Way} {b c:Int} (h:Short w b) (hc:c∈bitsZ (w.1.val b)):Short w c∧w.1.val c=0∧w.1.val b≠0:=by
 obtain ⟨⟨h1,h2⟩,h3⟩:=h.nx c hc
 obtain ⟨j,rfl,_,_⟩:=zbr.1 hc
 refine ⟨⟨⟨by omega,h1⟩,h2,by rw [h3];decide,fun d hd=>?_⟩,h3,fun h0=>?_⟩
 ·rw [h3,bits_zero] at hd;cases hd
 ·rw [h0,bits_zero] at hc;cases hc
theorem on0u_len {s:Met} {c:Int}:(on0 s c).1.length=s.1.length:=by
 unfold on0
 cases s.1.getD c.toNat false with
 | true=>rfl
 | false=>exact List.length_set ..
theorem on0u_top {s:Met} {c:Int} (h0:0<=s.2) (h1:s.2<=top32) (hc:0<=c∧c<24):0<=(on0 s c).2∧(on0 s c).2<=top32:=by
 unfold on0
 cases s.1.getD c.toNat false with
 | true=>exact ⟨h0,h1⟩
 | false =>
  simp only [cond_false]
  rw [join2 _ _ h0,one_shl]
  exact ⟨or_nn _ _,or_top h1 (bit_32 (by omega))⟩
theorem join_ok {a:Int} (h0:0<=a) (h1:a<=top32) {c:Int} (hc:0<=c∧c<24):zbJ [a,1*2^c.toNat]:=by
 refine ⟨by show 2<=big;simp only [big];omega,fun y hy=>?_⟩
 simp only [List.mem_cons,List.not_mem_nil,or_false] at hy
 rcases hy with rfl | rfl
 ·exact ⟨h0,h1⟩
 ·rw [one_shl]
  exact ⟨Int.le_of_lt (bit_pos _),bit_32 (by omega)⟩
theorem shl32 {c:Int} (hc:0<=c∧c<24):((0:Int)<=c∧c<=32)∧((0:Int)<=(1*2^c.toNat:Int)∧(1*2^c.toNat:Int)<=4294967295):=by
 rw [one_shl]
 exact ⟨by omega,Int.le_of_lt (bit_pos _),bit_32 (by omega)⟩
theorem v40 (x:Int × (List Bool) × Int × Way) (h:k40.pre x):V40 x:=by
 obtain ⟨b,met,out,w⟩:=x
 obtain ⟨⟨hs,hl⟩,o0,o1⟩:(Short w b∧met.length=24)∧0<=out∧out<=top32:=h
 refine ⟨hs.at_,fun hm=>⟨trivial,trivial,rfl,trivial,?_⟩,fun hm=>⟨hs.at_,shl32 hs.at_,join_ok o0 o1 hs.at_,hs.pre,trivial,hs.val,?_⟩⟩
 ·have hm:met.getD b.toNat false=true:=hm
  show (met,out)=onV w (met,out) b
  unfold onV
  simp only [hm,cond_true]
 ·have hm:met.getD b.toNat false=false:=hm
  have hst:on0 (met,out) b=(met.set b.toNat true,zao [out,1*2^b.toNat]):=by
   unfold on0
   simp only [hm,cond_false]
  have hon:onV w (met,out) b=(bitsZ (w.1.val b)).foldl on0 (on0 (met,out) b):=by
   unfold onV
   simp only [hm,cond_false]
  refine ⟨fun r s=>(s.1.length=24∧0<=s.2∧s.2<=top32)∧(∀ c∈r,c∈bitsZ (w.1.val b))∧r.foldl on0 s=onV w (met,out) b,?_,?_,?_⟩
  ·have key:((on0 (met,out) b).1.length=24∧0<=(on0 (met,out) b).2∧(on0 (met,out) b).2<=top32)∧(∀ c∈bitsZ (w.1.val b),c∈bitsZ (w.1.val b))∧(bitsZ (w.1.val b)).foldl on0 (on0 (met,out) b)=onV w (met,out) b :=
    ⟨⟨on0u_len.trans hl,on0u_top (s:=(met,out)) o0 o1 hs.at_⟩,fun c hc=>hc,hon.symm⟩
   rw [hst] at key
   exact key
  ·rintro e r s ⟨⟨s1,s2,s3⟩,hr,he⟩
   obtain ⟨g1,g2,g3⟩:=hs.leaf (hr e (List.mem_cons_self ..))
   have hc:zaI (e,s.1,s.2,w)=on0 s e:=onV_leaf g2 s
   refine ⟨⟨⟨⟨⟨g1,s1⟩,s2,s3⟩,?_⟩,⟨trivial,trivial,rfl,trivial,trivial⟩,trivial⟩,⟨trivial,trivial,rfl,trivial,trivial⟩,rfl,?_⟩
   ·have e1:(w.1.val e==0)=true:=by rw [g2];rfl
    have e2:(w.1.val b==0)=false:=by simpa using g3
    show cond (w.1.val e==0) 0 1<cond (w.1.val b==0) 0 1
    rw [e1,e2];decide
   ·show _∧_∧r.foldl on0 (zaI (e,s.1,s.2,w))=_
    show ((zaI (e,s.1,s.2,w)).1.length=24∧0<=(zaI (e,s.1,s.2,w)).2∧(zaI (e,s.1,s.2,w)).2<=top32)∧_∧_
    rw [hc]
    exact ⟨⟨on0u_len.trans s1,on0u_top s2 s3 g1.at_⟩,fun c hc=>hr c (List.mem_cons_of_mem _ hc),he⟩
  ·rintro s ⟨_,_,he⟩
   exact ⟨trivial,trivial,rfl,trivial,he⟩
def MetIn (s:Met):Prop:=s.1.length=24∧0<=s.2∧∀ j,s.1.getD j false=true->s.2.toNat.testBit j=true
theorem on0u_in {s:Met} (h:MetIn s) {c:Nat} (hc:c<24):MetIn (on0 s (c:Int))∧∀ j,(on0 s (c:Int)).2.toNat.testBit j=(s.2.toNat.testBit j||decide (c=j)):=by
 obtain ⟨h1,h2,h3⟩:=h
 unfold on0
 rw [Int.toNat_natCast]
 cases hm:s.1.getD c false with
 | true =>
  rw [cond_true]
  refine ⟨⟨h1,h2,h3⟩,fun j=>?_⟩
  by_cases hj:c=j
  ·subst hj;rw [h3 _ hm];rfl
  ·rw [decide_eq_false hj,Bool.or_false]
 | false =>
  rw [cond_false]
  have hb:∀ j,(zao [s.2,1*2^c]).toNat.testBit j=(s.2.toNat.testBit j||decide (c=j)):=fun j=>by
   rw [join2 _ _ h2,one_shl,or_bit,bit_bit]
  refine ⟨⟨(List.length_set ..).trans h1,by rw [join2 _ _ h2];exact or_nn _ _,fun j hj=>?_⟩,hb⟩
  show (zao [s.2,1*2^c]).toNat.testBit j=true
  rw [hb]
  by_cases hcj:c=j
  ·rw [decide_eq_true hcj,Bool.or_true]
  ·have hj:(s.1.set c true).getD j false=true:=hj
   rw [List.getD_eq_getElem?_getD,List.getElem?_set_ne hcj,<-List.getD_eq_getElem?_getD] at hj
   rw [h3 j hj];rfl
theorem fold_in:∀ (l:List Int) (s:Met),MetIn s->(∀ c∈l,0<=c∧c<24)->MetIn (l.foldl on0 s)∧∀ j:Nat,(l.foldl on0 s).2.toNat.testBit j=(s.2.toNat.testBit j||decide ((j:Int)∈l))
 | [],s,h,_=>⟨h,fun j=>by simp⟩
 | c::l,s,h,hl=>by
  have hc:=hl c (List.mem_cons_self ..)
  obtain ⟨n,rfl⟩:∃ n:Nat,c=(n:Int):=⟨c.toNat,by omega⟩
  obtain ⟨g1,g2⟩:=on0u_in h (c:=n) (by omega)
  obtain ⟨g3,g4⟩:=fold_in l (on0 s (n:Int)) g1 fun c hc=>hl c (List.mem_cons_of_mem _ hc)
  refine ⟨g3,fun j=>?_⟩
  rw [List.foldl_cons,g4,g2]
  have:decide ((j:Int)∈(n:Int)::l)=(decide (n=j)||decide ((j:Int)∈l)):=by
   rw [<-Bool.decide_or]
   apply decide_eq_decide.2
   rw [List.mem_cons]
   constructor
   ·rintro (h | h)
    ·exact .inl (by omega)
    ·exact .inr h
   ·rintro (h | h)
    ·exact .inl (by omega)
    ·exact .inr h
  rw [this,Bool.or_assoc]
theorem bits_dec {x:Int} (h1:x<=top32) (j:Nat):decide ((j:Int)∈bitsZ x)=x.toNat.testBit j:=by
 have hb:=lt_bit.1 (le_top.1 h1)
 cases ht:x.toNat.testBit j with
 | true =>
  apply decide_eq_true
  refine zbr.2 ⟨j,rfl,?_,ht⟩
  by_cases hj:j<32
  ·exact hj
  ·rw [hb j (by omega)] at ht;cases ht
 | false =>
  apply decide_eq_false
  intro hm
  obtain ⟨i,e,_,hi⟩:=zbr.1 hm
  have:i=j:=by omega
  subst this
  rw [ht] at hi;cases hi
theorem reach_is {w:Way} {b:Int} (h:Short w b):(onV w (List.replicate 24 false,0) b).2=orZ (bitZ b.toNat) (w.1.val b):=by
 obtain ⟨n,rfl⟩:∃ n:Nat,b=(n:Int):=⟨b.toNat,by have:=h.at_;omega⟩
 have hn:n<24:=by have:=h.at_;omega
 have h0:MetIn (List.replicate 24 false,0):=by
  refine ⟨rfl,by decide,fun j hj=>?_⟩
  have:∀ j,(List.replicate 24 false).getD j false=false:=by
   intro j
   rw [List.getD_eq_getElem?_getD,List.getElem?_replicate]
   split<;>rfl
  rw [this] at hj;cases hj
 obtain ⟨g1,g2⟩:=on0u_in h0 (c:=n) hn
 have hm:∀ c∈bitsZ (w.1.val (n:Int)),0<=c∧c<24:=fun c hc=>(h.leaf hc).1.at_
 obtain ⟨g3,g4⟩:=fold_in _ _ g1 hm
 have e:onV w (List.replicate 24 false,0) (n:Int)=(bitsZ (w.1.val (n:Int))).foldl on0 (on0 (List.replicate 24 false,0) (n:Int)):=by
  unfold onV
  have:(List.replicate 24 false).getD (Int.toNat (n:Int)) false=false:=by
   rw [List.getD_eq_getElem?_getD,List.getElem?_replicate]
   split<;>rfl
  simp only [this,cond_false]
 rw [e]
 refine zdE g3.2.1 (or_nn _ _) fun j=>?_
 rw [g4,g2,or_bit,Int.toNat_natCast,bit_bit,bits_dec h.val.2]
 show ((0:Int).toNat.testBit j||_||_)=_
 simp
theorem v28 (x:Way × Int) (h:k28.pre x):V28 x:=by
 have h:Short x.1 x.2:=h
 exact ⟨⟨⟨⟨h,rfl⟩,(show (0:Int)<=0 by decide),(show (0:Int)<=top32 by decide)⟩,⟨trivial,trivial,rfl,trivial,trivial⟩,trivial⟩,reach_is h⟩
theorem zdp {l:List Batch} (h:cardsB l=true) {i:Nat} (hi:i<l.length):i<24∧(0<=(l.getD i noB).1∧(l.getD i noB).1<bitZ i)∧0<=(l.getD i noB).2∧(l.getD i noB).2<=1048576:=by
 have h:=cards_at h i hi
 unfold cardB at h
 rw [one_shl] at h
 simp only [Bool.and_eq_true,inB_iff,decide_eq_true_eq] at h
 obtain ⟨⟨h1,h2,h3⟩,h4,h5⟩:=h
 exact ⟨h1,⟨h2,by omega⟩,h4,h5⟩
theorem zdo {l:List Batch} (h:cardsB l=true):l.length<=24:=by
 by_cases hl:l.length<=24
 ·exact hl
 ·have:=(zdp h (i:=24) (by omega)).1
  omega
theorem from_top {l:List Batch} (h:cardsB l=true) {i:Nat} (hi:i<l.length):0<=(l.getD i noB).1∧(l.getD i noB).1<=top32:=by
 obtain ⟨h1,⟨h2,h3⟩,_⟩:=zdp h hi
 have:=bit_32 (show i<32 by omega)
 exact ⟨h2,by omega⟩
theorem back_short {l:List Batch} (h:cardsB l=true) (ht:Two l) {b:Int} (hb:0<=b∧b<(l.length:Int)):Short (wayB l) b:=by
 obtain ⟨i,rfl⟩:∃ n:Nat,b=(n:Int):=⟨b.toNat,by omega⟩
 have hi:i<l.length:=by omega
 have hlen:=zdo h
 have ok:∀ j:Nat,j<l.length->(wayB l).1.pre (j:Int):=fun j hj=>⟨⟨by omega,(show (j:Int)<(l.length:Int) by omega)⟩,by
  show 0<=(l.getD (Int.toNat (j:Int)) noB).1∧(l.getD (Int.toNat (j:Int)) noB).1<=top32
  rw [Int.toNat_natCast];exact from_top h hj⟩
 have hv:∀ j:Nat,(wayB l).1.val (j:Int)=(l.getD j noB).1:=fun j=>by
  show (l.getD (Int.toNat (j:Int)) noB).1=_
  rw [Int.toNat_natCast]
 refine ⟨by omega,ok i hi,by rw [hv];exact from_top h hi,fun c hc=>?_⟩
 rw [hv] at hc
 obtain ⟨j,rfl,_,hj⟩:=zbr.1 hc
 have hji:j<i:=by
  by_cases hlt:j<i
  ·exact hlt
  ·have:=lt_bit.1 (zdp h hi).2.1.2 j (by omega)
   rw [hj] at this;cases this
 refine ⟨⟨by omega,ok j (by omega)⟩,?_⟩
 rw [hv]
 obtain ⟨n,hn⟩:=ht.cut
 have hjn:j<n:=by
  by_cases hlt:j<n
  ·exact hlt
  ·have:=lt_bit.1 (hn i hi).2 j (by omega)
   rw [hj] at this;cases this
 exact (hn j (by omega)).1 hjn
theorem set_lt {l:List Batch} {s:Int} (hl:l.length<=24) (h0:0<=s) (h:s<=(1*2^l.length:Int) - 1):s<=top32∧∀ c∈bitsZ s,0<=c∧c<(l.length:Int):=by
 rw [one_shl] at h
 have h2:=bit_24 hl
 refine ⟨by simp only [top32];omega,fun c hc=>?_⟩
 obtain ⟨j,rfl,_,hj⟩:=zbr.1 hc
 have:j<l.length:=by
  by_cases hlt:j<l.length
  ·exact hlt
  ·have:=lt_bit.1 (show s<bitZ l.length by omega) j (by omega)
   rw [hj] at this;cases this
 omega
theorem reach_nn (w:Way) (b:Int):0<=zaf (w,b):=or_nn _ _
theorem v24 (x:(List Batch) × Int × Int) (h:k24.pre x):V24 x:=by
 obtain ⟨l,bad,good⟩:=x
 obtain ⟨⟨hc,ht⟩,⟨b0,b1⟩,g0,g1⟩:(cardsB l=true∧Two l)∧(0<=bad∧bad<=(1*2^l.length:Int) - 1)∧(0<=good∧good<=(1*2^l.length:Int) - 1):=h
 have hlen:=zdo hc
 obtain ⟨bt,bm⟩:=set_lt hlen b0 b1
 obtain ⟨gt,gm⟩:=set_lt hlen g0 g1
 obtain ⟨e,e1,e2⟩:=shl24 hlen
 have hw:IntKind.u32.wrap (bitZ l.length - 1)=bitZ l.length - 1:=wrap32u (by omega) (by simp only [top32];omega)
 have hs:(1*2^l.length:Int) - 1=bitZ l.length - 1:=by rw [one_shl]
 simp only [V24,e,hw]
 refine ⟨⟨⟨by omega,by omega⟩,by omega,by omega⟩,trivial,⟨b0,bt⟩,?_⟩
 refine ⟨fun r s=>0<=s∧(∀ c∈r,0<=c∧c<(l.length:Int))∧r.foldl (fun s b=>andZ s (zaf (wayB l,b))) s=(bitsZ bad).foldl (fun s b=>andZ s (zaf (wayB l,b))) (bitZ l.length - 1),⟨by omega,bm,rfl⟩,?_,?_⟩
 ·rintro c r s ⟨s0,hr,he⟩
  have hcr:=hr c (List.mem_cons_self ..)
  exact ⟨back_short hc ht hcr,⟨s0,reach_nn _ _⟩,and_nn _ _,fun d hd=>hr d (List.mem_cons_of_mem _ hd),he⟩
 ·rintro s ⟨s0,_,he⟩
  refine ⟨trivial,⟨g0,gt⟩,?_⟩
  have he:s=(bitsZ bad).foldl (fun s b=>andZ s (zaf (wayB l,b))) (bitZ l.length - 1):=he
  refine ⟨fun r s=>0<=s∧(∀ c∈r,0<=c∧c<(l.length:Int))∧r.foldl (fun s b=>offZ s (zaf (wayB l,b))) s=zav (l,bad,good),⟨s0,gm,?_⟩,?_,?_⟩
  ·unfold zav
   simp only
   rw [hs,<-he];rfl
  ·rintro c r s ⟨s0,hr,he⟩
   have hcr:=hr c (List.mem_cons_self ..)
   exact ⟨back_short hc ht hcr,⟨s0,reach_nn _ _⟩,off_nn _ _,fun d hd=>hr d (List.mem_cons_of_mem _ hd),he⟩
  ·rintro s ⟨_,_,he⟩
   exact he
end Go.Td
/-
 Recall: the way ahead,Back,Blame,Recall.
-/
namespace Go.Td
open Go Go.Sx
abbrev Mp:=Int->Option Int
def MapOk (m:Mp):Prop:=∀ k v,m k=some v->0<=v∧v<=top32
theorem MapOk.get {m:Mp} (h:MapOk m) (k:Int):0<=(m k).getD 0∧(m k).getD 0<=top32:=by
 cases hm:m k with
 | none=>exact ⟨(show (0:Int)<=0 by decide),(show (0:Int)<=top32 by decide)⟩
 | some v=>exact h k v hm
theorem aheadK_get (i:Int) (m:Mp) (e k:Int):aheadK i m e k=cond (k==e) (some (zao [(m e).getD 0,1*2^i.toNat])) (m k):=rfl
theorem MapOk.step {m:Mp} (h:MapOk m) {i:Int} (hi:0<=i∧i<24) (e:Int):MapOk (aheadK i m e):=by
 intro k v hv
 rw [aheadK_get] at hv
 cases hk:(k==e) with
 | true =>
  rw [hk,cond_true] at hv
  cases hv
  rw [join2 _ _ (h.get e).1,one_shl]
  exact ⟨or_nn _ _,or_top (h.get e).2 (bit_32 (by omega))⟩
 | false=>rw [hk,cond_false] at hv;exact h k v hv
theorem MapOk.fold {i:Int} (hi:0<=i∧i<24):∀ (l:List Int) {m:Mp},MapOk m->MapOk (l.foldl (aheadK i) m)
 | [],_,h=>h
 | e::l,_,h=>MapOk.fold hi l (h.step hi e)
theorem aheadN_succ (l:List Batch) (n:Nat):aheadN l (n+1)=(bitsZ (l.getD n noB).1).foldl (aheadK ((n:Nat):Int)) (aheadN l n):=by
 rw [aheadN,List.range_succ,List.foldl_append];rfl
theorem aheadN_ok (l:List Batch):∀ n:Nat,n<=24->MapOk (aheadN l n)
 | 0,_=>fun _ _ h=>by cases h
 | n+1,h=>by rw [aheadN_succ];exact MapOk.fold (by omega) _ (aheadN_ok l n (by omega))
theorem v26 (x:List Batch) (h:k26.pre x):V26 x:=by
 obtain ⟨hl,hb⟩:x.length<=24∧∀ b∈x,0<=b.1∧b.1<=top32:=h
 refine ⟨fun s=>(0<=s.1∧s.1<=(x.length:Int))∧s.2=aheadN x s.1.toNat,fun s=>((x.length:Int) - s.1).toNat,⟨⟨by simp,by simp⟩,rfl⟩,?_⟩
 rintro ⟨i,m⟩ ⟨⟨i0,i1⟩,e⟩
 dsimp only at i0 i1 e
 obtain ⟨n,rfl⟩:∃ n:Nat,i=(n:Int):=⟨i.toNat,by omega⟩
 rw [Int.toNat_natCast] at e
 refine ⟨fun hd=>?_,fun hd=>?_⟩
 ·have hd:(n:Int)<(x.length:Int):=of_decide_eq_true hd
  have hm:x.getD n noB∈x:=zbi x noB n (by omega)
  obtain ⟨f0,f1⟩:=hb _ hm
  have hw:IntKind.u32.wrap (x.getD (Int.toNat (n:Int)) (0,0)).1=(x.getD n noB).1:=by
   rw [Int.toNat_natCast];exact wrap32u f0 f1
  dsimp only
  rw [hw]
  refine ⟨⟨i0,hd⟩,trivial,⟨f0,f1⟩,?_⟩
  refine ⟨fun r s=>MapOk s∧r.foldl (aheadK ((n:Nat):Int)) s=aheadN x (n+1),⟨by rw [e];exact aheadN_ok x n (by omega),by rw [aheadN_succ,e];rfl⟩,?_,?_⟩
  ·rintro c r s ⟨hs,he⟩
   exact ⟨shl32 ⟨i0,by omega⟩,join_ok (hs.get c).1 (hs.get c).2 ⟨i0,by omega⟩,trivial,rfl,rfl,hs.step (i:=(n:Int)) ⟨by omega,by omega⟩ c,he⟩
  ·rintro s ⟨_,he⟩
   have e3:((n:Int)+1).toNat=n+1:=by omega
   refine ⟨by simp only [Z.in64];omega,trivial,⟨⟨by show 0<=(n:Int)+1;omega,by show (n:Int)+1<=_;omega⟩,by show s=aheadN x ((n:Int)+1).toNat;rw [e3];exact he⟩,?_⟩
   show ((x.length:Int) - ((n:Int)+1)).toNat<((x.length:Int) - (n:Int)).toNat
   omega
 ·have hd:¬ (n:Int)<(x.length:Int):=of_decide_eq_false hd
  have:n=x.length:=by omega
  subst this
  exact e
theorem fold_bit {n:Nat} (hn:n<24):∀ (l:List Int) {m:Mp},MapOk m->∀ (k:Int) (j:Nat),(((l.foldl (aheadK (n:Nat)) m) k).getD 0).toNat.testBit j=(((m k).getD 0).toNat.testBit j||(decide (k∈l)&&decide (n=j)))
 | [],m,_,k,j=>by simp
 | e::l,m,h,k,j=>by
  rw [List.foldl_cons,fold_bit hn l (h.step (i:=(n:Int)) (by omega) e) k j,aheadK_get]
  by_cases hk:k=e
  ·subst hk
   have:(k==k)=true:=by simp
   rw [this,cond_true,Option.getD_some,join2 _ _ (h.get k).1,one_shl,or_bit,Int.toNat_natCast,bit_bit]
   have:decide (k∈k::l)=true:=by simp
   rw [this]
   cases ((m k).getD 0).toNat.testBit j<;>cases decide (n=j)<;>cases decide (k∈l)<;>rfl
  ·have h1:(k==e)=false:=by simpa using hk
   rw [h1,cond_false]
   have:decide (k∈e::l)=decide (k∈l):=decide_eq_decide.2 (by rw [List.mem_cons];exact ⟨fun h=>h.resolve_left hk,.inr⟩)
   rw [this]
theorem ahead_bit {l:List Batch} (hc:cardsB l=true) (k:Nat):∀ n,n<=l.length->∀ j:Nat,(((aheadN l n) (k:Int)).getD 0).toNat.testBit j=(decide (j<n)&&(l.getD j noB).1.toNat.testBit k)
 | 0,_,j=>by
  show ((none:Option Int).getD 0).toNat.testBit j=_
  simp
 | n+1,hn,j=>by
  have hl:=zdo hc
  rw [aheadN_succ,fold_bit (by omega) _ (aheadN_ok l n (by omega)),ahead_bit hc k n (by omega) j,bits_dec (from_top hc (by omega)).2]
  by_cases hj:n=j
  ·subst hj
   simp
  ·have h1:decide (j<n+1)=decide (j<n):=decide_eq_decide.2 (by omega)
   rw [h1,decide_eq_false hj,Bool.and_false,Bool.or_false]
theorem ahead_short {l:List Batch} (hc:cardsB l=true) (ht:Two l) {b:Int} (hb:0<=b∧b<(l.length:Int)):Short (wayA (zae l)) b:=by
 obtain ⟨i,rfl⟩:∃ n:Nat,b=(n:Int):=⟨b.toNat,by omega⟩
 have hl:=zdo hc
 have hok:=aheadN_ok l l.length hl
 refine ⟨by omega,trivial,hok.get _,fun c hcm=>?_⟩
 obtain ⟨j,rfl,_,hj⟩:=zbr.1 hcm
 have hj:(((aheadN l l.length) (i:Int)).getD 0).toNat.testBit j=true:=hj
 rw [ahead_bit hc i l.length (Nat.le_refl _) j,Bool.and_eq_true,decide_eq_true_eq] at hj
 obtain ⟨hj1,hj2⟩:=hj
 refine ⟨⟨by omega,trivial⟩,?_⟩
 obtain ⟨n,hn⟩:=ht.cut
 refine zdE (hok.get _).1 (Int.le_refl _) fun t=>?_
 show (((aheadN l l.length) (j:Int)).getD 0).toNat.testBit t=(0:Int).toNat.testBit t
 rw [ahead_bit hc j l.length (Nat.le_refl _) t]
 have hz:(0:Int).toNat.testBit t=false:=by simp
 rw [hz]
 cases hd:decide (t<l.length) with
 | false=>rfl
 | true =>
  have htl:=of_decide_eq_true hd
  rw [Bool.true_and]
  have hjn:n<=j:=by
   by_cases hlt:j<n
   ·have:=(hn j hj1).1 hlt
    rw [this] at hj2
    simp at hj2
   ·omega
  exact lt_bit.1 (hn t htl).2 j hjn
theorem v7 (x:(List Batch) × Int) (h:k7.pre x):V7 x:=by
 obtain ⟨l,b⟩:=x
 obtain ⟨hl,ht⟩:l.length<=big∧Two l:=h
 have ec:zaj (l,[])=cond (cardsB l) 0 1:=by unfold zaj;rfl
 simp only [V7,ec]
 refine ⟨trivial,trivial,trivial,⟨hl,by show 0<=big;omega⟩,fun h1=>⟨trivial,trivial,trivial,trivial,?_⟩,fun h1=>?_⟩
 ·cases hc:cardsB l with
  | true=>rw [hc] at h1;cases h1
  | false=>show (0,1)=zap (l,b);unfold zap;simp only [hc,cond_false]
 ·have hc:cardsB l=true:=by
   cases hc:cardsB l with
   | true=>rfl
   | false=>rw [hc] at h1;cases h1
  refine ⟨by simp only [Z.in64,big] at *;omega,trivial,fun h2=>⟨trivial,trivial,trivial,trivial,?_⟩,fun h2=>?_⟩
  ·have h2:(!inB b 0 ((l.length:Int) - 1))=true:=h2
   unfold zap
   simp only [hc,cond_true,not_iff.1.1 h2,cond_false]
  ·have h2:(!inB b 0 ((l.length:Int) - 1))=false:=h2
   have h3:=not_iff.2.1 h2
   have hb:=inB_iff.1 h3
   have hs:=back_short hc ht (b:=b) (by omega)
   have hr:zaf (wayB l,b)<=top32:=by
    have:=hs.at_
    exact or_top (bit_32 (by omega)) hs.val.2
   refine ⟨trivial,hs,trivial,trivial,trivial,trivial,?_⟩
   have hw:IntKind.i64.wrap (zaf (zca l,b))=zaf (wayB l,b):=wrap64u (reach_nn _ _) hr
   rw [hw]
   unfold zap
   simp only [hc,cond_true,h3]
theorem check_zero {l:List Batch} {a b:Int} (h:(zaj (l,[a,b])==0)=true):cardsB l=true∧(0<=a∧a<=(1*2^l.length:Int) - 1)∧(0<=b∧b<=(1*2^l.length:Int) - 1):=by
 unfold zaj at h
 cases hc:cardsB l with
 | false=>rw [hc] at h;cases h
 | true =>
  rw [hc] at h
  simp only [cond_true,List.any_cons,List.any_nil,Bool.or_false] at h
  cases ha:inB a 0 ((1*2^l.length:Int) - 1) with
  | false=>rw [ha] at h;cases h
  | true =>
   cases hb:inB b 0 ((1*2^l.length:Int) - 1) with
   | false=>rw [ha,hb] at h;cases h
   | true=>exact ⟨rfl,inB_iff.1 ha,inB_iff.1 hb⟩
theorem fold_le (f:Int->Int->Int) (n:Nat) (hf:∀ s b,s<bitZ n->f s b<bitZ n) (hn:∀ s b,0<=f s b):∀ (l:List Int) (s:Int),0<=s->s<bitZ n->0<=l.foldl f s∧l.foldl f s<bitZ n
 | [],_,h0,h=>⟨h0,h⟩
 | b::l,s,h0,h=>fold_le f n hf hn l (f s b) (hn _ _) (hf _ _ h)
theorem blame_lt (x:(List Batch) × Int × Int):0<=zav x∧zav x<bitZ x.1.length:=by
 unfold zav
 have h1:=bit_pos x.1.length
 have a:=fold_le (fun s b=>andZ s (zaf (wayB x.1,b))) x.1.length (fun _ _ h=>and_lt h) (fun _ _=>and_nn _ _) (bitsZ x.2.1) ((1*2^x.1.length:Int) - 1) (by rw [one_shl];omega) (by rw [one_shl];omega)
 exact fold_le (fun s b=>offZ s (zaf (wayB x.1,b))) x.1.length (fun _ _ h=>off_lt h) (fun _ _=>off_nn _ _) (bitsZ x.2.2) _ a.1 a.2
theorem v8 (x:(List Batch) × Int × Int) (h:k8.pre x):V8 x:=by
 obtain ⟨l,a,b⟩:=x
 obtain ⟨hl,ht⟩:l.length<=big∧Two l:=h
 refine ⟨⟨hl,by show 2<=big;simp only [big];omega⟩,fun h1=>?_,fun h1=>?_⟩
 ·have h1:(!(zaj (l,[a,b])==0))=true:=h1
  show (0,zaj (l,[a,b]))=zad (l,a,b)
  unfold zad
  simp only [not_iff.1.1 h1,cond_false]
 ·have h1:(!(zaj (l,[a,b])==0))=false:=h1
  have h1:=not_iff.2.1 h1
  obtain ⟨hc,ha,hb⟩:=check_zero h1
  have hlen:=zdo hc
  have ta:=(set_lt hlen ha.1 ha.2).1
  have tb:=(set_lt hlen hb.1 hb.2).1
  refine ⟨fun h2=>?_,fun h2=>?_⟩
  ·have h2:(a==0)=true:=h2
   show (0,4)=zad (l,a,b)
   unfold zad
   simp only [h1,cond_true,h2]
  ·have h2:(a==0)=false:=h2
   have wa:IntKind.u32.wrap a=a:=wrap32u ha.1 ta
   have wb:IntKind.u32.wrap b=b:=wrap32u hb.1 tb
   dsimp only
   rw [wa,wb]
   have hbl:=blame_lt (l,a,b)
   have h24:=bit_24 hlen
   have hbt:zav (l,a,b)<=top32:=by
    have:zav (l,a,b)<bitZ l.length:=hbl.2
    simp only [top32];omega
   refine ⟨⟨⟨hc,ht⟩,ha,hb⟩,fun h3=>?_,fun h3=>?_⟩
   ·show (0,6)=zad (l,a,b)
    unfold zad
    simp only [h1,cond_true,h2,cond_false,h3]
   ·rw [wrap64u hbl.1 hbt]
    unfold zad
    simp only [h1,cond_true,h2,cond_false,h3]
theorem soldN_succ (l:List Batch) (n:Nat):soldN l (n+1)=cond (decide (0<(l.getD n noB).2)) (zao [soldN l n,1*2^n]) (soldN l n):=by
 rw [soldN,List.range_succ,List.foldl_append];rfl
theorem soldN_bit (l:List Batch):∀ n,0<=soldN l n∧∀ j:Nat,(soldN l n).toNat.testBit j=(decide (j<n)&&decide (0<(l.getD j noB).2))
 | 0=>⟨(show (0:Int)<=0 by decide),fun j=>by show (0:Int).toNat.testBit j=_;simp⟩
 | n+1=>by
  obtain ⟨h1,h2⟩:=soldN_bit l n
  rw [soldN_succ]
  cases hd:decide (0<(l.getD n noB).2) with
  | true =>
   rw [cond_true,join2 _ _ h1,one_shl]
   refine ⟨or_nn _ _,fun j=>?_⟩
   rw [or_bit,bit_bit,h2]
   by_cases hj:n=j
   ·subst hj;rw [hd];simp
   ·have h3:decide (j<n+1)=decide (j<n):=decide_eq_decide.2 (by omega)
    rw [h3,decide_eq_false hj,Bool.or_false]
  | false =>
   rw [cond_false]
   refine ⟨h1,fun j=>?_⟩
   rw [h2]
   by_cases hj:n=j
   ·subst hj;rw [hd];simp
   ·have h3:decide (j<n+1)=decide (j<n):=decide_eq_decide.2 (by omega)
    rw [h3]
theorem soldN_lt (l:List Batch) (n:Nat):soldN l n<bitZ n:=lt_bit.2 fun j hj=>by
 rw [(soldN_bit l n).2,decide_eq_false (by omega)];rfl
theorem bitsAt_len:∀ n i x,(bitsAt n i x).length<=n
 | 0,_,_=>by simp [bitsAt]
 | n+1,i,x=>by
  have:=bitsAt_len n (i+1) x
  rw [bitsAt]
  cases x.testBit i with
  | true=>simp only [cond_true,List.length_cons];omega
  | false=>simp only [cond_false];omega
theorem bits_in {s:Int} {n:Nat} (h:s<bitZ n):∀ c∈bitsZ s,0<=c∧c<(n:Int):=by
 intro c hc
 obtain ⟨j,rfl,_,hj⟩:=zbr.1 hc
 have:j<n:=by
  by_cases hlt:j<n
  ·exact hlt
  ·rw [lt_bit.1 h j (by omega)] at hj;cases hj
 omega
theorem v9 (x:(List Batch) × Int × Int) (h:k9.pre x):V9 x:=by
 obtain ⟨l,a,b⟩:=x
 obtain ⟨hl,ht⟩:l.length<=big∧Two l:=h
 refine ⟨⟨hl,ht⟩,fun h1=>?_,fun h1=>?_⟩
 ·have h1:(!((zad (l,a,b)).2==0))=true:=h1
  show (0,(0,0),(zad (l,a,b)).2)=zai (l,a,b)
  unfold zai
  simp only [not_iff.1.1 h1,cond_false]
 ·have h1:(!((zad (l,a,b)).2==0))=false:=h1
  have h1:=not_iff.2.1 h1
  have hfix:cardsB l=true∧0<=(zad (l,a,b)).1∧(zad (l,a,b)).1<bitZ l.length:=by
   have hbl:=blame_lt (l,a,b)
   have hp:=bit_pos l.length
   unfold zad at h1 ⊢
   cases hk:(zaj (l,[a,b])==0) with
   | false =>
    simp only [hk,cond_false] at h1
    cases h1
   | true =>
    refine ⟨(check_zero hk).1,?_⟩
    simp only [hk,cond_true]
    cases (a==0) with
    | true=>simp only [cond_true];omega
    | false =>
     simp only [cond_false]
     cases (zav (l,a,b)==0) with
     | true=>simp only [cond_true];omega
     | false=>simp only [cond_false];exact hbl
  obtain ⟨hc,c0,c1⟩:=hfix
  have hlen:=zdo hc
  have h24:=bit_24 hlen
  generalize hcan:(zad (l,a,b)).1=can at *
  have hres:zai (l,a,b)=((reclAll l can).1,(reclAll l can).2.1,0):=by
   unfold zai
   simp only [h1,cond_true,hcan]
  have ct:can<=top32:=by simp only [top32];omega
  refine ⟨fun s=>(0<=s.1∧s.1<=(l.length:Int))∧s.2=soldN l s.1.toNat,fun s=>((l.length:Int) - s.1).toNat,⟨⟨by simp,by simp⟩,rfl⟩,?_⟩
  rintro ⟨i,sold⟩ ⟨⟨i0,i1⟩,e⟩
  dsimp only at i0 i1 e
  obtain ⟨n,rfl⟩:∃ n:Nat,i=(n:Int):=⟨i.toNat,by omega⟩
  rw [Int.toNat_natCast] at e
  have sn:=(soldN_bit l n).1
  have st:=soldN_lt l n
  have e3:((n:Int)+1).toNat=n+1:=by omega
  refine ⟨fun hd=>?_,fun hd=>?_⟩
  ·have hd:(n:Int)<(l.length:Int):=of_decide_eq_true hd
   have hb32:=bit_32 (show n<32 by omega)
   refine ⟨⟨i0,hd⟩,fun hs=>⟨shl32 ⟨i0,by omega⟩,join_ok (by dsimp only;rw [e];exact sn) (by dsimp only;rw [e];omega) ⟨i0,by omega⟩,by simp only [Z.in64];omega,rfl,⟨⟨by show 0<=(n:Int)+1;omega,by show (n:Int)+1<=_;omega⟩,?_⟩,?_⟩,fun hs=>⟨by simp only [Z.in64];omega,rfl,⟨⟨by show 0<=(n:Int)+1;omega,by show (n:Int)+1<=_;omega⟩,?_⟩,?_⟩⟩
   ·have hs:decide (0<(l.getD (Int.toNat (n:Int)) noB).2)=true:=hs
    rw [Int.toNat_natCast] at hs
    show zao [sold,1*2^(Int.toNat (n:Int))]=soldN l ((n:Int)+1).toNat
    rw [e3,soldN_succ,hs,cond_true,e,Int.toNat_natCast]
   ·show ((l.length:Int) - ((n:Int)+1)).toNat<((l.length:Int) - (n:Int)).toNat
    omega
   ·have hs:decide (0<(l.getD (Int.toNat (n:Int)) noB).2)=false:=hs
    rw [Int.toNat_natCast] at hs
    show sold=soldN l ((n:Int)+1).toNat
    rw [e3,soldN_succ,hs,cond_false,e]
   ·show ((l.length:Int) - ((n:Int)+1)).toNat<((l.length:Int) - (n:Int)).toNat
    omega
  ·have hd:¬ (n:Int)<(l.length:Int):=of_decide_eq_false hd
   have:n=l.length:=by omega
   subst this
   have hw:IntKind.u32.wrap can=can:=wrap32u c0 ct
   dsimp only
   rw [hw]
   have sn':0<=sold:=by rw [e];exact sn
   have st':sold<bitZ l.length:=by rw [e];exact st
   refine ⟨⟨hlen,fun y hy=>?_⟩,trivial,⟨c0,ct⟩,?_⟩
   ·obtain ⟨k,hk,rfl⟩:=List.getElem_of_mem hy
    have:=from_top hc hk
    rw [List.getD_eq_getElem?_getD,List.getElem?_eq_getElem hk,Option.getD_some] at this
    exact this
   refine ⟨fun r s=>(0<=s.2.1∧s.2.1<=top32)∧(∀ c∈r,0<=c∧c<(l.length:Int))∧r.foldl (reclStep l) (s.2.1,s.1,s.2.2)=reclAll l can,⟨⟨(show (0:Int)<=0 by decide),(show (0:Int)<=top32 by decide)⟩,bits_in c1,rfl⟩,?_,?_⟩
   ·rintro c r ⟨pen,out,fst⟩ ⟨⟨o0,o1⟩,hr,he⟩
    dsimp only at o0 o1 hr he ⊢
    have hcr:=hr c (List.mem_cons_self ..)
    have hs:=ahead_short hc ht hcr
    have hrn:=reach_nn (wayA (zae l)) c
    obtain ⟨own,hown⟩:∃ own,own=andZ (zaf (wayA (zae l),c)) (soldN l l.length):=⟨_,rfl⟩
    have own0:0<=own:=by rw [hown];exact and_nn _ _
    have ownl:own<bitZ l.length:=by
     rw [lt_bit]
     intro j hj
     rw [hown,and_bit,lt_bit.1 st j hj,Bool.and_false]
    have ownt:own<=top32:=by simp only [top32];omega
    have eown:((Int.toNat (zaf (wayA (zae l),c)) &&& Int.toNat sold:Nat):Int)=own:=by rw [hown,e];rfl
    rw [eown]
    have hstep:reclStep l (out,pen,fst) c=(zao [out,own],cond fst (sumZ l own,sumZ l own) (min pen.1 (sumZ l own),max pen.2 (sumZ l own)),false):=by
     unfold reclStep
     simp only [<-hown]
    rw [List.foldl_cons,hstep] at he
    have hjo:0<=zao [out,own]∧zao [out,own]<=top32:=by
     rw [join2 _ _ o0];exact ⟨or_nn _ _,or_top o1 ownt⟩
    have hr':∀ d∈r,0<=d∧d<(l.length:Int):=fun d hd=>hr d (List.mem_cons_of_mem _ hd)
    refine ⟨hs,⟨hrn,sn'⟩,trivial,⟨own0,ownt⟩,?_⟩
    refine ⟨fun q s=>(0<=s∧s+1048576*(q.length:Int)<=1048576*32)∧(∀ d∈q,0<=d∧d<(l.length:Int))∧q.foldl (fun n k=>n+(l.getD k.toNat noB).2) s=sumZ l own,⟨⟨(show (0:Int)<=0 by decide),?_⟩,bits_in ownl,rfl⟩,?_,?_⟩
    ·have:=bitsAt_len 32 0 own.toNat
     show (0:Int)+1048576*((bitsZ own).length:Int)<=1048576*32
     have:(bitsZ own).length<=32:=this
     omega
    ·rintro d q s ⟨⟨s0,s1⟩,hq,hf⟩
     obtain ⟨d0,d1⟩:=hq d (List.mem_cons_self ..)
     obtain ⟨_,_,z0,z1⟩:=zdp hc (i:=d.toNat) (by omega)
     rw [List.length_cons] at s1
     have z0:0<=(l.getD d.toNat (0,0)).2:=z0
     have z1:(l.getD d.toNat (0,0)).2<=1048576:=z1
     exact ⟨⟨d0,d1⟩,by simp only [Z.in64];omega,rfl,rfl,rfl,rfl,rfl,⟨by omega,by omega⟩,fun t ht=>hq t (List.mem_cons_of_mem _ ht),hf⟩
    ·rintro s ⟨_,_,hf⟩
     have hf:s=sumZ l own:=hf
     subst hf
     refine ⟨⟨by show 2<=big;simp only [big];omega,fun y hy=>?_⟩,fun hfst=>?_,fun hfst=>?_⟩
     ·have hy:y∈[out,own]:=hy
      simp only [List.mem_cons,List.not_mem_nil,or_false] at hy
      rcases hy with rfl | rfl
      ·exact ⟨o0,o1⟩
      ·exact ⟨own0,ownt⟩
     ·have hfst:fst=true:=hfst
      rw [hfst,cond_true] at he
      refine ⟨rfl,rfl,hjo,hr',?_⟩
      rw [Int.min_self,Int.max_self]
      exact he
     ·have hfst:fst=false:=hfst
      rw [hfst,cond_false] at he
      refine ⟨rfl,rfl,hjo,hr',?_⟩
      rw [hfst]
      exact he
   ·rintro ⟨pen,out,fst⟩ ⟨⟨o0,o1⟩,_,he⟩
    dsimp only at o0 o1 he ⊢
    have he:(out,pen,fst)=reclAll l can:=he
    rw [wrap64u o0 o1,hres,<-he]
end Go.Td
