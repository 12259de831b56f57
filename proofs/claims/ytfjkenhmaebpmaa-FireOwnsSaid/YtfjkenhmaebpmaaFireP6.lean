/-
  Chapter 3: the condition of Plan, proved.
-/
import Derived.Test.YtfjkenhmaebpmaaFireP5
set_option linter.all false
set_option maxRecDepth 100000
set_option linter.unusedVariables false
namespace Go.Fire
open Go Go.Sx
theorem sweep_step {step:Int} {ok:Int→Bool} {f:Fire} {l:List Stand} {from_:State} {n:Nat} {set:Int} {st:Came × List State} (h:set≤2000) :
  sweep step ok f l from_ (n+1) set st=sweep step ok f l from_ n (set+step) (cond (ok set) (enterV f l set from_ st) st):=by
 rw [sweep,decide_eq_true h];rfl
theorem sweep_end {step:Int} {ok:Int→Bool} {f:Fire} {l:List Stand} {from_:State} {n:Nat} {set:Int} {st:Came × List State} (h:¬ set≤2000):sweep step ok f l from_ n set st=st:=by
 cases n with
 | zero=>rfl
 | succ n=>rw [sweep,decide_eq_false h];rfl
structure SW (step:Int) (ok:Int→Bool) (f:Fire) (l:List Stand) (from_:State) (c₀:Came) (q₀:List State) (S:Came × List State) (set:Int) (c:Came) (q:List State):Prop where
 at_:∃ j n:Nat,set=(j:Int)*step∧j+n=50∧j≤41∧S=sweep step ok f l from_ n set (c,q)
 inv:Inv step f.2.2.2.1 c q
 next:Next step c₀ q₀ c q
theorem mul_ge {j:Nat} {step:Int} (hs:50≤step):(j:Int)*50≤(j:Int)*step:=Int.mul_le_mul_of_nonneg_left hs (Int.natCast_nonneg _)
theorem SW.pos {step:Int} {ok:Int→Bool} {f:Fire} {l:List Stand} {from_:State} {c₀:Came} {q₀:List State} {S:Came × List State} {set:Int} {c:Came} {q:List State} (h:SW step ok f l from_ c₀ q₀ S set c q) (hs:50≤step):0≤set:=by
 obtain ⟨j,n,e,_⟩:=h.at_
 have:=mul_ge (j:=j) hs
 omega
theorem SW.on {step:Int} {ok:Int→Bool} {f:Fire} {l:List Stand} {from_:State} {c₀:Came} {q₀:List State} {S:Came × List State} {set:Int} {c:Came} {q:List State} (h:SW step ok f l from_ c₀ q₀ S set c q) (hs:50≤step) (hle:set≤2000)
  (hh:1≤f.2.2.2.1∧f.2.2.2.1≤12) (hf:chainS c₀ 39 from_) (hb:0≤from_.2∧from_.2≤f.2.2.2.1) {c':Came} {q':List State} (e:(c',q')=cond (ok set) (enterV f l set from_ (c,q)) (c,q)) :
  SW step ok f l from_ c₀ q₀ S (set+step) c' q':=by
 obtain ⟨j,n,e1,e2,e3,e4⟩:=h.at_
 have hj:=mul_ge (j:=j) hs
 have hj40:j≤40:=by omega
 obtain ⟨m,rfl⟩:∃ m,n=m+1:=⟨n - 1,by omega⟩
 rw [sweep_step hle,←e] at e4
 have hset:∃ j:Nat,j≤40∧set=(j:Int)*step∧set≤2000:=⟨j,hj40,e1,hle⟩
 have hE:=enter_inv (l:=l) hh hset (h.next.ch _ _ hf) hb h.inv
 refine ⟨⟨j+1,m,by rw [e1,Int.natCast_add,Int.add_mul];simp,by omega,by omega,e4⟩,?_,?_⟩
 ·cases ho:ok set with
  | true=>rw [ho] at e;have e:(c',q')=enterV f l set from_ (c,q):=e;rw [←e] at hE;exact hE.1
  | false=>rw [ho] at e;cases e;exact h.inv
 ·cases ho:ok set with
  | true=>rw [ho] at e;have e:(c',q')=enterV f l set from_ (c,q):=e;rw [←e] at hE;exact h.next.trans hE.2
  | false=>rw [ho] at e;cases e;exact h.next
theorem SW.done {step:Int} {ok:Int→Bool} {f:Fire} {l:List Stand} {from_:State} {c₀:Came} {q₀:List State} {S:Came × List State} {set:Int} {c:Came} {q:List State} (h:SW step ok f l from_ c₀ q₀ S set c q) (hle:¬ set≤2000):S=(c,q):=by
 obtain ⟨j,n,_,_,_,e4⟩:=h.at_
 rw [e4,sweep_end hle]
theorem SW.lenq {step:Int} {ok:Int→Bool} {f:Fire} {l:List Stand} {from_:State} {c₀:Came} {q₀:List State} {S:Came × List State} {set:Int} {c:Came} {q:List State} (h:SW step ok f l from_ c₀ q₀ S set c q):q.length≤533 :=
 Nat.le_trans h.inv.len (cnt_le _ _)
def prevAt (places:List Int) (i:Nat):Int:=match i with | 0=>-1 | j+1=>places.getD j 0
theorem good_set {step hold:Int} {s:State} (h:good step hold s) (hs:50≤step):setOk s.1:=by
 obtain ⟨⟨j,hj,e,h2⟩,_⟩:=h
 have:=mul_ge (j:=j) hs
 exact ⟨by omega,h2⟩
theorem SW.start {step:Int} {ok:Int→Bool} {f:Fire} {l:List Stand} {from_:State} {c:Came} {q:List State} (h:Inv step f.2.2.2.1 c q):SW step ok f l from_ c q (sweep step ok f l from_ 50 0 (c,q)) 0 c q :=
 ⟨⟨0,50,by simp,rfl,by omega,rfl⟩,h,.refl _ _ _⟩
abbrev base (k:Kiln) (f:Fire):Plnr:=(k,f,[],(fun _=>none),[])
theorem v21 (x:Kiln × Fire × List Int) (_:k21.pre x):V21 x:=by
 obtain ⟨k,f,places⟩:=x
 have e:fire_Plan (k,f,places)=planV k f places:=rfl
 have ea:[f].all fireB=fireB f:=by simp
 refine ⟨trivial,fun _=>by show (1:Nat)≤big;simp only [big];omega,fun h=>?_,fun h=>?_⟩
 ·have h:((!kilnB k)||(!([f].all fireB)))=true:=h
  rw [ea] at h
  rw [e,planV,h];rfl
 have h:((!kilnB k)||(!([f].all fireB)))=false:=h
 rw [ea] at h
 obtain ⟨hk,hf⟩:kilnB k=true∧fireB f=true:=by simpa using h
 have K:=kiln_iff.1 hk
 have hn:=K.len
 have hst:=K.step
 have F:=fire_iff.1 hf
 have hh:1≤f.2.2.2.1∧f.2.2.2.1≤12:=by omega
 have eP:fire_Plan (k,f,places)=cond (!placesB k places (-1)||(places.length:Int)==0) ([],2) (searchV k f (standsOf k f places) 600 (startV k f (standsOf k f places))):=by rw [e,planV,h];rfl
 refine ⟨fun s=>s.2.1=base k f∧∃ i:Nat,s.1=(i:Int)∧i≤places.length∧s.2.2=standsOf k f (places.take i)∧placesB k places (-1)=placesB k (places.drop i) (prevAt places i)∧((i:Int) - 1≤prevAt places i∧prevAt places i<(k.1.length:Int))∧∀ n∈places.take i,0≤n∧n<(k.1.length:Int),
  fun s=>((places.length:Int) - s.1).toNat,⟨rfl,0,rfl,Nat.zero_le _,rfl,rfl,⟨by show ((0:Nat):Int) - 1≤-1;omega,by show (-1:Int)<_;omega⟩,fun n hn=>by simp at hn⟩,?_⟩
 rintro ⟨i0,b0,stands⟩ ⟨hb,i,hi0,g1,g2,g3,g4,g5⟩
 simp only at hb hi0 g2
 subst hb;subst hi0
 refine ⟨fun hd=>?_,fun hd=>?_⟩
 ·have hd:(i:Int)<(places.length:Int):=of_decide_eq_true hd
  obtain ⟨n,hnn⟩:∃ n,n=places.getD i 0:=⟨_,rfl⟩
  have hdr:=drop_getD places 0 i (by omega)
  rw [←hnn] at hdr
  rw [hdr,placesB] at g3
  have hc:((!inB n 0 ((k.1.length:Int) - 1))||(decide ((0:Int)<(i:Int))&&decide (n≤places.getD ((i:Int) - 1).toNat 0)))=!(inB n 0 ((k.1.length:Int) - 1)&&decide (prevAt places i<n)):=by
   cases hin:inB n 0 ((k.1.length:Int) - 1) with
   | false=>rfl
   | true =>
    have:=inB_iff.1 hin
    cases i with
    | zero =>
     have h1:prevAt places 0<n:=by show (-1:Int)<n;omega
     have h2:decide ((0:Int)<((0:Nat):Int))=false:=rfl
     rw [decide_eq_true h1,h2];rfl
    | succ j =>
     have hp:places.getD j 0=prevAt places (j+1):=rfl
     rw [show (((j+1:Nat):Int) - 1).toNat=j by omega,decide_eq_true (show (0:Int)<((j+1:Nat):Int) by omega),hp]
     by_cases hlt:prevAt places (j+1)<n
     ·rw [decide_eq_true hlt,decide_eq_false (show ¬ n≤prevAt places (j+1) by omega)];rfl
     ·rw [decide_eq_false hlt,decide_eq_true (show n≤prevAt places (j+1) by omega)];rfl
  refine ⟨⟨by show (0:Int)≤(i:Int);omega,hd⟩,by simp only [Z.in64];omega,trivial,fun _=>by simp only [Z.in64];omega,fun hg=>?_,fun hv=>?_,fun hv=>?_⟩
  ·have:(0:Int)<(i:Int):=of_decide_eq_true hg.1
   exact ⟨by show (0:Int)≤(i:Int) - 1;omega,by show (i:Int) - 1<(places.length:Int);omega⟩
  ·have hv:((!inB (places.getD i 0) 0 ((k.1.length:Int) - 1))||(decide ((0:Int)<(i:Int))&&decide (places.getD i 0≤places.getD ((i:Int) - 1).toNat 0)))=true:=hv
   rw [←hnn,hc] at hv
   rw [not_iff.1.1 hv,Bool.false_and] at g3
   rw [eP,g3];rfl
  ·have hv:((!inB (places.getD i 0) 0 ((k.1.length:Int) - 1))||(decide ((0:Int)<(i:Int))&&decide (places.getD i 0≤places.getD ((i:Int) - 1).toNat 0)))=false:=hv
   rw [←hnn,hc] at hv
   have hv:=not_iff.2.1 hv
   rw [hv,Bool.true_and] at g3
   simp only [Bool.and_eq_true] at hv
   have hin:=inB_iff.1 hv.1
   have hlt:prevAt places i<n:=of_decide_eq_true hv.2
   have htk:places.take (i+1)=places.take i++[n]:=by
    rw [hnn,List.take_add_one]
    simp [List.getD,show i<places.length by omega]
   have e14:stands++((List.replicate 1 ((([],0,0,0),(0,0,0,0,0,0),(0,0),0,0):Stand)).set 0 (k,f,k.1.getD n.toNat ((0,0),0,0)))=standsOf k f (places.take (i+1)):=by
    rw [htk,g2,standsOf,standsOf,List.map_append];rfl
   have hlen:(standsOf k f (places.take (i+1))).length=i+1:=by simp [standsOf];omega
   have hn1:0≤places.getD i 0:=by rw [←hnn];exact hin.1
   have hn2:places.getD i 0<(k.1.length:Int):=by rw [←hnn];omega
   refine ⟨⟨hn1,hn2⟩,?_,by simp only [Z.in64];omega,rfl,rfl,⟨rfl,i+1,by simp only;omega,by omega,?_,?_,?_,?_⟩,by simp only;omega⟩
   ·have:Z.roomy 14 ((standsOf k f (places.take (i+1))).length:Int):=roomy_of (by omega) (by omega) (by rw [hlen];omega)
    rw [←e14,hnn] at this
    exact this
   ·rw [hnn] at e14;exact e14
   ·show _=placesB k (places.drop (i+1)) (places.getD i 0)
    rw [←hnn];exact g3
   ·show ((i+1:Nat):Int) - 1≤places.getD i 0∧places.getD i 0<_
    rw [←hnn];omega
   ·intro m hm
    rw [htk] at hm
    rcases List.mem_append.1 hm with hm | hm
    ·exact g5 m hm
    ·rw [List.mem_singleton.1 hm];omega
 have hd:¬ (i:Int)<(places.length:Int):=of_decide_eq_false hd
 have hi:i=places.length:=by omega
 rw [hi,List.drop_eq_nil_of_le (Nat.le_refl _)] at g3
 have g3:placesB k places (-1)=true:=g3
 have htk:places.take i=places:=List.take_of_length_le (by omega)
 rw [htk] at g2 g5
 rw [g3,←g2] at eP
 refine ⟨fun h0=>?_,fun h0=>?_⟩
 ·have h0:((places.length:Int)==0)=true:=h0
  rw [eP,h0];rfl
 have h0:((places.length:Int)==0)=false:=h0
 have eP:fire_Plan (k,f,places)=searchV k f stands 600 (startV k f stands):=by rw [eP,h0];rfl
 have hl:standsOk stands:=by
  refine ⟨by rw [g2,standsOf,List.length_map];omega,fun s hs=>?_⟩
  rw [g2] at hs
  obtain ⟨n,hm,rfl⟩:=List.mem_map.1 hs
  have:=g5 n hm
  exact ⟨K.err,K.place _ (getD_mem' k.1 ((0,0),0,0) n this.1 this.2),hf⟩
 have a1:0≤f.1∧f.1≤4000:=by omega
 have a2:0≤f.2.2.1∧f.2.2.1≤4000:=by omega
 refine ⟨fun s=>s.2.2.1=base k f∧SW k.2.2.2 (fun set=>allCold stands set f.1&&allCold stands set f.2.2.1) f stands noneS (fun _=>none) [] (startV k f stands) s.1 s.2.1 s.2.2.2,fun s=>(100000 - s.1).toNat,
  ⟨rfl,.start ⟨Nat.zero_le _,fun s hs=>by cases hs⟩⟩,?_⟩
 rintro ⟨set,c,b0,q⟩ ⟨hb,hS⟩
 simp only at hb hS
 subst hb
 refine ⟨fun hd=>?_,fun hd=>?_⟩
 ·have hle:set≤2000:=of_decide_eq_true hd
  have hp:=hS.pos hst.1
  have hset:setOk set:=⟨hp,hle⟩
  have on:=fun {c' q'} e=>hS.on (c':=c') (q':=q') hst.1 hle hh (.inl rfl) (by show 0≤(0:Int)∧(0:Int)≤f.2.2.2.1;omega) e
  refine ⟨⟨hl,hset,a1⟩,fun _=>⟨hl,hset,a2⟩,fun hv=>⟨trivial,trivial,trivial,?_⟩,fun hv=>⟨by simp only [Z.in64];omega,rfl,⟨rfl,on ?_⟩,by simp only;omega⟩⟩
  ·have hv:(allCold stands set f.1&&allCold stands set f.2.2.1)=true:=hv
   exact enter_ok (f:=f) (l:=stands) (set:=set) (from_:=noneS) (c:=c) (q:=q)
    (A:=fun c' q'=>Z.in64 (set+k.2.2.2)∧(stands=stands∧((base k f=base k f∧SW k.2.2.2 (fun set=>allCold stands set f.1&&allCold stands set f.2.2.1) f stands noneS (fun _=>none) [] (startV k f stands) (set+k.2.2.2) c' q')∧(100000 - (set+k.2.2.2)).toNat<(100000 - set).toNat)))
    hl hset (by show 0≤(0:Int)∧(0:Int)≤12;omega) hS.lenq ⟨by simp only [Z.in64];omega,rfl,⟨rfl,on (by simp only [hv];rfl)⟩,by omega⟩
  ·have hv:(allCold stands set f.1&&allCold stands set f.2.2.1)=false:=hv
   simp only [hv];rfl
 have hle:¬ set≤2000:=of_decide_eq_false hd
 have hdone:=hS.done hle
 have hinv:=hS.inv
 rw [hdone] at eP
 clear hdone hS hd hle
 refine ⟨fun s=>s.2.1=base k f∧Inv k.2.2.2 f.2.2.2.1 s.1 s.2.2∧∃ n:Nat,600+s.2.2.length≤n+cnt k.2.2.2 s.1∧fire_Plan (k,f,places)=searchV k f stands n (s.1,s.2.2),fun s=>600+s.2.2.length - cnt k.2.2.2 s.1,
  ⟨rfl,hinv,600,by have:=hinv.len;simp only;omega,eP⟩,?_⟩
 rintro ⟨c,b0,q⟩ ⟨hb,hI,n,hn1,hR⟩
 simp only at hb hI hn1 hR
 subst hb
 have hcnt:=cnt_le k.2.2.2 c
 refine ⟨trivial,trivial,trivial,fun hq=>?_,fun hq=>?_⟩
 ·have hq:((q.length:Int)==0)=true:=hq
  have hq:q=[]:=List.eq_nil_of_length_eq_zero (by simpa using hq)
  subst hq
  refine ⟨trivial,trivial,trivial,trivial,trivial,trivial,fun _=>?_,fun hh=>(by cases hh)⟩
  rw [hR]
  cases n<;>rfl
 have hq:((q.length:Int)==0)=false:=hq
 cases q with
 | nil=>cases hq
 | cons s q =>
  simp only [List.length_cons] at hn1
  obtain ⟨m,rfl⟩:∃ m,n=m+1:=⟨n - 1,by omega⟩
  obtain ⟨hg,hch⟩:=hI.st s List.mem_cons_self
  have hs1:=good_set hg hst.1
  have hs2:=hg.2
  have hIq:Inv k.2.2.2 f.2.2.2.1 c q:=⟨by have:=hI.len;simp only [List.length_cons] at this;omega,fun t ht=>hI.st t (List.mem_cons_of_mem _ ht)⟩
  refine ⟨⟨by show (0:Int)≤0;omega,by show (0:Int)<((s::q).length:Int);simp only [List.length_cons];omega⟩,⟨by show (0:Int)≤1;omega,by show (1:Int)≤1;omega,by show (1:Int)≤((s::q).length:Int);simp only [List.length_cons];omega⟩,
   trivial,trivial,trivial,trivial,trivial,trivial,fun hh=>(by cases hh),fun _=>⟨chainS_chain (chainS_mono (by omega) hch),fun _=>⟨hl,hs1,a1⟩,fun hv=>?_,fun hv=>?_⟩⟩
  ·have hv:(s.2==f.2.2.2.1&&allCold stands s.1 f.1)=true:=hv
   rw [hR,searchV];simp only [hv];rfl
  have hv:(s.2==f.2.2.2.1&&allCold stands s.1 f.1)=false:=hv
  have hR:fire_Plan (k,f,places)=searchV k f stands m (cond (decide ((progOf c s).length<40)) (sweep k.2.2.2 (followsV k.2.2.1 f stands s.1) f stands s 50 0 (c,q)) (c,q)):=by
   rw [hR,searchV];simp only [hv];rfl
  by_cases hlt:(progOf c s).length<40
  ·rw [decide_eq_true hlt,cond_true] at hR
   have h39:chainS c 39 s:=chainS_mono (by rw [progOf,List.length_reverse] at hlt;omega) (chainS_len (m:=50) hch (by omega))
   refine ⟨fun t=>t.2.2.1=base k f∧SW k.2.2.2 (followsV k.2.2.1 f stands s.1) f stands s c q (sweep k.2.2.2 (followsV k.2.2.1 f stands s.1) f stands s 50 0 (c,q)) t.1 t.2.1 t.2.2.2,fun t=>(100000 - t.1).toNat,⟨rfl,.start hIq⟩,?_⟩
   rintro ⟨set,c',b0,q'⟩ ⟨hb,hS⟩
   simp only at hb hS
   subst hb
   refine ⟨fun hd=>?_,fun hd=>?_⟩
   ·have hd:(decide (set≤2000)&&decide (((progOf c s).length:Int)<40))=true:=hd
    simp only [Bool.and_eq_true] at hd
    have hle:set≤2000:=of_decide_eq_true hd.1
    have hp:=hS.pos hst.1
    have hset:setOk set:=⟨hp,hle⟩
    have on:=fun {c'' q''} e=>hS.on (c':=c'') (q':=q'') hst.1 hle hh h39 hs2 e
    refine ⟨⟨hl,hf,hs1,hset⟩,fun hv=>⟨trivial,trivial,trivial,?_⟩,fun hv=>⟨by simp only [Z.in64];omega,rfl,rfl,rfl,rfl,⟨rfl,on ?_⟩,by simp only;omega⟩⟩
    ·have hv:followsV k.2.2.1 f stands s.1 set=true:=hv
     exact enter_ok (f:=f) (l:=stands) (set:=set) (from_:=s) (c:=c') (q:=q')
      (A:=fun c'' q''=>Z.in64 (set+k.2.2.2)∧(stands=stands∧(s=s∧(s=s∧(progOf c s=progOf c s∧((base k f=base k f∧SW k.2.2.2 (followsV k.2.2.1 f stands s.1) f stands s c q (sweep k.2.2.2 (followsV k.2.2.1 f stands s.1) f stands s 50 0 (c,q)) (set+k.2.2.2) c'' q'')∧(100000 - (set+k.2.2.2)).toNat<(100000 - set).toNat))))))
      hl hset ⟨hs2.1,by omega⟩ hS.lenq ⟨by simp only [Z.in64];omega,rfl,rfl,rfl,rfl,⟨rfl,on (by simp only [hv];rfl)⟩,by omega⟩
    ·have hv:followsV k.2.2.1 f stands s.1 set=false:=hv
     simp only [hv];rfl
   ·have hd:(decide (set≤2000)&&decide (((progOf c s).length:Int)<40))=false:=hd
    rw [decide_eq_true (show ((progOf c s).length:Int)<40 by omega),Bool.and_true] at hd
    have hle:¬ set≤2000:=of_decide_eq_false hd
    rw [hS.done hle] at hR
    have hx:=hS.next.cnt
    have hy:=cnt_le k.2.2.2 c'
    exact ⟨rfl,⟨rfl,hS.inv,m,by simp only;omega,hR⟩,by simp only [List.length_cons];omega⟩
  ·rw [decide_eq_false hlt,cond_false] at hR
   refine ⟨fun t=>t=(0,c,base k f,q),fun _=>0,rfl,?_⟩
   rintro _ rfl
   refine ⟨fun hd=>?_,fun hd=>⟨rfl,⟨rfl,hIq,m,by simp only;omega,hR⟩,by simp only [List.length_cons];omega⟩⟩
   have hd:(decide ((0:Int)≤2000)&&decide (((progOf c s).length:Int)<40))=true:=hd
   simp only [Bool.and_eq_true] at hd
   have:=of_decide_eq_true hd.2
   omega
end Go.Fire
