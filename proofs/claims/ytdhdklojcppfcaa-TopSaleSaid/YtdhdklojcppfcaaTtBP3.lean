/-
  Box: what lacks most, how many boxes.
-/
import Derived.Test.YtdhdklojcppfcaaTtBP2
set_option linter.all false
set_option maxRecDepth 100000
set_option maxHeartbeats 4000000
set_option linter.unusedVariables false
open Int renaming le_refl->ydz
open List renaming foldl_cons->ybD,mem_append->yas,mem_cons->yaq,mem_cons_of_mem->yal,mem_cons_self->yam,mem_singleton->yat
open Nat renaming pow_le_pow_right->ydH
namespace Go.Tt
open Go Go.Sx
structure WorstIs (d:Int->Int) (l:List Int) (b:Int × Int):Prop where
 nn:0<=b.2
 atw:b.2=0\/(b.1∈l/\b.2=d b.1)
 le:∀ s∈l,d s<=b.2
theorem zjh (d:Int->Int):∀ (l p:List Int) (b:Int × Int),WorstIs d p b->WorstIs d (p++l) (l.foldl (fun b s=>cond (decide (b.2<d s)) (s,d s) b) b)
 | [],p,b,h=>by rw [List.append_nil];exact h
 | a::l,p,b,h=>by
  have:=zjh d l (p++[a]) (cond (decide (b.2<d a)) (a,d a) b) (by
   cases hd:decide (b.2<d a) with
   | true =>
    have hd:=of_decide_eq_true hd
    have:=h.nn
    refine ⟨by show 0<=d a;omega,.inr ⟨yas.2 (.inr yam),rfl⟩,fun s hs=>?_⟩
    show d s<=d a
    rcases yas.1 hs with hs | hs
    ·have:=h.le s hs;omega
    ·rw [yat.1 hs];exact ydz _
   | false =>
    have hd:=of_decide_eq_false hd
    refine ⟨h.nn,h.atw.imp_right fun ⟨h1,h2⟩=>⟨yas.2 (.inl h1),h2⟩,fun s hs=>?_⟩
    show d s<=b.2
    rcases yas.1 hs with hs | hs
    ·exact h.le s hs
    ·rw [yat.1 hs];omega)
  rw [List.append_assoc] at this
  exact this
theorem zpx (d:Int->Int) (l:List Int):WorstIs d l (worstV d l) :=
 zjh d l [] (0,0) ⟨ydz _,.inl rfl,(fun _ h=>by cases h)⟩
theorem zhZ {d e:Int->Int}:∀ (l:List Int) (b:Int × Int),(∀ s∈l,d s=e s)->l.foldl (fun b s=>cond (decide (b.2<d s)) (s,d s) b) b=l.foldl (fun b s=>cond (decide (b.2<e s)) (s,e s) b) b
 | [],_,_=>rfl
 | a::l,b,h=>by
  rw [ybD,ybD,h a yam,zhZ l _ fun s hs=>h s (yal _ hs)]
theorem znA (d:Int->Int) (l:List Int) (i:Int) (h0:0<=i) (h:i<(l.length:Int)):worstV d (l.take (i+1).toNat)=cond (decide ((worstV d (l.take i.toNat)).2<d (l.getD i.toNat 0))) (l.getD i.toNat 0,d (l.getD i.toNat 0)) (worstV d (l.take i.toNat)):=by
 rw [worstV,zig l i h0 h,List.foldl_append];rfl
theorem znJ {k:Stock} (h:StockOk k) (s:Int):0<=stockV k s/\stockV k s<=256*1073741824:=by
 constructor
 ·rw [zf];exact zbc fun t _=>(ofAt_bd h s t).1
 ·have:=sumN_le (n:=256) (f:=ofAt k s) (g:=fun _=>1073741824) fun t _=>(ofAt_bd h s t).2
  have e:sumN 256 (fun _=>(1073741824:Int))=256*1073741824:=by decide
  rw [e] at this
  exact this
theorem v152 (x:Stock × (List Int) × List Int) (h:k152.pre x):V152 x:=by
 obtain ⟨hk,⟨h8,hn⟩,hl,hs⟩:StockOk x.1/\(x.2.1.length<=8/\∀ n∈x.2.1,0<=n/\n<=most40)/\x.2.2.length<=big/\∀ s∈x.2.2,smallSet s:=h
 obtain ⟨d,hd⟩:∃ d:Int->Int,d=fun s=>sumV s x.2.1 - stockV x.1 s:=⟨_,rfl⟩
 have hde:∀ s,zbB (s,x.2.1) - zbj (x.1,s)=d s:=fun s=>by rw [hd];rfl
 have hval:zce x=worstV d x.2.2:=by rw [hd];rfl
 simp only [V152,hde,hval]
 refine ⟨fun s=>(0<=s.2.2/\s.2.2<=(x.2.2.length:Int))/\(s.1,s.2.1)=worstV d (x.2.2.take s.2.2.toNat),fun s=>((x.2.2.length:Int) - s.2.2).toNat,⟨⟨by simp,by simp⟩,rfl⟩,?_⟩
 rintro ⟨b,n,i⟩ ⟨⟨i0,i1⟩,e⟩
 simp only at i0 i1 e ⊢
 refine ⟨fun hd=>?_,fun hd=>?_⟩
 ·have hd:i<(x.2.2.length:Int):=of_decide_eq_true hd
  have hm:=hs _ (zbx x.2.2 0 i i0 hd)
  have hst:=znA d x.2.2 i i0 hd
  rw [<-e] at hst
  have b1:=sum_b40 h8 hn (x.2.2.getD i.toNat 0)
  have b2:=znJ hk (x.2.2.getD i.toNat 0)
  refine ⟨⟨i0,hd⟩,⟨hm.1,h8,hn⟩,⟨hk,hm⟩,?_,fun hc=>⟨?_,⟨⟨by omega,by omega⟩,?_⟩,by omega⟩,fun hc=>⟨?_,⟨⟨by omega,by omega⟩,?_⟩,by omega⟩⟩
  ·rw [<-hde]
   show Z.in64 (sumV _ _ - stockV _ _)
   simp only [Z.in64,most40] at *;omega
  ·simp only [Z.in64,big] at *;omega
  ·rw [hst];simp only [hc,cond_true]
  ·simp only [Z.in64,big] at *;omega
  ·rw [hst];simp only [hc,cond_false]
 ·have hd:¬ i<(x.2.2.length:Int):=of_decide_eq_false hd
  rw [e,List.take_of_length_le (by omega)]
theorem v95 (x:(List Int) × List Pile) (h:k95.pre x):V95 x:=by
 have h:BoxOk x.1 x.2:=h
 have hp:∀ p∈x.2,smallSet p.1:=fun p hp=>(h.pile p hp).1
 refine ⟨⟨h.l8,h.pile⟩,trivial,⟨⟨by show (0:Int)<=(x.1.length:Int);omega,by show (x.1.length:Int)<=8;have:=h.n8;omega⟩,?_⟩,⟨new_ok h.l8 h.pile,⟨h.n8,h.need⟩,?_,fun s hs=>zjx h.n8 hs⟩,?_⟩
 ·show (setsV x.1.length).length<=big
  rw [zhL]
  have:(2:Nat)^x.1.length<=2^8:=ydH (by decide) h.n8
  simp only [big];omega
 ·show (setsV x.1.length).length<=big
  rw [zhL]
  have:(2:Nat)^x.1.length<=2^8:=ydH (by decide) h.n8
  simp only [big];omega
 ·show worstV (fun s=>sumV s x.1 - stockV (newV x.2) s) (setsV x.1.length)=worstV (lacksV x.1 x.2) (setsV x.1.length)
  exact zhZ _ _ fun s _=>by rw [zjp hp,lacksV]
theorem v75 (x:(List Int) × List Pile) (h:k75.pre x):V75 x:=⟨h,rfl⟩
theorem zkC (need:List Int) (l:List Pile):WorstIs (lacksV need l) (setsV need.length) (lackB need l):=zpx _ _
theorem can_iff {need:List Int} {l:List Pile}:canF need l=true↔∀ s∈setsV need.length,sumV s need<=haveV l s:=by
 have h:=zkC need l
 rw [canF,beq_iff_eq]
 constructor
 ·intro e s hs
  have:=h.le s hs
  rw [e,lacksV] at this
  omega
 ·intro hall
  rcases h.atw with e | ⟨h1,h2⟩
  ·exact e
  ·have h3:=hall _ h1
   have:=h.nn
   rw [lacksV] at h2
   omega
structure BoxIs (need:List Int) (l:List Pile):Prop where
 n1:1<=need.length
 n8:need.length<=8
 l8:l.length<=8
 nd:∀ n∈need,0<=n/\n<=48
 pile:∀ p∈l,(0<=p.1/\p.1<=allV need.length)/\amount p.2
 some:∃ n∈need,0<n
theorem max_mem:∀ (l:List Int) (a:Int),l.foldl max a=a\/l.foldl max a∈l
 | [],a=>.inl rfl
 | b::l,a=>by
  rw [ybD]
  rcases max_mem l (max a b) with h | h
  ·rw [h]
   rcases Int.le_total a b with hl | hl
   ·right;rw [Int.max_eq_right hl];exact yam
   ·left;exact Int.max_eq_left hl
  ·exact .inr (yal _ h)
theorem max_ge:∀ (l:List Int) (a:Int),a<=l.foldl max a/\∀ b∈l,b<=l.foldl max a
 | [],a=>⟨ydz _,(fun _ h=>by cases h)⟩
 | c::l,a=>by
  have:=max_ge l (max a c)
  rw [ybD]
  refine ⟨by omega,fun b hb=>?_⟩
  rcases yaq.1 hb with rfl | hb
  ·omega
  ·exact this.2 b hb
theorem zpN {l:List Int}:0<maxV l↔∃ n∈l,0<n:=by
 cases l with
 | nil=>simp [maxV]
 | cons a l =>
  rw [maxV]
  constructor
  ·intro h
   rcases max_mem l a with e | e
   ·exact ⟨a,yam,by omega⟩
   ·exact ⟨_,yal _ e,h⟩
  ·rintro ⟨n,hn,h⟩
   have:=max_ge l a
   rcases yaq.1 hn with rfl | hn
   ·omega
   ·have:=this.2 n hn;omega
theorem box_iff {need:List Int} {l:List Pile}:boxB need l=true↔BoxIs need l:=by
 simp only [boxB,Bool.and_eq_true,decide_eq_true_eq,List.all_eq_true,inB_iff,needB,pileB,zpN]
 constructor
 ·rintro ⟨⟨⟨⟨⟨h1,h2⟩,h3⟩,h4⟩,h5⟩,h6⟩
  exact ⟨by omega,by omega,by omega,h4,fun p hp=>h5 p hp,h6⟩
 ·intro h
  exact ⟨⟨⟨⟨⟨by have:=h.n1;omega,by have:=h.n8;omega⟩,by have:=h.l8;omega⟩,h.nd⟩,fun p hp=>h.pile p hp⟩,h.some⟩
theorem zpv {n:Nat} (hn:n<=8) {s:Int} (h:0<=s/\s<=allV n):smallSet s:=by
 refine zic hn ⟨h.1,?_⟩
 have:=h.2
 simp only [allV] at this
 omega
theorem BoxIs.small {need:List Int} {l:List Pile} (h:BoxIs need l):∀ p∈l,smallSet p.1/\amount p.2:=fun p hp=>⟨zpv h.n8 (h.pile p hp).1,(h.pile p hp).2⟩
theorem zej (l:List Int) (n:Int):(timesV l n).length=l.length:=by simp [timesV]
theorem zmN {need:List Int} {n:Int} (h:∀ a∈need,0<=a/\a<=48) (h0:0<=n) (h1:n<=8388609):∀ a∈timesV need n,0<=a/\a<=48*8388609:=by
 intro a ha
 obtain ⟨b,hb,rfl⟩:=List.mem_map.1 ha
 exact ⟨Int.mul_nonneg (h b hb).1 h0,Int.mul_le_mul (h b hb).2 h1 h0 (by decide)⟩
theorem BoxIs.ok {need:List Int} {l:List Pile} (h:BoxIs need l) {n:Int} (h0:0<=n) (h1:n<=8388609):BoxOk (timesV need n) l :=
 ⟨by rw [zej];exact h.n8,h.l8,fun a ha=>by have:=zmN h.nd h0 h1 a ha;simp only [most40];omega,h.small⟩
theorem v74 (x:Int × (List Int) × List Pile) (h:k74.pre x):V74 x:=by
 obtain ⟨hb,h0,h1⟩:boxB x.2.1 x.2.2=true/\0<=x.1/\x.1<=8388608:=h
 have hb:=box_iff.1 hb
 exact ⟨⟨hb.n8,hb.nd,h0,by omega⟩,hb.ok h0 (by omega),rfl⟩
theorem zii {f:Int->Bool}:∀ (n:Nat) (i j:Int),i<=j->j - i<=n->(srch f n i j=i\/f (srch f n i j - 1)=false)/\(srch f n i j=j\/f (srch f n i j)=true)
 | 0,i,j,h,hn=>⟨.inl rfl,.inl (by show i=j;omega)⟩
 | n+1,i,j,h,hn=>by
  rw [srch]
  cases hd:decide (i<j) with
  | false=>have hd:=of_decide_eq_false hd;exact ⟨.inl rfl,.inl (by show i=j;omega)⟩
  | true =>
   have hl:=of_decide_eq_true hd
   have e:Int.fdiv (i+j) 2=(i+j) / 2:=Int.fdiv_eq_ediv_of_nonneg _ (by decide)
   rw [cond_true,e]
   cases hf:f ((i+j) / 2) with
   | true =>
    rw [cond_true]
    obtain ⟨h1,h2⟩:=zii (f:=f) n i ((i+j) / 2) (by omega) (by omega)
    refine ⟨h1,?_⟩
    rcases h2 with h2 | h2
    ·right;rw [h2];exact hf
    ·exact .inr h2
   | false =>
    rw [cond_false]
    obtain ⟨h1,h2⟩:=zii (f:=f) n ((i+j) / 2+1) j (by omega) (by omega)
    refine ⟨?_,h2⟩
    rcases h1 with h1 | h1
    ·right;rw [h1,Int.add_sub_cancel];exact hf
    ·exact .inr h1
theorem zgU {n:Int} (h:0<=n) (p:Int->Bool):(0<=greatV n p/\greatV n p<=n)/\(greatV n p=0\/p (greatV n p)=true)/\(greatV n p=n\/p (greatV n p+1)=false):=by
 have h1:=srch_bd (f:=fun k=>!p (k+1)) n.toNat 0 n h
 obtain ⟨h2,h3⟩:=zii (f:=fun k=>!p (k+1)) n.toNat 0 n h (by omega)
 refine ⟨h1,h2.imp_right fun h=>?_,h3.imp_right fun h=>?_⟩
 ·have h:=not_iff.2.1 h
  rw [Int.sub_add_cancel] at h
  exact h
 ·exact not_iff.1.1 h
end Go.Tt
