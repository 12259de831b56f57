/-
  Box: sums, sets, the stock, what lacks.
-/
import Derived.Test.YtdhdklojcppfcaaTtBP1
set_option linter.all false
set_option maxRecDepth 100000
set_option maxHeartbeats 4000000
set_option linter.unusedVariables false
open Int renaming add_zero->ydX,eq_ofNat_of_zero_le->ydF
open List renaming any_cons->ydt,any_eq_false->yed,append_assoc->yaz,append_nil->yds,length_cons->ybT,length_take->ybo,mem_cons_of_mem->yal,mem_cons_self->yam,mem_of_mem_take->yea,mem_range->ycU,take_of_length_le->ydM
open Option renaming getD_none->yeb,getD_some->yec
open Option.some renaming inj->yaA
namespace Go.Tt
open Go Go.Sx
theorem zmV {p:Nat->Bool}:∀ {l:List Int} {k:Nat},(∀ a∈l,0<=a/\a<=most40)->0<=selS p l k/\selS p l k<=most40*(l.length:Int)
 | [],k,_=>by simp [selS]
 | a::l,k,h=>by
  have:=zmV (p:=p) (l:=l) (k:=k+1) fun b hb=>h b (yal _ hb)
  have ha:=h a yam
  simp only [most40] at ha this ⊢
  simp only [selS,ybT]
  cases p k<;>simp only [cond_true,cond_false]<;>omega
theorem sum_b40 {l:List Int} (h8:l.length<=8) (h:∀ a∈l,0<=a/\a<=most40) (s:Int):0<=sumV s l/\sumV s l<=most40*8:=by
 have:=zmV (p:=fun k=>hasB s (k:Nat)) (k:=0) h
 simp only [sumV,most40] at this ⊢
 omega
theorem v80 (x:Int × List Int) (h:k80.pre x):V80 x:=by
 obtain ⟨hs,h8,hb⟩:0<=x.1/\x.2.length<=8/\∀ n∈x.2,0<=n/\n<=most40:=h
 refine ⟨fun s=>(0<=s.2/\s.2<=(x.2.length:Int))/\s.1=sumV x.1 (x.2.take s.2.toNat),fun s=>((x.2.length:Int) - s.2).toNat,⟨⟨by simp,by simp⟩,rfl⟩,?_⟩
 rintro ⟨a,i⟩ ⟨⟨i0,i1⟩,e⟩
 simp only at i0 i1 e ⊢
 refine ⟨fun hd=>?_,fun hd=>?_⟩
 ·have hd:i<(x.2.length:Int):=of_decide_eq_true hd
  have hg:=hb _ (zbx x.2 0 i i0 hd)
  have hs2:sumV x.1 (x.2.take (i+1).toNat)=a+cond (hasB x.1 i) (x.2.getD i.toNat 0) 0:=by
   rw [e,sumV,zlw _ _ _ i0 hd]
   have:((i.toNat:Nat):Int)=i:=by omega
   rw [this];rfl
  have hab:=sum_b40 (l:=x.2.take i.toNat) (by rw [ybo];omega) (fun a ha=>hb a (yea ha)) x.1
  rw [<-e] at hab
  refine ⟨⟨i0,hd⟩,⟨hs,i0,by show i<64;omega⟩,fun hh=>⟨?_,?_,⟨⟨by omega,by omega⟩,?_⟩,by omega⟩,fun hh=>⟨?_,⟨⟨by omega,by omega⟩,?_⟩,by omega⟩⟩
  ·simp only [Z.in64,most40] at *;omega
  ·simp only [Z.in64];omega
  ·have hh:hasB x.1 i=true:=hh
   rw [hs2,hh];rfl
  ·simp only [Z.in64];omega
  ·have hh:hasB x.1 i=false:=hh
   rw [hs2,hh,cond_false,ydX]
 ·have hd:=of_decide_eq_false hd
  have hd:¬ i<(x.2.length:Int):=hd
  show a=sumV x.1 x.2
  rw [e,ydM (by omega)]
theorem zhL (n:Nat):(setsV n).length=2^n - 1:=by simp [setsV]
theorem zgb {n:Nat} {s:Int}:s∈setsV n↔1<=s/\s<2^n:=by
 simp only [setsV,List.mem_map,ycU]
 rw [pow_nat]
 generalize 2^n=m
 constructor
 ·rintro ⟨k,hk,rfl⟩;omega
 ·rintro ⟨h1,h2⟩;exact ⟨(s - 1).toNat,by omega,by omega⟩
theorem zjx {n:Nat} (hn:n<=8) {s:Int} (h:s∈setsV n):smallSet s:=by
 obtain ⟨h1,h2⟩:=zgb.1 h
 exact zic hn ⟨by omega,h2⟩
theorem zoG {n:Nat} {s:Int} (h0:1<=s) (h:s<2^n):(setsV n).drop (s - 1).toNat=s::(setsV n).drop s.toNat:=by
 rw [pow_nat] at h
 have hl:(s - 1).toNat<(setsV n).length:=by rw [zhL];omega
 rw [List.drop_eq_getElem_cons hl]
 have e:(s - 1).toNat+1=s.toNat:=by omega
 rw [e]
 congr 1
 simp only [setsV,List.getElem_map,List.getElem_range]
 omega
theorem v143 (ly:Nat) (x:Int) (h:zeS x):V143 ly x:=by
 obtain ⟨h0,h8⟩:0<=x/\x<=8:=h
 have e:(1*2^(Int.toNat x):Int)=2^x.toNat:=Int.one_mul _
 obtain ⟨s1,s2⟩:=shl_ok (k:=x) h0 (by omega)
 simp only [e] at s2
 have hp:(2:Int)^x.toNat<=256:=by
  have:(2:Nat)^x.toNat<=2^8:=Nat.pow_le_pow_right (by decide) (by omega)
  rw [pow_nat];omega
 simp only [V143,e]
 have hval:zcY x=setsV x.toNat:=rfl
 rw [hval]
 have hpos:(1:Int)<=2^x.toNat:=Int.pow_pos (by decide)
 refine ⟨fun s=>((1<=s.1/\s.1<=2^x.toNat)/\s.2.2=false)/\setsV x.toNat=s.2.1++(setsV x.toNat).drop (s.1 - 1).toNat,fun s=>(2^x.toNat - s.1).toNat,⟨⟨⟨by simp,by simpa using hpos⟩,rfl⟩,by simp⟩,?_⟩
 rintro ⟨s,l,b⟩ ⟨⟨⟨i0,i1⟩,hb⟩,he⟩
 simp only at i0 i1 hb he ⊢
 subst hb
 refine ⟨trivial,trivial,⟨s1,s2⟩,trivial,trivial,trivial,trivial,fun hd=>?_,fun hd=>⟨trivial,(fun h=>by simp at h),fun _ _=>?_⟩⟩
 ·have hd':=of_decide_eq_true hd
  rw [zoG i0 hd'] at he
  rw [hd]
  have e3:(s+1 - 1).toNat=s.toNat:=by omega
  refine ⟨⟨by first | rfl | trivial,by first | rfl | trivial⟩,⟨_,he⟩,⟨trivial,fun _=>⟨by simp only [Z.in64];omega,⟨⟨⟨by omega,by omega⟩,by first | rfl | trivial⟩,?_⟩,by omega⟩,(fun h=>by cases h)⟩,trivial,(fun h=>by cases h),(fun _ h=>by cases h)⟩
  rw [e3,yaz]
  exact he
 ·have hd:=of_decide_eq_false hd
  rw [he,List.drop_eq_nil_of_le (by rw [zhL];rw [pow_nat] at hd;omega),yds]
theorem v153 (x:Sx.Seq Int) (h:k153.pre x):V153 x:=by
 obtain ⟨h1,h2⟩:x.1/\x.2.length<=big:=h
 refine ⟨trivial,h1,fun l s=>s.2++l=x.2,rfl,fun e r z hz=>⟨?_,?_⟩,fun z hz=>⟨trivial,?_⟩⟩
 ·have:=congrArg List.length hz
  simp only [List.length_append,ybT] at this
  simp only [Z.roomy,big] at *
  simp
  omega
 ·show (z.2++[e])++r=x.2
  rw [<-hz,yaz];rfl
 ·have hz:z.2++[]=x.2:=hz
  rw [yds] at hz
  exact hz
theorem put_at (k:Stock) (p:Pile) (t:Int):putV k p t=cond (t==p.1) (some ((k p.1).getD 0+p.2)) (k t):=rfl
theorem zpL (l:List Pile) (i:Int) (h0:0<=i) (h:i<(l.length:Int)):newV (l.take (i+1).toNat)=putV (newV (l.take i.toNat)) (l.getD i.toNat (0,0)):=by
 have e:l.take (i+1).toNat=l.take i.toNat++[l.getD i.toNat (0,0)]:=by
  have e:(i+1).toNat=i.toNat+1:=by omega
  have h':i.toNat<l.length:=by omega
  rw [e,List.take_succ_eq_append_getElem h']
  simp [List.getD,h']
 rw [newV,e,List.foldl_append];rfl
structure StockIs (k:Stock) (n:Nat):Prop where
 key:∀ t v,k t=some v->smallSet t
 val:∀ t v,k t=some v->0<=v/\v<=topN*(n:Int)
theorem StockIs.at {k:Stock} {n:Nat} (h:StockIs k n) (t:Int):0<=(k t).getD 0/\(k t).getD 0<=topN*(n:Int):=by
 cases e:k t with
 | none=>simp only [yeb,topN];omega
 | some v=>exact h.val t v e
theorem put_is {k:Stock} {n:Nat} {p:Pile} (h:StockIs k n) (hp:smallSet p.1/\amount p.2):StockIs (putV k p) (n+1):=by
 have h3:=h.at p.1
 have h4:=hp.2
 simp only [amount,topN] at h3 h4
 refine ⟨fun t v e=>?_,fun t v e=>?_⟩
 ·rw [put_at] at e
  cases ht:(t==p.1) with
  | true=>rw [eq_of_beq ht];exact hp.1
  | false=>rw [ht] at e;exact h.key t v e
 ·rw [put_at] at e
  cases ht:(t==p.1) with
  | true =>
   rw [ht] at e
   have e:=yaA e
   simp only [topN]
   omega
  | false=>rw [ht] at e;have:=h.val t v e;simp only [topN] at this ⊢;omega
theorem new_is:∀ (l:List Pile) (k:Stock) (n:Nat),StockIs k n->(∀ p∈l,smallSet p.1/\amount p.2)->StockIs (l.foldl putV k) (n+l.length)
 | [],k,n,h,_=>h
 | p::l,k,n,h,hp=>by
  have:=new_is l (putV k p) (n+1) (put_is h (hp p yam)) fun q hq=>hp q (yal _ hq)
  rw [show n+(p::l).length=n+1+l.length from by simp;omega]
  exact this
theorem none_is:StockIs (fun _=>none) 0:=⟨(fun _ _ h=>by cases h),(fun _ _ h=>by cases h)⟩
theorem new_ok {l:List Pile} (hl:l.length<=8) (hp:∀ p∈l,smallSet p.1/\amount p.2):StockOk (newV l):=by
 have h:=new_is l _ 0 none_is hp
 refine ⟨h.key,fun t v e=>?_⟩
 have:=h.val t v e
 simp only [topN] at this
 omega
theorem v77 (x:List Pile) (h:k77.pre x):V77 x:=by
 obtain ⟨h8,hp⟩:x.length<=8/\∀ p∈x,smallSet p.1/\amount p.2:=h
 refine ⟨fun s=>(0<=s.1/\s.1<=(x.length:Int))/\s.2=newV (x.take s.1.toNat),fun s=>((x.length:Int) - s.1).toNat,⟨⟨by simp,by simp⟩,rfl⟩,?_⟩
 rintro ⟨i,k⟩ ⟨⟨i0,i1⟩,e⟩
 simp only at i0 i1 e ⊢
 refine ⟨fun hd=>?_,fun hd=>?_⟩
 ·have hd:i<(x.length:Int):=of_decide_eq_true hd
  have hg:=hp _ (zbx x (0,0) i i0 hd)
  have hi:=(new_is (x.take i.toNat) _ 0 none_is (fun p hq=>hp p (yea hq))).at (x.getD i.toNat (0,0)).1
  have hi:0<=(k (x.getD i.toNat (0,0)).1).getD 0/\(k (x.getD i.toNat (0,0)).1).getD 0<=topN*((0+(x.take i.toNat).length:Nat):Int):=by rw [e];exact hi
  have h9:((0+(x.take i.toNat).length:Nat):Int)<=8:=by rw [ybo];omega
  have h4:=hg.2
  simp only [amount,topN] at hi h4
  refine ⟨⟨i0,hd⟩,by simp only [Z.in64];omega,by simp only [Z.in64];omega,⟨⟨by omega,by omega⟩,?_⟩,by omega⟩
  rw [zpL x i i0 hd,<-e];rfl
 ·have hd:¬ i<(x.length:Int):=of_decide_eq_false hd
  show k=newV x
  rw [e,ydM (by omega)]
def metB (t:Int) (l:List (Int × Int)):Bool:=l.any fun p=>p.1==t
abbrev ofAt (k:Stock) (s:Int) (t:Nat):Int:=cond (touchB s (t:Nat)) ((k (t:Nat)).getD 0) 0
theorem zf (k:Stock) (s:Int):stockV k s=sumN 256 (ofAt k s):=rfl
def metS (k:Stock) (s:Int) (l:List (Int × Int)):Int:=sumN 256 fun t=>cond (metB (t:Nat) l) (ofAt k s t) 0
theorem zky {k:Stock} {s k1 v:Int} {l:List (Int × Int)} (hk:k k1=some v) (h1:smallSet k1) (hn:metB k1 l=false):metS k s ((k1,v)::l)=metS k s l+cond (touchB s k1) v 0:=by
 obtain ⟨m,rfl⟩:=ydF h1.1
 have hm:m<256:=by have:=h1.2;omega
 have e:=zeD (n:=256) (k:=m) (f:=fun t=>cond (metB (t:Nat) (((m:Int),v)::l)) (ofAt k s t) 0) (g:=fun t=>cond (metB (t:Nat) l) (ofAt k s t) 0) (fun i _ hi=>by
  have:(((m:Nat):Int)==((i:Nat):Int))=false:=by
   rw [beq_eq_false_iff_ne];omega
  simp only [metB,ydt,this,Bool.false_or])
 rw [if_pos hm] at e
 rw [metS,e,metS]
 have h2:metB (m:Int) (((m:Int),v)::l)=true:=by simp [metB]
 simp only [h2,hn,cond_true,cond_false,ofAt,hk,yec]
 omega
theorem ofAt_bd {k:Stock} (h:StockOk k) (s:Int) (t:Nat):0<=ofAt k s t/\ofAt k s t<=1073741824:=by
 simp only [ofAt]
 cases touchB s (t:Nat) with
 | false=>simp
 | true =>
  cases e:k (t:Nat) with
  | none=>simp
  | some v=>exact h.val _ v e
theorem met_bd {k:Stock} (h:StockOk k) (s:Int) (l:List (Int × Int)):0<=metS k s l/\metS k s l<=256*1073741824:=by
 constructor
 ·exact zbc fun t _=>by cases metB (t:Nat) l<;>simp only [cond_true,cond_false]<;>first | exact (ofAt_bd h s t).1 | omega
 ·have:=sumN_le (n:=256) (f:=fun t=>cond (metB (t:Nat) l) (ofAt k s t) 0) (g:=fun _=>1073741824) fun t _=>by
   cases metB (t:Nat) l<;>simp only [cond_true,cond_false]<;>first | exact (ofAt_bd h s t).2 | omega
  have e:sumN 256 (fun _=>(1073741824:Int))=256*1073741824:=by decide
  rw [e] at this
  exact this
def unmet (l:List (Int × Int)):Nat:=(List.range 256).countP fun t=>!metB (t:Nat) l
theorem zjn {k1 v:Int} {l:List (Int × Int)} (h1:smallSet k1) (hn:metB k1 l=false):unmet ((k1,v)::l)<unmet l:=by
 obtain ⟨m,rfl⟩:=ydF h1.1
 have hm:m<256:=by have:=h1.2;omega
 refine ziT (a:=m) (ycU.2 hm) (fun b _ hb=>?_) (by rw [hn];rfl) (by simp [metB])
 simp only [metB,ydt,Bool.not_or,Bool.and_eq_true] at hb
 exact hb.2
theorem not_met {t:Int} {l:List (Int × Int)} (h:∀ p,List.Mem p l->p.1=t->False):metB t l=false:=by
 rw [metB,yed]
 intro p hp he
 exact h p hp (eq_of_beq he)
theorem v79 (x:Stock × Int) (h:k79.pre x):V79 x:=by
 obtain ⟨hk,hs⟩:StockOk x.1/\smallSet x.2:=h
 refine ⟨fun s=>s.2.1=x.1/\s.1=metS x.1 x.2 s.2.2,fun s=>unmet s.2.2,⟨rfl,?_⟩,?_⟩
 ·show 0=metS x.1 x.2 []
  rw [metS,<-zbl 256];rfl
 rintro ⟨n,k,l⟩ ⟨e1,e2⟩
 simp only at e1 e2
 subst e1
 refine ⟨fun k1 v2 hv hn=>⟨trivial,fun _=>⟨⟨by omega,by simp⟩,?_,fun ht=>⟨?_,⟨rfl,?_⟩,?_⟩,fun ht=>⟨⟨rfl,?_⟩,?_⟩⟩,(fun h=>by cases h)⟩,fun hall=>⟨trivial,(fun h=>by cases h),fun _=>?_⟩⟩
 ·exact ⟨hs.1,(hk.key _ _ hv).1⟩
 ·have e:=zky (s:=x.2) hv (hk.key _ _ hv) (not_met hn)
  have hb:=met_bd hk x.2 ((k1,v2)::l)
  have ht:touchB x.2 k1=true:=ht
  rw [ht,<-e2] at e
  simp only [cond_true] at e
  show Z.in64 (n+v2)
  simp only [Z.in64];omega
 ·have e:=zky (s:=x.2) hv (hk.key _ _ hv) (not_met hn)
  have ht:touchB x.2 k1=true:=ht
  rw [ht,<-e2] at e
  exact e.symm
 ·exact zjn (hk.key _ _ hv) (not_met hn)
 ·have e:=zky (s:=x.2) hv (hk.key _ _ hv) (not_met hn)
  have ht:touchB x.2 k1=false:=ht
  rw [ht,<-e2] at e
  simp only [cond_false,ydX] at e
  exact e.symm
 ·exact zjn (hk.key _ _ hv) (not_met hn)
 ·show n=stockV x.1 x.2
  rw [e2,zf,metS]
  refine zaA fun t _=>?_
  cases hm:metB (t:Nat) l with
  | true=>rfl
  | false =>
   cases e:x.1 (t:Nat) with
   | none=>simp only [ofAt,e,yeb,cond_false];cases touchB x.2 (t:Nat)<;>rfl
   | some v =>
    obtain ⟨p,hp,hp1⟩:=hall (t:Nat) v e
    exfalso
    rw [metB,yed] at hm
    exact hm p hp (by rw [hp1];exact beq_self_eq_true _)
theorem zoB {k:Stock} {p:Pile} (hp:smallSet p.1) (s:Int):stockV (putV k p) s=stockV k s+cond (touchB s p.1) p.2 0:=by
 obtain ⟨m,hm0⟩:=ydF hp.1
 have hm:m<256:=by have:=hp.2;omega
 have e:=zeD (n:=256) (k:=m) (f:=ofAt (putV k p) s) (g:=ofAt k s) (fun i _ hi=>by
  have:(((i:Nat):Int)==p.1)=false:=by
   rw [beq_eq_false_iff_ne];omega
  simp only [ofAt,put_at,this,cond_false])
 rw [if_pos hm] at e
 rw [zf,e,<-zf]
 have h2:(((m:Nat):Int)==p.1)=true:=by rw [hm0];exact beq_self_eq_true _
 simp only [ofAt,put_at,h2,cond_true,yec]
 have h3:((m:Nat):Int)=p.1:=hm0.symm
 rw [h3]
 cases touchB s p.1<;>simp only [cond_true,cond_false]<;>omega
theorem zlf (s:Int):∀ (l:List Pile) (k:Stock),(∀ p∈l,smallSet p.1)->stockV (l.foldl putV k) s=stockV k s+haveV l s
 | [],k,_=>by simp [haveV]
 | p::l,k,h=>by
  rw [List.foldl_cons,zlf s l _ fun q hq=>h q (yal _ hq),zoB (h p yam),haveV]
  omega
theorem zjp {l:List Pile} (h:∀ p∈l,smallSet p.1) (s:Int):stockV (newV l) s=haveV l s:=by
 rw [newV,zlf s l _ h,show stockV (fun _=>none) s=0 from ?_,Int.zero_add]
 rw [zf,<-zbl 256]
 refine zaA fun t _=>?_
 simp only [ofAt,yeb]
 cases touchB s (t:Nat)<;>rfl
end Go.Tt
