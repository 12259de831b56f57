/-
  Chapter 10: conditions of the reference's Meets, Lack and Accept, proved.
-/
import Derived.Test.YtdpfmofgibmifaaOrdP9
set_option linter.all false
set_option maxRecDepth 100000
set_option maxHeartbeats 4000000
set_option linter.unusedVariables false
namespace Go.Ord
open Go Go.Sx
theorem range_map_getD {α β:Type} (F:α->β) (d:α):∀ l:List α,(List.range l.length).map (fun i=>F (l.getD i d))=l.map F:=by
 intro l
 apply List.ext_getElem
 ·simp
 ·intro i h1 h2
  simp at h1
  simp [List.getD,h1]
theorem map_getD {α:Type} (g:α->Int) (d:α) (h:g d=0) (l:List α) (i:Nat):(l.map g).getD i 0=g (l.getD i d):=by
 simp only [List.getD,List.getElem?_map]
 cases l[i]?<;>simp [h]
theorem caseM_of (s:Sale) (f g:Supply->Int) (hf:g noSupply=0):caseM (caseOf s (s.1.map f) (s.1.map g)) (askedV s)=marketV f g s:=by
 simp only [caseM,caseOf,askedV,marketV,List.map_map]
 congr 2
 rw [<-range_map_getD (fun x=>setOf (s.2.map (canB x.1 (g x)))) noSupply s.1]
 refine List.map_congr_left fun i _=>?_
 simp only [Function.comp,map_getD g noSupply hf]
theorem caseM_worst (s:Sale):caseM (worstC s) (askedV s)=worstM s:=caseM_of s worstMany worstReady rfl
theorem caseOf_ok {s:Sale} (h:saleB s=true) {many ready:List Int} (hl:many.length=s.1.length) (hm:∀ n∈many,amount n):CaseOk (caseOf s many ready) (askedV s):=by
 have S:=zbN.1 h
 refine ⟨⟨by simpa [caseM,askedV] using S.o8,by simpa [caseM,caseOf,hl] using S.s8,by simp [caseM,caseOf,hl],fun n hn=>?_,hm,fun n hn=>?_⟩,fun l hl=>?_⟩
 ·obtain ⟨o,ho,rfl⟩:=List.mem_map.1 hn
  exact (zdK.1 (S.ord o ho)).2.1
 ·obtain ⟨l,hl,rfl⟩:=List.mem_map.1 hn
  obtain ⟨i,_,rfl⟩:=List.mem_map.1 hl
  exact zdI (by rw [List.length_map];exact S.o8)
 ·obtain ⟨i,_,rfl⟩:=List.mem_map.1 hl
  simp [askedV]
theorem worstC_ok {s:Sale} (h:saleB s=true):CaseOk (worstC s) (askedV s):=caseOf_ok h (by simp) fun n hn=>by
 obtain ⟨x,hx,rfl⟩:=List.mem_map.1 hn
 have:=zdF.1 ((zbN.1 h).sup x hx)
 exact ⟨this.2.1.1,Int.le_trans this.2.1.2.1 this.2.1.2.2⟩
theorem two_loop (sup:List Supply) (f g:Supply->Int) (hs8:(sup.length:Int)<=8) (i:Int) (i1:0<=i) (hi:i<(sup.length:Int)) :
  (sup.take (i+1).toNat).map f=(sup.take i.toNat).map f++[f (sup.getD i.toNat (0,(0,0),0,0))]∧((sup.take i.toNat).map f).length<=8:=by
 refine ⟨zcq f sup _ i i1 hi,?_⟩
 rw [List.length_map,List.length_take];omega
theorem v31 (x:Sale) (hp:k31.pre x):V31 x:=by
 obtain ⟨sup,ord⟩:=x
 have h:saleB (sup,ord)=true:=hp
 have S:=zbN.1 h
 have hs8:(sup.length:Int)<=8:=by have:=S.s8;simp only at this;omega
 refine ⟨fun s=>0<=s.2.2∧s.2.2<=(sup.length:Int)∧s.1=(sup.take s.2.2.toNat).map worstMany∧s.2.1=(sup.take s.2.2.toNat).map worstReady,fun s=>((sup.length:Int) - s.2.2).toNat,⟨by simp,by simp,rfl,rfl⟩,?_⟩
 rintro ⟨l,r,i⟩ ⟨i1,i2,e1,e2⟩
 simp only at i1 i2 e1 e2 ⊢
 subst e1;subst e2
 refine ⟨fun hi=>?_,fun hi=>?_⟩
 ·have hi:=of_decide_eq_true hi
  have a:=two_loop sup worstMany worstReady hs8 i i1 hi
  have b:=two_loop sup worstReady worstReady hs8 i i1 hi
  refine ⟨⟨i1,hi⟩,rm1 (by rw [List.length_append];simp;omega),⟨i1,hi⟩,rm1 (by rw [List.length_append];simp;omega),by simp only [Z.in64];omega,?_,⟨by show 0<=i+1;omega,by show i+1<=_;omega,a.1.symm,b.1.symm⟩,?_⟩
  all_goals first | trivial | rfl | skip
  show ((sup.length:Int) - (i+1)).toNat<((sup.length:Int) - i).toNat
  omega
 ·have hi:=of_decide_eq_false hi
  rw [List.take_of_length_le (by omega)]
  exact ⟨⟨h,by simp⟩,rfl⟩
theorem under_nat {n:Nat} {X:Int} (h:under n X):∃ m:Nat,X=(m:Int)∧m<2^n:=by
 refine ⟨X.toNat,by have:=h.1;omega,?_⟩
 have h1:=h.1
 have h2:=h.2
 have:(2^n:Int)=((2^n:Nat):Int):=by simp
 rw [this] at h2
 omega
theorem zdH {n:Nat} {X:Int} (hn:n<=8) (h:under n X):smallSet X:=by
 obtain ⟨m,rfl,hm⟩:=under_nat h
 have:2^n<=2^8:=Nat.pow_le_pow_right (by decide) hn
 simp only [smallSet];omega
theorem under_bit {n:Nat} {X:Int} (h:under n X) {k:Nat} (hk:n<=k):hasB X (k:Nat)=false:=by
 obtain ⟨m,rfl,hm⟩:=under_nat h
 simp only [hasB,Int.toNat_natCast]
 exact Nat.testBit_lt_two_pow (Nat.lt_of_lt_of_le hm (Nat.pow_le_pow_right (by decide) hk))
theorem sub_iff {s t:Int} (hs:0<=s) (ht:0<=t):subB s t=true↔∀ k:Nat,hasB s (k:Nat)=true->hasB t (k:Nat)=true:=by
 obtain ⟨a,rfl⟩:=Int.eq_ofNat_of_zero_le hs
 obtain ⟨b,rfl⟩:=Int.eq_ofNat_of_zero_le ht
 simp only [subB,hasB,Int.toNat_natCast,beq_iff_eq]
 constructor
 ·intro h k hk
  have h:a ^^^ (a &&& b)=0:=by omega
  have:=congrArg (fun x=>x.testBit k) h
  simp only [Nat.testBit_xor,Nat.testBit_and,Nat.zero_testBit,hk,Bool.true_and] at this
  cases hb:b.testBit k with
  | true=>rfl
  | false=>rw [hb] at this;cases this
 ·intro h
  have:a ^^^ (a &&& b)=0:=by
   apply Nat.eq_of_testBit_eq
   intro k
   simp only [Nat.testBit_xor,Nat.testBit_and,Nat.zero_testBit]
   cases ha:a.testBit k with
   | false=>rfl
   | true=>rw [h k ha];rfl
  rw [this];rfl
theorem touch_iff {a t:Int}:touchB a t=true↔∃ k:Nat,hasB a (k:Nat)=true∧hasB t (k:Nat)=true:=by
 simp only [touchB,hasB,Int.toNat_natCast,Bool.not_eq_true',beq_eq_false_iff_ne]
 constructor
 ·intro h
  have h:a.toNat &&& t.toNat≠0:=fun e=>h (by rw [e];rfl)
  have:∃ k,(a.toNat &&& t.toNat).testBit k=true:=by
   refine Classical.byContradiction fun hn=>h (Nat.eq_of_testBit_eq fun k=>?_)
   rw [Nat.zero_testBit]
   cases hk:(a.toNat &&& t.toNat).testBit k with
   | false=>rfl
   | true=>exact absurd ⟨k,hk⟩ hn
  obtain ⟨k,hk⟩:=this
  rw [Nat.testBit_and,Bool.and_eq_true] at hk
  exact ⟨k,hk⟩
 ·rintro ⟨k,h1,h2⟩ h
  have h:a.toNat &&& t.toNat=0:=by omega
  have:=congrArg (fun x=>x.testBit k) h
  simp only [Nat.testBit_and,Nat.zero_testBit,h1,h2] at this
  cases this
theorem touch_any {row:List Bool} {X:Int}:touchB (setOf row) X=(List.range row.length).any fun k=>hasB X (k:Nat)&&row.getD k false:=by
 refine bool_ext ?_
 rw [touch_iff,List.any_eq_true]
 constructor
 ·rintro ⟨k,h1,h2⟩
  rw [has_setOf] at h1
  have hk:k<row.length:=by
   refine Classical.byContradiction fun hn=>?_
   rw [List.getD,List.getElem?_eq_none (by omega)] at h1
   cases h1
  exact ⟨k,List.mem_range.2 hk,by rw [h1,h2];rfl⟩
 ·rintro ⟨k,_,h⟩
  rw [Bool.and_eq_true] at h
  exact ⟨k,by rw [has_setOf];exact h.2,h.1⟩
theorem any_succ (p:Nat->Bool) (n:Nat):(List.range (n+1)).any p=((List.range n).any p||p n):=by
 rw [List.range_succ,List.any_append]
 simp
theorem take_getD (l:List Int) (i:Int) (h0:0<=i) (h:i<(l.length:Int)):l.take (i+1).toNat=l.take i.toNat++[l.getD i.toNat 0]:=by
 have:=zcq (id:Int->Int) l 0 i h0 h
 simpa using this
theorem selS_step (p:Nat->Bool) (l:List Int) (i:Int) (h0:0<=i) (h:i<(l.length:Int)):selS p (l.take (i+1).toNat) 0=selS p (l.take i.toNat) 0+cond (p i.toNat) (l.getD i.toNat 0) 0:=by
 rw [take_getD l i h0 h,selS_app]
 congr 2
 rw [List.length_take]
 congr 1
 omega
theorem selS_tb {p:Nat->Bool} {l:List Int} (hl:l.length<=8) (ha:∀ a∈l,amount a) (i:Int):0<=selS p (l.take i.toNat) 0∧selS p (l.take i.toNat) 0<=8*topN:=by
 have:=selS_bd (p:=p) (l:=l.take i.toNat) (k:=0) fun a h=>ha a (List.mem_of_mem_take h)
 have h2:((l.take i.toNat).length:Int)<=8:=by rw [List.length_take];omega
 simp only [topN] at this ⊢
 omega
theorem v32 (x:Case × (List Int) × Int) (hp:k32.pre x):V32 x:=by
 obtain ⟨c,asked,X⟩:=x
 obtain ⟨hc,hX⟩:CaseOk c asked∧under asked.length X:=hp
 have a8:(asked.length:Int)<=8:=by have:=hc.mo.a8;simp only [caseM] at this;omega
 have m8:(c.1.length:Int)<=8:=by have:=hc.mo.m8;simp only [caseM] at this;omega
 have hlen:c.2.length=c.1.length:=by have:=hc.mo.len;simpa [caseM] using this
 have hXs:=zdH (by omega) hX
 have hXt:0<=X∧X<=topN:=by simp only [smallSet] at hXs;simp only [topN];omega
 have hasp:∀ k:Int,0<=k->k<8->zbt (X,k):=fun k h1 h2=>⟨hXt,h1,by show k<=62;omega⟩
 have ham:∀ n∈asked,amount n:=hc.mo.asked
 have hmm:∀ n∈c.1,amount n:=hc.mo.many
 refine ⟨fun s=>0<=s.2∧s.2<=(asked.length:Int)∧s.1=selS (fun k=>hasB X (k:Nat)) (asked.take s.2.toNat) 0,fun s=>((asked.length:Int) - s.2).toNat,⟨by simp,by simp,rfl⟩,?_⟩
 rintro ⟨a,k⟩ ⟨k1,k2,e1⟩
 simp only at k1 k2 e1 ⊢
 subst e1
 have bk:=selS_tb (p:=fun k=>hasB X (k:Nat)) (by omega) ham k
 refine ⟨fun hk=>?_,fun hk=>?_⟩
 ·have hk:=of_decide_eq_true hk
  have es:=selS_step (fun k=>hasB X (k:Nat)) asked k k1 hk
  have ek:((k.toNat:Nat):Int)=k:=by omega
  have hak:=ham _ (zbK asked 0 k k1 hk)
  simp only [amount,topN] at hak bk
  rw [ek] at es
  refine ⟨hasp k k1 (by omega),fun hb=>⟨⟨k1,hk⟩,by simp only [Z.in64];omega,by simp only [Z.in64];omega,⟨by show 0<=k+1;omega,by show k+1<=_;omega,?_⟩,?_⟩,fun hb=>⟨by simp only [Z.in64];omega,⟨by show 0<=k+1;omega,by show k+1<=_;omega,?_⟩,?_⟩⟩
  ·have hb:hasB X k=true:=hb
   show _=selS _ (asked.take (k+1).toNat) 0
   rw [es,hb];rfl
  ·show ((asked.length:Int) - (k+1)).toNat<((asked.length:Int) - k).toNat
   omega
  ·have hb:hasB X k=false:=hb
   show _=selS _ (asked.take (k+1).toNat) 0
   rw [es,hb];simp
  ·show ((asked.length:Int) - (k+1)).toNat<((asked.length:Int) - k).toNat
   omega
 have hk:=of_decide_eq_false hk
 rw [List.take_of_length_le (by omega)]
 rw [List.take_of_length_le (by omega)] at bk
 obtain ⟨A,hA⟩:∃ A,A=selS (fun k=>hasB X (k:Nat)) asked 0:=⟨_,rfl⟩
 rw [<-hA] at bk ⊢
 let tch:Nat->Bool:=fun i=>touchB ((c.2.map setOf).getD i 0) X
 have htch:∀ i:Nat,i<c.1.length->tch i=(List.range asked.length).any fun k=>hasB X (k:Nat)&&(c.2.getD i []).getD k false:=by
  intro i hi
  have e:(c.2.map setOf).getD i 0=setOf (c.2.getD i []):=by
   simp only [List.getD,List.getElem?_map]
   cases hh:c.2[i]? with
   | some l=>rfl
   | none=>rfl
  show touchB ((c.2.map setOf).getD i 0) X=_
  rw [e,touch_any,hc.rows _ (zaz c.2 [] i (by omega))]
 refine ⟨fun s=>0<=s.2∧s.2<=(c.1.length:Int)∧s.1=A - selS tch (c.1.take s.2.toNat) 0,fun s=>((c.1.length:Int) - s.2).toNat,⟨by simp,by simp,by simp [selS]⟩,?_⟩
 rintro ⟨a,i⟩ ⟨i1,i2,e1⟩
 simp only at i1 i2 e1 ⊢
 subst e1
 have bi:=selS_tb (p:=tch) (by omega) hmm i
 refine ⟨fun hi=>?_,fun hi=>?_⟩
 ·have hi:=of_decide_eq_true hi
  have es:=selS_step tch c.1 i i1 hi
  have hmi:=hmm _ (zbK c.1 0 i i1 hi)
  simp only [amount,topN] at hmi bi bk
  have hrow:(c.2.getD i.toNat []).length=asked.length:=hc.rows _ (zaz c.2 [] i.toNat (by omega))
  refine ⟨fun s=>0<=s.2∧s.2<=(asked.length:Int)∧s.1=A - selS tch (c.1.take i.toNat) 0∧((List.range s.2.toNat).any fun k=>hasB X (k:Nat)&&(c.2.getD i.toNat []).getD k false)=false,fun s=>((asked.length:Int) - s.2).toNat,⟨by simp,by simp,rfl,rfl⟩,?_⟩
  rintro ⟨b,k⟩ ⟨k1,k2,e1,hno⟩
  simp only at k1 k2 e1 hno ⊢
  subst e1
  refine ⟨fun hk=>?_,fun hk=>?_⟩
  ·have hk:=of_decide_eq_true hk
   have e:(k+1).toNat=k.toNat+1:=by omega
   have ek:((k.toNat:Nat):Int)=k:=by omega
   have ha:=any_succ (fun k=>hasB X (k:Nat)&&(c.2.getD i.toNat []).getD k false) k.toNat
   rw [hno,ek,Bool.false_or] at ha
   refine ⟨hasp k k1 (by omega),fun _=>⟨i1,by omega⟩,fun _=>⟨k1,by rw [hrow];exact hk⟩,fun hb=>⟨⟨i1,hi⟩,by simp only [Z.in64];omega,by simp only [Z.in64];omega,⟨by show 0<=i+1;omega,by show i+1<=_;omega,?_⟩,?_⟩,fun hb=>⟨by simp only [Z.in64];omega,⟨by show 0<=k+1;omega,by show k+1<=_;omega,rfl,?_⟩,?_⟩⟩
   ·have hb:(hasB X k&&(c.2.getD i.toNat []).getD k.toNat false)=true:=hb
    have ht:tch i.toNat=true:=by
     rw [htch _ (by omega),List.any_eq_true]
     exact ⟨k.toNat,List.mem_range.2 (by omega),by rw [ek];exact hb⟩
    show _ - _=A - selS tch (c.1.take (i+1).toNat) 0
    rw [es,ht,cond_true];omega
   ·show ((c.1.length:Int) - (i+1)).toNat<((c.1.length:Int) - i).toNat
    omega
   ·have hb:(hasB X k&&(c.2.getD i.toNat []).getD k.toNat false)=false:=hb
    show ((List.range (k+1).toNat).any fun k=>hasB X (k:Nat)&&(c.2.getD i.toNat []).getD k false)=false
    rw [e,ha,hb]
   ·show ((asked.length:Int) - (k+1)).toNat<((asked.length:Int) - k).toNat
    omega
  ·have hk:=of_decide_eq_false hk
   have hkk:k.toNat=asked.length:=by omega
   rw [hkk,<-htch _ (by omega)] at hno
   refine ⟨by simp only [Z.in64];omega,⟨by show 0<=i+1;omega,by show i+1<=_;omega,?_⟩,?_⟩
   ·show _=A - selS tch (c.1.take (i+1).toNat) 0
    rw [es,hno];simp
   ·show ((c.1.length:Int) - (i+1)).toNat<((c.1.length:Int) - i).toNat
    omega
 ·have hi:=of_decide_eq_false hi
  rw [List.take_of_length_le (by omega),hA]
  rfl
end Go.Ord
