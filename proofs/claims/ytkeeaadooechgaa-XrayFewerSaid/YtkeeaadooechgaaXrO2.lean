/-
  Chapter 6, theory: what a sample misses. No program in sight.
-/
import Derived.Test.YtkeeaadooechgaaXrO1
import Derived.Test.YtkeeaadooechgaaXrP9
set_option linter.all false
set_option maxRecDepth 100000
set_option maxHeartbeats 4000000
set_option linter.unusedVariables false
namespace Go.Xr
open Go Go.Sx
theorem set_of (f:Nat→Bool):∀ n,n≤8→∃ s:Int,smallSet s∧s<2^n∧∀ k:Nat,hasB s (k:Nat)=(decide (k<n)&&f k)
 | 0,_=>⟨0,⟨Int.le_refl _,by omega⟩,by decide,fun k=>by rw [has_zero];simp⟩
 | n+1,h=>by
  obtain ⟨s,h1,h2,h3⟩:=set_of f n (by omega)
  cases hf:f n with
  | false =>
   have hb:∀ k:Nat,hasB s (k:Nat)=(decide (k<n+1)&&f k):=fun k=>by
    rw [h3]
    by_cases hk:k=n
    ·subst hk;rw [hf];simp
    ·by_cases hk2:k<n
     ·rw [decide_eq_true hk2,decide_eq_true (by omega)]
     ·rw [decide_eq_false hk2,decide_eq_false (by omega)]
   exact ⟨s,h1,lt_of_bits h1 fun k hk=>by rw [hb,decide_eq_false (by omega)];rfl,hb⟩
  | true =>
   have hp:=pow8 (r:=(n:Int)) ⟨by omega,by omega⟩
   have hs:=small_or h1 hp
   have hb:∀ k:Nat,hasB (orI s (2^(n:Int).toNat)) (k:Nat)=(decide (k<n+1)&&f k):=fun k=>by
    rw [has_or,h3,has_pow (by omega)]
    by_cases hk:k=n
    ·subst hk;rw [hf];simp
    ·rw [decide_eq_false (show ¬ (k:Int)=(n:Int) by omega),Bool.or_false]
     by_cases hk2:k<n
     ·rw [decide_eq_true hk2,decide_eq_true (by omega)]
     ·rw [decide_eq_false hk2,decide_eq_false (by omega)]
   exact ⟨_,hs,lt_of_bits hs fun k hk=>by rw [hb,decide_eq_false (by omega)];rfl,hb⟩
def selG (f:Nat→Bool):List Int→Nat→List Int
 | [],_=>[]
 | a::l,k=>cond (f k) (a::selG f l (k+1)) (selG f l (k+1))
theorem selG_congr {f g:Nat→Bool}:∀ {l:List Int} {k:Nat},(∀ i,k≤i→i<k+l.length→f i=g i)→selG f l k=selG g l k
 | [],_,_=>rfl
 | a::l,k,h=>by
  rw [selG,selG,h k (Nat.le_refl _) (by simp),selG_congr (l:=l) (k:=k+1) fun i h1 h2=>h i (by omega) (by simp at h2 ⊢;omega)]
theorem selG_sel (s:Int):∀ (l:List Int) (k:Nat),selL s l k=selG (fun i=>hasB s (i:Nat)) l k
 | [],_=>rfl
 | a::l,k=>by rw [selL,selG,selG_sel s l (k+1)]
theorem pick_left (rows:Int):∀ (l:List Int) (k:Nat) (M:List Int),(∀ x,M.count x≤(leftR rows l k).count x)→∃ f:Nat→Bool,(∀ i,f i=true→k≤i∧hasB rows (i:Nat)=false)∧List.Perm (selG f l k) M
 | [],k,M,h=>by
  have:M=[]:=by
   cases M with
   | nil=>rfl
   | cons a m=>have:=h a;simp [leftR] at this
  subst this
  exact ⟨fun _=>false,fun i hi=>by (cases hi),.refl _⟩
 | a::l,k,M,h=>by
  rw [leftR] at h
  cases hr:hasB rows (k:Nat) with
  | true =>
   rw [hr,cond_true] at h
   obtain ⟨f,h1,h2⟩:=pick_left rows l (k+1) M h
   refine ⟨f,fun i hi=>⟨by have:=(h1 i hi).1;omega,(h1 i hi).2⟩,?_⟩
   have:f k=false:=by
    cases hf:f k with
    | false=>rfl
    | true=>have:=(h1 k hf).1;omega
   rw [selG,this];exact h2
  | false =>
   rw [hr,cond_false] at h
   by_cases hm:a∈M
   ·have hp:=List.perm_cons_erase hm
    obtain ⟨f,h1,h2⟩:=pick_left rows l (k+1) (M.erase a) fun x=>by
     have q1:=h x
     have q2:=hp.count_eq x
     rw [List.count_cons] at q1 q2
     omega
    refine ⟨fun i=>decide (i=k)||f i,fun i hi=>?_,?_⟩
    ·rw [Bool.or_eq_true,decide_eq_true_eq] at hi
     rcases hi with rfl | hi
     ·exact ⟨Nat.le_refl _,hr⟩
     ·exact ⟨by have:=(h1 i hi).1;omega,(h1 i hi).2⟩
    ·rw [selG]
     have e:selG (fun i=>decide (i=k)||f i) l (k+1)=selG f l (k+1):=selG_congr fun i hi _=>by
      rw [decide_eq_false (by omega),Bool.false_or]
     rw [e,show (decide (k=k)||f k)=true by simp,cond_true]
     exact (h2.cons a).trans hp.symm
   ·obtain ⟨f,h1,h2⟩:=pick_left rows l (k+1) M fun x=>by
     have q1:=h x
     rw [List.count_cons] at q1
     by_cases hx:a=x
     ·subst hx
      rw [List.count_eq_zero_of_not_mem hm];omega
     ·have:(a==x)=false:=by simpa using hx
      rw [this] at q1
      simpa using q1
    refine ⟨f,fun i hi=>⟨by have:=(h1 i hi).1;omega,(h1 i hi).2⟩,?_⟩
    have:f k=false:=by
     cases hf:f k with
     | false=>rfl
     | true=>have:=(h1 k hf).1;omega
    rw [selG,this];exact h2
theorem pick_some (q:Nat→Bool):∀ (n m:Nat),m≤(List.range n).countP q→∃ f:Nat→Bool,(∀ i,f i=true→i<n∧q i=true)∧(List.range n).countP f=m
 | 0,m,h=>by
  have:m=0:=by simpa using h
  subst this
  exact ⟨fun _=>false,fun i hi=>(by cases hi),rfl⟩
 | n+1,m,h=>by
  rw [List.range_succ,List.countP_append] at h
  by_cases hm:m≤(List.range n).countP q
  ·obtain ⟨f,h1,h2⟩:=pick_some q n m hm
   refine ⟨f,fun i hi=>⟨by have:=(h1 i hi).1;omega,(h1 i hi).2⟩,?_⟩
   have:f n=false:=by
    cases hf:f n with
    | false=>rfl
    | true=>have:=(h1 n hf).1;omega
   rw [List.range_succ,List.countP_append,h2,List.countP_cons,List.countP_nil,this];rfl
  ·have hq:q n=true:=by
    cases hq:q n with
    | true=>rfl
    | false=>rw [List.countP_cons,List.countP_nil,hq] at h;simp at h;omega
   rw [List.countP_cons,List.countP_nil,hq] at h
   obtain ⟨f,h1,h2⟩:=pick_some q n (m - 1) (by simp at h;omega)
   refine ⟨fun i=>decide (i=n)||f i,fun i hi=>?_,?_⟩
   ·rw [Bool.or_eq_true,decide_eq_true_eq] at hi
    rcases hi with rfl | hi
    ·exact ⟨by omega,hq⟩
    ·exact ⟨by have:=(h1 i hi).1;omega,(h1 i hi).2⟩
   ·rw [List.range_succ,List.countP_append]
    have e:(List.range n).countP (fun i=>decide (i=n)||f i)=(List.range n).countP f:=List.countP_congr fun i hi=>by
     rw [decide_eq_false (by have:=List.mem_range.1 hi;omega),Bool.false_or]
    rw [e,h2]
    simp
    omega
theorem size_range {s:Int} {n:Nat} (hn:n≤8) (h0:0≤s) (h:s<2^n):sizeV s=(((List.range n).countP fun k=>hasB s (k:Nat):Nat):Int):=by
 rw [size_cols hn h0 h]
 unfold idx
 rw [List.countP_map]
 rfl
def withL (p:Plan) (S:List Spot):Plan:=S.foldl withV p
def inside (c:Crate) (s:Spot):Prop:=(0≤s.1∧s.1<(c.1.length:Int))∧0≤s.2∧s.2<c.2.1
structure PlanIn (p:Plan):Prop where
 ok:PlanOk p
 r:p.2.2.1<2^p.1.1.length
 k:p.2.2.2<2^p.1.2.1.toNat
theorem withL_crate:∀ (S:List Spot) (p:Plan),(withL p S).1=p.1∧(withL p S).2.1=p.2.1
 | [],_=>⟨rfl,rfl⟩
 | s::S,p=>withL_crate S (withV p s)
theorem with_in {p:Plan} {s:Spot} (hp:PlanIn p) (hs:inside p.1 s):PlanIn (withV p s):=by
 have hc:=crate_iff.1 hp.ok.crate
 have hr8:=hc.r8
 have hc8:=hc.c8
 have hok:=with_ok (s:=s) hp.ok ⟨hs.1.1,by have:=hs.1.2;omega⟩ ⟨hs.2.1,by have:=hs.2.2;omega⟩
 refine ⟨hok,?_,?_⟩
 ·refine lt_of_bits hok.rows fun k hk=>?_
  show hasB (orI p.2.2.1 (2^s.1.toNat)) (k:Nat)=false
  have hk:p.1.1.length≤k:=hk
  rw [has_or,has_pow hs.1.1,decide_eq_false (by have:=hs.1.2;omega),Bool.or_false]
  cases hb:hasB p.2.2.1 (k:Nat) with
  | false=>rfl
  | true=>have:=bit_lt hp.ok.rows.1 hp.r hb;omega
 ·refine lt_of_bits hok.cols fun k hk=>?_
  show hasB (orI p.2.2.2 (2^s.2.toNat)) (k:Nat)=false
  have hk:p.1.2.1.toNat≤k:=hk
  rw [has_or,has_pow hs.2.1,decide_eq_false (by have:=hs.2.2;omega),Bool.or_false]
  cases hb:hasB p.2.2.2 (k:Nat) with
  | false=>rfl
  | true=>have:=bit_lt hp.ok.cols.1 hp.k hb;omega
theorem withL_in:∀ {S:List Spot} {p:Plan},PlanIn p→(∀ s∈S,inside p.1 s)→PlanIn (withL p S)
 | [],p,hp,_=>hp
 | s::S,p,hp,h=>withL_in (S:=S) (with_in hp (h s List.mem_cons_self)) fun s' h'=>h s' (List.mem_cons_of_mem _ h')
theorem withL_rows:∀ {S:List Spot} {p:Plan},(∀ s∈S,inside p.1 s)→∀ k:Nat,hasB (withL p S).2.2.1 (k:Nat)=(hasB p.2.2.1 (k:Nat)||S.any fun s=>decide (s.1=(k:Int)))
 | [],p,_,k=>by simp [withL]
 | s::S,p,h,k=>by
  have:=withL_rows (S:=S) (p:=withV p s) (fun s' h'=>h s' (List.mem_cons_of_mem _ h')) k
  show hasB (withL (withV p s) S).2.2.1 (k:Nat)=_
  rw [this]
  show ((hasB (orI p.2.2.1 (2^s.1.toNat)) (k:Nat))||_)=_
  rw [has_or,has_pow (h s List.mem_cons_self).1.1,List.any_cons,Bool.or_assoc]
  congr 2
  simp [eq_comm]
theorem withL_cols:∀ {S:List Spot} {p:Plan},(∀ s∈S,inside p.1 s)→∀ k:Nat,hasB (withL p S).2.2.2 (k:Nat)=(hasB p.2.2.2 (k:Nat)||S.any fun s=>decide (s.2=(k:Int)))
 | [],p,_,k=>by simp [withL]
 | s::S,p,h,k=>by
  have:=withL_cols (S:=S) (p:=withV p s) (fun s' h'=>h s' (List.mem_cons_of_mem _ h')) k
  show hasB (withL (withV p s) S).2.2.2 (k:Nat)=_
  rw [this]
  show ((hasB (orI p.2.2.2 (2^s.2.toNat)) (k:Nat))||_)=_
  rw [has_or,has_pow (h s List.mem_cons_self).2.1,List.any_cons,Bool.or_assoc]
  congr 2
  simp [eq_comm]
theorem plan0u_in {c:Crate} (hc:CrateOk c) (most:Int):PlanIn (plan0 c most):=by
 refine ⟨⟨crate_iff.2 hc,⟨Int.le_refl _,by show (0:Int)≤255;omega⟩,⟨Int.le_refl _,by show (0:Int)≤255;omega⟩⟩,?_,?_⟩
 ·show (0:Int)<2^c.1.length
  exact Int.pow_pos (by decide)
 ·show (0:Int)<2^c.2.1.toNat
  exact Int.pow_pos (by decide)
def missV (p:Plan):Int:=worstV p.1 p.2.2.1 (sizeV p.2.2.2)
end Go.Xr
