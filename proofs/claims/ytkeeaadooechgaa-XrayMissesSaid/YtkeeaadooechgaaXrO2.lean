/-
  Chapter 6, theory: what a sample misses. No program in sight.
-/
import Derived.Test.YtkeeaadooechgaaXrO1
import Derived.Test.YtkeeaadooechgaaXrP9
set_option linter.all false
set_option maxRecDepth 100000
set_option maxHeartbeats 4000000
set_option linter.unusedVariables false
namespace Go.Xr
open Go Go.Sx
theorem set_of (f:Nat→Bool):∀ n,n≤8→∃ s:Int,smallSet s∧s<2^n∧∀ k:Nat,hasB s (k:Nat)=(decide (k<n)&&f k)
 | 0,_=>⟨0,⟨Int.le_refl _,by omega⟩,by decide,fun k=>by rw [has_zero];simp⟩
 | n+1,h=>by
  obtain ⟨s,h1,h2,h3⟩:=set_of f n (by omega)
  cases hf:f n with
  | false =>
   have hb:∀ k:Nat,hasB s (k:Nat)=(decide (k<n+1)&&f k):=fun k=>by
    rw [h3]
    by_cases hk:k=n
    ·subst hk;rw [hf];simp
    ·by_cases hk2:k<n
     ·rw [decide_eq_true hk2,decide_eq_true (by omega)]
     ·rw [decide_eq_false hk2,decide_eq_false (by omega)]
   exact ⟨s,h1,lt_of_bits h1 fun k hk=>by rw [hb,decide_eq_false (by omega)];rfl,hb⟩
  | true =>
   have hp:=pow8 (r:=(n:Int)) ⟨by omega,by omega⟩
   have hs:=small_or h1 hp
   have hb:∀ k:Nat,hasB (orI s (2^(n:Int).toNat)) (k:Nat)=(decide (k<n+1)&&f k):=fun k=>by
    rw [has_or,h3,has_pow (by omega)]
    by_cases hk:k=n
    ·subst hk;rw [hf];simp
    ·rw [decide_eq_false (show ¬ (k:Int)=(n:Int) by omega),Bool.or_false]
     by_cases hk2:k<n
     ·rw [decide_eq_true hk2,decide_eq_true (by omega)]
     ·rw [decide_eq_false hk2,decide_eq_false (by omega)]
   exact ⟨_,hs,lt_of_bits hs fun k hk=>by rw [hb,decide_eq_false (by omega)];rfl,hb⟩
def selG (f:Nat→Bool):List Int→Nat→List Int
 | [],_=>[]
 | a::l,k=>cond (f k) (a::selG f l (k+1)) (selG f l (k+1))
theorem selG_congr {f g:Nat→Bool}:∀ {l:List Int} {k:Nat},(∀ i,k≤i→i<k+l.length→f i=g i)→selG f l k=selG g l k
 | [],_,_=>rfl
 | a::l,k,h=>by
  rw [selG,selG,h k (Nat.le_refl _) (by simp),selG_congr (l:=l) (k:=k+1) fun i h1 h2=>h i (by omega) (by simp at h2 ⊢;omega)]
theorem selG_sel (s:Int):∀ (l:List Int) (k:Nat),selL s l k=selG (fun i=>hasB s (i:Nat)) l k
 | [],_=>rfl
 | a::l,k=>by rw [selL,selG,selG_sel s l (k+1)]
theorem pick_left (rows:Int):∀ (l:List Int) (k:Nat) (M:List Int),(∀ x,M.count x≤(leftR rows l k).count x)→∃ f:Nat→Bool,(∀ i,f i=true→k≤i∧hasB rows (i:Nat)=false)∧List.Perm (selG f l k) M
 | [],k,M,h=>by
  have:M=[]:=by
   cases M with
   | nil=>rfl
   | cons a m=>have:=h a;simp [leftR] at this
  subst this
  exact ⟨fun _=>false,fun i hi=>by (cases hi),.refl _⟩
 | a::l,k,M,h=>by
  rw [leftR] at h
  cases hr:hasB rows (k:Nat) with
  | true =>
   rw [hr,cond_true] at h
   obtain ⟨f,h1,h2⟩:=pick_left rows l (k+1) M h
   refine ⟨f,fun i hi=>⟨by have:=(h1 i hi).1;omega,(h1 i hi).2⟩,?_⟩
   have:f k=false:=by
    cases hf:f k with
    | false=>rfl
    | true=>have:=(h1 k hf).1;omega
   rw [selG,this];exact h2
  | false =>
   rw [hr,cond_false] at h
   by_cases hm:a∈M
   ·have hp:=List.perm_cons_erase hm
    obtain ⟨f,h1,h2⟩:=pick_left rows l (k+1) (M.erase a) fun x=>by
     have q1:=h x
     have q2:=hp.count_eq x
     rw [List.count_cons] at q1 q2
     omega
    refine ⟨fun i=>decide (i=k)||f i,fun i hi=>?_,?_⟩
    ·rw [Bool.or_eq_true,decide_eq_true_eq] at hi
     rcases hi with rfl | hi
     ·exact ⟨Nat.le_refl _,hr⟩
     ·exact ⟨by have:=(h1 i hi).1;omega,(h1 i hi).2⟩
    ·rw [selG]
     have e:selG (fun i=>decide (i=k)||f i) l (k+1)=selG f l (k+1):=selG_congr fun i hi _=>by
      rw [decide_eq_false (by omega),Bool.false_or]
     rw [e,show (decide (k=k)||f k)=true by simp,cond_true]
     exact (h2.cons a).trans hp.symm
   ·obtain ⟨f,h1,h2⟩:=pick_left rows l (k+1) M fun x=>by
     have q1:=h x
     rw [List.count_cons] at q1
     by_cases hx:a=x
     ·subst hx
      rw [List.count_eq_zero_of_not_mem hm];omega
     ·have:(a==x)=false:=by simpa using hx
      rw [this] at q1
      simpa using q1
    refine ⟨f,fun i hi=>⟨by have:=(h1 i hi).1;omega,(h1 i hi).2⟩,?_⟩
    have:f k=false:=by
     cases hf:f k with
     | false=>rfl
     | true=>have:=(h1 k hf).1;omega
    rw [selG,this];exact h2
theorem pick_some (q:Nat→Bool):∀ (n m:Nat),m≤(List.range n).countP q→∃ f:Nat→Bool,(∀ i,f i=true→i<n∧q i=true)∧(List.range n).countP f=m
 | 0,m,h=>by
  have:m=0:=by simpa using h
  subst this
  exact ⟨fun _=>false,fun i hi=>(by cases hi),rfl⟩
 | n+1,m,h=>by
  rw [List.range_succ,List.countP_append] at h
  by_cases hm:m≤(List.range n).countP q
  ·obtain ⟨f,h1,h2⟩:=pick_some q n m hm
   refine ⟨f,fun i hi=>⟨by have:=(h1 i hi).1;omega,(h1 i hi).2⟩,?_⟩
   have:f n=false:=by
    cases hf:f n with
    | false=>rfl
    | true=>have:=(h1 n hf).1;omega
   rw [List.range_succ,List.countP_append,h2,List.countP_cons,List.countP_nil,this];rfl
  ·have hq:q n=true:=by
    cases hq:q n with
    | true=>rfl
    | false=>rw [List.countP_cons,List.countP_nil,hq] at h;simp at h;omega
   rw [List.countP_cons,List.countP_nil,hq] at h
   obtain ⟨f,h1,h2⟩:=pick_some q n (m - 1) (by simp at h;omega)
   refine ⟨fun i=>decide (i=n)||f i,fun i hi=>?_,?_⟩
   ·rw [Bool.or_eq_true,decide_eq_true_eq] at hi
    rcases hi with rfl | hi
    ·exact ⟨by omega,hq⟩
    ·exact ⟨by have:=(h1 i hi).1;omega,(h1 i hi).2⟩
   ·rw [List.range_succ,List.countP_append]
    have e:(List.range n).countP (fun i=>decide (i=n)||f i)=(List.range n).countP f:=List.countP_congr fun i hi=>by
     rw [decide_eq_false (by have:=List.mem_range.1 hi;omega),Bool.false_or]
    rw [e,h2]
    simp
    omega
theorem size_range {s:Int} {n:Nat} (hn:n≤8) (h0:0≤s) (h:s<2^n):sizeV s=(((List.range n).countP fun k=>hasB s (k:Nat):Nat):Int):=by
 rw [size_cols hn h0 h]
 unfold idx
 rw [List.countP_map]
 rfl
theorem disj_count {p q:Nat→Bool} (h:∀ i,p i=true→q i=false) (l:List Nat):l.countP p+l.countP q≤l.length:=by
 induction l with
 | nil=>simp
 | cons a l ih =>
  simp only [List.countP_cons,List.length_cons]
  have:=h a
  cases hp:p a
  ·cases q a<;>simp<;>omega
  ·rw [this hp];simp;omega
theorem disj_size {a b:Int} {n:Nat} (hn:n≤8) (ha:smallSet a) (ha2:a<2^n) (hb:smallSet b) (hb2:b<2^n) (h:∀ k:Nat,hasB a (k:Nat)=true→hasB b (k:Nat)=false):sizeV a+sizeV b≤(n:Int):=by
 rw [size_range hn ha.1 ha2,size_range hn hb.1 hb2]
 have:=disj_count (p:=fun k=>hasB a (k:Nat)) (q:=fun k=>hasB b (k:Nat)) h (List.range n)
 rw [List.length_range] at this
 omega
theorem worst_is {c:Crate} (hc:CrateOk c) {rows cols:Int} (hk:smallSet cols) (hk2:cols<2^c.2.1.toNat) :
  ∃ t:Truth,smallT t∧(t.1<2^c.1.length∧sizeV t.1≤c.2.2.1)∧(t.2<2^c.2.1.toNat∧sizeV t.2≤c.2.2.2)∧(∀ k:Nat,hasB t.1 (k:Nat)=true→hasB rows (k:Nat)=false)∧(∀ k:Nat,hasB t.2 (k:Nat)=true→hasB cols (k:Nat)=false)∧manyV t c=worstV c rows (sizeV cols):=by
 have hr8:=hc.r8
 have hc1:=hc.c1
 have hc8:=hc.c8
 have hcl:=hc.clamps
 have hdi:=hc.dies
 have hkc:((c.2.1.toNat:Nat):Int)=c.2.1:=by omega
 obtain ⟨f,f1,f2⟩:=pick_left rows c.1 0 (heavyV c rows) fun x=>by
  have h1:=(List.take_sublist c.2.2.1.toNat (sortV moreB (leftR rows c.1 0))).count_le x
  rw [sort_perm.count_eq] at h1
  exact h1
 obtain ⟨a,a1,a2,a3⟩:=set_of f c.1.length hr8
 have ea:selL a c.1 0=selG f c.1 0:=by
  rw [selG_sel]
  exact selG_congr fun i _ hi=>by rw [a3,decide_eq_true (by omega),Bool.true_and]
 have hK:=size_range (s:=cols) (n:=c.2.1.toNat) (by omega) hk.1 hk2
 have hfree:=countP_not' (fun k:Nat=>hasB cols (k:Nat)) (List.range c.2.1.toNat)
 rw [List.length_range] at hfree
 obtain ⟨g,g1,g2⟩:=pick_some (fun k=>!hasB cols (k:Nat)) c.2.1.toNat (min c.2.2.2 (c.2.1 - sizeV cols)).toNat (by omega)
 obtain ⟨b,b1,b2,b3⟩:=set_of g c.2.1.toNat (by omega)
 have eb:sizeV b=min c.2.2.2 (c.2.1 - sizeV cols):=by
  rw [size_range (n:=c.2.1.toNat) (by omega) b1.1 b2]
  have:(List.range c.2.1.toNat).countP (fun k=>hasB b (k:Nat))=(List.range c.2.1.toNat).countP g:=List.countP_congr fun i hi=>by
   rw [b3,decide_eq_true (List.mem_range.1 hi),Bool.true_and]
  rw [this,g2]
  omega
 have hal:sizeV a≤c.2.2.1:=by
  rw [←sel_size hr8 a1.1 a2 c.1 rfl,ea,f2.length_eq]
  unfold heavyV
  rw [List.length_take]
  omega
 refine ⟨(a,b),⟨a1,b1⟩,⟨a2,hal⟩,⟨b2,by show sizeV b≤_;omega⟩,fun k h=>?_,fun k h=>?_,?_⟩
 ·have h:hasB a (k:Nat)=true:=h
  rw [a3,Bool.and_eq_true] at h
  exact (f1 k h.2).2
 ·have h:hasB b (k:Nat)=true:=h
  rw [b3,Bool.and_eq_true] at h
  simpa using (g1 k h.2).2
 ·unfold manyV worstV
  rw [many_sel,ea,perm_sum f2]
  show _+(_ - _)*sizeV b=_
  rw [eb]
def withL (p:Plan) (S:List Spot):Plan:=S.foldl withV p
def inside (c:Crate) (s:Spot):Prop:=(0≤s.1∧s.1<(c.1.length:Int))∧0≤s.2∧s.2<c.2.1
structure PlanIn (p:Plan):Prop where
 ok:PlanOk p
 r:p.2.2.1<2^p.1.1.length
 k:p.2.2.2<2^p.1.2.1.toNat
theorem withL_crate:∀ (S:List Spot) (p:Plan),(withL p S).1=p.1∧(withL p S).2.1=p.2.1
 | [],_=>⟨rfl,rfl⟩
 | s::S,p=>withL_crate S (withV p s)
theorem with_in {p:Plan} {s:Spot} (hp:PlanIn p) (hs:inside p.1 s):PlanIn (withV p s):=by
 have hc:=crate_iff.1 hp.ok.crate
 have hr8:=hc.r8
 have hc8:=hc.c8
 have hok:=with_ok (s:=s) hp.ok ⟨hs.1.1,by have:=hs.1.2;omega⟩ ⟨hs.2.1,by have:=hs.2.2;omega⟩
 refine ⟨hok,?_,?_⟩
 ·refine lt_of_bits hok.rows fun k hk=>?_
  show hasB (orI p.2.2.1 (2^s.1.toNat)) (k:Nat)=false
  have hk:p.1.1.length≤k:=hk
  rw [has_or,has_pow hs.1.1,decide_eq_false (by have:=hs.1.2;omega),Bool.or_false]
  cases hb:hasB p.2.2.1 (k:Nat) with
  | false=>rfl
  | true=>have:=bit_lt hp.ok.rows.1 hp.r hb;omega
 ·refine lt_of_bits hok.cols fun k hk=>?_
  show hasB (orI p.2.2.2 (2^s.2.toNat)) (k:Nat)=false
  have hk:p.1.2.1.toNat≤k:=hk
  rw [has_or,has_pow hs.2.1,decide_eq_false (by have:=hs.2.2;omega),Bool.or_false]
  cases hb:hasB p.2.2.2 (k:Nat) with
  | false=>rfl
  | true=>have:=bit_lt hp.ok.cols.1 hp.k hb;omega
theorem withL_in:∀ {S:List Spot} {p:Plan},PlanIn p→(∀ s∈S,inside p.1 s)→PlanIn (withL p S)
 | [],p,hp,_=>hp
 | s::S,p,hp,h=>withL_in (S:=S) (with_in hp (h s List.mem_cons_self)) fun s' h'=>h s' (List.mem_cons_of_mem _ h')
theorem withL_rows:∀ {S:List Spot} {p:Plan},(∀ s∈S,inside p.1 s)→∀ k:Nat,hasB (withL p S).2.2.1 (k:Nat)=(hasB p.2.2.1 (k:Nat)||S.any fun s=>decide (s.1=(k:Int)))
 | [],p,_,k=>by simp [withL]
 | s::S,p,h,k=>by
  have:=withL_rows (S:=S) (p:=withV p s) (fun s' h'=>h s' (List.mem_cons_of_mem _ h')) k
  show hasB (withL (withV p s) S).2.2.1 (k:Nat)=_
  rw [this]
  show ((hasB (orI p.2.2.1 (2^s.1.toNat)) (k:Nat))||_)=_
  rw [has_or,has_pow (h s List.mem_cons_self).1.1,List.any_cons,Bool.or_assoc]
  congr 2
  simp [eq_comm]
theorem withL_cols:∀ {S:List Spot} {p:Plan},(∀ s∈S,inside p.1 s)→∀ k:Nat,hasB (withL p S).2.2.2 (k:Nat)=(hasB p.2.2.2 (k:Nat)||S.any fun s=>decide (s.2=(k:Int)))
 | [],p,_,k=>by simp [withL]
 | s::S,p,h,k=>by
  have:=withL_cols (S:=S) (p:=withV p s) (fun s' h'=>h s' (List.mem_cons_of_mem _ h')) k
  show hasB (withL (withV p s) S).2.2.2 (k:Nat)=_
  rw [this]
  show ((hasB (orI p.2.2.2 (2^s.2.toNat)) (k:Nat))||_)=_
  rw [has_or,has_pow (h s List.mem_cons_self).2.1,List.any_cons,Bool.or_assoc]
  congr 2
  simp [eq_comm]
theorem plan0u_in {c:Crate} (hc:CrateOk c) (most:Int):PlanIn (plan0 c most):=by
 refine ⟨⟨crate_iff.2 hc,⟨Int.le_refl _,by show (0:Int)≤255;omega⟩,⟨Int.le_refl _,by show (0:Int)≤255;omega⟩⟩,?_,?_⟩
 ·show (0:Int)<2^c.1.length
  exact Int.pow_pos (by decide)
 ·show (0:Int)<2^c.2.1.toNat
  exact Int.pow_pos (by decide)
def missV (p:Plan):Int:=worstV p.1 p.2.2.1 (sizeV p.2.2.2)
theorem missed_eq {c:Crate} (hc:CrateOk c) (most:Int) {S:List Spot} (hS:∀ s∈S,inside c s) (hl:(S.length:Int)≤40) :
  xray_Missed (c,S)=(missV (withL (plan0 c most) S),0):=by
 have hr8:=hc.r8
 have hc1:=hc.c1
 have hc8:=hc.c8
 have hin:=withL_in (S:=S) (plan0u_in hc most) hS
 have hcr:=(withL_crate S (plan0 c most)).1
 have hR:=withL_rows (S:=S) (p:=plan0 c most) hS
 have hK:=withL_cols (S:=S) (p:=plan0 c most) hS
 generalize hq:withL (plan0 c most) S=q at hin hcr hR hK
 have hcr:q.1=c:=hcr
 have h0R:∀ k:Nat,hasB (plan0 c most).2.2.1 (k:Nat)=false:=fun k=>has_zero _
 have h0K:∀ k:Nat,hasB (plan0 c most).2.2.2 (k:Nat)=false:=fun k=>has_zero _
 have hkin:q.2.2.2<2^c.2.1.toNat:=by have:=hin.k;rw [hcr] at this;exact this
 have hfit:∀ t:Truth,(S.map goodOf).all (fitB t)=true↔((∀ k:Nat,hasB t.1 (k:Nat)=true→hasB q.2.2.1 (k:Nat)=false)∧∀ k:Nat,hasB t.2 (k:Nat)=true→hasB q.2.2.2 (k:Nat)=false):=by
  intro t
  have e:(S.map goodOf).all (fitB t)=true↔∀ s∈S,hasB t.1 s.1=false∧hasB t.2 s.2=false:=by
   rw [List.all_map,List.all_eq_true]
   constructor
   ·intro h s hs
    have h:(!(hasB t.1 s.1||hasB t.2 s.2))=true:=h s hs
    simpa using h
   ·intro h s hs
    show (!(hasB t.1 s.1||hasB t.2 s.2))=true
    rw [(h s hs).1,(h s hs).2];rfl
  rw [e]
  constructor
  ·intro h
   refine ⟨fun k hk=>?_,fun k hk=>?_⟩
   ·rw [hR,h0R,Bool.false_or]
    refine Bool.eq_false_iff.2 fun ha=>?_
    obtain ⟨s,hs,he⟩:=List.any_eq_true.1 ha
    have he:=of_decide_eq_true he
    have:=(h s hs).1
    rw [he,hk] at this;cases this
   ·rw [hK,h0K,Bool.false_or]
    refine Bool.eq_false_iff.2 fun ha=>?_
    obtain ⟨s,hs,he⟩:=List.any_eq_true.1 ha
    have he:=of_decide_eq_true he
    have:=(h s hs).2
    rw [he,hk] at this;cases this
  ·rintro ⟨h1,h2⟩ s hs
   have hi:=hS s hs
   refine ⟨Bool.eq_false_iff.2 fun hb=>?_,Bool.eq_false_iff.2 fun hb=>?_⟩
   ·rw [show s.1=((s.1.toNat:Nat):Int) by have:=hi.1.1;omega] at hb
    have:=h1 _ hb
    rw [hR,h0R,Bool.false_or] at this
    have h3:S.any (fun s'=>decide (s'.1=((s.1.toNat:Nat):Int)))=true:=List.any_eq_true.2 ⟨s,hs,decide_eq_true (by have:=hi.1.1;omega)⟩
    rw [this] at h3;cases h3
   ·rw [show s.2=((s.2.toNat:Nat):Int) by have:=hi.2.1;omega] at hb
    have:=h2 _ hb
    rw [hK,h0K,Bool.false_or] at this
    have h3:S.any (fun s'=>decide (s'.2=((s.2.toNat:Nat):Int)))=true:=List.any_eq_true.2 ⟨s,hs,decide_eq_true (by have:=hi.2.1;omega)⟩
    rw [this] at h3;cases h3
 have hlook:(S.map goodOf).all (lookB c)=true:=by
  rw [List.all_map,List.all_eq_true]
  intro s hs
  have hi:=hS s hs
  show (placeB c s.1 s.2&&inB 0 0 2)=true
  have:placeB c s.1 s.2=true:=by
   simp only [placeB,Bool.and_eq_true,inB_iff]
   exact ⟨⟨hi.1.1,by have:=hi.1.2;omega⟩,hi.2.1,by have:=hi.2.2;omega⟩
  rw [this];rfl
 obtain ⟨t,t1,⟨t2,t3⟩,⟨t4,t5⟩,t6,t7,t8⟩:=worst_is hc (rows:=q.2.2.1) (cols:=q.2.2.2) hin.ok.cols hkin
 have htm:t∈fitsL c (S.map goodOf):=fits_mem.2 ⟨⟨⟨t1.1.1,t2⟩,t3⟩,⟨⟨t1.2.1,t4⟩,t5⟩,(hfit t).2 ⟨t6,t7⟩⟩
 have hW:=within_of hc (by rw [List.length_map];exact hl) hlook htm
 have hP:=pict_is hc (S.map goodOf)
 obtain ⟨u,u1,u2⟩:=hP.hiE hW.went.ne
 have hum:=fits_mem.1 u1
 have hus:=fits_small hc u1
 obtain ⟨d1,d2⟩:=(hfit u).1 hum.2.2
 have hds:=disj_size (n:=c.2.1.toNat) (by omega) hus.2 hum.2.1.1.2 hin.ok.cols hkin d2
 have q1:=hP.hi t htm
 have q2:=many_le_worst hc (rows:=q.2.2.1) (n:=sizeV q.2.2.2) hus hum.1.1.2 hum.1.2 d1 (by have:=hum.2.1.2;omega) (size_bd _).1
 have e:missV q=(pictV c (S.map goodOf)).2.1.2:=by
  unfold missV
  rw [hcr]
  omega
 unfold xray_Missed
 rw [show openE (c,S).1 ((c,S).2.map goodOf) true=0 from went_zero hW.went,e]
 rfl
end Go.Xr
