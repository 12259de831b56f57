/-
  Chapter 6, theory: the fewest places. No program in sight.
-/
import Derived.Test.YtkeeaadooechgaaXrO4
set_option linter.all false
set_option maxRecDepth 100000
set_option maxHeartbeats 4000000
set_option linter.unusedVariables false
namespace Go.Xr
open Go Go.Sx
theorem row_le {c:Crate} {s t:Spot} (hs:inside c s) (ht:inside c t) (h:posn c s≤posn c t):s.1≤t.1:=by
 refine Int.not_lt.1 fun hlt=>?_
 have hm:=Int.mul_le_mul_of_nonneg_right (show t.1+1≤s.1 by omega) (show 0≤c.2.1 by have:=hs.2;omega)
 have h1:=hs.2
 have h2:=ht.2
 rw [Int.add_mul,Int.one_mul] at hm
 simp only [posn] at h
 omega
theorem posn_inj {c:Crate} {s t:Spot} (hs:inside c s) (ht:inside c t) (h:posn c s=posn c t):s=t:=by
 have h1:=row_le hs ht (by omega)
 have h2:=row_le ht hs (by omega)
 have e:s.1=t.1:=by omega
 refine Prod.ext e ?_
 simp only [posn,e] at h
 omega
theorem posn_bd {c:Crate} {s:Spot} (hs:inside c s):0≤posn c s∧posn c s<allP c:=by
 have h1:=hs.1
 have h2:=hs.2
 have m1:=Int.mul_nonneg h1.1 (show 0≤c.2.1 by omega)
 have m2:=Int.mul_le_mul_of_nonneg_right (show s.1+1≤(c.1.length:Int) by omega) (show 0≤c.2.1 by omega)
 rw [Int.add_mul,Int.one_mul] at m2
 simp only [posn,allP]
 omega
theorem posn_at {c:Crate} (hc:CrateOk c) {i:Int} (h0:0≤i):posn c (spotAt c i)=i:=(spot_at (c:=c.2.1) h0 (by have:=hc.c1;omega)).1
theorem spot_inside {c:Crate} (hc:CrateOk c) {i:Int} (h0:0≤i) (h:i<allP c):inside c (spotAt c i):=spot_in hc h0 h
theorem at_posn {c:Crate} (hc:CrateOk c) {s:Spot} (hs:inside c s):spotAt c (posn c s)=s:=by
 have hb:=posn_bd hs
 exact posn_inj (spot_inside hc hb.1 hb.2) hs (posn_at hc hb.1)
theorem next_some {p:Plan} {n:Int} {s:Spot}:∀ (m:Nat) (a b:Int),(b - a).toNat=m→nextV p n (fromTo a b)=some s→∃ i,(a≤i∧i<b)∧s=spotAt p.1 i∧canV (withV p (spotAt p.1 i)) (spotAt p.1 i) (n - 1)=true∧∀ j,a≤j→j<i→canV (withV p (spotAt p.1 j)) (spotAt p.1 j) (n - 1)=false
 | 0,a,b,hm,h=>by
  rw [fromTo_nil (by omega)] at h;cases h
 | m+1,a,b,hm,h=>by
  rw [fromTo_cons (by omega),nextV] at h
  cases hcn:canV (withV p (spotAt p.1 a)) (spotAt p.1 a) (n - 1) with
  | true =>
   rw [hcn,cond_true] at h
   exact ⟨a,⟨Int.le_refl _,by omega⟩,(Option.some.inj h).symm,hcn,fun j h1 h2=>absurd h2 (by omega)⟩
  | false =>
   rw [hcn,cond_false] at h
   obtain ⟨i,i1,i2,i3,i4⟩:=next_some m (a+1) b (by omega) h
   refine ⟨i,⟨by omega,i1.2⟩,i2,i3,fun j h1 h2=>?_⟩
   by_cases hj:j=a
   ·rw [hj];exact hcn
   ·exact i4 j (by omega) h2
theorem next_none {p:Plan} {n:Int}:∀ (m:Nat) (a b:Int),(b - a).toNat=m→nextV p n (fromTo a b)=none→∀ j,a≤j→j<b→canV (withV p (spotAt p.1 j)) (spotAt p.1 j) (n - 1)=false
 | 0,a,b,hm,_,j,h1,h2=>absurd h2 (by omega)
 | m+1,a,b,hm,h,j,h1,h2=>by
  rw [fromTo_cons (by omega),nextV] at h
  cases hcn:canV (withV p (spotAt p.1 a)) (spotAt p.1 a) (n - 1) with
  | true=>rw [hcn,cond_true] at h;cases h
  | false =>
   rw [hcn,cond_false] at h
   by_cases hj:j=a
   ·rw [hj];exact hcn
   ·exact next_none m (a+1) b (by omega) h j (by omega) h2
def LexLe (c:Crate):List Spot→List Spot→Prop
 | [],[]=>True
 | s::F,t::L=>posn c s<posn c t∨s=t∧LexLe c F L
 | _,_=>False
theorem from_spec:∀ (n:Nat) (p:Plan) (after:Spot),PlanIn p→AfterIn p after→0≤after.1 →
  (∃ L,Rise p.1 (posn p.1 after) L∧L.length≤n∧missV (withL p L)≤p.2.1)→(∀ L,Rise p.1 (posn p.1 after) L→L.length<n→¬ missV (withL p L)≤p.2.1) →
  (fromN n p after).length=n∧Rise p.1 (posn p.1 after) (fromN n p after)∧missV (withL p (fromN n p after))≤p.2.1 ∧
   ∀ L,Rise p.1 (posn p.1 after) L→L.length=n→missV (withL p L)≤p.2.1→LexLe p.1 (fromN n p after) L
 | 0,p,after,_,_,_,⟨L,h1,h2,h3⟩,_=>by
  have:L=[]:=List.eq_nil_of_length_eq_zero (by omega)
  subst this
  refine ⟨rfl,trivial,h3,fun L _ hl _=>?_⟩
  have:L=[]:=List.eq_nil_of_length_eq_zero hl
  subst this
  trivial
 | n+1,p,after,hp,ha,ha0,⟨L,h1,h2,h3⟩,hmin=>by
  have hc:=crate_iff.1 hp.ok.crate
  have hc1:=hc.c1
  have hbase:0≤posn p.1 after+1:=by
   have:=Int.mul_nonneg ha0 (show 0≤p.1.2.1 by omega)
   have:=ha.clo
   simp only [posn];omega
  have hfirst:∀ L,Rise p.1 (posn p.1 after) L→L.length=n+1→missV (withL p L)≤p.2.1→∃ s L',L=s::L'∧(inside p.1 s∧posn p.1 after<posn p.1 s)∧Rise p.1 (posn p.1 s) L'∧L'.length=n∧missV (withL (withV p s) L')≤p.2.1∧canV (withV p s) s ((n:Int)+1 - 1)=true:=by
   intro L h1 h2 h3
   cases L with
   | nil=>simp at h2
   | cons s L' =>
    obtain ⟨⟨h4,h5⟩,h6⟩:=h1
    have h7:L'.length=n:=by simpa using h2
    exact ⟨s,L',rfl,⟨h4,h5⟩,h6,h7,h3,can_of (with_in hp h4) (with_after hp ha h4 h5) (by omega) h6 (by omega) h3⟩
  have hlen:L.length=n+1:=by
   have:¬ L.length<n+1:=fun hlt=>hmin L h1 hlt h3
   omega
  have hplaces:placesV p.1 after=fromTo (posn p.1 after+1) (allP p.1):=rfl
  rw [fromN,hplaces]
  obtain ⟨s,L',e,⟨i1,i2⟩,i3,i4,i5,i6⟩:=hfirst L h1 hlen h3
  have hsb:=posn_bd i1
  cases hnx:nextV p ((n:Int)+1) (fromTo (posn p.1 after+1) (allP p.1)) with
  | none =>
   have:=next_none _ _ _ rfl hnx (posn p.1 s) (by omega) hsb.2
   rw [at_posn hc i1,i6] at this
   cases this
  | some s' =>
   obtain ⟨i,hi,es,hcn,hbef⟩:=next_some _ _ _ rfl hnx
   have hi0:0≤i:=by omega
   have hin:=spot_inside hc hi0 hi.2
   have hpo:=posn_at hc hi0
   rw [←es] at hin hcn hpo
   have hlt:posn p.1 after<posn p.1 s':=by omega
   have hao:=with_after hp ha hin hlt
   rw [show (n:Int)+1 - 1=(n:Int) by omega] at hcn
   obtain ⟨M,m1,m2,m3⟩:=of_can (with_in hp hin) hao (by omega) hcn
   have hmin':∀ L,Rise p.1 (posn p.1 s') L→L.length<n→¬ missV (withL (withV p s') L)≤p.2.1:=fun L q1 q2 q3=>hmin (s'::L) ⟨⟨hin,hlt⟩,q1⟩ (by rw [List.length_cons];omega) q3
   obtain ⟨r1,r2,r3,r4⟩:=from_spec n (withV p s') s' (with_in hp hin) hao.base hin.1.1 ⟨M,m1,by omega,m3⟩ hmin'
   refine ⟨by show (fromN n (withV p s') s').length+1=_;omega,⟨⟨hin,hlt⟩,r2⟩,r3,fun L q1 q2 q3=>?_⟩
   obtain ⟨t,T,e,⟨t1,t2⟩,t3,t4,t5,t6⟩:=hfirst L q1 q2 q3
   subst e
   by_cases hord:posn p.1 t<i
   ·have:=hbef (posn p.1 t) (by omega) hord
    rw [at_posn hc t1,t6] at this
    cases this
   ·by_cases heq:posn p.1 t=i
    ·have est:s'=t:=posn_inj hin t1 (by omega)
     subst est
     exact .inr ⟨rfl,r4 T t3 t4 t5⟩
    ·exact .inl (by omega)
theorem after0 {c:Crate} (hc:CrateOk c) (most:Int) {a:Int} (ha:a=-1∨a=0):AfterIn (plan0 c most) (a,-1):=by
 have hr1:=hc.r1
 have hc1:=hc.c1
 refine ⟨by show -1≤a;omega,by show a<(c.1.length:Int);omega,by show (-1:Int)≤-1;omega,by show (-1:Int)<c.2.1;omega,fun k hk=>?_⟩
 have:hasB (0:Int) (k:Nat)=true:=hk
 rw [has_zero] at this;cases this
theorem can0 {c:Crate} (hc:CrateOk c) {most n:Int} (h0:0≤n):canV (plan0 c most) (-1,-1) n=true↔∃ L,Rise c (-1) L∧(L.length:Int)≤n∧missV (withL (plan0 c most) L)≤most:=by
 have hc1:=hc.c1
 have hA:AfterOk (plan0 c most) (-1,-1):=⟨after0 hc most (.inl rfl),.inl rfl⟩
 constructor
 ·intro h
  obtain ⟨L,h1,h2,h3⟩:=of_can (plan0u_in hc most) hA h0 h
  refine ⟨L,?_,h2,h3⟩
  cases L with
  | nil=>trivial
  | cons s L=>exact ⟨⟨h1.1.1,by have:=(posn_bd h1.1.1).1;show (-1:Int)<posn c s;have e:posn (plan0 c most).1 s=posn c s:=rfl;omega⟩,h1.2⟩
 ·rintro ⟨L,h1,h2,h3⟩
  refine can_of (plan0u_in hc most) hA h0 (rise_weak ?_ h1) h2 h3
  show (-1:Int)*c.2.1+-1≤-1
  omega
theorem many_spec (c:Crate) (most:Int):∀ (f m:Nat),(m≤manyN c most f m∧manyN c most f m≤m+f)∧(∀ k,m≤k→k<manyN c most f m→canV (plan0 c most) (-1,-1) (k:Int)=false)∧(manyN c most f m<m+f→canV (plan0 c most) (-1,-1) (manyN c most f m:Int)=true)
 | 0,m=>⟨⟨Nat.le_refl _,Nat.le_refl _⟩,fun k h1 h2=>absurd (show k<m from h2) (by omega),fun h=>absurd (show m<m from h) (by omega)⟩
 | f+1,m=>by
  rw [manyN]
  cases hcn:canV (plan0 c most) (-1,-1) (m:Int) with
  | true =>
   rw [cond_true]
   exact ⟨⟨Nat.le_refl _,by omega⟩,fun k h1 h2=>absurd h2 (by omega),fun _=>hcn⟩
  | false =>
   rw [cond_false]
   obtain ⟨h1,h2,h3⟩:=many_spec c most f (m+1)
   refine ⟨⟨by omega,by omega⟩,fun k h4 h5=>?_,fun h=>h3 (by omega)⟩
   by_cases hk:k=m
   ·subst hk;exact hcn
   ·exact h2 k (by omega) h5
theorem sumF_false (w:Nat→Int):∀ n,sumF w (fun _=>false) n=0
 | 0=>rfl
 | n+1=>by rw [sumF,sumF_false w n];rfl
theorem heavy_none {c:Crate} (hc:CrateOk c) {rows:Int} (h:∀ k:Nat,k<c.1.length→hasB rows (k:Nat)=true):(heavyV c rows).sum=0:=by
 obtain ⟨f,f1,_,f3⟩:=heavy_is hc rows
 rw [←f3,sumF_congr (g:=fun _=>false) fun i hi=>?_]
 ·exact sumF_false _ _
 ·refine Bool.eq_false_iff.2 fun hf=>?_
  have:=f1 i hf
  rw [h i hi] at this;cases this
theorem cntF_all {f:Nat→Bool}:∀ {n:Nat},(∀ i,i<n→f i=true)→cntF f n=n
 | 0,_=>rfl
 | n+1,h=>by rw [cntF_succ,cntF_all (n:=n) fun i hi=>h i (by omega),h n (by omega)];rfl
theorem size_zero:sizeV 0=0:=by kernel_rfl
theorem can_max {c:Crate} (hc:CrateOk c) {most n:Int} (hm:0≤most) (h1:(c.1.length:Int)≤n) (h2:c.2.1≤n):canV (plan0 c most) (-1,-1) n=true:=by
 have hr1:=hc.r1
 have hc1:=hc.c1
 have hd:=hc.dies
 have hA:=after0 hc most (a:=-1) (.inl rfl)
 have hll:(laterV (plan0 c most) (-1,-1)).length=c.1.length:=by
  rw [later_len]
  show ((c.1.length:Int) - (-1+1)).toNat=_
  omega
 have hrows:∀ k:Nat,k<c.1.length→hasB (rowsV (plan0 c most) (-1,-1) n) (k:Nat)=true:=fun k hk=>by
  rw [rows_has hA,Bool.or_eq_true]
  right
  refine decide_eq_true ?_
  unfold topsV
  rw [List.take_of_length_le (by rw [sort_perm.length_eq,hll];omega)]
  exact sort_mem.2 (later_mem.2 ⟨by show (-1:Int)<_;omega,by show _<(c.1.length:Int);omega⟩)
 have hfr:freshV (plan0 c most) (-1,-1)=c.2.1:=by
  rw [fresh_cnt,cntF_all (fun i _=>by
   unfold isFresh
   rw [hll,decide_eq_true (by omega),Bool.true_or,Bool.and_true]
   show (!hasB (0:Int) (i:Nat))=true
   rw [has_zero];rfl)]
  show ((c.2.1.toNat:Nat):Int)=_
  omega
 refine decide_eq_true ?_
 rw [hfr]
 show worstV c _ _≤most
 unfold worstV
 rw [heavy_none hc hrows,show sizeV (plan0 c most).2.2.2=0 from size_zero,show min c.2.2.2 (c.2.1 - (0+min c.2.1 n))=0 by omega]
 omega
structure FewIs (c:Crate) (most:Int):Prop where
 len:(fewestV c most).length=manyN c most (allP c).toNat 0
 max:((fewestV c most).length:Int)≤max (c.1.length:Int) c.2.1
 rise:Rise c (-1) (fewestV c most)
 good:missV (withL (plan0 c most) (fewestV c most))≤most
 few:∀ L,Rise c (-1) L→L.length<(fewestV c most).length→¬ missV (withL (plan0 c most) L)≤most
 lex:∀ L,Rise c (-1) L→L.length=(fewestV c most).length→missV (withL (plan0 c most) L)≤most→LexLe c (fewestV c most) L
theorem many_can {c:Crate} (hc:CrateOk c) {most:Int} (hm:0≤most):canV (plan0 c most) (-1,-1) (manyN c most (allP c).toNat 0:Nat)=true∧((manyN c most (allP c).toNat 0:Nat):Int)≤max (c.1.length:Int) c.2.1:=by
 have hr1:=hc.r1
 have hc1:=hc.c1
 obtain ⟨h1,h2,h3⟩:=many_spec c most (allP c).toNat 0
 have hM:=can_max hc (most:=most) (n:=max (c.1.length:Int) c.2.1) hm (by omega) (by omega)
 have hle:((manyN c most (allP c).toNat 0:Nat):Int)≤max (c.1.length:Int) c.2.1:=by
  refine Int.not_lt.1 fun hlt=>?_
  have:=h2 (max (c.1.length:Int) c.2.1).toNat (by omega) (by omega)
  rw [show (((max (c.1.length:Int) c.2.1).toNat:Nat):Int)=max (c.1.length:Int) c.2.1 by omega,hM] at this
  cases this
 have hall:max (c.1.length:Int) c.2.1≤allP c:=by
  have m1:=Int.mul_le_mul_of_nonneg_left hc1 (show 0≤(c.1.length:Int) by omega)
  have m2:=Int.mul_le_mul_of_nonneg_right (show (1:Int)≤(c.1.length:Int) by omega) (show 0≤c.2.1 by omega)
  simp only [allP];omega
 refine ⟨?_,hle⟩
 by_cases hlt:manyN c most (allP c).toNat 0<0+(allP c).toNat
 ·exact h3 hlt
 ·rw [show ((manyN c most (allP c).toNat 0:Nat):Int)=max (c.1.length:Int) c.2.1 by omega]
  exact hM
theorem few_is {c:Crate} (hc:CrateOk c) {most:Int} (hm:0≤most):FewIs c most:=by
 have hc1:=hc.c1
 obtain ⟨h1,h2⟩:=many_can hc hm
 obtain ⟨_,hbel,_⟩:=many_spec c most (allP c).toNat 0
 obtain ⟨L,l1,l2,l3⟩:=(can0 hc (by omega)).1 h1
 have hmin:∀ L,Rise c (-1) L→L.length<manyN c most (allP c).toNat 0→¬ missV (withL (plan0 c most) L)≤most:=fun L q1 q2 q3=>by
  have:=hbel L.length (Nat.zero_le _) q2
  rw [(can0 hc (by omega)).2 ⟨L,q1,Int.le_refl _,q3⟩] at this
  cases this
 have ep:posn (plan0 c most).1 (0,-1)=-1:=by show (0:Int)*c.2.1+-1=-1;omega
 obtain ⟨r1,r2,r3,r4⟩:=from_spec (manyN c most (allP c).toNat 0) (plan0 c most) (0,-1) (plan0u_in hc most) (after0 hc most (.inr rfl)) (Int.le_refl _) ⟨L,by rw [ep];exact l1,by omega,l3⟩ (by rw [ep];exact hmin)
 rw [ep] at r2 r4
 refine ⟨r1,?_,r2,r3,fun L q1 q2=>hmin L q1 ?_,fun L q1 q2 q3=>r4 L q1 ?_ q3⟩
 ·rw [show (fewestV c most).length=_ from r1];exact h2
 ·rw [←r1];exact q2
 ·rw [←r1];exact q2
end Go.Xr
