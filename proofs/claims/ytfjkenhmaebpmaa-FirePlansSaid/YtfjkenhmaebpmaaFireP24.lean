/-
  Chapter 3: FirePlans: its conditions.
-/
import Derived.Test.YtfjkenhmaebpmaaFireP23
set_option linter.all false
set_option maxRecDepth 100000
set_option maxHeartbeats 4000000
namespace Go.Fire
open Go Go.Sx
theorem getD_set' {α:Type} (l:List α) (a d:α) {i j:Nat} (hi:i<l.length):(l.set i a).getD j d=if j=i then a else l.getD j d:=by
 by_cases e:j=i
 ·subst e;rw [if_pos rfl,List.getD_eq_getElem?_getD,List.getElem?_set_self hi];rfl
 ·rw [if_neg e,List.getD_eq_getElem?_getD,List.getElem?_set_ne (Ne.symm e),←List.getD_eq_getElem?_getD]
theorem rep_getD {n i:Nat}:(List.replicate n false).getD i false=false:=by
 rw [List.getD_eq_getElem?_getD,List.getElem?_replicate]
 split<;>rfl
theorem snoc_getD {α:Type} (l:List α) (a d:α) {i:Nat}:(l++[a]).getD i d=if i<l.length then l.getD i d else if i=l.length then a else d:=by
 by_cases h:i<l.length
 ·rw [if_pos h,List.getD_eq_getElem?_getD,List.getElem?_append_left h,←List.getD_eq_getElem?_getD]
 ·rw [if_neg h]
  by_cases e:i=l.length
  ·subst e;rw [if_pos rfl];simp
  ·rw [if_neg e,List.getD_eq_getElem?_getD,List.getElem?_eq_none (by simp;omega)];rfl
def RowOk (k:Kiln) (f:Fire) (S:List Stand) (n a:Nat) (row:List Bool):Prop :=
 row.length=f.2.2.2.1.toNat+1∧∀ r:Nat,r≤f.2.2.2.1.toNat→(row.getD r false=true↔Ends k f S n ((a:Int)*k.2.2.2,(r:Int)))
def Part (k:Kiln) (f:Fire) (S:List Stand) (n a b:Nat) (r:Nat) (v:Bool):Prop :=
 v=true↔∃ b',b'<b∧followsV k.2.2.1 f S ((a:Int)*k.2.2.2) ((b':Int)*k.2.2.2)=true∧Ends k f S n (nx f S ((a:Int)*k.2.2.2,(r:Int)) ((b':Int)*k.2.2.2))
def TabOk (k:Kiln) (f:Fire) (S:List Stand) (n st:Nat) (T:List (List Bool)):Prop:=T.length=st∧∀ a,a<st→RowOk k f S n a (T.getD a [])
theorem plan_val {k:Kiln} {f:Fire} {l:List Int} (hk:kilnB k=true) (hf:fireB f=true) (hp:placesB k l (-1)=true) (hl:0<l.length) {r:(List Int) × Int} (h:Least k f (standsOf k f l) r):r=planV k f l:=by
 have K:=kiln_iff.1 hk
 have F:=fire_iff.1 hf
 have e:planV k f l=searchV k f (standsOf k f l) 600 (startV k f (standsOf k f l)):=by
  rw [planV,hk,hf,hp,show ((l.length:Int)==0)=false from beq_eq_false_iff_ne.2 (by omega)];rfl
 rw [e]
 exact least_uniq K.step.1 h (plan_least K.step.1 F.2.1)
theorem v22 (x:Kiln × Fire × List Int) (hp:k22.pre x):V22 x:=by
 obtain ⟨k,f,l⟩:=x
 obtain ⟨hkl,hll⟩:k.1.length≤big∧l.length≤big:=hp
 have hb:big=1000000:=rfl
 have e0:ref03u_Plan (k,f,l)=planV k f l:=rfl
 unfold V22
 dsimp only
 rw [e0]
 refine ⟨by show k.1.length≤140737488355328;omega,fun _=>trivial,fun hv=>?_,fun hv=>⟨⟨hkl,hll⟩,fun hv2=>?_,fun hv2=>?_⟩⟩
 ·have hv:(!kilnB k||!fireB f)=true:=hv
  rw [planV,hv];rfl
 ·have hv:(!kilnB k||!fireB f)=false:=hv
  have hv2:(!(placesB k l (-1)&&decide (0<(l.length:Int))))=true:=hv2
  have:(!placesB k l (-1)||(l.length:Int)==0)=true:=by
   cases h1:placesB k l (-1) with
   | false=>rfl
   | true =>
    rw [h1,Bool.true_and] at hv2
    have:=not_iff.1.1 hv2
    have:=of_decide_eq_false this
    rw [show ((l.length:Int)==0)=true from beq_iff_eq.2 (by omega)];rfl
  rw [planV,hv,this];rfl
 have hkf:kilnB k=true∧fireB f=true:=by
  have hv:(!kilnB k||!fireB f)=false:=hv
  cases h1:kilnB k<;>cases h2:fireB f<;>rw [h1,h2] at hv<;>first | exact ⟨rfl,rfl⟩ | cases hv
 obtain ⟨hk,hf⟩:=hkf
 have hpl:placesB k l (-1)=true∧0<l.length:=by
  have hv2:(!(placesB k l (-1)&&decide (0<(l.length:Int))))=false:=hv2
  have:=not_iff.2.1 hv2
  rw [Bool.and_eq_true,decide_eq_true_eq] at this
  exact ⟨this.1,by omega⟩
 obtain ⟨hpb,hl0⟩:=hpl
 clear hv hv2 e0
 have K:=kiln_iff.1 hk
 have F:=fire_iff.1 hf
 have ks:=K.step
 have fh:=F.2.1
 have hats:atsOk k l:=⟨hk,hll,places_in hpb⟩
 obtain ⟨S,hS⟩:∃ S,S=standsOf k f l:=⟨_,rfl⟩
 obtain ⟨H,hH⟩:∃ H,H=f.2.2.2.1.toNat:=⟨_,rfl⟩
 have hHi:f.2.2.2.1=(H:Int):=by omega
 obtain ⟨st,hst⟩:∃ st:Nat,(2000:Int).tdiv k.2.2.2+1=(st:Int):=by
  have:=Int.tdiv_nonneg (a:=2000) (b:=k.2.2.2) (by omega) (by omega)
  exact ⟨((2000:Int).tdiv k.2.2.2+1).toNat,by omega⟩
 have hq:(2000:Int).tdiv k.2.2.2=2000 / k.2.2.2:=Int.tdiv_eq_ediv_of_nonneg (by omega)
 have q40:(2000:Int) / k.2.2.2≤40:=by
  have:(2000:Int) / k.2.2.2<41:=Int.ediv_lt_of_lt_mul (by omega) (by omega)
  omega
 have mul_le:∀ j:Nat,j<st→0≤(j:Int)*k.2.2.2∧(j:Int)*k.2.2.2≤2000:=fun j hj=>by
  have h1:(j:Int)≤2000 / k.2.2.2:=by omega
  have h2:=(Int.le_ediv_iff_mul_le (by omega)).1 h1
  exact ⟨Int.mul_nonneg (by omega) (by omega),h2⟩
 have num:∀ x:Int,isNum k x↔∃ j,j<st∧x=(j:Int)*k.2.2.2:=fun x=>by
  constructor
  ·rintro ⟨⟨j,e⟩,h⟩
   refine ⟨j,?_,e⟩
   have h1:=(Int.le_ediv_iff_mul_le (c:=k.2.2.2) (by omega)).2 (by rw [←e];exact h)
   omega
  ·rintro ⟨j,hj,e⟩
   exact ⟨⟨j,e⟩,by rw [e];exact (mul_le j hj).2⟩
 have z64:∀ j:Nat,j<st→Z.in64 ((j:Int)*k.2.2.2):=fun j hj=>by have:=mul_le j hj;simp only [Z.in64];omega
 have sOk:∀ j:Nat,j<st→setOk ((j:Int)*k.2.2.2):=mul_le
 have fol:∀ a b:Int,ref03u_follows (k,f,l,a,b)=followsV k.2.2.1 f S a b:=fun a b=>by rw [hS];rfl
 have run:∀ h b:Int,ref03u_run (k,f,l,h,b)=soakedV f S b h:=fun h b=>by rw [hS];rfl
 have cold:∀ s h:Int,ref03u_cold (k,l,s,h)=allCold S s h:=fun s h=>by rw [hS];exact cold_eq k f l s h
 have folP:∀ a b:Nat,a<st→b<st→ref03u_follows_p (k,f,l,(a:Int)*k.2.2.2,(b:Int)*k.2.2.2):=fun a b ha hb=>⟨⟨hats,hf⟩,sOk a ha,sOk b hb⟩
 have runP:∀ (h:Int) (b:Nat),b<st→0≤h→h≤f.2.2.2.1→ref03u_run_p (k,f,l,h,(b:Int)*k.2.2.2):=fun h b hb h0 h1=>⟨⟨hats,sOk b hb,hf⟩,h0,h1⟩
 have coldP:∀ (s:Nat) (h:Int),s<st→0≤h→h≤4000→ref03u_cold_p (k,l,(s:Int)*k.2.2.2,h):=fun s h hs h0 h1=>⟨hats,sOk s hs,h0,h1⟩
 have soakB:∀ (r:Nat) (s:Int),r≤H→∃ r':Nat,soakedV f S s (r:Int)=(r':Int)∧r'≤H:=fun r s hr=>by
  have:=soaked_bd (l:=S) (set:=s) (had:=(r:Int)) fh.1 (by omega)
  exact ⟨(soakedV f S s (r:Int)).toNat,by omega,by omega⟩
 have zi:∀ j:Nat,j≤100→Z.in64 ((j:Int)+1):=fun j hj=>by simp only [Z.in64];omega
 have st100:st≤41:=by omega
 rw [hst,hHi]
 simp only [fol,run,cold]
 rw [show ((H:Int)+1).toNat=H+1 by omega]
 refine ⟨⟨by omega,by simp only [Z.in64];omega⟩,by simp only [Z.in64];omega,?_⟩
 refine ⟨fun s=>∃ n:Nat,s.2=(n:Int)∧n≤40∧s.1.length=n∧∀ i,i<n→TabOk k f S i st (s.1.getD i [])∧NoStart k f S i,fun s=>(40 - s.2).toNat,⟨0,rfl,by omega,rfl,fun i hi=>by omega⟩,?_⟩
 rintro ⟨E,_⟩ ⟨n,rfl,hn,hE,hT⟩
 dsimp only at hE hT ⊢
 refine ⟨fun hd=>⟨⟨⟨by omega,Int.le_refl _⟩,roomy_of (by omega) (by omega) (by omega)⟩,?_⟩,fun hd=>?_⟩
 rotate_left
 ·have hd:=of_decide_eq_false hd
  exact plan_val hk hf hpb hl0 (by rw [←hS];exact least_none ks.1 fh.1 fun i hi=>(hT i (by omega)).2)
 have hd:=of_decide_eq_true hd
 have hn40:n<40:=by omega
 have hT':∀ i,i<n→TabOk k f S i st (E.getD i []):=fun i hi=>(hT i hi).1
 refine ⟨fun s=>∃ a:Nat,s.1=(a:Int)∧a≤st∧s.2.length=st∧∀ a',a'<a→RowOk k f S n a' (s.2.getD a' []),fun s=>((st:Int) - s.1).toNat,⟨0,rfl,by omega,by simp,fun a' h=>by omega⟩,?_⟩
 rintro ⟨_,T⟩ ⟨a,rfl,ha,hTl,hR⟩
 dsimp only at hTl hR ⊢
 refine ⟨fun hd=>?_,fun hd=>⟨?_,?_⟩⟩
 ·have hd:=of_decide_eq_true hd
  have ha':a<st:=by omega
  rw [Int.toNat_natCast]
  refine ⟨by simp only [Z.in64];omega,⟨⟨by omega,Int.le_refl _⟩,roomy_of (by omega) (by omega) (by omega)⟩,by omega,?_⟩
  refine ⟨fun s=>∃ b:Nat,s.1=(b:Int)∧b≤st∧(n=0→b=0)∧s.2.length=st∧(∀ a',a'<a→RowOk k f S n a' (s.2.getD a' []))∧(s.2.getD a []).length=H+1∧∀ r,r≤H→Part k f S (n - 1) a b r ((s.2.getD a []).getD r false),fun s=>((st:Int) - s.1).toNat,
   ⟨0,rfl,by omega,fun _=>rfl,by simp [hTl],fun a' h=>?_,?_,fun r hr=>?_⟩,?_⟩
  ·rw [getD_set' _ _ _ (by omega),if_neg (by omega)];exact hR a' h
  ·rw [getD_set' _ _ _ (by omega),if_pos rfl];simp
  ·rw [getD_set' _ _ _ (by omega),if_pos rfl,rep_getD]
   exact ⟨fun h=>(by cases h),fun ⟨b',h,_⟩=>(by omega)⟩
  clear hR hTl
  rintro ⟨_,T⟩ ⟨b,rfl,hb,hb0,hTl,hR,hRl,hP⟩
  dsimp only at hTl hR hRl hP ⊢
  refine ⟨fun hd2=>?_,fun hd2=>?_⟩
  ·simp only [Bool.and_eq_true,decide_eq_true_eq] at hd2
   have hb':b<st:=by omega
   have hn0:0<n:=by omega
   refine ⟨z64 a ha',z64 b hb',folP a b ha' hb',fun hv=>⟨zi b (by omega),(by trivial),⟨b+1,rfl,by omega,fun h=>by omega,hTl,hR,hRl,fun r hr=>?_⟩,by show ((st:Int) - ((b:Int)+1)).toNat<((st:Int) - (b:Int)).toNat;omega⟩,fun hv=>?_⟩
   ·have hv:=not_iff.1.1 hv
    refine (hP r hr).trans ⟨fun ⟨b',h1,h2⟩=>⟨b',by omega,h2⟩,fun ⟨b',h1,h2,h3⟩=>?_⟩
    by_cases e:b'=b
    ·subst e;rw [hv] at h2;cases h2
    ·exact ⟨b',by omega,h2,h3⟩
   ·have hv:=not_iff.2.1 hv
    refine ⟨fun s=>∃ r:Nat,s.1=(r:Int)∧r≤H+1∧s.2.length=st∧(∀ a',a'<a→RowOk k f S n a' (s.2.getD a' []))∧(s.2.getD a []).length=H+1∧(∀ q,q≤H→q<r→Part k f S (n - 1) a (b+1) q ((s.2.getD a []).getD q false))∧∀ q,q≤H→r≤q→Part k f S (n - 1) a b q ((s.2.getD a []).getD q false),fun s=>((H:Int)+1 - s.1).toNat,
     ⟨0,rfl,by omega,hTl,hR,hRl,fun q _ h=>by omega,fun q hq _=>hP q hq⟩,?_⟩
    clear hTl hR hRl hP
    rintro ⟨_,T⟩ ⟨r,rfl,hr,hTl,hR,hRl,hP1,hP2⟩
    dsimp only at hTl hR hRl hP1 hP2 ⊢
    refine ⟨fun hd3=>?_,fun hd3=>?_⟩
    ·have hd3:=of_decide_eq_true hd3
     have hr':r≤H:=by omega
     obtain ⟨r',hr1,hr2⟩:=soakB r ((b:Int)*k.2.2.2) hr'
     obtain ⟨t1,t2⟩:=hT' (n - 1) (by omega)
     obtain ⟨w1,w2⟩:=t2 b hb'
     rw [←hH] at w1
     have en:(n:Int) - 1=((n - 1:Nat):Int):=by omega
     rw [hr1,en]
     simp only [Int.toNat_natCast]
     have ixa:(0:Int)≤(a:Int)∧(a:Int)<(T.length:Int):=by omega
     have ixr:(0:Int)≤(r:Int)∧(r:Int)<((T.getD a []).length:Int):=by rw [hRl];omega
     refine ⟨ixa,ixa,ixr,fun _=>by simp only [Z.in64];omega,fun _=>⟨by omega,by rw [hE];omega⟩,fun _=>⟨by omega,by rw [t1];omega⟩,fun _=>z64 b hb',fun _=>runP _ b hb' (by omega) (by omega),fun _=>⟨by omega,by rw [w1];omega⟩,ixr,zi r (by omega),(by trivial),⟨r+1,rfl,by omega,by simp [hTl],fun a' h=>?_,?_,fun q hq h=>?_,fun q hq h=>?_⟩,by show ((H:Int)+1 - ((r:Int)+1)).toNat<((H:Int)+1 - (r:Int)).toNat;omega⟩
     ·rw [getD_set' _ _ _ (by omega),if_neg (by omega)];exact hR a' h
     ·rw [getD_set' _ _ _ (by omega),if_pos rfl,List.length_set];exact hRl
     ·rw [getD_set' _ _ _ (by omega),if_pos rfl,getD_set' _ _ _ (by omega)]
      by_cases e:q=r
      ·subst e
       rw [if_pos rfl]
       have h1:=hP2 q hq (Nat.le_refl q)
       have h2:=w2 r' (by omega)
       have hnx:Ends k f S (n - 1) (nx f S ((a:Int)*k.2.2.2,(q:Int)) ((b:Int)*k.2.2.2))↔Ends k f S (n - 1) ((b:Int)*k.2.2.2,(r':Int)):=by
        rw [←hr1];exact Iff.rfl
       constructor
       ·intro hh
        rw [Bool.or_eq_true] at hh
        rcases hh with hh | hh
        ·obtain ⟨b',g1,g2⟩:=h1.1 hh
         exact ⟨b',by omega,g2⟩
        ·exact ⟨b,by omega,hv,hnx.2 (h2.1 hh)⟩
       ·rintro ⟨b',g1,g2,g3⟩
        rw [Bool.or_eq_true]
        by_cases e:b'=b
        ·subst e;exact .inr (h2.2 (hnx.1 g3))
        ·exact .inl (h1.2 ⟨b',by omega,g2,g3⟩)
      ·rw [if_neg e];exact hP1 q hq (by omega)
     ·rw [getD_set' _ _ _ (by omega),if_pos rfl,getD_set' _ _ _ (by omega),if_neg (by omega)]
      exact hP2 q hq (by omega)
    ·have hd3:=of_decide_eq_false hd3
     have e:r=H+1:=by omega
     subst e
     exact ⟨zi b (by omega),(by trivial),⟨b+1,rfl,by omega,fun h=>by omega,hTl,hR,hRl,fun q hq=>hP1 q hq (by omega)⟩,by show ((st:Int) - ((b:Int)+1)).toNat<((st:Int) - (b:Int)).toNat;omega⟩
  ·-- all steps have been looked at
   have nxt:((st:Int) - ((a:Int)+1)).toNat<((st:Int) - (a:Int)).toNat:=by omega
   by_cases hn0:n=0
   ·subst hn0
    have hb00:=hb0 rfl
    subst hb00
    have ixa:(0:Int)≤(a:Int)∧(a:Int)<(T.length:Int):=by omega
    simp only [Int.toNat_natCast]
    refine ⟨fun _=>⟨ixa,z64 a ha',coldP a _ ha' (by omega) (by omega),⟨by omega,by rw [hRl];omega⟩,zi a (by omega),(by trivial),⟨a+1,rfl,by omega,by simp [hTl],fun a' h=>?_⟩,nxt⟩,fun hh=>(by cases hh)⟩
    rw [getD_set' _ _ _ (by omega)]
    by_cases e:a'=a
    ·subst e
     rw [if_pos rfl]
     refine ⟨by rw [List.length_set,hRl,hH],fun r hr=>?_⟩
     rw [←hH] at hr
     rw [getD_set' _ _ _ (by omega)]
     by_cases e:r=H
     ·subst e
      rw [if_pos rfl]
      show _↔(((r:Int)==f.2.2.2.1)&&allCold S ((a':Int)*k.2.2.2) f.1)=true
      rw [hHi,show (((r:Nat):Int)==(r:Int))=true from beq_self_eq_true _,Bool.true_and]
     ·rw [if_neg e]
      have h1:=hP r hr
      constructor
      ·intro h
       obtain ⟨b',h2,_⟩:=h1.1 h
       omega
      ·intro h
       have h:(((r:Int)==f.2.2.2.1)&&allCold S ((a':Int)*k.2.2.2) f.1)=true:=h
       rw [hHi,show (((r:Nat):Int)==(H:Int))=false from beq_eq_false_iff_ne.2 (by omega)] at h
       cases h
    ·rw [if_neg e];exact hR a' (by omega)
   ·have eb:b=st:=by
     rw [decide_eq_true (show (0:Int)<(n:Int) by omega),Bool.and_true] at hd2
     have:=of_decide_eq_false hd2
     omega
    subst eb
    refine ⟨fun hh=>?_,fun _=>⟨zi a (by omega),(by trivial),⟨a+1,rfl,by omega,hTl,fun a' h=>?_⟩,nxt⟩⟩
    ·have:=eq_of_beq hh;omega
    by_cases e:a'=a
    ·subst e
     refine ⟨by rw [hRl,hH],fun r hr=>?_⟩
     rw [←hH] at hr
     refine (hP r hr).trans ?_
     obtain ⟨m,rfl⟩:∃ m,n=m+1:=⟨n - 1,by omega⟩
     show _↔∃ x,isNum k x∧followsV k.2.2.1 f S ((a':Int)*k.2.2.2) x=true∧Ends k f S m (nx f S ((a':Int)*k.2.2.2,(r:Int)) x)
     constructor
     ·rintro ⟨b',h1,h2,h3⟩
      exact ⟨_,(num _).2 ⟨b',h1,rfl⟩,h2,h3⟩
     ·rintro ⟨x,h1,h2,h3⟩
      obtain ⟨j,hj,rfl⟩:=(num x).1 h1
      exact ⟨j,hj,h2,h3⟩
    ·exact hR a' (by omega)
 ·exact roomy_of (by omega) (by omega) (by simp;omega)
 have hd:=of_decide_eq_false hd
 have e:a=st:=by omega
 subst e
 have hTab:TabOk k f S n a T:=⟨hTl,hR⟩
 obtain ⟨E',hE'⟩:∃ E',E'=E++[T]:=⟨_,rfl⟩
 have hEl:E'.length=n+1:=by rw [hE'];simp [hE]
 have hEt:∀ i,i≤n→TabOk k f S i a (E'.getD i []):=fun i hi=>by
  rw [hE',snoc_getD,hE]
  by_cases h:i<n
  ·rw [if_pos h];exact hT' i h
  ·have:i=n:=by omega
   subst this
   rw [if_neg h,if_pos rfl];exact hTab
 show Z.LoopP _ _
 have eE:E++([([]:List (List Bool))].set 0 T)=E':=by rw [hE'];rfl
 simp only [List.replicate_one,eE]
 refine ⟨fun s=>∃ b:Nat,s=(b:Int)∧b≤a∧∀ b',b'<b→okT k f S noneS ((b':Int)*k.2.2.2)=true→¬ Ends k f S n (nx f S noneS ((b':Int)*k.2.2.2)),fun s=>((a:Int) - s).toNat,⟨0,rfl,by omega,fun b' h=>by omega⟩,?_⟩
 rintro _ ⟨b,rfl,hb,hno⟩
 refine ⟨fun hd2=>?_,fun hd2=>?_⟩
 rotate_left
 ·have hd2:=of_decide_eq_false hd2
  have e:b=a:=by omega
  subst e
  refine ⟨zi n (by omega),⟨n+1,rfl,by omega,hEl,fun i hi=>⟨hEt i (by omega),?_⟩⟩,by show (40 - ((n:Int)+1)).toNat<(40 - (n:Int)).toNat;omega⟩
  by_cases h:i<n
  ·exact (hT i h).2
  ·have:i=n:=by omega
   subst this
   intro x hx hok
   obtain ⟨j,hj,rfl⟩:=(num x).1 hx
   exact hno j hj hok
 have hd2:=of_decide_eq_true hd2
 have hb':b<a:=by omega
 obtain ⟨r,hr1,hr2⟩:=soakB 0 ((b:Int)*k.2.2.2) (by omega)
 rw [show (((0:Nat):Int))=0 from rfl] at hr1
 obtain ⟨w1,w2⟩:=hR b hb'
 rw [←hH] at w1 w2
 have hok:okT k f S noneS ((b:Int)*k.2.2.2)=(allCold S ((b:Int)*k.2.2.2) f.1&&allCold S ((b:Int)*k.2.2.2) f.2.2.1):=rfl
 have hnx:nx f S noneS ((b:Int)*k.2.2.2)=((b:Int)*k.2.2.2,(r:Int)):=by rw [←hr1];rfl
 rw [hr1]
 simp only [Int.toNat_natCast]
 refine ⟨z64 b hb',runP 0 b hb' (by omega) (by omega),coldP b _ hb' (by omega) (by omega),fun _=>coldP b _ hb' (by omega) (by omega),fun _=>⟨by omega,by omega⟩,fun _=>⟨by omega,by rw [w1];omega⟩,fun hv=>⟨zi b (by omega),(by trivial),(by trivial),(by trivial),⟨b+1,rfl,by omega,fun b2 h h2=>?_⟩,by show ((a:Int) - ((b:Int)+1)).toNat<((a:Int) - (b:Int)).toNat;omega⟩,fun hv=>⟨by simp only [Z.in64];omega,?_⟩⟩
 ·by_cases e:b2=b
  ·subst e
   rw [hok,Bool.and_eq_true] at h2
   rw [h2.1,h2.2] at hv
   intro h3
   rw [hnx] at h3
   rw [(w2 r hr2).2 h3] at hv
   cases hv
  ·exact hno b2 (by omega) h2
 have hall:(allCold S ((b:Int)*k.2.2.2) f.2.2.1=true∧allCold S ((b:Int)*k.2.2.2) f.1=true)∧(T.getD b []).getD r false=true:=by
  cases h1:allCold S ((b:Int)*k.2.2.2) f.2.2.1<;>cases h2:allCold S ((b:Int)*k.2.2.2) f.1<;>cases h3:(T.getD b []).getD r false<;>rw [h1,h2,h3] at hv<;>first | exact ⟨⟨rfl,rfl⟩,rfl⟩ | cases hv
 have hbest:Best k f S n [(b:Int)*k.2.2.2]:=by
  refine best_start ks.1 ((num _).2 ⟨b,hb',rfl⟩) (by rw [hok,hall.1.1,hall.1.2];rfl) (by rw [hnx];exact (w2 r hr2).1 hall.2) fun x hx h1 h2=>?_
  obtain ⟨j,hj,rfl⟩:=(num x).1 hx
  rcases Nat.lt_or_ge j b with h | h
  ·exact absurd h2 (hno j h h1)
  ·exact Int.mul_le_mul_of_nonneg_right (by omega) (by omega)
 refine ⟨fun s=>∃ (q:Nat) (d:List Int) (c r':Nat),s=((c:Int)*k.2.2.2,(r':Int),d.reverse,(q:Int) - 1)∧c<a∧r'≤H∧d.length+q=n+1∧stR f S d=((c:Int)*k.2.2.2,(r':Int))∧Best k f S q d,fun s=>(s.2.2.2+1).toNat,
  ⟨n,[(b:Int)*k.2.2.2],b,r,rfl,hb',hr2,by simp;omega,hnx,hbest⟩,?_⟩
 rintro _ ⟨q,d,c,r',rfl,hc,hr',hdq,hst',hB⟩
 dsimp only
 refine ⟨fun hd3=>?_,fun hd3=>?_⟩
 rotate_left
 ·have hd3:=of_decide_eq_false hd3
  have e:q=0:=by omega
  subst e
  exact plan_val hk hf hpb hl0 (by rw [←hS];exact least_of ks.1 fh.1 (fun i hi=>(hT i hi).2) hB (by omega) (by omega))
 have hd3:=of_decide_eq_true hd3
 obtain ⟨q',rfl⟩:∃ q',q=q'+1:=⟨q - 1,by omega⟩
 have eq':((q'+1:Nat):Int) - 1=(q':Int):=by omega
 rw [eq']
 obtain ⟨t1,t2⟩:=hEt q' (by omega)
 refine ⟨fun s=>∃ g:Nat,s=(g:Int)∧g≤a∧∀ g',g'<g→followsV k.2.2.1 f S ((c:Int)*k.2.2.2) ((g':Int)*k.2.2.2)=true→¬ Ends k f S q' (nx f S ((c:Int)*k.2.2.2,(r':Int)) ((g':Int)*k.2.2.2)),fun s=>((a:Int) - s).toNat,⟨0,rfl,by omega,fun g' h=>by omega⟩,?_⟩
 rintro _ ⟨g,rfl,hg,hgn⟩
 have hga:g<a:=by
  rcases Nat.lt_or_ge g a with h | h
  ·exact h
  ·exfalso
   obtain ⟨x,h1,h2,h3⟩:=hB.2.2.1
   rw [hst'] at h2 h3
   obtain ⟨j,hj,rfl⟩:=(num x).1 h1
   exact hgn j (by omega) h2 h3
 obtain ⟨u,hu1,hu2⟩:=soakB r' ((g:Int)*k.2.2.2) hr'
 obtain ⟨w3,w4⟩:=t2 g hga
 rw [←hH] at w3 w4
 have hnx2:nx f S ((c:Int)*k.2.2.2,(r':Int)) ((g:Int)*k.2.2.2)=((g:Int)*k.2.2.2,(u:Int)):=by rw [←hu1];rfl
 rw [hu1]
 simp only [Int.toNat_natCast]
 refine ⟨z64 g hga,folP c g hc hga,fun _=>⟨by omega,by rw [hEl];omega⟩,fun _=>⟨by omega,by rw [t1];omega⟩,fun _=>z64 g hga,fun _=>runP _ g hga (by omega) (by omega),fun _=>⟨by omega,by rw [w3];omega⟩,fun hv2=>⟨zi g (by omega),(by trivial),(by trivial),(by trivial),(by trivial),⟨g+1,rfl,by omega,fun g2 h h2=>?_⟩,by show ((a:Int) - ((g:Int)+1)).toNat<((a:Int) - (g:Int)).toNat;omega⟩,fun hv2=>?_⟩
 ·by_cases e:g2=g
  ·subst e
   rw [h2] at hv2
   intro h3
   rw [hnx2] at h3
   rw [(w4 u hu2).2 h3] at hv2
   cases hv2
  ·exact hgn g2 (by omega) h2
 have hall2:followsV k.2.2.1 f S ((c:Int)*k.2.2.2) ((g:Int)*k.2.2.2)=true∧((E'.getD q' []).getD g []).getD u false=true:=by
  cases h1:followsV k.2.2.1 f S ((c:Int)*k.2.2.2) ((g:Int)*k.2.2.2)<;>cases h3:((E'.getD q' []).getD g []).getD u false<;>rw [h1,h3] at hv2<;>first | exact ⟨rfl,rfl⟩ | cases hv2
 refine ⟨z64 g hga,runP _ g hga (by omega) (by omega),roomy_of (by omega) (by omega) (by rw [List.length_append,List.length_reverse];simp;omega),by simp only [Z.in64];omega,(by trivial),(by trivial),(by trivial),⟨q',(g:Int)*k.2.2.2::d,g,u,?_,hga,hu2,by simp;omega,?_,?_⟩,by show ((q':Int) - 1+1).toNat<((q':Int)+1).toNat;omega⟩
 ·rw [List.reverse_cons];rfl
 ·show nx f S (stR f S d) ((g:Int)*k.2.2.2)=_
  rw [hst',hnx2]
 ·refine best_step ks.1 hB ((num _).2 ⟨g,hga,rfl⟩) (by rw [hst'];exact hall2.1) (by rw [hst',hnx2];exact (w4 u hu2).1 hall2.2) fun x hx h1 h2=>?_
  rw [hst'] at h1 h2
  obtain ⟨j,hj,rfl⟩:=(num x).1 hx
  rcases Nat.lt_or_ge j g with h | h
  ·exact absurd h2 (hgn j h h1)
  ·exact Int.mul_le_mul_of_nonneg_right (by omega) (by omega)
theorem v4 (x:Kiln × Fire × List Int) (_:k4.pre x):V4 x:=by
 obtain ⟨k,f,l⟩:=x
 refine ⟨fun _=>⟨trivial,rfl⟩,fun hv=>?_⟩
 have hv:((decide ((14:Int)<(k.1.length:Int))||decide ((14:Int)<(l.length:Int)))||_)=false:=hv
 simp only [Bool.or_eq_false_iff,decide_eq_false_iff_not] at hv
 obtain ⟨⟨h1,h2⟩,_⟩:=hv
 have hb:big=1000000:=rfl
 have e1:ref03u_Plan (k,f,l)=fire_Plan (k,f,l):=rfl
 have e2:ref03u_Ints ((fire_Plan (k,f,l)).1,(fire_Plan (k,f,l)).1)=true:=sameL_refl _
 dsimp only
 rw [e1,e2]
 refine ⟨trivial,⟨by show k.1.length≤big;omega,by show l.length≤big;omega⟩,?_,fun _=>trivial,?_⟩
 ·have hlen:(fire_Plan (k,f,l)).1.length≤40:=by
   rcases plan_cases k f l with h | h | ⟨_,_,_,_,⟨a,h,_,_,_,h4,_⟩ | ⟨h,_⟩⟩
   ·rw [h];exact Nat.zero_le _
   ·rw [h];exact Nat.zero_le _
   ·rw [h];simpa using h4
   ·rw [h];exact Nat.zero_le _
  show (fire_Plan (k,f,l)).1.length≤big
  omega
 ·simp only [BEq.rfl,Bool.and_self,Bool.true_and];rfl
end Go.Fire
