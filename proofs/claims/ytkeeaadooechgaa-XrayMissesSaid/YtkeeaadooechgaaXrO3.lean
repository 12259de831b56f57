/-
  Chapter 6, theory: the heaviest rows are best. No program in sight.
-/
import Derived.Test.YtkeeaadooechgaaXrO2
set_option linter.all false
set_option maxRecDepth 100000
set_option maxHeartbeats 4000000
set_option linter.unusedVariables false
namespace Go.Xr
open Go Go.Sx
def byW (w:Int→Int) (a b:Int):Bool:=moreB (w a) (w b)
theorem insW_sorted {w:Int→Int} {x:Int}:∀ {R:List Int},R.Pairwise (fun a b=>w a≤w b)→(insR (byW w) x R).Pairwise (fun a b=>w a≤w b)
 | [],_=>by simp [insR]
 | y::R,h=>by
  have h':=List.pairwise_cons.1 h
  rw [insR]
  cases hb:byW w x y with
  | true =>
   have hb:w y<w x:=of_decide_eq_true hb
   rw [cond_true,List.pairwise_cons]
   refine ⟨fun z hz=>?_,insW_sorted h'.2⟩
   rcases List.mem_cons.1 ((insR_perm (lt:=byW w) (x:=x) (R:=R)).mem_iff.1 hz) with rfl | hz
   ·omega
   ·exact h'.1 z hz
  | false =>
   have hb:¬ w y<w x:=of_decide_eq_false hb
   rw [cond_false,List.pairwise_cons]
   refine ⟨fun z hz=>?_,h⟩
   rcases List.mem_cons.1 hz with rfl | hz
   ·omega
   ·have:=h'.1 z hz
    omega
theorem foldW_sorted {w:Int→Int}:∀ {l R:List Int},R.Pairwise (fun a b=>w a≤w b)→(l.foldl (fun r x=>insR (byW w) x r) R).Pairwise (fun a b=>w a≤w b)
 | [],_,h=>h
 | x::l,R,h=>foldW_sorted (l:=l) (insW_sorted h)
theorem sortW_falling (w:Int→Int) (l:List Int):(sortV (byW w) l).Pairwise fun a b=>w b≤w a:=by
 unfold sortV
 rw [List.pairwise_reverse]
 exact foldW_sorted List.Pairwise.nil
theorem sortW_top (w:Int→Int) (l:List Int) (n:Nat) {a b:Int} (ha:a∈(sortV (byW w) l).take n) (hb:b∈(sortV (byW w) l).drop n):w b≤w a:=by
 have h:=sortW_falling w l
 rw [←List.take_append_drop n (sortV (byW w) l)] at h
 exact (List.pairwise_append.1 h).2.2 a ha b hb
def wt (l:List Int) (i:Nat):Int:=l.getD i 0
def sumF (w:Nat→Int) (f:Nat→Bool):Nat→Int
 | 0=>0
 | n+1=>sumF w f n+cond (f n) (w n) 0
theorem sumF_congr {w:Nat→Int} {f g:Nat→Bool}:∀ {n:Nat},(∀ i,i<n→f i=g i)→sumF w f n=sumF w g n
 | 0,_=>rfl
 | n+1,h=>by rw [sumF,sumF,h n (by omega),sumF_congr (n:=n) fun i hi=>h i (by omega)]
theorem sumF_or {w:Nat→Int} {f g:Nat→Bool} (h:∀ i,f i=true→g i=false):∀ n,sumF w (fun i=>f i||g i) n=sumF w f n+sumF w g n
 | 0=>rfl
 | n+1=>by
  rw [sumF,sumF,sumF,sumF_or h n]
  have:=h n
  cases hf:f n
  ·cases g n<;>simp<;>omega
  ·rw [this hf];simp;omega
def cntF (f:Nat→Bool) (n:Nat):Nat:=(List.range n).countP f
theorem cntF_succ (f:Nat→Bool) (n:Nat):cntF f (n+1)=cntF f n+cond (f n) 1 0:=by
 unfold cntF
 rw [List.range_succ,List.countP_append,List.countP_cons,List.countP_nil]
 cases f n<;>simp
theorem cntF_or {f g:Nat→Bool} (h:∀ i,f i=true→g i=false):∀ n,cntF (fun i=>f i||g i) n=cntF f n+cntF g n
 | 0=>rfl
 | n+1=>by
  rw [cntF_succ,cntF_succ,cntF_succ,cntF_or h n]
  have:=h n
  cases hf:f n
  ·cases g n<;>simp<;>omega
  ·rw [this hf];simp;omega
theorem cntF_congr {f g:Nat→Bool} {n:Nat} (h:∀ i,i<n→f i=g i):cntF f n=cntF g n:=by
 unfold cntF
 exact List.countP_congr fun i hi=>by rw [h i (List.mem_range.1 hi)]
theorem cntF_le {f g:Nat→Bool} {n:Nat} (h:∀ i,i<n→f i=true→g i=true):cntF f n≤cntF g n:=by
 unfold cntF
 exact List.countP_mono_left fun i hi hf=>h i (List.mem_range.1 hi) hf
theorem sumF_hi {w:Nat→Int} {f:Nat→Bool} {v:Int}:∀ {n:Nat},(∀ i,i<n→f i=true→w i≤v)→sumF w f n≤(cntF f n:Int)*v
 | 0,_=>by simp [sumF,cntF]
 | n+1,h=>by
  have ih:=sumF_hi (n:=n) fun i hi=>h i (by omega)
  have h1:=h n (by omega)
  rw [sumF,cntF_succ]
  cases hf:f n
  ·simp;omega
  ·have:=h1 hf
   simp only [cond_true,Int.natCast_add,Int.natCast_one,Int.add_mul,Int.one_mul]
   omega
theorem sumF_lo {w:Nat→Int} {f:Nat→Bool} {v:Int}:∀ {n:Nat},(∀ i,i<n→f i=true→v≤w i)→(cntF f n:Int)*v≤sumF w f n
 | 0,_=>by simp [sumF,cntF]
 | n+1,h=>by
  have ih:=sumF_lo (n:=n) fun i hi=>h i (by omega)
  have h1:=h n (by omega)
  rw [sumF,cntF_succ]
  cases hf:f n
  ·simp;omega
  ·have:=h1 hf
   simp only [cond_true,Int.natCast_add,Int.natCast_one,Int.add_mul,Int.one_mul]
   omega
theorem selG_sum (f:Nat→Bool):∀ (l:List Int) (k:Nat),(selG f l k).sum=sumF (fun i=>wt l i) (fun i=>f (k+i)) l.length
 | [],_=>rfl
 | a::l,k=>by
  have key:∀ (n:Nat),sumF (fun i=>wt (a::l) i) (fun i=>f (k+i)) (n+1)=cond (f k) a 0+sumF (fun i=>wt l i) (fun i=>f (k+1+i)) n:=by
   intro n
   induction n with
   | zero=>simp [sumF,wt]
   | succ n ih =>
    rw [sumF,ih,sumF]
    have e1:wt (a::l) (n+1)=wt l n:=rfl
    have e2:f (k+(n+1))=f (k+1+n):=by rw [show k+(n+1)=k+1+n by omega]
    rw [e1,e2];omega
  rw [List.length_cons,key,←selG_sum f l (k+1),selG]
  cases f k<;>simp
theorem heavy_bound {c:Crate} (hc:CrateOk c) {rows:Int} {f:Nat→Bool} (hd:∀ i,i<c.1.length→f i=true→hasB rows (i:Nat)=false) (hl:(cntF f c.1.length:Int)≤c.2.2.1):sumF (wt c.1) f c.1.length≤(heavyV c rows).sum:=by
 obtain ⟨s,s1,s2,s3⟩:=set_of f c.1.length hc.r8
 have es:selL s c.1 0=selG f c.1 0:=by
  rw [selG_sel]
  exact selG_congr fun i _ hi=>by rw [s3,decide_eq_true (by omega),Bool.true_and]
 have hsub:=sel_sub (s:=s) (rows:=rows) (fun k hk=>by
  rw [s3,Bool.and_eq_true,decide_eq_true_eq] at hk
  exact hd k hk.1 hk.2) c.1 0
 have hlen:((selL s c.1 0).length:Int)=(cntF f c.1.length:Int):=by
  rw [sel_len]
  congr 1
  refine cntF_congr fun i hi=>?_
  show hasB s ((0+i:Nat):Int)=f i
  rw [Nat.zero_add,s3,decide_eq_true hi,Bool.true_and]
 have:=heavy_top hc (rows:=rows) (M:=selL s c.1 0) (fun x=>hsub.count_le x) (by omega)
 rw [es,selG_sum] at this
 have e:sumF (fun i=>wt c.1 i) (fun i=>f (0+i)) c.1.length=sumF (wt c.1) f c.1.length:=sumF_congr fun i _=>by rw [Nat.zero_add]
 rw [e] at this
 exact this
theorem heavy_is {c:Crate} (hc:CrateOk c) (rows:Int):∃ f:Nat→Bool,(∀ i,f i=true→hasB rows (i:Nat)=false)∧(cntF f c.1.length:Int)≤c.2.2.1∧sumF (wt c.1) f c.1.length=(heavyV c rows).sum:=by
 obtain ⟨f,f1,f2⟩:=pick_left rows c.1 0 (heavyV c rows) fun x=>by
  have h1:=(List.take_sublist c.2.2.1.toNat (sortV moreB (leftR rows c.1 0))).count_le x
  rw [sort_perm.count_eq] at h1
  exact h1
 refine ⟨f,fun i hi=>(f1 i hi).2,?_,?_⟩
 ·have hlen:=f2.length_eq
  have e:(selG f c.1 0).length=cntF f c.1.length:=by
   have key:∀ (l:List Int) (k:Nat),(selG f l k).length=(List.range l.length).countP fun i=>f (k+i):=by
    intro l
    induction l with
    | nil=>intro k;rfl
    | cons a l ih =>
     intro k
     rw [selG,List.length_cons,List.range_succ_eq_map,List.countP_cons,List.countP_map]
     have e:((fun i=>f (k+i))∘Nat.succ)=fun i=>f (k+1+i):=by
      funext i
      show f (k+(i+1))=_
      rw [show k+(i+1)=k+1+i by omega]
     rw [e,←ih (k+1),Nat.add_zero]
     cases f k<;>simp
   rw [key]
   exact cntF_congr fun i _=>by rw [Nat.zero_add]
  have hcl:=hc.clamps
  unfold heavyV at hlen
  rw [List.length_take] at hlen
  omega
 ·rw [←perm_sum f2,selG_sum]
  exact sumF_congr fun i _=>by rw [Nat.zero_add]
theorem heavy_best {c:Crate} (hc:CrateOk c) {rows rowsT rowsR:Int} {top R later:Nat→Bool} {n:Nat}
  (hT:∀ i,i<c.1.length→hasB rowsT (i:Nat)=(hasB rows (i:Nat)||top i)) (hR:∀ i,i<c.1.length→hasB rowsR (i:Nat)=true→hasB rows (i:Nat)=true∨R i=true)
  (hlat:∀ i,later i=true→hasB rows (i:Nat)=false) (htl:∀ i,top i=true→later i=true) (hRl:∀ i,R i=true→later i=true)
  (hmore:∀ i j,top i=true→later j=true→top j=false→wt c.1 j≤wt c.1 i) (hcnt:cntF R c.1.length≤cntF top c.1.length∨∀ i,i<c.1.length→later i=true→top i=true) :
  (heavyV c rowsT).sum≤(heavyV c rowsR).sum:=by
 obtain ⟨f,f1,f2,f3⟩:=heavy_is hc rowsT
 rw [←f3]
 have fdis:∀ i,i<c.1.length→f i=true→hasB rows (i:Nat)=false∧top i=false:=fun i hi hf=>by
  have:=f1 i hf
  rw [hT i hi,Bool.or_eq_false_iff] at this
  exact this
 have hq:cntF (fun i=>f i&&R i) c.1.length≤cntF (fun i=>top i&&!R i) c.1.length:=by
  rcases hcnt with h | h
  ·have e1:cntF R c.1.length=cntF (fun i=>R i&&top i) c.1.length+cntF (fun i=>R i&&!top i) c.1.length:=by
    rw [←cntF_or (fun i hi=>by simp at hi ⊢;intro _;exact hi.2)]
    exact cntF_congr fun i _=>by cases R i<;>cases top i<;>rfl
   have e2:cntF top c.1.length=cntF (fun i=>R i&&top i) c.1.length+cntF (fun i=>top i&&!R i) c.1.length:=by
    rw [←cntF_or (fun i hi=>by simp at hi ⊢;intro _;exact hi.1)]
    exact cntF_congr fun i _=>by cases R i<;>cases top i<;>rfl
   have e3:cntF (fun i=>f i&&R i) c.1.length≤cntF (fun i=>R i&&!top i) c.1.length:=cntF_le fun i hi hfi=>by
    rw [Bool.and_eq_true] at hfi
    rw [hfi.2,(fdis i hi hfi.1).2];rfl
   omega
  ·have:cntF (fun i=>f i&&R i) c.1.length=0:=by
    unfold cntF
    rw [List.countP_eq_zero]
    intro i hi hfi
    rw [Bool.and_eq_true] at hfi
    have hi:=List.mem_range.1 hi
    have h1:=h i hi (hRl i hfi.2)
    rw [(fdis i hi hfi.1).2] at h1;cases h1
   omega
 obtain ⟨g,g1,g2⟩:=pick_some (fun i=>top i&&!R i) c.1.length (cntF (fun i=>f i&&R i) c.1.length) hq
 have g2:cntF g c.1.length=cntF (fun i=>f i&&R i) c.1.length:=g2
 have gtop:∀ i,g i=true→top i=true∧R i=false:=fun i hi=>by
  have:=(g1 i hi).2
  simpa using this
 have hdis:∀ i,(f i&&!R i)=true→g i=false:=fun i hi=>by
  rw [Bool.and_eq_true] at hi
  cases hg:g i with
  | false=>rfl
  | true =>
   have h1:=(fdis i (g1 i hg).1 hi.1).2
   rw [(gtop i hg).1] at h1;cases h1
 have hfsum:sumF (wt c.1) f c.1.length=sumF (wt c.1) (fun i=>f i&&!R i) c.1.length+sumF (wt c.1) (fun i=>f i&&R i) c.1.length:=by
  rw [←sumF_or (fun i hi=>by simp at hi ⊢;intro _;exact hi.2)]
  exact sumF_congr fun i _=>by cases f i<;>cases R i<;>rfl
 have hfcnt:cntF f c.1.length=cntF (fun i=>f i&&!R i) c.1.length+cntF (fun i=>f i&&R i) c.1.length:=by
  rw [←cntF_or (fun i hi=>by simp at hi ⊢;intro _;exact hi.2)]
  exact cntF_congr fun i _=>by cases f i<;>cases R i<;>rfl
 have hle:sumF (wt c.1) (fun i=>f i&&R i) c.1.length≤sumF (wt c.1) g c.1.length:=by
  by_cases h0:cntF g c.1.length=0
  ·have z1:∀ i,i<c.1.length→(f i&&R i)=false:=fun i hi=>by
    have h1:cntF (fun i=>f i&&R i) c.1.length=0:=by omega
    unfold cntF at h1
    rw [List.countP_eq_zero] at h1
    simpa using h1 i (List.mem_range.2 hi)
   have z2:∀ i,i<c.1.length→g i=false:=fun i hi=>by
    unfold cntF at h0
    rw [List.countP_eq_zero] at h0
    simpa using h0 i (List.mem_range.2 hi)
   rw [sumF_congr (g:=fun _=>false) z1,sumF_congr (f:=g) (g:=fun _=>false) z2]
   exact Int.le_refl _
  ·obtain ⟨i0,hi0,hg0⟩:=List.countP_pos_iff.1 (show 0<(List.range c.1.length).countP g by unfold cntF at h0;omega)
   obtain ⟨v,hv1,hv2⟩:∃ v:Int,(∀ i,i<c.1.length→(f i&&R i)=true→wt c.1 i≤v)∧∀ i,i<c.1.length→g i=true→v≤wt c.1 i:=by
    have key:∀ m,m≤c.1.length→(∃ j,j<m∧g j=true)→∃ j,j<m∧g j=true∧∀ i,i<m→g i=true→wt c.1 j≤wt c.1 i:=by
     intro m
     induction m with
     | zero=>rintro _ ⟨j,hj,_⟩;omega
     | succ m ih =>
      intro hm hex
      by_cases hb:∃ j,j<m∧g j=true
      ·obtain ⟨j,j1,j2,j3⟩:=ih (by omega) hb
       by_cases hgm:g m=true∧wt c.1 m<wt c.1 j
       ·refine ⟨m,by omega,hgm.1,fun i hi hgi=>?_⟩
        by_cases him:i=m
        ·subst him;exact Int.le_refl _
        ·have:=j3 i (by omega) hgi;omega
       ·refine ⟨j,by omega,j2,fun i hi hgi=>?_⟩
        by_cases him:i=m
        ·subst him
         have:¬ wt c.1 i<wt c.1 j:=fun h=>hgm ⟨hgi,h⟩
         omega
        ·exact j3 i (by omega) hgi
      ·obtain ⟨j,j1,j2⟩:=hex
       have:j=m:=by
        by_cases h:j<m
        ·exact absurd ⟨j,h,j2⟩ hb
        ·omega
       subst this
       refine ⟨j,by omega,j2,fun i hi hgi=>?_⟩
       by_cases him:i=j
       ·subst him;exact Int.le_refl _
       ·exact absurd ⟨i,by omega,hgi⟩ hb
    obtain ⟨j,j1,j2,j3⟩:=key c.1.length (Nat.le_refl _) ⟨i0,List.mem_range.1 hi0,hg0⟩
    refine ⟨wt c.1 j,fun i hi hfi=>?_,j3⟩
    rw [Bool.and_eq_true] at hfi
    exact hmore j i (gtop j j2).1 (hRl i hfi.2) (fdis i hi hfi.1).2
   have s1:=sumF_hi hv1
   have s2:=sumF_lo hv2
   rw [g2] at s2
   omega
 have hnew:=heavy_bound hc (rows:=rowsR) (f:=fun i=>(f i&&!R i)||g i) (fun i hi hfi=>by
  refine Bool.eq_false_iff.2 fun hb=>?_
  rw [Bool.or_eq_true] at hfi
  rcases hfi with hfi | hgi
  ·rw [Bool.and_eq_true,Bool.not_eq_true'] at hfi
   rcases hR i hi hb with h | h
   ·rw [(fdis i hi hfi.1).1] at h;cases h
   ·rw [hfi.2] at h;cases h
  ·rcases hR i hi hb with h | h
   ·rw [hlat i (htl i (gtop i hgi).1)] at h;cases h
   ·rw [(gtop i hgi).2] at h;cases h) (by
  rw [cntF_or hdis];omega)
 rw [sumF_or hdis] at hnew
 omega
theorem worst_mono {c:Crate} (hc:CrateOk c) {r1 r2 n1 n2:Int} (hH:(heavyV c r1).sum≤(heavyV c r2).sum) (hn:n2≤n1) (h0:0≤n2):worstV c r1 n1≤worstV c r2 n2:=by
 obtain ⟨f,_,_,f3⟩:=heavy_is hc r2
 have hA:(heavyV c r2).sum≤c.1.sum:=by
  rw [←f3]
  have e:c.1.sum=sumF (wt c.1) (fun _=>true) c.1.length:=by
   have h1:=selG_sum (fun _=>true) c.1 0
   have key:∀ (l:List Int) (k:Nat),selG (fun _=>true) l k=l:=by
    intro l
    induction l with
    | nil=>intro k;rfl
    | cons a l ih=>intro k;rw [selG,ih];rfl
   rw [key] at h1
   exact h1
  rw [e]
  have key:∀ n,n≤c.1.length→sumF (wt c.1) f n≤sumF (wt c.1) (fun _=>true) n:=by
   intro n
   induction n with
   | zero=>intro _;exact Int.le_refl _
   | succ n ih =>
    intro hn
    have:=ih (by omega)
    have hw:1≤wt c.1 n:=(hc.lie _ (getD_mem c.1 0 n (by omega))).1
    rw [sumF,sumF]
    cases f n<;>simp only [cond_true,cond_false]<;>omega
  exact key _ (Nat.le_refl _)
 have hc1:=hc.c1
 unfold worstV
 have hB:min c.2.2.2 (c.2.1 - n1)≤min c.2.2.2 (c.2.1 - n2):=by omega
 have hBc:min c.2.2.2 (c.2.1 - n1)≤c.2.1:=by omega
 generalize min c.2.2.2 (c.2.1 - n1)=B1 at hB hBc
 generalize min c.2.2.2 (c.2.1 - n2)=B2 at hB
 generalize (heavyV c r1).sum=H1 at hH
 generalize (heavyV c r2).sum=H2 at hH hA
 generalize c.1.sum=A at hA
 have m1:=Int.mul_le_mul_of_nonneg_right hH (show 0≤c.2.1 - B1 by omega)
 have m2:=Int.mul_le_mul_of_nonneg_left hB (show 0≤A - H2 by omega)
 rw [Int.mul_sub,Int.mul_sub] at m1
 rw [Int.sub_mul,Int.sub_mul] at m2
 rw [Int.sub_mul,Int.sub_mul]
 omega
end Go.Xr
