/-
  Chapter 6, theory: how many can be bad at most. No program in sight.
-/
import Derived.Test.YtkeeaadooechgaaXrQ2
set_option linter.all false
set_option maxRecDepth 100000
set_option maxHeartbeats 4000000
set_option linter.unusedVariables false
namespace Go.Xr
open Go Go.Sx
theorem perm_sum {l m:List Int} (h:List.Perm l m):l.sum=m.sum:=by
 induction h with
 | nil=>rfl
 | cons a _ ih=>rw [List.sum_cons,List.sum_cons,ih]
 | swap a b l=>simp only [List.sum_cons];omega
 | trans _ _ h1 h2=>exact h1.trans h2
theorem sum_nn:∀ {l:List Int},(∀ x∈l,0≤x)→0≤l.sum
 | [],_=>Int.le_refl _
 | a::l,h=>by
  have:=sum_nn (l:=l) fun x hx=>h x (List.mem_cons_of_mem _ hx)
  have:=h a List.mem_cons_self
  rw [List.sum_cons];omega
theorem top_sum:∀ (D:List Int) (k:Nat) (M:List Int),D.Pairwise (fun a b=>b≤a)→(∀ x∈D,0≤x)→(∀ x,M.count x≤D.count x)→M.length≤k→M.sum≤(D.take k).sum
 | [],k,M,_,_,hc,_=>by
  have:M=[]:=by
   cases M with
   | nil=>rfl
   | cons a m=>have:=hc a;simp at this
  subst this;simp
 | d::D,0,M,_,_,_,hl=>by
  have:M=[]:=List.eq_nil_of_length_eq_zero (by omega)
  subst this;simp
 | d::D,k+1,M,hp,hn,hc,hl=>by
  have hp':=List.pairwise_cons.1 hp
  have hnD:∀ x∈D,0≤x:=fun x hx=>hn x (List.mem_cons_of_mem _ hx)
  rw [List.take_succ_cons,List.sum_cons]
  by_cases hd:d∈M
  ·have hperm:=List.perm_cons_erase hd
   have hs:=perm_sum hperm
   rw [List.sum_cons] at hs
   have hlen:=hperm.length_eq
   rw [List.length_cons] at hlen
   have:=top_sum D k (M.erase d) hp'.2 hnD (fun x=>by
    have h1:=hc x
    have h2:=hperm.count_eq x
    rw [List.count_cons] at h1 h2
    omega) (by omega)
   omega
  ·have hcD:∀ x,M.count x≤D.count x:=fun x=>by
    have h1:=hc x
    rw [List.count_cons] at h1
    by_cases hx:d=x
    ·subst hx
     rw [List.count_eq_zero_of_not_mem hd];omega
    ·have:(d==x)=false:=by simpa using hx
     rw [this] at h1
     simpa using h1
   cases M with
   | nil =>
    have:=sum_nn (l:=D.take k) fun x hx=>hnD x (List.mem_of_mem_take hx)
    have:=hn d List.mem_cons_self
    simp only [List.sum_nil];omega
   | cons m M' =>
    have hmD:m∈D:=by
     have:=hcD m
     rw [List.count_cons_self] at this
     exact List.count_pos_iff.1 (by omega)
    have hle:=hp'.1 m hmD
    have:=top_sum D k M' hp'.2 hnD (fun x=>Nat.le_trans (by rw [List.count_cons];omega) (hcD x)) (by simpa using hl)
    rw [List.sum_cons]
    omega
theorem insR_sorted {x:Int}:∀ {R:List Int},R.Pairwise (fun a b=>a≤b)→(insR moreB x R).Pairwise (fun a b=>a≤b)
 | [],_=>by simp [insR]
 | y::R,h=>by
  have h':=List.pairwise_cons.1 h
  rw [insR]
  cases hb:moreB x y with
  | true =>
   have hb:y<x:=of_decide_eq_true hb
   rw [cond_true,List.pairwise_cons]
   refine ⟨fun z hz=>?_,insR_sorted h'.2⟩
   rcases List.mem_cons.1 ((insR_perm (lt:=moreB) (x:=x) (R:=R)).mem_iff.1 hz) with rfl | hz
   ·omega
   ·exact h'.1 z hz
  | false =>
   have hb:¬ y<x:=of_decide_eq_false hb
   rw [cond_false,List.pairwise_cons]
   refine ⟨fun z hz=>?_,h⟩
   rcases List.mem_cons.1 hz with rfl | hz
   ·omega
   ·have:=h'.1 z hz
    omega
theorem fold_sorted:∀ {l R:List Int},R.Pairwise (fun a b=>a≤b)→(l.foldl (fun r x=>insR moreB x r) R).Pairwise (fun a b=>a≤b)
 | [],_,h=>h
 | x::l,R,h=>fold_sorted (l:=l) (insR_sorted h)
theorem sort_falling (l:List Int):(sortV moreB l).Pairwise fun a b=>b≤a:=by
 unfold sortV
 rw [List.pairwise_reverse]
 exact fold_sorted List.Pairwise.nil
def selL (s:Int):List Int→Nat→List Int
 | [],_=>[]
 | a::l,k=>cond (hasB s (k:Nat)) (a::selL s l (k+1)) (selL s l (k+1))
theorem many_sel (t:Truth) (cols:Int):∀ (l:List Int) (k:Nat),manyR t cols l k=(selL t.1 l k).sum*cols+(l.sum - (selL t.1 l k).sum)*sizeV t.2
 | [],_=>by simp [manyR,selL]
 | a::l,k=>by
  rw [manyR,selL,many_sel t cols l (k+1),List.sum_cons]
  cases hasB t.1 (k:Nat) with
  | true =>
   simp only [cond_true,List.sum_cons]
   rw [Int.add_mul,show a+l.sum - (a+(selL t.1 l (k+1)).sum)=l.sum - (selL t.1 l (k+1)).sum by omega]
   omega
  | false =>
   simp only [cond_false]
   rw [show a+l.sum - (selL t.1 l (k+1)).sum=a+(l.sum - (selL t.1 l (k+1)).sum) by omega,Int.add_mul a]
   omega
theorem sel_sub {s rows:Int} (hd:∀ k:Nat,hasB s (k:Nat)=true→hasB rows (k:Nat)=false):∀ (l:List Int) (k:Nat),List.Sublist (selL s l k) (leftR rows l k)
 | [],_=>.slnil
 | a::l,k=>by
  rw [selL,leftR]
  have ih:=sel_sub hd l (k+1)
  cases hs:hasB s (k:Nat) with
  | true=>rw [hd k hs];exact ih.cons₂ a
  | false =>
   cases hasB rows (k:Nat)
   ·exact ih.cons a
   ·exact ih
theorem sel_len (s:Int):∀ (l:List Int) (k:Nat),(selL s l k).length=(List.range l.length).countP fun i=>hasB s ((k+i:Nat):Int)
 | [],_=>rfl
 | a::l,k=>by
  rw [selL,List.length_cons,List.range_succ_eq_map,List.countP_cons,List.countP_map]
  have ih:=sel_len s l (k+1)
  have e:((fun i=>hasB s ((k+i:Nat):Int))∘Nat.succ)=fun i=>hasB s ((k+1+i:Nat):Int):=by
   funext i
   show hasB s ((k+(i+1):Nat):Int)=_
   rw [show k+(i+1)=k+1+i by omega]
  rw [e,←ih,Nat.add_zero]
  cases hasB s (k:Nat)<;>simp
theorem sel_size {s:Int} {n:Nat} (hn:n≤8) (h0:0≤s) (h:s<2^n) (l:List Int) (hl:l.length=n):((selL s l 0).length:Int)=sizeV s:=by
 rw [size_cols hn h0 h,sel_len,hl]
 unfold idx
 rw [List.countP_map]
 congr 2
 funext i
 show hasB s ((0+i:Nat):Int)=hasB s ((i:Nat):Int)
 rw [Nat.zero_add]
theorem heavy_top {c:Crate} (hc:CrateOk c) {rows:Int} {M:List Int} (hM:∀ x,M.count x≤(leftR rows c.1 0).count x) (hl:(M.length:Int)≤c.2.2.1):M.sum≤(heavyV c rows).sum:=by
 have h0:=hc.clamps.1
 refine top_sum (sortV moreB (leftR rows c.1 0)) c.2.2.1.toNat M (sort_falling _) (fun x hx=>?_) (fun x=>?_) (by omega)
 ·have:=hc.lie x ((left_sub c.1 0).subset (sort_mem.1 hx))
  omega
 ·rw [sort_perm.count_eq];exact hM x
theorem many_le_worst {c:Crate} (hc:CrateOk c) {rows n:Int} {t:Truth} (hs:smallT t) (hr:t.1<2^c.1.length) (hcl:sizeV t.1≤c.2.2.1) (hdis:∀ k:Nat,hasB t.1 (k:Nat)=true→hasB rows (k:Nat)=false) (hz:sizeV t.2≤min c.2.2.2 (c.2.1 - n)) (hn:0≤n) :
  manyV t c≤worstV c rows n:=by
 have h8:=hc.r8
 have hsub:=sel_sub (rows:=rows) hdis c.1 0
 have hS:=heavy_top hc (rows:=rows) (M:=selL t.1 c.1 0) (fun x=>hsub.count_le x) (by rw [sel_size h8 hs.1.1 hr c.1 rfl];exact hcl)
 have hH:(heavyV c rows).sum≤c.1.sum:=by
  have h1:(heavyV c rows).sum≤(sortV moreB (leftR rows c.1 0)).sum:=by
   have e:=List.take_append_drop c.2.2.1.toNat (sortV moreB (leftR rows c.1 0))
   have h2:=congrArg List.sum e
   rw [List.sum_append] at h2
   have h3:=sum_nn (l:=(sortV moreB (leftR rows c.1 0)).drop c.2.2.1.toNat) fun x hx=>by
    have:=hc.lie x ((left_sub c.1 0).subset (sort_mem.1 (List.mem_of_mem_drop hx)))
    omega
   show ((sortV moreB (leftR rows c.1 0)).take c.2.2.1.toNat).sum≤_
   omega
  rw [perm_sum sort_perm] at h1
  have key:∀ (l:List Int) (k:Nat),(∀ x∈l,0≤x)→(leftR rows l k).sum≤l.sum:=by
   intro l
   induction l with
   | nil=>intro k _;exact Int.le_refl _
   | cons a l ih =>
    intro k hk
    have h4:=ih (k+1) fun x hx=>hk x (List.mem_cons_of_mem _ hx)
    have h5:=hk a List.mem_cons_self
    rw [leftR,List.sum_cons]
    cases hasB rows (k:Nat)
    ·simp only [cond_false,List.sum_cons];omega
    ·simp only [cond_true];omega
  have h6:=key c.1 0 fun x hx=>by have:=hc.lie x hx;omega
  omega
 have hsz:=size_bd t.2
 have hcols:sizeV t.2≤c.2.1:=by omega
 unfold manyV worstV
 rw [many_sel]
 generalize (selL t.1 c.1 0).sum=S at hS
 generalize (heavyV c rows).sum=H at hS hH
 generalize sizeV t.2=z at hz hsz hcols
 generalize min c.2.2.2 (c.2.1 - n)=B at hz
 generalize c.1.sum=A at hH
 have m1:=Int.mul_le_mul_of_nonneg_right hS (show 0≤c.2.1 - z by omega)
 have m2:=Int.mul_le_mul_of_nonneg_left hz (show 0≤A - H by omega)
 rw [Int.mul_sub,Int.mul_sub] at m1
 rw [Int.sub_mul,Int.sub_mul] at m2
 rw [Int.sub_mul,Int.sub_mul]
 omega
end Go.Xr
