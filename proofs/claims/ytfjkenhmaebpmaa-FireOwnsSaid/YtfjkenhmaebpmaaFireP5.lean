/-
  Chapter 3: the theory of the search for a program: what is known of the states that came, and why it ends.
-/
import Derived.Test.YtfjkenhmaebpmaaFireP4
set_option linter.all false
set_option maxRecDepth 100000
set_option linter.unusedVariables false
namespace Go.Fire
open Go Go.Sx
theorem eqS_iff {a b:State}:eqS a b=true↔a=b:=by
 obtain ⟨a1,a2⟩:=a;obtain ⟨b1,b2⟩:=b
 simp only [eqS,Bool.and_eq_true,beq_iff_eq,Prod.mk.injEq]
theorem put_at {c:Came} {k v:State}:Z.mput eqS c k v k=some v:=by
 simp only [Z.mput,eqS_iff.2 (rfl:k=k),cond_true]
theorem put_ne {c:Came} {k v s:State} (h:s≠k):Z.mput eqS c k v s=c s:=by
 have:eqS s k=false:=by cases hh:eqS s k with | false=>rfl | true=>exact absurd (eqS_iff.1 hh) h
 simp only [Z.mput,this,cond_false]
def chainS (c:Came):Nat→State→Prop
 | 0,s=>s=noneS
 | n+1,s=>s=noneS∨∃ t,c s=some t∧chainS c n t
theorem chainS_put {c:Came} {k v:State} (hk:c k=none):∀ {n:Nat} {s:State},chainS c n s→chainS (Z.mput eqS c k v) n s
 | 0,_,h=>h
 | n+1,s,h=>by
  rcases h with h | ⟨t,h1,h2⟩
  ·exact .inl h
  ·refine .inr ⟨t,?_,chainS_put hk h2⟩
   rw [put_ne (fun e=>by rw [e,hk] at h1;cases h1)];exact h1
theorem chainS_succ {c:Came}:∀ {n:Nat} {s:State},chainS c n s→chainS c (n+1) s
 | 0,_,h=>.inl h
 | n+1,_,h=>by
  rcases h with h | ⟨t,h1,h2⟩
  ·exact .inl h
  ·exact .inr ⟨t,h1,chainS_succ h2⟩
theorem chainS_mono {c:Came} {n m:Nat} {s:State} (hm:n≤m) (h:chainS c n s):chainS c m s:=by
 induction hm with
 | refl=>exact h
 | step _ ih=>exact chainS_succ ih
theorem chainS_chain {c:Came}:∀ {n:Nat} {s:State},chainS c n s→chain c n s
 | 0,_,h=>h
 | n+1,s,h=>by
  rcases h with h | ⟨t,h1,h2⟩
  ·exact .inl h
  ·refine .inr ?_
   rw [h1];exact chainS_chain h2
theorem chainS_len {c:Came}:∀ {n m:Nat} {s:State},chainS c n s→n<m→chainS c (backs c m s).length s
 | n,0,_,_,h=>by omega
 | n,m+1,s,h,hm=>by
  cases hs:(s.1==noneS.1&&s.2==noneS.2) with
  | true =>
   have e:s=noneS:=by
    obtain ⟨a,b⟩:=s
    simp only [Bool.and_eq_true,beq_iff_eq] at hs
    rw [hs.1,hs.2]
   rw [backs,hs];exact e
  | false =>
   have ne:s≠noneS:=fun e=>by rw [e] at hs;cases hs
   rw [backs,hs,cond_false,List.length_cons]
   cases n with
   | zero=>exact absurd h ne
   | succ n =>
    rcases h with h | ⟨t,h1,h2⟩
    ·exact absurd h ne
    ·refine .inr ⟨t,h1,?_⟩
     rw [h1]
     exact chainS_len h2 (by omega)
def univ (step:Int):List State:=(List.range 41).flatMap fun (j:Nat)=>(List.range 13).map fun (h:Nat)=>((j:Int)*step,(h:Int))
def cnt (step:Int) (c:Came):Nat:=((univ step).filter fun u=>(c u).isSome).length
theorem cnt_le (step:Int) (c:Came):cnt step c≤533:=by
 refine Nat.le_trans (List.length_filter_le _ _) ?_
 have:(univ step).length=533:=by simp [univ];rfl
 omega
theorem filter_le {α:Type} {p q:α→Bool} (h:∀ x,p x=true→q x=true):∀ l:List α,(l.filter p).length≤(l.filter q).length
 | []=>Nat.le_refl _
 | a::l=>by
  have ih:=filter_le h l
  cases hp:p a with
  | true=>rw [List.filter_cons_of_pos hp,List.filter_cons_of_pos (h a hp)];simp only [List.length_cons];omega
  | false =>
   rw [List.filter_cons_of_neg (by simp [hp])]
   refine Nat.le_trans ih ?_
   cases hq:q a with
   | true=>rw [List.filter_cons_of_pos hq];simp only [List.length_cons];omega
   | false=>rw [List.filter_cons_of_neg (by simp [hq])];exact Nat.le_refl _
theorem filter_lt {α:Type} {p q:α→Bool} (h:∀ x,p x=true→q x=true) {a:α} (ha:p a=false) (hb:q a=true):∀ {l:List α},a∈l→(l.filter p).length+1≤(l.filter q).length
 | [],hm=>by cases hm
 | b::l,hm=>by
  rcases List.mem_cons.1 hm with rfl | hm
  ·rw [List.filter_cons_of_neg (by simp [ha]),List.filter_cons_of_pos hb,List.length_cons]
   have:=filter_le h l;omega
  ·have ih:=filter_lt h ha hb hm
   cases hp:p b with
   | true=>rw [List.filter_cons_of_pos hp,List.filter_cons_of_pos (h b hp)];simp only [List.length_cons];omega
   | false =>
    rw [List.filter_cons_of_neg (by simp [hp])]
    refine Nat.le_trans ih ?_
    cases hq:q b with
    | true=>rw [List.filter_cons_of_pos hq];simp only [List.length_cons];omega
    | false=>rw [List.filter_cons_of_neg (by simp [hq])];exact Nat.le_refl _
def good (step hold:Int) (s:State):Prop:=(∃ j:Nat,j≤40∧s.1=(j:Int)*step∧s.1≤2000)∧0≤s.2∧s.2≤hold
theorem good_univ {step hold:Int} {s:State} (hh:hold≤12) (h:good step hold s):s∈univ step:=by
 obtain ⟨a,b⟩:=s
 obtain ⟨⟨j,hj,h1,_⟩,h2,h3⟩:=h
 simp only at h1 h2 h3
 refine List.mem_flatMap.2 ⟨j,List.mem_range.2 (by omega),List.mem_map.2 ⟨b.toNat,List.mem_range.2 (by omega),?_⟩⟩
 rw [h1,Int.toNat_of_nonneg h2]
theorem cnt_put {step hold:Int} {c:Came} {k v:State} (hh:hold≤12) (h:good step hold k) (hk:c k=none):cnt step c+1≤cnt step (Z.mput eqS c k v):=by
 refine filter_lt (fun x hx=>?_) (a:=k) (by rw [hk];rfl) (by rw [put_at];rfl) (good_univ hh h)
 by_cases e:x=k
 ·rw [e,put_at];rfl
 ·rw [put_ne e];exact hx
structure Inv (step hold:Int) (c:Came) (q:List State):Prop where
 len:q.length≤cnt step c
 st:∀ s∈q,good step hold s∧chainS c 40 s
structure Next (step:Int) (c:Came) (q:List State) (c':Came) (q':List State):Prop where
 cnt:cnt step c+q'.length≤cnt step c'+q.length
 ch:∀ n s,chainS c n s→chainS c' n s
theorem Next.refl (step:Int) (c:Came) (q:List State):Next step c q c q:=⟨Nat.le_refl _,fun _ _ h=>h⟩
theorem Next.trans {step:Int} {c c' c'':Came} {q q' q'':List State} (h:Next step c q c' q') (h':Next step c' q' c'' q''):Next step c q c'' q'' :=
 ⟨by have:=h.cnt;have:=h'.cnt;omega,fun n s hh=>h'.ch n s (h.ch n s hh)⟩
theorem soaked_bd {f:Fire} {l:List Stand} {set had:Int} (hh:1≤f.2.2.2.1) (h:0≤had∧had≤f.2.2.2.1):0≤soakedV f l set had∧soakedV f l set had≤f.2.2.2.1:=by
 unfold soakedV
 cases hd:decide (had<f.2.2.2.1) with
 | false=>simpa using h
 | true =>
  have:=of_decide_eq_true hd
  simp only [cond_true]
  cases l.all fun s=>soakV s set with
  | true=>simp only [cond_true];omega
  | false=>simp only [cond_false];omega
theorem enter_inv {step:Int} {f:Fire} {l:List Stand} {set:Int} {from_:State} {c:Came} {q:List State} (hh:1≤f.2.2.2.1∧f.2.2.2.1≤12) (hset:∃ j:Nat,j≤40∧set=(j:Int)*step∧set≤2000)
  (hf:chainS c 39 from_) (hb:0≤from_.2∧from_.2≤f.2.2.2.1) (h:Inv step f.2.2.2.1 c q) :
  Inv step f.2.2.2.1 (enterV f l set from_ (c,q)).1 (enterV f l set from_ (c,q)).2∧Next step c q (enterV f l set from_ (c,q)).1 (enterV f l set from_ (c,q)).2:=by
 obtain ⟨k,hk⟩:∃ k:State,k=(set,soakedV f l set from_.2):=⟨_,rfl⟩
 have hg:good step f.2.2.2.1 k:=by rw [hk];exact ⟨hset,soaked_bd hh.1 hb⟩
 have e:enterV f l set from_ (c,q)=cond (c k).isSome (c,q) (Z.mput eqS c k from_,q++[k]):=by rw [hk];rfl
 rw [e]
 cases hc:(c k).isSome with
 | true=>exact ⟨h,.refl _ _ _⟩
 | false =>
  have hn:c k=none:=by cases hx:c k with | none=>rfl | some y=>rw [hx] at hc;cases hc
  have h1:=cnt_put (v:=from_) hh.2 hg hn
  have h2:=h.len
  simp only [cond_false]
  refine ⟨⟨by simp only [List.length_append,List.length_singleton];omega,fun s hs=>?_⟩,by simp only [List.length_append,List.length_singleton];omega,fun _ _=>chainS_put hn⟩
  rcases List.mem_append.1 hs with hs | hs
  ·exact ⟨(h.st s hs).1,chainS_put hn (h.st s hs).2⟩
  ·rw [List.mem_singleton.1 hs]
   exact ⟨hg,.inr ⟨from_,put_at,chainS_put hn hf⟩⟩
def EnterC (f:Fire) (l:List Stand) (set:Int) (from_:State) (c:Came) (q:List State) (A:Came→List State→Prop):Prop :=
 ((decide (from_.2<f.2.2.2.1)=true)→(Z.in64 (from_.2+1)∧(fire_every_p (l,⟨fun y=>fire_planner_enter_1u_p (y,set),fun y=>fire_planner_enter_1 (y,set)⟩) ∧
  (((!(fire_every (l,⟨fun y=>fire_planner_enter_1u_p (y,set),fun y=>fire_planner_enter_1 (y,set)⟩)))=true →
   (((!(c (set,0)).isSome)=true→Z.roomy 2 ((q++((List.replicate 1 ((0:Int),(0:Int))).set 0 (set,0))).length:Int)∧A (Z.mput eqS c (set,0) from_) (q++((List.replicate 1 ((0:Int),(0:Int))).set 0 (set,0))))∧((!(c (set,0)).isSome)=false→A c q))) ∧
  ((!(fire_every (l,⟨fun y=>fire_planner_enter_1u_p (y,set),fun y=>fire_planner_enter_1 (y,set)⟩)))=false →
   (((!(c (set,from_.2+1)).isSome)=true→Z.roomy 2 ((q++((List.replicate 1 ((0:Int),(0:Int))).set 0 (set,from_.2+1))).length:Int)∧A (Z.mput eqS c (set,from_.2+1) from_) (q++((List.replicate 1 ((0:Int),(0:Int))).set 0 (set,from_.2+1))))∧((!(c (set,from_.2+1)).isSome)=false→A c q))))))) ∧
 ((decide (from_.2<f.2.2.2.1)=false) →
   (((!(c (set,from_.2)).isSome)=true→Z.roomy 2 ((q++((List.replicate 1 ((0:Int),(0:Int))).set 0 (set,from_.2))).length:Int)∧A (Z.mput eqS c (set,from_.2) from_) (q++((List.replicate 1 ((0:Int),(0:Int))).set 0 (set,from_.2))))∧((!(c (set,from_.2)).isSome)=false→A c q)))
theorem enter_leaf {f:Fire} {l:List Stand} {set:Int} {from_:State} {c:Came} {q:List State} {A:Came→List State→Prop} {b:Int} (hb:soakedV f l set from_.2=b) (hq:q.length≤533)
  (h:A (enterV f l set from_ (c,q)).1 (enterV f l set from_ (c,q)).2) :
  ((!(c (set,b)).isSome)=true→Z.roomy 2 ((q++((List.replicate 1 ((0:Int),(0:Int))).set 0 (set,b))).length:Int)∧A (Z.mput eqS c (set,b) from_) (q++((List.replicate 1 ((0:Int),(0:Int))).set 0 (set,b))))∧((!(c (set,b)).isSome)=false→A c q):=by
 have e1:(List.replicate 1 ((0:Int),(0:Int))).set 0 (set,b)=[(set,b)]:=rfl
 have e:enterV f l set from_ (c,q)=cond (c (set,b)).isSome (c,q) (Z.mput eqS c (set,b) from_,q++[(set,b)]):=by rw [←hb];rfl
 rw [e1]
 rw [e] at h
 refine ⟨fun hv=>?_,fun hv=>?_⟩
 ·rw [not_iff.1.1 hv] at h
  exact ⟨roomy_of (by omega) (by omega) (by simp only [List.length_append,List.length_singleton];omega),h⟩
 ·rw [not_iff.2.1 hv] at h
  exact h
theorem enter_ok {f:Fire} {l:List Stand} {set:Int} {from_:State} {c:Came} {q:List State} {A:Came→List State→Prop} (hl:standsOk l) (hs:setOk set) (hf:0≤from_.2∧from_.2≤12) (hq:q.length≤533)
  (h:A (enterV f l set from_ (c,q)).1 (enterV f l set from_ (c,q)).2):EnterC f l set from_ c q A:=by
 refine ⟨fun hd=>⟨by simp only [Z.in64];omega,⟨le_big hl.1,fun a ha=>⟨hl.2 a ha,hs⟩⟩,fun hv=>enter_leaf ?_ hq h,fun hv=>enter_leaf ?_ hq h⟩,fun hd=>enter_leaf ?_ hq h⟩
 ·have hv:(l.all fun s=>soakV s set)=false:=not_iff.1.1 hv
  unfold soakedV;rw [hd,hv];rfl
 ·have hv:(l.all fun s=>soakV s set)=true:=not_iff.2.1 hv
  unfold soakedV;rw [hd,hv];rfl
 ·unfold soakedV;rw [hd];rfl
end Go.Fire
