/-
  Chapter 6: the truths that fit.
-/
import Derived.Test.YtkeeaadooechgaaXrP2
set_option linter.all false
set_option maxRecDepth 100000
set_option maxHeartbeats 4000000
set_option linter.unusedVariables false
namespace Go.Xr
open Go Go.Sx
def segV (c:Crate) (F:Truth→Bool) (a:Int) (q:List Int):List Truth:=(q.filter fun b=>F (a,b)).map fun b=>(a,b)
theorem seg_cons {c:Crate} {F:Truth→Bool} {a b:Int} {q:List Int}:segV c F a (b::q)=cond (F (a,b)) ((a,b)::segV c F a q) (segV c F a q):=by
 unfold segV
 rw [List.filter_cons]
 cases F (a,b)<;>rfl
theorem v66 (ly:Nat) (x:Crate × List LookI) (h:k66.pre x):V66 ly x:=by
 obtain ⟨⟨h8,hc0,hc8,h40⟩,hpre⟩:=h
 refine ⟨trivial,trivial,trivial,trivial,trivial,trivial,⟨by omega,by omega⟩,?_⟩
 have hs1:∀ a∈setsV (x.1.1.length:Int) x.1.2.2.1,smallSet a:=fun a ha=>(sets_small ⟨by omega,by omega⟩ ha).1
 have hs2:∀ a∈setsV x.1.2.1 x.1.2.2.2,smallSet a:=fun a ha=>(sets_small ⟨hc0,hc8⟩ ha).1
 generalize hF:(fun t:Truth=>x.2.all fun l=>l.1.val t)=F
 have hall:xray_truths_1 x=(setsV (x.1.1.length:Int) x.1.2.2.1).flatMap fun a=>segV x.1 F a (setsV x.1.2.1 x.1.2.2.2):=by
  unfold xray_truths_1
  rw [hF];rfl
 refine ⟨fun q s=>(s.2=false∧∀ a∈q,smallSet a)∧s.1++q.flatMap (fun a=>segV x.1 F a (setsV x.1.2.1 x.1.2.2.2))=xray_truths_1 x,⟨⟨rfl,hs1⟩,hall.symm⟩,?_,?_⟩
 ·rintro e0 q0 ⟨s0,b0⟩ ⟨⟨hb,hq⟩,hl⟩
  simp only at hb hl
  subst hb
  refine ⟨trivial,trivial,trivial,trivial,trivial,⟨hc0,hc8⟩,fun q s=>(s.2=false∧∀ a∈q,smallSet a)∧s.1++(segV x.1 F e0 q++q0.flatMap (fun a=>segV x.1 F a (setsV x.1.2.1 x.1.2.2.2)))=xray_truths_1 x,⟨⟨rfl,hs2⟩,hl⟩,?_,?_⟩
  ·rintro e1 q1 ⟨s1,b1⟩ ⟨⟨hb1,hq1⟩,hl1⟩
   simp only at hb1 hl1
   subst hb1
   have hst:smallT (e0,e1):=⟨hq e0 List.mem_cons_self,hq1 e1 List.mem_cons_self⟩
   have hq1':∀ a∈q1,smallSet a:=fun a ha=>hq1 a (List.mem_cons_of_mem _ ha)
   rw [seg_cons] at hl1
   refine ⟨trivial,trivial,trivial,fun s=>(0≤s.1∧s.1≤(x.2.length:Int))∧s.2=(s1,false)∧((x.2.take s.1.toNat).all fun l=>l.1.val (e0,e1))=true,fun s=>((x.2.length:Int) - s.1).toNat,⟨⟨by simp,by simp⟩,rfl,rfl⟩,?_⟩
   rintro ⟨k,s2⟩ ⟨⟨k1,k2⟩,k3,k4⟩
   simp only at k1 k2 k3 k4
   subst k3
   refine ⟨fun hlt=>?_,fun hlt=>?_⟩
   ·have hlt:k<(x.2.length:Int):=of_decide_eq_true hlt
    have hmem:=getD_mem' x.2 (⟨fun _=>False,fun _=>false⟩,()) k k1 hlt
    refine ⟨⟨k1,hlt⟩,trivial,trivial,hpre _ hst _ hmem,trivial,fun hv=>⟨rfl,rfl,⟨rfl,hq1'⟩,?_⟩,fun hv=>⟨by simp only [Z.in64];omega,rfl,rfl,rfl,⟨⟨by omega,by omega⟩,rfl,?_⟩,by show ((x.2.length:Int) - (k+1)).toNat<((x.2.length:Int) - k).toNat;omega⟩⟩
    ·have hf:F (e0,e1)=false:=by
      rw [←hF]
      simp only [Bool.not_eq_true'] at hv
      refine Bool.eq_false_iff.2 fun hh=>?_
      have:=(List.all_eq_true.1 hh) _ hmem
      rw [hv] at this;cases this
     rw [hf,cond_false] at hl1
     exact hl1
    ·rw [take_one x.2 (⟨fun _=>False,fun _=>false⟩,()) k k1 hlt,List.all_append,k4,Bool.true_and,List.all_cons,List.all_nil,Bool.and_true]
     simpa using hv
   ·have hlt:¬ k<(x.2.length:Int):=of_decide_eq_false hlt
    rw [List.take_of_length_le (by omega)] at k4
    have hf:F (e0,e1)=true:=by rw [←hF];exact k4
    rw [hf,cond_true] at hl1
    refine ⟨trivial,trivial,⟨rfl,rfl⟩,⟨_,by rw [←hl1];rfl⟩,⟨trivial,fun hh=>(by cases hh),fun _=>⟨rfl,rfl,⟨rfl,hq1'⟩,?_⟩⟩,trivial,fun _=>⟨rfl,rfl,rfl,fun hh=>(by cases hh)⟩,fun hh=>(by cases hh)⟩
    rw [List.append_assoc];exact hl1
  ·rintro ⟨s1,b1⟩ ⟨⟨hb1,_⟩,hl1⟩
   exact ⟨rfl,⟨hb1,fun a ha=>hq a (List.mem_cons_of_mem _ ha)⟩,hl1⟩
 ·rintro ⟨s0,b0⟩ ⟨⟨hb,_⟩,hl⟩ _
  simpa using hl
theorem get_set {g:List (List Int)} (h8:g.length=8) (hr:∀ r∈g,r.length=8) {i k:Int} (hi:0≤i∧i<8) (hk:0≤k∧k<8) (v:Int) (a b:Nat) :
  getG (setG g i k v) (a:Nat) (b:Nat)=if ((a:Int)=i∧(b:Int)=k) then v else getG g (a:Nat) (b:Nat):=by
 obtain ⟨i',rfl⟩:=Int.eq_ofNat_of_zero_le hi.1
 obtain ⟨k',rfl⟩:=Int.eq_ofNat_of_zero_le hk.1
 have hi':i'<g.length:=by omega
 have hlen:(g.getD i' (List.replicate 8 0)).length=8:=hr _ (getD_mem g _ i' hi')
 simp only [getG,setG,Int.toNat_natCast]
 by_cases ha:a=i'
 ·subst ha
  rw [show (g.set a ((g.getD a (List.replicate 8 0)).set k' v)).getD a (List.replicate 8 0)=(g.getD a (List.replicate 8 0)).set k' v by simp [List.getD,hi']]
  by_cases hb:b=k'
  ·subst hb
   rw [if_pos ⟨rfl,rfl⟩]
   have hb8:b<(g.getD a (List.replicate 8 0)).length:=by omega
   generalize g.getD a (List.replicate 8 0)=row at hb8
   simp [List.getD,hb8]
  ·rw [if_neg (by omega)]
   simp [List.getD,List.getElem?_set,Ne.symm hb]
 ·rw [if_neg (by omega)]
  simp [List.getD,List.getElem?_set,Ne.symm ha]
theorem set_len {g:List (List Int)} (h8:g.length=8) (hr:∀ r∈g,r.length=8) (i k v:Int) (hi:0≤i∧i<8):(setG g i k v).length=8∧∀ r∈setG g i k v,r.length=8:=by
 refine ⟨by simp [setG,h8],fun r hr'=>?_⟩
 rcases List.mem_or_eq_of_mem_set hr' with hm | rfl
 ·exact hr r hm
 ·rw [List.length_set]
  exact hr _ (getD_mem g _ _ (by omega))
structure GridOk (g:List (List Int)) (n:Int):Prop where
 g8:g.length=8
 r8:∀ r∈g,r.length=8
 le:∀ i k:Nat,0≤getG g (i:Nat) (k:Nat)∧getG g (i:Nat) (k:Nat)≤n
theorem spots_app {t:Truth} {r:Int}:∀ {l m:List Int} {g:List (List Int)},spotsK t r (l++m) g=spotsK t r m (spotsK t r l g)
 | [],_,_=>rfl
 | k::l,m,g=>by simp only [List.cons_append,spotsK,spots_app (l:=l)]
theorem spotsR_app {t:Truth} {n:Nat}:∀ {l m:List Int} {g:List (List Int)},spotsR t n (l++m) g=spotsR t n m (spotsR t n l g)
 | [],_,_=>rfl
 | k::l,m,g=>by simp only [List.cons_append,spotsR,spotsR_app (l:=l)]
theorem idx_take {n:Nat} {k:Int} (h0:0≤k) (h:k<(n:Int)):(idx n).take (k+1).toNat=(idx n).take k.toNat++[k]:=by
 rw [take_one (idx n) 0 k h0 (by rw [idx_len];exact h),idx_getD (by omega),show ((k.toNat:Nat):Int)=k by omega]
theorem spotsK_get {t:Truth} {r:Int} (hr:0≤r∧r<8):∀ {l:List Int} {g:List (List Int)},(∀ k∈l,0≤k∧k<8)→l.Nodup→g.length=8→(∀ r∈g,r.length=8) →
  ((spotsK t r l g).length=8∧∀ r'∈spotsK t r l g,r'.length=8)∧∀ a b:Nat,getG (spotsK t r l g) (a:Nat) (b:Nat)=getG g (a:Nat) (b:Nat)+cond (decide ((a:Int)=r∧(b:Int)∈l)&&badB t r (b:Nat)) 1 0
 | [],g,_,_,h8,hr8=>by
  refine ⟨⟨h8,hr8⟩,fun a b=>?_⟩
  simp [spotsK]
 | k::l,g,hk,hn,h8,hr8=>by
  have hk0:=hk k List.mem_cons_self
  have hn:=List.nodup_cons.1 hn
  have hg':(cond (badB t r k) (setG g r k (getG g r k+1)) g).length=8∧∀ r'∈cond (badB t r k) (setG g r k (getG g r k+1)) g,r'.length=8:=by
   cases badB t r k with
   | true=>exact set_len h8 hr8 _ _ _ hr
   | false=>exact ⟨h8,hr8⟩
  obtain ⟨h1,h2⟩:=spotsK_get hr (l:=l) (g:=cond (badB t r k) (setG g r k (getG g r k+1)) g) (fun k' hk'=>hk k' (List.mem_cons_of_mem _ hk')) hn.2 hg'.1 hg'.2
  refine ⟨h1,fun a b=>?_⟩
  rw [spotsK,h2 a b]
  have e1:getG (cond (badB t r k) (setG g r k (getG g r k+1)) g) (a:Nat) (b:Nat)=getG g (a:Nat) (b:Nat)+cond (decide ((a:Int)=r∧(b:Int)=k)&&badB t r k) 1 0:=by
   cases hbd:badB t r k with
   | true =>
    rw [cond_true,get_set h8 hr8 hr hk0]
    by_cases hab:(a:Int)=r∧(b:Int)=k
    ·rw [if_pos hab]
     simp [hab]
    ·rw [if_neg hab]
     simp [hab]
   | false=>simp
  rw [e1]
  by_cases ha:(a:Int)=r
  ·by_cases hb:(b:Int)=k
   ·have hnm:(b:Int)∉l:=by rw [hb];exact hn.1
    simp [ha,hb,hn.1]
   ·simp [ha,hb]
  ·simp [ha]
theorem spotsR_get {t:Truth} {n:Nat} (hn8:n≤8):∀ {l:List Int} {g:List (List Int)},(∀ k∈l,0≤k∧k<8)→l.Nodup→g.length=8→(∀ r∈g,r.length=8) →
  ((spotsR t n l g).length=8∧∀ r'∈spotsR t n l g,r'.length=8)∧∀ a b:Nat,getG (spotsR t n l g) (a:Nat) (b:Nat)=getG g (a:Nat) (b:Nat)+cond (decide ((a:Int)∈l∧b<n)&&badB t (a:Nat) (b:Nat)) 1 0
 | [],g,_,_,h8,hr8=>by
  refine ⟨⟨h8,hr8⟩,fun a b=>?_⟩
  simp [spotsR]
 | r::l,g,hk,hn,h8,hr8=>by
  have hk0:=hk r List.mem_cons_self
  have hn:=List.nodup_cons.1 hn
  have hnd:(idx n).Nodup:=by
   unfold idx
   exact List.Pairwise.map _ (fun a b (h:a≠b)=>by intro e;exact h (Int.ofNat.inj e)) List.nodup_range
  obtain ⟨⟨a1,a2⟩,a3⟩:=spotsK_get (t:=t) hk0 (l:=idx n) (g:=g) (fun k hk=>by have:=idx_mem.1 hk;omega) hnd h8 hr8
  obtain ⟨h1,h2⟩:=spotsR_get hn8 (l:=l) (g:=spotsK t r (idx n) g) (fun k' hk'=>hk k' (List.mem_cons_of_mem _ hk')) hn.2 a1 a2
  refine ⟨h1,fun a b=>?_⟩
  rw [spotsR,h2 a b,a3 a b]
  have e1:((b:Int)∈idx n)=(b<n):=by
   rw [idx_mem];apply propext;omega
  by_cases ha:(a:Int)=r
  ·have hnm:r∉l:=hn.1
   simp [ha,hnm,e1]
  ·simp [ha]
end Go.Xr
