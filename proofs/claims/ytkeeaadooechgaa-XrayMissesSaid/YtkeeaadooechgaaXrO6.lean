/-
  Chapter 6, theory: the reference's choice of places. No program in sight.
-/
import Derived.Test.YtkeeaadooechgaaXrSpec5
import Derived.Test.YtkeeaadooechgaaXrO5
set_option linter.all false
set_option maxRecDepth 100000
set_option maxHeartbeats 4000000
set_option linter.unusedVariables false
namespace Go.Xr
open Go Go.Sx
theorem first_is {f:Int→List Spot} {b:Int}:∀ (m:Nat) (a:Int),(b - a).toNat=m →
  (firstS f (fromTo a b)=[]∧∀ i,a≤i→i<b→f i=[])∨∃ i,(a≤i∧i<b)∧firstS f (fromTo a b)=f i∧f i≠[]∧∀ j,a≤j→j<i→f j=[]
 | 0,a,hm=>by
  left
  rw [fromTo_nil (by omega)]
  exact ⟨rfl,fun i h1 h2=>absurd h2 (by omega)⟩
 | m+1,a,hm=>by
  rw [fromTo_cons (by omega),firstS]
  cases hf:f a with
  | nil =>
   rw [List.isEmpty_nil,cond_true]
   rcases first_is (f:=f) (b:=b) m (a+1) (by omega) with ⟨h1,h2⟩ | ⟨i,i1,i2,i3,i4⟩
   ·refine .inl ⟨h1,fun i q1 q2=>?_⟩
    by_cases hi:i=a
    ·rw [hi];exact hf
    ·exact h2 i (by omega) q2
   ·refine .inr ⟨i,⟨by omega,i1.2⟩,i2,i3,fun j q1 q2=>?_⟩
    by_cases hj:j=a
    ·rw [hj];exact hf
    ·exact i4 j (by omega) q2
  | cons s l =>
   rw [List.isEmpty_cons,cond_false]
   exact .inr ⟨a,⟨Int.le_refl _,by omega⟩,hf.symm,by rw [hf];simp,fun j q1 q2=>absurd q2 (by omega)⟩
theorem start_snoc (c:Crate) (S:List Spot) (s:Spot):startV c (S++[s])=posn c s+1:=by
 unfold startV
 have:(S++[s]).isEmpty=false:=by cases S<;>rfl
 rw [this,cond_false]
 congr 2
 simp [List.getD]
theorem start_nn {c:Crate} {S:List Spot} (h:∀ s∈S,inside c s):0≤startV c S:=by
 unfold startV
 cases hS:S.isEmpty with
 | true=>exact Int.le_refl _
 | false =>
  rw [cond_false]
  have hne:S≠[]:=by intro e;rw [e] at hS;cases hS
  have hl:0<S.length:=List.length_pos_iff.2 hne
  have:=(posn_bd (h _ (getD_mem S (0,0) (S.length - 1) (by omega)))).1
  omega
structure ChosenIs (c:Crate) (n:Int) (m:Nat) (S L:List Spot):Prop where
 rise:Rise c (startV c S - 1) L
 len:L.length=m
 good:missV (withL (plan0 c n) (S++L))≤n
 lex:∀ L',Rise c (startV c S - 1) L'→L'.length=m→missV (withL (plan0 c n) (S++L'))≤n→LexLe c L L'
theorem choose_is {c:Crate} (hc:CrateOk c) (n:Int):∀ (m:Nat) (S:List Spot),(∀ s∈S,inside c s)→S.length+m≤40→(S≠[]∨0<m) →
  (chooseN c n m S=[]∧∀ L,Rise c (startV c S - 1) L→L.length=m→¬ missV (withL (plan0 c n) (S++L))≤n) ∨
   (chooseN c n m S≠[]∧∃ L,chooseN c n m S=S++L∧ChosenIs c n m S L)
 | 0,S,hS,hl,hne=>by
  have hne:S≠[]:=by
   rcases hne with h | h
   ·exact h
   ·omega
  have hm:=missed_eq hc n hS (by omega)
  have hnil:∀ L:List Spot,L.length=0→L=[]:=fun L h=>List.eq_nil_of_length_eq_zero h
  rw [chooseN,hm]
  by_cases hg:missV (withL (plan0 c n) S)≤n
  ·right
   rw [show decide ((missV (withL (plan0 c n) S),(0:Int)).1≤n)=true from decide_eq_true hg,cond_true]
   refine ⟨hne,[],(List.append_nil S).symm,trivial,rfl,by rw [List.append_nil];exact hg,fun L' _ h _=>?_⟩
   rw [hnil L' h];trivial
  ·left
   rw [show decide ((missV (withL (plan0 c n) S),(0:Int)).1≤n)=false from decide_eq_false hg,cond_false]
   refine ⟨rfl,fun L _ h hb=>hg ?_⟩
   rw [hnil L h,List.append_nil] at hb
   exact hb
 | m+1,S,hS,hl,_=>by
  have h0:=start_nn hS
  have hnext:∀ i,startV c S≤i→i<allP c→inside c (spotAt c i)∧posn c (spotAt c i)=i:=fun i h1 h2=>⟨spot_inside hc (by omega) h2,posn_at hc (by omega)⟩
  have ih:∀ i,startV c S≤i→i<allP c→_:=fun i h1 h2=>choose_is hc n m (S++[spotAt c i]) (fun s hs=>by
   rw [List.mem_append,List.mem_singleton] at hs
   rcases hs with hs | hs
   ·exact hS s hs
   ·rw [hs];exact (hnext i h1 h2).1) (by rw [List.length_append,List.length_singleton];omega) (.inl (by simp))
  have hst:∀ i,startV c S≤i→i<allP c→startV c (S++[spotAt c i]) - 1=i:=fun i h1 h2=>by rw [start_snoc,(hnext i h1 h2).2];omega
  have happ:∀ (s:Spot) (L:List Spot),(S++[s])++L=S++s::L:=fun s L=>by simp
  have hno:∀ i,startV c S≤i→i<allP c→chooseN c n m (S++[spotAt c i])=[]→∀ L,Rise c i L→L.length=m→¬ missV (withL (plan0 c n) (S++spotAt c i::L))≤n:=fun i h1 h2 he L q1 q2=>by
   rcases ih i h1 h2 with ⟨_,h4⟩ | ⟨h3,_⟩
   ·rw [←happ]
    exact h4 L (by rw [hst i h1 h2];exact q1) q2
   ·exact absurd he h3
  have hsplit:∀ L,Rise c (startV c S - 1) L→L.length=m+1→∃ s L',L=s::L'∧inside c s∧(startV c S≤posn c s∧posn c s<allP c)∧Rise c (posn c s) L'∧L'.length=m:=fun L q1 q2=>by
   cases L with
   | nil=>simp at q2
   | cons s L' =>
    have:=posn_bd q1.1.1
    have:=q1.1.2
    exact ⟨s,L',rfl,q1.1.1,⟨by omega,by omega⟩,q1.2,by simpa using q2⟩
  rw [chooseN]
  rcases first_is (f:=fun i=>chooseN c n m (S++[spotAt c i])) (b:=allP c) _ (startV c S) rfl with ⟨h1,h2⟩ | ⟨i,⟨i1,i2⟩,i3,i4,i5⟩
  ·refine .inl ⟨h1,fun L q1 q2=>?_⟩
   obtain ⟨s,L',rfl,s1,⟨s2,s3⟩,s4,s5⟩:=hsplit L q1 q2
   have:=hno (posn c s) s2 s3 (h2 _ s2 s3) L' s4 s5
   rw [at_posn hc s1] at this
   exact this
  ·right
   rcases ih i i1 i2 with ⟨h3,_⟩ | ⟨_,L,h4,h5⟩
   ·exact absurd h3 i4
   ·rw [i3]
    refine ⟨i4,spotAt c i::L,h4.trans (happ _ _),⟨⟨(hnext i i1 i2).1,by rw [(hnext i i1 i2).2];omega⟩,?_⟩,by rw [List.length_cons,h5.len],by rw [←happ];exact h5.good,fun L' q1 q2 q3=>?_⟩
    ·rw [(hnext i i1 i2).2]
     have:=h5.rise
     rw [hst i i1 i2] at this
     exact this
    ·obtain ⟨s,T,rfl,s1,⟨s2,s3⟩,s4,s5⟩:=hsplit L' q1 q2
     by_cases hlt:posn c s<i
     ·have:=hno (posn c s) s2 s3 (i5 _ s2 hlt) T s4 s5
      rw [at_posn hc s1] at this
      exact absurd q3 this
     ·by_cases heq:posn c s=i
      ·have es:spotAt c i=s:=by rw [←heq];exact at_posn hc s1
       refine .inr ⟨es,h5.lex T (by rw [hst i i1 i2,←heq];exact s4) s5 ?_⟩
       rw [happ,es];exact q3
      ·exact .inl (by rw [(hnext i i1 i2).2];omega)
theorem lex_anti {c:Crate}:∀ {F L:List Spot},LexLe c F L→LexLe c L F→F=L
 | [],[],_,_=>rfl
 | [],_::_,h,_=>h.elim
 | _::_,[],h,_=>h.elim
 | s::F,t::L,h1,h2=>by
  rcases h1 with h1 | ⟨e1,h1⟩
  ·rcases h2 with h2 | ⟨e2,_⟩
   ·omega
   ·rw [e2] at h1;omega
  ·subst e1
   rcases h2 with h2 | ⟨_,h2⟩
   ·omega
   ·rw [lex_anti h1 h2]
theorem choose_few {c:Crate} (hc:CrateOk c) {n:Int} (h0:0≤n) {m:Nat} (hm:0<m) (hM:m≤(fewestV c n).length) :
  (chooseN c n m []=[]∧m<(fewestV c n).length)∨(chooseN c n m []=fewestV c n∧chooseN c n m []≠[]∧m=(fewestV c n).length):=by
 have hF:=few_is hc h0
 have h8:=hc.r8
 have hc8:=hc.c8
 have hmax:=hF.max
 have es:startV c [] - 1=-1:=rfl
 rcases choose_is hc n m [] (fun s hs=>by cases hs) (by rw [List.length_nil];omega) (.inr hm) with ⟨h1,h2⟩ | ⟨h1,L,h2,h3⟩
 ·left
  refine ⟨h1,?_⟩
  by_cases he:m=(fewestV c n).length
  ·exact absurd hF.good (h2 (fewestV c n) hF.rise he.symm)
  ·omega
 ·right
  have hr:Rise c (-1) L:=h3.rise
  have hg:missV (withL (plan0 c n) L)≤n:=h3.good
  have hlen:m=(fewestV c n).length:=by
   by_cases hlt:m<(fewestV c n).length
   ·exact absurd hg (hF.few L hr (by rw [h3.len];exact hlt))
   ·omega
  refine ⟨?_,h1,hlen⟩
  rw [h2,List.nil_append]
  exact lex_anti (h3.lex (fewestV c n) hF.rise hlen.symm hF.good) (hF.lex L hr (by rw [h3.len];exact hlen) hg)
end Go.Xr
