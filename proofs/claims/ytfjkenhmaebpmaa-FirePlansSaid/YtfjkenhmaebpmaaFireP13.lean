/-
  Chapter 3: the search finds the shortest program, and of those that are as short the first one.
-/
import Derived.Test.YtfjkenhmaebpmaaFireP6
set_option linter.all false
set_option maxRecDepth 100000
set_option linter.unusedVariables false
namespace Go.Fire
open Go Go.Sx
def key:List Int→Int
 | []=>0
 | x::r=>key r*2001+(x+1)
def digits (r:List Int):Prop:=∀ x∈r,0≤x∧x≤2000
theorem digits_tail {x:Int} {r:List Int} (h:digits (x::r)):digits r:=fun y hy=>h y (List.mem_cons_of_mem _ hy)
theorem key_nonneg:∀ {a:List Int},digits a→0≤key a
 | [],_=>Int.le_refl _
 | x::r,h=>by
  have:=key_nonneg (digits_tail h)
  have:=h x List.mem_cons_self
  rw [key];omega
theorem key_len:∀ {a b:List Int},digits a→digits b→key a≤key b→a.length≤b.length
 | [],_,_,_,_=>Nat.zero_le _
 | x::a,[],ha,_,h=>by
  have:=key_nonneg (digits_tail ha)
  have:=ha x List.mem_cons_self
  rw [key,key] at h;omega
 | x::a,y::b,ha,hb,h=>by
  have hx:=ha x List.mem_cons_self
  have hy:=hb y List.mem_cons_self
  rw [key,key] at h
  have:=key_len (digits_tail ha) (digits_tail hb) (by omega)
  simp only [List.length_cons];omega
theorem key_inj:∀ {a b:List Int},digits a→digits b→key a=key b→a=b
 | [],[],_,_,_=>rfl
 | [],y::b,_,hb,h=>by
  have:=key_nonneg (digits_tail hb)
  have:=hb y List.mem_cons_self
  rw [key,key] at h;omega
 | x::a,[],ha,_,h=>by
  have:=key_nonneg (digits_tail ha)
  have:=ha x List.mem_cons_self
  rw [key,key] at h;omega
 | x::a,y::b,ha,hb,h=>by
  have hx:=ha x List.mem_cons_self
  have hy:=hb y List.mem_cons_self
  rw [key,key] at h
  have e:key a=key b:=by omega
  rw [key_inj (digits_tail ha) (digits_tail hb) e,show x=y by omega]
def okT (k:Kiln) (f:Fire) (l:List Stand) (s:State) (x:Int):Bool :=
 cond (s.1==-1) (allCold l x f.1&&allCold l x f.2.2.1) (followsV k.2.2.1 f l s.1 x)
def nx (f:Fire) (l:List Stand) (s:State) (x:Int):State:=(x,soakedV f l x s.2)
def stR (f:Fire) (l:List Stand):List Int→State
 | []=>noneS
 | x::r=>nx f l (stR f l r) x
def isNum (k:Kiln) (x:Int):Prop:=(∃ j:Nat,x=(j:Int)*k.2.2.2)∧x≤2000
def vaR (k:Kiln) (f:Fire) (l:List Stand):List Int→Prop
 | []=>True
 | x::r=>vaR k f l r∧isNum k x∧okT k f l (stR f l r) x=true
def goalB (f:Fire) (l:List Stand) (s:State):Bool:=s.2==f.2.2.2.1&&allCold l s.1 f.1
def known (c:Came) (t:State):Prop:=t=noneS∨(c t).isSome=true
theorem num_pos {k:Kiln} (hs:50≤k.2.2.2) {x:Int} (h:isNum k x):0≤x∧x≤2000:=by
 obtain ⟨⟨j,e⟩,h2⟩:=h
 have:=mul_ge (j:=j) hs
 omega
theorem va_digits {k:Kiln} {f:Fire} {l:List Stand} (hs:50≤k.2.2.2):∀ {r:List Int},vaR k f l r→digits r
 | [],_=>fun x hx=>by cases hx
 | y::r,h=>fun x hx=>by
  rcases List.mem_cons.1 hx with rfl | hx
  ·exact num_pos hs h.2.1
  ·exact va_digits hs h.1 x hx
theorem stR_bd {f:Fire} {l:List Stand} (hh:1≤f.2.2.2.1):∀ r:List Int,0≤(stR f l r).2∧(stR f l r).2≤f.2.2.2.1
 | []=>⟨Int.le_refl _,by show (0:Int)≤_;omega⟩
 | x::r=>soaked_bd hh (stR_bd hh r)
structure BF (k:Kiln) (f:Fire) (l:List Stand) (c:Came) (q:List State) (P:State→List Int) (cur:State) (b:Int):Prop where
 root:P noneS=[]
 non:c noneS=none
 path:∀ t t0,c t=some t0→P t=t.1::P t0∧known c t0∧t0∉q∧stR f l (P t)=t∧vaR k f l (P t)∧(P t).length≤40
 qk:∀ t∈q,(c t).isSome=true
 sorted:q.Pairwise fun a b=>key (P a)<key (P b)
 qlt:∀ u∈q,key (P u)<key (P cur)*2001+(b+1)
 curk:known c cur
 curn:cur∉q
 curlt:∀ u∈q,key (P cur)<key (P u)
 dc:∀ t,known c t→t∉q→key (P t)≤key (P cur)
 succ:∀ t,known c t→t∉q→t≠cur→(P t).length<40→∀ x,isNum k x→okT k f l t x=true→(c (nx f l t x)).isSome=true∧key (P (nx f l t x))≤key (P t)*2001+(x+1)
 csucc:(P cur).length<40→∀ x,isNum k x→x<b→okT k f l cur x=true→(c (nx f l cur x)).isSome=true∧key (P (nx f l cur x))≤key (P cur)*2001+(x+1)
 nogoal:∀ t,known c t→t∉q→goalB f l t=false
variable {k:Kiln} {f:Fire} {l:List Stand}
theorem BF.kn {c:Came} {q:List State} {P:State→List Int} {cur:State} {b:Int} (B:BF k f l c q P cur b) {t:State} (h:known c t):stR f l (P t)=t∧vaR k f l (P t)∧(P t).length≤40:=by
 rcases h with rfl | h
 ·rw [B.root];exact ⟨rfl,trivial,Nat.zero_le _⟩
 ·obtain ⟨t0,ht⟩:=Option.isSome_iff_exists.1 h
  exact (B.path t t0 ht).2.2.2
theorem BF.backP {c:Came} {q:List State} {P:State→List Int} {cur:State} {b:Int} (B:BF k f l c q P cur b):∀ {n:Nat} {t:State},known c t→(P t).length<n→backs c n t=P t
 | 0,_,_,h=>by omega
 | n+1,t,h,hn=>by
  by_cases e:t=noneS
  ·subst e;rw [B.root,Fire.backs];rfl
  ·have hc:(t.1==noneS.1&&t.2==noneS.2)=false:=by
    cases hh:(t.1==noneS.1&&t.2==noneS.2) with
    | false=>rfl
    | true=>exact absurd (eqS_iff.1 hh) e
   obtain ⟨t0,ht⟩:=Option.isSome_iff_exists.1 (h.resolve_left e)
   obtain ⟨e1,e2,_⟩:=B.path t t0 ht
   rw [e1,List.length_cons] at hn
   rw [Fire.backs,hc,cond_false,ht,e1]
   show t.1::Fire.backs c n t0=_
   rw [B.backP e2 (by omega)]
theorem known_put {c:Came} {s v t:State} (h:known c t):known (Z.mput eqS c s v) t:=by
 rcases h with h | h
 ·exact .inl h
 ·right
  by_cases e:t=s
  ·rw [e,put_at];rfl
  ·rw [put_ne e];exact h
theorem known_put' {c:Came} {s v t:State} (h:known (Z.mput eqS c s v) t):t=s∨known c t:=by
 by_cases e:t=s
 ·exact .inl e
 ·rcases h with h | h
  ·exact .inr (.inl h)
  ·rw [put_ne e] at h;exact .inr (.inr h)
theorem BF.enter {c:Came} {q:List State} {P:State→List Int} {cur:State} {x:Int} (hs:50≤k.2.2.2) (hh:1≤f.2.2.2.1∧f.2.2.2.1≤12) (B:BF k f l c q P cur x) (hx:isNum k x) (hl:(P cur).length<40) {c':Came} {q':List State}
  (e:(c',q')=cond (okT k f l cur x) (enterV f l x cur (c,q)) (c,q)) :
  (∃ P',BF k f l c' q' P' cur (x+k.2.2.2)∧P' cur=P cur)∧cnt k.2.2.2 c+q'.length≤cnt k.2.2.2 c'+q.length:=by
 have hx0:=num_pos hs hx
 have hmul:∀ y,isNum k y→y<x+k.2.2.2→y<x∨y=x:=fun y hy hlt=>by
  obtain ⟨⟨i,ei⟩,_⟩:=hx
  obtain ⟨⟨j,ej⟩,_⟩:=hy
  rcases Nat.lt_or_ge i j with hij | hij
  ·have h1:((i+1:Nat):Int)*k.2.2.2≤(j:Int)*k.2.2.2:=Int.mul_le_mul_of_nonneg_right (by omega) (by omega)
   rw [Int.natCast_add,Int.add_mul] at h1
   simp only [Int.natCast_one,Int.one_mul] at h1
   omega
  ·have h1:(j:Int)*k.2.2.2≤(i:Int)*k.2.2.2:=Int.mul_le_mul_of_nonneg_right (by omega) (by omega)
   omega
 cases ho:okT k f l cur x with
 | false =>
  rw [ho] at e;cases e
  refine ⟨⟨P,{ B with qlt:=fun u hu=>by have:=B.qlt u hu;omega,csucc:=fun h1 y hy hlt hok=>?_ },rfl⟩,Nat.le_refl _⟩
  rcases hmul y hy hlt with h | h
  ·exact B.csucc h1 y hy h hok
  ·rw [h,ho] at hok;cases hok
 | true =>
  rw [ho,cond_true] at e
  obtain ⟨s,hsx⟩:∃ s:State,s=nx f l cur x:=⟨_,rfl⟩
  have e2:enterV f l x cur (c,q)=cond (c s).isSome (c,q) (Z.mput eqS c s cur,q++[s]):=by rw [hsx];rfl
  have hs1:s.1=x:=by rw [hsx];rfl
  have hsn:s≠noneS:=fun h=>by rw [h] at hs1;have:(-1:Int)=x:=hs1;omega
  rw [e2] at e
  cases hc:(c s).isSome with
  | true =>
   rw [hc] at e;cases e
   refine ⟨⟨P,{ B with qlt:=fun u hu=>by have:=B.qlt u hu;omega,csucc:=fun h1 y hy hlt hok=>?_ },rfl⟩,Nat.le_refl _⟩
   rcases hmul y hy hlt with h | h
   ·exact B.csucc h1 y hy h hok
   ·subst h
    rw [←hsx]
    refine ⟨hc,?_⟩
    by_cases hq:s∈q
    ·have:=B.qlt s hq;omega
    ·have:=B.dc s (.inr hc) hq
     have:=key_nonneg (va_digits hs (B.kn B.curk).2.1)
     omega
  | false =>
   rw [hc] at e;cases e
   have hcn:c s=none:=by cases hx:c s with | none=>rfl | some y=>rw [hx] at hc;cases hc
   have hks:¬ known c s:=fun h=>by
    rcases h with h | h
    ·exact hsn h
    ·rw [hcn] at h;cases h
   have ne:∀ {t},known c t→t≠s:=fun ht h=>hks (h▸ht)
   obtain ⟨P',hP'⟩:∃ P':State→List Int,P'=fun t=>if t=s then x::P cur else P t:=⟨_,rfl⟩
   have P1:P' s=x::P cur:=by rw [hP'];simp
   have P2:∀ {t},t≠s→P' t=P t:=fun h=>by rw [hP'];simp [h]
   have P3:∀ {t},known c t→P' t=P t:=fun h=>P2 (ne h)
   have Q:∀ {t},t∈q→P' t=P t:=fun h=>P3 (.inr (B.qk _ h))
   have hcur:=B.kn B.curk
   have hsq:s∉q:=fun h=>hks (.inr (B.qk _ h))
   have hkey:key (P' s)=key (P cur)*2001+(x+1):=by rw [P1,key]
   have hg:good k.2.2.2 f.2.2.2.1 s:=by
    obtain ⟨⟨j,ej⟩,h2⟩:=hx
    have:=mul_ge (j:=j) hs
    have hb:=stR_bd (l:=l) hh.1 (P cur)
    rw [hcur.1] at hb
    rw [hsx]
    exact ⟨⟨j,by omega,ej,h2⟩,soaked_bd hh.1 hb⟩
   refine ⟨⟨P',?_,P3 B.curk⟩,?_⟩
   ·refine { root:=by rw [P2 (Ne.symm hsn)];exact B.root,non:=by rw [put_ne (Ne.symm hsn)];exact B.non,path:=?_,qk:=?_,sorted:=?_,qlt:=?_,curk:=known_put B.curk,curn:=?_,curlt:=?_,dc:=?_,succ:=?_,csucc:=?_,nogoal:=?_ }
    ·intro t t0 ht
     by_cases h:t=s
     ·subst h
      rw [put_at] at ht;cases ht
      refine ⟨by rw [P1,P3 B.curk,hs1],known_put B.curk,?_,?_,?_,?_⟩
      ·intro hm
       rcases List.mem_append.1 hm with hm | hm
       ·exact B.curn hm
       ·exact ne B.curk (List.mem_singleton.1 hm)
      ·rw [P1,stR,hcur.1,←hsx]
      ·rw [P1];exact ⟨hcur.2.1,hx,by rw [hcur.1];exact ho⟩
      ·rw [P1,List.length_cons];omega
     ·rw [put_ne h] at ht
      obtain ⟨a1,a2,a3,a4,a5,a6⟩:=B.path t t0 ht
      rw [P2 h,P3 a2]
      refine ⟨a1,known_put a2,?_,a4,a5,a6⟩
      intro hm
      rcases List.mem_append.1 hm with hm | hm
      ·exact a3 hm
      ·exact ne a2 (List.mem_singleton.1 hm)
    ·intro t ht
     rcases List.mem_append.1 ht with ht | ht
     ·rcases known_put (s:=s) (v:=cur) (.inr (B.qk t ht)) with h | h
      ·exact absurd (B.qk t ht) (by rw [h,B.non];decide)
      ·exact h
     ·rw [List.mem_singleton.1 ht,put_at];rfl
    ·refine List.pairwise_append.2 ⟨B.sorted.imp_of_mem fun ha hb h=>by rw [Q ha,Q hb];exact h,List.pairwise_singleton _ _,fun a ha b hb=>?_⟩
     rw [List.mem_singleton.1 hb,Q ha,hkey]
     exact B.qlt a ha
    ·intro u hu
     rw [P3 B.curk]
     rcases List.mem_append.1 hu with hu | hu
     ·rw [Q hu];have:=B.qlt u hu;omega
     ·rw [List.mem_singleton.1 hu,hkey];omega
    ·intro hm
     rcases List.mem_append.1 hm with hm | hm
     ·exact B.curn hm
     ·exact ne B.curk (List.mem_singleton.1 hm)
    ·intro u hu
     rw [P3 B.curk]
     rcases List.mem_append.1 hu with hu | hu
     ·rw [Q hu];exact B.curlt u hu
     ·rw [List.mem_singleton.1 hu,hkey]
      have:=key_nonneg (va_digits hs hcur.2.1)
      omega
    ·intro t ht hn
     rw [P3 B.curk]
     rcases known_put' ht with rfl | ht
     ·exact absurd (List.mem_append.2 (.inr List.mem_cons_self)) hn
     ·rw [P3 ht];exact B.dc t ht fun h=>hn (List.mem_append.2 (.inl h))
    ·intro t ht hn hne hlen y hy hok
     rcases known_put' ht with rfl | ht
     ·exact absurd (List.mem_append.2 (.inr List.mem_cons_self)) hn
     ·rw [P3 ht] at hlen ⊢
      obtain ⟨a1,a2⟩:=B.succ t ht (fun h=>hn (List.mem_append.2 (.inl h))) hne hlen y hy hok
      have hk:known c (nx f l t y):=.inr a1
      rw [put_ne (ne hk),P3 hk]
      exact ⟨a1,a2⟩
    ·intro hlen y hy hlt hok
     rw [P3 B.curk] at hlen ⊢
     rcases hmul y hy hlt with h | h
     ·obtain ⟨a1,a2⟩:=B.csucc hlen y hy h hok
      have hk:known c (nx f l cur y):=.inr a1
      rw [put_ne (ne hk),P3 hk]
      exact ⟨a1,a2⟩
     ·subst h
      rw [←hsx,put_at,hkey]
      exact ⟨rfl,Int.le_refl _⟩
    ·intro t ht hn
     rcases known_put' ht with rfl | ht
     ·exact absurd (List.mem_append.2 (.inr List.mem_cons_self)) hn
     ·exact B.nogoal t ht fun h=>hn (List.mem_append.2 (.inl h))
   ·have h1:=cnt_put (v:=cur) hh.2 hg hcn
    simp only [List.length_append,List.length_singleton];omega
theorem BF.sweeps {P0:List Int} {ok:Int→Bool} (hs:50≤k.2.2.2) (hh:1≤f.2.2.2.1∧f.2.2.2.1≤12) {cur:State} (hok:∀ x,ok x=okT k f l cur x) (hl:P0.length<40):∀ (n j:Nat) {c:Came} {q:List State} {P:State→List Int},j+n=50→BF k f l c q P cur ((j:Int)*k.2.2.2)→P cur=P0 →
  ∃ c' q' P' b,Fire.sweep k.2.2.2 ok f l cur n ((j:Int)*k.2.2.2) (c,q)=(c',q')∧BF k f l c' q' P' cur b∧2000<b∧cnt k.2.2.2 c+q'.length≤cnt k.2.2.2 c'+q.length
 | 0,j,c,q,P,hj,B,hP=>by
  have:=mul_ge (j:=j) hs
  exact ⟨c,q,P,_,rfl,B,by omega,Nat.le_refl _⟩
 | n+1,j,c,q,P,hj,B,hP=>by
  by_cases hle:(j:Int)*k.2.2.2≤2000
  ·obtain ⟨⟨c1,q1⟩,h1⟩:∃ r:Came × List State,r=cond (okT k f l cur ((j:Int)*k.2.2.2)) (enterV f l ((j:Int)*k.2.2.2) cur (c,q)) (c,q):=⟨_,rfl⟩
   obtain ⟨⟨P1,B1,hP1⟩,hc1⟩:=B.enter hs hh ⟨⟨j,rfl⟩,hle⟩ (by rw [hP];exact hl) h1
   have ej:(j:Int)*k.2.2.2+k.2.2.2=((j+1:Nat):Int)*k.2.2.2:=by rw [Int.natCast_add,Int.add_mul];simp
   rw [ej] at B1
   obtain ⟨c',q',P',b,e,B',hb,hc'⟩:=BF.sweeps hs hh hok hl n (j+1) (by omega) B1 (hP1.trans hP)
   refine ⟨c',q',P',b,?_,B',hb,by omega⟩
   rw [sweep_step hle,hok,←h1,ej];exact e
  ·exact ⟨c,q,P,_,sweep_end hle,B,by omega,Nat.le_refl _⟩
theorem BF.start (hs:50≤k.2.2.2) (hh:1≤f.2.2.2.1):BF k f l (fun _=>none) [] (fun _=>[]) noneS 0:=by
 have hk:∀ {t:State},known (fun _=>none) t→t=noneS:=fun h=>h.resolve_right (by simp)
 refine { root:=rfl,non:=rfl,path:=fun t t0 h=>(by cases h),qk:=fun t h=>(by cases h),sorted:=.nil,qlt:=fun u h=>(by cases h),curk:=.inl rfl,curn:=fun h=>(by cases h),curlt:=fun u h=>(by cases h),dc:=fun t ht _=>Int.le_refl _,succ:=fun t ht _ hn=>absurd (hk ht) hn,csucc:=fun _ x hx hlt=>?_,nogoal:=fun t ht _=>?_ }
 ·have:=num_pos hs hx
  omega
 ·rw [hk ht]
  show ((0:Int)==f.2.2.2.1&&_)=false
  rw [show ((0:Int)==f.2.2.2.1)=false by rw [beq_eq_false_iff_ne];omega];rfl
theorem BF.pop {c:Came} {q:List State} {s:State} {P:State→List Int} {cur:State} {b:Int} (hs:50≤k.2.2.2) (B:BF k f l c (s::q) P cur b) (hb:2000<b) (hg:goalB f l s=false):BF k f l c q P s 0:=by
 have hsk:known c s:=.inr (B.qk s List.mem_cons_self)
 have hso:=List.pairwise_cons.1 B.sorted
 have hsq:s∉q:=fun h=>by have:=hso.1 s h;omega
 have hdone:∀ {t},known c t→t∉q→t=s∨t∉s::q:=fun {t} _ hn=>by
  by_cases h:t=s
  ·exact .inl h
  ·exact .inr fun hm=>(List.mem_cons.1 hm).elim h hn
 have hcs:=B.curlt s List.mem_cons_self
 refine { root:=B.root,non:=B.non,path:=fun t t0 h=>?_,qk:=fun t h=>B.qk t (List.mem_cons_of_mem _ h),sorted:=hso.2,qlt:=fun u hu=>?_,curk:=hsk,curn:=hsq,curlt:=hso.1,dc:=fun t ht hn=>?_,succ:=fun t ht hn hne hlen x hx hok=>?_,csucc:=fun _ x hx hlt=>?_,nogoal:=fun t ht hn=>?_ }
 ·obtain ⟨a1,a2,a3,a4⟩:=B.path t t0 h
  exact ⟨a1,a2,fun h=>a3 (List.mem_cons_of_mem _ h),a4⟩
 ·obtain ⟨t0,ht⟩:=Option.isSome_iff_exists.1 (B.qk u (List.mem_cons_of_mem _ hu))
  obtain ⟨a1,a2,a3,a4,a5,a6⟩:=B.path u t0 ht
  have h1:=B.dc t0 a2 a3
  have h2:=va_digits hs a5
  rw [a1] at h2 ⊢
  have:=h2 _ List.mem_cons_self
  rw [key];omega
 ·rcases hdone ht hn with rfl | hn
  ·exact Int.le_refl _
  ·have:=B.dc t ht hn;omega
 ·have hn:=(hdone ht hn).resolve_left hne
  by_cases hc:t=cur
  ·subst hc
   exact B.csucc hlen x hx (by have:=hx.2;omega) hok
  ·exact B.succ t ht hn hc hlen x hx hok
 ·have:=num_pos hs hx
  omega
 ·rcases hdone ht hn with rfl | hn
  ·exact hg
  ·exact B.nogoal t ht hn
theorem BF.all {c:Came} {q:List State} {P:State→List Int} {cur:State} {b:Int} (hs:50≤k.2.2.2) (B:BF k f l c q P cur b) (hb:2000<b):∀ {r:List Int},vaR k f l r→r.length≤40 →
  (known c (stR f l r)∧key (P (stR f l r))≤key r)∨∃ u∈q,key (P u)≤key r
 | [],_,_=>.inl ⟨.inl rfl,by show key (P noneS)≤_;rw [B.root];exact Int.le_refl _⟩
 | x::r,h,hl=>by
  have hx:=num_pos hs h.2.1
  have hd:=va_digits hs h.1
  have hk0:=key_nonneg hd
  rw [List.length_cons] at hl
  rcases B.all hs hb h.1 (by omega) with ⟨h1,h2⟩ | ⟨u,hu,h2⟩
  ·by_cases hq:stR f l r∈q
   ·exact .inr ⟨_,hq,by rw [key];omega⟩
   ·have hlen:(P (stR f l r)).length<40:=by
     have:=key_len (va_digits hs (B.kn h1).2.1) hd h2
     omega
    have hgo:(c (nx f l (stR f l r) x)).isSome=true∧key (P (nx f l (stR f l r) x))≤key (P (stR f l r))*2001+(x+1):=by
     by_cases hc:stR f l r=cur
     ·have h5:=h.2.2
      rw [hc] at hlen h5 ⊢
      exact B.csucc hlen x h.2.1 (by omega) h5
     ·exact B.succ _ h1 hq hc hlen x h.2.1 h.2.2
    refine .inl ⟨.inr hgo.1,?_⟩
    have:=hgo.2
    show key (P (nx f l (stR f l r) x))≤_
    rw [key];omega
  ·exact .inr ⟨u,hu,by rw [key];omega⟩
def Least (k:Kiln) (f:Fire) (l:List Stand) (r:(List Int) × Int):Prop :=
 (∃ a,r=(a.reverse,0)∧a≠[]∧vaR k f l a∧goalB f l (stR f l a)=true∧a.length≤40∧∀ a',vaR k f l a'→goalB f l (stR f l a')=true→a'.length≤40→key a≤key a') ∨
 (r=([],4)∧∀ a',vaR k f l a'→a'.length≤40→goalB f l (stR f l a')=false)
theorem search_ok (hs:50≤k.2.2.2) (hh:1≤f.2.2.2.1∧f.2.2.2.1≤12):∀ (n:Nat) {c:Came} {q:List State} {P:State→List Int} {cur:State} {b:Int},BF k f l c q P cur b→2000<b→533+q.length<n+cnt k.2.2.2 c→Least k f l (searchV k f l n (c,q))
 | 0,c,q,P,cur,b,B,hb,hn=>by have:=cnt_le k.2.2.2 c;omega
 | n+1,c,[],P,cur,b,B,hb,hn=>by
  refine .inr ⟨rfl,fun a' h1 h2=>?_⟩
  rcases B.all hs hb h1 h2 with ⟨h3,_⟩ | ⟨u,hu,_⟩
  ·exact B.nogoal _ h3 fun h=>by cases h
  ·cases hu
 | n+1,c,s::q,P,cur,b,B,hb,hn=>by
  have hsk:known c s:=.inr (B.qk s List.mem_cons_self)
  have hso:=List.pairwise_cons.1 B.sorted
  obtain ⟨k1,k2,k3⟩:=B.kn hsk
  have ep:progOf c s=(P s).reverse:=by rw [progOf,B.backP hsk (by omega)]
  have es:searchV k f l (n+1) (c,s::q)=cond (goalB f l s) (progOf c s,0) (searchV k f l n (cond (decide ((progOf c s).length<40)) (Fire.sweep k.2.2.2 (followsV k.2.2.1 f l s.1) f l s 50 0 (c,q)) (c,q))):=rfl
  rw [es,ep]
  cases hg:goalB f l s with
  | true =>
   refine .inl ⟨P s,rfl,?_,k2,by rw [k1];exact hg,k3,fun a' h1 h2 h3=>?_⟩
   ·intro h0
    rw [h0] at k1
    have k1:noneS=s:=k1
    rw [←k1] at hsk
    have:=B.qk s List.mem_cons_self
    rw [←k1,B.non] at this;cases this
   ·rcases B.all hs hb h1 h3 with ⟨h4,h5⟩ | ⟨u,hu,h5⟩
    ·by_cases hq:stR f l a'∈s::q
     ·rcases List.mem_cons.1 hq with e | hq
      ·rw [e] at h5;exact h5
      ·have:=hso.1 _ hq;omega
     ·rw [B.nogoal _ h4 hq] at h2;cases h2
    ·rcases List.mem_cons.1 hu with e | hu
     ·rw [e] at h5;exact h5
     ·have:=hso.1 _ hu;omega
  | false =>
   rw [cond_false]
   have B0:=B.pop hs hb hg
   rw [List.length_cons] at hn
   by_cases hl:(P s).length<40
   ·rw [decide_eq_true (by rw [List.length_reverse];exact hl),cond_true]
    have hne:(s.1==-1)=false:=by
     rw [←k1]
     cases hP:P s with
     | nil =>
      rw [hP] at k1
      have:=B.qk s List.mem_cons_self
      rw [←k1] at this
      have h0:(c noneS).isSome=true:=this
      rw [B.non] at h0;cases h0
     | cons x r =>
      have:=va_digits hs k2 x (by rw [hP];exact List.mem_cons_self)
      show (x==-1)=false
      rw [beq_eq_false_iff_ne];omega
    have hok:∀ x,followsV k.2.2.1 f l s.1 x=okT k f l s x:=fun x=>by rw [okT,hne];rfl
    obtain ⟨c',q',P',b',e,B',hb',hc'⟩:=BF.sweeps hs hh hok hl 50 0 rfl (by simpa using B0) rfl
    have e:Fire.sweep k.2.2.2 (followsV k.2.2.1 f l s.1) f l s 50 0 (c,q)=(c',q'):=by rw [←e];simp
    rw [e]
    exact search_ok hs hh n B' hb' (by omega)
   ·rw [decide_eq_false (by rw [List.length_reverse];exact hl),cond_false]
    exact search_ok hs hh n (b:=2001) { B0 with qlt:=fun u hu=>by have:=B0.qlt u hu;omega,csucc:=fun h=>absurd h hl } (by omega) (by omega)
theorem plan_least {k:Kiln} {f:Fire} {l:List Stand} (hs:50≤k.2.2.2) (hh:1≤f.2.2.2.1∧f.2.2.2.1≤12):Least k f l (searchV k f l 600 (startV k f l)):=by
 have hok:∀ x,(allCold l x f.1&&allCold l x f.2.2.1)=okT k f l noneS x:=fun x=>rfl
 obtain ⟨c',q',P',b',e,B',hb',hc'⟩:=BF.sweeps (P0:=[]) hs hh hok (by decide) 50 0 rfl (by simpa using BF.start (k:=k) (f:=f) (l:=l) hs hh.1) rfl
 have e:startV k f l=(c',q'):=by rw [←e,startV];simp
 rw [e]
 have h0:cnt k.2.2.2 (fun _=>none)=0:=by simp [cnt]
 rw [h0] at hc'
 simp only [List.length_nil] at hc'
 exact search_ok hs hh 600 B' hb' (by have:=cnt_le k.2.2.2 c';omega)
end Go.Fire
