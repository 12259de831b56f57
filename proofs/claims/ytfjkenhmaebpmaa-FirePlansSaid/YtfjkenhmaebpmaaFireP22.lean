/-
  Chapter 3: from which states a program can be ended; the document's search finds the least program, too. Plain Lean.
-/
import Derived.Test.YtfjkenhmaebpmaaFireP13
set_option linter.all false
set_option maxRecDepth 100000
namespace Go.Fire
open Go Go.Sx
variable {k:Kiln} {f:Fire} {l:List Stand}
def Ends (k:Kiln) (f:Fire) (l:List Stand):Nat→State→Prop
 | 0,s=>goalB f l s=true
 | n+1,s=>∃ x,isNum k x∧followsV k.2.2.1 f l s.1 x=true∧Ends k f l n (nx f l s x)
theorem stR_ne (hs:50≤k.2.2.2) {a:List Int} (ha:a≠[]) (hv:vaR k f l a):((stR f l a).1==-1)=false:=by
 cases a with
 | nil=>exact absurd rfl ha
 | cons x r =>
  have:=va_digits hs hv x List.mem_cons_self
  show (x==-1)=false
  rw [beq_eq_false_iff_ne];omega
theorem va_app:∀ {c a:List Int},vaR k f l (c++a)→vaR k f l a
 | [],_,h=>h
 | _::c,_,h=>va_app (c:=c) h.1
theorem ends_iff (hs:50≤k.2.2.2):∀ (n:Nat) {a:List Int},a≠[]→vaR k f l a→(Ends k f l n (stR f l a)↔∃ c,c.length=n∧vaR k f l (c++a)∧goalB f l (stR f l (c++a))=true)
 | 0,a,ha,hv=>by
  constructor
  ·intro h;exact ⟨[],rfl,hv,h⟩
  ·rintro ⟨c,hc,_,hg⟩
   have:c=[]:=List.eq_nil_of_length_eq_zero hc
   rw [this] at hg;exact hg
 | n+1,a,ha,hv=>by
  have hne:=stR_ne hs ha hv
  have hok:∀ x,okT k f l (stR f l a) x=followsV k.2.2.1 f l (stR f l a).1 x:=fun x=>by rw [okT,hne];rfl
  constructor
  ·rintro ⟨x,h1,h2,h3⟩
   have hv':vaR k f l (x::a):=⟨hv,h1,by rw [hok];exact h2⟩
   obtain ⟨c,c1,c2,c3⟩:=(ends_iff hs n (by simp) hv').1 h3
   refine ⟨c++[x],by simp [c1],?_,?_⟩
   ·rw [List.append_assoc];exact c2
   ·rw [List.append_assoc];exact c3
  ·rintro ⟨c,c1,c2,c3⟩
   rcases List.eq_nil_or_concat c with e | ⟨d,x,e⟩
   ·rw [e] at c1;cases c1
   ·subst e
    rw [List.concat_eq_append,List.append_assoc] at c2 c3
    have hv':vaR k f l (x::a):=va_app c2
    have hl:d.length=n:=by simpa using c1
    refine ⟨x,hv'.2.1,by rw [←hok];exact hv'.2.2,(ends_iff hs n (by simp) hv').2 ⟨d,hl,c2,c3⟩⟩
def Best (k:Kiln) (f:Fire) (l:List Stand) (n:Nat) (a:List Int):Prop :=
 a≠[]∧vaR k f l a∧Ends k f l n (stR f l a)∧∀ d,d.length=a.length→vaR k f l d→Ends k f l n (stR f l d)→key a≤key d
theorem best_step (hs:50≤k.2.2.2) {n:Nat} {a:List Int} (h:Best k f l (n+1) a) {b:Int} (hb:isNum k b) (hf:followsV k.2.2.1 f l (stR f l a).1 b=true) (he:Ends k f l n (nx f l (stR f l a) b))
  (hl:∀ x,isNum k x→followsV k.2.2.1 f l (stR f l a).1 x=true→Ends k f l n (nx f l (stR f l a) x)→b≤x):Best k f l n (b::a):=by
 obtain ⟨h1,h2,h3,h4⟩:=h
 have hok:∀ {d:List Int},d≠[]→vaR k f l d→∀ x,okT k f l (stR f l d) x=followsV k.2.2.1 f l (stR f l d).1 x:=fun hd hv x=>by rw [okT,stR_ne hs hd hv];rfl
 refine ⟨by simp,⟨h2,hb,by rw [hok h1 h2];exact hf⟩,he,fun d hd hv hE=>?_⟩
 cases d with
 | nil=>cases hd
 | cons x d =>
  have hd':d.length=a.length:=by simpa using hd
  have hne:d≠[]:=fun e=>by rw [e] at hd';exact h1 (List.eq_nil_of_length_eq_zero hd'.symm)
  have hx:=hv.2.2
  rw [hok hne hv.1] at hx
  have hk:=h4 d hd' hv.1 ⟨x,hv.2.1,hx,hE⟩
  have d1:=num_pos hs hb
  have d2:=num_pos hs hv.2.1
  rw [key,key]
  by_cases e:key a=key d
  ·have:=key_inj (va_digits hs h2) (va_digits hs hv.1) e
   subst this
   have:=hl x hv.2.1 hx hE
   omega
  ·omega
theorem best_start (hs:50≤k.2.2.2) {n:Nat} {b:Int} (hb:isNum k b) (hf:okT k f l noneS b=true) (he:Ends k f l n (nx f l noneS b)) (hl:∀ x,isNum k x→okT k f l noneS x=true→Ends k f l n (nx f l noneS x)→b≤x):Best k f l n [b]:=by
 refine ⟨by simp,⟨trivial,hb,hf⟩,he,fun d hd hv hE=>?_⟩
 cases d with
 | nil=>cases hd
 | cons x d =>
  have hd':d=[]:=List.eq_nil_of_length_eq_zero (by simpa using hd)
  subst hd'
  have:=hl x hv.2.1 hv.2.2 hE
  simp only [key];omega
def NoStart (k:Kiln) (f:Fire) (l:List Stand) (n:Nat):Prop:=∀ x,isNum k x→okT k f l noneS x=true→¬ Ends k f l n (nx f l noneS x)
theorem long_enough (hs:50≤k.2.2.2) (hh:1≤f.2.2.2.1) {m:Nat} (h:∀ n,n<m→NoStart k f l n) {a:List Int} (hv:vaR k f l a) (hg:goalB f l (stR f l a)=true):m<a.length:=by
 rcases Nat.lt_or_ge m a.length with h1 | h1
 ·exact h1
 ·exfalso
  rcases List.eq_nil_or_concat a with e | ⟨d,x,e⟩
  ·subst e
   have hg:((0:Int)==f.2.2.2.1&&_)=true:=hg
   rw [show ((0:Int)==f.2.2.2.1)=false by rw [beq_eq_false_iff_ne];omega] at hg
   cases hg
  ·subst e
   rw [List.concat_eq_append] at hv hg h1
   have hx:vaR k f l [x]:=va_app hv
   have:=(ends_iff hs d.length (a:=[x]) (by simp) hx).2 ⟨d,rfl,hv,hg⟩
   exact h d.length (by simp at h1;omega) x hx.2.1 hx.2.2 this
theorem least_of (hs:50≤k.2.2.2) (hh:1≤f.2.2.2.1) {m:Nat} (h:∀ n,n<m→NoStart k f l n) {a:List Int} (hb:Best k f l 0 a) (hl:a.length=m+1) (h40:a.length≤40):Least k f l (a.reverse,0):=by
 obtain ⟨h1,h2,h3,h4⟩:=hb
 refine .inl ⟨a,rfl,h1,h2,h3,h40,fun a' v' g' l'=>?_⟩
 have hlt:=long_enough hs hh h v' g'
 by_cases e:a'.length=a.length
 ·exact h4 a' e v' g'
 ·rcases Int.lt_or_le (key a') (key a) with h5 | h5
  ·have:=key_len (va_digits hs v') (va_digits hs h2) (Int.le_of_lt h5)
   omega
  ·exact h5
theorem least_none (hs:50≤k.2.2.2) (hh:1≤f.2.2.2.1) (h:∀ n,n<40→NoStart k f l n):Least k f l ([],4):=by
 refine .inr ⟨rfl,fun a' v' l'=>?_⟩
 cases hg:goalB f l (stR f l a') with
 | false=>rfl
 | true=>have:=long_enough hs hh h v' hg;omega
theorem least_uniq (hs:50≤k.2.2.2) {r r':(List Int) × Int} (h:Least k f l r) (h':Least k f l r'):r=r':=by
 rcases h with ⟨a,rfl,a1,a2,a3,a4,a5⟩ | ⟨rfl,h⟩<;>rcases h' with ⟨b,rfl,b1,b2,b3,b4,b5⟩ | ⟨rfl,h'⟩
 ·have e1:=a5 b b2 b3 b4
  have e2:=b5 a a2 a3 a4
  rw [key_inj (va_digits hs a2) (va_digits hs b2) (by omega)]
 ·rw [h' a a2 a4] at a3;cases a3
 ·rw [h b b2 b4] at b3;cases b3
 ·rfl
end Go.Fire
