/-
  Chapter 3: conditions of Why, and of the small functions of Plan and of the examples, proved.
-/
import Derived.Test.YtfjkenhmaebpmaaFireP1
set_option linter.all false
set_option maxRecDepth 100000
set_option linter.unusedVariables false
namespace Go.Fire
open Go Go.Sx
theorem one_fire (f:Fire):(List.replicate 1 ((0:Int),(0:Int),(0:Int),(0:Int),(0:Int),(0:Int))).set 0 f=[f]:=rfl
theorem v18 (x:Kiln × Fire × (List Int) × Int) (_:k18.pre x):V18 x:=by
 obtain ⟨k,f,l,place⟩:=x
 have e:fire_Why (k,f,l,place)=whyV k f l place:=rfl
 rw [V18,e]
 dsimp only
 rw [one_fire]
 refine ⟨by show (1:Nat)≤big;simp only [big];omega,fun h=>?_,fun h=>?_⟩
 ·rw [whyV,h];rfl
 have h0:fire_check (k,l,[f])=0:=by simpa using h
 obtain ⟨hk,hf,hl⟩:=check_ok.1 h0
 have K:=kiln_iff.1 hk
 have hn:=K.len
 have eC:whyV k f l place=cond (!inB place 0 ((k.1.length:Int) - 1)) (0,0,2)
  (cond ((fire_stand_broken ((k,f,k.1.getD place.toNat ((0,0),0,0)),l)).1==0) (0,0,4)
   ((fire_stand_broken ((k,f,k.1.getD place.toNat ((0,0),0,0)),l)).1,(fire_stand_broken ((k,f,k.1.getD place.toNat ((0,0),0,0)),l)).2,0)):=by rw [whyV,h];rfl
 rw [eC]
 refine ⟨by simp only [Z.in64];omega,trivial,fun hw=>?_,fun hw=>?_⟩
 ·have hw:(!inB place 0 ((k.1.length:Int) - 1))=true:=hw
  rw [hw];rfl
 have hw:(!inB place 0 ((k.1.length:Int) - 1))=false:=hw
 have hp:=inB_iff.1 (not_iff.2.1 hw)
 have hpl:=K.place _ (getD_mem' k.1 ((0,0),0,0) place hp.1 (by omega))
 rw [hw,cond_false]
 refine ⟨⟨hp.1,by omega⟩,⟨⟨K.err,hpl,hf⟩,hl⟩,fun hb=>?_,fun hb=>?_⟩
 ·have hb:((fire_stand_broken ((k,f,k.1.getD place.toNat ((0,0),0,0)),l)).1==0)=true:=hb
  rw [hb];rfl
 ·have hb:((fire_stand_broken ((k,f,k.1.getD place.toNat ((0,0),0,0)),l)).1==0)=false:=hb
  rw [hb];rfl
theorem v106 (x:(List Stand) × Fun Stand Bool) (h:k106.pre x):V106 x:=ixF_loop x.1 (([],0,0,0),(0,0,0,0,0,0),(0,0),0,0) x.2 h.1 h.2
theorem v101 (x:(List Stand) × Fun Stand Bool) (h:k101.pre x):V101 x:=⟨h,any_ix _ _⟩
theorem v102 (x:Stand × Fun Stand Bool) (h:k102.pre x):V102 x:=⟨h,rfl⟩
theorem v77 (x:(List Stand) × Fun Stand Bool) (h:k77.pre x):V77 x:=⟨⟨h.1,h.2⟩,any_not _ _⟩
theorem v78 (x:Stand × Int × Int) (h:k78.pre x):V78 x:=⟨h,rfl⟩
theorem v80 (x:Stand × Int) (h:k80.pre x):V80 x:=⟨h,rfl⟩
theorem le_big {n:Nat} (h:n≤8):n≤big:=by simp only [big];omega
theorem v53 (x:Plnr × Int × Int) (h:k53.pre x):V53 x:=⟨⟨le_big h.1.1,fun a ha=>⟨h.1.2 a ha,h.2⟩⟩,rfl⟩
theorem v84 (x:Stand × Int × Int × Plnr) (h:k84.pre x):V84 x:=by
 obtain ⟨h1,h2,h3,h4⟩:standOk x.1∧setOk x.2.1∧setOk x.2.2.1∧fireOk x.2.2.2.2.1:=h
 have hf:=fire_iff.1 h4
 have a1:0≤x.2.2.2.2.1.2.2.2.2.1∧x.2.2.2.2.1.2.2.2.2.1≤4000:=by omega
 have a2:0≤x.2.2.2.2.1.2.2.2.2.2∧x.2.2.2.2.1.2.2.2.2.2≤4000:=by omega
 exact ⟨⟨h1,h2,h3,a1⟩,fun _=>⟨h1,h3,h2,a2⟩,rfl⟩
theorem v58 (x:Plnr × Int × Int) (h:k58.pre x):V58 x:=by
 obtain ⟨h1,h2,h3,h4⟩:standsOk x.1.2.2.1∧fireOk x.1.2.1∧setOk x.2.1∧setOk x.2.2:=h
 have hf:=fire_iff.1 h2
 have h3':=h3;have h4':=h4
 simp only [setOk] at h3' h4'
 have a1:0≤x.1.2.1.2.2.1∧x.1.2.1.2.2.1≤4000:=by omega
 refine ⟨by simp only [Z.in64];omega,by simp only [Z.in64];omega,fun _=>⟨h1,h4,a1⟩,fun _=>⟨le_big h1.1,fun a ha=>⟨h1.2 a ha,h3,h4,h2⟩⟩,rfl⟩
theorem v55 (x:Unit) (_:k55.pre x):V55 x:=rfl
theorem v28 (x:Int × Int) (_:k28.pre x):V28 x:=rfl
theorem v25 (x:Unit) (_:k25.pre x):V25 x:=rfl
theorem v26 (x:Unit) (_:k26.pre x):V26 x:=⟨trivial,trivial,trivial,trivial,rfl⟩
theorem v27 (x:Unit) (_:k27.pre x):V27 x:=rfl
theorem sameL_len:∀ {l r:List Int},l.length≠r.length→sameL l r=false
 | [],[],h=>absurd rfl h
 | [],_::_,_=>rfl
 | _::_,[],_=>rfl
 | a::l,b::r,h=>by rw [sameL,sameL_len (fun e=>h (by simp [e])),Bool.and_false]
theorem v20 (x:(List Int) × List Int) (hp:k20.pre x):V20 x:=by
 obtain ⟨l,r⟩:=x
 have hb:l.length≤big:=hp
 simp only [big] at hb
 refine ⟨fun h=>?_,fun h=>?_⟩
 ·have h:((l.length:Int)==(r.length:Int))=false:=not_iff.1.1 h
  exact (sameL_len (l:=l) (r:=r) fun e=>by rw [e] at h;simp at h).symm
 have h:((l.length:Int)==(r.length:Int))=true:=not_iff.2.1 h
 have h:l.length=r.length:=Int.ofNat.inj (by simpa using h)
 refine ⟨fun s=>0≤s∧s≤(l.length:Int)∧sameL l r=sameL (l.drop s.toNat) (r.drop s.toNat),fun s=>((l.length:Int) - s).toNat,⟨by omega,by omega,rfl⟩,?_⟩
 rintro s ⟨h1,h2,h3⟩
 refine ⟨fun hs=>?_,fun hs=>?_⟩
 ·have hs:s<(l.length:Int):=of_decide_eq_true hs
  rw [drop_getD' l 0 s h1 hs,drop_getD' r 0 s h1 (by omega),sameL] at h3
  refine ⟨⟨h1,hs⟩,⟨h1,by show s<(r.length:Int);omega⟩,fun hv=>?_,fun hv=>⟨by simp only [Z.in64];omega,⟨by omega,by omega,?_⟩,by simp only;omega⟩⟩
  ·have hv:((l.getD s.toNat 0)==(r.getD s.toNat 0))=false:=not_iff.1.1 hv
   show false=sameL l r
   rw [h3,hv,Bool.false_and]
  ·have hv:((l.getD s.toNat 0)==(r.getD s.toNat 0))=true:=not_iff.2.1 hv
   rw [h3,hv,Bool.true_and]
 ·have hs:¬ s<(l.length:Int):=of_decide_eq_false hs
  show true=sameL l r
  rw [h3,List.drop_eq_nil_of_le (by omega),List.drop_eq_nil_of_le (by omega)];rfl
end Go.Fire
