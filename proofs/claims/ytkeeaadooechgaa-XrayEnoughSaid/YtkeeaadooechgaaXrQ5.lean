/-
  Chapter 6: XrayEnough.
-/
import Derived.Test.YtkeeaadooechgaaXrAuto4
import Derived.Test.YtkeeaadooechgaaXrQ2
set_option linter.all false
set_option maxRecDepth 100000
set_option maxHeartbeats 4000000
set_option linter.unusedVariables false
namespace Go.Xr
open Go Go.Sx
theorem tabs_ok4:TabsOk Go.Proofs.Try.prog T4:=by
 refine ⟨by kernel_rfl,fun p hp=>?_⟩
 simp only [T4,List.not_mem_nil] at hp
theorem all_bd {c:Crate} (hc:CrateOk c):0≤allP c∧allP c≤64:=by
 have h8:=hc.r8
 have h1:=hc.c1
 have:=mul_bd (a:=(c.1.length:Int)) (b:=c.2.1) (A:=8) (B:=8) (by omega) ⟨by omega,hc.c8⟩
 simp only [allP];omega
theorem few_eq {c:Crate} {most:Int} (he:fewestE c most=0):(CrateOk c∧0≤most∧most≤1048576)∧xray_Fewest (c,most)=(fewestV c most,0):=by
 have h:crateB c=true∧inB most 0 1048576=true:=by
  unfold fewestE at he
  cases hc:crateB c with
  | false=>rw [hc] at he;cases he
  | true =>
   cases hi:inB most 0 1048576 with
   | false=>rw [hc,hi] at he;cases he
   | true=>exact ⟨rfl,rfl⟩
 refine ⟨⟨crate_iff.1 h.1,inB_iff.1 h.2⟩,?_⟩
 unfold xray_Fewest
 rw [show fewestE (c,most).1 (c,most).2=0 from he];rfl
theorem few_bad {c:Crate} {most:Int} (he:fewestE c most≠0):xray_Fewest (c,most)=([],fewestE c most)∧(fewestE c most==1)=!crateB c:=by
 constructor
 ·unfold xray_Fewest
  rw [show (fewestE (c,most).1 (c,most).2==0)=false from beq_eq_false_iff_ne.2 he];rfl
 ·unfold fewestE at he ⊢
  cases hc:crateB c with
  | false=>rfl
  | true =>
   cases hi:inB most 0 1048576 with
   | false=>rfl
   | true=>rw [hc,hi] at he;exact absurd rfl he
theorem rise_get {c:Crate}:∀ {L:List Spot} {a:Int} {i:Nat},Rise c a L→i+1<L.length→posn c (L.getD i (0,0))<posn c (L.getD (i+1) (0,0))
 | [],_,_,_,h=>absurd h (by simp)
 | [s],_,i,_,h=>absurd h (by simp)
 | s::t::L,a,0,h,_=>h.2.1.2
 | s::t::L,a,i+1,h,hl=>rise_get (L:=t::L) (i:=i) h.2 (by simpa using hl)
theorem rise_snoc {c:Crate} {t:Spot} (ht:inside c t):∀ {L:List Spot} {a:Int},Rise c a L→a<posn c t→(∀ s∈L,posn c s<posn c t)→Rise c a (L++[t])
 | [],a,_,h,_=>⟨⟨ht,h⟩,trivial⟩
 | s::L,a,h,_,hl=>⟨h.1,rise_snoc ht h.2 (hl s List.mem_cons_self) fun x hx=>hl x (List.mem_cons_of_mem _ hx)⟩
theorem inside_place {c:Crate} {s:Spot} (h:inside c s):placeB c s.1 s.2=true:=by
 simp only [placeB,Bool.and_eq_true,inB_iff]
 exact ⟨⟨h.1.1,by have:=h.1.2;omega⟩,h.2.1,by have:=h.2.2;omega⟩
theorem v34 (x:Spot × Crate) (h:k34.pre x):V34 x:=by
 obtain ⟨h1,h2⟩:=h
 have hc:=crate_iff.1 h1
 have hb:=posn_bd h2
 have ha:=all_bd hc
 have hm:=Int.mul_nonneg h2.1.1 (show 0≤x.2.2.1 by have:=hc.c1;omega)
 have h3:=h2.2
 simp only [posn] at hb
 exact ⟨by simp only [Z.in64];omega,by simp only [Z.in64];omega,rfl⟩
theorem v8 (x:Crate × Int × List Int) (hp:k8.pre x):V8 x:=by
 obtain ⟨c,most,by_⟩:=x
 have hp:∀ n∈by_,byteP n:=hp
 refine ⟨fun _=>⟨trivial,rfl⟩,fun hg=>?_⟩
 have hg:(decide ((16:Int)<(c.1.length:Int))||decide ((40:Int)<(by_.length:Int)))=false:=hg
 rw [Bool.or_eq_false_iff] at hg
 have g1:=of_decide_eq_false hg.1
 have g2:=of_decide_eq_false hg.2
 have c1:c.1.length≤big:=by simp only [big];omega
 refine ⟨c1,fun hbad=>?_,fun hok=>?_⟩
 ·have hne:fewestE c most≠0:=by
   have hbad:(!(fewestE c most==0))=true:=hbad
   simpa using hbad
  obtain ⟨h1,h2⟩:=few_bad hne
  refine ⟨fun _=>c1,fun _=>trivial,?_⟩
  dsimp only
  rw [h1]
  show (((((([]:List Spot).length:Nat):Int)==0)&&((fewestE c most==1)==!crateB c))&&true)=true
  rw [h2]
  simp
 have he:fewestE c most=0:=by
  have hok:(!(fewestE c most==0))=false:=hok
  simpa using hok
 obtain ⟨⟨hc,m0,m1⟩,hfe⟩:=few_eq he
 obtain ⟨_,fmax,frise,fgood,ffew,flex⟩:=few_is hc m0
 have hcb:=crate_iff.2 hc
 have hr8:=hc.r8
 have hc1:=hc.c1
 have hc8:=hc.c8
 have hall:=all_bd hc
 dsimp only
 rw [hfe]
 dsimp only
 generalize fewestV c most=F at fmax frise fgood ffew flex
 have hFl:F.length≤8:=by omega
 have hFi:∀ s∈F,inside c s:=fun s hs=>(rise_mem frise s hs).1
 have hFg:∀ i:Int,0≤i→i<(F.length:Int)→inside c (F.getD i.toNat (0,0)):=fun i h0 h1=>hFi _ (getD_mem' F _ i h0 h1)
 have r1:∀ {k:Int} {n:Nat},0≤k→k≤100→n≤1000→Z.roomy k (n:Int):=fun h1 h2 h3=>roomy_of h1 h2 (by omega)
 refine ⟨c1,fun hb=>?_,fun _=>?_⟩
 ·have hb:(!crateB c||decide (max (c.1.length:Int) c.2.1<(F.length:Int)))=true:=hb
  rw [hcb,decide_eq_false (by omega)] at hb
  cases hb
 refine ⟨fun s=>0≤s∧s≤(F.length:Int),fun s=>((F.length:Int) - s).toNat,⟨Int.le_refl _,by show (0:Int)≤_;omega⟩,?_⟩
 rintro s ⟨s1,s2⟩
 refine ⟨fun hlt=>?_,fun _=>?_⟩
 ·have hlt:s<(F.length:Int):=of_decide_eq_true hlt
  have hi:=hFg s s1 hlt
  refine ⟨⟨s1,hlt⟩,hcb,fun _=>⟨hcb,hi⟩,fun _=>by simp only [Z.in64];omega,fun hh=>?_,fun hh=>?_,fun hb=>?_,fun _=>⟨by simp only [Z.in64];omega,⟨by show 0≤s+1;omega,by show s+1≤_;omega⟩,by show ((F.length:Int) - (s+1)).toNat<((F.length:Int) - s).toNat;omega⟩⟩
  ·have:=of_decide_eq_true hh.1
   exact ⟨by omega,by omega⟩
  ·have:=of_decide_eq_true hh.1
   exact ⟨hcb,hFg _ (by omega) (by omega)⟩
  ·have hb:((!placeB c (F.getD s.toNat (0,0)).1 (F.getD s.toNat (0,0)).2)||(decide (0<s)&&decide (posn c (F.getD s.toNat (0,0))≤posn c (F.getD (s - 1).toNat (0,0)))))=true:=hb
   rw [inside_place hi,Bool.not_true,Bool.false_or,Bool.and_eq_true,decide_eq_true_eq,decide_eq_true_eq] at hb
   have:=rise_get (i:=(s - 1).toNat) frise (by omega)
   rw [show (s - 1).toNat+1=s.toNat by omega] at this
   omega
 have hmF:=missed_eq hc most hFi (by omega)
 refine ⟨⟨c1,by simp only [big];omega⟩,fun hb=>?_,fun _=>?_⟩
 ·rw [hmF] at hb
  have hb:(false||decide (most<missV (withL (plan0 c most) F)))=true:=hb
  rw [Bool.false_or,decide_eq_true_eq] at hb
  omega
 refine ⟨fun p=>((0≤p.2.2∧p.2.2≤(by_.length:Int))∧(-1≤p.2.1∧p.2.1≤5*p.2.2 - 1))∧(Rise c (-1) p.1∧∀ s∈p.1,posn c s≤p.2.1)∧p.1.length≤F.length,fun p=>((by_.length:Int) - p.2.2).toNat,⟨⟨⟨Int.le_refl _,by show (0:Int)≤_;omega⟩,by show (-1:Int)≤-1;omega,by show (-1:Int)≤5*0 - 1;omega⟩,⟨trivial,fun s hs=>by cases hs⟩,Nat.zero_le _⟩,?_⟩
 rintro ⟨O,n,i⟩ ⟨⟨⟨i1,i2⟩,n1,n2⟩,⟨hO,hOn⟩,hOl⟩
 simp only at i1 i2 n1 n2 hO hOn hOl
 refine ⟨fun hlt=>?_,fun _=>?_⟩
 ·have hlt:i<(by_.length:Int):=of_decide_eq_true hlt
  have hby:=hp _ (getD_mem' by_ 0 i i1 hlt)
  have ht1:=Int.tmod_nonneg 5 hby.1
  have ht2:=Int.tmod_lt_of_pos (by_.getD i.toNat 0) (show (0:Int)<5 by decide)
  dsimp only
  generalize hk:n+(1+Int.tmod (by_.getD i.toNat 0) 5)=n'
  have hn':n<n'∧n'≤n+5:=by omega
  refine ⟨⟨i1,hlt⟩,by decide,by simp only [Z.in64];omega,by simp only [Z.in64];omega,by have:=hall;simp only [allP] at this;simp only [Z.in64];omega,fun hb=>?_,fun hb=>?_⟩
  ·have hb:(decide (n'<allP c)&&decide ((O.length:Int)<(F.length:Int)))=true:=hb
   rw [Bool.and_eq_true,decide_eq_true_eq,decide_eq_true_eq] at hb
   have hin:=spot_inside hc (i:=n') (by omega) hb.1
   have hpo:=posn_at hc (i:=n') (by omega)
   have e:∀ z:Spot,(List.replicate 1 ((0,0):Spot)).set 0 z=[z]:=fun _=>rfl
   have htd:Z.in64 (Int.tdiv n' c.2.1):=by
    have h1:0≤Int.tdiv n' c.2.1:=hin.1.1
    have h2:Int.tdiv n' c.2.1<(c.1.length:Int):=hin.1.2
    simp only [Z.in64];omega
   refine ⟨⟨by omega,htd⟩,by omega,?_,by simp only [Z.in64];omega,⟨⟨⟨by omega,by omega⟩,by omega,by omega⟩,⟨?_,?_⟩,?_⟩,by show ((by_.length:Int) - (i+1)).toNat<((by_.length:Int) - i).toNat;omega⟩
   ·rw [e]
    exact r1 (by decide) (by decide) (by rw [List.length_append];simp only [List.length_cons,List.length_nil];omega)
   ·show Rise c (-1) (O++[spotAt c n'])
    exact rise_snoc hin hO (by omega) fun s hs=>by have:=hOn s hs;omega
   ·intro s hs
    have hs:s∈O++[spotAt c n']:=hs
    rw [List.mem_append,List.mem_singleton] at hs
    show posn c s≤n'
    rcases hs with hs | hs
    ·have:=hOn s hs;omega
    ·rw [hs];omega
   ·show (O++[spotAt c n']).length≤F.length
    rw [List.length_append];simp only [List.length_cons,List.length_nil];omega
  ·refine ⟨by simp only [Z.in64];omega,⟨⟨⟨by omega,by omega⟩,by omega,by omega⟩,⟨hO,fun s hs=>by have:=hOn s hs;show posn c s≤n';omega⟩,hOl⟩,by show ((by_.length:Int) - (i+1)).toNat<((by_.length:Int) - i).toNat;omega⟩
 have hOi:∀ s∈O,inside c s:=fun s hs=>(rise_mem hO s hs).1
 have hmO:=missed_eq hc most hOi (by omega)
 refine ⟨⟨c1,by simp only [big];omega⟩,?_⟩
 dsimp only
 rw [hmO]
 refine ⟨fun _=>⟨fun _=>trivial,rfl⟩,fun hb=>?_⟩
 have hb:(false||decide (most<missV (withL (plan0 c most) O)))=false:=hb
 rw [Bool.false_or,decide_eq_false_iff_not] at hb
 refine ⟨fun hlt=>?_,fun hge=>?_⟩
 ·have hlt:(O.length:Int)<(F.length:Int):=of_decide_eq_true hlt
  exact absurd (show missV (withL (plan0 c most) O)≤most by omega) (ffew O hO (by omega))
 have hge:¬ (O.length:Int)<(F.length:Int):=of_decide_eq_false hge
 have hlex:=flex O hO (by omega) (by omega)
 refine ⟨fun j=>(0≤j∧j≤(F.length:Int))∧F.take j.toNat=O.take j.toNat,fun j=>((F.length:Int) - j).toNat,⟨⟨Int.le_refl _,by show (0:Int)≤_;omega⟩,by rfl⟩,?_⟩
 rintro j ⟨⟨j1,j2⟩,hj⟩
 refine ⟨fun hlt=>?_,fun _=>⟨trivial,rfl⟩⟩
 have hlt:j<(F.length:Int):=of_decide_eq_true hlt
 have hOg:inside c (O.getD j.toNat (0,0)):=hOi _ (getD_mem' O _ j j1 (by omega))
 refine ⟨⟨j1,hlt⟩,⟨j1,by omega⟩,fun hne=>?_,fun heq=>?_⟩
 ·refine ⟨⟨j1,hlt⟩,⟨hcb,hFg j j1 hlt⟩,⟨j1,by omega⟩,⟨hcb,hOg⟩,fun _=>trivial,?_⟩
  have:=lex_at (i:=j.toNat) hlex hj (by omega) (fun e=>by
   rw [e] at hne
   simp at hne)
  show (decide (posn c (F.getD j.toNat (0,0))<posn c (O.getD j.toNat (0,0)))&&true)=true
  rw [decide_eq_true this];rfl
 ·have e:F.getD j.toNat (0,0)=O.getD j.toNat (0,0):=by
   simp only [Bool.not_eq_false',Bool.and_eq_true,beq_iff_eq] at heq
   exact Prod.ext heq.1 heq.2
  refine ⟨by simp only [Z.in64];omega,rfl,⟨⟨by omega,by omega⟩,?_⟩,by show ((F.length:Int) - (j+1)).toNat<((F.length:Int) - j).toNat;omega⟩
  rw [take_one F (0,0) j j1 hlt,take_one O (0,0) j j1 (by omega),hj,e]
end Go.Xr
