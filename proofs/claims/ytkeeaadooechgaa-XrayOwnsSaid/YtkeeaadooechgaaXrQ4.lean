/-
  Chapter 6: XrayOwns.
-/
import Derived.Test.YtkeeaadooechgaaXrP14
import Derived.Test.YtkeeaadooechgaaXrP9
import Derived.Test.YtkeeaadooechgaaXrAuto3
set_option linter.all false
set_option maxRecDepth 100000
set_option maxHeartbeats 4000000
set_option linter.unusedVariables false
namespace Go.XrN
open Go Go.Sx Go.Xr
theorem tabs_ok3:TabsOk Go.Proofs.Try.prog T3:=by
 refine ⟨by kernel_rfl,fun p hp=>?_⟩
 simp only [T3,List.not_mem_nil] at hp
theorem v44 (x:Plan × Spot × Int × Crate × Int) (h:k44.pre x):V44 x:=Go.Xr.v44 x h
theorem v22 (x:Crate × Int) (h:k22.pre x):V22 x:=Go.Xr.v22 x h
theorem many_le (c:Crate) (most:Int):∀ n m,manyN c most n m≤n+m
 | 0,m=>by rw [manyN];omega
 | n+1,m=>by
  rw [manyN]
  have:=many_le c most n (m+1)
  cases canV (plan0 c most) (-1,-1) (m:Int)<;>simp only [cond_true,cond_false]<;>omega
theorem few_len (c:Crate) (most:Int):(xray_Fewest (c,most)).1.length≤64:=by
 unfold xray_Fewest
 cases he:fewestE (c,most).1 (c,most).2==0 with
 | false=>exact Nat.zero_le _
 | true =>
  simp only [cond_true]
  have hcb:crateB c=true:=by
   unfold fewestE at he
   cases hc:crateB c with
   | true=>rfl
   | false=>rw [show crateB (c,most).1=false from hc] at he;cases he
  have hc:=crate_iff.1 hcb
  have h8:=hc.r8
  have h1:=hc.c1
  have hall:=mul_bd (a:=(c.1.length:Int)) (b:=c.2.1) (A:=8) (B:=8) (by omega) ⟨by omega,hc.c8⟩
  have h2:=from_len (manyN c most (Go.Xr.allP c).toNat 0) (plan0 c most) (0,-1)
  have h3:=many_le c most (allP c).toNat 0
  show (fromN (manyN c most (Go.Xr.allP c).toNat 0) (plan0 c most) (0,-1)).length≤64
  unfold Go.Xr.allP at h2 h3 ⊢
  omega
theorem v11 (x:Crate × (List Look) × (List Spot) × Int) (_:k11.pre x):V11 x:=by
 obtain ⟨c,l,s,most⟩:=x
 refine ⟨fun _=>⟨trivial,rfl⟩,fun hg=>?_⟩
 have hg:((decide ((16:Int)<(c.1.length:Int))||decide ((50:Int)<(l.length:Int)))||decide ((50:Int)<(s.length:Int)))=false:=hg
 rw [Bool.or_eq_false_iff,Bool.or_eq_false_iff] at hg
 have g1:=of_decide_eq_false hg.1.1
 have g2:=of_decide_eq_false hg.1.2
 have g3:=of_decide_eq_false hg.2
 have hfl:=few_len c most
 have r1:∀ {k:Int} {n:Nat},0≤k→k≤100→n≤1000→Z.roomy k (n:Int):=fun h1 h2 h3=>roomy_of h1 h2 (by omega)
 have c1:c.1.length≤big:=by simp only [big];omega
 have c2:l.length≤big:=by simp only [big];omega
 have c3:s.length≤big:=by simp only [big];omega
 have c4:(xray_Fewest (c,most)).1.length≤big:=by simp only [big];omega
 dsimp only
 simp only [List.replicate,List.nil_append]
 generalize xray_Fewest (c,most)=F at hfl c4
 refine ⟨r1 (by decide) (by decide) (by omega),r1 (by decide) (by decide) (by omega),r1 (by decide) (by decide) (by omega),c1,r1 (by decide) (by decide) (by omega),fun p=>(0≤p.1∧p.1≤(F.1.length:Int))∧p.2.length=F.1.length,fun p=>((F.1.length:Int) - p.1).toNat,⟨⟨by show (0:Int)≤0;omega,by show (0:Int)≤_;omega⟩,rfl⟩,?_⟩
 rintro ⟨i,a⟩ ⟨⟨i1,i2⟩,ha⟩
 simp only at i1 i2 ha
 refine ⟨fun hlt=>?_,fun hlt=>?_⟩
 ·have hlt:i<(F.1.length:Int):=of_decide_eq_true hlt
  refine ⟨⟨i1,by show i<(a.length:Int);omega⟩,by simp only [Z.in64];omega,by first | rfl | trivial,by first | rfl | trivial,by first | rfl | trivial,by first | rfl | trivial,⟨⟨by show 0≤i+1;omega,by show i+1≤_;omega⟩,?_⟩,by show ((F.1.length:Int) - (i+1)).toNat<((F.1.length:Int) - i).toNat;omega⟩
  show (a.set _ _).length=F.1.length
  rw [List.length_set];exact ha
 ·refine ⟨⟨c1,c2⟩,⟨c1,c2⟩,⟨c1,c2⟩,⟨c1,c3⟩,c1,fun p=>0≤p∧p≤(c.1.length:Int),fun p=>((c.1.length:Int) - p).toNat,⟨Int.le_refl _,by show (0:Int)≤_;omega⟩,?_⟩
  rintro j ⟨j1,j2⟩
  refine ⟨fun hj=>?_,fun _=>?_⟩
  ·have hj:j<(c.1.length:Int):=of_decide_eq_true hj
   refine ⟨⟨j1,hj⟩,⟨j1,hj⟩,fun hb=>?_,fun _=>⟨by simp only [Z.in64];omega,by first | rfl | trivial,by first | rfl | trivial,by first | rfl | trivial,by first | rfl | trivial,by first | rfl | trivial,by first | rfl | trivial,⟨by show 0≤j+1;omega,by show j+1≤_;omega⟩,by show ((c.1.length:Int) - (j+1)).toNat<((c.1.length:Int) - j).toNat;omega⟩⟩
   simp at hb
  ·refine ⟨fun p=>0≤p∧p≤(l.length:Int),fun p=>((l.length:Int) - p).toNat,⟨Int.le_refl _,by show (0:Int)≤_;omega⟩,?_⟩
   rintro j ⟨j1,j2⟩
   refine ⟨fun hj=>?_,fun _=>?_⟩
   ·have hj:j<(l.length:Int):=of_decide_eq_true hj
    refine ⟨⟨j1,hj⟩,⟨j1,hj⟩,fun hb=>?_,fun _=>⟨by simp only [Z.in64];omega,by first | rfl | trivial,by first | rfl | trivial,by first | rfl | trivial,by first | rfl | trivial,by first | rfl | trivial,by first | rfl | trivial,⟨by show 0≤j+1;omega,by show j+1≤_;omega⟩,by show ((l.length:Int) - (j+1)).toNat<((l.length:Int) - j).toNat;omega⟩⟩
    simp at hb
   ·refine ⟨⟨c3,c3⟩,fun _=>⟨c4,c4⟩,fun _=>trivial,?_⟩
    show (_:Bool)=true
    simp [ref06u_Spots,law06u_alive]
end Go.XrN
