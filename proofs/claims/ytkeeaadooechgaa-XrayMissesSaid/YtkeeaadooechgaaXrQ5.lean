/-
  Chapter 6: XrayEnough.
-/
import Derived.Test.YtkeeaadooechgaaXrAuto4
import Derived.Test.YtkeeaadooechgaaXrQ2
set_option linter.all false
set_option maxRecDepth 100000
set_option maxHeartbeats 4000000
set_option linter.unusedVariables false
namespace Go.Xr
open Go Go.Sx
theorem all_bd {c:Crate} (hc:CrateOk c):0≤allP c∧allP c≤64:=by
 have h8:=hc.r8
 have h1:=hc.c1
 have:=mul_bd (a:=(c.1.length:Int)) (b:=c.2.1) (A:=8) (B:=8) (by omega) ⟨by omega,hc.c8⟩
 simp only [allP];omega
theorem few_eq {c:Crate} {most:Int} (he:fewestE c most=0):(CrateOk c∧0≤most∧most≤1048576)∧xray_Fewest (c,most)=(fewestV c most,0):=by
 have h:crateB c=true∧inB most 0 1048576=true:=by
  unfold fewestE at he
  cases hc:crateB c with
  | false=>rw [hc] at he;cases he
  | true =>
   cases hi:inB most 0 1048576 with
   | false=>rw [hc,hi] at he;cases he
   | true=>exact ⟨rfl,rfl⟩
 refine ⟨⟨crate_iff.1 h.1,inB_iff.1 h.2⟩,?_⟩
 unfold xray_Fewest
 rw [show fewestE (c,most).1 (c,most).2=0 from he];rfl
theorem few_bad {c:Crate} {most:Int} (he:fewestE c most≠0):xray_Fewest (c,most)=([],fewestE c most)∧(fewestE c most==1)=!crateB c:=by
 constructor
 ·unfold xray_Fewest
  rw [show (fewestE (c,most).1 (c,most).2==0)=false from beq_eq_false_iff_ne.2 he];rfl
 ·unfold fewestE at he ⊢
  cases hc:crateB c with
  | false=>rfl
  | true =>
   cases hi:inB most 0 1048576 with
   | false=>rfl
   | true=>rw [hc,hi] at he;exact absurd rfl he
end Go.Xr
