/-
  Chapter 6: XrayEnough.
-/
import Derived.Test.YtkeeaadooechgaaXrAuto4
import Derived.Test.YtkeeaadooechgaaXrQ2
set_option linter.all false
set_option maxRecDepth 100000
set_option maxHeartbeats 4000000
set_option linter.unusedVariables false
namespace Go.Xr
open Go Go.Sx
theorem tabs_ok4:TabsOk Go.Proofs.Try.prog T4:=by
 refine ⟨by kernel_rfl,fun p hp=>?_⟩
 simp only [T4,List.not_mem_nil] at hp
theorem few_eq {c:Crate} {most:Int} (he:fewestE c most=0):(CrateOk c∧0≤most∧most≤1048576)∧xray_Fewest (c,most)=(fewestV c most,0):=by
 have h:crateB c=true∧inB most 0 1048576=true:=by
  unfold fewestE at he
  cases hc:crateB c with
  | false=>rw [hc] at he;cases he
  | true =>
   cases hi:inB most 0 1048576 with
   | false=>rw [hc,hi] at he;cases he
   | true=>exact ⟨rfl,rfl⟩
 refine ⟨⟨crate_iff.1 h.1,inB_iff.1 h.2⟩,?_⟩
 unfold xray_Fewest
 rw [show fewestE (c,most).1 (c,most).2=0 from he];rfl
theorem few_bad {c:Crate} {most:Int} (he:fewestE c most≠0):xray_Fewest (c,most)=([],fewestE c most)∧(fewestE c most==1)=!crateB c:=by
 constructor
 ·unfold xray_Fewest
  rw [show (fewestE (c,most).1 (c,most).2==0)=false from beq_eq_false_iff_ne.2 he];rfl
 ·unfold fewestE at he ⊢
  cases hc:crateB c with
  | false=>rfl
  | true =>
   cases hi:inB most 0 1048576 with
   | false=>rfl
   | true=>rw [hc,hi] at he;exact absurd rfl he
end Go.Xr
