/-
  Chapter 6: the reference's results are the program's.
-/
import Derived.Test.YtkeeaadooechgaaXrP13
set_option linter.all false
set_option maxRecDepth 100000
set_option maxHeartbeats 4000000
set_option linter.unusedVariables false
namespace Go.Xr
open Go Go.Sx
structure Went (c:Crate) (l:List Look):Prop where
 crate:CrateOk c
 len:(l.length:Int)≤40
 looks:l.all (lookB c)=true
 ne:fitsL c l≠[]
theorem went_of {c:Crate} {l:List Look} {b:Bool} (h:openE c l b=0):Went c l∧b=true:=by
 obtain ⟨h1,h2,h3,h4,h5⟩:=open_zero h
 have hc:=crate_iff.1 h1
 refine ⟨⟨hc,h2,h4,fun hn=>h5 ?_⟩,h3⟩
 rw [(pict_is hc l).cnt,hn];rfl
theorem v3 (x:Crate × (List Look) × Int × Int) (_:k3.pre x):V3 x:=by
 refine ⟨trivial,fun _=>⟨trivial,rfl⟩,fun hg=>?_⟩
 have hg:(law06u_great (x.1,25)||decide ((50:Int)<(x.2.1.length:Int)))=false:=hg
 rw [Bool.or_eq_false_iff] at hg
 have h1:x.1.1.length≤big:=by
  have:=hg.1
  unfold law06u_great at this
  rw [Bool.or_eq_false_iff] at this
  have:=of_decide_eq_false this.1
  simp only [big]
  simp only at this
  omega
 have h2:x.2.1.length≤big:=by
  have:=of_decide_eq_false hg.2
  simp only [big];omega
 refine ⟨⟨h1,h2⟩,⟨h1,h2⟩,⟨h1,h2⟩,⟨h1,h2⟩,⟨h1,h2⟩,⟨h1,h2⟩,fun _=>trivial,?_⟩
 show (_:Bool)=true
 simp [ref06u_Count,ref06u_Causes,ref06u_Judge,law06u_alive]
end Go.Xr
