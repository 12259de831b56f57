/-
  Chapter 6: the reference's results are the program's.
-/
import Derived.Test.YtkeeaadooechgaaXrP13
set_option linter.all false
set_option maxRecDepth 100000
set_option maxHeartbeats 4000000
set_option linter.unusedVariables false
namespace Go.Xr
open Go Go.Sx
structure Went (c:Crate) (l:List Look):Prop where
 crate:CrateOk c
 len:(l.length:Int)≤40
 looks:l.all (lookB c)=true
 ne:fitsL c l≠[]
theorem went_zero {c:Crate} {l:List Look} (h:Went c l):openE c l true=0:=by
 rw [openE_val c l true h.crate h.len rfl h.looks]
 cases hf:fitsL c l with
 | nil=>exact absurd hf h.ne
 | cons a m=>rfl
theorem fits_small {c:Crate} (hc:CrateOk c) {l:List Look} {t:Truth} (ht:t∈fitsL c l):smallT t:=truths_small hc.r8 ⟨by have:=hc.c1;omega,hc.c8⟩ ht
theorem v3 (x:Crate × (List Look) × Int × Int) (_:k3.pre x):V3 x:=by
 refine ⟨trivial,fun _=>⟨trivial,rfl⟩,fun hg=>?_⟩
 have hg:(law06u_great (x.1,25)||decide ((50:Int)<(x.2.1.length:Int)))=false:=hg
 rw [Bool.or_eq_false_iff] at hg
 have h1:x.1.1.length≤big:=by
  have:=hg.1
  unfold law06u_great at this
  rw [Bool.or_eq_false_iff] at this
  have:=of_decide_eq_false this.1
  simp only [big]
  simp only at this
  omega
 have h2:x.2.1.length≤big:=by
  have:=of_decide_eq_false hg.2
  simp only [big];omega
 refine ⟨⟨h1,h2⟩,⟨h1,h2⟩,⟨h1,h2⟩,⟨h1,h2⟩,⟨h1,h2⟩,⟨h1,h2⟩,fun _=>trivial,?_⟩
 show (_:Bool)=true
 simp [ref06u_Count,ref06u_Causes,ref06u_Judge,law06u_alive]
end Go.Xr
