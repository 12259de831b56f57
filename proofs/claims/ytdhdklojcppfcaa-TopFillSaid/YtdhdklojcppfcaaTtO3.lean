/-
  Chapter 10: pushes, by induction on how many orders were not seen. Plain Lean; no program in sight.
-/
import Derived.Test.YtdhdklojcppfcaaTtO2
set_option linter.all false
set_option maxRecDepth 100000
set_option maxHeartbeats 1000000
set_option linter.unusedVariables false
namespace Go.Tt
open Go Go.Sx
structure FromR (f fc:Flow) (i k:Nat) (most:Int) (l:List Nat) (r:Int × Flow):Prop where
 mild:Mild fc r.2
 nn:0<=r.1
 le:r.1<=most
 giv:r.1=0->r.2.2.1=f.2.1
 oth:r.1=0->∀ j∈l,j≠i->0<gg f j k->∀ k',k'<NN f->openB f j k'=true->seenB r.2 k'=true
 done:r.1=0->∀ m,m<NN f->seenB r.2 m=true->seenB fc m=false->lackingV f (m:Nat)=0∧∀ j,j<MM f->0<gg f j m->∀ k',k'<NN f->openB f j k'=true->seenB r.2 k'=true
 half:0<r.1->Half f r.2 i k r.1
structure PushR (f:Flow) (i:Nat) (most:Int) (l:List Nat) (r:Int × Flow):Prop where
 mild:Mild f r.2
 nn:0<=r.1
 le:r.1<=most
 giv:r.1=0->r.2.2.1=f.2.1
 own:r.1=0->∀ k∈l,openB f i k=true->seenB r.2 k=true
 done:r.1=0->∀ m,m<NN f->seenB r.2 m=true->seenB f m=false->lackingV f (m:Nat)=0∧∀ j,j<MM f->j≠i->0<gg f j m->∀ k',k'<NN f->openB f j k'=true->seenB r.2 k'=true
 gain:0<r.1->Gain f r.2 i r.1
end Go.Tt
