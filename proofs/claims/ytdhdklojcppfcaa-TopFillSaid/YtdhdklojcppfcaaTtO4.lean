/-
  Chapter 10: what is filled is as much as can be. Plain Lean; no program in sight.
-/
import Derived.Test.YtdhdklojcppfcaaTtO3
set_option linter.all false
set_option maxRecDepth 100000
set_option maxHeartbeats 1000000
set_option linter.unusedVariables false
namespace Go.Tt
open Go Go.Sx
def Spent (f:Flow) (i:Nat):Prop:=leftV f (i:Nat)=0∨∃ S:Nat->Prop,Closed f S∧∀ k,k<NN f->openB f i k=true->S k
structure DrainR (f f':Flow) (i:Nat):Prop where
 ok:FlowOk f'
 mo:f'.1=f.1
 cl:f'.2.2.1=f.2.2.1
 oth:∀ j:Nat,j≠i->leftV f' (j:Nat)=leftV f (j:Nat)
 own:Spent f' i
 keep:∀ S,Closed f S->Closed f' S
structure FillR (f f':Flow) (l:List Nat):Prop where
 ok:FlowOk f'
 mo:f'.1=f.1
 cl:f'.2.2.1=f.2.2.1
 oth:∀ j:Nat,j∉l->leftV f' (j:Nat)=leftV f (j:Nat)
 own:∀ i∈l,Spent f' i
 keep:∀ S,Closed f S->Closed f' S
structure IsFlow (m:Market) (op:Nat->Nat->Bool) (g:Nat->Nat->Int):Prop where
 pos:∀ i k,0<=g i k
 can:∀ i k,0<g i k->op i k=true
 row:∀ i,i<m.2.1.length->sumN m.1.length (g i)<=m.2.1.getD i 0
 col:∀ k,k<m.1.length->sumN m.2.1.length (fun i=>g i k)<=m.1.getD k 0
end Go.Tt
