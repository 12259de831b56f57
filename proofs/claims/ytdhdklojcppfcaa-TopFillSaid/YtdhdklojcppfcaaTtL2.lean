/-
  TopSold: the statement's condition.
-/
import Derived.Test.YtdhdklojcppfcaaTtL1
set_option linter.all false
set_option maxRecDepth 100000
set_option maxHeartbeats 4000000
set_option linter.unusedVariables false
namespace Go.Tt
open Go Go.Sx
theorem pow8 {k:Nat} (h:k<8):(1:Int)<=2^k∧(2:Int)^k<=128:=by
 match k,h with
 | 0,_=>decide
 | 1,_=>decide
 | 2,_=>decide
 | 3,_=>decide
 | 4,_=>decide
 | 5,_=>decide
 | 6,_=>decide
 | 7,_=>decide
 | n+8,h=>omega
theorem any_upto (p:Nat->Bool) (n:Nat):(List.range (n+1)).any p=((List.range n).any p||p n):=by
 rw [List.range_succ,List.any_append];simp
theorem hasL_len {p:Shade->Bool}:∀ (s:List Shade) (i:Int),(hasL p s i).length<=s.length
 | [],_=>Nat.le_refl _
 | a::s,i=>by
  have:=hasL_len (p:=p) s (i+1)
  rw [hasL]
  cases p a with
  | true=>rw [cond_true,List.length_cons,List.length_cons];omega
  | false=>rw [cond_false,List.length_cons];omega
theorem sumN_bd {T:Int} {f:Nat->Int}:∀ (n:Nat),(∀ i,i<n->f i<=T)->sumN n f<=n*T
 | 0,_=>by simp [sumN]
 | n+1,h=>by
  have h1:=sumN_bd n fun i hi=>h i (by omega)
  have h2:=h n (by omega)
  rw [zbn]
  have:((n+1:Nat):Int)*T=(n:Int)*T+T:=by rw [Int.natCast_add,Int.add_mul];simp
  omega
theorem sum8 {f:Nat->Int} {n:Nat} (hn:n<=8) (h:∀ i,i<n->0<=f i∧f i<=1048576):0<=sumN n f∧sumN n f<=8388608:=by
 refine ⟨zdJ fun i hi=>(h i hi).1,?_⟩
 have:=sumN_bd (T:=1048576) n fun i hi=>(h i hi).2
 have:(n:Int)*1048576<=8388608:=by omega
 omega
theorem fdiv_nn {X n:Int} (h:0<=X):0<=Int.fdiv X (2^n.toNat):=by
 rw [Int.fdiv_eq_ediv_of_nonneg _ (Int.le_of_lt (Int.pow_pos (by decide)))]
 exact Int.ediv_nonneg h (Int.le_of_lt (Int.pow_pos (by decide)))
end Go.Tt
