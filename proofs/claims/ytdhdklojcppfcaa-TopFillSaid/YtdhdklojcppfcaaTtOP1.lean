/-
  Chapter 10: conditions of small functions, proved.
-/
import Derived.Test.YtdhdklojcppfcaaTtOAuto
import Derived.Test.YtdhdklojcppfcaaTtMix
set_option linter.all false
set_option maxRecDepth 100000
set_option linter.unusedVariables false
namespace Go.Tt
open Go Go.Sx
theorem tabs_ok:TabsOk Go.Proofs.Try.prog T:=⟨by kernel_rfl,maps_ok⟩
theorem supply_iff {x:Supply}:supplyB x=true↔(0<=x.1∧x.1<=255)∧(0<=x.2.1.1∧x.2.1.1<=x.2.1.2∧x.2.1.2<=topN)∧0<=x.2.2.1∧x.2.2.1<=x.2.2.2∧x.2.2.2<=topN:=by
 simp only [supplyB,Bool.and_eq_true,inB_iff,span_iff]
structure SaleOk (s:Sale):Prop where
 s8:s.1.length<=8
 o8:s.2.length<=8
 sup:∀ x∈s.1,supplyB x=true
 ord:∀ o∈s.2,orderB o=true
theorem has_div {s n:Int} (hs:0<=s) (hn:0<=n):((((Int.toNat (Int.fdiv s (2^(Int.toNat n)))) &&& (Int.toNat (1)):Nat):Int)==1)=hasB s n:=by
 obtain ⟨m,rfl⟩:=Int.eq_ofNat_of_zero_le hs
 obtain ⟨k,rfl⟩:=Int.eq_ofNat_of_zero_le hn
 have e:Int.fdiv (m:Int) (2^(Int.toNat (k:Int)))=((m / 2^k:Nat):Int):=by
  rw [Int.fdiv_eq_ediv_of_nonneg _ (Int.le_of_lt (Int.pow_pos (by decide)))]
  simp
 rw [e]
 simp only [hasB,Int.toNat_natCast,Nat.testBit_eq_decide_div_mod_eq]
 have:Int.toNat 1=1:=rfl
 rw [this,Nat.and_one_is_mod]
 rw [Bool.eq_iff_iff]
 simp only [beq_iff_eq,decide_eq_true_eq]
 omega
theorem take_map {α β:Type} (f:α->β) (l:List α) (d:α) (i:Int) (h0:0<=i) (h:i<(l.length:Int)):(l.take (i+1).toNat).map f=(l.take i.toNat).map f++[f (l.getD i.toNat d)]:=by
 have e:(i+1).toNat=i.toNat+1:=by omega
 have h':i.toNat<l.length:=by omega
 rw [e,List.take_succ_eq_append_getElem h',List.map_append]
 simp [List.getD,h']
theorem pow_int (k:Int):(2^k.toNat:Int)=((2^k.toNat:Nat):Int):=by simp
theorem shl_ok {k:Int} (h0:0<=k) (h8:k<62):((0:Int)<=k∧k<64)∧Z.in64 (1*2^k.toNat):=by
 refine ⟨⟨h0,by omega⟩,?_⟩
 have:(2:Nat)^k.toNat<=2^62:=Nat.pow_le_pow_right (by decide) (by omega)
 simp only [Z.in64]
 rw [Int.one_mul,pow_int]
 generalize 2^k.toNat=m at *
 omega
theorem pow_nn (k:Int):(0:Int)<=1*2^k.toNat:=by
 rw [Int.one_mul,pow_int]
 exact Int.natCast_nonneg _
theorem selS_app (p:Nat->Bool) (a:Int):∀ (l:List Int) (k:Nat),selS p (l++[a]) k=selS p l k+cond (p (k+l.length)) a 0
 | [],k=>by simp [selS]
 | b::l,k=>by
  simp only [List.cons_append,selS,selS_app p a l (k+1),List.length_cons]
  have:k+1+l.length=k+(l.length+1):=by omega
  rw [this];omega
end Go.Tt
