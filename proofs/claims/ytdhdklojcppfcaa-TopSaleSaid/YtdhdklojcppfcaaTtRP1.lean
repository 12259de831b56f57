/-
  The reference of the boxes: conditions.
-/
import Derived.Test.YtdhdklojcppfcaaTtBP4
import Derived.Test.YtdhdklojcppfcaaTtRAuto
set_option linter.all false
set_option maxRecDepth 100000
set_option maxHeartbeats 4000000
set_option linter.unusedVariables false
open Int renaming eq_ofNat_of_zero_le->ydF,tdiv->ydu,tdiv_eq_ediv_of_nonneg->yeg
namespace Go.Tt
open Go Go.Sx
theorem zfY:TabsOk Go.Proofs.Try.prog TR:=⟨by kernel_rfl,maps_ok⟩
theorem v81 (x:Int × Int × Int) (_:k81.pre x):V81 x:=rfl
theorem pow_le8 {n:Int} (h0:0<=n) (h:n<=8):(1:Int)<=2^n.toNat/\(2:Int)^n.toNat<=256:=by
 have h1:(2:Nat)^n.toNat<=2^8:=Nat.pow_le_pow_right (by decide) (by omega)
 have h2:=Nat.two_pow_pos n.toNat
 rw [pow_int]
 generalize 2^n.toNat=m at *
 omega
theorem v82 (x:Int) (h:k82.pre x):V82 x:=by
 obtain ⟨h0,h8⟩:0<=x/\x<=8:=h
 refine ⟨fun s=>(0<=s.2/\s.2<=x)/\s.1=2^s.2.toNat,fun s=>(x - s.2).toNat,⟨⟨Int.le_refl _,h0⟩,rfl⟩,?_⟩
 rintro ⟨a,i⟩ ⟨⟨i0,i1⟩,e⟩
 simp only at i0 i1 e ⊢
 refine ⟨fun hd=>?_,fun hd=>?_⟩
 ·have hd:=of_decide_eq_true hd
  have hp:=pow_le8 i0 (by omega:i<=8)
  rw [<-e] at hp
  refine ⟨by simp only [Z.in64];omega,by simp only [Z.in64];omega,⟨⟨by omega,by omega⟩,?_⟩,by omega⟩
  have e1:(i+1).toNat=i.toNat+1:=by omega
  rw [e1,Int.pow_succ,e,Int.mul_comm]
 ·have hd:=of_decide_eq_false hd
  have:i=x:=by omega
  subst this
  exact e
theorem has_ref {s n:Int} (hs:0<=s) (hn:0<=n):((Int.tmod (ydu s (2^n.toNat)) 2)==1)=hasB s n:=by
 obtain ⟨m,rfl⟩:=ydF hs
 obtain ⟨k,rfl⟩:=ydF hn
 have e:ydu (m:Int) (2^(Int.toNat (k:Int)))=((m / 2^k:Nat):Int):=by
  rw [yeg (by omega)]
  simp
 rw [e,Int.tmod_eq_emod_of_nonneg (Int.natCast_nonneg _)]
 simp only [hasB,Int.toNat_natCast,Nat.testBit_eq_decide_div_mod_eq]
 rw [Bool.eq_iff_iff]
 simp only [beq_iff_eq,decide_eq_true_eq]
 omega
theorem v97 (x:Int × Int) (h:k97.pre x):V97 x:=by
 obtain ⟨⟨h0,h1⟩,h2,h3⟩:smallSet x.1/\0<=x.2/\x.2<=8:=h
 have hb:=pow_le8 h2 h3
 have hd:0<=ydu x.1 (2^x.2.toNat)/\ydu x.1 (2^x.2.toNat)<=x.1:=by
  rw [yeg h0]
  exact ⟨Int.ediv_nonneg h0 (by omega),Int.ediv_le_self _ h0⟩
 refine ⟨⟨h2,h3⟩,⟨?_,?_⟩,by decide,?_⟩
 ·show (2:Int)^x.2.toNat≠0
  omega
 ·show Z.in64 (ydu x.1 (2^x.2.toNat))
  simp only [Z.in64];omega
 ·exact has_ref h0 h2
theorem zoY (l:List Pile) (s i:Int) (h0:0<=i) (h:i<(l.length:Int)):haveV (l.take (i+1).toNat) s=haveV (l.take i.toNat) s+cond (touchB s (l.getD i.toNat (0,0)).1) (l.getD i.toNat (0,0)).2 0:=by
 have happ:∀ (l:List Pile) (p:Pile),haveV (l++[p]) s=haveV l s+cond (touchB s p.1) p.2 0:=by
  intro l p
  induction l with
  | nil=>simp [haveV]
  | cons q l ih=>simp only [List.cons_append,haveV,ih];omega
 have e:l.take (i+1).toNat=l.take i.toNat++[l.getD i.toNat (0,0)]:=by
  have e:(i+1).toNat=i.toNat+1:=by omega
  have h':i.toNat<l.length:=by omega
  rw [e,List.take_succ_eq_append_getElem h']
  simp [List.getD,h']
 rw [e,happ]
theorem v32 (x:(List Int) × Int) (h:k32.pre x):V32 x:=by
 obtain ⟨h8,hb,hs⟩:x.1.length<=8/\(∀ n∈x.1,0<=n/\n<=most40)/\smallSet x.2:=h
 refine ⟨fun s=>(0<=s.2/\s.2<=(x.1.length:Int))/\s.1=sumV x.2 (x.1.take s.2.toNat),fun s=>((x.1.length:Int) - s.2).toNat,⟨⟨by simp,by simp⟩,rfl⟩,?_⟩
 rintro ⟨a,i⟩ ⟨⟨i0,i1⟩,e⟩
 simp only at i0 i1 e ⊢
 refine ⟨fun hd=>?_,fun hd=>?_⟩
 ·have hd:i<(x.1.length:Int):=of_decide_eq_true hd
  have hg:=hb _ (zbx x.1 0 i i0 hd)
  have hs2:sumV x.2 (x.1.take (i+1).toNat)=a+cond (hasB x.2 i) (x.1.getD i.toNat 0) 0:=by
   rw [e,sumV,zlw _ _ _ i0 hd]
   have:((i.toNat:Nat):Int)=i:=by omega
   rw [this];rfl
  have hab:=sum_b40 (l:=x.1.take i.toNat) (by rw [List.length_take];omega) (fun a ha=>hb a (List.mem_of_mem_take ha)) x.2
  rw [<-e] at hab
  refine ⟨⟨hs,i0,by show i<=8;omega⟩,fun hh=>⟨⟨i0,hd⟩,?_,?_,⟨⟨by omega,by omega⟩,?_⟩,by omega⟩,fun hh=>⟨?_,⟨⟨by omega,by omega⟩,?_⟩,by omega⟩⟩
  ·simp only [Z.in64,most40] at *;omega
  ·simp only [Z.in64];omega
  ·have hh:hasB x.2 i=true:=hh
   rw [hs2,hh];rfl
  ·simp only [Z.in64];omega
  ·have hh:hasB x.2 i=false:=hh
   rw [hs2,hh,cond_false,Int.add_zero]
 ·have hd:¬ i<(x.1.length:Int):=of_decide_eq_false hd
  show a=sumV x.2 x.1
  rw [e,List.take_of_length_le (by omega)]
end Go.Tt
