/-
  Chapter 10: conditions of the examples, proved.
-/
import Derived.Test.YtdhdklojcppfcaaTtOP7
set_option linter.all false
set_option maxRecDepth 100000
set_option maxHeartbeats 4000000
set_option linter.unusedVariables false
open Int renaming eq_ofNat_of_zero_le->ydF
namespace Go.Tt
open Go Go.Sx
theorem v103 (x:Flow × Int × Int × Int) (hp:k103.pre x):V103 x:=by
 obtain ⟨f,i,k,n⟩:=x
 obtain ⟨⟨h0,h1,h2,h3⟩,⟨i1,i2⟩,⟨k1,k2⟩,n0,n1,n2⟩:=hp
 obtain ⟨i,rfl⟩:=ydF i1
 obtain ⟨k,rfl⟩:=ydF k1
 have n0:0<=n:=n0
 simp only [Int.toNat_natCast] at n1 n2 i2 k2 h1
 have h1:MarketOk (mkt f.1):=h1
 have L:=zkB (m:=mkt f.1) (c:=f.2.2.1) ⟨h1,h2,h3⟩ (i:=i) (k:=k) (n:=n) (by omega) (by omega) n0 n1 n2
 have hmi:=h1.many _ (zan (mkt f.1).2.1 0 i (by omega))
 have hak:=h1.asked _ (zan (mkt f.1).1 0 k (by omega))
 have a8:(mkt f.1).1.length<=8:=h1.a8
 have m8:(mkt f.1).2.1.length<=8:=h1.m8
 simp only [amount,topN] at hmi hak
 have in1:Z.in64 ((mkt f.1).1.getD k 0 - n):=by simp only [Z.in64];omega
 have in2:Z.in64 ((mkt f.1).2.1.getD i 0 - n):=by simp only [Z.in64];omega
 have l1:zah (mkt f.1).1:=by show (mkt f.1).1.length<=1000;omega
 have l2:zah (mkt f.1).2.1:=by show (mkt f.1).2.1.length<=1000;omega
 exact ⟨h0,l1,h0,l2,h0,⟨k1,k2⟩,in1,⟨k1,k2⟩,⟨i1,i2⟩,in2,⟨i1,i2⟩,trivial,trivial,trivial,trivial,⟨L.1,trivial,trivial⟩,rfl⟩
theorem zls (n:Nat):∀ (l:List Int) (m:Market) (c:List Int),(shareI n l m c).length=l.length
 | [],_,_=>rfl
 | i::l,m,c=>by rw [shareI,List.length_cons,zls n l];rfl
theorem zgC (i:Int):∀ (r l:List Int) (m:Market) (c:List Int),(shareK i r l m c).1.length=l.length
 | [],_,_,_=>rfl
 | k::r,l,m,c=>by
  rw [shareK]
  cases hasB (m.2.2.getD i.toNat 0) k with
  | true=>rw [cond_true,zgC i r];simp
  | false=>rw [cond_false,zgC i r]
theorem zjt (n:Nat):∀ (l:List Int) (m:Market) (c:List Int),∀ r∈shareI n l m c,r.length=n
 | [],_,_,r,hr=>by cases hr
 | i::l,m,c,r,hr=>by
  rw [shareI] at hr
  rcases List.mem_cons.1 hr with rfl | hr
  ·rw [zgC];simp
  ·exact zjt n l _ _ r hr
end Go.Tt
