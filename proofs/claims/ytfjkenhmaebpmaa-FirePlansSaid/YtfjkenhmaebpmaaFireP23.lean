/-
  Chapter 3: the document's Plan: conditions.
-/
import Derived.Test.YtfjkenhmaebpmaaFireP22
import Derived.Test.YtfjkenhmaebpmaaFireAuto7
set_option linter.all false
set_option maxRecDepth 100000
set_option maxHeartbeats 4000000
namespace Go.Fire
open Go Go.Sx
theorem tabs_ok7:TabsOk Go.Proofs.Try.prog T7:=by
 refine ⟨by kernel_rfl,fun p hp=>tabs_ok.mty p ?_⟩
 revert hp
 simp [T7,T]
theorem ats_place {k:Kiln} {l:List Int} (h:atsOk k l) {i:Nat} (hi:i<l.length):placeOk k (l.getD i 0):=⟨h.1,h.2.2 _ (getD_mem l 0 i hi)⟩
theorem v61 (x:Kiln × (List Int) × Int × Int) (hp:k61.pre x):V61 x:=by
 obtain ⟨k,l,set,heat⟩:=x
 obtain ⟨ha,hs,h0,h1⟩:atsOk k l∧setOk set∧0≤heat∧heat≤4000:=hp
 have hl:=ha.2.1
 simp only [big] at hl
 have e:ref03u_cold (k,l,set,heat)=l.all fun n=>coldV (standAt k (0,0,0,0,0,0) n) set heat:=rfl
 rw [V61,e]
 dsimp only
 refine ⟨fun s=>∃ i:Nat,s=(i:Int)∧i≤l.length∧(l.all fun n=>coldV (standAt k (0,0,0,0,0,0) n) set heat)=((l.drop i).all fun n=>coldV (standAt k (0,0,0,0,0,0) n) set heat),fun s=>((l.length:Int) - s).toNat,⟨0,rfl,by omega,rfl⟩,?_⟩
 rintro _ ⟨i,rfl,hi,hg⟩
 refine ⟨fun hd=>?_,fun hd=>?_⟩
 ·have hd:=of_decide_eq_true hd
  have hi':i<l.length:=by omega
  rw [drop_getD l 0 i hi',List.all_cons] at hg
  rw [Int.toNat_natCast]
  have hp:=ats_place ha hi'
  refine ⟨by omega,⟨hp,hs⟩,by simp only [Z.in64];omega,fun hv=>?_,fun hv=>⟨by simp only [Z.in64];omega,⟨i+1,rfl,by omega,?_⟩,by show ((l.length:Int) - ((i:Int)+1)).toNat<((l.length:Int) - (i:Int)).toNat;omega⟩⟩
  ·have hv:1000*heat<mostV k.2.1 (k.1.getD (l.getD i 0).toNat noPlace) set:=of_decide_eq_true hv
   have:coldV (standAt k (0,0,0,0,0,0) (l.getD i 0)) set heat=false:=decide_eq_false (by show ¬ mostV k.2.1 (k.1.getD (l.getD i 0).toNat noPlace) set≤1000*heat;omega)
   rw [hg,this];rfl
  ·have hv:¬ 1000*heat<mostV k.2.1 (k.1.getD (l.getD i 0).toNat noPlace) set:=of_decide_eq_false hv
   have:coldV (standAt k (0,0,0,0,0,0) (l.getD i 0)) set heat=true:=decide_eq_true (by show mostV k.2.1 (k.1.getD (l.getD i 0).toNat noPlace) set≤1000*heat;omega)
   rw [hg,this];rfl
 ·have hd:=of_decide_eq_false hd
  rw [List.drop_eq_nil_of_le (by omega)] at hg
  rw [hg];rfl
theorem v86 (x:Kiln × Fire × (List Int) × Int) (hp:k86.pre x):V86 x:=by
 obtain ⟨k,f,l,set⟩:=x
 obtain ⟨ha,hs,hf⟩:atsOk k l∧setOk set∧fireB f=true:=hp
 have F:=fire_iff.1 hf
 have hl:=ha.2.1
 simp only [big] at hl
 have e:ref03u_soak (k,f,l,set)=l.all fun n=>soakV (standAt k f n) set:=rfl
 rw [V86,e]
 dsimp only
 refine ⟨fun s=>∃ i:Nat,s=(i:Int)∧i≤l.length∧(l.all fun n=>soakV (standAt k f n) set)=((l.drop i).all fun n=>soakV (standAt k f n) set),fun s=>((l.length:Int) - s).toNat,⟨0,rfl,by omega,rfl⟩,?_⟩
 rintro _ ⟨i,rfl,hi,hg⟩
 refine ⟨fun hd=>?_,fun hd=>?_⟩
 ·have hd:=of_decide_eq_true hd
  have hi':i<l.length:=by omega
  rw [drop_getD l 0 i hi',List.all_cons] at hg
  rw [Int.toNat_natCast]
  have hp:=ats_place ha hi'
  refine ⟨by omega,⟨hp,hs⟩,by simp only [Z.in64];omega,fun hv=>?_,fun hv=>⟨by simp only [Z.in64];omega,⟨i+1,rfl,by omega,?_⟩,by show ((l.length:Int) - ((i:Int)+1)).toNat<((l.length:Int) - (i:Int)).toNat;omega⟩⟩
  ·have hv:leastV k.2.1 (k.1.getD (l.getD i 0).toNat noPlace) set<1000*f.2.1:=of_decide_eq_true hv
   have:soakV (standAt k f (l.getD i 0)) set=false:=decide_eq_false (by show ¬ 1000*f.2.1≤leastV k.2.1 (k.1.getD (l.getD i 0).toNat noPlace) set;omega)
   rw [hg,this];rfl
  ·have hv:¬ leastV k.2.1 (k.1.getD (l.getD i 0).toNat noPlace) set<1000*f.2.1:=of_decide_eq_false hv
   have:soakV (standAt k f (l.getD i 0)) set=true:=decide_eq_true (by show 1000*f.2.1≤leastV k.2.1 (k.1.getD (l.getD i 0).toNat noPlace) set;omega)
   rw [hg,this];rfl
 ·have hd:=of_decide_eq_false hd
  rw [List.drop_eq_nil_of_le (by omega)] at hg
  rw [hg];rfl
theorem cold_eq (k:Kiln) (f:Fire) (l:List Int) (set heat:Int):ref03u_cold (k,l,set,heat)=allCold (standsOf k f l) set heat:=by
 show (l.all fun n=>coldV (standAt k (0,0,0,0,0,0) n) set heat)=((l.map fun n=>standAt k f n).all fun s=>coldV s set heat)
 rw [List.all_map];rfl
theorem soak_eq (k:Kiln) (f:Fire) (l:List Int) (set:Int):ref03u_soak (k,f,l,set)=(standsOf k f l).all fun s=>soakV s set:=by
 show (l.all fun n=>soakV (standAt k f n) set)=((l.map fun n=>standAt k f n).all fun s=>soakV s set)
 rw [List.all_map];rfl
theorem v60 (x:Kiln × Fire × (List Int) × Int × Int) (hp:k60.pre x):V60 x:=by
 obtain ⟨k,f,l,had,set⟩:=x
 obtain ⟨⟨ha,hs,hf⟩,h0,h1⟩:(atsOk k l∧setOk set∧fireB f=true)∧0≤had∧had≤f.2.2.2.1:=hp
 have F:=fire_iff.1 hf
 have e:ref03u_run (k,f,l,had,set)=cond (decide (had<f.2.2.2.1)) (cond (ref03u_soak (k,f,l,set)) (had+1) 0) had:=by
  rw [soak_eq];rfl
 rw [V60,e]
 dsimp only
 refine ⟨fun hd=>?_,fun hd=>⟨⟨ha,hs,hf⟩,fun hv=>⟨by simp only [Z.in64];omega,?_⟩,fun hv=>?_⟩⟩
 ·have hd:had=f.2.2.2.1:=eq_of_beq hd
  rw [decide_eq_false (show ¬ had<f.2.2.2.1 by omega)];rfl
 ·have hd:had≠f.2.2.2.1:=beq_eq_false_iff_ne.1 hd
  rw [decide_eq_true (show had<f.2.2.2.1 by omega),hv];rfl
 ·have hd:had≠f.2.2.2.1:=beq_eq_false_iff_ne.1 hd
  rw [decide_eq_true (show had<f.2.2.2.1 by omega),hv];rfl
theorem v59 (x:Kiln × Fire × (List Int) × Int × Int) (hp:k59.pre x):V59 x:=by
 obtain ⟨k,f,l,a,b⟩:=x
 obtain ⟨⟨ha,hf⟩,⟨sa0,sa1⟩,sb0,sb1⟩:(atsOk k l∧fireB f=true)∧setOk a∧setOk b:=hp
 have F:=fire_iff.1 hf
 have hl:=ha.2.1
 simp only [big] at hl
 have e:ref03u_follows (k,f,l,a,b)=((decide (max (b - a) (a - b)≤k.2.2.1)&&ref03u_cold (k,l,b,f.2.2.1))&&l.all fun n=>goesV f a b (standAt k f n)):=by
  rw [cold_eq k f]
  show ((decide (max (b - a) (a - b)≤k.2.2.1)&&allCold (standsOf k f l) b f.2.2.1)&&((l.map fun n=>standAt k f n).all (goesV f a b)))=_
  rw [List.all_map];rfl
 have hr:(decide (k.2.2.1<a - b)||decide (k.2.2.1<b - a))=!decide (max (b - a) (a - b)≤k.2.2.1):=by
  by_cases h:max (b - a) (a - b)≤k.2.2.1
  ·rw [decide_eq_true h,decide_eq_false (show ¬ k.2.2.1<a - b by omega),decide_eq_false (show ¬ k.2.2.1<b - a by omega)];rfl
  ·rw [decide_eq_false h]
   by_cases h':k.2.2.1<a - b
   ·rw [decide_eq_true h'];rfl
   ·rw [decide_eq_true (show k.2.2.1<b - a by omega),Bool.or_true];rfl
 rw [V59,e]
 dsimp only
 rw [hr]
 refine ⟨by simp only [Z.in64];omega,fun _=>by simp only [Z.in64];omega,fun _=>⟨ha,⟨sb0,sb1⟩,by show 0≤f.2.2.1;omega,by show f.2.2.1≤4000;omega⟩,fun hv=>?_,fun hv=>?_⟩
 ·cases h1:decide (max (b - a) (a - b)≤k.2.2.1)<;>cases h2:ref03u_cold (k,l,b,f.2.2.1)<;>rw [h1,h2] at hv<;>first | rfl | cases hv
 ·have hv':decide (max (b - a) (a - b)≤k.2.2.1)=true∧ref03u_cold (k,l,b,f.2.2.1)=true:=by
   cases h1:decide (max (b - a) (a - b)≤k.2.2.1)<;>cases h2:ref03u_cold (k,l,b,f.2.2.1)<;>rw [h1,h2] at hv<;>first | exact ⟨rfl,rfl⟩ | cases hv
  rw [hv'.1,hv'.2,Bool.and_self,Bool.true_and]
  refine ⟨fun s=>∃ i:Nat,s=(i:Int)∧i≤l.length∧(l.all fun n=>goesV f a b (standAt k f n))=((l.drop i).all fun n=>goesV f a b (standAt k f n)),fun s=>((l.length:Int) - s).toNat,⟨0,rfl,by omega,rfl⟩,?_⟩
  rintro _ ⟨i,rfl,hi,hg⟩
  refine ⟨fun hd=>?_,fun hd=>?_⟩
  ·have hd:=of_decide_eq_true hd
   have hi':i<l.length:=by omega
   rw [drop_getD l 0 i hi',List.all_cons] at hg
   rw [Int.toNat_natCast]
   have hp:=ats_place ha hi'
   have c1:decide (1000*f.2.2.2.2.1<ref03u_More (k,l.getD i 0,a,b))=!slowV (standAt k f (l.getD i 0)) a b f.2.2.2.2.1:=more_le (by omega)
   have c2:decide (1000*f.2.2.2.2.2<ref03u_More (k,l.getD i 0,b,a))=!slowV (standAt k f (l.getD i 0)) b a f.2.2.2.2.2:=more_le (by omega)
   rw [c1,c2]
   have ix:(0:Int)≤(i:Int)∧(i:Int)<(l.length:Int):=by omega
   refine ⟨ix,⟨hp,⟨sa0,sa1⟩,sb0,sb1⟩,by simp only [Z.in64];omega,fun _=>ix,fun _=>⟨hp,⟨sb0,sb1⟩,sa0,sa1⟩,fun _=>by simp only [Z.in64];omega,fun hv=>?_,fun hv=>⟨by simp only [Z.in64];omega,⟨i+1,rfl,by omega,?_⟩,by show ((l.length:Int) - ((i:Int)+1)).toNat<((l.length:Int) - (i:Int)).toNat;omega⟩⟩
   ·have:goesV f a b (standAt k f (l.getD i 0))=false:=by
     unfold goesV
     cases h1:slowV (standAt k f (l.getD i 0)) a b f.2.2.2.2.1<;>cases h2:slowV (standAt k f (l.getD i 0)) b a f.2.2.2.2.2<;>rw [h1,h2] at hv<;>first | rfl | cases hv
    rw [hg,this];rfl
   ·have:goesV f a b (standAt k f (l.getD i 0))=true:=by
     unfold goesV
     cases h1:slowV (standAt k f (l.getD i 0)) a b f.2.2.2.2.1<;>cases h2:slowV (standAt k f (l.getD i 0)) b a f.2.2.2.2.2<;>rw [h1,h2] at hv<;>first | rfl | cases hv
    rw [hg,this];rfl
  ·have hd:=of_decide_eq_false hd
   rw [List.drop_eq_nil_of_le (by omega)] at hg
   rw [hg];rfl
end Go.Fire
