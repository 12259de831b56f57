/-
  Chapter 10: the lists of Share, as a flow. Plain Lean; no program in sight.
-/
import Derived.Test.YtdpfmofgibmifaaOrdO6
import Derived.Test.YtdpfmofgibmifaaOrdQ2
set_option linter.all false
set_option maxRecDepth 100000
set_option maxHeartbeats 1000000
set_option linter.unusedVariables false
namespace Go.Ord
open Go Go.Sx
theorem setOf_under' (bs:List Bool):under bs.length (setOf bs):=by
 have:=setN_lt bs
 refine ⟨Int.natCast_nonneg _,?_⟩
 rw [pow_nat]
 simp only [setOf];omega
def rowP (N i:Nat):List (Nat × Nat):=(List.range N).map fun k=>(i,k)
theorem rowP_mem {N i a b:Nat}:(a,b)∈rowP N i↔a=i∧b<N:=by
 simp only [rowP,List.mem_map,List.mem_range,Prod.mk.injEq]
 constructor
 ·rintro ⟨k,hk,rfl,rfl⟩;exact ⟨rfl,hk⟩
 ·rintro ⟨rfl,hb⟩;exact ⟨b,hb,rfl,rfl⟩
def pairsL (M N:Nat):List (Nat × Nat):=(List.range M).flatMap (rowP N)
theorem pairsL_mem {M N a b:Nat}:(a,b)∈pairsL M N↔a<M∧b<N:=by
 simp only [pairsL,List.mem_flatMap,List.mem_range,rowP_mem]
 exact ⟨fun ⟨i,hi,e,hb⟩=>⟨e▸hi,hb⟩,fun ⟨h1,h2⟩=>⟨a,h1,rfl,h2⟩⟩
theorem pairs_nodup (N:Nat):∀ is:List Nat,is.Nodup->(is.flatMap (rowP N)).Nodup
 | [],_=>List.nodup_nil
 | i::is,h=>by
  have h':=List.nodup_cons.1 h
  rw [List.flatMap_cons]
  refine List.nodup_append.2 ⟨?_,pairs_nodup N is h'.2,fun q hq q' hq' e=>?_⟩
  ·rw [rowP,List.Nodup,List.pairwise_map]
   exact List.Pairwise.imp (fun h e=>h (by cases e;rfl)) (List.nodup_range (n:=N))
  ·subst e
   obtain ⟨a,b⟩:=q
   obtain ⟨j,hj,hjm⟩:=List.mem_flatMap.1 hq'
   rw [(rowP_mem.1 hq).1] at hjm
   rw [(rowP_mem.1 hjm).1] at h'
   exact h'.1 hj
def c0:List Int:=List.replicate 8 0
theorem c0u_get (i k:Nat):hasB (c0.getD i 0) (k:Nat)=false:=by
 have:c0.getD i 0=0:=by
  simp only [c0,List.getD,List.getElem?_replicate]
  split<;>rfl
 rw [this];simp [hasB]
theorem zeI {m:Market} (h:MarketOk m):Ready m c0 (pairsL m.2.1.length m.1.length):=by
 refine ⟨⟨h,by simp [c0],fun s hs=>?_⟩,fun p hp=>?_,pairs_nodup _ _ List.nodup_range,fun i k hi hk _=>?_⟩
 ·rw [(List.mem_replicate.1 hs).2];exact ⟨by decide,by decide⟩
 ·obtain ⟨a,b⟩:=p;exact pairsL_mem.1 hp
 ·exact ⟨fun _=>pairsL_mem.2 ⟨hi,hk⟩,fun _=>c0u_get i k⟩
theorem lackM_O {m:Market} {X:Int} (hX:under m.1.length X):lackM m X=lackO m (fun i k=>hasB (m.2.2.getD i 0) (k:Nat)) (fun k=>hasB X (k:Nat)):=by
 rw [lackM_sum]
 simp only [lackO]
 congr 1
 refine zaZ fun i hi=>?_
 congr 1
 refine bool_ext ?_
 rw [touch_iff,zdE]
 constructor
 ·rintro ⟨k,h1,h2⟩
  refine ⟨k,?_,h2,h1⟩
  refine Classical.byContradiction fun hn=>?_
  rw [under_bit hX (by omega)] at h2;cases h2
 ·rintro ⟨k,_,h1,h2⟩;exact ⟨k,h2,h1⟩
theorem top_most {m:Market} (h:MarketOk m):topV m c0=askedS m - (mostV (lackM m) (setsTo (2^m.1.length))).2:=by
 have hR:=zeI h
 have hm:=most_spec (lackM m) (setsTo (2^m.1.length))
 have hop:opF m c0=fun i k=>hasB (m.2.2.getD i 0) (k:Nat):=by
  funext i k
  simp only [opF,c0u_get]
  simp
 refine Int.le_antisymm ?_ ?_
 ·obtain ⟨g,hg,_,hv⟩:=flow_max hR.ok
  rw [<-hv]
  rw [hop] at hg
  by_cases e:mostV (lackM m) (setsTo (2^m.1.length))=(0,0)
  ·rw [e]
   have:=cut_le hg (fun i hi=>(h.many _ (zaz _ 0 i hi)).1) (fun k=>hasB 0 (k:Nat))
   have hp:=Nat.pow_pos (n:=m.1.length) (show 0<2 by decide)
   rw [<-lackM_O (X:=0) ⟨Int.le_refl _,by rw [pow_nat];omega⟩,lack_empty] at this
   exact this
  ·obtain ⟨h1,h2⟩:=hm.val e
   have hr:=setsTo_mem.1 h1
   have:=cut_le hg (fun i hi=>(h.many _ (zaz _ 0 i hi)).1) (fun k=>hasB (mostV (lackM m) (setsTo (2^m.1.length))).1 (k:Nat))
   rw [<-lackM_O ⟨hr.1,by rw [pow_nat];exact hr.2⟩,h2] at this
   exact this
 ·obtain ⟨Y,hY⟩:=top_cut hR.ok
  rw [hop] at hY
  obtain ⟨X,hXd⟩:∃ X,X=setOf ((List.range m.1.length).map Y):=⟨_,rfl⟩
  have hXu:under m.1.length X:=by
   have:=setOf_under' ((List.range m.1.length).map Y)
   rwa [List.length_map,List.length_range,<-hXd] at this
  have hbit:∀ k,k<m.1.length->hasB X (k:Nat)=Y k:=by
   intro k hk
   rw [hXd,has_setOf]
   simp [List.getD,hk]
  have e:lackO m (fun i k=>hasB (m.2.2.getD i 0) (k:Nat)) Y=lackM m X:=by
   rw [lackM_O hXu]
   simp only [lackO]
   congr 1
   ·exact zaZ fun k hk=>by rw [hbit k hk]
   ·refine zaZ fun i hi=>?_
    congr 1
    refine bool_ext ?_
    rw [zdE,zdE]
    constructor
    ·rintro ⟨k,hk,h1,h2⟩;exact ⟨k,hk,by rw [hbit k hk];exact h1,h2⟩
    ·rintro ⟨k,hk,h1,h2⟩;exact ⟨k,hk,by rw [<-hbit k hk];exact h1,h2⟩
  have:=hm.max X (setsTo_mem.2 ⟨hXu.1,by have:=hXu.2;rwa [pow_nat] at this⟩)
  rw [hY,e]
  omega
end Go.Ord
