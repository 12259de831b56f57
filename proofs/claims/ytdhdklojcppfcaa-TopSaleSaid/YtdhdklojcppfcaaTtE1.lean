/-
  TopSale: piles as supplies, boxes as orders.
-/
import Derived.Test.YtdhdklojcppfcaaTtO7
import Derived.Test.YtdhdklojcppfcaaTtOS
import Derived.Test.YtdhdklojcppfcaaTtBP6
import Derived.Test.YtdhdklojcppfcaaTtRP2
import Derived.Test.YtdhdklojcppfcaaTtEAuto
set_option linter.all false
set_option maxRecDepth 100000
set_option maxHeartbeats 4000000
set_option linter.unusedVariables false
open Int renaming le_refl->ydz
open List renaming getD->yda,length_map->ycK,length_range->ydP,mem_map->ycp,mem_range->ycU,range->yaf
namespace Go.Tt
open Go Go.Sx
theorem zki:TabsOk Go.Proofs.Try.prog TE:=⟨by kernel_rfl,maps_ok⟩
theorem v40 (x:Unit) (_:k40.pre x):V40 x:=⟨trivial,trivial,by kernel_rfl⟩
theorem zpV (l:List Pile) (s:Int):haveV l s=sumN l.length fun a=>cond (touchB s (l.getD a noP).1) (l.getD a noP).2 0:=by
 have key:∀ n,n<=l.length->haveV (l.take n) s=sumN n fun a=>cond (touchB s (l.getD a noP).1) (l.getD a noP).2 0:=by
  intro n
  induction n with
  | zero=>intro _;rfl
  | succ n ih =>
   intro h
   have:=zoY l s (n:Nat) (by omega) (by omega)
   rw [zaq,<-ih (by omega)]
   exact this
 have:=key l.length (Nat.le_refl _)
 rwa [List.take_length] at this
theorem sum_sum (s:Int) (l:List Int):sumV s l=sumN l.length fun k=>cond (hasB s (k:Nat)) (l.getD k 0) 0:=by
 rw [sumV,zim]
 exact zaA fun i _=>by rw [Nat.zero_add]
def supE (p:Pile):Supply:=(p.1,(p.2,p.2),0,0)
def ordE (need:List Int) (b:Int) (k:Nat):Order:=((k:Nat),b*need.getD k 0,0,0)
def saleE (need:List Int) (l:List Pile) (b:Int):Sale:=(l.map supE,(yaf need.length).map (ordE need b))
section
variable {need:List Int} {l:List Pile} {b:Int}
theorem zpG (h:BoxIs need l) (h0:0<=b) (h1:b<=21845):saleB (saleE need l b)=true:=by
 refine zdQ.2 ⟨by show (l.map supE).length<=8;rw [ycK];exact h.l8,by show ((yaf need.length).map _).length<=8;rw [ycK,ydP];exact h.n8,fun y hy=>?_,fun o ho=>?_⟩
 ·obtain ⟨p,hp,rfl⟩:=ycp.1 hy
  obtain ⟨g1,g2⟩:=h.small p hp
  exact zek.2 ⟨g1,⟨g2.1,ydz _,g2.2⟩,ydz 0,ydz 0,by show (0:Int)<=1048576;omega⟩
 ·obtain ⟨k,hk,rfl⟩:=ycp.1 ho
  have hk:=ycU.1 hk
  have g:=h.nd _ (zan need 0 k hk)
  have h8:=h.n8
  have m1:0<=b*need.getD k 0:=Int.mul_nonneg h0 g.1
  have m2:b*need.getD k 0<=21845*48:=Int.mul_le_mul h1 g.2 g.1 (by decide)
  exact zgi.2 ⟨⟨by show (0:Int)<=(k:Nat);omega,by show ((k:Nat):Int)<=7;omega⟩,⟨m1,by show b*need.getD k 0<=1048576;omega⟩,⟨ydz 0,by show (0:Int)<=1048576;omega⟩,ydz 0,by show (0:Int)<=1000000;omega⟩
theorem znB:bestM (saleE need l b)=worstM (saleE need l b):=by
 simp only [bestM,worstM,marketV,saleE,List.map_map]
 rfl
theorem zmK:(worstM (saleE need l b)).1.length=need.length:=by simp [worstM,marketV,saleE]
theorem wE_many:(worstM (saleE need l b)).2.1.length=l.length:=by simp [worstM,marketV,saleE]
theorem wE_ask {k:Nat} (hk:k<need.length):(worstM (saleE need l b)).1.getD k 0=b*need.getD k 0:=by
 simp [worstM,marketV,saleE,yda,hk,ordE]
theorem wE_man {a:Nat} (ha:a<l.length):(worstM (saleE need l b)).2.1.getD a 0=(l.getD a noP).2:=by
 simp [worstM,marketV,saleE,yda,ha,supE,worstMany]
theorem zpy {a:Nat} (ha:a<l.length) {X:Int} (hX:under need.length X):touchB ((worstM (saleE need l b)).2.2.getD a 0) X=touchB X (l.getD a noP).1:=by
 have e:(worstM (saleE need l b)).2.2.getD a 0=setOf (((yaf need.length).map (ordE need b)).map (canB (l.getD a noP).1 0)):=by
  simp [worstM,marketV,saleE,yda,ha,supE,worstReady]
 rw [e,zoA]
 refine ze ?_
 rw [List.any_eq_true,zie]
 have hrow:∀ k:Nat,k<need.length->(((yaf need.length).map (ordE need b)).map (canB (l.getD a noP).1 0)).getD k false=hasB (l.getD a noP).1 (k:Nat):=by
  intro k hk
  have e1:(((yaf need.length).map (ordE need b)).map (canB (l.getD a noP).1 0)).getD k false=canB (l.getD a noP).1 0 (ordE need b k):=by
   simp [yda,hk]
  rw [e1,canB]
  show (hasB (l.getD a noP).1 (k:Nat)&&decide ((0:Int)<=0))=_
  rw [decide_eq_true (ydz 0),Bool.and_true]
 constructor
 ·rintro ⟨k,hk,g⟩
  have hk:=ycU.1 hk
  rw [ycK,ycK,ydP] at hk
  rw [hrow k hk,Bool.and_eq_true] at g
  exact ⟨k,g.1,g.2⟩
 ·rintro ⟨k,g1,g2⟩
  have hk:k<need.length:=by
   refine Classical.byContradiction fun hn=>?_
   rw [zid hX (by omega)] at g1;cases g1
  refine ⟨k,ycU.2 (by rw [ycK,ycK,ydP];exact hk),?_⟩
  rw [hrow k hk,g1,g2];rfl
theorem lackE {X:Int} (hX:under need.length X):lackM (worstM (saleE need l b)) X=lacksV (timesV need b) l X:=by
 rw [ziD,lacksV,sum_sum,zpV,zmK,wE_many,zej]
 congr 1
 ·refine zaA fun k hk=>?_
  rw [wE_ask hk]
  congr 1
  simp [timesV,yda,hk,Int.mul_comm]
 ·refine zaA fun a ha=>?_
  rw [zpy ha hX,wE_man ha]
theorem zjw {n:Nat} {s:Int} (h:s∈setsV n):under n s:=by
 obtain ⟨h1,h2⟩:=zgb.1 h
 exact ⟨by omega,h2⟩
theorem znX:(mostV (lackM (worstM (saleE need l b))) (setsTo (2^need.length))).2=(lackB (timesV need b) l).2:=by
 have h1:=ziB (lackM (worstM (saleE need l b))) (setsTo (2^need.length))
 have h2:=zkC (timesV need b) l
 rw [zej] at h2
 generalize mostV (lackM (worstM (saleE need l b))) (setsTo (2^need.length))=m at h1
 generalize lackB (timesV need b) l=w at h2
 have le1:m.2<=w.2:=by
  by_cases h0:m.2=0
  ·rw [h0];exact h2.nn
  ·obtain ⟨g1,g2⟩:=h1.val (fun e=>h0 (by rw [e]))
   have g3:=zcQ.1 g1
   have hX:under need.length m.1:=⟨g3.1,by rw [pow_nat];exact g3.2⟩
   rw [<-g2,lackE hX]
   by_cases hz:m.1=0
   ·rw [hz,zft] at g2
    exact absurd g2.symm h0
   ·exact h2.le _ (zgb.2 ⟨by have:=g3.1;omega,hX.2⟩)
 have le2:w.2<=m.2:=by
  rcases h2.atw with e | ⟨g1,g2⟩
  ·rw [e];exact h1.nn
  ·have hX:=zjw g1
   rw [g2,<-lackE hX]
   refine h1.max _ (zcQ.2 ⟨hX.1,?_⟩)
   have:=hX.2
   rw [pow_nat] at this
   exact this
 omega
theorem zoS:meetsM (worstM (saleE need l b)) (allV need.length)=canF (timesV need b) l:=by
 refine ze ?_
 rw [can_iff,zej,meetsM,zix,List.all_eq_true]
 constructor
 ·intro h s hs
  have hX:=zjw hs
  have:=h s (zcQ.2 ⟨hX.1,by have:=hX.2;rw [pow_nat] at this;exact this⟩)
  have:=of_decide_eq_false (not_iff.1.1 this)
  rw [lackE hX,lacksV] at this
  omega
 ·intro h X hX
  obtain ⟨g1,g2⟩:=zcQ.1 hX
  have hu:under need.length X:=⟨g1,by rw [pow_nat];exact g2⟩
  refine not_iff.1.2 (decide_eq_false ?_)
  by_cases hz:X=0
  ·rw [hz,zft];omega
  ·rw [lackE hu,lacksV]
   have:=h X (zgb.2 ⟨by omega,hu.2⟩)
   omega
end
end Go.Tt
