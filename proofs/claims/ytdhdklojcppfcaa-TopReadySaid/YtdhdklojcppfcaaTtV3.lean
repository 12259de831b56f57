/-
  TopReady: the sale of the batches. Plain Lean.
-/
import Derived.Test.YtdhdklojcppfcaaTtVP6
set_option linter.all false
set_option maxRecDepth 100000
set_option maxHeartbeats 4000000
open Bool renaming and_eq_true->yac,false_or->ydV
open Int renaming toNat_natCast->ydx
open List renaming all_eq_true->ycW,getD->ydd,length_map->ycL,length_range->ydU,length_take->ybo,map_append->yco,map_congr_left->yda,map_map->yci,mem_map->ycq,mem_range->ycX,range->yaf,range_succ->ydL,replicate->yaa,take_of_length_le->ybT
namespace Go.Tt
open Go Go.Sx
def mkB (rb:List Bool):Market:=((yaf rb.length).map fun _=>1,(yaf rb.length).map fun _=>1,(yaf rb.length).map fun i=>setOf ((yaf rb.length).map fun k=>hasB (1*2^i) ((k:Nat):Int)&&rb.getD i false))
def cntB (rb:List Bool):Int:=(rb.countP id:Nat)
def marks (rb:List Bool):Prop :=
 meetsM (mkB rb) (allV rb.length)=rb.all id /\
 acceptV (fun X=>selS (fun k=>hasB X (k:Nat)) ((yaf rb.length).map fun _=>1) 0) (meetsM (mkB rb)) (partsV (allV rb.length))=(setOf rb,cntB rb)
instance (rb:List Bool):Decidable (marks rb):=by unfold marks;infer_instance
def steps (rb:List Bool):Prop :=
 (((setOf rb).toNat ||| (1*2^rb.length:Int).toNat:Nat):Int)=setOf (rb++[true])/\setOf (rb++[false])=setOf rb
instance (rb:List Bool):Decidable (steps rb):=by unfold steps;infer_instance
def bits (rb:List Bool):Prop:=(0<=setOf rb/\setOf rb<16)/\∀ k,k<rb.length->0<=Int.fdiv (setOf rb) (2^k)/\(((Int.fdiv (setOf rb) (2^k)).toNat &&& (1:Int).toNat:Nat):Int)=cntB (rb.take (k+1)) - cntB (rb.take k)
instance (rb:List Bool):Decidable (bits rb):=by unfold bits;infer_instance
theorem marks0:marks []:=of_decide_eq_true (by kernel_rfl)
theorem marks1:∀ a,marks [a]:=of_decide_eq_true (by kernel_rfl)
theorem marks2:∀ a b,marks [a,b]:=of_decide_eq_true (by kernel_rfl)
theorem marks3:∀ a b c,marks [a,b,c]:=of_decide_eq_true (by kernel_rfl)
theorem marks4:∀ a b c d,marks [a,b,c,d]:=of_decide_eq_true (by kernel_rfl)
theorem steps0:steps []:=of_decide_eq_true (by kernel_rfl)
theorem steps1:∀ a,steps [a]:=of_decide_eq_true (by kernel_rfl)
theorem steps2:∀ a b,steps [a,b]:=of_decide_eq_true (by kernel_rfl)
theorem steps3:∀ a b c,steps [a,b,c]:=of_decide_eq_true (by kernel_rfl)
theorem bits0:bits []:=of_decide_eq_true (by kernel_rfl)
theorem bits1:∀ a,bits [a]:=of_decide_eq_true (by kernel_rfl)
theorem bits2:∀ a b,bits [a,b]:=of_decide_eq_true (by kernel_rfl)
theorem bits3:∀ a b c,bits [a,b,c]:=of_decide_eq_true (by kernel_rfl)
theorem bits4:∀ a b c d,bits [a,b,c,d]:=of_decide_eq_true (by kernel_rfl)
theorem zhj:∀ {rb:List Bool},rb.length<=4->marks rb
 | [],_=>marks0
 | [a],_=>marks1 a
 | [a,b],_=>marks2 a b
 | [a,b,c],_=>marks3 a b c
 | [a,b,c,d],_=>marks4 a b c d
 | _::_::_::_::_::_,h=>by simp at h
theorem zmJ:∀ {rb:List Bool},rb.length<=3->steps rb
 | [],_=>steps0
 | [a],_=>steps1 a
 | [a,b],_=>steps2 a b
 | [a,b,c],_=>steps3 a b c
 | _::_::_::_::_,h=>by simp at h
theorem zlI:∀ {rb:List Bool},rb.length<=4->bits rb
 | [],_=>bits0
 | [a],_=>bits1 a
 | [a,b],_=>bits2 a b
 | [a,b,c],_=>bits3 a b c
 | [a,b,c,d],_=>bits4 a b c d
 | _::_::_::_::_::_,h=>by simp at h
abbrev couldN (s:Shop) (i:Nat):Int:=(hadN s i).2.2.1
abbrev surelyN (s:Shop) (i:Nat):Int:=(hadN s i).2.2.2
def supF (s:Shop) (i:Nat):Supply:=(1*2^i,(1,1),(couldN s i,surelyN s i))
def ordF (due:Int) (i:Nat):Order:=(((i:Nat):Int),1,due,1)
def supsV (s:Shop) (n:Nat):List Supply:=(yaf n).map (supF s)
def ordsV (due:Int) (n:Nat):List Order:=(yaf n).map (ordF due)
def inT (due:Int) (f:Nat->Int) (n:Nat):List Bool:=(yaf n).map fun i=>decide (f i<=due)
theorem inT_len (due:Int) (f:Nat->Int) (n:Nat):(inT due f n).length=n:=by simp [inT]
theorem inT_get (due:Int) (f:Nat->Int) {n i:Nat} (h:i<n):(inT due f n).getD i false=decide (f i<=due):=by
 simp [inT,ydd,h]
theorem zlt (due:Int) (f:Nat->Int) (n:Nat):inT due f (n+1)=inT due f n++[decide (f n<=due)]:=by
 simp [inT,ydL]
theorem inT_all {due:Int} {f:Nat->Int} {n:Nat}:(inT due f n).all id=true↔∀ i,i<n->f i<=due:=by
 rw [ycW]
 constructor
 ·intro h i hi
  exact of_decide_eq_true (h _ (ycq.2 ⟨i,ycX.2 hi,rfl⟩))
 ·intro h b hb
  obtain ⟨i,hi,rfl⟩:=ycq.1 hb
  exact decide_eq_true (h i (ycX.1 hi))
theorem zhk (many ready:Supply->Int) (s:Shop) (due:Int) (n:Nat) (f:Nat->Int) (hm:∀ i,many (supF s i)=1) (hr:∀ i,ready (supF s i)=f i):marketV many ready (supsV s n,ordsV due n)=mkB (inT due f n):=by
 rw [marketV,mkB,inT_len]
 refine Prod.ext ?_ (Prod.ext ?_ ?_)
 ·show (ordsV due n).map _=_
  rw [ordsV,yci];rfl
 ·show (supsV s n).map many=_
  rw [supsV,yci]
  exact yda fun i _=>hm i
 ·show (supsV s n).map _=_
  rw [supsV,yci]
  refine yda fun i hi=>?_
  show setOf ((ordsV due n).map (canB (1*2^i) (ready (supF s i))))=_
  rw [ordsV,yci,hr,inT_get due f (ycX.1 hi)]
  rfl
theorem sale_ok {s:Shop} {due:Int} {n:Nat} (hn:n<=4) (hd:0<=due/\due<=65535) (hs:∀ i,i<4->0<=couldN s i/\couldN s i<=surelyN s i/\surelyN s i<=1000000):saleB (supsV s n,ordsV due n)=true:=by
 rw [saleB,yac,yac,yac]
 refine ⟨⟨decide_eq_true ?_,decide_eq_true ?_⟩,ycW.2 fun x hx=>?_,ycW.2 fun o ho=>?_⟩
 ·show ((supsV s n).length:Int)<=8
  simp only [supsV,ycL,ydU];omega
 ·show ((ordsV due n).length:Int)<=8
  simp only [ordsV,ycL,ydU];omega
 ·obtain ⟨i,hi,rfl⟩:=ycq.1 hx
  have hi4:i<4:=by have:=ycX.1 hi;omega
  have h:=hs i hi4
  rw [supplyB,yac,yac]
  refine ⟨inB_iff.2 ?_,by rfl,zea.2 ?_⟩
  ·have key:∀ i,i<4->(0:Int)<=1*2^i/\(1*2^i:Int)<=255:=of_decide_eq_true (by kernel_rfl)
   exact key i hi4
  ·show 0<=couldN s i/\couldN s i<=surelyN s i/\surelyN s i<=topN
   simp only [topN];omega
 ·obtain ⟨i,hi,rfl⟩:=ycq.1 ho
  have hi4:i<4:=by have:=ycX.1 hi;omega
  rw [orderB,yac,yac,yac]
  refine ⟨inB_iff.2 (by show (0:Int)<=(i:Int)/\(i:Int)<=7;omega),by rfl,inB_iff.2 ?_,by rfl⟩
  show 0<=due/\due<=topN
  simp only [topN];omega
theorem zm {s:Shop} {due:Int} {n:Nat} (hn:n<=4) (hd:0<=due/\due<=65535) (hs:∀ i,i<4->0<=couldN s i/\couldN s i<=surelyN s i/\surelyN s i<=1000000) :
  zan (supsV s n,ordsV due n)=cond ((inT due (surelyN s) n).all id) (2,0) (cond ((inT due (couldN s) n).all id) (1,0) (0,0)):=by
 have hl:(ordsV due n).length=n:=by simp [ordsV]
 have e1:worstM (supsV s n,ordsV due n)=mkB (inT due (surelyN s) n):=zhk worstMany worstReady s due n _ (fun _=>rfl) fun _=>rfl
 have e2:bestM (supsV s n,ordsV due n)=mkB (inT due (couldN s) n):=zhk bestMany bestReady s due n _ (fun _=>rfl) fun _=>rfl
 have m1:=(zhj (rb:=inT due (surelyN s) n) (by rw [inT_len];exact hn)).1
 have m2:=(zhj (rb:=inT due (couldN s) n) (by rw [inT_len];exact hn)).1
 rw [inT_len] at m1 m2
 rw [zan,sale_ok hn hd hs,cond_true,e1,e2]
 show cond (meetsM _ (allV (ordsV due n).length)) _ (cond (meetsM _ (allV (ordsV due n).length)) _ _)=_
 rw [hl,m1,m2]
theorem zkC {s:Shop} {due:Int} {n:Nat} (hn:n<=4) (hd:0<=due/\due<=65535) (hs:∀ i,i<4->0<=couldN s i/\couldN s i<=surelyN s i/\surelyN s i<=1000000) :
  zaE (supsV s n,ordsV due n)=(setOf (inT due (surelyN s) n),cntB (inT due (surelyN s) n),0):=by
 have hl:(ordsV due n).length=n:=by simp [ordsV]
 have e1:worstM (supsV s n,ordsV due n)=mkB (inT due (surelyN s) n):=zhk worstMany worstReady s due n _ (fun _=>rfl) fun _=>rfl
 have m1:=(zhj (rb:=inT due (surelyN s) n) (by rw [inT_len];exact hn)).2
 rw [inT_len] at m1
 have ep:priceV (ordsV due n)=fun X=>selS (fun k=>hasB X (k:Nat)) ((yaf n).map fun _=>1) 0:=by
  funext X
  rw [priceV,ordsV,yci];rfl
 rw [zaE,sale_ok hn hd hs,cond_true,e1]
 show ((acceptV (priceV (ordsV due n)) _ (partsV (allV (ordsV due n).length))).1,(acceptV (priceV (ordsV due n)) _ (partsV (allV (ordsV due n).length))).2,0)=_
 rw [hl,ep,m1]
end Go.Tt
/-
 TopReady: the law.
-/
set_option maxHeartbeats 8000000
namespace Go.Tt
open Go Go.Sx
theorem znK {n:Nat} {f g:Nat->Int} (h:∀ i,i<n->f i<=g i) (hs:sumN n f=sumN n g):∀ i,i<n->f i=g i:=by
 intro i hi
 have h1:=sumN_ge (n:=n) (f:=fun i=>g i - f i) (fun i hi=>by have:=h i hi;show 0<=g i - f i;omega) hi
 rw [znJ,hs] at h1
 have h1:g i - f i<=sumN n g - sumN n g:=h1
 have:=h i hi
 omega
theorem zlC {s:Shop} {B:Int} (h0:0<=B):doneV s<=B↔∀ i,i<4->surelyN s i<=B:=by
 have e:doneV s=max (max (max (max 0 (surelyN s 0)) (surelyN s 1)) (surelyN s 2)) (surelyN s 3):=rfl
 rw [e]
 constructor
 ·intro h i hi
  match i,hi with
  | 0,_=>omega
  | 1,_=>omega
  | 2,_=>omega
  | 3,_=>omega
  | n+4,h=>omega
 ·intro h
  have h1:=h 0 (by omega)
  have h2:=h 1 (by omega)
  have h3:=h 2 (by omega)
  have h4:=h 3 (by omega)
  omega
structure FinIs (p:Paint) (l ts:List Int) (s:Shop):Prop where
 run:RunIs p l ts s
 len:(l.length:Int)=coatsN p.2.2
 n4:1<=p.2.2.length/\p.2.2.length<=4
 full:∀ i,i<4->(hadN s i).1=((dryN p i).length:Int)
 time:∀ i,i<4->0<=couldN s i/\couldN s i<=surelyN s i/\surelyN s i<=1000000
 last:∀ i,i<p.2.2.length->1<=(dryN p i).length/\((hadN s i).2.1+((dryN p i).getD (((dryN p i).length:Int) - 1).toNat (0,0)).1=couldN s i/\(hadN s i).2.1+((dryN p i).getD (((dryN p i).length:Int) - 1).toNat (0,0)).2=surelyN s i)
 out:∀ i,i<4->p.2.2.length<=i->hadN s i=zHu
 ends:∀ i,i<4->0<=(hadN s i).2.1/\(hadN s i).2.1<=surelyN s i
theorem fin_of {p:Paint} {l ts:List Int} {s:Shop} (r:RunIs p l ts s) (hl:(l.length:Int)=coatsN p.2.2):FinIs p l ts s:=by
 have S:=r.R.ok
 have P:=S.is
 rw [r.pp] at P
 have hn:=P.n
 have full:∀ i,i<4->(hadN s i).1=((dryN p i).length:Int):=by
  refine znK (fun i hi=>?_) ?_
  ·have:=(S.many i hi).2
   rw [r.pp] at this
   exact this
  ·have:=r.many
   have e:=zhB hn.2
   rw [<-hl,<-this] at e
   exact e
 have tm:∀ i,i<4->0<=couldN s i/\couldN s i<=surelyN s i/\surelyN s i<=1000000:=fun i hi=>by
  have:=S.time i hi
  show 0<=(hadN s i).2.2.1/\(hadN s i).2.2.1<=(hadN s i).2.2.2/\(hadN s i).2.2.2<=1000000
  omega
 refine ⟨r,hl,hn,full,tm,fun i hi=>?_,fun i hi h=>?_,fun i hi=>?_⟩
 ·have hb:(dryN p i).length≠0:=(P.batch _ (zbS p.2.2 zCo i hi)).1
  have hf:=full i (by omega)
  have hd:=r.dry i (by omega) (by omega)
  rw [hf] at hd
  refine ⟨by omega,(congrArg Prod.fst hd).symm,(congrArg Prod.snd hd).symm⟩
 ·refine r.zero i hi ?_
  rw [full i hi,show dryN p i=[] by simp [dryN,ydd,List.getElem?_eq_none h]];rfl
 ·have:=S.time i hi
  show 0<=(hadN s i).2.1/\(hadN s i).2.1<=(hadN s i).2.2.2
  omega
theorem FinIs.done {p:Paint} {l ts:List Int} {s:Shop} (F:FinIs p l ts s) {B:Int} (h0:0<=B):doneV s<=B↔∀ i,i<p.2.2.length->surelyN s i<=B:=by
 rw [zlC h0]
 constructor
 ·intro h i hi
  exact h i (by have:=F.n4;omega)
 ·intro h i hi
  by_cases hi':i<p.2.2.length
  ·exact h i hi'
  ·show (hadN s i).2.2.2<=B
   rw [F.out i hi (by omega)];exact h0
theorem zgR {s:Shop} {hour:Int} {f:Hung->Int}:∀ {n:Nat},(∀ i,i<n->f (hadN s i)<=hour)->wetN s hour f n=0
 | 0,_=>rfl
 | n+1,h=>by
  rw [zep,zgR (n:=n) fun i hi=>h i (by omega),decide_eq_false (by have:=h n (by omega);omega:¬ hour<f (hadN s n)),Bool.and_false];rfl
theorem zkY {s:Shop} {hour:Int} {f:Hung->Int} {i:Nat} (h1:0<(hadN s i).1) (h2:hour<f (hadN s i)):∀ {n:Nat},i<n->1<=wetN s hour f n
 | 0,h=>by omega
 | n+1,h=>by
  rw [zep]
  by_cases e:i=n
  ·subst e
   have:=(wetN_le s hour f i).1
   rw [decide_eq_true h1,decide_eq_true h2]
   show 1<=wetN s hour f i+1
   omega
  ·have:=zkY (s:=s) (hour:=hour) (f:=f) h1 h2 (n:=n) (by omega)
   cases decide (0<(hadN s n).1)&&decide (hour<f (hadN s n)) with
   | true=>rw [cond_true];omega
   | false=>rw [cond_false];omega
theorem wet_is {p:Paint} {l ts:List Int} {s:Shop} (F:FinIs p l ts s) {due:Int} (hd:0<=due/\due<=65535):wetV p l due=((wetN (wetGo due ts l (shop0 p) l.length) due (fun h=>h.2.2.1) 4,wetN (wetGo due ts l (shop0 p) l.length) due (fun h=>h.2.2.2) 4),0):=by
 have ht:=zjH F.run (by have:=F.len;omega)
 have hi:inB due 0 1048576=true:=inB_iff.2 (by omega)
 rw [wetV,ht,hi];rfl
theorem zlK {p:Paint} {l ts:List Int} {s:Shop} (F:FinIs p l ts s) {due:Int} (h:∀ i,i<p.2.2.length->(hadN s i).2.1<=due):wetGo due ts l (shop0 p) l.length=s:=by
 refine F.run.wet due fun j hj=>?_
 have hb:=F.run.rng _ (zbS l 0 j hj)
 have h1:=F.run.le j hj
 have h2:=h (l.getD j 0).toNat (by omega)
 omega
theorem last_ok {p:Paint} {l ts:List Int} {s:Shop} (F:FinIs p l ts s) {due:Int} (hd:0<=due/\due<=65535) {last:Int} (hl:∀ i,i<p.2.2.length->(hadN s i).2.1<=last) (met:Int) (hm:met=2↔∀ i,i<p.2.2.length->surelyN s i<=due) :
  (((!(met==2))||(((wetV p l due).1.1==0)&&((wetV p l due).1.2==0)))&&(((met==2)||decide (due<last))||decide (0<(wetV p l due).1.2)))=true:=by
 rw [wet_is F hd]
 dsimp only
 by_cases h:met=2
 ·have hs:=hm.1 h
  have hw:=zlK F (due:=due) fun i hi=>by
   have:=(F.ends i (by have:=F.n4;omega)).2
   have:=hs i hi
   omega
  have hs4:=(zlC hd.1).1 ((F.done hd.1).2 hs)
  rw [hw,zgR (s:=s) (hour:=due) (f:=fun h=>h.2.2.2) (n:=4) fun i hi=>hs4 i hi,zgR (s:=s) (hour:=due) (f:=fun h=>h.2.2.1) (n:=4) fun i hi=>by
   have h1:=hs4 i hi
   have h2:=(F.time i hi).2.1
   show couldN s i<=due
   omega]
  subst h
  rfl
 ·rw [beq_eq_false_iff_ne.2 h,Bool.not_false,Bool.true_or,Bool.true_and,ydV]
  by_cases hdl:due<last
  ·rw [decide_eq_true hdl];rfl
  ·rw [decide_eq_false hdl,ydV]
   have hw:=zlK F (due:=due) fun i hi=>by have:=hl i hi;omega
   rw [hw]
   refine decide_eq_true ?_
   refine Classical.byContradiction fun hc=>h (hm.2 fun i hi=>Classical.byContradiction fun hlt=>hc ?_)
   have hi4:i<4:=by have:=F.n4;omega
   have:=zkY (s:=s) (hour:=due) (f:=fun h=>h.2.2.2) (i:=i) (by rw [F.full i hi4];have:=(F.last i hi).1;omega) (by show due<surelyN s i;omega) hi4
   omega
end Go.Tt
/-
 TopReady: the law itself.
-/
namespace Go.Tt
open Go Go.Sx
theorem v8 (x:ReadyIn) (hp:k8.pre x):V8 x:=by
 obtain ⟨hp,hd⟩:PaintP x.1/\0<=x.2/\x.2<=65535:=hp
 refine ⟨hp,fun h=>⟨trivial,rfl⟩,fun h=>?_⟩
 have hv:paintB x.1=true:=not_iff.2.1 (show (!paintB x.1)=false from h)
 have P:=zdW.1 hv
 have hn:=P.n
 have hdip:=P.dip
 refine ⟨fun s=>∃ i:Nat,s.2=(i:Int)/\i<=x.1.2.2.length/\s.1=coatsN (x.1.2.2.take i),fun s=>((x.1.2.2.length:Int) - s.2).toNat,⟨0,rfl,by omega,rfl⟩,?_⟩
 rintro ⟨many,i'⟩ ⟨i,ei,hi,em⟩
 simp only at ei em
 subst ei
 refine ⟨fun hd=>?_,fun hd0=>?_⟩
 ·have hd:(i:Int)<(x.1.2.2.length:Int):=of_decide_eq_true hd
  have hil:i<x.1.2.2.length:=by omega
  have hs:=zhC (x.1.2.2.take i) (x.1.2.2.getD i zCo)
  rw [<-zbo x.1.2.2 zCo hil] at hs
  have hl:=zjb (l:=x.1.2.2.take (i+1)) fun b h=>hp.2 b (List.mem_of_mem_take h)
  have h0:=zgL (x.1.2.2.take (i+1))
  have hlen:(x.1.2.2.take (i+1)).length<=4:=by rw [ybo];omega
  rw [<-em] at hs
  refine ⟨⟨by omega,hd⟩,?_,by simp only [Z.in64];omega,⟨i+1,rfl,hil,hs.symm⟩,?_⟩
  ·show Z.in64 (many+((x.1.2.2.getD i zCo).1.length:Int))
   rw [<-hs]
   simp only [Z.in64];omega
  ·show ((x.1.2.2.length:Int) - ((i:Int)+1)).toNat<((x.1.2.2.length:Int) - (i:Int)).toNat
   omega
 have hd0:¬ (i:Int)<(x.1.2.2.length:Int):=of_decide_eq_false hd0
 rw [ybT (by omega)] at em
 subst em
 clear hi hd0
 refine ⟨fun h7=>⟨trivial,rfl⟩,fun h7=>⟨hp,fun he=>⟨fun _=>trivial,?_⟩,fun he=>?_⟩⟩
 ·obtain ⟨b1,b2⟩:=znB hv (by
   have he:(!((bestV x.1).2.2==0))=true:=he
   intro e;rw [e] at he;cases he)
  show ((((bestV x.1).1.length:Int)==0&&(bestV x.1).2.2==4)&&true)=true
  rw [b1,b2];rfl
 have he:(bestV x.1).2.2=0:=eq_of_beq (not_iff.2.1 (show (!((bestV x.1).2.2==0))=false from he))
 obtain ⟨ts,s,r,eh,el⟩:=zon he
 have F:=fin_of r el
 have et:tmK' x=(ts,((bestV x.1).1.length:Int),0):=zjH (l:=(bestV x.1).1) r (Int.le_of_eq el.symm)
 have eb:btK x=((bestV x.1).1,doneV s,0):=by
  show bestV x.1=_
  rw [<-eh,<-he]
 have wet:=fun (last:Int) hl met hm=>last_ok F (due:=x.2) hd (last:=last) hl met hm
 rw [et,eb]
 have ewet:zbT (x.1,(bestV x.1).1,x.2)=wetV x.1 (bestV x.1).1 x.2:=rfl
 generalize (bestV x.1).1=l at r el F et eb wet ewet ⊢
 dsimp only
 have l9:=run9 r
 have hlen:=r.len
 refine ⟨⟨hp,by show l.length<=1000000;omega⟩,fun hc=>?_,fun _=>?_⟩
 ·rw [<-r.len,<-el] at hc
  simp at hc
 refine ⟨fun a=>∃ i:Nat,a.2.2.2.1=(i:Int)/\i<=x.1.2.2.length/\a.1=setOf (inT x.2 (surelyN s) i)/\a.2.1=(inT x.2 (couldN s) i).all id/\(∀ j,j<i->(hadN s j).2.1<=a.2.2.1)/\a.2.2.2.2.2.1=supsV s i/\a.2.2.2.2.2.2=ordsV x.2 i,fun a=>((x.1.2.2.length:Int) - a.2.2.2.1).toNat,⟨0,rfl,by omega,rfl,rfl,fun j hj=>by omega,rfl,rfl⟩,?_⟩
 rintro ⟨sure,some,last,i',z,sups,ords⟩ ⟨i,ei,hi,es,eo,hla,esu,eor⟩
 simp only at ei es eo hla esu eor
 subst ei es eo esu eor
 refine ⟨fun hdi=>?_,fun hdi=>?_⟩
 ·have hdi:(i:Int)<(x.1.2.2.length:Int):=of_decide_eq_true hdi
  have hil:i<x.1.2.2.length:=by omega
  have hi4:i<4:=by omega
  have hL:=F.last i hil
  have hT:=F.time i hi4
  have hE:=F.ends i hi4
  have hEn:=r.ends i hi4
  have h9:=r.R.ok.len9 hi4
  rw [r.pp] at h9
  dsimp only [dryN,zCo] at hL h9
  dsimp only
  rw [ydx]
  generalize (x.1.2.2.getD i ([],0)).1=dl at hL h9 ⊢
  generalize dl.getD ((dl.length:Int) - 1).toNat (0,0)=d at hL ⊢
  refine ⟨fun a=>∃ k:Nat,a.2=(k:Int)/\k<=ts.length/\a.1=endF x.1.1 (i:Nat) (l.take k) (ts.take k) 0,fun a=>((ts.length:Int) - a.2).toNat,⟨0,rfl,by omega,rfl⟩,?_⟩
  rintro ⟨en,k'⟩ ⟨k,ek,hk,een⟩
  simp only at ek een
  subst ek
  refine ⟨fun hdk=>?_,fun hdk=>?_⟩
  ·have hdk:(k:Int)<(ts.length:Int):=of_decide_eq_true hdk
   have hkt:k<ts.length:=by omega
   have hkl:k<l.length:=by omega
   have htb:=r.tb _ (zbS ts 0 k hkt)
   have hsn:=zhx x.1.1 ((i:Nat):Int) (l.getD k 0) (ts.getD k 0) (l.take k) (ts.take k) 0 (by rw [ybo,ybo,hlen])
   rw [<-zbo l 0 hkl,<-zbo ts 0 hkt] at hsn
   have hm:((ts.length:Int) - ((k:Int)+1)).toNat<((ts.length:Int) - (k:Int)).toNat:=by omega
   dsimp only
   rw [ydx]
   refine ⟨⟨by omega,by omega⟩,fun hc=>⟨⟨by omega,by omega⟩,by simp only [Z.in64];omega,by simp only [Z.in64];omega,by first | rfl | trivial,by first | rfl | trivial,by first | rfl | trivial,⟨k+1,rfl,hkt,?_⟩,hm⟩,fun hc=>⟨by simp only [Z.in64];omega,by first | rfl | trivial,by first | rfl | trivial,by first | rfl | trivial,⟨k+1,rfl,hkt,?_⟩,hm⟩⟩
   ·rw [hsn,hc,cond_true]
   ·rw [hsn,hc,cond_false];exact een
  have hdk:¬ (k:Int)<(ts.length:Int):=of_decide_eq_false hdk
  rw [ybT (by omega),ybT (by omega),<-hEn] at een
  dsimp only
  subst een
  rw [hL.2.1,hL.2.2]
  have hp2:∀ i,i<4->Z.in64 (1*2^i:Int)/\(0:Int)<=1*2^i:=by
   intro i hi
   have key:∀ i,i<4->(0:Int)<=1*2^i/\(1*2^i:Int)<=255:=of_decide_eq_true (by kernel_rfl)
   have:=key i hi
   generalize (1*2^i:Int)=y at this ⊢
   exact ⟨by simp only [Z.in64];omega,by omega⟩
  have hp2i:=hp2 i hi4
  have st:=zmJ (rb:=inT x.2 (surelyN s) i) (by rw [inT_len];omega)
  have bt:=(zlI (rb:=inT x.2 (surelyN s) i) (by rw [inT_len];omega)).1
  unfold steps at st
  rw [inT_len] at st
  have su:=zlt x.2 (surelyN s) i
  have co:=zlt x.2 (couldN s) i
  have e1:supsV s i++(yaa 1 (0,(0,0),0,0)).set 0 (1*2^i,(1,1),(couldN s i,surelyN s i))=supsV s (i+1):=by
   rw [supsV,supsV,ydL,yco];rfl
  have e2:ordsV x.2 i++(yaa 1 (0,0,0,0)).set 0 ((i:Int),1,x.2,1)=ordsV x.2 (i+1):=by
   rw [ordsV,ordsV,ydL,yco];rfl
  have e3:((inT x.2 (couldN s) i).all id&&decide (couldN s i<=x.2))=(inT x.2 (couldN s) (i+1)).all id:=by
   rw [co,List.all_append];simp
  have hla':∀ j,j<i+1->(hadN s j).2.1<=max last (hadN s i).2.1:=fun j hj=>by
   by_cases e:j=i
   ·subst e;omega
   ·have:=hla j (by omega);omega
  have hm:((x.1.2.2.length:Int) - ((i:Int)+1)).toNat<((x.1.2.2.length:Int) - (i:Int)).toNat:=by omega
  refine ⟨⟨by omega,by omega⟩,⟨by omega,by omega⟩,by simp only [Z.in64];omega,⟨by omega,by omega⟩,?_,?_,⟨⟨by omega,by omega⟩,hp2i.1⟩,?_,?_,fun hc=>⟨⟨⟨by omega,by omega⟩,hp2i.1⟩,⟨bt.1,hp2i.2⟩,by simp only [Z.in64];omega,⟨i+1,rfl,hil,?_,?_,hla',e1,e2⟩,hm⟩,fun hc=>⟨by simp only [Z.in64];omega,⟨i+1,rfl,hil,?_,?_,hla',e1,e2⟩,hm⟩⟩
  ·show Z.in64 (couldN s i)
   simp only [Z.in64];omega
  ·show Z.in64 (surelyN s i)
   simp only [Z.in64];omega
  ·rw [e1]
   simp only [supsV,ycL,ydU,Z.roomy];omega
  ·rw [e2]
   simp only [ordsV,ycL,ydU,Z.roomy];omega
  ·have hc:decide (surelyN s i<=x.2)=true:=hc
   rw [su,hc];exact st.1
  ·exact e3
  ·have hc:decide (surelyN s i<=x.2)=false:=hc
   rw [su,hc];exact st.2.symm
  ·exact e3
 have hdi:¬ (i:Int)<(x.1.2.2.length:Int):=of_decide_eq_false hdi
 have hin:i=x.1.2.2.length:=by omega
 subst hin
 dsimp only
 rw [zm hn.2 hd F.time,zkC hn.2 hd F.time]
 have ha:=inT_all (due:=x.2) (f:=surelyN s) (n:=x.1.2.2.length)
 have hb:=inT_all (due:=x.2) (f:=couldN s) (n:=x.1.2.2.length)
 have hdone:=F.done (B:=x.2) hd.1
 rw [<-ha] at hdone
 have hab:(inT x.2 (surelyN s) x.1.2.2.length).all id=true->(inT x.2 (couldN s) x.1.2.2.length).all id=true:=fun h=>by
  rw [hb]
  rw [ha] at h
  intro j hj
  have h1:=h j hj
  have h2:=F.time j (by omega)
  omega
 have bt:=zlI (rb:=inT x.2 (surelyN s) x.1.2.2.length) (by rw [inT_len];omega)
 unfold bits at bt
 rw [inT_len] at bt
 have hcl:∀ k,0<=cntB ((inT x.2 (surelyN s) x.1.2.2.length).take k)/\cntB ((inT x.2 (surelyN s) x.1.2.2.length).take k)<=4:=fun k=>by
  have:=List.countP_le_length (p:=id) (l:=(inT x.2 (surelyN s) x.1.2.2.length).take k)
  rw [ybo,inT_len] at this
  simp only [cntB]
  omega
 have hfull:(inT x.2 (surelyN s) x.1.2.2.length).take x.1.2.2.length=inT x.2 (surelyN s) x.1.2.2.length:=ybT (by rw [inT_len];exact Nat.le_refl _)
 have ed:decide (doneV s<=x.2)=(inT x.2 (surelyN s) x.1.2.2.length).all id:=zgN (by rw [decide_eq_true_eq];exact hdone)
 rw [ed]
 generalize hA:(inT x.2 (surelyN s) x.1.2.2.length).all id=A at ha hab hdone ⊢
 generalize (inT x.2 (couldN s) x.1.2.2.length).all id=B at hb hab ⊢
 have hmet:=wet last hla (cond A ((2:Int),(0:Int)) (cond B (1,0) (0,0))).1 (by
  rw [<-ha]
  cases A<;>cases B<;>simp)
 refine ⟨trivial,trivial,fun hbad=>?_,fun _=>?_⟩
 ·cases A<;>cases B<;>first | (simp at hbad;done) | (simp at hab;done)
 generalize hR:inT x.2 (surelyN s) x.1.2.2.length=rb at bt hcl hfull ⊢
 refine ⟨fun a=>∃ k:Nat,a.2=(k:Int)/\k<=x.1.2.2.length/\a.1=cntB rb - cntB (rb.take k),fun a=>((x.1.2.2.length:Int) - a.2).toNat,⟨0,rfl,by omega,?_⟩,?_⟩
 ·show cntB rb=cntB rb - cntB []
  show cntB rb=cntB rb - 0
  omega
 rintro ⟨pr,k'⟩ ⟨k,ek,hk,epr⟩
 simp only at ek epr
 subst ek
 refine ⟨fun hdk=>?_,fun hdk=>?_⟩
 ·have hdk:(k:Int)<(x.1.2.2.length:Int):=of_decide_eq_true hdk
  obtain ⟨b1,b2⟩:=bt.2 k (by omega)
  have c1:=hcl k
  have c2:=hcl (k+1)
  have c3:=hcl x.1.2.2.length
  rw [hfull] at c3
  have hm:((x.1.2.2.length:Int) - ((k:Int)+1)).toNat<((x.1.2.2.length:Int) - (k:Int)).toNat:=by omega
  dsimp only
  rw [ydx]
  refine ⟨⟨by omega,by omega⟩,⟨b1,by omega⟩,?_,by simp only [Z.in64];omega,by first | rfl | trivial,by first | rfl | trivial,by first | rfl | trivial,⟨k+1,rfl,by omega,?_⟩,hm⟩
  ·rw [b2]
   simp only [Z.in64];omega
  ·rw [b2];omega
 have hdk:¬ (k:Int)<(x.1.2.2.length:Int):=of_decide_eq_false hdk
 have hkn:k=x.1.2.2.length:=by omega
 subst hkn
 rw [hfull] at epr
 have epr:pr=0:=by omega
 subst epr
 dsimp only
 rw [ewet]
 have ew2:(wetV x.1 l x.2).2=0:=by rw [wet_is F hd]
 refine ⟨⟨hp,by show l.length<=1000000;omega⟩,fun hbad=>?_,fun _=>⟨fun _=>trivial,?_⟩⟩
 ·rw [ew2] at hbad
  cases hbad
 ·show (_&&true)=true
  rw [Bool.and_true];exact hmet
end Go.Tt
