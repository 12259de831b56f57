/-
  Sets of shades, box: what each function gives. No program in sight.
-/
import Derived.Test.YtdhdklojcppfcaaDoorSH
import Derived.Test.YtdhdklojcppfcaaDoorProg
set_option linter.all false
set_option maxRecDepth 100000
set_option maxHeartbeats 4000000
namespace Go.Td
open Go Go.Sx
abbrev I:Ty:=.i .i64
abbrev big:Nat:=1000000
def inB (n a b:Int):Bool:=decide (a<=n)&&decide (n<=b)
def ixF {α:Type} (p:α->Bool):List α->Int->Int
 | [],_=>-1
 | a::l,i=>cond (p a) i (ixF p l (i+1))
theorem inB_iff {n a b:Int}:inB n a b=true↔a<=n∧n<=b:=by simp [inB]
theorem bool_ext {a b:Bool} (h:a=true↔b=true):a=b:=by cases a<;>cases b<;>simp_all
theorem not_iff {a:Bool}:((!a)=true↔a=false)∧((!a)=false↔a=true):=by cases a<;>simp
theorem drop_getD {α:Type} (l:List α) (d:α) (i:Nat) (h:i<l.length):l.drop i=l.getD i d::l.drop (i+1):=by
 rw [List.drop_eq_getElem_cons h]
 simp [List.getD,h]
theorem drop_getD' {α:Type} (l:List α) (d:α) (i:Int) (h0:0<=i) (h:i<(l.length:Int)):l.drop i.toNat=l.getD i.toNat d::l.drop (i+1).toNat:=by
 have e:(i+1).toNat=i.toNat+1:=by omega
 rw [e]
 exact drop_getD l d _ (by omega)
theorem zbi {α:Type} (l:List α) (d:α) (i:Nat) (h:i<l.length):l.getD i d∈l:=by
 simp [List.getD,h]
theorem zcv {α:Type} (l:List α) (d:α) (i:Int) (h0:0<=i) (h:i<(l.length:Int)):l.getD i.toNat d∈l:=zbi l d _ (by omega)
theorem ixF_any {α:Type} (p:α->Bool):∀ (l:List α) (i:Int),0<=i->(0<=ixF p l i↔l.any p=true)
 | [],i,_=>by simp [ixF]
 | a::l,i,h=>by
  simp only [ixF,List.any_cons]
  cases ha:p a with
  | true=>simp [h]
  | false=>simpa using ixF_any p l (i+1) (by omega)
theorem any_ix {α:Type} (p:α->Bool) (l:List α):decide (0<=ixF p l 0)=l.any p:=by
 refine bool_ext ?_
 rw [decide_eq_true_eq]
 exact ixF_any p l 0 (by omega)
theorem any_not {α:Type} (p:α->Bool) (l:List α):(!l.any fun a=>!p a)=l.all p:=by
 induction l with
 | nil=>rfl
 | cons a l ih=>simp only [List.any_cons,List.all_cons,Bool.not_or,Bool.not_not,ih]
theorem ixF_loop {α:Type} (l:List α) (d:α) (F:Fun α Bool) (hl:l.length<=big) (hp:∀ a∈l,F.pre a) :
  Z.LoopP (X:=Int) 0 (fun s0 K0=>(((decide ((s0:Int)<(l.length:Int))=true)->(((0:Int)<=s0∧(s0:Int)<(l.length:Int))∧((F.pre (l.getD (Int.toNat s0) d))∧((((F.val (l.getD (Int.toNat s0) d))=true)->((s0:Int)=ixF F.val l 0))∧(((F.val (l.getD (Int.toNat s0) d))=false)->(Z.in64 (s0+1)∧(K0 (s0+1))))))))∧((decide ((s0:Int)<(l.length:Int))=false)->(((-1):Int)=ixF F.val l 0)))):=by
 refine ⟨fun s=>0<=s∧s<=(l.length:Int)∧ixF F.val l 0=ixF F.val (l.drop s.toNat) s,fun s=>((l.length:Int) - s).toNat,⟨by omega,by omega,rfl⟩,?_⟩
 rintro s ⟨h1,h2,h3⟩
 refine ⟨fun h=>?_,fun h=>?_⟩
 ·have h:=of_decide_eq_true h
  have e:=drop_getD' l d s h1 h
  refine ⟨⟨h1,h⟩,hp _ (zcv l d s h1 h),fun hv=>?_,fun hv=>⟨?_,⟨?_,?_,?_⟩,?_⟩⟩
  ·rw [h3,e,ixF,hv,cond_true]
  ·simp only [Z.in64];simp only [big] at hl;omega
  ·omega
  ·omega
  ·rw [h3,e,ixF,hv,cond_false]
  ·simp only;omega
 ·have h:=of_decide_eq_false h
  have e:l.drop s.toNat=[]:=List.drop_eq_nil_of_le (by omega)
  rw [h3,e,ixF]
theorem roomy_of {c n:Int} (hc:0<=c) (hc':c<=100) (hn:n<=1000001):Z.roomy c n:=by
 unfold Z.roomy
 have h1:n*(24*c+8)<=1000001*(24*c+8):=Int.mul_le_mul_of_nonneg_right hn (by omega)
 omega
abbrev Market:=(List Int) × (List Int) × List Int
abbrev Flow:=(Option Market) × (List (List Int)) × (List Int) × Int
abbrev topN:Int:=1048576
def hasB (s n:Int):Bool:=s.toNat.testBit n.toNat
def touchB (a b:Int):Bool:=!((((a.toNat &&& b.toNat:Nat):Int))==0)
def allV (n:Nat):Int:=2^n - 1
def selS (p:Nat->Bool):List Int->Nat->Int
 | [],_=>0
 | a::l,k=>cond (p k) a 0+selS p l (k+1)
def amount (n:Int):Prop:=0<=n∧n<=topN
def smallSet (s:Int):Prop:=0<=s∧s<=255
structure MarketOk (m:Market):Prop where
 a8:m.1.length<=8
 m8:m.2.1.length<=8
 len:m.2.2.length=m.2.1.length
 asked:∀ n∈m.1,amount n
 many:∀ n∈m.2.1,amount n
 serves:∀ s∈m.2.2,smallSet s
def mkt (o:Option Market):Market:=o.getD ([],[],[])
def optOk (o:Option Market):Prop:=o.isSome=true∧MarketOk (mkt o)
def getG (g:List (List Int)) (i k:Int):Int:=(g.getD i.toNat (List.replicate 8 0)).getD k.toNat 0
def setG (g:List (List Int)) (i k v:Int):List (List Int):=g.set i.toNat ((g.getD i.toNat (List.replicate 8 0)).set k.toNat v)
def rowS (g:List (List Int)) (i:Int) (n:Nat):Int:=((List.range n).map fun k=>getG g i (k:Nat)).sum
def colS (g:List (List Int)) (k:Int) (n:Nat):Int:=((List.range n).map fun i=>getG g (i:Nat) k).sum
def lackingV (f:Flow) (k:Int):Int:=(mkt f.1).1.getD k.toNat 0 - colS f.2.1 k (mkt f.1).2.1.length
def markV (f:Flow) (k:Int):Flow:=(f.1,f.2.1,f.2.2.1,((f.2.2.2.toNat ||| (1*2^k.toNat:Int).toNat:Nat):Int))
structure FlowOk (f:Flow):Prop where
 mo:optOk f.1
 g8:f.2.1.length=8
 r8:∀ r∈f.2.1,r.length=8
 c8:f.2.2.1.length=8
 cs:∀ s∈f.2.2.1,smallSet s
 seen:smallSet f.2.2.2
 pos:∀ i k:Nat,0<=getG f.2.1 (i:Nat) (k:Nat)
 can:∀ i k:Nat,0<getG f.2.1 (i:Nat) (k:Nat)->i<(mkt f.1).2.1.length∧k<(mkt f.1).1.length∧hasB ((mkt f.1).2.2.getD i 0) (k:Nat)=true∧hasB (f.2.2.1.getD i 0) (k:Nat)=false
 row:∀ i:Nat,i<(mkt f.1).2.1.length->rowS f.2.1 (i:Nat) 8<=(mkt f.1).2.1.getD i 0
 col:∀ k:Nat,k<(mkt f.1).1.length->colS f.2.1 (k:Nat) (mkt f.1).2.1.length<=(mkt f.1).1.getD k 0
def zan (x:List Int):List Int:=x
def zaY (x:List Int):Prop:=x.length<=1000
def srch (f:Int->Bool):Nat->Int->Int->Int
 | 0,i,_=>i
 | n+1,i,j=>cond (decide (i<j)) (cond (f (Int.fdiv (i+j) 2)) (srch f n i (Int.fdiv (i+j) 2)) (srch f n (Int.fdiv (i+j) 2+1) j)) i
def zdt (x:Int × Fun Int Bool):Int:=srch x.2.val x.1.toNat 0 x.1
def zds (x:Int × Fun Int Bool):Prop:=(0<=x.1∧x.1<=1152921504606846976)∧∀ i,0<=i->i<x.1->x.2.pre i
abbrev Pile:=Int × Int
abbrev Stock:=Int->Option Int
abbrev most40:Int:=1099511627776
def needB (n:Int):Bool:=inB n 0 48
def pileB (n:Nat) (p:Pile):Bool:=inB p.1 0 (allV n)&&inB p.2 0 topN
def maxV:List Int->Int
 | []=>0
 | a::l=>l.foldl max a
def boxB (need:List Int) (l:List Pile):Bool:=(((inB (need.length:Int) 1 8&&decide ((l.length:Int)<=8))&&need.all needB)&&l.all (pileB need.length))&&decide (0<maxV need)
structure BoxOk (need:List Int) (l:List Pile):Prop where
 n8:need.length<=8
 l8:l.length<=8
 need:∀ n∈need,0<=n∧n<=most40
 pile:∀ p∈l,smallSet p.1∧amount p.2
def sumV (s:Int) (l:List Int):Int:=selS (fun k=>hasB s (k:Nat)) l 0
def haveV:List Pile->Int->Int
 | [],_=>0
 | p::l,s=>cond (touchB s p.1) p.2 0+haveV l s
def setsV (n:Nat):List Int:=(List.range (2^n - 1)).map fun k=>((k+1:Nat):Int)
def stockV (k:Stock) (s:Int):Int:=((List.range 256).map fun t=>cond (touchB s (t:Nat)) ((k (t:Nat)).getD 0) 0).sum
def putV (k:Stock) (p:Pile):Stock:=@Z.mput Int Int (fun a b=>a==b) k p.1 ((k p.1).getD 0+p.2)
def newV (l:List Pile):Stock:=l.foldl putV fun _=>none
structure StockOk (k:Stock):Prop where
 key:∀ t v,k t=some v->smallSet t
 val:∀ t v,k t=some v->0<=v∧v<=1073741824
def worstV (d:Int->Int) (l:List Int):Int × Int:=l.foldl (fun b s=>cond (decide (b.2<d s)) (s,d s) b) (0,0)
def lacksV (need:List Int) (l:List Pile) (s:Int):Int:=sumV s need - haveV l s
def lackB (need:List Int) (l:List Pile):Int × Int:=worstV (lacksV need l) (setsV need.length)
def timesV (need:List Int) (n:Int):List Int:=need.map fun x=>x*n
def canF (need:List Int) (l:List Pile):Bool:=(lackB need l).2==0
def zaZ (x:Int × Int × Int):Bool:=inB x.1 x.2.1 x.2.2
def zbZ (_:Int × Int × Int):Prop:=True
def zbO (x:Int):Bool:=!needB x
def zbt (_:Int):Prop:=True
def zce (x:Pile × List Int):Bool:=!pileB x.2.length x.1
def zbT (x:Pile × List Int):Prop:=x.2.length<=8
def zaR (x:(List Int) × Fun Int Bool):Int:=ixF x.2.val x.1 0
def zby (x:(List Int) × Fun Int Bool):Prop:=x.1.length<=big∧∀ a∈x.1,x.2.pre a
def zar (x:(List Int) × Fun Int Bool):Bool:=x.1.any x.2.val
def zaU (x:(List Int) × Fun Int Bool):Prop:=x.1.length<=big∧∀ a∈x.1,x.2.pre a
def zaA (x:(List Pile) × Fun Pile Bool):Int:=ixF x.2.val x.1 0
def zaW (x:(List Pile) × Fun Pile Bool):Prop:=x.1.length<=big∧∀ a∈x.1,x.2.pre a
def zau (x:(List Pile) × Fun Pile Bool):Bool:=x.1.any x.2.val
def zaQ (x:(List Pile) × Fun Pile Bool):Prop:=x.1.length<=big∧∀ a∈x.1,x.2.pre a
def zbU (x:List Int):Int:=maxV x
def zct (x:List Int):Prop:=1<=x.length∧x.length<=big
def zdK (x:(List Int) × List Pile):Bool:=boxB x.1 x.2
def box_isValid_p (_:(List Int) × List Pile):Prop:=True
def zcm (x:Int × Int):Bool:=hasB x.1 x.2
def zdJ (x:Int × Int):Prop:=0<=x.1∧0<=x.2∧x.2<64
def zbW (x:Int × List Int):Int:=sumV x.1 x.2
def box_set_sum_p (x:Int × List Int):Prop:=0<=x.1∧x.2.length<=8∧∀ n∈x.2,0<=n∧n<=most40
def zbN (x:Int × Int):Bool:=touchB x.1 x.2
def zcT (x:Int × Int):Prop:=0<=x.1∧0<=x.2
def zcl (x:Int):List Int:=setsV x.toNat
def zdI (x:Int):Prop:=0<=x∧x<=8
def box_sets (x:Int):Sx.Seq Int:=⟨0<=x∧x<=8,setsV x.toNat⟩
def box_sets_p (_:Int):Prop:=True
def zcx (l:List Pile):Stock:=newV l
def box_newStock_p (l:List Pile):Prop:=l.length<=8∧∀ p∈l,smallSet p.1∧amount p.2
def zbn (x:Stock × Int):Int:=stockV x.1 x.2
def box_stock_of_p (x:Stock × Int):Prop:=StockOk x.1∧smallSet x.2
def zaO (x:Sx.Seq Int):List Int:=x.2
def zbX (x:Sx.Seq Int):Prop:=x.1∧x.2.length<=big
def zbG (x:Stock × (List Int) × List Int):Int × Int:=worstV (fun s=>sumV s x.2.1 - stockV x.1 s) x.2.2
def zdr (x:Stock × (List Int) × List Int):Prop:=StockOk x.1∧(x.2.1.length<=8∧∀ n∈x.2.1,0<=n∧n<=most40)∧x.2.2.length<=big∧∀ s∈x.2.2,smallSet s
def box_lack (x:(List Int) × List Pile):Int × Int:=lackB x.1 x.2
def box_lack_p (x:(List Int) × List Pile):Prop:=BoxOk x.1 x.2
def zab (x:List Pile):List Pile:=x
def zaL (x:List Pile):Prop:=x.length<=big
def zdq (x:(List Int) × Int):List Int:=timesV x.1 x.2
def box_times_p (x:(List Int) × Int):Prop:=x.1.length<=8∧(∀ n∈x.1,0<=n∧n<=48)∧0<=x.2∧x.2<=8388609
def box_can (x:(List Int) × List Pile):Bool:=canF x.1 x.2
def box_can_p (x:(List Int) × List Pile):Prop:=BoxOk x.1 x.2
def zbx (x:Int × Fun Int Bool):Bool:=!x.2.val (x.1+1)
def zbH (x:Int × Fun Int Bool):Prop:=(0<=x.1∧x.1<=most40)∧x.2.pre (x.1+1)
def greatV (n:Int) (p:Int->Bool):Int:=srch (fun k=>!p (k+1)) n.toNat 0 n
def zcz (x:Int × Fun Int Bool):Int:=greatV x.1 x.2.val
def zcf (x:Int × Fun Int Bool):Prop:=(0<=x.1∧x.1<=most40)∧∀ i,1<=i->i<=x.1->x.2.pre i
def zay (x:(List Int) × (List Pile) × Int):Int:=cond (boxB x.1 x.2.1) (cond (inB x.2.2 0 topN) 0 2) 1
def box_check_p (_:(List Int) × (List Pile) × Int):Prop:=True
abbrev noP:Pile:=(0,0)
def box_Fill_1 (x:Int × (List Int) × Int × List Pile):Bool:=canF (x.2.1.set x.2.2.1.toNat 0) (x.2.2.2.set 0 ((x.2.2.2.getD 0 noP).1,(x.2.2.2.getD 0 noP).2 - x.1))
def box_Fill_1u_p (x:Int × (List Int) × Int × List Pile):Prop:=BoxOk x.2.1 x.2.2.2∧(0<=x.2.2.1∧x.2.2.1<(x.2.1.length:Int))∧1<=x.2.2.2.length∧0<=x.1∧x.1<=(x.2.2.2.getD 0 noP).2
abbrev ownF (left:List Int) (k:Int) (rest:List Pile):Fun Int Bool:=⟨fun n=>box_Fill_1u_p (n,left,k,rest),fun n=>box_Fill_1 (n,left,k,rest)⟩
abbrev offS (s k:Int):Int:=((s.toNat ^^^ (s.toNat &&& (1*2^k.toNat:Int).toNat):Nat):Int)
abbrev zRow:List Int:=List.replicate 8 0
abbrev sold0:List (List Int):=List.replicate 8 zRow
abbrev FillS:=(List (List Int)) × (List Int) × List Pile
abbrev offP' (k:Int) (r:List Pile):List Pile:=r.set (Int.toNat 0) (offS (r.getD (Int.toNat 0) noP).1 k,(r.getD (Int.toNat 0) noP).2)
abbrev numF (left:List Int) (k:Int) (r:List Pile):Int:=zcz (min (r.getD (Int.toNat 0) noP).2 (left.getD k.toNat 0),ownF left k r)
abbrev takeP (n:Int) (r:List Pile):List Pile:=r.set (Int.toNat 0) ((r.getD (Int.toNat 0) noP).1,(r.getD (Int.toNat 0) noP).2 - n)
abbrev sellS (s:List (List Int)) (i k n:Int):List (List Int):=s.set i.toNat ((s.getD i.toNat zRow).set k.toNat n)
abbrev fillTo (i k:Int) (s:FillS) (r:List Pile):FillS:=(sellS s.1 i k (numF s.2.1 k r),s.2.1.set k.toNat (s.2.1.getD k.toNat 0 - numF s.2.1 k r),takeP (numF s.2.1 k r) r)
def fillStep (i k:Int) (s:FillS):FillS:=cond (hasB (s.2.2.getD (Int.toNat 0) noP).1 k) (fillTo i k s (offP' k s.2.2)) s
def fillRow (i:Int) (n:Nat) (s:FillS):FillS:=(List.range n).foldl (fun s k=>fillStep i (k:Nat) s) s
def packV (need:List Int) (l:List Pile) (m:Nat) (s:(List (List Int)) × List Int):(List (List Int)) × List Int :=
 (List.range m).foldl (fun s i=>((fillRow (i:Nat) need.length (s.1,s.2,l.drop i)).1,(fillRow (i:Nat) need.length (s.1,s.2,l.drop i)).2.1)) s
def fillAll (x:(List Int) × (List Pile) × Int):List (List Int):=(packV x.1 x.2.1 x.2.1.length (sold0,timesV x.1 x.2.2)).1
def zas (x:(List Int) × (List Pile) × Int):(List (List Int)) × Int:=cond (zay x==0) (cond (canF (timesV x.1 x.2.2) x.2.1) ((List.range x.2.1.length).map fun i=>((fillAll x).getD i zRow).take x.1.length,0) ([],10)) ([],zay x)
def box_Fill_p (_:(List Int) × (List Pile) × Int):Prop:=True
def zbf (x:Int × Int × Int):Bool:=inB x.1 x.2.1 x.2.2
def zcH (_:Int × Int × Int):Prop:=True
def zbe (x:Int):Int:=2^x.toNat
def ref09u_power_p (x:Int):Prop:=0<=x∧x<=8
def zbz (x:(List Int) × List Pile):Bool:=boxB x.1 x.2
def ref09u_Valid_p (_:(List Int) × List Pile):Prop:=True
def sumN (n:Nat) (f:Nat->Int):Int:=((List.range n).map f).sum
theorem sumN_zero (f:Nat->Int):sumN 0 f=0:=rfl
theorem zcG (n:Nat) (f:Nat->Int):sumN (n+1) f=sumN n f+f n:=by
 simp [sumN,List.range_succ]
theorem sumN_congr {n:Nat} {f g:Nat->Int} (h:∀ i,i<n->f i=g i):sumN n f=sumN n g:=by
 induction n with
 | zero=>rfl
 | succ n ih=>rw [zcG,zcG,ih fun i hi=>h i (by omega),h n (by omega)]
theorem sumN_le {n:Nat} {f g:Nat->Int} (h:∀ i,i<n->f i<=g i):sumN n f<=sumN n g:=by
 induction n with
 | zero=>exact Int.le_refl _
 | succ n ih =>
  have:=ih fun i hi=>h i (by omega)
  have:=h n (by omega)
  rw [zcG,zcG];omega
theorem sumN_const (n:Nat):sumN n (fun _=>0)=0:=by
 induction n with
 | zero=>rfl
 | succ n ih=>rw [zcG,ih];rfl
theorem sumN_nonneg {n:Nat} {f:Nat->Int} (h:∀ i,i<n->0<=f i):0<=sumN n f:=by
 have:=sumN_le h
 rwa [sumN_const] at this
theorem sumN_upd {n:Nat} {f g:Nat->Int} {k:Nat} (h:∀ i,i<n->i≠k->f i=g i):sumN n f=sumN n g+if k<n then f k - g k else 0:=by
 induction n with
 | zero=>simp [sumN_zero]
 | succ n ih =>
  rw [zcG,zcG,ih fun i hi=>h i (by omega)]
  by_cases e:k=n
  ·subst e
   simp
   omega
  ·rw [h n (by omega) fun e'=>e e'.symm]
   by_cases hk:k<n
   ·rw [if_pos hk,if_pos (by omega)];omega
   ·rw [if_neg hk,if_neg (by omega)];omega
theorem has_or {s:Int} {k j:Nat}:hasB ((s.toNat ||| (1*2^((k:Nat):Int).toNat:Int).toNat:Nat):Int) (j:Nat)=(hasB s (j:Nat)||decide (k=j)):=by
 have e:(1*2^((k:Nat):Int).toNat:Int).toNat=2^k:=by
  rw [Int.one_mul,Int.toNat_natCast]
  have:(2^k:Int)=((2^k:Nat):Int):=by simp
  rw [this,Int.toNat_natCast]
 rw [e]
 simp only [hasB,Int.toNat_natCast,Nat.testBit_or,Nat.testBit_two_pow]
theorem getG_set {g:List (List Int)} (h8:g.length=8) (hr:∀ r∈g,r.length=8) {i k:Nat} (hi:i<8) (hk:k<8) (v:Int) (j m:Nat) :
  getG (setG g (i:Nat) (k:Nat) v) (j:Nat) (m:Nat)=if j=i∧m=k then v else getG g (j:Nat) (m:Nat):=by
 have hrow:(g.getD i (List.replicate 8 0)).length=8:=by
  have:g.getD i (List.replicate 8 0)∈g:=zbi g _ i (by omega)
  exact hr _ this
 simp only [getG,setG,Int.toNat_natCast]
 by_cases e:j=i
 ·subst e
  have:(g.set j ((g.getD j (List.replicate 8 0)).set k v)).getD j (List.replicate 8 0)=(g.getD j (List.replicate 8 0)).set k v:=by
   simp [List.getD,show j<g.length from by omega]
  rw [this]
  by_cases e2:m=k
  ·subst e2
   have hm:m<(g.getD j (List.replicate 8 0)).length:=by omega
   rw [if_pos ⟨rfl,rfl⟩]
   have key:∀ l:List Int,m<l.length->(l.set m v).getD m 0=v:=fun l hl=>by simp [List.getD,hl]
   exact key _ hm
  ·rw [if_neg fun h=>e2 h.2]
   simp only [List.getD]
   rw [List.getElem?_set_ne (fun h=>e2 h.symm)]
 ·rw [if_neg fun h=>e h.1]
  have:(g.set i ((g.getD i (List.replicate 8 0)).set k v)).getD j (List.replicate 8 0)=g.getD j (List.replicate 8 0):=by
   simp only [List.getD]
   rw [List.getElem?_set_ne (fun h=>e h.symm)]
  rw [this]
theorem setG_dims {g:List (List Int)} (h8:g.length=8) (hr:∀ r∈g,r.length=8) {i k:Nat} (hi:i<8) (v:Int) :
  (setG g (i:Nat) (k:Nat) v).length=8∧∀ r∈setG g (i:Nat) (k:Nat) v,r.length=8:=by
 refine ⟨by simp [setG,h8],fun r hm=>?_⟩
 rcases List.mem_or_eq_of_mem_set hm with h | h
 ·exact hr r h
 ·rw [h,List.length_set]
  simp only [Int.toNat_natCast]
  exact hr _ (zbi g _ i (by omega))
theorem rowS_set {g:List (List Int)} (h8:g.length=8) (hr:∀ r∈g,r.length=8) {i k:Nat} (hi:i<8) (hk:k<8) (v:Int) (j:Nat) :
  rowS (setG g (i:Nat) (k:Nat) v) (j:Nat) 8=rowS g (j:Nat) 8+if j=i then v - getG g (i:Nat) (k:Nat) else 0:=by
 show sumN 8 _=sumN 8 _+_
 rw [sumN_upd (g:=fun m=>getG g (j:Nat) (m:Nat)) (k:=k)]
 ·rw [if_pos hk,getG_set h8 hr hi hk]
  by_cases e:j=i
  ·subst e;rw [if_pos ⟨rfl,rfl⟩,if_pos rfl]
  ·rw [if_neg fun h=>e h.1,if_neg e];omega
 ·intro m _ hm
  rw [getG_set h8 hr hi hk,if_neg fun h=>hm h.2]
theorem colS_set {g:List (List Int)} (h8:g.length=8) (hr:∀ r∈g,r.length=8) {i k:Nat} (hi:i<8) (hk:k<8) (v:Int) (m n:Nat) (hn:i<n) :
  colS (setG g (i:Nat) (k:Nat) v) (m:Nat) n=colS g (m:Nat) n+if m=k then v - getG g (i:Nat) (k:Nat) else 0:=by
 show sumN n _=sumN n _+_
 rw [sumN_upd (g:=fun j=>getG g (j:Nat) (m:Nat)) (k:=i)]
 ·rw [if_pos hn,getG_set h8 hr hi hk]
  by_cases e:m=k
  ·subst e;rw [if_pos ⟨rfl,rfl⟩,if_pos rfl]
  ·rw [if_neg fun h=>e h.2,if_neg e];omega
 ·intro j _ hj
  rw [getG_set h8 hr hi hk,if_neg fun h=>hj h.1]
abbrev NN (f:Flow):Nat:=(mkt f.1).1.length
abbrev MM (f:Flow):Nat:=(mkt f.1).2.1.length
abbrev gg (f:Flow) (i k:Nat):Int:=getG f.2.1 (i:Nat) (k:Nat)
def seenB (f:Flow) (k:Nat):Bool:=hasB f.2.2.2 (k:Nat)
def openB (f:Flow) (i k:Nat):Bool:=hasB ((mkt f.1).2.2.getD i 0) (k:Nat)&&!hasB (f.2.2.1.getD i 0) (k:Nat)
structure Closed (f:Flow) (S:Nat->Prop):Prop where
 full:∀ k,k<NN f->S k->lackingV f (k:Nat)=0
 back:∀ k,k<NN f->S k->∀ j,j<MM f->0<gg f j k->∀ k',k'<NN f->openB f j k'=true->S k'
structure Mild (f f':Flow):Prop where
 mo:f'.1=f.1
 cl:f'.2.2.1=f.2.2.1
 sm:smallSet f'.2.2.2
 grow:∀ k,seenB f k=true->seenB f' k=true
structure Gain (f f':Flow) (i:Nat) (n:Int):Prop where
 g8:f'.2.1.length=8
 r8:∀ r∈f'.2.1,r.length=8
 pos:∀ j k,0<=gg f' j k
 can:∀ j k,0<gg f' j k->j<MM f∧k<NN f∧openB f j k=true
 row:∀ j:Nat,rowS f'.2.1 (j:Nat) 8=rowS f.2.1 (j:Nat) 8+if j=i then n else 0
 col:∀ k:Nat,k<NN f->colS f'.2.1 (k:Nat) (MM f)<=(mkt f.1).1.getD k 0
 old:∀ k,seenB f k=true->∀ j,gg f' j k=gg f j k
 cut:∀ S:Nat->Prop,Closed f S->(∃ k,k<NN f∧openB f i k=true∧¬ S k)∧∀ k,k<NN f->S k->∀ j,gg f' j k=gg f j k
theorem FlowOk.n8 {f:Flow} (h:FlowOk f):NN f<=8:=h.mo.2.a8
theorem FlowOk.m8 {f:Flow} (h:FlowOk f):MM f<=8:=h.mo.2.m8
theorem FlowOk.op {f:Flow} (h:FlowOk f) {j k:Nat} (hp:0<gg f j k):j<MM f∧k<NN f∧openB f j k=true:=by
 obtain ⟨h1,h2,h3,h4⟩:=h.can j k hp
 exact ⟨h1,h2,by simp only [openB,h3,h4];rfl⟩
theorem FlowOk.other {f f':Flow} (h:FlowOk f) (hm:Mild f f') (hg:f'.2.1=f.2.1):FlowOk f':=by
 obtain ⟨a,b,c,d⟩:=f
 obtain ⟨a',b',c',d'⟩:=f'
 obtain ⟨rfl,rfl,h3,_⟩:=hm
 simp only at hg
 subst hg
 exact ⟨h.mo,h.g8,h.r8,h.c8,h.cs,h3,h.pos,h.can,h.row,h.col⟩
theorem Closed.other {f f':Flow} {S:Nat->Prop} (h:Closed f S) (h1:f'.1=f.1) (h2:f'.2.2.1=f.2.2.1) (hg:f'.2.1=f.2.1):Closed f' S:=by
 obtain ⟨a,b,c,d⟩:=f
 obtain ⟨a',b',c',d'⟩:=f'
 simp only at h1 h2 hg
 subst h1;subst h2;subst hg
 exact ⟨h.full,h.back⟩
theorem open_other {f f':Flow} (h1:f'.1=f.1) (h2:f'.2.2.1=f.2.2.1) (i k:Nat):openB f' i k=openB f i k:=by
 simp only [openB,h1,h2]
theorem Mild.trans {f g h:Flow} (a:Mild f g) (b:Mild g h):Mild f h:=⟨b.mo.trans a.mo,b.cl.trans a.cl,b.sm,fun k hk=>b.grow k (a.grow k hk)⟩
theorem mark_seen (f:Flow) (k j:Nat):seenB (markV f (k:Nat)) j=(seenB f j||decide (k=j)):=by
 show hasB _ _=_
 rw [markV,has_or];rfl
theorem countP_lt {α:Type} {p q:α->Bool}:∀ {l:List α} {a:α},a∈l->(∀ b∈l,q b=true->p b=true)->p a=true->q a=false->l.countP q<l.countP p
 | b::l,a,ha,hm,hp,hq=>by
  have hle:l.countP q<=l.countP p:=List.countP_mono_left fun c hc=>hm c (List.mem_cons_of_mem _ hc)
  rw [List.countP_cons,List.countP_cons]
  rcases List.mem_cons.1 ha with rfl | ha
  ·rw [hp,hq];simp;omega
  ·have ih:=countP_lt ha (fun c hc=>hm c (List.mem_cons_of_mem _ hc)) hp hq
   have:=hm b List.mem_cons_self
   cases hb:q b with
   | false=>simp;omega
   | true=>rw [this hb];simp;omega
structure Half (f f':Flow) (i k:Nat) (n:Int):Prop where
 g8:f'.2.1.length=8
 r8:∀ r∈f'.2.1,r.length=8
 pos:∀ j m,0<=gg f' j m
 can:∀ j m,0<gg f' j m->j<MM f∧m<NN f∧openB f j m=true
 row:∀ j:Nat,rowS f'.2.1 (j:Nat) 8=rowS f.2.1 (j:Nat) 8
 col:∀ m:Nat,m<NN f->colS f'.2.1 (m:Nat) (MM f)+(if m=k then n else 0)<=(mkt f.1).1.getD m 0
 old:∀ m,seenB f m=true->∀ j,gg f' j m=gg f j m
 cut:∀ S:Nat->Prop,Closed f S->¬ S k∧∀ m,m<NN f->S m->∀ j,gg f' j m=gg f j m
theorem Gain.half {f fc f':Flow} {i j k:Nat} {n:Int} (hf:FlowOk f) (hm:Mild (markV f (k:Nat)) fc) (hg:fc.2.1=f.2.1) (h:Gain fc f' j n) (hj:j<MM f) (hk:k<NN f)
  (hp:0<gg f j k) (hle:n<=gg f j k) (hn:0<n) (h0:lackingV f (k:Nat)=0) (hsf:seenB f k=false):Half f (f'.1,setG f'.2.1 (j:Nat) (k:Nat) (gg f' j k - n),f'.2.2) i k n:=by
 have hmo:fc.1=f.1:=hm.mo
 have hcl:fc.2.2.1=f.2.2.1:=hm.cl
 have hN:NN fc=NN f:=by rw [NN,hmo]
 have hM:MM fc=MM f:=by rw [MM,hmo]
 have hO:∀ a b,openB fc a b=openB f a b:=open_other hmo hcl
 have hG:∀ a b,gg fc a b=gg f a b:=fun a b=>by rw [gg,hg]
 have j8:j<8:=by have:=hf.m8;omega
 have k8:k<8:=by have:=hf.n8;omega
 have hsk:seenB fc k=true:=hm.grow k (by rw [mark_seen];simp)
 have hgs:=fun v a m=>getG_set h.g8 h.r8 j8 k8 v a m
 have hkc:∀ a,gg f' a k=gg f a k:=fun a=>(h.old k hsk a).trans (hG a k)
 refine ⟨(setG_dims h.g8 h.r8 j8 _).1,(setG_dims h.g8 h.r8 j8 _).2,fun a m=>?_,fun a m hp'=>?_,fun a=>?_,fun m hmn=>?_,fun m hsm a=>?_,fun S hS=>?_⟩
 ·show 0<=getG (setG _ _ _ _) _ _
  rw [hgs]
  split
  ·have:=hkc j;omega
  ·exact h.pos a m
 ·have hp':0<getG (setG f'.2.1 (j:Nat) (k:Nat) (gg f' j k - n)) (a:Nat) (m:Nat):=hp'
  rw [hgs] at hp'
  split at hp'
  ·rename_i e;rw [e.1,e.2];exact hf.op hp
  ·have:=h.can a m hp'
   rwa [hM,hN,hO] at this
 ·show rowS (setG _ _ _ _) _ _=_
  rw [rowS_set h.g8 h.r8 j8 k8,h.row,hg]
  show _+(if a=j then gg f' j k - n - gg f' j k else 0)=_
  by_cases e:a=j
  ·rw [if_pos e,if_pos e];omega
  ·rw [if_neg e,if_neg e];omega
 ·show colS (setG _ _ _ _) _ _+_<=_
  rw [colS_set h.g8 h.r8 j8 k8 _ _ _ hj]
  show _+(if m=k then gg f' j k - n - gg f' j k else 0)+_<=_
  have:=h.col m (by rw [hN];exact hmn)
  rw [hM,hmo] at this
  by_cases e:m=k
  ·rw [if_pos e,if_pos e];omega
  ·rw [if_neg e,if_neg e];omega
 ·show getG (setG _ _ _ _) _ _=_
  have hmk:seenB fc m=true:=hm.grow m (by rw [mark_seen,hsm];rfl)
  rw [hgs,if_neg]
  ·exact (h.old m hmk a).trans (hG a m)
  ·rintro ⟨_,rfl⟩;rw [hsf] at hsm;cases hsm
 ·have hS':Closed fc S:=hS.other hmo hcl hg
  obtain ⟨⟨k',h1,h2,h3⟩,h4⟩:=h.cut S hS'
  have hnk:¬ S k:=fun hSk=>h3 (hS.back k hk hSk j hj hp k' (by rwa [hN] at h1) (by rwa [hO] at h2))
  refine ⟨hnk,fun m hmn hSm a=>?_⟩
  show getG (setG _ _ _ _) _ _=_
  rw [hgs,if_neg]
  ·exact (h4 m (by rw [hN];exact hmn) hSm a).trans (hG a m)
  ·rintro ⟨_,rfl⟩;exact hnk hSm
end Go.Td
/-
 The program draws its orders;its maps are keyed by numbers.
-/
namespace Go.Td
open Go Go.Sx
theorem mixed:Go.Proofs.Tryd.prog.follows .mixedOrders=true:=by kernel_rfl
abbrev mapsL:List (Nat × Nat × Nat):=[(66,3,63),(67,3,63),(85,52,3),(86,52,3)]
theorem maps_ok (p:Nat × Nat × Nat) (hp:p∈mapsL):Go.Proofs.Tryd.prog.underlying p.1=some (.map p.2.1 p.2.2)∧Maps.Keyed Go.Proofs.Tryd.prog p.2.1∧Go.Proofs.Tryd.prog.keyType p.2.1=true:=by
 simp only [mapsL,List.mem_cons,List.not_mem_nil,or_false] at hp
 rcases hp with rfl | rfl | rfl | rfl
 all_goals exact ⟨by kernel_rfl,Maps.int_keyed (q:=.i64) (by kernel_rfl),by kernel_rfl⟩
end Go.Td
