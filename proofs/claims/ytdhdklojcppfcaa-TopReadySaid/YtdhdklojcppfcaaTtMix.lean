/-
  Small facts on lists and numbers, for the conditions of chapter 10. Plain Lean; no program in sight.
-/
import Derived.Test.YtdhdklojcppfcaaSH
import Derived.Test.YtdhdklojcppfcaaProg
set_option linter.all false
set_option maxRecDepth 100000
open Int renaming toNat->yby,toNat_natCast->ydx
open List renaming any_cons->ydw,getD->ydd,getElem?_set_ne->ybZ,range->yaf,replicate->yaa
open Go.Proofs.Try
namespace Go.Tt
open Go Go.Sx
abbrev I:Ty:=.i .i64
abbrev big:Nat:=1000000
def inB (n a b:Int):Bool:=decide (a<=n)&&decide (n<=b)
def ixF {α:Type} (p:α->Bool):List α->Int->Int
 | [],_=>-1
 | a::l,i=>cond (p a) i (ixF p l (i+1))
theorem inB_iff {n a b:Int}:inB n a b=true↔a<=n/\n<=b:=by simp [inB]
theorem zgN {a b:Bool} (h:a=true↔b=true):a=b:=by cases a<;>cases b<;>simp_all
theorem not_iff {a:Bool}:((!a)=true↔a=false)/\((!a)=false↔a=true):=by cases a<;>simp
theorem znd {α:Type} (l:List α) (d:α) (i:Nat) (h:i<l.length):l.drop i=l.getD i d::l.drop (i+1):=by
 rw [List.drop_eq_getElem_cons h]
 simp [ydd,h]
theorem zgb {α:Type} (l:List α) (d:α) (i:Int) (h0:0<=i) (h:i<(l.length:Int)):l.drop i.toNat=l.getD i.toNat d::l.drop (i+1).toNat:=by
 have e:(i+1).toNat=i.toNat+1:=by omega
 rw [e]
 exact znd l d _ (by omega)
theorem zbS {α:Type} (l:List α) (d:α) (i:Nat) (h:i<l.length):l.getD i d∈l:=by
 simp [ydd,h]
theorem zdr {α:Type} (l:List α) (d:α) (i:Int) (h0:0<=i) (h:i<(l.length:Int)):l.getD i.toNat d∈l:=zbS l d _ (by omega)
theorem ixF_any {α:Type} (p:α->Bool):∀ (l:List α) (i:Int),0<=i->(0<=ixF p l i↔l.any p=true)
 | [],i,_=>by simp [ixF]
 | a::l,i,h=>by
  simp only [ixF,ydw]
  cases ha:p a with
  | true=>simp [h]
  | false=>simpa using ixF_any p l (i+1) (by omega)
theorem any_ix {α:Type} (p:α->Bool) (l:List α):decide (0<=ixF p l 0)=l.any p:=by
 refine zgN ?_
 rw [decide_eq_true_eq]
 exact ixF_any p l 0 (by omega)
theorem any_not {α:Type} (p:α->Bool) (l:List α):(!l.any fun a=>!p a)=l.all p:=by
 induction l with
 | nil=>rfl
 | cons a l ih=>simp only [ydw,List.all_cons,Bool.not_or,Bool.not_not,ih]
theorem zlq {α:Type} (l:List α) (d:α) (F:Fun α Bool) (hl:l.length<=big) (hp:∀ a∈l,F.pre a) :
  Z.LoopP (X:=Int) 0 (fun s0 K0=>(((decide ((s0:Int)<(l.length:Int))=true)->(((0:Int)<=s0/\(s0:Int)<(l.length:Int))/\((F.pre (l.getD (yby s0) d))/\((((F.val (l.getD (yby s0) d))=true)->((s0:Int)=ixF F.val l 0))/\(((F.val (l.getD (yby s0) d))=false)->(Z.in64 (s0+1)/\(K0 (s0+1))))))))/\((decide ((s0:Int)<(l.length:Int))=false)->(((-1):Int)=ixF F.val l 0)))):=by
 refine ⟨fun s=>0<=s/\s<=(l.length:Int)/\ixF F.val l 0=ixF F.val (l.drop s.toNat) s,fun s=>((l.length:Int) - s).toNat,⟨by omega,by omega,rfl⟩,?_⟩
 rintro s ⟨h1,h2,h3⟩
 refine ⟨fun h=>?_,fun h=>?_⟩
 ·have h:=of_decide_eq_true h
  have e:=zgb l d s h1 h
  refine ⟨⟨h1,h⟩,hp _ (zdr l d s h1 h),fun hv=>?_,fun hv=>⟨?_,⟨?_,?_,?_⟩,?_⟩⟩
  ·rw [h3,e,ixF,hv,cond_true]
  ·simp only [Z.in64];simp only [big] at hl;omega
  ·omega
  ·omega
  ·rw [h3,e,ixF,hv,cond_false]
  ·simp only;omega
 ·have h:=of_decide_eq_false h
  have e:l.drop s.toNat=[]:=List.drop_eq_nil_of_le (by omega)
  rw [h3,e,ixF]
theorem zli {c n:Int} (hc:0<=c) (hc':c<=100) (hn:n<=1000001):Z.roomy c n:=by
 unfold Z.roomy
 have h1:n*(24*c+8)<=1000001*(24*c+8):=Int.mul_le_mul_of_nonneg_right hn (by omega)
 omega
abbrev Span:=Int × Int
def spanB (s:Span) (a b:Int):Bool:=decide (a<=s.1)&&(decide (s.1<=s.2)&&decide (s.2<=b))
theorem zea {s:Span} {a b:Int}:spanB s a b=true↔a<=s.1/\s.1<=s.2/\s.2<=b:=by simp [spanB]
end Go.Tt
/-
 Chapter 10: what each function of the program gives,in plain Lean. No program in sight.
-/
namespace Go.Tt
open Go Go.Sx
abbrev Supply:=Int × Span × Span
abbrev Order:=Int × Int × Int × Int
abbrev Sale:=(List Supply) × List Order
abbrev Market:=(List Int) × (List Int) × List Int
abbrev Flow:=(Option Market) × (List (List Int)) × (List Int) × Int
abbrev Truth:=Fun Supply Int × Fun Supply Int × Unit
abbrev topN:Int:=1048576
def supplyB (x:Supply):Bool:=inB x.1 0 255&&(spanB x.2.1 0 topN&&spanB x.2.2 0 topN)
def orderB (o:Order):Bool:=inB o.1 0 7&&(inB o.2.1 0 topN&&(inB o.2.2.1 0 topN&&inB o.2.2.2 0 1000000))
def saleB (s:Sale):Bool:=(decide ((s.1.length:Int)<=8)&&decide ((s.2.length:Int)<=8))&&(s.1.all supplyB&&s.2.all orderB)
def hasB (s n:Int):Bool:=s.toNat.testBit n.toNat
def bitN (b:Bool):Nat:=cond b 1 0
def setN:List Bool->Nat
 | []=>0
 | b::l=>bitN b+2*setN l
def setOf (l:List Bool):Int:=(setN l:Nat)
def touchB (a b:Int):Bool:=!((((a.toNat &&& b.toNat:Nat):Int))==0)
def subB (a b:Int):Bool:=(((a.toNat ^^^ (a.toNat &&& b.toNat):Nat):Int))==0
def setsTo (n:Nat):List Int:=(yaf n).map fun k=>((k:Nat):Int)
def partsV (x:Int):List Int:=(setsTo (x.toNat+1)).filter fun y=>subB y x
def sizeV (x:Int):Int:=(((yaf 8).countP fun k=>hasB x (k:Nat):Nat):Int)
def allV (n:Nat):Int:=2^n - 1
def selS (p:Nat->Bool):List Int->Nat->Int
 | [],_=>0
 | a::l,k=>cond (p k) a 0+selS p l (k+1)
def canB (shades ready:Int) (o:Order):Bool:=hasB shades o.1&&decide (ready<=o.2.2.1)
def marketV (many ready:Supply->Int) (s:Sale):Market:=(s.2.map fun o=>o.2.1,s.1.map many,s.1.map fun x=>setOf (s.2.map (canB x.1 (ready x))))
def worstMany (x:Supply):Int:=x.2.1.1
def worstReady (x:Supply):Int:=x.2.2.2
def bestMany (x:Supply):Int:=x.2.1.2
def bestReady (x:Supply):Int:=x.2.2.1
def worstM (s:Sale):Market:=marketV worstMany worstReady s
def bestM (s:Sale):Market:=marketV bestMany bestReady s
def lackM (m:Market) (X:Int):Int:=selS (fun k=>hasB X (k:Nat)) m.1 0 - selS (fun i=>touchB (m.2.2.getD i 0) X) m.2.1 0
def meetsM (m:Market) (X:Int):Bool:=(partsV X).all fun y=>!decide (0<lackM m y)
def priceV (l:List Order) (X:Int):Int:=selS (fun k=>hasB X (k:Nat)) (l.map fun o=>o.2.2.2) 0
def acceptV (P:Int->Int) (M:Int->Bool) (l:List Int):Int × Int:=l.foldl (fun b x=>cond (decide (b.2<P x)&&M x) (x,P x) b) (0,0)
def amount (n:Int):Prop:=0<=n/\n<=topN
def smallSet (s:Int):Prop:=0<=s/\s<=255
structure MarketOk (m:Market):Prop where
 a8:m.1.length<=8
 m8:m.2.1.length<=8
 len:m.2.2.length=m.2.1.length
 asked:∀ n∈m.1,amount n
 many:∀ n∈m.2.1,amount n
 serves:∀ s∈m.2.2,smallSet s
def mkt (o:Option Market):Market:=o.getD ([],[],[])
def optOk (o:Option Market):Prop:=o.isSome=true/\MarketOk (mkt o)
def zav (x:Int × Int × Int):Bool:=inB x.1 x.2.1 x.2.2
def zbO (_:Int × Int × Int):Prop:=True
def zbW (x:Span × Int × Int):Bool:=spanB x.1 x.2.1 x.2.2
def zdL (_:Span × Int × Int):Prop:=True
def zbP (x:Supply):Bool:=!supplyB x
def zcd (_:Supply):Prop:=True
def zck (x:Order):Bool:=!orderB x
def zcK (_:Order):Prop:=True
def zaq (x:(List Supply) × Fun Supply Bool):Int:=ixF x.2.val x.1 0
def zb (x:(List Supply) × Fun Supply Bool):Prop:=x.1.length<=big/\∀ a∈x.1,x.2.pre a
def zak (x:(List Supply) × Fun Supply Bool):Bool:=x.1.any x.2.val
def zaQ (x:(List Supply) × Fun Supply Bool):Prop:=x.1.length<=big/\∀ a∈x.1,x.2.pre a
def zar (x:(List Order) × Fun Order Bool):Int:=ixF x.2.val x.1 0
def zbg (x:(List Order) × Fun Order Bool):Prop:=x.1.length<=big/\∀ a∈x.1,x.2.pre a
def zaB (x:(List Order) × Fun Order Bool):Bool:=x.1.any x.2.val
def zaW (x:(List Order) × Fun Order Bool):Prop:=x.1.length<=big/\∀ a∈x.1,x.2.pre a
def zcr (x:Sale):Bool:=saleB x
def zdM (_:Sale):Prop:=True
def zcX (x:Unit × Supply):Int:=worstMany x.2
def zdA (_:Unit × Supply):Prop:=True
def zcH (x:Unit × Supply):Int:=worstReady x.2
def zdk (_:Unit × Supply):Prop:=True
def zdl (x:Unit × Supply):Int:=bestMany x.2
def zdX (_:Unit × Supply):Prop:=True
def zcY (x:Unit × Supply):Int:=bestReady x.2
def zdB (_:Unit × Supply):Prop:=True
def worstT:Truth:=(⟨fun y=>zdA ((),y),fun y=>zcX ((),y)⟩,⟨fun y=>zdk ((),y),fun y=>zcH ((),y)⟩,())
def bestT:Truth:=(⟨fun y=>zdX ((),y),fun y=>zdl ((),y)⟩,⟨fun y=>zdB ((),y),fun y=>zcY ((),y)⟩,())
def zeroT:Truth:=(⟨fun _=>False,fun _=>0⟩,⟨fun _=>False,fun _=>0⟩,())
def fates:List Truth:=((yaa 2 zeroT).set 0 worstT).set 1 bestT
def zac (x:Sale × Truth):Option Market:=some (marketV x.2.1.val x.2.2.1.val x.1)
def zcJ (x:Sale × Truth):Prop:=saleB x.1=true/\(∀ a,x.2.1.pre a)/\∀ a,x.2.2.1.pre a
def zaU (x:Int):Int:=x
def zbi (_:Int):Prop:=True
def zaO (x:Int × Int):Bool:=hasB x.1 x.2
def zaD (x:Int × Int):Prop:=0<=x.1/\0<=x.2/\x.2<64
def zaJ (x:Int × (Int->Option Bool)):Bool:=(x.2 x.1).getD false
def zaI (_:Int × (Int->Option Bool)):Prop:=True
def zbm (x:Order):Int:=x.2.2.2
def zbp (_:Order):Prop:=True
def zaN (x:(List Int) × Fun Int Bool × Fun Int Int):Int:=selS (fun k=>x.2.1.val (k:Nat)) (x.1.map x.2.2.val) 0
def zbV (x:(List Int) × Fun Int Bool × Fun Int Int):Prop:=x.1.length<=8/\(∀ k:Int,0<=k->k<8->x.2.1.pre k)/\∀ a∈x.1,x.2.2.pre a/\amount (x.2.2.val a)
def zbb (x:(List Order) × Fun Int Bool × Fun Order Int):Int:=selS (fun k=>x.2.1.val (k:Nat)) (x.1.map x.2.2.val) 0
def zcU (x:(List Order) × Fun Int Bool × Fun Order Int):Prop:=x.1.length<=8/\(∀ k:Int,0<=k->k<8->x.2.1.pre k)/\∀ a∈x.1,x.2.2.pre a/\amount (x.2.2.val a)
def zbR (x:(Option Market) × Int):Int:=lackM (mkt x.1) x.2
def zdb (x:(Option Market) × Int):Prop:=optOk x.1/\smallSet x.2
def zay (x:Option Market):Int:=allV (mkt x).1.length
def zcv (x:Option Market):Prop:=optOk x
def zbc (x:Int):List Int:=partsV x
def zda (x:Int):Prop:=smallSet x
def zbC (x:Int):Sx.Seq Int:=⟨smallSet x,partsV x⟩
def zcI (_:Int):Prop:=True
def zaA (x:(Option Market) × Int):Bool:=meetsM (mkt x.1) x.2
def zci (x:(Option Market) × Int):Prop:=optOk x.1/\smallSet x.2
def zeu (x:Int):Int:=sizeV x
def zan (x:Sale):Int × Int:=cond (saleB x) (cond (meetsM (worstM x) (allV x.2.length)) (2,0) (cond (meetsM (bestM x) (allV x.2.length)) (1,0) (0,0))) (0,1)
def zee (_:Sale):Prop:=True
def zaE (x:Sale):Int × Int × Int:=cond (saleB x) ((acceptV (priceV x.2) (meetsM (worstM x)) (partsV (allV x.2.length))).1,(acceptV (priceV x.2) (meetsM (worstM x)) (partsV (allV x.2.length))).2,0) (0,0,1)
def zf (_:Sale):Prop:=True
def getG (g:List (List Int)) (i k:Int):Int:=(g.getD i.toNat (yaa 8 0)).getD k.toNat 0
def setG (g:List (List Int)) (i k v:Int):List (List Int):=g.set i.toNat ((g.getD i.toNat (yaa 8 0)).set k.toNat v)
def rowS (g:List (List Int)) (i:Int) (n:Nat):Int:=((yaf n).map fun k=>getG g i (k:Nat)).sum
def colS (g:List (List Int)) (k:Int) (n:Nat):Int:=((yaf n).map fun i=>getG g (i:Nat) k).sum
def leftV (f:Flow) (i:Int):Int:=(mkt f.1).2.1.getD i.toNat 0 - rowS f.2.1 i 8
def lackingV (f:Flow) (k:Int):Int:=(mkt f.1).1.getD k.toNat 0 - colS f.2.1 k (mkt f.1).2.1.length
def markV (f:Flow) (k:Int):Flow:=(f.1,f.2.1,f.2.2.1,((f.2.2.2.toNat ||| (1*2^k.toNat:Int).toNat:Nat):Int))
structure FlowOk (f:Flow):Prop where
 mo:optOk f.1
 g8:f.2.1.length=8
 r8:∀ r∈f.2.1,r.length=8
 c8:f.2.2.1.length=8
 cs:∀ s∈f.2.2.1,smallSet s
 seen:smallSet f.2.2.2
 pos:∀ i k:Nat,0<=getG f.2.1 (i:Nat) (k:Nat)
 can:∀ i k:Nat,0<getG f.2.1 (i:Nat) (k:Nat)->i<(mkt f.1).2.1.length/\k<(mkt f.1).1.length/\hasB ((mkt f.1).2.2.getD i 0) (k:Nat)=true/\hasB (f.2.2.1.getD i 0) (k:Nat)=false
 row:∀ i:Nat,i<(mkt f.1).2.1.length->rowS f.2.1 (i:Nat) 8<=(mkt f.1).2.1.getD i 0
 col:∀ k:Nat,k<(mkt f.1).1.length->colS f.2.1 (k:Nat) (mkt f.1).2.1.length<=(mkt f.1).1.getD k 0
def zaC (x:List Int):List Int:=x
def zcu (x:List Int):Prop:=x.length<=1000
end Go.Tt
/-
 Chapter 10: what is pushed through a market. Plain Lean;no program in sight.
-/
set_option maxHeartbeats 1000000
namespace Go.Tt
open Go Go.Sx
def sumN (n:Nat) (f:Nat->Int):Int:=((yaf n).map f).sum
theorem zer (f:Nat->Int):sumN 0 f=0:=rfl
theorem zbA (n:Nat) (f:Nat->Int):sumN (n+1) f=sumN n f+f n:=by
 simp [sumN,List.range_succ]
theorem znJ (n:Nat) (f g:Nat->Int):sumN n (fun i=>f i - g i)=sumN n f - sumN n g:=by
 induction n with
 | zero=>rfl
 | succ n ih=>rw [zbA,zbA,zbA,ih];omega
theorem sumN_le {n:Nat} {f g:Nat->Int} (h:∀ i,i<n->f i<=g i):sumN n f<=sumN n g:=by
 induction n with
 | zero=>exact Int.le_refl _
 | succ n ih =>
  have:=ih fun i hi=>h i (by omega)
  have:=h n (by omega)
  rw [zbA,zbA];omega
theorem zlT (n:Nat):sumN n (fun _=>0)=0:=by
 induction n with
 | zero=>rfl
 | succ n ih=>rw [zbA,ih];rfl
theorem zgU {n:Nat} {f:Nat->Int} (h:∀ i,i<n->0<=f i):0<=sumN n f:=by
 have:=sumN_le h
 rwa [zlT] at this
theorem sumN_ge {n:Nat} {f:Nat->Int} (h:∀ i,i<n->0<=f i) {k:Nat} (hk:k<n):f k<=sumN n f:=by
 induction n with
 | zero=>omega
 | succ n ih =>
  rw [zbA]
  by_cases e:k=n
  ·subst e
   have:=zgU fun i (hi:i<k)=>h i (by omega)
   omega
  ·have:=ih (fun i hi=>h i (by omega)) (by omega)
   have:=h n (by omega)
   omega
theorem ziE {n:Nat} {f g:Nat->Int} {k:Nat} (h:∀ i,i<n->i≠k->f i=g i):sumN n f=sumN n g+if k<n then f k - g k else 0:=by
 induction n with
 | zero=>simp [zer]
 | succ n ih =>
  rw [zbA,zbA,ih fun i hi=>h i (by omega)]
  by_cases e:k=n
  ·subst e
   simp
   omega
  ·rw [h n (by omega) fun e'=>e e'.symm]
   by_cases hk:k<n
   ·rw [if_pos hk,if_pos (by omega)];omega
   ·rw [if_neg hk,if_neg (by omega)];omega
theorem has_or {s:Int} {k j:Nat}:hasB ((s.toNat ||| (1*2^((k:Nat):Int).toNat:Int).toNat:Nat):Int) (j:Nat)=(hasB s (j:Nat)||decide (k=j)):=by
 have e:(1*2^((k:Nat):Int).toNat:Int).toNat=2^k:=by
  rw [Int.one_mul,ydx]
  have:(2^k:Int)=((2^k:Nat):Int):=by simp
  rw [this,ydx]
 rw [e]
 simp only [hasB,ydx,Nat.testBit_or,Nat.testBit_two_pow]
theorem zeR {g:List (List Int)} (h8:g.length=8) (hr:∀ r∈g,r.length=8) {i k:Nat} (hi:i<8) (hk:k<8) (v:Int) (j m:Nat) :
  getG (setG g (i:Nat) (k:Nat) v) (j:Nat) (m:Nat)=if j=i/\m=k then v else getG g (j:Nat) (m:Nat):=by
 have hrow:(g.getD i (yaa 8 0)).length=8:=by
  have:g.getD i (yaa 8 0)∈g:=zbS g _ i (by omega)
  exact hr _ this
 simp only [getG,setG,ydx]
 by_cases e:j=i
 ·subst e
  have:(g.set j ((g.getD j (yaa 8 0)).set k v)).getD j (yaa 8 0)=(g.getD j (yaa 8 0)).set k v:=by
   simp [ydd,show j<g.length from by omega]
  rw [this]
  by_cases e2:m=k
  ·subst e2
   have hm:m<(g.getD j (yaa 8 0)).length:=by omega
   rw [if_pos ⟨rfl,rfl⟩]
   have key:∀ l:List Int,m<l.length->(l.set m v).getD m 0=v:=fun l hl=>by simp [ydd,hl]
   exact key _ hm
  ·rw [if_neg fun h=>e2 h.2]
   simp only [ydd]
   rw [ybZ (fun h=>e2 h.symm)]
 ·rw [if_neg fun h=>e h.1]
  have:(g.set i ((g.getD i (yaa 8 0)).set k v)).getD j (yaa 8 0)=g.getD j (yaa 8 0):=by
   simp only [ydd]
   rw [ybZ (fun h=>e h.symm)]
  rw [this]
theorem zfv {g:List (List Int)} (h8:g.length=8) (hr:∀ r∈g,r.length=8) {i k:Nat} (hi:i<8) (v:Int) :
  (setG g (i:Nat) (k:Nat) v).length=8/\∀ r∈setG g (i:Nat) (k:Nat) v,r.length=8:=by
 refine ⟨by simp [setG,h8],fun r hm=>?_⟩
 rcases List.mem_or_eq_of_mem_set hm with h | h
 ·exact hr r h
 ·rw [h,List.length_set]
  simp only [ydx]
  exact hr _ (zbS g _ i (by omega))
theorem zlh {g:List (List Int)} (h8:g.length=8) (hr:∀ r∈g,r.length=8) {i k:Nat} (hi:i<8) (hk:k<8) (v:Int) (j:Nat) :
  rowS (setG g (i:Nat) (k:Nat) v) (j:Nat) 8=rowS g (j:Nat) 8+if j=i then v - getG g (i:Nat) (k:Nat) else 0:=by
 show sumN 8 _=sumN 8 _+_
 rw [ziE (g:=fun m=>getG g (j:Nat) (m:Nat)) (k:=k)]
 ·rw [if_pos hk,zeR h8 hr hi hk]
  by_cases e:j=i
  ·subst e;rw [if_pos ⟨rfl,rfl⟩,if_pos rfl]
  ·rw [if_neg fun h=>e h.1,if_neg e];omega
 ·intro m _ hm
  rw [zeR h8 hr hi hk,if_neg fun h=>hm h.2]
theorem zlG {g:List (List Int)} (h8:g.length=8) (hr:∀ r∈g,r.length=8) {i k:Nat} (hi:i<8) (hk:k<8) (v:Int) (m n:Nat) (hn:i<n) :
  colS (setG g (i:Nat) (k:Nat) v) (m:Nat) n=colS g (m:Nat) n+if m=k then v - getG g (i:Nat) (k:Nat) else 0:=by
 show sumN n _=sumN n _+_
 rw [ziE (g:=fun j=>getG g (j:Nat) (m:Nat)) (k:=i)]
 ·rw [if_pos hn,zeR h8 hr hi hk]
  by_cases e:m=k
  ·subst e;rw [if_pos ⟨rfl,rfl⟩,if_pos rfl]
  ·rw [if_neg fun h=>e h.2,if_neg e];omega
 ·intro j _ hj
  rw [zeR h8 hr hi hk,if_neg fun h=>hj h.1]
abbrev NN (f:Flow):Nat:=(mkt f.1).1.length
abbrev MM (f:Flow):Nat:=(mkt f.1).2.1.length
abbrev gg (f:Flow) (i k:Nat):Int:=getG f.2.1 (i:Nat) (k:Nat)
def seenB (f:Flow) (k:Nat):Bool:=hasB f.2.2.2 (k:Nat)
def openB (f:Flow) (i k:Nat):Bool:=hasB ((mkt f.1).2.2.getD i 0) (k:Nat)&&!hasB (f.2.2.1.getD i 0) (k:Nat)
structure Closed (f:Flow) (S:Nat->Prop):Prop where
 full:∀ k,k<NN f->S k->lackingV f (k:Nat)=0
 back:∀ k,k<NN f->S k->∀ j,j<MM f->0<gg f j k->∀ k',k'<NN f->openB f j k'=true->S k'
structure Mild (f f':Flow):Prop where
 mo:f'.1=f.1
 cl:f'.2.2.1=f.2.2.1
 sm:smallSet f'.2.2.2
 grow:∀ k,seenB f k=true->seenB f' k=true
structure Fail (f f':Flow) (i:Nat):Prop where
 giv:f'.2.1=f.2.1
 own:∀ k,k<NN f->openB f i k=true->seenB f' k=true
 done:∀ k,k<NN f->seenB f' k=true->seenB f k=false->lackingV f (k:Nat)=0/\∀ j,j<MM f->0<gg f j k->∀ k',k'<NN f->openB f j k'=true->seenB f' k'=true
structure Gain (f f':Flow) (i:Nat) (n:Int):Prop where
 g8:f'.2.1.length=8
 r8:∀ r∈f'.2.1,r.length=8
 pos:∀ j k,0<=gg f' j k
 can:∀ j k,0<gg f' j k->j<MM f/\k<NN f/\openB f j k=true
 row:∀ j:Nat,rowS f'.2.1 (j:Nat) 8=rowS f.2.1 (j:Nat) 8+if j=i then n else 0
 col:∀ k:Nat,k<NN f->colS f'.2.1 (k:Nat) (MM f)<=(mkt f.1).1.getD k 0
 old:∀ k,seenB f k=true->∀ j,gg f' j k=gg f j k
 cut:∀ S:Nat->Prop,Closed f S->(∃ k,k<NN f/\openB f i k=true/\¬ S k)/\∀ k,k<NN f->S k->∀ j,gg f' j k=gg f j k
structure Result (f:Flow) (i:Nat) (most:Int) (r:Int × Flow):Prop where
 mild:Mild f r.2
 nn:0<=r.1
 le:r.1<=most
 fail:r.1=0->Fail f r.2 i
 gain:0<r.1->Gain f r.2 i r.1
theorem FlowOk.n8 {f:Flow} (h:FlowOk f):NN f<=8:=h.mo.2.a8
theorem FlowOk.m8 {f:Flow} (h:FlowOk f):MM f<=8:=h.mo.2.m8
theorem FlowOk.op {f:Flow} (h:FlowOk f) {j k:Nat} (hp:0<gg f j k):j<MM f/\k<NN f/\openB f j k=true:=by
 obtain ⟨h1,h2,h3,h4⟩:=h.can j k hp
 exact ⟨h1,h2,by simp only [openB,h3,h4];rfl⟩
theorem FlowOk.other {f f':Flow} (h:FlowOk f) (hm:Mild f f') (hg:f'.2.1=f.2.1):FlowOk f':=by
 obtain ⟨a,b,c,d⟩:=f
 obtain ⟨a',b',c',d'⟩:=f'
 obtain ⟨rfl,rfl,h3,_⟩:=hm
 simp only at hg
 subst hg
 exact ⟨h.mo,h.g8,h.r8,h.c8,h.cs,h3,h.pos,h.can,h.row,h.col⟩
theorem Closed.other {f f':Flow} {S:Nat->Prop} (h:Closed f S) (h1:f'.1=f.1) (h2:f'.2.2.1=f.2.2.1) (hg:f'.2.1=f.2.1):Closed f' S:=by
 obtain ⟨a,b,c,d⟩:=f
 obtain ⟨a',b',c',d'⟩:=f'
 simp only at h1 h2 hg
 subst h1;subst h2;subst hg
 exact ⟨h.full,h.back⟩
theorem zmc {f f':Flow} (h1:f'.1=f.1) (h2:f'.2.2.1=f.2.2.1) (i k:Nat):openB f' i k=openB f i k:=by
 simp only [openB,h1,h2]
theorem Mild.refl {f:Flow} (h:FlowOk f):Mild f f:=⟨rfl,rfl,h.seen,fun _ h=>h⟩
theorem Mild.trans {f g h:Flow} (a:Mild f g) (b:Mild g h):Mild f h:=⟨b.mo.trans a.mo,b.cl.trans a.cl,b.sm,fun k hk=>b.grow k (a.grow k hk)⟩
theorem zjV (f:Flow) (k j:Nat):seenB (markV f (k:Nat)) j=(seenB f j||decide (k=j)):=by
 show hasB _ _=_
 rw [markV,has_or];rfl
end Go.Tt
/-
 Chapter 10: pushes,what they do to a flow. Plain Lean;no program in sight.
-/
namespace Go.Tt
open Go Go.Sx
structure Half (f f':Flow) (i k:Nat) (n:Int):Prop where
 g8:f'.2.1.length=8
 r8:∀ r∈f'.2.1,r.length=8
 pos:∀ j m,0<=gg f' j m
 can:∀ j m,0<gg f' j m->j<MM f/\m<NN f/\openB f j m=true
 row:∀ j:Nat,rowS f'.2.1 (j:Nat) 8=rowS f.2.1 (j:Nat) 8
 col:∀ m:Nat,m<NN f->colS f'.2.1 (m:Nat) (MM f)+(if m=k then n else 0)<=(mkt f.1).1.getD m 0
 old:∀ m,seenB f m=true->∀ j,gg f' j m=gg f j m
 cut:∀ S:Nat->Prop,Closed f S->¬ S k/\∀ m,m<NN f->S m->∀ j,gg f' j m=gg f j m
theorem Half.gain {f f':Flow} {i k:Nat} {n:Int} (hf:FlowOk f) (h:Half f f' i k n) (hi:i<MM f) (hk:k<NN f) (ho:openB f i k=true) (hs:seenB f k=false) (hn:0<n) :
  Gain f (f'.1,setG f'.2.1 (i:Nat) (k:Nat) (gg f' i k+n),f'.2.2) i n:=by
 have i8:i<8:=by have:=hf.m8;omega
 have k8:k<8:=by have:=hf.n8;omega
 have hg:=fun v j m=>zeR h.g8 h.r8 i8 k8 v j m
 refine ⟨(zfv h.g8 h.r8 i8 _).1,(zfv h.g8 h.r8 i8 _).2,fun j m=>?_,fun j m hp=>?_,fun j=>?_,fun m hm=>?_,fun m hm j=>?_,fun S hS=>⟨⟨k,hk,ho,(h.cut S hS).1⟩,fun m hmn hm j=>?_⟩⟩
 ·show 0<=getG (setG _ _ _ _) _ _
  rw [hg]
  split
  ·have:=h.pos i k;omega
  ·exact h.pos j m
 ·have hp:0<getG (setG f'.2.1 (i:Nat) (k:Nat) (gg f' i k+n)) (j:Nat) (m:Nat):=hp
  rw [hg] at hp
  split at hp
  ·rename_i e;rw [e.1,e.2];exact ⟨hi,hk,ho⟩
  ·exact h.can j m hp
 ·show rowS (setG _ _ _ _) _ _=_
  rw [zlh h.g8 h.r8 i8 k8,h.row]
  show _+(if j=i then gg f' i k+n - gg f' i k else 0)=_
  by_cases e:j=i
  ·rw [if_pos e,if_pos e];omega
  ·rw [if_neg e,if_neg e]
 ·have:=h.col m hm
  show colS (setG _ _ _ _) _ _<=_
  rw [zlG h.g8 h.r8 i8 k8 _ _ _ hi]
  show _+(if m=k then gg f' i k+n - gg f' i k else 0)<=_
  by_cases e:m=k
  ·rw [if_pos e] at this ⊢;omega
  ·rw [if_neg e] at this ⊢;omega
 ·show getG (setG _ _ _ _) _ _=_
  rw [hg,if_neg]
  ·exact h.old m hm j
  ·rintro ⟨_,rfl⟩;rw [hs] at hm;cases hm
 ·show getG (setG _ _ _ _) _ _=_
  rw [hg,if_neg]
  ·exact (h.cut S hS).2 m hmn hm j
  ·rintro ⟨_,rfl⟩;exact (h.cut S hS).1 hm
theorem Gain.half {f fc f':Flow} {i j k:Nat} {n:Int} (hf:FlowOk f) (hm:Mild (markV f (k:Nat)) fc) (hg:fc.2.1=f.2.1) (h:Gain fc f' j n) (hj:j<MM f) (hk:k<NN f)
  (hp:0<gg f j k) (hle:n<=gg f j k) (hn:0<n) (h0:lackingV f (k:Nat)=0) (hsf:seenB f k=false):Half f (f'.1,setG f'.2.1 (j:Nat) (k:Nat) (gg f' j k - n),f'.2.2) i k n:=by
 have hmo:fc.1=f.1:=hm.mo
 have hcl:fc.2.2.1=f.2.2.1:=hm.cl
 have hN:NN fc=NN f:=by rw [NN,hmo]
 have hM:MM fc=MM f:=by rw [MM,hmo]
 have hO:∀ a b,openB fc a b=openB f a b:=zmc hmo hcl
 have hG:∀ a b,gg fc a b=gg f a b:=fun a b=>by rw [gg,hg]
 have j8:j<8:=by have:=hf.m8;omega
 have k8:k<8:=by have:=hf.n8;omega
 have hsk:seenB fc k=true:=hm.grow k (by rw [zjV];simp)
 have hgs:=fun v a m=>zeR h.g8 h.r8 j8 k8 v a m
 have hkc:∀ a,gg f' a k=gg f a k:=fun a=>(h.old k hsk a).trans (hG a k)
 refine ⟨(zfv h.g8 h.r8 j8 _).1,(zfv h.g8 h.r8 j8 _).2,fun a m=>?_,fun a m hp'=>?_,fun a=>?_,fun m hmn=>?_,fun m hsm a=>?_,fun S hS=>?_⟩
 ·show 0<=getG (setG _ _ _ _) _ _
  rw [hgs]
  split
  ·have:=hkc j;omega
  ·exact h.pos a m
 ·have hp':0<getG (setG f'.2.1 (j:Nat) (k:Nat) (gg f' j k - n)) (a:Nat) (m:Nat):=hp'
  rw [hgs] at hp'
  split at hp'
  ·rename_i e;rw [e.1,e.2];exact hf.op hp
  ·have:=h.can a m hp'
   rwa [hM,hN,hO] at this
 ·show rowS (setG _ _ _ _) _ _=_
  rw [zlh h.g8 h.r8 j8 k8,h.row,hg]
  show _+(if a=j then gg f' j k - n - gg f' j k else 0)=_
  by_cases e:a=j
  ·rw [if_pos e,if_pos e];omega
  ·rw [if_neg e,if_neg e];omega
 ·show colS (setG _ _ _ _) _ _+_<=_
  rw [zlG h.g8 h.r8 j8 k8 _ _ _ hj]
  show _+(if m=k then gg f' j k - n - gg f' j k else 0)+_<=_
  have:=h.col m (by rw [hN];exact hmn)
  rw [hM,hmo] at this
  by_cases e:m=k
  ·rw [if_pos e,if_pos e];omega
  ·rw [if_neg e,if_neg e];omega
 ·show getG (setG _ _ _ _) _ _=_
  have hmk:seenB fc m=true:=hm.grow m (by rw [zjV,hsm];rfl)
  rw [hgs,if_neg]
  ·exact (h.old m hmk a).trans (hG a m)
  ·rintro ⟨_,rfl⟩;rw [hsf] at hsm;cases hsm
 ·have hS':Closed fc S:=hS.other hmo hcl hg
  obtain ⟨⟨k',h1,h2,h3⟩,h4⟩:=h.cut S hS'
  have hnk:¬ S k:=fun hSk=>h3 (hS.back k hk hSk j hj hp k' (by rwa [hN] at h1) (by rwa [hO] at h2))
  refine ⟨hnk,fun m hmn hSm a=>?_⟩
  show getG (setG _ _ _ _) _ _=_
  rw [hgs,if_neg]
  ·exact (h4 m (by rw [hN];exact hmn) hSm a).trans (hG a m)
  ·rintro ⟨_,rfl⟩;exact hnk hSm
end Go.Tt
/-
 Chapter 10: pushes,by induction on how many orders were not seen. Plain Lean;no program in sight.
-/
namespace Go.Tt
open Go Go.Sx
structure FromR (f fc:Flow) (i k:Nat) (most:Int) (l:List Nat) (r:Int × Flow):Prop where
 mild:Mild fc r.2
 nn:0<=r.1
 le:r.1<=most
 giv:r.1=0->r.2.2.1=f.2.1
 oth:r.1=0->∀ j∈l,j≠i->0<gg f j k->∀ k',k'<NN f->openB f j k'=true->seenB r.2 k'=true
 done:r.1=0->∀ m,m<NN f->seenB r.2 m=true->seenB fc m=false->lackingV f (m:Nat)=0/\∀ j,j<MM f->0<gg f j m->∀ k',k'<NN f->openB f j k'=true->seenB r.2 k'=true
 half:0<r.1->Half f r.2 i k r.1
structure PushR (f:Flow) (i:Nat) (most:Int) (l:List Nat) (r:Int × Flow):Prop where
 mild:Mild f r.2
 nn:0<=r.1
 le:r.1<=most
 giv:r.1=0->r.2.2.1=f.2.1
 own:r.1=0->∀ k∈l,openB f i k=true->seenB r.2 k=true
 done:r.1=0->∀ m,m<NN f->seenB r.2 m=true->seenB f m=false->lackingV f (m:Nat)=0/\∀ j,j<MM f->j≠i->0<gg f j m->∀ k',k'<NN f->openB f j k'=true->seenB r.2 k'=true
 gain:0<r.1->Gain f r.2 i r.1
end Go.Tt
/-
 Chapter 10: what is filled is as much as can be. Plain Lean;no program in sight.
-/
namespace Go.Tt
open Go Go.Sx
def Spent (f:Flow) (i:Nat):Prop:=leftV f (i:Nat)=0\/∃ S:Nat->Prop,Closed f S/\∀ k,k<NN f->openB f i k=true->S k
structure DrainR (f f':Flow) (i:Nat):Prop where
 ok:FlowOk f'
 mo:f'.1=f.1
 cl:f'.2.2.1=f.2.2.1
 oth:∀ j:Nat,j≠i->leftV f' (j:Nat)=leftV f (j:Nat)
 own:Spent f' i
 keep:∀ S,Closed f S->Closed f' S
structure FillR (f f':Flow) (l:List Nat):Prop where
 ok:FlowOk f'
 mo:f'.1=f.1
 cl:f'.2.2.1=f.2.2.1
 oth:∀ j:Nat,j∉l->leftV f' (j:Nat)=leftV f (j:Nat)
 own:∀ i∈l,Spent f' i
 keep:∀ S,Closed f S->Closed f' S
structure IsFlow (m:Market) (op:Nat->Nat->Bool) (g:Nat->Nat->Int):Prop where
 pos:∀ i k,0<=g i k
 can:∀ i k,0<g i k->op i k=true
 row:∀ i,i<m.2.1.length->sumN m.1.length (g i)<=m.2.1.getD i 0
 col:∀ k,k<m.1.length->sumN m.2.1.length (fun i=>g i k)<=m.1.getD k 0
end Go.Tt
/-
 The program draws its orders.
-/
namespace Go.Tt
open Go Go.Sx
theorem mixed:prog.follows .mixedOrders=true:=by kernel_rfl
abbrev mapsL:List (Nat × Nat × Nat):=[(122,3,221),(123,3,221),(147,153,3),(148,153,3),(249,3,4),(282,4,281)]
theorem maps_ok (p:Nat × Nat × Nat) (hp:p∈mapsL):prog.underlying p.1=some (.map p.2.1 p.2.2)/\Maps.Keyed prog p.2.1/\prog.keyType p.2.1=true:=by
 simp only [mapsL,List.mem_cons,List.not_mem_nil,or_false] at hp
 rcases hp with rfl | rfl | rfl | rfl | rfl | rfl
 rotate_left 5
 ·exact ⟨by kernel_rfl,Maps.bool_keyed (by kernel_rfl),by kernel_rfl⟩
 all_goals exact ⟨by kernel_rfl,Maps.int_keyed (q:=.i64) (by kernel_rfl),by kernel_rfl⟩
end Go.Tt
