/-
  Small facts on lists and numbers, for the conditions of chapter 12. Plain Lean; no program in sight.
-/
import Derived.Test.YtdhdklojcppfcaaSH
import Derived.Test.YtdhdklojcppfcaaProg
import Derived.Test.YtdhdklojcppfcaaTtMix
set_option linter.all false
set_option maxRecDepth 100000
open Bool renaming and_eq_true->yac,and_false->ydV,and_true->yeb,cond_eq_ite->ybe,false_and->yea,not_and->ydW,true_and->yck
open Int renaming add_zero->ydI,lt_irrefl->ydU,toNat->yby,toNat_natCast->ydt
open List renaming all_cons->ybZ,any_cons->yds,drop_eq_nil_of_le->ydc,drop_length->ydZ,ext_getElem->ydT,getD->yda,getElem?_set->ybU,length_cons->ybT,length_replicate->ydY,length_set->ybV,mem_cons_of_mem->yal,mem_cons_self->yam,nil_append->ycL,range->yaf,replicate->yaa
open Nat renaming beq->yab,beq_refl->ycD,eq_of_beq_eq_true->yad
open Option renaming bind_eq_some_iff->ybc,bind_some->ydX,isSome_iff_exists->ydj
open Go.Proofs.Try
namespace Go.Fade
open Go Go.Sx
abbrev I:Ty:=.i .i64
abbrev big:Nat:=140737488355328
def inB (n a b:Int):Bool:=decide (a<=n)&&decide (n<=b)
def ixF {α:Type} (p:α->Bool):List α->Int->Int
 | [],_=>-1
 | a::l,i=>cond (p a) i (ixF p l (i+1))
theorem inB_iff {n a b:Int}:inB n a b=true↔a<=n/\n<=b:=by simp [inB]
theorem zhm {a b:Bool} (h:a=true↔b=true):a=b:=by cases a<;>cases b<;>simp_all
theorem not_iff {a:Bool}:((!a)=true↔a=false)/\((!a)=false↔a=true):=by cases a<;>simp
theorem zdt {α:Type} (l:List α) (d:α) (i:Nat) (h:i<l.length):l.drop i=l.getD i d::l.drop (i+1):=by
 rw [List.drop_eq_getElem_cons h]
 simp [yda,h]
theorem zcK {α:Type} (l:List α) (d:α) (i:Int) (h0:0<=i) (h:i<(l.length:Int)):l.drop i.toNat=l.getD i.toNat d::l.drop (i+1).toNat:=by
 have e:(i+1).toNat=i.toNat+1:=by omega
 rw [e]
 exact zdt l d _ (by omega)
theorem zao {α:Type} (l:List α) (d:α) (i:Nat) (h:i<l.length):l.getD i d∈l:=by
 simp [yda,h]
theorem zcv {α:Type} (l:List α) (d:α) (i:Int) (h0:0<=i) (h:i<(l.length:Int)):l.getD i.toNat d∈l:=zao l d _ (by omega)
theorem ixF_any {α:Type} (p:α->Bool):∀ (l:List α) (i:Int),0<=i->(0<=ixF p l i↔l.any p=true)
 | [],i,_=>by simp [ixF]
 | a::l,i,h=>by
  simp only [ixF,yds]
  cases ha:p a with
  | true=>simp [h]
  | false=>simpa using ixF_any p l (i+1) (by omega)
theorem any_ix {α:Type} (p:α->Bool) (l:List α):decide (0<=ixF p l 0)=l.any p:=by
 refine zhm ?_
 rw [decide_eq_true_eq]
 exact ixF_any p l 0 (by omega)
theorem any_not {α:Type} (p:α->Bool) (l:List α):(!l.any fun a=>!p a)=l.all p:=by
 induction l with
 | nil=>rfl
 | cons a l ih=>simp only [yds,ybZ,Bool.not_or,Bool.not_not,ih]
theorem zfR {α:Type} (l:List α) (d:α) (F:Fun α Bool) (hl:l.length<=big) (hp:∀ a∈l,F.pre a) :
  Z.LoopP (X:=Int) 0 (fun s0 K0=>(((decide ((s0:Int)<(l.length:Int))=true)->(((0:Int)<=s0/\(s0:Int)<(l.length:Int))/\((F.pre (l.getD (yby s0) d))/\((((F.val (l.getD (yby s0) d))=true)->((s0:Int)=ixF F.val l 0))/\(((F.val (l.getD (yby s0) d))=false)->(Z.in64 (s0+1)/\(K0 (s0+1))))))))/\((decide ((s0:Int)<(l.length:Int))=false)->(((-1):Int)=ixF F.val l 0)))):=by
 refine ⟨fun s=>0<=s/\s<=(l.length:Int)/\ixF F.val l 0=ixF F.val (l.drop s.toNat) s,fun s=>((l.length:Int) - s).toNat,⟨by omega,by omega,rfl⟩,?_⟩
 rintro s ⟨h1,h2,h3⟩
 refine ⟨fun h=>?_,fun h=>?_⟩
 ·have h:=of_decide_eq_true h
  have e:=zcK l d s h1 h
  refine ⟨⟨h1,h⟩,hp _ (zcv l d s h1 h),fun hv=>?_,fun hv=>⟨?_,⟨?_,?_,?_⟩,?_⟩⟩
  ·rw [h3,e,ixF,hv,cond_true]
  ·simp only [Z.in64];simp only [big] at hl;omega
  ·omega
  ·omega
  ·rw [h3,e,ixF,hv,cond_false]
  ·simp only;omega
 ·have h:=of_decide_eq_false h
  have e:l.drop s.toNat=[]:=ydc (by omega)
  rw [h3,e,ixF]
theorem zfG {c n:Int} (hc:0<=c) (hc':c<=100) (hn:n<=1000001):Z.roomy c n:=by
 unfold Z.roomy
 have h1:n*(24*c+8)<=1000001*(24*c+8):=Int.mul_le_mul_of_nonneg_right hn (by omega)
 omega
theorem mul_bd {a b A B:Int} (ha:0<=a/\a<=A) (hb:0<=b/\b<=B):0<=a*b/\a*b<=A*B :=
 ⟨Int.mul_nonneg ha.1 hb.1,Int.mul_le_mul ha.2 hb.2 hb.1 (by omega)⟩
theorem zhp {α:Type} (p:α->Bool) (l:List α) (d:α) (s:Int) (h0:0<=s) (h:s<(l.length:Int)):(l.drop s.toNat).all p=(p (l.getD s.toNat d)&&(l.drop (s+1).toNat).all p):=by
 rw [zcK l d s h0 h,ybZ]
theorem zbU {α:Type} (f:Nat->α) (d:α) {n i:Nat} (h:i<n):((yaf n).map f).getD i d=f i:=by
 simp [yda,h]
end Go.Fade
/-
 Chapter 12: what each function of the program gives,in plain Lean. No program in sight.
-/
namespace Go.Fade
open Go Go.Sx
abbrev Span:=Int × Int
abbrev Check:=Int × Int × Int × Bool
abbrev Fading:=(List Span) × (List Span) × Int × List Check
abbrev Rule:=Int × Int × Int
abbrev Bds:=List (List Int)
abbrev free:Int:=1099511627776
abbrev z27:List Int:=yaa 27 0
def gt (b:Bds) (i k:Nat):Int:=(b.getD i z27).getD k 0
def table (f:Nat->Nat->Int):Bds:=(yaf 27).map fun i=>(yaf 27).map (f i)
def newAt (b:Bds) (a c:Nat) (w:Int) (i k:Nat):Int:=cond (decide (gt b i a<free)&&decide (gt b c k<free)) (min (gt b i k) (gt b i a+w+gt b c k)) (gt b i k)
def okR (b:Bds) (r:Rule):Bool:=!decide (gt b r.2.1.toNat r.1.toNat+r.2.2<0)
def putR (b:Bds) (r:Rule):Bds:=cond (decide (gt b r.1.toNat r.2.1.toNat<=r.2.2)) b (table (newAt b r.1.toNat r.2.1.toNat r.2.2))
def enterL:Bds->List Rule->Option Bds
 | b,[]=>some b
 | b,r::l=>cond (okR b r) (enterL (putR b r) l) none
structure Small (b:Bds):Prop where
 len:b.length=27
 row:∀ i,i<27->(b.getD i z27).length=27
 low:∀ i k,i<27->k<27->-2199023255552<=gt b i k
 high:∀ i k,i<27->k<27->gt b i k<=2199023255552
def RuleOk (r:Rule):Prop:=(0<=r.1/\r.1<27)/\(0<=r.2.1/\r.2.1<27)/\-2199023255552<=r.2.2/\r.2.2<=2199023255552
def enterP:Bds->List Rule->Prop
 | _,[]=>True
 | b,r::l=>Small b/\RuleOk r/\(okR b r=true->enterP (putR b r) l)
def noBounds:Bds:=table fun i k=>cond (yab i k) 0 free
def spanB (s:Span) (a b:Int):Bool:=(decide (a<=s.1)&&decide (s.1<=s.2))&&decide (s.2<=b)
def less1 (a:Int):Int:=IntKind.wrap .i64 (a - 1)
def thingB (f:Fading) (what index:Int):Bool:=cond (what==0) (inB index 0 ((f.2.1.length:Int) - 1)) (cond (what==1) (inB index 0 (less1 f.2.2.1)) false)
def checkB (f:Fading) (c:Check):Bool:=inB c.1 0 (f.1.length:Int)&&thingB f c.2.1 c.2.2.1
def sizesB (f:Fading):Bool:=((decide ((f.1.length:Int)<=12)&&decide ((f.2.1.length:Int)<=8))&&inB f.2.2.1 0 6)&&decide ((f.2.2.2.length:Int)<=40)
def cardsB (f:Fading):Bool:=((sizesB f&&f.1.all (fun s=>spanB s 0 1000000))&&f.2.1.all (fun s=>spanB s 1 16777216))&&f.2.2.2.all (checkB f)
def plusV (p n:Int):Int:=cond (p==14) (p+8 - 1+n) (p+n)
def ofV (what index:Int):Int:=cond (what==1) (21+index) (13+index)
def ruleOf (c:Check):Rule:=cond c.2.2.2 (ofV c.2.1 c.2.2.1,c.1,0) (c.1,ofV c.2.1 c.2.2.1,-1)
def monthsL:List Span->Int->List Rule
 | [],_=>[]
 | s::l,i=>(i+1,i,s.2)::(i,i+1,-s.1)::monthsL l (i+1)
def refsL:List Span->Int->List Rule
 | [],_=>[]
 | s::l,k=>(13+k,0,s.2)::(0,13+k,-s.1)::(cond (decide (0<k)) [(13+(k - 1),13+k,-1)] []++refsL l (k+1))
def samplesL:Nat->Int->List Rule
 | 0,_=>[]
 | n+1,k=>(21+k,0,16777216)::(0,21+k,-1)::samplesL n (k+1)
def riseL (f:Fading):List Rule:=monthsL f.1 0++(refsL f.2.1 0++samplesL f.2.2.1.toNat 0)
def checksL (f:Fading):List Rule:=f.2.2.2.map ruleOf
def allL (f:Fading):List Rule:=riseL f++checksL f
def openV (f:Fading) (valid:Bool):(Option Bds) × Int :=
 cond (!cardsB f) (none,1) (cond (!valid) (none,2) (match enterL noBounds (allL f) with
  | none=>(none,6)
  | some b=>(some b,0)))
def sizeP (f:Fading):Prop:=f.1.length<=big/\f.2.1.length<=big/\f.2.2.2.length<=big
def aboveV (b:Option Bds) (p o:Int):Int:=gt (b.getD []) p.toNat o.toNat
def aboveP (b:Option Bds) (p o:Int):Prop:=b.isSome=true/\(0<=p/\p<27)/\(0<=o/\o<27)
def gradeGo (b:Option Bds) (own:Int):Nat->Int->Span->Span
 | 0,_,s=>s
 | n+1,k,s=>gradeGo b own n (k+1) (s.1+cond (decide (aboveV b (13+k) own<=0)) 1 0,s.2+cond (decide (0<=aboveV b own (13+k))) 1 0)
def gradeV (f:Fading) (index:Int):Span × Int :=
 let r:=openV f (inB index 0 (less1 f.2.2.1))
 cond (!(r.2==0)) ((0,0),r.2) (gradeGo r.1 (21+index) f.2.1.length 0 (0,0),0)
def numb {α:Type}:List α->Int->List (Int × α)
 | [],_=>[]
 | a::l,i=>(i,a)::numb l (i+1)
def zal (x:Int × Int × Int):Bool:=inB x.1 x.2.1 x.2.2
def zbW (_:Int × Int × Int):Prop:=True
def zen (x:Span × Int × Int):Bool:=spanB x.1 x.2.1 x.2.2
def zem (_:Span × Int × Int):Prop:=True
def zcq (x:Fading × Int × Int):Bool:=thingB x.1 x.2.1 x.2.2
def zfj (x:Fading × Int × Int):Prop:=x.1.2.1.length<=big
def za (x:Int × Int):Int:=plusV x.1 x.2
def zam (x:Int × Int):Prop:=(x.1=13\/x.1=14)/\0<=x.2/\x.2<=100
def fade_of (x:Int × Int):Int:=ofV x.1 x.2
def zkT (x:Int × Int):Prop:=(0<=x.1/\x.1<2)/\0<=x.2/\x.2<=100
def zdF (x:Fading):Bool:=cardsB x
def zfk (x:Fading):Prop:=sizeP x
def zbB (x:Span):Bool:=!spanB x 0 1000000
def zbs (_:Span):Prop:=True
def zce (x:Span):Bool:=!spanB x 1 16777216
def zbX (_:Span):Prop:=True
def zcS (x:Check × Fading):Bool:=!checkB x.2 x.1
def zcJ (x:Check × Fading):Prop:=x.2.2.1.length<=big
def zaf (x:(List Span) × Fun Span Bool):Bool:=x.1.any x.2.val
def zaC (x:(List Span) × Fun Span Bool):Prop:=x.1.length<=big/\∀ a∈x.1,x.2.pre a
def zaD (x:(List Check) × Fun Check Bool):Bool:=x.1.any x.2.val
def zaP (x:(List Check) × Fun Check Bool):Prop:=x.1.length<=big/\∀ a∈x.1,x.2.pre a
def zav (x:(List Span) × Fun Span Bool):Int:=ixF x.2.val x.1 0
def zbd (x:(List Span) × Fun Span Bool):Prop:=x.1.length<=big/\∀ a∈x.1,x.2.pre a
def zas (x:(List Check) × Fun Check Bool):Int:=ixF x.2.val x.1 0
def zaZ (x:(List Check) × Fun Check Bool):Prop:=x.1.length<=big/\∀ a∈x.1,x.2.pre a
def zay (x:(Option Bds) × Int × Int):Int:=aboveV x.1 x.2.1 x.2.2
def zaV (x:(Option Bds) × Int × Int):Prop:=aboveP x.1 x.2.1 x.2.2
def zcz (x:Int × Int):Rule:=(x.1,x.2,0)
def zcy (_:Int × Int):Prop:=True
def zcx (x:Int × Int):Rule:=(x.2,x.1,-1)
def zcw (_:Int × Int):Prop:=True
def zaG (_:Unit):Bool->Option (Fun (Int × Int) Rule):=fun k=>cond k (some ⟨zcy,zcz⟩) (some ⟨zcw,zcx⟩)
def zeL (_:Unit):Prop:=True
def zbA (_:Unit):Bds:=noBounds
def zex (_:Unit):Prop:=True
def zap (x:Bds × List Rule):Bds:=(enterL x.1 x.2).getD []
def zag (x:Bds × List Rule):Bool:=(enterL x.1 x.2).isSome
def zaU (x:Bds × List Rule):Prop:=x.2.length<=10/\enterP x.1 x.2
def zci (x:Bds × Fading):Bds:=(enterL x.1 (riseL x.2)).getD []
def zax (x:Bds × Fading):Bool:=(enterL x.1 (riseL x.2)).isSome
def zdG (x:Bds × Fading):Prop:=x.1=noBounds/\cardsB x.2=true
def zeo (x:Fading):Seq (Int × Rule):=⟨cardsB x=true,numb (checksL x) 0⟩
def zfW (x:Fading):Prop:=cardsB x=true
def zbl (x:Fading):List (Int × Rule):=numb (checksL x) 0
def zey (x:Fading):Prop:=cardsB x=true
def zel (x:Bds × Fading):Bds:=(enterL x.1 (allL x.2)).getD []
def zbh (x:Bds × Fading):Bool:=(enterL x.1 (allL x.2)).isSome
def zfi (x:Bds × Fading):Prop:=x.1=noBounds/\cardsB x.2=true
def zaA (x:Fading × Bool):(Option Bds) × Int:=openV x.1 x.2
def zhY (x:Fading × Bool):Prop:=sizeP x.1
def fade_Grade (x:Fading × Int):Span × Int:=gradeV x.1 x.2
def zeM (x:Fading × Int):Prop:=sizeP x.1
def zcs (x:Int × Int × Int):Bool:=inB x.1 x.2.1 x.2.2
def zdj (_:Int × Int × Int):Prop:=True
def zcG (x:Span × Int × Int):Bool:=spanB x.1 x.2.1 x.2.2
def zdZ (_:Span × Int × Int):Prop:=True
def zbJ (x:Fading × Int × Int):Bool:=thingB x.1 x.2.1 x.2.2
def zfe (x:Fading × Int × Int):Prop:=x.1.2.1.length<=big
def zbv (x:Fading):Bool:=cardsB x
def zff (x:Fading):Prop:=sizeP x
end Go.Fade
/- Written by a program of mine (wip/tools/gen.py): contexts and conditions of functions. -/
set_option maxHeartbeats 4000000
namespace Go.Fade
open Go Go.Sx
def T:Tabs:={
 tyL:=[(3,I),(4,.bo),(31,(.st (.p I I))),(36,I),(58,(.sl (.st (.p I I)))),(74,(.sl (.st (.p I (.p I (.p I .bo)))))),(76,(.st (.p (.sl (.st (.p I I))) (.p (.sl (.st (.p I I))) (.p I (.sl (.st (.p I (.p I (.p I .bo)))))))))),(89,(.st (.p I (.p I (.p I .bo))))),(164,(.rn (.arr 27 (.arr 27 I)))),(167,I),(234,(.sq true (.p I (.st (.p I (.p I I)))))),(235,(.sq true (.p I (.st (.p I (.p I I)))))),(238,(.st (.p I (.p I I)))),(240,(.arr 27 I)),(251,(.f1 (.st (.p I I)) .bo)),(274,(.f1 (.st (.p I (.p I (.p I .bo)))) .bo)),(277,(.arr 27 (.arr 27 I))),(278,(.st .u)),(280,(.f2 I (.st (.p I (.p I I))) .bo)),(281,(.f2 I I (.st (.p I (.p I I))))),(282,(.mp .bo (.f2 I I (.st (.p I (.p I I)))))),(285,(.sl (.st (.p I (.p I I))))),(302,(.arr 2 I))],
 elL:=[(58,31),(74,89),(285,238)],
 oneL:=[58,74,164],
 mtyL:=[(122,(3,221)),(123,(3,221)),(147,(153,3)),(148,(153,3)),(249,(3,4)),(282,(4,281))] }
def k92:Con:={ args:=[I,I,I],res:=[.bo],pre:=zbW,val:=zal }
def k183:Con:={ args:=[(.st (.p I I)),I,I],res:=[.bo],pre:=zem,val:=zen }
def k186:Con:={ args:=[(.st (.p (.sl (.st (.p I I))) (.p (.sl (.st (.p I I))) (.p I (.sl (.st (.p I (.p I (.p I .bo))))))))),I,I],res:=[.bo],pre:=zfj,val:=zcq }
def k93:Con:={ args:=[I,I],res:=[I],pre:=zam,val:=za }
def k191:Con:={ args:=[I,I],res:=[I],pre:=zkT,val:=fade_of }
def k182:Con:={ args:=[(.st (.p I I))],res:=[.bo],pre:=zbs,val:=zbB }
def k184:Con:={ args:=[(.st (.p I I))],res:=[.bo],pre:=zbX,val:=zce }
def k185:Con:={ args:=[(.st (.p I (.p I (.p I .bo)))),(.ref (.st (.p (.sl (.st (.p I I))) (.p (.sl (.st (.p I I))) (.p I (.sl (.st (.p I (.p I (.p I .bo))))))))))],res:=[.bo],pre:=zcJ,val:=zcS }
def k197:Con:={ args:=[(.sl (.st (.p I I))),(.f1 (.st (.p I I)) .bo)],res:=[I],pre:=zbd,val:=zav }
def k205:Con:={ args:=[(.sl (.st (.p I (.p I (.p I .bo))))),(.f1 (.st (.p I (.p I (.p I .bo)))) .bo)],res:=[I],pre:=zaZ,val:=zas }
def k170:Con:={ args:=[(.sl (.st (.p I I))),(.f1 (.st (.p I I)) .bo)],res:=[.bo],pre:=zaC,val:=zaf }
def k187:Con:={ args:=[(.sl (.st (.p I (.p I (.p I .bo))))),(.f1 (.st (.p I (.p I (.p I .bo)))) .bo)],res:=[.bo],pre:=zaP,val:=zaD }
def k145:Con:={ args:=[(.st (.p (.sl (.st (.p I I))) (.p (.sl (.st (.p I I))) (.p I (.sl (.st (.p I (.p I (.p I .bo)))))))))],res:=[.bo],pre:=zfk,val:=zdF }
def k94:Con:={ args:=[(.rn (.arr 27 (.arr 27 I))),I,I],res:=[I],pre:=zaV,val:=zay }
def k206:Con:={ args:=[I,I],res:=[(.st (.p I (.p I I)))],pre:=zcy,val:=zcz }
def k207:Con:={ args:=[I,I],res:=[(.st (.p I (.p I I)))],pre:=zcw,val:=zcx }
def k190:Con:={ args:=[],res:=[(.mp .bo (.f2 I I (.st (.p I (.p I I)))))],pre:=zeL,val:=zaG }
def k146:NCon:={ args:=[],res:=[(.arr 27 (.arr 27 I))],pos:=0,el:=0,box:=true,pre:=zex,val:=zbA }
def k151:PCon:={ l:={ args:=[.box (.arr 27 (.arr 27 I)),.d (.sl (.st (.p I (.p I I))))],ncap:=0,res:=[],row:=none,minv:=fun _=>⟨.u,.u,fun _ _=>True⟩,pre:=zaU,val:=zap },exn:=278,ok:=zag }
def k149:PCon:={ l:={ args:=[.box (.arr 27 (.arr 27 I)),.d (.st (.p (.sl (.st (.p I I))) (.p (.sl (.st (.p I I))) (.p I (.sl (.st (.p I (.p I (.p I .bo)))))))))],ncap:=0,res:=[],row:=none,minv:=fun _=>⟨.u,.u,fun _ _=>True⟩,pre:=zdG,val:=zci },exn:=278,ok:=zax }
def k189:ICon:={ args:=[(.ref (.st (.p (.sl (.st (.p I I))) (.p (.sl (.st (.p I I))) (.p I (.sl (.st (.p I (.p I (.p I .bo))))))))))],two:=true,elt:=(.p I (.st (.p I (.p I I)))),pre:=zey,seq:=zbl }
def k150:Con:={ args:=[(.st (.p (.sl (.st (.p I I))) (.p (.sl (.st (.p I I))) (.p I (.sl (.st (.p I (.p I (.p I .bo)))))))))],res:=[(.sq true (.p I (.st (.p I (.p I I)))))],pre:=zfW,val:=zeo }
def k148:PCon:={ l:={ args:=[.via (.arr 27 (.arr 27 I)),.d (.ref (.st (.p (.sl (.st (.p I I))) (.p (.sl (.st (.p I I))) (.p I (.sl (.st (.p I (.p I (.p I .bo))))))))))],ncap:=2,res:=[],row:=none,minv:=fun _=>⟨.u,.u,fun _ _=>True⟩,pre:=zfi,val:=zel },exn:=278,ok:=zbh }
def k91:Con:={ args:=[(.st (.p (.sl (.st (.p I I))) (.p (.sl (.st (.p I I))) (.p I (.sl (.st (.p I (.p I (.p I .bo))))))))),.bo],res:=[(.rn (.arr 27 (.arr 27 I))),I],pre:=zhY,val:=zaA }
def k29:Con:={ args:=[(.st (.p (.sl (.st (.p I I))) (.p (.sl (.st (.p I I))) (.p I (.sl (.st (.p I (.p I (.p I .bo))))))))),I],res:=[(.st (.p I I)),I],pre:=zeM,val:=fade_Grade }
def k89:Con:={ args:=[I,I,I],res:=[.bo],pre:=zdj,val:=zcs }
def k88:Con:={ args:=[(.st (.p I I)),I,I],res:=[.bo],pre:=zdZ,val:=zcG }
def k90:Con:={ args:=[(.st (.p (.sl (.st (.p I I))) (.p (.sl (.st (.p I I))) (.p I (.sl (.st (.p I (.p I (.p I .bo))))))))),I,I],res:=[.bo],pre:=zfe,val:=zbJ }
def k27:Con:={ args:=[(.st (.p (.sl (.st (.p I I))) (.p (.sl (.st (.p I I))) (.p I (.sl (.st (.p I (.p I (.p I .bo)))))))))],res:=[.bo],pre:=zff,val:=zbv }
def cx92:Cx:=mkCx T 15 [] [] [] [] [] [] [] none
abbrev yZU:=(Prod Int (Prod Int Int))
abbrev yZT:=(List (List Int))
abbrev yZS:=(List (Int × Int))
abbrev yZR:=(Int × Int × Int × Bool)
abbrev yZQ:=(Prod Int Int)
abbrev yZP:=(Prod (Option yZT) Int)
abbrev yZO:=(Prod Int yZT)
abbrev yZN:=(yZS × yZS × Int × List yZR)
abbrev yZM:=(List (Prod Int yZU))
abbrev yZL:=((Prod Int (Prod Int (Prod Int Bool))))
def V92 (x:Int × Int × Int):Prop:=(((decide ((x.2.1:Int)<=x.1)&&decide ((x.1:Int)<=x.2.2)):Bool)=(zal x))
theorem e92 (x:Ds k92.args):vcFun cx92 f92 k92 x=V92 x:=by kernel_rfl
def cx183:Cx:=mkCx T 24 [] [] [] [] [] [] [] none
def V183 (x:(Int × Int) × Int × Int):Prop:=((((decide ((x.2.1:Int)<=x.1.1)&&decide ((x.1.1:Int)<=x.1.2))&&decide ((x.1.2:Int)<=x.2.2)):Bool)=(zen x))
theorem e183 (x:Ds k183.args):vcFun cx183 f183 k183 x=V183 x:=by kernel_rfl
def cx186:Cx:=withW [21] <| mkCx T 23 [(92,k92)] [] [] [] [] [] [] none
def V186 (x:yZN × Int × Int):Prop:=((((x.2.1==0)=true)->(Z.in64 ((x.1.2.1.length:Int) - 1)/\((zbW (x.2.2,0,((x.1.2.1.length:Int) - 1)))/\(((zal (x.2.2,0,((x.1.2.1.length:Int) - 1))):Bool)=(zcq x)))))/\(((x.2.1==0)=false)->((((x.2.1==1)=true)->((zbW (x.2.2,0,(Go.IntKind.wrap .i64 (x.1.2.2.1 - 1))))/\(((zal (x.2.2,0,(Go.IntKind.wrap .i64 (x.1.2.2.1 - 1)))):Bool)=(zcq x))))/\(((x.2.1==1)=false)->((false:Bool)=(zcq x))))))
theorem e186 (x:Ds k186.args):vcFun cx186 f186 k186 x=V186 x:=by kernel_rfl
def cx93:Cx:=mkCx T 15 [] [] [] [] [] [] [] none
def V93 (x:Int × Int):Prop:=((((x.1==14)=true)->(Z.in64 (x.1+8)/\(Z.in64 ((x.1+8) - 1)/\(Z.in64 (((x.1+8) - 1)+x.2)/\(((((x.1+8) - 1)+x.2):Int)=(za x))))))/\(((x.1==14)=false)->(Z.in64 (x.1+x.2)/\(((x.1+x.2):Int)=(za x)))))
theorem e93 (x:Ds k93.args):vcFun cx93 f93 k93 x=V93 x:=by kernel_rfl
def cx191:Cx:=mkCx T 10 [(93,k93)] [] [] [] [] [] [] none
def V191 (x:Int × Int):Prop:=(((0:Int)<=x.1/\(x.1:Int)<2)/\((zam (((((yaa 2 0).set 0 13).set 1 14).getD (yby x.1) 0),x.2))/\(((za (((((yaa 2 0).set 0 13).set 1 14).getD (yby x.1) 0),x.2)):Int)=(fade_of x))))
theorem e191 (x:Ds k191.args):vcFun cx191 f191 k191 x=V191 x:=by kernel_rfl
def cx182:Cx:=mkCx T 6 [(183,k183)] [] [] [] [] [] [] none
def V182 (x:Int × Int):Prop:=((zem (x,0,1000000))/\(((!(zen (x,0,1000000))):Bool)=(zbB x)))
theorem e182 (x:Ds k182.args):vcFun cx182 f182 k182 x=V182 x:=by kernel_rfl
def cx184:Cx:=mkCx T 6 [(183,k183)] [] [] [] [] [] [] none
def V184 (x:Int × Int):Prop:=((zem (x,1,16777216))/\(((!(zen (x,1,16777216))):Bool)=(zce x)))
theorem e184 (x:Ds k184.args):vcFun cx184 f184 k184 x=V184 x:=by kernel_rfl
def cx185:Cx:=mkCx T 20 [(92,k92),(186,k186)] [] [] [] [] [] [] none
def V185 (x:yZR × yZS × yZS × Int × List yZR):Prop:=((zbW (x.1.1,0,(x.2.1.length:Int)))/\((((!(zal (x.1.1,0,(x.2.1.length:Int))))=false)->(zfj (x.2,x.1.2.1,x.1.2.2.1)))/\((((!(zal (x.1.1,0,(x.2.1.length:Int))))||(!(zcq (x.2,x.1.2.1,x.1.2.2.1)))):Bool)=(zcS x))))
theorem e185 (x:Ds k185.args):vcFun cx185 f185 k185 x=V185 x:=by kernel_rfl
def cx197:Cx:=mkCx T 19 [] [] [] [] [] [(2,⟨[(8,false)],[],[],[]⟩)] [] none
def V197 (x:yZS × Go.Sx.Fun (Int × Int) Bool):Prop:=Z.LoopP (X:=Int) (0) (fun s0 K0=>(((decide ((s0:Int)<(x.1.length:Int))=true)->(((0:Int)<=s0/\(s0:Int)<(x.1.length:Int))/\((x.2.pre (x.1.getD (yby s0) (0,0)))/\((((x.2.val (x.1.getD (yby s0) (0,0)))=true)->((s0:Int)=(zav x)))/\(((x.2.val (x.1.getD (yby s0) (0,0)))=false)->(Z.in64 (s0+1)/\(K0 (s0+1))))))))/\((decide ((s0:Int)<(x.1.length:Int))=false)->(((-1):Int)=(zav x)))))
theorem e197 (x:Ds k197.args):vcFun cx197 f197 k197 x=V197 x:=by kernel_rfl
def cx205:Cx:=mkCx T 19 [] [] [] [] [] [(2,⟨[(8,false)],[],[],[]⟩)] [] none
def V205 (x:(List yZR) × Go.Sx.Fun yZR Bool):Prop:=Z.LoopP (X:=Int) (0) (fun s0 K0=>(((decide ((s0:Int)<(x.1.length:Int))=true)->(((0:Int)<=s0/\(s0:Int)<(x.1.length:Int))/\((x.2.pre (x.1.getD (yby s0) (0,0,0,false)))/\((((x.2.val (x.1.getD (yby s0) (0,0,0,false)))=true)->((s0:Int)=(zas x)))/\(((x.2.val (x.1.getD (yby s0) (0,0,0,false)))=false)->(Z.in64 (s0+1)/\(K0 (s0+1))))))))/\((decide ((s0:Int)<(x.1.length:Int))=false)->(((-1):Int)=(zas x)))))
theorem e205 (x:Ds k205.args):vcFun cx205 f205 k205 x=V205 x:=by kernel_rfl
def cx170:Cx:=mkCx T 9 [(197,k197)] [] [] [] [] [] [] none
def V170 (x:yZS × Go.Sx.Fun (Int × Int) Bool):Prop:=((zbd (x.1,x.2))/\((decide ((0:Int)<=(zav (x.1,x.2))):Bool)=(zaf x)))
theorem e170 (x:Ds k170.args):vcFun cx170 f170 k170 x=V170 x:=by kernel_rfl
def cx187:Cx:=mkCx T 9 [(205,k205)] [] [] [] [] [] [] none
def V187 (x:(List yZR) × Go.Sx.Fun yZR Bool):Prop:=((zaZ (x.1,x.2))/\((decide ((0:Int)<=(zas (x.1,x.2))):Bool)=(zaD x)))
theorem e187 (x:Ds k187.args):vcFun cx187 f187 k187 x=V187 x:=by kernel_rfl
def cx145:Cx:=mkCx T 51 [(182,k182),(184,k184),(185,k185),(92,k92),(170,k170),(187,k187)] [] [] [] [] [] [] none
def V145 (x:yZS × yZS × Int × List yZR):Prop:=((((decide (((x.1.length:Int):Int)<=12)&&decide (((x.2.1.length:Int):Int)<=8))=true)->(zbW (x.2.2.1,0,6)))/\((((((decide (((x.1.length:Int):Int)<=12)&&decide (((x.2.1.length:Int):Int)<=8))&&(zal (x.2.2.1,0,6)))&&decide (((x.2.2.2.length:Int):Int)<=40))=true)->(zaC (x.1,(⟨zbs,zbB⟩:Go.Sx.Fun (yZQ) (Bool)))))/\(((((((decide (((x.1.length:Int):Int)<=12)&&decide (((x.2.1.length:Int):Int)<=8))&&(zal (x.2.2.1,0,6)))&&decide (((x.2.2.2.length:Int):Int)<=40))&&(!(zaf (x.1,(⟨zbs,zbB⟩:Go.Sx.Fun (yZQ) (Bool))))))=true)->(zaC (x.2.1,(⟨zbX,zce⟩:Go.Sx.Fun (yZQ) (Bool)))))/\((((((((decide (((x.1.length:Int):Int)<=12)&&decide (((x.2.1.length:Int):Int)<=8))&&(zal (x.2.2.1,0,6)))&&decide (((x.2.2.2.length:Int):Int)<=40))&&(!(zaf (x.1,(⟨zbs,zbB⟩:Go.Sx.Fun (yZQ) (Bool))))))&&(!(zaf (x.2.1,(⟨zbX,zce⟩:Go.Sx.Fun (yZQ) (Bool))))))=true)->(zaP (x.2.2.2,(⟨(fun x0=>(zcJ (x0,x))),(fun x1=>(zcS (x1,x)))⟩:Go.Sx.Fun yZL (Bool)))))/\((((((((decide (((x.1.length:Int):Int)<=12)&&decide (((x.2.1.length:Int):Int)<=8))&&(zal (x.2.2.1,0,6)))&&decide (((x.2.2.2.length:Int):Int)<=40))&&(!(zaf (x.1,(⟨zbs,zbB⟩:Go.Sx.Fun (yZQ) (Bool))))))&&(!(zaf (x.2.1,(⟨zbX,zce⟩:Go.Sx.Fun (yZQ) (Bool))))))&&(!(zaD (x.2.2.2,(⟨(fun x2=>(zcJ (x2,x))),(fun x3=>(zcS (x3,x)))⟩:Go.Sx.Fun yZL (Bool)))))):Bool)=(zdF x))))))
theorem e145 (x:Ds k145.args):vcFun cx145 f145 k145 x=V145 x:=by kernel_rfl
def cx94:Cx:=mkCx T 14 [] [] [] [] [] [] [] none
def V94 (x:(Option yZT) × Int × Int):Prop:=((x.1.isSome=true)/\(((0:Int)<=x.2.1/\(x.2.1:Int)<27)/\(((0:Int)<=x.2.2/\(x.2.2:Int)<27)/\(((((x.1.getD (yaa 27 (yaa 27 0))).getD (yby x.2.1) (yaa 27 0)).getD (yby x.2.2) 0):Int)=(zay x)))))
theorem e94 (x:Ds k94.args):vcFun cx94 f94 k94 x=V94 x:=by kernel_rfl
def cx206:Cx:=mkCx T 8 [] [] [] [] [] [] [] none
def V206 (x:Int × Int):Prop:=(((x.1,x.2,0):yZU)=(zcz x))
theorem e206 (x:Ds k206.args):vcFun cx206 f206 k206 x=V206 x:=by kernel_rfl
def cx207:Cx:=mkCx T 8 [] [] [] [] [] [] [] none
def V207 (x:Int × Int):Prop:=(((x.2,x.1,(-1)):yZU)=(zcx x))
theorem e207 (x:Ds k207.args):vcFun cx207 f207 k207 x=V207 x:=by kernel_rfl
def cx190:Cx:=mkCx T 3 [(206,k206),(207,k207)] [] [] [] [] [] [] none
def V190 (x:Unit):Prop:=(((@Go.Sx.Z.mput (Bool) ((Go.Sx.Fun yZQ yZU)) (fun x0=>(fun x1=>(x0==x1))) (@Go.Sx.Z.mput (Bool) ((Go.Sx.Fun yZQ yZU)) (fun x2=>(fun x3=>(x2==x3))) (fun x4=>(none:Option ((Go.Sx.Fun yZQ yZU)))) true (⟨zcy,zcz⟩:Go.Sx.Fun (yZQ) (yZU))) false (⟨zcw,zcx⟩:Go.Sx.Fun (yZQ) (yZU))):(Bool->(Option (Go.Sx.Fun yZQ yZU))))=(zaG x))
theorem e190 (x:Ds k190.args):vcFun cx190 f190 k190 x=V190 x:=by kernel_rfl
def cx146:Cx:=mkCx T 24 [] [] [] [] [5] [(3,⟨[(6,false)],[5],[],[]⟩),(6,⟨[(9,false)],[5],[],[]⟩)] [] none
def V146 (x:Unit):Prop:=Z.LoopP (X:=yZO) ((0,(yaa 27 (yaa 27 0)))) (fun s0 K0=>(((decide ((s0.1:Int)<27)=true)->Z.LoopP (X:=yZO) ((0,s0.2)) (fun s1 K1=>(((decide ((s1.1:Int)<27)=true)->((((!(s0.1==s1.1))=true)->(((0:Int)<=s0.1/\(s0.1:Int)<27)/\(((0:Int)<=s1.1/\(s1.1:Int)<27)/\(Z.in64 (s1.1+1)/\(K1 ((s1.1+1),(s1.2.set (yby s0.1) ((s1.2.getD (yby s0.1) (yaa 27 0)).set (yby s1.1) 1099511627776))))))))/\(((!(s0.1==s1.1))=false)->(Z.in64 (s1.1+1)/\(K1 ((s1.1+1),s1.2))))))/\((decide ((s1.1:Int)<27)=false)->(Z.in64 (s0.1+1)/\(K0 ((s0.1+1),s1.2)))))))/\((decide ((s0.1:Int)<27)=false)->((s0.2:yZT)=(zbA x)))))
theorem e146 (x:Ds k146.args):vcFunN cx146 f146 k146 x=V146 x:=by kernel_rfl
def cx151:Cx:=mkCx T 94 [] [] [] [] [] [(1,⟨[(12,false)],[200000],[],[]⟩),(7,⟨[(43,false)],[200000],[5],[]⟩),(10,⟨[(46,false)],[200000],[5],[]⟩)] [] none
def V151 (x:yZT × List (Int × Int × Int)):Prop:=Z.LoopP (X:=yZO) ((0,x.1)) (fun s0 K0=>(((decide ((s0.1:Int)<(x.2.length:Int))=true)->(((0:Int)<=s0.1/\(s0.1:Int)<(x.2.length:Int))/\(((0:Int)<=((x.2.getD (yby s0.1) (0,0,0)).2).1/\(((x.2.getD (yby s0.1) (0,0,0)).2).1:Int)<27)/\(((0:Int)<=(x.2.getD (yby s0.1) (0,0,0)).1/\((x.2.getD (yby s0.1) (0,0,0)).1:Int)<27)/\(Z.in64 (((s0.2.getD (yby (((x.2.getD (yby s0.1) (0,0,0)).2).1)) (yaa 27 0)).getD (yby ((x.2.getD (yby s0.1) (0,0,0)).1)) 0)+((x.2.getD (yby s0.1) (0,0,0)).2).2)/\(((decide (((((s0.2.getD (yby (((x.2.getD (yby s0.1) (0,0,0)).2).1)) (yaa 27 0)).getD (yby ((x.2.getD (yby s0.1) (0,0,0)).1)) 0)+((x.2.getD (yby s0.1) (0,0,0)).2).2):Int)<0)=true)->(True/\(True/\((zag x)=false))))/\((decide (((((s0.2.getD (yby (((x.2.getD (yby s0.1) (0,0,0)).2).1)) (yaa 27 0)).getD (yby ((x.2.getD (yby s0.1) (0,0,0)).1)) 0)+((x.2.getD (yby s0.1) (0,0,0)).2).2):Int)<0)=false)->(((0:Int)<=(x.2.getD (yby s0.1) (0,0,0)).1/\((x.2.getD (yby s0.1) (0,0,0)).1:Int)<27)/\(((0:Int)<=((x.2.getD (yby s0.1) (0,0,0)).2).1/\(((x.2.getD (yby s0.1) (0,0,0)).2).1:Int)<27)/\(((decide ((((s0.2.getD (yby ((x.2.getD (yby s0.1) (0,0,0)).1)) (yaa 27 0)).getD (yby (((x.2.getD (yby s0.1) (0,0,0)).2).1)) 0):Int)<=((x.2.getD (yby s0.1) (0,0,0)).2).2)=true)->(Z.in64 (s0.1+1)/\(K0 ((s0.1+1),s0.2))))/\((decide ((((s0.2.getD (yby ((x.2.getD (yby s0.1) (0,0,0)).1)) (yaa 27 0)).getD (yby (((x.2.getD (yby s0.1) (0,0,0)).2).1)) 0):Int)<=((x.2.getD (yby s0.1) (0,0,0)).2).2)=false)->Z.LoopP (X:=yZO) ((0,s0.2)) (fun s1 K1=>(((decide ((s1.1:Int)<27)=true)->Z.LoopP (X:=yZO) ((0,s1.2)) (fun s2 K2=>(((decide ((s2.1:Int)<27)=true)->(((0:Int)<=s1.1/\(s1.1:Int)<27)/\(((0:Int)<=(x.2.getD (yby s0.1) (0,0,0)).1/\((x.2.getD (yby s0.1) (0,0,0)).1:Int)<27)/\(((0:Int)<=((x.2.getD (yby s0.1) (0,0,0)).2).1/\(((x.2.getD (yby s0.1) (0,0,0)).2).1:Int)<27)/\(((0:Int)<=s2.1/\(s2.1:Int)<27)/\((((decide ((((s2.2.getD (yby s1.1) (yaa 27 0)).getD (yby ((x.2.getD (yby s0.1) (0,0,0)).1)) 0):Int)<1099511627776)&&decide ((((s2.2.getD (yby (((x.2.getD (yby s0.1) (0,0,0)).2).1)) (yaa 27 0)).getD (yby s2.1) 0):Int)<1099511627776))=true)->(((0:Int)<=s1.1/\(s1.1:Int)<27)/\(((0:Int)<=s2.1/\(s2.1:Int)<27)/\(Z.in64 (((s2.2.getD (yby s1.1) (yaa 27 0)).getD (yby ((x.2.getD (yby s0.1) (0,0,0)).1)) 0)+((x.2.getD (yby s0.1) (0,0,0)).2).2)/\(Z.in64 ((((s2.2.getD (yby s1.1) (yaa 27 0)).getD (yby ((x.2.getD (yby s0.1) (0,0,0)).1)) 0)+((x.2.getD (yby s0.1) (0,0,0)).2).2)+((s2.2.getD (yby (((x.2.getD (yby s0.1) (0,0,0)).2).1)) (yaa 27 0)).getD (yby s2.1) 0))/\(((0:Int)<=s1.1/\(s1.1:Int)<27)/\(((0:Int)<=s2.1/\(s2.1:Int)<27)/\(Z.in64 (s2.1+1)/\((((x.2.getD (yby s0.1) (0,0,0)):yZU)=(x.2.getD (yby s0.1) (0,0,0)))/\(K2 ((s2.1+1),(s2.2.set (yby s1.1) ((s2.2.getD (yby s1.1) (yaa 27 0)).set (yby s2.1) (min ((s2.2.getD (yby s1.1) (yaa 27 0)).getD (yby s2.1) 0) ((((s2.2.getD (yby s1.1) (yaa 27 0)).getD (yby ((x.2.getD (yby s0.1) (0,0,0)).1)) 0)+((x.2.getD (yby s0.1) (0,0,0)).2).2)+((s2.2.getD (yby (((x.2.getD (yby s0.1) (0,0,0)).2).1)) (yaa 27 0)).getD (yby s2.1) 0))))))))))))))))/\(((decide ((((s2.2.getD (yby s1.1) (yaa 27 0)).getD (yby ((x.2.getD (yby s0.1) (0,0,0)).1)) 0):Int)<1099511627776)&&decide ((((s2.2.getD (yby (((x.2.getD (yby s0.1) (0,0,0)).2).1)) (yaa 27 0)).getD (yby s2.1) 0):Int)<1099511627776))=false)->(Z.in64 (s2.1+1)/\((((x.2.getD (yby s0.1) (0,0,0)):yZU)=(x.2.getD (yby s0.1) (0,0,0)))/\(K2 ((s2.1+1),s2.2)))))))))))/\((decide ((s2.1:Int)<27)=false)->(Z.in64 (s1.1+1)/\((((x.2.getD (yby s0.1) (0,0,0)):yZU)=(x.2.getD (yby s0.1) (0,0,0)))/\(K1 ((s1.1+1),s2.2))))))))/\((decide ((s1.1:Int)<27)=false)->(Z.in64 (s0.1+1)/\(K0 ((s0.1+1),s1.2)))))))))))))))))/\((decide ((s0.1:Int)<(x.2.length:Int))=false)->(((zag x)=true)/\((s0.2:yZT)=(zap x))))))
theorem e151 (x:Ds (AK.ins k151.l.args)):vcFunX cx151 f151 151 k151 x=V151 x:=by kernel_rfl
def cx149:Cx:=withP [(151,k151)] [] <| mkCx T 83 [(93,k93)] [] [] [] [] [(2,⟨[(12,false)],[200000],[],[]⟩),(7,⟨[(37,false)],[200000],[],[]⟩),(14,⟨[(70,false)],[200000],[],[]⟩)] [] none
def V149 (x:yZT × yZS × yZS × Int × List yZR):Prop:=Z.LoopP (X:=yZO) ((0,x.1)) (fun s0 K0=>(((decide ((s0.1:Int)<(x.2.1.length:Int))=true)->(((0:Int)<=s0.1/\(s0.1:Int)<(x.2.1.length:Int))/\(True/\(True/\(Z.in64 (s0.1+1)/\(True/\(True/\(True/\(True/\(True/\(True/\(Z.in64 (s0.1+1)/\(True/\(True/\(Z.in64 (-(x.2.1.getD (yby s0.1) (0,0)).1)/\(True/\(True/\(((zaU (s0.2,(((yaa 2 (0,0,0)).set 0 ((s0.1+1),s0.1,(x.2.1.getD (yby s0.1) (0,0)).2)).set 1 (s0.1,(s0.1+1),(-(x.2.1.getD (yby s0.1) (0,0)).1)))))/\(True/\True))/\((((zag (s0.2,(((yaa 2 (0,0,0)).set 0 ((s0.1+1),s0.1,(x.2.1.getD (yby s0.1) (0,0)).2)).set 1 (s0.1,(s0.1+1),(-(x.2.1.getD (yby s0.1) (0,0)).1)))))=true)->(Z.in64 (s0.1+1)/\(K0 ((s0.1+1),(zap (s0.2,(((yaa 2 (0,0,0)).set 0 ((s0.1+1),s0.1,(x.2.1.getD (yby s0.1) (0,0)).2)).set 1 (s0.1,(s0.1+1),(-(x.2.1.getD (yby s0.1) (0,0)).1)))))))))/\(((zag (s0.2,(((yaa 2 (0,0,0)).set 0 ((s0.1+1),s0.1,(x.2.1.getD (yby s0.1) (0,0)).2)).set 1 (s0.1,(s0.1+1),(-(x.2.1.getD (yby s0.1) (0,0)).1)))))=false)->((zax x)=false)))))))))))))))))))))/\((decide ((s0.1:Int)<(x.2.1.length:Int))=false)->Z.LoopP (X:=yZO) ((0,s0.2)) (fun s1 K1=>(((decide ((s1.1:Int)<(x.2.2.1.length:Int))=true)->(((0:Int)<=s1.1/\(s1.1:Int)<(x.2.2.1.length:Int))/\((zam (13,s1.1))/\((zam (13,s1.1))/\(Z.in64 (-(x.2.2.1.getD (yby s1.1) (0,0)).1)/\(((zaU (s1.2,(((yaa 2 (0,0,0)).set 0 ((za (13,s1.1)),0,(x.2.2.1.getD (yby s1.1) (0,0)).2)).set 1 (0,(za (13,s1.1)),(-(x.2.2.1.getD (yby s1.1) (0,0)).1)))))/\(True/\True))/\((((zag (s1.2,(((yaa 2 (0,0,0)).set 0 ((za (13,s1.1)),0,(x.2.2.1.getD (yby s1.1) (0,0)).2)).set 1 (0,(za (13,s1.1)),(-(x.2.2.1.getD (yby s1.1) (0,0)).1)))))=true)->(((decide ((0:Int)<s1.1)=true)->(True/\(True/\(Z.in64 (s1.1 - 1)/\((zam (13,(s1.1 - 1)))/\(True/\((zam (13,s1.1))/\(True/\(True/\(((zaU ((zap (s1.2,(((yaa 2 (0,0,0)).set 0 ((za (13,s1.1)),0,(x.2.2.1.getD (yby s1.1) (0,0)).2)).set 1 (0,(za (13,s1.1)),(-(x.2.2.1.getD (yby s1.1) (0,0)).1))))),((yaa 1 (0,0,0)).set 0 ((za (13,(s1.1 - 1))),(za (13,s1.1)),(-1)))))/\(True/\True))/\((((zag ((zap (s1.2,(((yaa 2 (0,0,0)).set 0 ((za (13,s1.1)),0,(x.2.2.1.getD (yby s1.1) (0,0)).2)).set 1 (0,(za (13,s1.1)),(-(x.2.2.1.getD (yby s1.1) (0,0)).1))))),((yaa 1 (0,0,0)).set 0 ((za (13,(s1.1 - 1))),(za (13,s1.1)),(-1)))))=true)->(Z.in64 (s1.1+1)/\(K1 ((s1.1+1),(zap ((zap (s1.2,(((yaa 2 (0,0,0)).set 0 ((za (13,s1.1)),0,(x.2.2.1.getD (yby s1.1) (0,0)).2)).set 1 (0,(za (13,s1.1)),(-(x.2.2.1.getD (yby s1.1) (0,0)).1))))),((yaa 1 (0,0,0)).set 0 ((za (13,(s1.1 - 1))),(za (13,s1.1)),(-1)))))))))/\(((zag ((zap (s1.2,(((yaa 2 (0,0,0)).set 0 ((za (13,s1.1)),0,(x.2.2.1.getD (yby s1.1) (0,0)).2)).set 1 (0,(za (13,s1.1)),(-(x.2.2.1.getD (yby s1.1) (0,0)).1))))),((yaa 1 (0,0,0)).set 0 ((za (13,(s1.1 - 1))),(za (13,s1.1)),(-1)))))=false)->((zax x)=false)))))))))))))/\((decide ((0:Int)<s1.1)=false)->(Z.in64 (s1.1+1)/\(K1 ((s1.1+1),(zap (s1.2,(((yaa 2 (0,0,0)).set 0 ((za (13,s1.1)),0,(x.2.2.1.getD (yby s1.1) (0,0)).2)).set 1 (0,(za (13,s1.1)),(-(x.2.2.1.getD (yby s1.1) (0,0)).1)))))))))))/\(((zag (s1.2,(((yaa 2 (0,0,0)).set 0 ((za (13,s1.1)),0,(x.2.2.1.getD (yby s1.1) (0,0)).2)).set 1 (0,(za (13,s1.1)),(-(x.2.2.1.getD (yby s1.1) (0,0)).1)))))=false)->((zax x)=false)))))))))/\((decide ((s1.1:Int)<(x.2.2.1.length:Int))=false)->Z.LoopP (X:=yZO) ((0,s1.2)) (fun s2 K2=>(((decide ((s2.1:Int)<x.2.2.2.1)=true)->(True/\(True/\((zam (14,s2.1))/\(True/\(True/\((zam (14,s2.1))/\(True/\(True/\(((zaU (s2.2,(((yaa 2 (0,0,0)).set 0 ((za (14,s2.1)),0,16777216)).set 1 (0,(za (14,s2.1)),(-1)))))/\(True/\True))/\((((zag (s2.2,(((yaa 2 (0,0,0)).set 0 ((za (14,s2.1)),0,16777216)).set 1 (0,(za (14,s2.1)),(-1)))))=true)->(Z.in64 (s2.1+1)/\(K2 ((s2.1+1),(zap (s2.2,(((yaa 2 (0,0,0)).set 0 ((za (14,s2.1)),0,16777216)).set 1 (0,(za (14,s2.1)),(-1)))))))))/\(((zag (s2.2,(((yaa 2 (0,0,0)).set 0 ((za (14,s2.1)),0,16777216)).set 1 (0,(za (14,s2.1)),(-1)))))=false)->((zax x)=false)))))))))))))/\((decide ((s2.1:Int)<x.2.2.2.1)=false)->(((zax x)=true)/\((s2.2:yZT)=(zci x))))))))))))
theorem e149 (x:Ds (AK.ins k149.l.args)):vcFunX cx149 f149 149 k149 x=V149 x:=by kernel_rfl
def cx189 (ly:Nat) (x:Ds k189.args):Cx:=mkCx T 30 [(190,k190),(191,k191)] [] [] [] [] [(1,⟨[(8,false)],[300000],[],[]⟩)] [] (some ⟨ly,300000,k189.two,k189.elt,k189.seq x⟩)
def V189 (ly:Nat) (x:yZS × yZS × Int × List yZR):Prop:=(True/\(True/\(True/\(True/\Z.LoopP (X:=(Prod Int (Prod yZM Bool))) ((0,[],false)) (fun s0 K0=>(((decide ((s0.1:Int)<(x.2.2.2.length:Int))=true)->(((0:Int)<=s0.1/\(s0.1:Int)<(x.2.2.2.length:Int))/\((zeL ())/\((zkT (((x.2.2.2.getD (yby s0.1) (0,0,0,false)).2).1,(((x.2.2.2.getD (yby s0.1) (0,0,0,false)).2).2).1))/\(((((zaG ()) ((((x.2.2.2.getD (yby s0.1) (0,0,0,false)).2).2).2)).getD (⟨(fun x1=>False),(fun x2=>(0,0,0))⟩:Go.Sx.Fun (yZQ) (yZU))).pre ((fade_of (((x.2.2.2.getD (yby s0.1) (0,0,0,false)).2).1,(((x.2.2.2.getD (yby s0.1) (0,0,0,false)).2).2).1)),(x.2.2.2.getD (yby s0.1) (0,0,0,false)).1))/\((((ly:Nat)=ly)/\(s0.2.2=false))/\((∃ r3,((zbl x)=(s0.2.1++((s0.1,((((zaG ()) ((((x.2.2.2.getD (yby s0.1) (0,0,0,false)).2).2).2)).getD (⟨(fun x4=>False),(fun x5=>(0,0,0))⟩:Go.Sx.Fun (yZQ) (yZU))).val ((fade_of (((x.2.2.2.getD (yby s0.1) (0,0,0,false)).2).1,(((x.2.2.2.getD (yby s0.1) (0,0,0,false)).2).2).1)),(x.2.2.2.getD (yby s0.1) (0,0,0,false)).1)))::r3))))/\((True/\((((!true)=true)->((false=false)->(((s0.2.1++[(s0.1,((((zaG ()) ((((x.2.2.2.getD (yby s0.1) (0,0,0,false)).2).2).2)).getD (⟨(fun x6=>False),(fun x7=>(0,0,0))⟩:Go.Sx.Fun (yZQ) (yZU))).val ((fade_of (((x.2.2.2.getD (yby s0.1) (0,0,0,false)).2).1,(((x.2.2.2.getD (yby s0.1) (0,0,0,false)).2).2).1)),(x.2.2.2.getD (yby s0.1) (0,0,0,false)).1)))]):yZM)=(zbl x))))/\(((!true)=false)->(Z.in64 (s0.1+1)/\(K0 ((s0.1+1),(s0.2.1++[(s0.1,((((zaG ()) ((((x.2.2.2.getD (yby s0.1) (0,0,0,false)).2).2).2)).getD (⟨(fun x8=>False),(fun x9=>(0,0,0))⟩:Go.Sx.Fun (yZQ) (yZU))).val ((fade_of (((x.2.2.2.getD (yby s0.1) (0,0,0,false)).2).1,(((x.2.2.2.getD (yby s0.1) (0,0,0,false)).2).2).1)),(x.2.2.2.getD (yby s0.1) (0,0,0,false)).1)))]),false))))))/\(True/\((((!false)=true)->((true=false)->(((s0.2.1++[(s0.1,((((zaG ()) ((((x.2.2.2.getD (yby s0.1) (0,0,0,false)).2).2).2)).getD (⟨(fun x10=>False),(fun x11=>(0,0,0))⟩:Go.Sx.Fun (yZQ) (yZU))).val ((fade_of (((x.2.2.2.getD (yby s0.1) (0,0,0,false)).2).1,(((x.2.2.2.getD (yby s0.1) (0,0,0,false)).2).2).1)),(x.2.2.2.getD (yby s0.1) (0,0,0,false)).1)))]):yZM)=(zbl x))))/\(((!false)=false)->(Z.in64 (s0.1+1)/\(K0 ((s0.1+1),(s0.2.1++[(s0.1,((((zaG ()) ((((x.2.2.2.getD (yby s0.1) (0,0,0,false)).2).2).2)).getD (⟨(fun x12=>False),(fun x13=>(0,0,0))⟩:Go.Sx.Fun (yZQ) (yZU))).val ((fade_of (((x.2.2.2.getD (yby s0.1) (0,0,0,false)).2).1,(((x.2.2.2.getD (yby s0.1) (0,0,0,false)).2).2).1)),(x.2.2.2.getD (yby s0.1) (0,0,0,false)).1)))]),true))))))))))))))/\((decide ((s0.1:Int)<(x.2.2.2.length:Int))=false)->((s0.2.2=false)->((s0.2.1:yZM)=(zbl x))))))))))
theorem e189 (ly:Nat) (x:Ds k189.args):vcIter (cx189 ly x) f189 k189 x=V189 ly x:=by kernel_rfl
def cx150:Cx:=mkCx T 4 [] [] [(189,k189)] [] [] [] [] none
def V150 (x:yZS × yZS × Int × List yZR):Prop:=((⟨(zey x),(zbl x)⟩:(Go.Sx.Seq (Prod Int yZU)))=(zeo x))
theorem e150 (x:Ds k150.args):vcFun cx150 f150 k150 x=V150 x:=by kernel_rfl
def cx148:Cx:=withP [(149,k149),(151,k151)] [] <| mkCx T 15 [(150,k150)] [] [] [] [] [(2,⟨[],[200001],[200000],[]⟩)] [] none
def V148 (x:yZT × yZS × yZS × Int × List yZR):Prop:=(True/\(True/\(((zdG (x.1,x.2))/\(True/\True))/\((((zax (x.1,x.2))=true)->((zfW x.2)/\((zeo x.2).1/\Z.RangeP (X:=yZT) ((zci (x.1,x.2))) ((zeo x.2).2) (fun e0 s0 K0=>(True/\(True/\(True/\(((zaU (s0,((yaa 1 (0,0,0)).set 0 e0.2)))/\(True/\True))/\((((zag (s0,((yaa 1 (0,0,0)).set 0 e0.2)))=true)->(True/\(K0 (zap (s0,((yaa 1 (0,0,0)).set 0 e0.2))))))/\(((zag (s0,((yaa 1 (0,0,0)).set 0 e0.2)))=false)->((zbh x)=false)))))))) (fun s0=>(((zbh x)=true)/\((s0:yZT)=(zel x)))))))/\(((zax (x.1,x.2))=false)->((zbh x)=false))))))
theorem e148 (x:Ds (AK.ins k148.l.args)):vcFunX cx148 f148 148 k148 x=V148 x:=by kernel_rfl
def cx91:Cx:=withP [(148,k148)] [(147,278)] <| mkCxN T 21 [(145,k145)] [] [] [(146,k146)] [6] [] [] [] none
def V91 (x:yZN × Bool):Prop:=((zfk x.1)/\((((!(zdF x.1))=true)->((((none:Option (yZT)),1):yZP)=(zaA x)))/\(((!(zdF x.1))=false)->((((!x.2)=true)->((((none:Option (yZT)),2):yZP)=(zaA x)))/\(((!x.2)=false)->((zex ())/\(True/\(((zfi ((zbA ()),x.1))/\(True/\True))/\((((zbh ((zbA ()),x.1))=true)->(True/\((((!true)=true)->((((none:Option (yZT)),6):yZP)=(zaA x)))/\(((!true)=false)->((((some ((zel ((zbA ()),x.1))):Option (yZT)),0):yZP)=(zaA x))))))/\(((zbh ((zbA ()),x.1))=false)->(True/\((((!false)=true)->((((none:Option (yZT)),6):yZP)=(zaA x)))/\(((!false)=false)->False)))))))))))))
theorem e91 (x:Ds k91.args):vcFun cx91 f91 k91 x=V91 x:=by kernel_rfl
def cx29:Cx:=withW [14] <| mkCx T 53 [(92,k92),(91,k91),(93,k93),(94,k94)] [] [] [] [] [(6,⟨[(28,false)],[4],[],[]⟩)] [] none
def V29 (x:yZN × Int):Prop:=((zbW (x.2,0,(Go.IntKind.wrap .i64 (x.1.2.2.1 - 1))))/\((zhY (x.1,(zal (x.2,0,(Go.IntKind.wrap .i64 (x.1.2.2.1 - 1))))))/\((((!((zaA (x.1,(zal (x.2,0,(Go.IntKind.wrap .i64 (x.1.2.2.1 - 1)))))).2==0))=true)->((((0,0),(zaA (x.1,(zal (x.2,0,(Go.IntKind.wrap .i64 (x.1.2.2.1 - 1)))))).2):(Prod yZQ Int))=(fade_Grade x)))/\(((!((zaA (x.1,(zal (x.2,0,(Go.IntKind.wrap .i64 (x.1.2.2.1 - 1)))))).2==0))=false)->((zam (14,x.2))/\Z.LoopP (X:=yZU) ((0,0,0)) (fun s0 K0=>(((decide ((s0.1:Int)<(x.1.2.1.length:Int))=true)->((zam (13,s0.1))/\((zaV ((zaA (x.1,(zal (x.2,0,(Go.IntKind.wrap .i64 (x.1.2.2.1 - 1)))))).1,(za (13,s0.1)),(za (14,x.2))))/\(((decide (((zay ((zaA (x.1,(zal (x.2,0,(Go.IntKind.wrap .i64 (x.1.2.2.1 - 1)))))).1,(za (13,s0.1)),(za (14,x.2)))):Int)<=0)=true)->(Z.in64 (s0.2.1+1)/\((zam (13,s0.1))/\((zaV ((zaA (x.1,(zal (x.2,0,(Go.IntKind.wrap .i64 (x.1.2.2.1 - 1)))))).1,(za (14,x.2)),(za (13,s0.1))))/\(((decide ((0:Int)<=(zay ((zaA (x.1,(zal (x.2,0,(Go.IntKind.wrap .i64 (x.1.2.2.1 - 1)))))).1,(za (14,x.2)),(za (13,s0.1)))))=true)->(Z.in64 (s0.2.2+1)/\(Z.in64 (s0.1+1)/\(K0 ((s0.1+1),(s0.2.1+1),(s0.2.2+1))))))/\((decide ((0:Int)<=(zay ((zaA (x.1,(zal (x.2,0,(Go.IntKind.wrap .i64 (x.1.2.2.1 - 1)))))).1,(za (14,x.2)),(za (13,s0.1)))))=false)->(Z.in64 (s0.1+1)/\(K0 ((s0.1+1),(s0.2.1+1),s0.2.2)))))))))/\((decide (((zay ((zaA (x.1,(zal (x.2,0,(Go.IntKind.wrap .i64 (x.1.2.2.1 - 1)))))).1,(za (13,s0.1)),(za (14,x.2)))):Int)<=0)=false)->((zam (13,s0.1))/\((zaV ((zaA (x.1,(zal (x.2,0,(Go.IntKind.wrap .i64 (x.1.2.2.1 - 1)))))).1,(za (14,x.2)),(za (13,s0.1))))/\(((decide ((0:Int)<=(zay ((zaA (x.1,(zal (x.2,0,(Go.IntKind.wrap .i64 (x.1.2.2.1 - 1)))))).1,(za (14,x.2)),(za (13,s0.1)))))=true)->(Z.in64 (s0.2.2+1)/\(Z.in64 (s0.1+1)/\(K0 ((s0.1+1),s0.2.1,(s0.2.2+1))))))/\((decide ((0:Int)<=(zay ((zaA (x.1,(zal (x.2,0,(Go.IntKind.wrap .i64 (x.1.2.2.1 - 1)))))).1,(za (14,x.2)),(za (13,s0.1)))))=false)->(Z.in64 (s0.1+1)/\(K0 ((s0.1+1),s0.2))))))))))))/\((decide ((s0.1:Int)<(x.1.2.1.length:Int))=false)->(((s0.2,0):(Prod yZQ Int))=(fade_Grade x))))))))))
theorem e29 (x:Ds k29.args):vcFun cx29 f29 k29 x=V29 x:=by kernel_rfl
def cx89:Cx:=mkCx T 15 [] [] [] [] [] [] [] none
def V89 (x:Int × Int × Int):Prop:=(((decide ((x.2.1:Int)<=x.1)&&decide ((x.1:Int)<=x.2.2)):Bool)=(zcs x))
theorem e89 (x:Ds k89.args):vcFun cx89 f89 k89 x=V89 x:=by kernel_rfl
def cx88:Cx:=mkCx T 24 [] [] [] [] [] [] [] none
def V88 (x:(Int × Int) × Int × Int):Prop:=((((decide ((x.2.1:Int)<=x.1.1)&&decide ((x.1.1:Int)<=x.1.2))&&decide ((x.1.2:Int)<=x.2.2)):Bool)=(zcG x))
theorem e88 (x:Ds k88.args):vcFun cx88 f88 k88 x=V88 x:=by kernel_rfl
def cx90:Cx:=withW [21] <| mkCx T 24 [(89,k89)] [] [] [] [] [] [] none
def V90 (x:yZN × Int × Int):Prop:=((((x.2.1==0)=true)->(Z.in64 ((x.1.2.1.length:Int) - 1)/\((zdj (x.2.2,0,((x.1.2.1.length:Int) - 1)))/\(((zcs (x.2.2,0,((x.1.2.1.length:Int) - 1))):Bool)=(zbJ x)))))/\(((x.2.1==0)=false)->((((x.2.1==1)=true)->(zdj (x.2.2,0,(Go.IntKind.wrap .i64 (x.1.2.2.1 - 1)))))/\((((x.2.1==1)&&(zcs (x.2.2,0,(Go.IntKind.wrap .i64 (x.1.2.2.1 - 1))))):Bool)=(zbJ x)))))
theorem e90 (x:Ds k90.args):vcFun cx90 f90 k90 x=V90 x:=by kernel_rfl
def cx27:Cx:=mkCx T 84 [(88,k88),(89,k89),(90,k90)] [] [] [] [] [(2,⟨[(3,false)],[],[],[]⟩),(7,⟨[(4,false)],[],[],[]⟩),(12,⟨[(5,false)],[],[],[]⟩)] [] none
def V27 (x:yZS × yZS × Int × List yZR):Prop:=Z.LoopP (X:=Int) (0) (fun s0 K0=>(((decide ((s0:Int)<(x.1.length:Int))=true)->(((0:Int)<=s0/\(s0:Int)<(x.1.length:Int))/\((zdZ ((x.1.getD (yby s0) (0,0)),0,1000000))/\((((!(zcG ((x.1.getD (yby s0) (0,0)),0,1000000)))=true)->((false:Bool)=(zbv x)))/\(((!(zcG ((x.1.getD (yby s0) (0,0)),0,1000000)))=false)->(Z.in64 (s0+1)/\(K0 (s0+1))))))))/\((decide ((s0:Int)<(x.1.length:Int))=false)->Z.LoopP (X:=Int) (0) (fun s1 K1=>(((decide ((s1:Int)<(x.2.1.length:Int))=true)->(((0:Int)<=s1/\(s1:Int)<(x.2.1.length:Int))/\((zdZ ((x.2.1.getD (yby s1) (0,0)),1,16777216))/\((((!(zcG ((x.2.1.getD (yby s1) (0,0)),1,16777216)))=true)->((false:Bool)=(zbv x)))/\(((!(zcG ((x.2.1.getD (yby s1) (0,0)),1,16777216)))=false)->(Z.in64 (s1+1)/\(K1 (s1+1))))))))/\((decide ((s1:Int)<(x.2.1.length:Int))=false)->Z.LoopP (X:=Int) (0) (fun s2 K2=>(((decide ((s2:Int)<(x.2.2.2.length:Int))=true)->(((0:Int)<=s2/\(s2:Int)<(x.2.2.2.length:Int))/\((zdj ((x.2.2.2.getD (yby s2) (0,0,0,false)).1,0,(x.1.length:Int)))/\((((!(zcs ((x.2.2.2.getD (yby s2) (0,0,0,false)).1,0,(x.1.length:Int))))=false)->(zfe (x,((x.2.2.2.getD (yby s2) (0,0,0,false)).2).1,(((x.2.2.2.getD (yby s2) (0,0,0,false)).2).2).1)))/\(((((!(zcs ((x.2.2.2.getD (yby s2) (0,0,0,false)).1,0,(x.1.length:Int))))||(!(zbJ (x,((x.2.2.2.getD (yby s2) (0,0,0,false)).2).1,(((x.2.2.2.getD (yby s2) (0,0,0,false)).2).2).1))))=true)->((false:Bool)=(zbv x)))/\((((!(zcs ((x.2.2.2.getD (yby s2) (0,0,0,false)).1,0,(x.1.length:Int))))||(!(zbJ (x,((x.2.2.2.getD (yby s2) (0,0,0,false)).2).1,(((x.2.2.2.getD (yby s2) (0,0,0,false)).2).2).1))))=false)->(Z.in64 (s2+1)/\(K2 (s2+1)))))))))/\((decide ((s2:Int)<(x.2.2.2.length:Int))=false)->((((decide (((x.1.length:Int):Int)<=12)&&decide (((x.2.1.length:Int):Int)<=8))=true)->(zdj (x.2.2.1,0,6)))/\(((((decide (((x.1.length:Int):Int)<=12)&&decide (((x.2.1.length:Int):Int)<=8))&&(zcs (x.2.2.1,0,6)))&&decide (((x.2.2.2.length:Int):Int)<=40)):Bool)=(zbv x))))))))))))
theorem e27 (x:Ds k27.args):vcFun cx27 f27 k27 x=V27 x:=by kernel_rfl
end Go.Fade
/-
 Chapter 12: the table of bounds: what is known,and what follows from it. Plain Lean;no program in sight.
-/
namespace Go.Fade
open Go Go.Sx
theorem zfV (f:Nat->Nat->Int) {i k:Nat} (hi:i<27) (hk:k<27):gt (table f) i k=f i k:=by
 unfold gt table
 rw [zbU _ _ hi,zbU _ _ hk]
structure Sh (b:Bds):Prop where
 len:b.length=27
 row:∀ i,i<27->(b.getD i z27).length=27
theorem zjq (f:Nat->Nat->Int):Sh (table f):=by
 refine ⟨by simp [table],fun i hi=>?_⟩
 unfold table
 rw [zbU _ _ hi]
 simp
theorem getD_eq {α:Type} {l:List α} {i:Nat} {d:α} (h:i<l.length):l.getD i d=l[i]:=by simp [yda,h]
theorem sh_ext {b b':Bds} (h:Sh b) (h':Sh b') (he:∀ i k,i<27->k<27->gt b i k=gt b' i k):b=b':=by
 refine ydT (by rw [h.len,h'.len]) fun i h1 h2=>?_
 have hi:i<27:=by rw [h.len] at h1;exact h1
 have r1:=h.row i hi
 have r2:=h'.row i hi
 rw [getD_eq h1] at r1
 rw [getD_eq h2] at r2
 refine ydT (by rw [r1,r2]) fun k k1 k2=>?_
 have hk:k<27:=by rw [r1] at k1;exact k1
 have:=he i k hi hk
 unfold gt at this
 rw [getD_eq h1,getD_eq h2,getD_eq k1,getD_eq k2] at this
 exact this
structure Inv (S:Nat->Prop) (b:Bds):Prop where
 sh:Sh b
 s0:S 0
 lt:∀ i,S i->i<27
 dg:∀ i,i<27->gt b i i=0
 out:∀ i k,i<27->k<27->i≠k->¬ (S i/\S k)->gt b i k=free
 up:∀ i,S i->gt b i 0<=16777216
 dn:∀ k,S k->gt b 0 k<=0
 tri:∀ i j k,S i->S j->S k->gt b i k<=gt b i j+gt b j k
theorem Inv.hi {S:Nat->Prop} {b:Bds} (h:Inv S b) {i k:Nat} (hi:S i) (hk:S k):gt b i k<=16777216:=by
 have:=h.tri i 0 k hi h.s0 hk
 have:=h.up i hi
 have:=h.dn k hk
 omega
theorem Inv.lo {S:Nat->Prop} {b:Bds} (h:Inv S b) {i k:Nat} (hi:S i) (hk:S k):-16777216<=gt b i k:=by
 have:=h.tri i k i hi hk hi
 have:=h.dg i (h.lt i hi)
 have:=h.hi hk hi
 omega
theorem Inv.any {S:Nat->Prop} {b:Bds} (h:Inv S b) {i k:Nat} (hi:i<27) (hk:k<27):(S i/\S k)\/(i=k/\gt b i k=0)\/(i≠k/\gt b i k=free):=by
 by_cases hs:S i/\S k
 ·exact .inl hs
 ·by_cases e:i=k
  ·subst e;exact .inr (.inl ⟨rfl,h.dg i hi⟩)
  ·exact .inr (.inr ⟨e,h.out i k hi hk e hs⟩)
theorem Inv.small {S:Nat->Prop} {b:Bds} (h:Inv S b):Small b:=by
 refine ⟨h.sh.len,h.sh.row,fun i k hi hk=>?_,fun i k hi hk=>?_⟩
 ·rcases h.any hi hk with ⟨h1,h2⟩ | ⟨_,h1⟩ | ⟨_,h1⟩
  ·have:=h.lo h1 h2;omega
  ·omega
  ·rw [h1];simp only [free];omega
 ·rcases h.any hi hk with ⟨h1,h2⟩ | ⟨_,h1⟩ | ⟨_,h1⟩
  ·have:=h.hi h1 h2;omega
  ·omega
  ·rw [h1];simp only [free];omega
theorem okR_iff {b:Bds} {a c:Nat} {w:Int}:okR b ((a:Int),(c:Int),w)=true↔0<=gt b c a+w:=by
 simp only [okR,ydt,Bool.not_eq_true',decide_eq_false_iff_not]
 omega
theorem gt_put {b:Bds} {a c:Nat} {w:Int} {i k:Nat} (hi:i<27) (hk:k<27):gt (putR b ((a:Int),(c:Int),w)) i k=if gt b a c<=w then gt b i k else newAt b a c w i k:=by
 simp only [putR,ydt,ybe,decide_eq_true_eq]
 split
 ·rfl
 ·exact zfV _ hi hk
theorem sh_put {b:Bds} (h:Sh b) (r:Rule):Sh (putR b r):=by
 simp only [putR,ybe]
 split
 ·exact h
 ·exact zjq _
theorem zed {b:Bds} {a c:Nat} {w:Int} {i k:Nat} (h1:gt b i a<free) (h2:gt b c k<free):newAt b a c w i k=min (gt b i k) (gt b i a+w+gt b c k):=by
 rw [newAt,decide_eq_true h1,decide_eq_true h2];rfl
theorem zgt {b:Bds} {a c:Nat} {w:Int} {i k:Nat} (h1:gt b i a=free):newAt b a c w i k=gt b i k:=by
 rw [newAt,decide_eq_false (by rw [h1];exact ydU _)];rfl
theorem zgs {b:Bds} {a c:Nat} {w:Int} {i k:Nat} (h1:gt b c k=free):newAt b a c w i k=gt b i k:=by
 rw [newAt,decide_eq_false (p:=gt b c k<free) (by rw [h1];exact ydU _),ydV];rfl
theorem put_in {S:Nat->Prop} {b:Bds} (h:Inv S b) {a c:Nat} (ha:S a) (hc:S c) {w:Int} (hok:0<=gt b c a+w) :
  Inv S (putR b ((a:Int),(c:Int),w))/\∀ i k,S i->S k->gt (putR b ((a:Int),(c:Int),w)) i k=min (gt b i k) (gt b i a+w+gt b c k):=by
 have ha27:=h.lt a ha
 have hc27:=h.lt c hc
 have key:∀ i k,S i->S k->gt (putR b ((a:Int),(c:Int),w)) i k=min (gt b i k) (gt b i a+w+gt b c k):=by
  intro i k hi hk
  rw [gt_put (h.lt i hi) (h.lt k hk)]
  split
  ·have:=h.tri i a k hi ha hk
   have:=h.tri a c k ha hc hk
   omega
  ·have:=h.hi hi ha
   have:=h.hi hc hk
   exact zed (by simp only [free];omega) (by simp only [free];omega)
 have same:∀ i k,i<27->k<27->¬ (S i/\S k)->gt (putR b ((a:Int),(c:Int),w)) i k=gt b i k:=by
  intro i k hi hk hn
  rw [gt_put hi hk]
  split
  ·rfl
  ·by_cases hSi:S i
   ·have hSk:¬ S k:=fun hk=>hn ⟨hSi,hk⟩
    exact zgs (h.out c k hc27 hk (fun e=>hSk (e▸hc)) fun hh=>hSk hh.2)
   ·exact zgt (h.out i a hi ha27 (fun e=>hSi (e▸ha)) fun hh=>hSi hh.1)
 refine ⟨⟨sh_put h.sh _,h.s0,h.lt,?_,?_,?_,?_,?_⟩,key⟩
 ·intro i hi
  by_cases hs:S i
  ·rw [key i i hs hs]
   have:=h.dg i hi
   have:=h.tri c i a hc hs ha
   omega
  ·rw [same i i hi hi fun hh=>hs hh.1];exact h.dg i hi
 ·intro i k hi hk hne hn
  rw [same i k hi hk hn];exact h.out i k hi hk hne hn
 ·intro i hi
  rw [key i 0 hi h.s0]
  have:=h.up i hi
  omega
 ·intro k hk
  rw [key 0 k h.s0 hk]
  have:=h.dn k hk
  omega
 ·intro i j k hi hj hk
  rw [key i j hi hj,key j k hj hk,key i k hi hk]
  have h1:=h.tri i j k hi hj hk
  have h2:=h.tri i j a hi hj ha
  have h3:=h.tri c j k hc hj hk
  have h4:=h.tri c j a hc hj ha
  omega
theorem zaY {l':List Rule}:∀ {l:List Rule} {b:Bds},enterL b (l++l')=(enterL b l).bind fun b'=>enterL b' l'
 | [],b=>rfl
 | r::l,b=>by
  rw [List.cons_append,enterL,enterL]
  cases okR b r with
  | true=>exact zaY
  | false=>rfl
theorem zbm {l':List Rule}:∀ {l:List Rule} {b:Bds},enterP b l->(∀ b',enterL b l=some b'->enterP b' l')->enterP b (l++l')
 | [],b,_,h=>h b rfl
 | r::l,b,⟨h1,h2,h3⟩,h=>⟨h1,h2,fun hok=>zbm (h3 hok) fun b' hb=>h b' (by rw [enterL,hok];exact hb)⟩
theorem zgV {l':List Rule}:∀ {l:List Rule} {b b':Bds},enterP b (l++l')->enterL b l=some b'->enterP b' l'
 | [],b,b',h,he=>by cases he;exact h
 | r::l,b,b',⟨_,_,h3⟩,he=>by
  rw [enterL,ybe] at he
  split at he
  ·rename_i hok;exact zgV (h3 hok) he
  ·cases he
theorem zhZ {l':List Rule}:∀ {l:List Rule} {b:Bds},enterP b (l++l')->enterP b l
 | [],b,h=>trivial
 | r::l,b,⟨h1,h2,h3⟩=>⟨h1,h2,fun hok=>zhZ (h3 hok)⟩
def Among (S:Nat->Prop) (r:Rule):Prop:=∃ a c:Nat,r=((a:Int),(c:Int),r.2.2)/\S a/\S c/\-16777216<=r.2.2/\r.2.2<=16777216
theorem Among.ok {S:Nat->Prop} {r:Rule} (hlt:∀ i,S i->i<27) (h:Among S r):RuleOk r:=by
 obtain ⟨a,c,e,ha,hc,h1,h2⟩:=h
 have:=hlt a ha
 have:=hlt c hc
 rw [e]
 refine ⟨⟨?_,?_⟩,⟨?_,?_⟩,?_,?_⟩<;>simp only<;>omega
theorem zfX {S:Nat->Prop}:∀ {l:List Rule} {b:Bds},Inv S b->(∀ r∈l,Among S r)->enterP b l/\∀ b',enterL b l=some b'->Inv S b'/\∀ i k,S i->S k->gt b' i k<=gt b i k
 | [],b,h,_=>⟨trivial,fun b' e=>by cases e;exact ⟨h,fun _ _ _ _=>Int.le_refl _⟩⟩
 | r::l,b,h,hl=>by
  have hr:=hl r yam
  have hok:=hr.ok h.lt
  obtain ⟨a,c,e,ha,hc,_⟩:=hr
  have step:okR b r=true->Inv S (putR b r)/\∀ i k,S i->S k->gt (putR b r) i k<=gt b i k:=by
   intro ho
   rw [e] at ho ⊢
   obtain ⟨h1,h2⟩:=put_in h ha hc (okR_iff.1 ho)
   exact ⟨h1,fun i k hi hk=>by rw [h2 i k hi hk];omega⟩
  refine ⟨⟨h.small,hok,fun ho=>(zfX (step ho).1 fun r hr=>hl r (yal _ hr)).1⟩,fun b' he=>?_⟩
  rw [enterL,ybe] at he
  split at he
  ·rename_i ho
   obtain ⟨h1,h2⟩:=(zfX (step ho).1 fun r hr=>hl r (yal _ hr)).2 b' he
   exact ⟨h1,fun i k hi hk=>Int.le_trans (h2 i k hi hk) ((step ho).2 i k hi hk)⟩
  ·cases he
theorem zjC {S:Nat->Prop} {b:Bds} (h:Inv S b) {p q:Nat} (hp:p<27) (hn:¬ S p) (hq:S q) {U L:Int} (h1:0<=L) (h2:L<=U) (h3:U<=16777216) (hup:U+gt b q 0<=16777216) :
  enterP b [((p:Int),(q:Int),U),((q:Int),(p:Int),-L)]/\∃ b',enterL b [((p:Int),(q:Int),U),((q:Int),(p:Int),-L)]=some b'/\Inv (fun x=>S x\/x=p) b' /\
   gt b' p 0=U+gt b q 0/\∀ i k,S i->S k->gt b' i k=gt b i k:=by
 have hq27:=h.lt q hq
 have hqp:q≠p:=fun e=>hn (e▸hq)
 have hfree:∀ i k,i<27->k<27->i≠k->¬ (S i/\S k)->gt b i k=free:=h.out
 have ok1:okR b ((p:Int),(q:Int),U)=true:=by
  rw [okR_iff,h.out q p hq27 hp hqp fun hh=>hn hh.2];simp only [free];omega
 have nle1:¬ gt b p q<=U:=by
  rw [h.out p q hp hq27 (Ne.symm hqp) fun hh=>hn hh.1];simp only [free];omega
 obtain ⟨b1,hb1⟩:∃ b1,b1=putR b ((p:Int),(q:Int),U):=⟨_,rfl⟩
 have sh1:Sh b1:=by rw [hb1];exact sh_put h.sh _
 have g1:∀ i k,i<27->k<27->gt b1 i k=newAt b p q U i k:=by
  intro i k hi hk
  rw [hb1,gt_put hi hk,if_neg nle1]
 have g1p:∀ k,S k->gt b1 p k=U+gt b q k:=by
  intro k hk
  have hk27:=h.lt k hk
  have hpk:p≠k:=fun e=>hn (e▸hk)
  have hh:=h.hi hq hk
  have hl:=h.lo hq hk
  rw [g1 p k hp hk27,zed (by rw [h.dg p hp];simp only [free];omega) (by simp only [free];omega),h.dg p hp,h.out p k hp hk27 hpk fun x=>hn x.1]
  simp only [free];omega
 have g1o:∀ i k,i<27->k<27->(i≠p\/¬ S k)->gt b1 i k=gt b i k:=by
  intro i k hi hk ho
  rw [g1 i k hi hk]
  by_cases e:i=p
  ·have hk':¬ S k:=ho.resolve_left fun x=>x e
   exact zgs (h.out q k hq27 hk (fun e'=>hk' (e'▸hq)) fun x=>hk' x.2)
  ·exact zgt (h.out i p hi hp e fun x=>hn x.2)
 have small1:Small b1:=by
  refine ⟨sh1.len,sh1.row,fun i k hi hk=>?_,fun i k hi hk=>?_⟩
  ·by_cases hh:i=p/\S k
   ·rw [hh.1,g1p k hh.2]
    have:=h.lo hq hh.2
    omega
   ·rw [g1o i k hi hk (by by_cases e:i=p;exact .inr fun x=>hh ⟨e,x⟩;exact .inl e)]
    exact h.small.low i k hi hk
  ·by_cases hh:i=p/\S k
   ·rw [hh.1,g1p k hh.2]
    have:=h.hi hq hh.2
    omega
   ·rw [g1o i k hi hk (by by_cases e:i=p;exact .inr fun x=>hh ⟨e,x⟩;exact .inl e)]
    exact h.small.high i k hi hk
 have hqq:=h.dg q hq27
 have ok2:okR b1 ((q:Int),(p:Int),-L)=true:=by
  rw [okR_iff,g1p q hq];omega
 have nle2:¬ gt b1 q p<=-L:=by
  rw [g1o q p hq27 hp (.inl hqp),h.out q p hq27 hp hqp fun hh=>hn hh.2];simp only [free];omega
 obtain ⟨b2,hb2⟩:∃ b2,b2=putR b1 ((q:Int),(p:Int),-L):=⟨_,rfl⟩
 have g2:∀ i k,i<27->k<27->gt b2 i k=newAt b1 q p (-L) i k:=by
  intro i k hi hk
  rw [hb2,gt_put hi hk,if_neg nle2]
 have lt2:∀ i,S i\/i=p->i<27:=fun i hi=>hi.elim (h.lt i) (fun e=>e▸hp)
 have xq:∀ i,S i->gt b1 i q=gt b i q:=fun i hi=>g1o i q (h.lt i hi) hq27 (.inl fun e=>hn (e▸hi))
 have pp1:gt b1 p p=0:=by rw [g1o p p hp hp (.inr hn)];exact h.dg p hp
 have s2:∀ i k,S i->S k->gt b2 i k=gt b i k:=by
  intro i k hi hk
  have a1:=h.hi hi hq
  have a2:=h.hi hq hk
  have a3:=h.tri i q k hi hq hk
  rw [g2 i k (h.lt i hi) (h.lt k hk),zed (by rw [xq i hi];simp only [free];omega) (by rw [g1p k hk];simp only [free];omega),xq i hi,g1p k hk,g1o i k (h.lt i hi) (h.lt k hk) (.inl fun e=>hn (e▸hi))]
  omega
 have s2p:∀ i,S i->gt b2 i p=gt b i q - L:=by
  intro i hi
  have hip:i≠p:=fun e=>hn (e▸hi)
  have a1:=h.hi hi hq
  rw [g2 i p (h.lt i hi) hp,zed (by rw [xq i hi];simp only [free];omega) (by rw [pp1];simp only [free];omega),xq i hi,pp1,g1o i p (h.lt i hi) hp (.inl hip),h.out i p (h.lt i hi) hp hip fun x=>hn x.2]
  simp only [free];omega
 have p2:∀ k,S k->gt b2 p k=U+gt b q k:=by
  intro k hk
  have a2:=h.hi hq hk
  rw [g2 p k hp (h.lt k hk),zed (by rw [g1p q hq];simp only [free];omega) (by rw [g1p k hk];simp only [free];omega),g1p q hq,g1p k hk]
  omega
 have pp2:gt b2 p p=0:=by
  rw [g2 p p hp hp,zed (by rw [g1p q hq];simp only [free];omega) (by rw [pp1];simp only [free];omega),g1p q hq,pp1]
  omega
 have o2:∀ i k,i<27->k<27->¬ ((S i\/i=p)/\(S k\/k=p))->gt b2 i k=gt b i k:=by
  intro i k hi hk hh
  rw [g2 i k hi hk]
  by_cases hi':S i\/i=p
  ·have hk':¬ (S k\/k=p):=fun x=>hh ⟨hi',x⟩
   have hpk:p≠k:=fun e=>hk' (.inr e.symm)
   have hSk:¬ S k:=fun x=>hk' (.inl x)
   rw [zgs (by rw [g1o p k hp hk (.inr hSk)];exact h.out p k hp hk hpk fun x=>hSk x.2)]
   exact g1o i k hi hk (.inr hSk)
  ·have hip:i≠p:=fun e=>hi' (.inr e)
   have hSi:¬ S i:=fun x=>hi' (.inl x)
   rw [zgt (by rw [g1o i q hi hq27 (.inl hip)];exact h.out i q hi hq27 (fun e=>hSi (e▸hq)) fun x=>hSi x.1)]
   exact g1o i k hi hk (.inl hip)
 have wo:RuleOk ((p:Int),(q:Int),U)/\RuleOk ((q:Int),(p:Int),-L):=by
  refine ⟨⟨⟨?_,?_⟩,⟨?_,?_⟩,?_,?_⟩,⟨?_,?_⟩,⟨?_,?_⟩,?_,?_⟩<;>simp only<;>omega
 refine ⟨⟨h.small,wo.1,fun _=>⟨by rw [<-hb1];exact small1,wo.2,fun _=>trivial⟩⟩,b2,?_,⟨?_,.inl h.s0,lt2,?_,?_,?_,?_,?_⟩,p2 0 h.s0,s2⟩
 ·rw [enterL,ok1,cond_true,<-hb1,enterL,ok2,cond_true,<-hb2];rfl
 ·rw [hb2];exact sh_put sh1 _
 ·intro i hi
  by_cases hs:S i
  ·rw [s2 i i hs hs];exact h.dg i hi
  ·by_cases e:i=p
   ·rw [e];exact pp2
   ·rw [o2 i i hi hi fun x=>x.1.elim hs e];exact h.dg i hi
 ·intro i k hi hk hne hh
  rw [o2 i k hi hk hh]
  exact h.out i k hi hk hne fun x=>hh ⟨.inl x.1,.inl x.2⟩
 ·rintro i (hi | rfl)
  ·rw [s2 i 0 hi h.s0];exact h.up i hi
  ·rw [p2 0 h.s0];exact hup
 ·rintro k (hk | rfl)
  ·rw [s2 0 k h.s0 hk];exact h.dn k hk
  ·rw [s2p 0 h.s0]
   have:=h.dn q hq
   omega
 ·rintro i j k (hi | rfl) (hj | rfl) (hk | rfl)
  ·rw [s2 i k hi hk,s2 i j hi hj,s2 j k hj hk];exact h.tri i j k hi hj hk
  ·rw [s2p i hi,s2 i j hi hj,s2p j hj]
   have:=h.tri i j q hi hj hq
   omega
  ·rw [s2 i k hi hk,s2p i hi,p2 k hk]
   have:=h.tri i q k hi hq hk
   omega
  ·rw [s2p i hi,pp2];omega
  ·rw [p2 k hk,p2 j hj,s2 j k hj hk]
   have:=h.tri q j k hq hj hk
   omega
  ·rw [pp2,p2 j hj,s2p j hj]
   have:=h.tri q j q hq hj hq
   omega
  ·rw [p2 k hk,pp2];omega
  ·rw [pp2];omega
end Go.Fade
/-
 Chapter 12: the conditions,proved;first part: the small functions.
-/
namespace Go.Fade
open Go Go.Sx
theorem tabs_ok:TabsOk prog T:=⟨by kernel_rfl,Go.Tt.maps_ok⟩
theorem mixed:prog.follows .mixedOrders=true:=Go.Tt.mixed
theorem zjp {s:Span} {a b:Int}:spanB s a b=true↔(a<=s.1/\s.1<=s.2)/\s.2<=b:=by simp [spanB]
theorem znG {f:Fading}:sizesB f=true↔f.1.length<=12/\f.2.1.length<=8/\(0<=f.2.2.1/\f.2.2.1<=6)/\f.2.2.2.length<=40:=by
 simp only [sizesB,yac,decide_eq_true_eq,inB_iff]
 constructor
 ·rintro ⟨⟨⟨h1,h2⟩,h3⟩,h4⟩
  exact ⟨by omega,by omega,h3,by omega⟩
 ·rintro ⟨h1,h2,h3,h4⟩
  exact ⟨⟨⟨by omega,by omega⟩,h3⟩,by omega⟩
theorem zkH {a:Int} (h:0<=a/\a<=6):less1 a=a - 1:=by
 unfold less1
 exact wrap_in ⟨by omega,by omega⟩
theorem zjY {f:Fading} {what index:Int} (h:0<=f.2.2.1/\f.2.2.1<=6):thingB f what index=true↔(what=0/\0<=index/\index<(f.2.1.length:Int))\/(what=1/\0<=index/\index<f.2.2.1):=by
 simp only [thingB,zkH h]
 by_cases h0:what=0
 ·subst h0
  rw [show ((0:Int)==0)=true from rfl,cond_true,inB_iff]
  constructor
  ·exact fun h=>.inl ⟨rfl,h.1,by omega⟩
  ·rintro (⟨_,h1,h2⟩ | ⟨h1,_⟩)
   ·exact ⟨h1,by omega⟩
   ·omega
 ·rw [show (what==0)=false from beq_eq_false_iff_ne.2 h0,cond_false]
  by_cases h1:what=1
  ·subst h1
   rw [show ((1:Int)==1)=true from rfl,cond_true,inB_iff]
   constructor
   ·exact fun h=>.inr ⟨rfl,h.1,by omega⟩
   ·rintro (⟨h1,_⟩ | ⟨_,h1,h2⟩)
    ·omega
    ·exact ⟨h1,by omega⟩
  ·rw [show (what==1)=false from beq_eq_false_iff_ne.2 h1,cond_false]
   simp [h0,h1]
structure OkC (f:Fading):Prop where
 nm:f.1.length<=12
 nr:f.2.1.length<=8
 ns:0<=f.2.2.1/\f.2.2.1<=6
 nc:f.2.2.2.length<=40
 months:∀ s∈f.1,(0<=s.1/\s.1<=s.2)/\s.2<=1000000
 refs:∀ s∈f.2.1,(1<=s.1/\s.1<=s.2)/\s.2<=16777216
 checks:∀ c∈f.2.2.2,(0<=c.1/\c.1<=(f.1.length:Int))/\((c.2.1=0/\0<=c.2.2.1/\c.2.2.1<(f.2.1.length:Int))\/(c.2.1=1/\0<=c.2.2.1/\c.2.2.1<f.2.2.1))
theorem cards_iff {f:Fading}:cardsB f=true↔OkC f:=by
 simp only [cardsB,yac,znG,List.all_eq_true,zjp,checkB,inB_iff]
 constructor
 ·rintro ⟨⟨⟨⟨h1,h2,h3,h4⟩,h5⟩,h6⟩,h7⟩
  exact ⟨h1,h2,h3,h4,h5,h6,fun c hc=>⟨(h7 c hc).1,(zjY h3).1 (h7 c hc).2⟩⟩
 ·intro h
  exact ⟨⟨⟨⟨h.nm,h.nr,h.ns,h.nc⟩,h.months⟩,h.refs⟩,fun c hc=>⟨(h.checks c hc).1,(zjY h.ns).2 (h.checks c hc).2⟩⟩
theorem v92 (x:Int × Int × Int) (_:k92.pre x):V92 x:=rfl
theorem v89 (x:Int × Int × Int) (_:k89.pre x):V89 x:=rfl
theorem v183 (x:Span × Int × Int) (_:k183.pre x):V183 x:=rfl
theorem v88 (x:Span × Int × Int) (_:k88.pre x):V88 x:=rfl
theorem v186 (x:Fading × Int × Int) (hp:k186.pre x):V186 x:=by
 obtain ⟨f,what,index⟩:=x
 have hp:f.2.1.length<=big:=hp
 simp only [big] at hp
 have e:zcq (f,what,index)=thingB f what index:=rfl
 refine ⟨fun h=>⟨?_,trivial,?_⟩,fun h=>⟨fun h1=>⟨trivial,?_⟩,fun h1=>?_⟩⟩
 ·simp only [Z.in64];omega
 ·rw [e,thingB,show (what==0)=true from h];rfl
 ·rw [e,thingB,show (what==0)=false from h,show (what==1)=true from h1];rfl
 ·rw [e,thingB,show (what==0)=false from h,show (what==1)=false from h1];rfl
theorem v90 (x:Fading × Int × Int) (hp:k90.pre x):V90 x:=by
 obtain ⟨f,what,index⟩:=x
 have hp:f.2.1.length<=big:=hp
 simp only [big] at hp
 have e:zbJ (f,what,index)=thingB f what index:=rfl
 refine ⟨fun h=>⟨?_,trivial,?_⟩,fun h=>⟨fun h1=>trivial,?_⟩⟩
 ·simp only [Z.in64];omega
 ·rw [e,thingB,show (what==0)=true from h];rfl
 ·show ((what==1)&&inB index 0 (less1 f.2.2.1))=_
  rw [e,thingB,show (what==0)=false from h,cond_false]
  cases what==1<;>rfl
theorem v93 (x:Int × Int) (hp:k93.pre x):V93 x:=by
 obtain ⟨p,n⟩:=x
 obtain ⟨h1,h2,h3⟩:(p=13\/p=14)/\0<=n/\n<=100:=hp
 have e:za (p,n)=plusV p n:=rfl
 refine ⟨fun h=>⟨?_,?_,?_,?_⟩,fun h=>⟨?_,?_⟩⟩
 ·show Z.in64 (p+8);simp only [Z.in64];omega
 ·show Z.in64 (p+8 - 1);simp only [Z.in64];omega
 ·show Z.in64 (p+8 - 1+n);simp only [Z.in64];omega
 ·rw [e,plusV,show (p==14)=true from h];rfl
 ·show Z.in64 (p+n);simp only [Z.in64];omega
 ·rw [e,plusV,show (p==14)=false from h];rfl
theorem v191 (x:Int × Int) (hp:k191.pre x):V191 x:=by
 obtain ⟨what,index⟩:=x
 obtain ⟨h1,h2⟩:(0<=what/\what<2)/\0<=index/\index<=100:=hp
 have hw:what=0\/what=1:=by omega
 rcases hw with rfl | rfl
 ·exact ⟨h1,⟨.inl rfl,h2⟩,rfl⟩
 ·refine ⟨h1,⟨.inr rfl,h2⟩,?_⟩
  show 14+8 - 1+index=21+index
  omega
theorem v182 (x:Span) (_:k182.pre x):V182 x:=⟨trivial,rfl⟩
theorem v184 (x:Span) (_:k184.pre x):V184 x:=⟨trivial,rfl⟩
theorem v185 (x:Check × Fading) (hp:k185.pre x):V185 x:=by
 refine ⟨trivial,fun _=>hp,?_⟩
 show (!inB x.1.1 0 (x.2.1.length:Int)||!thingB x.2 x.1.2.1 x.1.2.2.1)=!checkB x.2 x.1
 rw [checkB,ydW]
theorem v197 (x:(List Span) × Fun Span Bool) (h:k197.pre x):V197 x:=zfR x.1 (0,0) x.2 h.1 h.2
theorem v205 (x:(List Check) × Fun Check Bool) (h:k205.pre x):V205 x:=zfR x.1 (0,0,0,false) x.2 h.1 h.2
theorem v170 (x:(List Span) × Fun Span Bool) (h:k170.pre x):V170 x:=⟨h,any_ix _ _⟩
theorem v187 (x:(List Check) × Fun Check Bool) (h:k187.pre x):V187 x:=⟨h,any_ix _ _⟩
theorem v145 (x:Fading) (hp:k145.pre x):V145 x:=by
 obtain ⟨h1,h2,h3⟩:x.1.length<=big/\x.2.1.length<=big/\x.2.2.2.length<=big:=hp
 refine ⟨fun _=>trivial,fun _=>⟨h1,fun _ _=>trivial⟩,fun _=>⟨h2,fun _ _=>trivial⟩,fun _=>⟨h3,fun _ _=>h2⟩,?_⟩
 show ((((((decide ((x.1.length:Int)<=12)&&decide ((x.2.1.length:Int)<=8))&&inB x.2.2.1 0 6)&&decide ((x.2.2.2.length:Int)<=40))&&!(x.1.any fun a=>!spanB a 0 1000000))&&!(x.2.1.any fun a=>!spanB a 1 16777216))&&!(x.2.2.2.any fun a=>!checkB x a))=cardsB x
 rw [any_not,any_not,any_not]
 rfl
theorem v206 (x:Int × Int) (_:k206.pre x):V206 x:=rfl
theorem v207 (x:Int × Int) (_:k207.pre x):V207 x:=rfl
theorem v190 (x:Unit) (_:k190.pre x):V190 x:=by
 funext k
 cases k<;>rfl
theorem v94 (x:(Option Bds) × Int × Int) (h:k94.pre x):V94 x:=by
 obtain ⟨b,p,o⟩:=x
 obtain ⟨h1,h2,h3⟩:b.isSome=true/\(0<=p/\p<27)/\(0<=o/\o<27):=h
 obtain ⟨b,rfl⟩:=ydj.1 h1
 exact ⟨rfl,h2,h3,rfl⟩
end Go.Fade
/-
 Chapter 12: what is known without checks,and with them. Plain Lean.
-/
namespace Go.Fade
open Go Go.Sx
theorem Inv.congr {S S':Nat->Prop} {b:Bds} (h:Inv S b) (e:∀ x,S x↔S' x):Inv S' b:=by
 have:S=S':=funext fun x=>propext (e x)
 rw [<-this];exact h
theorem zec:Inv (fun x=>x=0) noBounds:=by
 have g:∀ i k,i<27->k<27->gt noBounds i k=cond (yab i k) 0 free:=fun i k hi hk=>zfV _ hi hk
 have g0:gt noBounds 0 0=0:=g 0 0 (by omega) (by omega)
 refine ⟨zjq _,rfl,fun i hi=>by omega,fun i hi=>?_,fun i k hi hk hne _=>?_,fun i hi=>by rw [hi,g0];omega,fun k hk=>by rw [hk,g0];omega,fun i j k hi hj hk=>by rw [hi,hj,hk,g0];omega⟩
 ·rw [g i i hi hi,ycD];rfl
 ·rw [g i k hi hk]
  cases hb:yab i k with
  | false=>rfl
  | true=>exact absurd (yad hb) hne
theorem zkF:∀ (l:List Span) (i:Nat) (b:Bds),Inv (fun x=>x<=i) b->i+l.length<=12->gt b i 0<=1000000*(i:Int)->(∀ s∈l,(0<=s.1/\s.1<=s.2)/\s.2<=1000000) ->
  enterP b (monthsL l i)/\∃ b',enterL b (monthsL l i)=some b'/\Inv (fun x=>x<=i+l.length) b'
 | [],i,b,h,_,_,_=>⟨trivial,b,rfl,h⟩
 | s::l,i,b,h,hl,hb,hs=>by
  have hl:i+(l.length+1)<=12:=hl
  obtain ⟨⟨s1,s2⟩,s3⟩:=hs s yam
  obtain ⟨p1,b1,p2,p3,p4,_⟩:=zjC h (p:=i+1) (q:=i) (by omega) (by omega) (Nat.le_refl i) (U:=s.2) (L:=s.1) s1 s2 (by omega) (by omega)
  obtain ⟨q1,b2,q2,q3⟩:=zkF l (i+1) b1 (p3.congr fun x=>by omega) (by omega) (by rw [p4];omega) fun s hs'=>hs s (yal _ hs')
  have e:monthsL (s::l) (i:Int)=[(((i+1:Nat):Int),(i:Int),s.2),((i:Int),((i+1:Nat):Int),-s.1)]++monthsL l ((i+1:Nat):Int):=rfl
  rw [e]
  refine ⟨zbm p1 fun b' hb'=>by rw [p2] at hb';cases hb';exact q1,b2,by rw [zaY,p2];exact q2,q3.congr fun x=>by simp only [ybT];omega⟩
def withRefs (n k:Nat) (x:Nat):Prop:=x<=n\/(13<=x/\x<13+k)
theorem refs_in (n:Nat) (hn:n<=12):∀ (l:List Span) (k:Nat) (b:Bds),Inv (withRefs n k) b->k+l.length<=8->(∀ s∈l,(1<=s.1/\s.1<=s.2)/\s.2<=16777216) ->
  enterP b (refsL l k)/\∀ b',enterL b (refsL l k)=some b'->Inv (withRefs n (k+l.length)) b'
 | [],k,b,h,_,_=>⟨trivial,fun b' e=>by cases e;exact h⟩
 | s::l,k,b,h,hl,hs=>by
  have hl:k+(l.length+1)<=8:=hl
  obtain ⟨⟨s1,s2⟩,s3⟩:=hs s yam
  have g0:=h.dg 0 (by omega)
  obtain ⟨p1,b1,p2,p3,p4,_⟩:=zjC h (p:=13+k) (q:=0) (by omega) (by unfold withRefs;omega) h.s0 (U:=s.2) (L:=s.1) (by omega) s2 s3 (by omega)
  have p3:Inv (withRefs n (k+1)) b1:=p3.congr fun x=>by unfold withRefs;omega
  have mid:enterP b1 (cond (decide (0<(k:Int))) [(13+((k:Int) - 1),13+(k:Int),-1)] [])/\∀ b',enterL b1 (cond (decide (0<(k:Int))) [(13+((k:Int) - 1),13+(k:Int),-1)] [])=some b'->Inv (withRefs n (k+1)) b':=by
   have:=zfX p3 (l:=cond (decide (0<(k:Int))) [(13+((k:Int) - 1),13+(k:Int),-1)] []) (fun r hr=>by
    cases hk:decide (0<(k:Int)) with
    | false=>rw [hk] at hr;cases hr
    | true =>
     rw [hk] at hr
     have hk:=of_decide_eq_true hk
     rw [List.mem_singleton.1 hr]
     refine ⟨13+k - 1,13+k,?_,by unfold withRefs;omega,by unfold withRefs;omega,by simp only;omega,by simp only;omega⟩
     simp only [Prod.mk.injEq,and_true]
     omega)
   exact ⟨this.1,fun b' hb'=>(this.2 b' hb').1⟩
  have e:refsL (s::l) (k:Int)=[(((13+k:Nat):Int),((0:Nat):Int),s.2),(((0:Nat):Int),((13+k:Nat):Int),-s.1)]++(cond (decide (0<(k:Int))) [(13+((k:Int) - 1),13+(k:Int),-1)] []++refsL l ((k+1:Nat):Int)):=by
   simp only [refsL]
   rw [show ((13+k:Nat):Int)=13+(k:Int) by omega]
   rfl
  rw [e]
  have rest:∀ b2,Inv (withRefs n (k+1)) b2->_:=fun b2 h2=>refs_in n hn l (k+1) b2 h2 (by omega) fun s hs'=>hs s (yal _ hs')
  refine ⟨zbm p1 fun b' hb'=>?_,fun b' hb'=>?_⟩
  ·rw [p2] at hb';cases hb'
   exact zbm mid.1 fun b2 hb2=>(rest b2 (mid.2 b2 hb2)).1
  ·rw [zaY,p2,ydX,zaY,ybc] at hb'
   obtain ⟨b2,hb2,hb3⟩:=hb'
   exact ((rest b2 (mid.2 b2 hb2)).2 b' hb3).congr fun x=>by unfold withRefs;simp only [ybT];omega
def withAll (n k s:Nat) (x:Nat):Prop:=x<=n\/(13<=x/\x<13+k)\/(21<=x/\x<21+s)
theorem ziB (n k:Nat) (hn:n<=12) (hk:k<=8):∀ (m s:Nat) (b:Bds),Inv (withAll n k s) b->s+m<=6 ->
  enterP b (samplesL m s)/\∃ b',enterL b (samplesL m s)=some b'/\Inv (withAll n k (s+m)) b'
 | 0,s,b,h,_=>⟨trivial,b,rfl,h⟩
 | m+1,s,b,h,hl=>by
  have g0:=h.dg 0 (by omega)
  obtain ⟨p1,b1,p2,p3,p4,_⟩:=zjC h (p:=21+s) (q:=0) (by omega) (by unfold withAll;omega) h.s0 (U:=16777216) (L:=1) (by omega) (by omega) (by omega) (by omega)
  obtain ⟨q1,b2,q2,q3⟩:=ziB n k hn hk m (s+1) b1 (p3.congr fun x=>by unfold withAll;omega) (by omega)
  have e:samplesL (m+1) (s:Int)=[(((21+s:Nat):Int),((0:Nat):Int),16777216),(((0:Nat):Int),((21+s:Nat):Int),-1)]++samplesL m ((s+1:Nat):Int):=by
   simp only [samplesL]
   rw [show ((21+s:Nat):Int)=21+(s:Int) by omega]
   rfl
  rw [e]
  exact ⟨zbm p1 fun b' hb'=>by rw [p2] at hb';cases hb';exact q1,b2,by rw [zaY,p2];exact q2,q3.congr fun x=>by unfold withAll;omega⟩
def known (f:Fading):Nat->Prop:=withAll f.1.length f.2.1.length f.2.2.1.toNat
theorem rise_in {f:Fading} (h:OkC f):enterP noBounds (riseL f)/\∀ b,enterL noBounds (riseL f)=some b->Inv (known f) b:=by
 have hm:=h.nm
 have hr:=h.nr
 have hs:=h.ns
 have g0:gt noBounds 0 0=0:=zec.dg 0 (by omega)
 obtain ⟨p1,b1,p2,p3⟩:=zkF f.1 0 noBounds (zec.congr fun x=>by omega) (by omega) (by rw [g0];omega) h.months
 have p3:Inv (withRefs f.1.length 0) b1:=p3.congr fun x=>by unfold withRefs;omega
 obtain ⟨q1,q2⟩:=refs_in f.1.length hm f.2.1 0 b1 p3 (by omega) h.refs
 have rest:∀ b2,enterL b1 (refsL f.2.1 0)=some b2->_:=fun b2 hb2=>ziB f.1.length f.2.1.length hm hr f.2.2.1.toNat 0 b2 ((q2 b2 hb2).congr fun x=>by unfold withRefs withAll;omega) (by omega)
 refine ⟨zbm p1 fun b' hb'=>?_,fun b hb=>?_⟩
 ·rw [show enterL noBounds (monthsL f.1 0)=some b1 from p2] at hb';cases hb'
  exact zbm q1 fun b2 hb2=>(rest b2 hb2).1
 ·rw [riseL,zaY,show enterL noBounds (monthsL f.1 0)=some b1 from p2,ydX,zaY,ybc] at hb
  obtain ⟨b2,hb2,hb3⟩:=hb
  obtain ⟨_,b3,r1,r2⟩:=rest b2 hb2
  rw [show enterL b2 (samplesL f.2.2.1.toNat 0)=some b3 from r1] at hb3
  cases hb3
  exact r2.congr fun x=>by unfold known withAll;omega
theorem zm {f:Fading} (h:OkC f) {what index:Int} (hw:(what=0/\0<=index/\index<(f.2.1.length:Int))\/(what=1/\0<=index/\index<f.2.2.1)):∃ p:Nat,ofV what index=(p:Int)/\known f p/\13<=p:=by
 have hr:=h.nr
 have hs:=h.ns
 rcases hw with ⟨rfl,h1,h2⟩ | ⟨rfl,h1,h2⟩
 ·refine ⟨13+index.toNat,?_,by unfold known withAll;omega,by omega⟩
  show 13+index=_
  omega
 ·refine ⟨21+index.toNat,?_,by unfold known withAll;omega,by omega⟩
  show 21+index=_
  omega
theorem zlo {f:Fading} (h:OkC f) {m:Int} (hm:0<=m/\m<=(f.1.length:Int)):∃ p:Nat,m=(p:Int)/\known f p/\p<=12:=by
 have:=h.nm
 exact ⟨m.toNat,by omega,by unfold known withAll;omega,by omega⟩
theorem zmR {f:Fading} (h:OkC f) {c:Check} (hc:(0<=c.1/\c.1<=(f.1.length:Int))/\((c.2.1=0/\0<=c.2.2.1/\c.2.2.1<(f.2.1.length:Int))\/(c.2.1=1/\0<=c.2.2.1/\c.2.2.1<f.2.2.1))):Among (known f) (ruleOf c):=by
 obtain ⟨p,e1,h1,_⟩:=zm h hc.2
 obtain ⟨m,e2,h2,_⟩:=zlo h hc.1
 unfold ruleOf
 cases c.2.2.2 with
 | true=>exact ⟨p,m,by rw [cond_true,e1,e2],h1,h2,by rw [cond_true];simp only;omega,by rw [cond_true];simp only;omega⟩
 | false=>exact ⟨m,p,by rw [cond_false,e1,e2],h2,h1,by rw [cond_false];simp only;omega,by rw [cond_false];simp only;omega⟩
theorem zeN {f:Fading} (h:OkC f):∀ r∈checksL f,Among (known f) r:=by
 intro r hr
 obtain ⟨c,hc,rfl⟩:=List.mem_map.1 hr
 exact zmR h (h.checks c hc)
theorem all_in {f:Fading} (h:OkC f):enterP noBounds (allL f)/\∀ b,enterL noBounds (allL f)=some b->Inv (known f) b:=by
 obtain ⟨h1,h2⟩:=rise_in h
 refine ⟨zbm h1 fun b hb=>(zfX (h2 b hb) (zeN h)).1,fun b hb=>?_⟩
 rw [allL,zaY,ybc] at hb
 obtain ⟨b1,hb1,hb2⟩:=hb
 exact ((zfX (h2 b1 hb1) (zeN h)).2 b hb2).1
theorem zfP {f:Fading} (h:OkC f) {x:Nat} (hx:known f x):x<27:=by
 have:=h.nm
 have:=h.nr
 have:=h.ns
 unfold known withAll at hx
 omega
end Go.Fade
/-
 Chapter 12: the conditions,proved;second part: the table of bounds.
-/
namespace Go.Fade
open Go Go.Sx
theorem zjs {α:Type} (n:Nat) (a d:α) {i:Nat} (h:i<n):(yaa n a).getD i d=a:=by simp [yda,List.getElem?_replicate,h]
theorem gt_set {M:Bds} (h:Sh M) {i k:Nat} (hi:i<27) (hk:k<27) (v:Int) {p q:Nat} (hp:p<27) (hq:q<27):gt (M.set i ((M.getD i z27).set k v)) p q=if p=i/\q=k then v else gt M p q:=by
 have hil:i<M.length:=by rw [h.len];exact hi
 have hpl:p<M.length:=by rw [h.len];exact hp
 unfold gt
 by_cases e:p=i
 ·subst e
  have hr:(M.set p ((M.getD p z27).set k v)).getD p z27=(M.getD p z27).set k v:=by simp [yda,hpl]
  rw [hr]
  have hrow:=h.row p hp
  by_cases e2:q=k
  ·subst e2
   rw [if_pos ⟨rfl,rfl⟩]
   simp [yda,hrow▸hq,ybU]
   have e0:(M[p]?.getD z27)=M.getD p z27:=by simp [yda]
   rw [e0,hrow,if_pos hq]
   rfl
  ·rw [if_neg (fun x=>e2 x.2)]
   simp [yda,ybU,Ne.symm e2]
 ·rw [if_neg (fun x=>e x.1)]
  have hr:(M.set i ((M.getD i z27).set k v)).getD p z27=M.getD p z27:=by simp [yda,ybU,Ne.symm e]
  rw [hr]
theorem sh_set {M:Bds} (h:Sh M) {i:Nat} (hi:i<27) (k:Nat) (v:Int):Sh (M.set i ((M.getD i z27).set k v)):=by
 refine ⟨by rw [ybV];exact h.len,fun p hp=>?_⟩
 have hil:i<M.length:=by rw [h.len];exact hi
 by_cases e:p=i
 ·subst e
  have hr:(M.set p ((M.getD p z27).set k v)).getD p z27=(M.getD p z27).set k v:=by simp [yda,hil]
  rw [hr,ybV]
  exact h.row p hp
 ·have hr:(M.set i ((M.getD i z27).set k v)).getD p z27=M.getD p z27:=by simp [yda,ybU,Ne.symm e]
  rw [hr];exact h.row p hp
theorem zoO {b:Bds} (h:Small b):Sh b:=⟨h.len,h.row⟩
structure Mx (b:Bds) (f:Nat->Nat->Int) (i k:Nat) (M:Bds):Prop where
 sh:Sh M
 eq:∀ p q,p<27->q<27->gt M p q=if p<i\/(p=i/\q<k) then f p q else gt b p q
theorem Mx.start {b:Bds} {f:Nat->Nat->Int} (h:Sh b):Mx b f 0 0 b:=⟨h,fun p q _ _=>by rw [if_neg (by omega)]⟩
theorem Mx.row {b:Bds} {f:Nat->Nat->Int} {i:Nat} {M:Bds} (h:Mx b f i 27 M):Mx b f (i+1) 0 M:=⟨h.sh,fun p q hp hq=>by
 rw [h.eq p q hp hq]
 by_cases e:p<i+1
 ·rw [if_pos (by omega),if_pos (.inl e)]
 ·rw [if_neg (by omega),if_neg (by omega)]⟩
theorem Mx.fin {b:Bds} {f:Nat->Nat->Int} {M:Bds} (h:Mx b f 27 0 M):M=table f:=sh_ext h.sh (zjq f) fun p q hp hq=>by
 rw [h.eq p q hp hq,if_pos (.inl hp),zfV f hp hq]
theorem Mx.put {b:Bds} {f:Nat->Nat->Int} {i k:Nat} {M:Bds} (h:Mx b f i k M) (hi:i<27) (hk:k<27) {v:Int} (hv:v=f i k):Mx b f i (k+1) (M.set i ((M.getD i z27).set k v)):=⟨sh_set h.sh hi k v,fun p q hp hq=>by
 rw [gt_set h.sh hi hk v hp hq]
 by_cases e:p=i/\q=k
 ·rw [if_pos e,if_pos (by omega),hv,e.1,e.2]
 ·rw [if_neg e,h.eq p q hp hq]
  by_cases e2:p<i\/(p=i/\q<k)
  ·rw [if_pos e2,if_pos (by omega)]
  ·rw [if_neg e2,if_neg (by omega)]⟩
theorem Mx.skip {b:Bds} {f:Nat->Nat->Int} {i k:Nat} {M:Bds} (h:Mx b f i k M) (hv:gt b i k=f i k):Mx b f i (k+1) M:=⟨h.sh,fun p q hp hq=>by
 rw [h.eq p q hp hq]
 by_cases e:p=i/\q=k
 ·rw [if_neg (by omega),if_pos (by omega),e.1,e.2,hv]
 ·by_cases e2:p<i\/(p=i/\q<k)
  ·rw [if_pos e2,if_pos (by omega)]
  ·rw [if_neg e2,if_neg (by omega)]⟩
theorem new_col {b:Bds} {a c:Nat} {w:Int} (hok:0<=gt b c a+w) (i:Nat):newAt b a c w i a=gt b i a:=by
 unfold newAt
 cases decide (gt b i a<free)&&decide (gt b c a<free) with
 | false=>rfl
 | true=>simp only [cond_true];omega
theorem new_row {b:Bds} {a c:Nat} {w:Int} (hok:0<=gt b c a+w) (k:Nat):newAt b a c w c k=gt b c k:=by
 unfold newAt
 cases decide (gt b c a<free)&&decide (gt b c k<free) with
 | false=>rfl
 | true=>simp only [cond_true];omega
theorem v146 (x:Unit) (_:k146.pre x):V146 x:=by
 have sh0:Sh (yaa 27 (yaa 27 (0:Int))):=⟨ydY,fun i hi=>by rw [zjs _ _ _ hi];exact ydY⟩
 have g0:∀ p q,p<27->q<27->gt (yaa 27 (yaa 27 (0:Int))) p q=0:=fun p q hp hq=>by unfold gt;rw [zjs _ _ _ hp,zjs _ _ _ hq]
 refine ⟨fun s=>∃ i:Nat,s.1=(i:Int)/\i<=27/\Mx (yaa 27 (yaa 27 0)) (fun i k=>cond (yab i k) 0 free) i 0 s.2,fun s=>(27 - s.1).toNat,⟨0,rfl,by omega,.start sh0⟩,?_⟩
 rintro ⟨i0,M⟩ ⟨i,rfl,hi,hM⟩
 refine ⟨fun h=>?_,fun h=>?_⟩
 ·have h:(i:Int)<27:=of_decide_eq_true h
  refine ⟨fun s=>∃ k:Nat,s.1=(k:Int)/\k<=27/\Mx (yaa 27 (yaa 27 0)) (fun i k=>cond (yab i k) 0 free) i k s.2,fun s=>(27 - s.1).toNat,⟨0,rfl,by omega,hM⟩,?_⟩
  rintro ⟨k0,M1⟩ ⟨k,rfl,hk,hM1⟩
  refine ⟨fun hk'=>?_,fun hk'=>?_⟩
  ·have hk':(k:Int)<27:=of_decide_eq_true hk'
   refine ⟨fun hne=>⟨⟨by omega,h⟩,⟨by omega,hk'⟩,?_,⟨k+1,?_,by omega,?_⟩,?_⟩,fun he=>⟨?_,⟨k+1,?_,by omega,?_⟩,?_⟩⟩
   ·show Z.in64 ((k:Int)+1);simp only [Z.in64];omega
   ·show (k:Int)+1=((k+1:Nat):Int);omega
   ·refine hM1.put (by omega) (by omega) ?_
    have hne:((i:Int)==(k:Int))=false:=by simpa using hne
    have:¬ i=k:=fun e=>by rw [e] at hne;simp at hne
    cases hb:yab i k with
    | false=>rfl
    | true=>exact absurd (yad hb) this
   ·show (27 - ((k:Int)+1)).toNat<(27 - (k:Int)).toNat;omega
   ·show Z.in64 ((k:Int)+1);simp only [Z.in64];omega
   ·show (k:Int)+1=((k+1:Nat):Int);omega
   ·refine hM1.skip ?_
    have he:((i:Int)==(k:Int))=true:=by simpa using he
    have:i=k:=by have:=eq_of_beq he;omega
    rw [g0 i k (by omega) (by omega),this,ycD];rfl
   ·show (27 - ((k:Int)+1)).toNat<(27 - (k:Int)).toNat;omega
  ·have hk':¬ (k:Int)<27:=of_decide_eq_false hk'
   have:k=27:=by omega
   subst this
   refine ⟨?_,⟨i+1,?_,by omega,hM1.row⟩,?_⟩
   ·show Z.in64 ((i:Int)+1);simp only [Z.in64];omega
   ·show (i:Int)+1=((i+1:Nat):Int);omega
   ·show (27 - ((i:Int)+1)).toNat<(27 - (i:Int)).toNat;omega
 ·have h:¬ (i:Int)<27:=of_decide_eq_false h
  have:i=27:=by omega
  subst this
  exact hM.fin
theorem v151 (x:Bds × List Rule) (hp:k151.l.pre x):V151 x:=by
 obtain ⟨b₀,l⟩:=x
 obtain ⟨hl,hp⟩:l.length<=10/\enterP b₀ l:=hp
 obtain ⟨R,hR⟩:∃ R,R=enterL b₀ l:=⟨_,rfl⟩
 have e1:zag (b₀,l)=R.isSome:=by rw [hR];rfl
 have e2:zap (b₀,l)=R.getD []:=by rw [hR];rfl
 rw [V151,e1,e2]
 refine ⟨fun s=>∃ i:Nat,s.1=(i:Int)/\i<=l.length/\enterP s.2 (l.drop i)/\R=enterL s.2 (l.drop i),fun s=>((l.length:Int) - s.1).toNat,⟨0,rfl,by omega,hp,hR⟩,?_⟩
 rintro ⟨i0,b⟩ ⟨i,hi0,hi,hP,hE⟩
 simp only at hi0 hP hE
 subst hi0
 refine ⟨fun h=>?_,fun h=>?_⟩
 ·have h:(i:Int)<(l.length:Int):=of_decide_eq_true h
  have hil:i<l.length:=by omega
  obtain ⟨r,hr⟩:∃ r,r=l.getD i (0,0,0):=⟨_,rfl⟩
  have e3:l.getD (yby (i:Int)) (0,0,0)=r:=hr.symm
  rw [zdt l (0,0,0) i hil,<-hr] at hP hE
  obtain ⟨sm,ro,hnext⟩:=hP
  obtain ⟨r1,r2,r3,r4⟩:=ro
  have sh:=zoO sm
  rw [enterL] at hE
  have hca1:=sm.low r.2.1.toNat r.1.toNat (by omega) (by omega)
  have hca2:=sm.high r.2.1.toNat r.1.toNat (by omega) (by omega)
  dsimp only
  rw [e3]
  refine ⟨⟨by omega,h⟩,r2,r1,?_,fun hbad=>⟨trivial,trivial,?_⟩,fun hok=>⟨r1,r2,fun hskip=>⟨?_,⟨i+1,?_,hil,?_,?_⟩,?_⟩,fun hns=>?_⟩⟩
  ·show Z.in64 (gt b r.2.1.toNat r.1.toNat+r.2.2);simp only [Z.in64];omega
  ·have:okR b r=false:=by rw [okR];rw [show decide (gt b r.2.1.toNat r.1.toNat+r.2.2<0)=true from hbad];rfl
   rw [this,cond_false] at hE
   rw [hE];rfl
  ·simp only [Z.in64];omega
  ·show (i:Int)+1=((i+1:Nat):Int);omega
  ·have hok':okR b r=true:=by rw [okR];rw [show decide (gt b r.2.1.toNat r.1.toNat+r.2.2<0)=false from hok];rfl
   have hput:putR b r=b:=by rw [putR];rw [show decide (gt b r.1.toNat r.2.1.toNat<=r.2.2)=true from hskip];rfl
   have:=hnext hok'
   rw [hput] at this
   exact this
  ·have hok':okR b r=true:=by rw [okR];rw [show decide (gt b r.2.1.toNat r.1.toNat+r.2.2<0)=false from hok];rfl
   have hput:putR b r=b:=by rw [putR];rw [show decide (gt b r.1.toNat r.2.1.toNat<=r.2.2)=true from hskip];rfl
   rw [hok',hput] at hE
   exact hE
  ·show ((l.length:Int) - ((i:Int)+1)).toNat<((l.length:Int) - (i:Int)).toNat;omega
  ·have hok':okR b r=true:=by rw [okR];rw [show decide (gt b r.2.1.toNat r.1.toNat+r.2.2<0)=false from hok];rfl
   have hge:0<=gt b r.2.1.toNat r.1.toNat+r.2.2:=by
    have:=of_decide_eq_false hok
    have:¬ gt b r.2.1.toNat r.1.toNat+r.2.2<0:=this
    omega
   have hput:putR b r=table (newAt b r.1.toNat r.2.1.toNat r.2.2):=by rw [putR];rw [show decide (gt b r.1.toNat r.2.1.toNat<=r.2.2)=false from hns];rfl
   have hnext:=hnext hok'
   rw [hok',cond_true] at hE
   rw [hput] at hnext hE
   obtain ⟨a,ha⟩:∃ a,a=r.1.toNat:=⟨_,rfl⟩
   obtain ⟨c,hc⟩:∃ c,c=r.2.1.toNat:=⟨_,rfl⟩
   have ha27:a<27:=by omega
   have hc27:c<27:=by omega
   rw [<-ha,<-hc] at hnext hE hge ⊢
   obtain ⟨f,hf⟩:∃ f,f=newAt b a c r.2.2:=⟨_,rfl⟩
   rw [<-hf] at hnext hE
   refine ⟨fun s=>∃ j:Nat,s.1=(j:Int)/\j<=27/\Mx b f j 0 s.2,fun s=>(27 - s.1).toNat,⟨0,rfl,by omega,.start sh⟩,?_⟩
   rintro ⟨j0,M⟩ ⟨j,hj0,hj,hM⟩
   simp only at hj0 hM
   subst hj0
   refine ⟨fun hjl=>?_,fun hjl=>?_⟩
   ·have hjl:(j:Int)<27:=of_decide_eq_true hjl
    have hj27:j<27:=by omega
    refine ⟨fun s=>∃ k:Nat,s.1=(k:Int)/\k<=27/\Mx b f j k s.2,fun s=>(27 - s.1).toNat,⟨0,rfl,by omega,hM⟩,?_⟩
    rintro ⟨q0,M1⟩ ⟨q,hq0,hq,hM1⟩
    simp only at hq0 hM1
    subst hq0
    refine ⟨fun hql=>?_,fun hql=>?_⟩
    ·have hql:(q:Int)<27:=of_decide_eq_true hql
     have hq27:q<27:=by omega
     have gx:gt M1 j a=gt b j a:=by
      rw [hM1.eq j a hj27 ha27]
      split
      ·rw [hf];exact new_col hge j
      ·rfl
     have gy:gt M1 c q=gt b c q:=by
      rw [hM1.eq c q hc27 hq27]
      split
      ·rw [hf];exact new_row hge q
      ·rfl
     have go:gt M1 j q=gt b j q:=by
      rw [hM1.eq j q hj27 hq27,if_neg (by omega)]
     have x1:=sm.low j a hj27 ha27
     have x2:=sm.high j a hj27 ha27
     have y1:=sm.low c q hc27 hq27
     have y2:=sm.high c q hc27 hq27
     have c0:(decide (gt M1 j a<free)&&decide (gt M1 c q<free))=(decide (gt b j a<free)&&decide (gt b c q<free)):=by rw [gx,gy]
     refine ⟨⟨by omega,hjl⟩,r1,r2,⟨by omega,hql⟩,fun hboth=>⟨⟨by omega,hjl⟩,⟨by omega,hql⟩,?_,?_,⟨by omega,hjl⟩,⟨by omega,hql⟩,?_,rfl,⟨q+1,?_,by omega,?_⟩,?_⟩,fun hnot=>⟨?_,rfl,⟨q+1,?_,by omega,?_⟩,?_⟩⟩
     ·show Z.in64 (gt M1 j a+r.2.2);rw [gx];simp only [Z.in64];omega
     ·show Z.in64 (gt M1 j a+r.2.2+gt M1 c q);rw [gx,gy];simp only [Z.in64];omega
     ·show Z.in64 ((q:Int)+1);simp only [Z.in64];omega
     ·show (q:Int)+1=((q+1:Nat):Int);omega
     ·refine hM1.put hj27 hq27 ?_
      show min (gt M1 j q) (gt M1 j a+r.2.2+gt M1 c q)=f j q
      have hb2:(decide (gt b j a<free)&&decide (gt b c q<free))=true:=by rw [<-c0];exact hboth
      rw [gx,gy,go,hf,newAt,hb2,cond_true]
     ·show (27 - ((q:Int)+1)).toNat<(27 - (q:Int)).toNat;omega
     ·show Z.in64 ((q:Int)+1);simp only [Z.in64];omega
     ·show (q:Int)+1=((q+1:Nat):Int);omega
     ·refine hM1.skip ?_
      have hb2:(decide (gt b j a<free)&&decide (gt b c q<free))=false:=by rw [<-c0];exact hnot
      rw [hf,newAt,hb2,cond_false]
     ·show (27 - ((q:Int)+1)).toNat<(27 - (q:Int)).toNat;omega
    ·have hql:¬ (q:Int)<27:=of_decide_eq_false hql
     have:q=27:=by omega
     subst this
     refine ⟨?_,rfl,⟨j+1,?_,by omega,hM1.row⟩,?_⟩
     ·show Z.in64 ((j:Int)+1);simp only [Z.in64];omega
     ·show (j:Int)+1=((j+1:Nat):Int);omega
     ·show (27 - ((j:Int)+1)).toNat<(27 - (j:Int)).toNat;omega
   ·have hjl:¬ (j:Int)<27:=of_decide_eq_false hjl
    have:j=27:=by omega
    subst this
    have hMf:=hM.fin
    refine ⟨?_,⟨i+1,?_,hil,?_,?_⟩,?_⟩
    ·show Z.in64 ((i:Int)+1);simp only [Z.in64];omega
    ·show (i:Int)+1=((i+1:Nat):Int);omega
    ·show enterP M _;rw [hMf];exact hnext
    ·show R=enterL M _;rw [hMf];exact hE
    ·show ((l.length:Int) - ((i:Int)+1)).toNat<((l.length:Int) - (i:Int)).toNat;omega
 ·have h:¬ (i:Int)<(l.length:Int):=of_decide_eq_false h
  have:i=l.length:=by omega
  subst this
  rw [ydZ,enterL] at hE
  rw [hE]
  exact ⟨rfl,rfl⟩
end Go.Fade
/-
 Chapter 12: the conditions,proved;third part: what is known without checks,and with them.
-/
namespace Go.Fade
open Go Go.Sx
theorem zdf {b:Bds} {l l':List Rule} {R:Option Bds} (hP:enterP b (l++l')) (hE:R=enterL b (l++l')):enterP b l/\((enterL b l).isSome=true->enterP ((enterL b l).getD []) l'/\R=enterL ((enterL b l).getD []) l')/\((enterL b l).isSome=false->R=none):=by
 refine ⟨zhZ hP,fun h=>?_,fun h=>?_⟩
 ·obtain ⟨b',hb⟩:=ydj.1 h
  rw [hb]
  refine ⟨zgV hP hb,?_⟩
  rw [hE,zaY,hb];rfl
 ·have hb:enterL b l=none:=by
   cases he:enterL b l with
   | none=>rfl
   | some _=>rw [he] at h;cases h
  rw [hE,zaY,hb];rfl
theorem v149 (x:Bds × Fading) (hp:k149.l.pre x):V149 x:=by
 obtain ⟨b₀,f⟩:=x
 obtain ⟨h1,h2⟩:b₀=noBounds/\cardsB f=true:=hp
 subst h1
 have O:=cards_iff.1 h2
 have hm:=O.nm
 have hr:=O.nr
 have hs:=O.ns
 obtain ⟨R,hR⟩:∃ R,R=enterL noBounds (riseL f):=⟨_,rfl⟩
 have e1:zax (noBounds,f)=R.isSome:=by rw [hR];rfl
 have e2:zci (noBounds,f)=R.getD []:=by rw [hR];rfl
 rw [V149,e1,e2]
 have hP:=(rise_in O).1
 rw [riseL] at hP hR
 refine ⟨fun s=>∃ i:Nat,s.1=(i:Int)/\i<=f.1.length/\enterP s.2 (monthsL (f.1.drop i) i++(refsL f.2.1 0++samplesL f.2.2.1.toNat 0))/\R=enterL s.2 (monthsL (f.1.drop i) i++(refsL f.2.1 0++samplesL f.2.2.1.toNat 0)),fun s=>((f.1.length:Int) - s.1).toNat,⟨0,rfl,by omega,hP,hR⟩,?_⟩
 clear hP hR
 rintro ⟨i0,b⟩ ⟨i,hi0,hi,hP,hE⟩
 simp only at hi0 hP hE
 subst hi0
 refine ⟨fun h=>?_,fun h=>?_⟩
 ·have h:(i:Int)<(f.1.length:Int):=of_decide_eq_true h
  have hil:i<f.1.length:=by omega
  obtain ⟨s,hs'⟩:∃ s,s=f.1.getD i (0,0):=⟨_,rfl⟩
  have e3:f.1.getD (yby (i:Int)) (0,0)=s:=hs'.symm
  have hsv:=O.months s (by rw [hs'];exact zao _ _ _ hil)
  rw [zdt f.1 (0,0) i hil,<-hs'] at hP hE
  have ee:monthsL (s::f.1.drop (i+1)) (i:Int)++(refsL f.2.1 0++samplesL f.2.2.1.toNat 0)=[((i:Int)+1,(i:Int),s.2),((i:Int),(i:Int)+1,-s.1)]++(monthsL (f.1.drop (i+1)) ((i:Int)+1)++(refsL f.2.1 0++samplesL f.2.2.1.toNat 0)):=rfl
  rw [ee] at hP hE
  obtain ⟨p1,p2,p3⟩:=zdf hP hE
  dsimp only
  rw [e3]
  refine ⟨⟨by omega,h⟩,trivial,trivial,?_,trivial,trivial,trivial,trivial,trivial,trivial,?_,trivial,trivial,?_,trivial,trivial,⟨⟨by show 2<=10;omega,p1⟩,trivial,trivial⟩,fun hok=>⟨?_,⟨i+1,?_,hil,(p2 hok).1,(p2 hok).2⟩,?_⟩,fun hbad=>?_⟩
  ·simp only [Z.in64];omega
  ·simp only [Z.in64];omega
  ·simp only [Z.in64];omega
  ·simp only [Z.in64];omega
  ·show (i:Int)+1=((i+1:Nat):Int);omega
  ·show ((f.1.length:Int) - ((i:Int)+1)).toNat<((f.1.length:Int) - (i:Int)).toNat;omega
  ·rw [p3 hbad];rfl
 have h:¬ (i:Int)<(f.1.length:Int):=of_decide_eq_false h
 have:i=f.1.length:=by omega
 subst this
 rw [ydZ,monthsL,ycL] at hP hE
 refine ⟨fun s=>∃ k:Nat,s.1=(k:Int)/\k<=f.2.1.length/\enterP s.2 (refsL (f.2.1.drop k) k++samplesL f.2.2.1.toNat 0)/\R=enterL s.2 (refsL (f.2.1.drop k) k++samplesL f.2.2.1.toNat 0),fun s=>((f.2.1.length:Int) - s.1).toNat,⟨0,rfl,by omega,hP,hE⟩,?_⟩
 clear hP hE h
 rintro ⟨k0,b2⟩ ⟨k,hk0,hk,hP,hE⟩
 simp only at hk0 hP hE
 subst hk0
 refine ⟨fun h=>?_,fun h=>?_⟩
 ·have h:(k:Int)<(f.2.1.length:Int):=of_decide_eq_true h
  have hkl:k<f.2.1.length:=by omega
  obtain ⟨s,hs'⟩:∃ s,s=f.2.1.getD k (0,0):=⟨_,rfl⟩
  have e3:f.2.1.getD (yby (k:Int)) (0,0)=s:=hs'.symm
  have hsv:=O.refs s (by rw [hs'];exact zao _ _ _ hkl)
  rw [zdt f.2.1 (0,0) k hkl,<-hs'] at hP hE
  obtain ⟨mid,hmid⟩:∃ mid:List Rule,mid=cond (decide (0<(k:Int))) [(13+((k:Int) - 1),13+(k:Int),-1)] []:=⟨_,rfl⟩
  have ee:refsL (s::f.2.1.drop (k+1)) (k:Int)++samplesL f.2.2.1.toNat 0=[(13+(k:Int),0,s.2),(0,13+(k:Int),-s.1)]++(mid++(refsL (f.2.1.drop (k+1)) ((k:Int)+1)++samplesL f.2.2.1.toNat 0)):=by
   rw [<-List.append_assoc mid,hmid]
   rfl
  rw [ee] at hP hE
  obtain ⟨p1,p2,p3⟩:=zdf hP hE
  dsimp only
  rw [e3]
  have pp:zam (13,(k:Int)):=by show (((13:Int)=13\/(13:Int)=14)/\0<=(k:Int)/\(k:Int)<=100);omega
  refine ⟨⟨by omega,h⟩,pp,pp,?_,⟨⟨by show 2<=10;omega,p1⟩,trivial,trivial⟩,fun hok=>?_,fun hbad=>?_⟩
  ·simp only [Z.in64];omega
  ·obtain ⟨hP2,hE2⟩:=p2 hok
   obtain ⟨q1,q2,q3⟩:=zdf hP2 hE2
   refine ⟨fun hpos=>⟨trivial,trivial,?_,?_,trivial,pp,trivial,trivial,⟨⟨by show 1<=10;omega,?_⟩,trivial,trivial⟩,fun hok2=>⟨?_,⟨k+1,?_,hkl,?_,?_⟩,?_⟩,fun hbad2=>?_⟩,fun hzero=>⟨?_,⟨k+1,?_,hkl,?_,?_⟩,?_⟩⟩
   all_goals try (have hpos':0<(k:Int):=of_decide_eq_true hpos)
   ·simp only [Z.in64];omega
   ·show (((13:Int)=13\/(13:Int)=14)/\0<=(k:Int) - 1/\(k:Int) - 1<=100);omega
   ·rw [hmid,show decide (0<(k:Int))=true from hpos,cond_true] at q1
    exact q1
   ·simp only [Z.in64];omega
   ·show (k:Int)+1=((k+1:Nat):Int);omega
   ·rw [hmid,show decide (0<(k:Int))=true from hpos,cond_true] at q2
    exact (q2 hok2).1
   ·rw [hmid,show decide (0<(k:Int))=true from hpos,cond_true] at q2
    exact (q2 hok2).2
   ·show ((f.2.1.length:Int) - ((k:Int)+1)).toNat<((f.2.1.length:Int) - (k:Int)).toNat;omega
   ·rw [hmid,show decide (0<(k:Int))=true from hpos,cond_true] at q3
    rw [q3 hbad2];rfl
   ·simp only [Z.in64];omega
   ·show (k:Int)+1=((k+1:Nat):Int);omega
   ·rw [hmid,show decide (0<(k:Int))=false from hzero,cond_false] at hP2
    exact hP2
   ·rw [hmid,show decide (0<(k:Int))=false from hzero,cond_false] at hE2
    exact hE2
   ·show ((f.2.1.length:Int) - ((k:Int)+1)).toNat<((f.2.1.length:Int) - (k:Int)).toNat;omega
  ·rw [p3 hbad];rfl
 have h:¬ (k:Int)<(f.2.1.length:Int):=of_decide_eq_false h
 have:k=f.2.1.length:=by omega
 subst this
 rw [ydZ,refsL,ycL] at hP hE
 obtain ⟨N,hN⟩:∃ N:Nat,f.2.2.1=(N:Int):=⟨f.2.2.1.toNat,by omega⟩
 have hN':f.2.2.1.toNat=N:=by omega
 rw [hN'] at hP hE
 refine ⟨fun s=>∃ j:Nat,s.1=(j:Int)/\j<=N/\enterP s.2 (samplesL (N - j) j)/\R=enterL s.2 (samplesL (N - j) j),fun s=>((N:Int) - s.1).toNat,⟨0,rfl,by omega,hP,hE⟩,?_⟩
 clear hP hE h
 rintro ⟨j0,b3⟩ ⟨j,hj0,hj,hP,hE⟩
 simp only at hj0 hP hE
 subst hj0
 dsimp only
 rw [hN]
 refine ⟨fun h=>?_,fun h=>?_⟩
 ·have h:(j:Int)<(N:Int):=of_decide_eq_true h
  rw [show N - j=(N - (j+1))+1 by omega] at hP hE
  have ee:samplesL (N - (j+1)+1) (j:Int)=[(21+(j:Int),0,16777216),(0,21+(j:Int),-1)]++samplesL (N - (j+1)) ((j:Int)+1):=rfl
  rw [ee] at hP hE
  obtain ⟨p1,p2,p3⟩:=zdf hP hE
  have pp:zam (14,(j:Int)):=by show (((14:Int)=13\/(14:Int)=14)/\0<=(j:Int)/\(j:Int)<=100);omega
  refine ⟨trivial,trivial,pp,trivial,trivial,pp,trivial,trivial,⟨⟨by show 2<=10;omega,p1⟩,trivial,trivial⟩,fun hok=>⟨?_,⟨j+1,?_,by omega,(p2 hok).1,(p2 hok).2⟩,?_⟩,fun hbad=>?_⟩
  ·simp only [Z.in64];omega
  ·show (j:Int)+1=((j+1:Nat):Int);omega
  ·show ((N:Int) - ((j:Int)+1)).toNat<((N:Int) - (j:Int)).toNat;omega
  ·rw [p3 hbad];rfl
 ·have h:¬ (j:Int)<(N:Int):=of_decide_eq_false h
  rw [show N - j=0 by omega,samplesL,enterL] at hE
  rw [hE]
  exact ⟨rfl,rfl⟩
theorem v150 (x:Fading) (_:k150.pre x):V150 x:=rfl
theorem v148 (x:Bds × Fading) (hp:k148.l.pre x):V148 x:=by
 obtain ⟨b₀,f⟩:=x
 obtain ⟨h1,h2⟩:b₀=noBounds/\cardsB f=true:=hp
 subst h1
 have O:=cards_iff.1 h2
 obtain ⟨R,hR⟩:∃ R,R=enterL noBounds (allL f):=⟨_,rfl⟩
 have e1:zbh (noBounds,f)=R.isSome:=by rw [hR];rfl
 have e2:zel (noBounds,f)=R.getD []:=by rw [hR];rfl
 rw [V148,e1,e2]
 have hP:=(all_in O).1
 rw [allL] at hP hR
 obtain ⟨p1,p2,p3⟩:=zdf hP hR
 refine ⟨trivial,trivial,⟨⟨rfl,h2⟩,trivial,trivial⟩,fun hok=>⟨h2,h2,fun q b=>∃ (l:List Rule) (i:Int),q=numb l i/\enterP b l/\R=enterL b l,⟨checksL f,0,rfl,(p2 hok).1,(p2 hok).2⟩,?_,?_⟩,fun hbad=>?_⟩
 ·rintro e q b ⟨l,i,hq,hPl,hEl⟩
  cases l with
  | nil=>cases hq
  | cons r l =>
   obtain ⟨rfl,rfl⟩:=List.cons.inj hq
   have ee:r::l=[r]++l:=rfl
   rw [ee] at hPl hEl
   obtain ⟨q1,q2,q3⟩:=zdf hPl hEl
   refine ⟨trivial,trivial,trivial,⟨⟨by show 1<=10;omega,q1⟩,trivial,trivial⟩,fun hok2=>⟨trivial,l,i+1,rfl,(q2 hok2).1,(q2 hok2).2⟩,fun hbad2=>?_⟩
   rw [q3 hbad2];rfl
 ·rintro b ⟨l,i,hq,hPl,hEl⟩
  cases l with
  | cons r l=>cases hq
  | nil =>
   rw [enterL] at hEl
   rw [hEl]
   exact ⟨rfl,rfl⟩
 ·rw [p3 hbad];rfl
theorem v91 (x:Fading × Bool) (hp:k91.pre x):V91 x:=by
 obtain ⟨f,valid⟩:=x
 have hp:sizeP f:=hp
 have e:zaA (f,valid)=openV f valid:=rfl
 refine ⟨hp,fun h=>?_,fun h=>⟨fun hv=>?_,fun hv=>⟨trivial,trivial,⟨⟨rfl,not_iff.2.1 h⟩,trivial,trivial⟩,fun hok=>⟨trivial,fun h'=>(by cases h'),fun _=>?_⟩,fun hbad=>⟨trivial,fun _=>?_,fun h'=>(by cases h')⟩⟩⟩⟩
 ·rw [e,openV,show (!cardsB f)=true from h];rfl
 ·rw [e,openV,show (!cardsB f)=false from h,show (!valid)=true from hv];rfl
 ·rw [e,openV,show (!cardsB f)=false from h,show (!valid)=false from hv]
  have hok:(enterL noBounds (allL f)).isSome=true:=hok
  obtain ⟨b,hb⟩:=ydj.1 hok
  show (some ((enterL noBounds (allL f)).getD []),(0:Int))=_
  rw [hb];rfl
 ·rw [e,openV,show (!cardsB f)=false from h,show (!valid)=false from hv]
  have hbad:(enterL noBounds (allL f)).isSome=false:=hbad
  cases he:enterL noBounds (allL f) with
  | some _=>rw [he] at hbad;cases hbad
  | none=>rfl
theorem zpe (c:Check) (d:Fun (Int × Int) Rule):(((zaG ()) c.2.2.2).getD d).val (fade_of (c.2.1,c.2.2.1),c.1)=ruleOf c:=by
 unfold zaG ruleOf
 cases c.2.2.2<;>rfl
theorem zpf (c:Check) (d:Fun (Int × Int) Rule) (y:Int × Int):(((zaG ()) c.2.2.2).getD d).pre y:=by
 unfold zaG
 cases c.2.2.2<;>trivial
theorem v189 (ly:Nat) (x:Fading) (hp:k189.pre x):V189 ly x:=by
 have hp:cardsB x=true:=hp
 have O:=cards_iff.1 hp
 have hr:=O.nr
 have hs:=O.ns
 have hc:=O.nc
 obtain ⟨N,hN⟩:∃ N,N=numb (checksL x) 0:=⟨_,rfl⟩
 have hN':zbl x=N:=hN.symm
 refine ⟨trivial,trivial,trivial,trivial,fun s=>s.2.2=false/\∃ i:Nat,s.1=(i:Int)/\i<=x.2.2.2.length/\N=s.2.1++numb ((x.2.2.2.drop i).map ruleOf) i,fun s=>((x.2.2.2.length:Int) - s.1).toNat,⟨rfl,0,rfl,by omega,hN⟩,?_⟩
 rintro ⟨i0,out,fl⟩ ⟨g0,i,g1,g2,g3⟩
 simp only at g0 g1 g3
 subst g0 g1
 refine ⟨fun h=>?_,fun h _=>?_⟩
 ·have h:(i:Int)<(x.2.2.2.length:Int):=of_decide_eq_true h
  have hil:i<x.2.2.2.length:=by omega
  obtain ⟨c,hc'⟩:∃ c,c=x.2.2.2.getD i (0,0,0,false):=⟨_,rfl⟩
  have e3:x.2.2.2.getD (yby (i:Int)) (0,0,0,false)=c:=hc'.symm
  have hcv:=O.checks c (by rw [hc'];exact zao _ _ _ hil)
  rw [zdt x.2.2.2 (0,0,0,false) i hil,<-hc',List.map_cons,numb] at g3
  dsimp only
  rw [e3,hN']
  rw [zpe]
  refine ⟨⟨by omega,h⟩,trivial,?_,zpf c _ _,⟨rfl,rfl⟩,⟨_,g3⟩,⟨trivial,fun h'=>(by cases h'),fun _=>⟨?_,⟨rfl,i+1,?_,hil,?_⟩,?_⟩⟩,trivial,fun _ h'=>(by cases h'),fun h'=>(by cases h')⟩
  ·show ((0<=c.2.1/\c.2.1<2)/\0<=c.2.2.1/\c.2.2.1<=100)
   omega
  ·simp only [Z.in64];omega
  ·show (i:Int)+1=((i+1:Nat):Int);omega
  ·rw [g3];simp
  ·show ((x.2.2.2.length:Int) - ((i:Int)+1)).toNat<((x.2.2.2.length:Int) - (i:Int)).toNat;omega
 ·have h:¬ (i:Int)<(x.2.2.2.length:Int):=of_decide_eq_false h
  have:i=x.2.2.2.length:=by omega
  subst this
  show out=zbl x
  rw [hN',g3,ydZ]
  simp [numb]
end Go.Fade
/-
 Chapter 12: the conditions,proved;fourth part: Light,Fast,Grade,Clash,Until.
-/
namespace Go.Fade
open Go Go.Sx
theorem open_ok {f:Fading} {valid:Bool} (h:((openV f valid).2==0)=true):OkC f/\valid=true/\∃ b,openV f valid=(some b,0)/\enterL noBounds (allL f)=some b/\Inv (known f) b:=by
 unfold openV at h ⊢
 cases hc:cardsB f with
 | false=>rw [hc] at h;have h:false=true:=h;cases h
 | true =>
  rw [hc] at h
  cases valid with
  | false=>have h:false=true:=h;cases h
  | true =>
   have O:=cards_iff.1 hc
   cases he:enterL noBounds (allL f) with
   | none=>rw [he] at h;have h:false=true:=h;cases h
   | some b=>exact ⟨O,rfl,b,rfl,rfl,(all_in O).2 b he⟩
theorem zli {f:Fading} {b:Bds} (h:Inv (known f) b) {p q:Nat} (hp:known f p) (hq:known f q):aboveP (some b) (p:Int) (q:Int):=by
 have:=h.lt p hp
 have:=h.lt q hq
 exact ⟨rfl,⟨by omega,by omega⟩,by omega,by omega⟩
theorem known0 (f:Fading):known f 0:=by unfold known withAll;omega
theorem znM {f:Fading} {k:Nat} (h:k<f.2.1.length):known f (13+k):=by unfold known withAll;omega
theorem v29 (x:Fading × Int) (hp:k29.pre x):V29 x:=by
 obtain ⟨f,index⟩:=x
 have hp:sizeP f:=hp
 have e:fade_Grade (f,index)=gradeV f index:=rfl
 refine ⟨trivial,hp,fun h=>?_,fun h=>?_⟩
 ·have h:(!((openV f (inB index 0 (less1 f.2.2.1))).2==0))=true:=h
  rw [e,gradeV]
  simp only
  rw [h];rfl
 ·have h:(!((openV f (inB index 0 (less1 f.2.2.1))).2==0))=false:=h
  obtain ⟨O,hv,b,hb,_,hI⟩:=open_ok (not_iff.2.1 h)
  have hr:=O.nr
  have hs:=O.ns
  rw [zkH O.ns,inB_iff] at hv
  obtain ⟨p,ep,hk,_⟩:=zm O (what:=1) (index:=index) (.inr ⟨rfl,hv.1,by omega⟩)
  have ep:21+index=(p:Int):=ep
  have e1:zaA (f,zal (index,0,less1 f.2.2.1))=(some b,0):=hb
  have e2:za (14,index)=(p:Int):=ep
  have eR:fade_Grade (f,index)=(gradeGo (some b) (p:Int) f.2.1.length 0 (0,0),0):=by
   rw [e,gradeV]
   show cond (!((openV f (inB index 0 (less1 f.2.2.1))).2==0)) ((0,0),(openV f (inB index 0 (less1 f.2.2.1))).2) (gradeGo (openV f (inB index 0 (less1 f.2.2.1))).1 (21+index) f.2.1.length 0 (0,0),0)=_
   rw [h,cond_false,show openV f (inB index 0 (less1 f.2.2.1))=(some b,0) from hb,ep]
  obtain ⟨R,hR⟩:∃ R,R=gradeGo (some b) (p:Int) f.2.1.length 0 (0,0):=⟨_,rfl⟩
  rw [<-hR] at eR
  refine ⟨?_,?_⟩
  ·show (((14:Int)=13\/(14:Int)=14)/\0<=index/\index<=100);omega
  refine ⟨fun s=>∃ k:Nat,s.1=(k:Int)/\k<=f.2.1.length/\R=gradeGo (some b) (p:Int) (f.2.1.length - k) k s.2/\(0<=s.2.1/\s.2.1<=(k:Int))/\0<=s.2.2/\s.2.2<=(k:Int),fun s=>((f.2.1.length:Int) - s.1).toNat,⟨0,rfl,by omega,hR,by simp,by simp⟩,?_⟩
  rintro ⟨k0,lo,hi⟩ ⟨k,rfl,hkl,hG,hlo,hhi⟩
  have hlo:0<=lo/\lo<=(k:Int):=hlo
  have hhi:0<=hi/\hi<=(k:Int):=hhi
  refine ⟨fun hk1=>?_,fun hk1=>?_⟩
  ·have hk1:(k:Int)<(f.2.1.length:Int):=of_decide_eq_true hk1
   have hkl':k<f.2.1.length:=by omega
   have kk:=znM hkl'
   have pp:zam (13,(k:Int)):=by show (((13:Int)=13\/(13:Int)=14)/\0<=(k:Int)/\(k:Int)<=100);omega
   have e3:za (13,(k:Int))=((13+k:Nat):Int):=by
    show 13+(k:Int)=_
    omega
   have a1:zaV ((zaA (f,zal (index,0,less1 f.2.2.1))).1,za (13,(k:Int)),za (14,index)):=by
    rw [e1,e2,e3];exact zli hI kk hk
   have a2:zaV ((zaA (f,zal (index,0,less1 f.2.2.1))).1,za (14,index),za (13,(k:Int))):=by
    rw [e1,e2,e3];exact zli hI hk kk
   have b1:zay ((zaA (f,zal (index,0,less1 f.2.2.1))).1,za (13,(k:Int)),za (14,index))=aboveV (some b) (13+(k:Int)) (p:Int):=by
    rw [e1,e2];rfl
   have b2:zay ((zaA (f,zal (index,0,less1 f.2.2.1))).1,za (14,index),za (13,(k:Int)))=aboveV (some b) (p:Int) (13+(k:Int)):=by
    rw [e1,e2];rfl
   rw [show f.2.1.length - k=(f.2.1.length - (k+1))+1 by omega,gradeGo] at hG
   have ms:((f.2.1.length:Int) - ((k:Int)+1)).toNat<((f.2.1.length:Int) - (k:Int)).toNat:=by omega
   refine ⟨pp,a1,fun c1=>⟨?_,pp,a2,fun c2=>⟨?_,?_,⟨k+1,?_,hkl',?_,?_,?_⟩,ms⟩,fun c2=>⟨?_,⟨k+1,?_,hkl',?_,?_,?_⟩,ms⟩⟩,fun c1=>⟨pp,a2,fun c2=>⟨?_,?_,⟨k+1,?_,hkl',?_,?_,?_⟩,ms⟩,fun c2=>⟨?_,⟨k+1,?_,hkl',?_,?_,?_⟩,ms⟩⟩⟩
   all_goals try (simp only [Z.in64];omega)
   all_goals try (show (k:Int)+1=((k+1:Nat):Int);omega)
   ·have c1:decide (aboveV (some b) (13+(k:Int)) (p:Int)<=0)=true:=by rw [<-b1];exact c1
    have c2:decide (0<=aboveV (some b) (p:Int) (13+(k:Int)))=true:=by rw [<-b2];exact c2
    rw [c1,c2] at hG;exact hG
   ·have c1:decide (aboveV (some b) (13+(k:Int)) (p:Int)<=0)=true:=by rw [<-b1];exact c1
    have c2:decide (0<=aboveV (some b) (p:Int) (13+(k:Int)))=false:=by rw [<-b2];exact c2
    rw [c1,c2,cond_true,cond_false,ydI] at hG;exact hG
   ·have c1:decide (aboveV (some b) (13+(k:Int)) (p:Int)<=0)=false:=by rw [<-b1];exact c1
    have c2:decide (0<=aboveV (some b) (p:Int) (13+(k:Int)))=true:=by rw [<-b2];exact c2
    rw [c1,c2,cond_true,cond_false,ydI] at hG;exact hG
   ·have c1:decide (aboveV (some b) (13+(k:Int)) (p:Int)<=0)=false:=by rw [<-b1];exact c1
    have c2:decide (0<=aboveV (some b) (p:Int) (13+(k:Int)))=false:=by rw [<-b2];exact c2
    rw [c1,c2,cond_false,ydI,ydI] at hG;exact hG
  ·have hk1:¬ (k:Int)<(f.2.1.length:Int):=of_decide_eq_false hk1
   rw [show f.2.1.length - k=0 by omega,gradeGo] at hG
   rw [eR,hG]
end Go.Fade
/-
 Chapter 12: the conditions,proved;fifth part: the examples;FadeNames;FadeOwns;the document's Cards.
-/
set_option maxRecDepth 1000000
namespace Go.Fade
open Go Go.Sx
theorem zlc {f:Fading} (h:f.1.all (fun s=>spanB s 0 1000000)=false):cardsB f=false:=by
 rw [cardsB,h,ydV,yea,yea]
theorem znr {f:Fading} (h:f.2.1.all (fun s=>spanB s 1 16777216)=false):cardsB f=false:=by
 rw [cardsB,h,ydV,yea]
theorem zld {f:Fading} (h:f.2.2.2.all (checkB f)=false):cardsB f=false:=by
 rw [cardsB,h,ydV]
theorem v27 (x:Fading) (hp:k27.pre x):V27 x:=by
 obtain ⟨hm,hr,hc⟩:sizeP x:=hp
 simp only [big] at hm hr hc
 have e:zbv x=cardsB x:=rfl
 rw [V27,e]
 refine ⟨fun s=>0<=s/\s<=(x.1.length:Int)/\x.1.all (fun s=>spanB s 0 1000000)=(x.1.drop s.toNat).all (fun s=>spanB s 0 1000000),fun s=>((x.1.length:Int) - s).toNat,⟨by omega,by omega,rfl⟩,?_⟩
 rintro s ⟨h1,h2,h3⟩
 refine ⟨fun h=>?_,fun h=>?_⟩
 ·have h:=of_decide_eq_true h
  rw [zhp _ x.1 (0,0) s h1 h] at h3
  refine ⟨⟨h1,h⟩,trivial,fun hb=>?_,fun hb=>⟨?_,⟨by omega,by omega,?_⟩,?_⟩⟩
  ·have hb:(!spanB (x.1.getD s.toNat (0,0)) 0 1000000)=true:=hb
   rw [not_iff.1.1 hb,yea] at h3
   exact (zlc h3).symm
  ·simp only [Z.in64];omega
  ·have hb:(!spanB (x.1.getD s.toNat (0,0)) 0 1000000)=false:=hb
   rw [not_iff.2.1 hb,yck] at h3
   exact h3
  ·simp only;omega
 have h:=of_decide_eq_false h
 rw [show x.1.drop s.toNat=[] from ydc (by omega)] at h3
 have hM:x.1.all (fun s=>spanB s 0 1000000)=true:=h3
 clear h h1 h2 h3
 refine ⟨fun s=>0<=s/\s<=(x.2.1.length:Int)/\x.2.1.all (fun s=>spanB s 1 16777216)=(x.2.1.drop s.toNat).all (fun s=>spanB s 1 16777216),fun s=>((x.2.1.length:Int) - s).toNat,⟨by omega,by omega,rfl⟩,?_⟩
 rintro s ⟨h1,h2,h3⟩
 refine ⟨fun h=>?_,fun h=>?_⟩
 ·have h:=of_decide_eq_true h
  rw [zhp _ x.2.1 (0,0) s h1 h] at h3
  refine ⟨⟨h1,h⟩,trivial,fun hb=>?_,fun hb=>⟨?_,⟨by omega,by omega,?_⟩,?_⟩⟩
  ·have hb:(!spanB (x.2.1.getD s.toNat (0,0)) 1 16777216)=true:=hb
   rw [not_iff.1.1 hb,yea] at h3
   exact (znr h3).symm
  ·simp only [Z.in64];omega
  ·have hb:(!spanB (x.2.1.getD s.toNat (0,0)) 1 16777216)=false:=hb
   rw [not_iff.2.1 hb,yck] at h3
   exact h3
  ·simp only;omega
 have h:=of_decide_eq_false h
 rw [show x.2.1.drop s.toNat=[] from ydc (by omega)] at h3
 have hR:x.2.1.all (fun s=>spanB s 1 16777216)=true:=h3
 clear h h1 h2 h3
 refine ⟨fun s=>0<=s/\s<=(x.2.2.2.length:Int)/\x.2.2.2.all (checkB x)=(x.2.2.2.drop s.toNat).all (checkB x),fun s=>((x.2.2.2.length:Int) - s).toNat,⟨by omega,by omega,rfl⟩,?_⟩
 rintro s ⟨h1,h2,h3⟩
 refine ⟨fun h=>?_,fun h=>?_⟩
 ·have h:=of_decide_eq_true h
  rw [zhp _ x.2.2.2 (0,0,0,false) s h1 h] at h3
  obtain ⟨c,hc'⟩:∃ c,c=x.2.2.2.getD s.toNat (0,0,0,false):=⟨_,rfl⟩
  have e3:x.2.2.2.getD (yby s) (0,0,0,false)=c:=hc'.symm
  rw [e3] at h3 ⊢
  have ec:((!zcs (c.1,0,(x.1.length:Int)))||!zbJ (x,c.2.1,c.2.2.1))=!checkB x c:=by
   show (!inB c.1 0 (x.1.length:Int)||!thingB x c.2.1 c.2.2.1)=_
   rw [checkB,ydW]
  rw [ec]
  refine ⟨⟨h1,h⟩,trivial,fun _=>?_,fun hb=>?_,fun hb=>⟨?_,⟨by omega,by omega,?_⟩,?_⟩⟩
  ·show x.2.1.length<=big
   simp only [big];omega
  ·rw [not_iff.1.1 hb,yea] at h3
   exact (zld h3).symm
  ·simp only [Z.in64];omega
  ·rw [not_iff.2.1 hb,yck] at h3
   exact h3
  ·simp only;omega
 have h:=of_decide_eq_false h
 rw [show x.2.2.2.drop s.toNat=[] from ydc (by omega)] at h3
 have hC:x.2.2.2.all (checkB x)=true:=h3
 refine ⟨fun _=>trivial,?_⟩
 rw [cardsB,hM,hR,hC,yeb,yeb,yeb]
 rfl
end Go.Fade
