/-
  Small facts on lists and numbers, for the conditions of chapter 10. Plain Lean; no program in sight.
-/
import Derived.Test.YtdhdklojcppfcaaSH
import Derived.Test.YtdhdklojcppfcaaProg
set_option linter.all false
set_option maxRecDepth 100000
open Int renaming mul_le_mul_of_nonneg_left->yaU,mul_le_mul_of_nonneg_right->yds,toNat->yby
open List renaming all_cons->ybZ,any_cons->ydr,countP_cons->ydt,getD->yda,mem_cons->yaq,mem_cons_of_mem->yal,range->yaf
open Go.Proofs.Try
namespace Go.Tt
open Go Go.Sx
abbrev I:Ty:=.i .i64
abbrev big:Nat:=1000000
def inB (n a b:Int):Bool:=decide (a<=n)&&decide (n<=b)
def ixF {α:Type} (p:α->Bool):List α->Int->Int
 | [],_=>-1
 | a::l,i=>cond (p a) i (ixF p l (i+1))
theorem inB_iff {n a b:Int}:inB n a b=true↔a<=n/\n<=b:=by simp [inB]
theorem zmD {a b:Bool} (h:a=true↔b=true):a=b:=by cases a<;>cases b<;>simp_all
theorem not_iff {a:Bool}:((!a)=true↔a=false)/\((!a)=false↔a=true):=by cases a<;>simp
theorem zly {α:Type} (l:List α) (d:α) (i:Nat) (h:i<l.length):l.drop i=l.getD i d::l.drop (i+1):=by
 rw [List.drop_eq_getElem_cons h]
 simp [yda,h]
theorem zev {α:Type} (l:List α) (d:α) (i:Int) (h0:0<=i) (h:i<(l.length:Int)):l.drop i.toNat=l.getD i.toNat d::l.drop (i+1).toNat:=by
 have e:(i+1).toNat=i.toNat+1:=by omega
 rw [e]
 exact zly l d _ (by omega)
theorem zbv {α:Type} (l:List α) (d:α) (i:Nat) (h:i<l.length):l.getD i d∈l:=by
 simp [yda,h]
theorem zgy {α:Type} (l:List α) (d:α) (i:Int) (h0:0<=i) (h:i<(l.length:Int)):l.getD i.toNat d∈l:=zbv l d _ (by omega)
theorem ixF_any {α:Type} (p:α->Bool):∀ (l:List α) (i:Int),0<=i->(0<=ixF p l i↔l.any p=true)
 | [],i,_=>by simp [ixF]
 | a::l,i,h=>by
  simp only [ixF,ydr]
  cases ha:p a with
  | true=>simp [h]
  | false=>simpa using ixF_any p l (i+1) (by omega)
theorem any_ix {α:Type} (p:α->Bool) (l:List α):decide (0<=ixF p l 0)=l.any p:=by
 refine zmD ?_
 rw [decide_eq_true_eq]
 exact ixF_any p l 0 (by omega)
theorem any_not {α:Type} (p:α->Bool) (l:List α):(!l.any fun a=>!p a)=l.all p:=by
 induction l with
 | nil=>rfl
 | cons a l ih=>simp only [ydr,ybZ,Bool.not_or,Bool.not_not,ih]
theorem zfX {α:Type} (l:List α) (d:α) (F:Fun α Bool) (hl:l.length<=big) (hp:∀ a∈l,F.pre a) :
  Z.LoopP (X:=Int) 0 (fun s0 K0=>(((decide ((s0:Int)<(l.length:Int))=true)->(((0:Int)<=s0/\(s0:Int)<(l.length:Int))/\((F.pre (l.getD (yby s0) d))/\((((F.val (l.getD (yby s0) d))=true)->((s0:Int)=ixF F.val l 0))/\(((F.val (l.getD (yby s0) d))=false)->(Z.in64 (s0+1)/\(K0 (s0+1))))))))/\((decide ((s0:Int)<(l.length:Int))=false)->(((-1):Int)=ixF F.val l 0)))):=by
 refine ⟨fun s=>0<=s/\s<=(l.length:Int)/\ixF F.val l 0=ixF F.val (l.drop s.toNat) s,fun s=>((l.length:Int) - s).toNat,⟨by omega,by omega,rfl⟩,?_⟩
 rintro s ⟨h1,h2,h3⟩
 refine ⟨fun h=>?_,fun h=>?_⟩
 ·have h:=of_decide_eq_true h
  have e:=zev l d s h1 h
  refine ⟨⟨h1,h⟩,hp _ (zgy l d s h1 h),fun hv=>?_,fun hv=>⟨?_,⟨?_,?_,?_⟩,?_⟩⟩
  ·rw [h3,e,ixF,hv,cond_true]
  ·simp only [Z.in64];simp only [big] at hl;omega
  ·omega
  ·omega
  ·rw [h3,e,ixF,hv,cond_false]
  ·simp only;omega
 ·have h:=of_decide_eq_false h
  have e:l.drop s.toNat=[]:=List.drop_eq_nil_of_le (by omega)
  rw [h3,e,ixF]
theorem zjV {c n:Int} (hc:0<=c) (hc':c<=100) (hn:n<=1000001):Z.roomy c n:=by
 unfold Z.roomy
 have h1:n*(24*c+8)<=1000001*(24*c+8):=yds hn (by omega)
 omega
theorem mul_bd {a b A B:Int} (ha:0<=a/\a<=A) (hb:0<=b/\b<=B):0<=a*b/\a*b<=A*B :=
 ⟨Int.mul_nonneg ha.1 hb.1,Int.mul_le_mul ha.2 hb.2 hb.1 (by omega)⟩
theorem zkt {α:Type} (p:α->Bool) (l:List α) (d:α) (s:Int) (h0:0<=s) (h:s<(l.length:Int)):(l.drop s.toNat).all p=(p (l.getD s.toNat d)&&(l.drop (s+1).toNat).all p):=by
 rw [zev l d s h0 h,ybZ]
abbrev Span:=Int × Int
def spanB (s:Span) (a b:Int):Bool:=decide (a<=s.1)&&(decide (s.1<=s.2)&&decide (s.2<=b))
theorem zeT {s:Span} {a b:Int}:spanB s a b=true↔a<=s.1/\s.1<=s.2/\s.2<=b:=by simp [spanB]
theorem mul_sb {a b A B:Int} (ha:0<=a/\a<=A) (hb:-B<=b/\b<=B):-(A*B)<=a*b/\a*b<=A*B:=by
 have hB:0<=B:=by omega
 have h1:=yaU hb.1 ha.1
 have h2:=yaU hb.2 ha.1
 have h3:=yds ha.2 hB
 rw [Int.mul_neg] at h1
 omega
end Go.Tt
/-
 Chapter 10: what each function of the program gives,in plain Lean. No program in sight.
-/
namespace Go.Tt
open Go Go.Sx
abbrev Market:=(List Int) × (List Int) × List Int
abbrev Flow:=(Option Market) × (List (List Int)) × (List Int) × Int
abbrev topN:Int:=1048576
def hasB (s n:Int):Bool:=s.toNat.testBit n.toNat
def amount (n:Int):Prop:=0<=n/\n<=topN
def smallSet (s:Int):Prop:=0<=s/\s<=255
structure MarketOk (m:Market):Prop where
 a8:m.1.length<=8
 m8:m.2.1.length<=8
 len:m.2.2.length=m.2.1.length
 asked:∀ n∈m.1,amount n
 many:∀ n∈m.2.1,amount n
 serves:∀ s∈m.2.2,smallSet s
def mkt (o:Option Market):Market:=o.getD ([],[],[])
def optOk (o:Option Market):Prop:=o.isSome=true/\MarketOk (mkt o)
def getG (g:List (List Int)) (i k:Int):Int:=(g.getD i.toNat (List.replicate 8 0)).getD k.toNat 0
def rowS (g:List (List Int)) (i:Int) (n:Nat):Int:=((yaf n).map fun k=>getG g i (k:Nat)).sum
def colS (g:List (List Int)) (k:Int) (n:Nat):Int:=((yaf n).map fun i=>getG g (i:Nat) k).sum
def lackingV (f:Flow) (k:Int):Int:=(mkt f.1).1.getD k.toNat 0 - colS f.2.1 k (mkt f.1).2.1.length
structure FlowOk (f:Flow):Prop where
 mo:optOk f.1
 g8:f.2.1.length=8
 r8:∀ r∈f.2.1,r.length=8
 c8:f.2.2.1.length=8
 cs:∀ s∈f.2.2.1,smallSet s
 seen:smallSet f.2.2.2
 pos:∀ i k:Nat,0<=getG f.2.1 (i:Nat) (k:Nat)
 can:∀ i k:Nat,0<getG f.2.1 (i:Nat) (k:Nat)->i<(mkt f.1).2.1.length/\k<(mkt f.1).1.length/\hasB ((mkt f.1).2.2.getD i 0) (k:Nat)=true/\hasB (f.2.2.1.getD i 0) (k:Nat)=false
 row:∀ i:Nat,i<(mkt f.1).2.1.length->rowS f.2.1 (i:Nat) 8<=(mkt f.1).2.1.getD i 0
 col:∀ k:Nat,k<(mkt f.1).1.length->colS f.2.1 (k:Nat) (mkt f.1).2.1.length<=(mkt f.1).1.getD k 0
end Go.Tt
/-
 Chapter 10: what is pushed through a market. Plain Lean;no program in sight.
-/
set_option maxHeartbeats 1000000
namespace Go.Tt
open Go Go.Sx
def sumN (n:Nat) (f:Nat->Int):Int:=((yaf n).map f).sum
theorem zdU (f:Nat->Int):sumN 0 f=0:=rfl
theorem zau (n:Nat) (f:Nat->Int):sumN (n+1) f=sumN n f+f n:=by
 simp [sumN,List.range_succ]
theorem zem {n:Nat} {f g:Nat->Int} (h:∀ i,i<n->f i=g i):sumN n f=sumN n g:=by
 induction n with
 | zero=>rfl
 | succ n ih=>rw [zau,zau,ih fun i hi=>h i (by omega),h n (by omega)]
theorem zlZ (n:Nat) (f g:Nat->Int):sumN n (fun i=>f i+g i)=sumN n f+sumN n g:=by
 induction n with
 | zero=>rfl
 | succ n ih=>rw [zau,zau,zau,ih];omega
theorem sumN_le {n:Nat} {f g:Nat->Int} (h:∀ i,i<n->f i<=g i):sumN n f<=sumN n g:=by
 induction n with
 | zero=>exact Int.le_refl _
 | succ n ih =>
  have:=ih fun i hi=>h i (by omega)
  have:=h n (by omega)
  rw [zau,zau];omega
theorem zel (n:Nat):sumN n (fun _=>0)=0:=by
 induction n with
 | zero=>rfl
 | succ n ih=>rw [zau,ih];rfl
theorem zjr {n:Nat} {f:Nat->Int} (h:∀ i,i<n->0<=f i):0<=sumN n f:=by
 have:=sumN_le h
 rwa [zel] at this
theorem zjP {n:Nat} {f g:Nat->Int} {k:Nat} (h:∀ i,i<n->i≠k->f i=g i):sumN n f=sumN n g+if k<n then f k - g k else 0:=by
 induction n with
 | zero=>simp [zdU]
 | succ n ih =>
  rw [zau,zau,ih fun i hi=>h i (by omega)]
  by_cases e:k=n
  ·subst e
   simp
   omega
  ·rw [h n (by omega) fun e'=>e e'.symm]
   by_cases hk:k<n
   ·rw [if_pos hk,if_pos (by omega)];omega
   ·rw [if_neg hk,if_neg (by omega)];omega
theorem zlh (n m:Nat) (f:Nat->Nat->Int):sumN n (fun i=>sumN m (f i))=sumN m (fun k=>sumN n (fun i=>f i k)):=by
 induction n with
 | zero=>simp only [zdU];exact (zel m).symm
 | succ n ih =>
  simp only [zau,zlZ]
  rw [ih]
abbrev NN (f:Flow):Nat:=(mkt f.1).1.length
abbrev MM (f:Flow):Nat:=(mkt f.1).2.1.length
abbrev gg (f:Flow) (i k:Nat):Int:=getG f.2.1 (i:Nat) (k:Nat)
def seenB (f:Flow) (k:Nat):Bool:=hasB f.2.2.2 (k:Nat)
def openB (f:Flow) (i k:Nat):Bool:=hasB ((mkt f.1).2.2.getD i 0) (k:Nat)&&!hasB (f.2.2.1.getD i 0) (k:Nat)
structure Closed (f:Flow) (S:Nat->Prop):Prop where
 full:∀ k,k<NN f->S k->lackingV f (k:Nat)=0
 back:∀ k,k<NN f->S k->∀ j,j<MM f->0<gg f j k->∀ k',k'<NN f->openB f j k'=true->S k'
structure Mild (f f':Flow):Prop where
 mo:f'.1=f.1
 cl:f'.2.2.1=f.2.2.1
 sm:smallSet f'.2.2.2
 grow:∀ k,seenB f k=true->seenB f' k=true
structure Fail (f f':Flow) (i:Nat):Prop where
 giv:f'.2.1=f.2.1
 own:∀ k,k<NN f->openB f i k=true->seenB f' k=true
 done:∀ k,k<NN f->seenB f' k=true->seenB f k=false->lackingV f (k:Nat)=0/\∀ j,j<MM f->0<gg f j k->∀ k',k'<NN f->openB f j k'=true->seenB f' k'=true
structure Gain (f f':Flow) (i:Nat) (n:Int):Prop where
 g8:f'.2.1.length=8
 r8:∀ r∈f'.2.1,r.length=8
 pos:∀ j k,0<=gg f' j k
 can:∀ j k,0<gg f' j k->j<MM f/\k<NN f/\openB f j k=true
 row:∀ j:Nat,rowS f'.2.1 (j:Nat) 8=rowS f.2.1 (j:Nat) 8+if j=i then n else 0
 col:∀ k:Nat,k<NN f->colS f'.2.1 (k:Nat) (MM f)<=(mkt f.1).1.getD k 0
 old:∀ k,seenB f k=true->∀ j,gg f' j k=gg f j k
 cut:∀ S:Nat->Prop,Closed f S->(∃ k,k<NN f/\openB f i k=true/\¬ S k)/\∀ k,k<NN f->S k->∀ j,gg f' j k=gg f j k
structure Result (f:Flow) (i:Nat) (most:Int) (r:Int × Flow):Prop where
 mild:Mild f r.2
 nn:0<=r.1
 le:r.1<=most
 fail:r.1=0->Fail f r.2 i
 gain:0<r.1->Gain f r.2 i r.1
theorem FlowOk.m8 {f:Flow} (h:FlowOk f):MM f<=8:=h.mo.2.m8
theorem FlowOk.op {f:Flow} (h:FlowOk f) {j k:Nat} (hp:0<gg f j k):j<MM f/\k<NN f/\openB f j k=true:=by
 obtain ⟨h1,h2,h3,h4⟩:=h.can j k hp
 exact ⟨h1,h2,by simp only [openB,h3,h4];rfl⟩
theorem FlowOk.other {f f':Flow} (h:FlowOk f) (hm:Mild f f') (hg:f'.2.1=f.2.1):FlowOk f':=by
 obtain ⟨a,b,c,d⟩:=f
 obtain ⟨a',b',c',d'⟩:=f'
 obtain ⟨rfl,rfl,h3,_⟩:=hm
 simp only at hg
 subst hg
 exact ⟨h.mo,h.g8,h.r8,h.c8,h.cs,h3,h.pos,h.can,h.row,h.col⟩
theorem Closed.other {f f':Flow} {S:Nat->Prop} (h:Closed f S) (h1:f'.1=f.1) (h2:f'.2.2.1=f.2.2.1) (hg:f'.2.1=f.2.1):Closed f' S:=by
 obtain ⟨a,b,c,d⟩:=f
 obtain ⟨a',b',c',d'⟩:=f'
 simp only at h1 h2 hg
 subst h1;subst h2;subst hg
 exact ⟨h.full,h.back⟩
theorem Mild.refl {f:Flow} (h:FlowOk f):Mild f f:=⟨rfl,rfl,h.seen,fun _ h=>h⟩
theorem Mild.trans {f g h:Flow} (a:Mild f g) (b:Mild g h):Mild f h:=⟨b.mo.trans a.mo,b.cl.trans a.cl,b.sm,fun k hk=>b.grow k (a.grow k hk)⟩
theorem zjf {α:Type} {p q:α->Bool}:∀ {l:List α} {a:α},a∈l->(∀ b∈l,q b=true->p b=true)->p a=true->q a=false->l.countP q<l.countP p
 | b::l,a,ha,hm,hp,hq=>by
  have hle:l.countP q<=l.countP p:=List.countP_mono_left fun c hc=>hm c (yal _ hc)
  rw [ydt,ydt]
  rcases yaq.1 ha with rfl | ha
  ·rw [hp,hq];simp;omega
  ·have ih:=zjf ha (fun c hc=>hm c (yal _ hc)) hp hq
   have:=hm b List.mem_cons_self
   cases hb:q b with
   | false=>simp;omega
   | true=>rw [this hb];simp;omega
end Go.Tt
/-
 The program draws its orders.
-/
namespace Go.Tt
open Go Go.Sx
theorem mixed:prog.follows .mixedOrders=true:=by kernel_rfl
abbrev mapsL:List (Nat × Nat × Nat):=[(122,3,221),(123,3,221),(147,153,3),(148,153,3),(249,3,4),(282,4,281)]
theorem maps_ok (p:Nat × Nat × Nat) (hp:p∈mapsL):prog.underlying p.1=some (.map p.2.1 p.2.2)/\Maps.Keyed prog p.2.1/\prog.keyType p.2.1=true:=by
 simp only [mapsL,yaq,List.not_mem_nil,or_false] at hp
 rcases hp with rfl | rfl | rfl | rfl | rfl | rfl
 rotate_left 5
 ·exact ⟨by kernel_rfl,Maps.bool_keyed (by kernel_rfl),by kernel_rfl⟩
 all_goals exact ⟨by kernel_rfl,Maps.int_keyed (q:=.i64) (by kernel_rfl),by kernel_rfl⟩
end Go.Tt
