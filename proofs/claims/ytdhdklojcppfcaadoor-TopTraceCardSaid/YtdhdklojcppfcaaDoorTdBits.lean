/-
  Recall: what each function gives. No program in sight.
-/
import Derived.Test.YtdhdklojcppfcaaDoorTdMix
set_option linter.all false
set_option maxRecDepth 100000
namespace Go.Td
open Go Go.Sx
abbrev U:Ty:=.i .u32
abbrev Batch:=Int × Int
abbrev noB:Batch:=(0,0)
abbrev Way:=(Go.Sx.Fun Int Int) × Unit
abbrev top32:Int:=4294967295
def orZ (a b:Int):Int:=((a.toNat ||| b.toNat:Nat):Int)
def andZ (a b:Int):Int:=((a.toNat &&& b.toNat:Nat):Int)
def offZ (a b:Int):Int:=((a.toNat ^^^ (a.toNat &&& b.toNat):Nat):Int)
def bitZ (i:Nat):Int:=((2^i:Nat):Int)
def bitsAt:Nat->Nat->Nat->List Int
 | 0,_,_=>[]
 | n+1,i,x=>cond (x.testBit i) (((i:Nat):Int)::bitsAt n (i+1) x) (bitsAt n (i+1) x)
def bitsZ (x:Int):List Int:=bitsAt 32 0 x.toNat
def lowN:Nat->Nat->Nat
 | 0,_=>0
 | n+1,x=>cond (x.testBit 0) 0 (lowN n (x / 2)+1)
def cardB (i:Nat) (b:Batch):Bool:=(decide (i<24)&&inB b.1 0 ((1*2^i:Int) - 1))&&inB b.2 0 1048576
def cardsB (l:List Batch):Bool:=(List.range l.length).all fun i=>cardB i (l.getD i noB)
def zag (x:Int):Int:=cond (x==0) 32 (lowN 32 x.toNat)
def zbw (x:Int):Prop:=0<=x∧x<=top32
def k39:Con:={ args:=[U],res:=[I],pre:=zbw,val:=zag }
def zaS (x:Int × Int × Int):Bool:=inB x.1 x.2.1 x.2.2
def zbB (_:Int × Int × Int):Prop:=True
def zbQ (x:Int × List Batch):Bool:=!inB x.1 0 ((1*2^x.2.length:Int) - 1)
def zbK (x:Int × List Batch):Prop:=x.2.length<=24
def zbC (l:List Batch):Bool:=cardsB l
def zdh (l:List Batch):Prop:=l.length<=big
def zao (l:List Int):Int:=l.foldl orZ 0
def zbJ (l:List Int):Prop:=l.length<=big∧∀ a∈l,0<=a∧a<=top32
def zaz (x:Int):Sx.Seq Int:=⟨0<=x∧x<=top32,bitsZ x⟩
def zaV (_:Int):Prop:=True
def zbb (x:Int):List Int:=bitsZ x
def zcI (x:Int):Prop:=0<=x∧x<=top32
def zaF (x:(List Batch) × Int):Int:=(x.1.getD x.2.toNat noB).1
def zaC (x:(List Batch) × Int):Prop:=(0<=x.2∧x.2<(x.1.length:Int))∧0<=(x.1.getD x.2.toNat noB).1∧(x.1.getD x.2.toNat noB).1<=top32
def zaw (x:(Int->Option Int) × Int):Int:=(x.1 x.2).getD 0
def zat (_:(Int->Option Int) × Int):Prop:=True
abbrev wayB (l:List Batch):Way:=(⟨fun y=>zaC (l,y),fun y=>zaF (l,y)⟩,())
abbrev wayA (m:Int->Option Int):Way:=(⟨fun y=>zat (m,y),fun y=>zaw (m,y)⟩,())
def aheadK (i:Int) (m:Int->Option Int) (k:Int):Int->Option Int:=@Z.mput Int Int (fun a b=>a==b) m k (zao [(m k).getD 0,1*2^i.toNat])
def aheadN (l:List Batch) (n:Nat):Int->Option Int:=(List.range n).foldl (fun m i=>(bitsZ (l.getD i noB).1).foldl (aheadK (i:Nat)) m) fun _=>none
def zae (l:List Batch):Int->Option Int:=aheadN l l.length
def zdg (l:List Batch):Prop:=l.length<=24∧∀ b∈l,0<=b.1∧b.1<=top32
structure Short (w:Way) (b:Int):Prop where
 at_:0<=b∧b<24
 pre:w.1.pre b
 val:0<=w.1.val b∧w.1.val b<=top32
 nx:∀ c∈bitsZ (w.1.val b),(c<24∧w.1.pre c)∧w.1.val c=0
abbrev Met:=(List Bool) × Int
def on0 (s:Met) (c:Int):Met:=cond (s.1.getD c.toNat false) s (s.1.set c.toNat true,zao [s.2,1*2^c.toNat])
def onV (w:Way) (s:Met) (b:Int):Met:=cond (s.1.getD b.toNat false) s ((bitsZ (w.1.val b)).foldl on0 (on0 s b))
def zaI (x:Int × (List Bool) × Int × Way):(List Bool) × Int:=onV x.2.2.2 (x.2.1,x.2.2.1) x.1
def zci (x:Int × (List Bool) × Int × Way):Prop:=(Short x.2.2.2 x.1∧x.2.1.length=24)∧0<=x.2.2.1∧x.2.2.1<=top32
def m40 (x:Int × (List Bool) × Int × Way):Nat:=cond (x.2.2.2.1.val x.1==0) 0 1
def recall_reach_1u_q (x y:Int × (List Bool) × Int × Way):Prop:=zci y∧m40 y<m40 x
def zaf (x:Way × Int):Int:=orZ (bitZ x.2.toNat) (x.1.1.val x.2)
def zbP (x:Way × Int):Prop:=Short x.1 x.2
structure Two (l:List Batch):Prop where
 cut:∃ n,∀ i,i<l.length->(i<n->(l.getD i noB).1=0)∧(l.getD i noB).1<bitZ n
def zav (x:(List Batch) × Int × Int):Int :=
 (bitsZ x.2.2).foldl (fun s b=>offZ s (zaf (wayB x.1,b))) ((bitsZ x.2.1).foldl (fun s b=>andZ s (zaf (wayB x.1,b))) ((1*2^x.1.length:Int) - 1))
def recall_blame_p (x:(List Batch) × Int × Int):Prop:=(cardsB x.1=true∧Two x.1)∧(0<=x.2.1∧x.2.1<=(1*2^x.1.length:Int) - 1)∧(0<=x.2.2∧x.2.2<=(1*2^x.1.length:Int) - 1)
def zaj (x:(List Batch) × List Int):Int:=cond (cardsB x.1) (cond (x.2.any fun s=>!inB s 0 ((1*2^x.1.length:Int) - 1)) 2 0) 1
def zda (x:(List Batch) × List Int):Prop:=x.1.length<=big∧x.2.length<=big
def zca (l:List Batch):Way:=wayB l
def recall_Back_1u_p (_:List Batch):Prop:=True
def zap (x:(List Batch) × Int):Int × Int :=
 cond (cardsB x.1) (cond (inB x.2 0 ((x.1.length:Int) - 1)) (zaf (wayB x.1,x.2),0) (0,2)) (0,1)
def zdw (x:(List Batch) × Int):Prop:=x.1.length<=big∧Two x.1
def zad (x:(List Batch) × Int × Int):Int × Int :=
 cond (zaj (x.1,[x.2.1,x.2.2])==0) (cond (x.2.1==0) (0,4) (cond (zav x==0) (0,6) (zav x,0))) (0,zaj (x.1,[x.2.1,x.2.2]))
def zdb (x:(List Batch) × Int × Int):Prop:=x.1.length<=big∧Two x.1
def soldN (l:List Batch) (n:Nat):Int:=(List.range n).foldl (fun s i=>cond (decide (0<(l.getD i noB).2)) (zao [s,1*2^i]) s) 0
def sumZ (l:List Batch) (s:Int):Int:=(bitsZ s).foldl (fun n k=>n+(l.getD k.toNat noB).2) 0
abbrev Recl:=Int × (Int × Int) × Bool
def reclStep (l:List Batch) (s:Recl) (b:Int):Recl :=
 let own:=andZ (zaf (wayA (zae l),b)) (soldN l l.length)
 let n:=sumZ l own
 (zao [s.1,own],cond s.2.2 (n,n) (min s.2.1.1 n,max s.2.1.2 n),false)
def reclAll (l:List Batch) (can:Int):Recl:=(bitsZ can).foldl (reclStep l) (0,(0,0),true)
def zai (x:(List Batch) × Int × Int):Int × (Int × Int) × Int :=
 cond ((zad x).2==0) ((reclAll x.1 (zad x).1).1,(reclAll x.1 (zad x).1).2.1,0) (0,(0,0),(zad x).2)
def recall_Recall_p (x:(List Batch) × Int × Int):Prop:=x.1.length<=big∧Two x.1
def zbA (x:(List (List Int)) × List (List Int)):Bool:=x.1==x.2
def zdv (x:(List (List Int)) × List (List Int)):Prop:=(x.1.length<=big∧x.2.length<=big)∧∀ l∈x.1,l.length<=big
def zcF (_:Unit):Bool:=true
def zcp (_:Unit):Prop:=True
def zbm (_:(List Int) × (List Pile) × Int × Int × Int):Bool:=true
def top_TopTrace_p (x:(List Int) × (List Pile) × Int × Int × Int):Prop:=(0<=x.2.2.2.1∧x.2.2.2.1<=255)∧0<=x.2.2.2.2∧x.2.2.2.2<=255
end Go.Td
/-
 Facts on bits of small numbers. Plain Lean;no program in sight.
-/
namespace Go.Td
open Go Go.Sx
theorem pow32:(2:Nat)^32=4294967296:=by decide
theorem lowN_odd {n x:Nat} (h:x.testBit 0=true):lowN (n+1) x=0:=by simp [lowN,h]
theorem lowN_even {n x:Nat} (h:x.testBit 0=false):lowN (n+1) x=lowN n (x / 2)+1:=by simp [lowN,h]
theorem bit0u_even {x:Nat} (h:x.testBit 0=false):x % 2=0:=by
 rw [Nat.testBit_zero] at h
 have:=of_decide_eq_false h
 omega
theorem bit0u_odd {x:Nat} (h:x.testBit 0=true):x % 2=1:=by
 rw [Nat.testBit_zero] at h
 exact of_decide_eq_true h
theorem lowN_spec:∀ (n x:Nat),0<x->x<2^n->lowN n x<n∧x.testBit (lowN n x)=true∧∀ j,j<lowN n x->x.testBit j=false
 | 0,x,h0,h=>by simp at h;omega
 | n+1,x,h0,h=>by
  cases hb:x.testBit 0 with
  | true=>rw [lowN_odd hb];exact ⟨by omega,hb,fun j hj=>by omega⟩
  | false =>
   have he:=bit0u_even hb
   have h2:x / 2<2^n:=by rw [Nat.pow_succ] at h;omega
   obtain ⟨g1,g2,g3⟩:=lowN_spec n (x / 2) (by omega) h2
   rw [lowN_even hb]
   refine ⟨by omega,by rw [Nat.testBit_succ];exact g2,fun j hj=>?_⟩
   cases j with
   | zero=>exact hb
   | succ j=>rw [Nat.testBit_succ];exact g3 j (by omega)
theorem and_neg:∀ (n x:Nat),0<x->x<2^n->x &&& (2^n - x)=2^lowN n x
 | 0,x,h0,h=>by simp at h;omega
 | n+1,x,h0,h=>by
  have hp:(2:Nat)^(n+1)=2*2^n:=by rw [Nat.pow_succ];omega
  have hpos:0<2^n:=Nat.two_pow_pos n
  cases hb:x.testBit 0 with
  | true =>
   rw [lowN_odd hb]
   have ho:=bit0u_odd hb
   apply Nat.eq_of_testBit_eq
   intro i
   cases i with
   | zero =>
    rw [Nat.testBit_and,hb,Nat.testBit_zero]
    simp
    omega
   | succ i =>
    rw [Nat.testBit_and,Nat.testBit_succ,Nat.testBit_succ]
    have e:(2^(n+1) - x) / 2=2^n - (x / 2+1):=by omega
    rw [e,Nat.testBit_two_pow_sub_succ (by omega),Nat.testBit_succ]
    cases (x / 2).testBit i<;>simp
  | false =>
   have he:=bit0u_even hb
   have h2:x / 2<2^n:=by omega
   have ih:=and_neg n (x / 2) (by omega) h2
   rw [lowN_even hb]
   have e1:x=2*(x / 2):=by omega
   have e2:2^(n+1) - x=2*(2^n - x / 2):=by omega
   apply Nat.eq_of_testBit_eq
   intro i
   cases i with
   | zero=>rw [Nat.testBit_and,hb];simp [Nat.pow_succ]
   | succ i =>
    rw [Nat.testBit_and,Nat.testBit_succ,Nat.testBit_succ]
    have e3:(2^(n+1) - x) / 2=2^n - x / 2:=by omega
    rw [e3,<-Nat.testBit_and,ih,Nat.pow_succ,Nat.testBit_succ]
    congr 1
    omega
theorem and_pred (n x i:Nat) (h0:0<x) (hx:x<2^n):(x &&& (x - 1)).testBit i=(x.testBit i&&!decide (i=lowN n x)):=by
 induction n generalizing x i with
 | zero=>simp at hx;omega
 | succ n ih =>
  cases hb:x.testBit 0 with
  | true =>
   rw [lowN_odd hb]
   have ho:=bit0u_odd hb
   cases i with
   | zero =>
    rw [Nat.testBit_and,hb,Nat.testBit_zero]
    simp
    omega
   | succ i =>
    rw [Nat.testBit_and,Nat.testBit_succ,Nat.testBit_succ]
    have e:(x - 1) / 2=x / 2:=by omega
    rw [e]
    simp
  | false =>
   have he:=bit0u_even hb
   rw [Nat.pow_succ] at hx
   rw [lowN_even hb]
   cases i with
   | zero=>rw [Nat.testBit_and,hb];simp
   | succ i =>
    rw [Nat.testBit_and,Nat.testBit_succ,Nat.testBit_succ]
    have e:(x - 1) / 2=x / 2 - 1:=by omega
    rw [e,<-Nat.testBit_and,ih (x / 2) i (by omega) (by omega)]
    congr 2
    simp
theorem bitsAt_cut:∀ (n i x y:Nat),(∀ j,i<=j->x.testBit j=y.testBit j)->bitsAt n i x=bitsAt n i y
 | 0,_,_,_,_=>rfl
 | n+1,i,x,y,h=>by
  rw [bitsAt,bitsAt,h i (Nat.le_refl _),bitsAt_cut n (i+1) x y fun j hj=>h j (by omega)]
theorem bitsAt_skip:∀ (m n i x:Nat),(∀ j,i<=j->j<i+m->x.testBit j=false)->bitsAt (m+n) i x=bitsAt n (i+m) x
 | 0,n,i,x,_=>by simp
 | m+1,n,i,x,h=>by
  rw [show m+1+n=(m+n)+1 by omega,bitsAt,h i (Nat.le_refl _) (by omega),cond_false,bitsAt_skip m n (i+1) x (fun j h1 h2=>h j (by omega) (by omega))]
  congr 1;omega
theorem mem_bitsAt:∀ (n i x:Nat) (c:Int),c∈bitsAt n i x↔∃ j:Nat,c=(j:Int)∧i<=j∧j<i+n∧x.testBit j=true
 | 0,i,x,c=>by
  simp only [bitsAt,List.not_mem_nil,false_iff]
  rintro ⟨j,_,h1,h2,_⟩
  omega
 | n+1,i,x,c=>by
  have ih:=mem_bitsAt n (i+1) x c
  rw [bitsAt]
  cases hb:x.testBit i with
  | true =>
   rw [cond_true,List.mem_cons,ih]
   constructor
   ·rintro (rfl | ⟨j,h1,h2,h3,h4⟩)
    ·exact ⟨i,rfl,by omega,by omega,hb⟩
    ·exact ⟨j,h1,by omega,by omega,h4⟩
   ·rintro ⟨j,h1,h2,h3,h4⟩
    by_cases hj:j=i
    ·subst hj;exact .inl h1
    ·exact .inr ⟨j,h1,by omega,by omega,h4⟩
  | false =>
   rw [cond_false,ih]
   constructor
   ·rintro ⟨j,h1,h2,h3,h4⟩;exact ⟨j,h1,by omega,by omega,h4⟩
   ·rintro ⟨j,h1,h2,h3,h4⟩
    refine ⟨j,h1,?_,by omega,h4⟩
    by_cases hj:j=i
    ·subst hj;rw [hb] at h4;cases h4
    ·omega
theorem zbr {x:Int} {c:Int}:c∈bitsZ x↔∃ j:Nat,c=(j:Int)∧j<32∧x.toNat.testBit j=true:=by
 rw [bitsZ,mem_bitsAt]
 constructor
 ·rintro ⟨j,h1,_,h2,h3⟩;exact ⟨j,h1,by omega,h3⟩
 ·rintro ⟨j,h1,h2,h3⟩;exact ⟨j,h1,by omega,by omega,h3⟩
theorem bits_zero:bitsZ 0=[]:=by
 have:∀ n i,bitsAt n i 0=[]:=by
  intro n
  induction n with
  | zero=>intro i;rfl
  | succ n ih=>intro i;rw [bitsAt,Nat.zero_testBit,cond_false,ih]
 exact this 32 0
theorem bits_cons {x:Int} (h0:0<x) (h1:x<=top32):bitsZ x=((lowN 32 x.toNat:Nat):Int)::bitsZ (andZ x (x - 1)):=by
 have hx:x.toNat<2^32:=by rw [pow32];simp only [top32] at h1;omega
 obtain ⟨g1,g2,g3⟩:=lowN_spec 32 x.toNat (by omega) hx
 have e1:(x - 1).toNat=x.toNat - 1:=by omega
 generalize hm:lowN 32 x.toNat=m at *
 have hsplit:32=m+(31 - m+1):=by omega
 have a1:bitsZ x=bitsAt (31 - m+1) m x.toNat:=by
  have h:=bitsAt_skip m (31 - m+1) 0 x.toNat (fun j _ hj=>g3 j (by omega))
  rw [<-hsplit,Nat.zero_add] at h
  exact h
 have t:∀ j,(andZ x (x - 1)).toNat.testBit j=(x.toNat.testBit j&&!decide (j=m)):=by
  intro j
  show (((x.toNat &&& (x - 1).toNat:Nat):Int).toNat).testBit j=_
  rw [Int.toNat_natCast,e1,and_pred 32 _ j (by omega) hx,hm]
 have a2:bitsZ (andZ x (x - 1))=bitsAt (31 - m+1) m (andZ x (x - 1)).toNat:=by
  have h:=bitsAt_skip m (31 - m+1) 0 (andZ x (x - 1)).toNat (fun j _ hj=>by rw [t,g3 j (by omega)];rfl)
  rw [<-hsplit,Nat.zero_add] at h
  exact h
 rw [a1,a2,bitsAt,g2,cond_true,bitsAt,t,g2]
 simp only [decide_true,Bool.not_true,Bool.and_false,cond_false]
 rw [bitsAt_cut (31 - m) (m+1) x.toNat _ fun j hj=>?_]
 rw [t]
 have:decide (j=m)=false:=decide_eq_false (by omega)
 rw [this];simp
theorem or_nat (a b:Int):(orZ a b).toNat=a.toNat ||| b.toNat:=rfl
theorem and_nat (a b:Int):(andZ a b).toNat=a.toNat &&& b.toNat:=rfl
theorem off_bit (a b:Int) (j:Nat):(offZ a b).toNat.testBit j=(a.toNat.testBit j&&!b.toNat.testBit j):=by
 show (((a.toNat ^^^ (a.toNat &&& b.toNat):Nat):Int).toNat).testBit j=_
 rw [Int.toNat_natCast,Nat.testBit_xor,Nat.testBit_and]
 cases a.toNat.testBit j<;>cases b.toNat.testBit j<;>rfl
theorem or_bit (a b:Int) (j:Nat):(orZ a b).toNat.testBit j=(a.toNat.testBit j||b.toNat.testBit j):=by rw [or_nat,Nat.testBit_or]
theorem and_bit (a b:Int) (j:Nat):(andZ a b).toNat.testBit j=(a.toNat.testBit j&&b.toNat.testBit j):=by rw [and_nat,Nat.testBit_and]
theorem bit_bit (i j:Nat):(bitZ i).toNat.testBit j=decide (i=j):=by
 show (((2^i:Nat):Int).toNat).testBit j=_
 rw [Int.toNat_natCast,Nat.testBit_two_pow]
theorem one_shl (i:Nat):(1*2^i:Int)=bitZ i:=by
 show _=((2^i:Nat):Int)
 rw [Int.one_mul,Int.natCast_pow];rfl
theorem bit_pos (i:Nat):0<bitZ i:=by
 have:=Nat.two_pow_pos i
 show (0:Int)<((2^i:Nat):Int)
 omega
theorem bit_le {i n:Nat} (h:i<=n):bitZ i<=bitZ n:=by
 have:=Nat.pow_le_pow_right (show 2 > 0 by omega) h
 show ((2^i:Nat):Int)<=((2^n:Nat):Int)
 omega
theorem bit_32 {i:Nat} (h:i<32):bitZ i<=top32:=by
 have:=bit_le (show i<=31 by omega)
 have e:bitZ 31=2147483648:=by decide
 simp only [top32];omega
theorem bit_24 {i:Nat} (h:i<=24):bitZ i<=16777216:=by
 have:=bit_le h
 have e:bitZ 24=16777216:=by decide
 omega
theorem lt_bit {x:Int} {n:Nat}:x<bitZ n↔(∀ j,n<=j->x.toNat.testBit j=false):=by
 constructor
 ·intro h j hj
  have h:x<((2^n:Nat):Int):=h
  have hn:x.toNat<2^n:=by
   have:=Nat.two_pow_pos n
   generalize (2:Nat)^n=p at *
   omega
  exact Nat.testBit_lt_two_pow (Nat.lt_of_lt_of_le hn (Nat.pow_le_pow_right (by omega) hj))
 ·intro h
  have:=Nat.lt_pow_two_of_testBit x.toNat h
  show x<((2^n:Nat):Int)
  omega
theorem or_nn (a b:Int):0<=orZ a b:=Int.natCast_nonneg _
theorem and_nn (a b:Int):0<=andZ a b:=Int.natCast_nonneg _
theorem off_nn (a b:Int):0<=offZ a b:=Int.natCast_nonneg _
theorem top_bit:top32+1=bitZ 32:=by decide
theorem le_top {x:Int}:x<=top32↔x<bitZ 32:=by rw [<-top_bit];omega
theorem or_lt {a b:Int} {n:Nat} (ha:a<bitZ n) (hb:b<bitZ n):orZ a b<bitZ n:=by
 rw [lt_bit] at *
 intro j hj
 rw [or_bit,ha j hj,hb j hj];rfl
theorem and_lt {a b:Int} {n:Nat} (ha:a<bitZ n):andZ a b<bitZ n:=by
 rw [lt_bit] at *
 intro j hj
 rw [and_bit,ha j hj];rfl
theorem off_lt {a b:Int} {n:Nat} (ha:a<bitZ n):offZ a b<bitZ n:=by
 rw [lt_bit] at *
 intro j hj
 rw [off_bit,ha j hj];rfl
theorem or_top {a b:Int} (ha:a<=top32) (hb:b<=top32):orZ a b<=top32:=le_top.2 (or_lt (le_top.1 ha) (le_top.1 hb))
theorem and_top {a b:Int} (ha:a<=top32):andZ a b<=top32:=le_top.2 (and_lt (le_top.1 ha))
theorem zdE {a b:Int} (ha:0<=a) (hb:0<=b) (h:∀ j,a.toNat.testBit j=b.toNat.testBit j):a=b:=by
 have:=Nat.eq_of_testBit_eq h
 omega
theorem join2 (a b:Int) (ha:0<=a):zao [a,b]=orZ a b:=by
 show orZ (orZ 0 a) b=_
 have:orZ 0 a=a:=zdE (or_nn _ _) ha fun j=>by rw [or_bit];simp
 rw [this]
end Go.Td
