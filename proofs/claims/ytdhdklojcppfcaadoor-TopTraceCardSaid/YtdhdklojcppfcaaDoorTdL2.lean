/-
  What is to be shown of piles, shades and complaints: with no program in sight.
-/
import Derived.Test.YtdhdklojcppfcaaDoorTdP3
set_option linter.all false
set_option maxRecDepth 100000
set_option maxHeartbeats 4000000
namespace Go.Td
open Go Go.Sx
theorem zdl {α:Type} (f:α->Nat->α) (s:α) (n:Nat):(List.range (n+1)).foldl f s=f ((List.range n).foldl f s) n:=by
 rw [List.range_succ,List.foldl_append];rfl
def offN (q:Nat->Bool) (f:Nat->Int) (s:Int) (n:Nat):Int:=(List.range n).foldl (fun c m=>cond (q m) (offZ c (f m)) c) s
def orN (q:Nat->Bool) (f:Nat->Int) (n:Nat):Int:=(List.range n).foldl (fun c m=>cond (q m) (orZ c (f m)) c) 0
theorem offN_bit (q:Nat->Bool) (f:Nat->Int) (s:Int) (h0:0<=s):∀ n,0<=offN q f s n∧∀ j,(offN q f s n).toNat.testBit j=(s.toNat.testBit j&&(List.range n).all fun m=>!(q m&&(f m).toNat.testBit j))
 | 0=>⟨h0,fun j=>by show s.toNat.testBit j=_;simp⟩
 | n+1=>by
  obtain ⟨g0,g1⟩:=offN_bit q f s h0 n
  have e:offN q f s (n+1)=cond (q n) (offZ (offN q f s n) (f n)) (offN q f s n):=zdl ..
  rw [e]
  cases hq:q n with
  | true =>
   rw [cond_true]
   refine ⟨off_nn _ _,fun j=>?_⟩
   rw [off_bit,g1,List.range_succ,List.all_append,Bool.and_assoc]
   simp [hq]
  | false =>
   rw [cond_false]
   refine ⟨g0,fun j=>?_⟩
   rw [g1,List.range_succ,List.all_append]
   simp [hq]
theorem orN_bit (q:Nat->Bool) (f:Nat->Int):∀ n,0<=orN q f n∧∀ j,(orN q f n).toNat.testBit j=(List.range n).any fun m=>q m&&(f m).toNat.testBit j
 | 0=>⟨Int.le_refl _,fun j=>by show (0:Int).toNat.testBit j=_;simp⟩
 | n+1=>by
  obtain ⟨g0,g1⟩:=orN_bit q f n
  have e:orN q f (n+1)=cond (q n) (orZ (orN q f n) (f n)) (orN q f n):=zdl ..
  rw [e]
  cases hq:q n with
  | true =>
   rw [cond_true]
   refine ⟨or_nn _ _,fun j=>?_⟩
   rw [or_bit,g1,List.range_succ,List.any_append]
   simp [hq]
  | false =>
   rw [cond_false]
   refine ⟨g0,fun j=>?_⟩
   rw [g1,List.range_succ,List.any_append]
   simp [hq]
theorem fold_and (f:Int->Int):∀ (l:List Int) (s:Int) (j:Nat),(l.foldl (fun s b=>andZ s (f b)) s).toNat.testBit j=(s.toNat.testBit j&&l.all fun b=>(f b).toNat.testBit j)
 | [],s,j=>by simp
 | b::l,s,j=>by rw [List.foldl_cons,fold_and f l,and_bit,List.all_cons,Bool.and_assoc]
theorem fold_off (f:Int->Int):∀ (l:List Int) (s:Int) (j:Nat),(l.foldl (fun s b=>offZ s (f b)) s).toNat.testBit j=(s.toNat.testBit j&&l.all fun b=>!(f b).toNat.testBit j)
 | [],s,j=>by simp
 | b::l,s,j=>by rw [List.foldl_cons,fold_off f l,off_bit,List.all_cons,Bool.and_assoc]
structure Cards (C:List Batch) (p n:Nat) (gv sd:Nat->Int):Prop where
 len:C.length=p+n
 pn:p+n<=16
 low:∀ i,i<p->C.getD i noB=noB
 high:∀ m,m<n->C.getD (p+m) noB=(gv m,sd m)
 gv:∀ m,m<n->0<=gv m∧gv m<bitZ p
 sd:∀ m,m<n->0<=sd m∧sd m<=1048576
section
variable {C:List Batch} {p n:Nat} {gv sd:Nat->Int}
theorem Cards.valid (h:Cards C p n gv sd):cardsB C=true:=by
 refine cards_of fun i hi=>?_
 have hl:=h.len
 have hp:=h.pn
 unfold cardB
 rw [one_shl,decide_eq_true (show i<24 by omega),Bool.true_and,Bool.and_eq_true,inB_iff,inB_iff]
 by_cases hip:i<p
 ·rw [h.low i hip]
  have:=bit_pos i
  exact ⟨⟨Int.le_refl _,by show (0:Int)<=_;omega⟩,Int.le_refl _,by decide⟩
 ·obtain ⟨m,rfl⟩:∃ m,i=p+m:=⟨i - p,by omega⟩
  rw [h.high m (by omega)]
  obtain ⟨g0,g1⟩:=h.gv m (by omega)
  have:=bit_le (show p<=p+m by omega)
  exact ⟨⟨g0,by show gv m<=_;omega⟩,h.sd m (by omega)⟩
theorem Cards.two (h:Cards C p n gv sd):Two C:=by
 refine ⟨p,fun i hi=>?_⟩
 by_cases hip:i<p
 ·rw [h.low i hip]
  exact ⟨fun _=>rfl,bit_pos p⟩
 ·obtain ⟨m,rfl⟩:∃ m,i=p+m:=⟨i - p,by omega⟩
  have hl:=h.len
  rw [h.high m (by omega)]
  exact ⟨fun h=>by omega,(h.gv m (by omega)).2⟩
theorem Cards.gv_low (h:Cards C p n gv sd) {m j:Nat} (hm:m<n) (hj:(gv m).toNat.testBit j=true):j<p:=by
 by_cases hlt:j<p
 ·exact hlt
 ·rw [lt_bit.1 (h.gv m hm).2 j (by omega)] at hj;cases hj
theorem Cards.reach (h:Cards C p n gv sd) {m:Nat} (hm:m<n):zaf (wayB C,((p+m:Nat):Int))=orZ (bitZ (p+m)) (gv m):=by
 show orZ (bitZ (Int.toNat ((p+m:Nat):Int))) ((C.getD (Int.toNat ((p+m:Nat):Int)) noB).1)=_
 rw [Int.toNat_natCast,h.high m hm]
theorem Cards.back (h:Cards C p n gv sd) {m:Nat} (hm:m<n):zap (C,((p+m:Nat):Int))=(orZ (gv m) (bitZ (p+m)),0):=by
 have hl:=h.len
 unfold zap
 have hin:inB ((p+m:Nat):Int) 0 ((C.length:Int) - 1)=true:=inB_iff.2 ⟨by omega,by omega⟩
 simp only [h.valid,cond_true,hin,h.reach hm]
 congr 1
 refine zdE (or_nn _ _) (or_nn _ _) fun j=>?_
 rw [or_bit,or_bit,Bool.or_comm]
theorem Cards.blame (h:Cards C p n gv sd) {K:Nat} (hK:K<n) {G:Int} (g0:0<=G) (g1:G<bitZ n) (gk:G.toNat.testBit K=false) :
  zad (C,bitZ (p+K),G*2^p)=(orZ (offN (fun m=>G.toNat.testBit m) gv (gv K) n) (bitZ (p+K)),0):=by
 have hl:=h.len
 have hp:=h.pn
 have hG:(G*2^p).toNat=G.toNat <<< p:=by
  rw [Nat.shiftLeft_eq]
  obtain ⟨g,rfl⟩:∃ g:Nat,G=(g:Int):=⟨G.toNat,by omega⟩
  have:((g:Int)*2^p)=((g*2^p:Nat):Int):=by rw [Int.natCast_mul,Int.natCast_pow];rfl
  rw [this,Int.toNat_natCast,Int.toNat_natCast]
 have hGn:0<=G*2^p:=Int.mul_nonneg g0 (Int.le_of_lt (Int.pow_pos (by decide)))
 have hGb:∀ j,(G*2^p).toNat.testBit j=(decide (p<=j)&&G.toNat.testBit (j - p)):=fun j=>by rw [hG,Nat.testBit_shiftLeft]
 have hGl:G*2^p<bitZ C.length:=lt_bit.2 fun j hj=>by
  rw [hGb,lt_bit.1 g1 (j - p) (by omega),Bool.and_false]
 have hKl:bitZ (p+K)<bitZ C.length:=lt_bit.2 fun j hj=>by rw [bit_bit,decide_eq_false (by omega)]
 have i1:inB (bitZ (p+K)) 0 ((1*2^C.length:Int) - 1)=true:=by
  rw [one_shl];exact inB_iff.2 ⟨Int.le_of_lt (bit_pos _),by omega⟩
 have i2:inB (G*2^p) 0 ((1*2^C.length:Int) - 1)=true:=by
  rw [one_shl];exact inB_iff.2 ⟨hGn,by omega⟩
 have hck:(zaj (C,[bitZ (p+K),G*2^p])==0)=true:=by
  unfold zaj
  simp only [h.valid,cond_true,List.any_cons,List.any_nil,i1,i2,Bool.not_true,Bool.or_false,cond_false]
  rfl
 have hz:(bitZ (p+K)==0)=false:=by
  have:=bit_pos (p+K)
  simpa using (show bitZ (p+K)≠0 by omega)
 obtain ⟨o0,ob⟩:=offN_bit (fun m=>G.toNat.testBit m) gv (gv K) (h.gv K hK).1 n
 have hbl:zav (C,bitZ (p+K),G*2^p)=orZ (offN (fun m=>G.toNat.testBit m) gv (gv K) n) (bitZ (p+K)):=by
  refine zdE (blame_lt _).1 (or_nn _ _) fun j=>?_
  unfold zav
  simp only
  rw [fold_off (fun b=>zaf (wayB C,b)),fold_and (fun b=>zaf (wayB C,b)),or_bit,ob,bit_bit]
  have hfull:((1*2^C.length:Int) - 1).toNat.testBit j=decide (j<C.length):=by
   rw [one_shl]
   have:(bitZ C.length - 1).toNat=2^C.length - 1:=by
    show (((2^C.length:Nat):Int) - 1).toNat=_
    omega
   rw [this,Nat.testBit_two_pow_sub_one]
  have hbad:(bitsZ (bitZ (p+K))).all (fun b=>(zaf (wayB C,b)).toNat.testBit j)=(zaf (wayB C,((p+K:Nat):Int))).toNat.testBit j:=by
   rw [Bool.eq_iff_iff,List.all_eq_true]
   constructor
   ·intro hb
    exact hb _ (zbr.2 ⟨p+K,rfl,by omega,by rw [bit_bit,decide_eq_true rfl]⟩)
   ·intro hb c hc
    obtain ⟨i,rfl,_,hi⟩:=zbr.1 hc
    rw [bit_bit,decide_eq_true_eq] at hi
    rw [<-hi];exact hb
  have hgood:(bitsZ (G*2^p)).all (fun b=>!(zaf (wayB C,b)).toNat.testBit j)=(List.range n).all fun m=>!(G.toNat.testBit m&&(decide (p+m=j)||(gv m).toNat.testBit j)):=by
   rw [Bool.eq_iff_iff,List.all_eq_true,List.all_eq_true]
   constructor
   ·intro hb m hm
    have hm:=List.mem_range.1 hm
    cases hg:G.toNat.testBit m with
    | false=>rfl
    | true =>
     have:=hb ((p+m:Nat):Int) (zbr.2 ⟨p+m,rfl,by omega,by rw [hGb,decide_eq_true (by omega),show p+m - p=m by omega,hg];rfl⟩)
     rw [h.reach hm,or_bit,bit_bit] at this
     rw [Bool.true_and];exact this
   ·intro hb c hc
    obtain ⟨i,rfl,_,hi⟩:=zbr.1 hc
    rw [hGb,Bool.and_eq_true,decide_eq_true_eq] at hi
    obtain ⟨m,rfl⟩:∃ m,i=p+m:=⟨i - p,by omega⟩
    have hi2:=hi.2
    rw [show p+m - p=m by omega] at hi2
    have hm:m<n:=by
     by_cases hlt:m<n
     ·exact hlt
     ·rw [lt_bit.1 g1 m (by omega)] at hi2;cases hi2
    have:=hb m (List.mem_range.2 hm)
    rw [hi2,Bool.true_and] at this
    rw [h.reach hm,or_bit,bit_bit];exact this
  rw [hfull,hbad,hgood,h.reach hK,or_bit,bit_bit]
  rw [Bool.eq_iff_iff]
  simp only [Bool.and_eq_true,Bool.or_eq_true,decide_eq_true_eq,List.all_eq_true,List.mem_range,Bool.not_eq_true']
  constructor
  ·rintro ⟨⟨h1,h2 | h2⟩,h3⟩
   ·exact .inr h2
   ·refine .inl ⟨h2,fun m hm=>?_⟩
    have:=h3 m hm
    cases hg:G.toNat.testBit m with
    | false=>rfl
    | true =>
     rw [hg,Bool.true_and,Bool.or_eq_false_iff] at this
     rw [Bool.true_and];exact this.2
  ·rintro (⟨h1,h2⟩ | h2)
   ·have hjp:=h.gv_low hK h1
    refine ⟨⟨by omega,.inr h1⟩,fun m hm=>?_⟩
    have:=h2 m hm
    rw [decide_eq_false (show ¬ p+m=j by omega),Bool.false_or]
    exact this
   ·subst h2
    refine ⟨⟨by omega,.inl rfl⟩,fun m hm=>?_⟩
    cases hg:G.toNat.testBit m with
    | false=>rfl
    | true =>
     have hmk:m≠K:=fun e=>by rw [e,gk] at hg;cases hg
     have hgm:(gv m).toNat.testBit (p+K)=false:=lt_bit.1 (h.gv m hm).2 _ (by omega)
     rw [decide_eq_false (show ¬ p+m=p+K by omega),hgm];rfl
 have hnz:(zav (C,bitZ (p+K),G*2^p)==0)=false:=by
  rw [hbl]
  have:orZ (offN (fun m=>G.toNat.testBit m) gv (gv K) n) (bitZ (p+K))≠0:=fun e=>by
   have:=or_bit (offN (fun m=>G.toNat.testBit m) gv (gv K) n) (bitZ (p+K)) (p+K)
   rw [e,bit_bit,decide_eq_true rfl,Bool.or_true] at this
   simp at this
  simpa using this
 unfold zad
 simp only [hck,cond_true,hz,cond_false,hnz]
 rw [hbl]
end
end Go.Td
/-
 What is called back,and how many pencils: with no program in sight.
-/
namespace Go.Td
open Go Go.Sx
abbrev ownV (C:List Batch) (c:Int):Int:=andZ (zaf (wayA (zae C),c)) (soldN C C.length)
theorem reclStep_eq (C:List Batch) (s:Recl) (c:Int):reclStep C s c=(zao [s.1,ownV C c],cond s.2.2 (sumZ C (ownV C c),sumZ C (ownV C c)) (min s.2.1.1 (sumZ C (ownV C c)),max s.2.1.2 (sumZ C (ownV C c))),false):=rfl
theorem recl_bits (C:List Batch):∀ (l:List Int) (s:Recl),0<=s.1->0<=(l.foldl (reclStep C) s).1∧∀ j:Nat,(l.foldl (reclStep C) s).1.toNat.testBit j=(s.1.toNat.testBit j||l.any fun c=>(ownV C c).toNat.testBit j)
 | [],s,h0=>⟨h0,fun j=>by simp⟩
 | c::l,s,h0=>by
  have h1:0<=(reclStep C s c).1:=by rw [reclStep_eq,join2 _ _ h0];exact or_nn _ _
  obtain ⟨g0,g1⟩:=recl_bits C l (reclStep C s c) h1
  refine ⟨g0,fun j=>?_⟩
  rw [List.foldl_cons,g1,reclStep_eq]
  show ((zao [s.1,ownV C c]).toNat.testBit j||_)=_
  rw [join2 _ _ h0,or_bit,List.any_cons,Bool.or_assoc]
theorem recl_sums (C:List Batch):∀ (l:List Int) (s:Recl),s.2.2=false->s.2.1.1<=s.2.1.2 ->
  ((l.foldl (reclStep C) s).2.1.1<=(l.foldl (reclStep C) s).2.1.2∧(l.foldl (reclStep C) s).2.1.1<=s.2.1.1)∧(∀ c∈l,(l.foldl (reclStep C) s).2.1.1<=sumZ C (ownV C c))∧((∃ c∈l,(l.foldl (reclStep C) s).2.1.1=sumZ C (ownV C c))∨(l.foldl (reclStep C) s).2.1.1=s.2.1.1)
 | [],s,_,h=>⟨⟨h,Int.le_refl _⟩,fun c hc=>(by cases hc),.inr rfl⟩
 | c::l,s,hf,h=>by
  obtain ⟨f,hfe⟩:∃ f,f=sumZ C (ownV C c):=⟨_,rfl⟩
  have e:reclStep C s c=(zao [s.1,ownV C c],(min s.2.1.1 f,max s.2.1.2 f),false):=by rw [reclStep_eq,hf,cond_false,<-hfe]
  have a1:=Int.min_le_left s.2.1.1 f
  have a2:=Int.min_le_right s.2.1.1 f
  have a3:=Int.le_max_left s.2.1.2 f
  have a4:=Int.le_max_right s.2.1.2 f
  obtain ⟨⟨g1,g2⟩,g3,g4⟩:=recl_sums C l (reclStep C s c) (by rw [e]) (by rw [e];show min s.2.1.1 f<=max s.2.1.2 f;omega)
  rw [List.foldl_cons]
  have g2':(l.foldl (reclStep C) (reclStep C s c)).2.1.1<=min s.2.1.1 f:=by rw [e] at g2 ⊢;exact g2
  refine ⟨⟨g1,by omega⟩,fun d hd=>?_,?_⟩
  ·rcases List.mem_cons.1 hd with rfl | hd
   ·rw [<-hfe];omega
   ·exact g3 d hd
  ·rcases g4 with ⟨d,hd,hde⟩ | g4
   ·exact .inl ⟨d,List.mem_cons_of_mem _ hd,hde⟩
   ·have g4:(l.foldl (reclStep C) (reclStep C s c)).2.1.1=min s.2.1.1 f:=by rw [g4,e]
    by_cases hle:s.2.1.1<=f
    ·exact .inr (by rw [g4,Int.min_eq_left hle])
    ·exact .inl ⟨c,List.mem_cons_self ..,by rw [g4,Int.min_eq_right (by omega),hfe]⟩
theorem recl_least (C:List Batch) (c:Int) (l:List Int) :
  let R:=(c::l).foldl (reclStep C) (0,(0,0),true)
  R.2.1.1<=R.2.1.2∧(∀ d∈c::l,R.2.1.1<=sumZ C (ownV C d))∧∃ d∈c::l,R.2.1.1=sumZ C (ownV C d):=by
 intro R
 have e:reclStep C (0,(0,0),true) c=(zao [0,ownV C c],(sumZ C (ownV C c),sumZ C (ownV C c)),false):=rfl
 have hR:R=l.foldl (reclStep C) (zao [0,ownV C c],(sumZ C (ownV C c),sumZ C (ownV C c)),false):=by
  show (c::l).foldl (reclStep C) (0,(0,0),true)=_
  rw [List.foldl_cons,e]
 obtain ⟨⟨g1,g2⟩,g3,g4⟩:=recl_sums C l (zao [0,ownV C c],(sumZ C (ownV C c),sumZ C (ownV C c)),false) rfl (Int.le_refl _)
 rw [<-hR] at g1 g2 g3 g4
 refine ⟨g1,fun d hd=>?_,?_⟩
 ·rcases List.mem_cons.1 hd with rfl | hd
  ·exact g2
  ·exact g3 d hd
 ·rcases g4 with ⟨d,hd,hde⟩ | g4
  ·exact ⟨d,List.mem_cons_of_mem _ hd,hde⟩
  ·exact ⟨c,List.mem_cons_self ..,g4⟩
theorem sum_ge (v:Int->Int):∀ (l:List Int) (s:Int),(∀ c∈l,0<=v c)->s<=l.foldl (fun n k=>n+v k) s∧∀ c∈l,s+v c<=l.foldl (fun n k=>n+v k) s
 | [],s,_=>⟨Int.le_refl _,fun c hc=>by cases hc⟩
 | d::l,s,h=>by
  obtain ⟨g1,g2⟩:=sum_ge v l (s+v d) fun c hc=>h c (List.mem_cons_of_mem _ hc)
  have hd:=h d (List.mem_cons_self ..)
  refine ⟨by rw [List.foldl_cons];omega,fun c hc=>?_⟩
  rw [List.foldl_cons]
  rcases List.mem_cons.1 hc with rfl | hc
  ·exact g1
  ·have:=g2 c hc;omega
theorem bits_one:∀ i,i<32->bitsZ (bitZ i)=[(i:Int)]:=of_decide_eq_true (by kernel_rfl)
section
variable {C:List Batch} {p n:Nat} {gv sd:Nat->Int}
theorem Cards.sold (h:Cards C p n gv sd) (j:Nat):(soldN C C.length).toNat.testBit j=(List.range n).any fun m=>decide (p+m=j)&&decide (0<sd m):=by
 rw [(soldN_bit C C.length).2,h.len,Bool.eq_iff_iff,Bool.and_eq_true,decide_eq_true_eq,decide_eq_true_eq,List.any_eq_true]
 constructor
 ·rintro ⟨h1,h2⟩
  by_cases hip:j<p
  ·rw [h.low j hip] at h2;exact absurd h2 (by decide)
  ·obtain ⟨m,rfl⟩:∃ m,j=p+m:=⟨j - p,by omega⟩
   rw [h.high m (by omega)] at h2
   exact ⟨m,List.mem_range.2 (by omega),by rw [decide_eq_true rfl,decide_eq_true h2];rfl⟩
 ·rintro ⟨m,hm,hq⟩
  rw [Bool.and_eq_true,decide_eq_true_eq,decide_eq_true_eq] at hq
  have hm:=List.mem_range.1 hm
  obtain ⟨rfl,h2⟩:=hq
  rw [h.high m hm]
  exact ⟨by omega,h2⟩
theorem Cards.own (h:Cards C p n gv sd) {i:Nat} (hi:i<p+n) (j:Nat) :
  (ownV C (i:Int)).toNat.testBit j=(List.range n).any fun m=>(decide (p+m=j)&&decide (0<sd m))&&(decide (i=j)||(gv m).toNat.testBit i):=by
 have hr:(zaf (wayA (zae C),(i:Int))).toNat.testBit j=(decide (i=j)||(decide (j<C.length)&&(C.getD j noB).1.toNat.testBit i)):=by
  show (orZ (bitZ (Int.toNat (i:Int))) (((aheadN C C.length) (i:Int)).getD 0)).toNat.testBit j=_
  rw [or_bit,Int.toNat_natCast,bit_bit,ahead_bit h.valid i C.length (Nat.le_refl _) j]
 rw [and_bit,hr,h.sold,h.len,Bool.eq_iff_iff,Bool.and_eq_true,List.any_eq_true,List.any_eq_true]
 constructor
 ·rintro ⟨h1,m,hm,h2⟩
  refine ⟨m,hm,?_⟩
  rw [h2,Bool.true_and]
  rw [Bool.and_eq_true,decide_eq_true_eq] at h2
  have hm:=List.mem_range.1 hm
  obtain ⟨rfl,_⟩:=h2
  rw [h.high m hm,decide_eq_true (show p+m<p+n by omega),Bool.true_and] at h1
  exact h1
 ·rintro ⟨m,hm,h1⟩
  rw [Bool.and_eq_true] at h1
  obtain ⟨h2,h3⟩:=h1
  refine ⟨?_,m,hm,h2⟩
  rw [Bool.and_eq_true,decide_eq_true_eq] at h2
  have hm:=List.mem_range.1 hm
  obtain ⟨rfl,_⟩:=h2
  rw [h.high m hm,decide_eq_true (show p+m<p+n by omega),Bool.true_and]
  exact h3
abbrev backQ (gv sd:Nat->Int) (can:Int) (K m:Nat):Bool:=decide (0<sd m)&&((!(andZ (gv m) can==0))||decide (m=K))
theorem Cards.recall (h:Cards C p n gv sd) {K:Nat} (hK:K<n) {G:Int} (g0:0<=G) (g1:G<bitZ n) (gk:G.toNat.testBit K=false) {can:Int} (hcan:can=offN (fun m=>G.toNat.testBit m) gv (gv K) n) :
  ∃ pen:Int × Int,zai (C,bitZ (p+K),G*2^p)=(orN (backQ gv sd can K) (fun m=>bitZ (p+m)) n,pen,0)∧pen.1=sd K∧pen.1<=pen.2:=by
 have hl:=h.len
 have hp:=h.pn
 have hb:=h.blame hK g0 g1 gk
 rw [<-hcan] at hb
 obtain ⟨o0,ob⟩:=offN_bit (fun m=>G.toNat.testBit m) gv (gv K) (h.gv K hK).1 n
 rw [<-hcan] at o0 ob
 have clow:∀ j,can.toNat.testBit j=true->j<p∧(gv K).toNat.testBit j=true:=fun j hj=>by
  rw [ob,Bool.and_eq_true] at hj
  exact ⟨h.gv_low hK hj.1,hj.1⟩
 obtain ⟨S,hS⟩:∃ S,S=orZ can (bitZ (p+K)):=⟨_,rfl⟩
 have sb:∀ j,S.toNat.testBit j=(can.toNat.testBit j||decide (p+K=j)):=fun j=>by rw [hS,or_bit,bit_bit]
 have smem:∀ c∈bitsZ S,∃ i:Nat,c=(i:Int)∧i<p+n∧S.toNat.testBit i=true:=fun c hc=>by
  obtain ⟨i,rfl,_,hi⟩:=zbr.1 hc
  refine ⟨i,rfl,?_,hi⟩
  rw [sb,Bool.or_eq_true,decide_eq_true_eq] at hi
  rcases hi with hi | hi
  ·have:=(clow i hi).1;omega
  ·omega
 have sK:((p+K:Nat):Int)∈bitsZ S:=zbr.2 ⟨p+K,rfl,by omega,by rw [sb,decide_eq_true rfl,Bool.or_true]⟩
 have hrec:zai (C,bitZ (p+K),G*2^p)=((reclAll C S).1,(reclAll C S).2.1,0):=by
  unfold zai
  rw [hb,<-hS]
  rfl
 refine ⟨(reclAll C S).2.1,?_,?_⟩
 ·rw [hrec]
  congr 1
  obtain ⟨r0,rb⟩:=recl_bits C (bitsZ S) (0,(0,0),true) (Int.le_refl _)
  obtain ⟨q0,qb⟩:=orN_bit (backQ gv sd can K) (fun m=>bitZ (p+m)) n
  refine zdE r0 q0 fun j=>?_
  show (((bitsZ S).foldl (reclStep C) (0,(0,0),true)).1).toNat.testBit j=_
  rw [rb,qb]
  show ((0:Int).toNat.testBit j||_)=_
  have hz:(0:Int).toNat.testBit j=false:=by simp
  rw [hz,Bool.false_or,Bool.eq_iff_iff,List.any_eq_true,List.any_eq_true]
  constructor
  ·rintro ⟨c,hc,ho⟩
   obtain ⟨i,rfl,hi,hsi⟩:=smem c hc
   rw [h.own hi,List.any_eq_true] at ho
   obtain ⟨m,hm,ho⟩:=ho
   rw [Bool.and_eq_true,Bool.and_eq_true,decide_eq_true_eq,decide_eq_true_eq,Bool.or_eq_true,decide_eq_true_eq] at ho
   obtain ⟨⟨rfl,hsd⟩,ho⟩:=ho
   refine ⟨m,hm,?_⟩
   rw [bit_bit,decide_eq_true rfl,Bool.and_true]
   show (decide (0<sd m)&&((!(andZ (gv m) can==0))||decide (m=K)))=true
   rw [decide_eq_true hsd,Bool.true_and,Bool.or_eq_true,decide_eq_true_eq]
   rw [sb,Bool.or_eq_true,decide_eq_true_eq] at hsi
   rcases ho with rfl | ho
   ·rcases hsi with hsi | hsi
    ·have:=(clow _ hsi).1;omega
    ·exact .inr (by omega)
   ·have hip:=h.gv_low (List.mem_range.1 hm) ho
    rcases hsi with hsi | hsi
    ·left
     have:andZ (gv m) can≠0:=fun e=>by
      have hab:=and_bit (gv m) can i
      rw [e,ho,hsi] at hab
      simp at hab
     simpa using this
    ·omega
  ·rintro ⟨m,hm,hq⟩
   rw [bit_bit,Bool.and_eq_true,decide_eq_true_eq] at hq
   obtain ⟨hq,rfl⟩:=hq
   have hq:(decide (0<sd m)&&((!(andZ (gv m) can==0))||decide (m=K)))=true:=hq
   rw [Bool.and_eq_true,decide_eq_true_eq,Bool.or_eq_true,decide_eq_true_eq] at hq
   obtain ⟨hsd,hq⟩:=hq
   have hm':=List.mem_range.1 hm
   rcases hq with hq | rfl
   ·have hne:andZ (gv m) can≠0:=by simpa using hq
    have hlt:andZ (gv m) can<bitZ p:=and_lt (h.gv m hm').2
    have hnn:=and_nn (gv m) can
    have h32:=bit_32 (show p<32 by omega)
    obtain ⟨_,ht,_⟩:=lowN_spec 32 (andZ (gv m) can).toNat (by omega) (by rw [pow32];simp only [top32] at h32;omega)
    generalize lowN 32 (andZ (gv m) can).toNat=i at ht
    rw [and_bit,Bool.and_eq_true] at ht
    have hip:=(clow i ht.2).1
    refine ⟨(i:Int),zbr.2 ⟨i,rfl,by omega,by rw [sb,ht.2];rfl⟩,?_⟩
    rw [h.own (by omega),List.any_eq_true]
    exact ⟨m,hm,by rw [decide_eq_true rfl,decide_eq_true hsd,ht.1,Bool.or_true];rfl⟩
   ·refine ⟨((p+m:Nat):Int),sK,?_⟩
    rw [h.own (by omega),List.any_eq_true]
    exact ⟨m,hm,by rw [decide_eq_true rfl,decide_eq_true hsd];rfl⟩
 ·have vnn:∀ c:Int,0<=c∧c<((p+n:Nat):Int)->0<=(C.getD c.toNat noB).2:=fun c hc=>(zdp h.valid (i:=c.toNat) (by omega)).2.2.1
  have ownlt:∀ i:Nat,ownV C (i:Int)<bitZ (p+n):=fun i=>lt_bit.2 fun j hj=>by
   rw [and_bit,h.sold]
   have:((List.range n).any fun m=>decide (p+m=j)&&decide (0<sd m))=false:=by
    rw [List.any_eq_false]
    intro m hm
    have:=List.mem_range.1 hm
    rw [decide_eq_false (show ¬ p+m=j by omega)]
    simp
   rw [this,Bool.and_false]
  have ge:∀ i:Nat,i<p+n->0<=sumZ C (ownV C (i:Int))∧∀ j:Nat,(ownV C (i:Int)).toNat.testBit j=true->(C.getD j noB).2<=sumZ C (ownV C (i:Int)):=fun i hi=>by
   obtain ⟨a1,a2⟩:=sum_ge (fun k=>(C.getD k.toNat noB).2) (bitsZ (ownV C (i:Int))) 0 fun c hc=>vnn c (bits_in (ownlt i) c hc)
   refine ⟨a1,fun j hj=>?_⟩
   have hjl:j<p+n:=by
    by_cases hlt:j<p+n
    ·exact hlt
    ·rw [lt_bit.1 (ownlt i) j (by omega)] at hj;cases hj
   have:=a2 (j:Int) (zbr.2 ⟨j,rfl,by omega,hj⟩)
   rw [Int.toNat_natCast,Int.zero_add] at this
   exact this
  have hall:∀ c∈bitsZ S,sd K<=sumZ C (ownV C c):=fun c hc=>by
   obtain ⟨i,rfl,hi,hsi⟩:=smem c hc
   obtain ⟨a1,a2⟩:=ge i hi
   by_cases hpos:0<sd K
   ·have hbit:(ownV C (i:Int)).toNat.testBit (p+K)=true:=by
     rw [h.own hi,List.any_eq_true]
     refine ⟨K,List.mem_range.2 hK,?_⟩
     rw [decide_eq_true rfl,decide_eq_true hpos]
     rw [sb,Bool.or_eq_true,decide_eq_true_eq] at hsi
     rcases hsi with hsi | rfl
     ·rw [(clow i hsi).2,Bool.or_true];rfl
     ·rw [decide_eq_true rfl];rfl
    have:=a2 _ hbit
    rw [h.high K hK] at this
    exact this
   ·have:=(h.sd K hK).1;omega
  have hown:ownV C ((p+K:Nat):Int)=cond (decide (0<sd K)) (bitZ (p+K)) 0:=by
   refine zdE (and_nn _ _) ?_ fun j=>?_
   ·cases decide (0<sd K) with
    | true=>exact Int.le_of_lt (bit_pos _)
    | false=>exact Int.le_refl _
   rw [h.own (by omega),Bool.eq_iff_iff,List.any_eq_true]
   constructor
   ·rintro ⟨m,hm,ho⟩
    rw [Bool.and_eq_true,Bool.and_eq_true,decide_eq_true_eq,decide_eq_true_eq,Bool.or_eq_true,decide_eq_true_eq] at ho
    obtain ⟨⟨rfl,hsd⟩,ho⟩:=ho
    rcases ho with ho | ho
    ·have:m=K:=by omega
     subst this
     rw [decide_eq_true hsd,cond_true,bit_bit,decide_eq_true rfl]
    ·have:=h.gv_low (List.mem_range.1 hm) ho;omega
   ·intro hj
    by_cases hpos:0<sd K
    ·rw [decide_eq_true hpos,cond_true,bit_bit,decide_eq_true_eq] at hj
     subst hj
     exact ⟨K,List.mem_range.2 hK,by rw [decide_eq_true rfl,decide_eq_true hpos];rfl⟩
    ·rw [decide_eq_false hpos,cond_false] at hj
     simp at hj
  have hself:sumZ C (ownV C ((p+K:Nat):Int))=sd K:=by
   rw [hown]
   by_cases hpos:0<sd K
   ·rw [decide_eq_true hpos,cond_true]
    unfold sumZ
    rw [bits_one _ (by omega),List.foldl_cons,List.foldl_nil,Int.toNat_natCast,h.high K hK]
    exact Int.zero_add _
   ·rw [decide_eq_false hpos,cond_false]
    unfold sumZ
    rw [bits_zero,List.foldl_nil]
    have:=(h.sd K hK).1;omega
  obtain ⟨c,l,hcl⟩:∃ c l,bitsZ S=c::l:=by
   cases hb:bitsZ S with
   | nil=>rw [hb] at sK;cases sK
   | cons c l=>exact ⟨c,l,rfl⟩
  obtain ⟨m1,m2,d,hd,hde⟩:=recl_least C c l
  have eR:reclAll C S=(c::l).foldl (reclStep C) (0,(0,0),true):=by unfold reclAll;rw [hcl]
  rw [<-eR] at m1 m2 hde
  rw [<-hcl] at m2 hd
  have b1:=m2 _ sK
  rw [hself] at b1
  have b2:=hall d hd
  exact ⟨by omega,m1⟩
end
end Go.Td
