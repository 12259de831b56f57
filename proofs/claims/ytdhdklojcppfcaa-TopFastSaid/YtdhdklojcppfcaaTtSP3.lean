/- Written by a program of mine (wip/tools/gen.py): contexts and conditions of functions. -/
import Derived.Test.YtdhdklojcppfcaaTtMix
import Derived.Test.YtdhdklojcppfcaaProg
set_option linter.all false
set_option maxRecDepth 100000
set_option maxHeartbeats 4000000
open Bool renaming and_eq_true->yac
open Int renaming eq_ofNat_of_zero_le->ydw,fdiv->ydv,fdiv_eq_ediv_of_nonneg->yaS,le_refl->ydB,one_mul->ydy,toNat->yby,toNat_natCast->ydt
open List renaming replicate->yaa
open Nat renaming pow_le_pow_right->ydx,testBit_and->ydA,zero_testBit->ydz
open Go.Proofs.Try
namespace Go.Tt
open Go Go.Sx
def T:Tabs:={
 tyL:=[(3,I),(4,.bo),(5,(.i .u8)),(31,(.st (.p I I))),(36,I),(45,(.i .u32)),(56,(.sl I)),(70,(.sl (.sl I))),(91,(.sl (.st (.p I (.p I (.p I I)))))),(92,(.sl (.st (.p I (.p (.st (.p I I)) (.st (.p I I))))))),(94,(.st (.p (.sl (.st (.p I (.p (.st (.p I I)) (.st (.p I I)))))) (.sl (.st (.p I (.p I (.p I I)))))))),(98,(.st (.p I (.p (.st (.p I I)) (.st (.p I I)))))),(100,(.st (.p I (.p I (.p I I))))),(132,(.f2 I I I)),(135,(.f1 I .bo)),(156,(.f1 I I)),(158,(.arr 8 I)),(159,(.arr 8 (.arr 8 I))),(175,(.rn (.st (.p (.sl I) (.p (.sl I) (.sl I)))))),(178,(.st .u)),(179,I),(180,(.arr 8 I)),(182,(.st (.p (.rn (.st (.p (.sl I) (.p (.sl I) (.sl I))))) (.p (.arr 8 (.arr 8 I)) (.p (.arr 8 I) I))))),(183,(.sl I)),(185,(.st (.p (.sl I) (.p (.sl I) (.sl I))))),(186,(.ref (.st (.p (.rn (.st (.p (.sl I) (.p (.sl I) (.sl I))))) (.p (.arr 8 (.arr 8 I)) (.p (.arr 8 I) I)))))),(189,(.st (.p I I))),(190,(.sq false I)),(191,(.sq false I)),(196,(.st .u)),(197,(.sl (.im "pencilworks/order.many" (.st (.p I (.p (.st (.p I I)) (.st (.p I I))))) I (.im "pencilworks/order.ready" (.st (.p I (.p (.st (.p I I)) (.st (.p I I))))) I .u)))),(199,(.im "pencilworks/order.many" (.st (.p I (.p (.st (.p I I)) (.st (.p I I))))) I (.im "pencilworks/order.ready" (.st (.p I (.p (.st (.p I I)) (.st (.p I I))))) I .u))),(200,(.f1 I .bo)),(212,(.f1 (.st (.p I (.p I (.p I I)))) I)),(222,(.i .u64)),(244,(.f1 (.st (.p I (.p (.st (.p I I)) (.st (.p I I))))) .bo)),(245,(.f1 (.st (.p I (.p I (.p I I)))) .bo)),(249,(.mp I .bo)),(305,(.i .u64))],
 elL:=[(56,3),(70,56),(91,100),(92,98),(183,179),(197,199)],
 oneL:=[56,91,92,175,183,249],
 mtyL:=[(122,(3,221)),(123,(3,221)),(147,(153,3)),(148,(153,3)),(249,(3,4)),(282,(4,281))],
 mthL:=[((178, "pencilworks/order.many"),251),((178, "pencilworks/order.ready"),252),((196, "pencilworks/order.many"),253),((196, "pencilworks/order.ready"),254)] }
def k87:NCon:={ args:=[(.sl I)],res:=[(.sl I)],pos:=0,el:=3,box:=false,pre:=zbf,val:=zaj }
abbrev o210n1 (x:Int):Int:=(Go.IntKind.wrap .u64 ((((yby ((ydv x (2^(yby (1)))))) &&& (yby (6148914691236517205)):Nat):Int)+(((yby (x)) &&& (yby (6148914691236517205)):Nat):Int)))
abbrev o210n2 (x:Int):Int:=(Go.IntKind.wrap .u64 ((((yby ((ydv (o210n1 x) (2^(yby (2)))))) &&& (yby (3689348814741910323)):Nat):Int)+(((yby ((o210n1 x))) &&& (yby (3689348814741910323)):Nat):Int)))
abbrev o210n3 (x:Int):Int:=(Go.IntKind.wrap .u64 ((ydv (o210n2 x) (2^(yby (4))))+(o210n2 x)))
abbrev o210n4 (x:Int):Int:=(Go.IntKind.wrap .u64 ((((yby ((o210n3 x))) &&& (yby (1085102592571150095)):Nat):Int)+(ydv (((yby ((o210n3 x))) &&& (yby (1085102592571150095)):Nat):Int) (2^(yby (8))))))
abbrev o210n5 (x:Int):Int:=(Go.IntKind.wrap .u64 ((o210n4 x)+(ydv (o210n4 x) (2^(yby (16))))))
abbrev o210n6 (x:Int):Int:=(Go.IntKind.wrap .u64 ((o210n5 x)+(ydv (o210n5 x) (2^(yby (32))))))
def V210 (x:Int):Prop:=(((0:Int)<=1/\(1:Int)<=64)/\(((0:Int)<=(ydv x (2^(yby (1))))/\(0:Int)<=6148914691236517205)/\(((0:Int)<=x/\(0:Int)<=6148914691236517205)/\(((0:Int)<=2/\(2:Int)<=64)/\(((0:Int)<=(ydv (o210n1 x) (2^(yby (2))))/\(0:Int)<=3689348814741910323)/\(((0:Int)<=(o210n1 x)/\(0:Int)<=3689348814741910323)/\(((0:Int)<=4/\(4:Int)<=64)/\(((0:Int)<=(o210n3 x)/\(0:Int)<=1085102592571150095)/\(((0:Int)<=8/\(8:Int)<=64)/\(((0:Int)<=16/\(16:Int)<=64)/\(((0:Int)<=32/\(32:Int)<=64)/\(((0:Int)<=(Go.IntKind.wrap .i64 (o210n6 x))/\(0:Int)<=127)/\(((((yby ((Go.IntKind.wrap .i64 (o210n6 x)))) &&& (yby (127)):Nat):Int):Int)=(zeG x))))))))))))))
def cx87:Cx:=mkCx T 8 [] [] [] [] [] [] [] none
def V87 (x:List Int):Prop:=(True/\(((x=[])->(((true=true)->(([]:(List Int))=(zaj x)))/\((true=false)->(Z.roomy 1 (((yaa 0 0)++x).length:Int)/\((((yaa 0 0)++x):(List Int))=(zaj x))))))/\(((false=true)->(([]:(List Int))=(zaj x)))/\((false=false)->(Z.roomy 1 (((yaa 0 0)++x).length:Int)/\((((yaa 0 0)++x):(List Int))=(zaj x)))))))
theorem e87 (x:Ds k87.args):vcFunN cx87 f87 k87 x=V87 x:=by kernel_rfl
end Go.Tt
/-
 Chapter 10: conditions of small functions,proved.
-/
namespace Go.Tt
open Go Go.Sx
theorem tabs_ok:TabsOk prog T:=⟨by kernel_rfl,maps_ok⟩
structure SaleOk (s:Sale):Prop where
 s8:s.1.length<=8
 o8:s.2.length<=8
 sup:∀ x∈s.1,supplyB x=true
 ord:∀ o∈s.2,orderB o=true
theorem has_div {s n:Int} (hs:0<=s) (hn:0<=n):((((yby (ydv s (2^(yby n)))) &&& (yby (1)):Nat):Int)==1)=hasB s n:=by
 obtain ⟨m,rfl⟩:=ydw hs
 obtain ⟨k,rfl⟩:=ydw hn
 have e:ydv (m:Int) (2^(yby (k:Int)))=((m / 2^k:Nat):Int):=by
  rw [yaS _ (Int.le_of_lt (Int.pow_pos (by decide)))]
  simp
 rw [e]
 simp only [hasB,ydt,Nat.testBit_eq_decide_div_mod_eq]
 have:yby 1=1:=rfl
 rw [this,Nat.and_one_is_mod]
 rw [Bool.eq_iff_iff]
 simp only [beq_iff_eq,decide_eq_true_eq]
 omega
theorem zlL {α β:Type} (f:α->β) (l:List α) (d:α) (i:Int) (h0:0<=i) (h:i<(l.length:Int)):(l.take (i+1).toNat).map f=(l.take i.toNat).map f++[f (l.getD i.toNat d)]:=by
 have e:(i+1).toNat=i.toNat+1:=by omega
 have h':i.toNat<l.length:=by omega
 rw [e,List.take_succ_eq_append_getElem h',List.map_append]
 simp [List.getD,h']
theorem pow_int (k:Int):(2^k.toNat:Int)=((2^k.toNat:Nat):Int):=by simp
theorem shl_ok {k:Int} (h0:0<=k) (h8:k<62):((0:Int)<=k/\k<64)/\Z.in64 (1*2^k.toNat):=by
 refine ⟨⟨h0,by omega⟩,?_⟩
 have:(2:Nat)^k.toNat<=2^62:=ydx (by decide) (by omega)
 simp only [Z.in64]
 rw [ydy,pow_int]
 generalize 2^k.toNat=m at *
 omega
theorem pow_nn (k:Int):(0:Int)<=1*2^k.toNat:=by
 rw [ydy,pow_int]
 exact Int.natCast_nonneg _
theorem zlS (p:Nat->Bool) (a:Int):∀ (l:List Int) (k:Nat),selS p (l++[a]) k=selS p l k+cond (p (k+l.length)) a 0
 | [],k=>by simp [selS]
 | b::l,k=>by
  simp only [List.cons_append,selS,zlS p a l (k+1),List.length_cons]
  have:k+1+l.length=k+(l.length+1):=by omega
  rw [this];omega
end Go.Tt
/-
 Chapter 10: conditions of the market's functions,proved.
-/
namespace Go.Tt
open Go Go.Sx
instance (x:Int):Decidable (V210 x):=by unfold V210;exact inferInstance
end Go.Tt
/-
 Chapter 10: conditions of Meets,Lack and Accept,proved.
-/
namespace Go.Tt
open Go Go.Sx
end Go.Tt
/-
 Chapter 10: conditions of the flow's functions,proved.
-/
namespace Go.Tt
open Go Go.Sx
theorem v87 (x:List Int) (h:k87.pre x):V87 x:=by
 have h:x.length<=1000:=h
 have e:(yaa 0 (0:Int))++x=x:=rfl
 refine ⟨trivial,fun hx=>⟨fun _=>?_,fun h=>(by cases h)⟩,fun h=>(by cases h),fun _=>⟨zfG (by decide) (by decide) (by rw [e];omega),rfl⟩⟩
 exact hx.symm
end Go.Tt
/-
 Chapter 10: the conditions of push and fill,proved.
-/
namespace Go.Tt
open Go Go.Sx
end Go.Tt
/-
 Chapter 10: the conditions of fill and Share,proved.
-/
namespace Go.Tt
open Go Go.Sx
structure ShareOk (m:Market) (c:List Int):Prop where
 mo:MarketOk m
 c8:c.length=8
 cs:∀ s∈c,smallSet s
end Go.Tt
/-
 Chapter 10: the condition of Share,proved.
-/
namespace Go.Tt
open Go Go.Sx
theorem rm1 {n:Int} (hn:n<=100):Z.roomy 1 n:=zfG (by decide) (by decide) (by omega)
end Go.Tt
/-
 Chapter 10: conditions of the examples,proved.
-/
namespace Go.Tt
open Go Go.Sx
end Go.Tt
/-
 Chapter 10: what lacks most.
-/
namespace Go.Tt
open Go Go.Sx
def under (n:Nat) (X:Int):Prop:=0<=X/\X<2^n
theorem znz {n:Nat} {X:Int} (h:under n X):∃ m:Nat,X=(m:Int)/\m<2^n:=by
 refine ⟨X.toNat,by have:=h.1;omega,?_⟩
 have h1:=h.1
 have h2:=h.2
 have:(2^n:Int)=((2^n:Nat):Int):=by simp
 rw [this] at h2
 omega
theorem zhw {n:Nat} {X:Int} (hn:n<=8) (h:under n X):smallSet X:=by
 obtain ⟨m,rfl,hm⟩:=znz h
 have:2^n<=2^8:=ydx (by decide) hn
 simp only [smallSet];omega
theorem zjX {a t:Int}:touchB a t=true↔∃ k:Nat,hasB a (k:Nat)=true/\hasB t (k:Nat)=true:=by
 simp only [touchB,hasB,ydt,Bool.not_eq_true',beq_eq_false_iff_ne]
 constructor
 ·intro h
  have h:a.toNat &&& t.toNat≠0:=fun e=>h (by rw [e];rfl)
  have:∃ k,(a.toNat &&& t.toNat).testBit k=true:=by
   refine Classical.byContradiction fun hn=>h (Nat.eq_of_testBit_eq fun k=>?_)
   rw [ydz]
   cases hk:(a.toNat &&& t.toNat).testBit k with
   | false=>rfl
   | true=>exact absurd ⟨k,hk⟩ hn
  obtain ⟨k,hk⟩:=this
  rw [ydA,yac] at hk
  exact ⟨k,hk⟩
 ·rintro ⟨k,h1,h2⟩ h
  have h:a.toNat &&& t.toNat=0:=by omega
  have:=congrArg (fun x=>x.testBit k) h
  simp only [ydA,ydz,h1,h2] at this
  cases this
theorem zeA (l:List Int) (i:Int) (h0:0<=i) (h:i<(l.length:Int)):l.take (i+1).toNat=l.take i.toNat++[l.getD i.toNat 0]:=by
 have:=zlL (id:Int->Int) l 0 i h0 h
 simpa using this
theorem zkq (p:Nat->Bool) (l:List Int) (i:Int) (h0:0<=i) (h:i<(l.length:Int)):selS p (l.take (i+1).toNat) 0=selS p (l.take i.toNat) 0+cond (p i.toNat) (l.getD i.toNat 0) 0:=by
 rw [zeA l i h0 h,zlS]
 congr 2
 rw [List.length_take]
 congr 1
 omega
theorem pow_nat (n:Nat):(2^n:Int)=((2^n:Nat):Int):=by simp
structure Most (L:Int->Int) (l:List Int) (b:Int × Int):Prop where
 nn:0<=b.2
 zero:b.2=0->b=(0,0)
 val:b≠(0,0)->b.1∈l/\L b.1=b.2
 max:∀ x∈l,L x<=b.2
 small:∀ x∈l,L x=b.2->0<b.2->sizeV b.1<=sizeV x
end Go.Tt
/-
 Orders: what Share and Lack give.
-/
namespace Go.Tt
open Go Go.Sx
structure LackIs (s:Sale):Prop where
 f:(0<(zco s).2.1/\(zco s).2.2=0)\/((zco s).2.1=0/\(zco s).2.2=4)
 s0:0<=(zco s).1
 s1:(zco s).1<2^s.2.length
 val:lackM (worstM s) (zco s).1=(zco s).2.1
end Go.Tt
/-
 Shade: what each function gives. No program in sight.
-/
namespace Go.Tt
open Go Go.Sx
abbrev Tint:=Int × Int
abbrev Stroke:=Span × Span
abbrev Leads:=Span × Span × Int × (List Stroke) × Span × Span × Int
abbrev Shade:=Span × Span × Span
abbrev Mix:=(List Tint) × Int × Int
abbrev gram:Int:=1073741824
def tintB (c:List Tint) (i:Nat):Bool:=inB (c.getD i (0,0)).2 0 200&&(i==0||(decide ((c.getD (i - 1) (0,0)).1<(c.getD i (0,0)).1)&&decide ((c.getD (i - 1) (0,0)).2<=(c.getD i (0,0)).2)))
def curveB (c:List Tint):Bool:=((inB (c.length:Int) 2 8&&(c.getD 0 (0,0)).1==0)&&(c.getD (c.length - 1) (0,0)).1==1000)&&(List.range c.length).all (tintB c)
def strokeB (s:Stroke):Bool:=spanB s.1 0 1000&&spanB s.2 1 4000
def leadsB (l:Leads):Bool:=(((spanB l.1 1 gram&&spanB l.2.1 0 gram)&&inB l.2.2.1 0 200)&&((spanB l.2.2.2.2.1 0 10000&&spanB l.2.2.2.2.2.1 0 10000)&&inB l.2.2.2.2.2.2 0 topN))&&decide ((l.2.2.2.1.length:Int)<=6)&&l.2.2.2.1.all strokeB
structure MixOk (m:Mix):Prop where
 curve:curveB m.1=true
 g:1<=m.2.1/\m.2.1<=gram
 c:0<=m.2.2/\m.2.2<=gram
def srch (f:Int->Bool):Nat->Int->Int->Int
 | 0,i,_=>i
 | n+1,i,j=>cond (decide (i<j)) (cond (f (ydv (i+j) 2)) (srch f n i (ydv (i+j) 2)) (srch f n (ydv (i+j) 2+1) j)) i
def reachB (m:Mix) (i:Int):Bool:=decide (1000*m.2.1<=(m.1.getD (i+1).toNat (0,0)).1*(m.2.1+m.2.2))
def zgi (x:Mix × Int):Bool:=reachB x.1 x.2
def zfn (x:Mix × Int):Prop:=MixOk x.1/\0<=x.2/\x.2+1<(x.1.1.length:Int)
abbrev reachF (m:Mix):Fun Int Bool:=⟨fun i=>zfn (m,i),fun i=>zgi (m,i)⟩
def zdi (x:Int × Fun Int Bool):Int:=srch x.2.val x.1.toNat 0 x.1
def zcZ (x:Int × Fun Int Bool):Prop:=(0<=x.1/\x.1<=1152921504606846976)/\∀ i,0<=i->i<x.1->x.2.pre i
abbrev cutS (m:Mix):Int:=zdi ((m.1.length:Int) - 2,reachF m)
abbrev aS (m:Mix):Tint:=m.1.getD (cutS m).toNat (0,0)
abbrev bS (m:Mix):Tint:=m.1.getD (cutS m+1).toNat (0,0)
end Go.Tt
/- Written by a program of mine (wip/tools/gen.py): contexts and conditions of functions. -/
namespace Go.Tt
open Go Go.Sx
def TS:Tabs:={
 tyL:=[(3,I),(4,.bo),(24,(.sl (.st (.p I I)))),(31,(.st (.p I I))),(36,I),(41,(.sl (.st (.p (.st (.p I I)) (.st (.p I I)))))),(43,(.st (.p (.st (.p I I)) (.p (.st (.p I I)) (.p I (.p (.sl (.st (.p (.st (.p I I)) (.st (.p I I))))) (.p (.st (.p I I)) (.p (.st (.p I I)) I)))))))),(54,(.sl (.st (.p (.st (.p I I)) (.p (.st (.p I I)) (.p I (.p (.sl (.st (.p (.st (.p I I)) (.st (.p I I))))) (.p (.st (.p I I)) (.p (.st (.p I I)) I))))))))),(55,(.sl (.st (.p (.st (.p I I)) (.p (.st (.p I I)) (.st (.p I I))))))),(56,(.sl I)),(68,(.st (.p (.st (.p I I)) (.p (.st (.p I I)) (.st (.p I I)))))),(121,(.st (.p I I))),(135,(.f1 I .bo)),(136,(.sl (.st (.p (.st (.p (.st (.p I I)) (.p (.st (.p I I)) (.p I (.p (.sl (.st (.p (.st (.p I I)) (.st (.p I I))))) (.p (.st (.p I I)) (.p (.st (.p I I)) I))))))) (.st (.p I I)))))),(140,(.st (.p (.st (.p (.st (.p I I)) (.p (.st (.p I I)) (.p I (.p (.sl (.st (.p (.st (.p I I)) (.st (.p I I))))) (.p (.st (.p I I)) (.p (.st (.p I I)) I))))))) (.st (.p I I))))),(142,(.st (.p (.st (.p I I)) (.st (.p I I))))),(143,(.f1 (.st (.p (.st (.p I I)) (.p (.st (.p I I)) (.st (.p I I))))) .bo)),(222,(.i .u64)),(224,(.f1 (.st (.p (.st (.p I I)) (.p (.st (.p I I)) (.p I (.p (.sl (.st (.p (.st (.p I I)) (.st (.p I I))))) (.p (.st (.p I I)) (.p (.st (.p I I)) I))))))) .bo)),(265,(.st (.p (.sl (.st (.p I I))) (.st (.p (.st (.p I I)) (.p (.st (.p I I)) (.p I (.p (.sl (.st (.p (.st (.p I I)) (.st (.p I I))))) (.p (.st (.p I I)) (.p (.st (.p I I)) I)))))))))),(266,(.sl (.im "pencilworks/shade.bounds" .u (.st (.p I I)) .u))),(268,(.st (.st (.p (.st (.p I I)) (.st (.p I I)))))),(270,(.im "pencilworks/shade.bounds" .u (.st (.p I I)) .u)),(299,(.f1 (.st (.p (.st (.p I I)) (.st (.p I I)))) .bo)),(342,(.st (.p I I))),(344,(.st (.p (.sl (.st (.p I I))) (.p I I))))],
 elL:=[(24,121),(41,142),(54,43),(55,68),(56,3),(136,140),(266,270)],
 oneL:=[24,41],
 mtyL:=[(122,(3,221)),(123,(3,221)),(147,(153,3)),(148,(153,3)),(249,(3,4)),(282,(4,281))],
 mthL:=[((265, "pencilworks/shade.bounds"),255),((268, "pencilworks/shade.bounds"),260)] }
def k62:Con:={ args:=[I,(.f1 I .bo)],res:=[I],pre:=zcZ,val:=zdi }
def cx62:Cx:=mkCx TS 26 [] [] [] [] [] [(2,⟨[(5,false),(6,false)],[],[],[]⟩)] [] none
def V62 (x:Int × Go.Sx.Fun Int Bool):Prop:=Z.LoopP (X:=(Prod Int Int)) ((0,x.1)) (fun s0 K0=>(((decide ((s0.1:Int)<s0.2)=true)->(Z.in64 (s0.1+s0.2)/\(((0:Int)<=1/\(1:Int)<=64)/\((x.2.pre (Go.IntKind.wrap .i64 (ydv (Go.IntKind.wrap .u64 (s0.1+s0.2)) (2^(yby (1))))))/\((((!(x.2.val (Go.IntKind.wrap .i64 (ydv (Go.IntKind.wrap .u64 (s0.1+s0.2)) (2^(yby (1)))))))=true)->(Z.in64 ((Go.IntKind.wrap .i64 (ydv (Go.IntKind.wrap .u64 (s0.1+s0.2)) (2^(yby (1)))))+1)/\(K0 (((Go.IntKind.wrap .i64 (ydv (Go.IntKind.wrap .u64 (s0.1+s0.2)) (2^(yby (1)))))+1),s0.2))))/\(((!(x.2.val (Go.IntKind.wrap .i64 (ydv (Go.IntKind.wrap .u64 (s0.1+s0.2)) (2^(yby (1)))))))=false)->(K0 (s0.1,(Go.IntKind.wrap .i64 (ydv (Go.IntKind.wrap .u64 (s0.1+s0.2)) (2^(yby (1)))))))))))))/\((decide ((s0.1:Int)<s0.2)=false)->((s0.1:Int)=(zdi x)))))
theorem e62 (x:Ds k62.args):vcFun cx62 f62 k62 x=V62 x:=by kernel_rfl
end Go.Tt
/-
 Shade: the conditions.
-/
namespace Go.Tt
open Go Go.Sx
theorem zoM:TabsOk prog TS:=⟨by kernel_rfl,maps_ok⟩
end Go.Tt
/-
 Shade: halving,mixes,what leads can be.
-/
namespace Go.Tt
open Go Go.Sx
theorem wrapU {n:Int} (h:0<=n/\n<=18446744073709551615):Go.IntKind.wrap .u64 n=n:=by
 unfold Go.IntKind.wrap
 simp [IntKind.bits,IntKind.signed]
 omega
theorem wrapI {n:Int} (h:-9223372036854775808<=n/\n<=9223372036854775807):Go.IntKind.wrap .i64 n=n:=by
 unfold Go.IntKind.wrap
 simp [IntKind.bits,IntKind.signed]
 omega
theorem half {i j:Int} (h0:0<=i) (h:i<j) (hj:j<=1152921504606846976):Go.IntKind.wrap .i64 (ydv (Go.IntKind.wrap .u64 (i+j)) (2^(yby (1))))=ydv (i+j) 2/\i<=ydv (i+j) 2/\ydv (i+j) 2<j:=by
 have e1:Go.IntKind.wrap .u64 (i+j)=i+j:=wrapU ⟨by omega,by omega⟩
 rw [e1,show (2:Int)^(yby 1)=2 from rfl,yaS _ (by decide)]
 refine ⟨?_,by omega,by omega⟩
 exact wrapI ⟨by omega,by omega⟩
theorem srch_bd {f:Int->Bool}:∀ (n:Nat) (i j:Int),i<=j->i<=srch f n i j/\srch f n i j<=j
 | 0,i,j,h=>⟨ydB _,h⟩
 | n+1,i,j,h=>by
  rw [srch]
  cases hd:decide (i<j) with
  | false=>exact ⟨ydB _,h⟩
  | true =>
   have hl:=of_decide_eq_true hd
   have e:ydv (i+j) 2=(i+j) / 2:=yaS _ (by decide)
   rw [cond_true,e]
   cases f ((i+j) / 2) with
   | true=>have:=srch_bd (f:=f) n i ((i+j) / 2) (by omega);rw [cond_true];omega
   | false=>have:=srch_bd (f:=f) n ((i+j) / 2+1) j (by omega);rw [cond_false];omega
theorem zoN {f:Int->Bool} {i j:Int} (h:j<=i):∀ n,srch f n i j=i
 | 0=>rfl
 | n+1=>by rw [srch,show decide (i<j)=false from decide_eq_false (by omega)];rfl
theorem v62 (x:Int × Fun Int Bool) (h:k62.pre x):V62 x:=by
 obtain ⟨n,F⟩:=x
 obtain ⟨⟨n0,n1⟩,hp⟩:zcZ (n,F):=h
 simp only at n0 n1 hp
 refine ⟨fun s=>(0<=s.1/\s.1<=s.2/\s.2<=n)/\∃ f:Nat,s.2 - s.1<=f/\srch F.val f s.1 s.2=zdi (n,F),fun s=>(s.2 - s.1).toNat,⟨⟨by simp,by simpa using n0,by simp⟩,n.toNat,by simp only;omega,rfl⟩,?_⟩
 rintro ⟨i,j⟩ ⟨⟨b1,b2,b3⟩,f,hf,he⟩
 simp only at b1 b2 b3 hf he ⊢
 refine ⟨fun hl=>?_,fun hl=>?_⟩
 ·have hl':=hl
  have hl:=of_decide_eq_true hl
  obtain ⟨e,g1,g2⟩:=half b1 hl (by omega)
  rw [e]
  obtain ⟨m,hm⟩:∃ m,m=ydv (i+j) 2:=⟨_,rfl⟩
  rw [<-hm] at g1 g2
  rw [<-hm]
  obtain ⟨f',rfl⟩:∃ f',f=f'+1:=⟨f - 1,by omega⟩
  rw [srch,hl',cond_true,<-hm] at he
  refine ⟨by simp only [Z.in64];omega,by decide,hp m (by omega) (by omega),fun hv=>?_,fun hv=>?_⟩
  ·rw [not_iff.1.1 hv,cond_false] at he
   refine ⟨by simp only [Z.in64];omega,⟨⟨by show 0<=m+1;omega,by show m+1<=j;omega,b3⟩,f',by show j - (m+1)<=_;omega,he⟩,?_⟩
   show (j - (m+1)).toNat<(j - i).toNat
   omega
  ·rw [not_iff.2.1 hv,cond_true] at he
   refine ⟨⟨⟨b1,by show i<=m;omega,by show m<=n;omega⟩,f',by show m - i<=_;omega,he⟩,?_⟩
   show (m - i).toNat<(j - i).toNat
   omega
 ·have hl:=of_decide_eq_false hl
  rw [<-he,zoN (by omega)]
structure Curve (c:List Tint):Prop where
 l2:2<=c.length
 l8:c.length<=8
 r0:(c.getD 0 (0,0)).1=0
 r1:(c.getD (c.length - 1) (0,0)).1=1000
 bl:∀ i,i<c.length->0<=(c.getD i (0,0)).2/\(c.getD i (0,0)).2<=200
 up:∀ i,i+1<c.length->(c.getD i (0,0)).1<(c.getD (i+1) (0,0)).1/\(c.getD i (0,0)).2<=(c.getD (i+1) (0,0)).2
theorem Curve.mono {c:List Tint} (h:Curve c):∀ (k i:Nat),i+k<c.length->(c.getD i (0,0)).1<=(c.getD (i+k) (0,0)).1
 | 0,i,_=>ydB _
 | k+1,i,hk=>by
  have h1:=h.mono k i (by omega)
  have h2:=(h.up (i+k) (by omega)).1
  have:(c.getD (i+(k+1)) (0,0)).1=(c.getD (i+k+1) (0,0)).1:=rfl
  omega
structure BlackOk (m:Mix):Prop where
 c0:0<=cutS m
 c1:cutS m+1<(m.1.length:Int)
 pre:zcZ ((m.1.length:Int) - 2,reachF m)
 w:1<=(bS m).1 - (aS m).1/\(bS m).1 - (aS m).1<=1000
 a1:0<=(aS m).1/\(aS m).1<=1000
 a2:0<=(aS m).2/\(aS m).2<=200
 d2:0<=(bS m).2 - (aS m).2/\(bS m).2 - (aS m).2<=200
 all:1<=m.2.1+m.2.2/\m.2.1+m.2.2<=2147483648
structure LeadsOk (l:Leads):Prop where
 g:1<=l.1.1/\l.1.1<=l.1.2/\l.1.2<=gram
 c:0<=l.2.1.1/\l.2.1.1<=l.2.1.2/\l.2.1.2<=gram
 tol:0<=l.2.2.1/\l.2.2.1<=200
 st:0<=l.2.2.2.2.1.1/\l.2.2.2.2.1.1<=l.2.2.2.2.1.2/\l.2.2.2.2.1.2<=10000
 we:0<=l.2.2.2.2.2.1.1/\l.2.2.2.2.2.1.1<=l.2.2.2.2.2.1.2/\l.2.2.2.2.2.1.2<=10000
 many:0<=l.2.2.2.2.2.2/\l.2.2.2.2.2.2<=topN
 s6:l.2.2.2.1.length<=6
 str:∀ s∈l.2.2.2.1,strokeB s=true
theorem zph {l:Leads} (h:leadsB l=true):LeadsOk l:=by
 simp only [leadsB,yac,zjp,inB_iff,decide_eq_true_eq] at h
 obtain ⟨⟨⟨⟨⟨h1,h2⟩,h3⟩,⟨h4,h5⟩,h6⟩,h7⟩,h8⟩:=h
 exact ⟨h1,h2,h3,h4,h5,h6,by omega,fun s hs=>List.all_eq_true.1 h8 s hs⟩
theorem mixes {x:(List Tint) × Leads} (hc:curveB x.1=true) (hl:leadsB x.2=true):MixOk (x.1,x.2.1.1,x.2.2.1.2)/\MixOk (x.1,x.2.1.2,x.2.2.1.1):=by
 have L:=zph hl
 have h1:=L.g
 have h2:=L.c
 exact ⟨⟨hc,⟨h1.1,by show x.2.1.1<=gram;omega⟩,by show 0<=x.2.2.1.2;omega,h2.2.2⟩,⟨hc,⟨by show 1<=x.2.1.2;omega,h1.2.2⟩,h2.1,by show x.2.2.1.1<=gram;omega⟩⟩
end Go.Tt
/-
 Shade: how black leads can be,and which shades they have.
-/
namespace Go.Tt
open Go Go.Sx
end Go.Tt
