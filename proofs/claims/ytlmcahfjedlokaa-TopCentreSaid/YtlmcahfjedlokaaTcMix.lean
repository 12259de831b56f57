/-
  Die: what each function gives. No program in sight.
-/
import Derived.Test.YtlmcahfjedlokaaSH
import Derived.Test.YtlmcahfjedlokaaProg
set_option linter.all false
set_option maxRecDepth 100000
set_option maxHeartbeats 4000000
namespace Go.Tc
open Go Go.Sx
abbrev I:Ty:=.i .i64
abbrev big:Nat:=1000000
def inB (n a b:Int):Bool:=decide (a≤n)&&decide (n≤b)
def ixF {α:Type} (p:α→Bool):List α→Int→Int
 | [],_=>-1
 | a::l,i=>cond (p a) i (ixF p l (i+1))
theorem inB_iff {n a b:Int}:inB n a b=true↔a≤n∧n≤b:=by simp [inB]
theorem bool_ext {a b:Bool} (h:a=true↔b=true):a=b:=by cases a<;>cases b<;>simp_all
theorem not_iff {a:Bool}:((!a)=true↔a=false)∧((!a)=false↔a=true):=by cases a<;>simp
theorem drop_getD {α:Type} (l:List α) (d:α) (i:Nat) (h:i<l.length):l.drop i=l.getD i d::l.drop (i+1):=by
 rw [List.drop_eq_getElem_cons h]
 simp [List.getD,h]
theorem drop_getD' {α:Type} (l:List α) (d:α) (i:Int) (h0:0≤i) (h:i<(l.length:Int)):l.drop i.toNat=l.getD i.toNat d::l.drop (i+1).toNat:=by
 have e:(i+1).toNat=i.toNat+1:=by omega
 rw [e]
 exact drop_getD l d _ (by omega)
theorem getD_mem {α:Type} (l:List α) (d:α) (i:Nat) (h:i<l.length):l.getD i d∈l:=by
 simp [List.getD,h]
theorem getD_mem' {α:Type} (l:List α) (d:α) (i:Int) (h0:0≤i) (h:i<(l.length:Int)):l.getD i.toNat d∈l:=getD_mem l d _ (by omega)
theorem ixF_any {α:Type} (p:α→Bool):∀ (l:List α) (i:Int),0≤i→(0≤ixF p l i↔l.any p=true)
 | [],i,_=>by simp [ixF]
 | a::l,i,h=>by
  simp only [ixF,List.any_cons]
  cases ha:p a with
  | true=>simp [h]
  | false=>simpa using ixF_any p l (i+1) (by omega)
theorem any_ix {α:Type} (p:α→Bool) (l:List α):decide (0≤ixF p l 0)=l.any p:=by
 refine bool_ext ?_
 rw [decide_eq_true_eq]
 exact ixF_any p l 0 (by omega)
theorem any_not {α:Type} (p:α→Bool) (l:List α):(!l.any fun a=>!p a)=l.all p:=by
 induction l with
 | nil=>rfl
 | cons a l ih=>simp only [List.any_cons,List.all_cons,Bool.not_or,Bool.not_not,ih]
theorem ixF_loop {α:Type} (l:List α) (d:α) (F:Fun α Bool) (hl:l.length≤big) (hp:∀ a∈l,F.pre a) :
  Z.LoopP (X:=Int) 0 (fun s0 K0=>(((decide ((s0:Int)<(l.length:Int))=true)→(((0:Int)≤s0∧(s0:Int)<(l.length:Int))∧((F.pre (l.getD (Int.toNat s0) d))∧((((F.val (l.getD (Int.toNat s0) d))=true)→((s0:Int)=ixF F.val l 0))∧(((F.val (l.getD (Int.toNat s0) d))=false)→(Z.in64 (s0+1)∧(K0 (s0+1))))))))∧((decide ((s0:Int)<(l.length:Int))=false)→(((-1):Int)=ixF F.val l 0)))):=by
 refine ⟨fun s=>0≤s∧s≤(l.length:Int)∧ixF F.val l 0=ixF F.val (l.drop s.toNat) s,fun s=>((l.length:Int) - s).toNat,⟨by omega,by omega,rfl⟩,?_⟩
 rintro s ⟨h1,h2,h3⟩
 refine ⟨fun h=>?_,fun h=>?_⟩
 ·have h:=of_decide_eq_true h
  have e:=drop_getD' l d s h1 h
  refine ⟨⟨h1,h⟩,hp _ (getD_mem' l d s h1 h),fun hv=>?_,fun hv=>⟨?_,⟨?_,?_,?_⟩,?_⟩⟩
  ·rw [h3,e,ixF,hv,cond_true]
  ·simp only [Z.in64];simp only [big] at hl;omega
  ·omega
  ·omega
  ·rw [h3,e,ixF,hv,cond_false]
  ·simp only;omega
 ·have h:=of_decide_eq_false h
  have e:l.drop s.toNat=[]:=List.drop_eq_nil_of_le (by omega)
  rw [h3,e,ixF]
theorem mul_bd {a b A B:Int} (ha:0≤a∧a≤A) (hb:0≤b∧b≤B):0≤a*b∧a*b≤A*B :=
 ⟨Int.mul_nonneg ha.1 hb.1,Int.mul_le_mul ha.2 hb.2 hb.1 (by omega)⟩
theorem all_drop {α:Type} (p:α→Bool) (l:List α) (d:α) (s:Int) (h0:0≤s) (h:s<(l.length:Int)):(l.drop s.toNat).all p=(p (l.getD s.toNat d)&&(l.drop (s+1).toNat).all p):=by
 rw [drop_getD' l d s h0 h,List.all_cons]
abbrev Span:=Int × Int
abbrev Die:=Int × Int × Int
abbrev Press:=(List Die) × (Int × Int) × Int
abbrev Mounted:=(Int × Int × Int) × Int × Int
def spanB (s:Span) (a b:Int):Bool:=decide (a≤s.1)&&(decide (s.1≤s.2)&&decide (s.2≤b))
def dieB (d:Die):Bool:=inB d.1 1 20000&&spanB d.2 0 200
def pressB (p:Press):Bool:=inB (p.1.length:Int) 1 4&&(spanB p.2.1 0 300&&(inB p.2.2 0 10000&&p.1.all dieB))
def mountV (p:Press) (k:Nat):Mounted:=(p.1.getD k (0,0,0),p.2.1)
def thin (m:Mounted) (used:Int):Int:=(m.1.1+m.1.2.1*used)*(1000 - m.2.2)
def thick (m:Mounted) (used:Int):Int:=(m.1.1+m.1.2.2*used)*(1000 - m.2.1)
def mountOk (m:Mounted):Prop:=(1≤m.1.1∧m.1.1≤20000)∧(0≤m.1.2.1∧m.1.2.1≤m.1.2.2∧m.1.2.2≤200)∧(0≤m.2.1∧m.2.1≤m.2.2∧m.2.2≤300)
def usedOk (n:Int):Prop:=0≤n∧n≤20000
def wideV (p:Press) (die used:Int):Span × Int :=
 cond (!pressB p) ((0,0),1) (cond (!inB die 0 ((p.1.length:Int) - 1)||!inB used 0 8000) ((0,0),2)
  ((Int.tdiv (thin (mountV p die.toNat) used) 1000,Int.tdiv (thick (mountV p die.toNat) used+999) 1000),0))
def die_within (x:Int × Int × Int):Bool:=inB x.1 x.2.1 x.2.2
def die_within_p (_:Int × Int × Int):Prop:=True
def ref04u_in (x:Int × Int × Int):Bool:=inB x.1 x.2.1 x.2.2
def ref04u_in_p (_:Int × Int × Int):Prop:=True
def die_isSpan (x:Span × Int × Int):Bool:=spanB x.1 x.2.1 x.2.2
def die_isSpan_p (_:Span × Int × Int):Prop:=True
def ref04u_span (x:Span × Int × Int):Bool:=spanB x.1 x.2.1 x.2.2
def ref04u_span_p (_:Span × Int × Int):Prop:=True
def die_isPress_1 (x:Die):Bool:=!dieB x
def die_isPress_1u_p (_:Die):Prop:=True
def slices_IndexFunc_Lapi_Die_api_Die (x:(List Die) × Fun Die Bool):Int:=ixF x.2.val x.1 0
def slices_IndexFunc_Lapi_Die_api_Die_p (x:(List Die) × Fun Die Bool):Prop:=x.1.length≤big∧∀ a∈x.1,x.2.pre a
def slices_ContainsFunc_Lapi_Die_api_Die (x:(List Die) × Fun Die Bool):Bool:=x.1.any x.2.val
def slices_ContainsFunc_Lapi_Die_api_Die_p (x:(List Die) × Fun Die Bool):Prop:=x.1.length≤big∧∀ a∈x.1,x.2.pre a
def die_isPress (x:Press):Bool:=pressB x
def die_isPress_p (_:Press):Prop:=True
def ref04u_Press (x:Press):Bool:=pressB x
def ref04u_Press_p (x:Press):Prop:=x.1.length≤big
def die_mounted_ends_1 (x:Int × Mounted):Int:=thin x.2 x.1
def die_mounted_ends_1u_p (x:Int × Mounted):Prop:=mountOk x.2∧usedOk x.1
def die_mounted_ends_2 (x:Int × Mounted):Int:=thick x.2 x.1
def die_mounted_ends_2u_p (x:Int × Mounted):Prop:=mountOk x.2∧usedOk x.1
def die_mounted_ends (m:Mounted):List (Fun Int Int):=[⟨fun n=>die_mounted_ends_1u_p (n,m),fun n=>die_mounted_ends_1 (n,m)⟩,⟨fun n=>die_mounted_ends_2u_p (n,m),fun n=>die_mounted_ends_2 (n,m)⟩]
def die_mounted_ends_p (_:Mounted):Prop:=True
def die_mount (x:Press × Int):Mounted:=mountV x.1 x.2.toNat
def die_mount_p (x:Press × Int):Prop:=0≤x.2∧x.2<(x.1.1.length:Int)
def die_Wide (x:Press × Int × Int):Span × Int:=wideV x.1 x.2.1 x.2.2
def die_Wide_p (_:Press × Int × Int):Prop:=True
end Go.Tc
/-
 The program draws its orders.
-/
namespace Go.Tc
open Go Go.Sx
theorem mixed:Go.Proofs.Try.prog.follows .mixedOrders=true:=by kernel_rfl
end Go.Tc
