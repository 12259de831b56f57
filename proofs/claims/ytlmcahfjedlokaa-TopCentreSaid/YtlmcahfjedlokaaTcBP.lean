/-
  Die: the conditions.
-/
import Derived.Test.YtlmcahfjedlokaaTcAuto
set_option linter.all false
set_option maxRecDepth 100000
set_option maxHeartbeats 4000000
namespace Go.Tc
open Go Go.Sx
theorem span_iff {s:Span} {a b:Int}:spanB s a b=true↔a≤s.1∧s.1≤s.2∧s.2≤b:=by simp [spanB]
theorem die_iff {d:Die}:dieB d=true↔(1≤d.1∧d.1≤20000)∧0≤d.2.1∧d.2.1≤d.2.2∧d.2.2≤200:=by simp only [dieB,Bool.and_eq_true,inB_iff,span_iff]
structure OkP (p:Press):Prop where
 len:1≤(p.1.length:Int)∧(p.1.length:Int)≤4
 shrink:0≤p.2.1.1∧p.2.1.1≤p.2.1.2∧p.2.1.2≤300
 change:0≤p.2.2∧p.2.2≤10000
 die:∀ d∈p.1,(1≤d.1∧d.1≤20000)∧0≤d.2.1∧d.2.1≤d.2.2∧d.2.2≤200
theorem press_iff {p:Press}:pressB p=true↔OkP p:=by
 simp only [pressB,Bool.and_eq_true,span_iff,inB_iff,List.all_eq_true,die_iff]
 exact ⟨fun ⟨h1,h2,h3,h4⟩=>⟨h1,h2,h3,h4⟩,fun h=>⟨h.1,h.2,h.3,h.4⟩⟩
theorem mount_ok {p:Press} (H:OkP p) {k:Nat} (hk:k<p.1.length):mountOk (mountV p k) :=
 ⟨(H.die _ (getD_mem p.1 (0,0,0) k hk)).1,(H.die _ (getD_mem p.1 (0,0,0) k hk)).2,H.shrink⟩
theorem thin_bd {m:Mounted} (H:mountOk m) {n:Int} (hn:usedOk n):(0≤m.1.2.1*n∧m.1.2.1*n≤4000000)∧0≤thin m n∧thin m n≤4020000000:=by
 obtain ⟨h1,h2,h3⟩:=H
 have q:=mul_bd (a:=m.1.2.1) (A:=200) ⟨by omega,by omega⟩ (b:=n) (B:=20000) hn
 have q2:=mul_bd (a:=m.1.1+m.1.2.1*n) (A:=4020000) ⟨by omega,by omega⟩ (b:=1000 - m.2.2) (B:=1000) ⟨by omega,by omega⟩
 unfold thin
 omega
theorem thick_bd {m:Mounted} (H:mountOk m) {n:Int} (hn:usedOk n):(0≤m.1.2.2*n∧m.1.2.2*n≤4000000)∧0≤thick m n∧thick m n≤4020000000:=by
 obtain ⟨h1,h2,h3⟩:=H
 have q:=mul_bd (a:=m.1.2.2) (A:=200) ⟨by omega,by omega⟩ (b:=n) (B:=20000) hn
 have q2:=mul_bd (a:=m.1.1+m.1.2.2*n) (A:=4020000) ⟨by omega,by omega⟩ (b:=1000 - m.2.1) (B:=1000) ⟨by omega,by omega⟩
 unfold thick
 omega
theorem v16 (x:Int × Int × Int) (_:k16.pre x):V16 x:=rfl
theorem v13 (x:Int × Int × Int) (_:k13.pre x):V13 x:=rfl
theorem v32 (x:Span × Int × Int) (_:k32.pre x):V32 x:=by
 show (_:Bool)=_
 simp only [die_isSpan,spanB,Bool.and_assoc]
theorem v14 (x:Span × Int × Int) (_:k14.pre x):V14 x:=by
 show (_:Bool)=_
 simp only [ref04u_span,spanB,Bool.and_assoc]
theorem v31 (x:Die) (_:k31.pre x):V31 x:=by
 refine ⟨trivial,fun _=>trivial,?_⟩
 simp only [die_isPress_1,die_within,die_isSpan,dieB,Bool.not_and]
theorem v46 (x:(List Die) × Fun Die Bool) (h:k46.pre x):V46 x:=ixF_loop x.1 (0,0,0) x.2 h.1 h.2
theorem v33 (x:(List Die) × Fun Die Bool) (h:k33.pre x):V33 x:=⟨h,any_ix _ _⟩
theorem v15 (x:Press) (_:k15.pre x):V15 x:=by
 refine ⟨trivial,fun _=>trivial,fun _=>trivial,fun h=>⟨?_,fun _ _=>trivial⟩,?_⟩
 ·have h:((inB (x.1.length:Int) 1 4&&inB x.2.2 0 10000)&&spanB x.2.1 0 300)=true:=h
  simp only [Bool.and_eq_true,inB_iff] at h
  show x.1.length≤big
  simp only [big];omega
 ·show (((inB (x.1.length:Int) 1 4&&inB x.2.2 0 10000)&&spanB x.2.1 0 300)&&!(x.1.any fun a=>!dieB a))=pressB x
  rw [any_not,pressB]
  cases inB (x.1.length:Int) 1 4<;>cases inB x.2.2 0 10000<;>cases spanB x.2.1 0 300<;>rfl
theorem v34 (x:Int × Mounted) (hp:k34.pre x):V34 x:=by
 obtain ⟨n,m⟩:=x
 obtain ⟨h1,h2⟩:mountOk m∧usedOk n:=hp
 have q:=thin_bd h1 h2
 obtain ⟨a1,a2,a3⟩:=h1
 refine ⟨?_,?_,?_,?_,rfl⟩
 ·simp only [Z.in64];omega
 ·simp only [Z.in64];omega
 ·simp only [Z.in64];omega
 ·show Z.in64 (thin m n);simp only [Z.in64];omega
theorem v35 (x:Int × Mounted) (hp:k35.pre x):V35 x:=by
 obtain ⟨n,m⟩:=x
 obtain ⟨h1,h2⟩:mountOk m∧usedOk n:=hp
 have q:=thick_bd h1 h2
 obtain ⟨a1,a2,a3⟩:=h1
 refine ⟨?_,?_,?_,?_,rfl⟩
 ·simp only [Z.in64];omega
 ·simp only [Z.in64];omega
 ·simp only [Z.in64];omega
 ·show Z.in64 (thick m n);simp only [Z.in64];omega
theorem v18 (x:Mounted) (_:k18.pre x):V18 x:=rfl
theorem v17 (x:Press × Int) (hp:k17.pre x):V17 x:=⟨hp,rfl⟩
theorem v4 (x:Press) (hp:k4.pre x):V4 x:=by
 have hb:x.1.length≤big:=hp
 simp only [big] at hb
 refine ⟨fun s=>0≤s∧s≤(x.1.length:Int)∧x.1.all dieB=(x.1.drop s.toNat).all dieB,fun s=>((x.1.length:Int) - s).toNat,⟨by omega,by omega,rfl⟩,?_⟩
 rintro s ⟨h1,h2,h3⟩
 have e:ref04u_Press x=(inB (x.1.length:Int) 1 4&&(spanB x.2.1 0 300&&(inB x.2.2 0 10000&&x.1.all dieB))):=rfl
 rw [e]
 refine ⟨fun h=>?_,fun h=>?_⟩
 ·have h:s<(x.1.length:Int):=of_decide_eq_true h
  rw [all_drop dieB x.1 (0,0,0) s h1 h] at h3
  obtain ⟨y,hy⟩:∃ y,y=x.1.getD s.toNat (0,0,0):=⟨_,rfl⟩
  rw [←hy] at h3
  have ev:((!(ref04u_in (y.1,1,20000)))||(!(ref04u_span (y.2,0,200))))=!dieB y:=by
   simp only [ref04u_in,ref04u_span,dieB,Bool.not_and]
  rw [←hy,ev]
  refine ⟨⟨h1,h⟩,trivial,fun _=>⟨h1,h⟩,fun _=>trivial,fun hv=>?_,fun hv=>⟨by simp only [Z.in64];omega,⟨by omega,by omega,?_⟩,by simp only;omega⟩⟩
  ·rw [h3,not_iff.1.1 hv,Bool.false_and,Bool.and_false,Bool.and_false,Bool.and_false]
  ·rw [h3,not_iff.2.1 hv,Bool.true_and]
 ·have h:¬ s<(x.1.length:Int):=of_decide_eq_false h
  rw [List.drop_eq_nil_of_le (by omega),List.all_nil] at h3
  rw [h3,Bool.and_true]
  refine ⟨trivial,fun _=>trivial,fun _=>trivial,?_⟩
  simp only [ref04u_in,ref04u_span,Bool.and_assoc]
theorem tdiv_bd {a:Int} (h:0≤a∧a≤5000000000):Z.in64 (Int.tdiv a 1000):=by
 rw [Int.tdiv_eq_ediv_of_nonneg h.1]
 simp only [Z.in64];omega
theorem ix_ok {p:Press} {k:Int} (h:inB k 0 ((p.1.length:Int) - 1)=true):0≤k∧k<(p.1.length:Int):=by
 rw [inB_iff] at h;omega
theorem v6 (x:Press × Int × Int) (_:k6.pre x):V6 x:=by
 obtain ⟨p,k,n⟩:=x
 have e:die_Wide (p,k,n)=wideV p k n:=rfl
 rw [V6,e]
 refine ⟨trivial,fun h=>?_,fun h=>?_⟩
 ·rw [wideV,show (!pressB p)=true from h];rfl
 have hp:pressB p=true:=not_iff.2.1 h
 have H:=press_iff.1 hp
 have hl:=H.len
 refine ⟨by simp only [Z.in64];omega,trivial,fun _=>trivial,fun h2=>?_,fun h2=>?_⟩
 ·rw [wideV,hp,show (!inB k 0 ((p.1.length:Int) - 1)||!inB n 0 8000)=true from h2];rfl
 have h2':(!inB k 0 ((p.1.length:Int) - 1)||!inB n 0 8000)=false:=h2
 have e2:wideV p k n=((Int.tdiv (thin (mountV p k.toNat) n) 1000,Int.tdiv (thick (mountV p k.toNat) n+999) 1000),0):=by rw [wideV,hp,h2'];rfl
 simp only [Bool.or_eq_false_iff,Bool.not_eq_false'] at h2'
 have hk:=ix_ok h2'.1
 have hn:=inB_iff.1 h2'.2
 have M:=mount_ok H (k:=k.toNat) (by omega)
 have hu:usedOk n:=⟨by omega,by omega⟩
 have q1:=thin_bd M hu
 have q2:=thick_bd M hu
 rw [e2]
 refine ⟨hk,trivial,⟨by omega,by omega⟩,⟨M,hu⟩,⟨by omega,tdiv_bd (a:=thin (mountV p k.toNat) n) (by omega)⟩,⟨by omega,by omega⟩,⟨M,hu⟩,?_,?_,⟨by omega,?_⟩,?_⟩
 ·show Z.in64 (thick (mountV p k.toNat) n+1000);simp only [Z.in64];omega
 ·show Z.in64 (thick (mountV p k.toNat) n+1000 - 1);simp only [Z.in64];omega
 ·exact tdiv_bd (a:=thick (mountV p k.toNat) n+1000 - 1) (by omega)
 ·show ((Int.tdiv (thin (mountV p k.toNat) n) 1000,Int.tdiv (thick (mountV p k.toNat) n+1000 - 1) 1000),(0:Int))=_
  rw [show thick (mountV p k.toNat) n+1000 - 1=thick (mountV p k.toNat) n+999 by omega]
end Go.Tc
