/-
  Chapter 6: the reference's truths, and what it makes of them.
-/
import Derived.Test.YtkeeaadooechgaaXrP12
set_option linter.all false
set_option maxRecDepth 100000
set_option maxHeartbeats 4000000
set_option linter.unusedVariables false
namespace Go.Xr
open Go Go.Sx
theorem v38 (x:Int × Int) (h:k38.pre x):V38 x:=by
 obtain ⟨h1,h2,h3⟩:=h
 have hb:=pow_bd (k:=x.2) h3
 have hin:Z.in64 (Int.tdiv x.1 (2^x.2.toNat)):=by
  simp only [smallSet] at h1
  exact tdiv_in h1.1 (by omega)
 exact ⟨⟨h2,h3⟩,⟨by show (2:Int)^x.2.toNat≠0;omega,hin⟩,by decide,has_tdiv h1.1 h2⟩
def segC (c:Crate) (F:Truth→Bool) (a:Int) (l:List Int):List Truth:=cond (decide (sizeV a≤c.2.2.1)) (((l.filter fun b=>decide (sizeV b≤c.2.2.2)).filter fun b=>F (a,b)).map fun b=>(a,b)) []
theorem segC_cons {c:Crate} {F:Truth→Bool} {a b:Int} {l:List Int}:segC c F a (b::l)=cond ((decide (sizeV a≤c.2.2.1)&&decide (sizeV b≤c.2.2.2))&&F (a,b)) ((a,b)::segC c F a l) (segC c F a l):=by
 unfold segC
 rw [List.filter_cons]
 cases decide (sizeV a≤c.2.2.1) with
 | false=>rfl
 | true =>
  cases decide (sizeV b≤c.2.2.2) with
  | false=>rfl
  | true =>
   simp only [cond_true,if_true,List.filter_cons]
   cases F (a,b)<;>rfl
theorem truths_seg (c:Crate) (F:Truth→Bool):truthsV c F=(idx (2^c.1.length)).flatMap fun a=>segC c F a (idx (2^c.2.1.toNat)):=by
 unfold truthsV setsV
 rw [Int.toNat_natCast]
 generalize idx (2^c.1.length)=l
 induction l with
 | nil=>rfl
 | cons a l ih =>
  rw [List.filter_cons,List.flatMap_cons,←ih]
  unfold segC
  cases h:decide (sizeV a≤c.2.2.1) with
  | true=>rfl
  | false=>rfl
theorem pow_idx {n:Nat}:((2^n:Nat):Int)=2^n:=by simp
theorem v33 (x:Crate × List Look) (h:k33.pre x):V33 x:=by
 obtain ⟨hc0,hk,hl⟩:=h
 have hc:=crate_iff.1 hc0
 have hr8:=hc.r8
 have hc1:=hc.c1
 have hc8:=hc.c8
 have hat:∀ l∈x.2,atPlace l:=fun l hm=>(look_at hc (List.all_eq_true.1 hk l hm)).1
 have hR:=pow_le8 (n:=x.1.1.length) hr8
 have hC:=pow_le8 (n:=x.1.2.1.toNat) (by omega)
 have hval:ref06u_Truths x=truthsV x.1 fun t=>x.2.all (fitB t):=rfl
 generalize hF:(fun t:Truth=>x.2.all (fitB t))=F at hval
 have hseg:=truths_seg x.1 F
 rw [←hval] at hseg
 have hlen:(ref06u_Truths x).length≤65536:=by rw [hval];exact truths_len hr8 ⟨by omega,hc8⟩
 have hpR:ref06u_power (x.1.1.length:Int)=((2^x.1.1.length:Nat):Int):=by show (2:Int)^((x.1.1.length:Int)).toNat=_;rw [Int.toNat_natCast,pow_idx]
 have hpC:ref06u_power x.1.2.1=((2^x.1.2.1.toNat:Nat):Int):=by show (2:Int)^x.1.2.1.toNat=_;rw [pow_idx]
 unfold V33
 simp only [hpR,hpC]
 generalize 2^x.1.1.length=R at hR hseg
 generalize 2^x.1.2.1.toNat=C at hC hseg
 refine ⟨fun s=>(0≤s.2∧s.2≤(R:Int))∧s.1++((idx R).drop s.2.toNat).flatMap (fun a=>segC x.1 F a (idx C))=ref06u_Truths x,fun s=>((R:Int) - s.2).toNat,⟨⟨by show (0:Int)≤0;omega,by show (0:Int)≤R;omega⟩,hseg.symm⟩,?_⟩
 rintro ⟨s,a⟩ ⟨⟨a1,a2⟩,hs⟩
 simp only at a1 a2 hs
 refine ⟨⟨by omega,by omega⟩,fun hlt=>?_,fun hlt=>?_⟩
 ·have hlt:a<(R:Int):=of_decide_eq_true hlt
  rw [idx_drop_cons a1 hlt,List.flatMap_cons] at hs
  generalize hrest:((idx R).drop (a+1).toNat).flatMap (fun a=>segC x.1 F a (idx C))=rest at hs
  refine ⟨fun s=>(0≤s.2∧s.2≤(C:Int))∧s.1++(segC x.1 F a ((idx C).drop s.2.toNat)++rest)=ref06u_Truths x,fun s=>((C:Int) - s.2).toNat,⟨⟨by show (0:Int)≤0;omega,by show (0:Int)≤C;omega⟩,hs⟩,?_⟩
  rintro ⟨s',b⟩ ⟨⟨b1,b2⟩,hs'⟩
  simp only at b1 b2 hs'
  refine ⟨⟨by omega,by omega⟩,fun hlt2=>?_,fun hlt2=>?_⟩
  ·have hlt2:b<(C:Int):=of_decide_eq_true hlt2
   have sa:smallSet a:=⟨a1,by omega⟩
   have sb:smallSet b:=⟨b1,by omega⟩
   rw [idx_drop_cons b1 hlt2,segC_cons] at hs'
   have hFe:ref06u_Fits ((a,b),x.2)=F (a,b):=by rw [←hF];rfl
   refine ⟨sa,fun _=>sb,fun _=>⟨⟨sa,sb⟩,hat,hl⟩,fun hb=>⟨roomy_of (by decide) (by decide) ?_,by simp only [Z.in64];omega,⟨⟨by show 0≤b+1;omega,by show b+1≤(C:Int);omega⟩,?_⟩,by show ((C:Int) - (b+1)).toNat<((C:Int) - b).toNat;omega⟩,fun hb=>⟨by simp only [Z.in64];omega,⟨⟨by show 0≤b+1;omega,by show b+1≤(C:Int);omega⟩,?_⟩,by show ((C:Int) - (b+1)).toNat<((C:Int) - b).toNat;omega⟩⟩
   ·have:=congrArg List.length hs'
    rw [List.length_append] at this
    simp only [List.length_append,List.length_set,List.length_replicate]
    omega
   ·have hb:((decide (sizeV a≤x.1.2.2.1)&&decide (sizeV b≤x.1.2.2.2))&&F (a,b))=true:=by rw [←hFe];exact hb
    rw [hb,cond_true] at hs'
    show (s'++[(a,b)])++(segC x.1 F a ((idx C).drop (b+1).toNat)++rest)=_
    rw [←hs',List.append_assoc]
    rfl
   ·have hb:((decide (sizeV a≤x.1.2.2.1)&&decide (sizeV b≤x.1.2.2.2))&&F (a,b))=false:=by rw [←hFe];exact hb
    rw [hb,cond_false] at hs'
    exact hs'
  ·have hlt2:¬ b<(C:Int):=of_decide_eq_false hlt2
   have e:(idx C).drop b.toNat=[]:=List.drop_eq_nil_of_le (by rw [idx_len];omega)
   rw [e] at hs'
   have e2:segC x.1 F a []=[]:=by unfold segC;cases decide (sizeV a≤x.1.2.2.1)<;>rfl
   rw [e2,List.nil_append] at hs'
   exact ⟨by simp only [Z.in64];omega,⟨⟨by show 0≤a+1;omega,by show a+1≤(R:Int);omega⟩,by rw [←hrest] at hs';exact hs'⟩,by show ((R:Int) - (a+1)).toNat<((R:Int) - a).toNat;omega⟩
 ·have hlt:¬ a<(R:Int):=of_decide_eq_false hlt
  have e:(idx R).drop a.toNat=[]:=List.drop_eq_nil_of_le (by rw [idx_len];omega)
  rw [e,List.flatMap_nil,List.append_nil] at hs
  exact hs
end Go.Xr
