/-
  Box: small conditions.
-/
import Derived.Test.YtdhdklojcppfcaaTtBAuto
import Derived.Test.YtdhdklojcppfcaaTtOT
import Derived.Test.YtdhdklojcppfcaaTtSP2
set_option linter.all false
set_option maxRecDepth 100000
set_option maxHeartbeats 4000000
set_option linter.unusedVariables false
open Bool renaming and_eq_true->yac
open Int renaming le_of_lt->yaT,pow_pos->yaR
open List renaming drop_eq_nil_of_le->ydc,getD_eq_getElem?_getD->ybd,length_map->ycK,length_take->ybo
namespace Go.Tt
open Go Go.Sx
theorem zaB:TabsOk Go.Proofs.Try.prog TB:=⟨by kernel_rfl,maps_ok⟩
theorem v137 (x:Int × Int × Int) (_:k137.pre x):V137 x:=rfl
theorem v136 (x:Int) (_:k136.pre x):V136 x:=⟨trivial,rfl⟩
theorem all_len (n:Nat):(1*2^(Int.toNat (n:Int)):Int) - 1=allV n:=by
 simp only [allV,Int.toNat_natCast,Int.one_mul]
theorem v138 (x:Pile × List Int) (h:k138.pre x):V138 x:=by
 have h:x.2.length<=8:=h
 have e:=all_len x.2.length
 obtain ⟨h1,h2⟩:=shl_ok (k:=(x.2.length:Int)) (by omega) (by omega)
 simp only [V138,e]
 refine ⟨⟨h1,h2⟩,?_,trivial,fun _=>trivial,?_⟩
 ·rw [<-e]
  have:=pow_nn (x.2.length:Int)
  simp only [Z.in64] at h2 ⊢
  omega
 ·show ((!inB x.1.1 0 (allV x.2.length))||(!inB x.1.2 0 1048576))=!pileB x.2.length x.1
  simp only [pileB,Bool.not_and]
theorem v180 (x:(List Int) × Fun Int Bool) (h:k180.pre x):V180 x:=zhQ x.1 0 x.2 h.1 h.2
theorem v139 (x:(List Int) × Fun Int Bool) (h:k139.pre x):V139 x:=⟨h,any_ix _ _⟩
theorem v181 (x:(List Pile) × Fun Pile Bool) (h:k181.pre x):V181 x:=zhQ x.1 (0,0) x.2 h.1 h.2
theorem v140 (x:(List Pile) × Fun Pile Bool) (h:k140.pre x):V140 x:=⟨h,any_ix _ _⟩
theorem v141 (x:List Int) (h:k141.pre x):V141 x:=by
 have h:1<=x.length/\x.length<=big:=h
 refine ⟨fun h1=>?_,fun _=>⟨⟨by omega,by omega⟩,?_⟩⟩
 ·have:=of_decide_eq_true h1;omega
 cases x with
 | nil=>simp at h
 | cons a l =>
  refine ⟨fun s=>(1<=s.2/\s.2<=((a::l).length:Int))/\((a::l).drop s.2.toNat).foldl max s.1=maxV (a::l),fun s=>(((a::l).length:Int) - s.2).toNat,⟨⟨by simp,by simp only [List.length_cons];omega⟩,?_⟩,?_⟩
  ·show (l.foldl max a)=_;rfl
  rintro ⟨m,s⟩ ⟨⟨s1,s2⟩,s3⟩
  simp only at s1 s2 s3 ⊢
  refine ⟨fun hd=>?_,fun hd=>?_⟩
  ·have hd:=of_decide_eq_true hd
   refine ⟨⟨by omega,hd⟩,by simp only [Z.in64,big] at *;omega,⟨⟨by omega,by omega⟩,?_⟩,by omega⟩
   rw [zgW (a::l) 0 s (by omega) hd,List.foldl_cons] at s3
   exact s3
  ·have hd:=of_decide_eq_false hd
   rw [ydc (by omega)] at s3
   exact s3
theorem v72 (x:(List Int) × List Pile) (_:k72.pre x):V72 x:=by
 have hin:∀ {b:Bool},((zbr ((x.1.length:Int),1,8)&&decide (((x.2.length:Int):Int)<=8))&&b)=true->x.1.length<=8/\1<=x.1.length/\x.2.length<=8:=by
  intro b h
  have h:=yac _ _▸h
  have h:=yac _ _▸h.1
  have h1:=inB_iff.1 (show inB (x.1.length:Int) 1 8=true from h.1)
  have h2:=of_decide_eq_true h.2
  omega
 refine ⟨trivial,fun h=>?_,fun h=>?_,fun h=>?_,?_⟩
 ·have:=hin (b:=true) (by rw [h];rfl)
  exact ⟨by show x.1.length<=big;simp only [big];omega,fun _ _=>trivial⟩
 ·have:=hin h
  exact ⟨by show x.2.length<=big;simp only [big];omega,fun _ _=>this.1⟩
 ·have h:=yac _ _▸h
  have:=hin h.1
  exact ⟨this.2.1,by simp only [big];omega⟩
 ·show ((((inB (x.1.length:Int) 1 8&&decide ((x.2.length:Int)<=8))&&!(x.1.any fun a=>!needB a))&&!(x.2.any fun a=>!pileB x.1.length a))&&decide ((0:Int)<maxV x.1))=boxB x.1 x.2
  rw [any_not,any_not];rfl
theorem v85 (x:Int × Int) (h:k85.pre x):V85 x:=by
 obtain ⟨h1,h2,h3⟩:0<=x.1/\0<=x.2/\x.2<64:=h
 refine ⟨⟨h2,h3⟩,⟨?_,by decide⟩,has_div h1 h2⟩
 rw [Int.fdiv_eq_ediv_of_nonneg _ (yaT (yaR (by decide)))]
 exact Int.ediv_nonneg h1 (yaT (yaR (by decide)))
theorem v144 (x:Int × Int) (h:k144.pre x):V144 x:=⟨h,rfl⟩
theorem v78 (x:Int) (_:k78.pre x):V78 x:=rfl
theorem v84 (x:List Pile) (h:k84.pre x):V84 x:=by
 have h:x.length<=big:=h
 have hr:Z.roomy 2 (((List.replicate 0 ((0,0):Pile))++x).length:Int):=by
  simp only [Z.roomy,big] at *;simp;omega
 exact ⟨trivial,fun h0=>⟨fun _=>h0.symm,(fun h=>by cases h)⟩,(fun h=>by cases h),fun _=>⟨hr,rfl⟩⟩
theorem v142 (x:Int × Fun Int Bool) (h:k142.pre x):V142 x:=by
 obtain ⟨⟨h1,h2⟩,h3⟩:(0<=x.1/\x.1<=most40)/\x.2.pre (x.1+1):=h
 exact ⟨by simp only [Z.in64,most40] at *;omega,h3,rfl⟩
theorem v73 (x:Int × Fun Int Bool) (h:k73.pre x):V73 x:=by
 obtain ⟨⟨h1,h2⟩,h3⟩:(0<=x.1/\x.1<=most40)/\∀ i,1<=i->i<=x.1->x.2.pre i:=h
 exact ⟨⟨⟨h1,by simp only [most40] at *;omega⟩,fun i i0 i1=>⟨⟨i0,by simp only [most40] at *;omega⟩,h3 _ (by omega) (by omega)⟩⟩,rfl⟩
theorem v76 (x:(List Int) × Int) (h:k76.pre x):V76 x:=by
 obtain ⟨h8,hn,h0,h1⟩:x.1.length<=8/\(∀ n∈x.1,0<=n/\n<=48)/\0<=x.2/\x.2<=8388609:=h
 refine ⟨(by show x.1.length<=1000;omega),fun s=>(0<=s.1/\s.1<=(x.1.length:Int))/\s.2=(timesV (x.1.take s.1.toNat) x.2)++x.1.drop s.1.toNat,fun s=>((x.1.length:Int) - s.1).toNat,⟨⟨by simp,by simp⟩,rfl⟩,?_⟩
 rintro ⟨i,l⟩ ⟨⟨i0,i1⟩,e⟩
 simp only at i0 i1 e ⊢
 have hlen:l.length=x.1.length:=by
  rw [e,List.length_append,timesV,ycK,ybo,List.length_drop];omega
 refine ⟨fun hd=>?_,fun hd=>?_⟩
 ·have hd:i<(x.1.length:Int):=of_decide_eq_true hd
  have hd':i.toNat<x.1.length:=by omega
  have hg:l.getD i.toNat 0=x.1.getD i.toNat 0:=by
   rw [e,ybd,List.getElem?_append_right (by simp [timesV];omega)]
   simp only [timesV,ycK,ybo,List.getElem?_drop]
   rw [ybd]
   congr 2
   omega
  have hb:=hn _ (zbx x.1 0 i i0 hd)
  have hm:0<=x.1.getD i.toNat 0*x.2/\x.1.getD i.toNat 0*x.2<=48*8388609:=by
   constructor
   ·exact Int.mul_nonneg hb.1 h0
   ·exact Int.mul_le_mul hb.2 h1 h0 (by decide)
  rw [hg]
  refine ⟨⟨i0,by omega⟩,by simp only [Z.in64];omega,⟨i0,by omega⟩,by simp only [Z.in64];omega,⟨⟨by omega,by omega⟩,?_⟩,by omega⟩
  rw [e,zcF (fun n=>n*x.2) x.1 0 i i0 hd |> (fun h=>show timesV (x.1.take (i+1).toNat) x.2=timesV (x.1.take i.toNat) x.2++[x.1.getD i.toNat 0*x.2] from h)]
  rw [List.set_append_right _ _ (by simp [timesV];omega)]
  have h5:(timesV (x.1.take i.toNat) x.2).length=i.toNat:=by simp [timesV];omega
  rw [h5,Nat.sub_self,zgW x.1 0 i i0 hd]
  simp
 ·have hd:=of_decide_eq_false hd
  have hd:¬ i<(x.1.length:Int):=hd
  show l=timesV x.1 x.2
  rw [e,List.take_of_length_le (by omega),ydc (by omega),List.append_nil]
end Go.Tt
