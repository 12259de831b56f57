/-
  Chapter 6, theory: what can be reached from a place on. No program in sight.
-/
import Derived.Test.YtkeeaadooechgaaXrO3
set_option linter.all false
set_option maxRecDepth 100000
set_option maxHeartbeats 4000000
set_option linter.unusedVariables false
namespace Go.Xr
open Go Go.Sx
def posn (c:Crate) (s:Spot):Int:=s.1*c.2.1+s.2
def Rise (c:Crate):Int→List Spot→Prop
 | _,[]=>True
 | a,s::L=>(inside c s∧a<posn c s)∧Rise c (posn c s) L
theorem rise_weak {c:Crate} {a b:Int} (h:a≤b):∀ {L:List Spot},Rise c b L→Rise c a L
 | [],_=>trivial
 | s::L,⟨⟨h1,h2⟩,h3⟩=>⟨⟨h1,by omega⟩,h3⟩
theorem rise_mem {c:Crate}:∀ {L:List Spot} {a:Int},Rise c a L→∀ s∈L,inside c s∧a<posn c s
 | [],_,_,s,hs=>by cases hs
 | t::L,a,⟨⟨h1,h2⟩,h3⟩,s,hs=>by
  rcases List.mem_cons.1 hs with rfl | hs
  ·exact ⟨h1,h2⟩
  ·have:=rise_mem h3 s hs
   exact ⟨this.1,by omega⟩
structure AfterIn (p:Plan) (after:Spot):Prop where
 lo:-1≤after.1
 hi:after.1<(p.1.1.length:Int)
 clo:-1≤after.2
 chi:after.2<p.1.2.1
 rows:∀ k:Nat,hasB p.2.2.1 (k:Nat)=true→(k:Int)≤after.1
structure AfterOk (p:Plan) (after:Spot):Prop where
 base:AfterIn p after
 at':after.1=-1∨hasB p.2.2.1 after.1=true∧0≤after.2
theorem after_row {c:Crate} {after s:Spot} (hc1:1≤c.2.1) (h1:-1≤after.2) (hs:inside c s) (h:posn c after<posn c s):after.1≤s.1:=by
 refine Int.not_lt.1 fun hlt=>?_
 have hm:=Int.mul_le_mul_of_nonneg_right (show s.1+1≤after.1 by omega) (show 0≤c.2.1 by omega)
 have h2:=hs.2.2
 rw [Int.add_mul,Int.one_mul] at hm
 simp only [posn] at h
 omega
theorem with_after {p:Plan} {after s:Spot} (hp:PlanIn p) (ha:AfterIn p after) (hs:inside p.1 s) (h:posn p.1 after<posn p.1 s):AfterOk (withV p s) s:=by
 have hc:=crate_iff.1 hp.ok.crate
 have hr:=after_row hc.c1 ha.clo hs h
 have hb:∀ k:Nat,hasB (withV p s).2.2.1 (k:Nat)=(hasB p.2.2.1 (k:Nat)||decide ((k:Int)=s.1)):=fun k=>by
  show hasB (orI p.2.2.1 (2^s.1.toNat)) (k:Nat)=_
  rw [has_or,has_pow hs.1.1]
 refine ⟨⟨by have:=hs.1.1;omega,hs.1.2,by have:=hs.2.1;omega,hs.2.2,fun k hk=>?_⟩,.inr ⟨?_,hs.2.1⟩⟩
 ·rw [hb,Bool.or_eq_true] at hk
  rcases hk with hk | hk
  ·have:=ha.rows k hk;omega
  ·have:=of_decide_eq_true hk;omega
 ·have:=hb s.1.toNat
  rw [show ((s.1.toNat:Nat):Int)=s.1 by have:=hs.1.1;omega] at this
  rw [this];simp
theorem cntF_add (f g:Nat→Bool):∀ n,cntF (fun i=>f i||g i) n≤cntF f n+cntF g n
 | 0=>Nat.le_refl _
 | n+1=>by
  rw [cntF_succ,cntF_succ,cntF_succ]
  have:=cntF_add f g n
  cases f n<;>cases g n<;>simp<;>omega
theorem cntF_one {a:Int}:∀ {n:Nat},cntF (fun i=>decide ((i:Int)=a)) n=cond (decide (0≤a)&&decide (a<(n:Int))) 1 0
 | 0=>by
  rw [show (decide (0≤a)&&decide (a<((0:Nat):Int)))=false by rw [Bool.and_eq_false_iff,decide_eq_false_iff_not,decide_eq_false_iff_not];omega];rfl
 | n+1=>by
  rw [cntF_succ,cntF_one (n:=n)]
  by_cases h0:0≤a
  ·by_cases h1:a<(n:Int)
   ·rw [decide_eq_true h0,decide_eq_true h1,decide_eq_true (show a<((n+1:Nat):Int) by omega),decide_eq_false (by omega)];rfl
   ·by_cases h2:(n:Int)=a
    ·rw [decide_eq_true h0,decide_eq_false h1,decide_eq_true (show a<((n+1:Nat):Int) by omega),decide_eq_true h2];rfl
    ·rw [decide_eq_true h0,decide_eq_false h1,decide_eq_false (show ¬ a<((n+1:Nat):Int) by omega),decide_eq_false h2];rfl
  ·rw [decide_eq_false h0,decide_eq_false (show ¬ (n:Int)=a by omega)];rfl
theorem cntF_any {α:Type} (g:α→Int) (n:Nat):∀ L:List α,cntF (fun i=>L.any fun s=>decide (g s=(i:Int))) n≤L.length
 | []=>by
  rw [show cntF (fun i=>([]:List α).any fun s=>decide (g s=(i:Int))) n=0 from List.countP_eq_zero.2 fun i _=>by simp];exact Nat.zero_le _
 | s::L=>by
  have h1:=cntF_any g n L
  have h2:=cntF_add (fun i=>decide ((i:Int)=g s)) (fun i=>L.any fun s=>decide (g s=(i:Int))) n
  have h3:cntF (fun i=>decide ((i:Int)=g s)) n≤1:=by
   rw [cntF_one];cases decide (0≤g s)&&decide (g s<(n:Int))<;>decide
  have e:cntF (fun i=>(s::L).any fun s=>decide (g s=(i:Int))) n=cntF (fun i=>decide ((i:Int)=g s)||L.any fun s=>decide (g s=(i:Int))) n:=cntF_congr fun i _=>by
   rw [List.any_cons]
   congr 1
   simp [eq_comm]
  rw [e,List.length_cons]
  omega
theorem cntF_mem {n:Nat}:∀ {M:List Int},M.Nodup→(∀ x∈M,0≤x∧x<(n:Int))→cntF (fun i=>decide ((i:Int)∈M)) n=M.length
 | [],_,_=>List.countP_eq_zero.2 fun i _=>by simp
 | a::M,hnd,h=>by
  have hnd':=List.nodup_cons.1 hnd
  have h1:=cntF_mem hnd'.2 fun x hx=>h x (List.mem_cons_of_mem _ hx)
  have ha:=h a List.mem_cons_self
  have e:cntF (fun i=>decide ((i:Int)∈a::M)) n=cntF (fun i=>decide ((i:Int)=a)||decide ((i:Int)∈M)) n:=cntF_congr fun i _=>by simp [List.mem_cons]
  rw [e,cntF_or (fun i hi=>by
   have hi:=of_decide_eq_true hi
   rw [hi];exact decide_eq_false hnd'.1),h1,cntF_one,decide_eq_true ha.1,decide_eq_true ha.2,List.length_cons]
  simp only [Bool.and_self,cond_true]
  omega
def topsV (p:Plan) (after:Spot) (n:Int):List Int:=(sortV (byW (lieOf p)) (laterV p after)).take n.toNat
theorem fold_has {l:List Int} (hl:∀ r∈l,0≤r):∀ (s:Int) (k:Nat),hasB (l.foldl (fun s r=>orI s (2^r.toNat)) s) (k:Nat)=(hasB s (k:Nat)||decide ((k:Int)∈l)):=by
 induction l with
 | nil=>intro s k;simp
 | cons r l ih =>
  intro s k
  rw [List.foldl_cons,ih (fun r hr=>hl r (List.mem_cons_of_mem _ hr)),has_or,has_pow (hl r List.mem_cons_self),Bool.or_assoc]
  congr 1
  by_cases h:(k:Int)=r
  ·rw [decide_eq_true h,Bool.true_or,decide_eq_true (by rw [h];exact List.mem_cons_self)]
  ·rw [decide_eq_false h,Bool.false_or]
   by_cases h2:(k:Int)∈l
   ·rw [decide_eq_true h2,decide_eq_true (List.mem_cons_of_mem _ h2)]
   ·rw [decide_eq_false h2,decide_eq_false (fun h3=>(List.mem_cons.1 h3).elim h h2)]
theorem later_mem {p:Plan} {after:Spot} {x:Int}:x∈laterV p after↔after.1<x∧x<(p.1.1.length:Int):=by
 unfold laterV
 rw [fromTo_mem];omega
theorem later_len (p:Plan) (after:Spot):(laterV p after).length=((p.1.1.length:Int) - (after.1+1)).toNat:=fromTo_len _ _
theorem tops_mem {p:Plan} {after:Spot} {n x:Int} (h:x∈topsV p after n):x∈laterV p after:=sort_mem.1 (List.mem_of_mem_take h)
theorem fromTo_nodup (a b:Int):(fromTo a b).Nodup:=by
 unfold fromTo
 rw [List.nodup_iff_pairwise_ne,List.pairwise_map]
 exact List.Pairwise.imp (fun {i j} (h:i<j)=>by omega) List.pairwise_lt_range
theorem tops_nodup (p:Plan) (after:Spot) (n:Int):(topsV p after n).Nodup:=(sort_perm.nodup_iff.2 (fromTo_nodup _ _)).sublist (List.take_sublist _ _)
theorem tops_len (p:Plan) (after:Spot) (n:Int):(topsV p after n).length=min n.toNat (laterV p after).length:=by
 unfold topsV
 rw [List.length_take,sort_perm.length_eq]
theorem rows_has {p:Plan} {after:Spot} {n:Int} (ha:AfterIn p after) (k:Nat):hasB (rowsV p after n) (k:Nat)=(hasB p.2.2.1 (k:Nat)||decide ((k:Int)∈topsV p after n)) :=
 fold_has (l:=topsV p after n) (fun r hr=>by have:=(later_mem.1 (tops_mem hr)).1;have:=ha.lo;omega) p.2.2.1 k
def isFresh (p:Plan) (after:Spot) (k:Nat):Bool:=!hasB p.2.2.2 (k:Nat)&&(decide (0<(laterV p after).length)||decide (after.2<(k:Int)))
theorem fresh_cnt (p:Plan) (after:Spot):freshV p after=(cntF (isFresh p after) p.1.2.1.toNat:Nat):=by
 unfold freshV cntF idx
 rw [List.countP_map];rfl
theorem heavy_mono {c:Crate} (hc:CrateOk c) {r1 r2:Int} (h:∀ k:Nat,k<c.1.length→hasB r2 (k:Nat)=true→hasB r1 (k:Nat)=true):(heavyV c r1).sum≤(heavyV c r2).sum:=by
 obtain ⟨f,f1,f2,f3⟩:=heavy_is hc r1
 rw [←f3]
 exact heavy_bound hc (fun i hi hf=>by
  refine Bool.eq_false_iff.2 fun hb=>?_
  have:=h i hi hb
  rw [f1 i hf] at this;cases this) f2
theorem can_of {p:Plan} {after:Spot} {n:Int} {L:List Spot} (hp:PlanIn p) (ha:AfterOk p after) (h0:0≤n) (hL:Rise p.1 (posn p.1 after) L) (hl:(L.length:Int)≤n) (hg:missV (withL p L)≤p.2.1):canV p after n=true:=by
 have hc:=crate_iff.1 hp.ok.crate
 have hab:=ha.base
 have hins:∀ s∈L,inside p.1 s:=fun s hs=>(rise_mem hL s hs).1
 have hrow:∀ s∈L,after.1≤s.1:=fun s hs=>after_row hc.c1 hab.clo (hins s hs) (rise_mem hL s hs).2
 have hcr:=(withL_crate L p).1
 have hR:=withL_rows (S:=L) (p:=p) hins
 have hK:=withL_cols (S:=L) (p:=p) hins
 have hin:=withL_in hp hins
 have hfin:worstV p.1 (rowsV p after n) (sizeV p.2.2.2+min (freshV p after) n)≤missV (withL p L):=by
  unfold missV
  rw [hcr]
  refine worst_mono hc ?_ ?_ (size_bd _).1
  ·refine heavy_best hc (rows:=p.2.2.1) (top:=fun i=>decide ((i:Int)∈topsV p after n)) (R:=fun i=>decide ((i:Int)∈laterV p after)&&L.any fun s=>decide (s.1=(i:Int))) (later:=fun i=>decide ((i:Int)∈laterV p after)) (n:=0)
    (fun i _=>rows_has hab i) (fun i hi hb=>?_) (fun i hi=>?_) (fun i hi=>?_) (fun i hi=>?_) (fun i j hi hj hnj=>?_) ?_
   ·rw [hR,Bool.or_eq_true] at hb
    rcases hb with hb | hb
    ·exact .inl hb
    ·obtain ⟨s,hs,he⟩:=List.any_eq_true.1 hb
     have he:=of_decide_eq_true he
     have h1:=hrow s hs
     by_cases heq:s.1=after.1
     ·left
      rcases ha.at' with h2 | h2
      ·omega
      ·rw [←he,heq];exact h2.1
     ·right
      rw [decide_eq_true (later_mem.2 ⟨by omega,by omega⟩),Bool.true_and];exact hb
   ·have hi:=later_mem.1 (of_decide_eq_true hi)
    refine Bool.eq_false_iff.2 fun hb=>?_
    have:=hab.rows i hb
    omega
   ·exact decide_eq_true (tops_mem (of_decide_eq_true hi))
   ·rw [Bool.and_eq_true] at hi;exact hi.1
   ·have hi:=of_decide_eq_true hi
    have hj:=of_decide_eq_true hj
    have hnj:=of_decide_eq_false hnj
    have hj2:(j:Int)∈sortV (byW (lieOf p)) (laterV p after):=sort_mem.2 hj
    rw [←List.take_append_drop n.toNat (sortV (byW (lieOf p)) (laterV p after)),List.mem_append] at hj2
    rcases hj2 with hj2 | hj2
    ·exact absurd hj2 hnj
    ·exact sortW_top (lieOf p) _ _ hi hj2
   ·by_cases hn:n.toNat≤(laterV p after).length
    ·left
     rw [cntF_mem (tops_nodup p after n) (fun x hx=>by have:=later_mem.1 (tops_mem hx);have:=hab.lo;omega),tops_len]
     have h1:cntF (fun i=>decide ((i:Int)∈laterV p after)&&L.any fun s=>decide (s.1=(i:Int))) p.1.1.length≤cntF (fun i=>L.any fun s=>decide (s.1=(i:Int))) p.1.1.length:=cntF_le fun i _ hi=>by
      rw [Bool.and_eq_true] at hi;exact hi.2
     have h2:=cntF_any (fun s:Spot=>s.1) p.1.1.length L
     omega
    ·right
     intro i _ hi
     have hi:=of_decide_eq_true hi
     refine decide_eq_true ?_
     unfold topsV
     rw [List.take_of_length_le (by rw [sort_perm.length_eq];omega)]
     exact sort_mem.2 hi
  ·have hc8:=hc.c8
   have hc1:=hc.c1
   have hk1:=hin.k
   rw [hcr] at hk1
   rw [size_range (n:=p.1.2.1.toNat) (by omega) hin.ok.cols.1 hk1,size_range (n:=p.1.2.1.toNat) (by omega) hp.ok.cols.1 hp.k,fresh_cnt]
   show ((cntF (fun k=>hasB (withL p L).2.2.2 (k:Nat)) p.1.2.1.toNat:Nat):Int)≤((cntF (fun k=>hasB p.2.2.2 (k:Nat)) p.1.2.1.toNat:Nat):Int)+_
   have e:cntF (fun k=>hasB (withL p L).2.2.2 (k:Nat)) p.1.2.1.toNat=cntF (fun k=>hasB p.2.2.2 (k:Nat)||(!hasB p.2.2.2 (k:Nat)&&L.any fun s=>decide (s.2=(k:Int)))) p.1.2.1.toNat:=cntF_congr fun k _=>by
    rw [hK];cases hasB p.2.2.2 (k:Nat)<;>rfl
   rw [e,cntF_or (fun k hk=>by rw [hk];rfl)]
   have h1:cntF (fun k=>!hasB p.2.2.2 (k:Nat)&&L.any fun s=>decide (s.2=(k:Int))) p.1.2.1.toNat≤cntF (fun k=>L.any fun s=>decide (s.2=(k:Int))) p.1.2.1.toNat:=cntF_le fun i _ hi=>by
    rw [Bool.and_eq_true] at hi;exact hi.2
   have h2:=cntF_any (fun s:Spot=>s.2) p.1.2.1.toNat L
   have h3:cntF (fun k=>!hasB p.2.2.2 (k:Nat)&&L.any fun s=>decide (s.2=(k:Int))) p.1.2.1.toNat≤cntF (isFresh p after) p.1.2.1.toNat:=cntF_le fun k hk hi=>by
    rw [Bool.and_eq_true] at hi
    unfold isFresh
    rw [hi.1,Bool.true_and]
    by_cases hlat:0<(laterV p after).length
    ·rw [decide_eq_true hlat];rfl
    ·rw [decide_eq_false hlat,Bool.false_or]
     obtain ⟨s,hs,he⟩:=List.any_eq_true.1 hi.2
     have he:=of_decide_eq_true he
     have h4:=hrow s hs
     have h5:=(hins s hs).1.2
     rw [later_len] at hlat
     have h6:s.1=after.1:=by omega
     have h7:=(rise_mem hL s hs).2
     simp only [posn,h6] at h7
     exact decide_eq_true (by omega)
   omega
 exact decide_eq_true (by omega)
def pairUp:List Int→List Int→List Spot
 | [],_=>[]
 | [r],[]=>[(r,0)]
 | [r],c::cs=>(c::cs).map fun k=>(r,k)
 | r::r'::T,[]=>(r,0)::pairUp (r'::T) []
 | r::r'::T,c::cs=>(r,c)::pairUp (r'::T) cs
theorem pair_len:∀ (T cs:List Int),(pairUp T cs).length≤max T.length cs.length
 | [],_=>by simp [pairUp]
 | [r],[]=>by simp [pairUp]
 | [r],c::cs=>by simp [pairUp]
 | r::r'::T,[]=>by
  have:=pair_len (r'::T) []
  simp only [pairUp,List.length_cons,List.length_nil] at this ⊢;omega
 | r::r'::T,c::cs=>by
  have:=pair_len (r'::T) cs
  simp only [pairUp,List.length_cons] at this ⊢;omega
theorem pair_rows:∀ (T cs:List Int),∀ r∈T,∃ s∈pairUp T cs,s.1=r
 | [],_,r,h=>by cases h
 | [r0],[],r,h=>by
  rw [List.mem_singleton] at h
  exact ⟨(r0,0),by simp [pairUp],h.symm⟩
 | [r0],c::cs,r,h=>by
  rw [List.mem_singleton] at h
  exact ⟨(r0,c),by simp [pairUp],h.symm⟩
 | r0::r'::T,[],r,h=>by
  rcases List.mem_cons.1 h with rfl | h
  ·exact ⟨(r,0),by simp [pairUp],rfl⟩
  ·obtain ⟨s,hs,e⟩:=pair_rows (r'::T) [] r h
   exact ⟨s,by rw [pairUp];exact List.mem_cons_of_mem _ hs,e⟩
 | r0::r'::T,c::cs,r,h=>by
  rcases List.mem_cons.1 h with rfl | h
  ·exact ⟨(r,c),by simp [pairUp],rfl⟩
  ·obtain ⟨s,hs,e⟩:=pair_rows (r'::T) cs r h
   exact ⟨s,by rw [pairUp];exact List.mem_cons_of_mem _ hs,e⟩
theorem pair_cols:∀ (T cs:List Int),T≠[]→∀ k∈cs,∃ s∈pairUp T cs,s.2=k
 | [],_,h,_,_=>absurd rfl h
 | [r0],[],_,k,h=>by cases h
 | [r0],c::cs,_,k,h=>⟨(r0,k),by rw [pairUp];exact List.mem_map.2 ⟨k,h,rfl⟩,rfl⟩
 | r0::r'::T,[],_,k,h=>by cases h
 | r0::r'::T,c::cs,_,k,h=>by
  rcases List.mem_cons.1 h with rfl | h
  ·exact ⟨(r0,k),by simp [pairUp],rfl⟩
  ·obtain ⟨s,hs,e⟩:=pair_cols (r'::T) cs (by simp) k h
   exact ⟨s,by rw [pairUp];exact List.mem_cons_of_mem _ hs,e⟩
theorem row_rise {c:Crate} {r:Int} (hr:0≤r∧r<(c.1.length:Int)):∀ {cs:List Int} {a:Int},cs.Pairwise (fun x y=>x<y)→(∀ k∈cs,(0≤k∧k<c.2.1)∧a<r*c.2.1+k)→Rise c a (cs.map fun k=>(r,k))
 | [],_,_,_=>trivial
 | k::cs,a,hp,h=>by
  have hp':=List.pairwise_cons.1 hp
  have hk:=h k List.mem_cons_self
  refine ⟨⟨⟨hr,hk.1⟩,hk.2⟩,row_rise hr hp'.2 fun x hx=>⟨(h x (List.mem_cons_of_mem _ hx)).1,?_⟩⟩
  have:=hp'.1 x hx
  show r*c.2.1+k<r*c.2.1+x
  omega
theorem next_row {c:Crate} (hc1:1≤c.2.1) {r r' k:Int} (h:r<r') (hk:k<c.2.1):r*c.2.1+k<r'*c.2.1:=by
 have hm:=Int.mul_le_mul_of_nonneg_right (show r+1≤r' by omega) (show 0≤c.2.1 by omega)
 rw [Int.add_mul,Int.one_mul] at hm
 omega
theorem pair_rise {c:Crate} (hc1:1≤c.2.1):∀ (T cs:List Int) (a:Int),T.Pairwise (fun x y=>x<y)→(∀ r∈T,(0≤r∧r<(c.1.length:Int))∧a<r*c.2.1)→cs.Pairwise (fun x y=>x<y)→(∀ k∈cs,0≤k∧k<c.2.1)→Rise c a (pairUp T cs)
 | [],_,_,_,_,_,_=>trivial
 | [r],[],a,_,hr,_,_=>by
  have h1:=hr r List.mem_cons_self
  exact ⟨⟨⟨h1.1,by show (0:Int)≤0;omega,by show (0:Int)<_;omega⟩,by show a<r*c.2.1+0;omega⟩,trivial⟩
 | [r],k::cs,a,_,hr,hcp,hcs=>by
  have h1:=hr r List.mem_cons_self
  rw [pairUp]
  exact row_rise h1.1 hcp fun x hx=>⟨hcs x hx,by have:=hcs x hx;omega⟩
 | r::r'::T,[],a,hp,hr,hcp,hcs=>by
  have h1:=hr r List.mem_cons_self
  have hp':=List.pairwise_cons.1 hp
  rw [pairUp]
  refine ⟨⟨⟨h1.1,by show (0:Int)≤0;omega,by show (0:Int)<_;omega⟩,by show a<r*c.2.1+0;omega⟩,pair_rise hc1 (r'::T) [] _ hp'.2 (fun x hx=>⟨(hr x (List.mem_cons_of_mem _ hx)).1,?_⟩) hcp hcs⟩
  exact next_row hc1 (hp'.1 x hx) (by show (0:Int)<_;omega)
 | r::r'::T,k::cs,a,hp,hr,hcp,hcs=>by
  have h1:=hr r List.mem_cons_self
  have hk:=hcs k List.mem_cons_self
  have hp':=List.pairwise_cons.1 hp
  rw [pairUp]
  refine ⟨⟨⟨h1.1,hk⟩,by show a<r*c.2.1+k;omega⟩,pair_rise hc1 (r'::T) cs _ hp'.2 (fun x hx=>⟨(hr x (List.mem_cons_of_mem _ hx)).1,?_⟩) (List.pairwise_cons.1 hcp).2 fun x hx=>hcs x (List.mem_cons_of_mem _ hx)⟩
  exact next_row hc1 (hp'.1 x hx) hk.2
theorem fromTo_rising (a b:Int):(fromTo a b).Pairwise fun x y=>x<y:=by
 unfold fromTo
 rw [List.pairwise_map]
 exact List.Pairwise.imp (fun {i j} (h:i<j)=>by omega) List.pairwise_lt_range
theorem of_can {p:Plan} {after:Spot} {n:Int} (hp:PlanIn p) (ha:AfterOk p after) (h0:0≤n) (h:canV p after n=true):∃ L,Rise p.1 (posn p.1 after) L∧(L.length:Int)≤n∧missV (withL p L)≤p.2.1:=by
 have hc:=crate_iff.1 hp.ok.crate
 have hc1:=hc.c1
 have hc8:=hc.c8
 have hab:=ha.base
 have h:worstV p.1 (rowsV p after n) (sizeV p.2.2.2+min (freshV p after) n)≤p.2.1:=of_decide_eq_true h
 let F:List Int:=(fromTo 0 p.1.2.1).filter fun k=>isFresh p after k.toNat
 have hFm:∀ k∈F,(0≤k∧k<p.1.2.1)∧isFresh p after k.toNat=true:=fun k hk=>by
  have:=List.mem_filter.1 hk
  exact ⟨fromTo_mem.1 this.1,this.2⟩
 have hFp:F.Pairwise fun x y=>x<y:=(fromTo_rising 0 p.1.2.1).sublist List.filter_sublist
 have hFl:(F.length:Int)=freshV p after:=by
  rw [fresh_cnt]
  show (((fromTo 0 p.1.2.1).filter fun k=>isFresh p after k.toNat).length:Int)=_
  rw [←List.countP_eq_length_filter]
  unfold fromTo cntF
  rw [List.countP_map,Int.sub_zero]
  congr 2
  funext k
  show isFresh p after (0+(k:Int)).toNat=_
  rw [Int.zero_add,Int.toNat_natCast]
 let cs:List Int:=F.take n.toNat
 have hcm:∀ k∈cs,(0≤k∧k<p.1.2.1)∧isFresh p after k.toNat=true:=fun k hk=>hFm k (List.mem_of_mem_take hk)
 have hcp:cs.Pairwise fun x y=>x<y:=hFp.sublist (List.take_sublist _ _)
 have hcl:(cs.length:Int)=min (freshV p after) n:=by
  show ((F.take n.toNat).length:Int)=_
  rw [List.length_take];omega
 have key:∀ L,Rise p.1 (posn p.1 after) L→(L.length:Int)≤n→(∀ r∈topsV p after n,∃ s∈L,s.1=r)→(∀ k∈cs,∃ s∈L,s.2=k)→∃ L,Rise p.1 (posn p.1 after) L∧(L.length:Int)≤n∧missV (withL p L)≤p.2.1:=by
  intro L hL hl hr hk
  refine ⟨L,hL,hl,?_⟩
  have hins:∀ s∈L,inside p.1 s:=fun s hs=>(rise_mem hL s hs).1
  have hcr:=(withL_crate L p).1
  have hR:=withL_rows (S:=L) (p:=p) hins
  have hK:=withL_cols (S:=L) (p:=p) hins
  have hin:=withL_in hp hins
  refine Int.le_trans ?_ h
  unfold missV
  rw [hcr]
  have z1:=(size_bd p.2.2.2).1
  have z2:0≤freshV p after:=by rw [fresh_cnt];omega
  refine worst_mono hc (heavy_mono hc fun k hk hb=>?_) ?_ (by omega)
  ·rw [rows_has hab,Bool.or_eq_true] at hb
   rw [hR,Bool.or_eq_true]
   rcases hb with hb | hb
   ·exact .inl hb
   ·obtain ⟨s,hs,e⟩:=hr _ (of_decide_eq_true hb)
    exact .inr (List.any_eq_true.2 ⟨s,hs,decide_eq_true e⟩)
  ·have hk1:=hin.k
   rw [hcr] at hk1
   rw [size_range (n:=p.1.2.1.toNat) (by omega) hin.ok.cols.1 hk1,size_range (n:=p.1.2.1.toNat) (by omega) hp.ok.cols.1 hp.k,←hcl]
   show ((cntF (fun k=>hasB p.2.2.2 (k:Nat)) p.1.2.1.toNat:Nat):Int)+_≤((cntF (fun k=>hasB (withL p L).2.2.2 (k:Nat)) p.1.2.1.toNat:Nat):Int)
   have h1:cntF (fun k=>hasB p.2.2.2 (k:Nat)||decide ((k:Int)∈cs)) p.1.2.1.toNat≤cntF (fun k=>hasB (withL p L).2.2.2 (k:Nat)) p.1.2.1.toNat:=cntF_le fun k hk2 hb=>by
    rw [hK,Bool.or_eq_true]
    rw [Bool.or_eq_true] at hb
    rcases hb with hb | hb
    ·exact .inl hb
    ·obtain ⟨s,hs,e⟩:=hk _ (of_decide_eq_true hb)
     exact .inr (List.any_eq_true.2 ⟨s,hs,decide_eq_true e⟩)
   rw [cntF_or (fun k hk=>decide_eq_false fun hm=>by
    have:=(hcm _ hm).2
    unfold isFresh at this
    rw [Int.toNat_natCast,hk] at this
    cases this),cntF_mem (hcp.imp fun {x y} (h:x<y)=>by show x≠y;omega) (fun x hx=>by have:=(hcm x hx).1;omega)] at h1
   omega
 by_cases hn:n=0
 ·subst hn
  refine key [] trivial (by simp) (fun r hr=>?_) (fun k hk=>?_)
  ·unfold topsV at hr;simp at hr
  ·have:k∈F.take (0:Int).toNat:=hk
   simp at this
 by_cases hlat:0<(laterV p after).length
 ·-- rows are left
  let T:List Int:=(laterV p after).filter fun r=>decide (r∈topsV p after n)
  have hTm:∀ r,r∈T↔r∈topsV p after n:=fun r=>by
   show r∈(laterV p after).filter _↔_
   rw [List.mem_filter,decide_eq_true_eq]
   exact ⟨fun h=>h.2,fun h=>⟨tops_mem h,h⟩⟩
  have hTp:T.Pairwise fun x y=>x<y:=(fromTo_rising _ _).sublist List.filter_sublist
  have hTl:T.length=(topsV p after n).length:=by
   have hnd:T.Nodup:=hTp.imp fun {x y} (h:x<y)=>by show x≠y;omega
   exact ((List.perm_ext_iff_of_nodup hnd (tops_nodup p after n)).2 hTm).length_eq
  rw [tops_len] at hTl
  refine key (pairUp T cs) ?_ ?_ (fun r hr=>pair_rows T cs r ((hTm r).2 hr)) (fun k hk=>pair_cols T cs (fun e=>?_) k hk)
  ·refine pair_rise hc1 T cs _ hTp (fun r hr=>?_) hcp fun k hk=>(hcm k hk).1
   have hr:=later_mem.1 (tops_mem ((hTm r).1 hr))
   have hlo:=hab.lo
   exact ⟨⟨by omega,hr.2⟩,next_row hc1 hr.1 hab.chi⟩
  ·have:=pair_len T cs
   have h2:(cs.length:Int)≤n:=by rw [hcl];omega
   omega
  ·rw [e,List.length_nil] at hTl;omega
 ·-- the last row
  have hll:=later_len p after
  have hat:=ha.at'
  have hr1:=hc.r1
  have hafter:after.1=(p.1.1.length:Int) - 1:=by have:=hab.hi;omega
  refine key (cs.map fun k=>(after.1,k)) ?_ ?_ (fun r hr=>?_) (fun k hk=>⟨(after.1,k),List.mem_map.2 ⟨k,hk,rfl⟩,rfl⟩)
  ·refine row_rise ⟨by omega,hab.hi⟩ hcp fun k hk=>?_
   have h1:=hcm k hk
   refine ⟨h1.1,?_⟩
   have h2:=h1.2
   unfold isFresh at h2
   rw [decide_eq_false hlat,Bool.false_or,Bool.and_eq_true,decide_eq_true_eq] at h2
   show after.1*p.1.2.1+after.2<_
   omega
  ·rw [List.length_map,hcl];omega
  ·have:=later_mem.1 (tops_mem hr)
   omega
end Go.Xr
