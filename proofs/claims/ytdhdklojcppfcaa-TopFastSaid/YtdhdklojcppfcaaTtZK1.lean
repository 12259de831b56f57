/-
  Chapter 12: the function that does what it is given, and says whether it has panicked.
-/
import Derived.Test.YtdhdklojcppfcaaTtZP5
import Derived.Tactics
import Derived.Tactics2
import Derived.TacticsInMore
import Derived.RecoverIn
import Derived.WideLaws
import Derived.Laws.Pointers
set_option linter.all false
set_option maxRecDepth 100000
open Array renaming replicate->yde
open Bool renaming false_eq_true->yaZ
open Go.Proofs.Try
namespace Go.Fade
open Go Go.Sx
theorem fnc66:prog.funcs[188]?=some f188:=by kernel_rfl
theorem fnc49:prog.funcs[147]?=some f147:=by kernel_rfl
theorem isFn {f:Nat} {fn:Func} (h:prog.funcs[f]?=some fn):(FF prog none).fn f:=by show (prog.funcs[f]?).isSome=true;rw [h];rfl
theorem hta (w:World):(Instr.typeAssert (.iface 278 (.agg #[])) 20 278 true).run prog w=.ok (.tuple #[.agg #[],.bool true]) w:=by
 simp [Instr.typeAssert,go_sem]
theorem znq (p:Addr) (w:World) :
  CallsDIn (FF prog none) 0 prog 188 #[.pointer (some p)] .returning w fun e u' w'=>e=.returned (.tuple #[])/\u'=.returning/\w'=w:=by
 refine callsDIn_of_wpSIn fnc66 rfl (isFn fnc66) fun c₀ cs hu=>?_
 apply wpSIn_seq
 apply wpSIn_region
 simp [wpOpsSIn,go_sem,recoverD,hu,Exit.thenS]
 apply wpSIn_seq
 apply wpSIn_region
 simp [wpOpsSIn,go_sem,Exit.thenS]
 refine wpSIn_cond (t:=false) (by simp [Act.eval,yde]) ?_
 simp only [yaZ,if_false]
 refine wpSIn_of_wpIn rfl (wpIn_skip ?_)
 cases c₀
 simp_all [bodyPostS,results]
theorem zoE (p:Addr) (x:Bool) (w:World) (hc:w.cell? p=some (.bool x)) (hz:w.frozen? p=false) :
  CallsDIn (FF prog none) 0 prog 188 #[.pointer (some p)] (.panicking (pch 278)) w fun e u' w' =>
   e=.returned (.tuple #[])/\u'=.panicking [{ v:=.iface 278 (.agg #[]),recovered:=true }]/\Ext (fun b=>b=p.block) w w'/\w'.cell? p=some (.bool false):=by
 refine callsDIn_of_wpSIn fnc66 rfl (isFn fnc66) fun c₀ cs hu=>?_
 simp only [pch] at hu
 apply wpSIn_seq
 apply wpSIn_region
 simp [wpOpsSIn,go_sem,recoverD,hu,Exit.thenS]
 apply wpSIn_seq
 apply wpSIn_region
 simp [wpOpsSIn,go_sem,Exit.thenS]
 refine wpSIn_cond (t:=true) (by simp [Act.eval,yde]) ?_
 simp only [if_true]
 apply wpSIn_seq
 apply wpSIn_seq
 apply wpSIn_region
 simp [wpOpsSIn,go_sem,Exit.thenS,hta]
 apply wpSIn_seq
 apply wpSIn_region
 simp [wpOpsSIn,go_sem,Exit.thenS]
 refine wpSIn_cond (t:=false) (by simp [Act.eval,yde]) ?_
 simp only [yaZ,if_false]
 refine wpSIn_of_wpIn rfl (wpIn_skip ?_)
 simp only [Exit.thenS]
 have hlt:p.block<w.heap.size:=by
  simp only [World.cell?] at hc
  split at hc
  ·rename_i h;exact (Array.getElem?_eq_some_iff.1 h).1
  ·cases hc
 have hc':(w.alloc (Obj.cells #[] 278)).cell? p=some (.bool x):=(World.cell?_alloc_lt _ _ _ hlt).trans hc
 have hz':(w.alloc (Obj.cells #[] 278)).frozen? p=false:=(World.frozen?_alloc_old _ _ _ (by omega)).trans hz
 apply wpSIn_region
 simp [wpOpsSIn,go_sem,hc',hz',bodyPostS,results]
 refine ⟨by simp,fun b hb hn=>?_,⟨rfl,rfl⟩⟩
 rw [heap_setCell_other _ _ _ _ hn]
 exact (zaB w _).2 b hb id
abbrev dfr (w:World):Deferred:={ target:=.fn (.func 188) #[.pointer (some ⟨w.heap.size,0,none⟩)],args:=#[] }
theorem htry:HoldsTry prog 147 278:=by
 intro w g caps N X hent hin
 have hx1:Ext noM w (w.alloc (.cells #[.bool false] 4)):=zaB _ _
 have hcall:=hin _ hx1
 have hmf:∀ (fn:Fn) (first cap:Array Value) (w:World),(Instr.makeFunc fn first cap).run prog w=.ok (.func fn first cap) w:=fun _ _ _ _=>rfl
 have hround:(FF prog none).round=none:=rfl
 refine callsIn_of_wp_defers fnc49 rfl (isFn fnc49) ?_
 apply wpIn_seq
 apply wpIn_region_list
 simp [wpListIn,go_sem,Exit.then]
 change Code.wpIn _ _ _ _ _ ⟨#[.func (.func g) #[] caps,undef,.pointer (some ⟨w.heap.size,0,none⟩),undef,undef,undef],[]⟩ _
 apply wpIn_seq
 apply wpIn_region_list
 simp [wpListIn,go_sem,Exit.then,hmf,Act.eval,hround]
 change Code.wpIn _ _ _ _ _ ⟨#[.func (.func g) #[] caps,undef,.pointer (some ⟨w.heap.size,0,none⟩),.func (.func 188) #[] #[.pointer (some ⟨w.heap.size,0,none⟩)],undef,undef],[dfr w]⟩ _
 apply wpIn_seq
 apply wpIn_region_list
 rw [wpListIn,if_pos (by rfl)]
 refine zaS (K:=K0 prog w (fun _=>False) 0) (fun c h=>by cases h) (x:=.value (.func (.func g) #[] caps)) (w':=w.alloc (.cells #[.bool false] 4)) rfl ?_
 simp only [Oper.uponIn_value]
 rw [wpListIn,if_pos (by rfl)]
 refine zht (K:=K0 prog w (fun _=>False) 0) (fun c h=>by cases h) (f:=g) (args:=caps) ?_ hcall ?_
 ·rw [zbc (g₁:=g) (first:=#[]) (caps:=caps) rfl rfl rfl]
  simp only [List.map_toArray,List.map_nil,Array.append_empty,Array.empty_append]
  have e0:(#[]++Array.map (Act.put ⟨#[.func (.func g) #[] caps,undef,.pointer (some ⟨w.heap.size,0,none⟩),.func (.func 188) #[] #[.pointer (some ⟨w.heap.size,0,none⟩)],undef,undef],[dfr w]⟩ (some 4) (Value.func (Fn.func g) #[] caps)).eval #[]++caps:Array Value)=caps:=by simp
  first | exact hent _ _ | (rw [e0];exact hent _ _)
 rintro e w' ⟨hkeep,h⟩
 have hb:=hkeep w.heap.size _ (Nat.le_refl _) (World.alloc_heap_new w (.cells #[.bool false] 4))
 have hc:w'.cell? ⟨w.heap.size,0,none⟩=some (.bool false):=by simp [World.cell?,hb]
 have hz:w'.frozen? ⟨w.heap.size,0,none⟩=false:=by simp [World.frozen?,hb]
 rcases h with ⟨v,rfl,hN⟩ | ⟨rfl,hX⟩
 ·refine .inl ⟨v,rfl,?_⟩
  change Code.wpIn _ _ _ _ _ ⟨#[.func (.func g) #[] caps,undef,.pointer (some ⟨w.heap.size,0,none⟩),.func (.func 188) #[] #[.pointer (some ⟨w.heap.size,0,none⟩)],.func (.func g) #[] caps,v],[dfr w]⟩ _
  apply wpIn_seq
  apply wpIn_region_list
  simp [wpListIn,go_sem,Exit.then,hround,hc,hz]
  refine wpIn_ret ?_
  refine leavesIn_cons (f:=188) (args:=#[.pointer (some ⟨w.heap.size,0,none⟩)]) (by simp) (by simp [FF]) (by simp [go_sem]) (fun g hg=>?_) ?_
  ·simp [Target.leads] at hg
   subst hg
   exact isFn fnc66
  refine (znq ⟨w.heap.size,0,none⟩ _).mono ?_
  rintro e' u' w'' ⟨rfl,rfl,rfl⟩
  simp [LeavesIn,settle,results,go_sem]
  rw [World.cell?_setCell_same _ _ (.bool true) hc]
  refine ⟨.bool true,rfl,_,hx1,w',⟨by simp,fun b hb' hn=>heap_setCell_other _ _ _ _ fun e=>hn ?_,⟨rfl,rfl⟩⟩,.inl ⟨rfl,hN⟩⟩
  subst e
  simp
 ·refine .inr ⟨_,rfl,?_⟩
  refine leavesIn_cons (f:=188) (args:=#[.pointer (some ⟨w.heap.size,0,none⟩)]) (by simp) (by simp [FF]) (by simp [go_sem]) (fun g hg=>?_) ?_
  ·simp [Target.leads] at hg
   subst hg
   exact isFn fnc66
  refine (zoE ⟨w.heap.size,0,none⟩ false _ hc hz).mono ?_
  rintro e' u' w'' ⟨rfl,rfl,hx,hc2⟩
  simp [LeavesIn,settle,results,go_sem]
  rw [hc2]
  refine ⟨.bool false,rfl,_,hx1,w',hx.mono fun b hb' e=>?_,.inr ⟨rfl,hX⟩⟩
  subst e
  simp
end Go.Fade
