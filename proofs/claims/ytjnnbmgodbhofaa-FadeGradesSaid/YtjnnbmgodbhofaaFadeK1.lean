/-
  Chapter 12: the function that does what it is given, and says whether it has panicked.
-/
import Derived.Test.YtjnnbmgodbhofaaFadeP1
import Derived.Tactics
import Derived.Tactics2
import Derived.TacticsInMore
import Derived.RecoverIn
import Derived.WideLaws
import Derived.Laws.Pointers
set_option linter.all false
set_option maxRecDepth 100000
namespace Go.Fade
open Go Go.Sx
theorem fnc66 : Go.Proofs.Try.prog.funcs[66]? = some Go.Proofs.Try.f66 := by kernel_rfl
theorem fnc49 : Go.Proofs.Try.prog.funcs[49]? = some Go.Proofs.Try.f49 := by kernel_rfl
theorem isFn {f : Nat} {fn : Func} (h : Go.Proofs.Try.prog.funcs[f]? = some fn) : (FF Go.Proofs.Try.prog none).fn f := by show (Go.Proofs.Try.prog.funcs[f]?).isSome = true; rw [h]; rfl
theorem hta (w : World) : (Instr.typeAssert (.iface 98 (.agg #[])) 20 98 true).run Go.Proofs.Try.prog w = .ok (.tuple #[.agg #[], .bool true]) w := by
 simp [Instr.typeAssert, go_sem]
theorem catch_idle (p : Addr) (w : World) :
  CallsDIn (FF Go.Proofs.Try.prog none) 0 Go.Proofs.Try.prog 66 #[.pointer (some p)] .returning w fun e u' w' => e = .returned (.tuple #[]) ∧ u' = .returning ∧ w' = w := by
 refine callsDIn_of_wpSIn fnc66 rfl (isFn fnc66) fun c₀ cs hu => ?_
 apply wpSIn_seq
 apply wpSIn_region
 simp [wpOpsSIn, go_sem, recoverD, hu, Exit.thenS]
 apply wpSIn_seq
 apply wpSIn_region
 simp [wpOpsSIn, go_sem, Exit.thenS]
 refine wpSIn_cond (t := false) (by simp [Act.eval, Array.replicate]) ?_
 simp only [Bool.false_eq_true, if_false]
 refine wpSIn_of_wpIn rfl (wpIn_skip ?_)
 cases c₀
 simp_all [bodyPostS, results]
theorem catch_pan (p : Addr) (x : Bool) (w : World) (hc : w.cell? p = some (.bool x)) (hz : w.frozen? p = false) :
  CallsDIn (FF Go.Proofs.Try.prog none) 0 Go.Proofs.Try.prog 66 #[.pointer (some p)] (.panicking (pch 98)) w fun e u' w' =>
   e = .returned (.tuple #[]) ∧ u' = .panicking [{ v := .iface 98 (.agg #[]), recovered := true }] ∧ Ext (fun b => b = p.block) w w' ∧ w'.cell? p = some (.bool false) := by
 refine callsDIn_of_wpSIn fnc66 rfl (isFn fnc66) fun c₀ cs hu => ?_
 simp only [pch] at hu
 apply wpSIn_seq
 apply wpSIn_region
 simp [wpOpsSIn, go_sem, recoverD, hu, Exit.thenS]
 apply wpSIn_seq
 apply wpSIn_region
 simp [wpOpsSIn, go_sem, Exit.thenS]
 refine wpSIn_cond (t := true) (by simp [Act.eval, Array.replicate]) ?_
 simp only [if_true]
 apply wpSIn_seq
 apply wpSIn_seq
 apply wpSIn_region
 simp [wpOpsSIn, go_sem, Exit.thenS, hta]
 apply wpSIn_seq
 apply wpSIn_region
 simp [wpOpsSIn, go_sem, Exit.thenS]
 refine wpSIn_cond (t := false) (by simp [Act.eval, Array.replicate]) ?_
 simp only [Bool.false_eq_true, if_false]
 refine wpSIn_of_wpIn rfl (wpIn_skip ?_)
 simp only [Exit.thenS]
 have hlt : p.block < w.heap.size := by
  simp only [World.cell?] at hc
  split at hc
  ·rename_i h; exact (Array.getElem?_eq_some_iff.1 h).1
  ·cases hc
 have hc' : (w.alloc (Obj.cells #[] 98)).cell? p = some (.bool x) := (World.cell?_alloc_lt _ _ _ hlt).trans hc
 have hz' : (w.alloc (Obj.cells #[] 98)).frozen? p = false := (World.frozen?_alloc_old _ _ _ (by omega)).trans hz
 apply wpSIn_region
 simp [wpOpsSIn, go_sem, hc', hz', bodyPostS, results]
 refine ⟨by simp, fun b hb hn => ?_, ⟨rfl, rfl⟩⟩
 rw [heap_setCell_other _ _ _ _ hn]
 exact (ext_alloc w _).2 b hb id
abbrev dfr (w : World) : Deferred := { target := .fn (.func 66) #[.pointer (some ⟨w.heap.size, 0, none⟩)], args := #[] }
theorem htry : HoldsTry Go.Proofs.Try.prog 49 98 := by
 intro w g caps N X hent hin
 have hx1 : Ext noM w (w.alloc (.cells #[.bool false] 4)) := ext_alloc _ _
 have hcall := hin _ hx1
 have hmf : ∀ (fn : Fn) (first cap : Array Value) (w : World), (Instr.makeFunc fn first cap).run Go.Proofs.Try.prog w = .ok (.func fn first cap) w := fun _ _ _ _ => rfl
 have hround : (FF Go.Proofs.Try.prog none).round = none := rfl
 refine callsIn_of_wp_defers fnc49 rfl (isFn fnc49) ?_
 apply wpIn_seq
 apply wpIn_region_list
 simp [wpListIn, go_sem, Exit.then]
 change Code.wpIn _ _ _ _ _ ⟨#[.func (.func g) #[] caps, undef, .pointer (some ⟨w.heap.size, 0, none⟩), undef, undef, undef], []⟩ _
 apply wpIn_seq
 apply wpIn_region_list
 simp [wpListIn, go_sem, Exit.then, hmf, Act.eval, hround]
 change Code.wpIn _ _ _ _ _ ⟨#[.func (.func g) #[] caps, undef, .pointer (some ⟨w.heap.size, 0, none⟩), .func (.func 66) #[] #[.pointer (some ⟨w.heap.size, 0, none⟩)], undef, undef], [dfr w]⟩ _
 apply wpIn_seq
 apply wpIn_region_list
 rw [wpListIn, if_pos (by rfl)]
 refine wpIn_of_run (K := K0 Go.Proofs.Try.prog w (fun _ => False) 0) (fun c h => by cases h) (x := .value (.func (.func g) #[] caps)) (w' := w.alloc (.cells #[.bool false] 4)) rfl ?_
 simp only [Oper.uponIn_value]
 rw [wpListIn, if_pos (by rfl)]
 refine upon_enter2 (K := K0 Go.Proofs.Try.prog w (fun _ => False) 0) (fun c h => by cases h) (f := g) (args := caps) ?_ hcall ?_
 ·rw [run_callVal (g₁ := g) (first := #[]) (caps := caps) rfl rfl rfl]
  simp only [List.map_toArray, List.map_nil, Array.append_empty, Array.empty_append]
  have e0 : (#[] ++ Array.map (Act.put ⟨#[.func (.func g) #[] caps, undef, .pointer (some ⟨w.heap.size, 0, none⟩), .func (.func 66) #[] #[.pointer (some ⟨w.heap.size, 0, none⟩)], undef, undef], [dfr w]⟩ (some 4) (Value.func (Fn.func g) #[] caps)).eval #[] ++ caps : Array Value) = caps := by simp
  first | exact hent _ _ | (rw [e0]; exact hent _ _)
 rintro e w' ⟨hkeep, h⟩
 have hb := hkeep w.heap.size _ (Nat.le_refl _) (World.alloc_heap_new w (.cells #[.bool false] 4))
 have hc : w'.cell? ⟨w.heap.size, 0, none⟩ = some (.bool false) := by simp [World.cell?, hb]
 have hz : w'.frozen? ⟨w.heap.size, 0, none⟩ = false := by simp [World.frozen?, hb]
 rcases h with ⟨v, rfl, hN⟩ | ⟨rfl, hX⟩
 ·refine .inl ⟨v, rfl, ?_⟩
  change Code.wpIn _ _ _ _ _ ⟨#[.func (.func g) #[] caps, undef, .pointer (some ⟨w.heap.size, 0, none⟩), .func (.func 66) #[] #[.pointer (some ⟨w.heap.size, 0, none⟩)], .func (.func g) #[] caps, v], [dfr w]⟩ _
  apply wpIn_seq
  apply wpIn_region_list
  simp [wpListIn, go_sem, Exit.then, hround, hc, hz]
  refine wpIn_ret ?_
  refine leavesIn_cons (f := 66) (args := #[.pointer (some ⟨w.heap.size, 0, none⟩)]) (by simp) (by simp [FF]) (by simp [go_sem]) (fun g hg => ?_) ?_
  ·simp [Target.leads] at hg
   subst hg
   exact isFn fnc66
  refine (catch_idle ⟨w.heap.size, 0, none⟩ _).mono ?_
  rintro e' u' w'' ⟨rfl, rfl, rfl⟩
  simp [LeavesIn, settle, results, go_sem]
  rw [World.cell?_setCell_same _ _ (.bool true) hc]
  refine ⟨.bool true, rfl, _, hx1, w', ⟨by simp, fun b hb' hn => heap_setCell_other _ _ _ _ fun e => hn ?_, ⟨rfl, rfl⟩⟩, .inl ⟨rfl, hN⟩⟩
  subst e
  simp
 ·refine .inr ⟨_, rfl, ?_⟩
  refine leavesIn_cons (f := 66) (args := #[.pointer (some ⟨w.heap.size, 0, none⟩)]) (by simp) (by simp [FF]) (by simp [go_sem]) (fun g hg => ?_) ?_
  ·simp [Target.leads] at hg
   subst hg
   exact isFn fnc66
  refine (catch_pan ⟨w.heap.size, 0, none⟩ false _ hc hz).mono ?_
  rintro e' u' w'' ⟨rfl, rfl, hx, hc2⟩
  simp [LeavesIn, settle, results, go_sem]
  rw [hc2]
  refine ⟨.bool false, rfl, _, hx1, w', hx.mono fun b hb' e => ?_, .inr ⟨rfl, hX⟩⟩
  subst e
  simp
end Go.Fade
