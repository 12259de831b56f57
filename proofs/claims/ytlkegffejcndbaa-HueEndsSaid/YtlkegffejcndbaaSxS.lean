/-
  The symbolic layer, part 28: functions that are given data and give data.
-/
import Derived.Test.YtlkegffejcndbaaSxR2
import Derived.RangeFuncLeaves
set_option linter.all false
namespace Go.Sx

/-- The value of a result. -/
def resv (tmps : Array Value) : ResultVar → Sem Value
  | .tmp t => pure (tmps.getD t undef)
  | .cell a t => do loadVar t (← asAddr (tmps.getD a undef))
def resVal : List Value → Value
  | [v] => v
  | l => .tuple l.toArray
theorem results_eq (fn : Func) (tmps : Array Value) : results fn tmps = (do let vs ← fn.results.mapM (resv tmps); pure (if h : vs.size = 1 then vs[0] else .tuple vs)) := by
  unfold results
  have e : (fun x : ResultVar => match x with
      | .tmp t => (pure (tmps.getD t undef) : Sem Value)
      | .cell a t => do loadVar t (← asAddr (tmps.getD a undef))) = resv tmps := by funext x; cases x <;> rfl
  rw [← e]
  rfl
theorem results_run {P : Program} {fn : Func} {tmps : Array Value} {w : World} : ∀ {l : List ResultVar} {vs : List Value}, fn.results = l.toArray → l.length ≤ 4 → All2 (fun r v => (resv tmps r).run P w = .ok v w) l vs → (results fn tmps).run P w = .ok (resVal vs) w
  | [], [], h, _, _ => by rw [results_eq, h]; simp [resVal]
  | [r], [v], h, _, hr => by
    have h1 := hr.1
    rw [results_eq, h]
    simp [Sem.run_bind, h1, Result.andThen, resVal]
  | [r1, r2], [v1, v2], h, _, hr => by
    have h1 := hr.1; have h2 := hr.2.1
    rw [results_eq, h]
    simp [Sem.run_bind, h1, h2, Result.andThen, resVal]
  | [r1, r2, r3], [v1, v2, v3], h, _, hr => by
    have h1 := hr.1; have h2 := hr.2.1; have h3 := hr.2.2.1
    rw [results_eq, h]
    simp [Sem.run_bind, h1, h2, h3, Result.andThen, resVal]
  | [r1, r2, r3, r4], [v1, v2, v3, v4], h, _, hr => by
    have h1 := hr.1; have h2 := hr.2.1; have h3 := hr.2.2.1; have h4 := hr.2.2.2.1
    rw [results_eq, h]
    simp [Sem.run_bind, h1, h2, h3, h4, Result.andThen, resVal]
  | _ :: _ :: _ :: _ :: _ :: _, _, _, hl, _ => by simp at hl
  | [], _ :: _, _, _, hr => hr.elim
  | [_], [], _, _, hr => hr.elim
  | [_], _ :: _ :: _, _, _, hr => hr.2.elim
  | [_, _], [], _, _, hr => hr.elim
  | [_, _], [_], _, _, hr => hr.2.elim
  | [_, _], _ :: _ :: _ :: _, _, _, hr => hr.2.2.elim
  | [_, _, _], [], _, _, hr => hr.elim
  | [_, _, _], [_], _, _, hr => hr.2.elim
  | [_, _, _], [_, _], _, _, hr => hr.2.2.elim
  | [_, _, _], _ :: _ :: _ :: _ :: _, _, _, hr => hr.2.2.2.elim
  | [_, _, _, _], [], _, _, hr => hr.elim
  | [_, _, _, _], [_], _, _, hr => hr.2.elim
  | [_, _, _, _], [_, _], _, _, hr => hr.2.2.elim
  | [_, _, _, _], [_, _, _], _, _, hr => hr.2.2.2.elim
  | [_, _, _, _], _ :: _ :: _ :: _ :: _ :: _, _, _, hr => hr.2.2.2.2.elim

/-- Marks are taken on the way out. -/
theorem leaves {P : Program} {n : Nat} {fn : Func} {tmps : Array Value} {R : Ending → World → Prop} : ∀ {ds : List Deferred} {w : World}, (∀ d ∈ ds, ∃ D, d = { target := .collected D, args := #[] } ∧ w.heap[D]? = some (.deferred (some []))) → (ds.map dof).Nodup →
    (∀ w' : World, w'.heap.size = w.heap.size → (∀ b, b ∉ ds.map dof → w'.heap[b]? = w.heap[b]?) → (w'.os = w.os ∧ w'.output = w.output) → ∃ v, (results fn tmps).run P w' = .ok v w' ∧ R (.returned v) w') → LeavesInM (FF none) n P fn tmps R ds .returning w
  | [], w, _, _, h => h w rfl (fun _ _ => rfl) ⟨rfl, rfl⟩
  | d :: ds, w, hd, hn, h => by
    obtain ⟨D, rfl, hD⟩ := hd d List.mem_cons_self
    have hn := List.nodup_cons.1 (show (D :: ds.map dof).Nodup from hn)
    refine ⟨by simp, .inl ⟨D, w.putObj D (.deferred none), rfl, run_takeDeferred hD, leaves ?_ hn.2 ?_⟩⟩
    · intro d' hd'
      obtain ⟨D', rfl, hD'⟩ := hd d' (List.mem_cons_of_mem _ hd')
      refine ⟨D', rfl, (World.putObj_heap_other fun e => ?_).trans hD'⟩
      subst e
      exact hn.1 (List.mem_map.2 ⟨_, hd', rfl⟩)
    · intro w' h1 h2 h3
      refine h w' (h1.trans (by simp)) (fun b hb => ?_) h3
      have hb : b ∉ D :: ds.map dof := hb
      simp only [List.mem_cons, not_or] at hb
      exact (h2 b hb.2).trans (World.putObj_heap_other hb.1)

section
variable {K : Ctx} {cx : Cx} {s : ASt} {a : Act} {w : World} {β : Nat → Loc}

/-- Behind the marks. -/
theorem RelB.left (h : RelB K s a w β) (hp : K.pins = []) (hgh : (∀ g G M w, K.J g G M w) ∨ a.defers = []) {w' : World} (h1 : w'.heap.size = w.heap.size) (h2 : ∀ b, b ∉ a.defers.map dof → w'.heap[b]? = w.heap[b]?) (hio : w'.os = w.os ∧ w'.output = w.output) :
    RelB K s { a with defers := [] } w' β ∧ ∀ b, b < K.w0.heap.size → w'.heap[b]? = w.heap[b]? := by
  have hob : ∀ o ob b, s.obs o = some (some ob) → (β o).blk = some b → w'.heap[b]? = w.heap[b]? := by
    intro o ob b ho hb
    refine h2 b fun hm => ?_
    obtain ⟨d, hd, e⟩ := List.mem_map.1 hm
    obtain ⟨D, rfl, hD, _⟩ := h.defs d hd
    have e : D = b := e
    subst e
    exact obj_not_loop h ho hb hD ⟨fun _ _ _ e => (by cases e), fun _ _ e => (by cases e)⟩
  have hlow : ∀ b, b < K.w0.heap.size → w'.heap[b]? = w.heap[b]? := by
    intro b hb
    refine h2 b fun hm => ?_
    obtain ⟨d, hd, e⟩ := List.mem_map.1 hm
    obtain ⟨D, rfl, _, _, hD⟩ := h.defs d hd
    have e : D = b := e
    omega
  have hL : ExtL noM w w' := ⟨Nat.le_of_eq h1.symm, fun b hb _ hm => h2 b fun hmm => by
    obtain ⟨d, hd, e⟩ := List.mem_map.1 hmm
    obtain ⟨D, rfl, hD, _⟩ := h.defs d hd
    have e : D = b := e
    subst e
    have := hm _ hD
    cases this⟩
  have hcc : Compat s β s β := .refl _ _
  have ht : Tr (Mset K.Mg s β) w (Mset K.Mg s β) w' := (hL.mono fun _ _ h => h.elim).tr
  refine ⟨⟨⟨(by rw [h1]; exact h.frame.1), fun b hb hn => (hlow b hb).trans (h.frame.2 b hb hn), hio.1.trans h.frame.io.1, hio.2.trans h.frame.io.2⟩, (fun b hb => by rw [h1]; exact h.mg b hb), h.dis, ?_, h.inj, h.rng, ?_, h.size, (fun d hd => by cases hd), List.nodup_nil, (fun _ => rfl), ?_, ?_, h.fix, h.posC hcc⟩, hlow⟩
  · intro o ob ho
    exact (h.ob o ob ho).next hcc ht fun b hb => hob o ob b ho hb
  · intro t
    exact ⟨fun hg => ((h.env t).1 hg).next hcc ht, (h.env t).2⟩
  · intro x hx
    rw [hp] at hx; cases hx
  · rcases hgh with hgh | hgh
    · exact hgh _ _ _ _
    · refine K.Jst _ _ _ _ _ _ h.gh ⟨⟨Nat.le_of_eq h1.symm, fun b _ _ => h2 b (by rw [hgh]; simp), hio⟩, fun _ _ h => h⟩ ?_ ?_
      · rintro b ⟨o, ob, k1, k2, k3⟩
        exact ⟨h.dis o ob b k1 k3, h.rng o ob b k1 k2 k3⟩
      · rintro b ⟨o, ob, k1, k2, k3⟩
        rw [h1]; exact h.blk_lt k1 k3

theorem res_rep (hcx : CxOk K.P cx) (h : RelB K s a w β) (hn : NoG s) : ∀ {l : List ResultVar} {avs : List AV}, resOf cx s l = some avs → ∃ vs, All2 (fun r v => (resv a.tmps r).run K.P w = .ok v w) l vs ∧ All2 (AVRep K.P s β w (Mset K.Mg s β)) avs vs
  | [], avs, hr => by
    simp only [resOf, Option.some.injEq] at hr
    subst hr
    exact ⟨[], trivial, trivial⟩
  | .tmp t :: l, avs, hr => by
    simp only [resOf, Option.map_eq_some_iff] at hr
    obtain ⟨avs', hr, rfl⟩ := hr
    obtain ⟨vs, h1, h2⟩ := res_rep hcx h hn hr
    exact ⟨a.tmps.getD t undef :: vs, ⟨rfl, h1⟩, (h.env t).1 (by rw [hn t]; intro x hx; cases hx), h2⟩
  | .cell t T :: l, avs, hr => by
    have ht := (h.env t).1 (by rw [hn t]; intro x hx; cases hx)
    simp only [resOf] at hr
    split at hr
    · rename_i o hv
      rw [hv] at ht
      split at hr
      · rename_i f ty x ho
        change cond (tyIs cx.ty T ty) _ none = _ at hr
        cases hc : tyIs cx.ty T ty with
        | false => rw [hc] at hr; cases hr
        | true =>
          rw [hc] at hr
          simp only [cond_true, Option.map_eq_some_iff] at hr
          obtain ⟨avs', hr, rfl⟩ := hr
          obtain ⟨vs, h1, h2⟩ := res_rep hcx h hn hr
          simp only [AVRep, SVRep, ho] at ht
          obtain ⟨_, b, off, hb, hp, hva⟩ := ht
          obtain ⟨b', cs, e, hb', hh, hrep⟩ := h.ob o _ ho
          rw [hb] at hb'; cases hb'
          have e0 : offP ty [] = some (0, ty) := by cases ty <;> rfl
          simp only [obPos, e0, Option.map_some, Option.some.injEq] at hp
          subst hp
          have hT : cx.ty T = some ty := tyIs_eq hc
          have hl := (hcx.ty T ty hT).load (w := w) (b := b) (off := 0) hrep ⟨cs.toArray, e, _, hh, fun j v hj => by simpa using hj⟩
          refine ⟨pack ty cs :: vs, ⟨?_, h1⟩, ⟨cs, hrep, rfl⟩, h2⟩
          show (resv a.tmps (.cell t T)).run K.P w = _
          rw [show resv a.tmps (.cell t T) = (do loadVar T (← asAddr (a.tmps.getD t undef))) from rfl, hva]
          simpa [Instr.loadAt, Instr.sureAddr, asAddr] using hl
      · rename_i v ho
        rw [Bool.cond_eq_ite] at hr
        split at hr
        · rename_i hc
          simp only [Option.map_eq_some_iff] at hr
          obtain ⟨avs', hr, rfl⟩ := hr
          obtain ⟨vs, h1, h2⟩ := res_rep hcx h hn hr
          simp only [AVRep, SVRep, ho] at ht
          obtain ⟨_, b, off, hb, hp, hva⟩ := ht
          obtain ⟨b', u, e, hb', hh, hrep⟩ := h.ob o _ ho
          rw [hb] at hb'; cases hb'
          simp only [obPos, Option.some.injEq] at hp
          subst hp
          have h1f := hcx.one T hc
          refine ⟨u :: vs, ⟨?_, h1⟩, hrep, h2⟩
          show (resv a.tmps (.cell t T)).run K.P w = _
          rw [show resv a.tmps (.cell t T) = (do loadVar T (← asAddr (a.tmps.getD t undef))) from rfl, hva]
          have hcell : w.cell? ⟨b, 0, none⟩ = some u := by simp [World.cell?, hh]
          simp [asAddr, loadVar, Sem.run_bind, h1f.agg w, Result.andThen, hcell]
        · cases hr
      · cases hr
    · cases hr
end

theorem initEnv_get : ∀ {l : List SV} {t : Nat}, initEnv l t = match l[t]? with | some v => ⟨[], .s v⟩ | none => ⟨[], .un⟩
  | [], t => by simp [initEnv]
  | v :: l, 0 => rfl
  | v :: l, t + 1 => by simp only [initEnv]; rw [initEnv_get]; rfl
theorem init_env {P : Program} {s : ASt} {β : Nat → Loc} {a : Act} {w : World} {M : Nat → Prop} {l : List SV} {vs : List Value} {r : Array Value} (h : All2 (SVRep P s β w M) l vs) (t : Nat) : EntRep P s β a w M (initEnv l t) ((vs.toArray ++ r).getD t undef) := by
  rw [initEnv_get]
  cases hl : l[t]? with
  | none => exact ⟨fun _ => trivial, fun hh => absurd (fun x hx => by cases hx) hh⟩
  | some v =>
    refine ⟨fun _ => ?_, fun hh => absurd (fun x hx => by cases hx) hh⟩
    have hlt : t < l.length := (List.getElem?_eq_some_iff.1 hl).1
    have hlen := h.length
    obtain ⟨u, hu⟩ : ∃ u, vs[t]? = some u := ⟨vs[t]'(by omega), List.getElem?_eq_getElem (by omega)⟩
    obtain ⟨v', hv', hr⟩ := h.get hu
    rw [hl] at hv'; cases hv'
    have e : (vs.toArray ++ r).getD t undef = u := by
      rw [Array.getD_eq_getD_getElem?, Array.getElem?_append_left (by simp; omega)]
      simp [hu]
    rw [e]; exact hr
theorem noG_init {l : List SV} {obs : Nat → Option (Option Ob)} : NoG ⟨initEnv l, obs⟩ := by
  intro t
  show (initEnv l t).g = []
  rw [initEnv_get]
  split <;> rfl
theorem args_svs {P : Program} {s : ASt} {β : Nat → Loc} {w : World} {M : Nat → Prop} : ∀ {ts : List Ty} {vs : List Value} {x : Ds ts}, ARep P w M ts vs x → All2 (SVRep P s β w M) ((unDs ts x).map fun v => .d v.t v.x) vs
  | [], vs, x, h => by rw [show vs = _ from h]; trivial
  | [a], vs, x, h => by obtain ⟨v, rfl, h⟩ := h; exact ⟨h, trivial⟩
  | a :: b :: r, vs, x, h => by
    obtain ⟨v, vs', rfl, h1, h2⟩ := h
    exact ⟨h1, args_svs h2⟩
theorem ARep.length {P : Program} {w : World} {M : Nat → Prop} : ∀ {ts : List Ty} {vs : List Value} {x : Ds ts}, ARep P w M ts vs x → vs.length = ts.length
  | [], vs, x, h => by rw [show vs = _ from h]; rfl
  | [a], vs, x, h => by obtain ⟨v, rfl, h⟩ := h; rfl
  | a :: b :: r, vs, x, h => by
    obtain ⟨v, vs', rfl, h1, h2⟩ := h
    simp [ARep.length h2]
theorem rrep_of {P : Program} {w : World} {M : Nat → Prop} {ts : List Ty} {vs : List Value} {dvs : List Dv} {y : Ds ts} (h : All2 (fun (v : Value) (d : Dv) => VRep P d.t w M v d.x) vs dvs) (hm : mkDs ts dvs = some y) : RRep P w M ts (resVal vs) y := by
  have hA := mkDs_rep h hm
  clear h hm
  match ts, y, vs, hA with
  | [], y, vs, hA => rw [show vs = _ from hA]; exact rfl
  | [a], y, vs, hA => obtain ⟨v, rfl, hA⟩ := hA; exact hA
  | a :: b :: r, y, vs, hA =>
    have hl := hA.length
    refine ⟨vs, ?_, hA⟩
    match vs, hl with
    | _ :: _ :: _, _ => rfl

/-- What a function that is given data, and lent nothing, is held against. -/
def K0 (P : Program) (w : World) (M : Nat → Prop) (nt : Nat) : Ctx :=
  { P, w0 := w, Mg := M, Ml := fun _ => False, Mf := fun _ => False, mlf := fun _ h => h, nt, pins := [], fix := fun _ => none, pos := fun _ => none, posr := fun _ _ h => (by cases h), nod := False, gid := 0, J := fun _ _ _ _ => True, Jst := fun _ _ _ _ _ _ _ _ _ _ => trivial }
theorem calls_of_wide {P : Program} {n : Nat} {f : FuncId} {args : Array Value} {w : World} {R : Ending → World → Prop} (h : CallsIn (FF none) n P f args w R) : Calls P f args w R := (callsIn_wide (n := n)).1 h

/-- **A contract from its condition.** -/
theorem holds_of_vc {P : Program} {f : Nat} {fn : Func} {c : Code} {k : Con} (hf : P.funcs[f]? = some fn) (hb : fn.body = some c) (hm : P.follows .mixedOrders = true) (hlen : fn.results.toList.length ≤ 4) (hargs : k.args.length ≤ fn.ntmps)
    (hv : ∀ x, k.pre x → ∃ cx : Cx, CxOk P cx ∧ cx.yl = none ∧ cx.nt = fn.ntmps ∧ vcFun cx fn k x) : Holds P f k := by
  intro w M vs x hlt hA hpre
  obtain ⟨cx, hcx, hyl, hnt, hvc⟩ := hv x hpre
  have hl := hA.length
  simp only [vcFun, hb] at hvc
  have hfit : Fit (K0 P w M fn.ntmps) cx := ⟨hnt, hm, by rw [hyl]; exact ⟨fun _ _ _ _ => trivial, id⟩⟩
  have h0 : RelB (K0 P w M fn.ntmps) ⟨initEnv ((unDs k.args x).map fun v => .d v.t v.x), fun _ => none⟩ { tmps := vs.toArray ++ Array.replicate (fn.ntmps - vs.toArray.size) undef, defers := [] } w (fun _ => ⟨none, .slice none 0 0⟩) := by
    refine ⟨.refl _ _, hlt, fun _ _ _ h => (by cases h), fun _ _ h => (by cases h), fun _ _ _ _ _ h => (by cases h), fun _ _ _ h => (by cases h), ?_, ?_, fun _ h => (by cases h), List.nodup_nil, fun _ => rfl, fun _ h => (by cases h), trivial, (fun _ _ h => by cases h), fun _ _ h => (by cases h)⟩
    · intro t
      refine init_env (args_svs (hA.tr ⟨.refl _ _, fun b _ hm => ?_⟩)) t
      rcases hm with hm | ⟨o, ob, h1, _⟩
      · exact hm
      · cases h1
    · simp only [Array.size_append, Array.size_replicate, List.size_toArray]
      show _ = fn.ntmps
      omega
  refine calls_of_wide (n := 0) (callsIn_of_wp_marks hf hb trivial ?_)
  refine vc_sound loop_rule range_rule c (K0 P w M fn.ntmps) none 0 hcx hfit trivial (fun _ _ => rfl) M _ _ _ _ _ _ hvc h0 noG_init ?_
  intro M' hM' e s a w' β' hq h hn
  have hM' := hM' hyl
  subst hM'
  have fin : (match ((resOf cx s fn.results.toList).bind (optAll (AV.dv cx s))).bind (mkDs k.res) with
      | some y => Z.same y (k.val x)
      | none => False) → LeavesInM (FF none) 0 P fn a.tmps (fun e w'' => ∃ v, e = .returned v ∧ Ext noM w w'' ∧ RRep P w'' M' k.res v (k.val x)) a.defers .returning w' := by
    intro hq
    split at hq
    · rename_i y hy
      have hq : y = k.val x := hq
      subst hq
      simp only [Option.bind_eq_some_iff] at hy
      obtain ⟨dvs, ⟨avs, hr, hd⟩, hmk⟩ := hy
      refine leaves (fun d hd => by obtain ⟨D, e1, e2, _⟩ := h.defs d hd; exact ⟨D, e1, e2⟩) h.dnd fun w'' h1 h2 hio => ?_
      obtain ⟨h3, h4⟩ := h.left rfl (.inl fun _ _ _ _ => trivial) h1 h2 hio
      obtain ⟨us, r1, r2⟩ := res_rep hcx h3 hn hr
      refine ⟨_, results_run (by simp) hlen r1, _, rfl, ⟨h3.frame.1, fun b hb' hm => h3.frame.2 b hb' id, h3.frame.io⟩, ?_⟩
      exact rrep_of (avs_rep hcx h3 r2 (optAll_all2 hd) (under_mg h3 fun q hq => by
        obtain ⟨av, _, hq⟩ := List.mem_flatMap.1 hq
        exact open_live hq)) hmk
    · exact hq.elim
  cases e with
  | normal => exact fin hq
  | ret => exact fin hq
  | _ => exact hq.elim
end Go.Sx
