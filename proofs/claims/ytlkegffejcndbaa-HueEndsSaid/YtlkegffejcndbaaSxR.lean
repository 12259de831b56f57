/-
  The symbolic layer, part 27: ranges over functions.
-/
import Derived.Test.YtlkegffejcndbaaSxQ
import Derived.RangeFuncIn
import Derived.RangeFuncRecord
set_option linter.all false
namespace Go.Sx

/-- The same symbolic state, held against another world, in another context. -/
theorem RelB.re {K1 K2 : Ctx} {s : ASt} {a1 a2 : Act} {w1 w2 : World} {β : Nat → Loc} (h : RelB K1 s a1 w1 β) (hP : K2.P = K1.P) (hnt : K2.nt = K1.nt) (hta : a2.tmps.size = a1.tmps.size)
    (henv : ∀ t, s.env t = ⟨[], .un⟩ ∨ (a2.tmps.getD t undef = a1.tmps.getD t undef ∧ (s.env t).g = []))
    (hframe : Ext K2.Mf K2.w0 w2) (hmg : ∀ b, K2.Mg b → b < w2.heap.size) (hdis : ∀ o ob b, s.obs o = some (some ob) → (β o).blk = some b → ¬ K2.Mg b)
    (ht : Tr (Mset K1.Mg s β) w1 (Mset K2.Mg s β) w2) (hblk : ∀ o ob b, s.obs o = some (some ob) → (β o).blk = some b → w2.heap[b]? = w1.heap[b]?)
    (hrng : ∀ o ob b, s.obs o = some (some ob) → obFz ob = false → (β o).blk = some b → K2.w0.heap.size ≤ b ∨ K2.Ml b)
    (hdefs : ∀ d ∈ a2.defers, ∃ D, d = { target := .collected D, args := #[] } ∧ w2.heap[D]? = some (.deferred (some [])) ∧ (¬ K2.Mg D ∧ K2.w0.heap.size ≤ D))
    (hpins : ∀ x ∈ K2.pins, w2.heap[x.1]? = some x.2 ∧ ((∀ c e z, x.2 ≠ .cells c e z) ∧ ∀ es c, x.2 ≠ .map es c))
    (hdnd : (a2.defers.map dof).Nodup) (hnod : K2.nod → a2.defers = []) (hgh : K2.J (ghOf (s.obs K2.gid)) (Own s β) K2.Mg w2) (hfix : ∀ t v, K2.fix t = some v → a2.tmps.getD t undef = v) (hpos : K2.pos = K1.pos) : RelB K2 s a2 w2 β := by
  have hcc : Compat s β s β := .refl _ _
  refine ⟨hframe, hmg, hdis, ?_, h.inj, hrng, ?_, by rw [hta, h.size, hnt], hdefs, hdnd, hnod, hpins, hgh, hfix, by rw [hpos]; exact h.pos⟩
  · intro o ob ho
    rw [hP]
    exact (h.ob o ob ho).next hcc ht fun b hb => hblk o ob b ho hb
  · intro t
    rw [hP]
    rcases henv t with e | ⟨e, eg⟩
    · rw [e]; exact ⟨fun _ => trivial, fun hh => absurd (fun x hx => by cases hx) hh⟩
    · rw [e]
      refine ⟨fun _ => ((h.env t).1 (by rw [eg]; intro x hx; cases hx)).next hcc ht, fun hh => absurd (by rw [eg]; intro x hx; cases hx) hh⟩

section
variable {K : Ctx} {cx : Cx} {s s' s₀ head : ASt} {a : Act} {w : World} {β β' : Nat → Loc}

/-- A loop begins. -/
theorem enter_facts (h : RelB K s a w β) {r : Option Nat} (hr : RFit K r) (fn : FuncId) (ps : Array Nat) (x y : Code) :
    ∃ l mark w1 rc, (Instr.enterLoop fn a.tmps ps x y r).run K.P w = .ok (l, mark) w1 ∧ Ext noM w w1 ∧ w1.heap[l]? = some (.loop rc) ∧ rc = { state := .ready, pending := none, fn := fn, tmps := a.tmps, params := ps, assign := x, body := y, defers := rc.defers } ∧ w.heap.size ≤ l ∧
      (mark.map dof).Nodup ∧ ∀ d ∈ mark, ∃ D, d = { target := .collected D, args := #[] } ∧ w1.heap[D]? = some (.deferred (some [])) ∧ w.heap.size ≤ D := by
  cases r with
  | none =>
    refine ⟨_, _, _, { state := .ready, pending := none, fn := fn, tmps := a.tmps, params := ps, assign := x, body := y, defers := w.heap.size }, run_enterLoop_outer fn a.tmps ps x y, (ext_alloc _ _).trans (ext_alloc _ _), ?_, rfl, ?_, by simp, ?_⟩
    · have := World.alloc_heap_new (w.alloc (.deferred (some []))) (.loop { state := .ready, pending := none, fn, tmps := a.tmps, params := ps, assign := x, body := y, defers := w.heap.size })
      rwa [World.size_alloc] at this
    · omega
    · intro d hd
      rw [List.mem_singleton.1 hd]
      refine ⟨w.heap.size, rfl, ?_, Nat.le_refl _⟩
      exact ((ext_alloc (w.alloc (.deferred (some []))) _).2 _ (by rw [World.size_alloc]; omega) id).trans (World.alloc_heap_new _ _)
  | some l₀ =>
    obtain ⟨r₀, hr⟩ := hr
    have hp := (h.pins _ hr).1
    have hp : w.heap[l₀]? = some (.loop r₀) := hp
    refine ⟨w.heap.size, [], w.alloc (.loop { state := .ready, pending := none, fn, tmps := a.tmps, params := ps, assign := x, body := y, defers := r₀.defers }), { state := .ready, pending := none, fn := fn, tmps := a.tmps, params := ps, assign := x, body := y, defers := r₀.defers }, ?_, ext_alloc _ _, World.alloc_heap_new _ _, rfl, Nat.le_refl _, List.nodup_nil, fun d hd => by cases hd⟩
    unfold Instr.enterLoop
    simp only [Sem.run_bind, run_getLoop hp, run_newObj_alloc, Result.andThen, Sem.run_pure]

/-- Within a round. -/
def KR (K : Ctx) (Mg : Nat → Prop) (w0 : World) (Ml Mf : Nat → Prop) (hm : ∀ b, Ml b → Mf b) (pins : List (Nat × Obj)) (fix : Nat → Option Value) : Ctx :=
  { P := K.P, w0, Mg, Ml, Mf, mlf := hm, nt := K.nt, pins, fix, pos := K.pos, posr := K.posr, nod := False, gid := 0, J := fun _ _ _ _ => True, Jst := fun _ _ _ _ _ _ _ _ _ _ => trivial }
theorem KR_fit (hf : Fit K cx) (hyl : cx.yl = none) {Mg : Nat → Prop} {w0 : World} {Ml Mf : Nat → Prop} {hm : ∀ b, Ml b → Mf b} {pins : List (Nat × Obj)} {fix : Nat → Option Value} : Fit (KR K Mg w0 Ml Mf hm pins fix) cx :=
  ⟨hf.nt, hf.mixed, by rw [hyl]; exact ⟨fun _ _ _ _ => trivial, id⟩⟩

theorem obj_not_loop (h : RelB K s a w β) {o : Nat} {ob : Ob} {b : Nat} (ho : s.obs o = some (some ob)) (hb : (β o).blk = some b) {x : Obj} (hx : w.heap[b]? = some x) (hn : (∀ c e z, x ≠ .cells c e z) ∧ ∀ es c, x ≠ .map es c) : False := by
  rcases (h.ob o ob ho).block hb with ⟨c, e, hc⟩ | ⟨c, e, hc⟩
  · rw [hx] at hc; cases hc; exact hn.1 _ _ _ rfl
  · rw [hx] at hc; cases hc; exact hn.2 _ _ rfl
theorem ext_putObj (w : World) (l : Nat) (o : Obj) : Ext (fun b => b = l) w (w.putObj l o) :=
  ⟨by simp, fun b _ hb => World.putObj_heap_other hb, rfl, rfl⟩

/-- The parameters of a round are written. -/
theorem putPs_rel (h : RelB K s a w β) (hn : NoG s) {two : Bool} {elt : Ty} {ps : Array Nat} {e : elt.D} {us : List Value} (hps : psOk K.nt two elt ps.toList = true) (hfx : ∀ p ∈ ps.toList, K.fix p = none)
    (hu : ∃ cs, YR two elt us cs ∧ Rep K.P elt w (Mset K.Mg s β) cs e) :
    RelB K (putPs two elt s ps e) { a with tmps := (ps.zip us.toArray).foldl (fun tmps (t, v) => tmps.setIfInBounds t v) a.tmps } w β ∧ NoG (putPs two elt s ps e) ∧ us.toArray.size = ps.size := by
  obtain ⟨cs, hy, hr⟩ := hu
  obtain ⟨ps⟩ := ps
  cases two with
  | false =>
    match ps, hps, hfx with
    | [p], hps, hfx =>
      have hps : Nat.ble (p + 1) K.nt = true := hps
      have hy : us = [pack elt cs] := hy
      subst hy
      have ef : ((⟨[p]⟩ : Array Nat).zip [pack elt cs].toArray).foldl (fun tmps (x : Nat × Value) => tmps.setIfInBounds x.1 x.2) a.tmps = a.tmps.setIfInBounds p (pack elt cs) := by simp
      rw [show (fun (tmps : Array Value) (x : Nat × Value) => match x with | (t, v) => tmps.setIfInBounds t v) = fun tmps x => tmps.setIfInBounds x.1 x.2 from rfl, ef]
      have hp : p < K.nt := Nat.le_of_ble_eq_true hps
      have h1 := h.slot (d := p) (v := pack elt cs) (e := ⟨[], .s (.d elt e)⟩) hp (hfx p List.mem_cons_self) (fun t x hx => by rw [hn t] at hx; cases hx) (fun x hx => by cases hx) ⟨fun _ => ⟨cs, hr, rfl⟩, fun hh => absurd (fun x hx => by cases hx) hh⟩
      refine ⟨h1, ?_, rfl⟩
      intro t
      show (put s.env p _ t).g = []
      by_cases e' : t = p
      · subst e'; rw [put_same]
      · rw [put_other _ _ e']; exact hn t
    | [], hps, _ => cases hps
    | _ :: _ :: _, hps, _ => cases hps
  | true =>
    cases elt with
    | p ta tb =>
      match ps, hps, hfx with
      | [p, q], hps, hfx =>
        have hps : ((Nat.ble (p + 1) K.nt && Nat.ble (q + 1) K.nt) && !Nat.beq p q) = true := hps
        simp only [Bool.and_eq_true, Bool.not_eq_true'] at hps
        obtain ⟨⟨hp, hq⟩, hne⟩ := hps
        have hp : p < K.nt := Nat.le_of_ble_eq_true hp
        have hq : q < K.nt := Nat.le_of_ble_eq_true hq
        obtain ⟨c, d, rfl, r1, r2⟩ := hr
        have l1 := r1.length
        have hy : us = [pack ta ((c ++ d).take ta.n), pack tb ((c ++ d).drop ta.n)] := hy
        rw [← l1, List.take_left, List.drop_left] at hy
        subst hy
        have ef : ((⟨[p, q]⟩ : Array Nat).zip [pack ta c, pack tb d].toArray).foldl (fun tmps (x : Nat × Value) => tmps.setIfInBounds x.1 x.2) a.tmps = (a.tmps.setIfInBounds p (pack ta c)).setIfInBounds q (pack tb d) := by simp
        rw [show (fun (tmps : Array Value) (x : Nat × Value) => match x with | (t, v) => tmps.setIfInBounds t v) = fun tmps x => tmps.setIfInBounds x.1 x.2 from rfl, ef]
        have hn1 : NoG { s with env := put s.env p ⟨[], .s (.d ta e.1)⟩ } := by
          intro t
          show (put s.env p _ t).g = []
          by_cases e' : t = p
          · subst e'; rw [put_same]
          · rw [put_other _ _ e']; exact hn t
        have h1 := h.slot (d := p) (v := pack ta c) (e := ⟨[], .s (.d ta e.1)⟩) hp (hfx p List.mem_cons_self) (fun t x hx => by rw [hn t] at hx; cases hx) (fun x hx => by cases hx) ⟨fun _ => ⟨c, r1, rfl⟩, fun hh => absurd (fun x hx => by cases hx) hh⟩
        have h2 := h1.slot (d := q) (v := pack tb d) (e := ⟨[], .s (.d tb e.2)⟩) hq (hfx q (List.mem_cons_of_mem _ List.mem_cons_self)) (fun t x hx => by rw [hn1 t] at hx; cases hx) (fun x hx => by cases hx) ⟨fun _ => ⟨d, r2, rfl⟩, fun hh => absurd (fun x hx => by cases hx) hh⟩
        refine ⟨h2, ?_, rfl⟩
        intro t
        show (put (put s.env p _) q _ t).g = []
        by_cases e' : t = q
        · subst e'; rw [put_same]
        · rw [put_other _ _ e']; exact hn1 t
      | [], hps, _ => cases hps
      | [_], hps, _ => cases hps
      | _ :: _ :: _ :: _, hps, _ => cases hps
    | _ => cases hps

theorem putPs_fr {two : Bool} {elt : Ty} {ps : Array Nat} {e : elt.D} {t : Nat} (ht : t ∉ ps.toList) : (putPs two elt s ps e).env t = s.env t := by
  obtain ⟨ps⟩ := ps
  cases two with
  | false =>
    match ps, ht with
    | [p], ht => exact put_other _ _ (fun e => ht (by simp [e]))
    | [], _ => rfl
    | _ :: _ :: _, _ => rfl
  | true =>
    cases elt with
    | p ta tb =>
      match ps, ht with
      | [p, q], ht =>
        show put (put s.env p _) q _ t = _
        rw [put_other _ _ (fun e => ht (by simp [e])), put_other _ _ (fun e => ht (by simp [e]))]
      | [], _ => rfl
      | [_], _ => rfl
      | _ :: _ :: _ :: _, _ => rfl
    | _ => rfl
theorem putPs_obs {two : Bool} {elt : Ty} {ps : Array Nat} {e : elt.D} : (putPs two elt s ps e).obs = s.obs := by
  unfold putPs
  split <;> rfl
end
end Go.Sx
