/-
  The symbolic layer, part 19: regions in their order.
-/
import Derived.Test.YtlkegffejcndbaaSxI
set_option linter.all false
namespace Go.Sx
section
variable {K : Ctx} {s : ASt} {a : Act} {w w' : World} {β : Nat → Loc} {cx : Cx} {g : List (Nat × Bool)} {o : Oper} {e : Eff} {d : Nat}
variable {r : Option Nat} {n : Nat} {Q : Exit → Act → World → Prop} {ops : Array Oper}

/-- No slot hangs on a guard. -/
def NoG (s : ASt) : Prop := ∀ t, (s.env t).g = []
theorem NoG.bare (s : ASt) : NoG s.bare := by
  intro t
  simp only [ASt.bare]
  split
  · assumption
  · rfl

/-- What a guard's slot holds. -/
theorem guard_val (h : RelB K s a w β) {g : List (Nat × Bool)} (hg : Hold a g) {t : Nat} {b x : Bool} (ht : (t, b) ∈ g) (hv : (s.env t).v = .s (.d .bo x)) : x = b := by
  have h1 : a.tmps.getD t undef = .bool b := hg _ ht
  by_cases hh : Hold a (s.env t).g
  · have h2 := (h.env t).1 hh
    rw [hv] at h2
    have := bool_val h2
    rw [h1] at this
    cases this; rfl
  · have h2 := (h.env t).2 hh
    rw [h1] at h2; cases h2

theorem hold_cond (h : RelB K s a w β) : ∀ {g g' : List (Nat × Bool)}, Hold a g' → (∀ x ∈ g, x ∈ g') → ∀ c, gCond s g = some c → c
  | [], _, _, _, c, hc => by cases hc
  | (t, b) :: g, g', hg, hs, c, hc => by
    have h0 : (match (s.env t).v with | .s (.d .bo x) => cond b (Z.isT x) (Z.isF x) | _ => True) := by
      split
      · rename_i x hx
        have := guard_val h hg (hs _ List.mem_cons_self) hx
        subst this
        cases x <;> rfl
      · trivial
    simp only [gCond] at hc
    split at hc
    · cases hc; exact h0
    · rename_i c' hc'
      cases hc
      exact ⟨h0, hold_cond h hg (fun x hx => hs x (List.mem_cons_of_mem _ hx)) c' hc'⟩

/-- Whose guards hang on operations that were carried out. -/
def GInv (ops : Array Oper) (D : Nat → Prop) (s : ASt) : Prop :=
  ∀ t, ∀ x ∈ (s.env t).g, ∃ j, D j ∧ dstAt ops j = some x.1 ∧ ∃ i b, guardAt ops i = some (j, b)

theorem guards_fact (h : guardsOk ops = true) {i j : Nat} {b : Bool} (hi : guardAt ops i = some (j, b)) : j < i ∧ ∃ t, dstAt ops j = some t ∧ ∀ k, dstAt ops k = some t → k = j := by
  unfold guardsOk at h
  simp only [List.all_eq_true, List.mem_range] at h
  have hlt : ∀ {k : Nat} {α : Type} {f : Oper → Option α} {x : α}, (ops[k]?).bind f = some x → k < ops.size := by
    intro k α f x hk
    cases ho : ops[k]? with
    | none => rw [ho] at hk; cases hk
    | some _ => exact (Array.getElem?_eq_some_iff.1 ho).1
  have h1 := h i (hlt hi)
  rw [hi] at h1
  simp only [Bool.and_eq_true] at h1
  obtain ⟨h1, h2⟩ := h1
  refine ⟨Nat.le_of_ble_eq_true h1, ?_⟩
  split at h2
  · rename_i t ht
    refine ⟨t, ht, fun k hk => ?_⟩
    simp only [List.all_eq_true, List.mem_range, Bool.or_eq_true] at h2
    rcases h2 k (hlt hk) with h3 | h3
    · exact Nat.eq_of_beq_eq_true h3
    · rw [hk] at h3
      simp only [Bool.not_eq_true'] at h3
      rw [Nat.beq_refl] at h3; cases h3
  · cases h2

/-- The guards of an operation, and whether it is wanted. -/
theorem chain_fact (h : RelB K s a w β) (hch : chain s ops o = some g) : (Region.wanted o (yielded ops a.tmps) = true ↔ Hold a g) ∧
    (o.guard = none ∧ g = [] ∨ ∃ j b t, o.guard = some (j, b) ∧ dstAt ops j = some t ∧ g = (t, b) :: (s.env t).g) := by
  unfold chain at hch
  split at hch
  · rename_i hgd
    cases hch
    refine ⟨⟨fun _ => (fun x hx => by cases hx), fun _ => by simp [Region.wanted, hgd]⟩, .inl ⟨hgd, rfl⟩⟩
  · rename_i j b hgd
    split at hch
    · rename_i t ht
      split at hch
      · rename_i x hx
        cases hch
        refine ⟨?_, .inr ⟨j, b, t, hgd, ht, rfl⟩⟩
        have hsz : ∀ v, a.tmps.getD t undef = v → v ≠ undef → a.tmps[t]? = some v := by
          intro v hv hne
          rw [Array.getD_eq_getD_getElem?] at hv
          cases hq : a.tmps[t]? with
          | none => rw [hq] at hv; exact absurd hv.symm hne
          | some u => rw [hq] at hv; rw [← hv]; rfl
        have hy : yielded ops a.tmps j = match a.tmps[t]? with | some (.bool b) => some b | _ => none := by
          unfold yielded
          rw [ht]
          rfl
        by_cases hh : Hold a (s.env t).g
        · have h2 := (h.env t).1 hh
          rw [hx] at h2
          have hv := bool_val h2
          have := hsz _ hv (by simp [undef])
          constructor
          · intro hw
            simp only [Region.wanted, hgd, hy, this, beq_iff_eq, Option.some.injEq] at hw
            subst hw
            intro y hy
            rcases List.mem_cons.1 hy with rfl | hy
            · exact hv
            · exact hh y hy
          · intro hg
            have := guard_val h hg List.mem_cons_self hx
            subst this
            simp [Region.wanted, hgd, hy, *]
        · have h2 := (h.env t).2 hh
          constructor
          · intro hw
            exfalso
            simp only [Region.wanted, hgd, hy, beq_iff_eq] at hw
            rw [Array.getD_eq_getD_getElem?] at h2
            cases hq : a.tmps[t]? with
            | none => rw [hq] at hw; cases hw
            | some u =>
              rw [hq] at h2 hw
              have h2 : u = undef := h2
              subst h2
              cases hw
          · intro hg
            exact absurd (fun y hy => hg y (List.mem_cons_of_mem _ hy)) hh
      · cases hch
    · cases hch

theorem dst_fresh (hgo : guardsOk ops = true) {D : Nat → Prop} (hG : GInv ops D s) {i : Nat} (hi : ops[i]? = some o) (hD : ¬ D i) (hd : o.dst = some d) : ∀ t, ∀ x ∈ (s.env t).g, x.1 ≠ d := by
  intro t x hx he
  obtain ⟨j, hj, hdj, i', b, hi'⟩ := hG t x hx
  obtain ⟨_, t', ht', hu⟩ := guards_fact hgo hi'
  rw [hdj] at ht'
  cases ht'
  have : dstAt ops i = some x.1 := by unfold dstAt; rw [hi, he]; exact hd
  exact hD (hu i this ▸ hj)
theorem g_fresh (hgo : guardsOk ops = true) {D : Nat → Prop} (hG : GInv ops D s) {i : Nat} (hi : ops[i]? = some o) (hD : ¬ D i) (hDj : ∀ j b, guardAt ops i = some (j, b) → D j)
    (hch : (o.guard = none ∧ g = [] ∨ ∃ j b t, o.guard = some (j, b) ∧ dstAt ops j = some t ∧ g = (t, b) :: (s.env t).g)) : ∀ x ∈ g, ∃ j, D j ∧ dstAt ops j = some x.1 ∧ ∃ i b, guardAt ops i = some (j, b) := by
  rcases hch with ⟨_, rfl⟩ | ⟨j, b, t, h1, h2, rfl⟩
  · intro x hx; cases hx
  · intro x hx
    have hg' : guardAt ops i = some (j, b) := by unfold guardAt; rw [hi]; exact h1
    rcases List.mem_cons.1 hx with rfl | hx
    · exact ⟨j, hDj j b hg', h2, i, b, hg'⟩
    · exact hG t x hx

theorem gInv_app (hgo : guardsOk ops = true) {D : Nat → Prop} (hG : GInv ops D s) {i : Nat} (hi : ops[i]? = some o) (hD : ¬ D i) (hDj : ∀ j b, guardAt ops i = some (j, b) → D j)
    (hch : (o.guard = none ∧ g = [] ∨ ∃ j b t, o.guard = some (j, b) ∧ dstAt ops j = some t ∧ g = (t, b) :: (s.env t).g)) : GInv ops (fun j => D j ∨ j = i) (s.app o.dst g e) := by
  intro t x hx
  have key : (∀ x ∈ (s.env t).g, ∃ j, (D j ∨ j = i) ∧ dstAt ops j = some x.1 ∧ ∃ i b, guardAt ops i = some (j, b)) := fun x hx => by
    obtain ⟨j, h1, h2⟩ := hG t x hx
    exact ⟨j, .inl h1, h2⟩
  unfold ASt.app at hx
  cases hd : o.dst with
  | none => rw [hd] at hx; exact key x hx
  | some d =>
    rw [hd] at hx
    by_cases htd : t = d
    · subst htd
      simp only [put_same] at hx
      obtain ⟨j, h1, h2⟩ := g_fresh hgo hG hi hD hDj hch x hx
      exact ⟨j, .inl h1, h2⟩
    · simp only [put_other _ _ htd] at hx
      exact key x hx

theorem put_none (a : Act) (v : Value) : a.put none v = a := by cases a; rfl

/-- **One operation of a region.** -/
theorem op_step (hcx : CxOk K.P cx) (hnt : cx.nt = K.nt) (hgo : guardsOk ops = true) (h : RelB K s a w β) {D : Nat → Prop} (hG : GInv ops D s) {i : Nat} (hi : ops[i]? = some o) (hD : ¬ D i) (hDj : ∀ j b, guardAt ops i = some (j, b) → D j)
    (hch : chain s ops o = some g) (he : eff cx s g o = some e) (hgw : g ≠ [] → e.wr = []) (hdn : ∀ d, o.dst = some d → d < cx.nt) (hfx : ∀ d, o.dst = some d → K.fix d = none) (hob : ∀ p, e.obl = some p → (∀ c, gCond s g = some c → c) → p) {next : Act → World → Prop}
    (hn : ∀ a' w' β', RelB K (s.app o.dst g e) a' w' β' → next a' w') :
    if Region.wanted o (yielded ops a.tmps) then o.wpIn (FF r) n K.P a w next Q else (∀ f, o.about K.P w a.eval = some f → (FF r).fn f) ∧ next (a.put o.dst undef) w := by
  obtain ⟨hw, hform⟩ := chain_fact h hch
  have hfr := g_fresh hgo hG hi hD hDj hform
  have hfresh : ∀ d, o.dst = some d → (∀ t, ∀ x ∈ (s.env t).g, x.1 ≠ d) ∧ ∀ x ∈ g, x.1 ≠ d := by
    intro d hd
    refine ⟨dst_fresh hgo hG hi hD hd, ?_⟩
    intro x hx hxd
    obtain ⟨j, hj, hdj, i', b, hi'⟩ := hfr x hx
    obtain ⟨_, t', ht', hu⟩ := guards_fact hgo hi'
    rw [hdj] at ht'
    cases ht'
    have : dstAt ops i = some x.1 := by unfold dstAt; rw [hi, hxd]; exact hd
    exact hD (hu i this ▸ hj)
  by_cases hwt : Region.wanted o (yielded ops a.tmps) = true
  · rw [if_pos hwt]
    have hg := hw.1 hwt
    refine eff_sound hcx h hg he (fun p hp => hob p hp (fun c hc => hold_cond h hg (fun x hx => hx) c hc)) ?_
    intro v w' β' h1 h2
    cases hd : o.dst with
    | none =>
      refine hn _ w' β' ?_
      rw [put_none]
      have : s.app o.dst g e = after s e.wr := by rw [hd]; rfl
      rw [this]; exact h1
    | some d =>
      obtain ⟨f1, f2⟩ := hfresh d hd
      have := h1.slot (d := d) (v := v) (e := ⟨g, e.av⟩) (by rw [← hnt]; exact hdn d hd) (hfx d hd) f1 f2 ⟨fun _ => h2, fun hh => absurd hg hh⟩
      refine hn _ w' β' ?_
      have ea : s.app o.dst g e = { (after s e.wr) with env := Sx.put (after s e.wr).env d ⟨g, e.av⟩ } := by rw [hd]; rfl
      rw [ea]; exact this
  · rw [if_neg hwt]
    refine ⟨fun _ _ => trivial, ?_⟩
    have hng : ¬ Hold a g := fun hg => hwt (hw.2 hg)
    have hne : g ≠ [] := fun e => hng (by rw [e]; intro x hx; cases hx)
    have hwr := hgw hne
    cases hd : o.dst with
    | none =>
      refine hn _ w β ?_
      rw [put_none]
      have : s.app o.dst g e = s := by unfold ASt.app; rw [hd, hwr]; rfl
      rw [this]; exact h
    | some d =>
      obtain ⟨f1, f2⟩ := hfresh d hd
      have := h.slot (d := d) (v := undef) (e := ⟨g, e.av⟩) (by rw [← hnt]; exact hdn d hd) (hfx d hd) f1 f2 ⟨fun hh => absurd hh hng, fun _ => rfl⟩
      refine hn _ w β ?_
      have ea : s.app o.dst g e = { s with env := Sx.put s.env d ⟨g, e.av⟩ } := by unfold ASt.app; rw [hd, hwr]; rfl
      rw [ea]; exact this

theorem conj_all : ∀ {l : List Prop} {q : Prop}, conj l q → (∀ p ∈ l, p) ∧ q
  | [], q, h => ⟨fun p hp => (by cases hp), h⟩
  | p :: l, q, h => by
    obtain ⟨h1, h2⟩ := conj_all h.2
    exact ⟨fun p' hp => by
      rcases List.mem_cons.1 hp with rfl | hp
      · exact h.1
      · exact h1 p' hp, h2⟩

/-- What the run of the operations says of the first. -/
theorem runOps_cons {rest : List Oper} {R : Run} (h : runOps cx ops (o :: rest) s = some R) :
    ∃ g e R', chain s ops o = some g ∧ eff cx s g o = some e ∧ (g ≠ [] → e.wr = []) ∧ (∀ d, o.dst = some d → d < cx.nt) ∧ runOps cx ops rest (s.app o.dst g e) = some R' ∧
      R.s = R'.s ∧ R.feet = ⟨g.map (·.1), opIds cx s g o, e.wr.map (·.1)⟩ :: R'.feet ∧ (∀ p ∈ R'.obls, p ∈ R.obls) ∧
      ∀ p, e.obl = some p → (∀ q ∈ R.obls, q) → (∀ c, gCond s g = some c → c) → p := by
  simp only [runOps] at h
  split at h
  · cases h
  · rename_i g hg
    split at h
    · cases h
    · rename_i e he
      cases hB : (gwOk g e.wr && ntOk cx.nt o.dst) with
      | false => rw [hB] at h; cases h
      | true =>
      rw [hB] at h
      simp only [cond_true] at h
      simp only [Bool.and_eq_true] at hB
      obtain ⟨k1, k2⟩ := hB
      have k1 : g ≠ [] → e.wr = [] := by
        intro hne
        cases hww : e.wr with
        | nil => rfl
        | cons x l => cases g with
          | nil => exact absurd rfl hne
          | cons y m => rw [hww] at k1; cases k1
      split at h
      · cases h
      · rename_i R' hR'
        cases h
        refine ⟨g, e, R', hg, he, k1, ?_, hR', rfl, rfl, ?_, ?_⟩
        · intro d hd
          rw [hd] at k2
          exact Nat.le_of_ble_eq_true k2
        · intro p hp
          simp only
          split
          · exact hp
          · exact List.mem_cons_of_mem _ hp
          · exact List.mem_cons_of_mem _ hp
        · intro p hp hall hc
          simp only at hall
          rw [hp] at hall
          cases hgc : gCond s g with
          | none => rw [hgc] at hall; exact hall _ List.mem_cons_self
          | some c => rw [hgc] at hall; exact hall _ List.mem_cons_self (hc c hgc)

theorem RelB.bare (h : RelB K s a w β) : RelB K s.bare a w β := by
  have hcc : Compat s β s.bare β := .of_obs _ rfl
  refine ⟨h.frame, h.mg, h.dis, fun o ob ho => (h.ob o ob ho).next hcc (.refl _ _) fun _ _ => rfl, h.inj, h.rng, ?_, h.size, h.defs, h.dnd, h.nod, h.pins, h.gh, h.fix, h.pos⟩
  intro t
  simp only [ASt.bare]
  split
  · exact ⟨fun hh => ((h.env t).1 hh).next hcc (.refl _ _), (h.env t).2⟩
  · exact ⟨fun _ => trivial, fun hh => absurd (fun x hx => by cases hx) hh⟩

def FixO (K : Ctx) (ops : Array Oper) : Prop := ∀ (i : Nat) (o : Oper) (d : Nat), ops[i]? = some o → o.dst = some d → K.fix d = none
theorem seq_sound (hcx : CxOk K.P cx) (hnt : cx.nt = K.nt) (hfx : FixO K ops) (hgo : guardsOk ops = true) : ∀ {l : List Oper} {k : Nat} {s : ASt} {R : Run} {a : Act} {w : World} {β : Nat → Loc}, (∀ j, l[j]? = ops[k + j]?) → runOps cx ops l s = some R → (∀ p ∈ R.obls, p) → RelB K s a w β → GInv ops (fun j => j < k) s →
    (∀ a' w' β', RelB K R.s a' w' β' → Q .normal a' w') → wpListIn (FF r) n K.P ops Q l a w
  | [], k, s, R, a, w, β, _, hr, _, h, _, hQ => by
    simp only [runOps, Option.some.injEq] at hr
    subst hr
    exact hQ a w β h
  | o :: l, k, s, R, a, w, β, hl, hr, hall, h, hG, hQ => by
    obtain ⟨g, e, R', h1, h2, h3, h4, h5, h6, _, h7, h8⟩ := runOps_cons hr
    have hk : ops[k]? = some o := by simpa using (hl 0).symm
    have hDj : ∀ j b, guardAt ops k = some (j, b) → j < k := fun j b hj => (guards_fact hgo hj).1
    have hform := (chain_fact h h1).2
    have hG' := gInv_app (e := e) hgo hG hk (Nat.lt_irrefl k) hDj hform
    refine op_step hcx hnt hgo h hG hk (Nat.lt_irrefl k) hDj h1 h2 h3 h4 (fun d hd => hfx k o d hk hd) (fun p hp hc => h8 p hp hall hc) ?_
    intro a' w' β' hrel
    refine seq_sound hcx hnt hfx hgo (k := k + 1) (fun j => ?_) h5 (fun p hp => hall p (h7 p hp)) hrel ?_ (fun a'' w'' β'' hh => hQ a'' w'' β'' (by rw [h6]; exact hh))
    · have := hl (j + 1)
      simp only [List.getElem?_cons_succ] at this
      rw [this]; congr 1; omega
    · intro t x hx
      obtain ⟨j, hj, rest⟩ := hG' t x hx
      exact ⟨j, by rcases hj with hj | hj <;> omega, rest⟩

theorem NoG.inv (h : NoG s) (D : Nat → Prop) : GInv ops D s := fun t x hx => by rw [h t] at hx; cases hx

theorem region_seq (hcx : CxOk K.P cx) (hnt : cx.nt = K.nt) (hfx : FixO K ops) {id : Nat} {G : ASt → Prop} (hv : vcRegion cx ops false s G) (h : RelB K s a w β) (hn : NoG s)
    (hQ : ∀ s' a' w' β', RelB K s' a' w' β' → NoG s' → G s' → Q .normal a' w') : (Code.region id ops false).wpIn (FF r) n K.P Q a w := by
  unfold vcRegion at hv
  split at hv
  · exact hv.elim
  · rename_i R hR
    cases hc : (guardsOk ops && (!false || drawOk ops R.feet)) with
    | false => rw [hc] at hv; exact hv.elim
    | true =>
      rw [hc] at hv
      simp only [Bool.and_eq_true] at hc
      obtain ⟨h1, h2⟩ := conj_all hv
      exact wpIn_region_list (seq_sound hcx hnt hfx hc.1 (k := 0) (fun j => by simp) hR h1 h (hn.inv _) fun a' w' β' hh => hQ _ a' w' β' hh.bare (NoG.bare _) h2)
end
end Go.Sx
