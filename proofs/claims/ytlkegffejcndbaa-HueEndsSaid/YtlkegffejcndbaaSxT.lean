/-
  The symbolic layer, part 29: iterators.
-/
import Derived.Test.YtlkegffejcndbaaSxS
set_option linter.all false
namespace Go.Sx

theorem YieldAt.mono' {P : Program} {l : Nat} {us : Array Value} {w : World} {R R' : Ending → World → Prop} (h : YieldAt (FF none) 0 P l us w R) (hr : ∀ e w', R e w' → R' e w') : YieldAt (FF none) 0 P l us w R' := by
  obtain ⟨fn, tmps, x, y, h1, h2⟩ := h
  exact ⟨fn, tmps, x, y, h1, h2.mono hr⟩

/-- The rounds' word, as an iterator's context bears it. -/
def JI {elt : Ty} (J Jx : List elt.D → (Nat → Prop) → (Nat → Prop) → World → Prop) (g : Option Dv) (G M : Nat → Prop) (w : World) : Prop :=
  ∃ (l : List elt.D) (b : Bool), g = some ⟨yTy elt, (l, b)⟩ ∧ (b = false → J l G M w) ∧ (b = true → Jx l G M w)
theorem JI_inj {elt : Ty} {J Jx : List elt.D → (Nat → Prop) → (Nat → Prop) → World → Prop} {p : List elt.D} {b : Bool} {G M : Nat → Prop} {w : World} (h : JI J Jx (some ⟨yTy elt, (p, b)⟩) G M w) : (b = false → J p G M w) ∧ (b = true → Jx p G M w) := by
  obtain ⟨l, b', e, h1, h2⟩ := h
  have e := Option.some.inj e
  injection e with _ e
  have e : (p, b) = (l, b') := e
  cases e
  exact ⟨h1, h2⟩

theorem JI_st {elt : Ty} {w : World} {J Jx : List elt.D → (Nat → Prop) → (Nat → Prop) → World → Prop} (hst : Stab w J) (hstx : Stab w Jx) (g : Option Dv) (G M : Nat → Prop) (w₁ : World) (G' : Nat → Prop) (w' : World)
    (h : JI J Jx g G M w₁) (ht : Trx G w₁ G' w') (hG : ∀ b, G b → ¬ M b ∧ (w.heap.size ≤ b ∨ False)) (hG' : ∀ b, G' b → b < w'.heap.size) : JI J Jx g G' M w' := by
  obtain ⟨l, b, e, h1, h2⟩ := h
  have hg : ∀ b, G b → ¬ M b ∧ w.heap.size ≤ b := fun b hg => ⟨(hG b hg).1, (hG b hg).2.resolve_right id⟩
  exact ⟨l, b, e, fun hb => hst l G M w₁ G' w' (h1 hb) ht hg hG', fun hb => hstx l G M w₁ G' w' (h2 hb) ht hg hG'⟩

theorem holdsI_of_vc {P : Program} {f : Nat} {fn : Func} {c : Code} {k : ICon} (hf : P.funcs[f]? = some fn) (hb : fn.body = some c) (hm : P.follows .mixedOrders = true) (hres : fn.results = #[]) (hargs : k.args.length + 1 ≤ fn.ntmps)
    (hv : ∀ x ly, k.pre x → ∃ cx gid, CxOk P cx ∧ cx.yl = some ⟨ly, gid, k.two, k.elt, k.seq x⟩ ∧ cx.nt = fn.ntmps ∧ vcIter cx fn k x) : HoldsI P f k := by
  intro w M vs x hlt hA hpre ly J Jx hst hstx hltJ hltJx hround hJ0
  obtain ⟨cx, gid, hcx, hyl, hnt, hvc⟩ := hv x ly hpre
  have hl := hA.length
  simp only [vcIter, hb, hyl] at hvc
  obtain ⟨K, hK⟩ : ∃ K : Ctx, K = { P, w0 := w, Mg := M, Ml := fun _ => False, Mf := fun _ => True, mlf := fun _ h => trivial, nt := fn.ntmps, pins := [], fix := fun _ => none, pos := fun _ => none, posr := fun _ _ h => (by cases h), nod := True, gid := gid, J := JI J Jx, Jst := JI_st hst hstx } := ⟨_, rfl⟩
  have hKP : K.P = P := by rw [hK]
  have hKJ : K.J = JI J Jx := by rw [hK]
  have hKg : K.gid = gid := by rw [hK]
  have hKw : K.w0 = w := by rw [hK]
  have hfit : Fit K cx := by
    refine ⟨by rw [hK]; exact hnt, by rw [hK]; exact hm, ?_⟩
    rw [hyl]
    refine ⟨hKg, by rw [hK]; trivial, by rw [hK]; exact fun _ h => h, by rw [hK]; exact fun _ => trivial, by rw [hK], ?_, ?_⟩
    · rw [hKJ]
      rintro g G M w' ⟨l, b, e, h1, h2⟩
      cases b with
      | false => exact hltJ l G M w' (h1 rfl)
      | true => exact hltJx l G M w' (h2 rfl)
    · intro p e r G M w' us hall hj hre hG hG2
      rw [hKJ] at hj ⊢
      rw [hKw] at hG
      rw [hKP] at hre ⊢
      refine YieldAt.mono' (hround p e r G M w' us hall ((JI_inj hj).1 rfl) hre hG hG2) ?_
      rintro r' w₂ (⟨h1, M₂, h2, h3⟩ | ⟨h1, M₂, h2, h3⟩)
      · exact .inl ⟨h1, M₂, ⟨_, false, rfl, fun _ => h2, fun h => by cases h⟩, h3⟩
      · exact .inr ⟨h1, M₂, ⟨_, true, rfl, fun h => (by cases h), fun _ => h2⟩, h3⟩
  obtain ⟨s0, hs0⟩ : ∃ s0 : ASt, s0 = iterS gid ly k.elt x := ⟨_, rfl⟩
  have hgid : s0.obs gid = some (some (.gh (yTy k.elt) ([], false))) := by rw [hs0]; simp only [iterS, Nat.beq_refl, cond_true]
  have hobs : ∀ o ob, s0.obs o = some (some ob) → ob = .gh (yTy k.elt) ([], false) := by
    intro o ob ho
    rw [hs0] at ho
    simp only [iterS] at ho
    cases hb' : Nat.beq o gid with
    | true => rw [hb'] at ho; cases ho; rfl
    | false => rw [hb'] at ho; cases ho
  have hown : Own s0 (fun _ => ⟨none, .slice none 0 0⟩) = fun _ => False := by
    funext b
    refine propext ⟨?_, fun h => h.elim⟩
    rintro ⟨o, ob, _, _, h3⟩
    cases h3
  have h0 : RelB K s0 { tmps := (#[Value.func (.yield ly) #[] #[]] ++ vs.toArray) ++ Array.replicate (fn.ntmps - (#[Value.func (.yield ly) #[] #[]] ++ vs.toArray).size) undef, defers := [] } w (fun _ => ⟨none, .slice none 0 0⟩) := by
    refine ⟨?_, ?_, fun _ _ _ _ h => (by cases h), ?_, fun _ _ _ _ _ _ _ h => (by cases h), fun _ _ _ _ _ h => (by cases h), ?_, ?_, fun _ h => (by cases h), List.nodup_nil, fun _ => rfl, ?_, ?_, ?_, ?_⟩
    · rw [hK]; exact .refl _ _
    · rw [hK]; exact hlt
    · intro o ob ho
      rw [hobs o ob ho]; rfl
    · intro t
      have hML : ∀ b, Mset K.Mg s0 (fun _ => ⟨none, .slice none 0 0⟩) b → M b := by
        rintro b (hb' | hb')
        · rw [hK] at hb'; exact hb'
        · rw [hown] at hb'; exact hb'.elim
      cases t with
      | zero =>
        have he : s0.env 0 = ⟨[], .yl ly⟩ := by rw [hs0]; rfl
        have e : ((#[Value.func (.yield ly) #[] #[]] ++ vs.toArray) ++ Array.replicate (fn.ntmps - (#[Value.func (.yield ly) #[] #[]] ++ vs.toArray).size) undef).getD 0 undef = Value.func (.yield ly) #[] #[] := by
          rw [Array.getD_eq_getD_getElem?, Array.append_assoc, Array.getElem?_append_left (by simp)]
          rfl
        rw [he, e]
        exact ⟨fun _ => rfl, fun hh => absurd (fun x hx => by cases hx) hh⟩
      | succ t =>
        have := init_env (P := K.P) (s := s0) (β := fun _ => ⟨none, .slice none 0 0⟩) (a := { tmps := (#[Value.func (.yield ly) #[] #[]] ++ vs.toArray) ++ Array.replicate (fn.ntmps - (#[Value.func (.yield ly) #[] #[]] ++ vs.toArray).size) undef, defers := [] }) (w := w) (M := Mset K.Mg s0 (fun _ => ⟨none, .slice none 0 0⟩)) (r := Array.replicate (fn.ntmps - (#[Value.func (.yield ly) #[] #[]] ++ vs.toArray).size) undef) (args_svs (s := s0) (β := fun _ => ⟨none, .slice none 0 0⟩) (by rw [hKP]; exact hA.tr ⟨.refl _ _, fun b _ hm => hML b hm⟩)) t
        have he : s0.env (t + 1) = initEnv ((unDs k.args x).map fun v => .d v.t v.x) t := by rw [hs0]; rfl
        have e : ((#[Value.func (.yield ly) #[] #[]] ++ vs.toArray) ++ Array.replicate (fn.ntmps - (#[Value.func (.yield ly) #[] #[]] ++ vs.toArray).size) undef).getD (t + 1) undef = (vs.toArray ++ Array.replicate (fn.ntmps - (#[Value.func (.yield ly) #[] #[]] ++ vs.toArray).size) undef).getD t undef := by
          rw [Array.getD_eq_getD_getElem?, Array.getD_eq_getD_getElem?, Array.append_assoc, Array.getElem?_append_right (by simp)]
          simp
        rw [he, e]
        exact this
    · rw [hK]
      simp only [Array.size_append, Array.size_replicate, List.size_toArray, List.length_cons, List.length_nil]
      omega
    · rw [hK]; exact fun _ h => by cases h
    · rw [hKg, hgid, hown, hKJ]
      refine ⟨[], false, rfl, fun _ => ?_, fun h => by cases h⟩
      rw [hK]; exact hJ0
    · rw [hK]; exact fun _ _ h => by cases h
    · rw [hK]; exact fun _ _ h => by cases h
  have hng : NoG s0 := by
    intro t
    rw [hs0]
    cases t with
    | zero => rfl
    | succ t => exact noG_init (l := (unDs k.args x).map fun v => .d v.t v.x) (obs := fun _ => none) t
  rw [← hs0] at hvc
  refine calls_of_wide (n := 0) (callsIn_of_wp_marks hf hb trivial ?_)
  have hwp := vc_sound loop_rule range_rule c K none 0 (by rw [hKP]; exact hcx) hfit trivial (by rw [hK]; exact fun _ _ => rfl) K.Mg _ (bodyPostM (FF none) 0 P fn (fun r w' => (∃ v, r = .returned v) ∧ ((∃ M, J (k.seq x) (fun _ => False) M w') ∨ ∃ p M, Jx p (fun _ => False) M w'))) _ _ _ _ hvc (show RelB (K.mg K.Mg) s0 _ w _ from h0) hng ?_
  · rw [hKP] at hwp; exact hwp
  · intro M' hM' e s a w' β' hq h hn
    have hd : a.defers = [] := h.nod (by show K.nod; rw [hK]; trivial)
    have hgh : K.J (ghOf (s.obs K.gid)) (Own s β') M' w' := h.gh
    rw [hKg, hKJ] at hgh
    have hside : ∀ b, Own s β' b → ¬ M' b ∧ w.heap.size ≤ b := by
      rintro b ⟨o, ob, h1, h2, h3⟩
      refine ⟨h.dis o ob b h1 h3, ?_⟩
      have := h.rng o ob b h1 h2 h3
      rw [show (K.mg M').w0 = w from hKw] at this
      exact this.resolve_right (by show ¬ K.Ml b; rw [hK]; exact id)
    have htr : Trx (Own s β') w' (fun _ => False) w' := ⟨.refl _ _, fun _ _ h => h.elim⟩
    have fin : (iterQ gid k.elt (k.seq x) s) → LeavesInM (FF none) 0 P fn a.tmps (fun r w' => (∃ v, r = .returned v) ∧ ((∃ M, J (k.seq x) (fun _ => False) M w') ∨ ∃ p M, Jx p (fun _ => False) M w')) a.defers .returning w' := by
      intro hq
      rw [hd]
      unfold iterQ at hq
      refine ⟨_, results_none hres _ _ _, ⟨_, rfl⟩, ?_⟩
      split at hq
      · rename_i t z hobz
        split at hq
        · rename_i l hcl
          rw [hobz] at hgh
          obtain ⟨e1, e2⟩ := castD_some hcl
          cases e1
          have e2 : l = z.1 := e2
          subst e2
          have hgh := JI_inj (p := z.1) (b := z.2) hgh
          cases hz : z.2 with
          | false =>
            have hall : z.1 = k.seq x := hq hz
            left
            refine ⟨M', ?_⟩
            rw [← hall]
            exact hst _ _ _ _ _ _ (hgh.1 hz) htr hside (fun _ h => h.elim)
          | true =>
            exact .inr ⟨z.1, M', hstx _ _ _ _ _ _ (hgh.2 hz) htr hside (fun _ h => h.elim)⟩
        · exact hq.elim
      · exact hq.elim
    cases e with
    | normal => exact fin hq
    | ret => exact fin hq
    | _ => exact hq.elim
end Go.Sx
