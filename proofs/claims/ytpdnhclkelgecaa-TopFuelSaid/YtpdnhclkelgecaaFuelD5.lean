/-
  Chapter 13: what the best plan is: of all plans that can be followed the first of the cheapest. Plain Lean; no program in sight.
-/
import Derived.Test.YtpdnhclkelgecaaFuelD4
set_option linter.all false


set_option maxRecDepth 100000
namespace Go.Fuel
open Go Go.Sx

theorem snoc_ind {α : Type} {Q : List α → Prop} (h0 : Q []) (h1 : ∀ l a, Q l → Q (l ++ [a])) (l : List α) : Q l := by
  have : ∀ r : List α, Q r.reverse := by
    intro r
    induction r with
    | nil => exact h0
    | cons a r ih => rw [List.reverse_cons]; exact h1 _ _ ih
  simpa using this l.reverse
/-- The order of feeds, and of plans. -/
def tlt (a b : Feed) : Prop := a.1 < b.1 ∨ (a.1 = b.1 ∧ a.2 < b.2)
def lexle : List Feed → List Feed → Prop
  | [], _ => True
  | _ :: _, [] => False
  | a :: p, b :: q => tlt a b ∨ (a = b ∧ lexle p q)
/-- A plan can be followed from here on; what it costs; what is left. -/
def fitsAt (b : Burn) (x : Load) (left : Int) (f : Feed) : Prop := mayB f = true ∧ f.1 ≤ haveV b left x.1 ∧ doesB b f x.2 = true
def fits (b : Burn) : List Load → Int → List Feed → Prop
  | [], _, [] => True
  | x :: l, left, f :: p => fitsAt b x left f ∧ fits b l (haveV b left x.1 - f.1) p
  | _, _, _ => False
def costR (b : Burn) : List Load → Int → List Feed → Int
  | x :: l, left, f :: p => costR b l (haveV b left x.1 - f.1) p + cartV b left x.1 + b.2.2.2.1 * f.2
  | _, _, _ => 0
def leftR (b : Burn) : List Load → Int → List Feed → List Int
  | x :: l, left, f :: p => (haveV b left x.1 - f.1) :: leftR b l (haveV b left x.1 - f.1) p
  | _, _, _ => []
theorem fits_len {b : Burn} : ∀ {l : List Load} {left : Int} {p : List Feed}, fits b l left p → p.length = l.length
  | [], _, [], _ => rfl
  | _ :: l, left, _ :: p, h => by rw [List.length_cons, List.length_cons, fits_len h.2]
theorem leftR_len {b : Burn} : ∀ {l : List Load} {left : Int} {p : List Feed}, fits b l left p → (leftR b l left p).length = l.length
  | [], _, [], _ => rfl
  | _ :: l, left, _ :: p, h => by rw [leftR, List.length_cons, List.length_cons, leftR_len h.2]
/-- Following a plan: it goes to its end just if it fits. -/
theorem follow_fits {b : Burn} {plan : List Feed} : ∀ (l : List Load) (i : Nat) (have_ cost : Int) (left : List Int),
    (fits b l have_ (plan.drop i) → followGo b plan l i have_ cost left = (left ++ leftR b l have_ (plan.drop i), cost + costR b l have_ (plan.drop i), ((i + l.length : Nat) : Int), 0)) ∧
    ((followGo b plan l i have_ cost left).2.2.2 = 0 → fits b l have_ (plan.drop i))
  | [], i, have_, cost, left => by
    simp only [followGo]
    by_cases h : i < plan.length
    · rw [decide_eq_true h, drop_getD plan (0, 0) i h]
      exact ⟨fun hf => hf.elim, fun h0 => by simp at h0⟩
    · rw [decide_eq_false h, List.drop_eq_nil_of_le (by omega)]
      refine ⟨fun _ => ?_, fun _ => trivial⟩
      simp [leftR, costR]
  | x :: l, i, have_, cost, left => by
    simp only [followGo]
    by_cases h : i < plan.length
    · rw [decide_eq_false (show ¬ plan.length ≤ i by omega), drop_getD plan (0, 0) i h, cond_false]
      obtain ⟨f, hf⟩ : ∃ f, f = plan.getD i (0, 0) := ⟨_, rfl⟩
      rw [← hf]
      obtain ⟨i1, i2⟩ := follow_fits (b := b) (plan := plan) l (i + 1) (haveV b have_ x.1 - f.1) (cost + (cartV b have_ x.1 + b.2.2.2.1 * f.2)) (left ++ [haveV b have_ x.1 - f.1])
      constructor
      · rintro ⟨⟨h1, h2, h3⟩, h4⟩
        rw [h1, h3, decide_eq_false (show ¬ haveV b have_ x.1 < f.1 by omega), i1 h4]
        simp only [leftR, costR, Bool.not_true, cond_false, List.append_assoc, List.cons_append, List.nil_append, List.length_cons]
        rw [show i + 1 + l.length = i + (l.length + 1) by omega, show cost + (cartV b have_ x.1 + b.2.2.2.1 * f.2) + costR b l (haveV b have_ x.1 - f.1) (List.drop (i + 1) plan) = cost + (costR b l (haveV b have_ x.1 - f.1) (List.drop (i + 1) plan) + cartV b have_ x.1 + b.2.2.2.1 * f.2) by omega]
      · intro h0
        cases h1 : mayB f with
        | false => rw [h1] at h0; simp at h0
        | true =>
          rw [h1] at h0
          by_cases h2 : haveV b have_ x.1 < f.1
          · rw [decide_eq_true h2] at h0; simp at h0
          · rw [decide_eq_false h2] at h0
            cases h3 : doesB b f x.2 with
            | false => rw [h3] at h0; simp at h0
            | true =>
              rw [h3] at h0
              exact ⟨⟨h1, by omega, h3⟩, i2 (by simpa using h0)⟩
    · rw [decide_eq_true (show plan.length ≤ i by omega), List.drop_eq_nil_of_le (by omega)]
      exact ⟨fun hf => hf.elim, fun h0 => by simp at h0⟩
theorem feeds_iff {b : Burn} {need : Span} {h : Int} {e : Feed} : e ∈ feedsV b need h ↔ 0 ≤ e.1 ∧ e.1 ≤ h ∧ coalB b need e.1 = true ∧ e.2 = (coalS b need e.1).1 := by
  constructor
  · intro he
    obtain ⟨d, e1, e2, e3, e4⟩ := feeds_mem he
    rw [e1]
    exact ⟨by omega, e2, e3, e4⟩
  · rintro ⟨h1, h2, h3, h4⟩
    obtain ⟨d, a⟩ := e
    simp only at h1 h2 h3 h4
    obtain ⟨n, rfl⟩ : ∃ n : Nat, d = (n : Int) := ⟨d.toNat, by omega⟩
    simp only [feedsV, List.mem_flatMap, List.mem_range]
    refine ⟨n, by omega, ?_⟩
    rw [feedsAt, h3, cond_true, h4]
    exact List.mem_cons_self
theorem feeds_sorted (b : Burn) (need : Span) (h : Int) : (feedsV b need h).Pairwise fun e e' => e.1 < e'.1 := by
  unfold feedsV
  rw [List.pairwise_flatMap]
  have key : ∀ (d : Nat) (e : Feed), e ∈ feedsAt b need d → e.1 = (d : Int) := by
    intro d e he
    unfold feedsAt at he
    cases hb : coalB b need (d : Int) with
    | false => rw [hb] at he; cases he
    | true => rw [hb, cond_true, List.mem_singleton] at he; rw [he]
  constructor
  · intro d _
    unfold feedsAt
    cases coalB b need (d : Int) with
    | false => exact List.Pairwise.nil
    | true => exact List.Pairwise.cons (fun e he => by cases he) List.Pairwise.nil
  · refine (List.pairwise_lt_range).imp fun {a c} hab x hx y hy => ?_
    rw [key a x hx, key c y hy]
    omega
/-- The first of the cheapest. -/
theorem fold_best {E : Type} {R : E → E → Prop} (C : E → Option Rest) (hC : ∀ e r, C e = some r → r.2.2 = true) (g : Rest → E → Rest)
    (hn : ∀ b e, C e = none → g b e = b) (hs : ∀ b e r, C e = some r → g b e = cond (!b.2.2 || decide (r.2.1 < b.2.1)) r b) (b0 : Rest) (h0 : b0.2.2 = false) (es : List E) (hR : es.Pairwise R) :
    ((es.foldl g b0).2.2 = true → ∃ e ∈ es, C e = some (es.foldl g b0)) ∧
    ∀ e ∈ es, ∀ r, C e = some r → (es.foldl g b0).2.2 = true ∧ (es.foldl g b0).2.1 ≤ r.2.1 ∧ ((es.foldl g b0).2.1 = r.2.1 → ∃ e' ∈ es, C e' = some (es.foldl g b0) ∧ (e' = e ∨ R e' e)) := by
  revert hR
  refine snoc_ind (Q := fun es => es.Pairwise R → ((es.foldl g b0).2.2 = true → ∃ e ∈ es, C e = some (es.foldl g b0)) ∧
    ∀ e ∈ es, ∀ r, C e = some r → (es.foldl g b0).2.2 = true ∧ (es.foldl g b0).2.1 ≤ r.2.1 ∧ ((es.foldl g b0).2.1 = r.2.1 → ∃ e' ∈ es, C e' = some (es.foldl g b0) ∧ (e' = e ∨ R e' e))) ?_ ?_ es
  · intro _
    refine ⟨fun h => ?_, fun e he => by cases he⟩
    rw [List.foldl_nil, h0] at h; cases h
  · intro es a ih hR
    rw [List.pairwise_append] at hR
    obtain ⟨hR1, _, hR2⟩ := hR
    obtain ⟨i1, i2⟩ := ih hR1
    rw [List.foldl_append, List.foldl_cons, List.foldl_nil]
    obtain ⟨b, hb⟩ : ∃ b, b = es.foldl g b0 := ⟨_, rfl⟩
    rw [← hb] at i1 i2 ⊢
    cases hca : C a with
    | none =>
      rw [hn b a hca]
      refine ⟨fun h => ?_, fun e he r hr => ?_⟩
      · obtain ⟨e, he, hc⟩ := i1 h
        exact ⟨e, List.mem_append_left _ he, hc⟩
      · rcases List.mem_append.1 he with he | he
        · obtain ⟨k1, k2, k3⟩ := i2 e he r hr
          refine ⟨k1, k2, fun h => ?_⟩
          obtain ⟨e', he', k4⟩ := k3 h
          exact ⟨e', List.mem_append_left _ he', k4⟩
        · rw [List.mem_singleton.1 he, hca] at hr; cases hr
    | some ra =>
      rw [hs b a ra hca]
      cases hbet : (!b.2.2 || decide (ra.2.1 < b.2.1)) with
      | true =>
        rw [cond_true]
        have hra := hC a ra hca
        refine ⟨fun _ => ⟨a, List.mem_append_right _ List.mem_cons_self, hca⟩, fun e he r hr => ?_⟩
        rcases List.mem_append.1 he with he | he
        · obtain ⟨k1, k2, k3⟩ := i2 e he r hr
          rw [k1] at hbet
          simp only [Bool.not_true, Bool.false_or, decide_eq_true_eq] at hbet
          exact ⟨hra, by omega, fun h => by omega⟩
        · have := List.mem_singleton.1 he
          subst this
          rw [hca] at hr; cases hr
          exact ⟨hra, Int.le_refl _, fun _ => ⟨e, List.mem_append_right _ List.mem_cons_self, hca, .inl rfl⟩⟩
      | false =>
        rw [cond_false]
        simp only [Bool.or_eq_false_iff, Bool.not_eq_false', decide_eq_false_iff_not] at hbet
        refine ⟨fun h => ?_, fun e he r hr => ?_⟩
        · obtain ⟨e, he, hc⟩ := i1 h
          exact ⟨e, List.mem_append_left _ he, hc⟩
        · rcases List.mem_append.1 he with he | he
          · obtain ⟨k1, k2, k3⟩ := i2 e he r hr
            refine ⟨k1, k2, fun h => ?_⟩
            obtain ⟨e', he', k4⟩ := k3 h
            exact ⟨e', List.mem_append_left _ he', k4⟩
          · have := List.mem_singleton.1 he
            subst this
            rw [hca] at hr; cases hr
            obtain ⟨e', he', hc'⟩ := i1 hbet.1
            exact ⟨hbet.1, by omega, fun _ => ⟨e', List.mem_append_left _ he', hc', .inr (hR2 e' he' e List.mem_cons_self)⟩⟩
/-- A candidate. -/
def cand (b : Burn) (f : Int → Rest) (hv cv : Int) (e : Feed) : Option Rest :=
  cond (f (hv - e.1)).2.2 (some (e :: (f (hv - e.1)).1, (f (hv - e.1)).2.1 + cv + b.2.2.2.1 * e.2, true)) none
theorem cand_some {b : Burn} {f : Int → Rest} {hv cv : Int} {e : Feed} {r : Rest} : cand b f hv cv e = some r ↔ (f (hv - e.1)).2.2 = true ∧ r = (e :: (f (hv - e.1)).1, (f (hv - e.1)).2.1 + cv + b.2.2.2.1 * e.2, true) := by
  unfold cand
  cases (f (hv - e.1)).2.2 with
  | false => simp
  | true => rw [cond_true, Option.some_inj]; exact ⟨fun h => ⟨rfl, h.symm⟩, fun h => h.2.symm⟩
theorem better_cand {b : Burn} {f : Int → Rest} {hv cv : Int} (r0 : Rest) (e : Feed) :
    (cand b f hv cv e = none → better b f hv cv r0 e = r0) ∧ ∀ r, cand b f hv cv e = some r → better b f hv cv r0 e = cond (!r0.2.2 || decide (r.2.1 < r0.2.1)) r r0 := by
  unfold cand better
  simp only
  cases hi : (f (hv - e.1)).2.2 with
  | false => exact ⟨fun _ => rfl, fun r h => (by cases h)⟩
  | true =>
    refine ⟨fun h => (by cases h), fun r h => ?_⟩
    rw [cond_true, Option.some_inj] at h
    subst h
    rfl
/-- **The best plan.** -/
theorem best_spec {b : Burn} (B : OkB b) : ∀ (l : List Load) (left : Int), (∀ x ∈ l, 0 ≤ x.1 ∧ x.1 ≤ 40) → 0 ≤ left ∧ left ≤ 60 →
    ((bestG b l left).2.2 = true → fits b l left (bestG b l left).1 ∧ (bestG b l left).2.1 = costR b l left (bestG b l left).1) ∧
    ∀ p, fits b l left p → (bestG b l left).2.2 = true ∧ (bestG b l left).2.1 ≤ costR b l left p ∧ ((bestG b l left).2.1 = costR b l left p → lexle (bestG b l left).1 p)
  | [], left, _, _ => by
    refine ⟨fun _ => ⟨trivial, rfl⟩, fun p hp => ?_⟩
    cases p with
    | nil => exact ⟨rfl, Int.le_refl _, fun _ => trivial⟩
    | cons f p => exact hp.elim
  | x :: l, left, hl, hs => by
    have hx := hl x List.mem_cons_self
    have q := stored_bd B hs hx
    obtain ⟨hv, hhv⟩ : ∃ a, a = haveV b left x.1 := ⟨_, rfl⟩
    obtain ⟨cv, hcv⟩ : ∃ a, a = cartV b left x.1 := ⟨_, rfl⟩
    rw [← hhv, ← hcv] at q
    have eG : bestG b (x :: l) left = (feedsV b x.2 hv).foldl (better b (bestG b l) hv cv) ([], 0, false) := by rw [bestG, hhv, hcv]
    have ih : ∀ d : Int, 0 ≤ d → d ≤ hv → _ := fun d h1 h2 => best_spec B l (hv - d) (fun y hy => hl y (List.mem_cons_of_mem _ hy)) ⟨by omega, by omega⟩
    obtain ⟨f1, f2⟩ := fold_best (R := fun e e' : Feed => e.1 < e'.1) (cand b (bestG b l) hv cv) (fun e r h => by rw [(cand_some.1 h).2]) (better b (bestG b l) hv cv)
      (fun r0 e h => (better_cand r0 e).1 h) (fun r0 e r h => (better_cand r0 e).2 r h) ([], 0, false) rfl (feedsV b x.2 hv) (feeds_sorted _ _ _)
    rw [← eG] at f1 f2
    obtain ⟨G, hG⟩ : ∃ G, G = bestG b (x :: l) left := ⟨_, rfl⟩
    rw [← hG] at f1 f2 ⊢
    refine ⟨fun h => ?_, fun p hp => ?_⟩
    · obtain ⟨e, he, hc⟩ := f1 h
      obtain ⟨e1, e2, e3, e4⟩ := feeds_iff.1 he
      have cb := coal_bd e3
      obtain ⟨c1, c2⟩ := cand_some.1 hc
      obtain ⟨i1, _⟩ := ih e.1 e1 e2
      obtain ⟨i3, i4⟩ := i1 c1
      rw [c2]
      refine ⟨⟨⟨may_iff.2 ⟨⟨e1, by omega⟩, by omega, by omega⟩, by rw [← hhv]; exact e2, ?_⟩, by rw [← hhv]; exact i3⟩, ?_⟩
      · exact (does_iff B x.2 e.1 e.2 ⟨by omega, by omega⟩).2 ⟨by omega, by omega⟩
      · simp only [costR]
        rw [← hhv, ← hcv, i4]
    · cases p with
      | nil => exact hp.elim
      | cons f p =>
        obtain ⟨⟨h1, h2, h3⟩, h4⟩ := hp
        rw [← hhv] at h2 h4
        have M := may_iff.1 h1
        have hd := (does_iff B x.2 f.1 f.2 M.2).1 h3
        have hcb : coalB b x.2 f.1 = true := decide_eq_true (by omega)
        obtain ⟨e, hee⟩ : ∃ e : Feed, e = (f.1, (coalS b x.2 f.1).1) := ⟨_, rfl⟩
        have he1 : e.1 = f.1 := by rw [hee]
        have he2 : e.2 = (coalS b x.2 f.1).1 := by rw [hee]
        have he : e ∈ feedsV b x.2 hv := feeds_iff.2 ⟨by omega, by omega, by rw [he1]; exact hcb, by rw [he1, he2]⟩
        obtain ⟨_, i2⟩ := ih f.1 M.1.1 h2
        obtain ⟨i3, i4, i5⟩ := i2 p h4
        have hce : cand b (bestG b l) hv cv e = some (e :: (bestG b l (hv - f.1)).1, (bestG b l (hv - f.1)).2.1 + cv + b.2.2.2.1 * e.2, true) := by
          rw [cand_some, he1]; exact ⟨i3, rfl⟩
        obtain ⟨k1, k2, k3⟩ := f2 e he _ hce
        have hpr : b.2.2.2.1 * e.2 ≤ b.2.2.2.1 * f.2 := Int.mul_le_mul_of_nonneg_left (by omega) B.price.1
        have hco : costR b (x :: l) left (f :: p) = costR b l (hv - f.1) p + cv + b.2.2.2.1 * f.2 := by rw [costR, ← hhv, ← hcv]
        rw [hco]
        simp only at k2 k3
        refine ⟨k1, by omega, fun heq => ?_⟩
        obtain ⟨e', he', hce', hor⟩ := k3 (by omega)
        obtain ⟨c1, c2⟩ := cand_some.1 hce'
        rw [c2]
        show tlt e' f ∨ (e' = f ∧ lexle _ p)
        rcases hor with rfl | hlt
        · rcases Int.lt_or_eq_of_le (show e'.2 ≤ f.2 by omega) with h | h
          · exact .inl (.inr ⟨he1, h⟩)
          · refine .inr ⟨Prod.ext he1 h, ?_⟩
            rw [he1]
            refine i5 ?_
            rw [c2, he1] at heq
            simp only at heq
            rw [h] at heq
            omega
        · exact .inl (.inl (by omega))
theorem best_all {b : Burn} {l : List Load} (hb : burnB b = true) (hl : loadsB l = true) :
    (bestOut b l = ([], 0, 4) ∧ ∀ p, ¬ fits b l 0 p) ∨
    ∃ P, bestOut b l = (P, costR b l 0 P, 0) ∧ fits b l 0 P ∧ ∀ p, fits b l 0 p → costR b l 0 P ≤ costR b l 0 p ∧ (costR b l 0 P = costR b l 0 p → lexle P p) := by
  have L := loads_iff.1 hl
  obtain ⟨h1, h2⟩ := best_spec (burn_iff.1 hb) l 0 (fun x hx => (L.load x hx).1) ⟨by omega, by omega⟩
  have hO : bestOut b l = cond (!(bestG b l 0).2.2) ([], 0, 4) ((bestG b l 0).1, (bestG b l 0).2.1, 0) := by rw [bestOut, hb, hl]; rfl
  obtain ⟨T, hT⟩ : ∃ T, T = bestG b l 0 := ⟨_, rfl⟩
  rw [← hT] at h1 h2 hO
  cases hi : T.2.2 with
  | false =>
    rw [hi] at hO
    exact .inl ⟨hO, fun p hp => by have := (h2 p hp).1; rw [hi] at this; cases this⟩
  | true =>
    rw [hi] at hO
    obtain ⟨k1, k2⟩ := h1 hi
    refine .inr ⟨T.1, by rw [hO, k2]; rfl, k1, fun p hp => ?_⟩
    have := h2 p hp
    rw [k2] at this
    exact this.2
/-- Following a plan, all in all. -/
theorem follow_all {b : Burn} {l : List Load} (hb : burnB b = true) (hl : loadsB l = true) (p : List Feed) :
    (fits b l 0 p → followV b l p = (leftR b l 0 p, costR b l 0 p, (l.length : Int), 0)) ∧ ((followV b l p).2.2.2 = 0 → fits b l 0 p) := by
  rw [follow_ok p hb hl]
  have := follow_fits (b := b) (plan := p) l 0 0 0 []
  rw [List.drop_zero, List.nil_append, Int.zero_add, Nat.zero_add] at this
  exact this
end Go.Fuel
