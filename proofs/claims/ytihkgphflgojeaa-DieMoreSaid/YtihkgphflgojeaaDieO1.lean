/-
  Chapter 4: what the best plan is: of all good plans the first of the cheapest. Plain Lean; no program in sight.
-/
import Derived.Test.YtihkgphflgojeaaDieP7
set_option linter.all false


set_option maxRecDepth 100000
namespace Go.Die
open Go Go.Sx

theorem snoc_ind {α : Type} {Q : List α → Prop} (h0 : Q []) (h1 : ∀ l a, Q l → Q (l ++ [a])) (l : List α) : Q l := by
  have : ∀ r : List α, Q r.reverse := by
    intro r
    induction r with
    | nil => exact h0
    | cons a r ih => rw [List.reverse_cons]; exact h1 _ _ ih
  simpa using this l.reverse
/-- The order of plans. -/
def lexle : List Int → List Int → Prop
  | [], _ => True
  | _ :: _, [] => False
  | a :: p, b :: q => a < b ∨ (a = b ∧ lexle p q)
/-- A plan is good from here on; what was drawn through each die at its end. -/
def useV (used : List Int) (k : Int) (d : Draw) : List Int := used.set k.toNat (used.getD k.toNat 0 + d.1)
def fits (p : Press) : List Draw → List Int → List Int → Prop
  | [], _, [] => True
  | d :: l, used, k :: plan => ((0 ≤ k ∧ k < (p.1.length : Int)) ∧ doesV p k.toNat (used.getD k.toNat 0) d = true) ∧ fits p l (useV used k d) plan
  | _, _, _ => False
def usedR : List Draw → List Int → List Int → List Int
  | d :: l, used, k :: plan => usedR l (useV used k d) plan
  | _, used, _ => used
theorem fits_len {p : Press} : ∀ {l : List Draw} {used plan : List Int}, fits p l used plan → plan.length = l.length
  | [], _, [], _ => rfl
  | _ :: l, _, _ :: plan, h => by rw [List.length_cons, List.length_cons, fits_len h.2]
theorem usedR_len : ∀ {l : List Draw} {used plan : List Int}, (usedR l used plan).length = used.length
  | [], _, [] => rfl
  | [], _, _ :: _ => rfl
  | _ :: _, _, [] => rfl
  | _ :: l, used, _ :: plan => by rw [usedR, usedR_len, useV, List.length_set]
/-- Following a plan: it goes to its end just if it is good. -/
theorem follow_fits {p : Press} {plan : List Int} : ∀ (l : List Draw) (i : Nat) (used : List Int),
    (fits p l used (plan.drop i) → followGo p plan l i used = (usedR l used (plan.drop i), ((i + l.length : Nat) : Int), 0)) ∧
    ((followGo p plan l i used).2.2 = 0 → fits p l used (plan.drop i))
  | [], i, used => by
    simp only [followGo]
    by_cases h : i < plan.length
    · rw [decide_eq_true h, drop_getD plan 0 i h]
      exact ⟨fun hf => hf.elim, fun h0 => by simp at h0⟩
    · rw [decide_eq_false h, List.drop_eq_nil_of_le (by omega)]
      refine ⟨fun _ => ?_, fun _ => trivial⟩
      simp [usedR]
  | d :: l, i, used => by
    simp only [followGo]
    by_cases h : i < plan.length
    · rw [decide_eq_false (show ¬ plan.length ≤ i by omega), drop_getD plan 0 i h, cond_false]
      obtain ⟨k, hk⟩ : ∃ k, k = plan.getD i 0 := ⟨_, rfl⟩
      rw [← hk]
      obtain ⟨i1, i2⟩ := follow_fits (p := p) (plan := plan) l (i + 1) (used.set k.toNat (used.getD k.toNat 0 + d.1))
      constructor
      · rintro ⟨⟨h1, h2⟩, h3⟩
        have hin : inB k 0 ((p.1.length : Int) - 1) = true := inB_iff.2 (by omega)
        rw [hin, h2]
        have h3 := i1 h3
        simp only [Bool.not_true, cond_false]
        rw [h3, usedR, List.length_cons, show i + 1 + l.length = i + (l.length + 1) by omega]
        rfl
      · intro h0
        cases h1 : inB k 0 ((p.1.length : Int) - 1) with
        | false => rw [h1] at h0; simp at h0
        | true =>
          rw [h1] at h0
          cases h2 : doesV p k.toNat (used.getD k.toNat 0) d with
          | false => rw [h2] at h0; simp at h0
          | true =>
            rw [h2] at h0
            have := ix_ok h1
            exact ⟨⟨this, h2⟩, i2 (by simpa using h0)⟩
    · rw [decide_eq_true (show plan.length ≤ i by omega), List.drop_eq_nil_of_le (by omega)]
      exact ⟨fun hf => hf.elim, fun h0 => by simp at h0⟩
/-- The first of the cheapest. -/
theorem fold_best {E : Type} {R : E → E → Prop} (C : E → Option Rest) (hC : ∀ e r, C e = some r → r.2.2 = true) (g : Rest → E → Rest)
    (hn : ∀ b e, C e = none → g b e = b) (hs : ∀ b e r, C e = some r → g b e = cond (!b.2.2 || decide (r.2.1 < b.2.1)) r b) (b0 : Rest) (h0 : b0.2.2 = false) (es : List E) (hR : es.Pairwise R) :
    ((es.foldl g b0).2.2 = true → ∃ e ∈ es, C e = some (es.foldl g b0)) ∧
    ∀ e ∈ es, ∀ r, C e = some r → (es.foldl g b0).2.2 = true ∧ (es.foldl g b0).2.1 ≤ r.2.1 ∧ ((es.foldl g b0).2.1 = r.2.1 → ∃ e' ∈ es, C e' = some (es.foldl g b0) ∧ (e' = e ∨ R e' e)) := by
  revert hR
  refine snoc_ind (Q := fun es => es.Pairwise R → ((es.foldl g b0).2.2 = true → ∃ e ∈ es, C e = some (es.foldl g b0)) ∧
    ∀ e ∈ es, ∀ r, C e = some r → (es.foldl g b0).2.2 = true ∧ (es.foldl g b0).2.1 ≤ r.2.1 ∧ ((es.foldl g b0).2.1 = r.2.1 → ∃ e' ∈ es, C e' = some (es.foldl g b0) ∧ (e' = e ∨ R e' e))) ?_ ?_ es
  · intro _
    refine ⟨fun h => ?_, fun e he => by cases he⟩
    rw [List.foldl_nil, h0] at h; cases h
  · intro es a ih hR
    rw [List.pairwise_append] at hR
    obtain ⟨hR1, _, hR2⟩ := hR
    obtain ⟨i1, i2⟩ := ih hR1
    rw [List.foldl_append, List.foldl_cons, List.foldl_nil]
    obtain ⟨b, hb⟩ : ∃ b, b = es.foldl g b0 := ⟨_, rfl⟩
    rw [← hb] at i1 i2 ⊢
    cases hca : C a with
    | none =>
      rw [hn b a hca]
      refine ⟨fun h => ?_, fun e he r hr => ?_⟩
      · obtain ⟨e, he, hc⟩ := i1 h
        exact ⟨e, List.mem_append_left _ he, hc⟩
      · rcases List.mem_append.1 he with he | he
        · obtain ⟨k1, k2, k3⟩ := i2 e he r hr
          refine ⟨k1, k2, fun h => ?_⟩
          obtain ⟨e', he', k4⟩ := k3 h
          exact ⟨e', List.mem_append_left _ he', k4⟩
        · rw [List.mem_singleton.1 he, hca] at hr; cases hr
    | some ra =>
      rw [hs b a ra hca]
      cases hbet : (!b.2.2 || decide (ra.2.1 < b.2.1)) with
      | true =>
        rw [cond_true]
        have hra := hC a ra hca
        refine ⟨fun _ => ⟨a, List.mem_append_right _ List.mem_cons_self, hca⟩, fun e he r hr => ?_⟩
        rcases List.mem_append.1 he with he | he
        · obtain ⟨k1, k2, k3⟩ := i2 e he r hr
          rw [k1] at hbet
          simp only [Bool.not_true, Bool.false_or, decide_eq_true_eq] at hbet
          exact ⟨hra, by omega, fun h => by omega⟩
        · have := List.mem_singleton.1 he
          subst this
          rw [hca] at hr; cases hr
          exact ⟨hra, Int.le_refl _, fun _ => ⟨e, List.mem_append_right _ List.mem_cons_self, hca, .inl rfl⟩⟩
      | false =>
        rw [cond_false]
        simp only [Bool.or_eq_false_iff, Bool.not_eq_false', decide_eq_false_iff_not] at hbet
        refine ⟨fun h => ?_, fun e he r hr => ?_⟩
        · obtain ⟨e, he, hc⟩ := i1 h
          exact ⟨e, List.mem_append_left _ he, hc⟩
        · rcases List.mem_append.1 he with he | he
          · obtain ⟨k1, k2, k3⟩ := i2 e he r hr
            refine ⟨k1, k2, fun h => ?_⟩
            obtain ⟨e', he', k4⟩ := k3 h
            exact ⟨e', List.mem_append_left _ he', k4⟩
          · have := List.mem_singleton.1 he
            subst this
            rw [hca] at hr; cases hr
            obtain ⟨e', he', hc'⟩ := i1 hbet.1
            exact ⟨hbet.1, by omega, fun _ => ⟨e', List.mem_append_left _ he', hc', .inr (hR2 e' he' e List.mem_cons_self)⟩⟩
/-- A candidate. -/
def cand (p : Press) (d : Draw) (f : Int → List Int → Rest) (last : Int) (used : List Int) (k : Nat) : Option Rest :=
  cond (doesV p k (used.getD k 0) d && (f (k : Int) (used.set k (used.getD k 0 + d.1))).2.2)
    (some ((k : Int) :: (f (k : Int) (used.set k (used.getD k 0 + d.1))).1, (f (k : Int) (used.set k (used.getD k 0 + d.1))).2.1 + (k : Int) + changeV p last (k : Int), true)) none
theorem cand_some {p : Press} {d : Draw} {f : Int → List Int → Rest} {last : Int} {used : List Int} {k : Nat} {r : Rest} : cand p d f last used k = some r ↔ (doesV p k (used.getD k 0) d = true ∧ (f (k : Int) (used.set k (used.getD k 0 + d.1))).2.2 = true) ∧
    r = ((k : Int) :: (f (k : Int) (used.set k (used.getD k 0 + d.1))).1, (f (k : Int) (used.set k (used.getD k 0 + d.1))).2.1 + (k : Int) + changeV p last (k : Int), true) := by
  unfold cand
  cases doesV p k (used.getD k 0) d with
  | false => simp
  | true =>
    cases (f (k : Int) (used.set k (used.getD k 0 + d.1))).2.2 with
    | false => simp
    | true => rw [Bool.true_and, cond_true, Option.some_inj]; exact ⟨fun h => ⟨⟨rfl, rfl⟩, h.symm⟩, fun h => h.2.symm⟩
theorem better_cand {p : Press} {d : Draw} {f : Int → List Int → Rest} {last : Int} {used : List Int} (r0 : Rest) (k : Nat) :
    (cand p d f last used k = none → better p d f last used r0 k = r0) ∧ ∀ r, cand p d f last used k = some r → better p d f last used r0 k = cond (!r0.2.2 || decide (r.2.1 < r0.2.1)) r r0 := by
  unfold cand better
  simp only
  cases doesV p k (used.getD k 0) d with
  | false => exact ⟨fun _ => rfl, fun r h => (by cases h)⟩
  | true =>
    cases hi : (f (k : Int) (used.set k (used.getD k 0 + d.1))).2.2 with
    | false => exact ⟨fun _ => rfl, fun r h => (by cases h)⟩
    | true =>
      refine ⟨fun h => (by cases h), fun r h => ?_⟩
      rw [Bool.true_and, cond_true, Option.some_inj] at h
      subst h
      rfl
/-- **The best plan.** -/
theorem best_spec {p : Press} : ∀ (l : List Draw) (last : Int) (used : List Int),
    ((bestG p l last used).2.2 = true → fits p l used (bestG p l last used).1 ∧ (bestG p l last used).2.1 = costGo p last (bestG p l last used).1) ∧
    ∀ plan, fits p l used plan → (bestG p l last used).2.2 = true ∧ (bestG p l last used).2.1 ≤ costGo p last plan ∧ ((bestG p l last used).2.1 = costGo p last plan → lexle (bestG p l last used).1 plan)
  | [], last, used => by
    refine ⟨fun _ => ⟨trivial, rfl⟩, fun plan hp => ?_⟩
    cases plan with
    | nil => exact ⟨rfl, Int.le_refl _, fun _ => trivial⟩
    | cons k plan => exact hp.elim
  | d :: l, last, used => by
    have eG : bestG p (d :: l) last used = (List.range p.1.length).foldl (better p d (bestG p l) last used) ([], 0, false) := by rw [bestG]
    obtain ⟨f1, f2⟩ := fold_best (R := fun e e' : Nat => e < e') (cand p d (bestG p l) last used) (fun e r h => by rw [(cand_some.1 h).2]) (better p d (bestG p l) last used)
      (fun r0 e h => (better_cand r0 e).1 h) (fun r0 e r h => (better_cand r0 e).2 r h) ([], 0, false) rfl (List.range p.1.length) (List.pairwise_lt_range)
    rw [← eG] at f1 f2
    obtain ⟨G, hG⟩ : ∃ G, G = bestG p (d :: l) last used := ⟨_, rfl⟩
    rw [← hG] at f1 f2 ⊢
    refine ⟨fun h => ?_, fun plan hp => ?_⟩
    · obtain ⟨k, hk, hc⟩ := f1 h
      have hk := List.mem_range.1 hk
      obtain ⟨⟨c1, c2⟩, c3⟩ := cand_some.1 hc
      obtain ⟨i1, _⟩ := best_spec l (k : Int) (used.set k (used.getD k 0 + d.1))
      obtain ⟨i3, i4⟩ := i1 c2
      rw [c3]
      refine ⟨⟨⟨⟨by omega, by omega⟩, c1⟩, i3⟩, ?_⟩
      simp only [costGo]
      omega
    · cases plan with
      | nil => exact hp.elim
      | cons k plan =>
        obtain ⟨⟨h1, h2⟩, h3⟩ := hp
        obtain ⟨n, rfl⟩ : ∃ n : Nat, k = (n : Int) := ⟨k.toNat, by omega⟩
        have h2 : doesV p n (used.getD n 0) d = true := h2
        have h3 : fits p l (used.set n (used.getD n 0 + d.1)) plan := h3
        obtain ⟨_, i2⟩ := best_spec l (n : Int) (used.set n (used.getD n 0 + d.1))
        obtain ⟨i3, i4, i5⟩ := i2 plan h3
        have hce := (cand_some (p := p) (d := d) (f := bestG p l) (last := last) (used := used) (k := n)).2 ⟨⟨h2, i3⟩, rfl⟩
        obtain ⟨k1, k2, k3⟩ := f2 n (List.mem_range.2 (by omega)) _ hce
        simp only at k2 k3
        have hco : costGo p last ((n : Int) :: plan) = (n : Int) + changeV p last (n : Int) + costGo p (n : Int) plan := rfl
        rw [hco]
        refine ⟨k1, by omega, fun heq => ?_⟩
        obtain ⟨e', he', hce', hor⟩ := k3 (by omega)
        obtain ⟨⟨c1, c2⟩, c3⟩ := cand_some.1 hce'
        rw [c3]
        show (e' : Int) < (n : Int) ∨ ((e' : Int) = (n : Int) ∧ lexle _ plan)
        rcases hor with rfl | hlt
        · refine .inr ⟨rfl, i5 ?_⟩
          rw [c3] at heq
          simp only at heq
          omega
        · exact .inl (by omega)
/-- Only what was drawn through the press's dies counts. -/
theorem fits_congr {p : Press} : ∀ {l : List Draw} {u v plan : List Int}, (∀ k, k < p.1.length → u.getD k 0 = v.getD k 0) → p.1.length ≤ u.length → p.1.length ≤ v.length → fits p l u plan → fits p l v plan
  | [], _, _, [], _, _, _, _ => trivial
  | d :: l, u, v, k :: plan, h, hu, hv, hf => by
    obtain ⟨⟨h1, h2⟩, h3⟩ := hf
    have hk : k.toNat < p.1.length := by omega
    refine ⟨⟨h1, by rw [← h _ hk]; exact h2⟩, fits_congr (fun j hj => ?_) (by rw [useV, List.length_set]; exact hu) (by rw [useV, List.length_set]; exact hv) h3⟩
    simp only [useV, List.getD, List.getElem?_set]
    by_cases e : k.toNat = j
    · subst e
      have e1 := h _ hk
      simp only [List.getD] at e1
      simp only [if_true]
      rw [if_pos (by omega), if_pos (by omega), e1]
    · rw [if_neg e, if_neg e]
      have e1 := h _ hj
      simp only [List.getD] at e1
      exact e1
theorem zeros {p : Press} (H : OkP p) {l : List Draw} {plan : List Int} : fits p l [0, 0, 0, 0] plan ↔ fits p l (List.replicate p.1.length 0) plan := by
  have hl := H.len
  have hz : ∀ k, k < p.1.length → ([0, 0, 0, 0] : List Int).getD k 0 = (List.replicate p.1.length (0 : Int)).getD k 0 := fun k hk => by
    have h1 : (List.replicate p.1.length (0 : Int)).getD k 0 = 0 := by simp [List.getD, hk]
    rw [h1]
    have : k = 0 ∨ k = 1 ∨ k = 2 ∨ k = 3 := by omega
    rcases this with rfl | rfl | rfl | rfl <;> rfl
  exact ⟨fits_congr hz (by show p.1.length ≤ 4; omega) (by simp), fits_congr (fun k hk => (hz k hk).symm) (by simp) (by show p.1.length ≤ 4; omega)⟩
theorem best_all {p : Press} {l : List Draw} (hp : pressB p = true) (hl : drawsB l = true) :
    (planOut p l = ([], 0, 4) ∧ ∀ q, ¬ fits p l (List.replicate p.1.length 0) q) ∨
    ∃ P, planOut p l = (P, costGo p (-1) P, 0) ∧ fits p l (List.replicate p.1.length 0) P ∧ ∀ q, fits p l (List.replicate p.1.length 0) q → costGo p (-1) P ≤ costGo p (-1) q ∧ (costGo p (-1) P = costGo p (-1) q → lexle P q) := by
  have H := press_iff.1 hp
  obtain ⟨h1, h2⟩ := best_spec (p := p) l (-1) [0, 0, 0, 0]
  have hO : planOut p l = cond (!(bestG p l (-1) [0, 0, 0, 0]).2.2) ([], 0, 4) ((bestG p l (-1) [0, 0, 0, 0]).1, (bestG p l (-1) [0, 0, 0, 0]).2.1, 0) := by rw [planOut, hp, hl]; rfl
  obtain ⟨T, hT⟩ : ∃ T, T = bestG p l (-1) [0, 0, 0, 0] := ⟨_, rfl⟩
  rw [← hT] at h1 h2 hO
  cases hi : T.2.2 with
  | false =>
    rw [hi] at hO
    exact .inl ⟨hO, fun q hq => by have := (h2 q ((zeros H).2 hq)).1; rw [hi] at this; cases this⟩
  | true =>
    rw [hi] at hO
    obtain ⟨k1, k2⟩ := h1 hi
    refine .inr ⟨T.1, by rw [hO, k2]; rfl, (zeros H).1 k1, fun q hq => ?_⟩
    have := h2 q ((zeros H).2 hq)
    rw [k2] at this
    exact this.2
/-- Following a plan, all in all. -/
theorem follow_all {p : Press} {l : List Draw} (hp : pressB p = true) (hl : drawsB l = true) (q : List Int) :
    (fits p l (List.replicate p.1.length 0) q → followV p l q = (usedR l (List.replicate p.1.length 0) q, (l.length : Int), 0)) ∧ ((followV p l q).2.2 = 0 → fits p l (List.replicate p.1.length 0) q) := by
  rw [follow_ok q hp hl]
  have := follow_fits (p := p) (plan := q) l 0 (List.replicate p.1.length 0)
  rw [List.drop_zero, Nat.zero_add] at this
  exact this
end Go.Die
