/-
  Chapter 8: what the best plan is: of all plans that can be run the first of the cheapest. Plain Lean; no program in sight.
-/
import Derived.Test.YtlkegffejcndbaaHueE1
set_option linter.all false


set_option maxRecDepth 100000
namespace Go.Hue
open Go Go.Sx

theorem snoc_ind {α : Type} {Q : List α → Prop} (h0 : Q []) (h1 : ∀ l a, Q l → Q (l ++ [a])) (l : List α) : Q l := by
  have : ∀ r : List α, Q r.reverse := by
    intro r
    induction r with
    | nil => exact h0
    | cons a r ih => rw [List.reverse_cons]; exact h1 _ _ ih
  simpa using this l.reverse
/-- The order of turns, and of plans. -/
def tlt (a b : Turn) : Prop := a.1 < b.1 ∨ (a.1 = b.1 ∧ a.2 < b.2)
def lexle : List Turn → List Turn → Prop
  | [], _ => True
  | _ :: _, [] => False
  | a :: p, b :: q => tlt a b ∨ (a = b ∧ lexle p q)

/-- What can come next, and how it goes on. -/
def stIn (m : Mill) (s : State) (t : Turn) : Int := max 0 (s.2 - t.2 * m.2.1.1)
def nextS (m : Mill) (l : List Hue) (s : State) (t : Turn) : State :=
  (((s.1.toNat ^^^ (s.1.toNat &&& (1 * 2 ^ t.1.toNat : Int).toNat) : Nat) : Int), max (l.getD t.1.toNat ((0, 0), 0, 0)).1.2 (stIn m s t - m.1.1))
def mayGo (m : Mill) (l : List Hue) (s : State) (t : Turn) : Prop :=
  0 ≤ t.1 ∧ t.1 < 6 ∧ s.1.toNat.testBit t.1.toNat = true ∧ 0 ≤ t.2 ∧ t.2 ≤ 2 ∧ ¬ (l.getD t.1.toNat ((0, 0), 0, 0)).2.1 < stIn m s t
/-- A plan can be run from here, all colours that are left, at this cost. -/
def Runs (m : Mill) (l : List Hue) : List Turn → State → Int → Prop
  | [], s, c => s.1 = 0 ∧ c = 0
  | t :: p, s, c => mayGo m l s t ∧ ∃ c', Runs m l p (nextS m l s t) c' ∧ c = c' + stIn m s t + m.2.2 * t.2

theorem nexts_iff {a : Nat} {stain : Int} {m : Mill} {e : Turn × Int} : e ∈ nexts ((a : Int), stain) m ↔ 0 ≤ e.1.1 ∧ e.1.1 < 6 ∧ a.testBit e.1.1.toNat = true ∧ 0 ≤ e.1.2 ∧ e.1.2 ≤ 2 ∧ e.2 = stIn m ((a : Int), stain) e.1 := by
  simp only [nexts, List.mem_flatMap, List.mem_range]
  constructor
  · rintro ⟨h, hh, he⟩
    unfold nextsAt at he
    cases hb : ((a : Int), stain).1.toNat.testBit h with
    | false => rw [hb] at he; cases he
    | true =>
      rw [hb, cond_true] at he
      have hb : a.testBit h = true := hb
      simp only [List.map_cons, List.map_nil, List.mem_cons, List.not_mem_nil, or_false] at he
      rcases he with rfl | rfl | rfl <;> exact ⟨by simp, by show (h : Int) < 6; omega, hb, by simp, by simp, rfl⟩
  · obtain ⟨⟨eh, ew⟩, es⟩ := e
    rintro ⟨h1, h2, h3, h4, h5, h6⟩
    simp only at h1 h2 h3 h4 h5 h6
    obtain ⟨h, rfl⟩ : ∃ n : Nat, eh = (n : Int) := ⟨eh.toNat, by omega⟩
    refine ⟨h, by omega, ?_⟩
    have h3 : a.testBit h = true := h3
    unfold nextsAt
    rw [show ((a : Int), stain).1.toNat.testBit h = true from h3, cond_true]
    have hw : ew = 0 ∨ ew = 1 ∨ ew = 2 := by omega
    subst h6
    rcases hw with rfl | rfl | rfl <;> simp [stIn]
theorem nexts_sorted (s : State) (m : Mill) : (nexts s m).Pairwise fun e e' => tlt e.1 e'.1 := by
  unfold nexts
  rw [List.pairwise_flatMap]
  constructor
  · intro h _
    unfold nextsAt
    cases s.1.toNat.testBit h with
    | false => exact List.Pairwise.nil
    | true =>
      simp only [cond_true, List.map_cons, List.map_nil]
      refine List.Pairwise.cons (fun e he => ?_) (List.Pairwise.cons (fun e he => ?_) (List.Pairwise.cons (fun e he => ?_) List.Pairwise.nil))
      · simp only [List.mem_cons, List.not_mem_nil, or_false] at he
        rcases he with rfl | rfl
        · exact .inr ⟨rfl, show (0 : Int) < 1 by omega⟩
        · exact .inr ⟨rfl, show (0 : Int) < 2 by omega⟩
      · simp only [List.mem_cons, List.not_mem_nil, or_false] at he
        subst he
        exact .inr ⟨rfl, show (1 : Int) < 2 by omega⟩
      · cases he
  · refine (List.pairwise_lt_range (n := 6)).imp fun {a b} hab x hx y hy => .inl ?_
    have key : ∀ (h : Nat) (e : Turn × Int), e ∈ nextsAt s m h → e.1.1 = (h : Int) := by
      intro h e he
      unfold nextsAt at he
      cases hb : s.1.toNat.testBit h with
      | false => rw [hb] at he; cases he
      | true =>
        rw [hb, cond_true] at he
        simp only [List.map_cons, List.map_nil, List.mem_cons, List.not_mem_nil, or_false] at he
        rcases he with rfl | rfl | rfl <;> rfl
    rw [key a x hx, key b y hy]
    omega
/-- The first of the cheapest. -/
theorem fold_best {E : Type} {R : E → E → Prop} (C : E → Option Rest) (hC : ∀ e r, C e = some r → r.2.2 = true) (g : Rest → E → Rest)
    (hn : ∀ b e, C e = none → g b e = b) (hs : ∀ b e r, C e = some r → g b e = cond (!b.2.2 || decide (r.2.1 < b.2.1)) r b) (b0 : Rest) (h0 : b0.2.2 = false) (es : List E) (hR : es.Pairwise R) :
    ((es.foldl g b0).2.2 = true → ∃ e ∈ es, C e = some (es.foldl g b0)) ∧
    ∀ e ∈ es, ∀ r, C e = some r → (es.foldl g b0).2.2 = true ∧ (es.foldl g b0).2.1 ≤ r.2.1 ∧ ((es.foldl g b0).2.1 = r.2.1 → ∃ e' ∈ es, C e' = some (es.foldl g b0) ∧ (e' = e ∨ R e' e)) := by
  revert hR
  refine snoc_ind (Q := fun es => es.Pairwise R → ((es.foldl g b0).2.2 = true → ∃ e ∈ es, C e = some (es.foldl g b0)) ∧
    ∀ e ∈ es, ∀ r, C e = some r → (es.foldl g b0).2.2 = true ∧ (es.foldl g b0).2.1 ≤ r.2.1 ∧ ((es.foldl g b0).2.1 = r.2.1 → ∃ e' ∈ es, C e' = some (es.foldl g b0) ∧ (e' = e ∨ R e' e))) ?_ ?_ es
  · intro _
    refine ⟨fun h => ?_, fun e he => by cases he⟩
    rw [List.foldl_nil, h0] at h; cases h
  · intro es a ih hR
    rw [List.pairwise_append] at hR
    obtain ⟨hR1, _, hR2⟩ := hR
    obtain ⟨i1, i2⟩ := ih hR1
    rw [List.foldl_append, List.foldl_cons, List.foldl_nil]
    obtain ⟨b, hb⟩ : ∃ b, b = es.foldl g b0 := ⟨_, rfl⟩
    rw [← hb] at i1 i2 ⊢
    cases hca : C a with
    | none =>
      rw [hn b a hca]
      refine ⟨fun h => ?_, fun e he r hr => ?_⟩
      · obtain ⟨e, he, hc⟩ := i1 h
        exact ⟨e, List.mem_append_left _ he, hc⟩
      · rcases List.mem_append.1 he with he | he
        · obtain ⟨k1, k2, k3⟩ := i2 e he r hr
          refine ⟨k1, k2, fun h => ?_⟩
          obtain ⟨e', he', k4⟩ := k3 h
          exact ⟨e', List.mem_append_left _ he', k4⟩
        · rw [List.mem_singleton.1 he, hca] at hr; cases hr
    | some ra =>
      rw [hs b a ra hca]
      cases hbet : (!b.2.2 || decide (ra.2.1 < b.2.1)) with
      | true =>
        rw [cond_true]
        have hra := hC a ra hca
        refine ⟨fun _ => ⟨a, List.mem_append_right _ List.mem_cons_self, hca⟩, fun e he r hr => ?_⟩
        rcases List.mem_append.1 he with he | he
        · obtain ⟨k1, k2, k3⟩ := i2 e he r hr
          rw [k1] at hbet
          simp only [Bool.not_true, Bool.false_or, decide_eq_true_eq] at hbet
          exact ⟨hra, by omega, fun h => by omega⟩
        · have := List.mem_singleton.1 he
          subst this
          rw [hca] at hr; cases hr
          exact ⟨hra, Int.le_refl _, fun _ => ⟨e, List.mem_append_right _ List.mem_cons_self, hca, .inl rfl⟩⟩
      | false =>
        rw [cond_false]
        simp only [Bool.or_eq_false_iff, Bool.not_eq_false', decide_eq_false_iff_not] at hbet
        refine ⟨fun h => ?_, fun e he r hr => ?_⟩
        · obtain ⟨e, he, hc⟩ := i1 h
          exact ⟨e, List.mem_append_left _ he, hc⟩
        · rcases List.mem_append.1 he with he | he
          · obtain ⟨k1, k2, k3⟩ := i2 e he r hr
            refine ⟨k1, k2, fun h => ?_⟩
            obtain ⟨e', he', k4⟩ := k3 h
            exact ⟨e', List.mem_append_left _ he', k4⟩
          · have := List.mem_singleton.1 he
            subst this
            rw [hca] at hr; cases hr
            obtain ⟨e', he', hc'⟩ := i1 hbet.1
            exact ⟨hbet.1, by omega, fun _ => ⟨e', List.mem_append_left _ he', hc', .inr (hR2 e' he' e List.mem_cons_self)⟩⟩

/-- A candidate. -/
def cand (f : State → Rest) (m : Mill) (l : List Hue) (s : State) (e : Turn × Int) : Option Rest :=
  let T := f (nextS m l s e.1)
  cond (decide ((l.getD e.1.1.toNat ((0, 0), 0, 0)).2.1 < e.2)) none (cond T.2.2 (some (e.1 :: T.1, T.2.1 + e.2 + m.2.2 * e.1.2, true)) none)
theorem better_cand {f : State → Rest} {m : Mill} {l : List Hue} {s : State} {e : Turn × Int} (he : e.2 = stIn m s e.1) (b : Rest) :
    (cand f m l s e = none → better f m l s b e = b) ∧ ∀ r, cand f m l s e = some r → better f m l s b e = cond (!b.2.2 || decide (r.2.1 < b.2.1)) r b := by
  have hT : (((s.1.toNat ^^^ (s.1.toNat &&& (1 * 2 ^ e.1.1.toNat : Int).toNat) : Nat) : Int), max (l.getD e.1.1.toNat ((0, 0), 0, 0)).1.2 (e.2 - m.1.1)) = nextS m l s e.1 := by
    unfold nextS; rw [he]
  unfold cand better
  simp only
  rw [hT]
  obtain ⟨T, hTT⟩ : ∃ T, T = f (nextS m l s e.1) := ⟨_, rfl⟩
  rw [← hTT]
  cases decide ((l.getD e.1.1.toNat ((0, 0), 0, 0)).2.1 < e.2) with
  | true => exact ⟨fun _ => rfl, fun r h => (by cases h)⟩
  | false =>
    simp only [cond_false]
    cases hi : T.2.2 with
    | false => exact ⟨fun _ => rfl, fun r h => (by cases h)⟩
    | true =>
      refine ⟨fun h => (by cases h), fun r h => ?_⟩
      simp only [cond_true, Option.some.injEq] at h
      subst h
      simp only [Bool.true_and]
/-- **The best plan**: it runs at its cost, and no plan that runs costs less, or as much and comes before. -/
theorem best_spec {m : Mill} {l : List Hue} : ∀ (n a : Nat) (stain : Int), a < 64 → pop a = n →
    ((bestF m l n ((a : Int), stain)).2.2 = true → Runs m l (bestF m l n ((a : Int), stain)).1 ((a : Int), stain) (bestF m l n ((a : Int), stain)).2.1) ∧
    ∀ p c, Runs m l p ((a : Int), stain) c → (bestF m l n ((a : Int), stain)).2.2 = true ∧ (bestF m l n ((a : Int), stain)).2.1 ≤ c ∧ ((bestF m l n ((a : Int), stain)).2.1 = c → lexle (bestF m l n ((a : Int), stain)).1 p)
  | 0, a, stain, ha, hp => by
    have h0 : a = 0 := bits3 ⟨a, ha⟩ hp
    subst h0
    refine ⟨fun _ => ⟨rfl, rfl⟩, fun p c h => ?_⟩
    cases p with
    | nil =>
      obtain ⟨_, rfl⟩ := h
      exact ⟨rfl, Int.le_refl _, fun _ => trivial⟩
    | cons t p =>
      obtain ⟨⟨_, _, h3, _⟩, _⟩ := h
      have h3 : Nat.testBit 0 t.1.toNat = true := h3
      rw [Nat.zero_testBit] at h3; cases h3
  | n + 1, a, stain, ha, hp => by
    obtain ⟨s, hs⟩ : ∃ s : State, s = ((a : Int), stain) := ⟨_, rfl⟩
    rw [← hs]
    have hs1 : s.1.toNat = a := by rw [hs]; rfl
    have hbF : bestF m l (n + 1) s = (nexts s m).foldl (better (bestF m l n) m l s) ([], 0, false) := rfl
    -- where one goes on
    have hgo : ∀ t : Turn, 0 ≤ t.1 → t.1 < 6 → a.testBit t.1.toNat = true → ∃ (a' : Nat) (st' : Int), nextS m l s t = ((a' : Int), st') ∧ a' < 64 ∧ pop a' = n := by
      intro t h1 h2 h3
      have b5 := bits5 ⟨a, ha⟩ ⟨t.1.toNat, by omega⟩ h3
      have b51 : (a ^^^ (a &&& (Int.toNat (1 * 2 ^ t.1.toNat)))) + 2 ^ t.1.toNat = a := b5.1
      have b52 : pop (a ^^^ (a &&& (Int.toNat (1 * 2 ^ t.1.toNat)))) + 1 = pop a := b5.2
      refine ⟨a ^^^ (a &&& (Int.toNat (1 * 2 ^ t.1.toNat))), max (l.getD t.1.toNat ((0, 0), 0, 0)).1.2 (stIn m s t - m.1.1), ?_, by have := Nat.two_pow_pos t.1.toNat; omega, by omega⟩
      rw [hs]; rfl
    have hmem : ∀ e ∈ nexts s m, 0 ≤ e.1.1 ∧ e.1.1 < 6 ∧ a.testBit e.1.1.toNat = true ∧ 0 ≤ e.1.2 ∧ e.1.2 ≤ 2 ∧ e.2 = stIn m s e.1 := fun e he => by
      rw [hs] at he ⊢
      exact nexts_iff.1 he
    -- candidates among the turns that can come next
    obtain ⟨C, hCd⟩ : ∃ C : {e : Turn × Int // e ∈ nexts s m} → Option Rest, C = fun e => cand (bestF m l n) m l s e.1 := ⟨_, rfl⟩
    have hfold : (nexts s m).foldl (better (bestF m l n) m l s) ([], 0, false) = (nexts s m).attach.foldl (fun b e => better (bestF m l n) m l s b e.1) ([], 0, false) := by
      rw [List.foldl_attach]
    have hsort : (nexts s m).attach.Pairwise fun e e' => tlt e.1.1 e'.1.1 := by
      have := nexts_sorted s m
      rw [← List.attach_map_subtype_val (nexts s m), List.pairwise_map] at this
      exact this
    have hb := fold_best (R := fun e e' => tlt e.1.1 e'.1.1) C (fun e r h => by
        rw [hCd] at h
        unfold cand at h
        simp only at h
        cases h1 : decide ((l.getD e.1.1.1.toNat ((0, 0), 0, 0)).2.1 < e.1.2) with
        | true => rw [h1] at h; cases h
        | false =>
          rw [h1, cond_false] at h
          cases h2 : (bestF m l n (nextS m l s e.1.1)).2.2 with
          | true => rw [h2, cond_true] at h; cases h; rfl
          | false => rw [h2] at h; cases h)
      (fun b e => better (bestF m l n) m l s b e.1) (fun b e h => (better_cand (hmem e.1 e.2).2.2.2.2.2 b).1 (by rw [hCd] at h; exact h)) (fun b e r h => (better_cand (hmem e.1 e.2).2.2.2.2.2 b).2 r (by rw [hCd] at h; exact h)) ([], 0, false) rfl (nexts s m).attach hsort
    rw [← hfold, ← hbF] at hb
    obtain ⟨B, hB⟩ : ∃ B, B = bestF m l (n + 1) s := ⟨_, rfl⟩
    rw [← hB] at hb ⊢
    obtain ⟨b1, b2⟩ := hb
    have hcd : ∀ (e : {e : Turn × Int // e ∈ nexts s m}) r, C e = some r → ¬ (l.getD e.1.1.1.toNat ((0, 0), 0, 0)).2.1 < e.1.2 ∧ (bestF m l n (nextS m l s e.1.1)).2.2 = true ∧ r = (e.1.1 :: (bestF m l n (nextS m l s e.1.1)).1, (bestF m l n (nextS m l s e.1.1)).2.1 + e.1.2 + m.2.2 * e.1.1.2, true) := by
      intro e r h
      rw [hCd] at h
      unfold cand at h
      simp only at h
      cases h1 : decide ((l.getD e.1.1.1.toNat ((0, 0), 0, 0)).2.1 < e.1.2) with
      | true => rw [h1] at h; cases h
      | false =>
        rw [h1, cond_false] at h
        cases h2 : (bestF m l n (nextS m l s e.1.1)).2.2 with
        | true => rw [h2, cond_true] at h; cases h; exact ⟨of_decide_eq_false h1, rfl, rfl⟩
        | false => rw [h2] at h; cases h
    refine ⟨fun hi => ?_, fun p c hr => ?_⟩
    · obtain ⟨e, _, he⟩ := b1 hi
      obtain ⟨h1, h2, h3⟩ := hcd e B he
      obtain ⟨g1, g2, g3, g4, g5, g6⟩ := hmem e.1 e.2
      obtain ⟨a', st', q1, q2, q3⟩ := hgo e.1.1 g1 g2 g3
      rw [h3]
      refine ⟨⟨g1, g2, by rw [hs1]; exact g3, g4, g5, by rw [← g6]; exact h1⟩, _, ?_, by rw [g6]⟩
      rw [q1] at h2 ⊢
      exact (best_spec n a' st' q2 q3).1 h2
    · cases p with
      | nil =>
        obtain ⟨h0, _⟩ := hr
        rw [hs] at h0
        have h0 : (a : Int) = 0 := h0
        have : a = 0 := by omega
        subst this
        rw [show pop 0 = 0 from by decide] at hp
        cases hp
      | cons t p =>
        obtain ⟨⟨g1, g2, g3, g4, g5, g6⟩, c', hr', rfl⟩ := hr
        have g3' : a.testBit t.1.toNat = true := by rw [hs] at g3; exact g3
        obtain ⟨a', st', q1, q2, q3⟩ := hgo t g1 g2 g3'
        have hmem' : (t, stIn m s t) ∈ nexts s m := by
          rw [hs]
          exact nexts_iff.2 ⟨g1, g2, g3', g4, g5, rfl⟩
        rw [q1] at hr'
        obtain ⟨k1, k2, k3⟩ := (best_spec n a' st' q2 q3).2 p c' hr'
        rw [← q1] at k1 k2 k3
        have hCe : C ⟨(t, stIn m s t), hmem'⟩ = some (t :: (bestF m l n (nextS m l s t)).1, (bestF m l n (nextS m l s t)).2.1 + stIn m s t + m.2.2 * t.2, true) := by
          rw [hCd]
          unfold cand
          simp only
          rw [decide_eq_false g6, cond_false, k1, cond_true]
        obtain ⟨j1, j2, j3⟩ := b2 ⟨(t, stIn m s t), hmem'⟩ (List.mem_attach _ _) _ hCe
        have j2 : B.2.1 ≤ (bestF m l n (nextS m l s t)).2.1 + stIn m s t + m.2.2 * t.2 := j2
        refine ⟨j1, by omega, fun heq => ?_⟩
        obtain ⟨e', _, he', hor⟩ := j3 (by show B.2.1 = (bestF m l n (nextS m l s t)).2.1 + stIn m s t + m.2.2 * t.2; omega)
        obtain ⟨_, _, h3⟩ := hcd e' B he'
        rw [h3]
        rcases hor with rfl | hor
        · exact .inr ⟨rfl, k3 (by omega)⟩
        · exact .inl hor
end Go.Hue
