/-
  Chapter 8: all plans, in their order. Plain Lean; no program in sight.
-/
import Derived.Test.YtlkegffejcndbaaHueAuto3
set_option linter.all false


set_option maxRecDepth 100000
namespace Go.Hue
open Go Go.Sx

theorem hasB_iff {b : List Turn} {h : Int} : hasB b h = true ↔ ∃ t ∈ b, t.1 = h := by
  simp [hasB]
theorem hasB_app {b r : List Turn} {h : Int} : hasB (b ++ r) h = (hasB b h || hasB r h) := by simp [hasB]
/-- Which plans there are. -/
theorem plansFrom_iff {n : Nat} {p : List Turn} : ∀ (f : Nat) (b : List Turn), p ∈ plansFrom n f b ↔ ∃ r, p = b ++ r ∧ r.length = f ∧ (∀ t ∈ r, 0 ≤ t.1 ∧ t.1 < (n : Int) ∧ 0 ≤ t.2 ∧ t.2 ≤ 2 ∧ hasB b t.1 = false) ∧ r.Pairwise fun t u => t.1 ≠ u.1
  | 0, b => by
    simp only [plansFrom, List.mem_singleton]
    constructor
    · rintro rfl
      exact ⟨[], by simp, rfl, fun t ht => (by cases ht), List.Pairwise.nil⟩
    · rintro ⟨r, rfl, hr, _⟩
      rw [List.eq_nil_of_length_eq_zero hr, List.append_nil]
  | f + 1, b => by
    simp only [plansFrom, List.mem_flatMap, List.mem_range]
    constructor
    · rintro ⟨h, hh, hp⟩
      cases hb : hasB b (h : Int) with
      | true => rw [hb] at hp; cases hp
      | false =>
        rw [hb, cond_false, List.mem_flatMap] at hp
        obtain ⟨w, hw, hp⟩ := hp
        have hw := List.mem_range.1 hw
        obtain ⟨r, rfl, hr, h1, h2⟩ := (plansFrom_iff f _).1 hp
        refine ⟨((h : Int), (w : Int)) :: r, by simp, by simp [hr], fun t ht => ?_, List.Pairwise.cons (fun u hu e => ?_) h2⟩
        · rcases List.mem_cons.1 ht with rfl | ht
          · exact ⟨by show (0 : Int) ≤ (h : Int); omega, by show (h : Int) < n; omega, by show (0 : Int) ≤ (w : Int); omega, by show (w : Int) ≤ 2; omega, hb⟩
          · obtain ⟨g1, g2, g3, g4, g5⟩ := h1 t ht
            rw [hasB_app, Bool.or_eq_false_iff] at g5
            exact ⟨g1, g2, g3, g4, g5.1⟩
        · have g5 := (h1 u hu).2.2.2.2
          rw [hasB_app, Bool.or_eq_false_iff] at g5
          have : hasB [((h : Int), (w : Int))] u.1 = true := hasB_iff.2 ⟨_, List.mem_singleton.2 rfl, e⟩
          rw [this] at g5; cases g5.2
    · rintro ⟨r, rfl, hr, h1, h2⟩
      cases r with
      | nil => cases hr
      | cons t r =>
        obtain ⟨th, tw⟩ := t
        obtain ⟨g1, g2, g3, g4, g5⟩ := h1 _ List.mem_cons_self
        simp only at g1 g2 g3 g4 g5
        obtain ⟨h, rfl⟩ : ∃ k : Nat, th = (k : Int) := ⟨th.toNat, by omega⟩
        obtain ⟨w, rfl⟩ : ∃ k : Nat, tw = (k : Int) := ⟨tw.toNat, by omega⟩
        have h2 := List.pairwise_cons.1 h2
        refine ⟨h, by omega, ?_⟩
        rw [g5, cond_false, List.mem_flatMap]
        refine ⟨w, List.mem_range.2 (by omega), (plansFrom_iff f _).2 ⟨r, by simp, by simpa using hr, fun u hu => ?_, h2.2⟩⟩
        obtain ⟨q1, q2, q3, q4, q5⟩ := h1 u (List.mem_cons_of_mem _ hu)
        refine ⟨q1, q2, q3, q4, ?_⟩
        rw [hasB_app, q5, Bool.false_or]
        cases hh : hasB [((h : Int), (w : Int))] u.1 with
        | false => rfl
        | true =>
          obtain ⟨v, hv, e⟩ := hasB_iff.1 hh
          rw [List.mem_singleton.1 hv] at e
          exact absurd e (h2.1 u hu)
theorem plans_whole {l : List Hue} {p : List Turn} : p ∈ plansFrom l.length l.length [] ↔ Whole l p := by
  rw [plansFrom_iff]
  constructor
  · rintro ⟨r, e, hr, h1, h2⟩
    have e : p = r := e
    subst e
    refine ⟨hr, fun t ht => ?_, fun i j hij hj => ?_⟩
    · obtain ⟨g1, g2, g3, g4, _⟩ := h1 t ht
      exact ⟨g1, g2, g3, g4⟩
    · have hi : i < p.length := by omega
      have := List.pairwise_iff_getElem.1 h2 i j hi hj hij
      rw [show p.getD i (0, 0) = p[i] from by simp [List.getD, hi], show p.getD j (0, 0) = p[j] from by simp [List.getD, hj]]
      exact this
  · intro h
    refine ⟨p, rfl, h.len, fun t ht => ?_, ?_⟩
    · obtain ⟨g1, g2, g3, g4⟩ := h.turn t ht
      exact ⟨g1, g2, g3, g4, rfl⟩
    · refine List.pairwise_iff_getElem.2 fun i j hi hj hij => ?_
      have := h.once i j hij hj
      rw [show p.getD i (0, 0) = p[i] from by simp [List.getD, hi], show p.getD j (0, 0) = p[j] from by simp [List.getD, hj]] at this
      exact this
/-- Before, in the order of plans. -/
def llt : List Turn → List Turn → Prop
  | a :: p, b :: q => tlt a b ∨ (a = b ∧ llt p q)
  | _, _ => False
theorem llt_app {b p q : List Turn} (h : llt p q) : llt (b ++ p) (b ++ q) := by
  induction b with
  | nil => exact h
  | cons a b ih => exact .inr ⟨rfl, ih⟩
theorem tlt_asymm {a b : Turn} (h : tlt a b) : ¬ tlt b a ∧ a ≠ b := by
  refine ⟨fun h2 => ?_, fun e => ?_⟩
  · unfold tlt at h h2; omega
  · subst e; unfold tlt at h; omega
theorem llt_not : ∀ {p q : List Turn}, llt p q → ¬ lexle q p
  | [], _, h => by cases h
  | _ :: _, [], h => by cases h
  | a :: p, b :: q, h => by
    rintro (h2 | ⟨rfl, h2⟩)
    · rcases h with h | ⟨rfl, h⟩
      · exact (tlt_asymm h).1 h2
      · exact (tlt_asymm h2).2 rfl
    · rcases h with h | ⟨_, h⟩
      · exact (tlt_asymm h).2 rfl
      · exact llt_not h h2
/-- They come in this order. -/
theorem plans_sorted {n : Nat} : ∀ (f : Nat) (b : List Turn), (plansFrom n f b).Pairwise llt
  | 0, b => List.pairwise_singleton _ _
  | f + 1, b => by
    simp only [plansFrom]
    rw [List.pairwise_flatMap]
    refine ⟨fun h _ => ?_, (List.pairwise_lt_range (n := n)).imp fun {h h'} hh p hp q hq => ?_⟩
    · cases hasB b (h : Int) with
      | true => exact List.Pairwise.nil
      | false =>
        rw [cond_false, List.pairwise_flatMap]
        refine ⟨fun w _ => plans_sorted f _, (List.pairwise_lt_range (n := 3)).imp fun {w w'} hw p hp q hq => ?_⟩
        obtain ⟨r, rfl, _⟩ := (plansFrom_iff f _).1 hp
        obtain ⟨r', rfl, _⟩ := (plansFrom_iff f _).1 hq
        rw [List.append_assoc, List.append_assoc]
        exact llt_app (.inl (.inr ⟨rfl, by show (w : Int) < (w' : Int); omega⟩))
    · have key : ∀ (h : Nat) p, p ∈ (cond (hasB b (h : Int)) [] ((List.range 3).flatMap fun (w : Nat) => plansFrom n f (b ++ [((h : Int), (w : Int))])) : List (List Turn)) → ∃ w r, p = b ++ (((h : Int), w) :: r) := by
        intro h p hp
        cases hb : hasB b (h : Int) with
        | true => rw [hb] at hp; cases hp
        | false =>
          rw [hb, cond_false, List.mem_flatMap] at hp
          obtain ⟨w, _, hp⟩ := hp
          obtain ⟨r, rfl, _⟩ := (plansFrom_iff f _).1 hp
          exact ⟨w, r, by simp⟩
      obtain ⟨w, r, rfl⟩ := key h p hp
      obtain ⟨w', r', rfl⟩ := key h' q hq
      exact llt_app (.inl (.inl (by show (h : Int) < (h' : Int); omega)))
theorem flatMap_len {α β : Type} (g : α → List β) (c : Nat) : ∀ l : List α, (∀ a ∈ l, (g a).length ≤ c) → (l.flatMap g).length ≤ l.length * c
  | [], _ => by simp
  | a :: l, h => by
    have h1 := h a List.mem_cons_self
    have h2 := flatMap_len g c l fun x hx => h x (List.mem_cons_of_mem _ hx)
    rw [List.flatMap_cons, List.length_append, List.length_cons, Nat.add_mul, Nat.one_mul]
    omega
theorem plans_len {n : Nat} (hn : n ≤ 4) : ∀ (f : Nat) (b : List Turn), (plansFrom n f b).length ≤ 16 ^ f
  | 0, b => by simp [plansFrom]
  | f + 1, b => by
    have h1 : ∀ h : Nat, (cond (hasB b (h : Int)) [] ((List.range 3).flatMap fun (w : Nat) => plansFrom n f (b ++ [((h : Int), (w : Int))])) : List (List Turn)).length ≤ 3 * 16 ^ f := by
      intro h
      cases hasB b (h : Int) with
      | true => simp
      | false =>
        have := flatMap_len (fun (w : Nat) => plansFrom n f (b ++ [((h : Int), (w : Int))])) (16 ^ f) (List.range 3) fun w _ => plans_len hn f _
        rw [List.length_range] at this
        exact this
    have h2 := flatMap_len (fun (h : Nat) => (cond (hasB b (h : Int)) [] ((List.range 3).flatMap fun (w : Nat) => plansFrom n f (b ++ [((h : Int), (w : Int))])) : List (List Turn))) (3 * 16 ^ f) (List.range n) fun h _ => h1 h
    rw [List.length_range] at h2
    have h3 : n * (3 * 16 ^ f) ≤ 4 * (3 * 16 ^ f) := Nat.mul_le_mul_right _ hn
    show ((List.range n).flatMap _).length ≤ _
    rw [Nat.pow_succ]
    omega
end Go.Hue
