/-
  Chapter 8: plans that can be run, by their stains. Plain Lean; no program in sight.
-/
import Derived.Test.YtlkegffejcndbaaHueB1
set_option linter.all false


set_option maxRecDepth 100000
namespace Go.Hue
open Go Go.Sx

/-- The stain before a turn, and in it; which colours are left; what the turns before cost. -/
def stD (m : Mill) (l : List Hue) (plan : List Turn) : Nat → Int
  | 0 => 0
  | i + 1 => max (dHi (hueAt l plan i)) (max 0 (stD m l plan i - (plan.getD i (0, 0)).2 * m.2.1.1) - m.1.1)
def stT (m : Mill) (l : List Hue) (plan : List Turn) (i : Nat) : Int := max 0 (stD m l plan i - (plan.getD i (0, 0)).2 * m.2.1.1)
def leftD (a : Nat) (plan : List Turn) : Nat → Nat
  | 0 => a
  | i + 1 => leftD a plan i ^^^ (leftD a plan i &&& (1 * 2 ^ (plan.getD i (0, 0)).1.toNat : Int).toNat)
def costD (m : Mill) (l : List Hue) (plan : List Turn) : Nat → Int
  | 0 => 0
  | i + 1 => costD m l plan i + stT m l plan i + m.2.2 * (plan.getD i (0, 0)).2
def stateD (m : Mill) (l : List Hue) (a : Nat) (plan : List Turn) (i : Nat) : State := ((leftD a plan i : Int), stD m l plan i)
theorem stateD_succ (m : Mill) (l : List Hue) (a : Nat) (plan : List Turn) (i : Nat) : nextS m l (stateD m l a plan i) (plan.getD i (0, 0)) = stateD m l a plan (i + 1) := rfl
theorem runs_from {m : Mill} {l : List Hue} {a : Nat} {plan : List Turn} {c : Int} : ∀ i, i ≤ plan.length → (Runs m l plan ((a : Int), 0) c ↔ (∀ k, k < i → mayGo m l (stateD m l a plan k) (plan.getD k (0, 0))) ∧ Runs m l (plan.drop i) (stateD m l a plan i) (c - costD m l plan i))
  | 0, _ => by
    simp only [List.drop_zero, costD, Int.sub_zero]
    exact ⟨fun h => ⟨fun k hk => by omega, h⟩, fun h => h.2⟩
  | i + 1, hi => by
    rw [runs_from i (by omega), drop_getD plan (0, 0) i (by omega)]
    constructor
    · rintro ⟨h1, h2, c', h3, h4⟩
      refine ⟨fun k hk => ?_, ?_⟩
      · by_cases hki : k = i
        · subst hki; exact h2
        · exact h1 k (by omega)
      · rw [stateD_succ] at h3
        have e : stIn m (stateD m l a plan i) (plan.getD i (0, 0)) = stT m l plan i := rfl
        have : c - costD m l plan (i + 1) = c' := by simp only [costD]; omega
        rw [this]; exact h3
    · rintro ⟨h1, h2⟩
      refine ⟨fun k hk => h1 k (by omega), h1 i (by omega), c - costD m l plan (i + 1), by rw [stateD_succ]; exact h2, ?_⟩
      have e : stIn m (stateD m l a plan i) (plan.getD i (0, 0)) = stT m l plan i := rfl
      simp only [costD]; omega
theorem runs_iff {m : Mill} {l : List Hue} {a : Nat} {plan : List Turn} {c : Int} : Runs m l plan ((a : Int), 0) c ↔ (∀ k, k < plan.length → mayGo m l (stateD m l a plan k) (plan.getD k (0, 0))) ∧ leftD a plan plan.length = 0 ∧ c = costD m l plan plan.length := by
  rw [runs_from plan.length (Nat.le_refl _), List.drop_length]
  constructor
  · rintro ⟨h1, h2, h3⟩
    have h2 : ((leftD a plan plan.length : Nat) : Int) = 0 := h2
    exact ⟨h1, by omega, by omega⟩
  · rintro ⟨h1, h2, h3⟩
    exact ⟨h1, by show ((leftD a plan plan.length : Nat) : Int) = 0; omega, by omega⟩

theorem great_shift (f : Nat → Int) (c : Int) (hc : 0 ≤ c) : ∀ n, great ((List.range n).map fun k => f k - c) 0 = max 0 (great ((List.range n).map f) 0 - c)
  | 0 => by simp only [List.range_zero, List.map_nil, great, List.foldl_nil]; omega
  | n + 1 => by
    rw [great_range, great_range, great_shift f c hc n]
    omega
theorem wsum_snoc (plan : List Turn) : ∀ (n a : Nat), wsum plan a (n + 1) = wsum plan a n + (plan.getD (a + n + 1) (0, 0)).2
  | 0, a => by simp [wsum]
  | n + 1, a => by
    rw [wsum, wsum_snoc plan n (a + 1), wsum, show a + 1 + n + 1 = a + (n + 1) + 1 by omega]
    omega
/-- **The stain that is carried along is the document's.** -/
theorem stT_eq {m : Mill} {l : List Hue} {plan : List Turn} (hr : 0 ≤ m.1.1) (hw : 0 ≤ m.2.1.1) (ht : ∀ i, 0 ≤ (plan.getD i (0, 0)).2) : ∀ i, stT m l plan i = (inS m l plan i).2
  | 0 => by
    have := Int.mul_nonneg (ht 0) hw
    show max 0 (0 - (plan.getD 0 (0, 0)).2 * m.2.1.1) = 0
    omega
  | i + 1 => by
    have ih := stT_eq hr hw ht (l := l) i
    have hwi := Int.mul_nonneg hw (ht (i + 1))
    have e1 : (inS m l plan (i + 1)).2 = max (great ((List.range i).map fun k => stHi m l plan k (i + 1)) 0) (stHi m l plan i (i + 1)) := great_range _ _ _
    have e2 : great ((List.range i).map fun k => stHi m l plan k (i + 1)) 0 = great ((List.range i).map fun k => stHi m l plan k i - (m.1.1 + m.2.1.1 * (plan.getD (i + 1) (0, 0)).2)) 0 := by
      refine great_congr _ _ 0 i fun k hk => ?_
      unfold stHi stv
      rw [show i + 1 - k = (i - k) + 1 by omega, wsum_snoc, show k + (i - k) + 1 = i + 1 by omega, Int.mul_add]
      have e3 : m.1.1 * (((i + 1 : Nat) : Int) - 1 - k) = m.1.1 * ((i : Int) - 1 - k) + m.1.1 := by
        rw [show (((i + 1 : Nat) : Int) - 1 - k) = ((i : Int) - 1 - k) + 1 by omega, Int.mul_add, Int.mul_one]
      rw [e3]
      omega
    rw [e1, e2, great_shift _ _ (by omega)]
    have e4 : great ((List.range i).map fun k => stHi m l plan k i) 0 = stT m l plan i := ih.symm
    rw [e4]
    have e5 : stHi m l plan i (i + 1) = dHi (hueAt l plan i) - m.2.1.1 * (plan.getD (i + 1) (0, 0)).2 := by
      unfold stHi stv
      rw [show i + 1 - i = 1 by omega]
      have e6 : m.1.1 * (((i + 1 : Nat) : Int) - 1 - i) = 0 := by rw [show (((i + 1 : Nat) : Int) - 1 - i) = 0 by omega, Int.mul_zero]
      have e7 : wsum plan i 1 = (plan.getD (i + 1) (0, 0)).2 := by simp [wsum]
      rw [e6, e7, Int.add_zero]
    rw [e5]
    show max 0 (max (dHi (hueAt l plan i)) (stT m l plan i - m.1.1) - (plan.getD (i + 1) (0, 0)).2 * m.2.1.1) = _
    rw [Int.mul_comm (plan.getD (i + 1) (0, 0)).2 m.2.1.1]
    omega

theorem leftD_lt {a n : Nat} {plan : List Turn} (ha : a < 2 ^ n) : ∀ i, leftD a plan i < 2 ^ n
  | 0 => ha
  | i + 1 => Nat.xor_lt_two_pow (leftD_lt ha i) (Nat.lt_of_le_of_lt Nat.and_le_left (leftD_lt ha i))
theorem testBit_lt {a n h : Nat} (ha : a < 2 ^ n) (hb : a.testBit h = true) : h < n := by
  rcases Nat.lt_or_ge h n with hh | hh
  · exact hh
  · rw [Nat.testBit_lt_two_pow (Nat.lt_of_lt_of_le ha (Nat.pow_le_pow_right (by decide) hh))] at hb
    cases hb

/-! ### What shows -/
theorem showAt_iff {m : Mill} {l : List Hue} {plan : List Turn} {i : Nat} : 0 ≤ showAt m l plan i ↔ ∃ k, k < i ∧ (hueAt l plan i).2.1 < stHi m l plan k i := by
  unfold showAt
  rw [ixF_any _ _ _ (Int.le_refl _), List.any_eq_true]
  constructor
  · rintro ⟨x, hx, hp⟩
    obtain ⟨k, hk, rfl⟩ := List.mem_map.1 hx
    exact ⟨k, List.mem_range.1 hk, of_decide_eq_true hp⟩
  · rintro ⟨k, hk, h⟩
    exact ⟨_, List.mem_map.2 ⟨k, List.mem_range.2 hk, rfl⟩, decide_eq_true h⟩
theorem showGo_iff {m : Mill} {l : List Hue} {plan : List Turn} : ∀ n i, ((showGo m l plan n i).2.2 = 4 ↔ ∀ j, i ≤ j → j < i + n → ¬ 0 ≤ showAt m l plan j) ∧ ((showGo m l plan n i).2.2 = 4 ∨ (showGo m l plan n i).2.2 = 0) ∧ ((showGo m l plan n i).2.2 = 4 → showGo m l plan n i = (0, 0, 4))
  | 0, i => ⟨⟨fun _ j h1 h2 => by omega, fun _ => rfl⟩, .inl rfl, fun _ => rfl⟩
  | n + 1, i => by
    simp only [showGo]
    obtain ⟨h1, h2, h3⟩ := showGo_iff (m := m) (l := l) (plan := plan) n (i + 1)
    cases hs : decide (0 ≤ showAt m l plan i) with
    | true =>
      have hs := of_decide_eq_true hs
      refine ⟨⟨fun h => (by cases h), fun h => absurd hs (h i (Nat.le_refl _) (by omega))⟩, .inr rfl, fun h => (by cases h)⟩
    | false =>
      have hs := of_decide_eq_false hs
      rw [cond_false]
      refine ⟨⟨fun h j g1 g2 => ?_, fun h => h1.2 fun j g1 g2 => h j (by omega) (by omega)⟩, h2, h3⟩
      by_cases hj : j = i
      · subst hj; exact hs
      · exact h1.1 h j (by omega) (by omega)
theorem shows_ok {m : Mill} {l : List Hue} {plan : List Turn} (hv : validB m l = true) (hp : planB l plan = true) : showsV m l plan = showGo m l plan plan.length 0 := by rw [showsV, hv, hp]; rfl
/-- Nothing shows in a turn if no stain is deeper than it hides. -/
theorem not_shows {m : Mill} {l : List Hue} {plan : List Turn} {i : Nat} (h : (inS m l plan i).2 ≤ (hueAt l plan i).2.1) : ¬ 0 ≤ showAt m l plan i := by
  rw [showAt_iff]
  rintro ⟨k, hk, h2⟩
  have hle : stHi m l plan k i ≤ (inS m l plan i).2 := by
    have key : ∀ (f : Nat → Int) n k, k < n → f k ≤ great ((List.range n).map f) 0 := by
      intro f n
      induction n with
      | zero => intro k hk; omega
      | succ n ih =>
        intro k hk
        rw [great_range]
        by_cases hkn : k = n
        · subst hkn; omega
        · have := ih k (by omega); omega
    exact key (fun k => stHi m l plan k i) i k hk
  have h2 : (hueAt l plan i).2.1 < stHi m l plan k i := h2
  omega
theorem hides {m : Mill} {l : List Hue} {plan : List Turn} {i : Nat} (h0 : 0 ≤ (hueAt l plan i).2.1) (h : ¬ 0 ≤ showAt m l plan i) : (inS m l plan i).2 ≤ (hueAt l plan i).2.1 := by
  refine great_le (fun k => stHi m l plan k i) 0 _ h0 i fun k hk => ?_
  rw [showAt_iff] at h
  have hn : ¬ (hueAt l plan i).2.1 < stHi m l plan k i := fun h2 => h ⟨k, hk, h2⟩
  show stHi m l plan k i ≤ _
  omega
/-- All colours, before the first. -/
theorem full_nat {l : List Hue} (hl : l.length ≤ 6) : ((2 : Int) ^ l.length - 1) = ((2 ^ l.length - 1 : Nat) : Int) ∧ 2 ^ l.length - 1 < 64 ∧ 2 ^ l.length - 1 < 2 ^ l.length := by
  have e' : ((2 : Int) ^ l.length) = ((2 ^ l.length : Nat) : Int) := by rw [Int.natCast_pow]; rfl
  have h64 : (2 : Nat) ^ l.length ≤ 2 ^ 6 := Nat.pow_le_pow_right (by decide) hl
  have hpos := Nat.two_pow_pos l.length
  exact ⟨by rw [e']; omega, by omega, by omega⟩
/-- **A plan that runs is one, nothing shows in it, and it costs what its stains and washes do.** -/
theorem runs_plan {m : Mill} {l : List Hue} {plan : List Turn} {c : Int} (H : Valid m l) (hlen : plan.length ≤ 12) (hr : Runs m l plan (((2 : Int) ^ l.length - 1), 0) c) :
    planB l plan = true ∧ showsV m l plan = (0, 0, 4) ∧ c = costD m l plan plan.length := by
  have hl6 := H.len
  obtain ⟨e1, e2, e3⟩ := full_nat hl6
  rw [e1] at hr
  obtain ⟨h1, h2, h3⟩ := runs_iff.1 hr
  have hp : planB l plan = true := by
    refine plan_iff.2 ⟨hlen, fun t ht => ?_⟩
    obtain ⟨k, hk⟩ := List.getElem?_of_mem ht
    have hkl := (List.getElem?_eq_some_iff.1 hk).1
    have e : plan.getD k (0, 0) = t := by simp [List.getD, hk]
    have hg := h1 k hkl
    rw [e] at hg
    obtain ⟨g1, g2, g3, g4, g5, _⟩ := hg
    have g3 : (leftD (2 ^ l.length - 1) plan k).testBit t.1.toNat = true := g3
    have := testBit_lt (leftD_lt e3 k) g3
    exact ⟨g1, by omega, g4, g5⟩
  have HP := plan_iff.1 hp
  have ht : ∀ i, 0 ≤ (plan.getD i (0, 0)).2 := fun i => (turnD HP i).1
  have hv := valid_iff.2 H
  refine ⟨hp, ?_, h3⟩
  rw [shows_ok hv hp]
  obtain ⟨k1, _, k3⟩ := showGo_iff (m := m) (l := l) (plan := plan) plan.length 0
  refine k3 (k1.2 fun j _ hj => not_shows ?_)
  have hg := h1 j (by omega)
  have hs : ¬ (hueAt l plan j).2.1 < stT m l plan j := hg.2.2.2.2.2
  rw [stT_eq H.run.1 H.wash.1 ht] at hs
  omega
end Go.Hue
