/-
  Chapter 8: whole plans can be run. Plain Lean; no program in sight.
-/
import Derived.Test.YtlkegffejcndbaaHueB2
set_option linter.all false


set_option maxRecDepth 100000
namespace Go.Hue
open Go Go.Sx

theorem pow_int (b : Nat) : (1 * 2 ^ b : Int).toNat = 2 ^ b := by
  have : (1 * 2 ^ b : Int) = ((2 ^ b : Nat) : Int) := by rw [Int.one_mul, Int.natCast_pow]; rfl
  rw [this]; rfl
theorem leftD_bit (a : Nat) (plan : List Turn) (h : Nat) : ∀ k, (leftD a plan k).testBit h = true ↔ a.testBit h = true ∧ ∀ j, j < k → (plan.getD j (0, 0)).1.toNat ≠ h
  | 0 => ⟨fun hb => ⟨hb, fun j hj => by omega⟩, fun hb => hb.1⟩
  | k + 1 => by
    have ih := leftD_bit a plan h k
    rw [leftD, pow_int, Nat.testBit_xor, Nat.testBit_and, Nat.testBit_two_pow]
    constructor
    · intro hb
      cases hx : (leftD a plan k).testBit h with
      | false => rw [hx] at hb; simp at hb
      | true =>
        rw [hx] at hb
        have hne : (plan.getD k (0, 0)).1.toNat ≠ h := by
          intro e
          rw [decide_eq_true e] at hb; simp at hb
        obtain ⟨h1, h2⟩ := ih.1 hx
        refine ⟨h1, fun j hj => ?_⟩
        by_cases hjk : j = k
        · subst hjk; exact hne
        · exact h2 j (by omega)
    · rintro ⟨h1, h2⟩
      rw [ih.2 ⟨h1, fun j hj => h2 j (by omega)⟩, decide_eq_false (h2 k (by omega))]
      rfl
/-- Each turn takes one colour. -/
theorem leftD_pop {a : Nat} (ha : a < 64) {plan : List Turn} : ∀ k, (∀ j, j < k → 0 ≤ (plan.getD j (0, 0)).1 ∧ (plan.getD j (0, 0)).1 < 6 ∧ (leftD a plan j).testBit (plan.getD j (0, 0)).1.toNat = true) → pop (leftD a plan k) + k = pop a
  | 0, _ => rfl
  | k + 1, h => by
    have ih := leftD_pop ha k fun j hj => h j (by omega)
    obtain ⟨h1, h2, h3⟩ := h k (by omega)
    have hlt : leftD a plan k < 64 := leftD_lt (n := 6) ha k
    have b5 : pop (leftD a plan k ^^^ (leftD a plan k &&& (Int.toNat (1 * 2 ^ (plan.getD k (0, 0)).1.toNat)))) + 1 = pop (leftD a plan k) := (bits5 ⟨leftD a plan k, hlt⟩ ⟨(plan.getD k (0, 0)).1.toNat, by omega⟩ h3).2
    show pop (leftD a plan k ^^^ (leftD a plan k &&& (Int.toNat (1 * 2 ^ (plan.getD k (0, 0)).1.toNat)))) + (k + 1) = pop a
    omega
theorem pop_full : ∀ n : Fin 7, pop (2 ^ n.val - 1) = n.val := by decide +kernel
/-- A plan in which each colour comes once. -/
structure Whole (l : List Hue) (plan : List Turn) : Prop where
  len : plan.length = l.length
  turn : ∀ t ∈ plan, 0 ≤ t.1 ∧ t.1 < (l.length : Int) ∧ 0 ≤ t.2 ∧ t.2 ≤ 2
  once : ∀ i j, i < j → j < plan.length → (plan.getD i (0, 0)).1 ≠ (plan.getD j (0, 0)).1
theorem Whole.plan {l : List Hue} {plan : List Turn} (h : Whole l plan) (hl : l.length ≤ 6) : planB l plan = true := plan_iff.2 ⟨by have := h.len; omega, h.turn⟩
theorem full_bit {n h : Nat} (hh : h < n) : (2 ^ n - 1).testBit h = true := by
  rw [Nat.testBit_two_pow_sub_one]; exact decide_eq_true hh
/-- **A whole plan in which nothing shows can be run.** -/
theorem whole_runs {m : Mill} {l : List Hue} {plan : List Turn} (H : Valid m l) (hw : Whole l plan) (hs : (showsV m l plan).2.2 = 4) : Runs m l plan (((2 : Int) ^ l.length - 1), 0) (costD m l plan plan.length) := by
  have hl6 := H.len
  obtain ⟨e1, e2, e3⟩ := full_nat hl6
  have hp := hw.plan hl6
  have HP := plan_iff.1 hp
  have hv := valid_iff.2 H
  have hlen := hw.len
  rw [shows_ok hv hp] at hs
  have hns := (showGo_iff (m := m) (l := l) (plan := plan) plan.length 0).1.1 hs
  have ht0 : ∀ i, 0 ≤ (plan.getD i (0, 0)).2 := fun i => (turnD HP i).1
  have hbit : ∀ k, k < plan.length → (leftD (2 ^ l.length - 1) plan k).testBit (plan.getD k (0, 0)).1.toNat = true := by
    intro k hk
    have ht := HP.turn _ (getD_mem plan (0, 0) k hk)
    refine (leftD_bit _ _ _ _).2 ⟨full_bit (by omega), fun j hj => ?_⟩
    have h1 := hw.once j k hj hk
    have ht2 := HP.turn _ (getD_mem plan (0, 0) j (by omega))
    omega
  rw [e1]
  refine runs_iff.2 ⟨fun k hk => ?_, ?_, rfl⟩
  · have ht := HP.turn _ (getD_mem plan (0, 0) k hk)
    have hh := H.hue _ (getD_mem l ((0, 0), 0, 0) (plan.getD k (0, 0)).1.toNat (by omega))
    have h5 := hides (m := m) (l := l) (plan := plan) (i := k) hh.2.1 (hns k (by omega) (by omega))
    refine ⟨ht.1, by omega, hbit k hk, ht.2.2.1, ht.2.2.2, ?_⟩
    show ¬ (hueAt l plan k).2.1 < stT m l plan k
    rw [stT_eq H.run.1 H.wash.1 ht0]
    omega
  · have hpop := leftD_pop e2 (plan := plan) plan.length fun j hj => by
      have ht := HP.turn _ (getD_mem plan (0, 0) j hj)
      exact ⟨ht.1, by omega, hbit j hj⟩
    rw [pop_full ⟨l.length, by omega⟩] at hpop
    have hpop : pop (leftD (2 ^ l.length - 1) plan plan.length) + plan.length = l.length := hpop
    have hp0 : pop (leftD (2 ^ l.length - 1) plan plan.length) = 0 := by omega
    exact bits3 ⟨_, leftD_lt (n := 6) e2 plan.length⟩ hp0
/-- A plan that runs is whole. -/
theorem runs_whole {m : Mill} {l : List Hue} {plan : List Turn} {c : Int} (H : Valid m l) (hlen : plan.length ≤ 12) (hr : Runs m l plan (((2 : Int) ^ l.length - 1), 0) c) : Whole l plan := by
  have hl6 := H.len
  obtain ⟨hp, _, _⟩ := runs_plan H hlen hr
  have HP := plan_iff.1 hp
  obtain ⟨e1, e2, e3⟩ := full_nat hl6
  rw [e1] at hr
  obtain ⟨h1, h2, h3⟩ := runs_iff.1 hr
  have hbit : ∀ k, k < plan.length → (leftD (2 ^ l.length - 1) plan k).testBit (plan.getD k (0, 0)).1.toNat = true := fun k hk => (h1 k hk).2.2.1
  have hpop := leftD_pop e2 (plan := plan) plan.length fun j hj => by
    have ht := HP.turn _ (getD_mem plan (0, 0) j hj)
    exact ⟨ht.1, by omega, hbit j hj⟩
  rw [h2, pop_full ⟨l.length, by omega⟩, show pop 0 = 0 from by decide] at hpop
  refine ⟨by have : 0 + plan.length = l.length := hpop; omega, HP.turn, fun i j hij hj => ?_⟩
  have := ((leftD_bit _ _ _ _).1 (hbit j hj)).2 i hij
  intro e
  rw [e] at this
  exact this rfl
/-- What a plan costs: its stains and its washes. -/
theorem costD_eq {m : Mill} {l : List Hue} {plan : List Turn} (H : Valid m l) (hp : planB l plan = true) (k : Nat) : costD m l plan (k + 1) = costD m l plan k + (inS m l plan k).2 + m.2.2 * (plan.getD k (0, 0)).2 := by
  have HP := plan_iff.1 hp
  rw [costD, stT_eq H.run.1 H.wash.1 fun i => (turnD HP i).1]
theorem inS_bd {m : Mill} {l : List Hue} {plan : List Turn} (H : Valid m l) (hp : planB l plan = true) {i : Nat} (hi : i < plan.length) : 0 ≤ (inS m l plan i).2 ∧ (inS m l plan i).2 ≤ 10000 := by
  have HP := plan_iff.1 hp
  refine ⟨great_ge _ 0 i, great_le (fun k => stHi m l plan k i) 0 10000 (by omega) i fun k hk => ?_⟩
  have ht := HP.turn _ (getD_mem plan (0, 0) k (by omega))
  have hd := H.hue _ (getD_mem' l ((0, 0), 0, 0) (plan.getD k (0, 0)).1 ht.1 ht.2.1)
  have hws := (wsum_bd (turnD HP) (i - k) k).1
  have q1 := Int.mul_nonneg H.wash.1 hws
  have q2 := Int.mul_nonneg H.run.1 (show (0 : Int) ≤ (i : Int) - 1 - k by omega)
  show dHi (hueAt l plan k) - (m.2.1.1 * wsum plan k (i - k) + m.1.1 * ((i : Int) - 1 - k)) ≤ 10000
  have e : dHi (hueAt l plan k) ≤ 10000 := hd.1.2.2
  omega
theorem costD_bd {m : Mill} {l : List Hue} {plan : List Turn} (H : Valid m l) (hp : planB l plan = true) : ∀ k, k ≤ plan.length → 0 ≤ costD m l plan k ∧ costD m l plan k ≤ 30000 * k
  | 0, _ => by simp [costD]
  | k + 1, hk => by
    have ih := costD_bd H hp k (by omega)
    have h1 := inS_bd H hp (i := k) (by omega)
    have h2 := turnD (plan_iff.1 hp) k
    have q := mul_bd (a := m.2.2) (A := 10000) H.price h2
    rw [costD_eq H hp]
    omega
/-- **The best plan**, of all whole ones in which nothing shows. -/
theorem best_all {m : Mill} {l : List Hue} (hv : validB m l = true) :
    ((bestOut m l = ([], 0, 4) ∧ ∀ p, Whole l p → (showsV m l p).2.2 ≠ 4) ∨
    ((bestOut m l).2.2 = 0 ∧ Whole l (bestOut m l).1 ∧ showsV m l (bestOut m l).1 = (0, 0, 4) ∧ (bestOut m l).2.1 = costD m l (bestOut m l).1 (bestOut m l).1.length ∧
      ∀ p, Whole l p → (showsV m l p).2.2 = 4 → (bestOut m l).2.1 ≤ costD m l p p.length ∧ ((bestOut m l).2.1 = costD m l p p.length → lexle (bestOut m l).1 p))) := by
  have H := valid_iff.1 hv
  have hl6 := H.len
  obtain ⟨e1, e2, e3⟩ := full_nat hl6
  have hO : bestOut m l = (let r := bestV m l ((2 ^ l.length - 1 : Int), 0); cond (!r.2.2) ([], 0, 4) (r.1, r.2.1, 0)) := by rw [bestOut, hv]; rfl
  obtain ⟨r, hr⟩ : ∃ r, r = bestV m l ((2 ^ l.length - 1 : Int), 0) := ⟨_, rfl⟩
  have hr2 : r = bestF m l (pop (2 ^ l.length - 1)) (((2 ^ l.length - 1 : Nat) : Int), 0) := by rw [hr, e1]; rfl
  have hb := best_bd H (pop (2 ^ l.length - 1)) (2 ^ l.length - 1) 0 (by omega) (by omega) ⟨by omega, by omega⟩
  have hs := best_spec (m := m) (l := l) (pop (2 ^ l.length - 1)) (2 ^ l.length - 1) 0 e2 rfl
  rw [← hr2] at hb hs
  rw [← hr] at hO
  have hpop : pop (2 ^ l.length - 1) ≤ 6 := Nat.le_trans List.countP_le_length (by simp)
  rw [← e1] at hs
  cases hi : r.2.2 with
  | false =>
    have hOf : bestOut m l = ([], 0, 4) := by rw [hO]; simp only; rw [hi]; rfl
    refine .inl ⟨hOf, fun p hp hn => ?_⟩
    have := (hs.2 p _ (whole_runs H hp hn)).1
    rw [hi] at this; cases this
  | true =>
    have hOt : bestOut m l = (r.1, r.2.1, 0) := by rw [hO]; simp only; rw [hi]; rfl
    rw [hOt]
    have hrun := hs.1 hi
    have hrl : r.1.length ≤ 12 := by omega
    obtain ⟨h1, h2, h3⟩ := runs_plan H hrl hrun
    refine .inr ⟨rfl, runs_whole H hrl hrun, h2, h3, fun p hp hn => ?_⟩
    obtain ⟨_, k2, k3⟩ := hs.2 p _ (whole_runs H hp hn)
    exact ⟨k2, k3⟩
end Go.Hue
