/-
  Chapter 3: FireEnds: its condition proved.
-/
import Derived.Test.YtfjkenhmaebpmaaFireP15
set_option linter.all false
set_option maxRecDepth 100000
set_option maxHeartbeats 1000000
set_option linter.unusedVariables false
namespace Go.Fire
open Go Go.Sx
theorem hc_bd {x : HC} (h : hcOk x) : setOk (x.2.2.1.getD x.1.toNat 0) ∧ (0 ≤ x.2.1.1.2 * (x.2.2.1.getD x.1.toNat 0 + x.2.2.2.2.1) ∧ x.2.1.1.2 * (x.2.2.1.getD x.1.toNat 0 + x.2.2.2.2.1) ≤ 3150000) ∧
  (0 ≤ x.2.1.1.2 * max 0 (x.2.2.1.getD x.1.toNat 0 - x.2.2.2.2.1) ∧ x.2.1.1.2 * max 0 (x.2.2.1.getD x.1.toNat 0 - x.2.2.2.2.1) ≤ 3150000) ∧ -200 ≤ x.2.1.2.2 ∧ x.2.1.2.2 ≤ 200 := by
 obtain ⟨h1, hl, he, hp⟩ := h
 have P := prog_iff.1 hl
 have Q := place_iff.1 hp
 have hs : setOk (x.2.2.1.getD x.1.toNat 0) := P.2 _ (getD_mem' x.2.2.1 0 x.1 h1.1 h1.2)
 have hs1 := hs.1
 have hs2 := hs.2
 refine ⟨hs, ?_, ?_, by omega, by omega⟩
 ·exact mul_bd (A := 1500) (B := 2100) ⟨by omega, by omega⟩ ⟨by omega, by omega⟩
 ·exact mul_bd (A := 1500) (B := 2100) ⟨by omega, by omega⟩ ⟨by omega, by omega⟩
theorem v34 (x : HC) (hp : k34.pre x) : V34 x := by
 have h : hcOk x := hp
 obtain ⟨hs, a, b, c⟩ := hc_bd h
 have hs1 := hs.1
 have hs2 := hs.2
 have he := h.2.2.1
 exact ⟨h.1, by simp only [Z.in64]; omega, by simp only [Z.in64]; omega, by simp only [Z.in64]; omega, by simp only [Z.in64]; omega, rfl⟩
theorem v35 (x : HC) (hp : k35.pre x) : V35 x := by
 have h : hcOk x := hp
 obtain ⟨hs, a, b, c⟩ := hc_bd h
 have hs1 := hs.1
 have hs2 := hs.2
 have he := h.2.2.1
 exact ⟨h.1, by simp only [Z.in64]; omega, by simp only [Z.in64]; omega, by simp only [Z.in64]; omega, by simp only [Z.in64]; omega, rfl⟩
theorem chn_at : ∀ {n : Int} {R : List Int}, (chn n R).1 ≠ 0 → ∃ j : Nat, j < R.length ∧ (chn n R).1 = n + (j : Int) ∧ (chn n R).2 = R.getD j 0 ∧ 0 ≤ R.getD j 0
 | _, [], h => absurd rfl h
 | n, r :: R, h => by
  rw [chn] at h ⊢
  cases hr : decide (0 ≤ r) with
  | true => exact ⟨0, by simp, by simp, rfl, of_decide_eq_true hr⟩
  | false =>
   rw [hr, cond_false] at h
   obtain ⟨j, h1, h2, h3, h4⟩ := chn_at h
   exact ⟨j + 1, by simpa using h1, by rw [cond_false, h2]; omega, h3, h4⟩
theorem cold_truth {s : Stand} {l : List Int} (hs : standOk s) (hl : progB l = true) : Truth s l (l.map (leastV s.1.2.1 s.2.2)) := by
 obtain ⟨he, hp, _⟩ := hs
 have Q := place_iff.1 hp
 have P := prog_iff.1 hl
 refine ⟨List.length_map _, s.2.2.1.1, s.2.2.2.1, ⟨Int.le_refl _, Q.1.2.1⟩, ⟨Int.le_refl _, Q.2.2.1⟩, fun i hi => ⟨max 0 (l.getD i 0 - s.1.2.1), ⟨Int.le_refl _, ?_⟩, ?_⟩⟩
 ·have := (P.2 _ (getD_mem l 0 i hi)).1
  omega
 ·simp [List.getD, hi, leastV]
theorem loose_held {s : Stand} {l : List Int} (hs : standOk s) (hl : progB l = true) (h : runMax s l 0 0 < s.2.1.2.2.2.1) :
  (breaksV (4000, s.2.1.2.1, 4000, s.2.1.2.2.2.1, 4000, 4000) (l.map (leastV s.1.2.1 s.2.2))).1 = 5 := by
 have P := prog_iff.1 hl
 obtain ⟨H, hH⟩ : ∃ H, H = l.map (leastV s.1.2.1 s.2.2) := ⟨_, rfl⟩
 have hlen : H.length = l.length := by rw [hH, List.length_map]
 have hb : ∀ i, i < l.length → -200000 ≤ H.getD i 0 ∧ H.getD i 0 ≤ 3200000 := fun i hi => by
  have := least_bd hs.1 hs.2.1 (P.2 _ (getD_mem l 0 i hi))
  have e : H.getD i 0 = leastV s.1.2.1 s.2.2 (l.getD i 0) := by rw [hH]; simp [List.getD, hi]
  rw [e]; omega
 have hL := P.1.1
 rw [← hH]
 have e5 : runB (H.map fun n => decide (1000 * s.2.1.2.1 ≤ n)) 0 0 = runMax s l 0 0 := by
  rw [runMax_runB, hH, List.map_map]; rfl
 have r1 : ¬ (1000 * 4000 : Int) < H.getD 0 0 := by have := hb 0 (by omega); omega
 have r2 : firstH 0 (fun e => decide (e.2 ≤ 1000 * 4000)) (restOf H 0) < 0 := first_none fun i hi => decide_eq_true (by have := hb i (by omega); simp only; omega)
 have r3 : firstH ((1 : Nat) : Int) (fun e => decide (e.2 - e.1 ≤ 1000 * 4000)) (restOf H 0) < 0 := first_none fun i hi => decide_eq_true (by have := hb i (by omega); have := hb (i - 1) (by omega); simp only; omega)
 have r4 : firstH ((1 : Nat) : Int) (fun e => decide (e.1 - e.2 ≤ 1000 * 4000)) (restOf H 0) < 0 := first_none fun i hi => decide_eq_true (by have := hb i (by omega); have := hb (i - 1) (by omega); simp only; omega)
 unfold breaksV trueR
 dsimp only
 rw [e5, decide_eq_false r1, decide_eq_true h, chn, chn, chn, chn, chn, decide_eq_false (show ¬ 0 ≤ firstH 0 (fun e => decide (e.2 ≤ 1000 * 4000)) (restOf H 0) by omega), decide_eq_false (show ¬ 0 ≤ firstH ((1 : Nat) : Int) (fun e => decide (e.2 - e.1 ≤ 1000 * 4000)) (restOf H 0) by omega),
  decide_eq_false (show ¬ 0 ≤ firstH ((1 : Nat) : Int) (fun e => decide (e.1 - e.2 ≤ 1000 * 4000)) (restOf H 0) by omega)]
 rfl
theorem why_bad {k : Kiln} {f : Fire} {l : List Int} {p : Int} (h : (!((fire_Why (k, f, l, p)).2.2 == 0)) = true) : (fire_Why (k, f, l, p)).1 = 0 ∧ (fire_Why (k, f, l, p)).2.1 = 0 := by
 have e : fire_Why (k, f, l, p) = whyV k f l p := rfl
 rw [e] at h ⊢
 unfold whyV at h ⊢
 cases h1 : !(fire_check (k, l, [f]) == 0) with
 | true => exact ⟨rfl, rfl⟩
 | false =>
  cases h2 : !inB p 0 ((k.1.length : Int) - 1) with
  | true => exact ⟨rfl, rfl⟩
  | false =>
   rw [h1, h2] at h
   cases h3 : ((fire_stand_broken ((k, f, k.1.getD p.toNat ((0, 0), 0, 0)), l)).1 == 0) with
   | true => exact ⟨rfl, rfl⟩
   | false => rw [h3] at h; cases h
theorem why_ok {k : Kiln} {f : Fire} {l : List Int} {p : Int} (h : (!((fire_Why (k, f, l, p)).2.2 == 0)) = false) : kilnB k = true ∧ fireB f = true ∧ progB l = true ∧ (0 ≤ p ∧ p < (k.1.length : Int)) ∧
  (fire_stand_broken (standAt k f p, l)).1 ≠ 0 ∧ fire_Why (k, f, l, p) = ((fire_stand_broken (standAt k f p, l)).1, (fire_stand_broken (standAt k f p, l)).2, 0) := by
 have e : fire_Why (k, f, l, p) = whyV k f l p := rfl
 rw [e] at h ⊢
 unfold whyV at h ⊢
 cases h1 : !(fire_check (k, l, [f]) == 0) with
 | true =>
  rw [h1] at h
  have h : (!(fire_check (k, l, [f]) == 0)) = false := h
  rw [h1] at h; cases h
 | false =>
  cases h2 : !inB p 0 ((k.1.length : Int) - 1) with
  | true => rw [h1, h2] at h; cases h
  | false =>
   rw [h1, h2] at h
   obtain ⟨hk, hf, hl⟩ := check_ok.1 (by simpa using h1)
   have hp := inB_iff.1 (not_iff.2.1 h2)
   cases h3 : ((fire_stand_broken ((k, f, k.1.getD p.toNat ((0, 0), 0, 0)), l)).1 == 0) with
   | true => rw [h3] at h; cases h
   | false => exact ⟨hk, hf, hl, ⟨hp.1, by omega⟩, beq_eq_false_iff_ne.1 h3, rfl⟩
theorem v8 (x : Kiln × Fire × (List Int) × Int) (hx : k8.pre x) : V8 x := by
 obtain ⟨k, f, l, place⟩ := x
 have eL : law03u_FireEnds (k, f, l, place) = true := rfl
 rw [V8, eL]
 dsimp only
 refine ⟨fun _ => ⟨trivial, rfl⟩, fun h => ⟨trivial, fun hv => ?_, fun hv => ?_⟩⟩
 ·obtain ⟨a, b⟩ := why_bad hv
  rw [a, b]
  exact ⟨fun _ => trivial, rfl⟩
 obtain ⟨hk, hf, hl, hpl, hbr, ew⟩ := why_ok hv
 have K := kiln_iff.1 hk
 have F := fire_iff.1 hf
 have P := prog_iff.1 hl
 have hE := K.err
 have hKn := K.len
 have hL1 := P.1.1
 have ho : placeOk k place := ⟨hk, hpl⟩
 have hpo := (place_ok ho).2
 obtain ⟨p, hpp⟩ : ∃ p, p = k.1.getD (Int.toNat place) noPlace := ⟨_, rfl⟩
 have est : standAt k f place = (k, f, p) := by rw [hpp]; rfl
 rw [← hpp] at hpo
 have Q := place_iff.1 hpo
 have hso : standOk (k, f, p) := ⟨hE, hpo, hf⟩
 rw [est, broken_chn (s := (k, f, p)) (l := l) (by omega) F.2.1.1] at ew hbr
 obtain ⟨j, hj, a1, a2, a3⟩ := chn_at hbr
 rw [a1, a2] at ew
 obtain ⟨hour, hhr⟩ : ∃ hour, hour = (sureR (k, f, p) l).getD j 0 := ⟨_, rfl⟩
 rw [← hhr] at ew a3
 have hj6 : j < 6 := hj
 have hcases : (j = 0 ∧ hour = 0 ∧ 1000 * f.1 < mostV k.2.1 p (l.getD 0 0)) ∨ (j = 1 ∧ ∃ i : Nat, hour = (i : Int) ∧ i < l.length ∧ 1000 * f.2.2.1 < mostV k.2.1 p (l.getD i 0)) ∨
   (j = 2 ∧ ∃ i : Nat, hour = (i : Int) ∧ i < l.length ∧ 1 ≤ i ∧ 1000 * f.2.2.2.2.1 < p.1.2 * (l.getD i 0 + k.2.1 - max 0 (l.getD (i - 1) 0 - k.2.1))) ∨
   (j = 3 ∧ ∃ i : Nat, hour = (i : Int) ∧ i < l.length ∧ 1 ≤ i ∧ 1000 * f.2.2.2.2.2 < p.1.2 * (l.getD (i - 1) 0 + k.2.1 - max 0 (l.getD i 0 - k.2.1))) ∨
   (j = 4 ∧ hour = 0 ∧ runMax (k, f, p) l 0 0 < f.2.2.2.1) ∨ (j = 5 ∧ hour = (l.length : Int) - 1 ∧ 1000 * f.1 < mostV k.2.1 p (l.getD (l.length - 1) 0)) := by
  match j, hj6, hhr with
  | 0, _, hhr =>
   have hhr : hour = cond (!coldV (k, f, p) (l.getD 0 0) f.1) 0 (-1) := hhr
   have hc := not_iff.1.1 (nn_cond (by rw [← hhr]; exact a3))
   rw [hc] at hhr
   have hc : ¬ mostV k.2.1 p (l.getD 0 0) ≤ 1000 * f.1 := of_decide_eq_false hc
   exact .inl ⟨rfl, hhr, by omega⟩
  | 1, _, hhr =>
   have hhr : hour = firstH 0 (fun e => coldV (k, f, p) e.2 f.2.2.1) (restOf l 0) := hhr
   obtain ⟨i, i1, i2, i3, i4⟩ := first_at (l := l) l.length 0 (by omega) (by rw [← hhr]; exact a3)
   have hc : ¬ mostV k.2.1 p (l.getD i 0) ≤ 1000 * f.2.2.1 := of_decide_eq_false i4
   exact .inr (.inl ⟨rfl, i, by rw [hhr, i1], i2, by omega⟩)
  | 2, _, hhr =>
   have hhr : hour = firstH ((1 : Nat) : Int) (fun e => slowV (k, f, p) e.1 e.2 f.2.2.2.2.1) (restOf l 0) := hhr
   obtain ⟨i, i1, i2, i3, i4⟩ := first_at (l := l) l.length 0 (by omega) (by rw [← hhr]; exact a3)
   have hc : ¬ p.1.2 * (l.getD i 0 + k.2.1 - max 0 (l.getD (i - 1) 0 - k.2.1)) ≤ 1000 * f.2.2.2.2.1 := of_decide_eq_false i4
   exact .inr (.inr (.inl ⟨rfl, i, by rw [hhr, i1], i2, by omega, by omega⟩))
  | 3, _, hhr =>
   have hhr : hour = firstH ((1 : Nat) : Int) (fun e => slowV (k, f, p) e.2 e.1 f.2.2.2.2.2) (restOf l 0) := hhr
   obtain ⟨i, i1, i2, i3, i4⟩ := first_at (l := l) l.length 0 (by omega) (by rw [← hhr]; exact a3)
   have hc : ¬ p.1.2 * (l.getD (i - 1) 0 + k.2.1 - max 0 (l.getD i 0 - k.2.1)) ≤ 1000 * f.2.2.2.2.2 := of_decide_eq_false i4
   exact .inr (.inr (.inr (.inl ⟨rfl, i, by rw [hhr, i1], i2, by omega, by omega⟩)))
  | 4, _, hhr =>
   have hhr : hour = cond (decide (runMax (k, f, p) l 0 0 < f.2.2.2.1)) 0 (-1) := hhr
   have hc := nn_cond (by rw [← hhr]; exact a3)
   rw [hc] at hhr
   exact .inr (.inr (.inr (.inr (.inl ⟨rfl, hhr, of_decide_eq_true hc⟩))))
  | 5, _, hhr =>
   have hhr : hour = cond (!coldV (k, f, p) (l.getD (l.length - 1) 0) f.1) ((l.length : Int) - 1) (-1) := hhr
   have hc := not_iff.1.1 (nn_cond (by rw [← hhr]; exact a3))
   rw [hc] at hhr
   have hc : ¬ mostV k.2.1 p (l.getD (l.length - 1) 0) ≤ 1000 * f.1 := of_decide_eq_false hc
   exact .inr (.inr (.inr (.inr (.inr ⟨rfl, hhr, by omega⟩))))
 have hrange : hour < (l.length : Int) := by
  rcases hcases with ⟨_, h, _⟩ | ⟨_, i, h, h1, _⟩ | ⟨_, i, h, h1, _⟩ | ⟨_, i, h, h1, _⟩ | ⟨_, h, _⟩ | ⟨_, h, _⟩ <;> omega
 clear hhr a1 a2 hbr
 have e1 : ref03u_Kiln k = true := hk
 have e3 : ref03u_Program l = true := hl
 have hs : setOk (l.getD (Int.toNat hour) 0) := P.2 _ (getD_mem' l 0 hour a3 hrange)
 have hc1 : hcOk (hour, p, l, k) := ⟨⟨a3, hrange⟩, hl, hE, hpo⟩
 have q1 := least_bd hE hpo hs
 have q2 := most_bd hE hpo hs
 obtain ⟨A, hA⟩ : ∃ A, A = leastV k.2.1 p (l.getD (Int.toNat hour) 0) := ⟨_, rfl⟩
 obtain ⟨B, hB⟩ : ∃ B, B = mostV k.2.1 p (l.getD (Int.toNat hour) 0) := ⟨_, rfl⟩
 have eA : p.1.1 * max 0 (l.getD (Int.toNat hour) 0 - k.2.1) + 1000 * p.2.1 = A := hA.symm
 have eB : law03u_FireEnds_1 (hour, p, l, k) = B := hB.symm
 rw [ew, e1, e3]
 dsimp only
 rw [heat_eq hk hpl.1 hpl.2 hs, ← hpp, ← hA, ← hB]
 dsimp only
 rw [eA, eB]
 rw [← hA] at q1
 rw [← hB] at q2
 have hs1 := hs.1
 have hs2 := hs.2
 have d1 : decide (place < 0) = false := decide_eq_false (by omega)
 have d2 : decide ((k.1.length : Int) ≤ place) = false := decide_eq_false (by omega)
 have d3 : decide (hour < 0) = false := decide_eq_false (by omega)
 have d4 : decide ((l.length : Int) ≤ hour) = false := decide_eq_false (by omega)
 have d5 : decide (A < 1000 * (A / 1000)) = false := decide_eq_false (by omega)
 have d6 : decide (1000 * (A / 1000 + 1) ≤ A) = false := decide_eq_false (by omega)
 have d7 : decide (1000 * (-(-B / 1000)) < B) = false := decide_eq_false (by omega)
 have d8 : decide (B ≤ 1000 * (-(-B / 1000) - 1)) = false := decide_eq_false (by omega)
 rw [d1, d2, d3, d4, d5, d6, d7, d8]
 refine ⟨by show k.1.length ≤ 140737488355328; omega, fun _ => by show l.length ≤ 140737488355328; omega, fun h => (by cases h), fun _ => ⟨hpl, ⟨a3, hrange⟩, trivial, by simp only [Z.in64]; omega, by simp only [Z.in64]; omega, by simp only [Z.in64]; omega, by simp only [Z.in64]; omega, fun _ => by simp only [Z.in64]; omega, fun _ => by simp only [Z.in64]; omega, fun _ => by simp only [Z.in64]; omega, fun _ => by simp only [Z.in64]; omega, fun _ => hc1, fun _ => by simp only [Z.in64]; omega, fun _ => by simp only [Z.in64]; omega, fun _ => hc1, fun h => (by cases h), fun _ => ?_⟩⟩
 rcases hcases with ⟨rfl, h, h1⟩ | ⟨rfl, i, h, h1, h2⟩ | ⟨rfl, i, h, h1, h2, h3⟩ | ⟨rfl, i, h, h1, h2, h3⟩ | ⟨rfl, h, h1⟩ | ⟨rfl, h, h1⟩
 ·refine ⟨fun _ => ?_, fun h => (by cases h)⟩
  subst h
  rw [eB]
  have hd : decide (1000 * f.1 < B) = true := decide_eq_true (by rw [hB]; exact h1)
  rw [hd]
  exact ⟨fun _ => hc1, fun _ => by simp only [Z.in64]; omega, fun _ => trivial, rfl⟩
 ·refine ⟨fun h => (by cases h), fun _ => ⟨fun _ => ?_, fun h => (by cases h)⟩⟩
  have hd : decide (1000 * f.2.2.1 < B) = true := decide_eq_true (by rw [hB, h]; exact h2)
  rw [hd]
  exact ⟨hc1, by simp only [Z.in64]; omega, fun _ => trivial, rfl⟩
 ·refine ⟨fun h => (by cases h), fun _ => ⟨fun h => (by cases h), fun _ => ⟨fun _ => ?_, fun h => (by cases h)⟩⟩⟩
  subst h
  have hc2 : hcOk ((i : Int) - 1, p, l, k) := ⟨⟨by show (0 : Int) ≤ (i : Int) - 1; omega, by show (i : Int) - 1 < (l.length : Int); omega⟩, hl, hE, hpo⟩
  obtain ⟨z1, z2, z3, z4⟩ := hc_bd hc2
  have e5 : law03u_FireEnds_2 ((i : Int) - 1, p, l, k) = p.1.2 * max 0 (l.getD (Int.toNat ((i : Int) - 1)) 0 - k.2.1) + 1000 * p.2.2 := rfl
  have e6 : B = p.1.2 * (l.getD i 0 + k.2.1) + 1000 * p.2.2 := hB
  have e7 : Int.toNat ((i : Int) - 1) = i - 1 := by omega
  rw [e5]
  simp only at z3
  rw [e7] at z3 ⊢
  have e8 : p.1.2 * (l.getD i 0 + k.2.1 - max 0 (l.getD (i - 1) 0 - k.2.1)) = p.1.2 * (l.getD i 0 + k.2.1) - p.1.2 * max 0 (l.getD (i - 1) 0 - k.2.1) := Int.mul_sub _ _ _
  have hd : decide (1000 * f.2.2.2.2.1 < B - (p.1.2 * max 0 (l.getD (i - 1) 0 - k.2.1) + 1000 * p.2.2)) = true := decide_eq_true (by omega)
  have hd0 : decide ((0 : Int) < (i : Int)) = true := decide_eq_true (by omega)
  rw [hd, hd0]
  exact ⟨fun _ => hc1, fun _ => by simp only [Z.in64]; omega, fun _ => hc2, fun _ => by simp only [Z.in64]; omega, fun _ => by simp only [Z.in64]; omega, fun _ => trivial, rfl⟩
 ·refine ⟨fun h => (by cases h), fun _ => ⟨fun h => (by cases h), fun _ => ⟨fun h => (by cases h), fun _ => ⟨fun _ => ?_, fun h => (by cases h)⟩⟩⟩⟩
  subst h
  have hc2 : hcOk ((i : Int) - 1, p, l, k) := ⟨⟨by show (0 : Int) ≤ (i : Int) - 1; omega, by show (i : Int) - 1 < (l.length : Int); omega⟩, hl, hE, hpo⟩
  obtain ⟨z1, z2, z3, z4⟩ := hc_bd hc2
  obtain ⟨y1, y2, y3, y4⟩ := hc_bd hc1
  have e5 : law03u_FireEnds_1 ((i : Int) - 1, p, l, k) = p.1.2 * (l.getD (Int.toNat ((i : Int) - 1)) 0 + k.2.1) + 1000 * p.2.2 := rfl
  have e6 : law03u_FireEnds_2 ((i : Int), p, l, k) = p.1.2 * max 0 (l.getD i 0 - k.2.1) + 1000 * p.2.2 := rfl
  have e7 : Int.toNat ((i : Int) - 1) = i - 1 := by omega
  have e9 : Int.toNat (i : Int) = i := rfl
  rw [e5, e6]
  simp only at z2 y3
  rw [e7] at z2 ⊢
  rw [e9] at y3
  have e8 : p.1.2 * (l.getD (i - 1) 0 + k.2.1 - max 0 (l.getD i 0 - k.2.1)) = p.1.2 * (l.getD (i - 1) 0 + k.2.1) - p.1.2 * max 0 (l.getD i 0 - k.2.1) := Int.mul_sub _ _ _
  have hd : decide (1000 * f.2.2.2.2.2 < p.1.2 * (l.getD (i - 1) 0 + k.2.1) + 1000 * p.2.2 - (p.1.2 * max 0 (l.getD i 0 - k.2.1) + 1000 * p.2.2)) = true := decide_eq_true (by omega)
  have hd0 : decide ((0 : Int) < (i : Int)) = true := decide_eq_true (by omega)
  rw [hd, hd0]
  exact ⟨fun _ => by simp only [Z.in64]; omega, fun _ => hc2, fun _ => hc1, fun _ => by simp only [Z.in64]; omega, fun _ => by simp only [Z.in64]; omega, fun _ => trivial, rfl⟩
 ·refine ⟨fun h => (by cases h), fun _ => ⟨fun h => (by cases h), fun _ => ⟨fun h => (by cases h), fun _ => ⟨fun h => (by cases h), fun _ => ⟨fun _ => ?_, fun h => (by cases h)⟩⟩⟩⟩⟩
  subst h
  refine ⟨fun s => ∃ i : Nat, s.2 = (i : Int) ∧ i ≤ l.length ∧ s.1 = (l.take i).map (leastV k.2.1 p), fun s => ((l.length : Int) - s.2).toNat, ⟨0, rfl, Nat.zero_le _, rfl⟩, ?_⟩
  rintro ⟨out, i0⟩ ⟨i, rfl, g1, g2⟩
  simp only at g2
  refine ⟨fun hd => ?_, fun hd => ?_⟩
  ·have hd : (i : Int) < (l.length : Int) := of_decide_eq_true hd
   have hil : i < l.length := by omega
   have hs := P.2 _ (getD_mem l 0 i hil)
   have q := least_bd hE hpo hs
   have ei : Int.toNat (i : Int) = i := rfl
   have e1 : ∀ v : Int, (List.replicate 1 (0 : Int)).set 0 v = [v] := fun _ => rfl
   dsimp only
   rw [ei, e1]
   have ev : p.1.1 * max 0 (l.getD i 0 - k.2.1) + 1000 * p.2.1 = leastV k.2.1 p (l.getD i 0) := rfl
   rw [ev]
   have htk : l.take (i + 1) = l.take i ++ [l.getD i 0] := by
    rw [List.take_add_one]; simp [List.getD, hil]
   have hol : (out ++ [leastV k.2.1 p (l.getD i 0)]).length = i + 1 := by
    rw [g2]; simp only [List.length_append, List.length_map, List.length_take, List.length_singleton]; omega
   exact ⟨⟨by omega, hd⟩, by simp only [Z.in64]; omega, by simp only [Z.in64]; omega, by simp only [Z.in64]; omega, by simp only [Z.in64]; omega, roomy_of (by omega) (by omega) (by omega), by simp only [Z.in64]; omega, rfl, rfl, ⟨i + 1, by omega, by omega, by rw [htk, g2, List.map_append]; rfl⟩, by omega⟩
  ·have hd : ¬ (i : Int) < (l.length : Int) := of_decide_eq_false hd
   rw [List.take_of_length_le (by omega)] at g2
   have hl5 := loose_held hso hl h1
   have ebr : law03u_breaks ((4000, f.2.1, 4000, f.2.2.2.1, 4000, 4000), l.map (leastV k.2.1 p)) = breaksV (4000, f.2.1, 4000, f.2.2.2.1, 4000, 4000) (l.map (leastV k.2.1 p)) := rfl
   have hl5 : (breaksV (4000, f.2.1, 4000, f.2.2.2.1, 4000, 4000) (l.map (leastV k.2.1 p))).1 = 5 := hl5
   dsimp only
   rw [g2, ebr, hl5]
   have hT := cold_truth hso hl
   have hT : Truth (k, (4000, f.2.1, 4000, f.2.2.2.1, 4000, 4000), p) l (l.map (leastV k.2.1 p)) := ⟨hT.len, hT.ex⟩
   refine ⟨breaks_pre (f := (4000, f.2.1, 4000, f.2.2.2.1, 4000, 4000)) ?_ hE hpo hl hT, fun _ => trivial, rfl⟩
   simp only
   omega
 ·refine ⟨fun h => (by cases h), fun _ => ⟨fun h => (by cases h), fun _ => ⟨fun h => (by cases h), fun _ => ⟨fun h => (by cases h), fun _ => ⟨fun h => (by cases h), fun _ => ⟨fun _ => ?_, fun h => (by cases h)⟩⟩⟩⟩⟩⟩
  subst h
  have e7 : Int.toNat ((l.length : Int) - 1) = l.length - 1 := by omega
  rw [e7] at hB
  have hd : decide (1000 * f.1 < B) = true := decide_eq_true (by rw [hB]; exact h1)
  have hd0 : (((l.length : Int) - 1) == ((l.length : Int) - 1)) = true := beq_self_eq_true _
  rw [hd, hd0]
  exact ⟨by simp only [Z.in64]; omega, fun _ => hc1, fun _ => by simp only [Z.in64]; omega, fun _ => trivial, rfl⟩
end Go.Fire
