/-
  Chapter 8: the law HueTrue, its condition.
-/
import Derived.Test.YtlkegffejcndbaaHueT1
set_option linter.all false


set_option maxRecDepth 100000
namespace Go.Hue
open Go Go.Sx

theorem v24 (x : Span × Int) (hp : k24.pre x) : V24 x := by
  obtain ⟨⟨lo, hi⟩, b⟩ := x
  obtain ⟨h1, h2, h3, h4, h5⟩ : 0 ≤ lo ∧ lo ≤ hi ∧ hi ≤ 10000 ∧ 0 ≤ b ∧ b ≤ 65535 := hp
  have e : Int.tmod b (hi - lo + 1) = b % (hi - lo + 1) := Int.tmod_eq_emod_of_nonneg h4
  have e1 := Int.emod_nonneg b (show hi - lo + 1 ≠ 0 by omega)
  have e2 := Int.emod_lt_of_pos b (show 0 < hi - lo + 1 by omega)
  refine ⟨?_, ?_, ?_, ?_, rfl⟩
  · show Z.in64 (hi - lo)
    simp only [Z.in64]; omega
  · show Z.in64 (hi - lo + 1)
    simp only [Z.in64]; omega
  · show hi - lo + 1 ≠ 0
    omega
  · show Z.in64 (lo + Int.tmod b (hi - lo + 1))
    rw [e]; simp only [Z.in64]; omega
theorem pick_in {s : Span} {b : Int} (h1 : s.1 ≤ s.2) (h4 : 0 ≤ b) : s.1 ≤ law08u_pick (s, b) ∧ law08u_pick (s, b) ≤ s.2 := by
  have e : Int.tmod b (s.2 - s.1 + 1) = b % (s.2 - s.1 + 1) := Int.tmod_eq_emod_of_nonneg h4
  have e1 := Int.emod_nonneg b (show s.2 - s.1 + 1 ≠ 0 by omega)
  have e2 := Int.emod_lt_of_pos b (show 0 < s.2 - s.1 + 1 by omega)
  show s.1 ≤ s.1 + Int.tmod b (s.2 - s.1 + 1) ∧ s.1 + Int.tmod b (s.2 - s.1 + 1) ≤ s.2
  rw [e]
  omega
theorem getD_in {b : List Int} (hb : ∀ x ∈ b, 0 ≤ x ∧ x ≤ 65535) (i : Nat) : 0 ≤ b.getD i 0 ∧ b.getD i 0 ≤ 65535 := by
  by_cases h : i < b.length
  · exact hb _ (getD_mem b 0 i h)
  · have : b.getD i 0 = 0 := by simp [List.getD, List.getElem?_eq_none (Nat.le_of_not_lt h)]
    rw [this]; omega
/-- The best plan is one, and nothing shows in it. -/
theorem best_ok {m : Mill} {l : List Hue} (hv : validB m l = true) : ((bestOut m l).2.2 = 0 ∨ (bestOut m l).2.2 = 4) ∧ planB l (bestOut m l).1 = true ∧ showsV m l (bestOut m l).1 = (0, 0, 4) := by
  have H := valid_iff.1 hv
  have hl6 := H.len
  obtain ⟨e1, e2, e3⟩ := full_nat hl6
  have hO : bestOut m l = (let r := bestV m l ((2 ^ l.length - 1 : Int), 0); cond (!r.2.2) ([], 0, 4) (r.1, r.2.1, 0)) := by rw [bestOut, hv]; rfl
  obtain ⟨r, hr⟩ : ∃ r, r = bestV m l ((2 ^ l.length - 1 : Int), 0) := ⟨_, rfl⟩
  have hr2 : r = bestF m l (pop (2 ^ l.length - 1)) (((2 ^ l.length - 1 : Nat) : Int), 0) := by rw [hr, e1]; rfl
  have hb := best_bd H (pop (2 ^ l.length - 1)) (2 ^ l.length - 1) 0 (by omega) (by omega) ⟨by omega, by omega⟩
  have hs := best_spec (m := m) (l := l) (pop (2 ^ l.length - 1)) (2 ^ l.length - 1) 0 e2 rfl
  rw [← hr2] at hb hs
  rw [← hr] at hO
  have hpop : pop (2 ^ l.length - 1) ≤ 6 := Nat.le_trans List.countP_le_length (by simp)
  have hOf : r.2.2 = false → bestOut m l = ([], 0, 4) := fun h => by rw [hO]; simp only; rw [h]; rfl
  have hOt : r.2.2 = true → bestOut m l = (r.1, r.2.1, 0) := fun h => by rw [hO]; simp only; rw [h]; rfl
  cases hi : r.2.2 with
  | false =>
    rw [hOf hi]
    have hp : planB l [] = true := plan_iff.2 ⟨by simp, fun t ht => (by cases ht)⟩
    exact ⟨.inr rfl, hp, by rw [shows_ok hv hp]; rfl⟩
  | true =>
    rw [hOt hi]
    have hrun := hs.1 hi
    rw [← e1] at hrun
    obtain ⟨h1, h2, _⟩ := runs_plan H (by omega) hrun
    exact ⟨.inl rfl, h1, h2⟩
theorem v5 (x : Mill × (List Hue) × (List Turn) × List Int) (hp : k5.pre x) : V5 x := by
  obtain ⟨m, l, plan, by_⟩ := x
  obtain ⟨hby, hbl⟩ : (∀ b ∈ by_, 0 ≤ b ∧ b ≤ 65535) ∧ by_.length ≤ 140737488355328 := hp
  have eA : law08u_awake () = true := rfl
  have eH : law08u_HueTrue (m, l, plan, by_) = true := rfl
  have eV : ref08u_Valid (m, l) = validB m l := rfl
  have eP : ref08u_Plan (l, plan) = planB l plan := rfl
  have lens : ∀ c : Bool, ((((law08u_large (l, 6) || decide ((16 : Int) < (plan.length : Int))) || ((by_.length : Int) == 0)) || c) = false) → l.length ≤ big ∧ plan.length ≤ big ∧ by_.length ≠ 0 ∧ c = false := by
    intro c h
    simp only [law08u_large, Bool.or_eq_false_iff, decide_eq_false_iff_not] at h
    have h4 : ((by_.length : Int) == 0) = false := h.1.2
    refine ⟨by simp only [big]; omega, by simp only [big]; omega, ?_, h.2⟩
    intro h0
    rw [h0] at h4; cases h4
  refine ⟨trivial, fun h => (lens false (by rw [Bool.or_false]; exact h)).1, fun h => ⟨(lens _ h).1, (lens _ h).2.1⟩, fun _ => ⟨trivial, rfl⟩, fun h => ?_⟩
  have h : ((((law08u_large (l, 6) || decide ((16 : Int) < (plan.length : Int))) || ((by_.length : Int) == 0)) || (!validB m l)) || (!planB l plan)) = false := h
  rw [Bool.or_assoc] at h
  obtain ⟨hb1, hb2, hb0, hc⟩ := lens _ h
  simp only [Bool.or_eq_false_iff, Bool.not_eq_false'] at hc
  obtain ⟨hv, hpl⟩ := hc
  have HV := valid_iff.1 hv
  have hl6 := HV.len
  have hrun := HV.run
  have hwash := HV.wash
  have gin := getD_in hby
  refine ⟨fun s => ∃ i : Nat, s.2.2 = (i : Int) ∧ i ≤ l.length ∧ s.1.length = i ∧ s.2.1.length = i ∧ (∀ j, j < i → (l.getD j ((0, 0), 0, 0)).1.1 ≤ s.1.getD j 0 ∧ s.1.getD j 0 ≤ (l.getD j ((0, 0), 0, 0)).1.2) ∧ (∀ j, j < i → (l.getD j ((0, 0), 0, 0)).2.1 ≤ s.2.1.getD j 0), fun s => ((l.length : Int) - s.2.2).toNat, ⟨0, rfl, Nat.zero_le _, rfl, rfl, fun j hj => (by omega), fun j hj => (by omega)⟩, ?_⟩
  rintro ⟨lo, hi, i0⟩ ⟨i, hi0, hil, hlo, hhi, hd, hh⟩
  simp only at hi0 hlo hhi hd hh
  subst hi0
  have app_getD : ∀ (a : List Int) (v : Int) (j : Nat), (a ++ [v]).getD j 0 = if j < a.length then a.getD j 0 else if j = a.length then v else 0 := by
    intro a v j
    by_cases h1 : j < a.length
    · rw [if_pos h1]; simp [List.getD, List.getElem?_append_left h1]
    · rw [if_neg h1]
      by_cases h2 : j = a.length
      · subst h2; simp [List.getD]
      · rw [if_neg h2]
        simp only [List.getD]
        rw [List.getElem?_eq_none (by rw [List.length_append, List.length_singleton]; omega)]; rfl
  refine ⟨fun h => ?_, fun h => ?_⟩
  · have h : (i : Int) < (l.length : Int) := of_decide_eq_true h
    have hhu := HV.hue _ (getD_mem l ((0, 0), 0, 0) i (by omega))
    have tm : ∀ a : Int, 0 ≤ a → 0 ≤ Int.tmod a (by_.length : Int) ∧ Int.tmod a (by_.length : Int) < (by_.length : Int) := by
      intro a ha
      rw [Int.tmod_eq_emod_of_nonneg ha]
      exact ⟨Int.emod_nonneg _ (by omega), Int.emod_lt_of_pos _ (by omega)⟩
    have t1 := tm (2 * (i : Int)) (by omega)
    have t2 := tm (2 * (i : Int) + 1) (by omega)
    have p1 := pick_in (s := (l.getD i ((0, 0), 0, 0)).1) hhu.1.2.1 (gin (Int.toNat (Int.tmod (2 * (i : Int)) (by_.length : Int)))).1
    have p2 := pick_in (s := (l.getD i ((0, 0), 0, 0)).2) hhu.2.2.1 (gin (Int.toNat (Int.tmod (2 * (i : Int) + 1) (by_.length : Int)))).1
    refine ⟨⟨by show 0 ≤ (i : Int); omega, h⟩, by simp only [Z.in64]; omega, by show (by_.length : Int) ≠ 0; omega, t1, ⟨hhu.1.1, hhu.1.2.1, hhu.1.2.2, gin _⟩, roomy_of (by omega) (by omega) ?_, ⟨by show 0 ≤ (i : Int); omega, h⟩, by simp only [Z.in64]; omega, by simp only [Z.in64]; omega, by show (by_.length : Int) ≠ 0; omega, t2, ⟨hhu.2.1, hhu.2.2.1, hhu.2.2.2, gin _⟩, roomy_of (by omega) (by omega) ?_, by simp only [Z.in64]; omega, ⟨i + 1, by show (i : Int) + 1 = ((i + 1 : Nat) : Int); omega, by omega, ?_, ?_, fun j hj => ?_, fun j hj => ?_⟩, ?_⟩
    · simp only [List.length_append, List.length_set, List.length_replicate]; omega
    · simp only [List.length_append, List.length_set, List.length_replicate]; omega
    · show (lo ++ _).length = _
      rw [List.length_append, hlo]; rfl
    · show (hi ++ _).length = _
      rw [List.length_append, hhi]; rfl
    · show (l.getD j ((0, 0), 0, 0)).1.1 ≤ (lo ++ [law08u_pick ((l.getD i ((0, 0), 0, 0)).1, by_.getD (Int.toNat (Int.tmod (2 * (i : Int)) (by_.length : Int))) 0)]).getD j 0 ∧ (lo ++ [law08u_pick ((l.getD i ((0, 0), 0, 0)).1, by_.getD (Int.toNat (Int.tmod (2 * (i : Int)) (by_.length : Int))) 0)]).getD j 0 ≤ _
      rw [app_getD]
      by_cases hji : j < i
      · rw [if_pos (by omega)]; exact hd j hji
      · have : j = i := by omega
        subst this
        rw [if_neg (by omega), if_pos (by omega)]; exact p1
    · show (l.getD j ((0, 0), 0, 0)).2.1 ≤ (hi ++ [law08u_pick ((l.getD i ((0, 0), 0, 0)).2, by_.getD (Int.toNat (Int.tmod (2 * (i : Int) + 1) (by_.length : Int))) 0)]).getD j 0
      rw [app_getD]
      by_cases hji : j < i
      · rw [if_pos (by omega)]; exact hh j hji
      · have : j = i := by omega
        subst this
        rw [if_neg (by omega), if_pos (by omega)]; exact p2.1
    · show ((l.length : Int) - ((i : Int) + 1)).toNat < ((l.length : Int) - (i : Int)).toNat; omega
  have h : ¬ (i : Int) < (l.length : Int) := of_decide_eq_false h
  have hi' : i = l.length := by omega
  subst hi'
  have p1 := pick_in (s := m.1) hrun.2.1 (gin (Int.toNat 0)).1
  have p2 := pick_in (s := m.2.1) hwash.2.1 (gin (Int.toNat ((by_.length : Int) - 1))).1
  obtain ⟨b1, b2, b3⟩ := best_ok hv
  have hbp : ((!((bestOut m l).2.2 == 0)) && (!((bestOut m l).2.2 == 4))) = false := by
    rcases b1 with h | h <;> rw [h] <;> rfl
  refine ⟨⟨by omega, by show (0 : Int) < (by_.length : Int); omega⟩, ⟨hrun.1, hrun.2.1, hrun.2.2, gin _⟩, by simp only [Z.in64]; show -9223372036854775808 ≤ (by_.length : Int) - 1 ∧ (by_.length : Int) - 1 ≤ 9223372036854775807; omega, ⟨by show 0 ≤ (by_.length : Int) - 1; omega, by show (by_.length : Int) - 1 < (by_.length : Int); omega⟩, ⟨hwash.1, hwash.2.1, hwash.2.2, gin _⟩, trivial, fun _ => ⟨hb1, ?_⟩, fun hx => ?_, fun _ => ?_⟩
  · have := (plan_iff.1 b2).len
    exact Nat.le_trans this (by decide)
  · have hx : (((!((bestOut m l).2.2 == 0)) && (!((bestOut m l).2.2 == 4))) || (!planB l (bestOut m l).1)) = true := hx
    rw [hbp, b2] at hx; cases hx
  refine ⟨fun s => 0 ≤ s ∧ s ≤ 2, fun s => (2 - s).toNat, ⟨by omega, by omega⟩, ?_⟩
  rintro s1 ⟨g1, g2⟩
  refine ⟨fun hs => ?_, fun _ => ⟨trivial, rfl⟩⟩
  have hs : s1 < 2 := of_decide_eq_true hs
  refine ⟨fun h1 => ?_, fun h1 => ?_⟩
  · exact tp (m := m) (l := l) (plan := (bestOut m l).1) (by_ := by_) (lo := lo) (hi := hi) (s1 := s1) (K1 := fun s => (0 ≤ s ∧ s ≤ 2) ∧ (2 - s).toNat < (2 - s1).toNat) hv b2 (fun _ => b3) ⟨g1, hs⟩ p1 p2 hlo hhi hd hh ⟨⟨by omega, by omega⟩, show (2 - (s1 + 1)).toNat < (2 - s1).toNat by omega⟩
  · exact tp (m := m) (l := l) (plan := plan) (by_ := by_) (lo := lo) (hi := hi) (s1 := s1) (K1 := fun s => (0 ≤ s ∧ s ≤ 2) ∧ (2 - s).toNat < (2 - s1).toNat) hv hpl (fun h => by subst h; cases h1) ⟨g1, hs⟩ p1 p2 hlo hhi hd hh ⟨⟨by omega, by omega⟩, show (2 - (s1 + 1)).toNat < (2 - s1).toNat by omega⟩
end Go.Hue
