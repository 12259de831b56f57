/-
  Chapter 8: the law HueWash.
-/
import Derived.Test.YtlkegffejcndbaaHueP7
set_option linter.all false
set_option maxRecDepth 100000
namespace Go.Hue
open Go Go.Sx

/-- What Wash tells, case by case. -/
theorem wash_cases (m : Mill) (l : List Hue) (a b : Int) :
    (validB m l = false ∧ washV m l a b = (0, 1)) ∨ (validB m l = true ∧ washV m l a b = (0, 2)) ∨
    (validB m l = true ∧ (0 ≤ a ∧ a < (l.length : Int)) ∧ (0 ≤ b ∧ b < (l.length : Int)) ∧
      ((overV l a b ≤ 0 ∧ washV m l a b = (0, 0)) ∨ (0 < overV l a b ∧ m.2.1.1 = 0 ∧ washV m l a b = (0, 4)) ∨
        (0 < overV l a b ∧ ∃ k, washV m l a b = (k, 0) ∧ 1 ≤ k ∧ k ≤ 10000 ∧ overV l a b - k * m.2.1.1 ≤ 0 ∧ 0 < overV l a b - (k - 1) * m.2.1.1))) := by
  cases hv : validB m l with
  | false => exact .inl ⟨rfl, by rw [washV, hv]; rfl⟩
  | true =>
  have H := valid_iff.1 hv
  have hm := H.wash
  right
  cases h' : (!inB a 0 ((l.length : Int) - 1) || !inB b 0 ((l.length : Int) - 1)) with
  | true => exact .inl ⟨rfl, by rw [washV, hv, h']; rfl⟩
  | false =>
  right
  have hw : washV m l a b = cond (decide (overV l a b ≤ 0)) (0, 0) (cond (m.2.1.1 == 0) (0, 4) (Int.tdiv (overV l a b + m.2.1.1 - 1) m.2.1.1, 0)) := by
    rw [washV, hv, h']; rfl
  rw [← Bool.not_and] at h'
  have h' := not_iff.2.1 h'
  simp only [Bool.and_eq_true, inB_iff] at h'
  have ha : 0 ≤ a ∧ a < (l.length : Int) := by omega
  have hbb : 0 ≤ b ∧ b < (l.length : Int) := by omega
  have ho := over_bd H ha hbb
  refine ⟨rfl, ha, hbb, ?_⟩
  by_cases h0 : overV l a b ≤ 0
  · exact .inl ⟨h0, by rw [hw, decide_eq_true h0]; rfl⟩
  · right
    by_cases hw0 : m.2.1.1 = 0
    · exact .inl ⟨by omega, hw0, by rw [hw, decide_eq_false h0, hw0]; rfl⟩
    · right
      have hwp : 0 < m.2.1.1 := by omega
      have hd := div_bd (a := overV l a b + m.2.1.1 - 1) (b := m.2.1.1) (by omega) hwp
      have k1 : (overV l a b + m.2.1.1 - 1) / m.2.1.1 * m.2.1.1 ≤ overV l a b + m.2.1.1 - 1 := (Int.le_ediv_iff_mul_le hwp).1 (Int.le_refl _)
      have k2 : overV l a b + m.2.1.1 - 1 < ((overV l a b + m.2.1.1 - 1) / m.2.1.1 + 1) * m.2.1.1 := (Int.ediv_lt_iff_lt_mul hwp).1 (by omega)
      have k3 : 1 ≤ (overV l a b + m.2.1.1 - 1) / m.2.1.1 := (Int.le_ediv_iff_mul_le hwp).2 (by omega)
      have k4 : (overV l a b + m.2.1.1 - 1) / m.2.1.1 ≤ overV l a b := by
        have : (overV l a b + m.2.1.1 - 1) / m.2.1.1 < overV l a b + 1 := (Int.ediv_lt_iff_lt_mul hwp).2 (by
          have : overV l a b * 1 ≤ overV l a b * m.2.1.1 := Int.mul_le_mul_of_nonneg_left (by omega) (by omega)
          rw [Int.add_mul, Int.one_mul]; omega)
        omega
      refine ⟨by omega, (overV l a b + m.2.1.1 - 1) / m.2.1.1, ?_, k3, by omega, ?_, ?_⟩
      · rw [hw, decide_eq_false h0, cond_false, show (m.2.1.1 == 0) = false by simpa using hw0, cond_false, tdiv_pos (by omega)]
      · rw [Int.add_mul, Int.one_mul] at k2; omega
      · rw [Int.sub_mul, Int.one_mul]; omega
/-- What shows in a plan of two turns. -/
theorem shows_two {m : Mill} {l : List Hue} (hv : validB m l = true) {a b n : Int} (ha : 0 ≤ a ∧ a < (l.length : Int)) (hb : 0 ≤ b ∧ b < (l.length : Int)) (hn : 0 ≤ n ∧ n ≤ 2) :
    showsV m l [(a, 0), (b, n)] = cond (decide (0 < overV l a b - n * m.2.1.1)) (1, 0, 0) (0, 0, 4) := by
  have hp : planB l [(a, 0), (b, n)] = true := plan_iff.2 ⟨by simp, fun t ht => by
    simp only [List.mem_cons, List.not_mem_nil, or_false] at ht
    rcases ht with rfl | rfl
    · exact ⟨ha.1, ha.2, by simp, by simp⟩
    · exact ⟨hb.1, hb.2, hn.1, hn.2⟩⟩
  have h0 : showAt m l [(a, 0), (b, n)] 0 = -1 := rfl
  have h1 : showAt m l [(a, 0), (b, n)] 1 = cond (decide (0 < overV l a b - n * m.2.1.1)) 0 (-1) := by
    show cond (decide ((l.getD b.toNat ((0, 0), 0, 0)).2.1 < (l.getD a.toNat ((0, 0), 0, 0)).1.2 - (m.2.1.1 * (n + 0) + m.1.1 * ((1 : Int) - 1 - 0)))) 0 (-1) = _
    congr 1
    refine decide_eq_decide.2 ?_
    unfold overV
    have e1 : m.2.1.1 * (n + 0) = n * m.2.1.1 := by rw [Int.add_zero, Int.mul_comm]
    have e2 : m.1.1 * ((1 : Int) - 1 - 0) = 0 := by simp
    rw [e1, e2]
    omega
  rw [showsV, hv, hp]
  show showGo m l [(a, 0), (b, n)] 2 0 = _
  simp only [showGo, h0, h1]
  cases decide (0 < overV l a b - n * m.2.1.1) <;> rfl
theorem v7 (x : Mill × (List Hue) × Int × Int) (_ : k7.pre x) : V7 x := by
  obtain ⟨m, l, a, b⟩ := x
  refine ⟨trivial, fun _ => ⟨trivial, rfl⟩, fun hl => ⟨trivial, ?_⟩⟩
  have hl : law08u_large (l, 6) = false := hl
  simp only [law08u_large, Bool.or_eq_false_iff, decide_eq_false_iff_not] at hl
  have hb1 : ref08u_Valid_p (m, l) := by show l.length ≤ big; simp only [big]; omega
  have eV : ref08u_Valid (m, l) = validB m l := rfl
  have eW : hue_Wash (m, l, a, b) = washV m l a b := rfl
  have eA : law08u_awake () = true := rfl
  have eH : law08u_HueWash (m, l, a, b) = true := rfl
  dsimp only
  rw [eW, eV, eA, eH]
  rcases wash_cases m l a b with ⟨hv, hw⟩ | ⟨hv, hw⟩ | ⟨hv, ha, hb, hc⟩
  · rw [hw, hv]
    exact ⟨fun _ => ⟨fun _ => hb1, fun _ => trivial, rfl⟩, fun h => (by cases h)⟩
  · rw [hw, hv]
    exact ⟨fun _ => ⟨fun _ => hb1, fun _ => trivial, rfl⟩, fun h => (by cases h)⟩
  have H := valid_iff.1 hv
  have ho := over_bd H ha hb
  have hm := H.wash
  have hrange : (decide (a < 0) || (decide ((l.length : Int) ≤ a) || (decide (b < 0) || decide ((l.length : Int) ≤ b)))) = false := by
    simp only [Bool.or_eq_false_iff, decide_eq_false_iff_not]; omega
  have hov : Z.in64 (overV l a b) := by simp only [Z.in64]; omega
  have d1 : decide (a < 0) = false := decide_eq_false (by omega)
  have d2 : decide ((l.length : Int) ≤ a) = false := decide_eq_false (by omega)
  have d3 : decide (b < 0) = false := decide_eq_false (by omega)
  have d4 : decide ((l.length : Int) ≤ b) = false := decide_eq_false (by omega)
  rw [d1, d2, d3, d4]
  rcases hc with ⟨h0, hw⟩ | ⟨h0, hw0, hw⟩ | ⟨h0, k, hw, k1, k2, k3, k4⟩
  · rw [hw, hv]
    refine ⟨fun h => (by cases h), fun _ => ⟨hb1, fun h => (by cases h), fun _ => ⟨ha, hb, hov, fun h => (by cases h), fun _ => ⟨fun h => (by cases h), fun _ => ⟨trivial, fun h => ?_, fun _ => ⟨fun _ => ⟨trivial, rfl⟩, fun h => (by cases h)⟩⟩⟩⟩⟩⟩
    have e : hue_Shows (m, l, [(a, 0), (b, 0)]) = (0, 0, 4) := by
      show showsV m l [(a, 0), (b, 0)] = _
      rw [shows_two hv ha hb ⟨by omega, by omega⟩, decide_eq_false (by omega)]; rfl
    have h : (!((hue_Shows (m, l, [(a, 0), (b, 0)])).2.2 == 4)) = true := h
    rw [e] at h; cases h
  · rw [hw, hv, hw0]
    refine ⟨fun h => (by cases h), fun _ => ⟨hb1, fun h => (by cases h), fun _ => ⟨ha, hb, hov, fun _ => ⟨fun _ => trivial, ?_⟩, fun h => (by cases h)⟩⟩⟩
    show ((((((4 : Int) == 4) && ((0 : Int) == 0)) && ((0 : Int) == 0)) && decide (0 < overV l a b)) && true) = true
    rw [decide_eq_true h0]; rfl
  · rw [hw, hv]
    have q := mul_bd (a := k) (A := 10000) (b := m.2.1.1) (B := 10000) ⟨by omega, k2⟩ ⟨hm.1, by omega⟩
    have q2 := mul_bd (a := k - 1) (A := 10000) (b := m.2.1.1) (B := 10000) ⟨by omega, by omega⟩ ⟨hm.1, by omega⟩
    refine ⟨fun h => (by cases h), fun _ => ⟨hb1, fun h => ?_, fun _ => ⟨ha, hb, hov, fun h => (by cases h), fun _ => ⟨fun h2 => ⟨?_, ?_, fun _ => ?_, fun _ => ?_, fun _ => ?_, fun _ => trivial, ?_⟩, fun h2 => ⟨trivial, fun h => ?_, fun _ => ⟨fun h => ?_, fun _ => ⟨?_, ⟨by omega, ?_⟩, trivial, fun _ => trivial, ?_⟩⟩⟩⟩⟩⟩⟩
    · have h : (((((!true || false) || false) || false) || false) || decide (k < 0)) = true := h
      rw [decide_eq_false (by omega)] at h; cases h
    · show Z.in64 (k * m.2.1.1)
      simp only [Z.in64]; omega
    · show Z.in64 (overV l a b - k * m.2.1.1)
      simp only [Z.in64]; omega
    · simp only [Z.in64]; omega
    · show Z.in64 ((k - 1) * m.2.1.1)
      simp only [Z.in64]; omega
    · show Z.in64 (overV l a b - (k - 1) * m.2.1.1)
      simp only [Z.in64]; omega
    · show ((decide (overV l a b - k * m.2.1.1 ≤ 0) && decide (0 < overV l a b - (k - 1) * m.2.1.1)) && true) = true
      rw [decide_eq_true k3, decide_eq_true k4]; rfl
    · have h2 : ¬ 2 < k := of_decide_eq_false h2
      have e : hue_Shows (m, l, [(a, 0), (b, k)]) = (0, 0, 4) := by
        show showsV m l [(a, 0), (b, k)] = _
        rw [shows_two hv ha hb ⟨by omega, by omega⟩, decide_eq_false (by omega)]; rfl
      have h : (!((hue_Shows (m, l, [(a, 0), (b, k)])).2.2 == 4)) = true := h
      rw [e] at h; cases h
    · have h : (k == 0) = true := h
      have := eq_of_beq h
      omega
    · simp only [Z.in64]; omega
    · show (1 : Int) < 2
      omega
    · have h2 : ¬ 2 < k := of_decide_eq_false h2
      have e : hue_Shows (m, l, [(a, 0), (b, k - 1)]) = (1, 0, 0) := by
        show showsV m l [(a, 0), (b, k - 1)] = _
        rw [shows_two hv ha hb ⟨by omega, by omega⟩, decide_eq_true k4]; rfl
      show ((((hue_Shows (m, l, [(a, 0), (b, k - 1)])).1 == 1) && ((hue_Shows (m, l, [(a, 0), (b, k - 1)])).2.1 == 0) && ((hue_Shows (m, l, [(a, 0), (b, k - 1)])).2.2 == 0)) && true) = true
      rw [e]; rfl
end Go.Hue
