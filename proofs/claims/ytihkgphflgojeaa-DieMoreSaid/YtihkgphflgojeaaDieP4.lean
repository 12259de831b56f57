/-
  Chapter 4: the conditions, proved; fourth part: the document's Last.
-/
import Derived.Test.YtihkgphflgojeaaDieP3
set_option linter.all false


set_option maxRecDepth 100000
namespace Go.Die
open Go Go.Sx

theorem find_first {f : Nat → Int} {P : Int → Bool} {n k : Nat} (hk : k < n) (h : P (f k) = true) (hn : ∀ j, j < k → P (f j) = false) : ((List.range n).map f).find? P = some (f k) := by
  obtain ⟨r, hr⟩ := range_split f hk
  rw [hr, List.find?_append]
  have : ((List.range k).map f).find? P = none := by
    rw [List.find?_eq_none]
    intro a ha
    obtain ⟨j, hj, rfl⟩ := List.mem_map.1 ha
    rw [hn j (List.mem_range.1 hj)]
    decide
  rw [this, List.find?_cons, h]; rfl
theorem find_none {f : Nat → Int} {P : Int → Bool} {n : Nat} (hn : ∀ j, j < n → P (f j) = false) : ((List.range n).map f).find? P = none := by
  rw [List.find?_eq_none]
  intro a ha
  obtain ⟨j, hj, rfl⟩ := List.mem_map.1 ha
  rw [hn j (List.mem_range.1 hj)]
  decide
theorem first_up {P : Int → Bool} {n : Int} (h0 : 0 ≤ n ∧ n ≤ 8000) (h : P n = true) (hn : ∀ j, 0 ≤ j → j < n → P j = false) : firstV 0 8000 P = (n, true) := by
  have e : (numsV 0 8000).find? P = some n := by
    have e1 : numsV 0 8000 = (List.range 8001).map fun (k : Nat) => (0 : Int) + 1 * (k : Int) := rfl
    obtain ⟨k, rfl⟩ : ∃ k : Nat, n = (k : Int) := ⟨n.toNat, by omega⟩
    rw [e1, find_first (k := k) (by omega) (by rw [Int.one_mul, Int.zero_add]; exact h) fun j hj => by rw [Int.one_mul, Int.zero_add]; exact hn j (by omega) (by omega)]
    rw [Int.one_mul, Int.zero_add]
  rw [firstV, e]
theorem first_none {P : Int → Bool} (hn : ∀ j, 0 ≤ j → j ≤ 8000 → P j = false) : firstV 0 8000 P = (0, false) := by
  have e : (numsV 0 8000).find? P = none := by
    have e1 : numsV 0 8000 = (List.range 8001).map fun (k : Nat) => (0 : Int) + 1 * (k : Int) := rfl
    rw [e1]
    exact find_none fun j hj => by rw [Int.one_mul, Int.zero_add]; exact hn j (by omega) (by omega)
  rw [firstV, e]
theorem first_down {P : Int → Bool} {n : Int} (h0 : 0 ≤ n ∧ n ≤ 8000) (h : P n = true) (hn : ∀ j, n < j → j ≤ 8000 → P j = false) : firstV 8000 0 P = (n, true) := by
  have e : (numsV 8000 0).find? P = some n := by
    have e1 : numsV 8000 0 = (List.range 8001).map fun (k : Nat) => (8000 : Int) + (-1) * (k : Int) := rfl
    obtain ⟨k, hk⟩ : ∃ k : Nat, n = 8000 + (-1) * (k : Int) := ⟨(8000 - n).toNat, by omega⟩
    rw [e1, find_first (k := k) (by omega) (by rw [← hk]; exact h) fun j hj => hn _ (by omega) (by omega)]
    rw [← hk]
  rw [firstV, e]
theorem v14 (x : Press × Int × Span) (hb : k14.pre x) : V14 x := by
  obtain ⟨p, k, want⟩ := x
  have e : ref04u_Last (p, k, want) = lastV p k want := rfl
  rw [V14, e]
  refine ⟨hb, fun h => ?_, fun h => ?_⟩
  · rw [lastV, show (!pressB p) = true from h]; rfl
  have hp : pressB p = true := not_iff.2.1 h
  have H := press_iff.1 hp
  have hl := H.len
  refine ⟨by simp only [Z.in64]; omega, trivial, fun _ => trivial, fun h2 => ?_, fun h2 => ?_⟩
  · rw [lastV, hp, show (!inB k 0 ((p.1.length : Int) - 1) || !spanB want 0 20000) = true from h2]; rfl
  have h2' : (!inB k 0 ((p.1.length : Int) - 1) || !spanB want 0 20000) = false := h2
  obtain ⟨F, hF⟩ : ∃ F : Int → Bool, F = fun n => fitsV (mountV p k.toNat) n n want := ⟨_, rfl⟩
  have e2 : lastV p k want = cond (!(firstV 0 8000 F).2) (0, 0, 4) ((firstV 0 8000 F).1, (firstV 8000 0 F).1, 0) := by rw [lastV, hp, h2', hF]; rfl
  simp only [Bool.or_eq_false_iff, Bool.not_eq_false'] at h2'
  have hk := ix_ok h2'.1
  have hs := span_iff.1 h2'.2
  rw [e2]
  refine ⟨fun s => 0 ≤ s.2.2 ∧ s.2.2 ≤ 8001 ∧ ((s.1 = -1 ∧ ∀ j, 0 ≤ j → j < s.2.2 → F j = false) ∨ ((0 ≤ s.1 ∧ s.1 < s.2.2 ∧ F s.1 = true ∧ ∀ j, 0 ≤ j → j < s.1 → F j = false) ∧ 0 ≤ s.2.1 ∧ s.2.1 < s.2.2 ∧ F s.2.1 = true ∧ ∀ j, s.2.1 < j → j < s.2.2 → F j = false)), fun s => (8001 - s.2.2).toNat, ⟨by simp, by simp, .inl ⟨rfl, fun j h1 h2 => by have h2 : j < 0 := h2; omega⟩⟩, ?_⟩
  rintro ⟨a, b, n⟩ ⟨g1, g2, g3⟩
  simp only at g1 g2 g3
  refine ⟨fun hn => ?_, fun hn => ?_⟩
  · have hn : n ≤ 8000 := of_decide_eq_true hn
    have hu : usedOk n := ⟨g1, by omega⟩
    have ev : (decide (1000 * want.1 ≤ ref04u_Thin (p, k, n)) && decide (ref04u_Thick (p, k, n) ≤ 1000 * want.2)) = F n := by rw [hF]; rfl
    have hm : (8001 - (n + 1)).toNat < (8001 - n).toNat := by omega
    have hi : Z.in64 (n + 1) := by simp only [Z.in64]; omega
    dsimp only
    rw [ev]
    refine ⟨⟨hp, hk, hu⟩, by simp only [Z.in64]; omega, fun _ => ⟨hp, hk, hu⟩, fun _ => by simp only [Z.in64]; omega, fun hv => ⟨fun ha => ⟨hi, ⟨by show 0 ≤ n + 1; omega, by show n + 1 ≤ 8001; omega, .inr ⟨⟨g1, ?_, hv, ?_⟩, g1, ?_, hv, ?_⟩⟩, hm⟩, fun ha => ⟨hi, ⟨by show 0 ≤ n + 1; omega, by show n + 1 ≤ 8001; omega, .inr ⟨?_, g1, ?_, hv, ?_⟩⟩, hm⟩⟩, fun hv => ⟨hi, ⟨by show 0 ≤ n + 1; omega, by show n + 1 ≤ 8001; omega, ?_⟩, hm⟩⟩
    · show n < n + 1; omega
    · have ha : a < 0 := of_decide_eq_true ha
      rcases g3 with ⟨_, h⟩ | ⟨⟨h, _⟩, _⟩
      · exact h
      · omega
    · show n < n + 1; omega
    · intro j h1 h2
      have h1 : n < j := h1
      have h2 : j < n + 1 := h2
      omega
    · have ha : ¬ a < 0 := of_decide_eq_false ha
      rcases g3 with ⟨h, _⟩ | ⟨⟨h1, h2, h3, h4⟩, _⟩
      · omega
      · exact ⟨h1, by show a < n + 1; omega, h3, h4⟩
    · show n < n + 1; omega
    · intro j h1 h2
      have h1 : n < j := h1
      have h2 : j < n + 1 := h2
      omega
    · have ext : ∀ c : Int, (∀ j, c < j → j < n → F j = false) → ∀ j, c < j → j < n + 1 → F j = false := fun c hc j h1 h2 => by
        by_cases hj : j = n
        · rw [hj]; exact hv
        · exact hc j h1 (by omega)
      rcases g3 with ⟨h, h'⟩ | ⟨⟨h1, h2, h3, h4⟩, h5, h6, h7, h8⟩
      · exact .inl ⟨h, fun j h1 h2 => ext (-1) (fun j h1 h2 => h' j (by omega) h2) j (by omega) h2⟩
      · exact .inr ⟨⟨h1, by show a < n + 1; omega, h3, h4⟩, h5, by show b < n + 1; omega, h7, ext b h8⟩
  · have hn : ¬ n ≤ 8000 := of_decide_eq_false hn
    refine ⟨fun ha => ?_, fun ha => ?_⟩
    · have ha : a < 0 := of_decide_eq_true ha
      rcases g3 with ⟨_, h⟩ | ⟨⟨h, _⟩, _⟩
      · rw [first_none fun j h1 h2 => h j h1 (by omega)]; rfl
      · omega
    · have ha : ¬ a < 0 := of_decide_eq_false ha
      rcases g3 with ⟨h, _⟩ | ⟨⟨h1, h2, h3, h4⟩, h5, h6, h7, h8⟩
      · omega
      · rw [first_up ⟨h1, by omega⟩ h3 h4, first_down ⟨h5, by omega⟩ h7 fun j q1 q2 => h8 j q1 (by omega)]; rfl
end Go.Die
