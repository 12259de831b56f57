/-
  Chapter 8: the document's own search finds the best plan.
-/
import Derived.Test.YtlkegffejcndbaaHueN2
set_option linter.all false


set_option maxRecDepth 100000
namespace Go.Hue
open Go Go.Sx

theorem v20 (x : Mill × List Hue) (hp : k20.pre x) : V20 x := by
  obtain ⟨m, l⟩ := x
  obtain ⟨h12, h4⟩ : l.length ≤ 12 ∧ (validB m l = true → l.length ≤ 4) := hp
  have hlb : l.length ≤ big := by simp only [big]; omega
  refine ⟨hlb, fun h => ?_, fun h => ?_⟩
  · show (([] : List Turn), (0 : Int), (1 : Int)) = bestOut m l
    rw [bestOut, show validB m l = false from not_iff.1.1 h]; rfl
  have hv : validB m l = true := not_iff.2.1 h
  have H := valid_iff.1 hv
  have hl4 := h4 hv
  obtain ⟨A, hA⟩ : ∃ A, A = plansFrom l.length l.length [] := ⟨_, rfl⟩
  have eA : ref08u_plans ((l.length : Int), [], []) = A := hA.symm
  have hAl : A.length ≤ 65536 := by
    have h1 := plans_len hl4 l.length []
    rw [← hA] at h1
    have h2 : 16 ^ l.length ≤ 16 ^ 4 := Nat.pow_le_pow_right (by decide) hl4
    omega
  have hp16 : 16 ^ l.length ≤ 65536 := by
    have h2 : 16 ^ l.length ≤ 16 ^ 4 := Nat.pow_le_pow_right (by decide) hl4
    omega
  have hWh : ∀ k, k < A.length → Whole l (A.getD k []) := fun k hk => plans_whole.1 (by rw [← hA]; exact getD_mem A [] k hk)
  have hPl : ∀ k, k < A.length → planB l (A.getD k []) = true := fun k hk => (hWh k hk).plan H.len
  obtain ⟨cost, hcost⟩ : ∃ cost : Nat → Int, cost = fun k => costGo m l (A.getD k []) (A.getD k []).length := ⟨_, rfl⟩
  have hcd : ∀ k, k < A.length → cost k = costD m l (A.getD k []) (A.getD k []).length := fun k hk => by rw [hcost]; exact costGo_eq H (hPl k hk) _
  obtain ⟨sh, hsh⟩ : ∃ sh : Nat → Prop, sh = fun k => (showsV m l (A.getD k [])).2.2 = 4 := ⟨_, rfl⟩
  dsimp only
  rw [eA]
  refine ⟨⟨⟨by show (0 : Int) ≤ (l.length : Int); omega, by show (l.length : Int) ≤ 4; omega, by show ((0 : Nat) : Int) ≤ (l.length : Int); omega, by show 0 + 16 ^ l.length ≤ 1000000; omega⟩, trivial, trivial⟩, ?_⟩
  refine ⟨fun s => ∃ i : Nat, s.2 = (i : Int) ∧ i ≤ A.length ∧ ((s.1 = -1 ∧ ∀ k, k < i → ¬ sh k) ∨ ∃ j : Nat, s.1 = (j : Int) ∧ j < i ∧ sh j ∧ (∀ k, k < i → sh k → cost j ≤ cost k) ∧ ∀ k, k < j → sh k → cost j < cost k), fun s => ((A.length : Int) - s.2).toNat, ⟨0, rfl, Nat.zero_le _, .inl ⟨rfl, fun k hk => (by omega)⟩⟩, ?_⟩
  rintro ⟨bst, i0⟩ ⟨i, hi, hil, hb⟩
  simp only at hi hb
  subst hi
  refine ⟨fun h => ?_, fun h => ?_⟩
  · have h : (i : Int) < (A.length : Int) := of_decide_eq_true h
    have hiA : i < A.length := by omega
    have r1 : 0 ≤ (i : Int) ∧ (i : Int) < (A.length : Int) := ⟨by omega, h⟩
    have hle : (A.getD i []).length ≤ big := by rw [(hWh i hiA).len]; exact hlb
    have hb0 : decide (bst < 0) = false → ∃ j : Nat, bst = (j : Int) ∧ j < i := by
      intro hd
      have hd := of_decide_eq_false hd
      rcases hb with ⟨rfl, _⟩ | ⟨j, hj, hji, _⟩
      · omega
      · exact ⟨j, hj, hji⟩
    have gc : ∀ k, k < A.length → ref08u_Cost (m, l, A.getD k []) = cost k := fun k _ => by rw [hcost]; rfl
    refine ⟨r1, ⟨hlb, hle⟩, fun _ => r1, fun _ => ⟨hv, hPl i hiA⟩, fun hx => ?_, fun hx => ?_, fun hx => ⟨by simp only [Z.in64]; omega, rfl, ⟨i + 1, by show (i : Int) + 1 = ((i + 1 : Nat) : Int); omega, by omega, .inr ⟨i, rfl, by omega, ?_, ?_, ?_⟩⟩, ?_⟩, fun hx => ⟨by simp only [Z.in64]; omega, rfl, ⟨i + 1, by show (i : Int) + 1 = ((i + 1 : Nat) : Int); omega, by omega, ?_⟩, ?_⟩⟩
    · obtain ⟨j, rfl, hji⟩ := hb0 hx.1
      exact ⟨by omega, by show (j : Int) < (A.length : Int); omega⟩
    · obtain ⟨j, rfl, hji⟩ := hb0 hx.1
      exact ⟨hv, hPl j (by omega)⟩
    · have hx : (((showsV m l (A.getD i [])).2.2 == 4) && (decide (bst < 0) || decide (ref08u_Cost (m, l, A.getD i []) < ref08u_Cost (m, l, A.getD (Int.toNat bst) [])))) = true := hx
      rw [Bool.and_eq_true] at hx
      rw [hsh]
      exact eq_of_beq hx.1
    · intro k hk hsk
      have hx : (((showsV m l (A.getD i [])).2.2 == 4) && (decide (bst < 0) || decide (ref08u_Cost (m, l, A.getD i []) < ref08u_Cost (m, l, A.getD (Int.toNat bst) [])))) = true := hx
      rw [Bool.and_eq_true, Bool.or_eq_true] at hx
      by_cases hki : k = i
      · subst hki; exact Int.le_refl _
      · rcases hb with ⟨rfl, hn⟩ | ⟨j, rfl, hji, hsj, hmin, _⟩
        · exact absurd hsk (hn k (by omega))
        · rcases hx.2 with hx2 | hx2
          · have := of_decide_eq_true hx2; omega
          · have hx2 : ref08u_Cost (m, l, A.getD i []) < ref08u_Cost (m, l, A.getD j []) := of_decide_eq_true hx2
            rw [gc i hiA, gc j (by omega)] at hx2
            have := hmin k (by omega) hsk
            omega
    · intro k hk hsk
      have hx : (((showsV m l (A.getD i [])).2.2 == 4) && (decide (bst < 0) || decide (ref08u_Cost (m, l, A.getD i []) < ref08u_Cost (m, l, A.getD (Int.toNat bst) [])))) = true := hx
      rw [Bool.and_eq_true, Bool.or_eq_true] at hx
      rcases hb with ⟨rfl, hn⟩ | ⟨j, rfl, hji, hsj, hmin, _⟩
      · exact absurd hsk (hn k hk)
      · rcases hx.2 with hx2 | hx2
        · have := of_decide_eq_true hx2; omega
        · have hx2 : ref08u_Cost (m, l, A.getD i []) < ref08u_Cost (m, l, A.getD j []) := of_decide_eq_true hx2
          rw [gc i hiA, gc j (by omega)] at hx2
          have := hmin k hk hsk
          omega
    · show ((A.length : Int) - ((i : Int) + 1)).toNat < ((A.length : Int) - (i : Int)).toNat; omega
    · have hx : (((showsV m l (A.getD i [])).2.2 == 4) && (decide (bst < 0) || decide (ref08u_Cost (m, l, A.getD i []) < ref08u_Cost (m, l, A.getD (Int.toNat bst) [])))) = false := hx
      rw [Bool.and_eq_false_iff, Bool.or_eq_false_iff] at hx
      rcases hb with ⟨rfl, hn⟩ | ⟨j, rfl, hji, hsj, hmin, hfst⟩
      · refine .inl ⟨rfl, fun k hk hsk => ?_⟩
        by_cases hki : k = i
        · subst hki
          rw [hsh] at hsk
          have hsk : (showsV m l (A.getD k [])).2.2 = 4 := hsk
          rcases hx with hx | hx
          · rw [hsk] at hx; cases hx
          · cases hx.1
        · exact hn k (by omega) hsk
      · refine .inr ⟨j, rfl, by omega, hsj, fun k hk hsk => ?_, hfst⟩
        by_cases hki : k = i
        · subst hki
          have hsk' := hsk
          rw [hsh] at hsk'
          have hsk' : (showsV m l (A.getD k [])).2.2 = 4 := hsk'
          rcases hx with hx | hx
          · rw [hsk'] at hx; cases hx
          · have hx2 : ¬ ref08u_Cost (m, l, A.getD k []) < ref08u_Cost (m, l, A.getD j []) := of_decide_eq_false hx.2
            rw [gc k hiA, gc j (by omega)] at hx2
            omega
        · exact hmin k (by omega) hsk
    · show ((A.length : Int) - ((i : Int) + 1)).toNat < ((A.length : Int) - (i : Int)).toNat; omega
  · have h : ¬ (i : Int) < (A.length : Int) := of_decide_eq_false h
    have hiA : i = A.length := by omega
    subst hiA
    have hall := best_all (m := m) (l := l) hv
    have find : ∀ p, Whole l p → ∃ k, k < A.length ∧ A.getD k [] = p := by
      intro p hp
      have hm : p ∈ A := by rw [hA]; exact plans_whole.2 hp
      obtain ⟨k, hk⟩ := List.getElem?_of_mem hm
      exact ⟨k, (List.getElem?_eq_some_iff.1 hk).1, by simp [List.getD, hk]⟩
    refine ⟨fun hx => ?_, fun hx => ?_⟩
    · have hx : bst < 0 := of_decide_eq_true hx
      rcases hb with ⟨rfl, hn⟩ | ⟨j, rfl, _⟩
      · show (([] : List Turn), (0 : Int), (4 : Int)) = bestOut m l
        rcases hall with ⟨h1, _⟩ | ⟨_, h2, h3, _⟩
        · exact h1.symm
        · obtain ⟨k, hk, hkp⟩ := find _ h2
          exact absurd (by rw [hsh]; show (showsV m l (A.getD k [])).2.2 = 4; rw [hkp, h3]) (hn k hk)
      · omega
    · have hx : ¬ bst < 0 := of_decide_eq_false hx
      rcases hb with ⟨rfl, _⟩ | ⟨j, rfl, hji, hsj, hmin, hfst⟩
      · omega
      have r : 0 ≤ (j : Int) ∧ (j : Int) < (A.length : Int) := ⟨by omega, by omega⟩
      refine ⟨r, r, ⟨hv, hPl j hji⟩, ?_⟩
      show (A.getD j [], costGo m l (A.getD j []) (A.getD j []).length, (0 : Int)) = bestOut m l
      have hsj' : (showsV m l (A.getD j [])).2.2 = 4 := by rw [hsh] at hsj; exact hsj
      rcases hall with ⟨_, h2⟩ | ⟨h1, h2, h3, h4, h5⟩
      · exact absurd hsj' (h2 _ (hWh j hji))
      · obtain ⟨k, hk, hkp⟩ := find _ h2
        have hsk : sh k := by rw [hsh]; show (showsV m l (A.getD k [])).2.2 = 4; rw [hkp, h3]
        obtain ⟨g1, g2⟩ := h5 _ (hWh j hji) hsj'
        have ck : cost k = (bestOut m l).2.1 := by rw [hcd k hk, hkp]; exact h4.symm
        have cj := hcd j hji
        have c1 := hmin k hk hsk
        have hlex := g2 (by omega)
        rw [← hkp] at hlex
        have hjk : j = k := by
          rcases Nat.lt_trichotomy j k with hlt | heq | hgt
          · have hs := plans_sorted (n := l.length) l.length []
            rw [← hA] at hs
            have := List.pairwise_iff_getElem.1 hs j k hji hk hlt
            rw [show A.getD k [] = A[k] from by simp [List.getD, hk], show A.getD j [] = A[j] from by simp [List.getD, hji]] at hlex
            exact absurd hlex (llt_not this)
          · exact heq
          · have := hfst k hgt hsk
            omega
        subst hjk
        have c3 : costGo m l (A.getD j []) (A.getD j []).length = cost j := by rw [hcost]
        rw [c3, ck, hkp]
        exact Prod.ext rfl (Prod.ext rfl h1.symm)
end Go.Hue
