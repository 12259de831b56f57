/-
  Chapter 8: a whole plan by remainders; what a plan costs.
-/
import Derived.Test.YtlkegffejcndbaaHueB3
set_option linter.all false


set_option maxRecDepth 100000
namespace Go.Hue
open Go Go.Sx

/-- How far it is to a place, round and round. -/
def far (n j k : Nat) : Nat := if k ≤ j then j - k else j + n - k
theorem far_step {n j k : Nat} (hj : j < n) (hk : k < n) (h : k ≠ j) : far n j ((k + 1) % n) + 1 = far n j k := by
  by_cases h1 : k + 1 < n
  · rw [Nat.mod_eq_of_lt h1]
    unfold far
    split <;> split <;> omega
  · have : k + 1 = n := by omega
    rw [this, Nat.mod_self]
    unfold far
    split <;> split <;> omega
theorem far_lt {n j k : Nat} (hj : j < n) (hk : k < n) : far n j k < n := by
  unfold far; split <;> omega
/-- What is found is free. -/
theorem freeK_free {had : List Bool} {n j : Nat} (hj : j < n) (hf : had.getD j false = false) : ∀ f k, k < n → far n j k < f → freeK had n f k < n ∧ had.getD (freeK had n f k) false = false
  | 0, k, _, h => by omega
  | f + 1, k, hk, h => by
    simp only [freeK]
    cases hh : had.getD k false with
    | false => rw [cond_false]; exact ⟨hk, hh⟩
    | true =>
      rw [cond_true]
      have hne : k ≠ j := by rintro rfl; rw [hf] at hh; cases hh
      have := far_step hj hk hne
      exact freeK_free hj hf f _ (Nat.mod_lt _ (by omega)) (by omega)
theorem free_ex {had : List Bool} (h : had.countP (fun b => b) < had.length) : ∃ j, j < had.length ∧ had.getD j false = false := by
  have h2 : ¬ ∀ b ∈ had, b = true := by
    intro hall
    have := List.countP_eq_length.2 hall
    omega
  have h3 : ∃ b, b ∈ had ∧ b ≠ true := by
    by_cases h3 : ∃ b, b ∈ had ∧ b ≠ true
    · exact h3
    · exact absurd (fun b hb => by
        by_cases hb2 : b = true
        · exact hb2
        · exact absurd ⟨b, hb, hb2⟩ h3) h2
  obtain ⟨b, hb, hn⟩ := h3
  obtain ⟨j, hj⟩ := List.getElem?_of_mem hb
  have hn : b = false := by cases b with | false => rfl | true => exact absurd rfl hn
  refine ⟨j, (List.getElem?_eq_some_iff.1 hj).1, ?_⟩
  simp [List.getD, hj, hn]
theorem count_set {had : List Bool} {k : Nat} (hk : k < had.length) (hf : had.getD k false = false) : (had.set k true).countP (fun b => b) = had.countP (fun b => b) + 1 := by
  have e : had[k] = false := by simpa [List.getD, hk] using hf
  rw [List.countP_set hk]
  simp [e]
theorem set_getD_ne {had : List Bool} {k j : Nat} (h : k ≠ j) : (had.set k true).getD j false = had.getD j false := by
  rw [getD_setB]; simp [h]
where getD_setB {had : List Bool} {k j : Nat} : (had.set k true).getD j false = if k = j ∧ k < had.length then true else had.getD j false := by
        simp only [List.getD, List.getElem?_set]
        by_cases h : k = j
        · subst h
          by_cases hk : k < had.length
          · simp [hk]
          · simp [hk]
        · simp [h]
theorem set_getD_eq {had : List Bool} {k : Nat} (h : k < had.length) : (had.set k true).getD k false = true := by
  simp [List.getD, h]
theorem rem3 {b : Int} (h0 : 0 ≤ b) : 0 ≤ Int.tmod (Int.tdiv b 16) 3 ∧ Int.tmod (Int.tdiv b 16) 3 ≤ 2 := by
  have h1 : 0 ≤ Int.tdiv b 16 := Int.tdiv_nonneg h0 (by omega)
  rw [Int.tmod_eq_emod_of_nonneg h1]
  omega
/-- The plan by remainders: colours that are free, each once. -/
theorem wholeGo_ok {n : Nat} {b : List Int} (hb : ∀ i, 0 ≤ b.getD i 0) : ∀ (c i : Nat) (had : List Bool), had.length = n → had.countP (fun b => b) + c = n →
    (wholeGo n b c i had).length = c ∧ (∀ t ∈ wholeGo n b c i had, 0 ≤ t.1 ∧ t.1 < (n : Int) ∧ 0 ≤ t.2 ∧ t.2 ≤ 2 ∧ had.getD t.1.toNat false = false) ∧ (wholeGo n b c i had).Pairwise fun t u => t.1 ≠ u.1
  | 0, _, _, _, _ => ⟨rfl, fun t ht => (by cases ht), List.Pairwise.nil⟩
  | c + 1, i, had, hl, hc => by
    obtain ⟨j, hj, hjf⟩ := free_ex (had := had) (by omega)
    obtain ⟨k, hk⟩ : ∃ k, k = freeK had n n ((b.getD (i % b.length) 0).toNat % n) := ⟨_, rfl⟩
    obtain ⟨h1, h2⟩ := freeK_free (n := n) (by omega) hjf n ((b.getD (i % b.length) 0).toNat % n) (Nat.mod_lt _ (by omega)) (far_lt (by omega) (Nat.mod_lt _ (by omega)))
    rw [← hk] at h1 h2
    obtain ⟨i1, i2, i3⟩ := wholeGo_ok (n := n) hb c (i + 1) (had.set k true) (by rw [List.length_set]; exact hl) (by rw [count_set (by omega) h2]; omega)
    have e : wholeGo n b (c + 1) i had = ((k : Int), Int.tmod (Int.tdiv (b.getD ((i + 3) % b.length) 0) 16) 3) :: wholeGo n b c (i + 1) (had.set k true) := by rw [hk]; rfl
    rw [e]
    have hne : ∀ t ∈ wholeGo n b c (i + 1) (had.set k true), t.1 ≠ (k : Int) := by
      intro t ht he
      have := (i2 t ht).2.2.2.2
      rw [he] at this
      have this : (had.set k true).getD k false = false := this
      rw [set_getD_eq (by omega)] at this; cases this
    refine ⟨by rw [List.length_cons, i1], fun t ht => ?_, List.Pairwise.cons (fun u hu he => hne u hu he.symm) i3⟩
    rcases List.mem_cons.1 ht with rfl | ht
    · have := rem3 (hb ((i + 3) % b.length))
      exact ⟨by show 0 ≤ (k : Int); omega, by show (k : Int) < n; omega, this.1, this.2, h2⟩
    · obtain ⟨g1, g2, g3, g4, g5⟩ := i2 t ht
      refine ⟨g1, g2, g3, g4, ?_⟩
      rw [set_getD_ne (fun e => hne t ht (by omega))] at g5
      exact g5
theorem getD_byte {b : List Int} (hb : ∀ x ∈ b, 0 ≤ x ∧ x ≤ 255) (i : Nat) : 0 ≤ b.getD i 0 ∧ b.getD i 0 ≤ 255 := by
  by_cases h : i < b.length
  · exact hb _ (getD_mem b 0 i h)
  · have : b.getD i 0 = 0 := by simp [List.getD, List.getElem?_eq_none (Nat.le_of_not_lt h)]
    rw [this]; omega
theorem wholeV_whole {l : List Hue} {b : List Int} (hb : ∀ x ∈ b, 0 ≤ x ∧ x ≤ 255) : Whole l (wholeV l.length b) := by
  obtain ⟨h1, h2, h3⟩ := wholeGo_ok (n := l.length) (fun i => (getD_byte hb i).1) l.length 0 (List.replicate l.length false) (by simp) (by simp)
  refine ⟨h1, fun t ht => ?_, fun i j hij hj => ?_⟩
  · obtain ⟨g1, g2, g3, g4, _⟩ := h2 t ht
    exact ⟨g1, g2, g3, g4⟩
  · have hj : j < (wholeV l.length b).length := hj
    have hi : i < (wholeV l.length b).length := by omega
    have := List.pairwise_iff_getElem.1 h3 i j hi hj hij
    rw [show (wholeV l.length b).getD i (0, 0) = (wholeV l.length b)[i] from by simp [List.getD, hi], show (wholeV l.length b).getD j (0, 0) = (wholeV l.length b)[j] from by simp [List.getD, hj]]
    exact this
theorem v27 (x : (List Hue) × List Int) (hp : k27.pre x) : V27 x := by
  obtain ⟨l, b⟩ := x
  obtain ⟨h1, h2, h3, h4⟩ : l.length ≤ 12 ∧ b.length ≠ 0 ∧ b.length ≤ 140737488355328 ∧ ∀ x ∈ b, 0 ≤ x ∧ x ≤ 255 := hp
  have gb := getD_byte h4
  obtain ⟨n, hn⟩ : ∃ n, n = l.length := ⟨_, rfl⟩
  refine ⟨⟨⟨by show (0 : Int) ≤ (l.length : Int); omega, Int.le_refl _⟩, roomy_of (by omega) (by omega) (by show (l.length : Int) ≤ _; omega)⟩, ?_⟩
  refine ⟨fun s => ∃ i : Nat, s.2.1 = (i : Int) ∧ i ≤ l.length ∧ s.1.length = i ∧ s.2.2.length = l.length ∧ s.2.2.countP (fun b => b) = i ∧ wholeV l.length b = s.1 ++ wholeGo l.length b (l.length - i) i s.2.2, fun s => ((l.length : Int) - s.2.1).toNat,
    ⟨0, rfl, Nat.zero_le _, rfl, by show (List.replicate (Int.toNat (l.length : Int)) false).length = _; simp, by show (List.replicate (Int.toNat (l.length : Int)) false).countP (fun b => b) = 0; simp, rfl⟩, ?_⟩
  rintro ⟨out, i0, had⟩ ⟨i, hi, hil, hol, hhl, hhc, hw⟩
  simp only at hi hol hhl hhc hw
  subst hi
  have tm : ∀ (a : Int), 0 ≤ a → Int.tmod a (b.length : Int) = ((a.toNat % b.length : Nat) : Int) := by
    intro a ha
    rw [Int.tmod_eq_emod_of_nonneg ha, Int.natCast_emod, Int.toNat_of_nonneg ha]
  refine ⟨fun h => ?_, fun h => ?_⟩
  · have h : (i : Int) < (l.length : Int) := of_decide_eq_true h
    have t1 := tm (i : Int) (by omega)
    have t2 := tm ((i : Int) + 3) (by omega)
    have e1 : (i : Int).toNat = i := rfl
    have e2 : ((i : Int) + 3).toNat = i + 3 := by omega
    rw [e1] at t1
    rw [e2] at t2
    have m1 := Nat.mod_lt i (show 0 < b.length by omega)
    have m2 := Nat.mod_lt (i + 3) (show 0 < b.length by omega)
    refine ⟨by show (b.length : Int) ≠ 0; omega, ⟨?_, ?_⟩, by show (l.length : Int) ≠ 0; omega, ?_⟩
    · show (0 : Int) ≤ Int.tmod (i : Int) (b.length : Int)
      rw [t1]; omega
    · show Int.tmod (i : Int) (b.length : Int) < (b.length : Int)
      rw [t1]; omega
    obtain ⟨v, hv⟩ : ∃ v : Nat, b.getD (i % b.length) 0 = (v : Int) := ⟨(b.getD (i % b.length) 0).toNat, by have := gb (i % b.length); omega⟩
    have e3 : Int.tmod (b.getD (Int.toNat (Int.tmod (i : Int) (b.length : Int))) 0) (l.length : Int) = ((v % l.length : Nat) : Int) := by
      rw [t1]
      show Int.tmod (b.getD (i % b.length) 0) (l.length : Int) = _
      rw [hv, Int.tmod_eq_emod_of_nonneg (by omega), Int.natCast_emod]
    obtain ⟨j, hj, hjf⟩ := free_ex (had := had) (by omega)
    rw [hhl] at hj
    obtain ⟨K, hK⟩ : ∃ K, K = freeK had l.length l.length (v % l.length) := ⟨_, rfl⟩
    have hv0 : v % l.length < l.length := Nat.mod_lt _ (by omega)
    show Z.LoopP (X := Int) (Int.tmod (b.getD (Int.toNat (Int.tmod (i : Int) (b.length : Int))) 0) (l.length : Int)) _
    rw [e3]
    refine ⟨fun s => ∃ k f : Nat, s = (k : Int) ∧ k < l.length ∧ far l.length j k < f ∧ freeK had l.length f k = K, fun s => far l.length j s.toNat, ⟨v % l.length, l.length, rfl, hv0, far_lt hj hv0, hK.symm⟩, ?_⟩
    rintro s1 ⟨k, f, rfl, hk, hf, hkK⟩
    obtain ⟨f, rfl⟩ : ∃ g, f = g + 1 := ⟨f - 1, by omega⟩
    simp only [freeK] at hkK
    have hin : (0 : Int) ≤ (k : Int) ∧ (k : Int) < (had.length : Int) := ⟨by omega, by omega⟩
    refine ⟨hin, fun hh => ⟨by simp only [Z.in64]; omega, by show (l.length : Int) ≠ 0; omega, rfl, rfl, ⟨(k + 1) % l.length, f, ?_, Nat.mod_lt _ (by omega), ?_, ?_⟩, ?_⟩, fun hh => ⟨hin, by simp only [Z.in64]; omega, by show (b.length : Int) ≠ 0; omega, ⟨?_, ?_⟩, ⟨by omega, ?_⟩, by omega, ?_, by simp only [Z.in64]; omega, ⟨i + 1, by show (i : Int) + 1 = ((i + 1 : Nat) : Int); omega, by omega, ?_, ?_, ?_, ?_⟩, ?_⟩⟩
    · show Int.tmod ((k : Int) + 1) (l.length : Int) = _
      rw [Int.tmod_eq_emod_of_nonneg (by omega), Int.natCast_emod]; rfl
    · have hh : had.getD k false = true := hh
      have hne : k ≠ j := by rintro rfl; rw [hjf] at hh; cases hh
      have := far_step hj hk hne
      omega
    · have hh : had.getD k false = true := hh
      rw [hh, cond_true] at hkK
      exact hkK
    · have hh : had.getD k false = true := hh
      have hne : k ≠ j := by rintro rfl; rw [hjf] at hh; cases hh
      have := far_step hj hk hne
      have e4 : (Int.tmod ((k : Int) + 1) (l.length : Int)).toNat = (k + 1) % l.length := by
        have : Int.tmod ((k : Int) + 1) (l.length : Int) = (((k + 1) % l.length : Nat) : Int) := by
          rw [Int.tmod_eq_emod_of_nonneg (by omega), Int.natCast_emod]; rfl
        rw [this]; rfl
      show far l.length j (Int.tmod ((k : Int) + 1) (l.length : Int)).toNat < far l.length j k
      rw [e4]
      omega
    · show (0 : Int) ≤ Int.tmod ((i : Int) + 3) (b.length : Int)
      rw [t2]; omega
    · show Int.tmod ((i : Int) + 3) (b.length : Int) < (b.length : Int)
      rw [t2]; omega
    · show Z.in64 (Int.tdiv (b.getD (Int.toNat (Int.tmod ((i : Int) + 3) (b.length : Int))) 0) 16)
      have g := gb (Int.toNat (Int.tmod ((i : Int) + 3) (b.length : Int)))
      rw [Int.tdiv_eq_ediv_of_nonneg g.1]
      simp only [Z.in64]; omega
    · refine roomy_of (by omega) (by omega) ?_
      simp only [List.length_append, List.length_set, List.length_replicate]; omega
    · show (out ++ _).length = _
      rw [List.length_append, hol]; rfl
    · show (had.set _ true).length = _
      rw [List.length_set]; exact hhl
    · have hh : had.getD k false = false := hh
      show (had.set k true).countP (fun b => b) = i + 1
      rw [count_set (by omega) hh, hhc]
    · have hh : had.getD k false = false := hh
      rw [hh, cond_false] at hkK
      rw [hw, show l.length - i = (l.length - (i + 1)) + 1 by omega]
      show out ++ ((freeK had l.length l.length ((b.getD (i % b.length) 0).toNat % l.length) : Int), Int.tmod (Int.tdiv (b.getD ((i + 3) % b.length) 0) 16) 3) :: wholeGo l.length b (l.length - (i + 1)) (i + 1) (had.set (freeK had l.length l.length ((b.getD (i % b.length) 0).toNat % l.length)) true) =
        (out ++ [((k : Int), Int.tmod (Int.tdiv (b.getD (Int.toNat (Int.tmod ((i : Int) + 3) (b.length : Int))) 0) 16) 3)]) ++ wholeGo l.length b (l.length - (i + 1)) (i + 1) (had.set k true)
      rw [hv, show ((v : Int).toNat) = v from rfl, ← hK, ← hkK, t2, List.append_assoc]
      rfl
    · show ((l.length : Int) - ((i : Int) + 1)).toNat < ((l.length : Int) - (i : Int)).toNat; omega
  · have h : ¬ (i : Int) < (l.length : Int) := of_decide_eq_false h
    show out = wholeV l.length b
    rw [hw, show l.length - i = 0 by omega, wholeGo, List.append_nil]
end Go.Hue
