/-
  Chapter 8: the law HueEnds.
-/
import Derived.Test.YtlkegffejcndbaaHueAuto2
set_option linter.all false


set_option maxRecDepth 100000
namespace Go.Hue
open Go Go.Sx

theorem tabs_ok2 : TabsOk Go.Proofs.Try.prog T2 := by
  refine ⟨by kernel_rfl, fun p hp => ?_⟩
  simp only [T2, List.mem_singleton] at hp
  subst hp
  exact tabs_ok.mty _ (by simp [T])
theorem great_mono (f g : Nat → Int) (a : Int) : ∀ n, (∀ k, k < n → f k ≤ g k) → great ((List.range n).map f) a ≤ great ((List.range n).map g) a
  | 0, _ => Int.le_refl _
  | n + 1, h => by
    rw [great_range, great_range]
    have h1 := great_mono f g a n fun k hk => h k (by omega)
    have h2 := h n (by omega)
    omega
theorem great_congr (f g : Nat → Int) (a : Int) (n : Nat) (h : ∀ k, k < n → f k = g k) : great ((List.range n).map f) a = great ((List.range n).map g) a :=
  Int.le_antisymm (great_mono f g a n fun k hk => Int.le_of_eq (h k hk)) (great_mono g f a n fun k hk => Int.le_of_eq (h k hk).symm)
theorem great_ge (f : Nat → Int) (a : Int) : ∀ n, a ≤ great ((List.range n).map f) a
  | 0 => Int.le_refl _
  | n + 1 => by rw [great_range]; have := great_ge f a n; omega
theorem great_le (f : Nat → Int) (a b : Int) (ha : a ≤ b) : ∀ n, (∀ k, k < n → f k ≤ b) → great ((List.range n).map f) a ≤ b
  | 0, _ => ha
  | n + 1, h => by
    rw [great_range]
    have h1 := great_le f a b ha n fun k hk => h k (by omega)
    have h2 := h n (by omega)
    omega
theorem wsum_congr {p q : List Turn} : ∀ (k a : Nat), (∀ j, a < j → j ≤ a + k → p.getD j (0, 0) = q.getD j (0, 0)) → wsum p a k = wsum q a k
  | 0, _, _ => rfl
  | k + 1, a, h => by
    simp only [wsum]
    rw [h (a + 1) (by omega) (by omega), wsum_congr k (a + 1) fun j h1 h2 => h j (by omega) (by omega)]
theorem wsum_le {p q : List Turn} (h : ∀ j, (p.getD j (0, 0)).2 ≤ (q.getD j (0, 0)).2) : ∀ (k a : Nat), wsum p a k ≤ wsum q a k
  | 0, _ => Int.le_refl _
  | k + 1, a => by
    simp only [wsum]
    have h1 := h (a + 1)
    have h2 := wsum_le h k (a + 1)
    omega
theorem stv_congr {d : Hue → Int} {r w : Int} {l : List Hue} {p q : List Turn} {k i : Nat} (hk : k < i) (h : ∀ j, j ≤ i → p.getD j (0, 0) = q.getD j (0, 0)) : stv d r w l p k i = stv d r w l q k i := by
  unfold stv hueAt
  rw [h k (by omega), wsum_congr (i - k) k fun j h1 h2 => h j (by omega)]
theorem inS_congr {m : Mill} {l : List Hue} {p q : List Turn} {i : Nat} (h : ∀ j, j ≤ i → p.getD j (0, 0) = q.getD j (0, 0)) : inS m l p i = inS m l q i := by
  exact Prod.ext (great_congr _ _ 0 i fun k hk => stv_congr (d := dLo) hk h) (great_congr _ _ 0 i fun k hk => stv_congr (d := dHi) hk h)
theorem stv_mono {d : Hue → Int} {r w : Int} {l : List Hue} {p q : List Turn} {k i : Nat} (hw : 0 ≤ w) (h1 : ∀ j, (p.getD j (0, 0)).1 = (q.getD j (0, 0)).1) (h2 : ∀ j, (p.getD j (0, 0)).2 ≤ (q.getD j (0, 0)).2) : stv d r w l q k i ≤ stv d r w l p k i := by
  unfold stv hueAt
  rw [h1 k]
  have := Int.mul_le_mul_of_nonneg_left (wsum_le h2 (i - k) k) hw
  omega
theorem map_getD {α β : Type} (f : α → β) (l : List α) (d : α) (j : Nat) : (l.map f).getD j (f d) = f (l.getD j d) := by
  simp only [List.getD, List.getElem?_map]
  cases l[j]? <;> rfl
theorem deep_lo (m : Mill) (l : List Hue) (plan : List Turn) (i : Nat) : deepAt plan m.1.2 m.2.1.2 (l.map dLo) i = (inS m l plan i).1 := by
  refine great_congr _ _ 0 i fun k hk => ?_
  unfold dp stLo stv hueAt
  have e : (l.map dLo).getD (plan.getD k (0, 0)).1.toNat 0 = dLo (l.getD (plan.getD k (0, 0)).1.toNat ((0, 0), 0, 0)) := map_getD dLo l ((0, 0), 0, 0) _
  rw [e, show ((i : Int) - k - 1) = (i : Int) - 1 - k by omega]
  omega
theorem deep_hi (m : Mill) (l : List Hue) (plan : List Turn) (i : Nat) : deepAt plan m.1.1 m.2.1.1 (l.map dHi) i = (inS m l plan i).2 := by
  refine great_congr _ _ 0 i fun k hk => ?_
  unfold dp stHi stv hueAt
  have e : (l.map dHi).getD (plan.getD k (0, 0)).1.toNat 0 = dHi (l.getD (plan.getD k (0, 0)).1.toNat ((0, 0), 0, 0)) := map_getD dHi l ((0, 0), 0, 0) _
  rw [e, show ((i : Int) - k - 1) = (i : Int) - 1 - k by omega]
  omega
theorem v25 (x : (List Turn) × Int × Int × List Int) (hp : k25.pre x) : V25 x := by
  obtain ⟨plan, run, wash, ds⟩ := x
  obtain ⟨h1, h2, h3, h4, h5⟩ : plan.length ≤ 12 ∧ (∀ t ∈ plan, 0 ≤ t.1 ∧ t.1 < (ds.length : Int) ∧ 0 ≤ t.2 ∧ t.2 ≤ 2) ∧ (0 ≤ run ∧ run ≤ 10000) ∧ (0 ≤ wash ∧ wash ≤ 10000) ∧ ∀ d ∈ ds, 0 ≤ d ∧ d ≤ 10000 := hp
  have hw : ∀ i, 0 ≤ (plan.getD i (0, 0)).2 ∧ (plan.getD i (0, 0)).2 ≤ 2 := turnD' fun t ht => (h2 t ht).2.2
  refine ⟨fun s => ∃ i : Nat, s.2 = (i : Int) ∧ i ≤ plan.length ∧ s.1 = (List.range i).map (deepAt plan run wash ds), fun s => ((plan.length : Int) - s.2).toNat, ⟨0, rfl, Nat.zero_le _, rfl⟩, ?_⟩
  rintro ⟨out, i0⟩ ⟨i, hi, hin, hs⟩
  simp only at hi hs
  subst hi hs
  refine ⟨fun h => ?_, fun h => ?_⟩
  · have h : (i : Int) < (plan.length : Int) := of_decide_eq_true h
    refine ⟨fun s => ∃ k : Nat, s.2 = (k : Int) ∧ k ≤ i ∧ s.1 = great ((List.range k).map fun k => dp plan run wash ds k i) 0, fun s => ((i : Int) - s.2).toNat, ⟨0, rfl, Nat.zero_le _, rfl⟩, ?_⟩
    rintro ⟨n, k0⟩ ⟨k, hk, hki, hn⟩
    simp only at hk hn
    subst hk hn
    refine ⟨fun hk => ?_, fun hk => ?_⟩
    · have hk : (k : Int) < (i : Int) := of_decide_eq_true hk
      have ht := h2 _ (getD_mem plan (0, 0) k (by omega))
      have hd := h5 _ (getD_mem' ds 0 (plan.getD k (0, 0)).1 ht.1 ht.2.1)
      have hws : 0 ≤ wsum plan k (i - k) ∧ wsum plan k (i - k) ≤ 24 := by
        have := wsum_bd hw (i - k) k
        omega
      have q1 := mul_bd (a := run) (A := 10000) h3 (b := (i : Int) - k - 1) (B := 12) ⟨by omega, by omega⟩
      have q2 := mul_bd (a := wash) (A := 10000) h4 hws
      refine ⟨⟨by show 0 ≤ (k : Int); omega, by show (k : Int) < (plan.length : Int); omega⟩, ⟨ht.1, ht.2.1⟩, ?_, ?_, ?_, ?_, ⟨?_, ?_, ?_, ?_, ?_⟩, ?_, ?_, ?_, rfl, ⟨k + 1, ?_, by omega, ?_⟩, ?_⟩
      · simp only [Z.in64]; omega
      · simp only [Z.in64]; omega
      · show Z.in64 (run * ((i : Int) - k - 1))
        simp only [Z.in64]; omega
      · show Z.in64 (ds.getD (Int.toNat (plan.getD k (0, 0)).1) 0 - run * ((i : Int) - k - 1))
        simp only [Z.in64]; omega
      · show 0 ≤ (k : Int); omega
      · show (k : Int) ≤ i; omega
      · exact h
      · show plan.length ≤ 100; omega
      · exact fun t ht => (h2 t ht).2.2
      · show Z.in64 (wash * wsum plan k (i - k))
        simp only [Z.in64]; omega
      · show Z.in64 (ds.getD (Int.toNat (plan.getD k (0, 0)).1) 0 - run * ((i : Int) - k - 1) - wash * wsum plan k (i - k))
        simp only [Z.in64]; omega
      · simp only [Z.in64]; omega
      · show (k : Int) + 1 = ((k + 1 : Nat) : Int); omega
      · rw [great_range]; rfl
      · show ((i : Int) - ((k : Int) + 1)).toNat < ((i : Int) - (k : Int)).toNat; omega
    · have hk : ¬ (k : Int) < (i : Int) := of_decide_eq_false hk
      have : k = i := by omega
      subst this
      refine ⟨roomy_of (by omega) (by omega) ?_, by simp only [Z.in64]; omega, ⟨k + 1, by show (k : Int) + 1 = ((k + 1 : Nat) : Int); omega, by omega, ?_⟩, ?_⟩
      · simp only [List.length_append, List.length_map, List.length_range, List.length_set, List.length_replicate]
        omega
      · rw [List.range_succ, List.map_append]; rfl
      · show ((plan.length : Int) - ((k : Int) + 1)).toNat < ((plan.length : Int) - (k : Int)).toNat; omega
  · have h : ¬ (i : Int) < (plan.length : Int) := of_decide_eq_false h
    have : i = plan.length := by omega
    subst this
    rfl
theorem take_succ {α : Type} (l : List α) (d : α) (i : Nat) (h : i < l.length) : l.take (i + 1) = l.take i ++ [l.getD i d] := by
  rw [List.take_succ_eq_append_getElem h]
  simp [List.getD, h]
theorem stains_ok {m : Mill} {l : List Hue} {plan : List Turn} (hv : validB m l = true) (hp : planB l plan = true) : hue_Stains (m, l, plan) = ((List.range plan.length).map (inS m l plan), 0) := by
  show stainsV m l plan = _
  rw [stainsV, hv, hp]; rfl
theorem range_getD {α : Type} (f : Nat → α) (d : α) {n i : Nat} (h : i < n) : ((List.range n).map f).getD i d = f i := by
  simp [List.getD, h]
end Go.Hue
