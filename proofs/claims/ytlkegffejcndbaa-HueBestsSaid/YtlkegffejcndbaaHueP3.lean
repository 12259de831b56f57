/-
  Chapter 8: the conditions, proved; third part: the stains.
-/
import Derived.Test.YtlkegffejcndbaaHueP2
set_option linter.all false


set_option maxRecDepth 100000
namespace Go.Hue
open Go Go.Sx

theorem backL_succ (l : List Turn) (i : Nat) (h : i < l.length) : backL (l.take (i + 1)) = ((i : Int), l.getD i (0, 0)) :: backL (l.take i) := by
  have e1 : (l.take (i + 1)).length = i + 1 := by rw [List.length_take]; omega
  have e2 : (l.take i).length = i := by rw [List.length_take]; omega
  have g : ∀ k n, k < n → (l.take n).getD k ((0 : Int), (0 : Int)) = l.getD k (0, 0) := by
    intro k n hk
    simp [List.getD, List.getElem?_take, hk]
  unfold backL
  rw [e1, e2, List.range_succ, List.map_append, List.reverse_append]
  simp only [List.map_cons, List.map_nil, List.reverse_cons, List.reverse_nil, List.nil_append, List.singleton_append]
  rw [g i (i + 1) (by omega)]
  congr 2
  refine List.map_congr_left fun k hk => ?_
  have hk := List.mem_range.1 hk
  rw [g k (i + 1) (by omega), g k i hk]
theorem v63 (ly : Nat) (x : List Turn) (h : k63.pre x) : V63 ly x := by
  have hb : x.length ≤ big := h
  simp only [big] at hb
  refine ⟨trivial, trivial, ?_, trivial, ?_⟩
  · simp only [Z.in64]; omega
  refine ⟨fun s => s.2.2 = false ∧ ∃ j : Nat, s.1 = (j : Int) - 1 ∧ j ≤ x.length ∧ backL x = s.2.1 ++ backL (x.take j), fun s => (s.1 + 1).toNat, ⟨rfl, x.length, rfl, Nat.le_refl _, by rw [List.take_length]; rfl⟩, ?_⟩
  rintro ⟨i, out, fl⟩ ⟨h0, j, h1, h2, h3⟩
  simp only at h0 h1 h3
  subst h0
  refine ⟨fun hi => ?_, fun hi _ => ?_⟩
  · have hi : 0 ≤ i := of_decide_eq_true hi
    obtain ⟨j, rfl⟩ : ∃ k, j = k + 1 := ⟨j - 1, by omega⟩
    have hij : i = (j : Int) := by omega
    subst hij
    rw [backL_succ x j (by omega)] at h3
    have e : x.getD (Int.toNat (j : Int)) (0, 0) = x.getD j (0, 0) := rfl
    refine ⟨trivial, trivial, trivial, trivial, ⟨hi, by show (j : Int) < _; omega⟩, trivial, ⟨rfl, rfl⟩, ⟨backL (x.take j), h3⟩, ⟨trivial, fun h => (by cases h), fun _ => ⟨?_, ⟨rfl, j, rfl, by omega, ?_⟩, ?_⟩⟩, trivial, fun _ h => (by cases h), fun h => (by cases h)⟩
    · simp only [Z.in64]; omega
    · show backL x = (out ++ [((j : Int), x.getD j (0, 0))]) ++ backL (x.take j)
      rw [h3, List.append_assoc]; rfl
    · show ((j : Int) - 1 + 1).toNat < ((j : Int) + 1).toNat
      omega
  · have hi : ¬ 0 ≤ i := of_decide_eq_false hi
    have : j = 0 := by omega
    subst this
    show out = backL x
    rw [h3]
    simp [backL]

/-! ### Stains -/
theorem turnD {l : List Hue} {plan : List Turn} (H : Plan l plan) (i : Nat) : 0 ≤ (plan.getD i (0, 0)).2 ∧ (plan.getD i (0, 0)).2 ≤ 2 := by
  by_cases h : i < plan.length
  · exact (H.turn _ (getD_mem plan (0, 0) i h)).2.2
  · have : plan.getD i (0, 0) = (0, 0) := by simp [List.getD, List.getElem?_eq_none (Nat.le_of_not_lt h)]
    rw [this]; decide
theorem wsum_bd {plan : List Turn} (H : ∀ i, 0 ≤ (plan.getD i (0, 0)).2 ∧ (plan.getD i (0, 0)).2 ≤ 2) : ∀ k a, 0 ≤ wsum plan a k ∧ wsum plan a k ≤ 2 * k
  | 0, a => by simp [wsum]
  | k + 1, a => by
    have h1 := wsum_bd H k (a + 1)
    have h2 := H (a + 1)
    simp only [wsum]
    omega
theorem mul_bd {a b A B : Int} (ha : 0 ≤ a ∧ a ≤ A) (hb : 0 ≤ b ∧ b ≤ B) : 0 ≤ a * b ∧ a * b ≤ A * B :=
  ⟨Int.mul_nonneg ha.1 hb.1, Int.mul_le_mul ha.2 hb.2 hb.1 (by omega)⟩
/-- An end's own numbers. -/
structure EndOk (m : Mill) (l : List Hue) (x : End) : Prop where
  d : ∀ h ∈ l, x.1.pre h ∧ 0 ≤ x.1.val h ∧ x.1.val h ≤ 10000
  r : x.2.1.pre m.1 ∧ 0 ≤ x.2.1.val m.1 ∧ x.2.1.val m.1 ≤ 10000
  w : x.2.2.pre m.2.1 ∧ 0 ≤ x.2.2.val m.2.1 ∧ x.2.2.val m.2.1 ≤ 10000
theorem end_ok {m : Mill} {l : List Hue} (H : Valid m l) {x : End} (hx : x = endLo ∨ x = endHi) : EndOk m l x := by
  have hr := H.run
  have hw := H.wash
  rcases hx with rfl | rfl
  · refine ⟨fun h hh => ⟨trivial, ?_⟩, ⟨trivial, ?_⟩, trivial, ?_⟩
    · have := H.hue h hh; show 0 ≤ h.1.1 ∧ h.1.1 ≤ 10000; omega
    · show 0 ≤ m.1.2 ∧ m.1.2 ≤ 10000; omega
    · show 0 ≤ m.2.1.2 ∧ m.2.1.2 ≤ 10000; omega
  · refine ⟨fun h hh => ⟨trivial, ?_⟩, ⟨trivial, ?_⟩, trivial, ?_⟩
    · have := H.hue h hh; show 0 ≤ h.1.2 ∧ h.1.2 ≤ 10000; omega
    · show 0 ≤ m.1.1 ∧ m.1.1 ≤ 10000; omega
    · show 0 ≤ m.2.1.1 ∧ m.2.1.1 ≤ 10000; omega
theorem v34 (x : End × Mill × (List Hue) × (List Turn) × Int) (hp : k34.pre x) : V34 x := by
  obtain ⟨en, m, l, plan, at0⟩ := x
  obtain ⟨he, hv, hpl, h0, h1⟩ : (en = endLo ∨ en = endHi) ∧ validB m l = true ∧ planB l plan = true ∧ 0 ≤ at0 ∧ at0 < (plan.length : Int) := hp
  have HV := valid_iff.1 hv
  have HP := plan_iff.1 hpl
  have HE := end_ok HV he
  obtain ⟨n, rfl⟩ : ∃ n : Nat, at0 = (n : Int) := ⟨at0.toNat, by omega⟩
  have hn : n < plan.length := by omega
  have hlen := HP.len
  refine ⟨⟨⟨h0, Int.le_refl _⟩, roomy_of (by omega) (by omega) (show (n : Int) ≤ _ by omega)⟩, ⟨h0, show (n : Int) ≤ (plan.length : Int) by omega⟩, trivial, ?_, ?_⟩
  · show (plan.take n).length ≤ big
    rw [List.length_take]; simp only [big]; omega
  refine ⟨fun r s => ∃ j : Nat, j ≤ n ∧ r = backL (plan.take j) ∧ s.1.length = n ∧ (∀ k : Nat, j ≤ k → k < n → s.1[k]? = some (stv en.1.val (en.2.1.val m.1) (en.2.2.val m.2.1) l plan k n)) ∧ s.2 = en.2.2.val m.2.1 * wsum plan j (n - j) + en.2.1.val m.1 * ((n : Int) - j),
    ⟨n, Nat.le_refl _, rfl, by show (List.replicate n (0 : Int)).length = n; simp, fun k _ _ => (by omega), by simp [wsum]⟩, ?_, ?_⟩
  · rintro e r ⟨out, gone⟩ ⟨j, hj, hr, hol, hk, hg⟩
    simp only at hol hk hg
    cases j with
    | zero => simp [backL] at hr
    | succ j =>
    rw [backL_succ plan j (by omega)] at hr
    obtain ⟨rfl, rfl⟩ := List.cons.inj hr
    have e1 : Int.toNat ((j : Int) + 1) = j + 1 := by omega
    have hb1 := turnD HP (j + 1)
    have hws := wsum_bd (turnD HP) (n - j) j
    have hws1 := wsum_bd (turnD HP) (n - (j + 1)) (j + 1)
    have hwst : wsum plan j (n - j) = (plan.getD (j + 1) (0, 0)).2 + wsum plan (j + 1) (n - (j + 1)) := by
      rw [show n - j = (n - (j + 1)) + 1 by omega]; rfl
    have hturn := HP.turn _ (getD_mem plan (0, 0) j (by omega))
    have hd := HE.d _ (getD_mem' l ((0, 0), 0, 0) (plan.getD j (0, 0)).1 hturn.1 hturn.2.1)
    have q1 := mul_bd HE.w.2 hb1
    have q2 : 0 ≤ en.2.2.val m.2.1 * wsum plan (j + 1) (n - (j + 1)) ∧ en.2.2.val m.2.1 * wsum plan (j + 1) (n - (j + 1)) ≤ 10000 * 24 := mul_bd HE.w.2 ⟨hws1.1, by omega⟩
    have q3 : 0 ≤ en.2.1.val m.1 * ((n : Int) - ((j + 1 : Nat) : Int)) ∧ en.2.1.val m.1 * ((n : Int) - ((j + 1 : Nat) : Int)) ≤ 10000 * 12 := mul_bd HE.r.2 ⟨by omega, by omega⟩
    have hg' : gone + en.2.2.val m.2.1 * (plan.getD (j + 1) (0, 0)).2 = en.2.2.val m.2.1 * wsum plan j (n - j) + en.2.1.val m.1 * ((n : Int) - 1 - j) := by
      rw [hg, hwst, Int.mul_add, show ((n : Int) - 1 - j) = (n : Int) - ((j + 1 : Nat) : Int) by omega]
      omega
    have hr1 := HE.r.2
    refine ⟨HE.w.1, ?_, ⟨?_, ?_⟩, ?_, ?_, ⟨?_, ?_⟩, ⟨hturn.1, hturn.2.1⟩, hd.1, ?_, ⟨?_, ?_⟩, HE.r.1, ?_, trivial, ⟨j, by omega, rfl, ?_, ?_, ?_⟩⟩
    · simp only [Z.in64]; omega
    · show 0 ≤ (j : Int) + 1; omega
    · show (j : Int) + 1 < (plan.length : Int); omega
    · show Z.in64 (en.2.2.val m.2.1 * (plan.getD (Int.toNat ((j : Int) + 1)) (0, 0)).2)
      rw [e1]; simp only [Z.in64]; omega
    · show Z.in64 (gone + en.2.2.val m.2.1 * (plan.getD (Int.toNat ((j : Int) + 1)) (0, 0)).2)
      rw [e1]; simp only [Z.in64]; omega
    · show 0 ≤ (j : Int); omega
    · show (j : Int) < (plan.length : Int); omega
    · show Z.in64 (en.1.val (l.getD (Int.toNat (plan.getD j (0, 0)).1) ((0, 0), 0, 0)) - (gone + en.2.2.val m.2.1 * (plan.getD (Int.toNat ((j : Int) + 1)) (0, 0)).2))
      rw [e1]; simp only [Z.in64]; omega
    · show 0 ≤ (j : Int); omega
    · show (j : Int) < (out.length : Int); omega
    · show Z.in64 (gone + en.2.2.val m.2.1 * (plan.getD (Int.toNat ((j : Int) + 1)) (0, 0)).2 + en.2.1.val m.1)
      rw [e1]; simp only [Z.in64]; omega
    · show (out.set _ _).length = n
      rw [List.length_set]; exact hol
    · intro k hk1 hk2
      show (out.set j _)[k]? = _
      rw [List.getElem?_set]
      by_cases hjk : j = k
      · subst hjk
        rw [if_pos rfl, if_pos (by omega)]
        congr 1
        show en.1.val (l.getD (Int.toNat (plan.getD j (0, 0)).1) ((0, 0), 0, 0)) - (gone + en.2.2.val m.2.1 * (plan.getD (Int.toNat ((j : Int) + 1)) (0, 0)).2) = _
        rw [e1, hg']
        rfl
      · rw [if_neg hjk]
        exact hk k (by omega) hk2
    · show gone + en.2.2.val m.2.1 * (plan.getD (Int.toNat ((j : Int) + 1)) (0, 0)).2 + en.2.1.val m.1 = _
      rw [e1, hg', show ((n : Int) - j) = ((n : Int) - 1 - j) + 1 by omega, Int.mul_add, Int.mul_one]
      omega
  · rintro ⟨out, gone⟩ ⟨j, hj, hr, hol, hk, hg⟩
    cases j with
    | succ j => rw [backL_succ plan j (by omega)] at hr; cases hr
    | zero =>
    show out = (List.range n).map fun i => stv en.1.val (en.2.1.val m.1) (en.2.2.val m.2.1) l plan i n
    apply List.ext_getElem?
    intro k
    by_cases hkn : k < n
    · rw [hk k (Nat.zero_le _) hkn, List.getElem?_map, List.getElem?_range hkn]; rfl
    · rw [List.getElem?_eq_none (by simp only at hol; omega), List.getElem?_eq_none (by rw [List.length_map, List.length_range]; omega)]
end Go.Hue
