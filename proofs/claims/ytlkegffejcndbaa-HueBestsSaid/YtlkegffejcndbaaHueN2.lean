/-
  Chapter 8: the document's own search for the best plan; the law HueBests.
-/
import Derived.Test.YtlkegffejcndbaaHueN1
set_option linter.all false


set_option maxRecDepth 100000
namespace Go.Hue
open Go Go.Sx

theorem tabs_ok3 : TabsOk Go.Proofs.Try.prog T3 := by
  refine ⟨by kernel_rfl, fun p hp => ?_⟩
  simp only [T3, List.mem_singleton] at hp
  subst hp
  exact tabs_ok.mty _ (by simp [T])
theorem v60 (x : (List Turn) × Int) (h : k60.pre x) : V60 x := by
  obtain ⟨l, a⟩ := x
  have hb : l.length ≤ big := h
  simp only [big] at hb
  refine ⟨fun s => 0 ≤ s ∧ s ≤ (l.length : Int) ∧ hasB l a = hasB (l.drop s.toNat) a, fun s => ((l.length : Int) - s).toNat, ⟨by omega, by omega, rfl⟩, ?_⟩
  rintro s ⟨h1, h2, h3⟩
  refine ⟨fun h => ?_, fun h => ?_⟩
  · have h : s < (l.length : Int) := of_decide_eq_true h
    have e := drop_getD' l (0, 0) s h1 h
    have e2 : hasB (l.drop s.toNat) a = (((l.getD s.toNat (0, 0)).1 == a) || hasB (l.drop (s + 1).toNat) a) := by rw [e]; simp [hasB]
    rw [e2] at h3
    refine ⟨⟨h1, h⟩, fun hv => ?_, fun hv => ⟨?_, ⟨by omega, by omega, ?_⟩, ?_⟩⟩
    · have hv : ((l.getD s.toNat (0, 0)).1 == a) = true := hv
      show true = hasB l a
      rw [h3, hv]; rfl
    · simp only [Z.in64]; omega
    · have hv : ((l.getD s.toNat (0, 0)).1 == a) = false := hv
      rw [h3, hv, Bool.false_or]
    · show ((l.length : Int) - (s + 1)).toNat < ((l.length : Int) - s).toNat; omega
  · have h : ¬ s < (l.length : Int) := of_decide_eq_false h
    show false = hasB l a
    rw [h3, List.drop_eq_nil_of_le (by omega)]; rfl
theorem v45 (x : Int × (List Turn) × List (List Turn)) (hp : k45.pre x) : V45 x := by
  obtain ⟨many, b, out⟩ := x
  obtain ⟨h1, h2, h3, h4⟩ : 0 ≤ many ∧ many ≤ 4 ∧ (b.length : Int) ≤ many ∧ out.length + 16 ^ (many.toNat - b.length) ≤ 1000000 := hp
  obtain ⟨n, rfl⟩ : ∃ n : Nat, many = (n : Int) := ⟨many.toNat, by omega⟩
  have h4 : out.length + 16 ^ (n - b.length) ≤ 1000000 := h4
  have hbb : b.length ≤ big := by simp only [big]; omega
  refine ⟨fun h => ?_, fun h => ?_⟩
  · have h : ((b.length : Int) == (n : Int)) = true := h
    have h := eq_of_beq h
    have e : n - b.length = 0 := by omega
    rw [e] at h4
    refine ⟨roomy_of (by omega) (by omega) ?_, ?_⟩
    · show ((out ++ ((List.replicate 1 []).set 0 b)).length : Int) ≤ _
      rw [List.length_append, List.length_set, List.length_replicate]
      omega
    · show out ++ [b] = out ++ plansFrom n (n - b.length) b
      rw [e]; rfl
  have h : ((b.length : Int) == (n : Int)) = false := h
  have hne : ¬ b.length = n := by
    intro e
    rw [e] at h; simp at h
  obtain ⟨f, hf⟩ : ∃ f, n - b.length = f + 1 := ⟨n - b.length - 1, by omega⟩
  obtain ⟨ch, hch⟩ : ∃ ch : Nat → List (List Turn), ch = fun (h : Nat) => cond (hasB b (h : Int)) [] ((List.range 3).flatMap fun (w : Nat) => plansFrom n f (b ++ [((h : Int), (w : Int))])) := ⟨_, rfl⟩
  have hval : ref08u_plans ((n : Int), b, out) = out ++ (List.range n).flatMap ch := by
    show out ++ plansFrom n (n - b.length) b = _
    rw [hf, hch]; rfl
  have c16 := Nat.pow_succ 16 f
  rw [hf, c16] at h4
  have hchl : ∀ h, (ch h).length ≤ 3 * 16 ^ f := by
    intro h
    rw [hch]
    simp only
    cases hasB b (h : Int) with
    | true => simp
    | false =>
      have := flatMap_len (fun (w : Nat) => plansFrom n f (b ++ [((h : Int), (w : Int))])) (16 ^ f) (List.range 3) fun w _ => plans_len (by omega) f _
      rw [List.length_range] at this
      exact this
  have hfl : ∀ i, i ≤ n → ((List.range i).flatMap ch).length ≤ i * (3 * 16 ^ f) := fun i _ => by
    have := flatMap_len ch (3 * 16 ^ f) (List.range i) fun h _ => hchl h
    rw [List.length_range] at this
    exact this
  refine ⟨fun s => ∃ i : Nat, s.2 = (i : Int) ∧ i ≤ n ∧ s.1 = out ++ (List.range i).flatMap ch, fun s => ((n : Int) - s.2).toNat, ⟨0, rfl, Nat.zero_le _, by show out = out ++ []; rw [List.append_nil]⟩, ?_⟩
  rintro ⟨o, i0⟩ ⟨i, hi, hil, ho⟩
  simp only at hi ho
  subst hi ho
  refine ⟨fun h => ?_, fun h => ?_⟩
  · have h : (i : Int) < (n : Int) := of_decide_eq_true h
    have hli := hfl i hil
    have hi3 : i * (3 * 16 ^ f) ≤ 3 * (3 * 16 ^ f) := Nat.mul_le_mul_right _ (by omega)
    refine ⟨fun s => ∃ w : Nat, s.2 = (w : Int) ∧ w ≤ 3 ∧ (w ≠ 0 → hasB b (i : Int) = false) ∧ s.1 = (out ++ (List.range i).flatMap ch) ++ ((List.range w).flatMap fun (w : Nat) => plansFrom n f (b ++ [((i : Int), (w : Int))])), fun s => (3 - s.2).toNat, ⟨0, rfl, by omega, fun h => absurd rfl h, by show _ = _ ++ []; rw [List.append_nil]⟩, ?_⟩
    rintro ⟨o, w0⟩ ⟨w, hw, hw3, hwb, ho⟩
    simp only at hw ho
    subst hw ho
    have hlw := flatMap_len (fun (w : Nat) => plansFrom n f (b ++ [((i : Int), (w : Int))])) (16 ^ f) (List.range w) fun w _ => plans_len (by omega) f _
    rw [List.length_range] at hlw
    refine ⟨fun _ => hbb, fun hc => ?_, fun hc => ?_⟩
    · have hc : (decide ((w : Int) ≤ 2) && (!hasB b (i : Int))) = true := hc
      rw [Bool.and_eq_true, decide_eq_true_eq] at hc
      have hnb := not_iff.1.1 hc.2
      have hw2 : w * 16 ^ f ≤ 2 * 16 ^ f := Nat.mul_le_mul_right _ (by omega)
      have hfb : n - (b ++ [((i : Int), (w : Int))]).length = f := by rw [List.length_append, List.length_singleton]; omega
      have hrec : ref08u_plans ((n : Int), b ++ [((i : Int), (w : Int))], (out ++ (List.range i).flatMap ch) ++ ((List.range w).flatMap fun (w : Nat) => plansFrom n f (b ++ [((i : Int), (w : Int))]))) = ((out ++ (List.range i).flatMap ch) ++ ((List.range w).flatMap fun (w : Nat) => plansFrom n f (b ++ [((i : Int), (w : Int))]))) ++ plansFrom n f (b ++ [((i : Int), (w : Int))]) := by
        show _ ++ plansFrom n (n - (b ++ [((i : Int), (w : Int))]).length) _ = _
        rw [hfb]
      refine ⟨roomy_of (by omega) (by omega) ?_, roomy_of (by omega) (by omega) ?_, ⟨⟨⟨h1, h2, ?_, ?_⟩, ?_⟩, trivial, trivial⟩, by simp only [Z.in64]; omega, ⟨w + 1, by show (w : Int) + 1 = ((w + 1 : Nat) : Int); omega, by omega, fun _ => hnb, ?_⟩, ?_⟩
      · show ((List.replicate 0 ((0 : Int), (0 : Int)) ++ b).length : Int) ≤ _
        rw [List.length_append, List.length_replicate]; omega
      · show ((List.replicate 0 ((0 : Int), (0 : Int)) ++ b ++ ((List.replicate 1 ((0 : Int), (0 : Int))).set 0 ((i : Int), (w : Int)))).length : Int) ≤ _
        rw [List.length_append, List.length_append, List.length_set, List.length_replicate, List.length_replicate]; omega
      · show ((b ++ [((i : Int), (w : Int))]).length : Int) ≤ (n : Int)
        rw [List.length_append, List.length_singleton]; omega
      · show ((out ++ (List.range i).flatMap ch) ++ ((List.range w).flatMap fun (w : Nat) => plansFrom n f (b ++ [((i : Int), (w : Int))]))).length + 16 ^ (n - (b ++ [((i : Int), (w : Int))]).length) ≤ 1000000
        rw [hfb, List.length_append, List.length_append]
        omega
      · show n - (b ++ [((i : Int), (w : Int))]).length < n - b.length
        rw [hfb]; omega
      · show ref08u_plans ((n : Int), b ++ [((i : Int), (w : Int))], _) = _
        rw [hrec, List.append_assoc, List.range_succ, List.flatMap_append]
        simp only [List.flatMap_cons, List.flatMap_nil, List.append_nil]
      · show (3 - ((w : Int) + 1)).toNat < (3 - (w : Int)).toNat; omega
    · have hc : (decide ((w : Int) ≤ 2) && (!hasB b (i : Int))) = false := hc
      refine ⟨by simp only [Z.in64]; omega, ⟨i + 1, by show (i : Int) + 1 = ((i + 1 : Nat) : Int); omega, by omega, ?_⟩, ?_⟩
      · show (out ++ (List.range i).flatMap ch) ++ ((List.range w).flatMap fun (w : Nat) => plansFrom n f (b ++ [((i : Int), (w : Int))])) = out ++ (List.range (i + 1)).flatMap ch
        rw [List.range_succ, List.flatMap_append, List.append_assoc]
        congr 2
        rw [List.flatMap_cons, List.flatMap_nil, List.append_nil, hch]
        simp only
        cases hb : hasB b (i : Int) with
        | true =>
          have : w = 0 := by
            by_cases hw0 : w = 0
            · exact hw0
            · have := hwb hw0; rw [hb] at this; cases this
          subst this
          rfl
        | false =>
          rw [hb] at hc
          have : w = 3 := by
            have : ¬ (w : Int) ≤ 2 := by simpa using hc
            omega
          subst this
          rfl
      · show ((n : Int) - ((i : Int) + 1)).toNat < ((n : Int) - (i : Int)).toNat; omega
  · have h : ¬ (i : Int) < (n : Int) := of_decide_eq_false h
    have : i = n := by omega
    subst this
    exact hval.symm
theorem v46 (x : Mill × (List Hue) × List Turn) (hp : k46.pre x) : V46 x := by
  obtain ⟨m, l, plan⟩ := x
  obtain ⟨hv, hpl⟩ : validB m l = true ∧ planB l plan = true := hp
  have H := valid_iff.1 hv
  have HP := plan_iff.1 hpl
  have hlen := HP.len
  refine ⟨fun s => ∃ i : Nat, s.2 = (i : Int) ∧ i ≤ plan.length ∧ s.1 = costGo m l plan i, fun s => ((plan.length : Int) - s.2).toNat, ⟨0, rfl, Nat.zero_le _, rfl⟩, ?_⟩
  rintro ⟨n, i0⟩ ⟨i, hi, hil, hn⟩
  simp only at hi hn
  subst hi hn
  refine ⟨fun h => ?_, fun h => ?_⟩
  · have h : (i : Int) < (plan.length : Int) := of_decide_eq_true h
    have b1 := costD_bd H hpl i hil
    rw [← costGo_eq H hpl] at b1
    have b3 := inS_bd H hpl (i := i) (by omega)
    have b4 := turnD HP i
    have q := mul_bd (a := m.2.2) (A := 10000) H.price b4
    refine ⟨⟨by show 0 ≤ (i : Int); omega, h⟩, ?_, ?_, ⟨hv, hpl, by show 0 ≤ (i : Int); omega, h⟩, ?_, by simp only [Z.in64]; omega, ⟨i + 1, by show (i : Int) + 1 = ((i + 1 : Nat) : Int); omega, by omega, ?_⟩, ?_⟩
    · show Z.in64 (m.2.2 * (plan.getD i (0, 0)).2)
      simp only [Z.in64]; omega
    · show Z.in64 (costGo m l plan i + m.2.2 * (plan.getD i (0, 0)).2)
      simp only [Z.in64]; omega
    · show Z.in64 (costGo m l plan i + m.2.2 * (plan.getD i (0, 0)).2 + (inS m l plan i).2)
      simp only [Z.in64]; omega
    · show costGo m l plan i + m.2.2 * (plan.getD i (0, 0)).2 + (inS m l plan i).2 = costGo m l plan i + (inS m l plan i).2 + m.2.2 * (plan.getD i (0, 0)).2
      omega
    · show ((plan.length : Int) - ((i : Int) + 1)).toNat < ((plan.length : Int) - (i : Int)).toNat; omega
  · have h : ¬ (i : Int) < (plan.length : Int) := of_decide_eq_false h
    have : i = plan.length := by omega
    subst this
    rfl
theorem v4 (x : Mill × List Hue) (_ : k4.pre x) : V4 x := by
  obtain ⟨m, l⟩ := x
  refine ⟨trivial, fun _ => ⟨trivial, rfl⟩, fun h => ?_⟩
  have h : law08u_large (l, 4) = false := h
  simp only [law08u_large, Bool.or_eq_false_iff, Bool.and_eq_false_iff, decide_eq_false_iff_not] at h
  have hv6 : validB m l = true → l.length ≤ 6 := fun hv => (valid_iff.1 hv).len
  have hpl : (bestOut m l).1.length ≤ big := by
    cases hv : validB m l with
    | false => rw [bestOut, hv]; simp
    | true =>
      have := (plan_iff.1 (best_ok' hv)).len
      exact Nat.le_trans this (by decide)
  refine ⟨trivial, ⟨by show l.length ≤ 12; omega, fun hv => ?_⟩, hpl, fun _ => trivial, ?_⟩
  · have := hv6 hv
    show l.length ≤ 4
    omega
  · show ((((decide ((bestOut m l).1 = (bestOut m l).1)) && ((bestOut m l).2.1 == (bestOut m l).2.1)) && ((bestOut m l).2.2 == (bestOut m l).2.2)) && true) = true
    simp
where best_ok' {m : Mill} {l : List Hue} (hv : validB m l = true) : planB l (bestOut m l).1 = true := by
        have H := valid_iff.1 hv
        rcases best_all hv with ⟨h, _⟩ | ⟨_, h, _⟩
        · rw [h]; exact plan_iff.2 ⟨by simp, fun t ht => (by cases ht)⟩
        · exact h.plan H.len
end Go.Hue
