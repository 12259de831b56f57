/-
  Chapter 13: the conditions, proved; second part: Coal, Follow, the feeds, the best plan.
-/
import Derived.Test.YtmbaggjpbjpljaaDustP1
set_option linter.all false


set_option maxRecDepth 100000
namespace Go.Dust
open Go Go.Sx

theorem v12 (x : Burn × Span × Int) (_ : k12.pre x) : V12 x := by
  obtain ⟨b, need, d⟩ := x
  have e : dust_Coal (b, need, d) = coalV b need d := rfl
  refine ⟨trivial, fun h => ?_, fun h => ⟨trivial, fun _ => trivial, fun h2 => ?_, fun h2 => ⟨⟨not_iff.2.1 h, ?_, ?_⟩, fun h3 => ?_, fun h3 => ?_⟩⟩⟩
  · rw [e, coalV, show (!burnB b) = true from h]; rfl
  · rw [e, coalV, show (!burnB b) = false from h, show (!spanB need 0 100000 || !inB d 0 60) = true from h2]; rfl
  · have h2 : (!spanB need 0 100000 || !inB d 0 60) = false := h2
    simp only [Bool.or_eq_false_iff, Bool.not_eq_false'] at h2
    exact h2.1
  · have h2 : (!spanB need 0 100000 || !inB d 0 60) = false := h2
    simp only [Bool.or_eq_false_iff, Bool.not_eq_false'] at h2
    exact h2.2
  · rw [e, coalV, show (!burnB b) = false from h, show (!spanB need 0 100000 || !inB d 0 60) = false from h2, show (!coalB b need d) = true from h3]; rfl
  · rw [e, coalV, show (!burnB b) = false from h, show (!spanB need 0 100000 || !inB d 0 60) = false from h2, show (!coalB b need d) = false from h3]; rfl
/-- How much dust there is, and what it costs to cart the rest away. -/
theorem stored_bd {b : Burn} (B : OkB b) {left made : Int} (h1 : 0 ≤ left ∧ left ≤ 60) (h2 : 0 ≤ made ∧ made ≤ 40) :
    (0 ≤ haveV b left made ∧ haveV b left made ≤ 60 ∧ haveV b left made ≤ b.2.2.1 ∧ haveV b left made ≤ left + made) ∧ 0 ≤ cartV b left made ∧ cartV b left made ≤ 1000000 := by
  have hr := B.room
  have hh : 0 ≤ haveV b left made ∧ haveV b left made ≤ 60 ∧ haveV b left made ≤ b.2.2.1 ∧ haveV b left made ≤ left + made := by unfold haveV; omega
  have q := mul_bd (a := b.2.2.2.2) (A := 10000) B.cart (b := left + made - haveV b left made) (B := 100) ⟨by omega, by omega⟩
  refine ⟨hh, ?_⟩
  unfold cartV; omega
theorem v38 (x : Burn × Int × Int) (hp : k38.pre x) : V38 x := by
  obtain ⟨b, left, made⟩ := x
  obtain ⟨h1, h2, h3⟩ : burnB b = true ∧ inB left 0 60 = true ∧ inB made 0 40 = true := hp
  rw [inB_iff] at h2 h3
  have q := stored_bd (burn_iff.1 h1) h2 h3
  have e : cartV b left made = b.2.2.2.2 * (left + made - min b.2.2.1 (left + made)) := rfl
  have e2 : haveV b left made = min b.2.2.1 (left + made) := rfl
  refine ⟨?_, ?_, ?_, ?_, rfl⟩
  · show Z.in64 (left + made); simp only [Z.in64]; omega
  · show Z.in64 (left + made); simp only [Z.in64]; omega
  · show Z.in64 (left + made - min b.2.2.1 (left + made)); rw [← e2]; simp only [Z.in64]; omega
  · show Z.in64 (b.2.2.2.2 * (left + made - min b.2.2.1 (left + made))); rw [← e]; simp only [Z.in64]; omega
theorem follow_ok {b : Burn} {l : List Load} (plan : List Feed) (h : burnB b = true) (h2 : loadsB l = true) : followV b l plan = followGo b plan l 0 0 0 [] := by
  rw [followV, h, h2]; rfl
theorem v14 (x : Burn × (List Load) × List Feed) (_ : k14.pre x) : V14 x := by
  obtain ⟨b, l, plan⟩ := x
  have e : dust_Follow (b, l, plan) = followV b l plan := rfl
  refine ⟨trivial, fun h => ?_, fun h => ⟨trivial, fun h2 => ?_, fun h2 => ?_⟩⟩
  · rw [e, followV, show (!burnB b) = true from h]; rfl
  · rw [e, followV, show (!burnB b) = false from h, show (!loadsB l) = true from h2]; rfl
  have hb : burnB b = true := not_iff.2.1 h
  have hl : loadsB l = true := not_iff.2.1 h2
  have B := burn_iff.1 hb
  have L := loads_iff.1 hl
  have hl8 := L.len
  rw [e, follow_ok plan hb hl]
  obtain ⟨R, hR⟩ : ∃ R, R = followGo b plan l 0 0 0 [] := ⟨_, rfl⟩
  rw [← hR]
  refine ⟨fun s => ∃ i : Nat, s.2.2.2 = (i : Int) ∧ i ≤ l.length ∧ R = followGo b plan (l.drop i) i s.2.2.1 s.2.1 s.1 ∧ (0 ≤ s.2.2.1 ∧ s.2.2.1 ≤ 60) ∧ (0 ≤ s.2.1 ∧ s.2.1 ≤ 3000000 * (i : Int)) ∧ s.1.length = i, fun s => ((l.length : Int) - s.2.2.2).toNat, ⟨0, rfl, Nat.zero_le _, hR, by simp, by simp, rfl⟩, ?_⟩
  rintro ⟨out, cost, have_, i0⟩ ⟨i, g1, g2, g3, g4, g5, g6⟩
  simp only at g1 g3 g4 g5 g6
  subst g1
  refine ⟨fun hi => ?_, fun hi => ?_⟩
  · have hi : (i : Int) < (l.length : Int) := of_decide_eq_true hi
    have hil : i < l.length := by omega
    obtain ⟨y, hy⟩ : ∃ y, y = l.getD i (0, 0, 0) := ⟨_, rfl⟩
    have hyl := L.load _ (getD_mem l (0, 0, 0) i hil)
    rw [← hy] at hyl
    rw [drop_getD l (0, 0, 0) i hil, ← hy] at g3
    have q := stored_bd B g4 hyl.1
    obtain ⟨f, hf⟩ : ∃ f, f = plan.getD i (0, 0) := ⟨_, rfl⟩
    obtain ⟨hv, hhv⟩ : ∃ a, a = haveV b have_ y.1 := ⟨_, rfl⟩
    obtain ⟨cv, hcv⟩ : ∃ a, a = cartV b have_ y.1 := ⟨_, rfl⟩
    simp only [followGo] at g3
    rw [← hf, ← hhv, ← hcv] at g3
    rw [← hhv, ← hcv] at q
    have e1 : dust_kiln_stored (b, have_, (l.getD (Int.toNat (i : Int)) (0, 0, 0)).1) = (hv, cv) := by
      show (haveV b have_ (l.getD i (0, 0, 0)).1, cartV b have_ (l.getD i (0, 0, 0)).1) = _
      rw [← hy, hhv, hcv]
    have e2 : dust_kiln_does (b, (plan.getD (Int.toNat (i : Int)) (0, 0)), (l.getD (Int.toNat (i : Int)) (0, 0, 0)).2) = doesB b f y.2 := by
      show doesB b (plan.getD i (0, 0)) (l.getD i (0, 0, 0)).2 = _
      rw [← hy, ← hf]
    have e3 : plan.getD (Int.toNat (i : Int)) (0, 0) = f := hf.symm
    dsimp only
    rw [e1, e2, e3]
    refine ⟨⟨by omega, hi⟩, fun h1 => ?_, fun h1 => ?_⟩
    · have h1 : (plan.length : Int) ≤ (i : Int) := of_decide_eq_true h1
      rw [g3, decide_eq_true (show plan.length ≤ i by omega)]; rfl
    have h1 : ¬ (plan.length : Int) ≤ (i : Int) := of_decide_eq_false h1
    rw [decide_eq_false (show ¬ plan.length ≤ i by omega), cond_false] at g3
    refine ⟨⟨by omega, by omega⟩, ⟨hb, inB_iff.2 g4, inB_iff.2 (by show 0 ≤ (l.getD i (0, 0, 0)).1 ∧ (l.getD i (0, 0, 0)).1 ≤ 40; rw [← hy]; exact hyl.1)⟩, trivial, fun h3 => ?_, fun h3 => ⟨fun h4 => ?_, fun h4 => ?_⟩⟩
    · rw [g3, show (!mayB f) = true from h3]; rfl
    · rw [g3, show (!mayB f) = false from h3, show decide (hv < f.1) = true from h4]; rfl
    have M := may_iff.1 (show mayB f = true from not_iff.2.1 h3)
    rw [show (!mayB f) = false from h3, show decide (hv < f.1) = false from h4, cond_false, cond_false] at g3
    have h4 : ¬ hv < f.1 := of_decide_eq_false h4
    refine ⟨⟨hb, not_iff.2.1 h3⟩, fun h5 => ?_, fun h5 => ?_⟩
    · rw [g3, show (!doesB b f y.2) = true from h5]; rfl
    rw [show (!doesB b f y.2) = false from h5, cond_false] at g3
    have qp := mul_bd (a := b.2.2.2.1) (A := 10000) B.price (b := f.2) (B := 200) M.2
    refine ⟨?_, ?_, ?_, ?_, ?_, ?_, rfl, ⟨i + 1, ?_, hil, ?_, ?_, ?_, ?_⟩, ?_⟩
    · show Z.in64 (hv - f.1); simp only [Z.in64]; omega
    · show Z.in64 (b.2.2.2.1 * f.2); simp only [Z.in64]; omega
    · show Z.in64 (cv + b.2.2.2.1 * f.2); simp only [Z.in64]; omega
    · show Z.in64 (cost + (cv + b.2.2.2.1 * f.2)); simp only [Z.in64]; omega
    · refine roomy_of (by omega) (by omega) ?_
      rw [List.length_append]; simp only [List.length_set, List.length_replicate]; omega
    · show Z.in64 ((i : Int) + 1); simp only [Z.in64]; omega
    · show (i : Int) + 1 = ((i + 1 : Nat) : Int); omega
    · rw [g3]; rfl
    · show 0 ≤ hv - f.1 ∧ hv - f.1 ≤ 60; omega
    · show 0 ≤ cost + (cv + b.2.2.2.1 * f.2) ∧ cost + (cv + b.2.2.2.1 * f.2) ≤ 3000000 * ((i + 1 : Nat) : Int); omega
    · rw [List.length_append]; simp only [List.length_set, List.length_replicate]; omega
    · show ((l.length : Int) - ((i : Int) + 1)).toNat < ((l.length : Int) - (i : Int)).toNat; omega
  · have hi : ¬ (i : Int) < (l.length : Int) := of_decide_eq_false hi
    have : i = l.length := by omega
    subst this
    rw [List.drop_length, followGo] at g3
    refine ⟨fun h1 => ?_, fun h1 => ?_⟩
    · have h1 : (l.length : Int) < (plan.length : Int) := of_decide_eq_true h1
      rw [g3, decide_eq_true (show l.length < plan.length by omega)]; rfl
    · have h1 : ¬ (l.length : Int) < (plan.length : Int) := of_decide_eq_false h1
      rw [g3, decide_eq_false (show ¬ l.length < plan.length by omega)]; rfl
theorem v41 (x : Burn × Span × Int) (_ : k41.pre x) : V41 x := rfl
theorem v42 (x : List Feed) (h : k42.pre x) : V42 x := by
  have hb : x.length ≤ big := h
  simp only [big] at hb
  refine ⟨trivial, fun hx => ⟨fun _ => hx.symm, fun h => (by cases h)⟩, fun h => (by cases h), fun _ => ⟨roomy_of (by omega) (by omega) ?_, rfl⟩⟩
  show ((List.replicate 0 ((0 : Int), (0 : Int)) ++ x).length : Int) ≤ _
  simp only [List.replicate_zero, List.nil_append]
  omega
theorem feeds_eq (b : Burn) (need : Span) (h : Int) : feedsV b need h = (List.range' 0 (h + 1).toNat).flatMap (feedsAt b need) := by rw [feedsV, List.range_eq_range']
theorem flat_range {α : Type} (f : Nat → List α) (h n : Nat) : (List.range' h (n + 1)).flatMap f = f h ++ (List.range' (h + 1) n).flatMap f := by
  rw [List.range'_succ, List.flatMap_cons]
theorem v49 (ly : Nat) (x : Int × Burn × Span) (hp : k49.pre x) : V49 ly x := by
  obtain ⟨h0, b, need⟩ := x
  obtain ⟨hb, hn, hh⟩ : burnB b = true ∧ spanB need 0 100000 = true ∧ inB h0 0 60 = true := hp
  rw [inB_iff] at hh
  obtain ⟨n, rfl⟩ : ∃ n : Nat, h0 = (n : Int) := ⟨h0.toNat, by omega⟩
  obtain ⟨N, hN⟩ : ∃ N, N = feedsV b need (n : Int) := ⟨_, rfl⟩
  have hN' : dust_kiln_feeds_1 ((n : Int), b, need) = N := hN.symm
  have hn1 : ((n : Int) + 1).toNat = n + 1 := by omega
  refine ⟨by show Z.in64 ((n : Int) + 1); simp only [Z.in64]; omega, fun s => s.2.2 = false ∧ ∃ d : Nat, s.1 = (d : Int) ∧ d ≤ n + 1 ∧ N = s.2.1 ++ (List.range' d (n + 1 - d)).flatMap (feedsAt b need), fun s => ((n : Int) + 1 - s.1).toNat, ⟨rfl, 0, rfl, by omega, by rw [hN, feeds_eq, hn1]; rfl⟩, ?_⟩
  rintro ⟨d0, out, fl⟩ ⟨g0, d, g1, g2, g3⟩
  simp only at g0 g1 g3
  subst g0 g1
  refine ⟨fun hd => ?_, fun hd _ => ?_⟩
  · have hd : (d : Int) < (n : Int) + 1 := of_decide_eq_true hd
    rw [show n + 1 - d = (n + 1 - (d + 1)) + 1 by omega, flat_range] at g3
    have e : dust_kiln_coal (b, need, (d : Int)) = (coalS b need (d : Int), coalB b need (d : Int)) := rfl
    dsimp only
    rw [e, hN']
    refine ⟨trivial, trivial, trivial, ⟨hb, hn, inB_iff.2 (by show 0 ≤ (d : Int) ∧ (d : Int) ≤ 60; omega)⟩, trivial, trivial, trivial, trivial, trivial, trivial, fun hc => ?_, fun hc => ?_⟩
    · have hc : coalB b need (d : Int) = false := not_iff.1.1 hc
      rw [feedsAt, hc, cond_false, List.nil_append] at g3
      refine ⟨by simp only [Z.in64]; omega, ⟨rfl, d + 1, by show (d : Int) + 1 = ((d + 1 : Nat) : Int); omega, by omega, g3⟩, by show ((n : Int) + 1 - ((d : Int) + 1)).toNat < ((n : Int) + 1 - (d : Int)).toNat; omega⟩
    · have hc : coalB b need (d : Int) = true := not_iff.2.1 hc
      rw [feedsAt, hc, cond_true] at g3
      refine ⟨trivial, trivial, trivial, trivial, trivial, ⟨rfl, rfl⟩, ⟨_, g3⟩, ⟨trivial, fun h => (by cases h), fun _ => ⟨by simp only [Z.in64]; omega, ⟨rfl, d + 1, by show (d : Int) + 1 = ((d + 1 : Nat) : Int); omega, by omega, ?_⟩, ?_⟩⟩, trivial, fun _ h => (by cases h), fun h => (by cases h)⟩
      · rw [g3]; simp
      · show ((n : Int) + 1 - ((d : Int) + 1)).toNat < ((n : Int) + 1 - (d : Int)).toNat; omega
  · have hd : ¬ (d : Int) < (n : Int) + 1 := of_decide_eq_false hd
    show out = dust_kiln_feeds_1 _
    rw [hN', g3, show n + 1 - d = 0 by omega]; simp
end Go.Dust
