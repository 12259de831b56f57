/-
  Chapter 13: the conditions, proved; second part: Coal, Follow, the feeds, the best plan.
-/
import Derived.Test.YtpdnhclkelgecaaFuelD1
set_option linter.all false


set_option maxRecDepth 100000
namespace Go.Fuel
open Go Go.Sx

/-- How much dust there is, and what it costs to cart the rest away. -/
theorem stored_bd {b : Burn} (B : OkB b) {left made : Int} (h1 : 0 ≤ left ∧ left ≤ 60) (h2 : 0 ≤ made ∧ made ≤ 40) :
    (0 ≤ haveV b left made ∧ haveV b left made ≤ 60 ∧ haveV b left made ≤ b.2.2.1 ∧ haveV b left made ≤ left + made) ∧ 0 ≤ cartV b left made ∧ cartV b left made ≤ 1000000 := by
  have hr := B.room
  have hh : 0 ≤ haveV b left made ∧ haveV b left made ≤ 60 ∧ haveV b left made ≤ b.2.2.1 ∧ haveV b left made ≤ left + made := by unfold haveV; omega
  have q := mul_bd (a := b.2.2.2.2) (A := 10000) B.cart (b := left + made - haveV b left made) (B := 100) ⟨by omega, by omega⟩
  refine ⟨hh, ?_⟩
  unfold cartV; omega
theorem v22 (x : Burn × Int × Int) (hp : k22.pre x) : V22 x := by
  obtain ⟨b, left, made⟩ := x
  obtain ⟨h1, h2, h3⟩ : burnB b = true ∧ inB left 0 60 = true ∧ inB made 0 40 = true := hp
  rw [inB_iff] at h2 h3
  have q := stored_bd (burn_iff.1 h1) h2 h3
  have e : cartV b left made = b.2.2.2.2 * (left + made - min b.2.2.1 (left + made)) := rfl
  have e2 : haveV b left made = min b.2.2.1 (left + made) := rfl
  refine ⟨?_, ?_, ?_, ?_, rfl⟩
  · show Z.in64 (left + made); simp only [Z.in64]; omega
  · show Z.in64 (left + made); simp only [Z.in64]; omega
  · show Z.in64 (left + made - min b.2.2.1 (left + made)); rw [← e2]; simp only [Z.in64]; omega
  · show Z.in64 (b.2.2.2.2 * (left + made - min b.2.2.1 (left + made))); rw [← e]; simp only [Z.in64]; omega
theorem follow_ok {b : Burn} {l : List Load} (plan : List Feed) (h : burnB b = true) (h2 : loadsB l = true) : followV b l plan = followGo b plan l 0 0 0 [] := by
  rw [followV, h, h2]; rfl
theorem v23 (x : Burn × Span × Int) (_ : k23.pre x) : V23 x := rfl
theorem v24 (x : List Feed) (h : k24.pre x) : V24 x := by
  have hb : x.length ≤ big := h
  simp only [big] at hb
  refine ⟨trivial, fun hx => ⟨fun _ => hx.symm, fun h => (by cases h)⟩, fun h => (by cases h), fun _ => ⟨roomy_of (by omega) (by omega) ?_, rfl⟩⟩
  show ((List.replicate 0 ((0 : Int), (0 : Int)) ++ x).length : Int) ≤ _
  simp only [List.replicate_zero, List.nil_append]
  omega
theorem feeds_eq (b : Burn) (need : Span) (h : Int) : feedsV b need h = (List.range' 0 (h + 1).toNat).flatMap (feedsAt b need) := by rw [feedsV, List.range_eq_range']
theorem flat_range {α : Type} (f : Nat → List α) (h n : Nat) : (List.range' h (n + 1)).flatMap f = f h ++ (List.range' (h + 1) n).flatMap f := by
  rw [List.range'_succ, List.flatMap_cons]
theorem v37 (ly : Nat) (x : Int × Burn × Span) (hp : k37.pre x) : V37 ly x := by
  obtain ⟨h0, b, need⟩ := x
  obtain ⟨hb, hn, hh⟩ : burnB b = true ∧ spanB need 0 100000 = true ∧ inB h0 0 60 = true := hp
  rw [inB_iff] at hh
  obtain ⟨n, rfl⟩ : ∃ n : Nat, h0 = (n : Int) := ⟨h0.toNat, by omega⟩
  obtain ⟨N, hN⟩ : ∃ N, N = feedsV b need (n : Int) := ⟨_, rfl⟩
  have hN' : dust_kiln_feeds_1 ((n : Int), b, need) = N := hN.symm
  have hn1 : ((n : Int) + 1).toNat = n + 1 := by omega
  refine ⟨by show Z.in64 ((n : Int) + 1); simp only [Z.in64]; omega, fun s => s.2.2 = false ∧ ∃ d : Nat, s.1 = (d : Int) ∧ d ≤ n + 1 ∧ N = s.2.1 ++ (List.range' d (n + 1 - d)).flatMap (feedsAt b need), fun s => ((n : Int) + 1 - s.1).toNat, ⟨rfl, 0, rfl, by omega, by rw [hN, feeds_eq, hn1]; rfl⟩, ?_⟩
  rintro ⟨d0, out, fl⟩ ⟨g0, d, g1, g2, g3⟩
  simp only at g0 g1 g3
  subst g0 g1
  refine ⟨fun hd => ?_, fun hd _ => ?_⟩
  · have hd : (d : Int) < (n : Int) + 1 := of_decide_eq_true hd
    rw [show n + 1 - d = (n + 1 - (d + 1)) + 1 by omega, flat_range] at g3
    have e : dust_kiln_coal (b, need, (d : Int)) = (coalS b need (d : Int), coalB b need (d : Int)) := rfl
    dsimp only
    rw [e, hN']
    refine ⟨trivial, trivial, trivial, ⟨hb, hn, inB_iff.2 (by show 0 ≤ (d : Int) ∧ (d : Int) ≤ 60; omega)⟩, trivial, trivial, trivial, trivial, trivial, trivial, fun hc => ?_, fun hc => ?_⟩
    · have hc : coalB b need (d : Int) = false := not_iff.1.1 hc
      rw [feedsAt, hc, cond_false, List.nil_append] at g3
      refine ⟨by simp only [Z.in64]; omega, ⟨rfl, d + 1, by show (d : Int) + 1 = ((d + 1 : Nat) : Int); omega, by omega, g3⟩, by show ((n : Int) + 1 - ((d : Int) + 1)).toNat < ((n : Int) + 1 - (d : Int)).toNat; omega⟩
    · have hc : coalB b need (d : Int) = true := not_iff.2.1 hc
      rw [feedsAt, hc, cond_true] at g3
      refine ⟨trivial, trivial, trivial, trivial, trivial, ⟨rfl, rfl⟩, ⟨_, g3⟩, ⟨trivial, fun h => (by cases h), fun _ => ⟨by simp only [Z.in64]; omega, ⟨rfl, d + 1, by show (d : Int) + 1 = ((d + 1 : Nat) : Int); omega, by omega, ?_⟩, ?_⟩⟩, trivial, fun _ h => (by cases h), fun h => (by cases h)⟩
      · rw [g3]; simp
      · show ((n : Int) + 1 - ((d : Int) + 1)).toNat < ((n : Int) + 1 - (d : Int)).toNat; omega
  · have hd : ¬ (d : Int) < (n : Int) + 1 := of_decide_eq_false hd
    show out = dust_kiln_feeds_1 _
    rw [hN', g3, show n + 1 - d = 0 by omega]; simp
end Go.Fuel
