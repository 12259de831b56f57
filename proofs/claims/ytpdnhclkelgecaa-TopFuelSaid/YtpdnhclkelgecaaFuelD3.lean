/-
  Chapter 13: the conditions, proved; third part: the closure that knows what it found; the best plan.
-/
import Derived.Test.YtpdnhclkelgecaaFuelD2
set_option linter.all false


set_option maxRecDepth 100000
namespace Go.Fuel
open Go Go.Sx

/-- The feeds that do, one by one. -/
theorem feeds_mem {b : Burn} {need : Span} {h : Int} {e : Feed} (he : e ∈ feedsV b need h) :
    ∃ d : Nat, e.1 = (d : Int) ∧ (d : Int) ≤ h ∧ coalB b need (d : Int) = true ∧ e.2 = (coalS b need (d : Int)).1 := by
  simp only [feedsV, List.mem_flatMap, List.mem_range] at he
  obtain ⟨d, hd, he⟩ := he
  unfold feedsAt at he
  cases hc : coalB b need (d : Int) with
  | false => rw [hc] at he; cases he
  | true =>
    rw [hc, cond_true, List.mem_singleton] at he
    subst he
    exact ⟨d, rfl, by omega, hc, rfl⟩
theorem coal_bd {b : Burn} {need : Span} {d : Int} (h : coalB b need d = true) : 0 ≤ (coalS b need d).1 ∧ (coalS b need d).1 ≤ (coalS b need d).2 ∧ (coalS b need d).2 ≤ 200 := by
  have h := of_decide_eq_true h
  have h1 : (coalS b need d).1 = max 0 (upV (need.1 - d * b.1.1) b.2.1.1) := rfl
  have h2 : (coalS b need d).2 = min 200 (downV (need.2 - d * b.1.2) b.2.1.2) := rfl
  omega
/-- Of a best plan: how long it is, and what it costs. -/
theorem best_bd {b : Burn} (B : OkB b) : ∀ (l : List Load) (left : Int), (∀ x ∈ l, 0 ≤ x.1 ∧ x.1 ≤ 40) → 0 ≤ left ∧ left ≤ 60 →
    0 ≤ (bestG b l left).2.1 ∧ (bestG b l left).2.1 ≤ 3000000 * (l.length : Int) ∧ (bestG b l left).1.length ≤ l.length
  | [], _, _, _ => by simp [bestG]
  | x :: l, left, hl, hs => by
    have hx := hl x List.mem_cons_self
    have q := stored_bd B hs hx
    obtain ⟨hv, hhv⟩ : ∃ a, a = haveV b left x.1 := ⟨_, rfl⟩
    obtain ⟨cv, hcv⟩ : ∃ a, a = cartV b left x.1 := ⟨_, rfl⟩
    rw [← hhv, ← hcv] at q
    have key : ∀ (es : List Feed) (r : Rest), (∀ e ∈ es, e ∈ feedsV b x.2 hv) → (0 ≤ r.2.1 ∧ r.2.1 ≤ 3000000 * ((l.length : Int) + 1) ∧ r.1.length ≤ l.length + 1) →
        0 ≤ (es.foldl (better b (bestG b l) hv cv) r).2.1 ∧ (es.foldl (better b (bestG b l) hv cv) r).2.1 ≤ 3000000 * ((l.length : Int) + 1) ∧ (es.foldl (better b (bestG b l) hv cv) r).1.length ≤ l.length + 1 := by
      intro es
      induction es with
      | nil => intro r _ hr; exact hr
      | cons e es ih =>
        intro r hes hr
        rw [List.foldl_cons]
        refine ih _ (fun e' he' => hes e' (List.mem_cons_of_mem _ he')) ?_
        obtain ⟨d, e1, e2, e3, e4⟩ := feeds_mem (hes e List.mem_cons_self)
        have cb := coal_bd e3
        have q2 := mul_bd (a := b.2.2.2.1) (A := 10000) B.price (b := e.2) (B := 200) ⟨by omega, by omega⟩
        have q3 := best_bd B l (hv - e.1) (fun y hy => hl y (List.mem_cons_of_mem _ hy)) ⟨by omega, by omega⟩
        unfold better
        simp only
        cases ((bestG b l (hv - e.1)).2.2 && (!r.2.2 || decide ((bestG b l (hv - e.1)).2.1 + cv + b.2.2.2.1 * e.2 < r.2.1))) with
        | false => exact hr
        | true =>
          rw [cond_true]
          simp only [List.length_cons]
          omega
    have := key (feedsV b x.2 hv) ([], 0, false) (fun _ h => h) ⟨by simp, by simp; omega, by simp⟩
    have e : bestG b (x :: l) left = (feedsV b x.2 hv).foldl (better b (bestG b l) hv cv) ([], 0, false) := by rw [bestG, hhv, hcv]
    rw [e, List.length_cons]
    omega
theorem v21 (x : (List Int) × (List Load) × Burn) (hp : k21.pre x) : V21 x := by
  obtain ⟨at_, l, b⟩ := x
  obtain ⟨hb, hl, hlen, h1, h2, h3, h4⟩ : burnB b = true ∧ loadsB l = true ∧ at_.length = 2 ∧ 0 ≤ at_.getD 0 0 ∧ at_.getD 0 0 ≤ (l.length : Int) ∧ 0 ≤ at_.getD 1 0 ∧ at_.getD 1 0 ≤ 60 := hp
  have B := burn_iff.1 hb
  have L := loads_iff.1 hl
  have hl8 := L.len
  obtain ⟨p, q, rfl⟩ : ∃ p q, at_ = [p, q] := by
    match at_, hlen with
    | [p, q], _ => exact ⟨p, q, rfl⟩
  replace h1 : 0 ≤ p := h1
  replace h2 : p ≤ (l.length : Int) := h2
  replace h3 : 0 ≤ q := h3
  replace h4 : q ≤ 60 := h4
  obtain ⟨n, rfl⟩ : ∃ n : Nat, p = (n : Int) := ⟨p.toNat, by omega⟩
  have hB : dust_Best_1 ([(n : Int), q], l, b) = (bestG b (l.drop n) q, b) := rfl
  refine ⟨⟨by omega, by omega⟩, fun hz => ?_, fun hz => ?_⟩
  · have hz : ((n : Int) == (l.length : Int)) = true := hz
    have hz : (n : Int) = (l.length : Int) := by simpa using hz
    have hz : n = l.length := by omega
    refine ⟨rfl, rfl, trivial, trivial, trivial, ?_⟩
    show ((([] : List Feed), (0 : Int), true), b) = _
    rw [hB, hz, List.drop_length, bestG]
  have hz : ((n : Int) == (l.length : Int)) = false := hz
  have hnl : n < l.length := by
    have : n ≠ l.length := by
      rintro h
      rw [h] at hz
      simp at hz
    omega
  obtain ⟨y, hy⟩ : ∃ y, y = l.getD n (0, 0, 0) := ⟨_, rfl⟩
  have hyl := L.load _ (getD_mem l (0, 0, 0) n hnl)
  rw [← hy] at hyl
  have qs := stored_bd B ⟨h3, h4⟩ hyl.1
  obtain ⟨hv, hhv⟩ : ∃ a, a = haveV b q y.1 := ⟨_, rfl⟩
  obtain ⟨cv, hcv⟩ : ∃ a, a = cartV b q y.1 := ⟨_, rfl⟩
  rw [← hhv, ← hcv] at qs
  have eST : dust_kiln_stored (b, (([(n : Int), q] : List Int).getD (Int.toNat 1) 0), (l.getD (Int.toNat (([(n : Int), q] : List Int).getD (Int.toNat 0) 0)) (0, 0, 0)).1) = (hv, cv) := by
    show (haveV b q (l.getD n (0, 0, 0)).1, cartV b q (l.getD n (0, 0, 0)).1) = _
    rw [← hy, hhv, hcv]
  have eY : l.getD (Int.toNat (([(n : Int), q] : List Int).getD (Int.toNat 0) 0)) (0, 0, 0) = y := hy.symm
  have hG : bestG b (l.drop n) q = (feedsV b y.2 hv).foldl (better b (bestG b (l.drop (n + 1))) hv cv) ([], 0, false) := by
    rw [drop_getD l (0, 0, 0) n hnl, ← hy, bestG, hhv, hcv]
  refine ⟨trivial, trivial, fun y0 hy0 => ⟨trivial, trivial, trivial, trivial, trivial, trivial, fun _ => ⟨rfl, rfl, trivial, trivial, trivial, ?_⟩, fun h => (by cases h)⟩, trivial, trivial, trivial, trivial, trivial, trivial, fun h => (by cases h), fun _ => ⟨⟨by omega, by omega⟩, ⟨by omega, by omega⟩, ⟨h1, ?_⟩, ⟨hb, inB_iff.2 ⟨h3, h4⟩, ?_⟩, ⟨by omega, by omega⟩, ⟨h1, ?_⟩, trivial, ?_⟩⟩
  · have hy0 : y0 = bestV b l [(n : Int), q] := hy0
    rw [hy0]; rfl
  · show (n : Int) < (l.length : Int); omega
  · rw [inB_iff]
    show 0 ≤ (l.getD n (0, 0, 0)).1 ∧ (l.getD n (0, 0, 0)).1 ≤ 40
    rw [← hy]; exact hyl.1
  · show (n : Int) < (l.length : Int); omega
  dsimp only
  rw [eST, eY]
  obtain ⟨N, hN⟩ : ∃ N, N = feedsV b y.2 hv := ⟨_, rfl⟩
  have hFV : dust_kiln_feeds (b, y.2, hv) = ⟨dust_kiln_feeds_1u_p (hv, b, y.2), N⟩ := by rw [hN]; rfl
  rw [← hN] at hG
  rw [hG] at hB
  rw [hFV]
  refine ⟨⟨hb, span_iff.2 hyl.2, inB_iff.2 ⟨qs.1.1, qs.1.2.1⟩⟩, fun r s => (∀ e ∈ r, e ∈ N) ∧ N.foldl (better b (bestG b (l.drop (n + 1))) hv cv) ([], 0, false) = r.foldl (better b (bestG b (l.drop (n + 1))) hv cv) s, ⟨fun _ h => h, rfl⟩, ?_, ?_⟩
  · rintro e r s ⟨g1, g2⟩
    obtain ⟨d, e1, e2, e3, e4⟩ := feeds_mem (hN ▸ g1 e List.mem_cons_self)
    have cb := coal_bd e3
    have q2 := mul_bd (a := b.2.2.2.1) (A := 10000) B.price (b := e.2) (B := 200) ⟨by omega, by omega⟩
    have q3 := best_bd B (l.drop (n + 1)) (hv - e.1) (fun z hz => (L.load z (List.mem_of_mem_drop hz)).1) ⟨by omega, by omega⟩
    rw [List.length_drop] at q3
    obtain ⟨T, hT⟩ : ∃ T, T = bestG b (l.drop (n + 1)) (hv - e.1) := ⟨_, rfl⟩
    have hown : dust_Best_1 ((((List.replicate 2 0).set 0 ((([(n : Int), q] : List Int).getD (Int.toNat 0) 0) + 1)).set 1 (hv - e.1)), l, b) = (T, b) := by
      rw [hT]; rfl
    rw [← hT] at q3
    have hbet : better b (bestG b (l.drop (n + 1))) hv cv s e = cond (T.2.2 && (!s.2.2 || decide (T.2.1 + cv + b.2.2.2.1 * e.2 < s.2.1))) (e :: T.1, T.2.1 + cv + b.2.2.2.1 * e.2, true) s := by
      rw [hT]; rfl
    rw [List.foldl_cons, hbet] at g2
    have g1' : ∀ e ∈ r, e ∈ N := fun e he => g1 e (List.mem_cons_of_mem _ he)
    dsimp only
    rw [hown]
    refine ⟨⟨by omega, by omega⟩, ?_, ?_, ⟨⟨⟨hb, hl, rfl, ?_, ?_, ?_, ?_⟩, ?_⟩, ⟨rfl, trivial, trivial, trivial, trivial⟩, rfl, trivial⟩, ?_, ?_, ?_, fun hc => ?_, fun hc => ?_⟩
    · show Z.in64 ((n : Int) + 1); simp only [Z.in64]; omega
    · simp only [Z.in64]; omega
    · show 0 ≤ (n : Int) + 1; omega
    · show (n : Int) + 1 ≤ (l.length : Int); omega
    · show 0 ≤ hv - e.1; omega
    · show hv - e.1 ≤ 60; omega
    · show ((l.length : Int) - ((n : Int) + 1)).toNat < ((l.length : Int) - (n : Int)).toNat; omega
    · simp only [Z.in64]; omega
    · simp only [Z.in64]; omega
    · simp only [Z.in64]; omega
    · have hc : (T.2.2 && (!s.2.2 || decide (T.2.1 + cv + b.2.2.2.1 * e.2 < s.2.1))) = true := hc
      rw [hc, cond_true] at g2
      refine ⟨roomy_of (by omega) (by omega) ?_, trivial, rfl, rfl, ⟨rfl, trivial, trivial, trivial, trivial⟩, rfl, rfl, rfl, g1', g2⟩
      rw [List.length_append]
      simp only [List.length_set, List.length_replicate]
      omega
    · have hc : (T.2.2 && (!s.2.2 || decide (T.2.1 + cv + b.2.2.2.1 * e.2 < s.2.1))) = false := hc
      rw [hc, cond_false] at g2
      exact ⟨trivial, rfl, rfl, ⟨rfl, trivial, trivial, trivial, trivial⟩, rfl, rfl, rfl, g1', g2⟩
  · rintro s ⟨_, g2⟩
    have g2 : N.foldl (better b (bestG b (l.drop (n + 1))) hv cv) ([], 0, false) = s := g2
    refine ⟨?_, rfl, rfl, trivial, trivial, trivial, ?_⟩
    · show s = bestG b (l.drop n) q
      rw [hG, g2]
    · rw [hB, g2]
theorem v9 (x : Burn × List Load) (_ : k9.pre x) : V9 x := by
  obtain ⟨b, l⟩ := x
  have e : dust_Best (b, l) = bestOut b l := rfl
  refine ⟨trivial, fun h => ?_, fun h => ⟨trivial, fun h2 => ?_, fun h2 => ?_⟩⟩
  · rw [e, bestOut, show burnB b = false from not_iff.1.1 h]; rfl
  · rw [e, bestOut, show (!burnB b) = false from h, show (!loadsB l) = true from h2]; rfl
  have hb : burnB b = true := not_iff.2.1 h
  have hl : loadsB l = true := not_iff.2.1 h2
  have B := burn_iff.1 hb
  have L := loads_iff.1 hl
  have hl8 := L.len
  have q3 := best_bd B l 0 (fun z hz => (L.load z hz).1) ⟨by omega, by omega⟩
  obtain ⟨T, hT⟩ : ∃ T, T = bestG b l 0 := ⟨_, rfl⟩
  rw [← hT] at q3
  have hown : dust_Best_1 (List.replicate 2 0, l, b) = (T, b) := by rw [hT]; rfl
  have hO : bestOut b l = cond (!T.2.2) ([], 0, 4) (T.1, T.2.1, 0) := by rw [bestOut, hb, hl, hT]; rfl
  rw [e, hO]
  dsimp only
  rw [hown]
  refine ⟨⟨⟨hb, hl, rfl, ?_, ?_, ?_, ?_⟩, ⟨rfl, trivial, trivial, trivial, trivial⟩, rfl, trivial⟩, fun hx => ?_, fun hx => ⟨?_, ?_⟩⟩
  · show (0 : Int) ≤ 0; omega
  · show (0 : Int) ≤ (l.length : Int); omega
  · show (0 : Int) ≤ 0; omega
  · show (0 : Int) ≤ 60; omega
  · have hx : (!T.2.2) = true := hx
    rw [hx]; rfl
  · show T.1.length ≤ big
    simp only [big]; omega
  · have hx : (!T.2.2) = false := hx
    rw [hx]; rfl
end Go.Fuel
