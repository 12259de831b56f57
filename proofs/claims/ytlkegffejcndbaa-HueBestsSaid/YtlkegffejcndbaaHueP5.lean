/-
  Chapter 8: the conditions, proved; fifth part: the best plan.
-/
import Derived.Test.YtlkegffejcndbaaHueP4
set_option linter.all false


set_option maxRecDepth 100000
namespace Go.Hue
open Go Go.Sx

/-! ### Bits of numbers below 64 -/
theorem bits1 : ∀ a : Fin 64, ∀ h : Fin 7, (Int.fdiv ((a.val : Nat) : Int) (2 ^ h.val) == 0) = ((List.range 6).all fun k => decide (k < h.val) || !a.val.testBit k) := by decide +kernel
theorem bits2 : ∀ a : Fin 64, ∀ h : Fin 7, 0 ≤ Int.fdiv ((a.val : Nat) : Int) (2 ^ h.val) ∧ ((((Int.toNat (Int.fdiv ((a.val : Nat) : Int) (2 ^ h.val))) &&& (Int.toNat 1) : Nat) : Int) == 1) = a.val.testBit h.val := by decide +kernel
theorem bits3 : ∀ a : Fin 64, pop a.val = 0 → a.val = 0 := by decide +kernel
theorem bits4 : ∀ a : Fin 64, ∀ h : Fin 6, a.val.testBit h.val = true → 2 ^ h.val ≤ a.val := by decide +kernel
theorem bits5 : ∀ a : Fin 64, ∀ h : Fin 6, a.val.testBit h.val = true → (a.val ^^^ (a.val &&& (Int.toNat (1 * 2 ^ h.val)))) + 2 ^ h.val = a.val ∧ pop (a.val ^^^ (a.val &&& (Int.toNat (1 * 2 ^ h.val)))) + 1 = pop a.val := by decide +kernel

theorem flat_range (f : Nat → List (Turn × Int)) (h n : Nat) : (List.range' h (n + 1)).flatMap f = f h ++ (List.range' (h + 1) n).flatMap f := by
  rw [List.range'_succ, List.flatMap_cons]
theorem nexts_eq (s : State) (m : Mill) : nexts s m = (List.range' 0 6).flatMap (nextsAt s m) := by rw [nexts, List.range_eq_range']
theorem v59 (ly : Nat) (x : State × Mill) (hp : k59.pre x) : V59 ly x := by
  obtain ⟨⟨left, stain⟩, m⟩ := x
  obtain ⟨h1, h2, h3, h4, h5, h6⟩ : 0 ≤ left ∧ left < 64 ∧ 0 ≤ stain ∧ stain ≤ 10000 ∧ 0 ≤ m.2.1.1 ∧ m.2.1.1 ≤ 10000 := hp
  obtain ⟨a, rfl⟩ : ∃ n : Nat, left = (n : Int) := ⟨left.toNat, by omega⟩
  have ha : a < 64 := by omega
  obtain ⟨N, hN⟩ : ∃ N, N = nexts ((a : Int), stain) m := ⟨_, rfl⟩
  have hN' : hue_state_nexts_1 (((a : Int), stain), m) = N := hN.symm
  refine ⟨fun s => s.2.2 = false ∧ ∃ h : Nat, s.1 = (h : Int) ∧ h ≤ 6 ∧ N = s.2.1 ++ (List.range' h (6 - h)).flatMap (nextsAt ((a : Int), stain) m), fun s => (6 - s.1).toNat, ⟨rfl, 0, rfl, by omega, by rw [hN, nexts_eq]; rfl⟩, ?_⟩
  rintro ⟨h0, out, fl⟩ ⟨g0, h, g1, g2, g3⟩
  simp only at g0 g1 g3
  subst g0 g1
  have b1 := bits1 ⟨a, ha⟩ ⟨h, by omega⟩
  have b2 := bits2 ⟨a, ha⟩ ⟨h, by omega⟩
  refine ⟨⟨by show 0 ≤ (h : Int); omega, by show (h : Int) < 64; omega⟩, fun hz => ?_, fun hz _ => ?_⟩
  · have hz : (Int.fdiv ((a : Nat) : Int) (2 ^ h) == 0) = false := not_iff.1.1 hz
    have hh6 : h < 6 := by
      rcases Nat.lt_or_eq_of_le g2 with hh | hh
      · exact hh
      · subst hh
        have b1' := bits1 ⟨a, ha⟩ ⟨6, by omega⟩
        rw [show (Int.fdiv ((a : Nat) : Int) (2 ^ 6) == 0) = false from hz] at b1'
        simp [List.range_succ] at b1'
    rw [show 6 - h = (6 - (h + 1)) + 1 by omega, flat_range] at g3
    obtain ⟨R, hR⟩ : ∃ R, R = (List.range' (h + 1) (6 - (h + 1))).flatMap (nextsAt ((a : Int), stain) m) := ⟨_, rfl⟩
    rw [← hR] at g3
    obtain ⟨e, he⟩ : ∃ e : Int → Turn × Int, e = fun w => (((h : Int), w), max 0 (stain - w * m.2.1.1)) := ⟨_, rfl⟩
    have hne : nextsAt ((a : Int), stain) m h = cond (a.testBit h) [e 0, e 1, e 2] [] := by rw [he]; rfl
    refine ⟨fun s => s.2.2 = false ∧ ((s.1 = 0 ∧ s.2.1 = out) ∨ (a.testBit h = true ∧ ((s.1 = 1 ∧ s.2.1 = out ++ [e 0]) ∨ (s.1 = 2 ∧ s.2.1 = out ++ [e 0] ++ [e 1]) ∨ (s.1 = 3 ∧ s.2.1 = out ++ [e 0] ++ [e 1] ++ [e 2])))), fun s => (3 - s.1).toNat, ⟨rfl, .inl ⟨rfl, rfl⟩⟩, ?_⟩
    rintro ⟨w, out', fl'⟩ ⟨q0, q1⟩
    simp only at q0 q1
    subst q0
    have hw0 : 0 ≤ w := by rcases q1 with ⟨q, _⟩ | ⟨_, ⟨q, _⟩ | ⟨q, _⟩ | ⟨q, _⟩⟩ <;> omega
    refine ⟨fun _ => ⟨by show 0 ≤ (h : Int); omega, by show (h : Int) < 64; omega⟩, fun _ => ⟨b2.1, by omega⟩, fun hc => ?_, fun hc => ?_⟩
    · have hc : (decide (w ≤ 2) && ((((Int.toNat (Int.fdiv ((a : Nat) : Int) (2 ^ h))) &&& (Int.toNat 1) : Nat) : Int) == 1)) = true := hc
      rw [b2.2, Bool.and_eq_true, decide_eq_true_eq] at hc
      obtain ⟨hw2, hbit⟩ := hc
      have hbit : a.testBit h = true := hbit
      rw [hne, hbit, cond_true] at g3
      have q := mul_bd (a := w) (A := 2) (b := m.2.1.1) (B := 10000) ⟨hw0, hw2⟩ ⟨h5, h6⟩
      have key : (∃ r2, N = out' ++ e w :: r2) ∧ ((w + 1 = 1 ∧ out' ++ [e w] = out ++ [e 0]) ∨ (w + 1 = 2 ∧ out' ++ [e w] = out ++ [e 0] ++ [e 1]) ∨ (w + 1 = 3 ∧ out' ++ [e w] = out ++ [e 0] ++ [e 1] ++ [e 2])) := by
        rcases q1 with ⟨rfl, rfl⟩ | ⟨_, ⟨rfl, rfl⟩ | ⟨rfl, rfl⟩ | ⟨rfl, rfl⟩⟩
        · exact ⟨⟨e 1 :: e 2 :: R, g3⟩, .inl ⟨by omega, rfl⟩⟩
        · exact ⟨⟨e 2 :: R, by rw [g3]; simp⟩, .inr (.inl ⟨by omega, rfl⟩)⟩
        · exact ⟨⟨R, by rw [g3]; simp⟩, .inr (.inr ⟨by omega, rfl⟩)⟩
        · omega
      obtain ⟨⟨r2, k1⟩, k2⟩ := key
      refine ⟨trivial, trivial, trivial, trivial, trivial, trivial, trivial, trivial, trivial, trivial, ?_, ?_, trivial, ⟨rfl, rfl⟩, ⟨r2, ?_⟩, ⟨trivial, fun h => (by cases h), fun _ => ⟨?_, ⟨rfl, .inr ⟨hbit, ?_⟩⟩, ?_⟩⟩, trivial, fun _ h => (by cases h), fun h => (by cases h)⟩
      · show Z.in64 (w * m.2.1.1)
        simp only [Z.in64]; omega
      · show Z.in64 (stain - w * m.2.1.1)
        simp only [Z.in64]; omega
      · rw [hN', k1, he]
      · simp only [Z.in64]; omega
      · rw [he] at k2 ⊢; exact k2
      · show (3 - (w + 1)).toNat < (3 - w).toNat
        omega
    · have hc2 : (decide (w ≤ 2) && ((((Int.toNat (Int.fdiv ((a : Nat) : Int) (2 ^ h))) &&& (Int.toNat 1) : Nat) : Int) == 1)) = false := hc
      rw [b2.2] at hc2
      have hc2 : (decide (w ≤ 2) && a.testBit h) = false := hc2
      clear hc
      refine ⟨by simp only [Z.in64]; omega, ⟨rfl, h + 1, by show (h : Int) + 1 = ((h + 1 : Nat) : Int); omega, by omega, ?_⟩, ?_⟩
      · rw [g3, ← hR, ← List.append_assoc]
        congr 1
        rw [hne]
        rcases q1 with ⟨rfl, rfl⟩ | ⟨hbit, ⟨rfl, rfl⟩ | ⟨rfl, rfl⟩ | ⟨rfl, rfl⟩⟩
        · have : a.testBit h = false := by simpa using hc2
          rw [this, cond_false, List.append_nil]
        · rw [hbit] at hc2; cases hc2
        · rw [hbit] at hc2; cases hc2
        · rw [hbit, cond_true]; simp
      · show (6 - ((h : Int) + 1)).toNat < (6 - (h : Int)).toNat
        omega
  · have hz : (Int.fdiv ((a : Nat) : Int) (2 ^ h) == 0) = true := not_iff.2.1 hz
    rw [show (Int.fdiv ((a : Nat) : Int) (2 ^ (⟨h, by omega⟩ : Fin 7).val) == 0) = true from hz] at b1
    have b1 := List.all_eq_true.1 b1.symm
    show out = hue_state_nexts_1 _
    rw [hN', g3]
    have : (List.range' h (6 - h)).flatMap (nextsAt ((a : Int), stain) m) = [] := by
      rw [List.flatMap_eq_nil_iff]
      intro k hk
      rw [List.mem_range'_1] at hk
      have := b1 k (List.mem_range.2 (by omega))
      simp only [Bool.or_eq_true, decide_eq_true_eq, Bool.not_eq_true'] at this
      rw [nextsAt, show ((a : Int), stain).1.toNat.testBit k = false from this.resolve_left (by omega)]
      rfl
    rw [this, List.append_nil]
/-- What may come next, one by one. -/
theorem nexts_mem {a : Nat} {stain : Int} {m : Mill} (h3 : 0 ≤ stain ∧ stain ≤ 10000) (hm : 0 ≤ m.2.1.1 ∧ m.2.1.1 ≤ 10000) {e : Turn × Int} (he : e ∈ nexts ((a : Int), stain) m) :
    ∃ h : Nat, h < 6 ∧ e.1.1 = (h : Int) ∧ a.testBit h = true ∧ 0 ≤ e.1.2 ∧ e.1.2 ≤ 2 ∧ 0 ≤ e.2 ∧ e.2 ≤ 10000 := by
  simp only [nexts, List.mem_flatMap, List.mem_range] at he
  obtain ⟨h, hh, he⟩ := he
  refine ⟨h, hh, ?_⟩
  unfold nextsAt at he
  cases hb : ((a : Int), stain).1.toNat.testBit h with
  | false => rw [hb] at he; cases he
  | true =>
    rw [hb, cond_true] at he
    have hb : a.testBit h = true := hb
    simp only [List.map_cons, List.map_nil, List.mem_cons, List.not_mem_nil, or_false] at he
    rcases he with rfl | rfl | rfl
    all_goals
      refine ⟨rfl, hb, by simp, by simp, ?_, ?_⟩
      · show (0 : Int) ≤ max 0 _
        omega
      · show max (0 : Int) _ ≤ _
        omega
/-- Of a best plan: how long it is, and what it costs. -/
theorem best_bd {m : Mill} {l : List Hue} (H : Valid m l) : ∀ (n : Nat) (a : Nat) (stain : Int), a < 64 → a < 2 ^ l.length → 0 ≤ stain ∧ stain ≤ 10000 →
    0 ≤ (bestF m l n ((a : Int), stain)).2.1 ∧ (bestF m l n ((a : Int), stain)).2.1 ≤ 30000 * n ∧ (bestF m l n ((a : Int), stain)).1.length ≤ n
  | 0, _, _, _, _, _ => by simp [bestF]
  | n + 1, a, stain, ha, hal, hs => by
    have hm := H.wash
    have key : ∀ (es : List (Turn × Int)) (b : Rest), (∀ e ∈ es, e ∈ nexts ((a : Int), stain) m) → (0 ≤ b.2.1 ∧ b.2.1 ≤ 30000 * ((n : Int) + 1) ∧ b.1.length ≤ n + 1) →
        0 ≤ (es.foldl (better (bestF m l n) m l ((a : Int), stain)) b).2.1 ∧ (es.foldl (better (bestF m l n) m l ((a : Int), stain)) b).2.1 ≤ 30000 * ((n : Int) + 1) ∧ (es.foldl (better (bestF m l n) m l ((a : Int), stain)) b).1.length ≤ n + 1 := by
      intro es
      induction es with
      | nil => intro b _ hb; exact hb
      | cons e es ih =>
        intro b hes hb
        rw [List.foldl_cons]
        refine ih _ (fun e' he' => hes e' (List.mem_cons_of_mem _ he')) ?_
        obtain ⟨h, hh, e1, e2, e3, e4, e5, e6⟩ := nexts_mem hs ⟨hm.1, by omega⟩ (hes e List.mem_cons_self)
        have b4 : 2 ^ h ≤ a := bits4 ⟨a, ha⟩ ⟨h, hh⟩ e2
        have b5 : (a ^^^ (a &&& (Int.toNat (1 * 2 ^ h)))) + 2 ^ h = a ∧ _ := bits5 ⟨a, ha⟩ ⟨h, hh⟩ e2
        have hlen : h < l.length := (Nat.pow_lt_pow_iff_right (by decide : 1 < 2)).1 (Nat.lt_of_le_of_lt b4 hal)
        have hd := (H.hue _ (getD_mem l ((0, 0), 0, 0) h hlen))
        unfold better
        simp only
        cases hc : decide ((l.getD e.1.1.toNat ((0, 0), 0, 0)).2.1 < e.2) with
        | true => exact hb
        | false =>
          rw [cond_false]
          have hst : 0 ≤ max (l.getD e.1.1.toNat ((0, 0), 0, 0)).1.2 (e.2 - m.1.1) ∧ max (l.getD e.1.1.toNat ((0, 0), 0, 0)).1.2 (e.2 - m.1.1) ≤ 10000 := by
            rw [e1, Int.toNat_natCast]
            have := H.run
            omega
          have hp2 := Nat.two_pow_pos h
          have eq : (Int.toNat (a : Int) ^^^ (Int.toNat (a : Int) &&& (1 * 2 ^ e.1.1.toNat : Int).toNat)) = (a ^^^ (a &&& (Int.toNat (1 * 2 ^ h)))) := by rw [e1]; rfl
          have hr := best_bd H n (a ^^^ (a &&& (Int.toNat (1 * 2 ^ h)))) (max (l.getD e.1.1.toNat ((0, 0), 0, 0)).1.2 (e.2 - m.1.1)) (by omega) (by omega) hst
          rw [eq]
          obtain ⟨r, hrr⟩ : ∃ r, r = bestF m l n (((a ^^^ (a &&& (Int.toNat (1 * 2 ^ h))) : Nat) : Int), max (l.getD e.1.1.toNat ((0, 0), 0, 0)).1.2 (e.2 - m.1.1)) := ⟨_, rfl⟩
          rw [← hrr] at hr ⊢
          have q := mul_bd (a := m.2.2) (A := 10000) (b := e.1.2) (B := 2) H.price ⟨e3, e4⟩
          cases hc2 : (r.2.2 && (!b.2.2 || decide (r.2.1 + e.2 + m.2.2 * e.1.2 < b.2.1))) with
          | false => rw [cond_false]; exact hb
          | true =>
            rw [cond_true]
            refine ⟨?_, ?_, ?_⟩
            · show 0 ≤ r.2.1 + e.2 + m.2.2 * e.1.2; omega
            · show r.2.1 + e.2 + m.2.2 * e.1.2 ≤ _; omega
            · show (e.1 :: r.1).length ≤ _
              rw [List.length_cons]; omega
    have := key (nexts ((a : Int), stain) m) ([], 0, false) (fun _ h => h) ⟨by simp, by simp only; omega, by simp⟩
    simp only [bestF]
    refine ⟨this.1, ?_, this.2.2⟩
    have h2 := this.2.1
    omega
end Go.Hue
