/-
  Chapter 4: the conditions, proved; fifth part: the closure that knows what it found; the best plan; the examples.
-/
import Derived.Test.YtihkgphflgojeaaDieP4
set_option linter.all false


set_option maxRecDepth 100000
namespace Go.Die
open Go Go.Sx

theorem change_bd {p : Press} (H : OkP p) (last k : Int) : 0 ≤ changeV p last k ∧ changeV p last k ≤ 10000 := by
  have := H.change
  unfold changeV
  cases (!(last == -1) && !(last == k))
  · rw [cond_false]; omega
  · rw [cond_true]; omega
/-- Of a best plan: how long it is, and what it costs. -/
theorem best_bd {p : Press} (H : OkP p) : ∀ (l : List Draw) (last : Int) (used : List Int),
    0 ≤ (bestG p l last used).2.1 ∧ (bestG p l last used).2.1 ≤ 20000 * (l.length : Int) ∧ (bestG p l last used).1.length ≤ l.length
  | [], _, _ => by simp [bestG]
  | d :: l, last, used => by
    have hlen := H.len
    have key : ∀ (es : List Nat) (r : Rest), (∀ e ∈ es, e < p.1.length) → (0 ≤ r.2.1 ∧ r.2.1 ≤ 20000 * ((l.length : Int) + 1) ∧ r.1.length ≤ l.length + 1) →
        0 ≤ (es.foldl (better p d (bestG p l) last used) r).2.1 ∧ (es.foldl (better p d (bestG p l) last used) r).2.1 ≤ 20000 * ((l.length : Int) + 1) ∧ (es.foldl (better p d (bestG p l) last used) r).1.length ≤ l.length + 1 := by
      intro es
      induction es with
      | nil => intro r _ hr; exact hr
      | cons k es ih =>
        intro r hes hr
        rw [List.foldl_cons]
        refine ih _ (fun e he => hes e (List.mem_cons_of_mem _ he)) ?_
        have hk := hes k List.mem_cons_self
        have q := best_bd H l (k : Int) (used.set k (used.getD k 0 + d.1))
        have c := change_bd H last (k : Int)
        unfold better
        simp only
        cases doesV p k (used.getD k 0) d with
        | false => exact hr
        | true =>
          rw [cond_true]
          cases ((bestG p l (k : Int) (used.set k (used.getD k 0 + d.1))).2.2 && (!r.2.2 || decide ((bestG p l (k : Int) (used.set k (used.getD k 0 + d.1))).2.1 + (k : Int) + changeV p last (k : Int) < r.2.1))) with
          | false => exact hr
          | true =>
            rw [cond_true]
            simp only [List.length_cons]
            omega
    have := key (List.range p.1.length) ([], 0, false) (fun e he => List.mem_range.1 he) ⟨by simp, by simp; omega, by simp⟩
    rw [bestG, List.length_cons]
    omega
theorem less_eq (a b : Rest) : die_less_die_rest (a, b, ⟨die_Plan_1u_1u_p, die_Plan_1u_1⟩) = cond (decide (b.2.1 < a.2.1)) b a := rfl
theorem v41 (x : State × (List Draw) × Press) (hx : k41.pre x) : V41 x := by
  obtain ⟨⟨i0, last, used⟩, l, p⟩ := x
  obtain ⟨hp, hl, h1, h2, h3, h4, h5⟩ : pressB p = true ∧ drawsB l = true ∧ 0 ≤ i0 ∧ i0 ≤ (l.length : Int) ∧ (-1 ≤ last ∧ last < (p.1.length : Int)) ∧ used.length = 4 ∧ ∀ n ∈ used, 0 ≤ n ∧ n ≤ 1000 * i0 := hx
  have H := press_iff.1 hp
  have L := draws_iff.1 hl
  have hl8 := L.len
  have hlen := H.len
  obtain ⟨i, rfl⟩ : ∃ n : Nat, i0 = (n : Int) := ⟨i0.toNat, by omega⟩
  have hB : die_Plan_1 (((i : Int), last, used), l, p) = bestG p (l.drop i) last used := rfl
  refine ⟨fun hz => ?_, fun hz => ?_⟩
  · have hz : ((i : Int) == (l.length : Int)) = true := hz
    have hz : (i : Int) = (l.length : Int) := by simpa using hz
    have hz : i = l.length := by omega
    refine ⟨rfl, rfl, trivial, rfl, trivial, ?_⟩
    show (([] : List Int), (0 : Int), true) = _
    rw [hB, hz, List.drop_length, bestG]
  have hz : ((i : Int) == (l.length : Int)) = false := hz
  have hil : i < l.length := by
    have : i ≠ l.length := by
      rintro h
      rw [h] at hz
      simp at hz
    omega
  obtain ⟨y, hy⟩ : ∃ y, y = l.getD i (0, 0, 0) := ⟨_, rfl⟩
  have hyl := L.draw _ (getD_mem l (0, 0, 0) i hil)
  rw [← hy] at hyl
  have hG : bestG p (l.drop i) last used = (List.range' 0 p.1.length).foldl (better p y (bestG p (l.drop (i + 1))) last used) ([], 0, false) := by
    rw [drop_getD l (0, 0, 0) i hil, ← hy, bestG, List.range_eq_range']
  refine ⟨trivial, trivial, fun y0 hy0 => ⟨trivial, trivial, trivial, trivial, trivial, trivial, fun _ => ⟨rfl, rfl, trivial, rfl, trivial, hy0⟩, fun h => (by cases h)⟩, trivial, trivial, trivial, trivial, trivial, trivial, fun h => (by cases h), fun _ => ?_⟩
  refine ⟨fun s => ∃ k : Nat, s.1 = (k : Int) ∧ k ≤ p.1.length ∧ bestG p (l.drop i) last used = (List.range' k (p.1.length - k)).foldl (better p y (bestG p (l.drop (i + 1))) last used) s.2, fun s => ((p.1.length : Int) - s.1).toNat, ⟨0, rfl, Nat.zero_le _, hG⟩, ?_⟩
  rintro ⟨k0, best⟩ ⟨k, g1, g2, g3⟩
  simp only at g1 g3
  subst g1
  refine ⟨fun hk => ?_, fun hk => ?_⟩
  · have hk : (k : Int) < (p.1.length : Int) := of_decide_eq_true hk
    have hkl : k < p.1.length := by omega
    rw [show p.1.length - k = (p.1.length - (k + 1)) + 1 by omega, List.range'_succ, List.foldl_cons] at g3
    have hu := h5 _ (getD_mem used 0 k (by omega))
    obtain ⟨u1, u2⟩ := used_set (u := used) (k := k) (i := i) (c := y.1) h5 (by omega) hyl.1
    have M := mount_ok H (k := k) hkl
    have ip : (0 : Int) ≤ (i : Int) ∧ (i : Int) < (l.length : Int) := ⟨by omega, by omega⟩
    have e1 : l.getD (Int.toNat (i : Int)) (0, 0, 0) = y := hy.symm
    have e2 : used.getD (Int.toNat (k : Int)) 0 = used.getD k 0 := rfl
    have ed : die_mounted_fits ((die_mount (p, (k : Int))), (used.getD k 0), ((used.getD k 0) + y.1), y.2) = doesV p k (used.getD k 0) y := rfl
    have hmeas : ((p.1.length : Int) - ((k : Int) + 1)).toNat < ((p.1.length : Int) - (k : Int)).toNat := by omega
    have hi64 : Z.in64 ((k : Int) + 1) := by simp only [Z.in64]; omega
    obtain ⟨T, hT⟩ : ∃ T, T = bestG p (l.drop (i + 1)) (k : Int) (used.set k (used.getD k 0 + y.1)) := ⟨_, rfl⟩
    have hTb := best_bd H (l.drop (i + 1)) (k : Int) (used.set k (used.getD k 0 + y.1))
    rw [← hT, List.length_drop] at hTb
    have hown : die_Plan_1 ((((i : Int) + 1), (k : Int), (used.set (Int.toNat (k : Int)) ((used.getD k 0) + y.1))), l, p) = T := by rw [hT]; rfl
    have hbet : better p y (bestG p (l.drop (i + 1))) last used best k = cond (doesV p k (used.getD k 0) y) (cond (T.2.2 && (!best.2.2 || decide (T.2.1 + (k : Int) + changeV p last (k : Int) < best.2.1))) ((k : Int) :: T.1, T.2.1 + (k : Int) + changeV p last (k : Int), true) best) best := by
      rw [hT]; rfl
    rw [hbet] at g3
    dsimp only
    rw [e1, e2, ed, hown]
    refine ⟨⟨by omega, by omega⟩, ⟨by show 0 ≤ (k : Int); omega, hk⟩, ip, by simp only [Z.in64]; omega, ip, ⟨M, ⟨by show 0 ≤ used.getD k 0; omega, by show used.getD k 0 ≤ 20000; omega⟩, ⟨by show 0 ≤ used.getD k 0 + y.1; omega, by show used.getD k 0 + y.1 ≤ 20000; omega⟩, span_iff.2 hyl.2⟩, fun hd => ?_, fun hd => ?_⟩
    · have hd : doesV p k (used.getD k 0) y = false := not_iff.1.1 hd
      rw [hd, cond_false] at g3
      exact ⟨hi64, trivial, rfl, ⟨rfl, trivial, rfl, trivial, trivial⟩, rfl, ⟨k + 1, by show (k : Int) + 1 = ((k + 1 : Nat) : Int); omega, hkl, g3⟩, hmeas⟩
    have hd : doesV p k (used.getD k 0) y = true := not_iff.2.1 hd
    rw [hd, cond_true] at g3
    refine ⟨by simp only [Z.in64]; omega, ⟨by omega, by omega⟩, ip, by simp only [Z.in64]; omega, ⟨by omega, by omega⟩, ⟨⟨⟨hp, hl, ?_, ?_, ⟨by show -1 ≤ (k : Int); omega, hk⟩, ?_, ?_⟩, ?_⟩, ⟨rfl, trivial, rfl, trivial, trivial⟩, rfl, trivial⟩, fun ht => ?_, fun ht => ?_⟩
    · show 0 ≤ (i : Int) + 1; omega
    · show (i : Int) + 1 ≤ (l.length : Int); omega
    · show (used.set k (used.getD k 0 + y.1)).length = 4
      rw [List.length_set]; exact h4
    · intro n hn
      have := u2 n hn
      show 0 ≤ n ∧ n ≤ 1000 * ((i : Int) + 1)
      omega
    · show ((l.length : Int) - ((i : Int) + 1)).toNat < ((l.length : Int) - (i : Int)).toNat; omega
    · have ht : T.2.2 = false := not_iff.1.1 ht
      rw [ht, Bool.false_and, cond_false] at g3
      exact ⟨hi64, trivial, rfl, ⟨rfl, trivial, rfl, trivial, trivial⟩, rfl, ⟨k + 1, by show (k : Int) + 1 = ((k + 1 : Nat) : Int); omega, hkl, g3⟩, hmeas⟩
    have ht : T.2.2 = true := not_iff.2.1 ht
    rw [ht, Bool.true_and] at g3
    have hroomy : Z.roomy 1 ((((List.replicate 1 0).set 0 (k : Int)) ++ T.1).length : Int) := by
      refine roomy_of (by omega) (by omega) ?_
      rw [List.length_append]; simp only [List.length_set, List.length_replicate]; omega
    have hch := H.change
    -- what follows, by what the change costs
    have done : ∀ c : Int, changeV p last (k : Int) = c → (((!best.2.2) = true → ∃ k' : Nat, (k : Int) + 1 = (k' : Int) ∧ k' ≤ p.1.length ∧ bestG p (l.drop i) last used = (List.range' k' (p.1.length - k')).foldl (better p y (bestG p (l.drop (i + 1))) last used)
          (die_less_die_rest ((((List.replicate 1 0).set 0 (k : Int)) ++ T.1, T.2.1 + (k : Int) + c, true), (((List.replicate 1 0).set 0 (k : Int)) ++ T.1, T.2.1 + (k : Int) + c, true), ⟨die_Plan_1u_1u_p, die_Plan_1u_1⟩))) ∧
        ((!best.2.2) = false → ∃ k' : Nat, (k : Int) + 1 = (k' : Int) ∧ k' ≤ p.1.length ∧ bestG p (l.drop i) last used = (List.range' k' (p.1.length - k')).foldl (better p y (bestG p (l.drop (i + 1))) last used)
          (die_less_die_rest (best, (((List.replicate 1 0).set 0 (k : Int)) ++ T.1, T.2.1 + (k : Int) + c, true), ⟨die_Plan_1u_1u_p, die_Plan_1u_1⟩)))) := fun c hc => by
      rw [hc] at g3
      refine ⟨fun hb => ⟨k + 1, by omega, hkl, ?_⟩, fun hb => ⟨k + 1, by omega, hkl, ?_⟩⟩
      · rw [hb, Bool.true_or, cond_true] at g3
        rw [less_eq, decide_eq_false (Int.lt_irrefl _), cond_false]
        exact g3
      · rw [hb, Bool.false_or] at g3
        rw [less_eq]
        exact g3
    refine ⟨hroomy, by simp only [Z.in64]; omega, fun hc => ⟨by simp only [Z.in64]; omega, fun hb => ⟨⟨trivial, trivial⟩, hi64, trivial, rfl, ⟨rfl, trivial, rfl, trivial, trivial⟩, rfl, ?_, hmeas⟩, fun hb => ⟨⟨trivial, trivial⟩, hi64, trivial, rfl, ⟨rfl, trivial, rfl, trivial, trivial⟩, rfl, ?_, hmeas⟩⟩, fun hc => ⟨fun hb => ⟨⟨trivial, trivial⟩, hi64, trivial, rfl, ⟨rfl, trivial, rfl, trivial, trivial⟩, rfl, ?_, hmeas⟩, fun hb => ⟨⟨trivial, trivial⟩, hi64, trivial, rfl, ⟨rfl, trivial, rfl, trivial, trivial⟩, rfl, ?_, hmeas⟩⟩⟩
    · exact (done p.2.2 (by rw [changeV, show (!(last == -1) && !(last == (k : Int))) = true from hc]; rfl)).1 hb
    · exact (done p.2.2 (by rw [changeV, show (!(last == -1) && !(last == (k : Int))) = true from hc]; rfl)).2 hb
    · have := (done 0 (by rw [changeV, show (!(last == -1) && !(last == (k : Int))) = false from hc]; rfl)).1 hb
      rw [Int.add_zero] at this
      exact this
    · have := (done 0 (by rw [changeV, show (!(last == -1) && !(last == (k : Int))) = false from hc]; rfl)).2 hb
      rw [Int.add_zero] at this
      exact this
  · have hk : ¬ (k : Int) < (p.1.length : Int) := of_decide_eq_false hk
    rw [show p.1.length - k = 0 by omega] at g3
    have g3 : bestG p (l.drop i) last used = best := g3
    exact ⟨g3.symm, rfl, rfl, trivial, rfl, trivial, by rw [hB, g3]⟩
end Go.Die
