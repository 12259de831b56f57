/-
  Chapter 8: the conditions, proved; sixth part: the closure that knows what it found; the best plan; the examples.
-/
import Derived.Test.YtlkegffejcndbaaHueP5
set_option linter.all false


set_option maxRecDepth 100000
namespace Go.Hue
open Go Go.Sx

theorem v42 (x : State × Mill × List Hue) (hp : k42.pre x) : V42 x := by
  obtain ⟨⟨left, stain⟩, m, l⟩ := x
  obtain ⟨hv, h1, h2, h3, h4⟩ : validB m l = true ∧ 0 ≤ left ∧ left < 2 ^ l.length ∧ 0 ≤ stain ∧ stain ≤ 10000 := hp
  have H := valid_iff.1 hv
  have hl6 := H.len
  have hm := H.wash
  obtain ⟨a, rfl⟩ : ∃ n : Nat, left = (n : Int) := ⟨left.toNat, by omega⟩
  have hal : a < 2 ^ l.length := by
    have h2' : ((a : Nat) : Int) < ((2 ^ l.length : Nat) : Int) := by rw [Int.natCast_pow]; exact h2
    omega
  have h64 : (2 : Nat) ^ l.length ≤ 2 ^ 6 := Nat.pow_le_pow_right (by decide) hl6
  have ha : a < 64 := by omega
  refine ⟨fun hz => ?_, fun hz => ?_⟩
  · have hz : (((a : Int) == 0) && (stain == stain)) = true := hz
    simp only [Bool.and_eq_true, beq_iff_eq] at hz
    have ha0 : a = 0 := by omega
    subst ha0
    refine ⟨rfl, trivial, rfl, rfl, trivial, ?_⟩
    show (([] : List Turn), (0 : Int), true) = bestF m l (pop 0) (((0 : Nat) : Int), stain)
    rw [show pop 0 = 0 from by decide]; rfl
  have hz : (((a : Int) == 0) && (stain == stain)) = false := hz
  have ha0 : a ≠ 0 := by
    rintro rfl
    simp at hz
  obtain ⟨n, hn⟩ : ∃ n, pop a = n + 1 := by
    rcases h : pop a with _ | n
    · exact absurd (bits3 ⟨a, ha⟩ h) ha0
    · exact ⟨n, rfl⟩
  refine ⟨trivial, trivial, fun y hy => ⟨trivial, trivial, trivial, trivial, trivial, trivial, fun _ => ⟨rfl, trivial, rfl, rfl, trivial, hy⟩, fun h => (by cases h)⟩, trivial, trivial, trivial, trivial, trivial, trivial, fun h => (by cases h), fun _ => ⟨trivial, ⟨h1, by show (a : Int) < 64; omega, h3, h4, hm.1, by show m.2.1.1 ≤ 10000; omega⟩, ?_⟩⟩
  obtain ⟨N, hN⟩ : ∃ N, N = nexts ((a : Int), stain) m := ⟨_, rfl⟩
  have hB : bestV m l ((a : Int), stain) = N.foldl (better (bestF m l n) m l ((a : Int), stain)) ([], 0, false) := by
    show bestF m l (pop a) ((a : Int), stain) = _
    rw [hn, hN]; rfl
  refine ⟨fun r b => (∀ e ∈ r, e ∈ N) ∧ bestV m l ((a : Int), stain) = r.foldl (better (bestF m l n) m l ((a : Int), stain)) b, ⟨by rw [hN]; exact fun _ h => h, by rw [hB, hN]; rfl⟩, ?_, ?_⟩
  · rintro e r b ⟨g1, g2⟩
    obtain ⟨h, hh, e1, e2, e3, e4, e5, e6⟩ := nexts_mem ⟨h3, h4⟩ ⟨hm.1, by omega⟩ (hN ▸ g1 e List.mem_cons_self)
    have b4 : 2 ^ h ≤ a := bits4 ⟨a, ha⟩ ⟨h, hh⟩ e2
    have b5 : (a ^^^ (a &&& (Int.toNat (1 * 2 ^ h)))) + 2 ^ h = a ∧ pop (a ^^^ (a &&& (Int.toNat (1 * 2 ^ h)))) + 1 = pop a := bits5 ⟨a, ha⟩ ⟨h, hh⟩ e2
    have hp2 := Nat.two_pow_pos h
    have hlen : h < l.length := (Nat.pow_lt_pow_iff_right (by decide : 1 < 2)).1 (Nat.lt_of_le_of_lt b4 hal)
    have hd := (H.hue _ (getD_mem l ((0, 0), 0, 0) h hlen))
    obtain ⟨⟨eh, ew⟩, es⟩ := e
    simp only at e1 e3 e4 e5 e6
    subst e1
    obtain ⟨a', ha'⟩ : ∃ a', a' = a ^^^ (a &&& (Int.toNat (1 * 2 ^ h))) := ⟨_, rfl⟩
    obtain ⟨st', hst'⟩ : ∃ st', st' = max (l.getD h ((0, 0), 0, 0)).1.2 (es - m.1.1) := ⟨_, rfl⟩
    have hrun := H.run
    have hstb : 0 ≤ st' ∧ st' ≤ 10000 := by rw [hst']; omega
    rw [← ha'] at b5
    have hpop : pop a' = n := by omega
    obtain ⟨T, hT⟩ : ∃ T, T = hue_Best_1 (((a' : Int), st'), m, l) := ⟨_, rfl⟩
    have hTF : bestF m l n ((a' : Int), st') = T := by
      rw [hT]
      show _ = bestF m l (pop a') ((a' : Int), st')
      rw [hpop]
    have hTb := best_bd H n a' st' (by omega) (by omega) hstb
    rw [hTF] at hTb
    have hpop6 : n ≤ 6 := by
      have : pop a ≤ 6 := Nat.le_trans List.countP_le_length (by simp)
      omega
    have q := mul_bd (a := m.2.2) (A := 10000) (b := ew) (B := 2) H.price ⟨e3, e4⟩
    have hbet : better (bestF m l n) m l ((a : Int), stain) b (((h : Int), ew), es) = cond (decide ((l.getD h ((0, 0), 0, 0)).2.1 < es)) b (cond (T.2.2 && (!b.2.2 || decide (T.2.1 + es + m.2.2 * ew < b.2.1))) (((h : Int), ew) :: T.1, T.2.1 + es + m.2.2 * ew, T.2.2) b) := by
      rw [← hTF, ha', hst']; rfl
    rw [List.foldl_cons, hbet] at g2
    have g1' : ∀ e ∈ r, e ∈ N := fun e he => g1 e (List.mem_cons_of_mem _ he)
    have hown : hue_Best_1 (((((Int.toNat ((a : Nat) : Int)) ^^^ ((Int.toNat ((a : Nat) : Int)) &&& (Int.toNat ((1 * 2 ^ (Int.toNat (h : Int)))))) : Nat) : Int), (hue_greatest_int (((l.getD (Int.toNat (h : Int)) ((0, 0), 0, 0)).1).2, ((List.replicate 1 0).set 0 (es - m.1.1))))), m, l) = T := by
      rw [hT, ha', hst']; rfl
    refine ⟨⟨by show 0 ≤ (h : Int); omega, by show (h : Int) < (l.length : Int); omega⟩, fun hc => ?_, fun hc => ?_⟩
    · have hc : decide ((l.getD h ((0, 0), 0, 0)).2.1 < es) = true := hc
      rw [hc, cond_true] at g2
      exact ⟨trivial, rfl, ⟨trivial, rfl, rfl, trivial, trivial⟩, rfl, g1', g2⟩
    have hc : decide ((l.getD h ((0, 0), 0, 0)).2.1 < es) = false := hc
    rw [hc, cond_false] at g2
    have hpow : (1 : Int) * 2 ^ h = ((2 ^ h : Nat) : Int) := by rw [Int.one_mul, Int.natCast_pow]; rfl
    have h2h : 2 ^ h ≤ 2 ^ 6 := Nat.pow_le_pow_right (by decide) (by omega)
    refine ⟨⟨⟨by show 0 ≤ (h : Int); omega, by show (h : Int) < 64; omega⟩, ?_⟩, ⟨h1, ?_⟩, ⟨by show 0 ≤ (h : Int); omega, by show (h : Int) < (l.length : Int); omega⟩, ?_, ?_, ⟨⟨⟨hv, ?_, ?_, ?_, ?_⟩, ?_⟩, ⟨trivial, rfl, rfl, trivial, trivial⟩, rfl, trivial⟩, ?_, ?_, ?_, ?_, fun hcc => ?_, fun hcc => ?_⟩
    · show Z.in64 (1 * 2 ^ h)
      rw [hpow]; simp only [Z.in64]; omega
    · show (0 : Int) ≤ 1 * 2 ^ h
      rw [hpow]; omega
    · show Z.in64 (es - m.1.1)
      simp only [Z.in64]; omega
    · show 1 ≤ big
      decide
    · show (0 : Int) ≤ ((a ^^^ (a &&& (Int.toNat (1 * 2 ^ h))) : Nat) : Int)
      omega
    · show ((a ^^^ (a &&& (Int.toNat (1 * 2 ^ h))) : Nat) : Int) < 2 ^ l.length
      rw [← ha']
      have : ((2 : Int) ^ l.length) = ((2 ^ l.length : Nat) : Int) := by rw [Int.natCast_pow]; rfl
      rw [this]; omega
    · show 0 ≤ max (l.getD h ((0, 0), 0, 0)).1.2 (es - m.1.1)
      rw [← hst']; exact hstb.1
    · show max (l.getD h ((0, 0), 0, 0)).1.2 (es - m.1.1) ≤ 10000
      rw [← hst']; exact hstb.2
    · show (a ^^^ (a &&& (Int.toNat (1 * 2 ^ h)))) < a
      rw [← ha']; omega
    · show Z.roomy 2 ((((List.replicate 1 (0, 0)).set 0 ((h : Int), ew)) ++ (hue_Best_1 _).1).length : Int)
      rw [hown]
      refine roomy_of (by omega) (by omega) ?_
      rw [List.length_append]
      simp only [List.length_set, List.length_replicate]
      omega
    · show Z.in64 ((hue_Best_1 _).2.1 + es)
      rw [hown]; simp only [Z.in64]; omega
    · show Z.in64 (m.2.2 * ew)
      simp only [Z.in64]; omega
    · show Z.in64 ((hue_Best_1 _).2.1 + es + m.2.2 * ew)
      rw [hown]; simp only [Z.in64]; omega
    · rw [hown] at hcc
      have hcc : (T.2.2 && (!b.2.2 || decide (T.2.1 + es + m.2.2 * ew < b.2.1))) = true := hcc
      rw [hcc, cond_true] at g2
      refine ⟨trivial, rfl, ⟨trivial, rfl, rfl, trivial, trivial⟩, rfl, g1', ?_⟩
      rw [hown]
      exact g2
    · rw [hown] at hcc
      have hcc : (T.2.2 && (!b.2.2 || decide (T.2.1 + es + m.2.2 * ew < b.2.1))) = false := hcc
      rw [hcc, cond_false] at g2
      exact ⟨trivial, rfl, ⟨trivial, rfl, rfl, trivial, trivial⟩, rfl, g1', g2⟩
  · rintro b ⟨_, g2⟩
    have g2 : bestV m l ((a : Int), stain) = b := g2
    exact ⟨g2.symm, rfl, trivial, rfl, rfl, trivial, g2.symm⟩
theorem v19 (x : Mill × List Hue) (_ : k19.pre x) : V19 x := by
  obtain ⟨m, l⟩ := x
  refine ⟨trivial, fun h => ?_, fun h => ?_⟩
  · show (([] : List Turn), (0 : Int), (1 : Int)) = bestOut m l
    rw [bestOut, show validB m l = false from not_iff.1.1 h]; rfl
  have hv : validB m l = true := not_iff.2.1 h
  have H := valid_iff.1 hv
  have hl6 := H.len
  have e : (1 : Int) * 2 ^ l.length = 2 ^ l.length := Int.one_mul _
  have e' : ((2 : Int) ^ l.length) = ((2 ^ l.length : Nat) : Int) := by rw [Int.natCast_pow]; rfl
  have h64 : (2 : Nat) ^ l.length ≤ 2 ^ 6 := Nat.pow_le_pow_right (by decide) hl6
  have hpos := Nat.two_pow_pos l.length
  have hO : bestOut m l = (let r := bestV m l ((2 ^ l.length - 1 : Int), 0); cond (!r.2.2) ([], 0, 4) (r.1, r.2.1, 0)) := by rw [bestOut, hv]; rfl
  obtain ⟨a, ha⟩ : ∃ a, a = 2 ^ l.length - 1 := ⟨_, rfl⟩
  have hA : ((2 : Int) ^ l.length - 1) = ((a : Nat) : Int) := by rw [e', ha]; omega
  have hr := best_bd H (pop a) a 0 (by omega) (by omega) ⟨by omega, by omega⟩
  obtain ⟨r, hrr⟩ : ∃ r, r = bestV m l ((2 ^ l.length - 1 : Int), 0) := ⟨_, rfl⟩
  have hr2 : r.1.length ≤ 6 := by
    have h1 : pop a ≤ 6 := Nat.le_trans List.countP_le_length (by simp)
    have : r = bestF m l (pop a) ((a : Int), 0) := by rw [hrr, hA]; rfl
    rw [this]; omega
  have hown : hue_Best_1 ((((1 * 2 ^ (Int.toNat ((l.length : Nat) : Int))) - 1), 0), m, l) = r := by
    rw [hrr, ← e]; rfl
  rw [← hrr] at hO
  refine ⟨⟨⟨by show 0 ≤ (l.length : Int); omega, by show (l.length : Int) < 64; omega⟩, ?_⟩, ?_, ⟨⟨hv, ?_, ?_, show (0 : Int) ≤ 0 by omega, show (0 : Int) ≤ 10000 by omega⟩, ⟨trivial, rfl, rfl, trivial, trivial⟩, rfl, trivial⟩, fun hx => ?_, fun hx => ⟨?_, ?_⟩⟩
  · show Z.in64 (1 * 2 ^ l.length)
    rw [e, e']; simp only [Z.in64]; omega
  · show Z.in64 (1 * 2 ^ l.length - 1)
    rw [e, e']; simp only [Z.in64]; omega
  · show (0 : Int) ≤ 1 * 2 ^ l.length - 1
    rw [e, e']; omega
  · show (1 : Int) * 2 ^ l.length - 1 < 2 ^ l.length
    rw [e]; omega
  · have hx : (!(hue_Best_1 ((((1 * 2 ^ (Int.toNat ((l.length : Nat) : Int))) - 1), 0), m, l)).2.2) = true := hx
    rw [hown] at hx
    show (([] : List Turn), (0 : Int), (4 : Int)) = bestOut m l
    rw [hO]; simp only; rw [hx]; rfl
  · show (hue_Best_1 ((((1 * 2 ^ (Int.toNat ((l.length : Nat) : Int))) - 1), 0), m, l)).1.length ≤ big
    rw [hown]; simp only [big]; omega
  · have hx : (!(hue_Best_1 ((((1 * 2 ^ (Int.toNat ((l.length : Nat) : Int))) - 1), 0), m, l)).2.2) = false := hx
    rw [hown] at hx
    show (slices_Clone_Lapi_Turn_api_Turn (hue_Best_1 ((((1 * 2 ^ (Int.toNat ((l.length : Nat) : Int))) - 1), 0), m, l)).1, (hue_Best_1 ((((1 * 2 ^ (Int.toNat ((l.length : Nat) : Int))) - 1), 0), m, l)).2.1, (0 : Int)) = bestOut m l
    rw [hown, hO]; simp only; rw [hx]; rfl
theorem v11 (x : Unit) (_ : k11.pre x) : V11 x := by
  refine ⟨trivial, trivial, trivial, trivial, trivial, trivial, trivial, trivial, trivial, ?_, fun _ => ?_, ?_⟩
  · exact Nat.le_of_ble_eq_true (by kernel_rfl)
  · exact Nat.le_of_ble_eq_true (by kernel_rfl)
  · kernel_rfl
theorem v3 (x : Mill × (List Hue) × (List Turn) × Int × Int) (_ : k3.pre x) : V3 x := by
  obtain ⟨m, l, plan, a, b⟩ := x
  refine ⟨trivial, fun _ => ⟨trivial, rfl⟩, fun h => ?_⟩
  have h : (law08u_large (l, 6) || decide ((16 : Int) < (plan.length : Int))) = false := h
  simp only [law08u_large, Bool.or_eq_false_iff, decide_eq_false_iff_not] at h
  have hb1 : l.length ≤ big := by simp only [big]; omega
  have hb2 : plan.length ≤ big := by simp only [big]; omega
  have hS : (stainsV m l plan).1.length ≤ big := by
    unfold stainsV
    cases validB m l <;> cases planB l plan <;> simp [big] <;> omega
  refine ⟨trivial, ⟨hb1, hb2⟩, trivial, ⟨hb1, hb2⟩, trivial, hb1, hS, fun _ => trivial, ?_⟩
  refine bool_ext ?_
  simp only [law08u_HueStains, law08u_awake, hue_Stains, ref08u_Stains, hue_Shows, ref08u_Shows, hue_Wash, ref08u_Wash, ref08u_Spans, beq_self_eq_true, decide_true, Bool.and_self]
end Go.Hue
