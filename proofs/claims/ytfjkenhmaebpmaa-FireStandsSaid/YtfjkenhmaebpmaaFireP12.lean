/-
  Chapter 3: the reference's Stand finds the program's places; FireStands: their conditions proved.
-/
import Derived.Test.YtfjkenhmaebpmaaFireAuto3
set_option linter.all false


set_option maxRecDepth 100000
set_option linter.unusedVariables false
namespace Go.Fire
open Go Go.Sx

theorem tabs_ok3 : TabsOk Go.Proofs.Try.prog T3 := by
  refine ⟨by kernel_rfl, fun p hp => ?_⟩
  simp only [T3, List.mem_cons, List.not_mem_nil, or_false] at hp
  rcases hp with rfl | rfl <;>
    exact ⟨by kernel_rfl, deep_keyed (by kernel_rfl) (of_decide_eq_true (by kernel_rfl)) (by kernel_rfl) (by kernel_rfl), by kernel_rfl⟩
theorem mask_bit : ∀ (t : List Bool) (i : Nat), (mask t).testBit i = t.getD i false
  | [], i => by simp [mask]
  | b :: r, 0 => by
    rw [mask, Nat.testBit_zero]
    cases b <;> simp [Bool.toNat] <;> omega
  | b :: r, i + 1 => by
    rw [mask, Nat.testBit_succ, show (b.toNat + 2 * mask r) / 2 = mask r by cases b <;> simp [Bool.toNat] <;> omega, mask_bit r i]; rfl
theorem mask_rep : ∀ n : Nat, mask (List.replicate n false) = 0
  | 0 => rfl
  | n + 1 => by rw [List.replicate_succ, mask, mask_rep n]; rfl
theorem two_pow_int (p : Nat) : (2 : Int) ^ p = ((2 ^ p : Nat) : Int) := by rw [Int.natCast_pow]; rfl
theorem taken_mask (t : List Bool) (p : Nat) : takenB (maskI t) (p : Int) = t.getD p false := by
  have e : Int.fdiv ((mask t : Nat) : Int) (2 ^ p) = ((mask t / 2 ^ p : Nat) : Int) := by
    rw [two_pow_int, Int.fdiv_eq_ediv_of_nonneg _ (Int.natCast_nonneg _), Int.natCast_ediv]
  unfold takenB maskI
  rw [Int.toNat_natCast, e, Int.toNat_natCast, ← mask_bit, Nat.testBit_eq_decide_div_mod_eq]
  show ((((mask t / 2 ^ p) &&& 1 : Nat) : Int) == 1) = _
  rw [Nat.and_one_is_mod]
  have h : mask t / 2 ^ p % 2 = 0 ∨ mask t / 2 ^ p % 2 = 1 := by omega
  rcases h with h | h <;> rw [h] <;> rfl
theorem getD_setB (t : List Bool) (p i : Nat) (hp : p < t.length) : (t.set p true).getD i false = (t.getD i false || decide (p = i)) := by
  simp only [List.getD_eq_getElem?_getD, List.getElem?_set]
  by_cases h : p = i
  · subst h; simp [hp]
  · simp [h]
theorem take_mask (t : List Bool) (p : Nat) (hp : p < t.length) : takeV (maskI t) (p : Int) = maskI (t.set p true) := by
  have e : ((1 : Int) * 2 ^ ((p : Int).toNat)).toNat = 2 ^ p := by rw [Int.one_mul, Int.toNat_natCast, two_pow_int, Int.toNat_natCast]
  unfold takeV maskI
  rw [e, Int.toNat_natCast]
  congr 1
  apply Nat.eq_of_testBit_eq
  intro i
  rw [Nat.testBit_or, Nat.testBit_two_pow, mask_bit, mask_bit, getD_setB t p i hp]
theorem can_eq (k : Kiln) (l : List Fire) (prog : List Int) (i : Int) (p : Nat) (t : List Bool) :
    (canOf k l prog).val (i, (p : Int), maskI t) = (!t.getD p false && ref03u_Can (k, l.getD i.toNat (0, 0, 0, 0, 0, 0), prog, (p : Int))) := by
  show cond (takenB (maskI t) (p : Int)) false (ref03u_Can (k, l.getD i.toNat (0, 0, 0, 0, 0, 0), prog, (p : Int))) = _
  rw [taken_mask]
  cases t.getD p false <;> rfl
theorem v65 (x : Kiln × Fire × (List Int) × Int) (hp : k65.pre x) : V65 x := ⟨hp, rfl⟩
theorem v64 (x : Kiln × (List Fire) × (List Int) × Int × List Bool) (hp : k64.pre x) : V64 x := by
  obtain ⟨k, l, prog, i, t⟩ := x
  obtain ⟨⟨hk, hf, hq, hl⟩, h1, h2⟩ : (kilnB k = true ∧ l.all fireB = true ∧ progB prog = true ∧ l.length ≤ 8) ∧ (0 ≤ i ∧ i ≤ (l.length : Int)) ∧ t.length = k.1.length := hp
  have K := kiln_iff.1 hk
  have hn := K.len
  obtain ⟨C, hC⟩ : ∃ C : Can, C = (canOf k l prog).val := ⟨_, rfl⟩
  have e0 : ∀ i t, ref03u_many (k, l, prog, i, t) = manyV C k.1.length l.length i (maskI t) := fun i t => by rw [hC]; rfl
  refine ⟨fun h => ?_, fun h => ?_⟩
  · have h : (i == (l.length : Int)) = true := h
    have h : i = (l.length : Int) := by simpa using h
    show (0 : Int) = ref03u_many (k, l, prog, i, t)
    rw [e0, h, manyV, Int.sub_self]; rfl
  have h : (i == (l.length : Int)) = false := h
  have h : i ≠ (l.length : Int) := by simpa using h
  obtain ⟨m, hm⟩ : ∃ m : Nat, ((l.length : Int) - i).toNat = m + 1 := ⟨((l.length : Int) - i).toNat - 1, by omega⟩
  have hm1 : ((l.length : Int) - (i + 1)).toNat = m := by omega
  have hi : (l.length : Int) - ((m : Int) + 1) = i := by omega
  have e1 : manyV C k.1.length l.length i (maskI t) = (List.range k.1.length).foldl (manyStep C (manyG C k.1.length l.length m) i (maskI t)) (manyG C k.1.length l.length m (maskI t)) := by
    rw [manyV, hm, manyG, hi]
  have e2 : ∀ t', ref03u_many (k, l, prog, i + 1, t') = manyG C k.1.length l.length m (maskI t') := fun t' => by
    rw [e0, manyV, hm1]
  have hq' : ∀ t' : List Bool, t'.length = k.1.length → ref03u_many_q (k, l, prog, i, t) (k, l, prog, i + 1, t') := fun t' ht => by
    refine ⟨⟨⟨hk, hf, hq, hl⟩, ⟨?_, ?_⟩, ht⟩, ?_⟩
    · show (0 : Int) ≤ i + 1
      omega
    · show i + 1 ≤ (l.length : Int)
      omega
    · show ((l.length : Int) - (i + 1)).toNat < ((l.length : Int) - i).toNat
      omega
  refine ⟨by simp only [Z.in64]; omega, hq' t h2, fun s => ∃ p : Nat, s.2 = (p : Int) ∧ p ≤ k.1.length ∧ (0 ≤ s.1 ∧ s.1 ≤ 8) ∧ manyV C k.1.length l.length i (maskI t) = ((List.range k.1.length).drop p).foldl (manyStep C (manyG C k.1.length l.length m) i (maskI t)) s.1, fun s => ((k.1.length : Int) - s.2).toNat, ⟨0, rfl, Nat.zero_le _, ?_, ?_⟩, ?_⟩
  · show 0 ≤ ref03u_many (k, l, prog, i + 1, t) ∧ ref03u_many (k, l, prog, i + 1, t) ≤ 8
    rw [e2]
    have := manyG_bd C k.1.length l.length m (maskI t)
    omega
  · show _ = ((List.range k.1.length).drop 0).foldl _ (ref03u_many (k, l, prog, i + 1, t))
    rw [e2, e1, List.drop_zero]
  rintro ⟨acc, p0⟩ ⟨p, rfl, g1, g2, g3⟩
  simp only at g2 g3
  have er : (List.replicate 0 false) ++ t = t := rfl
  refine ⟨fun hd => ?_, fun hd => ?_⟩
  · have hd : (p : Int) < (k.1.length : Int) := of_decide_eq_true hd
    rw [range_drop (by omega), List.foldl_cons] at g3
    have hbr : brokenP (k, l.getD i.toNat (0, 0, 0, 0, 0, 0), prog, (p : Int)) :=
      ⟨⟨hk, by show (0 : Int) ≤ (p : Int); omega, hd⟩, List.all_eq_true.1 hf _ (getD_mem' l _ i h1.1 (by omega)), hq⟩
    have ec : C (i, (p : Int), maskI t) = (!t.getD p false && ref03u_Can (k, l.getD i.toNat (0, 0, 0, 0, 0, 0), prog, (p : Int))) := by rw [hC]; exact can_eq ..
    have ht : p < t.length := by omega
    have tl : (t.set p true).length = k.1.length := by rw [List.length_set]; exact h2
    have nb := manyG_bd C k.1.length l.length m (maskI (t.set p true))
    dsimp only
    rw [er]
    refine ⟨⟨by omega, by omega⟩, fun _ => ⟨h1.1, by omega⟩, fun _ => hbr, fun hv => ?_, fun hv => ?_⟩
    · have hv : C (i, (p : Int), maskI t) = true := by rw [ec]; exact hv
      have es : manyStep C (manyG C k.1.length l.length m) i (maskI t) acc p = max acc (1 + manyG C k.1.length l.length m (maskI (t.set p true))) := by
        rw [manyStep, hv, take_mask t p ht]; rfl
      rw [es] at g3
      have e3 : ref03u_many (k, l, prog, i + 1, t.set ((p : Int).toNat) true) = manyG C k.1.length l.length m (maskI (t.set p true)) := e2 _
      rw [e3]
      refine ⟨roomy_of (by omega) (by omega) (by omega), ⟨by omega, by omega⟩, by simp only [Z.in64]; omega, hq' _ tl, by simp only [Z.in64]; omega, by simp only [Z.in64]; omega, ⟨p + 1, by omega, by omega, by omega, g3⟩, by omega⟩
    · have hv : C (i, (p : Int), maskI t) = false := by rw [ec]; exact hv
      have es : manyStep C (manyG C k.1.length l.length m) i (maskI t) acc p = acc := by rw [manyStep, hv]; rfl
      rw [es] at g3
      exact ⟨by simp only [Z.in64]; omega, ⟨p + 1, by omega, by omega, g2, g3⟩, by omega⟩
  · have hd : ¬ (p : Int) < (k.1.length : Int) := of_decide_eq_false hd
    rw [List.drop_eq_nil_of_le (by simp; omega), List.foldl_nil] at g3
    show acc = ref03u_many (k, l, prog, i, t)
    rw [e0, g3]
theorem v24 (x : Kiln × (List Fire) × List Int) (hp : k24.pre x) : V24 x := by
  obtain ⟨k, l, prog⟩ := x
  obtain ⟨hb, hb2⟩ : k.1.length ≤ big ∧ l.length ≤ big := hp
  have e : ref03u_Stand (k, l, prog) = standV k l prog := rfl
  have ech : ref03u_check (k, l, prog) = fire_check (k, prog, l) := rfl
  rw [V24, e]
  dsimp only
  rw [ech]
  refine ⟨⟨hb, hb2⟩, fun h => ?_, fun h => ?_⟩
  · rw [standV, h]; rfl
  obtain ⟨hk, hf, hq, hl⟩ := checks_ok (by simpa using h)
  have K := kiln_iff.1 hk
  have hn := K.len
  obtain ⟨C, hC⟩ : ∃ C : Can, C = (canOf k l prog).val := ⟨_, rfl⟩
  obtain ⟨np, hnp⟩ : ∃ np, np = k.1.length := ⟨_, rfl⟩
  obtain ⟨nl, hnl⟩ : ∃ nl, nl = l.length := ⟨_, rfl⟩
  have eS : standV k l prog = (standGo C np nl nl 0 0, 0) := by rw [standV, h, hC, hnp, hnl]; rfl
  rw [eS]
  have eM : ∀ i t, ref03u_many (k, l, prog, i, t) = manyV C np nl i (maskI t) := fun i t => by rw [hC, hnp, hnl]; rfl
  have pM : ∀ (i : Int) (t : List Bool), (0 ≤ i ∧ i ≤ (nl : Int)) → t.length = np → ref03u_many_p (k, l, prog, i, t) := fun i t h1 h2 =>
    ⟨⟨hk, hf, hq, hl⟩, by rw [hnl] at h1; exact h1, by rw [hnp] at h2; exact h2⟩
  simp only [eM, ← hnp, ← hnl]
  have er : ∀ t : List Bool, (List.replicate 0 false) ++ t = t := fun t => rfl
  simp only [er]
  refine ⟨⟨⟨by omega, by omega⟩, roomy_of (by omega) (by omega) (by omega)⟩, fun s => ∃ i : Nat, s.2.2 = (i : Int) ∧ i ≤ nl ∧ s.1.length = i ∧ s.2.1.length = np ∧ standGo C np nl nl 0 0 = s.1 ++ standGo C np nl (nl - i) i (maskI s.2.1), fun s => ((nl : Int) - s.2.2).toNat,
    ⟨0, rfl, Nat.zero_le _, rfl, ?_, ?_⟩, ?_⟩
  · show (List.replicate ((np : Int).toNat) false).length = np
    rw [Int.toNat_natCast, List.length_replicate]
  · show _ = [] ++ standGo C np nl nl 0 (maskI (List.replicate ((np : Int).toNat) false))
    rw [maskI, Int.toNat_natCast, mask_rep]; rfl
  rintro ⟨out, t, i0⟩ ⟨i, rfl, g1, g2, g3, g4⟩
  simp only at g2 g3 g4
  refine ⟨fun hd => ?_, fun hd => ?_⟩
  rotate_left
  · have hd : ¬ (i : Int) < (nl : Int) := of_decide_eq_false hd
    rw [show nl - i = 0 by omega, standGo, List.append_nil] at g4
    rw [g4]
  have hd : (i : Int) < (nl : Int) := of_decide_eq_true hd
  dsimp only
  obtain ⟨r, hr⟩ : ∃ r, nl - i = r + 1 := ⟨nl - i - 1, by omega⟩
  have hr' : nl - (i + 1) = r := by omega
  rw [hr, standGo] at g4
  obtain ⟨P, hP⟩ : ∃ P, P = placeAt C np nl (i : Int) (maskI t) np 0 := ⟨_, rfl⟩
  rw [← hP] at g4
  refine ⟨pM _ _ ⟨by omega, by omega⟩ g3, fun s => ∃ p : Nat, s.2.2 = (p : Int) ∧ p ≤ np ∧ s.1.length = np ∧ ((s.2.1 = -1 ∧ s.1 = t ∧ P = placeAt C np nl (i : Int) (maskI t) (np - p) p) ∨ (0 ≤ s.2.1 ∧ P = s.2.1 ∧ maskI s.1 = takeV (maskI t) P)), fun s => ((np : Int) - s.2.2).toNat,
    ⟨0, rfl, Nat.zero_le _, g3, .inl ⟨rfl, rfl, by rw [hP]; rfl⟩⟩, ?_⟩
  rintro ⟨t', q, p0⟩ ⟨p, rfl, b1, b2, b3⟩
  simp only at b2 b3
  refine ⟨fun he => ?_, fun he => ?_⟩
  · dsimp only
    simp only [Bool.and_eq_true, decide_eq_true_eq, beq_iff_eq] at he
    obtain ⟨he, hq1⟩ := he
    obtain ⟨-, ht, b4⟩ : q = -1 ∧ t' = t ∧ P = placeAt C np nl (i : Int) (maskI t) (np - p) p := by
      rcases b3 with b3 | b3
      · exact b3
      · omega
    clear b3
    subst ht
    subst hq1
    obtain ⟨p', hp'⟩ : ∃ p', np - p = p' + 1 := ⟨np - p - 1, by omega⟩
    have hp'' : np - (p + 1) = p' := by omega
    rw [hp', placeAt] at b4
    have hbr : brokenP (k, l.getD i (0, 0, 0, 0, 0, 0), prog, (p : Int)) :=
      ⟨⟨hk, by show (0 : Int) ≤ (p : Int); omega, by show (p : Int) < (k.1.length : Int); omega⟩, List.all_eq_true.1 hf _ (getD_mem l _ i (by omega)), hq⟩
    have ec : C ((i : Int), (p : Int), maskI t') = (!t'.getD p false && ref03u_Can (k, l.getD i (0, 0, 0, 0, 0, 0), prog, (p : Int))) := by rw [hC]; exact can_eq ..
    have ht : p < t'.length := by omega
    have tl : (t'.set p true).length = np := by rw [List.length_set]; exact g3
    have n1 := manyG_bd C np nl ((nl : Int) - ((i : Int) + 1)).toNat (maskI (t'.set p true))
    refine ⟨⟨by omega, by omega⟩, fun _ => ⟨by omega, by omega⟩, fun _ => hbr, fun hv => ?_, fun hv => ?_⟩
    · have hv : C ((i : Int), (p : Int), maskI t') = true := by rw [ec]; exact hv
      rw [hv, Bool.true_and, take_mask t' p ht] at b4
      refine ⟨roomy_of (by omega) (by omega) (by omega), ⟨by omega, by omega⟩, by simp only [Z.in64]; omega, pM _ _ ⟨by omega, by omega⟩ tl, ?_, fun hw => ⟨by simp only [Z.in64]; omega, trivial, ⟨p + 1, by omega, by omega, tl, .inr ⟨by omega, ?_, ?_⟩⟩, by omega⟩, fun hw => ⟨by simp only [Z.in64]; omega, trivial, ⟨p + 1, by omega, by omega, b2, .inl ⟨rfl, rfl, ?_⟩⟩, by omega⟩⟩
      · rw [Int.toNat_natCast, manyV]; simp only [Z.in64]; omega
      · rw [Int.toNat_natCast] at hw
        rw [hw] at b4; exact b4
      · rw [Int.toNat_natCast] at hw ⊢
        rw [hw, cond_true] at b4
        rw [b4, take_mask t' p ht]
      · rw [Int.toNat_natCast] at hw
        rw [hw, cond_false] at b4
        rw [hp'']; exact b4
    · have hv : C ((i : Int), (p : Int), maskI t') = false := by rw [ec]; exact hv
      rw [hv, Bool.false_and, cond_false] at b4
      exact ⟨by simp only [Z.in64]; omega, trivial, ⟨p + 1, by omega, by omega, b2, .inl ⟨rfl, rfl, by rw [hp'']; exact b4⟩⟩, by omega⟩
  · have e1 : (List.replicate 1 (0 : Int)).set 0 q = [q] := rfl
    have hlen : (out ++ [q]).length = i + 1 := by simp only [List.length_append, List.length_singleton]; omega
    have fin : P = q ∧ maskI t' = cond (P == -1) (maskI t) (takeV (maskI t) P) := by
      rcases b3 with ⟨hq1, ht, b3⟩ | ⟨hq1, b3, b4⟩
      · have hpn : ¬ (p : Int) < (np : Int) := by
          intro hh
          rw [hq1] at he
          simp [hh] at he
        rw [show np - p = 0 by omega, placeAt] at b3
        exact ⟨by omega, by rw [b3, ht]; rfl⟩
      · exact ⟨b3, by rw [show (P == -1) = false by simp; omega, b4]; rfl⟩
    dsimp only
    rw [e1]
    refine ⟨roomy_of (by omega) (by omega) (by omega), by simp only [Z.in64]; omega, ⟨i + 1, by omega, by omega, hlen, b2, ?_⟩, by omega⟩
    show _ = (out ++ [q]) ++ _
    rw [g4, hr', List.append_assoc, ← fin.2, fin.1]; rfl
theorem standGo_len (can : Can) (places len : Nat) : ∀ (n i : Nat) (t : Int), (standGo can places len n i t).length = n
  | 0, _, _ => rfl
  | n + 1, i, t => by rw [standGo, List.length_cons, standGo_len can places len n]
theorem stand_len (k : Kiln) (l : List Fire) (prog : List Int) : (standV k l prog).1.length ≤ l.length := by
  unfold standV
  cases !(fire_check (k, prog, l) == 0) with
  | true => exact Nat.zero_le _
  | false => exact Nat.le_of_eq (standGo_len ..)
theorem v5 (x : Kiln × (List Fire) × List Int) (_ : k5.pre x) : V5 x := by
  obtain ⟨k, l, prog⟩ := x
  refine ⟨fun _ => ⟨trivial, rfl⟩, fun h => ?_⟩
  have h : (((decide ((14 : Int) < (k.1.length : Int)) || decide ((50 : Int) < (prog.length : Int))) || (decide ((4 : Int) < (l.length : Int)) && decide ((l.length : Int) ≤ 8))) || decide ((12 : Int) < (l.length : Int))) = false := h
  simp only [Bool.or_eq_false_iff, decide_eq_false_iff_not] at h
  have hb : k.1.length ≤ big := by simp only [big]; omega
  have hb2 : l.length ≤ big := by simp only [big]; omega
  have e1 : ref03u_Stand (k, l, prog) = fire_Stand (k, l, prog) := rfl
  refine ⟨hb2, ⟨hb, hb2⟩, Nat.le_trans (stand_len k l prog) hb2, fun _ => trivial, ?_⟩
  show _ = true
  dsimp only
  rw [e1]
  have e4 : ref03u_Ints ((fire_Stand (k, l, prog)).1, (fire_Stand (k, l, prog)).1) = true := sameL_refl _
  rw [e4]
  simp [law03u_alive]
end Go.Fire
