/-
  Chapter 12: the conditions, proved; third part: what is known without checks, and with them.
-/
import Derived.Test.YtjnnbmgodbhofaaFadeP2
set_option linter.all false
set_option maxRecDepth 100000
namespace Go.Fade
open Go Go.Sx
theorem enter_step {b : Bds} {l l' : List Rule} {R : Option Bds} (hP : enterP b (l ++ l')) (hE : R = enterL b (l ++ l')) : enterP b l ∧ ((enterL b l).isSome = true → enterP ((enterL b l).getD []) l' ∧ R = enterL ((enterL b l).getD []) l') ∧ ((enterL b l).isSome = false → R = none) := by
 refine ⟨enterP_left hP, fun h => ?_, fun h => ?_⟩
 ·obtain ⟨b', hb⟩ := Option.isSome_iff_exists.1 h
  rw [hb]
  refine ⟨enterP_right hP hb, ?_⟩
  rw [hE, enterL_append, hb]; rfl
 ·have hb : enterL b l = none := by
   cases he : enterL b l with
   | none => rfl
   | some _ => rw [he] at h; cases h
  rw [hE, enterL_append, hb]; rfl
theorem v51 (x : Bds × Fading) (hp : k51.l.pre x) : V51 x := by
 obtain ⟨b₀, f⟩ := x
 obtain ⟨h1, h2⟩ : b₀ = noBounds ∧ cardsB f = true := hp
 subst h1
 have O := cards_iff.1 h2
 have hm := O.nm
 have hr := O.nr
 have hs := O.ns
 obtain ⟨R, hR⟩ : ∃ R, R = enterL noBounds (riseL f) := ⟨_, rfl⟩
 have e1 : fade_bounds_rise_ok (noBounds, f) = R.isSome := by rw [hR]; rfl
 have e2 : fade_bounds_rise (noBounds, f) = R.getD [] := by rw [hR]; rfl
 rw [V51, e1, e2]
 have hP := (rise_in O).1
 rw [riseL] at hP hR
 refine ⟨fun s => ∃ i : Nat, s.1 = (i : Int) ∧ i ≤ f.1.length ∧ enterP s.2 (monthsL (f.1.drop i) i ++ (refsL f.2.1 0 ++ samplesL f.2.2.1.toNat 0)) ∧ R = enterL s.2 (monthsL (f.1.drop i) i ++ (refsL f.2.1 0 ++ samplesL f.2.2.1.toNat 0)), fun s => ((f.1.length : Int) - s.1).toNat, ⟨0, rfl, by omega, hP, hR⟩, ?_⟩
 clear hP hR
 rintro ⟨i0, b⟩ ⟨i, hi0, hi, hP, hE⟩
 simp only at hi0 hP hE
 subst hi0
 refine ⟨fun h => ?_, fun h => ?_⟩
 ·have h : (i : Int) < (f.1.length : Int) := of_decide_eq_true h
  have hil : i < f.1.length := by omega
  obtain ⟨s, hs'⟩ : ∃ s, s = f.1.getD i (0, 0) := ⟨_, rfl⟩
  have e3 : f.1.getD (Int.toNat (i : Int)) (0, 0) = s := hs'.symm
  have hsv := O.months s (by rw [hs']; exact getD_mem _ _ _ hil)
  rw [drop_getD f.1 (0, 0) i hil, ← hs'] at hP hE
  have ee : monthsL (s :: f.1.drop (i + 1)) (i : Int) ++ (refsL f.2.1 0 ++ samplesL f.2.2.1.toNat 0) = [((i : Int) + 1, (i : Int), s.2), ((i : Int), (i : Int) + 1, -s.1)] ++ (monthsL (f.1.drop (i + 1)) ((i : Int) + 1) ++ (refsL f.2.1 0 ++ samplesL f.2.2.1.toNat 0)) := rfl
  rw [ee] at hP hE
  obtain ⟨p1, p2, p3⟩ := enter_step hP hE
  dsimp only
  rw [e3]
  refine ⟨⟨by omega, h⟩, trivial, trivial, ?_, trivial, trivial, trivial, trivial, trivial, trivial, ?_, trivial, trivial, ?_, trivial, trivial, ⟨⟨by show 2 ≤ 10; omega, p1⟩, trivial, trivial⟩, fun hok => ⟨?_, ⟨i + 1, ?_, hil, (p2 hok).1, (p2 hok).2⟩, ?_⟩, fun hbad => ?_⟩
  ·simp only [Z.in64]; omega
  ·simp only [Z.in64]; omega
  ·simp only [Z.in64]; omega
  ·simp only [Z.in64]; omega
  ·show (i : Int) + 1 = ((i + 1 : Nat) : Int); omega
  ·show ((f.1.length : Int) - ((i : Int) + 1)).toNat < ((f.1.length : Int) - (i : Int)).toNat; omega
  ·rw [p3 hbad]; rfl
 have h : ¬ (i : Int) < (f.1.length : Int) := of_decide_eq_false h
 have : i = f.1.length := by omega
 subst this
 rw [List.drop_length, monthsL, List.nil_append] at hP hE
 refine ⟨fun s => ∃ k : Nat, s.1 = (k : Int) ∧ k ≤ f.2.1.length ∧ enterP s.2 (refsL (f.2.1.drop k) k ++ samplesL f.2.2.1.toNat 0) ∧ R = enterL s.2 (refsL (f.2.1.drop k) k ++ samplesL f.2.2.1.toNat 0), fun s => ((f.2.1.length : Int) - s.1).toNat, ⟨0, rfl, by omega, hP, hE⟩, ?_⟩
 clear hP hE h
 rintro ⟨k0, b2⟩ ⟨k, hk0, hk, hP, hE⟩
 simp only at hk0 hP hE
 subst hk0
 refine ⟨fun h => ?_, fun h => ?_⟩
 ·have h : (k : Int) < (f.2.1.length : Int) := of_decide_eq_true h
  have hkl : k < f.2.1.length := by omega
  obtain ⟨s, hs'⟩ : ∃ s, s = f.2.1.getD k (0, 0) := ⟨_, rfl⟩
  have e3 : f.2.1.getD (Int.toNat (k : Int)) (0, 0) = s := hs'.symm
  have hsv := O.refs s (by rw [hs']; exact getD_mem _ _ _ hkl)
  rw [drop_getD f.2.1 (0, 0) k hkl, ← hs'] at hP hE
  obtain ⟨mid, hmid⟩ : ∃ mid : List Rule, mid = cond (decide (0 < (k : Int))) [(13 + ((k : Int) - 1), 13 + (k : Int), -1)] [] := ⟨_, rfl⟩
  have ee : refsL (s :: f.2.1.drop (k + 1)) (k : Int) ++ samplesL f.2.2.1.toNat 0 = [(13 + (k : Int), 0, s.2), (0, 13 + (k : Int), -s.1)] ++ (mid ++ (refsL (f.2.1.drop (k + 1)) ((k : Int) + 1) ++ samplesL f.2.2.1.toNat 0)) := by
   rw [← List.append_assoc mid, hmid]
   rfl
  rw [ee] at hP hE
  obtain ⟨p1, p2, p3⟩ := enter_step hP hE
  dsimp only
  rw [e3]
  have pp : fade_point_plus_p (13, (k : Int)) := by show (((13 : Int) = 13 ∨ (13 : Int) = 14) ∧ 0 ≤ (k : Int) ∧ (k : Int) ≤ 100); omega
  refine ⟨⟨by omega, h⟩, pp, pp, ?_, ⟨⟨by show 2 ≤ 10; omega, p1⟩, trivial, trivial⟩, fun hok => ?_, fun hbad => ?_⟩
  ·simp only [Z.in64]; omega
  ·obtain ⟨hP2, hE2⟩ := p2 hok
   obtain ⟨q1, q2, q3⟩ := enter_step hP2 hE2
   refine ⟨fun hpos => ⟨trivial, trivial, ?_, ?_, trivial, pp, trivial, trivial, ⟨⟨by show 1 ≤ 10; omega, ?_⟩, trivial, trivial⟩, fun hok2 => ⟨?_, ⟨k + 1, ?_, hkl, ?_, ?_⟩, ?_⟩, fun hbad2 => ?_⟩, fun hzero => ⟨?_, ⟨k + 1, ?_, hkl, ?_, ?_⟩, ?_⟩⟩
   all_goals try (have hpos' : 0 < (k : Int) := of_decide_eq_true hpos)
   ·simp only [Z.in64]; omega
   ·show (((13 : Int) = 13 ∨ (13 : Int) = 14) ∧ 0 ≤ (k : Int) - 1 ∧ (k : Int) - 1 ≤ 100); omega
   ·rw [hmid, show decide (0 < (k : Int)) = true from hpos, cond_true] at q1
    exact q1
   ·simp only [Z.in64]; omega
   ·show (k : Int) + 1 = ((k + 1 : Nat) : Int); omega
   ·rw [hmid, show decide (0 < (k : Int)) = true from hpos, cond_true] at q2
    exact (q2 hok2).1
   ·rw [hmid, show decide (0 < (k : Int)) = true from hpos, cond_true] at q2
    exact (q2 hok2).2
   ·show ((f.2.1.length : Int) - ((k : Int) + 1)).toNat < ((f.2.1.length : Int) - (k : Int)).toNat; omega
   ·rw [hmid, show decide (0 < (k : Int)) = true from hpos, cond_true] at q3
    rw [q3 hbad2]; rfl
   ·simp only [Z.in64]; omega
   ·show (k : Int) + 1 = ((k + 1 : Nat) : Int); omega
   ·rw [hmid, show decide (0 < (k : Int)) = false from hzero, cond_false] at hP2
    exact hP2
   ·rw [hmid, show decide (0 < (k : Int)) = false from hzero, cond_false] at hE2
    exact hE2
   ·show ((f.2.1.length : Int) - ((k : Int) + 1)).toNat < ((f.2.1.length : Int) - (k : Int)).toNat; omega
  ·rw [p3 hbad]; rfl
 have h : ¬ (k : Int) < (f.2.1.length : Int) := of_decide_eq_false h
 have : k = f.2.1.length := by omega
 subst this
 rw [List.drop_length, refsL, List.nil_append] at hP hE
 obtain ⟨N, hN⟩ : ∃ N : Nat, f.2.2.1 = (N : Int) := ⟨f.2.2.1.toNat, by omega⟩
 have hN' : f.2.2.1.toNat = N := by omega
 rw [hN'] at hP hE
 refine ⟨fun s => ∃ j : Nat, s.1 = (j : Int) ∧ j ≤ N ∧ enterP s.2 (samplesL (N - j) j) ∧ R = enterL s.2 (samplesL (N - j) j), fun s => ((N : Int) - s.1).toNat, ⟨0, rfl, by omega, hP, hE⟩, ?_⟩
 clear hP hE h
 rintro ⟨j0, b3⟩ ⟨j, hj0, hj, hP, hE⟩
 simp only at hj0 hP hE
 subst hj0
 dsimp only
 rw [hN]
 refine ⟨fun h => ?_, fun h => ?_⟩
 ·have h : (j : Int) < (N : Int) := of_decide_eq_true h
  rw [show N - j = (N - (j + 1)) + 1 by omega] at hP hE
  have ee : samplesL (N - (j + 1) + 1) (j : Int) = [(21 + (j : Int), 0, 16777216), (0, 21 + (j : Int), -1)] ++ samplesL (N - (j + 1)) ((j : Int) + 1) := rfl
  rw [ee] at hP hE
  obtain ⟨p1, p2, p3⟩ := enter_step hP hE
  have pp : fade_point_plus_p (14, (j : Int)) := by show (((14 : Int) = 13 ∨ (14 : Int) = 14) ∧ 0 ≤ (j : Int) ∧ (j : Int) ≤ 100); omega
  refine ⟨trivial, trivial, pp, trivial, trivial, pp, trivial, trivial, ⟨⟨by show 2 ≤ 10; omega, p1⟩, trivial, trivial⟩, fun hok => ⟨?_, ⟨j + 1, ?_, by omega, (p2 hok).1, (p2 hok).2⟩, ?_⟩, fun hbad => ?_⟩
  ·simp only [Z.in64]; omega
  ·show (j : Int) + 1 = ((j + 1 : Nat) : Int); omega
  ·show ((N : Int) - ((j : Int) + 1)).toNat < ((N : Int) - (j : Int)).toNat; omega
  ·rw [p3 hbad]; rfl
 ·have h : ¬ (j : Int) < (N : Int) := of_decide_eq_false h
  rw [show N - j = 0 by omega, samplesL, enterL] at hE
  rw [hE]
  exact ⟨rfl, rfl⟩
theorem v50 (x : Bds × Fading) (hp : k50.l.pre x) : V50 x := ⟨trivial, trivial, ⟨hp, trivial, trivial⟩, fun h => ⟨h, rfl⟩, fun h => h⟩
theorem v53 (x : Bds × Rule) (hp : k53.l.pre x) : V53 x := ⟨trivial, trivial, trivial, ⟨⟨by show 1 ≤ 10; omega, hp⟩, trivial, trivial⟩, fun h => ⟨h, rfl⟩, fun h => h⟩
theorem v52 (x : Fading) (_ : k52.pre x) : V52 x := rfl
theorem v60 (x : Bds × Fading) (hp : k60.l.pre x) : V60 x := by
 obtain ⟨b₀, f⟩ := x
 obtain ⟨h1, h2⟩ : b₀ = noBounds ∧ cardsB f = true := hp
 subst h1
 have O := cards_iff.1 h2
 obtain ⟨R, hR⟩ : ∃ R, R = enterL noBounds (allL f) := ⟨_, rfl⟩
 have e1 : fade_open_1u_ok (noBounds, f) = R.isSome := by rw [hR]; rfl
 have e2 : fade_open_1 (noBounds, f) = R.getD [] := by rw [hR]; rfl
 rw [V60, e1, e2]
 have hP := (all_in O).1
 rw [allL] at hP hR
 obtain ⟨p1, p2, p3⟩ := enter_step hP hR
 refine ⟨trivial, trivial, ⟨⟨rfl, h2⟩, trivial, trivial⟩, fun hok => ⟨h2, h2, fun q b => ∃ (l : List Rule) (i : Int), q = numb l i ∧ enterP b l ∧ R = enterL b l, ⟨checksL f, 0, rfl, (p2 hok).1, (p2 hok).2⟩, ?_, ?_⟩, fun hbad => ?_⟩
 ·rintro e q b ⟨l, i, hq, hPl, hEl⟩
  cases l with
  | nil => cases hq
  | cons r l =>
   obtain ⟨rfl, rfl⟩ := List.cons.inj hq
   have ee : r :: l = [r] ++ l := rfl
   rw [ee] at hPl hEl
   obtain ⟨q1, q2, q3⟩ := enter_step hPl hEl
   refine ⟨trivial, trivial, trivial, ⟨⟨by show 1 ≤ 10; omega, q1⟩, trivial, trivial⟩, fun hok2 => ⟨trivial, l, i + 1, rfl, (q2 hok2).1, (q2 hok2).2⟩, fun hbad2 => ?_⟩
   rw [q3 hbad2]; rfl
 ·rintro b ⟨l, i, hq, hPl, hEl⟩
  cases l with
  | cons r l => cases hq
  | nil =>
   rw [enterL] at hEl
   rw [hEl]
   exact ⟨rfl, rfl⟩
 ·rw [p3 hbad]; rfl
theorem v36 (x : Fading × Bool) (hp : k36.pre x) : V36 x := by
 obtain ⟨f, valid⟩ := x
 have hp : sizeP f := hp
 have e : fade_open (f, valid) = openV f valid := rfl
 refine ⟨hp, fun h => ?_, fun h => ⟨fun hv => ?_, fun hv => ⟨trivial, trivial, ⟨⟨rfl, not_iff.2.1 h⟩, trivial, trivial⟩, fun hok => ⟨trivial, fun h' => (by cases h'), fun _ => ?_⟩, fun hbad => ⟨trivial, fun _ => ?_, fun h' => (by cases h')⟩⟩⟩⟩
 ·rw [e, openV, show (!cardsB f) = true from h]; rfl
 ·rw [e, openV, show (!cardsB f) = false from h, show (!valid) = true from hv]; rfl
 ·rw [e, openV, show (!cardsB f) = false from h, show (!valid) = false from hv]
  have hok : (enterL noBounds (allL f)).isSome = true := hok
  obtain ⟨b, hb⟩ := Option.isSome_iff_exists.1 hok
  show (some ((enterL noBounds (allL f)).getD []), (0 : Int)) = _
  rw [hb]; rfl
 ·rw [e, openV, show (!cardsB f) = false from h, show (!valid) = false from hv]
  have hbad : (enterL noBounds (allL f)).isSome = false := hbad
  cases he : enterL noBounds (allL f) with
  | some _ => rw [he] at hbad; cases hbad
  | none => rfl
theorem mean_val (c : Check) (d : Fun (Int × Int) Rule) : (((fade_meanings ()) c.2.2.2).getD d).val (fade_of (c.2.1, c.2.2.1), c.1) = ruleOf c := by
 unfold fade_meanings ruleOf
 cases c.2.2.2 <;> rfl
theorem mean_pre (c : Check) (d : Fun (Int × Int) Rule) (y : Int × Int) : (((fade_meanings ()) c.2.2.2).getD d).pre y := by
 unfold fade_meanings
 cases c.2.2.2 <;> trivial
theorem v67 (ly : Nat) (x : Fading) (hp : k67.pre x) : V67 ly x := by
 have hp : cardsB x = true := hp
 have O := cards_iff.1 hp
 have hr := O.nr
 have hs := O.ns
 have hc := O.nc
 obtain ⟨N, hN⟩ : ∃ N, N = numb (checksL x) 0 := ⟨_, rfl⟩
 have hN' : fade_checks_1 x = N := hN.symm
 refine ⟨trivial, trivial, trivial, trivial, fun s => s.2.2 = false ∧ ∃ i : Nat, s.1 = (i : Int) ∧ i ≤ x.2.2.2.length ∧ N = s.2.1 ++ numb ((x.2.2.2.drop i).map ruleOf) i, fun s => ((x.2.2.2.length : Int) - s.1).toNat, ⟨rfl, 0, rfl, by omega, hN⟩, ?_⟩
 rintro ⟨i0, out, fl⟩ ⟨g0, i, g1, g2, g3⟩
 simp only at g0 g1 g3
 subst g0 g1
 refine ⟨fun h => ?_, fun h _ => ?_⟩
 ·have h : (i : Int) < (x.2.2.2.length : Int) := of_decide_eq_true h
  have hil : i < x.2.2.2.length := by omega
  obtain ⟨c, hc'⟩ : ∃ c, c = x.2.2.2.getD i (0, 0, 0, false) := ⟨_, rfl⟩
  have e3 : x.2.2.2.getD (Int.toNat (i : Int)) (0, 0, 0, false) = c := hc'.symm
  have hcv := O.checks c (by rw [hc']; exact getD_mem _ _ _ hil)
  rw [drop_getD x.2.2.2 (0, 0, 0, false) i hil, ← hc', List.map_cons, numb] at g3
  dsimp only
  rw [e3, hN']
  rw [mean_val]
  refine ⟨⟨by omega, h⟩, trivial, ?_, mean_pre c _ _, ⟨rfl, rfl⟩, ⟨_, g3⟩, ⟨trivial, fun h' => (by cases h'), fun _ => ⟨?_, ⟨rfl, i + 1, ?_, hil, ?_⟩, ?_⟩⟩, trivial, fun _ h' => (by cases h'), fun h' => (by cases h')⟩
  ·show ((0 ≤ c.2.1 ∧ c.2.1 < 2) ∧ 0 ≤ c.2.2.1 ∧ c.2.2.1 ≤ 100)
   omega
  ·simp only [Z.in64]; omega
  ·show (i : Int) + 1 = ((i + 1 : Nat) : Int); omega
  ·rw [g3]; simp
  ·show ((x.2.2.2.length : Int) - ((i : Int) + 1)).toNat < ((x.2.2.2.length : Int) - (i : Int)).toNat; omega
 ·have h : ¬ (i : Int) < (x.2.2.2.length : Int) := of_decide_eq_false h
  have : i = x.2.2.2.length := by omega
  subst this
  show out = fade_checks_1 x
  rw [hN', g3, List.drop_length]
  simp [numb]
end Go.Fade
