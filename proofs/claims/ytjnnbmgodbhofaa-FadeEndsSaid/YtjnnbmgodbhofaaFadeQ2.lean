/-
  Chapter 12: FadeEnds, the conditions.
-/
import Derived.Test.YtjnnbmgodbhofaaFadeQ1
set_option linter.all false


set_option maxRecDepth 1000000
namespace Go.Fade
open Go Go.Sx

theorem v28 (x : Fading) (hp : k28.pre x) : V28 x := ⟨hp, rfl⟩
theorem v30 (x : Int × Fading × Int × Fun Fading Bool) (hp : k30.pre x) : V30 x := by
  obtain ⟨n, f, index, KN⟩ := x
  obtain ⟨⟨h1, h2, h3⟩, h4, h5⟩ : (f.1.length ≤ 100 ∧ f.2.1.length ≤ 100 ∧ f.2.2.2.length ≤ 100) ∧ (0 ≤ index ∧ index < (f.2.1.length : Int)) ∧ ∀ y, sizeP y → KN.pre y := hp
  refine ⟨roomy_of (by omega) (by omega) ?_, trivial, h4, h5 _ ⟨?_, ?_, ?_⟩, rfl⟩
  · show (f.2.1.length : Int) ≤ _; omega
  · show f.1.length ≤ big; simp only [big]; omega
  · show (f.2.1.set index.toNat _).length ≤ big
    rw [List.length_set]; simp only [big]; omega
  · show f.2.2.2.length ≤ big; simp only [big]; omega
theorem v29 (x : Int × Fading × Int × Fun Fading Bool) (hp : k29.pre x) : V29 x := by
  obtain ⟨n, f, month, KN⟩ := x
  obtain ⟨⟨h1, h2, h3⟩, ⟨h4, h5⟩, ⟨h6, h7⟩, h8⟩ : (f.1.length ≤ 100 ∧ f.2.1.length ≤ 100 ∧ f.2.2.2.length ≤ 100) ∧ (-1099511627776 ≤ n ∧ n ≤ 1099511627776) ∧ (0 ≤ month ∧ month ≤ 100) ∧ ∀ y, sizeP y → KN.pre y := hp
  have e : law12u_FadeEnds_2 (n, f, month, KN) = cond (moreB f n) true (KN.val (moreF f n month)) := rfl
  have n1 : Z.in64 (n + 1) := by simp only [Z.in64]; omega
  have l1 : ((f.1 ++ [((1 : Int), (1 : Int))]).length) = f.1.length + 1 := by rw [List.length_append]; simp
  have l2 : ((f.2.1 ++ [(n + 1, n + 1)]).length) = f.2.1.length + 1 := by rw [List.length_append]; simp
  have l3 : ((f.2.2.2 ++ [(month, (0 : Int), (f.2.1.length : Int), false), (month + 1, 0, (f.2.1.length : Int), true)]).length) = f.2.2.2.length + 2 := by rw [List.length_append]; simp
  refine ⟨roomy_of (by omega) (by omega) ?_, trivial, roomy_of (by omega) (by omega) ?_, roomy_of (by omega) (by omega) ?_, fun _ => n1, fun hh => ?_, fun hh => ?_, fun hb => ?_, fun hb => ⟨n1, n1, trivial, roomy_of (by omega) (by omega) ?_, roomy_of (by omega) (by omega) ?_, ?_, roomy_of (by omega) (by omega) ?_, h8 _ ⟨?_, ?_, ?_⟩, ?_⟩⟩
  · show (f.1.length : Int) ≤ _; omega
  · show ((f.1 ++ [((1 : Int), (1 : Int))]).length : Int) ≤ _; rw [l1]; omega
  · show (f.2.1.length : Int) ≤ _; omega
  · show Z.in64 ((f.2.1.length : Int) - 1); simp only [Z.in64]; omega
  · have h0 : (0 : Int) < (f.2.1.length : Int) := of_decide_eq_true hh.1
    show (0 : Int) ≤ (f.2.1.length : Int) - 1 ∧ (f.2.1.length : Int) - 1 < (f.2.1.length : Int)
    omega
  · rw [e, show moreB f n = true from hb]; rfl
  · show ((f.2.1 ++ [(n + 1, n + 1)]).length : Int) ≤ _; rw [l2]; omega
  · show (f.2.2.2.length : Int) ≤ _; omega
  · show Z.in64 (month + 1); simp only [Z.in64]; omega
  · show ((f.2.2.2 ++ [(month, (0 : Int), (f.2.1.length : Int), false), (month + 1, 0, (f.2.1.length : Int), true)]).length : Int) ≤ _; rw [l3]; omega
  · show (f.1 ++ [((1 : Int), (1 : Int))]).length ≤ big; rw [l1]; simp only [big]; omega
  · show (f.2.1 ++ [(n + 1, n + 1)]).length ≤ big; rw [l2]; simp only [big]; omega
  · show (f.2.2.2 ++ [(month, (0 : Int), (f.2.1.length : Int), false), (month + 1, 0, (f.2.1.length : Int), true)]).length ≤ big; rw [l3]; simp only [big]; omega
  · rw [e, show moreB f n = false from hb]; rfl
theorem mid_bd {lo hi : Int} (h : lo ≤ hi) : lo ≤ lo + (hi - lo).tdiv 2 ∧ lo + (hi - lo).tdiv 2 ≤ hi ∧ 0 ≤ (hi - lo).tdiv 2 ∧ (hi - lo).tdiv 2 ≤ hi - lo := by
  rw [Int.tdiv_eq_ediv_of_nonneg (by omega)]
  omega
theorem v7 (x : Fading × Int × Int × Int) (_ : k7.pre x) : V7 x := by
  obtain ⟨f, month, what, index⟩ := x
  have eV : law12u_FadeEnds (f, month, what, index) = true := rfl
  obtain ⟨KN, hKN⟩ : ∃ KN : Fun Fading Bool, KN = ⟨law12u_FadeEnds_1u_p, law12u_FadeEnds_1⟩ := ⟨_, rfl⟩
  obtain ⟨L, hL⟩ : ∃ L, L = fade_Light (f, month) := ⟨_, rfl⟩
  obtain ⟨S, hS⟩ : ∃ S, S = fade_Fast (f, what, index) := ⟨_, rfl⟩
  rw [V7, eV]
  dsimp only
  rw [← hKN, ← hL, ← hS]
  refine ⟨trivial, fun _ => ⟨trivial, rfl⟩, fun hg => ?_⟩
  have hg : ((greatB f || decide ((37 : Int) < (f.2.2.2.length : Int))) || decide ((6 : Int) ≤ f.2.2.1)) = false := hg
  rw [Bool.or_eq_false_iff, Bool.or_eq_false_iff, decide_eq_false_iff_not, decide_eq_false_iff_not] at hg
  obtain ⟨⟨hg, hn⟩, hn2⟩ := hg
  obtain ⟨g1, g2, g3⟩ := great_of hg
  have h37 : f.2.2.2.length ≤ 37 := by omega
  have hs : sizeP f := ⟨by simp only [big]; omega, by simp only [big]; omega, by simp only [big]; omega⟩
  have fL := light_facts (f := f) month
  have fS := fast_facts (f := f) what index
  rw [show lightV f month = L from hL.symm] at fL
  rw [show fastV f what index = S from hS.symm] at fS
  refine ⟨hs, hs, fun hbad => ?_, fun hok => ?_⟩
  · rw [Bool.and_eq_true] at hbad
    rcases fL with ⟨e, _, eL⟩ | ⟨b, p, _, _, _, _, _, eL⟩
    · rcases fS with ⟨e', _, eS⟩ | ⟨b', p', _, _, _, _, _, _, eS⟩
      · rw [eL, eS]
        exact ⟨fun _ => trivial, rfl⟩
      · rw [eS] at hbad; have h : false = true := hbad.2; cases h
    · rw [eL] at hbad; have h : false = true := hbad.1; cases h
  have hOb : OkC f ∧ ∃ b, enterL noBounds (allL f) = some b := by
    rcases fL with ⟨e, he, eL⟩ | ⟨b, p, _, _, O, hb, _, eL⟩
    · rcases fS with ⟨e', he', eS⟩ | ⟨b', p', _, _, O, _, hb, _, eS⟩
      · rw [eL, eS] at hok
        have h1 : (e == 0) = false := by simpa using he
        have h2 : (e' == 0) = false := by simpa using he'
        have hok : ((!(e == 0)) && (!(e' == 0))) = false := hok
        rw [h1, h2] at hok; exact absurd hok (by decide)
      · exact ⟨O, b', hb⟩
    · exact ⟨O, b, hb⟩
  obtain ⟨O, b, hb⟩ := hOb
  have hc : ref12u_Cards f = true := cards_iff.2 O
  have hI := (all_in O).2 b hb
  have hr := O.nr
  have hm := O.nm
  have SP : ∀ y, sizeP y → KN.pre y := by rw [hKN]; exact fun y h => h
  have lens : f.1.length ≤ 100 ∧ f.2.1.length ≤ 100 ∧ f.2.2.2.length ≤ 100 := ⟨by omega, by omega, by omega⟩
  rw [hc]
  refine ⟨hs, fun h => absurd h (by decide), fun _ => ?_⟩
  refine ⟨fun hA => ?_, fun _ => ?_⟩
  · simp only [Bool.and_eq_true, decide_eq_true_eq, beq_iff_eq] at hA
    obtain ⟨⟨a1, a2⟩, a3⟩ := hA
    rcases fL with ⟨e, he, eL⟩ | ⟨b', p, ep, hp, _, hb', _, eL⟩
    · rw [eL] at a1; exact absurd a1 he
    rw [hb] at hb'; cases hb'
    have hpl : p = f.1.length := by omega
    subst hpl
    have kk : known f f.1.length := by unfold known withAll; omega
    have le : -(gt b 0 f.1.length) ≤ gt b f.1.length 0 := by
      have := hI.tri 0 f.1.length 0 (known0 f) kk (known0 f)
      have := hI.dg 0 (by omega)
      omega
    have bd1 := above_bd hI kk (known0 f)
    have bd2 := above_bd hI (known0 f) kk
    have e2 : ∀ v, -(gt b 0 f.1.length) ≤ v → v ≤ gt b f.1.length 0 → law12u_FadeEnds_2 (v, f, month, KN) = true := by
      intro v h1 h2
      rw [hKN, ep]
      exact ends2 O hb (by omega) h37 h1 h2
    obtain ⟨lo, hlo⟩ : ∃ lo, lo = -(gt b 0 f.1.length) := ⟨_, rfl⟩
    obtain ⟨hi, hhi⟩ : ∃ hi, hi = gt b f.1.length 0 := ⟨_, rfl⟩
    rw [← hlo, ← hhi] at e2 le eL
    have blo : -16777216 ≤ lo ∧ lo ≤ 16777216 := by omega
    have bhi : -16777216 ≤ hi ∧ hi ≤ 16777216 := by omega
    obtain ⟨m1, m2, m3, m4⟩ := mid_bd le
    have pp : ∀ v, -16777216 ≤ v → v ≤ 16777216 → law12u_FadeEnds_2u_p (v, f, month, KN) := fun v h1 h2 => ⟨lens, ⟨by show -1099511627776 ≤ v; omega, by show v ≤ 1099511627776; omega⟩, ⟨by show 0 ≤ month; omega, by show month ≤ 100; omega⟩, SP⟩
    rw [eL]
    dsimp only
    rw [e2 lo (Int.le_refl _) le, e2 hi le (Int.le_refl _), e2 _ m1 m2]
    refine ⟨pp _ blo.1 blo.2, fun _ => pp _ bhi.1 bhi.2, fun _ => ?_, fun _ => ⟨by decide, ?_⟩, fun _ => ?_, fun _ => pp _ (by omega) (by omega), fun h => absurd h (by decide), fun _ => ?_⟩
    · simp only [Z.in64]; omega
    · simp only [Z.in64]; omega
    · simp only [Z.in64]; omega
    refine ⟨fun hB => ?_, fun _ => ⟨trivial, rfl⟩⟩
    simp only [Bool.and_eq_true, beq_iff_eq] at hB
    obtain ⟨b1, b2⟩ := hB
    rcases fS with ⟨e, he, eS⟩ | ⟨b', p, ep, hp, _, ht, hb', _, eS⟩
    · rw [eS] at b1; exact absurd b1 he
    rw [hb] at hb'; cases hb'
    subst b2
    have hix : 0 ≤ index ∧ index < (f.2.1.length : Int) := by omega
    obtain ⟨k, rfl⟩ : ∃ k : Nat, index = (k : Int) := ⟨index.toNat, by omega⟩
    have hk : k < f.2.1.length := by omega
    have hpk : p = 13 + k := by
      have ep : 13 + (k : Int) = (p : Int) := ep
      omega
    subst hpk
    have kk := ref_known hk
    have bd1 := above_bd hI kk (known0 f)
    have bd2 := above_bd hI (known0 f) kk
    obtain ⟨r1, r2, le⟩ := ref_ends O hb hk
    have e3 := fun v hv => ends3 O hb hk (v := v) hv
    rw [← hKN] at e3
    obtain ⟨own, hown⟩ : ∃ own, own = f.2.1.getD k (0, 0) := ⟨_, rfl⟩
    have eown : f.2.1.getD (Int.toNat (k : Int)) (0, 0) = own := hown.symm
    obtain ⟨lo, hlo⟩ : ∃ lo, lo = -(gt b 0 (13 + k)) := ⟨_, rfl⟩
    obtain ⟨hi, hhi⟩ : ∃ hi, hi = gt b (13 + k) 0 := ⟨_, rfl⟩
    rw [← hlo] at e3 le eS r1
    rw [← hhi] at e3 le eS r2
    rw [← hown] at e3 r1 r2
    have ho := O.refs own (by rw [hown]; exact getD_mem f.2.1 (0, 0) k hk)
    obtain ⟨m1, m2, m3, m4⟩ := mid_bd le
    have pp : ∀ v, law12u_FadeEnds_3u_p (v, f, (k : Int), KN) := fun v => ⟨lens, hix, SP⟩
    have E3 : ∀ v, lo ≤ v → v ≤ hi → law12u_FadeEnds_3 (v, f, (k : Int), KN) = true := fun v h1 h2 => (e3 v ⟨by omega, by omega⟩).2 ⟨h1, h2⟩
    rw [eS]
    dsimp only
    rw [E3 lo (Int.le_refl _) le, E3 hi le (Int.le_refl _), E3 _ m1 m2, eown]
    refine ⟨pp _, fun _ => pp _, fun _ => ?_, fun _ => ⟨by decide, ?_⟩, fun _ => ?_, fun _ => pp _, fun h => absurd h (by decide), fun _ => ⟨hix, fun _ => ?_, fun _ => pp _, fun _ => ?_, fun _ => pp _, fun hbad => ?_, fun _ => ⟨trivial, rfl⟩⟩⟩
    · simp only [Z.in64]; omega
    · simp only [Z.in64]; omega
    · simp only [Z.in64]; omega
    · simp only [Z.in64]; omega
    · simp only [Z.in64]; omega
    · exfalso
      simp only [Bool.or_eq_true, Bool.and_eq_true, decide_eq_true_eq] at hbad
      rcases hbad with ((h | h) | ⟨h, h2⟩) | ⟨h, h2⟩
      · omega
      · omega
      · have := (e3 (lo - 1) ⟨by omega, by omega⟩).1 h2
        omega
      · have := (e3 (hi + 1) ⟨by omega, by omega⟩).1 h2
        omega
  · refine ⟨fun hB => ?_, fun _ => ⟨trivial, rfl⟩⟩
    simp only [Bool.and_eq_true, beq_iff_eq] at hB
    obtain ⟨b1, b2⟩ := hB
    rcases fS with ⟨e, he, eS⟩ | ⟨b', p, ep, hp, _, ht, hb', _, eS⟩
    · rw [eS] at b1; exact absurd b1 he
    rw [hb] at hb'; cases hb'
    subst b2
    have hix : 0 ≤ index ∧ index < (f.2.1.length : Int) := by omega
    obtain ⟨k, rfl⟩ : ∃ k : Nat, index = (k : Int) := ⟨index.toNat, by omega⟩
    have hk : k < f.2.1.length := by omega
    have hpk : p = 13 + k := by
      have ep : 13 + (k : Int) = (p : Int) := ep
      omega
    subst hpk
    have kk := ref_known hk
    have bd1 := above_bd hI kk (known0 f)
    have bd2 := above_bd hI (known0 f) kk
    obtain ⟨r1, r2, le⟩ := ref_ends O hb hk
    have e3 := fun v hv => ends3 O hb hk (v := v) hv
    rw [← hKN] at e3
    obtain ⟨own, hown⟩ : ∃ own, own = f.2.1.getD k (0, 0) := ⟨_, rfl⟩
    have eown : f.2.1.getD (Int.toNat (k : Int)) (0, 0) = own := hown.symm
    obtain ⟨lo, hlo⟩ : ∃ lo, lo = -(gt b 0 (13 + k)) := ⟨_, rfl⟩
    obtain ⟨hi, hhi⟩ : ∃ hi, hi = gt b (13 + k) 0 := ⟨_, rfl⟩
    rw [← hlo] at e3 le eS r1
    rw [← hhi] at e3 le eS r2
    rw [← hown] at e3 r1 r2
    have ho := O.refs own (by rw [hown]; exact getD_mem f.2.1 (0, 0) k hk)
    obtain ⟨m1, m2, m3, m4⟩ := mid_bd le
    have pp : ∀ v, law12u_FadeEnds_3u_p (v, f, (k : Int), KN) := fun v => ⟨lens, hix, SP⟩
    have E3 : ∀ v, lo ≤ v → v ≤ hi → law12u_FadeEnds_3 (v, f, (k : Int), KN) = true := fun v h1 h2 => (e3 v ⟨by omega, by omega⟩).2 ⟨h1, h2⟩
    rw [eS]
    dsimp only
    rw [E3 lo (Int.le_refl _) le, E3 hi le (Int.le_refl _), E3 _ m1 m2, eown]
    refine ⟨pp _, fun _ => pp _, fun _ => ?_, fun _ => ⟨by decide, ?_⟩, fun _ => ?_, fun _ => pp _, fun h => absurd h (by decide), fun _ => ⟨hix, fun _ => ?_, fun _ => pp _, fun _ => ?_, fun _ => pp _, fun hbad => ?_, fun _ => ⟨trivial, rfl⟩⟩⟩
    · simp only [Z.in64]; omega
    · simp only [Z.in64]; omega
    · simp only [Z.in64]; omega
    · simp only [Z.in64]; omega
    · simp only [Z.in64]; omega
    · exfalso
      simp only [Bool.or_eq_true, Bool.and_eq_true, decide_eq_true_eq] at hbad
      rcases hbad with ((h | h) | ⟨h, h2⟩) | ⟨h, h2⟩
      · omega
      · omega
      · have := (e3 (lo - 1) ⟨by omega, by omega⟩).1 h2
        omega
      · have := (e3 (hi + 1) ⟨by omega, by omega⟩).1 h2
        omega
end Go.Fade
