/-
  Chapter 12: the conditions, proved; fourth part: Light, Fast, Grade, Clash, Until.
-/
import Derived.Test.YtjnnbmgodbhofaaFadeP3
set_option linter.all false
set_option maxRecDepth 100000
namespace Go.Fade
open Go Go.Sx
theorem open_ok {f : Fading} {valid : Bool} (h : ((openV f valid).2 == 0) = true) : OkC f ∧ valid = true ∧ ∃ b, openV f valid = (some b, 0) ∧ enterL noBounds (allL f) = some b ∧ Inv (known f) b := by
 unfold openV at h ⊢
 cases hc : cardsB f with
 | false => rw [hc] at h; have h : false = true := h; cases h
 | true =>
  rw [hc] at h
  cases valid with
  | false => have h : false = true := h; cases h
  | true =>
   have O := cards_iff.1 hc
   cases he : enterL noBounds (allL f) with
   | none => rw [he] at h; have h : false = true := h; cases h
   | some b => exact ⟨O, rfl, b, rfl, rfl, (all_in O).2 b he⟩
theorem aboveV_eq (b : Bds) (p q : Nat) : aboveV (some b) (p : Int) (q : Int) = gt b p q := rfl
theorem above_bd {f : Fading} {b : Bds} (h : Inv (known f) b) {p q : Nat} (hp : known f p) (hq : known f q) : -16777216 ≤ gt b p q ∧ gt b p q ≤ 16777216 := ⟨h.lo hp hq, h.hi hp hq⟩
theorem aboveP_of {f : Fading} {b : Bds} (h : Inv (known f) b) {p q : Nat} (hp : known f p) (hq : known f q) : aboveP (some b) (p : Int) (q : Int) := by
 have := h.lt p hp
 have := h.lt q hq
 exact ⟨rfl, ⟨by omega, by omega⟩, by omega, by omega⟩
theorem known0 (f : Fading) : known f 0 := by unfold known withAll; omega
theorem v14 (x : Fading × Int) (hp : k14.pre x) : V14 x := by
 obtain ⟨f, m⟩ := x
 have hp : sizeP f := hp
 have e : fade_Light (f, m) = lightV f m := rfl
 refine ⟨trivial, hp, fun h => ?_, fun h => ?_⟩
 ·have h : (!((openV f (inB m 0 (f.1.length : Int))).2 == 0)) = true := h
  rw [e, lightV]
  simp only
  rw [h]; rfl
 ·have h : (!((openV f (inB m 0 (f.1.length : Int))).2 == 0)) = false := h
  obtain ⟨O, hv, b, hb, _, hI⟩ := open_ok (not_iff.2.1 h)
  obtain ⟨p, rfl, hk, _⟩ := month_known O (inB_iff.1 hv)
  have e1 : fade_open (f, fade_within ((p : Int), 0, (f.1.length : Int))) = (some b, 0) := hb
  have h0 := above_bd hI (known0 f) hk
  refine ⟨⟨?_, ?_, ?_⟩, ?_⟩
  ·show aboveP (fade_open (f, fade_within ((p : Int), 0, (f.1.length : Int)))).1 ((0 : Nat) : Int) (p : Int)
   rw [e1]; exact aboveP_of hI (known0 f) hk
  ·show aboveP (fade_open (f, fade_within ((p : Int), 0, (f.1.length : Int)))).1 (p : Int) ((0 : Nat) : Int)
   rw [e1]; exact aboveP_of hI hk (known0 f)
  ·show Z.in64 (-(aboveV (fade_open (f, fade_within ((p : Int), 0, (f.1.length : Int)))).1 ((0 : Nat) : Int) (p : Int)))
   rw [e1, aboveV_eq]
   simp only [Z.in64]; omega
  ·rw [e, lightV]
   simp only
   rw [h]; rfl
theorem v16 (x : Fading × Int × Int) (hp : k16.pre x) : V16 x := by
 obtain ⟨f, what, index⟩ := x
 have hp : sizeP f := hp
 have e : fade_Fast (f, what, index) = fastV f what index := rfl
 refine ⟨hp.2.1, hp, fun h => ?_, fun h => ?_⟩
 ·have h : (!((openV f (thingB f what index)).2 == 0)) = true := h
  rw [e, fastV]
  simp only
  rw [h]; rfl
 ·have h : (!((openV f (thingB f what index)).2 == 0)) = false := h
  obtain ⟨O, hv, b, hb, _, hI⟩ := open_ok (not_iff.2.1 h)
  have ht := (thing_iff O.ns).1 hv
  obtain ⟨p, ep, hk, _⟩ := of_known O ht
  have e1 : fade_open (f, fade_isThing (f, what, index)) = (some b, 0) := hb
  have e2 : fade_of (what, index) = (p : Int) := ep
  have h0 := above_bd hI (known0 f) hk
  have hr := O.nr
  have hs := O.ns
  refine ⟨?_, ⟨?_, ?_, ?_⟩, ?_⟩
  ·show ((0 ≤ what ∧ what < 2) ∧ 0 ≤ index ∧ index ≤ 100); omega
  ·show aboveP (fade_open (f, fade_isThing (f, what, index))).1 ((0 : Nat) : Int) (fade_of (what, index))
   rw [e1, e2]; exact aboveP_of hI (known0 f) hk
  ·show aboveP (fade_open (f, fade_isThing (f, what, index))).1 (fade_of (what, index)) ((0 : Nat) : Int)
   rw [e1, e2]; exact aboveP_of hI hk (known0 f)
  ·show Z.in64 (-(aboveV (fade_open (f, fade_isThing (f, what, index))).1 ((0 : Nat) : Int) (fade_of (what, index))))
   rw [e1, e2, aboveV_eq]
   simp only [Z.in64]; omega
  ·rw [e, fastV]
   simp only
   rw [h]; rfl
theorem ref_known {f : Fading} {k : Nat} (h : k < f.2.1.length) : known f (13 + k) := by unfold known withAll; omega
theorem v18 (x : Fading × Int) (hp : k18.pre x) : V18 x := by
 obtain ⟨f, index⟩ := x
 have hp : sizeP f := hp
 have e : fade_Grade (f, index) = gradeV f index := rfl
 refine ⟨trivial, hp, fun h => ?_, fun h => ?_⟩
 ·have h : (!((openV f (inB index 0 (less1 f.2.2.1))).2 == 0)) = true := h
  rw [e, gradeV]
  simp only
  rw [h]; rfl
 ·have h : (!((openV f (inB index 0 (less1 f.2.2.1))).2 == 0)) = false := h
  obtain ⟨O, hv, b, hb, _, hI⟩ := open_ok (not_iff.2.1 h)
  have hr := O.nr
  have hs := O.ns
  rw [less1u_of O.ns, inB_iff] at hv
  obtain ⟨p, ep, hk, _⟩ := of_known O (what := 1) (index := index) (.inr ⟨rfl, hv.1, by omega⟩)
  have ep : 21 + index = (p : Int) := ep
  have e1 : fade_open (f, fade_within (index, 0, less1 f.2.2.1)) = (some b, 0) := hb
  have e2 : fade_point_plus (14, index) = (p : Int) := ep
  have eR : fade_Grade (f, index) = (gradeGo (some b) (p : Int) f.2.1.length 0 (0, 0), 0) := by
   rw [e, gradeV]
   show cond (!((openV f (inB index 0 (less1 f.2.2.1))).2 == 0)) ((0, 0), (openV f (inB index 0 (less1 f.2.2.1))).2) (gradeGo (openV f (inB index 0 (less1 f.2.2.1))).1 (21 + index) f.2.1.length 0 (0, 0), 0) = _
   rw [h, cond_false, show openV f (inB index 0 (less1 f.2.2.1)) = (some b, 0) from hb, ep]
  obtain ⟨R, hR⟩ : ∃ R, R = gradeGo (some b) (p : Int) f.2.1.length 0 (0, 0) := ⟨_, rfl⟩
  rw [← hR] at eR
  refine ⟨?_, ?_⟩
  ·show (((14 : Int) = 13 ∨ (14 : Int) = 14) ∧ 0 ≤ index ∧ index ≤ 100); omega
  refine ⟨fun s => ∃ k : Nat, s.1 = (k : Int) ∧ k ≤ f.2.1.length ∧ R = gradeGo (some b) (p : Int) (f.2.1.length - k) k s.2 ∧ (0 ≤ s.2.1 ∧ s.2.1 ≤ (k : Int)) ∧ 0 ≤ s.2.2 ∧ s.2.2 ≤ (k : Int), fun s => ((f.2.1.length : Int) - s.1).toNat, ⟨0, rfl, by omega, hR, by simp, by simp⟩, ?_⟩
  rintro ⟨k0, lo, hi⟩ ⟨k, rfl, hkl, hG, hlo, hhi⟩
  have hlo : 0 ≤ lo ∧ lo ≤ (k : Int) := hlo
  have hhi : 0 ≤ hi ∧ hi ≤ (k : Int) := hhi
  refine ⟨fun hk1 => ?_, fun hk1 => ?_⟩
  ·have hk1 : (k : Int) < (f.2.1.length : Int) := of_decide_eq_true hk1
   have hkl' : k < f.2.1.length := by omega
   have kk := ref_known hkl'
   have pp : fade_point_plus_p (13, (k : Int)) := by show (((13 : Int) = 13 ∨ (13 : Int) = 14) ∧ 0 ≤ (k : Int) ∧ (k : Int) ≤ 100); omega
   have e3 : fade_point_plus (13, (k : Int)) = ((13 + k : Nat) : Int) := by
    show 13 + (k : Int) = _
    omega
   have a1 : fade_bounds_above_p ((fade_open (f, fade_within (index, 0, less1 f.2.2.1))).1, fade_point_plus (13, (k : Int)), fade_point_plus (14, index)) := by
    rw [e1, e2, e3]; exact aboveP_of hI kk hk
   have a2 : fade_bounds_above_p ((fade_open (f, fade_within (index, 0, less1 f.2.2.1))).1, fade_point_plus (14, index), fade_point_plus (13, (k : Int))) := by
    rw [e1, e2, e3]; exact aboveP_of hI hk kk
   have b1 : fade_bounds_above ((fade_open (f, fade_within (index, 0, less1 f.2.2.1))).1, fade_point_plus (13, (k : Int)), fade_point_plus (14, index)) = aboveV (some b) (13 + (k : Int)) (p : Int) := by
    rw [e1, e2]; rfl
   have b2 : fade_bounds_above ((fade_open (f, fade_within (index, 0, less1 f.2.2.1))).1, fade_point_plus (14, index), fade_point_plus (13, (k : Int))) = aboveV (some b) (p : Int) (13 + (k : Int)) := by
    rw [e1, e2]; rfl
   rw [show f.2.1.length - k = (f.2.1.length - (k + 1)) + 1 by omega, gradeGo] at hG
   have ms : ((f.2.1.length : Int) - ((k : Int) + 1)).toNat < ((f.2.1.length : Int) - (k : Int)).toNat := by omega
   refine ⟨pp, a1, fun c1 => ⟨?_, pp, a2, fun c2 => ⟨?_, ?_, ⟨k + 1, ?_, hkl', ?_, ?_, ?_⟩, ms⟩, fun c2 => ⟨?_, ⟨k + 1, ?_, hkl', ?_, ?_, ?_⟩, ms⟩⟩, fun c1 => ⟨pp, a2, fun c2 => ⟨?_, ?_, ⟨k + 1, ?_, hkl', ?_, ?_, ?_⟩, ms⟩, fun c2 => ⟨?_, ⟨k + 1, ?_, hkl', ?_, ?_, ?_⟩, ms⟩⟩⟩
   all_goals try (simp only [Z.in64]; omega)
   all_goals try (show (k : Int) + 1 = ((k + 1 : Nat) : Int); omega)
   ·have c1 : decide (aboveV (some b) (13 + (k : Int)) (p : Int) ≤ 0) = true := by rw [← b1]; exact c1
    have c2 : decide (0 ≤ aboveV (some b) (p : Int) (13 + (k : Int))) = true := by rw [← b2]; exact c2
    rw [c1, c2] at hG; exact hG
   ·have c1 : decide (aboveV (some b) (13 + (k : Int)) (p : Int) ≤ 0) = true := by rw [← b1]; exact c1
    have c2 : decide (0 ≤ aboveV (some b) (p : Int) (13 + (k : Int))) = false := by rw [← b2]; exact c2
    rw [c1, c2, cond_true, cond_false, Int.add_zero] at hG; exact hG
   ·have c1 : decide (aboveV (some b) (13 + (k : Int)) (p : Int) ≤ 0) = false := by rw [← b1]; exact c1
    have c2 : decide (0 ≤ aboveV (some b) (p : Int) (13 + (k : Int))) = true := by rw [← b2]; exact c2
    rw [c1, c2, cond_true, cond_false, Int.add_zero] at hG; exact hG
   ·have c1 : decide (aboveV (some b) (13 + (k : Int)) (p : Int) ≤ 0) = false := by rw [← b1]; exact c1
    have c2 : decide (0 ≤ aboveV (some b) (p : Int) (13 + (k : Int))) = false := by rw [← b2]; exact c2
    rw [c1, c2, cond_false, Int.add_zero, Int.add_zero] at hG; exact hG
  ·have hk1 : ¬ (k : Int) < (f.2.1.length : Int) := of_decide_eq_false hk1
   rw [show f.2.1.length - k = 0 by omega, gradeGo] at hG
   rw [eR, hG]
theorem v22 (x : Fading × Int × Span) (hp : k22.pre x) : V22 x := by
 obtain ⟨f, index, more⟩ := x
 have hp : sizeP f := hp
 have e : fade_Until (f, index, more) = untilV f index more := rfl
 refine ⟨hp.2.1, fun _ => trivial, hp, fun h => ?_, fun h => ?_⟩
 ·have h : (!((openV f (thingB f 0 index && spanB more 0 1000000)).2 == 0)) = true := h
  rw [e, untilV]
  simp only
  rw [h]; rfl
 ·have h : (!((openV f (thingB f 0 index && spanB more 0 1000000)).2 == 0)) = false := h
  obtain ⟨O, hv, b, hb, _, hI⟩ := open_ok (not_iff.2.1 h)
  rw [Bool.and_eq_true, span_iff] at hv
  have ht := (thing_iff O.ns).1 hv.1
  have hr := O.nr
  have hm := O.nm
  obtain ⟨p, ep, hk, _⟩ := of_known O ht
  have hi : 0 ≤ index ∧ index < (f.2.1.length : Int) := by omega
  have ep : 13 + index = (p : Int) := ep
  obtain ⟨q, eq, hq, _⟩ := month_known O (m := (f.1.length : Int)) ⟨by omega, by omega⟩
  have e1 : fade_open (f, fade_isThing (f, 0, index) && fade_isSpan (more, 0, 1000000)) = (some b, 0) := hb
  have e2 : fade_point_plus (13, index) = (p : Int) := ep
  have bd := above_bd hI hk hq
  obtain ⟨g, hg⟩ : ∃ g, g = gt b p q := ⟨_, rfl⟩
  rw [← hg] at bd
  have e3 : fade_bounds_above ((fade_open (f, fade_isThing (f, 0, index) && fade_isSpan (more, 0, 1000000))).1, fade_point_plus (13, index), (f.1.length : Int)) = g := by
   rw [e1, e2, eq, hg]; rfl
  have eV : untilV f index more = cond (decide (g ≤ 0)) (0, 0) (cond (more.1 == 0) (0, 4) ((g + more.1 - 1).tdiv more.1, 0)) := by
   rw [untilV]
   simp only
   rw [h, cond_false, show openV f (thingB f 0 index && spanB more 0 1000000) = (some b, 0) from hb, ep, eq, aboveV_eq, ← hg]
  dsimp only
  rw [e3, e, eV]
  refine ⟨?_, ?_, fun c1 => ?_, fun c1 => ⟨fun c2 => ?_, fun c2 => ⟨?_, ?_, ⟨?_, ?_⟩, ?_⟩⟩⟩
  ·show (((13 : Int) = 13 ∨ (13 : Int) = 14) ∧ 0 ≤ index ∧ index ≤ 100); omega
  ·rw [e1, e2, eq]; exact aboveP_of hI hk hq
  ·rw [c1]; rfl
  ·rw [c1, c2]; rfl
  ·simp only [Z.in64]; omega
  ·simp only [Z.in64]; omega
  ·intro h0; rw [h0] at c2; exact absurd c2 (by decide)
  ·have h1 : more.1 ≠ 0 := fun h0 => by rw [h0] at c2; exact absurd c2 (by decide)
   have c1 : ¬ g ≤ 0 := of_decide_eq_false c1
   have hnn : 0 ≤ (g + more.1 - 1).tdiv more.1 := Int.tdiv_nonneg (by omega) (by omega)
   have hle : (g + more.1 - 1).tdiv more.1 ≤ g + more.1 - 1 := by
    rw [Int.tdiv_eq_ediv_of_nonneg (by omega)]
    exact Int.ediv_le_self _ (by omega)
   simp only [Z.in64]; omega
  ·rw [c1, c2]; rfl
theorem enter1 (b : Bds) (r : Rule) : enterL b [r] = cond (okR b r) (some (putR b r)) none := rfl
theorem v20 (x : Fading) (hp : k20.pre x) : V20 x := by
 have hp : sizeP x := hp
 have e : fade_Clash x = clashV x := rfl
 refine ⟨hp, fun h => ?_, fun h => ⟨trivial, trivial, ⟨⟨rfl, not_iff.2.1 h⟩, trivial, trivial⟩, fun hok => ⟨trivial, fun h' => (by cases h'), fun _ => ⟨not_iff.2.1 h, not_iff.2.1 h, ?_⟩⟩, fun hbad => ⟨trivial, fun _ => ?_, fun h' => (by cases h')⟩⟩⟩
 ·rw [e, clashV, show (!cardsB x) = true from h]; rfl
 ·have hc : cardsB x = true := not_iff.2.1 h
  have O := cards_iff.1 hc
  have hok : (enterL noBounds (riseL x)).isSome = true := hok
  obtain ⟨b₁, hb₁⟩ := Option.isSome_iff_exists.1 hok
  obtain ⟨R, hR⟩ : ∃ R, R = clashGo b₁ (checksL x) 0 := ⟨_, rfl⟩
  have eR : fade_Clash x = R := by
   rw [e, clashV, hc, hb₁, hR]; rfl
  have e1 : fade_Clash_1 (fade_newBounds (), x) = b₁ := by
   show (enterL noBounds (riseL x)).getD [] = b₁
   rw [hb₁]; rfl
  rw [eR, e1]
  refine ⟨fun q s => ∃ (l : List Rule) (i : Int), q = numb l i ∧ enterP s.2.2 l ∧ R = clashGo s.2.2 l i, ⟨checksL x, 0, rfl, (enter_in ((rise_in O).2 b₁ hb₁) (checks_among O)).1, hR⟩, ?_, ?_⟩
  ·rintro ee q ⟨r1, r2, b⟩ ⟨l, i, hq, hPl, hEl⟩
   cases l with
   | nil => cases hq
   | cons r l =>
    obtain ⟨rfl, rfl⟩ := List.cons.inj hq
    obtain ⟨p1, p2, p3⟩ := hPl
    simp only [clashGo] at hEl
    have ok : fade_Clash_2u_ok (b, r) = okR b r := by
     show (enterL b [r]).isSome = _
     rw [enter1]
     cases okR b r <;> rfl
    refine ⟨trivial, ⟨⟨p1, p2, fun _ => trivial⟩, trivial, trivial⟩, fun h1 => ⟨trivial, fun h' => (by cases h'), fun _ => ⟨trivial, l, i + 1, rfl, ?_, ?_⟩⟩, fun h1 => ⟨trivial, fun _ => ?_, fun h' => (by cases h')⟩⟩
    ·have h1 : okR b r = true := ok ▸ h1
     show enterP ((enterL b [r]).getD []) l
     rw [enter1, h1]
     exact p3 h1
    ·have h1 : okR b r = true := ok ▸ h1
     show R = clashGo ((enterL b [r]).getD []) l (i + 1)
     rw [enter1, h1]
     rw [h1] at hEl
     exact hEl
    ·have h1 : okR b r = false := ok ▸ h1
     rw [h1] at hEl
     exact hEl.symm
  ·rintro ⟨r1, r2, b⟩ ⟨l, i, hq, hPl, hEl⟩
   cases l with
   | cons r l => cases hq
   | nil => exact hEl.symm
 ·have hbad : (enterL noBounds (riseL x)).isSome = false := hbad
  rw [e, clashV, show (!cardsB x) = false from h]
  cases he : enterL noBounds (riseL x) with
  | some _ => rw [he] at hbad; cases hbad
  | none => rfl
end Go.Fade
