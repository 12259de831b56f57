/-
  Chapter 12: the document's Clash and Until; FadeSpans, FadeClashes: their conditions.
-/
import Derived.Test.YtjnnbmgodbhofaaFadeT4
set_option linter.all false
set_option maxRecDepth 100000
set_option maxHeartbeats 4000000
namespace Go.Fade
open Go Go.Sx
section
variable {f : Fading}
theorem all_cut (m : Nat) : allL (cutF f m) = riseL f ++ (checksL f).take m := by
 show riseL f ++ (f.2.2.2.take m).map ruleOf = _
 rw [List.map_take]; rfl
theorem table_is (m : Nat) : (tableV f m).2 = (enterL noBounds (riseL f ++ (checksL f).take m)).isSome := by
 unfold tableV
 rw [all_cut]
 cases enterL noBounds (riseL f ++ (checksL f).take m) <;> rfl
theorem is_mono {b : Bds} {l : List Rule} {i j : Nat} (h : i ≤ j) (hj : (enterL b (l.take j)).isSome = true) : (enterL b (l.take i)).isSome = true := by
 have e : l.take j = l.take i ++ (l.take j).drop i := by
  have := List.take_append_drop i (l.take j)
  rw [List.take_take, Nat.min_eq_left h] at this
  exact this.symm
 rw [e, enterL_append] at hj
 cases he : enterL b (l.take i) with
 | none => rw [he] at hj; cases hj
 | some b' => rfl
end
theorem v21 (x : Fading) (hp : k21.pre x) : V21 x := by
 have hp : sizeP x := hp
 refine ⟨hp, fun h => ?_, fun h => ?_⟩
 ·have h : cardsB x = false := not_iff.1.1 h
  show _ = clashV x
  rw [clashV, h]; rfl
 have hC : cardsB x = true := not_iff.2.1 h
 have O := cards_iff.1 hC
 have nc := O.nc
 have eC : ref12u_Clash x = (match enterL noBounds (riseL x) with | none => (0, 6) | some b => clashGo b (checksL x) 0) := by
  show clashV x = _
  rw [clashV, hC]; rfl
 rw [eC]
 have is : ∀ m : Nat, (ref12u_TableOf (x, (m : Int))).2 = (enterL noBounds (riseL x ++ (checksL x).take m)).isSome := fun m => by
  show (tableV x (Int.toNat (m : Int))).2 = _
  rw [Int.toNat_natCast]; exact table_is m
 have hlen : (checksL x).length = x.2.2.2.length := by simp [checksL]
 cases hr : enterL noBounds (riseL x) with
 | none =>
  have no : ∀ m : Nat, (ref12u_TableOf (x, (m : Int))).2 = false := fun m => by
   rw [is m, enterL_append, hr]; rfl
  refine ⟨fun s => s = 0, fun _ => 0, rfl, ?_⟩
  rintro _ rfl
  have n0 := no 0
  rw [show ((0 : Nat) : Int) = 0 from rfl] at n0
  refine ⟨fun _ => ⟨⟨hC, Int.le_refl _, Int.natCast_nonneg _⟩, fun _ => rfl, fun h2 => ?_⟩, fun h2 => ?_⟩
  ·rw [n0] at h2; cases h2
  ·have := of_decide_eq_false h2; omega
 | some b =>
  have is' : ∀ m : Nat, (ref12u_TableOf (x, (m : Int))).2 = (enterL b ((checksL x).take m)).isSome := fun m => by
   rw [is m, enterL_append, hr]; rfl
  have spec := clashGo_spec (checksL x) b 0
  refine ⟨fun s => ∃ m : Nat, s = (m : Int) ∧ m ≤ x.2.2.2.length + 1 ∧ ∀ j, j < m → (enterL b ((checksL x).take j)).isSome = true, fun s => ((x.2.2.2.length : Int) + 1 - s).toNat, ⟨0, rfl, by omega, fun j hj => by omega⟩, ?_⟩
  rintro _ ⟨m, rfl, hm, hall⟩
  refine ⟨fun h1 => ?_, fun h1 => ?_⟩
  ·have h1 := of_decide_eq_true h1
   have hm' : m ≤ x.2.2.2.length := by omega
   refine ⟨⟨hC, Int.natCast_nonneg _, h1⟩, fun h2 => ?_, fun _ => ⟨fun h3 => ⟨by simp only [Z.in64]; omega, ?_⟩, fun h3 => ⟨by simp only [Z.in64]; omega, ⟨m + 1, rfl, by omega, fun j hj => ?_⟩, by show ((x.2.2.2.length : Int) + 1 - ((m : Int) + 1)).toNat < ((x.2.2.2.length : Int) + 1 - (m : Int)).toNat; omega⟩⟩⟩
   ·simp only [Bool.and_eq_true, Bool.not_eq_true', beq_iff_eq] at h2
    have : m = 0 := by omega
    subst this
    rw [is' 0] at h2
    cases h2.1
   ·rw [is' m] at h3
    have h3 : (enterL b ((checksL x).take m)).isSome = false := not_iff.1.1 h3
    rcases spec with ⟨_, g2⟩ | ⟨n, g1, g2, g3, g4, _⟩
    ·have := is_mono (l := checksL x) (i := m) (j := (checksL x).length) (by omega) (by rw [List.take_length]; exact g2)
     rw [h3] at this; cases this
    ·have hnm : n + 1 = m := by
      rcases Nat.lt_trichotomy (n + 1) m with q | q | q
      ·have := hall (n + 1) q
       rw [g4] at this; cases this
      ·exact q
      ·have := is_mono (i := m) (j := n) (by omega) g3
       rw [h3] at this; cases this
     show _ = clashGo b (checksL x) 0
     rw [g2, ← hnm]
     simp only [Prod.mk.injEq, and_true]
     omega
   ·rw [is' m] at h3
    have h3 := not_iff.2.1 h3
    by_cases e : j = m
    ·rw [e]; exact h3
    ·exact hall j (by omega)
  ·have h1 := of_decide_eq_false h1
   have e : m = x.2.2.2.length + 1 := by omega
   have hall' := hall x.2.2.2.length (by omega)
   rw [← hlen, List.take_length] at hall'
   rcases spec with ⟨g1, _⟩ | ⟨n, _, _, _, _, g5⟩
   ·exact g1.symm
   ·rw [g5] at hall'; cases hall'
theorem v23 (x : Fading × Int × Span) (hp : k23.pre x) : V23 x := by
 obtain ⟨f, index, more⟩ := x
 have hp : sizeP f := hp
 refine ⟨hp, fun h => ?_, fun h => ?_⟩
 ·have h : cardsB f = false := not_iff.1.1 h
  show _ = untilV f index more
  rw [untilV]; simp only [open_no h]; rfl
 have hC : cardsB f = true := not_iff.2.1 h
 have O := cards_iff.1 hC
 have nm := O.nm
 have nr := O.nr
 have ns := O.ns
 have th : thingB f 0 index = inB index 0 ((f.2.1.length : Int) - 1) := rfl
 have e : ref12u_Until (f, index, more) = untilV f index more := rfl
 refine ⟨by simp only [Z.in64]; omega, trivial, fun _ => trivial, fun hv => ?_, fun hv => ?_⟩
 ·have hv : ((!inB index 0 ((f.2.1.length : Int) - 1)) || (!spanB more 0 1000000)) = true := hv
  have hv' : (thingB f 0 index && spanB more 0 1000000) = false := by
   rw [th]
   cases h1 : inB index 0 ((f.2.1.length : Int) - 1) <;> cases h2 : spanB more 0 1000000 <;> rw [h1, h2] at hv <;> first | rfl | cases hv
  rw [e, untilV]; simp only [hv', open_cards hC]; rfl
 have hv : ((!inB index 0 ((f.2.1.length : Int) - 1)) || (!spanB more 0 1000000)) = false := hv
 have hv' : inB index 0 ((f.2.1.length : Int) - 1) = true ∧ spanB more 0 1000000 = true := by
  cases h1 : inB index 0 ((f.2.1.length : Int) - 1) <;> cases h2 : spanB more 0 1000000 <;> rw [h1, h2] at hv <;> first | exact ⟨rfl, rfl⟩ | cases hv
 obtain ⟨v0, v1⟩ := inB_iff.1 hv'.1
 have hs := hv'.2
 simp only [spanB, Bool.and_eq_true, decide_eq_true_eq] at hs
 obtain ⟨⟨s0, s1⟩, s2⟩ := hs
 rw [e, untilV, th, hv'.1, hv'.2]
 simp only [Bool.and_self]
 rcases table_cases hC with ⟨h1, h2⟩ | ⟨b, h1, h2, hI⟩
 ·rw [h1, h2]
  exact ⟨tableP hC, fun _ => rfl, fun hh => (by cases hh)⟩
 ·obtain ⟨a, rfl⟩ : ∃ a : Nat, index = (a : Int) := ⟨index.toNat, by omega⟩
  rw [h1, h2]
  have ra : ref12u_Ref (f, (a : Int)) = ((1 + f.1.length + a : Nat) : Int) := by show (1 + (f.1.length : Int)) + (a : Int) = _; omega
  have hrN : 1 + f.1.length + a < sizeN f := by unfold sizeN; omega
  have hmN : f.1.length < sizeN f := by unfold sizeN; omega
  have hS := tab_sq (f := f) b
  have e1 := ent_tab (b := b) hrN hmN
  rw [pt_ref (by omega), pt_month (Nat.le_refl _)] at e1
  have k1 : known f (13 + a) := .inr (.inl (by omega))
  have k2 : known f f.1.length := .inl (Nat.le_refl _)
  have b1 := hI.lo k1 k2
  have b2 := hI.hi k1 k2
  have ab : aboveV (some b) (13 + (a : Int)) (f.1.length : Int) = gt b (13 + a) f.1.length := by
   show gt b (13 + (a : Int)).toNat (Int.toNat (f.1.length : Int)) = _
   rw [show (13 + (a : Int)).toNat = 13 + a by omega, Int.toNat_natCast]
  dsimp only
  rw [ra, e1, ab]
  simp only [Int.toNat_natCast]
  have rp : ref12u_Ref_p (f, (a : Int)) := ⟨by show f.1.length ≤ 100; omega, by show -1000 ≤ (a : Int); omega, by show (a : Int) ≤ 1000; omega⟩
  refine ⟨tableP hC, fun hh => (by cases hh), fun _ => ⟨rp, ix hS hrN, ixr hS hrN hmN, fun c1 => ?_, fun c1 => ⟨fun c2 => ?_, fun c2 => ⟨?_, ?_, ⟨?_, ?_⟩, ?_⟩⟩⟩⟩
  ·rw [c1]; rfl
  ·rw [c1, c2]; rfl
  ·simp only [Z.in64]; omega
  ·simp only [Z.in64]; omega
  ·have := beq_eq_false_iff_ne.1 c2; exact this
  ·have c2' : more.1 ≠ 0 := beq_eq_false_iff_ne.1 c2
   have c1' := of_decide_eq_false c1
   have d1 : 0 ≤ (gt b (13 + a) f.1.length + more.1 - 1).tdiv more.1 := Int.tdiv_nonneg (by omega) (by omega)
   have d2 : (gt b (13 + a) f.1.length + more.1 - 1).tdiv more.1 ≤ gt b (13 + a) f.1.length + more.1 - 1 := by
    rw [Int.tdiv_eq_ediv_of_nonneg (by omega)]
    exact Int.ediv_le_self _ (by omega)
   simp only [Z.in64]; omega
  ·rw [c1, c2]; rfl
theorem great_size {f : Fading} (h : law12u_great f = false) : sizeP f := by
 have h : greatB f = false := h
 simp only [greatB, Bool.or_eq_false_iff, decide_eq_false_iff_not] at h
 refine ⟨?_, ?_, ?_⟩ <;> simp only [big] <;> omega
theorem v3 (x : Fading × Int × Int × Int × Int) (_ : k3.pre x) : V3 x := by
 refine ⟨trivial, fun _ => ⟨trivial, rfl⟩, fun h => ?_⟩
 have hs := great_size h
 refine ⟨hs, hs, hs, hs, hs, hs, fun _ => trivial, ?_⟩
 have e1 : ref12u_Light (x.1, x.2.1) = fade_Light (x.1, x.2.1) := rfl
 have e2 : ref12u_Fast (x.1, x.2.2.1, x.2.2.2.1) = fade_Fast (x.1, x.2.2.1, x.2.2.2.1) := rfl
 have e3 : ref12u_Grade (x.1, x.2.2.2.2) = fade_Grade (x.1, x.2.2.2.2) := rfl
 rw [e1, e2, e3]
 simp only [BEq.rfl, Bool.and_self, Bool.true_and]
 rfl
theorem v4 (x : Fading × Int × Span) (_ : k4.pre x) : V4 x := by
 refine ⟨trivial, fun _ => ⟨trivial, rfl⟩, fun h => ?_⟩
 have hs := great_size h
 refine ⟨hs, hs, hs, hs, fun _ => trivial, ?_⟩
 have e1 : ref12u_Clash x.1 = fade_Clash x.1 := rfl
 have e2 : ref12u_Until (x.1, x.2.1, x.2.2) = fade_Until (x.1, x.2.1, x.2.2) := rfl
 rw [e1, e2]
 simp only [BEq.rfl, Bool.and_self, Bool.true_and]
 rfl
end Go.Fade
