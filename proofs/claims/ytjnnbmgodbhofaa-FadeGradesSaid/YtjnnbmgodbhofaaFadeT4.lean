/-
  Chapter 12: the document's functions: their conditions; FadeSpans, FadeClashes.
-/
import Derived.Test.YtjnnbmgodbhofaaFadeT3
import Derived.Test.YtjnnbmgodbhofaaFadeP6
set_option linter.all false
set_option maxRecDepth 100000
set_option maxHeartbeats 4000000
namespace Go.Fade
open Go Go.Sx
theorem v33 (x : Fading × Int) (hp : k33.pre x) : V33 x := by
 obtain ⟨h1, h2, h3⟩ : x.1.1.length ≤ 100 ∧ -1000 ≤ x.2 ∧ x.2 ≤ 1000 := hp
 exact ⟨by simp only [Z.in64]; omega, by simp only [Z.in64]; omega, rfl⟩
theorem v32 (x : Fading × Int) (hp : k32.pre x) : V32 x := by
 obtain ⟨⟨h0, h1⟩, h2, h3⟩ : (x.1.1.length ≤ 100 ∧ x.1.2.1.length ≤ 100) ∧ -1000 ≤ x.2 ∧ x.2 ≤ 1000 := hp
 exact ⟨by simp only [Z.in64]; omega, by simp only [Z.in64]; omega, by simp only [Z.in64]; omega, rfl⟩
theorem v45 (x : Fading × Int × Int) (hp : k45.pre x) : V45 x := by
 obtain ⟨⟨h0, h1⟩, h2, h3⟩ : (x.1.1.length ≤ 100 ∧ x.1.2.1.length ≤ 100) ∧ -1000 ≤ x.2.2 ∧ x.2.2 ≤ 1000 := hp
 refine ⟨fun h => ⟨⟨h0, h2, h3⟩, ?_⟩, fun h => ⟨⟨⟨h0, h1⟩, h2, h3⟩, ?_⟩⟩ <;> rw [ref12u_Of, h] <;> rfl
theorem v41 (x : Bds × Int) (hp : k41.pre x) : V41 x := by
 obtain ⟨⟨h1, h2⟩, ⟨h3, h4⟩, h5⟩ : (0 ≤ x.2 ∧ x.2 < (x.1.length : Int)) ∧ (x.2 < ((x.1.getD 0 []).length : Int) ∧ 0 < (x.1.getD x.2.toNat []).length) ∧ Z.in64 (-(ent x.1 0 x.2)) := hp
 exact ⟨⟨by omega, by omega⟩, ⟨h1, h3⟩, h5, ⟨h1, h2⟩, ⟨by omega, by omega⟩, rfl⟩
section
variable {f : Fading}
theorem cut_all : cutF f f.2.2.2.length = f := by
 unfold cutF
 rw [List.take_length]
theorem open_cards (h : cardsB f = true) (v : Bool) : openV f v = cond (!v) ((none : Option Bds), (2 : Int)) (match enterL noBounds (allL f) with | none => ((none : Option Bds), (6 : Int)) | some b => (some b, (0 : Int))) := by
 unfold openV; rw [h]; rfl
theorem open_no (h : cardsB f = false) (v : Bool) : openV f v = (none, 1) := by
 unfold openV; rw [h]; rfl
theorem table_cases (h : cardsB f = true) : (ref12u_TableOf (f, (f.2.2.2.length : Int)) = ([], false) ∧ openV f true = (none, 6)) ∨ ∃ b, ref12u_TableOf (f, (f.2.2.2.length : Int)) = (tabOf f b, true) ∧ openV f true = (some b, 0) ∧ Inv (known f) b := by
 have O := cards_iff.1 h
 rw [open_cards h]
 unfold ref12u_TableOf tableV
 simp only [Int.toNat_natCast, cut_all, Bool.not_true, cond_false]
 cases he : enterL noBounds (allL f) with
 | none => exact .inl ⟨rfl, rfl⟩
 | some b => exact .inr ⟨b, rfl, rfl, (all_in O).2 b he⟩
theorem tableP (h : cardsB f = true) : ref12u_TableOf_p (f, (f.2.2.2.length : Int)) := ⟨h, Int.natCast_nonneg _, Int.le_refl _⟩
theorem ent_tab {b : Bds} {a c : Nat} (ha : a < sizeN f) (hc : c < sizeN f) : ent (tabOf f b) (a : Int) (c : Int) = gt b (ptN f a) (ptN f c) := en_tab b ha hc
theorem span_tab {b : Bds} (hI : Inv (known f) b) {a : Nat} (ha : a < sizeN f) : ref12u_Table_Span_p (tabOf f b, (a : Int)) ∧ ref12u_Table_Span (tabOf f b, (a : Int)) = (-(gt b 0 (ptN f a)), gt b (ptN f a) 0) := by
 have hS := tab_sq (f := f) b
 have h0 : 0 < sizeN f := by omega
 have e1 : ent (tabOf f b) 0 (a : Int) = gt b 0 (ptN f a) := by have := ent_tab (b := b) h0 ha; rw [pt_month (by omega)] at this; exact this
 have e2 : ent (tabOf f b) (a : Int) 0 = gt b (ptN f a) 0 := by have := ent_tab (b := b) ha h0; rw [pt_month (a := 0) (by omega)] at this; exact this
 have bd := hI.lo (known0 f) (pt_known (f := f) ha)
 have bd' := hI.hi (known0 f) (pt_known (f := f) ha)
 refine ⟨⟨⟨by show (0 : Int) ≤ (a : Int); omega, by show (a : Int) < ((tabOf f b).length : Int); rw [hS.len]; omega⟩, ⟨by show (a : Int) < (((tabOf f b).getD 0 []).length : Int); rw [hS.row 0 h0]; omega, by show 0 < ((tabOf f b).getD (Int.toNat (a : Int)) []).length; rw [Int.toNat_natCast, hS.row a ha]; omega⟩, ?_⟩, ?_⟩
 ·show Z.in64 (-(ent (tabOf f b) 0 (a : Int)))
  rw [e1]; simp only [Z.in64]; omega
 ·unfold ref12u_Table_Span
  simp only
  rw [e1, e2]
end
theorem v15 (x : Fading × Int) (hp : k15.pre x) : V15 x := by
 obtain ⟨f, mo⟩ := x
 have hp : sizeP f := hp
 refine ⟨hp, fun h => ?_, fun h => ?_⟩
 ·have h : cardsB f = false := not_iff.1.1 h
  show _ = lightV f mo
  rw [lightV]; simp only [open_no h]; rfl
 have hC : cardsB f = true := not_iff.2.1 h
 have O := cards_iff.1 hC
 have nm := O.nm
 refine ⟨trivial, fun hv => ?_, fun hv => ?_⟩
 ·have hv : inB mo 0 (f.1.length : Int) = false := not_iff.1.1 hv
  show _ = lightV f mo
  rw [lightV]; simp only [hv, open_cards hC]; rfl
 have hv : inB mo 0 (f.1.length : Int) = true := not_iff.2.1 hv
 have e : ref12u_Light (f, mo) = lightV f mo := rfl
 rw [e, lightV]
 simp only [hv]
 rcases table_cases hC with ⟨h1, h2⟩ | ⟨b, h1, h2, hI⟩
 ·rw [h1, h2]
  exact ⟨tableP hC, fun _ => rfl, fun hh => (by cases hh)⟩
 ·obtain ⟨v0, v1⟩ := inB_iff.1 hv
  obtain ⟨a, rfl⟩ : ∃ a : Nat, mo = (a : Int) := ⟨mo.toNat, by omega⟩
  have ha : a < sizeN f := by unfold sizeN; omega
  obtain ⟨s1, s2⟩ := span_tab hI ha
  rw [h1, h2]
  refine ⟨tableP hC, fun hh => (by cases hh), fun _ => ⟨s1, ?_⟩⟩
  rw [s2, pt_month (by omega)]; rfl
theorem thing_iff12 {f : Fading} {what index : Int} (O : OkC f) : thingB f what index = true ↔ (what = 0 ∧ 0 ≤ index ∧ index < (f.2.1.length : Int)) ∨ (what = 1 ∧ 0 ≤ index ∧ index < f.2.2.1) := by
 have ns := O.ns
 have w : less1 f.2.2.1 = f.2.2.1 - 1 := wrap_in (by simp only [Z.in64]; omega)
 unfold thingB
 rw [w]
 by_cases h0 : what = 0
 ·subst h0
  show inB index 0 ((f.2.1.length : Int) - 1) = true ↔ _
  rw [inB_iff]; omega
 ·rw [beq_false_of_ne h0, cond_false]
  by_cases h1 : what = 1
  ·subst h1
   show inB index 0 (f.2.2.1 - 1) = true ↔ _
   rw [inB_iff]; omega
  ·rw [beq_false_of_ne h1, cond_false]
   constructor
   ·intro h; cases h
   ·omega
theorem v17 (x : Fading × Int × Int) (hp : k17.pre x) : V17 x := by
 obtain ⟨f, what, index⟩ := x
 have hp : sizeP f := hp
 refine ⟨hp, fun h => ?_, fun h => ?_⟩
 ·have h : cardsB f = false := not_iff.1.1 h
  show _ = fastV f what index
  rw [fastV]; simp only [open_no h]; rfl
 have hC : cardsB f = true := not_iff.2.1 h
 have O := cards_iff.1 hC
 have nm := O.nm
 have nr := O.nr
 have ns := O.ns
 refine ⟨hp.2.1, fun hv => ?_, fun hv => ?_⟩
 ·have hv : thingB f what index = false := not_iff.1.1 hv
  show _ = fastV f what index
  rw [fastV]; simp only [hv, open_cards hC]; rfl
 have hv : thingB f what index = true := not_iff.2.1 hv
 have e : ref12u_Fast (f, what, index) = fastV f what index := rfl
 rw [e, fastV]
 simp only [hv]
 rcases table_cases hC with ⟨h1, h2⟩ | ⟨b, h1, h2, hI⟩
 ·rw [h1, h2]
  exact ⟨tableP hC, fun _ => rfl, fun hh => (by cases hh)⟩
 ·have hw := (thing_iff12 O).1 hv
  obtain ⟨a, a1, a2, a3, a4⟩ := of_node O hw
  obtain ⟨p, p1, p2, _⟩ := of_known O hw
  obtain ⟨s1, s2⟩ := span_tab hI a2
  rw [h1, h2, a1]
  refine ⟨tableP hC, fun hh => (by cases hh), fun _ => ⟨⟨⟨by show f.1.length ≤ 100; omega, by show f.2.1.length ≤ 100; omega⟩, by show -1000 ≤ index; omega, by show index ≤ 1000; omega⟩, s1, ?_⟩⟩
  rw [s2, a4]
  have : ptOf what index = p := by unfold ptOf; rw [p1]; rfl
  rw [this, p1]; rfl
theorem v19 (x : Fading × Int) (hp : k19.pre x) : V19 x := by
 obtain ⟨f, index⟩ := x
 have hp : sizeP f := hp
 refine ⟨hp, fun h => ?_, fun h => ?_⟩
 ·have h : cardsB f = false := not_iff.1.1 h
  show _ = gradeV f index
  rw [gradeV]; simp only [open_no h]; rfl
 have hC : cardsB f = true := not_iff.2.1 h
 have O := cards_iff.1 hC
 have nm := O.nm
 have nr := O.nr
 have ns := O.ns
 have w : less1 f.2.2.1 = f.2.2.1 - 1 := wrap_in (by simp only [Z.in64]; omega)
 refine ⟨by simp only [Z.in64]; omega, trivial, fun hv => ?_, fun hv => ?_⟩
 ·have hv : inB index 0 (f.2.2.1 - 1) = false := not_iff.1.1 hv
  show _ = gradeV f index
  rw [gradeV, w]; simp only [hv, open_cards hC]; rfl
 have hv : inB index 0 (f.2.2.1 - 1) = true := not_iff.2.1 hv
 have e : ref12u_Grade (f, index) = gradeV f index := rfl
 rw [e, gradeV, w]
 simp only [hv]
 rcases table_cases hC with ⟨h1, h2⟩ | ⟨b, h1, h2, hI⟩
 ·rw [h1, h2]
  exact ⟨tableP hC, fun _ => rfl, fun hh => (by cases hh)⟩
 ·obtain ⟨v0, v1⟩ := inB_iff.1 hv
  obtain ⟨a, rfl⟩ : ∃ a : Nat, index = (a : Int) := ⟨index.toNat, by omega⟩
  rw [h1, h2]
  have sa : ref12u_Sample (f, (a : Int)) = ((1 + f.1.length + f.2.1.length + a : Nat) : Int) := by show ((1 + (f.1.length : Int)) + (f.2.1.length : Int)) + (a : Int) = _; omega
  have hsN : 1 + f.1.length + f.2.1.length + a < sizeN f := by unfold sizeN; omega
  have hS := tab_sq (f := f) b
  rw [sa]
  refine ⟨tableP hC, fun hh => (by cases hh), fun _ => ⟨⟨⟨by show f.1.length ≤ 100; omega, by show f.2.1.length ≤ 100; omega⟩, by show -1000 ≤ (a : Int); omega, by show (a : Int) ≤ 1000; omega⟩, ?_⟩⟩
  show Z.LoopP _ _
  refine ⟨fun s => ∃ k : Nat, s.1 = (k : Int) ∧ k ≤ f.2.1.length ∧ (0 ≤ s.2.1 ∧ s.2.1 ≤ (k : Int)) ∧ (0 ≤ s.2.2 ∧ s.2.2 ≤ (k : Int)) ∧ gradeGo (some b) (21 + (a : Int)) f.2.1.length 0 (0, 0) = gradeGo (some b) (21 + (a : Int)) (f.2.1.length - k) (k : Int) s.2, fun s => ((f.2.1.length : Int) - s.1).toNat,
   ⟨0, rfl, by omega, by simp, by simp, rfl⟩, ?_⟩
  rintro ⟨_, lo, hi⟩ ⟨k, rfl, hk, hlo, hhi, hg⟩
  dsimp only at hlo hhi hg ⊢
  refine ⟨fun h' => ?_, fun h' => ?_⟩
  ·have h' := of_decide_eq_true h'
   have hk' : k < f.2.1.length := by omega
   have ra : ref12u_Ref (f, (k : Int)) = ((1 + f.1.length + k : Nat) : Int) := by show (1 + (f.1.length : Int)) + (k : Int) = _; omega
   have hrN : 1 + f.1.length + k < sizeN f := by unfold sizeN; omega
   have rp : ref12u_Ref_p (f, (k : Int)) := ⟨by show f.1.length ≤ 100; omega, by show -1000 ≤ (k : Int); omega, by show (k : Int) ≤ 1000; omega⟩
   have e1 := ent_tab (b := b) hrN hsN
   have e2 := ent_tab (b := b) hsN hrN
   rw [pt_ref hk', pt_sample] at e1 e2
   have z1 : Z.in64 ((k : Int) + 1) := by simp only [Z.in64]; omega
   have z2 : Z.in64 (lo + 1) := by simp only [Z.in64]; omega
   have z3 : Z.in64 (hi + 1) := by simp only [Z.in64]; omega
   have stp : gradeGo (some b) (21 + (a : Int)) (f.2.1.length - k) (k : Int) (lo, hi) = gradeGo (some b) (21 + (a : Int)) (f.2.1.length - (k + 1)) ((k + 1 : Nat) : Int) (lo + cond (decide (gt b (13 + k) (21 + a) ≤ 0)) 1 0, hi + cond (decide (0 ≤ gt b (21 + a) (13 + k))) 1 0) := by
    rw [show f.2.1.length - k = (f.2.1.length - (k + 1)) + 1 by omega, gradeGo]
    have q1 : (13 + (k : Int)).toNat = 13 + k := by omega
    have q2 : (21 + (a : Int)).toNat = 21 + a := by omega
    simp only [aboveV, q1, q2, Option.getD_some]
    rfl
   rw [stp] at hg
   rw [ra]
   simp only [e1, e2, Int.toNat_natCast]
   have i1 := ix hS hrN
   have i2 := ixr hS hrN hsN
   have i3 := ix hS hsN
   have i4 := ixr hS hsN hrN
   have ms : ((f.2.1.length : Int) - ((k : Int) + 1)).toNat < ((f.2.1.length : Int) - (k : Int)).toNat := by omega
   refine ⟨rp, i1, i2, fun c1 => ⟨z2, i3, rp, i4, fun c2 => ⟨z3, z1, trivial, ⟨k + 1, rfl, by omega, by omega, by omega, ?_⟩, ms⟩, fun c2 => ⟨z1, trivial, ⟨k + 1, rfl, by omega, by omega, by omega, ?_⟩, ms⟩⟩, fun c1 => ⟨i3, rp, i4, fun c2 => ⟨z3, z1, trivial, ⟨k + 1, rfl, by omega, by omega, by omega, ?_⟩, ms⟩, fun c2 => ⟨z1, trivial, ⟨k + 1, rfl, by omega, by omega, by omega, ?_⟩, ms⟩⟩⟩
   all_goals (rw [c1, c2] at hg; simpa using hg)
  ·have h' := of_decide_eq_false h'
   have e : k = f.2.1.length := by omega
   subst e
   rw [Nat.sub_self, gradeGo] at hg
   show _ = (gradeGo (some b) (21 + (a : Int)) f.2.1.length 0 (0, 0), (0 : Int))
   rw [hg]
end Go.Fade
