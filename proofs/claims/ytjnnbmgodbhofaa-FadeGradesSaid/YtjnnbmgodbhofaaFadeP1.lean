/-
  Chapter 12: the conditions, proved; first part: the small functions.
-/
import Derived.Test.YtjnnbmgodbhofaaFadeAuto
import Derived.Test.YtjnnbmgodbhofaaChecked
set_option linter.all false
set_option maxRecDepth 100000
namespace Go.Fade
open Go Go.Sx
theorem mixed : Go.Proofs.Try.prog.follows .mixedOrders = true := by kernel_rfl
theorem tabs_ok : TabsOk Go.Proofs.Try.prog T := by
 refine ⟨by kernel_rfl, fun p hp => ?_⟩
 simp only [T, List.mem_singleton] at hp
 subst hp
 exact ⟨by kernel_rfl, Maps.bool_keyed (by kernel_rfl), by kernel_rfl⟩
theorem span_iff {s : Span} {a b : Int} : spanB s a b = true ↔ (a ≤ s.1 ∧ s.1 ≤ s.2) ∧ s.2 ≤ b := by simp [spanB]
theorem sizes_iff {f : Fading} : sizesB f = true ↔ f.1.length ≤ 12 ∧ f.2.1.length ≤ 8 ∧ (0 ≤ f.2.2.1 ∧ f.2.2.1 ≤ 6) ∧ f.2.2.2.length ≤ 40 := by
 simp only [sizesB, Bool.and_eq_true, decide_eq_true_eq, inB_iff]
 constructor
 ·rintro ⟨⟨⟨h1, h2⟩, h3⟩, h4⟩
  exact ⟨by omega, by omega, h3, by omega⟩
 ·rintro ⟨h1, h2, h3, h4⟩
  exact ⟨⟨⟨by omega, by omega⟩, h3⟩, by omega⟩
theorem less1u_of {a : Int} (h : 0 ≤ a ∧ a ≤ 6) : less1 a = a - 1 := by
 unfold less1
 exact wrap_in ⟨by omega, by omega⟩
theorem thing_iff {f : Fading} {what index : Int} (h : 0 ≤ f.2.2.1 ∧ f.2.2.1 ≤ 6) : thingB f what index = true ↔ (what = 0 ∧ 0 ≤ index ∧ index < (f.2.1.length : Int)) ∨ (what = 1 ∧ 0 ≤ index ∧ index < f.2.2.1) := by
 simp only [thingB, less1u_of h]
 by_cases h0 : what = 0
 ·subst h0
  rw [show ((0 : Int) == 0) = true from rfl, cond_true, inB_iff]
  constructor
  ·exact fun h => .inl ⟨rfl, h.1, by omega⟩
  ·rintro (⟨_, h1, h2⟩ | ⟨h1, _⟩)
   ·exact ⟨h1, by omega⟩
   ·omega
 ·rw [show (what == 0) = false from beq_eq_false_iff_ne.2 h0, cond_false]
  by_cases h1 : what = 1
  ·subst h1
   rw [show ((1 : Int) == 1) = true from rfl, cond_true, inB_iff]
   constructor
   ·exact fun h => .inr ⟨rfl, h.1, by omega⟩
   ·rintro (⟨h1, _⟩ | ⟨_, h1, h2⟩)
    ·omega
    ·exact ⟨h1, by omega⟩
  ·rw [show (what == 1) = false from beq_eq_false_iff_ne.2 h1, cond_false]
   simp [h0, h1]
structure OkC (f : Fading) : Prop where
 nm : f.1.length ≤ 12
 nr : f.2.1.length ≤ 8
 ns : 0 ≤ f.2.2.1 ∧ f.2.2.1 ≤ 6
 nc : f.2.2.2.length ≤ 40
 months : ∀ s ∈ f.1, (0 ≤ s.1 ∧ s.1 ≤ s.2) ∧ s.2 ≤ 1000000
 refs : ∀ s ∈ f.2.1, (1 ≤ s.1 ∧ s.1 ≤ s.2) ∧ s.2 ≤ 16777216
 checks : ∀ c ∈ f.2.2.2, (0 ≤ c.1 ∧ c.1 ≤ (f.1.length : Int)) ∧ ((c.2.1 = 0 ∧ 0 ≤ c.2.2.1 ∧ c.2.2.1 < (f.2.1.length : Int)) ∨ (c.2.1 = 1 ∧ 0 ≤ c.2.2.1 ∧ c.2.2.1 < f.2.2.1))
theorem cards_iff {f : Fading} : cardsB f = true ↔ OkC f := by
 simp only [cardsB, Bool.and_eq_true, sizes_iff, List.all_eq_true, span_iff, checkB, inB_iff]
 constructor
 ·rintro ⟨⟨⟨⟨h1, h2, h3, h4⟩, h5⟩, h6⟩, h7⟩
  exact ⟨h1, h2, h3, h4, h5, h6, fun c hc => ⟨(h7 c hc).1, (thing_iff h3).1 (h7 c hc).2⟩⟩
 ·intro h
  exact ⟨⟨⟨⟨h.nm, h.nr, h.ns, h.nc⟩, h.months⟩, h.refs⟩, fun c hc => ⟨(h.checks c hc).1, (thing_iff h.ns).2 (h.checks c hc).2⟩⟩
theorem v37 (x : Int × Int × Int) (_ : k37.pre x) : V37 x := rfl
theorem v40 (x : Int × Int × Int) (_ : k40.pre x) : V40 x := rfl
theorem v55 (x : Span × Int × Int) (_ : k55.pre x) : V55 x := rfl
theorem v56 (x : Span × Int × Int) (_ : k56.pre x) : V56 x := rfl
theorem v42 (x : Fading × Int × Int) (hp : k42.pre x) : V42 x := by
 obtain ⟨f, what, index⟩ := x
 have hp : f.2.1.length ≤ big := hp
 simp only [big] at hp
 have e : fade_isThing (f, what, index) = thingB f what index := rfl
 refine ⟨fun h => ⟨?_, trivial, ?_⟩, fun h => ⟨fun h1 => ⟨trivial, ?_⟩, fun h1 => ?_⟩⟩
 ·simp only [Z.in64]; omega
 ·rw [e, thingB, show (what == 0) = true from h]; rfl
 ·rw [e, thingB, show (what == 0) = false from h, show (what == 1) = true from h1]; rfl
 ·rw [e, thingB, show (what == 0) = false from h, show (what == 1) = false from h1]; rfl
theorem v44 (x : Fading × Int × Int) (hp : k44.pre x) : V44 x := by
 obtain ⟨f, what, index⟩ := x
 have hp : f.2.1.length ≤ big := hp
 simp only [big] at hp
 have e : ref12u_Thing (f, what, index) = thingB f what index := rfl
 refine ⟨fun h => ⟨?_, trivial, ?_⟩, fun h => ⟨fun h1 => trivial, ?_⟩⟩
 ·simp only [Z.in64]; omega
 ·rw [e, thingB, show (what == 0) = true from h]; rfl
 ·show ((what == 1) && inB index 0 (less1 f.2.2.1)) = _
  rw [e, thingB, show (what == 0) = false from h, cond_false]
  cases what == 1 <;> rfl
theorem v46 (x : Int × Int) (hp : k46.pre x) : V46 x := by
 obtain ⟨p, n⟩ := x
 obtain ⟨h1, h2, h3⟩ : (p = 13 ∨ p = 14) ∧ 0 ≤ n ∧ n ≤ 100 := hp
 have e : fade_point_plus (p, n) = plusV p n := rfl
 refine ⟨fun h => ⟨?_, ?_, ?_, ?_⟩, fun h => ⟨?_, ?_⟩⟩
 ·show Z.in64 (p + 8); simp only [Z.in64]; omega
 ·show Z.in64 (p + 8 - 1); simp only [Z.in64]; omega
 ·show Z.in64 (p + 8 - 1 + n); simp only [Z.in64]; omega
 ·rw [e, plusV, show (p == 14) = true from h]; rfl
 ·show Z.in64 (p + n); simp only [Z.in64]; omega
 ·rw [e, plusV, show (p == 14) = false from h]; rfl
theorem v43 (x : Int × Int) (hp : k43.pre x) : V43 x := by
 obtain ⟨what, index⟩ := x
 obtain ⟨h1, h2⟩ : (0 ≤ what ∧ what < 2) ∧ 0 ≤ index ∧ index ≤ 100 := hp
 have hw : what = 0 ∨ what = 1 := by omega
 rcases hw with rfl | rfl
 ·exact ⟨h1, ⟨.inl rfl, h2⟩, rfl⟩
 ·refine ⟨h1, ⟨.inr rfl, h2⟩, ?_⟩
  show 14 + 8 - 1 + index = 21 + index
  omega
theorem v61 (x : Span) (_ : k61.pre x) : V61 x := ⟨trivial, rfl⟩
theorem v62 (x : Span) (_ : k62.pre x) : V62 x := ⟨trivial, rfl⟩
theorem v63 (x : Check × Fading) (hp : k63.pre x) : V63 x := by
 refine ⟨trivial, fun _ => hp, ?_⟩
 show (!inB x.1.1 0 (x.2.1.length : Int) || !thingB x.2 x.1.2.1 x.1.2.2.1) = !checkB x.2 x.1
 rw [checkB, Bool.not_and]
theorem v69 (x : (List Span) × Fun Span Bool) (h : k69.pre x) : V69 x := ixF_loop x.1 (0, 0) x.2 h.1 h.2
theorem v70 (x : (List Check) × Fun Check Bool) (h : k70.pre x) : V70 x := ixF_loop x.1 (0, 0, 0, false) x.2 h.1 h.2
theorem v64 (x : (List Span) × Fun Span Bool) (h : k64.pre x) : V64 x := ⟨h, any_ix _ _⟩
theorem v65 (x : (List Check) × Fun Check Bool) (h : k65.pre x) : V65 x := ⟨h, any_ix _ _⟩
theorem v47 (x : Fading) (hp : k47.pre x) : V47 x := by
 obtain ⟨h1, h2, h3⟩ : x.1.length ≤ big ∧ x.2.1.length ≤ big ∧ x.2.2.2.length ≤ big := hp
 refine ⟨fun _ => trivial, fun _ => ⟨h1, fun _ _ => trivial⟩, fun _ => ⟨h2, fun _ _ => trivial⟩, fun _ => ⟨h3, fun _ _ => h2⟩, ?_⟩
 show ((((((decide ((x.1.length : Int) ≤ 12) && decide ((x.2.1.length : Int) ≤ 8)) && inB x.2.2.1 0 6) && decide ((x.2.2.2.length : Int) ≤ 40)) && !(x.1.any fun a => !spanB a 0 1000000)) && !(x.2.1.any fun a => !spanB a 1 16777216)) && !(x.2.2.2.any fun a => !checkB x a)) = cardsB x
 rw [any_not, any_not, any_not]
 rfl
theorem v71 (x : Int × Int) (_ : k71.pre x) : V71 x := rfl
theorem v72 (x : Int × Int) (_ : k72.pre x) : V72 x := rfl
theorem v68 (x : Unit) (_ : k68.pre x) : V68 x := by
 funext k
 cases k <;> rfl
theorem v38 (x : (Fun (Int × Int) Int) × Int × Int) (h : k38.pre x) : V38 x := ⟨h.1, h.2.2, h.2.1, rfl⟩
theorem v39 (x : (Option Bds) × Int × Int) (h : k39.pre x) : V39 x := by
 obtain ⟨b, p, o⟩ := x
 obtain ⟨h1, h2, h3⟩ : b.isSome = true ∧ (0 ≤ p ∧ p < 27) ∧ (0 ≤ o ∧ o < 27) := h
 obtain ⟨b, rfl⟩ := Option.isSome_iff_exists.1 h1
 exact ⟨rfl, h2, h3, rfl⟩
theorem v25 (x : Int × Int) (_ : k25.pre x) : V25 x := rfl
theorem v12 (x : Fading) (_ : k12.pre x) : V12 x := rfl
theorem v24 (x : List Check) (hp : k24.pre x) : V24 x := by
 have hp : x.length ≤ 100 := hp
 refine ⟨trivial, trivial, trivial, trivial, trivial, trivial, roomy_of (by omega) (by omega) ?_, rfl⟩
 rw [List.length_append]
 simp only [List.length_set, List.length_replicate]
 omega
end Go.Fade
