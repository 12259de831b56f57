/-
  Chapter 12: what is known without checks, and with them. Plain Lean.
-/
import Derived.Test.YtjnnbmgodbhofaaFadeO1
import Derived.Test.YtjnnbmgodbhofaaFadeP1
set_option linter.all false
set_option maxRecDepth 100000
namespace Go.Fade
open Go Go.Sx
theorem Inv.congr {S S' : Nat → Prop} {b : Bds} (h : Inv S b) (e : ∀ x, S x ↔ S' x) : Inv S' b := by
 have : S = S' := funext fun x => propext (e x)
 rw [← this]; exact h
theorem noBounds_in : Inv (fun x => x = 0) noBounds := by
 have g : ∀ i k, i < 27 → k < 27 → gt noBounds i k = cond (Nat.beq i k) 0 free := fun i k hi hk => gt_table _ hi hk
 have g0 : gt noBounds 0 0 = 0 := g 0 0 (by omega) (by omega)
 refine ⟨sh_table _, rfl, fun i hi => by omega, fun i hi => ?_, fun i k hi hk hne _ => ?_, fun i hi => by rw [hi, g0]; omega, fun k hk => by rw [hk, g0]; omega, fun i j k hi hj hk => by rw [hi, hj, hk, g0]; omega⟩
 ·rw [g i i hi hi, Nat.beq_refl]; rfl
 ·rw [g i k hi hk]
  cases hb : Nat.beq i k with
  | false => rfl
  | true => exact absurd (Nat.eq_of_beq_eq_true hb) hne
theorem months_in : ∀ (l : List Span) (i : Nat) (b : Bds), Inv (fun x => x ≤ i) b → i + l.length ≤ 12 → gt b i 0 ≤ 1000000 * (i : Int) → (∀ s ∈ l, (0 ≤ s.1 ∧ s.1 ≤ s.2) ∧ s.2 ≤ 1000000) →
  enterP b (monthsL l i) ∧ ∃ b', enterL b (monthsL l i) = some b' ∧ Inv (fun x => x ≤ i + l.length) b'
 | [], i, b, h, _, _, _ => ⟨trivial, b, rfl, h⟩
 | s :: l, i, b, h, hl, hb, hs => by
  have hl : i + (l.length + 1) ≤ 12 := hl
  obtain ⟨⟨s1, s2⟩, s3⟩ := hs s List.mem_cons_self
  obtain ⟨p1, b1, p2, p3, p4, _⟩ := intro_pt h (p := i + 1) (q := i) (by omega) (by omega) (Nat.le_refl i) (U := s.2) (L := s.1) s1 s2 (by omega) (by omega)
  obtain ⟨q1, b2, q2, q3⟩ := months_in l (i + 1) b1 (p3.congr fun x => by omega) (by omega) (by rw [p4]; omega) fun s hs' => hs s (List.mem_cons_of_mem _ hs')
  have e : monthsL (s :: l) (i : Int) = [(((i + 1 : Nat) : Int), (i : Int), s.2), ((i : Int), ((i + 1 : Nat) : Int), -s.1)] ++ monthsL l ((i + 1 : Nat) : Int) := rfl
  rw [e]
  refine ⟨enterP_append p1 fun b' hb' => by rw [p2] at hb'; cases hb'; exact q1, b2, by rw [enterL_append, p2]; exact q2, q3.congr fun x => by simp only [List.length_cons]; omega⟩
def withRefs (n k : Nat) (x : Nat) : Prop := x ≤ n ∨ (13 ≤ x ∧ x < 13 + k)
theorem refs_in (n : Nat) (hn : n ≤ 12) : ∀ (l : List Span) (k : Nat) (b : Bds), Inv (withRefs n k) b → k + l.length ≤ 8 → (∀ s ∈ l, (1 ≤ s.1 ∧ s.1 ≤ s.2) ∧ s.2 ≤ 16777216) →
  enterP b (refsL l k) ∧ ∀ b', enterL b (refsL l k) = some b' → Inv (withRefs n (k + l.length)) b'
 | [], k, b, h, _, _ => ⟨trivial, fun b' e => by cases e; exact h⟩
 | s :: l, k, b, h, hl, hs => by
  have hl : k + (l.length + 1) ≤ 8 := hl
  obtain ⟨⟨s1, s2⟩, s3⟩ := hs s List.mem_cons_self
  have g0 := h.dg 0 (by omega)
  obtain ⟨p1, b1, p2, p3, p4, _⟩ := intro_pt h (p := 13 + k) (q := 0) (by omega) (by unfold withRefs; omega) h.s0 (U := s.2) (L := s.1) (by omega) s2 s3 (by omega)
  have p3 : Inv (withRefs n (k + 1)) b1 := p3.congr fun x => by unfold withRefs; omega
  have mid : enterP b1 (cond (decide (0 < (k : Int))) [(13 + ((k : Int) - 1), 13 + (k : Int), -1)] []) ∧ ∀ b', enterL b1 (cond (decide (0 < (k : Int))) [(13 + ((k : Int) - 1), 13 + (k : Int), -1)] []) = some b' → Inv (withRefs n (k + 1)) b' := by
   have := enter_in p3 (l := cond (decide (0 < (k : Int))) [(13 + ((k : Int) - 1), 13 + (k : Int), -1)] []) (fun r hr => by
    cases hk : decide (0 < (k : Int)) with
    | false => rw [hk] at hr; cases hr
    | true =>
     rw [hk] at hr
     have hk := of_decide_eq_true hk
     rw [List.mem_singleton.1 hr]
     refine ⟨13 + k - 1, 13 + k, ?_, by unfold withRefs; omega, by unfold withRefs; omega, by simp only; omega, by simp only; omega⟩
     simp only [Prod.mk.injEq, and_true]
     omega)
   exact ⟨this.1, fun b' hb' => (this.2 b' hb').1⟩
  have e : refsL (s :: l) (k : Int) = [(((13 + k : Nat) : Int), ((0 : Nat) : Int), s.2), (((0 : Nat) : Int), ((13 + k : Nat) : Int), -s.1)] ++ (cond (decide (0 < (k : Int))) [(13 + ((k : Int) - 1), 13 + (k : Int), -1)] [] ++ refsL l ((k + 1 : Nat) : Int)) := by
   simp only [refsL]
   rw [show ((13 + k : Nat) : Int) = 13 + (k : Int) by omega]
   rfl
  rw [e]
  have rest : ∀ b2, Inv (withRefs n (k + 1)) b2 → _ := fun b2 h2 => refs_in n hn l (k + 1) b2 h2 (by omega) fun s hs' => hs s (List.mem_cons_of_mem _ hs')
  refine ⟨enterP_append p1 fun b' hb' => ?_, fun b' hb' => ?_⟩
  ·rw [p2] at hb'; cases hb'
   exact enterP_append mid.1 fun b2 hb2 => (rest b2 (mid.2 b2 hb2)).1
  ·rw [enterL_append, p2, Option.bind_some, enterL_append, Option.bind_eq_some_iff] at hb'
   obtain ⟨b2, hb2, hb3⟩ := hb'
   exact ((rest b2 (mid.2 b2 hb2)).2 b' hb3).congr fun x => by unfold withRefs; simp only [List.length_cons]; omega
def withAll (n k s : Nat) (x : Nat) : Prop := x ≤ n ∨ (13 ≤ x ∧ x < 13 + k) ∨ (21 ≤ x ∧ x < 21 + s)
theorem samples_in (n k : Nat) (hn : n ≤ 12) (hk : k ≤ 8) : ∀ (m s : Nat) (b : Bds), Inv (withAll n k s) b → s + m ≤ 6 →
  enterP b (samplesL m s) ∧ ∃ b', enterL b (samplesL m s) = some b' ∧ Inv (withAll n k (s + m)) b'
 | 0, s, b, h, _ => ⟨trivial, b, rfl, h⟩
 | m + 1, s, b, h, hl => by
  have g0 := h.dg 0 (by omega)
  obtain ⟨p1, b1, p2, p3, p4, _⟩ := intro_pt h (p := 21 + s) (q := 0) (by omega) (by unfold withAll; omega) h.s0 (U := 16777216) (L := 1) (by omega) (by omega) (by omega) (by omega)
  obtain ⟨q1, b2, q2, q3⟩ := samples_in n k hn hk m (s + 1) b1 (p3.congr fun x => by unfold withAll; omega) (by omega)
  have e : samplesL (m + 1) (s : Int) = [(((21 + s : Nat) : Int), ((0 : Nat) : Int), 16777216), (((0 : Nat) : Int), ((21 + s : Nat) : Int), -1)] ++ samplesL m ((s + 1 : Nat) : Int) := by
   simp only [samplesL]
   rw [show ((21 + s : Nat) : Int) = 21 + (s : Int) by omega]
   rfl
  rw [e]
  exact ⟨enterP_append p1 fun b' hb' => by rw [p2] at hb'; cases hb'; exact q1, b2, by rw [enterL_append, p2]; exact q2, q3.congr fun x => by unfold withAll; omega⟩
def known (f : Fading) : Nat → Prop := withAll f.1.length f.2.1.length f.2.2.1.toNat
theorem rise_in {f : Fading} (h : OkC f) : enterP noBounds (riseL f) ∧ ∀ b, enterL noBounds (riseL f) = some b → Inv (known f) b := by
 have hm := h.nm
 have hr := h.nr
 have hs := h.ns
 have g0 : gt noBounds 0 0 = 0 := noBounds_in.dg 0 (by omega)
 obtain ⟨p1, b1, p2, p3⟩ := months_in f.1 0 noBounds (noBounds_in.congr fun x => by omega) (by omega) (by rw [g0]; omega) h.months
 have p3 : Inv (withRefs f.1.length 0) b1 := p3.congr fun x => by unfold withRefs; omega
 obtain ⟨q1, q2⟩ := refs_in f.1.length hm f.2.1 0 b1 p3 (by omega) h.refs
 have rest : ∀ b2, enterL b1 (refsL f.2.1 0) = some b2 → _ := fun b2 hb2 => samples_in f.1.length f.2.1.length hm hr f.2.2.1.toNat 0 b2 ((q2 b2 hb2).congr fun x => by unfold withRefs withAll; omega) (by omega)
 refine ⟨enterP_append p1 fun b' hb' => ?_, fun b hb => ?_⟩
 ·rw [show enterL noBounds (monthsL f.1 0) = some b1 from p2] at hb'; cases hb'
  exact enterP_append q1 fun b2 hb2 => (rest b2 hb2).1
 ·rw [riseL, enterL_append, show enterL noBounds (monthsL f.1 0) = some b1 from p2, Option.bind_some, enterL_append, Option.bind_eq_some_iff] at hb
  obtain ⟨b2, hb2, hb3⟩ := hb
  obtain ⟨_, b3, r1, r2⟩ := rest b2 hb2
  rw [show enterL b2 (samplesL f.2.2.1.toNat 0) = some b3 from r1] at hb3
  cases hb3
  exact r2.congr fun x => by unfold known withAll; omega
theorem of_known {f : Fading} (h : OkC f) {what index : Int} (hw : (what = 0 ∧ 0 ≤ index ∧ index < (f.2.1.length : Int)) ∨ (what = 1 ∧ 0 ≤ index ∧ index < f.2.2.1)) : ∃ p : Nat, ofV what index = (p : Int) ∧ known f p ∧ 13 ≤ p := by
 have hr := h.nr
 have hs := h.ns
 rcases hw with ⟨rfl, h1, h2⟩ | ⟨rfl, h1, h2⟩
 ·refine ⟨13 + index.toNat, ?_, by unfold known withAll; omega, by omega⟩
  show 13 + index = _
  omega
 ·refine ⟨21 + index.toNat, ?_, by unfold known withAll; omega, by omega⟩
  show 21 + index = _
  omega
theorem month_known {f : Fading} (h : OkC f) {m : Int} (hm : 0 ≤ m ∧ m ≤ (f.1.length : Int)) : ∃ p : Nat, m = (p : Int) ∧ known f p ∧ p ≤ 12 := by
 have := h.nm
 exact ⟨m.toNat, by omega, by unfold known withAll; omega, by omega⟩
theorem rule_among {f : Fading} (h : OkC f) {c : Check} (hc : (0 ≤ c.1 ∧ c.1 ≤ (f.1.length : Int)) ∧ ((c.2.1 = 0 ∧ 0 ≤ c.2.2.1 ∧ c.2.2.1 < (f.2.1.length : Int)) ∨ (c.2.1 = 1 ∧ 0 ≤ c.2.2.1 ∧ c.2.2.1 < f.2.2.1))) : Among (known f) (ruleOf c) := by
 obtain ⟨p, e1, h1, _⟩ := of_known h hc.2
 obtain ⟨m, e2, h2, _⟩ := month_known h hc.1
 unfold ruleOf
 cases c.2.2.2 with
 | true => exact ⟨p, m, by rw [cond_true, e1, e2], h1, h2, by rw [cond_true]; simp only; omega, by rw [cond_true]; simp only; omega⟩
 | false => exact ⟨m, p, by rw [cond_false, e1, e2], h2, h1, by rw [cond_false]; simp only; omega, by rw [cond_false]; simp only; omega⟩
theorem checks_among {f : Fading} (h : OkC f) : ∀ r ∈ checksL f, Among (known f) r := by
 intro r hr
 obtain ⟨c, hc, rfl⟩ := List.mem_map.1 hr
 exact rule_among h (h.checks c hc)
theorem all_in {f : Fading} (h : OkC f) : enterP noBounds (allL f) ∧ ∀ b, enterL noBounds (allL f) = some b → Inv (known f) b := by
 obtain ⟨h1, h2⟩ := rise_in h
 refine ⟨enterP_append h1 fun b hb => (enter_in (h2 b hb) (checks_among h)).1, fun b hb => ?_⟩
 rw [allL, enterL_append, Option.bind_eq_some_iff] at hb
 obtain ⟨b1, hb1, hb2⟩ := hb
 exact ((enter_in (h2 b1 hb1) (checks_among h)).2 b hb2).1
theorem known_lt {f : Fading} (h : OkC f) {x : Nat} (hx : known f x) : x < 27 := by
 have := h.nm
 have := h.nr
 have := h.ns
 unfold known withAll at hx
 omega
end Go.Fade
