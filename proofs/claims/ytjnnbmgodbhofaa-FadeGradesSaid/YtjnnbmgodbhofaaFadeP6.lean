/-
  Chapter 12: FadeClash.
-/
import Derived.Test.YtjnnbmgodbhofaaFadeP5
set_option linter.all false
set_option maxRecDepth 1000000
namespace Go.Fade
open Go Go.Sx
theorem clashGo_spec : ∀ (l : List Rule) (b : Bds) (i : Int), (clashGo b l i = (0, 4) ∧ (enterL b l).isSome = true) ∨ ∃ n : Nat, n < l.length ∧ clashGo b l i = (i + (n : Int), 0) ∧ (enterL b (l.take n)).isSome = true ∧ enterL b (l.take (n + 1)) = none ∧ enterL b l = none
 | [], b, i => .inl ⟨rfl, rfl⟩
 | r :: l, b, i => by
  cases h : okR b r with
  | false =>
   refine .inr ⟨0, Nat.succ_pos _, ?_, rfl, ?_, ?_⟩
   ·rw [clashGo, h]; simp
   ·simp only [List.take_succ_cons, List.take_zero, enterL, h, cond_false]
   ·rw [enterL, h]; rfl
  | true =>
   rcases clashGo_spec l (putR b r) (i + 1) with ⟨h1, h2⟩ | ⟨n, h1, h2, h3, h4, h5⟩
   ·exact .inl ⟨by rw [clashGo, h]; exact h1, by rw [enterL, h]; exact h2⟩
   ·refine .inr ⟨n + 1, by simpa using h1, ?_, ?_, ?_, ?_⟩
    ·rw [clashGo, h, cond_true, h2]
     simp only [Prod.mk.injEq, and_true]
     omega
    ·rw [List.take_succ_cons, enterL, h]; exact h3
    ·rw [List.take_succ_cons, enterL, h]; exact h4
    ·rw [enterL, h]; exact h5
theorem entered {S : Nat → Prop} : ∀ {l : List Rule} {b b' : Bds}, Inv S b → (∀ r ∈ l, Among S r) → enterL b l = some b' → ∀ (a c : Nat) (w : Int), ((a : Int), (c : Int), w) ∈ l → gt b' a c ≤ w
 | [], _, _, _, _, _, _, _, _, hm => by cases hm
 | r :: l, b, b', h, hl, he, a, c, w, hm => by
  rw [enterL, Bool.cond_eq_ite] at he
  split at he
  ·rename_i hok
   obtain ⟨a', c', e, ha, hc, _⟩ := hl r List.mem_cons_self
   have hI : Inv S (putR b r) := by rw [e] at hok ⊢; exact (put_in h ha hc (okR_iff.1 hok)).1
   have hl' : ∀ r ∈ l, Among S r := fun r hr => hl r (List.mem_cons_of_mem _ hr)
   rcases List.mem_cons.1 hm with hm | hm
   ·rw [← hm] at e hok
    have e1 : a = a' := by have := congrArg (·.1) e; simp only at this; omega
    have e2 : c = c' := by have := congrArg (·.2.1) e; simp only at this; omega
    subst e1 e2
    have h1 := put_le h ha hc (okR_iff.1 hok)
    rw [hm] at h1
    exact Int.le_trans (((enter_in hI hl').2 b' he).2 a c ha hc) h1
   ·exact entered hI hl' he a c w hm
  ·cases he
theorem against {f : Fading} (h : OkC f) {b b' : Bds} (hI : Inv (known f) b) (he : enterL b (checksL f) = some b') {c : Check} (hc : c ∈ f.2.2.2) : okR b' (ruleOf (c.1, c.2.1, c.2.2.1, !c.2.2.2)) = false := by
 obtain ⟨p, e1, h1, _⟩ := of_known h (h.checks c hc).2
 obtain ⟨m, e2, h2, _⟩ := month_known h (h.checks c hc).1
 have hmem : ruleOf c ∈ checksL f := List.mem_map_of_mem hc
 have key := entered hI (checks_among h) he
 cases hf : c.2.2.2 with
 | true =>
  have er : ruleOf c = ((p : Int), (m : Int), 0) := by rw [ruleOf, hf, cond_true, e1, e2]
  have hle := key p m 0 (er ▸ hmem)
  have er' : ruleOf (c.1, c.2.1, c.2.2.1, !true) = ((m : Int), (p : Int), -1) := by
   rw [ruleOf]
   simp only [Bool.not_true, cond_false]
   rw [e1, e2]
  rw [er']
  cases ho : okR b' ((m : Int), (p : Int), -1) with
  | false => rfl
  | true => have := okR_iff.1 ho; omega
 | false =>
  have er : ruleOf c = ((m : Int), (p : Int), -1) := by rw [ruleOf, hf, cond_false, e1, e2]
  have hle := key m p (-1) (er ▸ hmem)
  have er' : ruleOf (c.1, c.2.1, c.2.2.1, !false) = ((p : Int), (m : Int), 0) := by
   rw [ruleOf]
   simp only [Bool.not_false, cond_true]
   rw [e1, e2]
  rw [er']
  cases ho : okR b' ((p : Int), (m : Int), 0) with
  | false => rfl
  | true => have := okR_iff.1 ho; omega
end Go.Fade
