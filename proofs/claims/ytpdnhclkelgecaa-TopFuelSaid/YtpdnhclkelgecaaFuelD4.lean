/-
  Chapter 13: the conditions, proved; fourth part: the document's functions; the laws DustCoal and DustFeeds.
-/
import Derived.Test.YtpdnhclkelgecaaFuelD3
set_option linter.all false


set_option maxRecDepth 100000
namespace Go.Fuel
open Go Go.Sx

theorem gives_bd {b : Burn} {f : Feed} (B : OkB b) (M : mayB f = true) :
    (0 ≤ f.1 * b.1.1 ∧ f.1 * b.1.1 ≤ 60000) ∧ (0 ≤ f.2 * b.2.1.1 ∧ f.2 * b.2.1.1 ≤ 200000) ∧ (0 ≤ f.1 * b.1.2 ∧ f.1 * b.1.2 ≤ 60000) ∧ (0 ≤ f.2 * b.2.1.2 ∧ f.2 * b.2.1.2 ≤ 200000) := by
  have M := may_iff.1 M
  have h1 := B.dust
  have h2 := B.coal
  have q1 := mul_bd (a := f.1) (A := 60) M.1 (b := b.1.1) (B := 1000) ⟨by omega, by omega⟩
  have q2 := mul_bd (a := f.2) (A := 200) M.2 (b := b.2.1.1) (B := 1000) ⟨by omega, by omega⟩
  have q3 := mul_bd (a := f.1) (A := 60) M.1 (b := b.1.2) (B := 1000) ⟨by omega, by omega⟩
  have q4 := mul_bd (a := f.2) (A := 200) M.2 (b := b.2.1.2) (B := 1000) ⟨by omega, by omega⟩
  exact ⟨by omega, by omega, by omega, by omega⟩
theorem up_le {m c n : Int} (hc : 0 < c) : upV m c ≤ n ↔ m ≤ n * c := by
  unfold upV
  have h : -n ≤ (-m) / c ↔ (-n) * c ≤ -m := Int.le_ediv_iff_mul_le hc
  rw [Int.neg_mul] at h
  omega
theorem le_down {m c n : Int} (hc : 0 < c) : n ≤ downV m c ↔ n * c ≤ m := Int.le_ediv_iff_mul_le hc
/-- Just the numbers of a span do. -/
theorem does_iff {b : Burn} (B : OkB b) (need : Span) (d n : Int) (hn : 0 ≤ n ∧ n ≤ 200) : doesB b (d, n) need = true ↔ (coalS b need d).1 ≤ n ∧ n ≤ (coalS b need d).2 := by
  have h1 := B.coal
  have e1 : (coalS b need d).1 = max 0 (upV (need.1 - d * b.1.1) b.2.1.1) := rfl
  have e2 : (coalS b need d).2 = min 200 (downV (need.2 - d * b.1.2) b.2.1.2) := rfl
  have q1 := up_le (m := need.1 - d * b.1.1) (c := b.2.1.1) (n := n) (by omega)
  have q2 := le_down (m := need.2 - d * b.1.2) (c := b.2.1.2) (n := n) (by omega)
  have e3 : doesB b (d, n) need = true ↔ need.1 ≤ d * b.1.1 + n * b.2.1.1 ∧ d * b.1.2 + n * b.2.1.2 ≤ need.2 := by
    show (decide _ && decide _) = true ↔ _
    rw [Bool.and_eq_true]
    exact and_congr decide_eq_true_iff decide_eq_true_iff
  rw [e3, e1, e2]
  omega
end Go.Fuel
