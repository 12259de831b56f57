/-
  Chapter 4: the conditions, proved; second part: Wide, numbers, Last.
-/
import Derived.Test.YtihkgphflgojeaaDieP1
set_option linter.all false


set_option maxRecDepth 100000
namespace Go.Die
open Go Go.Sx

theorem tdiv_bd {a : Int} (h : 0 ≤ a ∧ a ≤ 5000000000) : Z.in64 (Int.tdiv a 1000) := by
  rw [Int.tdiv_eq_ediv_of_nonneg h.1]
  simp only [Z.in64]; omega
theorem ix_ok {p : Press} {k : Int} (h : inB k 0 ((p.1.length : Int) - 1) = true) : 0 ≤ k ∧ k < (p.1.length : Int) := by
  rw [inB_iff] at h; omega
theorem v11 (x : Press × Int × Int) (_ : k11.pre x) : V11 x := by
  obtain ⟨p, k, n⟩ := x
  have e : die_Wide (p, k, n) = wideV p k n := rfl
  rw [V11, e]
  refine ⟨trivial, fun h => ?_, fun h => ?_⟩
  · rw [wideV, show (!pressB p) = true from h]; rfl
  have hp : pressB p = true := not_iff.2.1 h
  have H := press_iff.1 hp
  have hl := H.len
  refine ⟨by simp only [Z.in64]; omega, trivial, fun _ => trivial, fun h2 => ?_, fun h2 => ?_⟩
  · rw [wideV, hp, show (!inB k 0 ((p.1.length : Int) - 1) || !inB n 0 8000) = true from h2]; rfl
  have h2' : (!inB k 0 ((p.1.length : Int) - 1) || !inB n 0 8000) = false := h2
  have e2 : wideV p k n = ((Int.tdiv (thin (mountV p k.toNat) n) 1000, Int.tdiv (thick (mountV p k.toNat) n + 999) 1000), 0) := by rw [wideV, hp, h2']; rfl
  simp only [Bool.or_eq_false_iff, Bool.not_eq_false'] at h2'
  have hk := ix_ok h2'.1
  have hn := inB_iff.1 h2'.2
  have M := mount_ok H (k := k.toNat) (by omega)
  have hu : usedOk n := ⟨by omega, by omega⟩
  have q1 := thin_bd M hu
  have q2 := thick_bd M hu
  rw [e2]
  refine ⟨hk, trivial, ⟨by omega, by omega⟩, ⟨M, hu⟩, ⟨by omega, tdiv_bd (a := thin (mountV p k.toNat) n) (by omega)⟩, ⟨by omega, by omega⟩, ⟨M, hu⟩, ?_, ?_, ⟨by omega, ?_⟩, ?_⟩
  · show Z.in64 (thick (mountV p k.toNat) n + 1000); simp only [Z.in64]; omega
  · show Z.in64 (thick (mountV p k.toNat) n + 1000 - 1); simp only [Z.in64]; omega
  · exact tdiv_bd (a := thick (mountV p k.toNat) n + 1000 - 1) (by omega)
  · show ((Int.tdiv (thin (mountV p k.toNat) n) 1000, Int.tdiv (thick (mountV p k.toNat) n + 1000 - 1) 1000), (0 : Int)) = _
    rw [show thick (mountV p k.toNat) n + 1000 - 1 = thick (mountV p k.toNat) n + 999 by omega]
theorem v12 (x : Press × Int × Int) (hb : k12.pre x) : V12 x := by
  obtain ⟨p, k, n⟩ := x
  have e : ref04u_Wide (p, k, n) = wideV p k n := rfl
  rw [V12, e]
  refine ⟨hb, fun h => ?_, fun h => ?_⟩
  · rw [wideV, show (!pressB p) = true from h]; rfl
  have hp : pressB p = true := not_iff.2.1 h
  have H := press_iff.1 hp
  have hl := H.len
  refine ⟨by simp only [Z.in64]; omega, trivial, fun _ => trivial, fun h2 => ?_, fun h2 => ?_⟩
  · rw [wideV, hp, show (!inB k 0 ((p.1.length : Int) - 1) || !inB n 0 8000) = true from h2]; rfl
  have h2' : (!inB k 0 ((p.1.length : Int) - 1) || !inB n 0 8000) = false := h2
  have e2 : wideV p k n = ((Int.tdiv (thin (mountV p k.toNat) n) 1000, Int.tdiv (thick (mountV p k.toNat) n + 999) 1000), 0) := by rw [wideV, hp, h2']; rfl
  simp only [Bool.or_eq_false_iff, Bool.not_eq_false'] at h2'
  have hk := ix_ok h2'.1
  have hn := inB_iff.1 h2'.2
  have M := mount_ok H (k := k.toNat) (by omega)
  have hu : usedOk n := ⟨by omega, by omega⟩
  have q1 := thin_bd M hu
  have q2 := thick_bd M hu
  rw [e2]
  refine ⟨⟨hp, hk, hu⟩, ⟨by omega, tdiv_bd (a := thin (mountV p k.toNat) n) (by omega)⟩, ⟨hp, hk, hu⟩, ?_, ⟨by omega, ?_⟩, rfl⟩
  · show Z.in64 (thick (mountV p k.toNat) n + 999); simp only [Z.in64]; omega
  · exact tdiv_bd (a := thick (mountV p k.toNat) n + 999) (by omega)
/-! ### Numbers from one on to another one -/
theorem cmp_cases (a b : Int) : (cmpV b a = 1 ∧ a < b) ∨ (cmpV b a = -1 ∧ b < a) ∨ (cmpV b a = 0 ∧ a = b) := by
  unfold cmpV
  by_cases h1 : b < a
  · rw [decide_eq_true h1]; exact .inr (.inl ⟨rfl, h1⟩)
  · rw [decide_eq_false h1]
    by_cases h2 : a < b
    · rw [decide_eq_true h2]; exact .inl ⟨rfl, h2⟩
    · rw [decide_eq_false h2]; exact .inr (.inr ⟨rfl, by omega⟩)
theorem range_split {α : Type} (f : Nat → α) {k n : Nat} (h : k < n) : ∃ r, (List.range n).map f = (List.range k).map f ++ f k :: r := by
  obtain ⟨m, rfl⟩ : ∃ m, n = k + 1 + m := ⟨n - (k + 1), by omega⟩
  rw [List.range_add, List.range_succ]
  simp
theorem nums_mem {a b n : Int} (ha : 0 ≤ a ∧ a ≤ 8000) (hb : 0 ≤ b ∧ b ≤ 8000) (h : n ∈ numsV a b) : 0 ≤ n ∧ n ≤ 8000 := by
  simp only [numsV, List.mem_map, List.mem_range] at h
  obtain ⟨k, hk, rfl⟩ := h
  rcases cmp_cases a b with ⟨e, h⟩ | ⟨e, h⟩ | ⟨e, h⟩ <;> rw [e] <;> omega
theorem v54 (ly : Nat) (x : Int × Int) (hp : k54.pre x) : V54 ly x := by
  obtain ⟨b, a⟩ := x
  obtain ⟨hb, ha⟩ : inB b 0 8000 = true ∧ inB a 0 8000 = true := hp
  rw [inB_iff] at ha hb
  have eC : cmp_Compare_int (b, a) = cmpV b a := rfl
  obtain ⟨c, hc⟩ : ∃ c, c = cmpV b a := ⟨_, rfl⟩
  have eN : die_numbers_1 (b, a) = (List.range ((b - a).natAbs + 1)).map fun (k : Nat) => a + c * (k : Int) := by rw [hc]; rfl
  have hcc := cmp_cases a b
  rw [← hc] at hcc eC
  rw [V54]
  dsimp only
  rw [eC, eN]
  obtain ⟨f, hf⟩ : ∃ f : Nat → Int, f = fun (k : Nat) => a + c * (k : Int) := ⟨_, rfl⟩
  rw [← hf]
  have hfk : ∀ k, f k = a + c * (k : Int) := fun k => by rw [hf]
  obtain ⟨N, hN⟩ : ∃ N, N = (b - a).natAbs := ⟨_, rfl⟩
  rw [← hN]
  refine ⟨trivial, trivial, trivial, trivial, fun s => s.2.2 = false ∧ ∃ k : Nat, s.1 = f k ∧ k ≤ N ∧ s.2.1 = (List.range k).map f, fun s => (b - s.1).toNat + (s.1 - b).toNat, ⟨rfl, 0, by rw [hfk]; simp, Nat.zero_le _, rfl⟩, ?_⟩
  rintro ⟨n, out, fl⟩ ⟨g0, k, g1, g2, g3⟩
  simp only at g0 g1 g3
  subst g0 g1 g3
  obtain ⟨r, hr⟩ := range_split f (show k < N + 1 by omega)
  have hstep : f k + c = f (k + 1) := by
    rw [hfk, hfk, Int.natCast_succ, Int.mul_add, Int.mul_one]; omega
  have hfb : f k = b ↔ k = N := by
    rw [hfk]
    rcases hcc with ⟨e, h⟩ | ⟨e, h⟩ | ⟨e, h⟩ <;> rw [e] <;> omega
  have hbd : -10000 ≤ f k + c ∧ f k + c ≤ 20000 := by
    rw [hfk]
    rcases hcc with ⟨e, h⟩ | ⟨e, h⟩ | ⟨e, h⟩ <;> rw [e] <;> omega
  refine ⟨trivial, trivial, ⟨rfl, rfl⟩, ⟨r, hr⟩, ⟨trivial, trivial, trivial, trivial, trivial, fun h => ?_, fun h _ => ?_⟩, trivial, trivial, trivial, trivial, trivial, fun h => (by cases h), fun _ h => (by cases h)⟩
  · have h : f k ≠ b := by
      intro e
      rw [e] at h
      simp at h
    have hkN : k ≠ N := fun e => h (hfb.2 e)
    refine ⟨by simp only [Z.in64]; omega, ⟨rfl, k + 1, hstep, by omega, by rw [List.range_succ, List.map_append]; rfl⟩, ?_⟩
    show (b - (f k + c)).toNat + (f k + c - b).toNat < (b - f k).toNat + (f k - b).toNat
    rw [hfk]
    rcases hcc with ⟨e, h⟩ | ⟨e, h⟩ | ⟨e, h⟩ <;> rw [e] <;> omega
  · have h : f k = b := by
      have h : (!(f k == b)) = false := h
      simpa using h
    have hkN := hfb.1 h
    show (List.range k).map f ++ [f k] = _
    rw [hkN, List.range_succ, List.map_append]; rfl
theorem v37 (x : Int × Int × Fun Int Bool) (hp : k37.pre x) : V37 x := by
  obtain ⟨a, b, F⟩ := x
  obtain ⟨ha, hb, hF⟩ : inB a 0 8000 = true ∧ inB b 0 8000 = true ∧ ∀ n ∈ numsV a b, F.pre n := hp
  have e : die_first (a, b, F) = firstV a b F.val := rfl
  refine ⟨trivial, ⟨hb, ha⟩, fun r s => s = (0, false) ∧ (∀ n ∈ r, F.pre n) ∧ (numsV a b).find? F.val = r.find? F.val, ⟨rfl, hF, rfl⟩, ?_, ?_⟩
  · rintro n r s ⟨rfl, g1, g2⟩
    refine ⟨g1 n List.mem_cons_self, fun h => ?_, fun h => ⟨rfl, fun m hm => g1 m (List.mem_cons_of_mem _ hm), ?_⟩⟩
    · have h : F.val n = true := h
      rw [e, firstV, g2, List.find?_cons, h]
    · have h : F.val n = false := h
      rw [g2, List.find?_cons, h]
  · rintro s ⟨rfl, _, g2⟩
    have g2 : (numsV a b).find? F.val = none := g2
    show ((0 : Int), false) = _
    rw [e, firstV, g2]
theorem v13 (x : Press × Int × Span) (_ : k13.pre x) : V13 x := by
  obtain ⟨p, k, want⟩ := x
  have e : die_Last (p, k, want) = lastV p k want := rfl
  rw [V13, e]
  refine ⟨trivial, fun h => ?_, fun h => ?_⟩
  · rw [lastV, show (!pressB p) = true from h]; rfl
  have hp : pressB p = true := not_iff.2.1 h
  have H := press_iff.1 hp
  have hl := H.len
  refine ⟨by simp only [Z.in64]; omega, trivial, fun _ => trivial, fun h2 => ?_, fun h2 => ?_⟩
  · rw [lastV, hp, show (!inB k 0 ((p.1.length : Int) - 1) || !spanB want 0 20000) = true from h2]; rfl
  have h2' : (!inB k 0 ((p.1.length : Int) - 1) || !spanB want 0 20000) = false := h2
  have e2 : lastV p k want = cond (!(firstV 0 8000 fun n => fitsV (mountV p k.toNat) n n want).2) (0, 0, 4)
      ((firstV 0 8000 fun n => fitsV (mountV p k.toNat) n n want).1, (firstV 8000 0 fun n => fitsV (mountV p k.toNat) n n want).1, 0) := by rw [lastV, hp, h2']; rfl
  simp only [Bool.or_eq_false_iff, Bool.not_eq_false'] at h2'
  have hk := ix_ok h2'.1
  have M := mount_ok H (k := k.toNat) (by omega)
  have hpre : ∀ a b : Int, 0 ≤ a ∧ a ≤ 8000 → 0 ≤ b ∧ b ≤ 8000 → ∀ n ∈ numsV a b, die_Last_1u_p (n, mountV p k.toNat, want) := fun a b ha hb n hn => by
    have := nums_mem ha hb hn
    exact ⟨M, ⟨by show 0 ≤ n; omega, by show n ≤ 20000; omega⟩, h2'.2⟩
  rw [e2]
  refine ⟨hk, ⟨rfl, rfl, hpre 0 8000 ⟨by omega, by omega⟩ ⟨by omega, by omega⟩⟩, fun h3 => ?_, fun h3 => ⟨⟨rfl, rfl, hpre 8000 0 ⟨by omega, by omega⟩ ⟨by omega, by omega⟩⟩, ?_⟩⟩
  · have h3 : (!(firstV 0 8000 fun n => fitsV (mountV p k.toNat) n n want).2) = true := h3
    rw [h3]; rfl
  · have h3 : (!(firstV 0 8000 fun n => fitsV (mountV p k.toNat) n n want).2) = false := h3
    rw [h3]; rfl
theorem v40 (x : Press × Int × Int × Draw) (hp : k40.pre x) : V40 x := by
  obtain ⟨p, k, n, d⟩ := x
  obtain ⟨h1, h2, h3, h4⟩ : pressB p = true ∧ (0 ≤ k ∧ k < (p.1.length : Int)) ∧ (0 ≤ n ∧ n ≤ 10000) ∧ drawB d = true := hp
  rw [draw_iff] at h4
  refine ⟨⟨h1, h2, by show 0 ≤ n; omega, by show n ≤ 20000; omega⟩, by simp only [Z.in64]; omega, fun _ => by simp only [Z.in64]; omega, fun _ => ⟨h1, h2, by show 0 ≤ n + d.1; omega, by show n + d.1 ≤ 20000; omega⟩, fun _ => by simp only [Z.in64]; omega, rfl⟩
theorem v42 (x : Rest × Rest × Fun Rest Int) (hp : k42.pre x) : V42 x := by
  obtain ⟨a, b, F⟩ := x
  have e : die_less_die_rest (a, b, F) = cond (decide (F.val b < F.val a)) b a := rfl
  refine ⟨hp.2, hp.1, fun h => ?_, fun h => ?_⟩
  · rw [e, show decide (F.val b < F.val a) = true from h]; rfl
  · rw [e, show decide (F.val b < F.val a) = false from h]; rfl
theorem v44 (x : List Int) (h : k44.pre x) : V44 x := by
  have hb : x.length ≤ big := h
  simp only [big] at hb
  refine ⟨trivial, fun hx => ⟨fun _ => hx.symm, fun h => (by cases h)⟩, fun h => (by cases h), fun _ => ⟨roomy_of (by omega) (by omega) ?_, rfl⟩⟩
  show ((List.replicate 0 (0 : Int) ++ x).length : Int) ≤ _
  simp only [List.replicate_zero, List.nil_append]
  omega
end Go.Die
