/-
  Chapter 13: the law DustMore.
-/
import Derived.Test.YtmbaggjpbjpljaaDustU1
set_option linter.all false


set_option maxRecDepth 100000
namespace Go.Dust
open Go Go.Sx

structure Less (b c : Burn) : Prop where
  dlo : b.1.1 ≤ c.1.1
  dhi : c.1.2 ≤ b.1.2
  clo : b.2.1.1 ≤ c.2.1.1
  chi : c.2.1.2 ≤ b.2.1.2
  room : b.2.2.1 ≤ c.2.2.1
  price : c.2.2.2.1 ≤ b.2.2.2.1
  cart : c.2.2.2.2 ≤ b.2.2.2.2
def Wide : List Load → List Load → Prop
  | [], [] => True
  | x :: l, y :: r => x.1 = y.1 ∧ y.2.1 ≤ x.2.1 ∧ x.2.2 ≤ y.2.2 ∧ Wide l r
  | _, _ => False
theorem Wide.refl : ∀ l : List Load, Wide l l
  | [] => trivial
  | _ :: l => ⟨rfl, Int.le_refl _, Int.le_refl _, Wide.refl l⟩
theorem Wide.sum : ∀ {l r : List Load}, Wide l r → sumF (fun x : Load => x.1) l = sumF (fun x : Load => x.1) r
  | [], [], _ => rfl
  | x :: l, y :: r, h => by rw [sumF, sumF, h.1, Wide.sum h.2.2.2]
theorem does_mono {b c : Burn} (h : Less b c) {f : Feed} {n m : Span} (hf : mayB f = true) (hn : m.1 ≤ n.1 ∧ n.2 ≤ m.2) (hd : doesB b f n = true) : doesB c f m = true := by
  have M := may_iff.1 hf
  have h1 := Int.mul_le_mul_of_nonneg_left h.dlo M.1.1
  have h2 := Int.mul_le_mul_of_nonneg_left h.dhi M.1.1
  have h3 := Int.mul_le_mul_of_nonneg_left h.clo M.2.1
  have h4 := Int.mul_le_mul_of_nonneg_left h.chi M.2.1
  have hd : (decide (n.1 ≤ f.1 * b.1.1 + f.2 * b.2.1.1) && decide (f.1 * b.1.2 + f.2 * b.2.1.2 ≤ n.2)) = true := hd
  rw [Bool.and_eq_true, decide_eq_true_eq, decide_eq_true_eq] at hd
  show (decide (m.1 ≤ f.1 * c.1.1 + f.2 * c.2.1.1) && decide (f.1 * c.1.2 + f.2 * c.2.1.2 ≤ m.2)) = true
  rw [Bool.and_eq_true, decide_eq_true_eq, decide_eq_true_eq]
  omega
theorem have_mono {b c : Burn} (h : Less b c) {s t m : Int} (hs : s ≤ t) : haveV b s m ≤ haveV c t m := by
  have := h.room
  unfold haveV; omega
/-- A plan that can be followed still can be; and no less is left. -/
theorem fits_mono {b c : Burn} (h : Less b c) : ∀ {l r : List Load} {s t : Int} {p : List Feed}, Wide l r → s ≤ t → fits b l s p → fits c r t p ∧ lastOf s (leftR b l s p) ≤ lastOf t (leftR c r t p)
  | [], [], s, t, [], _, hs, _ => ⟨trivial, hs⟩
  | x :: l, y :: r, s, t, f :: p, hw, hs, hf => by
    obtain ⟨⟨h1, h2, h3⟩, h4⟩ := hf
    obtain ⟨w1, w2, w3, w4⟩ := hw
    have hh := have_mono h (m := x.1) hs
    rw [w1] at hh h2 h4
    obtain ⟨i1, i2⟩ := fits_mono h w4 (show haveV b s y.1 - f.1 ≤ haveV c t y.1 - f.1 by omega) h4
    refine ⟨⟨⟨h1, by omega, does_mono h h1 ⟨w2, w3⟩ h3⟩, i1⟩, ?_⟩
    simp only [leftR, lastOf, w1]
    exact i2
theorem coal_nonneg {b : Burn} : ∀ {l : List Load} {s : Int} {p : List Feed}, fits b l s p → 0 ≤ sumF (fun x : Feed => x.2) p
  | [], _, [], _ => by simp [sumF]
  | _ :: l, _, f :: p, h => by
    have := coal_nonneg h.2
    have M := (may_iff.1 h.1.1).2
    rw [sumF]; omega
/-- It costs no more. -/
theorem cost_mono {b c : Burn} (B : OkB c) (h : Less b c) {l r : List Load} {p : List Feed} (hw : Wide l r) (hf : fits b l 0 p) : costR c r 0 p ≤ costR b l 0 p := by
  obtain ⟨i1, i2⟩ := fits_mono h hw (Int.le_refl 0) hf
  obtain ⟨c1, c2⟩ := cost_sum hf
  obtain ⟨c3, c4⟩ := cost_sum i1
  have hs := coal_nonneg hf
  have hp := Int.mul_le_mul_of_nonneg_right h.price hs
  have hsum := hw.sum
  rw [← hsum] at c3 c4
  have hk : c.2.2.2.2 * (0 + sumF (fun x : Load => x.1) l - sumF (fun x : Feed => x.1) p - lastOf 0 (leftR c r 0 p)) ≤ b.2.2.2.2 * (0 + sumF (fun x : Load => x.1) l - sumF (fun x : Feed => x.1) p - lastOf 0 (leftR b l 0 p)) :=
    Int.mul_le_mul h.cart (by omega) c4 (by have := B.cart; have := h.cart; omega)
  omega
theorem cost_nonneg {b : Burn} (B : OkB b) : ∀ {l : List Load} {s : Int} {p : List Feed}, fits b l s p → 0 ≤ costR b l s p
  | [], _, [], _ => Int.le_refl _
  | x :: l, s, f :: p, h => by
    have := cost_nonneg B h.2
    have M := (may_iff.1 h.1.1).2
    have q1 := Int.mul_nonneg B.price.1 M.1
    have q2 : 0 ≤ cartV b s x.1 := Int.mul_nonneg B.cart.1 (by unfold haveV; omega)
    simp only [costR]; omega
/-- With less firings at the end. -/
theorem fits_take {b : Burn} (B : OkB b) : ∀ (n : Nat) {l : List Load} {s : Int} {p : List Feed}, fits b l s p → fits b (l.take n) s (p.take n) ∧ costR b (l.take n) s (p.take n) ≤ costR b l s p
  | 0, l, s, p, h => by
    rw [List.take_zero, List.take_zero]
    exact ⟨trivial, cost_nonneg B h⟩
  | n + 1, [], s, [], _ => ⟨trivial, Int.le_refl _⟩
  | n + 1, x :: l, s, f :: p, h => by
    obtain ⟨i1, i2⟩ := fits_take B n h.2
    rw [List.take_succ_cons, List.take_succ_cons]
    refine ⟨⟨h.1, i1⟩, ?_⟩
    simp only [costR]; omega
/-- Where a plan can be followed, the best one costs no more. -/
theorem best_le {b : Burn} {l : List Load} (hb : burnB b = true) (hl : loadsB l = true) {p : List Feed} (h : fits b l 0 p) : ∃ Q, bestOut b l = (Q, costR b l 0 Q, 0) ∧ costR b l 0 Q ≤ costR b l 0 p := by
  rcases best_all hb hl with ⟨_, hno⟩ | ⟨Q, e, hf, hopt⟩
  · exact absurd h (hno p)
  · exact ⟨Q, e, (hopt p h).1⟩
theorem more_ok {b c : Burn} {l r : List Load} {P : List Feed} {C : Int} (hc : burnB c = true) (hr : loadsB r = true) (h : Less b c) (hw : Wide l r) (hf : fits b l 0 P) (hC : C = costR b l 0 P) :
    (((((!((followV c r P).2.2.2 == 0)) || (!((bestOut c r).2.2 == 0))) || decide (C < (bestOut c r).2.1)) || decide ((followV c r P).2.1 < (bestOut c r).2.1)) || decide (C < (followV c r P).2.1)) = false := by
  have hf' := (fits_mono h hw (Int.le_refl 0) hf).1
  have hco := cost_mono (burn_iff.1 hc) h hw hf
  obtain ⟨Q, e, hQ⟩ := best_le hc hr hf'
  rw [(follow_all hc hr P).1 hf', e, hC]
  simp only [Bool.or_eq_false_iff, decide_eq_false_iff_not]
  exact ⟨⟨⟨⟨rfl, rfl⟩, by omega⟩, by omega⟩, by omega⟩
theorem set_at {α : Type} (a c : α) (B : List α) : ∀ A : List α, (A ++ a :: B).set A.length c = A ++ c :: B
  | [] => rfl
  | x :: A => by
    show x :: (A ++ a :: B).set A.length c = x :: (A ++ c :: B)
    rw [set_at a c B A]
theorem get_at {α : Type} (a d : α) (B : List α) : ∀ A : List α, (A ++ a :: B).getD A.length d = a
  | [] => rfl
  | x :: A => by
    show (A ++ a :: B).getD A.length d = a
    exact get_at a d B A
def wd (by_ : Int) (y : Load) : Load := (y.1, max 0 (y.2.1 - by_), min 100000 (y.2.2 + by_))
theorem wd_wide {by_ : Int} (h : 0 ≤ by_) : ∀ l : List Load, (∀ x ∈ l, 0 ≤ x.2.1 ∧ x.2.2 ≤ 100000) → Wide l (l.map (wd by_))
  | [], _ => trivial
  | x :: l, hl => by
    have := hl x List.mem_cons_self
    refine ⟨rfl, ?_, ?_, wd_wide h l fun y hy => hl y (List.mem_cons_of_mem _ hy)⟩
    · show max 0 (x.2.1 - by_) ≤ x.2.1; omega
    · show x.2.2 ≤ min 100000 (x.2.2 + by_); omega
theorem wd_ok {by_ : Int} (h : 0 ≤ by_) {l : List Load} (L : OkL l) : loadsB (l.map (wd by_)) = true := by
  refine loads_iff.2 ⟨by rw [List.length_map]; exact L.len, fun x hx => ?_⟩
  obtain ⟨y, hy, rfl⟩ := List.mem_map.1 hx
  have := L.load y hy
  refine ⟨this.1, ?_, ?_, ?_⟩
  · show 0 ≤ max 0 (y.2.1 - by_); omega
  · show max 0 (y.2.1 - by_) ≤ min 100000 (y.2.2 + by_); omega
  · show min 100000 (y.2.2 + by_) ≤ 100000; omega
theorem v8 (x : Burn × (List Load) × Int) (hp : k8.pre x) : V8 x := by
  obtain ⟨b, l, by_⟩ := x
  obtain ⟨hy0, hy1⟩ : 0 ≤ by_ ∧ by_ ≤ 255 := hp
  have eA : law13u_awake () = true := rfl
  have eL : law13u_DustMore (b, l, by_) = true := rfl
  have eB : ref13u_Burn b = burnB b := rfl
  have eO : ref13u_Loads l = loadsB l := rfl
  have eP : dust_Best (b, l) = bestOut b l := rfl
  rw [V8]
  dsimp only
  rw [eA, eL, eB, eO, eP]
  refine ⟨fun _ => trivial, fun h => ?_, fun _ => ⟨trivial, rfl⟩, fun h => ⟨trivial, ?_⟩⟩
  · show l.length ≤ big
    simp only [Bool.or_eq_false_iff, decide_eq_false_iff_not] at h
    simp only [big]; omega
  simp only [Bool.or_eq_false_iff, decide_eq_false_iff_not, Bool.not_eq_false'] at h
  obtain ⟨⟨_, hb⟩, hl⟩ := h
  have B := burn_iff.1 hb
  have L := loads_iff.1 hl
  have hl8 := L.len
  have b1 := B.dust
  have b2 := B.coal
  have b3 := B.room
  have b4 := B.price
  have b5 := B.cart
  rcases best_all hb hl with ⟨e, _⟩ | ⟨P, e, hf, _⟩
  · rw [e]
    exact ⟨fun _ => ⟨fun _ => trivial, rfl⟩, fun h => (by cases h)⟩
  rw [e]
  dsimp only
  obtain ⟨C, hC⟩ : ∃ C, C = costR b l 0 P := ⟨_, rfl⟩
  rw [← hC]
  have m8 : 0 ≤ Int.tmod by_ 8 ∧ Int.tmod by_ 8 < 8 := tmod_bd hy0 (by omega)
  have m5 : 0 ≤ Int.tmod by_ 5 ∧ Int.tmod by_ 5 < 5 := tmod_bd hy0 (by omega)
  have m3 : 0 ≤ Int.tmod by_ 3 ∧ Int.tmod by_ 3 < 3 := tmod_bd hy0 (by omega)
  have m7 : 0 ≤ Int.tmod by_ 7 ∧ Int.tmod by_ 7 < 7 := tmod_bd hy0 (by omega)
  have K0 := more_ok (b := b) (c := (b.1, b.2.1, (min 60 (b.2.2.1 + (Int.tmod by_ 8))), b.2.2.2)) (r := l) (burn_iff.2 ⟨b1, b2, by show 0 ≤ min 60 _ ∧ min 60 _ ≤ (60 : Int); omega, b4, b5⟩) hl
    ⟨Int.le_refl _, Int.le_refl _, Int.le_refl _, Int.le_refl _, by show _ ≤ min 60 (b.2.2.1 + (Int.tmod by_ 8)); omega, Int.le_refl _, Int.le_refl _⟩ (Wide.refl l) hf hC
  have K1 := more_ok (b := b) (c := (b.1, b.2.1, b.2.2.1, (max 0 (b.2.2.2.1 - (Int.tmod by_ 5))), (max 0 (b.2.2.2.2 - (Int.tmod by_ 3))))) (r := l) (burn_iff.2 ⟨b1, b2, b3, by show 0 ≤ max 0 _ ∧ max 0 (b.2.2.2.1 - (Int.tmod by_ 5)) ≤ (10000 : Int); omega, by show 0 ≤ max 0 _ ∧ max 0 (b.2.2.2.2 - (Int.tmod by_ 3)) ≤ (10000 : Int); omega⟩) hl
    ⟨Int.le_refl _, Int.le_refl _, Int.le_refl _, Int.le_refl _, Int.le_refl _, by show max 0 (b.2.2.2.1 - (Int.tmod by_ 5)) ≤ _; omega, by show max 0 (b.2.2.2.2 - (Int.tmod by_ 3)) ≤ _; omega⟩ (Wide.refl l) hf hC
  have K2 := more_ok (b := b) (c := (((min b.1.2 (b.1.1 + (Int.tmod by_ 3))), b.1.2), (b.2.1.1, (max b.2.1.1 (b.2.1.2 - (Int.tmod by_ 7)))), b.2.2)) (r := l) (burn_iff.2 ⟨by show 0 ≤ min b.1.2 (b.1.1 + (Int.tmod by_ 3)) ∧ min b.1.2 (b.1.1 + (Int.tmod by_ 3)) ≤ b.1.2 ∧ b.1.2 ≤ 1000; omega, by show 1 ≤ b.2.1.1 ∧ b.2.1.1 ≤ max b.2.1.1 (b.2.1.2 - (Int.tmod by_ 7)) ∧ max b.2.1.1 (b.2.1.2 - (Int.tmod by_ 7)) ≤ 1000; omega, b3, b4, b5⟩) hl
    ⟨by show _ ≤ min b.1.2 (b.1.1 + (Int.tmod by_ 3)); omega, Int.le_refl _, Int.le_refl _, by show max b.2.1.1 (b.2.1.2 - (Int.tmod by_ 7)) ≤ _; omega, Int.le_refl _, Int.le_refl _, Int.le_refl _⟩ (Wide.refl l) hf hC
  have K3 := more_ok (b := b) (c := b) (r := l.map (wd by_)) hb (wd_ok hy0 L) ⟨Int.le_refl _, Int.le_refl _, Int.le_refl _, Int.le_refl _, Int.le_refl _, Int.le_refl _, Int.le_refl _⟩ (wd_wide hy0 l fun x hx => ⟨(L.load x hx).2.1, (L.load x hx).2.2.2⟩) hf hC
  refine ⟨fun h => (by cases h), fun _ => ⟨by omega, by simp only [Z.in64]; omega, by omega, by simp only [Z.in64]; omega, by omega, by simp only [Z.in64]; omega, by omega, by simp only [Z.in64]; omega, by omega, by simp only [Z.in64]; omega, roomy_of (by omega) (by omega) (by simp only [List.replicate_zero, List.nil_append]; omega), ?_⟩⟩
  refine ⟨fun s => ∃ i : Nat, s.1 = (i : Int) ∧ i ≤ l.length ∧ s.2 = (l.take i).map (wd by_) ++ l.drop i, fun s => ((l.length : Int) - s.1).toNat, ⟨0, rfl, Nat.zero_le _, rfl⟩, ?_⟩
  rintro ⟨i0, w⟩ ⟨i, g1, g2, g3⟩
  simp only at g1 g3
  subst g1
  have hwl : w.length = l.length := by rw [g3, List.length_append, List.length_map, List.length_take, List.length_drop]; omega
  have htl : ((l.take i).map (wd by_)).length = i := by rw [List.length_map, List.length_take]; omega
  refine ⟨fun hi => ?_, fun hi => ?_⟩
  · have hi : (i : Int) < (w.length : Int) := of_decide_eq_true hi
    have hil : i < l.length := by omega
    obtain ⟨y, hy⟩ : ∃ y, y = l.getD i (0, 0, 0) := ⟨_, rfl⟩
    have hyl := L.load _ (getD_mem l (0, 0, 0) i hil)
    rw [← hy] at hyl
    rw [drop_getD l (0, 0, 0) i hil, ← hy] at g3
    have ey : w.getD (Int.toNat (i : Int)) (0, 0, 0) = y := by
      show w.getD i (0, 0, 0) = y
      have := get_at y (0, 0, 0) (l.drop (i + 1)) ((l.take i).map (wd by_))
      rw [htl, ← g3] at this
      exact this
    have es : w.set (Int.toNat (i : Int)) (wd by_ y) = (l.take (i + 1)).map (wd by_) ++ l.drop (i + 1) := by
      show w.set i (wd by_ y) = _
      have := set_at y (wd by_ y) (l.drop (i + 1)) ((l.take i).map (wd by_))
      rw [htl, ← g3] at this
      rw [this, List.take_succ_eq_append_getElem hil, List.map_append, List.append_assoc, hy]
      simp [List.getD, hil]
    dsimp only
    rw [ey]
    refine ⟨⟨by omega, hi⟩, by simp only [Z.in64]; omega, ⟨by omega, hi⟩, by simp only [Z.in64]; omega, trivial, ⟨by omega, hi⟩, by simp only [Z.in64]; omega, rfl, rfl, rfl, ⟨i + 1, by show (i : Int) + 1 = ((i + 1 : Nat) : Int); omega, hil, es⟩, ?_⟩
    show ((l.length : Int) - ((i : Int) + 1)).toNat < ((l.length : Int) - (i : Int)).toNat; omega
  · have hi : ¬ (i : Int) < (w.length : Int) := of_decide_eq_false hi
    have hw : w = l.map (wd by_) := by
      rw [g3, List.take_of_length_le (by omega), List.drop_eq_nil_of_le (by omega), List.append_nil]
    clear g3
    subst hw
    refine ⟨fun s => 0 ≤ s ∧ s ≤ 4, fun s => (4 - s).toNat, ⟨by omega, by omega⟩, ?_⟩
    rintro s ⟨q1, q2⟩
    refine ⟨fun hs => ?_, fun _ => ?_⟩
    · have hs : s < 4 := of_decide_eq_true hs
      have hm : (4 - (s + 1)).toNat < (4 - s).toNat := by omega
      have hi64 : Z.in64 (s + 1) := by simp only [Z.in64]; omega
      refine ⟨⟨q1, hs⟩, fun h3 => ?_, fun h3 => ?_⟩
      · have h3 : s = 3 := by simpa using h3
        subst h3
        exact ⟨trivial, trivial, fun h => (Bool.false_ne_true (K3.symm.trans h)).elim, fun _ => ⟨hi64, rfl, rfl, rfl, rfl, ⟨by omega, by omega⟩, hm⟩⟩
      · have h3 : s ≠ 3 := by simpa using h3
        have : s = 0 ∨ s = 1 ∨ s = 2 := by omega
        rcases this with rfl | rfl | rfl
        · exact ⟨trivial, trivial, fun h => (Bool.false_ne_true (K0.symm.trans h)).elim, fun _ => ⟨hi64, rfl, rfl, rfl, rfl, ⟨by omega, by omega⟩, hm⟩⟩
        · exact ⟨trivial, trivial, fun h => (Bool.false_ne_true (K1.symm.trans h)).elim, fun _ => ⟨hi64, rfl, rfl, rfl, rfl, ⟨by omega, by omega⟩, hm⟩⟩
        · exact ⟨trivial, trivial, fun h => (Bool.false_ne_true (K2.symm.trans h)).elim, fun _ => ⟨hi64, rfl, rfl, rfl, rfl, ⟨by omega, by omega⟩, hm⟩⟩
    · refine ⟨fun h => ⟨fun _ => trivial, ?_⟩, fun h => ?_⟩
      · have h : l = [] := List.length_eq_zero_iff.1 (by simpa using h)
        have hz : C = 0 := by
          rw [hC, h]
          cases P <;> rfl
        rw [hz]; rfl
      · have h : l.length ≠ 0 := by simpa using h
        have hlt : loadsB (l.take (Int.toNat ((l.length : Int) - 1))) = true :=
          loads_iff.2 ⟨by rw [List.length_take]; omega, fun x hx => L.load x (List.mem_of_mem_take hx)⟩
        obtain ⟨f1, f2⟩ := fits_take B (Int.toNat ((l.length : Int) - 1)) hf
        obtain ⟨Q, eQ, hQ⟩ := best_le hb hlt f1
        have eBT : dust_Best (b, l.take (Int.toNat ((l.length : Int) - 1))) = (Q, costR b (l.take (Int.toNat ((l.length : Int) - 1))) 0 Q, 0) := eQ
        rw [eBT]
        refine ⟨by simp only [Z.in64]; omega, ⟨by omega, by omega⟩, trivial, fun _ => trivial, ?_⟩
        rw [decide_eq_true (by show _ ≤ C; rw [hC]; exact Int.le_trans hQ f2)]
        rfl
end Go.Dust
