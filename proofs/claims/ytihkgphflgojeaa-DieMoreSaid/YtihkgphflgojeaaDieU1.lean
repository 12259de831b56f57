/-
  Chapter 4: the law DieTrue.
-/
import Derived.Test.YtihkgphflgojeaaDieV1
set_option linter.all false


set_option maxRecDepth 100000
namespace Go.Die
open Go Go.Sx

theorem pick_bd {s : Span} {w : Int} (h : 0 ≤ s.1 ∧ s.1 ≤ s.2) (hw : 0 ≤ w ∧ w ≤ 65535) : s.1 ≤ law04u_pick (s, w) ∧ law04u_pick (s, w) ≤ s.2 := by
  show s.1 ≤ s.1 + Int.tmod w (s.2 - s.1 + 1) ∧ s.1 + Int.tmod w (s.2 - s.1 + 1) ≤ s.2
  have := tmod_bd (a := w) (n := s.2 - s.1 + 1) hw.1 (by omega)
  omega
theorem v23 (x : Span × Int) (hp : k23.pre x) : V23 x := by
  obtain ⟨s, w⟩ := x
  obtain ⟨h1, h2, h3, h4, h5⟩ : 0 ≤ s.1 ∧ s.1 ≤ s.2 ∧ s.2 ≤ 1000 ∧ 0 ≤ w ∧ w ≤ 65535 := hp
  have q : s.1 ≤ s.1 + Int.tmod w (s.2 - s.1 + 1) ∧ s.1 + Int.tmod w (s.2 - s.1 + 1) ≤ s.2 := pick_bd (s := s) (w := w) ⟨h1, h2⟩ ⟨h4, h5⟩
  refine ⟨?_, ?_, ?_, ?_, rfl⟩
  · simp only [Z.in64]; omega
  · simp only [Z.in64]; omega
  · show s.2 - s.1 + 1 ≠ 0; omega
  · simp only [Z.in64]; omega
/-- What is true lies between the ends. -/
theorem between {m : Mounted} (M : mountOk m) {w sh n a b : Int} (hw : m.1.2.1 ≤ w ∧ w ≤ m.1.2.2) (hs : m.2.1 ≤ sh ∧ sh ≤ m.2.2) (ha : 0 ≤ a ∧ a ≤ n ∧ n ≤ b) (hb : b ≤ 20000) :
    (0 ≤ w * n ∧ w * n ≤ 4000000) ∧ (thin m a ≤ (m.1.1 + w * n) * (1000 - sh) ∧ (m.1.1 + w * n) * (1000 - sh) ≤ thick m b) ∧ 0 ≤ (m.1.1 + w * n) * (1000 - sh) ∧ (m.1.1 + w * n) * (1000 - sh) ≤ 4020000000 := by
  obtain ⟨h1, h2, h3⟩ := M
  have q := mul_bd (a := w) (A := 200) ⟨by omega, by omega⟩ (b := n) (B := 20000) ⟨by omega, by omega⟩
  have l1 : m.1.2.1 * a ≤ w * n := Int.mul_le_mul hw.1 ha.2.1 ha.1 (by omega)
  have l2 : w * n ≤ m.1.2.2 * b := Int.mul_le_mul hw.2 ha.2.2 (by omega) (by omega)
  have l3 : 0 ≤ m.1.2.1 * a := Int.mul_nonneg h2.1 ha.1
  have l4 : thin m a ≤ (m.1.1 + w * n) * (1000 - sh) := Int.mul_le_mul (by omega) (by omega) (by omega) (by omega)
  have l5 : (m.1.1 + w * n) * (1000 - sh) ≤ thick m b := Int.mul_le_mul (by omega) (by omega) (by omega) (by omega)
  have l6 := (thin_bd ⟨h1, h2, h3⟩ (n := a) ⟨ha.1, by omega⟩).2.1
  have l7 := (thick_bd ⟨h1, h2, h3⟩ (n := b) ⟨by omega, hb⟩).2.2
  exact ⟨q, ⟨l4, l5⟩, by omega, by omega⟩
theorem div_lo {a : Int} (h : 0 ≤ a) : 1000 * Int.tdiv a 1000 ≤ a := by
  rw [Int.tdiv_eq_ediv_of_nonneg h]; omega
theorem div_hi {a : Int} (h : 0 ≤ a) : a ≤ 1000 * Int.tdiv (a + 999) 1000 := by
  rw [Int.tdiv_eq_ediv_of_nonneg (by omega)]; omega
theorem v5 (x : Press × (List Draw) × List Int) (hx : k5.pre x) : V5 x := by
  obtain ⟨p, l, by_⟩ := x
  obtain ⟨hby, hbl⟩ : (∀ b ∈ by_, 0 ≤ b ∧ b ≤ 65535) ∧ by_.length ≤ 140737488355328 := hx
  have eA : law04u_awake () = true := rfl
  have eL : law04u_DieTrue (p, l, by_) = true := rfl
  have eB : ref04u_Press p = pressB p := rfl
  have eO : ref04u_Draws l = drawsB l := rfl
  have eP : die_Plan (p, l) = planOut p l := rfl
  have eF : ∀ q, die_Follow (p, l, q) = followV p l q := fun _ => rfl
  have eC : ∀ q, ref04u_Cost (p, q) = costGo p (-1) q := fun _ => rfl
  have eW : ∀ k n, die_Wide (p, k, n) = wideV p k n := fun _ _ => rfl
  have eG : law04u_large (p, l, 8) = (((decide ((8 : Int) < (l.length : Int)) && decide ((l.length : Int) ≤ 8)) || decide (12 < (l.length : Int))) || decide (8 < (p.1.length : Int))) := rfl
  rw [V5]
  dsimp only
  rw [eA, eL, eB, eO, eP, eG]
  refine ⟨trivial, fun h => ?_, fun h => ?_, fun _ => ⟨trivial, rfl⟩, fun h => ⟨trivial, ?_⟩⟩
  · simp only [Bool.or_eq_false_iff, decide_eq_false_iff_not] at h
    show p.1.length ≤ big
    simp only [big]; omega
  · simp only [Bool.or_eq_false_iff, decide_eq_false_iff_not] at h
    show l.length ≤ big
    simp only [big]; omega
  simp only [Bool.or_eq_false_iff, decide_eq_false_iff_not, Bool.not_eq_false', beq_eq_false_iff_ne] at h
  obtain ⟨⟨⟨_, hn0⟩, hp⟩, hl⟩ := h
  have hn : (0 : Int) < (by_.length : Int) := by omega
  have H := press_iff.1 hp
  have L := draws_iff.1 hl
  have hl8 := L.len
  have hlen := H.len
  rcases best_all hp hl with ⟨e, _⟩ | ⟨P, e, hf, _⟩
  · rw [e]
    exact ⟨fun _ => ⟨fun _ => trivial, rfl⟩, fun h => (by cases h)⟩
  rw [e]
  dsimp only
  rw [eF, eC, (follow_all hp hl P).1 hf]
  dsimp only
  have hPl := fits_len hf
  have hUl : (usedR l (List.replicate p.1.length 0) P).length = p.1.length := by rw [usedR_len, List.length_replicate]
  obtain ⟨U, hU⟩ : ∃ U, U = usedR l (List.replicate p.1.length 0) P := ⟨_, rfl⟩
  rw [← hU] at hUl ⊢
  have hPk : ∀ k ∈ P, 0 ≤ k ∧ k ≤ 10 := by
    have key : ∀ {l : List Draw} {u q : List Int}, fits p l u q → ∀ k ∈ q, 0 ≤ k ∧ k ≤ 10 := by
      intro l
      induction l with
      | nil => intro u q h k hk; cases q with
        | nil => cases hk
        | cons _ _ => exact h.elim
      | cons d l ih =>
        intro u q h k hk
        cases q with
        | nil => cases hk
        | cons a q =>
          rcases List.mem_cons.1 hk with rfl | hk
          · have := h.1.1; omega
          · exact ih h.2 k hk
    exact key hf
  rw [hUl, hPl]
  have b0 := hby _ (getD_mem' by_ 0 0 (Int.le_refl _) hn)
  have hS := H.shrink
  obtain ⟨sh, hsh⟩ : ∃ sh, sh = law04u_pick (p.2.1, by_.getD (Int.toNat 0) 0) := ⟨_, rfl⟩
  have hshb := pick_bd (s := p.2.1) ⟨hS.1, hS.2.1⟩ b0
  rw [← hsh] at hshb ⊢
  refine ⟨fun h => (by cases h), fun _ => ⟨trivial, fun _ => ⟨hp, by show P.length ≤ 20; omega, hPk⟩, fun h => ?_, fun _ => ⟨⟨Int.le_refl _, hn⟩, ⟨hS.1, hS.2.1, by show p.2.1.2 ≤ 1000; omega, b0.1, b0.2⟩, ⟨⟨by omega, Int.le_refl _⟩, roomy_of (by omega) (by omega) (by omega)⟩, ?_⟩⟩⟩
  · exfalso
    simp at h
  refine ⟨fun s => ∃ i : Nat, s.1 = (i : Int) ∧ i ≤ l.length ∧ s.2.length = p.1.length ∧ (∀ n ∈ s.2, 0 ≤ n ∧ n ≤ 1000 * (i : Int)) ∧ fits p (l.drop i) s.2 (P.drop i) ∧ U = usedR (l.drop i) s.2 (P.drop i), fun s => ((l.length : Int) - s.1).toNat, ⟨0, rfl, Nat.zero_le _, by simp, fun n hn => by rw [List.eq_of_mem_replicate hn]; omega, hf, hU⟩, ?_⟩
  rintro ⟨i0, u⟩ ⟨i, g1, g2, g3, g4, g5, g6⟩
  simp only at g1 g3 g4 g5 g6
  subst g1
  refine ⟨fun hi => ?_, fun hi => ?_⟩
  · have hi : (i : Int) < (l.length : Int) := of_decide_eq_true hi
    have hil : i < l.length := by omega
    obtain ⟨y, hy⟩ : ∃ y, y = l.getD i (0, 0, 0) := ⟨_, rfl⟩
    have hyl := L.draw _ (getD_mem l (0, 0, 0) i hil)
    obtain ⟨k, hk⟩ : ∃ k, k = P.getD i 0 := ⟨_, rfl⟩
    rw [drop_getD l (0, 0, 0) i hil, drop_getD P 0 i (by omega), ← hy, ← hk] at g5 g6
    rw [← hy] at hyl
    obtain ⟨⟨hkk, hdo⟩, g5⟩ := g5
    have e1 : P.getD (Int.toNat (i : Int)) 0 = k := hk.symm
    have e2 : l.getD (Int.toNat (i : Int)) (0, 0, 0) = y := hy.symm
    have hm1 := tmod_bd (a := k + 1) (n := (by_.length : Int)) (by omega) hn
    have hm2 := tmod_bd (a := (i : Int) + 2) (n := (by_.length : Int)) (by omega) hn
    have b1 := hby _ (getD_mem' by_ 0 _ hm1.1 hm1.2)
    have b2 := hby _ (getD_mem' by_ 0 _ hm2.1 hm2.2)
    have hd := H.die _ (getD_mem p.1 (0, 0, 0) k.toNat (by omega))
    have M := mount_ok H (k := k.toNat) (by omega)
    obtain ⟨w, hw⟩ : ∃ w, w = law04u_pick ((p.1.getD k.toNat (0, 0, 0)).2, by_.getD (Int.toNat (Int.tmod (k + 1) (by_.length : Int))) 0) := ⟨_, rfl⟩
    have hwb := pick_bd (s := (p.1.getD k.toNat (0, 0, 0)).2) ⟨hd.2.1, hd.2.2.1⟩ b1
    rw [← hw] at hwb
    obtain ⟨u1, u2⟩ := used_set (u := u) (k := k.toNat) (i := i) (c := y.1) g4 (by omega) hyl.1
    have hta := tmod_bd (a := by_.getD (Int.toNat (Int.tmod ((i : Int) + 2) (by_.length : Int))) 0) (n := y.1 + 1) b2.1 (by omega)
    obtain ⟨n, hnn⟩ : ∃ n, n = u.getD k.toNat 0 + Int.tmod (by_.getD (Int.toNat (Int.tmod ((i : Int) + 2) (by_.length : Int))) 0) (y.1 + 1) := ⟨_, rfl⟩
    have bt := between M (w := w) (sh := sh) (n := n) (a := u.getD k.toNat 0) (b := u.getD k.toNat 0 + y.1) hwb hshb ⟨by omega, by omega, by omega⟩ (by omega)
    have bt2 := between M (w := w) (sh := sh) (n := n) (a := n) (b := n) hwb hshb ⟨by omega, by omega, by omega⟩ (by omega)
    have em : (mountV p k.toNat).1.1 = (p.1.getD k.toNat (0, 0, 0)).1 := rfl
    rw [em] at bt bt2
    obtain ⟨W, hW⟩ : ∃ W, W = ((p.1.getD k.toNat (0, 0, 0)).1 + w * n) * (1000 - sh) := ⟨_, rfl⟩
    rw [← hW] at bt bt2
    have hdo' : (decide (1000 * y.2.1 ≤ thin (mountV p k.toNat) (u.getD k.toNat 0)) && decide (thick (mountV p k.toNat) (u.getD k.toNat 0 + y.1) ≤ 1000 * y.2.2)) = true := hdo
    rw [Bool.and_eq_true, decide_eq_true_eq, decide_eq_true_eq] at hdo'
    have hwide : wideV p k n = ((Int.tdiv (thin (mountV p k.toNat) n) 1000, Int.tdiv (thick (mountV p k.toNat) n + 999) 1000), 0) := by
      rw [wideV, hp, show inB k 0 ((p.1.length : Int) - 1) = true from inB_iff.2 (by omega), show inB n 0 8000 = true from inB_iff.2 (by omega)]; rfl
    have tb := (thin_bd M (n := n) ⟨by omega, by omega⟩).2
    have kb := (thick_bd M (n := n) ⟨by omega, by omega⟩).2
    have dl := div_lo tb.1
    have dh := div_hi kb.1
    have d1 : 0 ≤ Int.tdiv (thin (mountV p k.toNat) n) 1000 := by rw [Int.tdiv_eq_ediv_of_nonneg tb.1]; omega
    have d2 : Int.tdiv (thick (mountV p k.toNat) n + 999) 1000 ≤ 10000000 := by rw [Int.tdiv_eq_ediv_of_nonneg (by omega)]; omega
    dsimp only
    rw [e1, e2, ← hw, ← hnn, ← hW, eW, hwide]
    dsimp only
    have hin : (decide (k < 0) || decide ((p.1.length : Int) ≤ k)) = false := by
      simp only [Bool.or_eq_false_iff, decide_eq_false_iff_not]; omega
    have hok : ((((!((0 : Int) == 0)) || decide (W < 1000 * y.2.1)) || decide (1000 * y.2.2 < W)) || decide (W < 1000 * Int.tdiv (thin (mountV p k.toNat) n) 1000) || decide (1000 * Int.tdiv (thick (mountV p k.toNat) n + 999) 1000 < W)) = false := by
      simp only [Bool.or_eq_false_iff, decide_eq_false_iff_not]
      exact ⟨⟨⟨⟨rfl, by omega⟩, by omega⟩, by omega⟩, by omega⟩
    rw [hin, hok]
    have ik : (0 : Int) ≤ k ∧ k < (u.length : Int) := ⟨by omega, by omega⟩
    have il : (0 : Int) ≤ (i : Int) ∧ (i : Int) < (l.length : Int) := ⟨by omega, hi⟩
    refine ⟨⟨by omega, by omega⟩, fun h => (by cases h), fun _ => ⟨hkk, by simp only [Z.in64]; omega, by omega, hm1, ⟨hd.2.1, hd.2.2.1, by show (p.1.getD k.toNat (0, 0, 0)).2.2 ≤ 1000; omega, b1.1, b1.2⟩, ik, by simp only [Z.in64]; omega, by omega, hm2, il, by simp only [Z.in64]; omega, by omega, by simp only [Z.in64]; omega, hkk, by simp only [Z.in64]; omega, by simp only [Z.in64]; omega, by simp only [Z.in64]; omega, by simp only [Z.in64]; omega, trivial, fun _ => il, fun _ => by simp only [Z.in64]; omega, fun _ => il, fun _ => by simp only [Z.in64]; omega, fun _ => by simp only [Z.in64]; omega, fun _ => by simp only [Z.in64]; omega, fun h => (by cases h), fun _ => ⟨ik, il, by simp only [Z.in64]; omega, ik, by simp only [Z.in64]; omega, rfl, rfl, ⟨i + 1, by show (i : Int) + 1 = ((i + 1 : Nat) : Int); omega, hil, by rw [List.length_set]; exact g3, u2, g5, g6⟩, by show ((l.length : Int) - ((i : Int) + 1)).toNat < ((l.length : Int) - (i : Int)).toNat; omega⟩⟩⟩
  · have hi : ¬ (i : Int) < (l.length : Int) := of_decide_eq_false hi
    have hUu : U = u := by
      rw [g6, List.drop_eq_nil_of_le (by omega), List.drop_eq_nil_of_le (by omega), usedR]
      intros; contradiction
    dsimp only
    have eI : ref04u_Ints (u, U) = true := decide_eq_true hUu.symm
    rw [eI]
    refine ⟨?_, fun _ => trivial, rfl⟩
    show u.length ≤ big
    simp only [big]; omega
end Go.Die
