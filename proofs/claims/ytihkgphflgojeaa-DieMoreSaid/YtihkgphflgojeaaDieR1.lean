/-
  Chapter 4: the law DieEnds.
-/
import Derived.Test.YtihkgphflgojeaaDieAuto3
import Derived.Test.YtihkgphflgojeaaDieU1
set_option linter.all false


set_option maxRecDepth 100000
namespace Go.Die
open Go Go.Sx

theorem tabs_ok3 : TabsOk Go.Proofs.Try.prog T3 := by
  refine ⟨by kernel_rfl, fun p hp => ?_⟩
  simp only [T3, List.mem_singleton] at hp
  subst hp
  exact tabs_ok.mty _ (by simp [T])
theorem thin_mono {m : Mounted} (M : mountOk m) {a b : Int} (h : 0 ≤ a ∧ a ≤ b) : thin m a ≤ thin m b := by
  obtain ⟨h1, h2, h3⟩ := M
  have l1 : m.1.2.1 * a ≤ m.1.2.1 * b := Int.mul_le_mul_of_nonneg_left h.2 h2.1
  have l2 : 0 ≤ m.1.2.1 * a := Int.mul_nonneg h2.1 h.1
  exact Int.mul_le_mul (by omega) (Int.le_refl _) (by omega) (by omega)
theorem thick_mono {m : Mounted} (M : mountOk m) {a b : Int} (h : 0 ≤ a ∧ a ≤ b) : thick m a ≤ thick m b := by
  obtain ⟨h1, h2, h3⟩ := M
  have l1 : m.1.2.2 * a ≤ m.1.2.2 * b := Int.mul_le_mul_of_nonneg_left h.2 (by omega)
  have l2 : 0 ≤ m.1.2.2 * a := Int.mul_nonneg (by omega) h.1
  exact Int.mul_le_mul (by omega) (Int.le_refl _) (by omega) (by omega)
theorem min_ex {F : Int → Bool} (n : Nat) : F (n : Int) = true → ∃ m : Nat, m ≤ n ∧ F (m : Int) = true ∧ ∀ j : Int, 0 ≤ j → j < (m : Int) → F j = false := by
  induction n using Nat.strongRecOn with
  | _ n ih =>
    intro h
    by_cases hj : ∃ j : Nat, j < n ∧ F (j : Int) = true
    · obtain ⟨j, h1, h2⟩ := hj
      obtain ⟨m, g1, g2, g3⟩ := ih j h1 h2
      exact ⟨m, by omega, g2, g3⟩
    · refine ⟨n, Nat.le_refl _, h, fun j h0 h1 => ?_⟩
      cases hf : F j with
      | false => rfl
      | true => exact absurd ⟨j.toNat, by omega, by rw [Int.toNat_of_nonneg h0]; exact hf⟩ hj
theorem last_cases {p : Press} {k : Int} {want : Span} (hp : pressB p = true) (hk : 0 ≤ k ∧ k < (p.1.length : Int)) (hs : spanB want 0 20000 = true) :
    (lastV p k want = (0, 0, 4) ∧ ∀ j, 0 ≤ j → j ≤ 8000 → fitsV (mountV p k.toNat) j j want = false) ∨
    ∃ a b, lastV p k want = (a, b, 0) ∧ (0 ≤ a ∧ a ≤ b ∧ b ≤ 8000) ∧ (fitsV (mountV p k.toNat) a a want = true ∧ fitsV (mountV p k.toNat) b b want = true) ∧ (∀ j, 0 ≤ j → j < a → fitsV (mountV p k.toNat) j j want = false) ∧ ∀ j, b < j → j ≤ 8000 → fitsV (mountV p k.toNat) j j want = false := by
  obtain ⟨F, hF⟩ : ∃ F : Int → Bool, F = fun n => fitsV (mountV p k.toNat) n n want := ⟨_, rfl⟩
  have hFn : ∀ n, fitsV (mountV p k.toNat) n n want = F n := fun n => by rw [hF]
  have e2 : lastV p k want = cond (!(firstV 0 8000 F).2) (0, 0, 4) ((firstV 0 8000 F).1, (firstV 8000 0 F).1, 0) := by
    rw [lastV, hp, show inB k 0 ((p.1.length : Int) - 1) = true from inB_iff.2 (by omega), hs, hF]; rfl
  simp only [hFn]
  by_cases hex : ∃ j : Int, (0 ≤ j ∧ j ≤ 8000) ∧ F j = true
  · right
    obtain ⟨j, hj, hFj⟩ := hex
    obtain ⟨a, a1, a2, a3⟩ := min_ex (F := F) j.toNat (by rw [Int.toNat_of_nonneg hj.1]; exact hFj)
    obtain ⟨b, b1, b2, b3⟩ := min_ex (F := fun n => F (8000 - n)) (8000 - j).toNat (by rw [Int.toNat_of_nonneg (by omega), show (8000 : Int) - (8000 - j) = j by omega]; exact hFj)
    have hb2 : F (8000 - (b : Int)) = true := b2
    have e3 := first_up (P := F) (n := (a : Int)) ⟨by omega, by omega⟩ a2 a3
    have hdn : ∀ i, 8000 - (b : Int) < i → i ≤ 8000 → F i = false := fun i h1 h2 => by
      have : F (8000 - (8000 - i)) = false := b3 (8000 - i) (by omega) (by omega)
      rwa [show (8000 : Int) - (8000 - i) = i by omega] at this
    have e4 := first_down (P := F) (n := 8000 - (b : Int)) ⟨by omega, by omega⟩ hb2 hdn
    refine ⟨(a : Int), 8000 - (b : Int), by rw [e2, e3, e4]; rfl, ⟨by omega, ?_, by omega⟩, ⟨a2, hb2⟩, a3, hdn⟩
    by_cases hab : (a : Int) ≤ 8000 - (b : Int)
    · exact hab
    · rw [hdn a (by omega) (by omega)] at a2; cases a2
  · left
    have hno : ∀ j, 0 ≤ j → j ≤ 8000 → F j = false := fun j h1 h2 => by
      cases hf : F j with
      | false => rfl
      | true => exact absurd ⟨j, ⟨h1, h2⟩, hf⟩ hex
    exact ⟨by rw [e2, first_none hno]; rfl, hno⟩
theorem wide_val {p : Press} {k n : Int} (hp : pressB p = true) (hk : 0 ≤ k ∧ k < (p.1.length : Int)) (hn : 0 ≤ n ∧ n ≤ 8000) :
    wideV p k n = ((thin (mountV p k.toNat) n / 1000, (thick (mountV p k.toNat) n + 999) / 1000), 0) := by
  have M := mount_ok (press_iff.1 hp) (k := k.toNat) (by omega)
  have h1 := (thin_bd M (n := n) ⟨hn.1, by omega⟩).2.1
  have h2 := (thick_bd M (n := n) ⟨hn.1, by omega⟩).2.1
  rw [← Int.tdiv_eq_ediv_of_nonneg h1, ← Int.tdiv_eq_ediv_of_nonneg (by omega)]
  rw [wideV, hp, show inB k 0 ((p.1.length : Int) - 1) = true from inB_iff.2 (by omega), show inB n 0 8000 = true from inB_iff.2 hn]; rfl
theorem wide_why {p : Press} {k n : Int} : (wideV p k n = ((0, 0), 1) ∧ pressB p = false) ∨ (wideV p k n = ((0, 0), 2) ∧ pressB p = true) ∨ (pressB p = true ∧ (0 ≤ k ∧ k < (p.1.length : Int)) ∧ 0 ≤ n ∧ n ≤ 8000) := by
  cases hp : pressB p with
  | false => left; exact ⟨by rw [wideV, hp]; rfl, rfl⟩
  | true =>
    right
    cases h : (!inB k 0 ((p.1.length : Int) - 1) || !inB n 0 8000) with
    | true => left; exact ⟨by rw [wideV, hp, h]; rfl, rfl⟩
    | false =>
      right
      simp only [Bool.or_eq_false_iff, Bool.not_eq_false'] at h
      exact ⟨rfl, ix_ok h.1, inB_iff.1 h.2⟩
/-- A press with one die, and its shrinkage, put in. -/
theorem press_set {p : Press} (H : OkP p) {k : Nat} {c : Die} {sh : Span} (hc : (1 ≤ c.1 ∧ c.1 ≤ 20000) ∧ 0 ≤ c.2.1 ∧ c.2.1 ≤ c.2.2 ∧ c.2.2 ≤ 200) (hs : 0 ≤ sh.1 ∧ sh.1 ≤ sh.2 ∧ sh.2 ≤ 300) : pressB (p.1.set k c, sh, p.2.2) = true := by
  refine press_iff.2 ⟨by rw [List.length_set]; exact H.len, hs, H.change, fun d hd => ?_⟩
  rcases List.mem_or_eq_of_mem_set hd with h | rfl
  · exact H.die d h
  · exact hc
theorem mount_set {p : Press} {k : Nat} (hk : k < p.1.length) {c : Die} {sh : Span} {ch : Int} : mountV (p.1.set k c, sh, ch) k = (c, sh) := by
  simp [mountV, List.getD, hk]
theorem v25 (x : Int × Press × Int × Span) (hp : k25.pre x) : V25 x := by
  obtain ⟨n, p, k, want⟩ := x
  obtain ⟨h1, h2, h3, h4⟩ : pressB p = true ∧ (0 ≤ k ∧ k < (p.1.length : Int)) ∧ usedOk n ∧ spanB want 0 20000 = true := hp
  have hs := span_iff.1 h4
  refine ⟨⟨h1, h2, h3⟩, ?_, fun _ => ⟨h1, h2, h3⟩, fun _ => ?_, rfl⟩
  · simp only [Z.in64]; omega
  · simp only [Z.in64]; omega
theorem v6 (x : Press × Int × Int × Span × Int) (hx : k6.pre x) : V6 x := by
  obtain ⟨p, n, used, want, by_⟩ := x
  obtain ⟨hy0, hy1⟩ : 0 ≤ by_ ∧ by_ ≤ 65535 := hx
  have eA : law04u_awake () = true := rfl
  have eL : law04u_DieEnds (p, n, used, want, by_) = true := rfl
  have eB : ref04u_Press p = pressB p := rfl
  have eW : ∀ p k n, die_Wide (p, k, n) = wideV p k n := fun _ _ _ => rfl
  have eT : die_Last (p, n, want) = lastV p n want := rfl
  have eS : ∀ a b, law04u_span (a, b) = (a, b) := fun _ _ => rfl
  have eF : ∀ i, law04u_DieEnds_1 (i, p, n, want) = fitsV (mountV p n.toNat) i i want := fun _ => rfl
  have eG : law04u_large (p, [], 8) = (((decide ((8 : Int) < ((0 : Nat) : Int)) && decide (((0 : Nat) : Int) ≤ 8)) || decide ((12 : Int) < ((0 : Nat) : Int))) || decide (8 < (p.1.length : Int))) := rfl
  rw [V6]
  simp only [List.replicate_zero, List.nil_append]
  rw [eA, eL, eB, eG, eT]
  simp only [eW, eS, eF]
  refine ⟨trivial, fun _ => ⟨trivial, trivial⟩, fun hl => ?_⟩
  have hbig : p.1.length ≤ big := by
    simp only [Bool.or_eq_false_iff, decide_eq_false_iff_not] at hl
    simp only [big]; omega
  refine ⟨trivial, fun he => ⟨fun _ => hbig, fun _ => trivial, ?_⟩, fun he => ?_⟩
  · rcases wide_why (p := p) (k := n) (n := used) with ⟨e, hp⟩ | ⟨e, hp⟩ | ⟨hp, hk, hn⟩
    · rw [e, hp]; rfl
    · rw [e, hp]; rfl
    · rw [wide_val hp hk hn] at he; cases he
  rcases wide_why (p := p) (k := n) (n := used) with ⟨e, hp⟩ | ⟨e, hp⟩ | ⟨hp, hk, hn⟩
  · rw [e] at he; cases he
  · rw [e] at he; cases he
  clear he
  have H := press_iff.1 hp
  have hlen := H.len
  have hS := H.shrink
  have hkn : n.toNat < p.1.length := by omega
  obtain ⟨d, hd⟩ : ∃ d, d = p.1.getD n.toNat (0, 0, 0) := ⟨_, rfl⟩
  have hdo := H.die _ (getD_mem p.1 (0, 0, 0) n.toNat hkn)
  have M := mount_ok H hkn
  have em : mountV p n.toNat = (d, p.2.1) := by rw [hd]; rfl
  rw [← hd] at hdo ⊢
  have m100 := tmod_bd (a := by_) (n := 100) hy0 (by omega)
  obtain ⟨far, hfar⟩ : ∃ far, far = min 8000 (used + Int.tmod by_ 100) := ⟨_, rfl⟩
  have hf : used ≤ far ∧ far ≤ 8000 := by omega
  have w1 := wide_val hp hk hn
  have w2 := wide_val hp hk (n := far) ⟨by omega, hf.2⟩
  have hlo := press_set H (k := n.toNat) (c := (d.1, d.2.1, d.2.1)) (sh := (p.2.1.2, p.2.1.2)) ⟨hdo.1, hdo.2.1, Int.le_refl _, by show d.2.1 ≤ 200; omega⟩ ⟨by show 0 ≤ p.2.1.2; omega, Int.le_refl _, hS.2.2⟩
  have hhi := press_set H (k := n.toNat) (c := (d.1, d.2.2, d.2.2)) (sh := (p.2.1.1, p.2.1.1)) ⟨hdo.1, by show 0 ≤ d.2.2; omega, Int.le_refl _, hdo.2.2.2⟩ ⟨hS.1, Int.le_refl _, by show p.2.1.1 ≤ 300; omega⟩
  have w3 := wide_val hlo (k := n) (n := used) (by rw [List.length_set]; exact hk) hn
  have w4 := wide_val hhi (k := n) (n := used) (by rw [List.length_set]; exact hk) hn
  rw [mount_set hkn] at w3 w4
  have t3 : thin ((d.1, d.2.1, d.2.1), p.2.1.2, p.2.1.2) used = thin (mountV p n.toNat) used := by rw [em]; rfl
  have t3' : thick ((d.1, d.2.1, d.2.1), p.2.1.2, p.2.1.2) used = thin (mountV p n.toNat) used := by rw [em]; rfl
  have t4 : thick ((d.1, d.2.2, d.2.2), p.2.1.1, p.2.1.1) used = thick (mountV p n.toNat) used := by rw [em]; rfl
  have t4' : thin ((d.1, d.2.2, d.2.2), p.2.1.1, p.2.1.1) used = thick (mountV p n.toNat) used := by rw [em]; rfl
  rw [t3, t3'] at w3
  rw [t4, t4'] at w4
  have u1 := (thin_bd M (n := used) ⟨hn.1, by omega⟩).2
  have u2 := (thick_bd M (n := used) ⟨hn.1, by omega⟩).2
  have u3 := thin_mono M (a := used) (b := far) ⟨hn.1, hf.1⟩
  have u4 := thick_mono M (a := used) (b := far) ⟨hn.1, hf.1⟩
  have hFdef : ∀ i, fitsV (mountV p n.toNat) i i want = (decide (1000 * want.1 ≤ thin (mountV p n.toNat) i) && decide (thick (mountV p n.toNat) i ≤ 1000 * want.2)) := fun _ => rfl
  have mono1 : ∀ a b, 0 ≤ a ∧ a ≤ b → thin (mountV p n.toNat) a ≤ thin (mountV p n.toNat) b := fun a b h => thin_mono M h
  have mono2 : ∀ a b, 0 ≤ a ∧ a ≤ b → thick (mountV p n.toNat) a ≤ thick (mountV p n.toNat) b := fun a b h => thick_mono M h
  rw [← hfar, w1, w2, w3, w4]
  obtain ⟨A, hA⟩ : ∃ A, A = thin (mountV p n.toNat) used := ⟨_, rfl⟩
  obtain ⟨B, hB⟩ : ∃ B, B = thick (mountV p n.toNat) used := ⟨_, rfl⟩
  obtain ⟨A', hA'⟩ : ∃ A', A' = thin (mountV p n.toNat) far := ⟨_, rfl⟩
  obtain ⟨B', hB'⟩ : ∃ B', B' = thick (mountV p n.toNat) far := ⟨_, rfl⟩
  rw [← hA] at u1 u3 ⊢
  rw [← hB] at u2 u4 ⊢
  rw [← hA'] at u3 ⊢
  rw [← hB'] at u4 ⊢
  dsimp only
  have q1 : ¬ (A / 1000 + 1 < (A + 999) / 1000) := by omega
  have q2 : ¬ (B / 1000 + 1 < (B + 999) / 1000) := by omega
  have q3 : ¬ (A' / 1000 < A / 1000) := by omega
  have q4 : ¬ ((B' + 999) / 1000 < (B + 999) / 1000) := by omega
  rw [decide_eq_false q1, decide_eq_false q2, decide_eq_false q3, decide_eq_false q4, beq_self_eq_true, beq_self_eq_true, beq_self_eq_true]
  refine ⟨hbig, fun h => ?_, fun _ => ⟨roomy_of (by omega) (by omega) (by omega), roomy_of (by omega) (by omega) (by omega), hk, trivial, trivial, hk, hk, trivial, trivial, trivial, trivial, by omega, by simp only [Z.in64]; omega, trivial, fun _ => by simp only [Z.in64]; omega, fun _ => by simp only [Z.in64]; omega, fun h => (by cases h), fun _ => ⟨trivial, ?_⟩⟩⟩
  · exfalso
    rw [hp] at h
    simp only [Bool.or_eq_true, decide_eq_true_eq] at h
    rcases h with (h | h) | h
    · cases h
    · omega
    · omega
  have clo : ∀ i, 0 ≤ i → i ≤ 8001 → spanB want 0 20000 = true → law04u_DieEnds_1u_p (i, p, n, want) := fun i h1 h2 hw => ⟨hp, hk, ⟨h1, by omega⟩, hw⟩
  cases hw : spanB want 0 20000 with
  | false =>
    have e : lastV p n want = (0, 0, 2) := by rw [lastV, hp, hw, Bool.not_false, Bool.or_true]; rfl
    rw [e]
    exact ⟨fun _ => ⟨fun h => (by cases h.1), fun _ => trivial, rfl⟩, fun h => (by cases h)⟩
  | true =>
    rcases last_cases hp hk hw with ⟨e, hno⟩ | ⟨a, b, e, hab, ⟨fa, fb⟩, ha, hb⟩
    · rw [e, hno used hn.1 hn.2]
      exact ⟨fun _ => ⟨fun _ => clo used hn.1 (by omega) hw, fun _ => trivial, rfl⟩, fun h => (by cases h)⟩
    rw [e]
    dsimp only
    rw [fa, fb]
    have g1 : (decide ((0 : Int) < a) && fitsV (mountV p n.toNat) (a - 1) (a - 1) want) = false := by
      by_cases h : 0 < a
      · rw [ha (a - 1) (by omega) (by omega), Bool.and_false]
      · rw [decide_eq_false h]; rfl
    have g2 : (decide (b < 8000) && fitsV (mountV p n.toNat) (b + 1) (b + 1) want) = false := by
      by_cases h : b < 8000
      · rw [hb (b + 1) (by omega) (by omega), Bool.and_false]
      · rw [decide_eq_false h]; rfl
    have g3 : fitsV (mountV p n.toNat) used used want = (decide (a ≤ used) && decide (used ≤ b)) := by
      refine bool_ext ⟨fun h => ?_, fun h => ?_⟩
      · rw [Bool.and_eq_true, decide_eq_true_eq, decide_eq_true_eq]
        constructor
        · by_cases h' : a ≤ used
          · exact h'
          · rw [ha used hn.1 (by omega)] at h; cases h
        · by_cases h' : used ≤ b
          · exact h'
          · rw [hb used (by omega) hn.2] at h; cases h
      · rw [Bool.and_eq_true, decide_eq_true_eq, decide_eq_true_eq] at h
        rw [hFdef, Bool.and_eq_true, decide_eq_true_eq, decide_eq_true_eq] at fa fb ⊢
        have := mono1 a used ⟨hab.1, h.1⟩
        have := mono2 used b ⟨hn.1, h.2⟩
        omega
    rw [g1, g2, g3, decide_eq_false (show ¬ a < 0 by omega), decide_eq_false (show ¬ b < a by omega), decide_eq_false (show ¬ (8000 : Int) < b by omega)]
    refine ⟨fun h => (by cases h), fun _ => ⟨fun _ => clo a (by omega) (by omega) hw, fun _ => clo b (by omega) (by omega) hw, fun _ => by simp only [Z.in64]; omega, fun h => ?_, fun _ => by simp only [Z.in64]; omega, fun h => ?_, fun h => (by cases h), fun _ => ⟨clo used hn.1 (by omega) hw, fun _ => trivial, ?_⟩⟩⟩
    · have := of_decide_eq_true h.1
      exact clo (a - 1) (by omega) (by omega) hw
    · exact clo (b + 1) (by omega) (by omega) hw
    · rw [beq_self_eq_true]; rfl
end Go.Die
