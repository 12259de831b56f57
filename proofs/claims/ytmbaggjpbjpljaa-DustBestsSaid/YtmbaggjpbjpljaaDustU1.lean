/-
  Chapter 13: the law DustTrue.
-/
import Derived.Test.YtmbaggjpbjpljaaDustAuto2
import Derived.Test.YtmbaggjpbjpljaaDustO1
set_option linter.all false


set_option maxRecDepth 100000
namespace Go.Dust
open Go Go.Sx

theorem tabs_ok2 : TabsOk Go.Proofs.Try.prog T2 := by
  refine ⟨by kernel_rfl, fun p hp => ?_⟩
  simp only [T2, List.mem_singleton] at hp
  subst hp
  exact tabs_ok.mty _ (by simp [T])
def sumF {α : Type} (f : α → Int) : List α → Int
  | [] => 0
  | a :: l => f a + sumF f l
theorem sumF_take {α : Type} (f : α → Int) (d : α) : ∀ (l : List α) (i : Nat), i < l.length → sumF f (l.take (i + 1)) = sumF f (l.take i) + f (l.getD i d)
  | a :: l, 0, _ => by simp [sumF]
  | a :: l, i + 1, h => by
    have := sumF_take f d l i (by simpa using h)
    rw [List.take_succ_cons, List.take_succ_cons, sumF, sumF, this, List.getD_cons_succ]
    omega
theorem sumF_bd {α : Type} (f : α → Int) (A : Int) : ∀ (l : List α), (∀ a ∈ l, 0 ≤ f a ∧ f a ≤ A) → 0 ≤ sumF f l ∧ sumF f l ≤ A * (l.length : Int)
  | [], _ => by simp [sumF]
  | a :: l, h => by
    have h1 := h a List.mem_cons_self
    have h2 := sumF_bd f A l fun x hx => h x (List.mem_cons_of_mem _ hx)
    rw [sumF, List.length_cons, Int.natCast_succ, Int.mul_add, Int.mul_one]
    omega
def lastOf (d : Int) : List Int → Int
  | [] => d
  | a :: l => lastOf a l
theorem lastOf_eq : ∀ (l : List Int) (d : Int), l ≠ [] → lastOf d l = l.getD (l.length - 1) 0
  | [], _, h => absurd rfl h
  | [a], _, _ => rfl
  | a :: c :: l, d, _ => by
    have := lastOf_eq (c :: l) a (by simp)
    rw [lastOf, this]
    rfl
theorem succ_mul (k : Nat) (a : Int) : ((k + 1 : Nat) : Int) * a = (k : Int) * a + a := by rw [Int.natCast_succ, Int.add_mul, Int.one_mul]
theorem fits_at {b : Burn} : ∀ {l : List Load} {left : Int} {p : List Feed}, fits b l left p → ∀ i, i < l.length →
    mayB (p.getD i (0, 0)) = true ∧ doesB b (p.getD i (0, 0)) (l.getD i (0, 0, 0)).2 = true ∧ 0 ≤ (leftR b l left p).getD i 0 ∧ (leftR b l left p).getD i 0 ≤ b.2.2.1
  | x :: l, left, f :: p, h, 0, _ => by
    obtain ⟨⟨h1, h2, h3⟩, _⟩ := h
    have M := may_iff.1 h1
    refine ⟨h1, h3, ?_, ?_⟩
    · show 0 ≤ haveV b left x.1 - f.1; omega
    · show haveV b left x.1 - f.1 ≤ b.2.2.1
      have : haveV b left x.1 ≤ b.2.2.1 := by unfold haveV; omega
      omega
  | x :: l, left, f :: p, h, i + 1, hi => fits_at (l := l) (p := p) h.2 i (by simpa using hi)
/-- What a plan costs, all in all; and where the dust went. -/
theorem cost_sum {b : Burn} : ∀ {l : List Load} {left : Int} {p : List Feed}, fits b l left p →
    costR b l left p = b.2.2.2.2 * (left + sumF (·.1) l - sumF (·.1) p - lastOf left (leftR b l left p)) + b.2.2.2.1 * sumF (·.2) p ∧ 0 ≤ left + sumF (·.1) l - sumF (·.1) p - lastOf left (leftR b l left p)
  | [], left, [], _ => by simp [costR, sumF, leftR, lastOf]
  | x :: l, left, f :: p, h => by
    obtain ⟨⟨h1, h2, h3⟩, h4⟩ := h
    obtain ⟨i1, i2⟩ := cost_sum h4
    have hh : haveV b left x.1 ≤ left + x.1 := by unfold haveV; omega
    simp only [costR, sumF, leftR, lastOf]
    obtain ⟨hv, hhv⟩ : ∃ a, a = haveV b left x.1 := ⟨_, rfl⟩
    rw [cartV]
    rw [← hhv] at i1 i2 hh ⊢
    obtain ⟨E, hE⟩ : ∃ E, E = lastOf (hv - f.1) (leftR b l (hv - f.1) p) := ⟨_, rfl⟩
    rw [← hE] at i1 i2 ⊢
    refine ⟨?_, by omega⟩
    rw [i1, Int.mul_add, show left + (x.1 + sumF (·.1) l) - (f.1 + sumF (·.1) p) - E = (hv - f.1 + sumF (·.1) l - sumF (·.1) p - E) + (left + x.1 - hv) by omega, Int.mul_add]
    omega
theorem wrap_bd (a : Int) : 0 ≤ Go.IntKind.wrap .u16 a ∧ Go.IntKind.wrap .u16 a ≤ 65535 := by
  show 0 ≤ a % 65536 ∧ a % 65536 ≤ 65535
  omega
theorem pick_bd {s : Span} {w : Int} (h : 0 ≤ s.1 ∧ s.1 ≤ s.2) (hw : 0 ≤ w ∧ w ≤ 65535) : s.1 ≤ law13u_pick (s, w) ∧ law13u_pick (s, w) ≤ s.2 := by
  show s.1 ≤ s.1 + Int.tmod w (s.2 - s.1 + 1) ∧ s.1 + Int.tmod w (s.2 - s.1 + 1) ≤ s.2
  rw [Int.tmod_eq_emod_of_nonneg hw.1]
  have h1 := Int.emod_nonneg w (show s.2 - s.1 + 1 ≠ 0 by omega)
  have h2 := Int.emod_lt_of_pos w (show 0 < s.2 - s.1 + 1 by omega)
  omega
theorem tmod_bd {a n : Int} (ha : 0 ≤ a) (hn : 0 < n) : 0 ≤ Int.tmod a n ∧ Int.tmod a n < n := by
  rw [Int.tmod_eq_emod_of_nonneg ha]
  exact ⟨Int.emod_nonneg _ (by omega), Int.emod_lt_of_pos _ hn⟩
theorem v23 (x : Span × Int) (hp : k23.pre x) : V23 x := by
  obtain ⟨s, w⟩ := x
  obtain ⟨h1, h2, h3, h4, h5⟩ : 0 ≤ s.1 ∧ s.1 ≤ s.2 ∧ s.2 ≤ 1000 ∧ 0 ≤ w ∧ w ≤ 65535 := hp
  have q : s.1 ≤ s.1 + Int.tmod w (s.2 - s.1 + 1) ∧ s.1 + Int.tmod w (s.2 - s.1 + 1) ≤ s.2 := pick_bd (s := s) (w := w) ⟨h1, h2⟩ ⟨h4, h5⟩
  refine ⟨?_, ?_, ?_, ?_, rfl⟩
  · simp only [Z.in64]; omega
  · simp only [Z.in64]; omega
  · show s.2 - s.1 + 1 ≠ 0; omega
  · simp only [Z.in64]; omega
theorem heat_ok {b : Burn} {f : Feed} (hb : burnB b = true) (hf : mayB f = true) : dust_Heat (b, f) = (gives b f, 0) := by
  show heatV b f = _
  rw [heatV, hb, hf]; rfl
theorem guard_true (x : Bool) (A : Bool) (hA : A = true) : x = true → (x && A) = true := by rintro rfl; rw [hA]; rfl
theorem v5 (x : Burn × (List Load) × List Int) (hp : k5.pre x) : V5 x := by
  obtain ⟨b, l, by_⟩ := x
  obtain ⟨hby, hbl⟩ : (∀ b ∈ by_, 0 ≤ b ∧ b ≤ 65535) ∧ by_.length ≤ 140737488355328 := hp
  have eA : law13u_awake () = true := rfl
  have eL : law13u_DustTrue (b, l, by_) = true := rfl
  have eB : ref13u_Burn b = burnB b := rfl
  have eO : ref13u_Loads l = loadsB l := rfl
  have eP : dust_Best (b, l) = bestOut b l := rfl
  have eF : ∀ p, dust_Follow (b, l, p) = followV b l p := fun _ => rfl
  have eM : ∀ f, ref13u_May f = mayB f := fun _ => rfl
  rw [V5]
  dsimp only
  rw [eA, eL, eB, eO, eP, eF]
  refine ⟨fun _ => trivial, fun h => ?_, fun _ => ⟨trivial, rfl⟩, fun h => ⟨trivial, ?_⟩⟩
  · show l.length ≤ big
    simp only [Bool.or_eq_false_iff, decide_eq_false_iff_not] at h
    simp only [big]; omega
  simp only [Bool.or_eq_false_iff, decide_eq_false_iff_not, Bool.not_eq_false', beq_eq_false_iff_ne] at h
  obtain ⟨⟨⟨_, hn0⟩, hb⟩, hl⟩ := h
  have hn : (0 : Int) < (by_.length : Int) := by omega
  have B := burn_iff.1 hb
  have L := loads_iff.1 hl
  have hl8 := L.len
  rcases best_all hb hl with ⟨e, _⟩ | ⟨P, e, hf, _⟩
  · rw [e]
    exact ⟨fun _ => ⟨fun _ => trivial, rfl⟩, fun h => (by cases h)⟩
  rw [e]
  dsimp only
  rw [(follow_all hb hl P).1 hf]
  dsimp only
  have hPl := fits_len hf
  have hQl := leftR_len hf
  obtain ⟨Q, hQ⟩ : ∃ Q, Q = leftR b l 0 P := ⟨_, rfl⟩
  obtain ⟨C, hC⟩ : ∃ C, C = costR b l 0 P := ⟨_, rfl⟩
  have hat := fits_at hf
  have hcs := cost_sum hf
  rw [← hQ] at hQl hat hcs ⊢
  rw [← hC] at hcs ⊢
  rw [hPl, hQl]
  refine ⟨fun h => (by cases h), fun _ => ⟨trivial, fun h => ?_, fun _ => ?_⟩⟩
  · exfalso
    simp at h
  have hM1 : ∀ i, sumF (fun x : Load => x.1) (l.take i) ≤ 400 ∧ 0 ≤ sumF (fun x : Load => x.1) (l.take i) := fun i => by
    have h1 := sumF_bd (fun x : Load => x.1) 40 (l.take i) fun a ha => (L.load a (List.mem_of_mem_take ha)).1
    have h2 : (l.take i).length ≤ l.length := by rw [List.length_take]; omega
    omega
  have hPm : ∀ f ∈ P, (0 ≤ f.1 ∧ f.1 ≤ 60) ∧ 0 ≤ f.2 ∧ f.2 ≤ 200 := fun f hf => by
    obtain ⟨i, hi, rfl⟩ := List.getElem_of_mem hf
    have := (hat i (by omega)).1
    rw [show P.getD i (0, 0) = P[i] by simp [List.getD, hi]] at this
    exact may_iff.1 this
  have hM2 : ∀ i, sumF (fun x : Feed => x.1) (P.take i) ≤ 600 ∧ 0 ≤ sumF (fun x : Feed => x.1) (P.take i) := fun i => by
    have h1 := sumF_bd (fun x : Feed => x.1) 60 (P.take i) fun a ha => (hPm a (List.mem_of_mem_take ha)).1
    have h2 : (P.take i).length ≤ P.length := by rw [List.length_take]; omega
    omega
  have hM3 : ∀ i, sumF (fun x : Feed => x.2) (P.take i) ≤ 2000 ∧ 0 ≤ sumF (fun x : Feed => x.2) (P.take i) := fun i => by
    have h1 := sumF_bd (fun x : Feed => x.2) 200 (P.take i) fun a ha => (hPm a (List.mem_of_mem_take ha)).2
    have h2 : (P.take i).length ≤ P.length := by rw [List.length_take]; omega
    omega
  refine ⟨fun s => ∃ i : Nat, s.2.2.2 = (i : Int) ∧ i ≤ l.length ∧ s.1 = sumF (fun x : Load => x.1) (l.take i) ∧ s.2.1 = sumF (fun x : Feed => x.1) (P.take i) ∧ s.2.2.1 = sumF (fun x : Feed => x.2) (P.take i), fun s => ((l.length : Int) - s.2.2.2).toNat, ⟨0, rfl, Nat.zero_le _, rfl, rfl, rfl⟩, ?_⟩
  rintro ⟨made, burnt, coal, i0⟩ ⟨i, g1, g2, g3, g4, g5⟩
  simp only at g1 g3 g4 g5
  subst g1 g3 g4 g5
  have m1 := hM1 i
  have m2 := hM2 i
  have m3 := hM3 i
  refine ⟨fun hi => ?_, fun hi => ?_⟩
  · have hi : (i : Int) < (l.length : Int) := of_decide_eq_true hi
    have hil : i < l.length := by omega
    obtain ⟨a1, a2, a3, a4⟩ := hat i hil
    have t1 := sumF_take (fun x : Load => x.1) (0, 0, 0) l i hil
    have t2 := sumF_take (fun x : Feed => x.1) (0, 0) P i (by omega)
    have t3 := sumF_take (fun x : Feed => x.2) (0, 0) P i (by omega)
    have m1' := hM1 (i + 1)
    have m2' := hM2 (i + 1)
    have m3' := hM3 (i + 1)
    rw [t1] at m1'
    rw [t2] at m2'
    rw [t3] at m3'
    obtain ⟨f, hf'⟩ : ∃ f, f = P.getD i (0, 0) := ⟨_, rfl⟩
    obtain ⟨y, hy⟩ : ∃ y, y = l.getD i (0, 0, 0) := ⟨_, rfl⟩
    obtain ⟨z, hz⟩ : ∃ z, z = Q.getD i 0 := ⟨_, rfl⟩
    have e1 : P.getD (Int.toNat (i : Int)) (0, 0) = f := hf'.symm
    have e2 : l.getD (Int.toNat (i : Int)) (0, 0, 0) = y := hy.symm
    have e3 : Q.getD (Int.toNat (i : Int)) 0 = z := hz.symm
    rw [← hf'] at a1 a2 t2 t3 m2' m3'
    rw [← hy] at a2 t1 m1'
    rw [← hz] at a3 a4
    have M := may_iff.1 a1
    have hDl := B.dust
    have hCl := B.coal
    have hgb := gives_bd B a1
    dsimp only
    rw [e1, e2, e3, heat_ok hb a1, eM, a1]
    refine ⟨⟨by omega, by omega⟩, trivial, fun _ => trivial, fun h => (by cases h), fun _ => ?_⟩
    refine ⟨fun s => ∃ k : Nat, s.2 = (k : Int) ∧ (k : Int) ≤ f.1 ∧ (k : Int) * b.1.1 ≤ s.1 ∧ s.1 ≤ (k : Int) * b.1.2, fun s => (f.1 - s.2).toNat, ⟨0, rfl, by omega, by simp, by simp⟩, ?_⟩
    rintro ⟨heat, k0⟩ ⟨k, r1, r2, r3, r4⟩
    simp only at r1 r3 r4
    subst r1
    have q1 := mul_bd (a := (k : Int)) (A := 60) ⟨by omega, by omega⟩ (b := b.1.1) (B := 1000) ⟨by omega, by omega⟩
    have q2 := mul_bd (a := (k : Int)) (A := 60) ⟨by omega, by omega⟩ (b := b.1.2) (B := 1000) ⟨by omega, by omega⟩
    refine ⟨fun hk => ?_, fun hk => ?_⟩
    · have hk : (k : Int) < f.1 := of_decide_eq_true hk
      have hm := tmod_bd (a := (i : Int) + 3 * (k : Int)) (n := (by_.length : Int)) (by omega) hn
      obtain ⟨w, hw⟩ : ∃ w, w = Go.IntKind.wrap .u16 ((by_.getD (Int.toNat (Int.tmod ((i : Int) + 3 * (k : Int)) (by_.length : Int))) 0) + (Go.IntKind.wrap .u16 (k : Int))) := ⟨_, rfl⟩
      have hwb := wrap_bd ((by_.getD (Int.toNat (Int.tmod ((i : Int) + 3 * (k : Int)) (by_.length : Int))) 0) + (Go.IntKind.wrap .u16 (k : Int)))
      rw [← hw] at hwb
      dsimp only
      rw [← hw]
      have hpk := pick_bd (s := b.1) ⟨hDl.1, hDl.2.1⟩ hwb
      refine ⟨?_, ?_, by omega, hm, ⟨hDl.1, hDl.2.1, hDl.2.2, hwb.1, hwb.2⟩, ?_, ?_, rfl, rfl, ⟨k + 1, ?_, ?_, ?_, ?_⟩, ?_⟩
      · simp only [Z.in64]; omega
      · simp only [Z.in64]; omega
      · simp only [Z.in64]; omega
      · simp only [Z.in64]; omega
      · show (k : Int) + 1 = ((k + 1 : Nat) : Int); omega
      · omega
      · show _ ≤ heat + law13u_pick (b.1, w)
        rw [succ_mul]; omega
      · show heat + law13u_pick (b.1, w) ≤ _
        rw [succ_mul]; omega
      · show (f.1 - ((k : Int) + 1)).toNat < (f.1 - (k : Int)).toNat; omega
    · have hk : ¬ (k : Int) < f.1 := of_decide_eq_false hk
      have hkf : (k : Int) = f.1 := by omega
      rw [hkf] at r3 r4
      refine ⟨fun s => ∃ j : Nat, s.2 = (j : Int) ∧ (j : Int) ≤ f.2 ∧ f.1 * b.1.1 + (j : Int) * b.2.1.1 ≤ s.1 ∧ s.1 ≤ f.1 * b.1.2 + (j : Int) * b.2.1.2, fun s => (f.2 - s.2).toNat, ⟨0, rfl, by omega, by simpa using r3, by simpa using r4⟩, ?_⟩
      rintro ⟨heat2, j0⟩ ⟨j, r5, r6, r7, r8⟩
      simp only at r5 r7 r8
      subst r5
      have q3 := mul_bd (a := (j : Int)) (A := 200) ⟨by omega, by omega⟩ (b := b.2.1.1) (B := 1000) ⟨by omega, by omega⟩
      have q4 := mul_bd (a := (j : Int)) (A := 200) ⟨by omega, by omega⟩ (b := b.2.1.2) (B := 1000) ⟨by omega, by omega⟩
      refine ⟨fun hj => ?_, fun hj => ?_⟩
      · have hj : (j : Int) < f.2 := of_decide_eq_true hj
        have hm := tmod_bd (a := 2 * (i : Int) + 5 * (j : Int) + 1) (n := (by_.length : Int)) (by omega) hn
        obtain ⟨w, hw⟩ : ∃ w, w = Go.IntKind.wrap .u16 ((by_.getD (Int.toNat (Int.tmod (2 * (i : Int) + 5 * (j : Int) + 1) (by_.length : Int))) 0) + (Go.IntKind.wrap .u16 (j : Int))) := ⟨_, rfl⟩
        have hwb := wrap_bd ((by_.getD (Int.toNat (Int.tmod (2 * (i : Int) + 5 * (j : Int) + 1) (by_.length : Int))) 0) + (Go.IntKind.wrap .u16 (j : Int)))
        rw [← hw] at hwb
        dsimp only
        rw [← hw]
        have hpk := pick_bd (s := b.2.1) ⟨by omega, hCl.2.1⟩ hwb
        refine ⟨?_, ?_, ?_, ?_, by omega, hm, ⟨by show 0 ≤ b.2.1.1; omega, hCl.2.1, hCl.2.2, hwb.1, hwb.2⟩, ?_, ?_, rfl, rfl, ⟨j + 1, ?_, ?_, ?_, ?_⟩, ?_⟩
        · simp only [Z.in64]; omega
        · simp only [Z.in64]; omega
        · simp only [Z.in64]; omega
        · simp only [Z.in64]; omega
        · simp only [Z.in64]; omega
        · simp only [Z.in64]; omega
        · show (j : Int) + 1 = ((j + 1 : Nat) : Int); omega
        · omega
        · show _ ≤ heat2 + law13u_pick (b.2.1, w)
          rw [succ_mul]; omega
        · show heat2 + law13u_pick (b.2.1, w) ≤ _
          rw [succ_mul]; omega
        · show (f.2 - ((j : Int) + 1)).toNat < (f.2 - (j : Int)).toNat; omega
      · have hj : ¬ (j : Int) < f.2 := of_decide_eq_false hj
        have hjf : (j : Int) = f.2 := by omega
        rw [hjf] at r7 r8
        have hdo : y.2.1 ≤ (gives b f).1 ∧ (gives b f).2 ≤ y.2.2 := by
          have : (decide (y.2.1 ≤ (gives b f).1) && decide ((gives b f).2 ≤ y.2.2)) = true := a2
          rw [Bool.and_eq_true, decide_eq_true_eq, decide_eq_true_eq] at this
          exact this
        have g1 : (gives b f).1 = f.1 * b.1.1 + f.2 * b.2.1.1 := rfl
        have g2 : (gives b f).2 = f.1 * b.1.2 + f.2 * b.2.1.2 := rfl
        have hok : (((decide (heat2 < y.2.1) || decide (y.2.2 < heat2)) || decide (heat2 < (gives b f).1)) || decide ((gives b f).2 < heat2)) = false := by
          simp only [Bool.or_eq_false_iff, decide_eq_false_iff_not]; omega
        have hok2 : (decide (z < 0) || decide (b.2.2.1 < z)) = false := by
          simp only [Bool.or_eq_false_iff, decide_eq_false_iff_not]; omega
        dsimp only
        rw [hok, hok2]
        refine ⟨⟨by omega, hi⟩, fun _ => ⟨by omega, hi⟩, fun h => (by cases h), fun _ => ⟨⟨by omega, hi⟩, ?_, ?_, ?_, ⟨by omega, hi⟩, fun _ => ⟨by omega, hi⟩, fun h => (by cases h), fun _ => ⟨?_, ⟨i + 1, ?_, hil, ?_, ?_, ?_⟩, ?_⟩⟩⟩
        · simp only [Z.in64]; omega
        · simp only [Z.in64]; omega
        · simp only [Z.in64]; omega
        · simp only [Z.in64]; omega
        · show (i : Int) + 1 = ((i + 1 : Nat) : Int); omega
        · exact t1.symm
        · exact t2.symm
        · exact t3.symm
        · show ((l.length : Int) - ((i : Int) + 1)).toNat < ((l.length : Int) - (i : Int)).toNat; omega
  · have hi : ¬ (i : Int) < (l.length : Int) := of_decide_eq_false hi
    have hii : i = l.length := by omega
    rw [List.take_of_length_le (by omega)] at m1
    rw [List.take_of_length_le (by omega)] at m2 m3
    dsimp only
    rw [List.take_of_length_le (l := l) (by omega), List.take_of_length_le (l := P) (by omega)]
    obtain ⟨SM, hSM⟩ : ∃ s, s = sumF (fun x : Load => x.1) l := ⟨_, rfl⟩
    obtain ⟨SB, hSB⟩ : ∃ s, s = sumF (fun x : Feed => x.1) P := ⟨_, rfl⟩
    obtain ⟨SC, hSC⟩ : ∃ s, s = sumF (fun x : Feed => x.2) P := ⟨_, rfl⟩
    rw [← hSM] at m1 hcs ⊢
    rw [← hSB] at m2 hcs ⊢
    rw [← hSC] at m3 hcs ⊢
    rw [Int.zero_add] at hcs
    obtain ⟨c1, c2⟩ := hcs
    have hpr := mul_bd (a := b.2.2.2.1) (A := 10000) B.price (b := SC) (B := 2000) ⟨m3.2, m3.1⟩
    refine ⟨fun hlen => ?_, fun hlen => ?_⟩
    · have hlen : (0 : Int) < (l.length : Int) := of_decide_eq_true hlen
      have hR : Q.getD (Int.toNat ((l.length : Int) - 1)) 0 = lastOf 0 Q := by
        rw [lastOf_eq Q 0 (by intro h; rw [h] at hQl; simp at hQl; omega), hQl]
        congr 1
        omega
      rw [hR]
      obtain ⟨E, hE⟩ : ∃ E, E = lastOf 0 Q := ⟨_, rfl⟩
      have hEb : 0 ≤ E ∧ E ≤ 60 := by
        have := hat (l.length - 1) (by omega)
        have hr := B.room
        rw [hE, ← hR, show (Int.toNat ((l.length : Int) - 1)) = l.length - 1 by omega]
        omega
      rw [← hE] at c1 c2 ⊢
      have hca := mul_bd (a := b.2.2.2.2) (A := 10000) B.cart (b := SM - SB - E) (B := 400) ⟨by omega, by omega⟩
      refine ⟨?_, ⟨by omega, by omega⟩, ?_, ?_, ?_, ?_, ?_, fun _ => ?_, fun _ => trivial, ?_⟩
      · simp only [Z.in64]; omega
      · simp only [Z.in64]; omega
      · simp only [Z.in64]; omega
      · simp only [Z.in64]; omega
      · simp only [Z.in64]; omega
      · simp only [Z.in64]; omega
      · simp only [Z.in64]; omega
      · rw [show C - b.2.2.2.1 * SC = b.2.2.2.2 * (SM - SB - E) by omega, beq_self_eq_true, decide_eq_true (show SB + E ≤ SM by omega)]; rfl
    · have hlen : ¬ (0 : Int) < (l.length : Int) := of_decide_eq_false hlen
      have hQn : Q = [] := List.length_eq_zero_iff.1 (by omega)
      rw [hQn, lastOf] at c1 c2
      have hca := mul_bd (a := b.2.2.2.2) (A := 10000) B.cart (b := SM - SB - 0) (B := 400) ⟨by omega, by omega⟩
      refine ⟨?_, ?_, ?_, ?_, ?_, fun _ => ?_, fun _ => trivial, ?_⟩
      · simp only [Z.in64]; omega
      · simp only [Z.in64]; omega
      · simp only [Z.in64]; omega
      · simp only [Z.in64]; omega
      · simp only [Z.in64]; omega
      · simp only [Z.in64]; omega
      · rw [show C - b.2.2.2.1 * SC = b.2.2.2.2 * (SM - SB - 0) by omega, beq_self_eq_true, decide_eq_true (show SB + 0 ≤ SM by omega)]; rfl
end Go.Dust
