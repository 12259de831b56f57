/-
  Chapter 12: what is drawn, its condition.
-/
import Derived.Test.YtjnnbmgodbhofaaFadeS2a
set_option linter.all false


set_option maxRecDepth 1000000
namespace Go.Fade
open Go Go.Sx

theorem in64u_of {n : Int} (h1 : -4611686018427387904 ≤ n) (h2 : n ≤ 4611686018427387904) : Z.in64 n := by simp only [Z.in64]; omega
theorem w3 (x : (List Span) × Int × Int × List Int) (hp : law12u_truth_p x) {ls rs ss : List Int} {Rs : List Span} {b12 : Fading} (b13 : Tr3) {z2 : Int} (hls : ls = lightsV x.1 x.2.2.2) (hrs : rs = (refsV x.1 x.2.1 x.2.2.2).2.2.1)
    (hRs : Rs = (refsV x.1 x.2.1 x.2.2.2).2.2.2) (hss : ss = (samplesV x.1 x.2.1 x.2.2.1 x.2.2.2).2) (hz : z2 = (samplesV x.1 x.2.1 x.2.2.1 x.2.2.2).1) (hz0 : 0 ≤ z2 ∧ z2 ≤ 1000) (hll : ls.length = x.1.length + 1) (hrl : rs.length ≤ 8) (hsl : ss.length ≤ 6) (hb12 : b12 = (x.1, [], x.2.2.1, [])) : W3 x ls rs ss Rs b12 b13 z2 := by
  obtain ⟨months, nr, ns, bs⟩ := x
  obtain ⟨⟨⟨hM, _⟩, _⟩, hb⟩ : ((months.length ≤ 12 ∧ ∀ s ∈ months, (0 ≤ s.1 ∧ s.1 ≤ s.2) ∧ s.2 ≤ 1000000) ∧ (0 ≤ nr ∧ nr ≤ 8) ∧ 0 ≤ ns ∧ ns ≤ 6) ∧ BsOk bs := hp
  have hbl : bs.length ≤ 140737488355328 := hb.1.2
  have hll : ls.length = months.length + 1 := hll
  refine ⟨fun s => ∃ k : Nat, k ≤ 3 * bs.length ∧ s = ((k : Int), (itn (stepC bs ls rs ss (months.length : Int)) k (z2, [])).1, b12, (itn (stepC bs ls rs ss (months.length : Int)) k (z2, [])).2), fun s => (3 * (bs.length : Int) - s.1).toNat, ⟨0, Nat.zero_le _, rfl⟩, ?_⟩
  rintro _ ⟨k, hk, rfl⟩
  have C := checks_ok (lights := ls) (refs := rs) (samples := ss) (n := months.length) hb hz0.1 k
  have hnext : itn (stepC bs ls rs ss (months.length : Int)) (k + 1) (z2, []) = stepC bs ls rs ss (months.length : Int) k (itn (stepC bs ls rs ss (months.length : Int)) k (z2, [])) := rfl
  obtain ⟨st, hst⟩ : ∃ st, st = itn (stepC bs ls rs ss (months.length : Int)) k (z2, []) := ⟨_, rfl⟩
  rw [← hst] at C hnext ⊢
  obtain ⟨z, cs⟩ := st
  obtain ⟨C1, C2, C3⟩ := C
  have C1 : z2 ≤ z ∧ z ≤ z2 + 3 * (k : Int) := C1
  have C2 : cs.length ≤ 40 := C2
  have d1 := draw_bd hb (z := z) (n := (months.length : Int) + 1) (by omega) (by omega)
  have d2 := draw_bd hb (z := z + 1) (n := 2) (by omega) (by omega)
  have pz : ∀ (n y : Int), 0 < n → n ≤ 1000 → 0 ≤ y → y ≤ z + 10 → law12u_truth_1u_p (n, y, bs) := fun n y h1 h2 h3 h4 => ⟨⟨⟨h1, by show n ≤ 4294967295; omega⟩, h3, by show y ≤ 1152921504606846976; omega⟩, hb⟩
  refine ⟨fun h => ?_, fun h => ?_⟩
  · have h : (k : Int) < 3 * (bs.length : Int) := of_decide_eq_true h
    have step : ∀ S : CSt, stepC bs ls rs ss (months.length : Int) k (z, cs) = S → ∀ z' cs', z' = S.1 → cs' = S.2 → (∃ k' : Nat, k' ≤ 3 * bs.length ∧ (((k : Int) + 1, z', b12, cs') : Int × Int × Fading × List Check) = ((k' : Int), (itn (stepC bs ls rs ss (months.length : Int)) k' (z2, [])).1, b12, (itn (stepC bs ls rs ss (months.length : Int)) k' (z2, [])).2)) ∧ (3 * (bs.length : Int) - ((k : Int) + 1)).toNat < (3 * (bs.length : Int) - (k : Int)).toNat := by
      intro S hS z' cs' e1 e2
      refine ⟨⟨k + 1, by omega, ?_⟩, by omega⟩
      rw [hnext, hS, e1, e2]; rfl
    have esk : stepC bs ls rs ss (months.length : Int) k (z, cs) = cond (decide ((0 : Int) < ((cond (drawV bs (z + 1) 2 == 1) ss rs).length : Int)) && decide ((cs.length : Int) < 40)) (z + 1 + 1 + 1, cs ++ [checkV bs ls rs ss (months.length : Int) z]) (z + 1 + 1, cs) := rfl
    have ecv : ∀ tk, tk = cond (drawV bs (z + 1) 2 == 1) ss rs → checkV bs ls rs ss (months.length : Int) z = (drawV bs z ((months.length : Int) + 1), drawV bs (z + 1) 2, drawV bs (z + 1 + 1) (tk.length : Int), decide (tk.getD (drawV bs (z + 1 + 1) (tk.length : Int)).toNat 0 ≤ ls.getD (drawV bs z ((months.length : Int) + 1)).toNat 0)) := fun tk htk => by rw [htk]; rfl
    have p1 := pz ((months.length : Int) + 1) z (by omega) (by omega) (by omega) (by omega)
    have i9 : Z.in64 ((k : Int) + 1) := in64u_of (by omega) (by omega)
    refine ⟨in64u_of (by omega) (by omega), ⟨p1, trivial, trivial⟩, ⟨pz 2 (z + 1) (by omega) (by omega) (by omega) (by omega), trivial, trivial⟩, fun hw => ⟨fun hg => ?_, fun hg => ?_⟩, fun hw => ⟨fun hg => ?_, fun hg => ?_⟩⟩
    · have hw : (drawV bs (z + 1) 2 == 1) = true := hw
      have hg : (decide ((0 : Int) < (ss.length : Int)) && decide ((cs.length : Int) < 40)) = true := hg
      have hg' := hg
      simp only [Bool.and_eq_true, decide_eq_true_eq] at hg'
      rw [hw, cond_true, hg, cond_true, ecv ss (by rw [hw]; rfl)] at esk
      have d3 := draw_bd hb (z := z + 1 + 1) (n := (ss.length : Int)) (by omega) hg'.1
      have p4 := pz (ss.length : Int) (z + 1 + 1) (by omega) (by omega) (by omega) (by omega)
      refine ⟨⟨p4, trivial, trivial⟩, ⟨d1.1, by show drawV bs z ((months.length : Int) + 1) < (ls.length : Int); rw [hll]; omega⟩, d3, roomy_of (by omega) (by omega) (by show ((cs ++ [_]).length : Int) ≤ _; simp; omega), i9, rfl, rfl, rfl, rfl, rfl, rfl, rfl, step _ esk _ _ rfl rfl⟩
    · have hw : (drawV bs (z + 1) 2 == 1) = true := hw
      have hg : (decide ((0 : Int) < (ss.length : Int)) && decide ((cs.length : Int) < 40)) = false := hg
      rw [hw, cond_true, hg, cond_false] at esk
      exact ⟨i9, rfl, rfl, rfl, rfl, rfl, rfl, rfl, step _ esk _ _ rfl rfl⟩
    · have hw : (drawV bs (z + 1) 2 == 1) = false := hw
      have hg : (decide ((0 : Int) < (rs.length : Int)) && decide ((cs.length : Int) < 40)) = true := hg
      have hg' := hg
      simp only [Bool.and_eq_true, decide_eq_true_eq] at hg'
      rw [hw, cond_false, hg, cond_true, ecv rs (by rw [hw]; rfl)] at esk
      have d3 := draw_bd hb (z := z + 1 + 1) (n := (rs.length : Int)) (by omega) hg'.1
      have p4 := pz (rs.length : Int) (z + 1 + 1) (by omega) (by omega) (by omega) (by omega)
      refine ⟨⟨p4, trivial, trivial⟩, ⟨d1.1, by show drawV bs z ((months.length : Int) + 1) < (ls.length : Int); rw [hll]; omega⟩, d3, roomy_of (by omega) (by omega) (by show ((cs ++ [_]).length : Int) ≤ _; simp; omega), i9, rfl, rfl, rfl, rfl, rfl, rfl, rfl, step _ esk _ _ rfl rfl⟩
    · have hw : (drawV bs (z + 1) 2 == 1) = false := hw
      have hg : (decide ((0 : Int) < (rs.length : Int)) && decide ((cs.length : Int) < 40)) = false := hg
      rw [hw, cond_false, hg, cond_false] at esk
      exact ⟨i9, rfl, rfl, rfl, rfl, rfl, rfl, rfl, step _ esk _ _ rfl rfl⟩
  · have h : ¬ (k : Int) < 3 * (bs.length : Int) := of_decide_eq_false h
    have hk3 : k = 3 * bs.length := by omega
    show ((b12.1, Rs, b12.2.2.1, cs), ls, rs, ss) = truthV months nr ns bs
    have e : (z, cs) = drawnV months nr ns bs := by
      rw [hst, hk3, hls, hrs, hss, hz]; rfl
    have e2 : cs = (drawnV months nr ns bs).2 := by rw [← e]
    rw [e2, hb12, hRs, hls, hrs, hss]; rfl
theorem w2 (x : (List Span) × Int × Int × List Int) (hp : law12u_truth_p x) {ls rs : List Int} {Rs : List Span} {b12 : Fading} (b13 : Tr3) {z1 : Int} (hls : ls = lightsV x.1 x.2.2.2) (hrs : rs = (refsV x.1 x.2.1 x.2.2.2).2.2.1)
    (hRs : Rs = (refsV x.1 x.2.1 x.2.2.2).2.2.2) (hz : z1 = (refsV x.1 x.2.1 x.2.2.2).1) (hz0 : 0 ≤ z1 ∧ z1 ≤ 100) (hll : ls.length = x.1.length + 1) (hrl : rs.length ≤ 8) (hA : AOk (ls.getD x.1.length 0 + 2)) (hb12 : b12 = (x.1, [], x.2.2.1, [])) : W2 x ls rs Rs b12 b13 z1 := by
  obtain ⟨months, nr, ns, bs⟩ := x
  have hp0 := hp
  obtain ⟨⟨⟨hM, _⟩, _, hs0, hs6⟩, hb⟩ : ((months.length ≤ 12 ∧ ∀ s ∈ months, (0 ≤ s.1 ∧ s.1 ≤ s.2) ∧ s.2 ≤ 1000000) ∧ (0 ≤ nr ∧ nr ≤ 8) ∧ 0 ≤ ns ∧ ns ≤ 6) ∧ BsOk bs := hp
  have hbl : bs.length ≤ 140737488355328 := hb.1.2
  have hA : AOk (ls.getD months.length 0 + 2) := hA
  obtain ⟨q3, q4, q8⟩ := a_div hA
  have hA2 := hA
  unfold AOk at hA2
  refine ⟨fun s => ∃ k : Nat, k ≤ ns.toNat ∧ s = ((k : Int), (itn (stepS bs (ls.getD months.length 0 + 2)) k (z1, [])).1, b13, (itn (stepS bs (ls.getD months.length 0 + 2)) k (z1, [])).2), fun s => (ns - s.1).toNat, ⟨0, Nat.zero_le _, rfl⟩, ?_⟩
  rintro _ ⟨k, hk, rfl⟩
  have S := samples_ok hb hA hz0.1 k
  have hnext : itn (stepS bs (ls.getD months.length 0 + 2)) (k + 1) (z1, []) = stepS bs (ls.getD months.length 0 + 2) k (itn (stepS bs (ls.getD months.length 0 + 2)) k (z1, [])) := rfl
  obtain ⟨st, hst⟩ : ∃ st, st = itn (stepS bs (ls.getD months.length 0 + 2)) k (z1, []) := ⟨_, rfl⟩
  rw [← hst] at S hnext ⊢
  obtain ⟨z, ss⟩ := st
  obtain ⟨S1, S2, _⟩ := S
  have S1 : z = z1 + (k : Int) := S1
  have S2 : ss.length = k := S2
  have d1 := draw_bd hb (z := z) (n := (ls.getD months.length 0 + 2) + Int.tdiv (ls.getD months.length 0 + 2) 8 + 1) (by omega) (by omega)
  refine ⟨fun h => ?_, fun h => ?_⟩
  · have h : (k : Int) < ns := of_decide_eq_true h
    have i9 : Z.in64 ((k : Int) + 1) := in64u_of (by omega) (by omega)
    refine ⟨⟨by show (8 : Int) ≠ 0; omega, in64u_of (by show _ ≤ Int.tdiv (ls.getD months.length 0 + 2) 8; omega) (by show Int.tdiv (ls.getD months.length 0 + 2) 8 ≤ _; omega)⟩,
      in64u_of (by show _ ≤ (ls.getD months.length 0 + 2) + Int.tdiv (ls.getD months.length 0 + 2) 8; omega) (by show (ls.getD months.length 0 + 2) + Int.tdiv (ls.getD months.length 0 + 2) 8 ≤ _; omega),
      in64u_of (by show _ ≤ (ls.getD months.length 0 + 2) + Int.tdiv (ls.getD months.length 0 + 2) 8 + 1; omega) (by show (ls.getD months.length 0 + 2) + Int.tdiv (ls.getD months.length 0 + 2) 8 + 1 ≤ _; omega),
      ⟨⟨⟨⟨by show 0 < (ls.getD months.length 0 + 2) + Int.tdiv (ls.getD months.length 0 + 2) 8 + 1; omega, by show (ls.getD months.length 0 + 2) + Int.tdiv (ls.getD months.length 0 + 2) 8 + 1 ≤ 4294967295; omega⟩, by show 0 ≤ z; omega, by show z ≤ 1152921504606846976; omega⟩, hb⟩, trivial, trivial⟩,
      in64u_of (by show _ ≤ 1 + drawV bs z ((ls.getD months.length 0 + 2) + Int.tdiv (ls.getD months.length 0 + 2) 8 + 1); omega) (by show 1 + drawV bs z ((ls.getD months.length 0 + 2) + Int.tdiv (ls.getD months.length 0 + 2) 8 + 1) ≤ _; omega),
      roomy_of (by omega) (by omega) (by show ((ss ++ [_]).length : Int) ≤ _; simp; omega), i9, rfl, rfl, rfl, rfl, rfl, rfl, rfl, ⟨k + 1, by omega, ?_⟩, ?_⟩
    · rw [hnext]; rfl
    · show (ns - ((k : Int) + 1)).toNat < (ns - (k : Int)).toNat; omega
  · have h : ¬ (k : Int) < ns := of_decide_eq_false h
    have hk3 : k = ns.toNat := by omega
    have e : (z, ss) = samplesV months nr ns bs := by rw [hst, hk3, hls, hz]; rfl
    have i9 : Z.in64 (3 * (bs.length : Int)) := in64u_of (by omega) (by omega)
    refine ⟨i9, w3 (months, nr, ns, bs) hp0 b13 hls hrs hRs (ss := ss) (z2 := z) (by rw [show ss = (z, ss).2 from rfl, e]) (by rw [show z = (z, ss).1 from rfl, e]) (by omega) hll hrl (by omega) hb12⟩
theorem w1 (x : (List Span) × Int × Int × List Int) (hp : law12u_truth_p x) {ls : List Int} (b13 : Tr3) (hls : ls = lightsV x.1 x.2.2.2) (hll : ls.length = x.1.length + 1) (hA : AOk (ls.getD x.1.length 0 + 2)) : W1 x ls b13 := by
  obtain ⟨months, nr, ns, bs⟩ := x
  have hp0 := hp
  obtain ⟨⟨⟨hM, _⟩, ⟨hr0, hr8⟩, _⟩, hb⟩ : ((months.length ≤ 12 ∧ ∀ s ∈ months, (0 ≤ s.1 ∧ s.1 ≤ s.2) ∧ s.2 ≤ 1000000) ∧ (0 ≤ nr ∧ nr ≤ 8) ∧ 0 ≤ ns ∧ ns ≤ 6) ∧ BsOk bs := hp
  have hbl : bs.length ≤ 140737488355328 := hb.1.2
  obtain ⟨A, hAe⟩ : ∃ A, A = ls.getD months.length 0 + 2 := ⟨_, rfl⟩
  have hA : AOk (ls.getD months.length 0 + 2) := hA
  rw [← hAe] at hA
  have hA2 := hA
  unfold AOk at hA2
  obtain ⟨q3, q4, q8⟩ := a_div hA
  refine ⟨fun s => ∃ k : Nat, k ≤ nr.toNat ∧ s = ((itn (stepR bs A) k (0, 0, [], [])).2.1, (k : Int), (itn (stepR bs A) k (0, 0, [], [])).1, (months, [], ns, []), b13, (itn (stepR bs A) k (0, 0, [], [])).2.2.1, (itn (stepR bs A) k (0, 0, [], [])).2.2.2), fun s => (nr - s.2.1).toNat, ⟨0, Nat.zero_le _, rfl⟩, ?_⟩
  rintro _ ⟨k, hk, rfl⟩
  have R := refs_ok hb hA k
  have hnext : itn (stepR bs A) (k + 1) (0, 0, [], []) = stepR bs A k (itn (stepR bs A) k (0, 0, [], [])) := rfl
  obtain ⟨st, hst⟩ : ∃ st, st = itn (stepR bs A) k (0, 0, [], []) := ⟨_, rfl⟩
  rw [← hst] at R hnext ⊢
  obtain ⟨z, a, rs, Rs⟩ := st
  obtain ⟨R1, R2, R3, R4, _, _⟩ := R
  have R1 : z = 3 * (k : Int) := R1
  have R2 : 0 ≤ a ∧ a ≤ 4000001 * (k : Int) := R2
  have R3 : rs.length = k := R3
  have R4 : Rs.length = k := R4
  have hk8 : k ≤ 8 := by omega
  have d1 := draw_bd hb (z := z) (n := Int.tdiv A 3 + 1) (by omega) (by omega)
  have d2 := draw_bd hb (z := z + 1) (n := Int.tdiv A 4 + 1) (by omega) (by omega)
  have d3 := draw_bd hb (z := z + 1 + 1) (n := Int.tdiv A 4 + 1) (by omega) (by omega)
  have pz : ∀ (n y : Int), 0 < n → n ≤ 100000000 → 0 ≤ y → y ≤ z + 10 → law12u_truth_1u_p (n, y, bs) := fun n y h1 h2 h3 h4 => ⟨⟨⟨h1, by show n ≤ 4294967295; omega⟩, h3, by show y ≤ 1152921504606846976; omega⟩, hb⟩
  refine ⟨fun h => ?_, fun h => ?_⟩
  · have h : (k : Int) < nr := of_decide_eq_true h
    have p1 := pz (Int.tdiv A 3 + 1) z (by omega) (by omega) (by omega) (by omega)
    have p2 := pz (Int.tdiv A 4 + 1) (z + 1) (by omega) (by omega) (by omega) (by omega)
    have p3 := pz (Int.tdiv A 4 + 1) (z + 1 + 1) (by omega) (by omega) (by omega) (by omega)
    have i1 : Z.in64 (Int.tdiv A 3) := in64u_of (by omega) (by omega)
    have i2 : Z.in64 (Int.tdiv A 3 + 1) := in64u_of (by omega) (by omega)
    have i3 : Z.in64 (1 + drawV bs z (Int.tdiv A 3 + 1)) := in64u_of (by omega) (by omega)
    have i4 : Z.in64 (a + (1 + drawV bs z (Int.tdiv A 3 + 1))) := in64u_of (by omega) (by omega)
    have i5 : Z.in64 (Int.tdiv A 4) := in64u_of (by omega) (by omega)
    have i6 : Z.in64 (Int.tdiv A 4 + 1) := in64u_of (by omega) (by omega)
    have i7 : Z.in64 ((a + (1 + drawV bs z (Int.tdiv A 3 + 1))) - drawV bs (z + 1) (Int.tdiv A 4 + 1)) := in64u_of (by omega) (by omega)
    have i8 : Z.in64 ((a + (1 + drawV bs z (Int.tdiv A 3 + 1))) + drawV bs (z + 1 + 1) (Int.tdiv A 4 + 1)) := in64u_of (by omega) (by omega)
    subst hAe
    refine ⟨⟨by show (3 : Int) ≠ 0; omega, i1⟩, i2, ⟨p1, trivial, trivial⟩, i3, i4, roomy_of (by omega) (by omega) (by show ((rs ++ [_]).length : Int) ≤ _; simp; omega), ⟨by show (4 : Int) ≠ 0; omega, i5⟩, i6, ⟨p2, trivial, trivial⟩, i7, ⟨by show (4 : Int) ≠ 0; omega, i5⟩, i6, ⟨p3, trivial, trivial⟩, i8, trivial,
      roomy_of (by omega) (by omega) (by show ((Rs ++ [_]).length : Int) ≤ _; simp; omega), in64u_of (by show _ ≤ (k : Int) + 1; omega) (by show (k : Int) + 1 ≤ _; omega), rfl, rfl, rfl, rfl, rfl, ⟨k + 1, by omega, ?_⟩, ?_⟩
    · rw [hnext]; rfl
    · show (nr - ((k : Int) + 1)).toNat < (nr - (k : Int)).toNat; omega
  · have h : ¬ (k : Int) < nr := of_decide_eq_false h
    have hk3 : k = nr.toNat := by omega
    have e : (z, a, rs, Rs) = refsV months nr bs := by rw [hst, hk3, hAe, hls]; rfl
    subst hAe
    exact w2 (months, nr, ns, bs) hp0 b13 (z1 := z) hls (rs := rs) (Rs := Rs) (by show rs = (refsV months nr bs).2.2.1; rw [← e]) (by show Rs = (refsV months nr bs).2.2.2; rw [← e]) (by show z = (refsV months nr bs).1; rw [← e]) (by omega) hll (by omega) hA rfl
theorem v27 (x : (List Span) × Int × Int × List Int) (hp : k27.pre x) : V27 x := by
  obtain ⟨months, nr, ns, bs⟩ := x
  have hp0 : law12u_truth_p (months, nr, ns, bs) := hp
  obtain ⟨⟨hM, _⟩, hb⟩ : ((months.length ≤ 12 ∧ ∀ s ∈ months, (0 ≤ s.1 ∧ s.1 ≤ s.2) ∧ s.2 ≤ 1000000) ∧ (0 ≤ nr ∧ nr ≤ 8) ∧ 0 ≤ ns ∧ ns ≤ 6) ∧ BsOk bs := hp
  have hM' : MsOk months := hM
  have hM12 := hM.1
  refine ⟨fun s => ∃ k : Nat, k ≤ months.length ∧ s = ((k : Int), ([], [], []), itn (stepM months bs) k [0]), fun s => ((months.length : Int) - s.1).toNat, ⟨0, Nat.zero_le _, rfl⟩, ?_⟩
  rintro _ ⟨k, hk, rfl⟩
  have L := lights_in hM' hb k hk
  have hll := L.len
  refine ⟨fun h => ?_, fun h => ?_⟩
  · have h : (k : Int) < (months.length : Int) := of_decide_eq_true h
    have hs := ms_at hM' (show k < months.length by omega)
    have ht := bs_at hb (z := (k : Int)) (by omega)
    have hpk := pick_bd hs ht.2
    have hkb := L.bd k (Nat.le_refl _)
    have i1 : Z.in64 ((itn (stepM months bs) k [0]).getD k 0 + pickV (months.getD k (0, 0)) (bs.getD (Int.toNat (Int.tmod (k : Int) (bs.length : Int))) 0)) := in64u_of (by omega) (by omega)
    have hbl := bs_len hb
    refine ⟨⟨by show (0 : Int) ≤ (k : Int); omega, h⟩, ⟨by show (0 : Int) ≤ (k : Int); omega, by show (k : Int) < ((itn (stepM months bs) k [0]).length : Int); omega⟩, by show (bs.length : Int) ≠ 0; omega, ht.1, ⟨hs, ht.2⟩, i1, roomy_of (by omega) (by omega) (by show ((itn (stepM months bs) k [0] ++ [_]).length : Int) ≤ _; rw [List.length_append, hll]; simp; omega),
      in64u_of (by show _ ≤ (k : Int) + 1; omega) (by show (k : Int) + 1 ≤ _; omega), rfl, rfl, rfl, rfl, rfl, rfl, ⟨k + 1, by omega, rfl⟩, ?_⟩
    show ((months.length : Int) - ((k : Int) + 1)).toNat < ((months.length : Int) - (k : Int)).toNat; omega
  · have h : ¬ (k : Int) < (months.length : Int) := of_decide_eq_false h
    obtain rfl : k = months.length := by omega
    have hA := lights_a hM' hb
    have hA2 := hA
    unfold AOk at hA2
    exact ⟨⟨by show (0 : Int) ≤ (months.length : Int); omega, by show (months.length : Int) < ((itn (stepM months bs) months.length [0]).length : Int); omega⟩, in64u_of (by show _ ≤ (lightsV months bs).getD months.length 0 + 2; omega) (by show (lightsV months bs).getD months.length 0 + 2 ≤ _; omega), w1 (months, nr, ns, bs) hp0 ([], [], []) (ls := lightsV months bs) rfl hll hA⟩
end Go.Fade
