/-
  The law TopFuel: its condition.
-/
import Derived.Test.YtpdnhclkelgecaaFuelL1
set_option linter.all false


set_option maxRecDepth 100000
set_option maxHeartbeats 1000000
namespace Go.Fuel
open Go Go.Sx

theorem v3 (x : Kiln × Fire × (List Int) × Burn × List Int) (hx : k3.pre x) : V3 x := by
  obtain ⟨k, f, l, b, by_⟩ := x
  obtain ⟨hby, hbl, hkl, hll⟩ : (∀ b ∈ by_, 0 ≤ b ∧ b ≤ 65535) ∧ by_.length ≤ 140737488355328 ∧ k.1.length ≤ 140737488355328 ∧ l.length ≤ 140737488355328 := hx
  have eL : top_TopFuel (k, f, l, b, by_) = true := rfl
  rw [V3, eL]
  dsimp only
  refine ⟨fun _ => hkl, fun _ => trivial, fun _ => hll, fun _ => trivial, fun _ => ⟨trivial, rfl⟩, fun h => ?_⟩
  have h : (((((((by_.length : Int) == 0) || decide ((8 : Int) < (l.length : Int))) || !kilnB k) || !fireB f) || !progB l) || !burnB b) = false := h
  simp only [Bool.or_eq_false_iff, Bool.not_eq_false', decide_eq_false_iff_not, beq_eq_false_iff_ne] at h
  obtain ⟨⟨⟨⟨⟨hb0, hl8⟩, hk⟩, hf⟩, hp⟩, hb⟩ := h
  have K := kiln_iff.1 hk
  have F := fire_iff.1 hf
  have P := prog_iff.1 hp
  have B := burn_iff.1 hb
  have hn : (0 : Int) < (by_.length : Int) := by omega
  have hL1 := P.1.1
  have hKn := K.len
  have hE := K.err
  obtain ⟨Ls, hLs⟩ : ∃ Ls, Ls = (List.range l.length).map (loadAt k.2.1 l by_) := ⟨_, rfl⟩
  have hLl : Ls.length = l.length := by rw [hLs]; simp
  refine ⟨fun s => ∃ i : Nat, s.2 = (i : Int) ∧ i ≤ l.length ∧ s.1 = (List.range i).map (loadAt k.2.1 l by_), fun s => ((l.length : Int) - s.2).toNat, ⟨0, rfl, Nat.zero_le _, rfl⟩, ?_⟩
  rintro ⟨ls, i0⟩ ⟨i, g1, g2, g3⟩
  simp only at g1 g3
  subst g1
  refine ⟨fun hi => ?_, fun hi => ?_⟩
  · have hi : (i : Int) < (l.length : Int) := of_decide_eq_true hi
    have hs := P.2 _ (getD_mem l 0 i (by omega))
    have hm := tmod_bd (a := (i : Int)) (n := (by_.length : Int)) (by omega) hn
    have e0 : Int.toNat (i : Int) = i := rfl
    have hll : ls.length = i := by rw [g3]; simp
    dsimp only
    rw [e0]
    refine ⟨⟨by omega, hi⟩, by omega, hm, by omega, by simp only [Z.in64]; omega, by simp only [Z.in64]; omega, roomy_of (by omega) (by omega) (by rw [List.length_append, List.length_set, List.length_replicate]; omega), by simp only [Z.in64]; omega, ⟨i + 1, by show (i : Int) + 1 = ((i + 1 : Nat) : Int); omega, by omega, ?_⟩, by show ((l.length : Int) - ((i : Int) + 1)).toNat < ((l.length : Int) - (i : Int)).toNat; omega⟩
    show ls ++ _ = _
    rw [g3, List.range_succ, List.map_append]; rfl
  have hi : ¬ (i : Int) < (l.length : Int) := of_decide_eq_false hi
  have hls : ls = Ls := by rw [g3, hLs, show i = l.length by omega]
  clear g3
  subst hls
  clear g2
  have hat : ∀ j, j < l.length → ls.getD j (0, 0, 0) = loadAt k.2.1 l by_ j := fun j hj => by rw [hLs, range_getD _ _ hj]
  have hLL : loadsB ls = true := loads_iff.2 ⟨by omega, fun x hx => by
    rw [hLs] at hx
    obtain ⟨j, hj, rfl⟩ := List.mem_map.1 hx
    have hj := List.mem_range.1 hj
    have hs := P.2 _ (getD_mem l 0 j hj)
    have hm := tmod_bd (a := (j : Int)) (n := (by_.length : Int)) (by omega) hn
    have hw := hby _ (getD_mem' by_ 0 _ hm.1 hm.2)
    have hmade := tmod_bd (a := by_.getD (Int.toNat (Int.tmod (j : Int) (by_.length : Int))) 0) (n := 41) hw.1 (by omega)
    refine ⟨⟨hmade.1, ?_⟩, ?_, ?_, ?_⟩
    · show Int.tmod _ 41 ≤ 40; omega
    · show 0 ≤ max 0 (l.getD j 0 - k.2.1); omega
    · show max 0 (l.getD j 0 - k.2.1) ≤ l.getD j 0 + k.2.1; omega
    · show l.getD j 0 + k.2.1 ≤ 100000; omega⟩
  rcases best_all hb hLL with ⟨e, _⟩ | ⟨Pl, e, hfit, _⟩
  · have eD : dust_Best (b, ls) = ([], 0, 4) := e
    dsimp only
    rw [eD]
    exact ⟨trivial, fun _ => ⟨fun _ => trivial, rfl⟩, fun h => (by cases h)⟩
  have eD : dust_Best (b, ls) = (Pl, costR b ls 0 Pl, 0) := e
  have hPl : Pl.length = l.length := by rw [fits_len hfit, hLl]
  dsimp only
  rw [eD]
  dsimp only
  have e1 : ((l.length : Int) == (l.length : Int)) = true := beq_self_eq_true _
  rw [hPl, e1]
  refine ⟨trivial, fun h => (by cases h), fun _ => ⟨fun h => (by cases h), fun _ => ⟨⟨⟨by omega, Int.le_refl _⟩, roomy_of (by omega) (by omega) (by omega)⟩, ?_⟩⟩⟩
  have eN : Int.toNat (l.length : Int) = l.length := rfl
  rw [eN]
  refine ⟨fun s => ∃ i : Nat, s.1 = (i : Int) ∧ i ≤ l.length ∧ s.2.length = l.length ∧ (∀ j, j < i → max 0 (l.getD j 0 - k.2.1) ≤ s.2.getD j 0 ∧ s.2.getD j 0 ≤ l.getD j 0 + k.2.1) ∧ ∀ j, i ≤ j → j < l.length → s.2.getD j 0 = 0, fun s => ((l.length : Int) - s.1).toNat, ⟨0, rfl, Nat.zero_le _, by simp, fun j hj => (by omega), fun j _ hj => (by simp [List.getD, hj])⟩, ?_⟩
  rintro ⟨i0, hs⟩ ⟨i, g1, g2, g3, g4, g5⟩
  simp only at g1 g3 g4 g5
  subst g1
  refine ⟨fun hi => ?_, fun hi => ?_⟩
  · have hi : (i : Int) < (l.length : Int) := of_decide_eq_true hi
    have hil : i < l.length := by omega
    have e0 : Int.toNat (i : Int) = i := rfl
    dsimp only
    rw [e0]
    obtain ⟨hmay, hdoes⟩ := fits_at hfit i (by omega)
    rw [hat i hil] at hdoes
    obtain ⟨fd, hfd⟩ : ∃ fd, fd = Pl.getD i (0, 0) := ⟨_, rfl⟩
    rw [← hfd] at hmay hdoes ⊢
    have hdoes : (decide (max 0 (l.getD i 0 - k.2.1) ≤ fd.1 * b.1.1 + fd.2 * b.2.1.1) && decide (fd.1 * b.1.2 + fd.2 * b.2.1.2 ≤ l.getD i 0 + k.2.1)) = true := hdoes
    rw [Bool.and_eq_true, decide_eq_true_eq, decide_eq_true_eq] at hdoes
    have M := may_iff.1 hmay
    have bd := B.dust
    have bc := B.coal
    have em : ref13u_May fd = true := hmay
    rw [em]
    have q1 := mul_bd (a := fd.1) (A := 60) M.1 (b := b.1.2) (B := 1000) ⟨by omega, by omega⟩
    have hii : (0 : Int) ≤ (i : Int) ∧ (i : Int) < (hs.length : Int) := ⟨by omega, by omega⟩
    refine ⟨⟨by omega, hi⟩, trivial, fun h => (by cases h), fun _ => ?_⟩
    refine ⟨fun s => ∃ n : Nat, s.1 = (n : Int) ∧ (n : Int) ≤ fd.1 ∧ ∃ v, s.2 = hs.set i v ∧ (n : Int) * b.1.1 ≤ v ∧ v ≤ (n : Int) * b.1.2, fun s => (fd.1 - s.1).toNat, ⟨0, rfl, M.1.1, 0, (set_own (by omega) (g5 i (Nat.le_refl _) hil)).symm, by simp, by simp⟩, ?_⟩
    rintro ⟨n0, h2⟩ ⟨n, r1, r2, v, r3, r4, r5⟩
    simp only at r1 r3
    subst r1 r3
    have hlen2 : (hs.set i v).length = hs.length := List.length_set
    have hget2 : (hs.set i v).getD i 0 = v := get_set (by omega)
    have qn := mul_bd (a := (n : Int)) (A := 60) ⟨by omega, by omega⟩ (b := b.1.2) (B := 1000) ⟨by omega, by omega⟩
    have qn0 := Int.mul_nonneg (show (0 : Int) ≤ (n : Int) by omega) bd.1
    refine ⟨fun hd => ?_, fun hd => ?_⟩
    · have hd : (n : Int) < fd.1 := of_decide_eq_true hd
      obtain ⟨w, hw⟩ : ∃ w, w = pickV b.1 ((i : Int) + 3 * (n : Int)) by_ := ⟨_, rfl⟩
      have hwb := pick_bd (s := b.1) bd.2.1 ((i : Int) + 3 * (n : Int)) by_
      rw [← hw] at hwb
      have ew : top_TopFuel_1 (b.1, ((i : Int) + 3 * (n : Int)), by_) = w := hw.symm
      dsimp only
      rw [ew, hget2, hlen2, List.set_set]
      have e3 : (((n + 1 : Nat) : Int)) * b.1.1 = (n : Int) * b.1.1 + b.1.1 := by rw [Int.natCast_add, Int.add_mul]; simp
      have e4 : (((n + 1 : Nat) : Int)) * b.1.2 = (n : Int) * b.1.2 + b.1.2 := by rw [Int.natCast_add, Int.add_mul]; simp
      refine ⟨hii, by simp only [Z.in64]; omega, by simp only [Z.in64]; omega, ⟨⟨by show -100000 ≤ b.1.1; omega, by show b.1.1 ≤ b.1.2; omega, by show b.1.2 ≤ 100000; omega⟩, ⟨by show 0 ≤ (i : Int) + 3 * (n : Int); omega, by show (i : Int) + 3 * (n : Int) ≤ 1000000; omega⟩, by show 0 < by_.length; omega⟩, by simp only [Z.in64]; omega, hii, by simp only [Z.in64]; omega, rfl, rfl, ⟨n + 1, by show (n : Int) + 1 = ((n + 1 : Nat) : Int); omega, by omega, v + w, rfl, by omega, by omega⟩, by show (fd.1 - ((n : Int) + 1)).toNat < (fd.1 - (n : Int)).toNat; omega⟩
    have hd : ¬ (n : Int) < fd.1 := of_decide_eq_false hd
    have hnf : (n : Int) = fd.1 := by omega
    rw [hnf] at r4 r5
    dsimp only
    refine ⟨fun s => ∃ m : Nat, s.1 = (m : Int) ∧ (m : Int) ≤ fd.2 ∧ ∃ u, s.2 = hs.set i u ∧ fd.1 * b.1.1 + (m : Int) * b.2.1.1 ≤ u ∧ u ≤ fd.1 * b.1.2 + (m : Int) * b.2.1.2, fun s => (fd.2 - s.1).toNat, ⟨0, rfl, M.2.1, v, rfl, by simp; omega, by simp; omega⟩, ?_⟩
    rintro ⟨m0, h3⟩ ⟨m, t1, t2, u, t3, t4, t5⟩
    simp only at t1 t3
    subst t1 t3
    have hlen3 : (hs.set i u).length = hs.length := List.length_set
    have hget3 : (hs.set i u).getD i 0 = u := get_set (by omega)
    have qm := mul_bd (a := (m : Int)) (A := 200) ⟨by omega, by omega⟩ (b := b.2.1.2) (B := 1000) ⟨by omega, by omega⟩
    have qm0 := Int.mul_nonneg (show (0 : Int) ≤ (m : Int) by omega) (show 0 ≤ b.2.1.1 by omega)
    have q0 := Int.mul_nonneg M.1.1 bd.1
    refine ⟨fun hd => ?_, fun hd => ?_⟩
    · have hd : (m : Int) < fd.2 := of_decide_eq_true hd
      obtain ⟨w, hw⟩ : ∃ w, w = pickV b.2.1 ((i : Int) + 5 * (m : Int) + 1) by_ := ⟨_, rfl⟩
      have hwb := pick_bd (s := b.2.1) bc.2.1 ((i : Int) + 5 * (m : Int) + 1) by_
      rw [← hw] at hwb
      have ew : top_TopFuel_1 (b.2.1, ((i : Int) + 5 * (m : Int) + 1), by_) = w := hw.symm
      dsimp only
      rw [ew, hget3, hlen3, List.set_set]
      have e3 : (((m + 1 : Nat) : Int)) * b.2.1.1 = (m : Int) * b.2.1.1 + b.2.1.1 := by rw [Int.natCast_add, Int.add_mul]; simp
      have e4 : (((m + 1 : Nat) : Int)) * b.2.1.2 = (m : Int) * b.2.1.2 + b.2.1.2 := by rw [Int.natCast_add, Int.add_mul]; simp
      refine ⟨hii, by simp only [Z.in64]; omega, by simp only [Z.in64]; omega, by simp only [Z.in64]; omega, ⟨⟨by show -100000 ≤ b.2.1.1; omega, by show b.2.1.1 ≤ b.2.1.2; omega, by show b.2.1.2 ≤ 100000; omega⟩, ⟨by show 0 ≤ (i : Int) + 5 * (m : Int) + 1; omega, by show (i : Int) + 5 * (m : Int) + 1 ≤ 1000000; omega⟩, by show 0 < by_.length; omega⟩, by simp only [Z.in64]; omega, hii, by simp only [Z.in64]; omega, rfl, rfl, ⟨m + 1, by show (m : Int) + 1 = ((m + 1 : Nat) : Int); omega, by omega, u + w, rfl, by omega, by omega⟩, by show (fd.2 - ((m : Int) + 1)).toNat < (fd.2 - (m : Int)).toNat; omega⟩
    have hd : ¬ (m : Int) < fd.2 := of_decide_eq_false hd
    have hmf : (m : Int) = fd.2 := by omega
    rw [hmf] at t4 t5
    refine ⟨by simp only [Z.in64]; omega, rfl, ⟨i + 1, by show (i : Int) + 1 = ((i + 1 : Nat) : Int); omega, by omega, by show (hs.set i u).length = _; rw [hlen3]; exact g3, fun j hj => ?_, fun j hj1 hj2 => ?_⟩, by show ((l.length : Int) - ((i : Int) + 1)).toNat < ((l.length : Int) - (i : Int)).toNat; omega⟩
    · show _ ≤ (hs.set i u).getD j 0 ∧ (hs.set i u).getD j 0 ≤ _
      by_cases hij : i = j
      · subst hij
        rw [hget3]
        omega
      · rw [get_set' hij]
        exact g4 j (by omega)
    · show (hs.set i u).getD j 0 = 0
      rw [get_set' (by omega)]
      exact g5 j (by omega) hj2
  have hi : ¬ (i : Int) < (l.length : Int) := of_decide_eq_false hi
  have hH : ∀ j, j < l.length → max 0 (l.getD j 0 - k.2.1) ≤ hs.getD j 0 ∧ hs.getD j 0 ≤ l.getD j 0 + k.2.1 := fun j hj => g4 j (by omega)
  clear g4 g5 g2
  obtain ⟨Bd, hBd⟩ : ∃ Bd, Bd = badsFrom k f l k.1.length 0 := ⟨_, rfl⟩
  have eC : fire_Check (k, f, l) = (Bd, 0) := by
    show checkV k f l = _
    rw [checkV, check_ok.2 ⟨hk, hf, hp⟩, hBd]; rfl
  dsimp only
  rw [eC]
  refine ⟨trivial, fun h => (by cases h), fun _ => ?_⟩
  refine ⟨fun s => ∃ a i : Nat, s.1 = (a : Int) ∧ s.2 = (i : Int) ∧ i ≤ k.1.length ∧ a ≤ Bd.length ∧ a ≤ i ∧ Bd.drop a = badsFrom k f l (k.1.length - i) i, fun s => ((k.1.length : Int) - s.2).toNat, ⟨0, 0, rfl, rfl, Nat.zero_le _, Nat.zero_le _, Nat.le_refl _, hBd⟩, ?_⟩
  rintro ⟨a0, i0⟩ ⟨a, i, g1, g2, g4, g5, g6, g7⟩
  simp only at g1 g2
  subst g1 g2
  refine ⟨fun hi => ?_, fun hi => ?_⟩
  · have hi : (i : Int) < (k.1.length : Int) := of_decide_eq_true hi
    have hin : i < k.1.length := by omega
    obtain ⟨b1, b2, b3⟩ := at_bad (B := Bd) hin g5 g7
    obtain ⟨p, hpp⟩ : ∃ p, p = k.1.getD i ((0, 0), 0, 0) := ⟨_, rfl⟩
    have hpl := K.place _ (getD_mem k.1 ((0, 0), 0, 0) i hin)
    rw [← hpp] at hpl
    have PL := place_iff.1 hpl
    have e0 : Int.toNat (i : Int) = i := rfl
    obtain ⟨g, hg⟩ : ∃ g, g = pickV p.1 (i : Int) by_ := ⟨_, rfl⟩
    obtain ⟨o, ho⟩ : ∃ o, o = pickV p.2 ((i : Int) + 1) by_ := ⟨_, rfl⟩
    have hgb := pick_bd (s := p.1) PL.1.2.1 (i : Int) by_
    have hob := pick_bd (s := p.2) PL.2.2.1 ((i : Int) + 1) by_
    rw [← hg] at hgb
    rw [← ho] at hob
    have eg : top_TopFuel_1 (p.1, (i : Int), by_) = g := hg.symm
    have eo : top_TopFuel_1 (p.2, (i : Int) + 1, by_) = o := ho.symm
    have HF : ∀ j, j < l.length → HourF k p g o (hs.getD j 0) (l.getD j 0) := fun j hj => hour_ok hE hpl (P.2 _ (getD_mem l 0 j hj)) hgb hob (hH j hj)
    have HT : ∀ j, j < l.length → fire_Heat (k, (i : Int), l.getD j 0) = ((leastV k.2.1 p (l.getD j 0) / 1000, -((-(mostV k.2.1 p (l.getD j 0))) / 1000)), 0) := fun j hj => by
      have hsj := P.2 _ (getD_mem l 0 j hj)
      show heatOf k (i : Int) (l.getD j 0) = _
      rw [heatOf, hk, show inB (i : Int) 0 ((k.1.length : Int) - 1) = true from inB_iff.2 (by omega), show heatB (l.getD j 0) = true from inB_iff.2 hsj, hpp]; rfl
    dsimp only
    rw [b1, e0, ← hpp, eg, eo]
    have hm : ((k.1.length : Int) - ((i : Int) + 1)).toNat < ((k.1.length : Int) - (i : Int)).toNat := by omega
    refine ⟨⟨by omega, hi⟩, ⟨⟨by show -100000 ≤ p.1.1; omega, by show p.1.1 ≤ p.1.2; omega, by show p.1.2 ≤ 100000; omega⟩, ⟨by show 0 ≤ (i : Int); omega, by show (i : Int) ≤ 1000000; omega⟩, by show 0 < by_.length; omega⟩, by simp only [Z.in64]; omega, ⟨⟨by show -100000 ≤ p.2.1; omega, by show p.2.1 ≤ p.2.2; omega, by show p.2.2 ≤ 100000; omega⟩, ⟨by show 0 ≤ (i : Int) + 1; omega, by show (i : Int) + 1 ≤ 1000000; omega⟩, by show 0 < by_.length; omega⟩, fun h => ⟨by omega, of_decide_eq_true h⟩, fun hbad => ⟨by simp only [Z.in64]; omega, ?_⟩, fun hbad => ?_⟩
    · -- forbidden
      rw [hbad]
      refine ⟨fun s => ∃ j : Nat, s.2.2.2 = (j : Int) ∧ j ≤ l.length ∧ (0 ≤ s.1 ∧ s.1 ≤ (j : Int)) ∧ -200000 ≤ s.2.2.1 ∧ s.2.2.1 ≤ 3350000, fun s => ((l.length : Int) - s.2.2.2).toNat, ⟨0, rfl, Nat.zero_le _, by simp, by simp, by simp⟩, ?_⟩
      rintro ⟨many, so, last, j0⟩ ⟨j, r1, r2, r3, r4, r5⟩
      simp only at r1 r3 r4 r5
      subst r1
      refine ⟨fun hj => ?_, fun hj => ?_⟩
      · have hj : (j : Int) < (l.length : Int) := of_decide_eq_true hj
        have hjl : j < l.length := by omega
        have H := HF j hjl
        obtain ⟨n, hn'⟩ : ∃ n, n = g * hs.getD j 0 + 1000 * o := ⟨_, rfl⟩
        have c1 := H.bd
        have c2 := H.bg
        have c3 := H.lo
        have c4 := H.hi
        obtain ⟨_, d1, d2⟩ := least_bd hE hpl (P.2 _ (getD_mem l 0 j hjl))
        obtain ⟨_, d3, d4⟩ := most_bd hE hpl (P.2 _ (getD_mem l 0 j hjl))
        have ej : Int.toNat (j : Int) = j := rfl
        rw [← hn'] at c1 c3 c4
        dsimp only
        rw [ej, HT j hjl, ← hn']
        dsimp only
        have w1 : ¬ n < 1000 * (leastV k.2.1 p (l.getD j 0) / 1000) := by omega
        have w2 : ¬ 1000 * -((-(mostV k.2.1 p (l.getD j 0))) / 1000) < n := by omega
        rw [decide_eq_false w1, decide_eq_false w2]
        have hmj : ((l.length : Int) - ((j : Int) + 1)).toNat < ((l.length : Int) - (j : Int)).toNat := by omega
        refine ⟨⟨by omega, hj⟩, ⟨by omega, by omega⟩, by simp only [Z.in64]; omega, by simp only [Z.in64]; omega, by simp only [Z.in64]; omega, trivial, fun _ => by simp only [Z.in64]; omega, fun _ => by simp only [Z.in64]; omega, fun h => (by cases h), fun _ => ⟨by simp only [Z.in64]; omega, by simp only [Z.in64]; omega, fun _ => ?_, fun _ => ?_⟩⟩
        · exact ⟨fun _ => by simp only [Z.in64]; omega, fun _ => by simp only [Z.in64]; omega, fun _ => by simp only [Z.in64]; omega, fun _ => by simp only [Z.in64]; omega, fun _ => by simp only [Z.in64]; omega, fun _ => by simp only [Z.in64]; omega, fun _ => by simp only [Z.in64]; omega, fun h => (by cases h), fun _ => ⟨by simp only [Z.in64]; omega, rfl, rfl, rfl, ⟨j + 1, by show (j : Int) + 1 = ((j + 1 : Nat) : Int); omega, by omega, ⟨by show (0 : Int) ≤ 0; omega, by show (0 : Int) ≤ ((j + 1 : Nat) : Int); omega⟩, by show -200000 ≤ n; omega, by show n ≤ 3350000; omega⟩, hmj⟩⟩
        · exact ⟨fun _ => by simp only [Z.in64]; omega, fun _ => by simp only [Z.in64]; omega, fun _ => by simp only [Z.in64]; omega, fun _ => by simp only [Z.in64]; omega, fun _ => by simp only [Z.in64]; omega, fun _ => by simp only [Z.in64]; omega, fun _ => by simp only [Z.in64]; omega, fun h => (by cases h), fun _ => ⟨by simp only [Z.in64]; omega, rfl, rfl, rfl, ⟨j + 1, by show (j : Int) + 1 = ((j + 1 : Nat) : Int); omega, by omega, ⟨by show 0 ≤ many + 1; omega, by show many + 1 ≤ ((j + 1 : Nat) : Int); omega⟩, by show -200000 ≤ n; omega, by show n ≤ 3350000; omega⟩, hmj⟩⟩
      · obtain ⟨b4, b5⟩ := b2 hbad
        exact ⟨fun h => (by cases h), fun _ => ⟨by simp only [Z.in64]; omega, rfl, rfl, ⟨a + 1, i + 1, by show (a : Int) + 1 = ((a + 1 : Nat) : Int); omega, by show (i : Int) + 1 = ((i + 1 : Nat) : Int); omega, by omega, by omega, by omega, b5⟩, hm⟩⟩
    · -- not forbidden
      have hbr : (fire_stand_broken ((k, f, p), l)).1 = 0 := by
        have : badAt k f l i = false := hbad
        rw [badAt, ← hpp] at this
        simpa using this
      have KP := keeps_of (s := (k, f, p)) (by omega) hbr
      rw [hbad]
      refine ⟨fun s => ∃ j : Nat, s.2.2.2 = (j : Int) ∧ j ≤ l.length ∧ (0 ≤ s.1 ∧ s.1 ≤ (j : Int)) ∧ (0 < j → s.2.2.1 = g * hs.getD (j - 1) 0 + 1000 * o) ∧ (s.2.1 = true ∨ ∃ m, (0 ≤ m ∧ m ≤ s.1) ∧ heldV (k, f, p) (l.drop j) m = true), fun s => ((l.length : Int) - s.2.2.2).toNat, ⟨0, rfl, Nat.zero_le _, by simp, fun h => (by omega), .inr ⟨0, by simp, KP.hold⟩⟩, ?_⟩
      rintro ⟨many, so, last, j0⟩ ⟨j, r1, r2, r3, r4, r5⟩
      simp only at r1 r3 r4 r5
      subst r1
      refine ⟨fun hj => ?_, fun hj => ?_⟩
      · have hj : (j : Int) < (l.length : Int) := of_decide_eq_true hj
        have hjl : j < l.length := by omega
        have H := HF j hjl
        obtain ⟨n, hn'⟩ : ∃ n, n = g * hs.getD j 0 + 1000 * o := ⟨_, rfl⟩
        have c1 := H.bd
        have c2 := H.bg
        have c3 := H.lo
        have c4 := H.hi
        obtain ⟨_, d1, d2⟩ := least_bd hE hpl (P.2 _ (getD_mem l 0 j hjl))
        obtain ⟨_, d3, d4⟩ := most_bd hE hpl (P.2 _ (getD_mem l 0 j hjl))
        have ej : Int.toNat (j : Int) = j := rfl
        rw [← hn'] at c1 c3 c4
        -- what was before
        have hlast : 0 < j → -200000 ≤ last ∧ last ≤ 3350000 := fun h => by
          have := (HF (j - 1) (by omega)).bd
          rw [← r4 h] at this
          exact this
        have htop : n ≤ 1000 * f.2.2.1 := by
          have := of_decide_eq_true (KP.top j hjl)
          have : mostV k.2.1 p (l.getD j 0) ≤ 1000 * f.2.2.1 := this
          omega
        have hend : (j = 0 ∨ j = l.length - 1) → n ≤ 1000 * f.1 := fun h => by
          rcases h with h | h
          · have := of_decide_eq_true KP.first
            have : mostV k.2.1 p (l.getD 0 0) ≤ 1000 * f.1 := this
            rw [h] at c4
            omega
          · have := of_decide_eq_true KP.last
            have : mostV k.2.1 p (l.getD (l.length - 1) 0) ≤ 1000 * f.1 := this
            rw [h] at c4
            omega
        have hrise : 0 < j → n - last ≤ 1000 * f.2.2.2.2.1 := fun h => by
          rw [r4 h, hn']
          exact step_ok (s := (k, f, p)) hpl hgb (hH (j - 1) (by omega)).1 (hH j hjl).2 F.2.2.1.1 (KP.rise j h hjl)
        have hfall : 0 < j → last - n ≤ 1000 * f.2.2.2.2.2 := fun h => by
          rw [r4 h, hn']
          exact step_ok (s := (k, f, p)) hpl hgb (hH j hjl).1 (hH (j - 1) (by omega)).2 F.2.2.2.1 (KP.fall j h hjl)
        have E1 : ((((j : Int) == 0) || ((j : Int) == ((l.length : Int) - 1))) && decide (1000 * f.1 < n)) = false := by
          rw [Bool.and_eq_false_iff, decide_eq_false_iff_not]
          by_cases hz : j = 0 ∨ j = l.length - 1
          · right
            have := hend hz
            omega
          · left
            rw [Bool.or_eq_false_iff, beq_eq_false_iff_ne, beq_eq_false_iff_ne]
            omega
        have E2 : (decide ((0 : Int) < (j : Int)) && (decide (1000 * f.2.2.2.2.1 < n - last) || decide (1000 * f.2.2.2.2.2 < last - n))) = false := by
          by_cases hz : 0 < j
          · have := hrise hz
            have := hfall hz
            rw [decide_eq_false (show ¬ 1000 * f.2.2.2.2.1 < n - last by omega), decide_eq_false (show ¬ 1000 * f.2.2.2.2.2 < last - n by omega)]
            exact Bool.and_false _
          · rw [decide_eq_false (show ¬ (0 : Int) < (j : Int) by omega)]; rfl
        have hmany : ∀ m', (decide (n < 1000 * f.2.1) = true → m' = 0) → (decide (n < 1000 * f.2.1) = false → m' = many + 1) →
            ((so || decide (f.2.2.2.1 ≤ m')) = true ∨ ∃ m, (0 ≤ m ∧ m ≤ m') ∧ heldV (k, f, p) (l.drop (j + 1)) m = true) := by
          intro m' h1 h2
          rcases r5 with r5 | ⟨m, ⟨m0, m1⟩, m2⟩
          · exact .inl (by rw [r5]; rfl)
          · rw [drop_getD l 0 j hjl, heldV] at m2
            cases hsv : soakV (k, f, p) (l.getD j 0) with
            | false =>
              rw [hsv] at m2
              refine .inr ⟨0, ⟨by omega, ?_⟩, m2⟩
              cases hd : decide (n < 1000 * f.2.1) with
              | true => rw [h1 hd]; exact Int.le_refl _
              | false => rw [h2 hd]; omega
            | true =>
              have hsv' : 1000 * f.2.1 ≤ leastV k.2.1 p (l.getD j 0) := of_decide_eq_true hsv
              have hm' := h2 (decide_eq_false (by omega))
              rw [hsv] at m2
              cases he : (m + 1 == f.2.2.2.1) with
              | true =>
                left
                have : m + 1 = f.2.2.2.1 := by simpa using he
                rw [decide_eq_true (show f.2.2.2.1 ≤ m' by omega), Bool.or_true]
              | false =>
                have m3 : cond (m + 1 == f.2.2.2.1) true (heldV (k, f, p) (l.drop (j + 1)) (m + 1)) = true := m2
                rw [he] at m3
                exact .inr ⟨m + 1, ⟨by omega, by omega⟩, m3⟩
        dsimp only
        rw [ej, HT j hjl, ← hn']
        dsimp only
        have w1 : ¬ n < 1000 * (leastV k.2.1 p (l.getD j 0) / 1000) := by omega
        have w2 : ¬ 1000 * -((-(mostV k.2.1 p (l.getD j 0))) / 1000) < n := by omega
        rw [decide_eq_false w1, decide_eq_false w2]
        have hmj : ((l.length : Int) - ((j : Int) + 1)).toNat < ((l.length : Int) - (j : Int)).toNat := by omega
        have E3 : (((((((j : Int) == 0) || ((j : Int) == ((l.length : Int) - 1))) && decide (1000 * f.1 < n)) || (decide ((0 : Int) < (j : Int)) && (decide (1000 * f.2.2.2.2.1 < n - last) || decide (1000 * f.2.2.2.2.2 < last - n)))) || decide (1000 * f.2.2.1 < n))) = false := by
          rw [E1, E2, decide_eq_false (show ¬ 1000 * f.2.2.1 < n by omega)]; rfl
        have i1 : (j : Int) + 1 = ((j + 1 : Nat) : Int) := by omega
        refine ⟨⟨by omega, hj⟩, ⟨by omega, by omega⟩, by simp only [Z.in64]; omega, by simp only [Z.in64]; omega, by simp only [Z.in64]; omega, trivial, fun _ => by simp only [Z.in64]; omega, fun _ => by simp only [Z.in64]; omega, fun h => (by cases h), fun _ => ⟨by simp only [Z.in64]; omega, by simp only [Z.in64]; omega, fun hd => ?_, fun hd => ?_⟩⟩
        · rw [E3]
          exact ⟨fun _ => by simp only [Z.in64]; omega, fun _ => by simp only [Z.in64]; omega, fun h => by have := hlast (by have := of_decide_eq_true h; omega); simp only [Z.in64]; omega, fun _ => by simp only [Z.in64]; omega, fun h => by have := hlast (by have := of_decide_eq_true h.2; omega); simp only [Z.in64]; omega, fun _ => by simp only [Z.in64]; omega, fun _ => by simp only [Z.in64]; omega, fun h => (by cases h), fun _ => ⟨by simp only [Z.in64]; omega, rfl, rfl, rfl, ⟨j + 1, i1, by omega, ⟨by show (0 : Int) ≤ 0; omega, by show (0 : Int) ≤ ((j + 1 : Nat) : Int); omega⟩, fun _ => hn', hmany 0 (fun _ => rfl) fun h => by rw [hd] at h; cases h⟩, hmj⟩⟩
        · rw [E3]
          exact ⟨fun _ => by simp only [Z.in64]; omega, fun _ => by simp only [Z.in64]; omega, fun h => by have := hlast (by have := of_decide_eq_true h; omega); simp only [Z.in64]; omega, fun _ => by simp only [Z.in64]; omega, fun h => by have := hlast (by have := of_decide_eq_true h.2; omega); simp only [Z.in64]; omega, fun _ => by simp only [Z.in64]; omega, fun _ => by simp only [Z.in64]; omega, fun h => (by cases h), fun _ => ⟨by simp only [Z.in64]; omega, rfl, rfl, rfl, ⟨j + 1, i1, by omega, ⟨by show 0 ≤ many + 1; omega, by show many + 1 ≤ ((j + 1 : Nat) : Int); omega⟩, fun _ => hn', hmany (many + 1) (fun h => by rw [hd] at h; cases h) fun _ => rfl⟩, hmj⟩⟩
      · have hj : ¬ (j : Int) < (l.length : Int) := of_decide_eq_false hj
        have hso : so = true := by
          rcases r5 with r5 | ⟨m, _, m2⟩
          · exact r5
          · rw [List.drop_eq_nil_of_le (by omega), heldV] at m2; cases m2
        have b5 := b3 hbad
        dsimp only
        rw [hso]
        exact ⟨fun h => (by cases h), fun _ => ⟨by simp only [Z.in64]; omega, rfl, rfl, ⟨a, i + 1, rfl, by show (i : Int) + 1 = ((i + 1 : Nat) : Int); omega, by omega, g5, by omega, b5⟩, hm⟩⟩
  · have hi : ¬ (i : Int) < (k.1.length : Int) := of_decide_eq_false hi
    rw [show k.1.length - i = 0 by omega, badsFrom] at g7
    have : Bd.length ≤ a := by
      have := congrArg List.length g7
      rw [List.length_drop, List.length_nil] at this
      omega
    have e2 : ((a : Int) == (Bd.length : Int)) = true := by rw [beq_iff_eq]; omega
    dsimp only
    rw [e2]
    exact ⟨fun _ => trivial, rfl⟩
end Go.Fuel
