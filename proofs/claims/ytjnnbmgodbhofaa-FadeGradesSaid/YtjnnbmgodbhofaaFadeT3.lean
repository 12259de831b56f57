/-
  Chapter 12: the document's table: its condition.
-/
import Derived.Test.YtjnnbmgodbhofaaFadeT2
import Derived.Test.YtjnnbmgodbhofaaFadeAuto4
set_option linter.all false
set_option maxRecDepth 100000
set_option maxHeartbeats 4000000
namespace Go.Fade
open Go Go.Sx
def initT (N i : Nat) : List (List Int) := (List.range i).map fun a => (List.replicate N free).set a 0
theorem init_succ (N i : Nat) : initT N (i + 1) = initT N i ++ [(List.replicate N free).set i 0] := by simp [initT, List.range_succ]
theorem init_len (N i : Nat) : (initT N i).length = i := by simp [initT]
theorem init_en {N a b : Nat} (ha : a < N) (hb : b < N) : en (initT N N) a b = if a = b then 0 else free := by
 unfold en initT
 rw [range_getD _ _ ha]
 by_cases e : a = b
 ·subst e
  rw [if_pos rfl, List.getD_eq_getElem?_getD, List.getElem?_set_self (by simpa using ha)]; rfl
 ·rw [if_neg e, List.getD_eq_getElem?_getD, List.getElem?_set_ne e]
  simp [hb]
theorem base_init {f : Fading} (m : Nat) (O : OkC f) : Base f m (initT (sizeN f) (sizeN f)) := by
 refine ⟨⟨init_len _ _, fun a ha => by unfold initT; rw [range_getD _ _ ha]; simp⟩, fun a ha => by rw [init_en ha ha, if_pos rfl]; omega, fun a b ha hb => ?_, fun a b ha hb => ?_, fun a b ha hb => ?_, fun y hy a b ha hb => ?_⟩
 ·rw [init_en ha hb]; split <;> simp only [free] <;> omega
 ·rw [init_en ha hb]; split
  ·intro _; omega
  ·intro h; exact absurd h (Int.lt_irrefl _)
 ·rw [init_en ha hb]
  have := u_bd O a
  have := v_bd O b
  split
  ·rename_i e; subst e
   have := u_le_v O a; omega
  ·simp only [free]; omega
 ·rw [init_en ha hb]
  have h1 := truth_bd (cut_ok O) hy (pt_known (f := f) ha)
  have h2 := truth_bd (cut_ok O) hy (pt_known (f := f) hb)
  split
  ·rename_i e; subst e; omega
  ·simp only [free]; omega
theorem tabs_ok4 : TabsOk Go.Proofs.Try.prog T4 := by
 refine ⟨by kernel_rfl, fun p hp => ?_⟩
 simp only [T4, List.mem_singleton] at hp
 subst hp
 exact tabs_ok.mty _ (by simp [T])
theorem ix {N : Nat} {t : List (List Int)} (h : Sq N t) {a : Nat} (ha : a < N) : (0 : Int) ≤ (a : Int) ∧ (a : Int) < (t.length : Int) := by rw [h.len]; omega
theorem ixr {N : Nat} {t : List (List Int)} (h : Sq N t) {a c : Nat} (hc : c < N) (ha : a < N) : (0 : Int) ≤ (a : Int) ∧ (a : Int) < ((t.getD c []).length : Int) := by rw [h.row c hc]; omega
theorem v31 (x : Fading × Int) (hp : k31.pre x) : V31 x := by
 obtain ⟨f, mI⟩ := x
 obtain ⟨hc, hm0, hm1⟩ : cardsB f = true ∧ 0 ≤ mI ∧ mI ≤ (f.2.2.2.length : Int) := hp
 have O := cards_iff.1 hc
 obtain ⟨m, rfl⟩ : ∃ m : Nat, mI = (m : Int) := ⟨mI.toNat, by omega⟩
 have hm : m ≤ f.2.2.2.length := by omega
 have nm := O.nm
 have nr := O.nr
 have ns := O.ns
 have hN : (((1 + (f.1.length : Int)) + (f.2.1.length : Int)) + f.2.2.1) = (sizeN f : Int) := by unfold sizeN; omega
 have hN27 := size_le O
 have hNM : f.1.length < sizeN f := by unfold sizeN; omega
 unfold V31
 dsimp only
 rw [hN]
 refine ⟨by simp only [Z.in64]; omega, by simp only [Z.in64]; omega, by simp only [Z.in64]; omega, fun s => s.2 ≤ (sizeN f : Int) ∧ ∃ i : Nat, s = (initT (sizeN f) i, (i : Int)), fun s => ((sizeN f : Int) - s.2).toNat, ⟨by simp only; omega, 0, rfl⟩, ?_⟩
 rintro _ ⟨hi, i, rfl⟩
 have hi : (i : Int) ≤ (sizeN f : Int) := hi
 refine ⟨fun h => ?_, fun h => ?_⟩
 ·have h := of_decide_eq_true h
  refine ⟨fun s => s.2 ≤ (sizeN f : Int) ∧ ∃ j : Nat, s = (List.replicate j free, (j : Int)), fun s => ((sizeN f : Int) - s.2).toNat, ⟨by simp only; omega, 0, rfl⟩, ?_⟩
  rintro _ ⟨hj, j, rfl⟩
  have hj : (j : Int) ≤ (sizeN f : Int) := hj
  refine ⟨fun h' => ?_, fun h' => ?_⟩
  ·have h' := of_decide_eq_true h'
   have h' : (j : Int) < (sizeN f : Int) := h'
   refine ⟨roomy_of (by omega) (by omega) (by simp; omega), by simp only [Z.in64]; omega, rfl, ⟨by simp only; omega, j + 1, ?_⟩, by simp only; omega⟩
   simp only [List.replicate_succ', Prod.mk.injEq]
   exact ⟨rfl, by omega⟩
  ·have h' := of_decide_eq_false h'
   have e : j = sizeN f := by omega
   subst e
   have h : (i : Int) < (sizeN f : Int) := h
   refine ⟨⟨by simp only; omega, by simp; omega⟩, roomy_of (by omega) (by omega) (by rw [List.length_append, init_len]; simp; omega), by simp only [Z.in64]; omega, ⟨by simp only; omega, i + 1, ?_⟩, by simp only; omega⟩
   rw [init_succ]
   simp
 have h := of_decide_eq_false h
 have e : i = sizeN f := by omega
 subst e
 clear h hi
 have B0 := base_init m O
 refine ⟨fun s => Base f m s.2 ∧ ∃ j : Nat, s.1 = (j : Int) ∧ j ≤ f.1.length ∧ Edges f j 0 0 0 s.2, fun s => ((f.1.length : Int) - s.1).toNat, ⟨B0, 0, rfl, by omega, ⟨fun j hj => by omega, fun j hj => by omega, fun j hj => by omega, fun j hj => by omega, fun j hj => by omega⟩⟩, ?_⟩
 rintro ⟨_, t⟩ ⟨hB, j, rfl, hj, hE⟩
 have hB : Base f m t := hB
 have hE : Edges f j 0 0 0 t := hE
 dsimp only
 refine ⟨fun h => ?_, fun h => ?_⟩
 ·have h := of_decide_eq_true h
  rw [show (j : Int) + 1 = ((j + 1 : Nat) : Int) from rfl]
  simp only [Int.toNat_natCast]
  have h : (j : Int) < (f.1.length : Int) := h
  have hv := O.months _ (getD_mem f.1 (0, 0) j (by omega))
  obtain ⟨b1, b2⟩ := month_step O hB (i := j) (by omega)
  have s1 := hB.sq
  have s2 := sq_most s1 (a := j + 1) (b := j) (f.1.getD j (0, 0)).2
  have a1 : j < sizeN f := by omega
  have a2 : j + 1 < sizeN f := by omega
  have z1 : Z.in64 ((j + 1 : Nat) : Int) := by simp only [Z.in64]; omega
  have c1 : (0 : Int) ≤ (j : Int) ∧ (j : Int) < (f.1.length : Int) := by omega
  exact ⟨trivial, trivial, z1, trivial, trivial, trivial, trivial, c1, trivial, trivial, ix s1 a2, ix s1 a2, ixr s1 a2 a1, ixr s1 a2 a1, trivial, trivial, trivial, z1, trivial, trivial, trivial, c1, trivial, trivial, by simp only [Z.in64]; omega,
   ix s2 a1, ix s2 a1, ixr s2 a1 a2, ixr s2 a1 a2, z1, ⟨b1, j + 1, rfl, by omega, b2 hE⟩, by omega⟩
 have h := of_decide_eq_false h
 have h : ¬ (j : Int) < (f.1.length : Int) := h
 have e : j = f.1.length := by omega
 subst e
 clear h hj B0
 refine ⟨fun s => Base f m s.2 ∧ ∃ j : Nat, s.1 = (j : Int) ∧ j ≤ f.2.1.length ∧ Edges f f.1.length j 0 0 s.2, fun s => ((f.2.1.length : Int) - s.1).toNat, ⟨hB, 0, rfl, by omega, hE⟩, ?_⟩
 clear hB hE
 rintro ⟨_, t⟩ ⟨hB, j, rfl, hj, hE⟩
 have hB : Base f m t := hB
 have hE : Edges f f.1.length j 0 0 t := hE
 dsimp only
 refine ⟨fun h => ?_, fun h => ?_⟩
 ·have h := of_decide_eq_true h
  have h : (j : Int) < (f.2.1.length : Int) := h
  have hv : (1 ≤ (f.2.1.getD j (((0 : Nat) : Int), ((0 : Nat) : Int))).1 ∧ _) ∧ (f.2.1.getD j (((0 : Nat) : Int), ((0 : Nat) : Int))).2 ≤ _ := O.refs _ (getD_mem f.2.1 (0, 0) j (by omega))
  have r0 : ref12u_Ref (f, (j : Int)) = ((1 + f.1.length + j : Nat) : Int) := by show (1 + (f.1.length : Int)) + (j : Int) = _; omega
  rw [show (0 : Int) = ((0 : Nat) : Int) from rfl, r0, show (j : Int) + 1 = ((j + 1 : Nat) : Int) from rfl]
  simp only [Int.toNat_natCast]
  obtain ⟨b1, b2⟩ := ref_step O hB (k := j) (by omega) rfl
  have b2 := b2 hE
  have s1 := hB.sq
  have s2 := sq_most s1 (a := 1 + f.1.length + j) (b := 0) (f.2.1.getD j (0, 0)).2
  have a1 : 1 + f.1.length + j < sizeN f := by unfold sizeN; omega
  have a0 : 0 < sizeN f := by omega
  have z1 : Z.in64 ((j + 1 : Nat) : Int) := by simp only [Z.in64]; omega
  have c1 : ((0 : Nat) : Int) ≤ (j : Int) ∧ (j : Int) < (f.2.1.length : Int) := by omega
  have p1 : ref12u_Ref_p (f, (j : Int)) := ⟨by show f.1.length ≤ 100; omega, by show -1000 ≤ (j : Int); omega, by show (j : Int) ≤ 1000; omega⟩
  refine ⟨p1, c1, ix s1 a1, ix s1 a1, ixr s1 a1 a0, ixr s1 a1 a0, p1, c1, by simp only [Z.in64]; omega, ix s2 a0, ix s2 a0, ixr s2 a0 a1, ixr s2 a0 a1, fun h0 => ?_, fun h0 => ⟨z1, ⟨b1, j + 1, rfl, by omega, b2.2 ?_⟩, by omega⟩⟩
  ·have h0 := of_decide_eq_true h0
   have h0 : 0 < j := by omega
   obtain ⟨b3, b4⟩ := b2.1 h0 _ rfl
   have r1 : ref12u_Ref (f, (j : Int) - 1) = ((1 + f.1.length + (j - 1) : Nat) : Int) := by show (1 + (f.1.length : Int)) + ((j : Int) - 1) = _; omega
   rw [r1]
   simp only [Int.toNat_natCast]
   have a3 : 1 + f.1.length + (j - 1) < sizeN f := by omega
   have s3 := b1.sq
   exact ⟨by simp only [Z.in64]; omega, ⟨by show f.1.length ≤ 100; omega, by show -1000 ≤ (j : Int) - 1; omega, by show (j : Int) - 1 ≤ 1000; omega⟩, p1, ix s3 a3, ix s3 a3, ixr s3 a3 a1, ixr s3 a3 a1, z1, ⟨b3, j + 1, rfl, by omega, b4⟩, by omega⟩
  ·have h0 := of_decide_eq_false h0
   omega
 have h := of_decide_eq_false h
 have h : ¬ (j : Int) < (f.2.1.length : Int) := h
 have e : j = f.2.1.length := by omega
 subst e
 clear h hj
 refine ⟨fun s => Base f m s.2 ∧ ∃ j : Nat, s.1 = (j : Int) ∧ j ≤ f.2.2.1.toNat ∧ Edges f f.1.length f.2.1.length j 0 s.2, fun s => (f.2.2.1 - s.1).toNat, ⟨hB, 0, rfl, by omega, hE⟩, ?_⟩
 clear hB hE
 rintro ⟨_, t⟩ ⟨hB, j, rfl, hj, hE⟩
 have hB : Base f m t := hB
 have hE : Edges f f.1.length f.2.1.length j 0 t := hE
 dsimp only
 refine ⟨fun h => ?_, fun h => ?_⟩
 ·have h := of_decide_eq_true h
  have h : (j : Int) < f.2.2.1 := h
  have r0 : ref12u_Sample (f, (j : Int)) = ((1 + f.1.length + f.2.1.length + j : Nat) : Int) := by show ((1 + (f.1.length : Int)) + (f.2.1.length : Int)) + (j : Int) = _; omega
  rw [show (0 : Int) = ((0 : Nat) : Int) from rfl, r0, show (j : Int) + 1 = ((j + 1 : Nat) : Int) from rfl]
  simp only [Int.toNat_natCast]
  obtain ⟨b1, b2⟩ := sample_step O hB (k := j) (by omega) rfl
  have s1 := hB.sq
  have s2 := sq_most s1 (a := 1 + f.1.length + f.2.1.length + j) (b := 0) 16777216
  have a1 : 1 + f.1.length + f.2.1.length + j < sizeN f := by unfold sizeN; omega
  have a0 : 0 < sizeN f := by omega
  have z1 : Z.in64 ((j + 1 : Nat) : Int) := by simp only [Z.in64]; omega
  have p1 : ref12u_Sample_p (f, (j : Int)) := ⟨⟨by show f.1.length ≤ 100; omega, by show f.2.1.length ≤ 100; omega⟩, by show -1000 ≤ (j : Int); omega, by show (j : Int) ≤ 1000; omega⟩
  exact ⟨trivial, trivial, trivial, p1, ix s1 a1, ix s1 a1, ixr s1 a1 a0, ixr s1 a1 a0, trivial, trivial, trivial, p1, ix s2 a0, ix s2 a0, ixr s2 a0 a1, ixr s2 a0 a1, z1, ⟨b1, j + 1, rfl, by omega, b2 hE⟩, by omega⟩
 have h := of_decide_eq_false h
 have h : ¬ (j : Int) < f.2.2.1 := h
 have e : j = f.2.2.1.toNat := by omega
 subst e
 clear h hj
 refine ⟨fun s => Base f m s.2 ∧ ∃ j : Nat, s.1 = (j : Int) ∧ j ≤ m ∧ Edges f f.1.length f.2.1.length f.2.2.1.toNat j s.2, fun s => ((m : Int) - s.1).toNat, ⟨hB, 0, rfl, by omega, hE⟩, ?_⟩
 clear hB hE
 rintro ⟨_, t⟩ ⟨hB, j, rfl, hj, hE⟩
 have hB : Base f m t := hB
 have hE : Edges f f.1.length f.2.1.length f.2.2.1.toNat j t := hE
 dsimp only
 refine ⟨fun h => ?_, fun h => ?_⟩
 ·have h := of_decide_eq_true h
  have h : (j : Int) < (m : Int) := h
  simp only [Int.toNat_natCast]
  obtain ⟨C, hC⟩ : ∃ C, C = f.2.2.2.getD j (0, 0, 0, false) := ⟨_, rfl⟩
  rw [← hC]
  have hCm : C ∈ f.2.2.2 := by rw [hC]; exact getD_mem _ _ j (by omega)
  have hw := (O.checks C hCm).2
  obtain ⟨n, mo, e1, e2, n1, n2, k1, k2⟩ := check_step O hB (c := j) (by omega) hm hC
  rw [e1, e2, show (j : Int) + 1 = ((j + 1 : Nat) : Int) from rfl]
  simp only [Int.toNat_natCast]
  have s1 := hB.sq
  have z1 : Z.in64 ((j + 1 : Nat) : Int) := by have := O.nc; simp only [Z.in64]; omega
  refine ⟨by omega, ⟨⟨by show f.1.length ≤ 100; omega, by show f.2.1.length ≤ 100; omega⟩, by show -1000 ≤ C.2.2.1; omega, by show C.2.2.1 ≤ 1000; omega⟩, fun hf => ?_, fun hf => ?_⟩
  ·obtain ⟨b1, b2⟩ := k1 hf
   exact ⟨trivial, trivial, trivial, trivial, ix s1 n1, ix s1 n1, ixr s1 n1 n2, ixr s1 n1 n2, z1, ⟨b1, j + 1, rfl, by omega, b2 hE⟩, by omega⟩
  ·obtain ⟨b1, b2⟩ := k2 hf
   exact ⟨trivial, trivial, trivial, trivial, ix s1 n2, ix s1 n2, ixr s1 n2 n1, ixr s1 n2 n1, z1, ⟨b1, j + 1, rfl, by omega, b2 hE⟩, by omega⟩
 have h := of_decide_eq_false h
 have h : ¬ (j : Int) < (m : Int) := h
 have e : m = j := by omega
 subst e
 clear h hj
 have hM := mid_zero O hB hE
 clear hB hE
 refine ⟨fun s => ∃ k : Nat, s.1 = (k : Int) ∧ k ≤ sizeN f ∧ Mid f m k s.2, fun s => ((sizeN f : Int) - s.1).toNat, ⟨0, rfl, by omega, hM⟩, ?_⟩
 clear hM
 rintro ⟨_, t⟩ ⟨k, rfl, hk, hM⟩
 have hM : Mid f m k t := hM
 dsimp only
 refine ⟨fun h => ?_, fun h => ?_⟩
 ·have h := of_decide_eq_true h
  have hk : k < sizeN f := by omega
  clear h
  have lb := low_bd O hk
  have zk : Z.in64 ((k : Int) + 1) := by simp only [Z.in64]; omega
  have kc : ((k : Nat) : Int) + 1 = ((k + 1 : Nat) : Int) := rfl
  have l63 : ∀ {n : Nat}, n < sizeN f → Z.in64 ((n : Int) + 1) := fun {n} hn => by simp only [Z.in64]; omega
  rcases low_k hM hk with h0 | h0
  ·refine ⟨fun s => ∃ a : Nat, s.1 = (a : Int) ∧ a ≤ sizeN f ∧ Sq (sizeN f) s.2 ∧ ∀ c d, c < sizeN f → d < sizeN f → en s.2 c d = if c < a then upd t k c d else en t c d, fun s => ((sizeN f : Int) - s.1).toNat,
    ⟨0, rfl, by omega, hM.sq, fun c d _ _ => by rw [if_neg (by omega)]⟩, ?_⟩
   rintro ⟨_, s⟩ ⟨a, rfl, ha, hS, hE⟩
   have hS : Sq (sizeN f) s := hS
   dsimp only at hE ⊢
   refine ⟨fun h => ?_, fun h => ?_⟩
   ·have h := of_decide_eq_true h
    have ha' : a < sizeN f := by omega
    refine ⟨fun s => ∃ b : Nat, s.1 = (b : Int) ∧ b ≤ sizeN f ∧ Sq (sizeN f) s.2 ∧ ∀ c d, c < sizeN f → d < sizeN f → en s.2 c d = if c < a ∨ (c = a ∧ d < b) then upd t k c d else en t c d, fun s => ((sizeN f : Int) - s.1).toNat,
     ⟨0, rfl, by omega, hS, fun c d hc hd => by rw [hE c d hc hd]; by_cases e : c < a <;> simp [e]⟩, ?_⟩
    clear hS hE
    rintro ⟨_, s⟩ ⟨b, rfl, hb, hS, hE⟩
    have hS : Sq (sizeN f) s := hS
    dsimp only at hE ⊢
    refine ⟨fun h' => ?_, fun h' => ?_⟩
    ·have h' := of_decide_eq_true h'
     have hb' : b < sizeN f := by omega
     have e1 : en s a k = en t a k := by
      rw [hE a k ha' hk]; split
      ·exact upd_col h0 a
      ·rfl
     have e2 : en s k b = en t k b := by
      rw [hE k b hk hb']; split
      ·exact upd_row h0 b
      ·rfl
     have e3 : en s a b = en t a b := by rw [hE a b ha' hb', if_neg (by omega)]
     have t1 := hM.top a k ha' hk
     have t2 := hM.top k b hk hb'
     have g1 := hM.lowM a k ha' hk
     have g2 := hM.lowM k b hk hb'
     simp only [ent_en, e1, e2, Int.toNat_natCast]
     refine ⟨ix hS ha', ixr hS ha' hk, fun _ => ix hS hk, fun _ => ixr hS hk hb', fun hf => ?_, fun hf => ⟨l63 hb', ⟨b + 1, rfl, by omega, hS, fun c d hc hd => ?_⟩, by omega⟩⟩
     ·simp only [Bool.and_eq_true, decide_eq_true_eq] at hf
      obtain ⟨f1, f2⟩ := hf
      have f1 : en s a k < (1099511627776 : Int) := by first | exact of_decide_eq_true f1 | (rw [e1]; exact f1)
      have f2 : en s k b < (1099511627776 : Int) := by first | exact of_decide_eq_true f2 | (rw [e2]; exact f2)
      refine ⟨ix hS ha', ixr hS ha' hk, ix hS hk, ixr hS hk hb', by simp only [Z.in64]; omega, ix hS ha', ix hS ha', ixr hS ha' hb', ixr hS ha' hb', l63 hb', ⟨b + 1, rfl, by omega, sq_most hS _, fun c d hc hd => ?_⟩, by omega⟩
      rw [en_most hS ha' hb']
      by_cases e : c = a ∧ d = b
      ·rw [if_pos e, e.1, e.2, if_pos (by omega), e3]
       unfold upd
       rw [e1] at f1; rw [e2] at f2
       rw [if_pos ⟨f1, f2⟩]
      ·rw [if_neg e, hE c d hc hd]
       by_cases e' : c < a ∨ c = a ∧ d < b
       ·rw [if_pos e', if_pos (by omega)]
       ·rw [if_neg e', if_neg (by omega)]
     ·rw [hE c d hc hd]
      by_cases e : c = a ∧ d = b
      ·rw [e.1, e.2, if_neg (by omega), if_pos (by omega)]
       unfold upd
       rw [if_neg]
       intro hh
       rw [decide_eq_true hh.1, decide_eq_true hh.2] at hf
       cases hf
      ·by_cases e' : c < a ∨ c = a ∧ d < b
       ·rw [if_pos e', if_pos (by omega)]
       ·rw [if_neg e', if_neg (by omega)]
    ·have h' := of_decide_eq_false h'
     have e : b = sizeN f := by omega
     subst e
     refine ⟨l63 ha', ⟨a + 1, rfl, by omega, hS, fun c d hc hd => ?_⟩, by omega⟩
     rw [hE c d hc hd]
     by_cases e : c < a + 1
     ·rw [if_pos e, if_pos (by omega)]
     ·rw [if_neg e, if_neg (by omega)]
   ·have h := of_decide_eq_false h
    have e : a = sizeN f := by omega
    subst e
    refine ⟨zk, ⟨k + 1, rfl, by omega, clean_stage O hM hk h0 hS fun c d hc hd => ?_⟩, by omega⟩
    rw [hE c d hc hd, if_pos hc]
  ·obtain ⟨L, hL⟩ : ∃ L, L = lowB f k := ⟨_, rfl⟩
   rw [← hL] at lb
   have P0 : ∀ c d, c < sizeN f → d < sizeN f → -L ≤ en t c d := fun c d hc hd => by rw [hL]; exact hM.lowM c d hc hd
   refine ⟨fun s => ∃ a : Nat, s.1 = (a : Int) ∧ a ≤ sizeN f ∧ Sq (sizeN f) s.2 ∧ ∀ c d, c < sizeN f → d < sizeN f → (en s.2 c d ≤ en t c d ∧ (¬ c < a → -L ≤ en s.2 c d)) ∧ (c ≤ k → d ≤ k → -(2 * L) ≤ en s.2 c d) ∧ (c ≤ k ∨ d ≤ k → -(3 * L) ≤ en s.2 c d) ∧ -(6 * L) ≤ en s.2 c d, fun s => ((sizeN f : Int) - s.1).toNat,
    ⟨0, rfl, by omega, hM.sq, fun c d hc hd => by have := P0 c d hc hd; dsimp only; omega⟩, ?_⟩
   rintro ⟨_, s⟩ ⟨a, rfl, ha, hS, hE⟩
   have hS : Sq (sizeN f) s := hS
   dsimp only at hE ⊢
   refine ⟨fun h => ?_, fun h => ?_⟩
   ·have h := of_decide_eq_true h
    have ha' : a < sizeN f := by omega
    refine ⟨fun s => ∃ b : Nat, s.1 = (b : Int) ∧ b ≤ sizeN f ∧ Sq (sizeN f) s.2 ∧ ∀ c d, c < sizeN f → d < sizeN f → (en s.2 c d ≤ en t c d ∧ (¬ (c < a ∨ (c = a ∧ d < b)) → -L ≤ en s.2 c d)) ∧ (c ≤ k → d ≤ k → -(2 * L) ≤ en s.2 c d) ∧ (c ≤ k ∨ d ≤ k → -(3 * L) ≤ en s.2 c d) ∧ -(6 * L) ≤ en s.2 c d, fun s => ((sizeN f : Int) - s.1).toNat,
     ⟨0, rfl, by omega, hS, fun c d hc hd => by
      obtain ⟨⟨k1, k2⟩, k3⟩ := hE c d hc hd
      exact ⟨⟨k1, fun hn => k2 (by omega)⟩, k3⟩⟩, ?_⟩
    clear hS hE
    rintro ⟨_, s⟩ ⟨b, rfl, hb, hS, hE⟩
    have hS : Sq (sizeN f) s := hS
    dsimp only at hE ⊢
    refine ⟨fun h' => ?_, fun h' => ?_⟩
    ·have h' := of_decide_eq_true h'
     have hb' : b < sizeN f := by omega
     obtain ⟨⟨p1, p2⟩, p3, p4, p5⟩ := hE a k ha' hk
     obtain ⟨⟨q1, q2⟩, q3, q4, q5⟩ := hE k b hk hb'
     obtain ⟨⟨r1, r2⟩, r3, r4, r5⟩ := hE a b ha' hb'
     have p4 := p4 (.inr (Nat.le_refl k))
     have q4 := q4 (.inl (Nat.le_refl k))
     have r2 := r2 (by omega)
     simp only [ent_en, Int.toNat_natCast]
     refine ⟨ix hS ha', ixr hS ha' hk, fun _ => ix hS hk, fun _ => ixr hS hk hb', fun hf => ?_, fun hf => ⟨l63 hb', ⟨b + 1, rfl, by omega, hS, fun c d hc hd => ?_⟩, by omega⟩⟩
     ·simp only [Bool.and_eq_true, decide_eq_true_eq] at hf
      obtain ⟨f1, f2⟩ := hf
      have f1 : en s a k < (1099511627776 : Int) := by first | exact of_decide_eq_true f1 | (rw [e1]; exact f1)
      have f2 : en s k b < (1099511627776 : Int) := by first | exact of_decide_eq_true f2 | (rw [e2]; exact f2)
      refine ⟨ix hS ha', ixr hS ha' hk, ix hS hk, ixr hS hk hb', by simp only [Z.in64]; omega, ix hS ha', ix hS ha', ixr hS ha' hb', ixr hS ha' hb', l63 hb', ⟨b + 1, rfl, by omega, sq_most hS _, fun c d hc hd => ?_⟩, by omega⟩
      rw [en_most hS ha' hb']
      by_cases e : c = a ∧ d = b
      ·rw [if_pos e, e.1, e.2]
       refine ⟨⟨by omega, fun hn => by omega⟩, fun g1 g2 => ?_, fun g1 => ?_, by omega⟩
       ·have := p2 (by omega)
        have := q2 (by omega)
        omega
       ·rcases g1 with g1 | g1
        ·have := p3 g1 (Nat.le_refl k)
         have := q2 (by omega)
         omega
        ·have := p2 (by omega)
         have := q3 (Nat.le_refl k) g1
         omega
      ·rw [if_neg e]
       obtain ⟨⟨k1, k2⟩, k3⟩ := hE c d hc hd
       exact ⟨⟨k1, fun hn => k2 (by omega)⟩, k3⟩
     ·obtain ⟨⟨k1, k2⟩, k3⟩ := hE c d hc hd
      exact ⟨⟨k1, fun hn => k2 (by omega)⟩, k3⟩
    ·have h' := of_decide_eq_false h'
     have e : b = sizeN f := by omega
     subst e
     refine ⟨l63 ha', ⟨a + 1, rfl, by omega, hS, fun c d hc hd => ?_⟩, by omega⟩
     obtain ⟨⟨k1, k2⟩, k3⟩ := hE c d hc hd
     exact ⟨⟨k1, fun hn => k2 (by omega)⟩, k3⟩
   ·have h := of_decide_eq_false h
    have e : a = sizeN f := by omega
    subst e
    refine ⟨zk, ⟨k + 1, rfl, by omega, neg_stage O hM hk h0 hS (fun c d hc hd => (hE c d hc hd).1.1) fun c d hc hd => ?_⟩, by omega⟩
    rw [← hL]; exact (hE c d hc hd).2.2.2
 have h := of_decide_eq_false h
 have e : k = sizeN f := by omega
 subst e
 clear h hk
 have hend := mid_end O hm hM
 refine ⟨fun s => ∃ a : Nat, s = (a : Int) ∧ a ≤ sizeN f ∧ ∀ c, c < a → 0 ≤ en t c c, fun s => ((sizeN f : Int) - s).toNat, ⟨0, rfl, by omega, fun c hc => by omega⟩, ?_⟩
 rintro _ ⟨a, rfl, ha, hd⟩
 refine ⟨fun h => ?_, fun h => ?_⟩
 ·have h := of_decide_eq_true h
  have ha' : a < sizeN f := by omega
  rw [show (a : Int) + 1 = ((a + 1 : Nat) : Int) from rfl]
  refine ⟨ix hM.sq ha', ixr hM.sq ha' ha', fun hn => ?_, fun hn => ⟨by simp only [Z.in64]; omega, rfl, ⟨a + 1, rfl, by omega, fun c hc => ?_⟩, by show ((sizeN f : Int) - ((a + 1 : Nat) : Int)).toNat < ((sizeN f : Int) - (a : Int)).toNat; omega⟩⟩
  ·have hn : en t a a < 0 := of_decide_eq_true hn
   rcases hend with ⟨h1, _⟩ | ⟨_, h2⟩
   ·have := h1 a ha'; omega
   ·exact h2.symm
  ·have hn : ¬ en t a a < 0 := of_decide_eq_false hn
   by_cases e : c = a
   ·subst e; omega
   ·exact hd c (by omega)
 ·have h := of_decide_eq_false h
  have e : a = sizeN f := by omega
  subst e
  rcases hend with ⟨_, h2⟩ | ⟨⟨c, hc, hn⟩, _⟩
  ·exact h2.symm
  ·have := hd c hc; omega
end Go.Fade
