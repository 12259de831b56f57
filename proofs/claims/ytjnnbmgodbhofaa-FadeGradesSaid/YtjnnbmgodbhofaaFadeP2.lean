/-
  Chapter 12: the conditions, proved; second part: the table of bounds.
-/
import Derived.Test.YtjnnbmgodbhofaaFadeO2
set_option linter.all false
set_option maxRecDepth 100000
namespace Go.Fade
open Go Go.Sx
theorem rep_getD {α : Type} (n : Nat) (a d : α) {i : Nat} (h : i < n) : (List.replicate n a).getD i d = a := by simp [List.getD, List.getElem?_replicate, h]
theorem gt_set {M : Bds} (h : Sh M) {i k : Nat} (hi : i < 27) (hk : k < 27) (v : Int) {p q : Nat} (hp : p < 27) (hq : q < 27) : gt (M.set i ((M.getD i z27).set k v)) p q = if p = i ∧ q = k then v else gt M p q := by
 have hil : i < M.length := by rw [h.len]; exact hi
 have hpl : p < M.length := by rw [h.len]; exact hp
 unfold gt
 by_cases e : p = i
 ·subst e
  have hr : (M.set p ((M.getD p z27).set k v)).getD p z27 = (M.getD p z27).set k v := by simp [List.getD, hpl]
  rw [hr]
  have hrow := h.row p hp
  by_cases e2 : q = k
  ·subst e2
   rw [if_pos ⟨rfl, rfl⟩]
   simp [List.getD, hrow ▸ hq, List.getElem?_set]
   have e0 : (M[p]?.getD z27) = M.getD p z27 := by simp [List.getD]
   rw [e0, hrow, if_pos hq]
   rfl
  ·rw [if_neg (fun x => e2 x.2)]
   simp [List.getD, List.getElem?_set, Ne.symm e2]
 ·rw [if_neg (fun x => e x.1)]
  have hr : (M.set i ((M.getD i z27).set k v)).getD p z27 = M.getD p z27 := by simp [List.getD, List.getElem?_set, Ne.symm e]
  rw [hr]
theorem sh_set {M : Bds} (h : Sh M) {i : Nat} (hi : i < 27) (k : Nat) (v : Int) : Sh (M.set i ((M.getD i z27).set k v)) := by
 refine ⟨by rw [List.length_set]; exact h.len, fun p hp => ?_⟩
 have hil : i < M.length := by rw [h.len]; exact hi
 by_cases e : p = i
 ·subst e
  have hr : (M.set p ((M.getD p z27).set k v)).getD p z27 = (M.getD p z27).set k v := by simp [List.getD, hil]
  rw [hr, List.length_set]
  exact h.row p hp
 ·have hr : (M.set i ((M.getD i z27).set k v)).getD p z27 = M.getD p z27 := by simp [List.getD, List.getElem?_set, Ne.symm e]
  rw [hr]; exact h.row p hp
theorem small_sh {b : Bds} (h : Small b) : Sh b := ⟨h.len, h.row⟩
structure Mx (b : Bds) (f : Nat → Nat → Int) (i k : Nat) (M : Bds) : Prop where
 sh : Sh M
 eq : ∀ p q, p < 27 → q < 27 → gt M p q = if p < i ∨ (p = i ∧ q < k) then f p q else gt b p q
theorem Mx.start {b : Bds} {f : Nat → Nat → Int} (h : Sh b) : Mx b f 0 0 b := ⟨h, fun p q _ _ => by rw [if_neg (by omega)]⟩
theorem Mx.row {b : Bds} {f : Nat → Nat → Int} {i : Nat} {M : Bds} (h : Mx b f i 27 M) : Mx b f (i + 1) 0 M := ⟨h.sh, fun p q hp hq => by
 rw [h.eq p q hp hq]
 by_cases e : p < i + 1
 ·rw [if_pos (by omega), if_pos (.inl e)]
 ·rw [if_neg (by omega), if_neg (by omega)]⟩
theorem Mx.fin {b : Bds} {f : Nat → Nat → Int} {M : Bds} (h : Mx b f 27 0 M) : M = table f := sh_ext h.sh (sh_table f) fun p q hp hq => by
 rw [h.eq p q hp hq, if_pos (.inl hp), gt_table f hp hq]
theorem Mx.put {b : Bds} {f : Nat → Nat → Int} {i k : Nat} {M : Bds} (h : Mx b f i k M) (hi : i < 27) (hk : k < 27) {v : Int} (hv : v = f i k) : Mx b f i (k + 1) (M.set i ((M.getD i z27).set k v)) := ⟨sh_set h.sh hi k v, fun p q hp hq => by
 rw [gt_set h.sh hi hk v hp hq]
 by_cases e : p = i ∧ q = k
 ·rw [if_pos e, if_pos (by omega), hv, e.1, e.2]
 ·rw [if_neg e, h.eq p q hp hq]
  by_cases e2 : p < i ∨ (p = i ∧ q < k)
  ·rw [if_pos e2, if_pos (by omega)]
  ·rw [if_neg e2, if_neg (by omega)]⟩
theorem Mx.skip {b : Bds} {f : Nat → Nat → Int} {i k : Nat} {M : Bds} (h : Mx b f i k M) (hv : gt b i k = f i k) : Mx b f i (k + 1) M := ⟨h.sh, fun p q hp hq => by
 rw [h.eq p q hp hq]
 by_cases e : p = i ∧ q = k
 ·rw [if_neg (by omega), if_pos (by omega), e.1, e.2, hv]
 ·by_cases e2 : p < i ∨ (p = i ∧ q < k)
  ·rw [if_pos e2, if_pos (by omega)]
  ·rw [if_neg e2, if_neg (by omega)]⟩
theorem new_col {b : Bds} {a c : Nat} {w : Int} (hok : 0 ≤ gt b c a + w) (i : Nat) : newAt b a c w i a = gt b i a := by
 unfold newAt
 cases decide (gt b i a < free) && decide (gt b c a < free) with
 | false => rfl
 | true => simp only [cond_true]; omega
theorem new_row {b : Bds} {a c : Nat} {w : Int} (hok : 0 ≤ gt b c a + w) (k : Nat) : newAt b a c w c k = gt b c k := by
 unfold newAt
 cases decide (gt b c a < free) && decide (gt b c k < free) with
 | false => rfl
 | true => simp only [cond_true]; omega
theorem v48 (x : Unit) (_ : k48.pre x) : V48 x := by
 have sh0 : Sh (List.replicate 27 (List.replicate 27 (0 : Int))) := ⟨List.length_replicate, fun i hi => by rw [rep_getD _ _ _ hi]; exact List.length_replicate⟩
 have g0 : ∀ p q, p < 27 → q < 27 → gt (List.replicate 27 (List.replicate 27 (0 : Int))) p q = 0 := fun p q hp hq => by unfold gt; rw [rep_getD _ _ _ hp, rep_getD _ _ _ hq]
 refine ⟨fun s => ∃ i : Nat, s.1 = (i : Int) ∧ i ≤ 27 ∧ Mx (List.replicate 27 (List.replicate 27 0)) (fun i k => cond (Nat.beq i k) 0 free) i 0 s.2, fun s => (27 - s.1).toNat, ⟨0, rfl, by omega, .start sh0⟩, ?_⟩
 rintro ⟨i0, M⟩ ⟨i, rfl, hi, hM⟩
 refine ⟨fun h => ?_, fun h => ?_⟩
 ·have h : (i : Int) < 27 := of_decide_eq_true h
  refine ⟨fun s => ∃ k : Nat, s.1 = (k : Int) ∧ k ≤ 27 ∧ Mx (List.replicate 27 (List.replicate 27 0)) (fun i k => cond (Nat.beq i k) 0 free) i k s.2, fun s => (27 - s.1).toNat, ⟨0, rfl, by omega, hM⟩, ?_⟩
  rintro ⟨k0, M1⟩ ⟨k, rfl, hk, hM1⟩
  refine ⟨fun hk' => ?_, fun hk' => ?_⟩
  ·have hk' : (k : Int) < 27 := of_decide_eq_true hk'
   refine ⟨fun hne => ⟨⟨by omega, h⟩, ⟨by omega, hk'⟩, ?_, ⟨k + 1, ?_, by omega, ?_⟩, ?_⟩, fun he => ⟨?_, ⟨k + 1, ?_, by omega, ?_⟩, ?_⟩⟩
   ·show Z.in64 ((k : Int) + 1); simp only [Z.in64]; omega
   ·show (k : Int) + 1 = ((k + 1 : Nat) : Int); omega
   ·refine hM1.put (by omega) (by omega) ?_
    have hne : ((i : Int) == (k : Int)) = false := by simpa using hne
    have : ¬ i = k := fun e => by rw [e] at hne; simp at hne
    cases hb : Nat.beq i k with
    | false => rfl
    | true => exact absurd (Nat.eq_of_beq_eq_true hb) this
   ·show (27 - ((k : Int) + 1)).toNat < (27 - (k : Int)).toNat; omega
   ·show Z.in64 ((k : Int) + 1); simp only [Z.in64]; omega
   ·show (k : Int) + 1 = ((k + 1 : Nat) : Int); omega
   ·refine hM1.skip ?_
    have he : ((i : Int) == (k : Int)) = true := by simpa using he
    have : i = k := by have := eq_of_beq he; omega
    rw [g0 i k (by omega) (by omega), this, Nat.beq_refl]; rfl
   ·show (27 - ((k : Int) + 1)).toNat < (27 - (k : Int)).toNat; omega
  ·have hk' : ¬ (k : Int) < 27 := of_decide_eq_false hk'
   have : k = 27 := by omega
   subst this
   refine ⟨?_, ⟨i + 1, ?_, by omega, hM1.row⟩, ?_⟩
   ·show Z.in64 ((i : Int) + 1); simp only [Z.in64]; omega
   ·show (i : Int) + 1 = ((i + 1 : Nat) : Int); omega
   ·show (27 - ((i : Int) + 1)).toNat < (27 - (i : Int)).toNat; omega
 ·have h : ¬ (i : Int) < 27 := of_decide_eq_false h
  have : i = 27 := by omega
  subst this
  exact hM.fin
theorem v54 (x : Bds × List Rule) (hp : k54.l.pre x) : V54 x := by
 obtain ⟨b₀, l⟩ := x
 obtain ⟨hl, hp⟩ : l.length ≤ 10 ∧ enterP b₀ l := hp
 obtain ⟨R, hR⟩ : ∃ R, R = enterL b₀ l := ⟨_, rfl⟩
 have e1 : fade_bounds_enter_ok (b₀, l) = R.isSome := by rw [hR]; rfl
 have e2 : fade_bounds_enter (b₀, l) = R.getD [] := by rw [hR]; rfl
 rw [V54, e1, e2]
 refine ⟨fun s => ∃ i : Nat, s.1 = (i : Int) ∧ i ≤ l.length ∧ enterP s.2 (l.drop i) ∧ R = enterL s.2 (l.drop i), fun s => ((l.length : Int) - s.1).toNat, ⟨0, rfl, by omega, hp, hR⟩, ?_⟩
 rintro ⟨i0, b⟩ ⟨i, hi0, hi, hP, hE⟩
 simp only at hi0 hP hE
 subst hi0
 refine ⟨fun h => ?_, fun h => ?_⟩
 ·have h : (i : Int) < (l.length : Int) := of_decide_eq_true h
  have hil : i < l.length := by omega
  obtain ⟨r, hr⟩ : ∃ r, r = l.getD i (0, 0, 0) := ⟨_, rfl⟩
  have e3 : l.getD (Int.toNat (i : Int)) (0, 0, 0) = r := hr.symm
  rw [drop_getD l (0, 0, 0) i hil, ← hr] at hP hE
  obtain ⟨sm, ro, hnext⟩ := hP
  obtain ⟨r1, r2, r3, r4⟩ := ro
  have sh := small_sh sm
  rw [enterL] at hE
  have hca1 := sm.low r.2.1.toNat r.1.toNat (by omega) (by omega)
  have hca2 := sm.high r.2.1.toNat r.1.toNat (by omega) (by omega)
  dsimp only
  rw [e3]
  refine ⟨⟨by omega, h⟩, r2, r1, ?_, fun hbad => ⟨trivial, trivial, ?_⟩, fun hok => ⟨r1, r2, fun hskip => ⟨?_, ⟨i + 1, ?_, hil, ?_, ?_⟩, ?_⟩, fun hns => ?_⟩⟩
  ·show Z.in64 (gt b r.2.1.toNat r.1.toNat + r.2.2); simp only [Z.in64]; omega
  ·have : okR b r = false := by rw [okR]; rw [show decide (gt b r.2.1.toNat r.1.toNat + r.2.2 < 0) = true from hbad]; rfl
   rw [this, cond_false] at hE
   rw [hE]; rfl
  ·simp only [Z.in64]; omega
  ·show (i : Int) + 1 = ((i + 1 : Nat) : Int); omega
  ·have hok' : okR b r = true := by rw [okR]; rw [show decide (gt b r.2.1.toNat r.1.toNat + r.2.2 < 0) = false from hok]; rfl
   have hput : putR b r = b := by rw [putR]; rw [show decide (gt b r.1.toNat r.2.1.toNat ≤ r.2.2) = true from hskip]; rfl
   have := hnext hok'
   rw [hput] at this
   exact this
  ·have hok' : okR b r = true := by rw [okR]; rw [show decide (gt b r.2.1.toNat r.1.toNat + r.2.2 < 0) = false from hok]; rfl
   have hput : putR b r = b := by rw [putR]; rw [show decide (gt b r.1.toNat r.2.1.toNat ≤ r.2.2) = true from hskip]; rfl
   rw [hok', hput] at hE
   exact hE
  ·show ((l.length : Int) - ((i : Int) + 1)).toNat < ((l.length : Int) - (i : Int)).toNat; omega
  ·have hok' : okR b r = true := by rw [okR]; rw [show decide (gt b r.2.1.toNat r.1.toNat + r.2.2 < 0) = false from hok]; rfl
   have hge : 0 ≤ gt b r.2.1.toNat r.1.toNat + r.2.2 := by
    have := of_decide_eq_false hok
    have : ¬ gt b r.2.1.toNat r.1.toNat + r.2.2 < 0 := this
    omega
   have hput : putR b r = table (newAt b r.1.toNat r.2.1.toNat r.2.2) := by rw [putR]; rw [show decide (gt b r.1.toNat r.2.1.toNat ≤ r.2.2) = false from hns]; rfl
   have hnext := hnext hok'
   rw [hok', cond_true] at hE
   rw [hput] at hnext hE
   obtain ⟨a, ha⟩ : ∃ a, a = r.1.toNat := ⟨_, rfl⟩
   obtain ⟨c, hc⟩ : ∃ c, c = r.2.1.toNat := ⟨_, rfl⟩
   have ha27 : a < 27 := by omega
   have hc27 : c < 27 := by omega
   rw [← ha, ← hc] at hnext hE hge ⊢
   obtain ⟨f, hf⟩ : ∃ f, f = newAt b a c r.2.2 := ⟨_, rfl⟩
   rw [← hf] at hnext hE
   refine ⟨fun s => ∃ j : Nat, s.1 = (j : Int) ∧ j ≤ 27 ∧ Mx b f j 0 s.2, fun s => (27 - s.1).toNat, ⟨0, rfl, by omega, .start sh⟩, ?_⟩
   rintro ⟨j0, M⟩ ⟨j, hj0, hj, hM⟩
   simp only at hj0 hM
   subst hj0
   refine ⟨fun hjl => ?_, fun hjl => ?_⟩
   ·have hjl : (j : Int) < 27 := of_decide_eq_true hjl
    have hj27 : j < 27 := by omega
    refine ⟨fun s => ∃ k : Nat, s.1 = (k : Int) ∧ k ≤ 27 ∧ Mx b f j k s.2, fun s => (27 - s.1).toNat, ⟨0, rfl, by omega, hM⟩, ?_⟩
    rintro ⟨q0, M1⟩ ⟨q, hq0, hq, hM1⟩
    simp only at hq0 hM1
    subst hq0
    refine ⟨fun hql => ?_, fun hql => ?_⟩
    ·have hql : (q : Int) < 27 := of_decide_eq_true hql
     have hq27 : q < 27 := by omega
     have gx : gt M1 j a = gt b j a := by
      rw [hM1.eq j a hj27 ha27]
      split
      ·rw [hf]; exact new_col hge j
      ·rfl
     have gy : gt M1 c q = gt b c q := by
      rw [hM1.eq c q hc27 hq27]
      split
      ·rw [hf]; exact new_row hge q
      ·rfl
     have go : gt M1 j q = gt b j q := by
      rw [hM1.eq j q hj27 hq27, if_neg (by omega)]
     have x1 := sm.low j a hj27 ha27
     have x2 := sm.high j a hj27 ha27
     have y1 := sm.low c q hc27 hq27
     have y2 := sm.high c q hc27 hq27
     have c0 : (decide (gt M1 j a < free) && decide (gt M1 c q < free)) = (decide (gt b j a < free) && decide (gt b c q < free)) := by rw [gx, gy]
     refine ⟨⟨by omega, hjl⟩, r1, r2, ⟨by omega, hql⟩, fun hboth => ⟨⟨by omega, hjl⟩, ⟨by omega, hql⟩, ?_, ?_, ⟨by omega, hjl⟩, ⟨by omega, hql⟩, ?_, rfl, ⟨q + 1, ?_, by omega, ?_⟩, ?_⟩, fun hnot => ⟨?_, rfl, ⟨q + 1, ?_, by omega, ?_⟩, ?_⟩⟩
     ·show Z.in64 (gt M1 j a + r.2.2); rw [gx]; simp only [Z.in64]; omega
     ·show Z.in64 (gt M1 j a + r.2.2 + gt M1 c q); rw [gx, gy]; simp only [Z.in64]; omega
     ·show Z.in64 ((q : Int) + 1); simp only [Z.in64]; omega
     ·show (q : Int) + 1 = ((q + 1 : Nat) : Int); omega
     ·refine hM1.put hj27 hq27 ?_
      show min (gt M1 j q) (gt M1 j a + r.2.2 + gt M1 c q) = f j q
      have hb2 : (decide (gt b j a < free) && decide (gt b c q < free)) = true := by rw [← c0]; exact hboth
      rw [gx, gy, go, hf, newAt, hb2, cond_true]
     ·show (27 - ((q : Int) + 1)).toNat < (27 - (q : Int)).toNat; omega
     ·show Z.in64 ((q : Int) + 1); simp only [Z.in64]; omega
     ·show (q : Int) + 1 = ((q + 1 : Nat) : Int); omega
     ·refine hM1.skip ?_
      have hb2 : (decide (gt b j a < free) && decide (gt b c q < free)) = false := by rw [← c0]; exact hnot
      rw [hf, newAt, hb2, cond_false]
     ·show (27 - ((q : Int) + 1)).toNat < (27 - (q : Int)).toNat; omega
    ·have hql : ¬ (q : Int) < 27 := of_decide_eq_false hql
     have : q = 27 := by omega
     subst this
     refine ⟨?_, rfl, ⟨j + 1, ?_, by omega, hM1.row⟩, ?_⟩
     ·show Z.in64 ((j : Int) + 1); simp only [Z.in64]; omega
     ·show (j : Int) + 1 = ((j + 1 : Nat) : Int); omega
     ·show (27 - ((j : Int) + 1)).toNat < (27 - (j : Int)).toNat; omega
   ·have hjl : ¬ (j : Int) < 27 := of_decide_eq_false hjl
    have : j = 27 := by omega
    subst this
    have hMf := hM.fin
    refine ⟨?_, ⟨i + 1, ?_, hil, ?_, ?_⟩, ?_⟩
    ·show Z.in64 ((i : Int) + 1); simp only [Z.in64]; omega
    ·show (i : Int) + 1 = ((i + 1 : Nat) : Int); omega
    ·show enterP M _; rw [hMf]; exact hnext
    ·show R = enterL M _; rw [hMf]; exact hE
    ·show ((l.length : Int) - ((i : Int) + 1)).toNat < ((l.length : Int) - (i : Int)).toNat; omega
 ·have h : ¬ (i : Int) < (l.length : Int) := of_decide_eq_false h
  have : i = l.length := by omega
  subst this
  rw [List.drop_length, enterL] at hE
  rw [hE]
  exact ⟨rfl, rfl⟩
end Go.Fade
