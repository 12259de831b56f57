/-
  Chapter 12: the table of bounds: what is known, and what follows from it. Plain Lean; no program in sight.
-/
import Derived.Test.YtjnnbmgodbhofaaFadeSpec
set_option linter.all false
set_option maxRecDepth 100000
namespace Go.Fade
open Go Go.Sx
theorem gt_table (f : Nat → Nat → Int) {i k : Nat} (hi : i < 27) (hk : k < 27) : gt (table f) i k = f i k := by
 unfold gt table
 rw [range_getD _ _ hi, range_getD _ _ hk]
structure Sh (b : Bds) : Prop where
 len : b.length = 27
 row : ∀ i, i < 27 → (b.getD i z27).length = 27
theorem sh_table (f : Nat → Nat → Int) : Sh (table f) := by
 refine ⟨by simp [table], fun i hi => ?_⟩
 unfold table
 rw [range_getD _ _ hi]
 simp
theorem getD_eq {α : Type} {l : List α} {i : Nat} {d : α} (h : i < l.length) : l.getD i d = l[i] := by simp [List.getD, h]
theorem sh_ext {b b' : Bds} (h : Sh b) (h' : Sh b') (he : ∀ i k, i < 27 → k < 27 → gt b i k = gt b' i k) : b = b' := by
 refine List.ext_getElem (by rw [h.len, h'.len]) fun i h1 h2 => ?_
 have hi : i < 27 := by rw [h.len] at h1; exact h1
 have r1 := h.row i hi
 have r2 := h'.row i hi
 rw [getD_eq h1] at r1
 rw [getD_eq h2] at r2
 refine List.ext_getElem (by rw [r1, r2]) fun k k1 k2 => ?_
 have hk : k < 27 := by rw [r1] at k1; exact k1
 have := he i k hi hk
 unfold gt at this
 rw [getD_eq h1, getD_eq h2, getD_eq k1, getD_eq k2] at this
 exact this
structure Inv (S : Nat → Prop) (b : Bds) : Prop where
 sh : Sh b
 s0 : S 0
 lt : ∀ i, S i → i < 27
 dg : ∀ i, i < 27 → gt b i i = 0
 out : ∀ i k, i < 27 → k < 27 → i ≠ k → ¬ (S i ∧ S k) → gt b i k = free
 up : ∀ i, S i → gt b i 0 ≤ 16777216
 dn : ∀ k, S k → gt b 0 k ≤ 0
 tri : ∀ i j k, S i → S j → S k → gt b i k ≤ gt b i j + gt b j k
theorem Inv.hi {S : Nat → Prop} {b : Bds} (h : Inv S b) {i k : Nat} (hi : S i) (hk : S k) : gt b i k ≤ 16777216 := by
 have := h.tri i 0 k hi h.s0 hk
 have := h.up i hi
 have := h.dn k hk
 omega
theorem Inv.lo {S : Nat → Prop} {b : Bds} (h : Inv S b) {i k : Nat} (hi : S i) (hk : S k) : -16777216 ≤ gt b i k := by
 have := h.tri i k i hi hk hi
 have := h.dg i (h.lt i hi)
 have := h.hi hk hi
 omega
theorem Inv.any {S : Nat → Prop} {b : Bds} (h : Inv S b) {i k : Nat} (hi : i < 27) (hk : k < 27) : (S i ∧ S k) ∨ (i = k ∧ gt b i k = 0) ∨ (i ≠ k ∧ gt b i k = free) := by
 by_cases hs : S i ∧ S k
 ·exact .inl hs
 ·by_cases e : i = k
  ·subst e; exact .inr (.inl ⟨rfl, h.dg i hi⟩)
  ·exact .inr (.inr ⟨e, h.out i k hi hk e hs⟩)
theorem Inv.small {S : Nat → Prop} {b : Bds} (h : Inv S b) : Small b := by
 refine ⟨h.sh.len, h.sh.row, fun i k hi hk => ?_, fun i k hi hk => ?_⟩
 ·rcases h.any hi hk with ⟨h1, h2⟩ | ⟨_, h1⟩ | ⟨_, h1⟩
  ·have := h.lo h1 h2; omega
  ·omega
  ·rw [h1]; simp only [free]; omega
 ·rcases h.any hi hk with ⟨h1, h2⟩ | ⟨_, h1⟩ | ⟨_, h1⟩
  ·have := h.hi h1 h2; omega
  ·omega
  ·rw [h1]; simp only [free]; omega
theorem okR_iff {b : Bds} {a c : Nat} {w : Int} : okR b ((a : Int), (c : Int), w) = true ↔ 0 ≤ gt b c a + w := by
 simp only [okR, Int.toNat_natCast, Bool.not_eq_true', decide_eq_false_iff_not]
 omega
theorem gt_put {b : Bds} {a c : Nat} {w : Int} {i k : Nat} (hi : i < 27) (hk : k < 27) : gt (putR b ((a : Int), (c : Int), w)) i k = if gt b a c ≤ w then gt b i k else newAt b a c w i k := by
 simp only [putR, Int.toNat_natCast, Bool.cond_eq_ite, decide_eq_true_eq]
 split
 ·rfl
 ·exact gt_table _ hi hk
theorem sh_put {b : Bds} (h : Sh b) (r : Rule) : Sh (putR b r) := by
 simp only [putR, Bool.cond_eq_ite]
 split
 ·exact h
 ·exact sh_table _
theorem newAt_in {b : Bds} {a c : Nat} {w : Int} {i k : Nat} (h1 : gt b i a < free) (h2 : gt b c k < free) : newAt b a c w i k = min (gt b i k) (gt b i a + w + gt b c k) := by
 rw [newAt, decide_eq_true h1, decide_eq_true h2]; rfl
theorem newAt_out1 {b : Bds} {a c : Nat} {w : Int} {i k : Nat} (h1 : gt b i a = free) : newAt b a c w i k = gt b i k := by
 rw [newAt, decide_eq_false (by rw [h1]; exact Int.lt_irrefl _)]; rfl
theorem newAt_out2 {b : Bds} {a c : Nat} {w : Int} {i k : Nat} (h1 : gt b c k = free) : newAt b a c w i k = gt b i k := by
 rw [newAt, decide_eq_false (p := gt b c k < free) (by rw [h1]; exact Int.lt_irrefl _), Bool.and_false]; rfl
theorem put_in {S : Nat → Prop} {b : Bds} (h : Inv S b) {a c : Nat} (ha : S a) (hc : S c) {w : Int} (hok : 0 ≤ gt b c a + w) :
  Inv S (putR b ((a : Int), (c : Int), w)) ∧ ∀ i k, S i → S k → gt (putR b ((a : Int), (c : Int), w)) i k = min (gt b i k) (gt b i a + w + gt b c k) := by
 have ha27 := h.lt a ha
 have hc27 := h.lt c hc
 have key : ∀ i k, S i → S k → gt (putR b ((a : Int), (c : Int), w)) i k = min (gt b i k) (gt b i a + w + gt b c k) := by
  intro i k hi hk
  rw [gt_put (h.lt i hi) (h.lt k hk)]
  split
  ·have := h.tri i a k hi ha hk
   have := h.tri a c k ha hc hk
   omega
  ·have := h.hi hi ha
   have := h.hi hc hk
   exact newAt_in (by simp only [free]; omega) (by simp only [free]; omega)
 have same : ∀ i k, i < 27 → k < 27 → ¬ (S i ∧ S k) → gt (putR b ((a : Int), (c : Int), w)) i k = gt b i k := by
  intro i k hi hk hn
  rw [gt_put hi hk]
  split
  ·rfl
  ·by_cases hSi : S i
   ·have hSk : ¬ S k := fun hk => hn ⟨hSi, hk⟩
    exact newAt_out2 (h.out c k hc27 hk (fun e => hSk (e ▸ hc)) fun hh => hSk hh.2)
   ·exact newAt_out1 (h.out i a hi ha27 (fun e => hSi (e ▸ ha)) fun hh => hSi hh.1)
 refine ⟨⟨sh_put h.sh _, h.s0, h.lt, ?_, ?_, ?_, ?_, ?_⟩, key⟩
 ·intro i hi
  by_cases hs : S i
  ·rw [key i i hs hs]
   have := h.dg i hi
   have := h.tri c i a hc hs ha
   omega
  ·rw [same i i hi hi fun hh => hs hh.1]; exact h.dg i hi
 ·intro i k hi hk hne hn
  rw [same i k hi hk hn]; exact h.out i k hi hk hne hn
 ·intro i hi
  rw [key i 0 hi h.s0]
  have := h.up i hi
  omega
 ·intro k hk
  rw [key 0 k h.s0 hk]
  have := h.dn k hk
  omega
 ·intro i j k hi hj hk
  rw [key i j hi hj, key j k hj hk, key i k hi hk]
  have h1 := h.tri i j k hi hj hk
  have h2 := h.tri i j a hi hj ha
  have h3 := h.tri c j k hc hj hk
  have h4 := h.tri c j a hc hj ha
  omega
theorem put_le {S : Nat → Prop} {b : Bds} (h : Inv S b) {a c : Nat} (ha : S a) (hc : S c) {w : Int} (hok : 0 ≤ gt b c a + w) : gt (putR b ((a : Int), (c : Int), w)) a c ≤ w := by
 rw [(put_in h ha hc hok).2 a c ha hc]
 have := h.dg a (h.lt a ha)
 have := h.dg c (h.lt c hc)
 omega
theorem enterL_append {l' : List Rule} : ∀ {l : List Rule} {b : Bds}, enterL b (l ++ l') = (enterL b l).bind fun b' => enterL b' l'
 | [], b => rfl
 | r :: l, b => by
  rw [List.cons_append, enterL, enterL]
  cases okR b r with
  | true => exact enterL_append
  | false => rfl
theorem enterP_append {l' : List Rule} : ∀ {l : List Rule} {b : Bds}, enterP b l → (∀ b', enterL b l = some b' → enterP b' l') → enterP b (l ++ l')
 | [], b, _, h => h b rfl
 | r :: l, b, ⟨h1, h2, h3⟩, h => ⟨h1, h2, fun hok => enterP_append (h3 hok) fun b' hb => h b' (by rw [enterL, hok]; exact hb)⟩
theorem enterP_right {l' : List Rule} : ∀ {l : List Rule} {b b' : Bds}, enterP b (l ++ l') → enterL b l = some b' → enterP b' l'
 | [], b, b', h, he => by cases he; exact h
 | r :: l, b, b', ⟨_, _, h3⟩, he => by
  rw [enterL, Bool.cond_eq_ite] at he
  split at he
  ·rename_i hok; exact enterP_right (h3 hok) he
  ·cases he
theorem enterP_left {l' : List Rule} : ∀ {l : List Rule} {b : Bds}, enterP b (l ++ l') → enterP b l
 | [], b, h => trivial
 | r :: l, b, ⟨h1, h2, h3⟩ => ⟨h1, h2, fun hok => enterP_left (h3 hok)⟩
def Among (S : Nat → Prop) (r : Rule) : Prop := ∃ a c : Nat, r = ((a : Int), (c : Int), r.2.2) ∧ S a ∧ S c ∧ -16777216 ≤ r.2.2 ∧ r.2.2 ≤ 16777216
theorem Among.ok {S : Nat → Prop} {r : Rule} (hlt : ∀ i, S i → i < 27) (h : Among S r) : RuleOk r := by
 obtain ⟨a, c, e, ha, hc, h1, h2⟩ := h
 have := hlt a ha
 have := hlt c hc
 rw [e]
 refine ⟨⟨?_, ?_⟩, ⟨?_, ?_⟩, ?_, ?_⟩ <;> simp only <;> omega
theorem enter_in {S : Nat → Prop} : ∀ {l : List Rule} {b : Bds}, Inv S b → (∀ r ∈ l, Among S r) → enterP b l ∧ ∀ b', enterL b l = some b' → Inv S b' ∧ ∀ i k, S i → S k → gt b' i k ≤ gt b i k
 | [], b, h, _ => ⟨trivial, fun b' e => by cases e; exact ⟨h, fun _ _ _ _ => Int.le_refl _⟩⟩
 | r :: l, b, h, hl => by
  have hr := hl r List.mem_cons_self
  have hok := hr.ok h.lt
  obtain ⟨a, c, e, ha, hc, _⟩ := hr
  have step : okR b r = true → Inv S (putR b r) ∧ ∀ i k, S i → S k → gt (putR b r) i k ≤ gt b i k := by
   intro ho
   rw [e] at ho ⊢
   obtain ⟨h1, h2⟩ := put_in h ha hc (okR_iff.1 ho)
   exact ⟨h1, fun i k hi hk => by rw [h2 i k hi hk]; omega⟩
  refine ⟨⟨h.small, hok, fun ho => (enter_in (step ho).1 fun r hr => hl r (List.mem_cons_of_mem _ hr)).1⟩, fun b' he => ?_⟩
  rw [enterL, Bool.cond_eq_ite] at he
  split at he
  ·rename_i ho
   obtain ⟨h1, h2⟩ := (enter_in (step ho).1 fun r hr => hl r (List.mem_cons_of_mem _ hr)).2 b' he
   exact ⟨h1, fun i k hi hk => Int.le_trans (h2 i k hi hk) ((step ho).2 i k hi hk)⟩
  ·cases he
theorem intro_pt {S : Nat → Prop} {b : Bds} (h : Inv S b) {p q : Nat} (hp : p < 27) (hn : ¬ S p) (hq : S q) {U L : Int} (h1 : 0 ≤ L) (h2 : L ≤ U) (h3 : U ≤ 16777216) (hup : U + gt b q 0 ≤ 16777216) :
  enterP b [((p : Int), (q : Int), U), ((q : Int), (p : Int), -L)] ∧ ∃ b', enterL b [((p : Int), (q : Int), U), ((q : Int), (p : Int), -L)] = some b' ∧ Inv (fun x => S x ∨ x = p) b' ∧
   gt b' p 0 = U + gt b q 0 ∧ ∀ i k, S i → S k → gt b' i k = gt b i k := by
 have hq27 := h.lt q hq
 have hqp : q ≠ p := fun e => hn (e ▸ hq)
 have hfree : ∀ i k, i < 27 → k < 27 → i ≠ k → ¬ (S i ∧ S k) → gt b i k = free := h.out
 have ok1 : okR b ((p : Int), (q : Int), U) = true := by
  rw [okR_iff, h.out q p hq27 hp hqp fun hh => hn hh.2]; simp only [free]; omega
 have nle1 : ¬ gt b p q ≤ U := by
  rw [h.out p q hp hq27 (Ne.symm hqp) fun hh => hn hh.1]; simp only [free]; omega
 obtain ⟨b1, hb1⟩ : ∃ b1, b1 = putR b ((p : Int), (q : Int), U) := ⟨_, rfl⟩
 have sh1 : Sh b1 := by rw [hb1]; exact sh_put h.sh _
 have g1 : ∀ i k, i < 27 → k < 27 → gt b1 i k = newAt b p q U i k := by
  intro i k hi hk
  rw [hb1, gt_put hi hk, if_neg nle1]
 have g1p : ∀ k, S k → gt b1 p k = U + gt b q k := by
  intro k hk
  have hk27 := h.lt k hk
  have hpk : p ≠ k := fun e => hn (e ▸ hk)
  have hh := h.hi hq hk
  have hl := h.lo hq hk
  rw [g1 p k hp hk27, newAt_in (by rw [h.dg p hp]; simp only [free]; omega) (by simp only [free]; omega), h.dg p hp, h.out p k hp hk27 hpk fun x => hn x.1]
  simp only [free]; omega
 have g1o : ∀ i k, i < 27 → k < 27 → (i ≠ p ∨ ¬ S k) → gt b1 i k = gt b i k := by
  intro i k hi hk ho
  rw [g1 i k hi hk]
  by_cases e : i = p
  ·have hk' : ¬ S k := ho.resolve_left fun x => x e
   exact newAt_out2 (h.out q k hq27 hk (fun e' => hk' (e' ▸ hq)) fun x => hk' x.2)
  ·exact newAt_out1 (h.out i p hi hp e fun x => hn x.2)
 have small1 : Small b1 := by
  refine ⟨sh1.len, sh1.row, fun i k hi hk => ?_, fun i k hi hk => ?_⟩
  ·by_cases hh : i = p ∧ S k
   ·rw [hh.1, g1p k hh.2]
    have := h.lo hq hh.2
    omega
   ·rw [g1o i k hi hk (by by_cases e : i = p; exact .inr fun x => hh ⟨e, x⟩; exact .inl e)]
    exact h.small.low i k hi hk
  ·by_cases hh : i = p ∧ S k
   ·rw [hh.1, g1p k hh.2]
    have := h.hi hq hh.2
    omega
   ·rw [g1o i k hi hk (by by_cases e : i = p; exact .inr fun x => hh ⟨e, x⟩; exact .inl e)]
    exact h.small.high i k hi hk
 have hqq := h.dg q hq27
 have ok2 : okR b1 ((q : Int), (p : Int), -L) = true := by
  rw [okR_iff, g1p q hq]; omega
 have nle2 : ¬ gt b1 q p ≤ -L := by
  rw [g1o q p hq27 hp (.inl hqp), h.out q p hq27 hp hqp fun hh => hn hh.2]; simp only [free]; omega
 obtain ⟨b2, hb2⟩ : ∃ b2, b2 = putR b1 ((q : Int), (p : Int), -L) := ⟨_, rfl⟩
 have g2 : ∀ i k, i < 27 → k < 27 → gt b2 i k = newAt b1 q p (-L) i k := by
  intro i k hi hk
  rw [hb2, gt_put hi hk, if_neg nle2]
 have lt2 : ∀ i, S i ∨ i = p → i < 27 := fun i hi => hi.elim (h.lt i) (fun e => e ▸ hp)
 have xq : ∀ i, S i → gt b1 i q = gt b i q := fun i hi => g1o i q (h.lt i hi) hq27 (.inl fun e => hn (e ▸ hi))
 have pp1 : gt b1 p p = 0 := by rw [g1o p p hp hp (.inr hn)]; exact h.dg p hp
 have s2 : ∀ i k, S i → S k → gt b2 i k = gt b i k := by
  intro i k hi hk
  have a1 := h.hi hi hq
  have a2 := h.hi hq hk
  have a3 := h.tri i q k hi hq hk
  rw [g2 i k (h.lt i hi) (h.lt k hk), newAt_in (by rw [xq i hi]; simp only [free]; omega) (by rw [g1p k hk]; simp only [free]; omega), xq i hi, g1p k hk, g1o i k (h.lt i hi) (h.lt k hk) (.inl fun e => hn (e ▸ hi))]
  omega
 have s2p : ∀ i, S i → gt b2 i p = gt b i q - L := by
  intro i hi
  have hip : i ≠ p := fun e => hn (e ▸ hi)
  have a1 := h.hi hi hq
  rw [g2 i p (h.lt i hi) hp, newAt_in (by rw [xq i hi]; simp only [free]; omega) (by rw [pp1]; simp only [free]; omega), xq i hi, pp1, g1o i p (h.lt i hi) hp (.inl hip), h.out i p (h.lt i hi) hp hip fun x => hn x.2]
  simp only [free]; omega
 have p2 : ∀ k, S k → gt b2 p k = U + gt b q k := by
  intro k hk
  have a2 := h.hi hq hk
  rw [g2 p k hp (h.lt k hk), newAt_in (by rw [g1p q hq]; simp only [free]; omega) (by rw [g1p k hk]; simp only [free]; omega), g1p q hq, g1p k hk]
  omega
 have pp2 : gt b2 p p = 0 := by
  rw [g2 p p hp hp, newAt_in (by rw [g1p q hq]; simp only [free]; omega) (by rw [pp1]; simp only [free]; omega), g1p q hq, pp1]
  omega
 have o2 : ∀ i k, i < 27 → k < 27 → ¬ ((S i ∨ i = p) ∧ (S k ∨ k = p)) → gt b2 i k = gt b i k := by
  intro i k hi hk hh
  rw [g2 i k hi hk]
  by_cases hi' : S i ∨ i = p
  ·have hk' : ¬ (S k ∨ k = p) := fun x => hh ⟨hi', x⟩
   have hpk : p ≠ k := fun e => hk' (.inr e.symm)
   have hSk : ¬ S k := fun x => hk' (.inl x)
   rw [newAt_out2 (by rw [g1o p k hp hk (.inr hSk)]; exact h.out p k hp hk hpk fun x => hSk x.2)]
   exact g1o i k hi hk (.inr hSk)
  ·have hip : i ≠ p := fun e => hi' (.inr e)
   have hSi : ¬ S i := fun x => hi' (.inl x)
   rw [newAt_out1 (by rw [g1o i q hi hq27 (.inl hip)]; exact h.out i q hi hq27 (fun e => hSi (e ▸ hq)) fun x => hSi x.1)]
   exact g1o i k hi hk (.inl hip)
 have wo : RuleOk ((p : Int), (q : Int), U) ∧ RuleOk ((q : Int), (p : Int), -L) := by
  refine ⟨⟨⟨?_, ?_⟩, ⟨?_, ?_⟩, ?_, ?_⟩, ⟨?_, ?_⟩, ⟨?_, ?_⟩, ?_, ?_⟩ <;> simp only <;> omega
 refine ⟨⟨h.small, wo.1, fun _ => ⟨by rw [← hb1]; exact small1, wo.2, fun _ => trivial⟩⟩, b2, ?_, ⟨?_, .inl h.s0, lt2, ?_, ?_, ?_, ?_, ?_⟩, p2 0 h.s0, s2⟩
 ·rw [enterL, ok1, cond_true, ← hb1, enterL, ok2, cond_true, ← hb2]; rfl
 ·rw [hb2]; exact sh_put sh1 _
 ·intro i hi
  by_cases hs : S i
  ·rw [s2 i i hs hs]; exact h.dg i hi
  ·by_cases e : i = p
   ·rw [e]; exact pp2
   ·rw [o2 i i hi hi fun x => x.1.elim hs e]; exact h.dg i hi
 ·intro i k hi hk hne hh
  rw [o2 i k hi hk hh]
  exact h.out i k hi hk hne fun x => hh ⟨.inl x.1, .inl x.2⟩
 ·rintro i (hi | rfl)
  ·rw [s2 i 0 hi h.s0]; exact h.up i hi
  ·rw [p2 0 h.s0]; exact hup
 ·rintro k (hk | rfl)
  ·rw [s2 0 k h.s0 hk]; exact h.dn k hk
  ·rw [s2p 0 h.s0]
   have := h.dn q hq
   omega
 ·rintro i j k (hi | rfl) (hj | rfl) (hk | rfl)
  ·rw [s2 i k hi hk, s2 i j hi hj, s2 j k hj hk]; exact h.tri i j k hi hj hk
  ·rw [s2p i hi, s2 i j hi hj, s2p j hj]
   have := h.tri i j q hi hj hq
   omega
  ·rw [s2 i k hi hk, s2p i hi, p2 k hk]
   have := h.tri i q k hi hq hk
   omega
  ·rw [s2p i hi, pp2]; omega
  ·rw [p2 k hk, p2 j hj, s2 j k hj hk]
   have := h.tri q j k hq hj hk
   omega
  ·rw [pp2, p2 j hj, s2p j hj]
   have := h.tri q j q hq hj hq
   omega
  ·rw [p2 k hk, pp2]; omega
  ·rw [pp2]; omega
end Go.Fade
