/-
  The symbolic layer, part 21: regions that draw their order.
-/
import Derived.Test.YtlkegffejcndbaaSxK
set_option linter.all false
namespace Go.Sx

structure Dat where
  o : Oper
  g : List (Nat × Bool)
  e : Eff

/-- The state behind some of the operations, in their order. -/
def st (D : Nat → Bool) : Nat → List Dat → ASt → ASt
  | _, [], s => s
  | k, d :: r, s => st D (k + 1) r (if D k = true then s.app d.o.dst d.g d.e else s)

theorem app_env {s : ASt} {d : Option Nat} {g : List (Nat × Bool)} {e : Eff} (t : Nat) : (s.app d g e).env t = if d = some t then ⟨g, e.av⟩ else s.env t := by
  unfold ASt.app
  cases d with
  | none => rfl
  | some d =>
    by_cases h : d = t
    · subst h; simp [put_same]
    · simp only [Option.some.injEq, if_neg h]
      exact put_other _ _ (Ne.symm h)
theorem puts_in {α : Type} {f f' : Nat → α} {x : Nat} : ∀ {r : List (Nat × α)}, x ∈ r.map (·.1) → puts f r x = puts f' r x
  | (k, v) :: r, h => by
    by_cases hk : x = k
    · subst hk; simp only [puts, put_same]
    · simp only [puts, put_other _ _ hk]
      exact puts_in ((List.mem_cons.1 h).resolve_left hk)
theorem puts_out {α : Type} {f : Nat → α} {x : Nat} {r : List (Nat × α)} (h : x ∉ r.map (·.1)) : puts f r x = f x :=
  puts_other fun y hy e => h (e ▸ List.mem_map_of_mem hy)
theorem app_obs {s : ASt} {d : Option Nat} {g : List (Nat × Bool)} {e : Eff} (x : Nat) : (s.app d g e).obs x = puts s.obs (e.wr.map fun x => (x.1, some x.2)) x := rfl
theorem keys_wr (l : List (Nat × Option Ob)) : (l.map fun x => (x.1, some x.2)).map (·.1) = l.map (·.1) := by
  rw [List.map_map]; rfl

theorem st_env {D D' : Nat → Bool} {t : Nat} : ∀ {ds : List Dat} {k : Nat} {s s' : ASt}, (∀ j d, ds[j]? = some d → d.o.dst = some t → D (k + j) = D' (k + j)) → s.env t = s'.env t → (st D k ds s).env t = (st D' k ds s').env t
  | [], _, _, _, _, h => h
  | d :: r, k, s, s', hD, h => by
    simp only [st]
    refine st_env (fun j d' hj hd' => ?_) ?_
    · have := hD (j + 1) d' (by simpa using hj) hd'
      rwa [show k + (j + 1) = k + 1 + j by omega] at this
    · by_cases hd : d.o.dst = some t
      · have := hD 0 d rfl hd
        rw [Nat.add_zero] at this
        rw [this]
        split
        · simp only [app_env, hd, if_true]
        · exact h
      · have e1 : ∀ (b : Bool) (s : ASt), (if b = true then s.app d.o.dst d.g d.e else s).env t = s.env t := fun b s => by
          split
          · rw [app_env, if_neg hd]
          · rfl
        rw [e1, e1]; exact h
theorem st_obs {D D' : Nat → Bool} {x : Nat} : ∀ {ds : List Dat} {k : Nat} {s s' : ASt}, (∀ j d, ds[j]? = some d → x ∈ d.e.wr.map (·.1) → D (k + j) = D' (k + j)) → s.obs x = s'.obs x → (st D k ds s).obs x = (st D' k ds s').obs x
  | [], _, _, _, _, h => h
  | d :: r, k, s, s', hD, h => by
    simp only [st]
    refine st_obs (fun j d' hj hd' => ?_) ?_
    · have := hD (j + 1) d' (by simpa using hj) hd'
      rwa [show k + (j + 1) = k + 1 + j by omega] at this
    · by_cases hd : x ∈ d.e.wr.map (·.1)
      · have := hD 0 d rfl hd
        rw [Nat.add_zero] at this
        rw [this]
        split
        · rw [app_obs, app_obs]
          exact puts_in (by rw [keys_wr]; exact hd)
        · exact h
      · have e1 : ∀ (b : Bool) (s : ASt), (if b = true then s.app d.o.dst d.g d.e else s).obs x = s.obs x := fun b s => by
          split
          · rw [app_obs, puts_out (by rw [keys_wr]; exact hd)]
          · rfl
        rw [e1, e1]; exact h
/-- Nothing of it: the state before. -/
theorem st_none {D : Nat → Bool} : ∀ {ds : List Dat} {k : Nat} {s : ASt}, (∀ j, j < ds.length → D (k + j) = false) → st D k ds s = s
  | [], _, _, _ => rfl
  | d :: r, k, s, h => by
    have h0 := h 0 (by simp)
    rw [Nat.add_zero] at h0
    simp only [st, h0]
    exact st_none fun j hj => by
      have := h (j + 1) (by simp; omega)
      rwa [show k + (j + 1) = k + 1 + j by omega] at this
theorem st_shift {D : Nat → Bool} : ∀ {ds : List Dat} {k : Nat} {s : ASt}, st D (k + 1) ds s = st (fun j => D (j + 1)) k ds s
  | [], _, _ => rfl
  | d :: r, k, s => by simp only [st]; exact st_shift
theorem st_congr {D D' : Nat → Bool} : ∀ {ds : List Dat} {k : Nat} {s : ASt}, (∀ j, j < ds.length → D (k + j) = D' (k + j)) → st D k ds s = st D' k ds s
  | [], _, _, _ => rfl
  | d :: r, k, s, h => by
    have h0 := h 0 (by simp)
    rw [Nat.add_zero] at h0
    simp only [st, h0]
    exact st_congr fun j hj => by
      have := h (j + 1) (by simp; omega)
      rwa [show k + (j + 1) = k + 1 + j by omega] at this

section
variable {cx : Cx} {ops : Array Oper}
/-- The operations as the run found them. -/
def Ran (cx : Cx) (ops : Array Oper) : List Dat → List Foot → ASt → Prop
  | [], [], _ => True
  | d :: r, f :: fs, s => (chain s ops d.o = some d.g ∧ eff cx s d.g d.o = some d.e ∧ (d.g ≠ [] → d.e.wr = []) ∧ (∀ x, d.o.dst = some x → x < cx.nt) ∧ f = ⟨d.g.map (·.1), opIds cx s d.g d.o, d.e.wr.map (·.1)⟩ ∧
      ∀ p, d.e.obl = some p → (∀ c, gCond s d.g = some c → c) → p) ∧ Ran cx ops r fs (s.app d.o.dst d.g d.e)
  | _, _, _ => False

theorem ran_of : ∀ {l : List Oper} {s : ASt} {R : Run}, runOps cx ops l s = some R → (∀ p ∈ R.obls, p) → ∃ ds, ds.map (·.o) = l ∧ Ran cx ops ds R.feet s ∧ R.s = st (fun _ => true) 0 ds s
  | [], s, R, h, _ => by
    simp only [runOps, Option.some.injEq] at h
    subst h
    exact ⟨[], rfl, trivial, rfl⟩
  | o :: l, s, R, h, hall => by
    obtain ⟨g, e, R', h1, h2, h3, h4, h5, h6, h7, h8, h9⟩ := runOps_cons h
    obtain ⟨ds, d1, d2, d3⟩ := ran_of h5 fun p hp => hall p (h8 p hp)
    refine ⟨⟨o, g, e⟩ :: ds, by simp [d1], ?_, ?_⟩
    · rw [h7]
      exact ⟨⟨h1, h2, h3, h4, rfl, fun p hp hc => h9 p hp hall hc⟩, d2⟩
    · rw [h6, d3]
      simp only [st, if_true]
      rw [st_shift]

theorem ran_get : ∀ {ds : List Dat} {fs : List Foot} {s : ASt}, Ran cx ops ds fs s → ∀ {i : Nat} {d : Dat}, ds[i]? = some d → ∃ f, fs[i]? = some f ∧
    (chain (st (fun j => decide (j < i)) 0 ds s) ops d.o = some d.g ∧ eff cx (st (fun j => decide (j < i)) 0 ds s) d.g d.o = some d.e ∧ (d.g ≠ [] → d.e.wr = []) ∧ (∀ x, d.o.dst = some x → x < cx.nt) ∧
      f = ⟨d.g.map (·.1), opIds cx (st (fun j => decide (j < i)) 0 ds s) d.g d.o, d.e.wr.map (·.1)⟩ ∧
      ∀ p, d.e.obl = some p → (∀ c, gCond (st (fun j => decide (j < i)) 0 ds s) d.g = some c → c) → p)
  | [], [], _, _, i, d, h => by simp at h
  | d₀ :: r, f :: fs, s, hr, 0, d, h => by
    simp only [List.getElem?_cons_zero, Option.some.injEq] at h
    subst h
    refine ⟨f, rfl, ?_⟩
    rw [st_none (fun j _ => by simp)]
    exact hr.1
  | d₀ :: r, f :: fs, s, hr, i + 1, d, h => by
    obtain ⟨f', h1, h2⟩ := ran_get hr.2 (i := i) (d := d) (by simpa using h)
    refine ⟨f', by simpa using h1, ?_⟩
    have e1 : st (fun j => decide (j < i + 1)) 0 (d₀ :: r) s = st (fun j => decide (j < i)) 0 r (s.app d₀.o.dst d₀.g d₀.e) := by
      simp only [st]
      rw [if_pos (by simp), st_shift]
      exact st_congr fun j _ => by simp
    rw [e1]
    exact h2
  | [], _ :: _, _, hr, _, _, _ => hr.elim
  | _ :: _, [], _, hr, _, _, _ => hr.elim

/-- A last writer's word. -/
theorem st_env_at {D : Nat → Bool} {t : Nat} : ∀ {ds : List Dat} {k i : Nat} {d : Dat} {s : ASt}, ds[i]? = some d → D (k + i) = true → d.o.dst = some t → (∀ j d', i < j → ds[j]? = some d' → d'.o.dst = some t → D (k + j) = false) → (st D k ds s).env t = ⟨d.g, d.e.av⟩
  | d₀ :: r, k, 0, d, s, h, hD, hd, hl => by
    simp only [List.getElem?_cons_zero, Option.some.injEq] at h
    subst h
    rw [Nat.add_zero] at hD
    simp only [st, hD, if_true]
    rw [st_env (D' := fun _ => false) (s' := s.app d₀.o.dst d₀.g d₀.e) (fun j d' hj hd' => by
      have := hl (j + 1) d' (by omega) (by simpa using hj) hd'
      rwa [show k + (j + 1) = k + 1 + j by omega] at this) rfl, st_none (fun _ _ => rfl), app_env, if_pos hd]
  | d₀ :: r, k, i + 1, d, s, h, hD, hd, hl => by
    simp only [st]
    exact st_env_at (i := i) (by simpa using h) (by rwa [show k + 1 + i = k + (i + 1) by omega]) hd fun j d' hj hj' hd' => by
      have := hl (j + 1) d' (by omega) (by simpa using hj') hd'
      rwa [show k + (j + 1) = k + 1 + j by omega] at this
  | [], _, i, _, _, h, _, _, _ => by simp at h
theorem st_obs_at {D : Nat → Bool} {x : Nat} : ∀ {ds : List Dat} {k i : Nat} {d : Dat} {s : ASt} (s₁ : ASt), ds[i]? = some d → D (k + i) = true → x ∈ d.e.wr.map (·.1) → (∀ j d', i < j → ds[j]? = some d' → x ∈ d'.e.wr.map (·.1) → D (k + j) = false) → (st D k ds s).obs x = (s₁.app d.o.dst d.g d.e).obs x
  | d₀ :: r, k, 0, d, s, s₁, h, hD, hd, hl => by
    simp only [List.getElem?_cons_zero, Option.some.injEq] at h
    subst h
    rw [Nat.add_zero] at hD
    simp only [st, hD, if_true]
    rw [st_obs (D' := fun _ => false) (s' := s.app d₀.o.dst d₀.g d₀.e) (fun j d' hj hd' => by
      have := hl (j + 1) d' (by omega) (by simpa using hj) hd'
      rwa [show k + (j + 1) = k + 1 + j by omega] at this) rfl, st_none (fun _ _ => rfl), app_obs, app_obs]
    exact puts_in (by rw [keys_wr]; exact hd)
  | d₀ :: r, k, i + 1, d, s, s₁, h, hD, hd, hl => by
    simp only [st]
    exact st_obs_at (i := i) s₁ (by simpa using h) (by rwa [show k + 1 + i = k + (i + 1) by omega]) hd fun j d' hj hj' hd' => by
      have := hl (j + 1) d' (by omega) (by simpa using hj') hd'
      rwa [show k + (j + 1) = k + 1 + j by omega] at this
  | [], _, i, _, _, _, h, _, _, _ => by simp at h

/-! ### Who is before whom -/
def Cl (ops : Array Oper) (D : Nat → Prop) (j : Nat) : Prop := ∀ o, ops[j]? = some o → ∀ e ∈ o.after, Region.binds .any e = true → D e.on

theorem preds_bit {o : Oper} {acc : List Nat} {i : Nat} (h : (preds o acc).testBit i = true) : ∃ e ∈ o.after, Region.binds .any e = true ∧ (i = e.on ∨ (acc.getD e.on 0).testBit i = true) := by
  have key : ∀ (l : List Edge) (s : Nat), (l.foldl (fun s e => if Region.binds .any e then s ||| 2 ^ e.on ||| acc.getD e.on 0 else s) s).testBit i = true → s.testBit i = true ∨ ∃ e ∈ l, Region.binds .any e = true ∧ (i = e.on ∨ (acc.getD e.on 0).testBit i = true) := by
    intro l
    induction l with
    | nil => intro s h; exact .inl h
    | cons e l ih =>
      intro s h
      rcases ih _ h with h | ⟨e', he', h⟩
      · simp only [] at h
        split at h
        · rename_i hb
          simp only [Nat.testBit_or, Bool.or_eq_true, Nat.testBit_two_pow] at h
          rcases h with (h | h) | h
          · exact .inl h
          · exact .inr ⟨e, List.mem_cons_self, hb, .inl (by simpa using (by simpa using h : e.on = i).symm)⟩
          · exact .inr ⟨e, List.mem_cons_self, hb, .inr h⟩
        · exact .inl h
      · exact .inr ⟨e', List.mem_cons_of_mem _ he', h⟩
  rcases key _ _ h with h | ⟨e, he, h⟩
  · simp at h
  · exact ⟨e, Array.mem_toList_iff.1 he, h⟩

theorem bef_good {D : Nat → Prop} (hcl : ∀ j, D j → Cl ops D j) : ∀ {l : List Oper} {acc : List Nat}, (∀ j, l[j]? = ops[acc.length + j]?) → (∀ j, Cl ops D j → ∀ i, (acc.getD j 0).testBit i = true → D i) → ∀ j, Cl ops D j → ∀ i, ((befL l acc).getD j 0).testBit i = true → D i
  | [], _, _, h => h
  | o :: l, acc, hl, h => by
    refine bef_good hcl (l := l) (fun j => ?_) (fun j hj i hi => ?_)
    · have := hl (j + 1)
      simp only [List.getElem?_cons_succ] at this
      rw [this]; simp; congr 1; omega
    · by_cases hlt : j < acc.length
      · rw [show (acc ++ [preds o acc]).getD j 0 = acc.getD j 0 by simp [List.getD, List.getElem?_append_left hlt]] at hi
        exact h j hj i hi
      · by_cases he : j = acc.length
        · subst he
          have : (acc ++ [preds o acc]).getD acc.length 0 = preds o acc := by simp [List.getD]
          rw [this] at hi
          obtain ⟨e, he, hb, hi⟩ := preds_bit hi
          have ho : ops[acc.length]? = some o := by have := hl 0; simpa using this.symm
          have hD := hj o ho e he hb
          rcases hi with rfl | hi
          · exact hD
          · exact h _ (hcl _ hD) i hi
        · have : (acc ++ [preds o acc]).getD j 0 = 0 := by
            rw [List.getD_eq_getElem?_getD, List.getElem?_eq_none (by simp; omega)]; rfl
          rw [this] at hi
          simp at hi

theorem disj_not {a b : List Nat} (h : disj a b = true) {x : Nat} (h1 : x ∈ a) (h2 : x ∈ b) : False := by
  simp only [disj, List.all_eq_true, Bool.not_eq_true'] at h
  have := h x h1
  rw [memN_iff.2 h2] at this; cases this

/-- What the check of the order says. -/
structure DrawF (ops : Array Oper) (ts : List Touch) : Prop where
  guard : ∀ j i b, guardAt ops j = some (i, b) → ((befL ops.toList []).getD j 0).testBit i = true
  back : ∀ j o, ops[j]? = some o → ∀ e ∈ o.after, Region.binds .any e = true → e.on < j
  apart : ∀ i j, i < j → j < ops.size → ((befL ops.toList []).getD j 0).testBit i = true ∨ touchApart (ts.getD i ⟨[], [], [], []⟩) (ts.getD j ⟨[], [], [], []⟩) = true

theorem drawF_of {feet : List Foot} (h : drawOk ops feet = true) : DrawF ops ((ops.toList.zip feet).map fun x => touchOf x.1 x.2) := by
  unfold drawOk at h
  simp only [List.all_eq_true, List.mem_range, Bool.and_eq_true, Bool.or_eq_true] at h
  refine ⟨fun j i b hj => ?_, fun j o ho e he hb => ?_, fun i j hij hj => (h j hj).2 i hij⟩
  · have hlt : j < ops.size := by
      unfold guardAt at hj
      cases ho : ops[j]? with
      | none => rw [ho] at hj; cases hj
      | some _ => exact (Array.getElem?_eq_some_iff.1 ho).1
    have := (h j hlt).1.1
    rw [hj] at this
    exact this
  · have := (h j (Array.getElem?_eq_some_iff.1 ho).1).1.2
    rw [ho] at this
    simp only [List.all_eq_true, Bool.or_eq_true, Bool.not_eq_true'] at this
    rcases this e (Array.mem_toList_iff.2 he) with h1 | h1
    · rw [hb] at h1; cases h1
    · exact Nat.le_of_ble_eq_true h1

theorem filter_lt {α : Type} {p q : α → Bool} : ∀ {l : List α}, (∀ x, q x = true → p x = true) → (∃ x ∈ l, p x = true ∧ q x = false) → (l.filter q).length < (l.filter p).length
  | [], _, ⟨x, hx, _⟩ => by cases hx
  | a :: l, h, ⟨x, hx, h1, h2⟩ => by
    have hle : ∀ l : List α, (l.filter q).length ≤ (l.filter p).length := by
      intro l
      induction l with
      | nil => simp
      | cons b l ih =>
        simp only [List.filter_cons]
        by_cases hq : q b = true
        · rw [if_pos hq, if_pos (h b hq)]; simp; exact ih
        · rw [if_neg hq]
          split
          · simp; omega
          · exact ih
    rcases List.mem_cons.1 hx with rfl | hx
    · simp only [List.filter_cons, h1, h2, if_true]
      have := hle l
      simp
      omega
    · have ih := filter_lt (l := l) h ⟨x, hx, h1, h2⟩
      simp only [List.filter_cons]
      by_cases hq : q a = true
      · rw [if_pos hq, if_pos (h a hq)]; simp; exact ih
      · rw [if_neg hq]
        split
        · simp; omega
        · exact ih

variable {K : Ctx} {r : Option Nat} {n : Nat} {Q : Exit → Act → World → Prop}

theorem gCond_congr {s s' : ASt} : ∀ {g : List (Nat × Bool)}, (∀ x ∈ g, s'.env x.1 = s.env x.1) → gCond s' g = gCond s g
  | [], _ => rfl
  | (t, b) :: g, h => by
    simp only [gCond, gCond_congr (g := g) fun x hx => h x (List.mem_cons_of_mem _ hx)]
    rw [h (t, b) List.mem_cons_self]

theorem any_sound (hcx : CxOk K.P cx) (hnt : cx.nt = K.nt) (hfx : FixO K ops) (hgo : guardsOk ops = true) {s₀ : ASt} {ds : List Dat} {fs : List Foot} (hds : ds.map (·.o) = ops.toList) (hran : Ran cx ops ds fs s₀)
    (hdf : DrawF ops ((ops.toList.zip fs).map fun x => touchOf x.1 x.2)) (hQ : ∀ a' w' β', RelB K (st (fun _ => true) 0 ds s₀) a' w' β' → Q .normal a' w') :
    ∀ (fuel : Nat) (listed : Array Bool) (a : Act) (w : World) (β : Nat → Loc), listed.size = ops.size → ((List.range ops.size).filter fun j => !listed.getD j false).length ≤ fuel →
      (∀ j, listed.getD j false = true → Cl ops (fun k => listed.getD k false = true) j) → RelB K (st (fun j => listed.getD j false) 0 ds s₀) a w β → GInv ops (fun j => listed.getD j false = true) (st (fun j => listed.getD j false) 0 ds s₀) →
      wpAnyIn (FF r) n K.P .any ops Q fuel listed a w := by
  have hlen : ds.length = ops.size := by rw [← List.length_map (f := (·.o)), hds, Array.length_toList]
  have hat : ∀ (i : Nat) (d : Dat), ds[i]? = some d → ops[i]? = some d.o := by
    intro i d hd
    have : (ds.map (·.o))[i]? = some d.o := by rw [List.getElem?_map, hd]; rfl
    rw [hds] at this
    simpa using this
  have htouch : ∀ (i : Nat) (d : Dat) (f : Foot), ds[i]? = some d → fs[i]? = some f → ((ops.toList.zip fs).map fun x => touchOf x.1 x.2).getD i ⟨[], [], [], []⟩ = touchOf d.o f := by
    intro i d f hd hf
    have hz : (ops.toList.zip fs)[i]? = some (d.o, f) := List.getElem?_zip_eq_some.2 ⟨by simpa using hat i d hd, hf⟩
    rw [List.getD_eq_getElem?_getD, List.getElem?_map, hz]
    rfl
  intro fuel
  induction fuel with
  | zero =>
    intro listed a w β hsz hfu hcl h hG
    have hall : ∀ j, j < ops.size → listed.getD j false = true := by
      intro j hj
      have h0 := List.length_eq_zero_iff.1 (Nat.le_zero.1 hfu)
      by_cases hl : listed.getD j false = true
      · exact hl
      · have : j ∈ (List.range ops.size).filter fun j => !listed.getD j false := List.mem_filter.2 ⟨List.mem_range.2 hj, by simpa using hl⟩
        rw [h0] at this; cases this
    refine ⟨?_, ?_⟩
    · apply List.eq_nil_iff_forall_not_mem.2
      intro j hj
      obtain ⟨h0, o, ho, _⟩ := mem_ready.1 hj
      have hlt := (Array.getElem?_eq_some_iff.1 ho).1
      have := hall j hlt
      simp only [Array.getD_eq_getD_getElem?] at h0 this
      rw [Array.getElem?_eq_getElem (by omega)] at h0 this
      simp at h0 this
      rw [h0] at this; cases this
    · refine hQ a w β ?_
      rw [← st_congr (D := fun j => listed.getD j false) fun j hj => by rw [Nat.zero_add]; exact hall j (by omega)]
      exact h
  | succ fuel ih =>
    intro listed a w β hsz hfu hcl h hG
    refine ⟨fun hr => ?_, fun i hi => ?_⟩
    · refine hQ a w β ?_
      have hall : ∀ j, j < ops.size → listed.getD j false = true := by
        intro j
        induction j using Nat.strongRecOn with
        | _ j ihj =>
          intro hj
          by_cases hl : listed.getD j false = true
          · exact hl
          · exfalso
            have : j ∈ Region.ready .any ops listed := by
              refine mem_ready.2 ⟨?_, ops[j], Array.getElem?_eq_getElem hj, fun e he hb => ?_⟩
              · simp only [Array.getD_eq_getD_getElem?, Array.getElem?_eq_getElem (show j < listed.size by omega)] at hl ⊢
                simpa using hl
              · have hlt := hdf.back j _ (Array.getElem?_eq_getElem hj) e he hb
                exact ihj e.on hlt (by omega)
            rw [hr] at this; cases this
      rw [← st_congr (D := fun j => listed.getD j false) fun j hj => by rw [Nat.zero_add]; exact hall j (by omega)]
      exact h
    · obtain ⟨h0, o, ho, hpre⟩ := mem_ready.1 hi
      have hlt := (Array.getElem?_eq_some_iff.1 ho).1
      have hni : listed.getD i false = false := by
        simp only [Array.getD_eq_getD_getElem?, Array.getElem?_eq_getElem (show i < listed.size by omega)] at h0 ⊢
        simpa using h0
      have hcli : Cl ops (fun k => listed.getD k false = true) i := fun o' ho' e he hb => by
        rw [ho] at ho'; cases ho'
        exact hpre e he hb
      have hgood := bef_good hcl (l := ops.toList) (acc := []) (fun j => by simp) (fun j _ i hi => by simp at hi)
      obtain ⟨d, hd⟩ : ∃ d, ds[i]? = some d := ⟨_, List.getElem?_eq_getElem (show i < ds.length by omega)⟩
      have hdo : o = d.o := by have := hat i d hd; rw [ho] at this; exact Option.some.inj this
      subst hdo
      obtain ⟨f, hf, c1, c2, c3, c4, c5, c6⟩ := ran_get hran hd
      -- writers of what it touches
      have hwr : ∀ (j : Nat) (d' : Dat), ds[j]? = some d' → j ≠ i → (∃ f', fs[j]? = some f' ∧ touchApart (if j < i then touchOf d'.o f' else touchOf d.o f) (if j < i then touchOf d.o f else touchOf d'.o f') = true ∧ f'.wr = d'.e.wr.map (·.1)) ∨ listed.getD j false = decide (j < i) := by
        intro j d' hj hne
        obtain ⟨f', hf', _, _, _, _, k5, _⟩ := ran_get hran hj
        have hjl : j < ops.size := by have := (List.getElem?_eq_some_iff.1 hj).1; omega
        by_cases hji : j < i
        · rcases hdf.apart j i hji hlt with hb | hb
          · right
            rw [hgood i hcli j hb, decide_eq_true hji]
          · left
            rw [htouch j d' f' hj hf', htouch i d f hd hf] at hb
            exact ⟨f', hf', by rw [if_pos hji, if_pos hji]; exact hb, by rw [k5]⟩
        · rcases hdf.apart i j (by omega) hjl with hb | hb
          · right
            rw [decide_eq_false hji]
            cases hl : listed.getD j false with
            | false => rfl
            | true =>
              have := hgood j (hcl j hl) i hb
              rw [hni] at this; cases this
          · left
            rw [htouch i d f hd hf, htouch j d' f' hj hf'] at hb
            exact ⟨f', hf', by rw [if_neg hji, if_neg hji]; exact hb, by rw [k5]⟩
      have hap : ∀ {x y : Touch}, touchApart x y = true → disj x.dst y.uses = true ∧ disj y.dst x.uses = true ∧ disj x.dst y.dst = true ∧ disj x.wr y.rd = true ∧ disj x.wr y.wr = true ∧ disj y.wr x.rd = true := by
        intro x y hxy
        simpa only [touchApart, Bool.and_eq_true] using hxy
      have henv : ∀ t, (t ∈ d.g.map (·.1) ∨ t ∈ tmpsOf d.o.op.operands.toList) → (st (fun j => listed.getD j false) 0 ds s₀).env t = (st (fun j => decide (j < i)) 0 ds s₀).env t := by
        intro t ht
        refine st_env (fun j d' hj hd' => ?_) rfl
        rw [Nat.zero_add]
        by_cases hne : j = i
        · subst hne; rw [hni]; simp
        · rcases hwr j d' hj hne with ⟨f', _, hap', _⟩ | hq
          · exfalso
            have hu : t ∈ (touchOf d.o f).uses := by
              rw [c5]; simp only [touchOf, List.mem_append]; exact ht
            have hdd : t ∈ (touchOf d'.o f').dst := by simp [touchOf, hd']
            by_cases hji : j < i
            · rw [if_pos hji, if_pos hji] at hap'; exact disj_not (hap hap').1 hdd hu
            · rw [if_neg hji, if_neg hji] at hap'; exact disj_not (hap hap').2.1 hdd hu
          · exact hq
      have hobs : Same (st (fun j => decide (j < i)) 0 ds s₀) (st (fun j => listed.getD j false) 0 ds s₀) (opIds cx (st (fun j => decide (j < i)) 0 ds s₀) d.g d.o) := by
        intro x hx
        refine st_obs (fun j d' hj hd' => ?_) rfl
        rw [Nat.zero_add]
        by_cases hne : j = i
        · subst hne; rw [hni]; simp
        · rcases hwr j d' hj hne with ⟨f', _, hap', hw'⟩ | hq
          · exfalso
            have hu : x ∈ (touchOf d.o f).rd := by rw [c5]; exact hx
            have hdd : x ∈ (touchOf d'.o f').wr := by simp only [touchOf, hw']; exact hd'
            by_cases hji : j < i
            · rw [if_pos hji, if_pos hji] at hap'; exact disj_not (hap hap').2.2.2.1 hdd hu
            · rw [if_neg hji, if_neg hji] at hap'; exact disj_not (hap hap').2.2.2.2.2 hdd hu
          · exact hq
      have hch : chain (st (fun j => listed.getD j false) 0 ds s₀) ops d.o = some d.g := by
        rw [← c1]
        unfold chain
        cases hgd : d.o.guard with
        | none => rfl
        | some jb =>
          obtain ⟨j, b⟩ := jb
          simp only
          unfold chain at c1
          rw [hgd] at c1
          simp only at c1
          split at c1
          · rename_i t ht
            have htm : t ∈ d.g.map (·.1) := by
              split at c1
              · simp only [Option.some.injEq] at c1
                rw [← c1]; simp
              · cases c1
            rw [henv t (.inl htm)]
          · cases c1
      have hef : eff cx (st (fun j => listed.getD j false) 0 ds s₀) d.g d.o = some d.e := by
        rw [eff_congr (fun t ht => henv t (.inr ht)) hobs]; exact c2
      have hgc : gCond (st (fun j => listed.getD j false) 0 ds s₀) d.g = gCond (st (fun j => decide (j < i)) 0 ds s₀) d.g :=
        gCond_congr fun x hx => henv x.1 (.inl (List.mem_map_of_mem hx))
      have hDj : ∀ j b, guardAt ops i = some (j, b) → listed.getD j false = true := fun j b hj => hgood i hcli j (hdf.guard i j b hj)
      have hnew : ∀ j, (listed.setIfInBounds i true).getD j false = true ↔ (listed.getD j false = true ∨ j = i) := by
        intro j
        by_cases hji : j = i
        · subst hji
          simp [Array.getD_eq_getD_getElem?, hsz, hlt]
        · rw [getD_set_ne false (Ne.symm hji)]
          simp [hji]
      have hnewb : ∀ j, j ≠ i → (listed.setIfInBounds i true).getD j false = listed.getD j false := fun j hj => getD_set_ne false (Ne.symm hj)
      have hst : st (fun j => (listed.setIfInBounds i true).getD j false) 0 ds s₀ = (st (fun j => listed.getD j false) 0 ds s₀).app d.o.dst d.g d.e := by
        have hlater : ∀ (j : Nat) (d' : Dat), i < j → ds[j]? = some d' → ((∃ t, d.o.dst = some t ∧ d'.o.dst = some t) ∨ ∃ x, x ∈ d.e.wr.map (·.1) ∧ x ∈ d'.e.wr.map (·.1)) → listed.getD j false = false := by
          intro j d' hij hj hc
          rcases hwr j d' hj (by omega) with ⟨f', _, hap', hw'⟩ | hq
          · exfalso
            rw [if_neg (by omega), if_neg (by omega)] at hap'
            obtain ⟨_, _, p1, _, p2, _⟩ := hap hap'
            rcases hc with ⟨t, h1, h2⟩ | ⟨x, h1, h2⟩
            · exact disj_not (x := t) p1 (by simp [touchOf, h1]) (by simp [touchOf, h2])
            · exact disj_not (x := x) p2 (by rw [c5]; exact h1) (by simp only [touchOf, hw']; exact h2)
          · rw [hq]; simp; omega
        have he : ∀ s s' : ASt, s.env = s'.env → s.obs = s'.obs → s = s' := by
          intro s s' h1 h2; cases s; cases s'; cases h1; cases h2; rfl
        refine he _ _ (funext fun t => ?_) (funext fun x => ?_)
        · rw [app_env]
          by_cases hdt : d.o.dst = some t
          · rw [if_pos hdt]
            refine st_env_at (i := i) hd (by rw [Nat.zero_add]; exact (hnew i).2 (.inr rfl)) hdt fun j d' hij hj hd' => ?_
            rw [Nat.zero_add, hnewb j (by omega)]
            exact hlater j d' hij hj (.inl ⟨t, hdt, hd'⟩)
          · rw [if_neg hdt]
            refine st_env (fun j d' hj hd' => ?_) rfl
            rw [Nat.zero_add]
            refine hnewb j fun e => ?_
            subst e
            rw [hd] at hj; cases hj
            exact hdt hd'
        · by_cases hdx : x ∈ d.e.wr.map (·.1)
          · refine st_obs_at (i := i) _ hd (by rw [Nat.zero_add]; exact (hnew i).2 (.inr rfl)) hdx fun j d' hij hj hd' => ?_
            rw [Nat.zero_add, hnewb j (by omega)]
            exact hlater j d' hij hj (.inr ⟨x, hdx, hd'⟩)
          · rw [app_obs, puts_out (by rw [keys_wr]; exact hdx)]
            refine st_obs (fun j d' hj hd' => ?_) rfl
            rw [Nat.zero_add]
            refine hnewb j fun e => ?_
            subst e
            rw [hd] at hj; cases hj
            exact hdx hd'
      have hform := (chain_fact h hch).2
      have hG' := gInv_app (e := d.e) hgo hG ho (by simp [hni]) hDj hform
      unfold wpOpIn
      rw [ho]
      refine op_step hcx hnt hgo h hG ho (by simp [hni]) hDj hch hef c3 (fun x hx => c4 x hx) (fun x hx => hfx i _ x ho hx) (fun p hp hc => c6 p hp fun c hcc => hc c (by rw [hgc]; exact hcc)) ?_
      intro a' w' β' hrel
      refine ih (listed.setIfInBounds i true) a' w' β' (by simpa using hsz) ?_ ?_ (by rw [hst]; exact hrel) ?_
      · have := filter_lt (p := fun j => !listed.getD j false) (q := fun j => !(listed.setIfInBounds i true).getD j false) (l := List.range ops.size) (by
          intro j hj
          simp only [Bool.not_eq_true'] at hj ⊢
          by_cases hji : j = i
          · rw [hji]; exact hni
          · rw [← hnewb j hji]; exact hj) ⟨i, List.mem_range.2 hlt, by rw [hni]; rfl, by rw [(hnew i).2 (.inr rfl)]; rfl⟩
        omega
      · intro j hj o' ho' e he hb
        rw [hnew]
        rcases (hnew j).1 hj with h1 | rfl
        · exact .inl (hcl j h1 o' ho' e he hb)
        · exact .inl (hcli o' ho' e he hb)
      · rw [hst]
        intro t x hx
        obtain ⟨j, hj, rest⟩ := hG' t x hx
        exact ⟨j, (hnew j).2 hj, rest⟩
end
end Go.Sx
