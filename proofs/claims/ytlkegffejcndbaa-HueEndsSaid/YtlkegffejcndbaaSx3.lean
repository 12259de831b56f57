/-
  The symbolic layer, third part: parts of data, read and written.
-/
import Derived.Test.YtlkegffejcndbaaSx2
set_option linter.all false
namespace Go.Sx
variable {P : Program}

/-- Some cells out of a row. -/
def sub (cs : List Value) (off n : Nat) : List Value := (cs.drop off).take n
def splice (cs : List Value) (off : Nat) (vs : List Value) : List Value := cs.take off ++ (vs ++ cs.drop (off + vs.length))

theorem sub_all (cs : List Value) : sub cs 0 cs.length = cs := by simp [sub]
theorem sub_sub {cs : List Value} {off n o m : Nat} (h : o + m ≤ n) : sub (sub cs off n) o m = sub cs (off + o) m := by
  simp only [sub, List.drop_take, List.drop_drop, List.take_take]
  congr 1
  omega
theorem sub_left {c d : List Value} : sub (c ++ d) 0 c.length = c := by simp [sub]
theorem sub_right {c d : List Value} : sub (c ++ d) c.length d.length = d := by simp [sub]
theorem sub_getElem? {cs : List Value} {off n j : Nat} (hj : j < n) : (sub cs off n)[j]? = cs[off + j]? := by
  simp [sub, hj]
theorem sub_length {cs : List Value} {off n : Nat} (h : off + n ≤ cs.length) : (sub cs off n).length = n := by simp [sub]; omega

theorem flatten_sub {k : Nat} : ∀ {vss : List (List Value)} {i : Nat} {c : List Value}, (∀ c ∈ vss, c.length = k) → vss[i]? = some c → sub vss.flatten (i * k) k = c ∧ i * k + k ≤ vss.flatten.length
  | [], i, c, _, h => by simp at h
  | a :: l, 0, c, hk, h => by
    simp at h; subst h
    have := hk a List.mem_cons_self
    subst this
    simp [sub]
  | a :: l, i + 1, c, hk, h => by
    have ha := hk a List.mem_cons_self
    obtain ⟨h1, h2⟩ := flatten_sub (k := k) (vss := l) (i := i) (c := c) (fun c hc => hk c (List.mem_cons_of_mem _ hc)) (by simpa using h)
    have e : (i + 1) * k = a.length + i * k := by rw [Nat.add_mul, ha]; omega
    constructor
    · rw [← h1]; simp only [sub, List.flatten_cons, e, List.drop_length_add_append]
    · simp only [List.flatten_cons, List.length_append, e]; omega

theorem flatten_splice {k : Nat} : ∀ {vss : List (List Value)} {i : Nat} {c d : List Value} {o : Nat} {vs : List Value}, (∀ c ∈ vss, c.length = k) → vss[i]? = some c → o + vs.length ≤ k → d = splice c o vs →
    splice vss.flatten (i * k + o) vs = (vss.set i d).flatten
  | [], i, c, d, o, vs, _, h, _, _ => by simp at h
  | a :: l, 0, c, d, o, vs, hk, h, ho, hd => by
    simp at h; subst h hd
    have := hk a List.mem_cons_self
    subst this
    simp only [splice, List.flatten_cons, List.set_cons_zero, Nat.zero_mul, Nat.zero_add]
    rw [List.take_append_of_le_length (by omega), List.drop_append_of_le_length (by omega)]
    simp
  | a :: l, i + 1, c, d, o, vs, hk, h, ho, hd => by
    have ha := hk a List.mem_cons_self
    have h1 := flatten_splice (k := k) (vss := l) (i := i) (c := c) (d := d) (o := o) (vs := vs) (fun c hc => hk c (List.mem_cons_of_mem _ hc)) (by simpa using h) ho hd
    have e : (i + 1) * k + o = a.length + (i * k + o) := by rw [Nat.add_mul, ha]; omega
    simp only [List.flatten_cons, List.set_cons_succ, ← h1]
    simp only [splice, e, Nat.add_assoc, List.take_length_add_append, List.drop_length_add_append, List.append_assoc]

theorem castD_some {t t' : Ty} {x : t.D} {y : t'.D} (h : castD t t' x = some y) : ∃ e : t = t', y = e ▸ x := by
  unfold castD at h
  split at h
  · rename_i hb
    exact ⟨Ty.beq_eq hb, (Option.some.inj h).symm⟩
  · cases h
theorem castD_rep {t t' : Ty} {x : t.D} {y : t'.D} {w : World} {M : Nat → Prop} {cs : List Value} (h : castD t t' x = some y) (hr : Rep P t w M cs x) : Rep P t' w M cs y := by
  obtain ⟨rfl, rfl⟩ := castD_some h
  exact hr
theorem castD_vrep {t t' : Ty} {x : t.D} {y : t'.D} {w : World} {M : Nat → Prop} {v : Value} (h : castD t t' x = some y) (hr : VRep P t w M v x) : VRep P t' w M v y := by
  obtain ⟨rfl, rfl⟩ := castD_some h
  exact hr

/-- All indices of a path are within their arrays. -/
def inP : Ty → List Stp → Prop
  | _, [] => True
  | .p a _, .l :: q => inP a q
  | .p _ b, .r :: q => inP b q
  | .st a, .o :: q => inP a q
  | .arr n t, .x i :: q => i < n ∧ inP t q
  | _, _ => False

theorem getD_some {α : Type} {l : List α} {i : Nat} {d : α} (h : i < l.length) : l[i]? = some (l.getD i d) := by
  simp [List.getD, List.getElem?_eq_getElem h]

theorem getP_rep : ∀ {t : Ty} {q : List Stp} {w : World} {M : Nat → Prop} {cs : List Value} {x : t.D} {v : Dv}, Rep P t w M cs x → getP t x q = some v → inP t q →
    ∃ off, offP t q = some (off, v.t) ∧ off + v.t.n ≤ cs.length ∧ Rep P v.t w M (sub cs off v.t.n) v.x := by
  intro t q
  induction q generalizing t with
  | nil =>
    intro w M cs x v h hg _
    have e : getP t x [] = some ⟨t, x⟩ := by cases t <;> rfl
    rw [e] at hg; cases hg
    have hl := h.length
    refine ⟨0, by cases t <;> rfl, by simp [hl], ?_⟩
    show Rep P t w M (sub cs 0 t.n) x
    rw [← hl, sub_all]; exact h
  | cons s q ih =>
    intro w M cs x v h hg hi
    cases t <;> cases s <;> try (exact hi.elim)
    case p.l a b =>
      obtain ⟨c, d, rfl, h1, h2⟩ := h
      obtain ⟨off, ho, hle, hr⟩ := ih (t := a) h1 hg hi
      refine ⟨off, ho, by simp; omega, ?_⟩
      have : sub (c ++ d) off v.t.n = sub c off v.t.n := by
        have := sub_sub (cs := c ++ d) (off := 0) (n := c.length) (o := off) (m := v.t.n) hle
        rw [sub_left] at this; rw [this]; simp
      rw [this]; exact hr
    case p.r a b =>
      obtain ⟨c, d, rfl, h1, h2⟩ := h
      obtain ⟨off, ho, hle, hr⟩ := ih (t := b) h2 hg hi
      have hc := h1.length
      refine ⟨a.n + off, by simp [offP, ho], by simp [hc]; omega, ?_⟩
      have : sub (c ++ d) (a.n + off) v.t.n = sub d off v.t.n := by
        have := sub_sub (cs := c ++ d) (off := c.length) (n := d.length) (o := off) (m := v.t.n) hle
        rw [sub_right, hc] at this; rw [this]
      rw [this]; exact hr
    case st.o a =>
      obtain ⟨off, ho, hle, hr⟩ := ih (t := a) h hg hi
      exact ⟨off, ho, hle, hr⟩
    case arr.x n t i =>
      obtain ⟨hi, hq⟩ := hi
      obtain ⟨vss, rfl, h1, h2⟩ := h
      have hx := getD_some (l := (x : List t.D)) (i := i) (d := t.z) (by rw [h2]; exact hi)
      obtain ⟨c, hc, hrc⟩ := h1.get hx
      obtain ⟨e1, e2⟩ := flatten_sub (k := t.n) (all2u_length h1) hc
      obtain ⟨off, ho, hle, hr⟩ := ih (t := t) hrc hg hq
      have hcl := hrc.length
      refine ⟨i * t.n + off, by simp [offP, ho], by omega, ?_⟩
      rw [← sub_sub (n := t.n) (by omega), e1]
      exact hr

theorem setP_rep : ∀ {t : Ty} {q : List Stp} {w : World} {M : Nat → Prop} {cs : List Value} {x : t.D} {v : Dv} {y : t.D} {vs : List Value}, Rep P t w M cs x → setP t x q v = some y → inP t q → Rep P v.t w M vs v.x →
    ∃ off, offP t q = some (off, v.t) ∧ off + v.t.n ≤ cs.length ∧ Rep P t w M (splice cs off vs) y := by
  intro t q
  induction q generalizing t with
  | nil =>
    intro w M cs x v y vs h hg _ hv
    have e : setP t x [] v = castD v.t t v.x := by cases t <;> rfl
    rw [e] at hg
    obtain ⟨e, rfl⟩ := castD_some hg
    obtain ⟨vt, vx⟩ := v
    simp only at e hv
    subst e
    refine ⟨0, by cases vt <;> rfl, by simp [h.length], ?_⟩
    have : splice cs 0 vs = vs := by simp [splice, h.length, hv.length]
    rw [this]; exact hv
  | cons s q ih =>
    intro w M cs x v y vs h hg hi hv
    cases t <;> cases s <;> try (exact hi.elim)
    case p.l a b =>
      obtain ⟨c, d, rfl, h1, h2⟩ := h
      simp only [setP, Option.map_eq_some_iff] at hg
      obtain ⟨y', hg, rfl⟩ := hg
      obtain ⟨off, ho, hle, hr⟩ := ih (t := a) h1 hg hi hv
      have hvl := hv.length
      refine ⟨off, ho, by simp; omega, splice c off vs, d, ?_, hr, h2⟩
      simp only [splice]
      rw [List.take_append_of_le_length (by omega), List.drop_append_of_le_length (by omega)]
      simp
    case p.r a b =>
      obtain ⟨c, d, rfl, h1, h2⟩ := h
      simp only [setP, Option.map_eq_some_iff] at hg
      obtain ⟨y', hg, rfl⟩ := hg
      obtain ⟨off, ho, hle, hr⟩ := ih (t := b) h2 hg hi hv
      have hc := h1.length
      refine ⟨a.n + off, by simp [offP, ho], by simp [hc]; omega, c, splice d off vs, ?_, h1, hr⟩
      simp only [splice, ← hc, Nat.add_assoc, List.take_length_add_append, List.drop_length_add_append, List.append_assoc]
    case st.o a =>
      obtain ⟨off, ho, hle, hr⟩ := ih (t := a) h hg hi hv
      exact ⟨off, ho, hle, hr⟩
    case arr.x n t i =>
      obtain ⟨hi, hq⟩ := hi
      obtain ⟨vss, rfl, h1, h2⟩ := h
      simp only [setP, Option.map_eq_some_iff] at hg
      obtain ⟨y', hg, rfl⟩ := hg
      have hx := getD_some (l := (x : List t.D)) (i := i) (d := t.z) (by rw [h2]; exact hi)
      obtain ⟨c, hc, hrc⟩ := h1.get hx
      obtain ⟨e1, e2⟩ := flatten_sub (k := t.n) (all2u_length h1) hc
      obtain ⟨off, ho, hle, hr⟩ := ih (t := t) hrc hg hq hv
      have hcl := hrc.length
      have hvl := hv.length
      refine ⟨i * t.n + off, by simp [offP, ho], by omega, vss.set i (splice c off vs), ?_, ?_, by simp [Z.set, h2]⟩
      · exact flatten_splice (all2u_length h1) hc (by omega) rfl
      · exact h1.set i hr

theorem offP_append : ∀ {t : Ty} {q r : List Stp} {o : Nat} {t' : Ty}, offP t q = some (o, t') → offP t (q ++ r) = (offP t' r).map fun y => (o + y.1, y.2) := by
  intro t q
  induction q generalizing t with
  | nil =>
    intro r o t' h
    have e : offP t [] = some (0, t) := by cases t <;> rfl
    rw [e] at h; cases h
    cases hr : offP t r <;> simp [hr]
  | cons s q ih =>
    intro r o t' h
    cases t <;> cases s <;> simp only [offP, Option.map_eq_some_iff, reduceCtorEq] at h
    case p.l a b => exact ih (t := a) h
    case p.r a b =>
      obtain ⟨⟨o₁, t₁⟩, h, e⟩ := h; cases e
      simp only [List.cons_append, offP, ih (t := b) h]
      cases offP t₁ r <;> simp [Nat.add_assoc]
    case st.o a => exact ih (t := a) h
    case arr.x n t i =>
      obtain ⟨⟨o₁, t₁⟩, h, e⟩ := h; cases e
      simp only [List.cons_append, offP, ih (t := t) h]
      cases offP t₁ r <;> simp [Nat.add_assoc]
theorem inP_append : ∀ {t : Ty} {q r : List Stp} {o : Nat} {t' : Ty}, offP t q = some (o, t') → inP t q → inP t' r → inP t (q ++ r) := by
  intro t q
  induction q generalizing t with
  | nil =>
    intro r o t' h _ hr
    have e : offP t [] = some (0, t) := by cases t <;> rfl
    rw [e] at h; cases h
    exact hr
  | cons s q ih =>
    intro r o t' h hi hr
    cases t <;> cases s <;> try (exact hi.elim)
    case p.l a b => exact ih (t := a) h hi hr
    case p.r a b =>
      simp only [offP, Option.map_eq_some_iff] at h
      obtain ⟨⟨o₁, t₁⟩, h, e⟩ := h; cases e
      exact ih (t := b) h hi hr
    case st.o a => exact ih (t := a) h hi hr
    case arr.x n t i =>
      simp only [offP, Option.map_eq_some_iff] at h
      obtain ⟨⟨o₁, t₁⟩, h, e⟩ := h; cases e
      exact ⟨hi.1, ih (t := t) h hi.2 hr⟩
end Go.Sx
