/-
  The symbolic layer, fourth part: when a symbolic state tells of a frame and a world; how that is kept.
-/
import Derived.Test.YtlkegffejcndbaaSx3
import Derived.Laws.AppendOwn
import Derived.Laws.MakeOwn
import Derived.Laws.CopyRow
import Derived.Laws.Cells
import Derived.ChangeKeysEq
set_option linter.all false
namespace Go.Sx
variable {P : Program}

/-- Where an object lies: its block, and the slice's value, if it is a row. -/
structure Loc where
  blk : Option Nat
  hdr : Value

def obFz : Ob → Bool
  | .bx f _ _ => f
  | .row f _ _ _ => f
  | _ => false
def isRow : Ob → Bool
  | .row _ _ _ _ => true
  | _ => false
def canFz : Ob → Bool
  | .bx _ _ _ => true
  | .row _ _ _ _ => true
  | _ => false
def isBv : Ob → Bool
  | .bv _ => true
  | _ => false
def inOb : Ob → List Stp → Prop
  | .bx _ t _, p => inP t p
  | .row _ _ t l, .x i :: q => i < (l : List t.D).length ∧ inP t q
  | .bv _, [] => True
  | _, _ => False
def isMm : Ob → Bool
  | .mm _ _ _ => true
  | _ => false
def isGh : Ob → Bool
  | .gh _ _ => true
  | _ => false
def obPos : Ob → List Stp → Option Nat
  | .bv _, [] => some 0
  | .bx _ t _, p => (offP t p).map (·.1)
  | .row _ _ t _, .x i :: q => (offP t q).map fun y => i * t.n + y.1
  | _, _ => none

/-- The blocks that are the call's own and open. -/
def Own (s : ASt) (β : Nat → Loc) (b : Nat) : Prop := ∃ o ob, s.obs o = some (some ob) ∧ obFz ob = false ∧ (β o).blk = some b
def Mset (Mg : Nat → Prop) (s : ASt) (β : Nat → Loc) (b : Nat) : Prop := Mg b ∨ Own s β b

def SVRep (P : Program) (s : ASt) (β : Nat → Loc) (w : World) (M : Nat → Prop) : SV → Value → Prop
  | .d t x, v => VRep P t w M v x
  | .ptr o p, v => match s.obs o with
    | none => False
    | some none => True
    | some (some ob) => inOb ob p ∧ ∃ b off, (β o).blk = some b ∧ obPos ob p = some off ∧ v = .pointer (some ⟨b, off, none⟩)
  | .os o, v => match s.obs o with
    | none => False
    | some none => True
    | some (some ob) => isRow ob = true ∧ v = (β o).hdr
  | .nl _ _, v => v = .slice none 0 0
  | .mp o, v => match s.obs o with
    | none => False
    | some none => True
    | some (some ob) => isMm ob = true ∧ ∃ b, (β o).blk = some b ∧ v = .map (some b)
def AVRep (P : Program) (s : ASt) (β : Nat → Loc) (w : World) (M : Nat → Prop) : AV → Value → Prop
  | .un, _ => True
  | .s x, v => SVRep P s β w M x v
  | .clo f c, v => ∃ vs, v = .func (.func f) #[] vs.toArray ∧ All2 (SVRep P s β w M) c vs
  | .tup l, v => ∃ vs, v = .tuple vs.toArray ∧ All2 (SVRep P s β w M) l vs
  | .yl ly, v => v = .func (.yield ly) #[] #[]

def ObRep (P : Program) (s : ASt) (β : Nat → Loc) (w : World) (M : Nat → Prop) (L : Loc) : Ob → Prop
  | .bx _ t x => ∃ b vs e, L.blk = some b ∧ w.heap[b]? = some (.cells vs.toArray e (0, 0)) ∧ Rep P t w M vs x
  | .row _ e t l => (l : List t.D).length ≤ 140737488355328 ∧ L.blk = L.hdr.ownBlock ∧ ∃ vss, All2 (Rep P t w M) vss (l : List t.D) ∧ w.ownsRow 0 e t.n L.hdr (l : List t.D).length vss.flatten
  | .bv v => ∃ b u e, L.blk = some b ∧ w.heap[b]? = some (.cells #[u] e (0, 0)) ∧ AVRep P s β w M v u
  | .mm tk tv inv => ∃ b es ck, L.blk = some b ∧ w.heap[b]? = some (.map es ck) ∧ ∀ e ∈ es, ∃ x y, VRep P tk w M e.key x ∧ VRep P tv w M e.val y ∧ inv x y
  | .gh _ _ => L.blk = none

/-- The guards hold. -/
def Hold (a : Act) (g : List (Nat × Bool)) : Prop := ∀ x ∈ g, a.tmps.getD x.1 undef = .bool x.2
def EntRep (P : Program) (s : ASt) (β : Nat → Loc) (a : Act) (w : World) (M : Nat → Prop) (e : Ent) (v : Value) : Prop :=
  (Hold a e.g → AVRep P s β w M e.v v) ∧ (¬ Hold a e.g → v = undef)

/-- What is kept for an iterator's caller. -/
def ghOf : Option (Option Ob) → Option Dv
  | some (some (.gh t x)) => some ⟨t, x⟩
  | _ => none

/-- What stands still while a piece of code runs. 'Mg': open blocks of others; 'Ml': blocks that were lent; 'Mf': what may have changed since the start; 'J': what a range's body has made of what was yielded. -/
structure Ctx where
  P : Program
  w0 : World
  Mg : Nat → Prop
  Ml : Nat → Prop
  Mf : Nat → Prop
  mlf : ∀ b, Ml b → Mf b
  nt : Nat
  pins : List (Nat × Obj)
  fix : Nat → Option Value      -- slots that nobody writes
  nod : Prop                    -- nothing is deferred
  pos : Nat → Option Nat        -- objects of others: where they lie
  posr : ∀ o b, pos o = some b → 200000 ≤ o
  gid : Nat
  J : Option Dv → (Nat → Prop) → (Nat → Prop) → World → Prop
  Jst : ∀ g G M w G' w', J g G M w → Trx G w G' w' → (∀ b, G b → ¬ M b ∧ (w0.heap.size ≤ b ∨ Ml b)) → (∀ b, G' b → b < w'.heap.size) → J g G' M w'
def Ctx.mg (K : Ctx) (M : Nat → Prop) : Ctx := { K with Mg := M }

def dof (d : Deferred) : Nat := match d.target with
  | .collected D => D
  | _ => 0
structure RelB (K : Ctx) (s : ASt) (a : Act) (w : World) (β : Nat → Loc) : Prop where
  frame : Ext K.Mf K.w0 w
  mg : ∀ b, K.Mg b → b < w.heap.size
  dis : ∀ o ob b, s.obs o = some (some ob) → (β o).blk = some b → ¬ K.Mg b
  ob : ∀ o ob, s.obs o = some (some ob) → ObRep K.P s β w (Mset K.Mg s β) (β o) ob
  inj : ∀ o o' ob ob' b, s.obs o = some (some ob) → s.obs o' = some (some ob') → (β o).blk = some b → (β o').blk = some b → o = o'
  rng : ∀ o ob b, s.obs o = some (some ob) → obFz ob = false → (β o).blk = some b → K.w0.heap.size ≤ b ∨ K.Ml b
  env : ∀ t, EntRep K.P s β a w (Mset K.Mg s β) (s.env t) (a.tmps.getD t undef)
  size : a.tmps.size = K.nt
  defs : ∀ d ∈ a.defers, ∃ D, d = { target := .collected D, args := #[] } ∧ w.heap[D]? = some (.deferred (some [])) ∧ (¬ K.Mg D ∧ K.w0.heap.size ≤ D)
  dnd : (a.defers.map dof).Nodup
  nod : K.nod → a.defers = []
  pins : ∀ x ∈ K.pins, w.heap[x.1]? = some x.2 ∧ ((∀ c e z, x.2 ≠ .cells c e z) ∧ ∀ es c, x.2 ≠ .map es c)
  gh : K.J (ghOf (s.obs K.gid)) (Own s β) K.Mg w
  fix : ∀ t v, K.fix t = some v → a.tmps.getD t undef = v
  pos : ∀ o b, K.pos o = some b → s.obs o = some none ∨ ∃ ob, s.obs o = some (some ob) ∧ isRow ob = false ∧ (β o).blk = some b
def Rel (K : Ctx) (s : ASt) (a : Act) (w : World) : Prop := ∃ β, RelB K s a w β

/-! ### Objects that stay what they were -/
def Like (ob ob' : Ob) : Prop := (∀ p, inOb ob p → inOb ob' p) ∧ (∀ p, obPos ob p = obPos ob' p) ∧ isRow ob = isRow ob' ∧ isMm ob = isMm ob'
theorem Like.refl (ob : Ob) : Like ob ob := ⟨fun _ h => h, fun _ => rfl, rfl, rfl⟩

structure Compat (s : ASt) (β : Nat → Loc) (s' : ASt) (β' : Nat → Loc) : Prop where
  dead : ∀ o, s.obs o = some none → s'.obs o = some none
  live : ∀ o ob, s.obs o = some (some ob) → s'.obs o = some none ∨ ∃ ob', s'.obs o = some (some ob') ∧ β' o = β o ∧ Like ob ob'
theorem Compat.refl (s : ASt) (β : Nat → Loc) : Compat s β s β := ⟨fun _ h => h, fun _ ob h => .inr ⟨ob, h, rfl, .refl _⟩⟩
theorem Compat.of_obs {s s' : ASt} (β : Nat → Loc) (h : s'.obs = s.obs) : Compat s β s' β :=
  ⟨fun o ho => by rw [h]; exact ho, fun o ob ho => .inr ⟨ob, by rw [h]; exact ho, rfl, .refl _⟩⟩

section
variable {s s' : ASt} {β β' : Nat → Loc} {w w' : World} {M M' : Nat → Prop}
theorem SVRep.next {x : SV} {v : Value} (h : SVRep P s β w M x v) (hc : Compat s β s' β') (ht : Tr M w M' w') : SVRep P s' β' w' M' x v := by
  cases x with
  | d t x => exact VRep.tr h ht
  | nl e t => exact h
  | ptr o p =>
    simp only [SVRep] at h ⊢
    cases ho : s.obs o with
    | none => simp only [ho] at h
    | some r =>
      cases r with
      | none => rw [hc.dead o ho]; trivial
      | some ob =>
        simp only [ho] at h
        rcases hc.live o ob ho with h1 | ⟨ob', h1, h2, h3⟩
        · rw [h1]; trivial
        · rw [h1]
          obtain ⟨hi, b, off, hb, hp, hv⟩ := h
          exact ⟨h3.1 p hi, b, off, by rw [h2]; exact hb, by rw [← h3.2.1]; exact hp, hv⟩
  | os o =>
    simp only [SVRep] at h ⊢
    cases ho : s.obs o with
    | none => simp only [ho] at h
    | some r =>
      cases r with
      | none => rw [hc.dead o ho]; trivial
      | some ob =>
        simp only [ho] at h
        rcases hc.live o ob ho with h1 | ⟨ob', h1, h2, h3⟩
        · rw [h1]; trivial
        · rw [h1]; exact ⟨by rw [← h3.2.2.1]; exact h.1, by rw [h2]; exact h.2⟩
  | mp o =>
    simp only [SVRep] at h ⊢
    cases ho : s.obs o with
    | none => simp only [ho] at h
    | some r =>
      cases r with
      | none => rw [hc.dead o ho]; trivial
      | some ob =>
        simp only [ho] at h
        rcases hc.live o ob ho with h1 | ⟨ob', h1, h2, h3⟩
        · rw [h1]; trivial
        · rw [h1]; exact ⟨by rw [← h3.2.2.2]; exact h.1, by rw [h2]; exact h.2⟩
theorem AVRep.next {x : AV} {v : Value} (h : AVRep P s β w M x v) (hc : Compat s β s' β') (ht : Tr M w M' w') : AVRep P s' β' w' M' x v := by
  cases x with
  | un => trivial
  | yl _ => exact h
  | s x => exact SVRep.next h hc ht
  | clo f c => obtain ⟨vs, rfl, h⟩ := h; exact ⟨vs, rfl, h.mono fun _ _ h => h.next hc ht⟩
  | tup l => obtain ⟨vs, rfl, h⟩ := h; exact ⟨vs, rfl, h.mono fun _ _ h => h.next hc ht⟩
theorem ObRep.next {L : Loc} {ob : Ob} (h : ObRep P s β w M L ob) (hc : Compat s β s' β') (ht : Tr M w M' w') (hb : ∀ b, L.blk = some b → w'.heap[b]? = w.heap[b]?) : ObRep P s' β' w' M' L ob := by
  cases ob with
  | bx f t x =>
    obtain ⟨b, vs, e, h1, h2, h3⟩ := h
    exact ⟨b, vs, e, h1, (hb b h1).trans h2, h3.tr ht⟩
  | row f e t l =>
    obtain ⟨h1, h2, vss, h3, h4⟩ := h
    refine ⟨h1, h2, vss, h3.mono fun _ _ h => h.tr ht, h4.1, h4.2.imp id ?_⟩
    rintro ⟨g, cap, cur, e1, e2, e3, e4⟩
    exact ⟨g, cap, cur, e1, e2, (hb g (by rw [h2, e1]; rfl)).trans e3, e4⟩
  | bv v =>
    obtain ⟨b, u, e, h1, h2, h3⟩ := h
    exact ⟨b, u, e, h1, (hb b h1).trans h2, h3.next hc ht⟩
  | mm tk tv inv =>
    obtain ⟨b, es, ck, h1, h2, h3⟩ := h
    refine ⟨b, es, ck, h1, (hb b h1).trans h2, fun e he => ?_⟩
    obtain ⟨x, y, g1, g2, g3⟩ := h3 e he
    exact ⟨x, y, g1.tr ht, g2.tr ht, g3⟩
  | gh t x => exact h
end

theorem ObRep.block {s : ASt} {β : Nat → Loc} {w : World} {M : Nat → Prop} {L : Loc} {ob : Ob} (h : ObRep P s β w M L ob) {b : Nat} (hb : L.blk = some b) : (∃ c e, w.heap[b]? = some (.cells c e (0, 0))) ∨ ∃ es ck, w.heap[b]? = some (.map es ck) := by
  cases ob with
  | mm tk tv inv => obtain ⟨b', es, ck, h1, h2, _⟩ := h; rw [hb] at h1; cases h1; exact .inr ⟨_, _, h2⟩
  | gh t x => rw [show L.blk = none from h] at hb; cases hb
  | bx f t x => obtain ⟨b', vs, e, h1, h2, _⟩ := h; rw [hb] at h1; cases h1; exact .inl ⟨_, _, h2⟩
  | row f e t l =>
    obtain ⟨_, h2, vss, _, _, h4⟩ := h
    rcases h4 with ⟨h1, _⟩ | ⟨g, cap, cur, e1, _, e3, _⟩
    · rw [h1] at h2; rw [hb] at h2; cases h2
    · rw [e1, hb] at h2; cases h2; exact .inl ⟨_, _, e3⟩
  | bv v => obtain ⟨b', u, e, h1, h2, _⟩ := h; rw [hb] at h1; cases h1; exact .inl ⟨_, _, h2⟩
theorem ObRep.lt {s : ASt} {β : Nat → Loc} {w : World} {M : Nat → Prop} {L : Loc} {ob : Ob} (h : ObRep P s β w M L ob) {b : Nat} (hb : L.blk = some b) : b < w.heap.size := by
  rcases h.block hb with ⟨c, e, hc⟩ | ⟨c, e, hc⟩ <;> exact (Array.getElem?_eq_some_iff.1 hc).1

section
variable {K : Ctx} {s s' : ASt} {a a' : Act} {w w' : World} {β β' : Nat → Loc}

theorem RelB.posC (h : RelB K s a w β) (hc : Compat s β s' β') : ∀ o b, K.pos o = some b → s'.obs o = some none ∨ ∃ ob, s'.obs o = some (some ob) ∧ isRow ob = false ∧ (β' o).blk = some b := by
  intro o b ho
  rcases h.pos o b ho with h1 | ⟨ob, h1, h2, h3⟩
  · exact .inl (hc.dead o h1)
  · rcases hc.live o ob h1 with h4 | ⟨ob', h4, h5, h6⟩
    · exact .inl h4
    · exact .inr ⟨ob', h4, by rw [← h6.2.2.1]; exact h2, by rw [h5]; exact h3⟩
theorem RelB.blk_lt (h : RelB K s a w β) {o : Nat} {ob : Ob} {b : Nat} (ho : s.obs o = some (some ob)) (hb : (β o).blk = some b) : b < w.heap.size := by
  exact (h.ob o ob ho).lt hb

/-- **A step of the world and of the objects.** The open blocks of the call's own may have changed, and no other. -/
theorem RelB.step (h : RelB K s a w β) (hc : Compat s β s' β') (hx : Ext (Own s β) w w') (hown : ∀ b, b < w.heap.size → Own s' β' b → Own s β b)
    (hob : ∀ o ob, s'.obs o = some (some ob) → (s.obs o = some (some ob) ∧ β' o = β o ∧ ∀ b, (β o).blk = some b → w'.heap[b]? = w.heap[b]?) ∨ (Tr (Mset K.Mg s β) w (Mset K.Mg s' β') w' → ObRep K.P s' β' w' (Mset K.Mg s' β') (β' o) ob))
    (hinj : ∀ o o' ob ob' b, s'.obs o = some (some ob) → s'.obs o' = some (some ob') → (β' o).blk = some b → (β' o').blk = some b → o = o')
    (hrng : ∀ o ob b, s'.obs o = some (some ob) → (β' o).blk = some b → w.heap.size ≤ b ∨ ∃ p ob', s.obs p = some (some ob') ∧ (obFz ob = false → obFz ob' = false) ∧ (β p).blk = some b)
    (henv : s'.env = s.env) (hgh : ghOf (s'.obs K.gid) = ghOf (s.obs K.gid)) : RelB K s' a w' β' ∧ Tr (Mset K.Mg s β) w (Mset K.Mg s' β') w' := by
  have ht : Tr (Mset K.Mg s β) w (Mset K.Mg s' β') w' :=
    ⟨(hx.mono fun b _ hb => .inr hb).loose, fun b hb hm => hm.imp id (hown b hb)⟩
  have hpin : ∀ (b : Nat) (o : Obj), w.heap[b]? = some o → (∀ c e z, o ≠ .cells c e z) → (∀ es c, o ≠ .map es c) → w'.heap[b]? = some o := by
    intro b o hbo hn hn'
    refine (hx.2 b (Array.getElem?_eq_some_iff.1 hbo).1 ?_).trans hbo
    rintro ⟨o', ob, h1, _, h3⟩
    rcases (h.ob o' ob h1).block h3 with ⟨c, e, hc⟩ | ⟨c, e, hc⟩
    · rw [hbo] at hc; cases hc
      exact hn _ _ _ rfl
    · rw [hbo] at hc; cases hc
      exact hn' _ _ rfl
  have hob' : ∀ o ob, s'.obs o = some (some ob) → ObRep K.P s' β' w' (Mset K.Mg s' β') (β' o) ob := by
    intro o ob ho
    rcases hob o ob ho with ⟨h1, h2, h3⟩ | h1
    · rw [h2]; exact (h.ob o ob h1).next hc ht h3
    · exact h1 ht
  refine ⟨⟨?_, fun b hb => Nat.lt_of_lt_of_le (h.mg b hb) hx.1, ?_, hob', hinj, ?_, ?_, h.size, ?_, h.dnd, h.nod, ?_, ?_, h.fix, ?pos⟩, ht⟩
  case pos => exact h.posC hc
  · refine ⟨Nat.le_trans h.frame.1 hx.1, fun b hb hn => (hx.2 b (Nat.lt_of_lt_of_le hb h.frame.1) ?_).trans (h.frame.2 b hb hn), hx.io.1.trans h.frame.io.1, hx.io.2.trans h.frame.io.2⟩
    rintro ⟨o', ob, h1, h2, h3⟩
    rcases h.rng o' ob b h1 h2 h3 with h4 | h4
    · omega
    · exact hn (K.mlf b h4)
  · intro o ob b ho hb hM
    rcases hrng o ob b ho hb with h1 | ⟨p, ob', h1, _, h2⟩
    · have := h.mg b hM; omega
    · exact h.dis p ob' b h1 h2 hM
  · intro o ob b ho hf hb
    rcases hrng o ob b ho hb with h1 | ⟨p, ob', h1, h2, h3⟩
    · exact .inl (Nat.le_trans h.frame.1 h1)
    · exact h.rng p ob' b h1 (h2 hf) h3
  · intro t
    rw [henv]
    exact ⟨fun hg => ((h.env t).1 hg).next hc ht, (h.env t).2⟩
  · intro d hd
    obtain ⟨D, rfl, hD, hm⟩ := h.defs d hd
    exact ⟨D, rfl, hpin D _ hD (by simp) (by simp), hm⟩
  · intro x hx'
    obtain ⟨h1, h2⟩ := h.pins x hx'
    exact ⟨hpin x.1 x.2 h1 h2.1 h2.2, h2⟩
  · rw [hgh]
    refine K.Jst _ _ _ _ _ _ h.gh ⟨hx, hown⟩ ?_ ?_
    · rintro b ⟨o, ob, h1, h2, h3⟩
      exact ⟨h.dis o ob b h1 h3, h.rng o ob b h1 h2 h3⟩
    · rintro b ⟨o, ob, h1, h2, h3⟩
      exact (hob' o ob h1).lt h3

/-- The world grew. -/
theorem RelB.grow (h : RelB K s a w β) (hx : Ext noM w w') : RelB K s a w' β ∧ Tr (Mset K.Mg s β) w (Mset K.Mg s β) w' :=
  h.step (.refl _ _) (hx.mono fun _ _ h => h.elim) (fun _ _ h => h)
    (fun _ _ ho => .inl ⟨ho, rfl, fun b hb => hx.2 b (h.blk_lt ho hb) id⟩) h.inj (fun o ob b ho hb => .inr ⟨o, ob, ho, id, hb⟩) rfl rfl

theorem tmps_put {a : Act} {d : Nat} {v : Value} {t : Nat} (hd : d < a.tmps.size) : (a.put (some d) v).tmps.getD t undef = if t = d then v else a.tmps.getD t undef := by
  simp only [Act.put, Array.getD_eq_getD_getElem?]
  by_cases ht : t = d
  · subst ht; simp [hd]
  · simp [ht, Array.getElem?_setIfInBounds_ne (Ne.symm ht)]

theorem put_same {α : Type} (f : Nat → α) (k : Nat) (v : α) : put f k v k = v := by simp [put]
theorem beq_ne {a b : Nat} (h : a ≠ b) : Nat.beq a b = false := by
  cases hb : Nat.beq a b with
  | false => rfl
  | true => exact absurd (Nat.eq_of_beq_eq_true hb) h
theorem put_other {α : Type} (f : Nat → α) {k t : Nat} (v : α) (h : t ≠ k) : put f k v t = f t := by
  simp [put, beq_ne h]

/-- A slot is written. -/
theorem RelB.slot (h : RelB K s a w β) {d : Nat} {v : Value} {e : Ent} (hd : d < K.nt) (hfx : K.fix d = none) (hg : ∀ t, ∀ x ∈ (s.env t).g, x.1 ≠ d) (hge : ∀ x ∈ e.g, x.1 ≠ d)
    (hv : EntRep K.P s β a w (Mset K.Mg s β) e v) : RelB K { s with env := put s.env d e } (a.put (some d) v) w β := by
  have hd' : d < a.tmps.size := by rw [h.size]; exact hd
  have hM : Mset K.Mg { s with env := Sx.put s.env d e } β = Mset K.Mg s β := rfl
  have hHold : ∀ g : List (Nat × Bool), (∀ x ∈ g, x.1 ≠ d) → (Hold (a.put (some d) v) g ↔ Hold a g) := by
    intro g hg
    constructor
    · intro hh x hx
      have := hh x hx
      rwa [tmps_put hd', if_neg (hg x hx)] at this
    · intro hh x hx
      rw [tmps_put hd', if_neg (hg x hx)]
      exact hh x hx
  have hcc : Compat s β { s with env := Sx.put s.env d e } β := .of_obs _ rfl
  refine ⟨h.frame, h.mg, h.dis, fun o ob ho => (h.ob o ob ho).next hcc (.refl _ _) fun _ _ => rfl, h.inj, h.rng, ?_, ?_, h.defs, h.dnd, h.nod, h.pins, h.gh, ?_, h.pos⟩
  · intro t
    rw [tmps_put hd']
    by_cases ht : t = d
    · subst ht
      rw [if_pos rfl]
      simp only [put_same, hM]
      refine ⟨fun hh => (hv.1 ((hHold _ hge).1 hh)).next hcc (.refl _ _), fun hh => hv.2 fun h' => hh ((hHold _ hge).2 h')⟩
    · rw [if_neg ht]
      simp only [put_other s.env e ht, hM]
      refine ⟨fun hh => ((h.env t).1 ((hHold _ (hg t)).1 hh)).next hcc (.refl _ _), fun hh => (h.env t).2 fun h' => hh ((hHold _ (hg t)).2 h')⟩
  · simp [Act.put, h.size]
  · intro t v' hv'
    rw [tmps_put hd', if_neg (fun e => by rw [e, hfx] at hv'; cases hv')]
    exact h.fix t v' hv'
end
end Go.Sx
