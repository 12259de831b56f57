/-
  The symbolic layer, second part: what it means that values in memory read as data; that this is kept where memory that it rests on is.
-/
import Derived.Test.YtlkegffejcndbaaSx1
import Derived.Calls
import Derived.Laws.World
import Derived.RangeFuncSeq
set_option linter.all false
namespace Go.Sx
variable {P : Program}

/-- Whatever lay in a world lies there still, but for some blocks. -/
structure Ext (M : Nat → Prop) (w w' : World) : Prop where
  size : w.heap.size ≤ w'.heap.size
  keep : ∀ b, b < w.heap.size → ¬ M b → w'.heap[b]? = w.heap[b]?
  io : w'.os = w.os ∧ w'.output = w.output
def noM : Nat → Prop := fun _ => False

theorem Ext.refl (M : Nat → Prop) (w : World) : Ext M w w := ⟨Nat.le_refl _, fun _ _ _ => rfl, rfl, rfl⟩
theorem Ext.trans {M : Nat → Prop} {w w' w'' : World} (h : Ext M w w') (h' : Ext M w' w'') : Ext M w w'' :=
  ⟨Nat.le_trans h.1 h'.1, fun b hb hM => (h'.2 b (Nat.lt_of_lt_of_le hb h.1) hM).trans (h.2 b hb hM), h'.io.1.trans h.io.1, h'.io.2.trans h.io.2⟩
theorem Ext.mono {M M' : Nat → Prop} {w w' : World} (h : Ext M w w') (hm : ∀ b, b < w.heap.size → M b → M' b) : Ext M' w w' :=
  ⟨h.1, fun b hb hM => h.2 b hb fun h' => hM (hm b hb h'), h.io⟩

/-- Blocks of the machine's own: no data rests on them. -/
def mach : Obj → Bool
  | .loop _ => true
  | .deferred _ => true
  | _ => false
/-- The same, but for the machine's own blocks. -/
def ExtL (M : Nat → Prop) (w w' : World) : Prop := w.heap.size ≤ w'.heap.size ∧ ∀ b, b < w.heap.size → ¬ M b → (∀ o, w.heap[b]? = some o → mach o = false) → w'.heap[b]? = w.heap[b]?
theorem Ext.loose {M : Nat → Prop} {w w' : World} (h : Ext M w w') : ExtL M w w' := ⟨h.1, fun b hb hM _ => h.2 b hb hM⟩
theorem ExtL.refl (M : Nat → Prop) (w : World) : ExtL M w w := ⟨Nat.le_refl _, fun _ _ _ _ => rfl⟩
theorem ExtL.mono {M M' : Nat → Prop} {w w' : World} (h : ExtL M w w') (hm : ∀ b, b < w.heap.size → M b → M' b) : ExtL M' w w' :=
  ⟨h.1, fun b hb hM => h.2 b hb fun h' => hM (hm b hb h')⟩
/-- A step: the world grows, but for open blocks; no old block is opened. -/
def Trx (M : Nat → Prop) (w : World) (M' : Nat → Prop) (w' : World) : Prop := Ext M w w' ∧ ∀ b, b < w.heap.size → M' b → M b
def Tr (M : Nat → Prop) (w : World) (M' : Nat → Prop) (w' : World) : Prop := ExtL M w w' ∧ ∀ b, b < w.heap.size → M' b → M b
theorem Trx.loose {M M' : Nat → Prop} {w w' : World} (h : Trx M w M' w') : Tr M w M' w' := ⟨h.1.loose, h.2⟩
theorem Tr.refl (M : Nat → Prop) (w : World) : Tr M w M w := ⟨ExtL.refl _ _, fun _ _ h => h⟩
theorem Tr.trans {M M' M'' : Nat → Prop} {w w' w'' : World} (h : Tr M w M' w') (h' : Tr M' w' M'' w'') : Tr M w M'' w'' :=
  ⟨⟨Nat.le_trans h.1.1 h'.1.1, fun b hb hM hm => by
    have e := h.1.2 b hb hM hm
    exact (h'.1.2 b (Nat.lt_of_lt_of_le hb h.1.1) (fun hm => hM (h.2 b hb hm)) (fun o ho => hm o (e ▸ ho))).trans e⟩,
    fun b hb hm => h.2 b hb (h'.2 b (Nat.lt_of_lt_of_le hb h.1.1) hm)⟩
theorem ExtL.tr {M : Nat → Prop} {w w' : World} (h : ExtL M w w') : Tr M w M w' := ⟨h, fun _ _ h => h⟩
theorem Ext.tr {M : Nat → Prop} {w w' : World} (h : Ext M w w') : Tr M w M w' := ⟨h.loose, fun _ _ h => h⟩

/-- A block that is there and not open. -/
def St (w : World) (M : Nat → Prop) (b : Nat) : Prop := b < w.heap.size ∧ ¬ M b
theorem St.tr {M M' : Nat → Prop} {w w' : World} {b : Nat} (h : St w M b) (ht : Tr M w M' w') : St w' M' b :=
  ⟨Nat.lt_of_lt_of_le h.1 ht.1.1, fun hm => h.2 (ht.2 b h.1 hm)⟩

/-- These cells lie there. -/
def Cells (w : World) (b off : Nat) (vs : List Value) : Prop :=
  ∃ c e z, w.heap[b]? = some (.cells c e z) ∧ ∀ j v, vs[j]? = some v → c[off + j]? = some v
theorem Cells.notMach {w : World} {b off : Nat} {vs : List Value} (h : Cells w b off vs) : ∀ o, w.heap[b]? = some o → mach o = false := by
  obtain ⟨c, e, z, hc, _⟩ := h
  intro o ho
  rw [hc] at ho; cases ho; rfl
theorem Cells.of_heap {w w' : World} {b off : Nat} {vs : List Value} (h : Cells w b off vs) (he : w'.heap[b]? = w.heap[b]?) : Cells w' b off vs := by
  obtain ⟨c, e, z, hc, hv⟩ := h
  exact ⟨c, e, z, he.trans hc, hv⟩
theorem Cells.cell {w : World} {b off : Nat} {vs : List Value} (h : Cells w b off vs) {j : Nat} {v : Value} (hj : vs[j]? = some v) : w.cell? ⟨b, off + j, none⟩ = some v := by
  obtain ⟨c, e, z, hc, hv⟩ := h
  simp [World.cell?, hc, hv j v hj]
theorem Cells.lt {w : World} {b off : Nat} {vs : List Value} (h : Cells w b off vs) : b < w.heap.size := by
  obtain ⟨c, e, z, hc, _⟩ := h
  exact (Array.getElem?_eq_some_iff.1 hc).1

/-- The value of a datum's type out of its cells. -/
def pack (t : Ty) (cs : List Value) : Value := cond t.agg (.agg cs.toArray) (cs.headD undef)

/-- Lists of the same length, element by element. -/
def All2 {α β : Type} (R : α → β → Prop) : List α → List β → Prop
  | [], [] => True
  | a :: l, b :: r => R a b ∧ All2 R l r
  | _, _ => False

theorem All2.length {α β : Type} {R : α → β → Prop} : ∀ {l : List α} {r : List β}, All2 R l r → l.length = r.length
  | [], [], _ => rfl
  | _ :: _, _ :: _, h => by simp [All2.length h.2]
  | [], _ :: _, h => h.elim
  | _ :: _, [], h => h.elim
theorem All2.mono {α β : Type} {R S : α → β → Prop} (hRS : ∀ a b, R a b → S a b) : ∀ {l : List α} {r : List β}, All2 R l r → All2 S l r
  | [], [], _ => trivial
  | _ :: _, _ :: _, h => ⟨hRS _ _ h.1, All2.mono hRS h.2⟩
  | [], _ :: _, h => h.elim
  | _ :: _, [], h => h.elim
theorem All2.get {α β : Type} {R : α → β → Prop} : ∀ {l : List α} {r : List β}, All2 R l r → ∀ {i : Nat} {b : β}, r[i]? = some b → ∃ a, l[i]? = some a ∧ R a b
  | [], [], _, _, _, hi => by simp at hi
  | a :: _, _ :: _, h, 0, _, hi => by simp at hi; exact ⟨a, rfl, hi ▸ h.1⟩
  | _ :: _, _ :: _, h, i + 1, _, hi => by simpa using All2.get h.2 (i := i) (by simpa using hi)
  | [], _ :: _, h, _, _, _ => h.elim
  | _ :: _, [], h, _, _, _ => h.elim
theorem All2.append {α β : Type} {R : α → β → Prop} : ∀ {l l' : List α} {r r' : List β}, All2 R l r → All2 R l' r' → All2 R (l ++ l') (r ++ r')
  | [], _, [], _, _, h' => h'
  | _ :: _, _, _ :: _, _, h, h' => ⟨h.1, All2.append h.2 h'⟩
  | [], _, _ :: _, _, h, _ => h.elim
  | _ :: _, _, [], _, h, _ => h.elim
theorem All2.set {α β : Type} {R : α → β → Prop} : ∀ {l : List α} {r : List β}, All2 R l r → ∀ (i : Nat) {a : α} {b : β}, R a b → All2 R (l.set i a) (r.set i b)
  | [], [], _, _, _, _, _ => trivial
  | _ :: _, _ :: _, h, 0, _, _, hab => ⟨hab, h.2⟩
  | _ :: _, _ :: _, h, i + 1, _, _, hab => ⟨h.1, All2.set h.2 i hab⟩
  | [], _ :: _, h, _, _, _, _ => h.elim
  | _ :: _, [], h, _, _, _, _ => h.elim
theorem All2.take {α β : Type} {R : α → β → Prop} : ∀ {l : List α} {r : List β}, All2 R l r → ∀ n, All2 R (l.take n) (r.take n)
  | [], [], _, n => by cases n <;> simp [All2]
  | _ :: _, _ :: _, _, 0 => trivial
  | _ :: _, _ :: _, h, n + 1 => ⟨h.1, All2.take h.2 n⟩
  | [], _ :: _, h, _ => h.elim
  | _ :: _, [], h, _ => h.elim
theorem All2.drop {α β : Type} {R : α → β → Prop} : ∀ {l : List α} {r : List β}, All2 R l r → ∀ n, All2 R (l.drop n) (r.drop n)
  | [], [], _, n => by cases n <;> simp [All2]
  | _ :: _, _ :: _, h, 0 => h
  | _ :: _, _ :: _, h, n + 1 => All2.drop h.2 n
  | [], _ :: _, h, _ => h.elim
  | _ :: _, [], h, _ => h.elim
theorem All2.replicate {α β : Type} {R : α → β → Prop} {a : α} {b : β} (h : R a b) : ∀ n, All2 R (List.replicate n a) (List.replicate n b)
  | 0 => trivial
  | n + 1 => ⟨h, All2.replicate h n⟩

/-- The fence that lets all in; in a round, or not. -/
def FF (r : Option Nat) : Fence := { fn := fun _ => True, depth := none, alive := false, round := r }

/-- What is yielded, of one value or of two. -/
def YR (two : Bool) (a : Ty) (us : List Value) (cs : List Value) : Prop :=
  match two, a with
  | false, t => us = [pack t cs]
  | true, .p a b => us = [pack a (cs.take a.n), pack b (cs.drop a.n)]
  | _, _ => False
/-- Steps of an iterator's own do not matter to the rounds. 'G': the iterator's open blocks; 'M': the rounds'. -/
def Stab {α : Type} (w : World) (J : List α → (Nat → Prop) → (Nat → Prop) → World → Prop) : Prop :=
  ∀ p G M w₁ G' w₂, J p G M w₁ → Trx G w₁ G' w₂ → (∀ b, G b → ¬ M b ∧ w.heap.size ≤ b) → (∀ b, G' b → b < w₂.heap.size) → J p G' M w₂
/-- **An iterator**: it yields these, one after the other, until a round says 'no more'. -/
def Iterates {α : Type} (P : Program) (RE : α → World → (Nat → Prop) → List Value → Prop) (l : List α) (f : FuncId) (caps : Array Value) (w : World) (Mo : Nat → Prop) : Prop :=
  ∀ (ly : Nat) (J Jx : List α → (Nat → Prop) → (Nat → Prop) → World → Prop), Stab w J → Stab w Jx → (∀ p G M w₁, J p G M w₁ → ∀ b, M b → b < w₁.heap.size) → (∀ p G M w₁, Jx p G M w₁ → ∀ b, M b → b < w₁.heap.size) →
    (∀ p e q G M w₁ us, l = p ++ e :: q → J p G M w₁ → RE e w₁ (fun b => M b ∨ G b) us → (∀ b, G b → ¬ M b ∧ w.heap.size ≤ b) → (∀ b, G b → b < w₁.heap.size) → YieldAt (FF none) 0 P ly us.toArray w₁ fun r w₂ =>
      (r = .returned (.bool true) ∧ ∃ M₂, J (p ++ [e]) G M₂ w₂ ∧ Trx M w₁ M₂ w₂) ∨ (r = .returned (.bool false) ∧ ∃ M₂, Jx (p ++ [e]) G M₂ w₂ ∧ Trx M w₁ M₂ w₂)) →
    J [] (fun _ => False) Mo w →
    Calls P f (#[.func (.yield ly) #[] #[]] ++ caps) w fun r w' => (∃ v, r = .returned v) ∧ ((∃ M, J l (fun _ => False) M w') ∨ ∃ p M, Jx p (fun _ => False) M w')

/-- **These cells read as this datum**, in a world of which some blocks are open. -/
def Rep (P : Program) : (t : Ty) → World → (Nat → Prop) → List Value → t.D → Prop
  | .i k, _, _, cs, x => cs = [.int k (x : Int)] ∧ k.min ≤ (x : Int) ∧ (x : Int) ≤ k.max
  | .bo, _, _, cs, x => cs = [.bool (x : Bool)]
  | .u, _, _, cs, _ => cs = []
  | .p a b, w, M, cs, x => ∃ c d, cs = c ++ d ∧ Rep P a w M c x.1 ∧ Rep P b w M d x.2
  | .st a, w, M, cs, x => Rep P a w M cs x
  | .sl t, w, M, cs, x => ∃ a cap, cs = [.slice a (x : List t.D).length cap] ∧ (x : List t.D).length ≤ min cap 140737488355328 ∧
      ((x : List t.D) = [] ∨ ∃ b off vss, a = some ⟨b, off, none⟩ ∧ St w M b ∧ All2 (Rep P t w M) vss (x : List t.D) ∧ Cells w b off vss.flatten)
  | .arr n t, w, M, cs, x => ∃ vss, cs = vss.flatten ∧ All2 (Rep P t w M) vss (x : List t.D) ∧ (x : List t.D).length = n
  | .ref t, w, M, cs, x => ∃ b off vs, cs = [.pointer (some ⟨b, off, none⟩)] ∧ St w M b ∧ Rep P t w M vs x ∧ Cells w b off vs
  | .f1 a r, w, M, cs, x => ∃ v, cs = [v] ∧ (v = .nilFunc ∨ ∃ f first caps, v = .func f first caps) ∧ ∀ w' N u y, ExtL M w w' → (∃ us, Rep P a w' N us y ∧ u = pack a us) → (x : Fun a.D r.D).pre y →
      ∃ f caps, v = .func (.func f) #[] caps ∧ (∀ args w₁, (callFunc f args).run P w₁ = .ok (.enter f args) w₁) ∧ Calls P f (#[u] ++ caps) w' fun e w'' => ∃ z zs, e = .returned z ∧ Ext noM w' w'' ∧ Rep P r w'' (fun _ => True) zs ((x : Fun a.D r.D).val y) ∧ z = pack r zs
  | .f2 a b r, w, M, cs, x => ∃ v, cs = [v] ∧ (v = .nilFunc ∨ ∃ f first caps, v = .func f first caps) ∧ ∀ w' N u₁ u₂ y₁ y₂, ExtL M w w' → (∃ us, Rep P a w' N us y₁ ∧ u₁ = pack a us) → (∃ us, Rep P b w' N us y₂ ∧ u₂ = pack b us) → (x : Fun (a.D × b.D) r.D).pre (y₁, y₂) →
      ∃ f caps, v = .func (.func f) #[] caps ∧ (∀ args w₁, (callFunc f args).run P w₁ = .ok (.enter f args) w₁) ∧ Calls P f (#[u₁, u₂] ++ caps) w' fun e w'' => ∃ z zs, e = .returned z ∧ Ext noM w' w'' ∧ Rep P r w'' (fun _ => True) zs ((x : Fun (a.D × b.D) r.D).val (y₁, y₂)) ∧ z = pack r zs
  | .sq two a, w, M, cs, x => ∃ v, cs = [v] ∧ (v = .nilFunc ∨ ∃ f first caps, v = .func f first caps) ∧ ∀ w' M', Tr M w M' w' → (∀ b, M' b → b < w'.heap.size) → (x : Seq a.D).pre →
      ∃ f caps, v = .func (.func f) #[] caps ∧ (∀ args w₁, (callFunc f args).run P w₁ = .ok (.enter f args) w₁) ∧ Iterates P (fun e w₁ N us => ∃ cs, YR two a us cs ∧ Rep P a w₁ N cs e) (x : Seq a.D).val f caps w' M'

/-- This value reads as this datum. -/
def VRep (P : Program) (t : Ty) (w : World) (M : Nat → Prop) (v : Value) (x : t.D) : Prop := ∃ cs, Rep P t w M cs x ∧ v = pack t cs

theorem flatten_length {k : Nat} : ∀ {vss : List (List Value)}, (∀ c ∈ vss, c.length = k) → vss.flatten.length = vss.length * k
  | [], _ => by simp
  | c :: l, h => by
    have h1 := flatten_length (k := k) (vss := l) fun c hc => h c (List.mem_cons_of_mem _ hc)
    have h2 := h c List.mem_cons_self
    simp only [List.flatten_cons, List.length_append, h1, h2, List.length_cons]
    rw [Nat.add_mul]; omega

theorem Rep.length : ∀ {t : Ty} {w : World} {M : Nat → Prop} {cs : List Value} {x : t.D}, Rep P t w M cs x → cs.length = t.n
  | .i _, _, _, _, _, h => by rw [h.1]; rfl
  | .bo, _, _, _, _, h => by rw [show _ = _ from h]; rfl
  | .u, _, _, _, _, h => by rw [show _ = _ from h]; rfl
  | .p _ _, _, _, _, _, h => by
    obtain ⟨c, d, rfl, h1, h2⟩ := h
    simp [Ty.n, Rep.length h1, Rep.length h2]
  | .st a, w, M, _, _, h => Rep.length (t := a) h
  | .sl _, _, _, _, _, h => by obtain ⟨a, cap, rfl, _⟩ := h; rfl
  | .arr n t, w, M, _, x, h => by
    obtain ⟨vss, rfl, h1, h2⟩ := h
    have hl : ∀ {vss : List (List Value)} {l : List t.D}, All2 (Rep P t w M) vss l → ∀ c ∈ vss, c.length = t.n := by
      intro vss
      induction vss with
      | nil => intro l _ c hc; cases hc
      | cons a vss ih =>
        intro l hl c hc
        cases l with
        | nil => exact hl.elim
        | cons y l =>
          rcases List.mem_cons.1 hc with rfl | hc
          · exact Rep.length hl.1
          · exact ih hl.2 c hc
    rw [flatten_length (hl h1), h1.length, h2]; rfl
  | .ref _, _, _, _, _, h => by obtain ⟨b, off, vs, rfl, _⟩ := h; rfl
  | .f1 _ _, _, _, _, _, h => by obtain ⟨v, rfl, _⟩ := h; rfl
  | .f2 _ _ _, _, _, _, _, h => by obtain ⟨v, rfl, _⟩ := h; rfl
  | .sq _ _, _, _, _, _, h => by obtain ⟨v, rfl, _⟩ := h; rfl

theorem all2u_length {t : Ty} {w : World} {M : Nat → Prop} : ∀ {vss : List (List Value)} {l : List t.D}, All2 (Rep P t w M) vss l → ∀ c ∈ vss, c.length = t.n
  | [], [], _, c, hc => by cases hc
  | a :: vss, y :: l, h, c, hc => by
    rcases List.mem_cons.1 hc with rfl | hc
    · exact Rep.length h.1
    · exact all2u_length h.2 c hc
  | [], _ :: _, h, _, _ => h.elim
  | _ :: _, [], h, _, _ => h.elim

/-- **Reading is kept by a step.** -/
theorem Rep.tr : ∀ {t : Ty} {w w' : World} {M M' : Nat → Prop} {cs : List Value} {x : t.D}, Rep P t w M cs x → Tr M w M' w' → Rep P t w' M' cs x
  | .i _, _, _, _, _, _, _, h, _ => h
  | .bo, _, _, _, _, _, _, h, _ => h
  | .u, _, _, _, _, _, _, h, _ => h
  | .p _ _, _, _, _, _, _, _, h, ht => by
    obtain ⟨c, d, rfl, h1, h2⟩ := h
    exact ⟨c, d, rfl, h1.tr ht, h2.tr ht⟩
  | .st a, _, _, _, _, _, _, h, ht => Rep.tr (t := a) h ht
  | .sl t, _, _, _, _, _, _, h, ht => by
    obtain ⟨a, cap, rfl, hl, h⟩ := h
    refine ⟨a, cap, rfl, hl, h.imp id ?_⟩
    rintro ⟨b, off, vss, rfl, hs, hr, hc⟩
    exact ⟨b, off, vss, rfl, hs.tr ht, hr.mono fun _ _ h => h.tr ht, hc.of_heap (ht.1.2 b hs.1 hs.2 hc.notMach)⟩
  | .arr n t, _, _, _, _, _, _, h, ht => by
    obtain ⟨vss, rfl, h1, h2⟩ := h
    exact ⟨vss, rfl, h1.mono fun _ _ h => h.tr ht, h2⟩
  | .ref t, _, _, _, _, _, _, h, ht => by
    obtain ⟨b, off, vs, rfl, hs, hr, hc⟩ := h
    exact ⟨b, off, vs, rfl, hs.tr ht, hr.tr ht, hc.of_heap (ht.1.2 b hs.1 hs.2 hc.notMach)⟩
  | .f1 a r, w, w', M, M', _, _, h, ht => by
    obtain ⟨v, rfl, hv, h⟩ := h
    refine ⟨v, rfl, hv, fun w'' N u y he => h w'' N u y ?_⟩
    exact (ht.trans he.tr).1
  | .f2 a b r, w, w', M, M', _, _, h, ht => by
    obtain ⟨v, rfl, hv, h⟩ := h
    refine ⟨v, rfl, hv, fun w'' N u₁ u₂ y₁ y₂ he => h w'' N u₁ u₂ y₁ y₂ ?_⟩
    exact (ht.trans he.tr).1
  | .sq two a, w, w', M, M', _, _, h, ht => by
    obtain ⟨v, rfl, hv, h⟩ := h
    exact ⟨v, rfl, hv, fun w'' M'' he => h w'' M'' (ht.trans he)⟩

theorem VRep.tr {t : Ty} {w w' : World} {M M' : Nat → Prop} {v : Value} {x : t.D} (h : VRep P t w M v x) (ht : Tr M w M' w') : VRep P t w' M' v x :=
  let ⟨cs, h1, h2⟩ := h; ⟨cs, h1.tr ht, h2⟩

/-- What has no memory reads so anywhere. -/
theorem Rep.flat : ∀ {t : Ty} {w w' : World} {M M' : Nat → Prop} {cs : List Value} {x : t.D}, t.flat = true → Rep P t w M cs x → Rep P t w' M' cs x
  | .i _, _, _, _, _, _, _, _, h => h
  | .bo, _, _, _, _, _, _, _, h => h
  | .u, _, _, _, _, _, _, _, h => h
  | .p _ _, _, _, _, _, _, _, hf, h => by
    simp only [Ty.flat, Bool.and_eq_true] at hf
    obtain ⟨c, d, rfl, h1, h2⟩ := h
    exact ⟨c, d, rfl, h1.flat hf.1, h2.flat hf.2⟩
  | .st a, _, _, _, _, _, _, hf, h => Rep.flat (t := a) hf h
  | .arr n t, _, _, _, _, _, _, hf, h => by
    obtain ⟨vss, rfl, h1, h2⟩ := h
    exact ⟨vss, rfl, h1.mono fun _ _ h => Rep.flat (t := t) hf h, h2⟩
  | .sl _, _, _, _, _, _, _, hf, _ => by cases hf
  | .ref _, _, _, _, _, _, _, hf, _ => by cases hf
  | .f1 _ _, _, _, _, _, _, _, hf, _ => by cases hf
  | .f2 _ _ _, _, _, _, _, _, _, hf, _ => by cases hf
  | .sq _ _, _, _, _, _, _, _, hf, _ => by cases hf

theorem VRep.flat {t : Ty} {w w' : World} {M M' : Nat → Prop} {v : Value} {x : t.D} (hf : t.flat = true) (h : VRep P t w M v x) : VRep P t w' M' v x :=
  let ⟨cs, h1, h2⟩ := h; ⟨cs, h1.flat hf, h2⟩

/-- Of a type with one cell the cell is no aggregate. -/
theorem Rep.single : ∀ {t : Ty} {w : World} {M : Nat → Prop} {cs : List Value} {x : t.D}, t.agg = false → Rep P t w M cs x → ∃ v, cs = [v] ∧ v.cells = #[v] ∧ (∀ l, v ≠ .agg l) ∧ ∀ l, v ≠ .tuple l
  | .i _, _, _, _, _, _, h => ⟨_, h.1, rfl, by simp, by simp⟩
  | .bo, _, _, _, _, _, h => ⟨_, h, rfl, by simp, by simp⟩
  | .sl _, _, _, _, _, _, h => by obtain ⟨a, cap, rfl, _⟩ := h; exact ⟨_, rfl, rfl, by simp, by simp⟩
  | .ref _, _, _, _, _, _, h => by obtain ⟨b, off, vs, rfl, _⟩ := h; exact ⟨_, rfl, rfl, by simp, by simp⟩
  | .f1 _ _, _, _, _, _, _, h => by obtain ⟨v, rfl, h, _⟩ := h; rcases h with rfl | ⟨f, a, c, rfl⟩ <;> exact ⟨_, rfl, rfl, by simp, by simp⟩
  | .f2 _ _ _, _, _, _, _, _, h => by obtain ⟨v, rfl, h, _⟩ := h; rcases h with rfl | ⟨f, a, c, rfl⟩ <;> exact ⟨_, rfl, rfl, by simp, by simp⟩
  | .sq _ _, _, _, _, _, _, h => by obtain ⟨v, rfl, h, _⟩ := h; rcases h with rfl | ⟨f, a, c, rfl⟩ <;> exact ⟨_, rfl, rfl, by simp, by simp⟩
  | .u, _, _, _, _, ha, _ => by cases ha
  | .p _ _, _, _, _, _, ha, _ => by cases ha
  | .st _, _, _, _, _, ha, _ => by cases ha
  | .arr _ _, _, _, _, _, ha, _ => by cases ha

theorem VRep.cells {t : Ty} {w : World} {M : Nat → Prop} {v : Value} {x : t.D} (h : VRep P t w M v x) : Rep P t w M v.cells.toList x ∧ v = pack t v.cells.toList := by
  obtain ⟨cs, h1, rfl⟩ := h
  cases ha : t.agg with
  | true => simp [pack, ha, Value.cells, h1]
  | false =>
    obtain ⟨v, rfl, hv, _⟩ := h1.single ha
    simp only [pack, ha, cond_false, List.headD_cons, hv]
    exact ⟨h1, trivial⟩

/-- No cell of a datum is an aggregate. -/
theorem Rep.noAgg : ∀ {t : Ty} {w : World} {M : Nat → Prop} {cs : List Value} {x : t.D}, Rep P t w M cs x → ∀ c ∈ cs, (∀ l, c ≠ .agg l) ∧ ∀ l, c ≠ .tuple l
  | .p a b, _, _, _, _, h => by
    obtain ⟨c, d, rfl, h1, h2⟩ := h
    intro e he
    rcases List.mem_append.1 he with he | he
    · exact h1.noAgg e he
    · exact h2.noAgg e he
  | .st a, _, _, _, _, h => Rep.noAgg (t := a) h
  | .u, _, _, _, _, h => by rw [show _ = _ from h]; simp
  | .arr n t, w, M, _, x, h => by
    obtain ⟨vss, rfl, h1, _⟩ := h
    have key : ∀ {vss : List (List Value)} {l : List t.D}, All2 (Rep P t w M) vss l → ∀ c ∈ vss.flatten, (∀ l, c ≠ .agg l) ∧ ∀ l, c ≠ .tuple l := by
      intro vss
      induction vss with
      | nil => intro l _ c hc; simp at hc
      | cons a vss ih =>
        intro l hl c hc
        cases l with
        | nil => exact hl.elim
        | cons y l =>
          simp only [List.flatten_cons, List.mem_append] at hc
          rcases hc with hc | hc
          · exact Rep.noAgg hl.1 c hc
          · exact ih hl.2 c hc
    exact key h1
  | .i k, w, M, cs, x, h => by obtain ⟨v, rfl, _, h1, h2⟩ := Rep.single (t := .i k) rfl h; simp only [List.mem_singleton]; rintro c rfl; exact ⟨h1, h2⟩
  | .bo, w, M, cs, x, h => by obtain ⟨v, rfl, _, h1, h2⟩ := Rep.single (t := .bo) rfl h; simp only [List.mem_singleton]; rintro c rfl; exact ⟨h1, h2⟩
  | .sl t, w, M, cs, x, h => by obtain ⟨v, rfl, _, h1, h2⟩ := Rep.single (t := .sl t) rfl h; simp only [List.mem_singleton]; rintro c rfl; exact ⟨h1, h2⟩
  | .ref t, w, M, cs, x, h => by obtain ⟨v, rfl, _, h1, h2⟩ := Rep.single (t := .ref t) rfl h; simp only [List.mem_singleton]; rintro c rfl; exact ⟨h1, h2⟩
  | .f1 a r, w, M, cs, x, h => by obtain ⟨v, rfl, _, h1, h2⟩ := Rep.single (t := .f1 a r) rfl h; simp only [List.mem_singleton]; rintro c rfl; exact ⟨h1, h2⟩
  | .f2 a b r, w, M, cs, x, h => by obtain ⟨v, rfl, _, h1, h2⟩ := Rep.single (t := .f2 a b r) rfl h; simp only [List.mem_singleton]; rintro c rfl; exact ⟨h1, h2⟩
  | .sq n a, w, M, cs, x, h => by obtain ⟨v, rfl, _, h1, h2⟩ := Rep.single (t := .sq n a) rfl h; simp only [List.mem_singleton]; rintro c rfl; exact ⟨h1, h2⟩
end Go.Sx
