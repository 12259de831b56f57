/-
  The symbolic layer, part 17d: calls that are lent objects: there and back.
-/
import Derived.Test.YtlkegffejcndbaaSxH3
set_option linter.all false
namespace Go.Sx

theorem nodup_of : ∀ {l : List Nat}, nodupN l = true → l.Nodup
  | [], _ => List.nodup_nil
  | a :: l, h => by
    simp only [nodupN, Bool.and_eq_true, Bool.not_eq_true'] at h
    refine List.nodup_cons.2 ⟨fun hm => ?_, nodup_of h.2⟩
    have : memN a l = true := by
      clear h
      induction l with
      | nil => cases hm
      | cons b l ih =>
        rcases List.mem_cons.1 hm with rfl | hm
        · simp [memN, Nat.beq_refl]
        · simp [memN, ih hm]
    rw [this] at h; cases h.1
theorem memN_mem {a : Nat} : ∀ {l : List Nat}, a ∈ l → memN a l = true
  | b :: l, h => by
    rcases List.mem_cons.1 h with rfl | h
    · simp [memN, Nat.beq_refl]
    · simp [memN, memN_mem h]
theorem disjN_not {a b : List Nat} (h : disjN a b = true) {x : Nat} (h1 : x ∈ a) (h2 : x ∈ b) : False := by
  simp only [disjN, List.all_eq_true, Bool.not_eq_true'] at h
  have := h x h1
  rw [memN_mem h2] at this; cases this

theorem obsOf_mem : ∀ {l : List (Nat × Ob)} {p : Nat} {ob : Ob}, obsOf l p = some (some ob) → (p, ob) ∈ l
  | [], _, _, h => by cases h
  | (k, o') :: l, p, ob, h => by
    simp only [obsOf] at h
    cases hb : Nat.beq p k with
    | true =>
      rw [hb] at h
      have := Nat.eq_of_beq_eq_true hb
      subst this
      cases h; exact List.mem_cons_self
    | false => rw [hb] at h; exact List.mem_cons_of_mem _ (obsOf_mem h)
theorem obsOf_of : ∀ {l : List (Nat × Ob)} {p : Nat} {ob : Ob}, (l.map (·.1)).Nodup → (p, ob) ∈ l → obsOf l p = some (some ob)
  | (k, o') :: l, p, ob, hn, h => by
    have hn := List.nodup_cons.1 (show (k :: l.map (·.1)).Nodup from hn)
    simp only [obsOf]
    rcases List.mem_cons.1 h with h | h
    · cases h; simp [Nat.beq_refl]
    · have hne : p ≠ k := fun e => hn.1 (e ▸ List.mem_map.2 ⟨_, h, rfl⟩)
      rw [beq_ne hne]
      exact obsOf_of hn.2 h
theorem obsOf_form : ∀ {l : List (Nat × Ob)} {p : Nat} {r : Option Ob}, obsOf l p = some r → ∃ ob, r = some ob
  | [], _, _, h => by cases h
  | (k, o') :: l, p, r, h => by
    simp only [obsOf] at h
    cases hb : Nat.beq p k with
    | true => rw [hb] at h; cases h; exact ⟨_, rfl⟩
    | false => rw [hb] at h; exact obsOf_form h

/-- Where the callee sees what it is lent. -/
def bOf (β : Nat → Loc) : List (Nat × Option Nat) → Nat → Loc
  | [], _ => ⟨none, .slice none 0 0⟩
  | (k, oo) :: r, p => cond (Nat.beq p k) (match oo with | some o => β o | none => ⟨none, .slice none 0 0⟩) (bOf β r p)
theorem bOf_of {β : Nat → Loc} : ∀ {l : List (Nat × Option Nat)} {p : Nat} {oo : Option Nat}, (l.map (·.1)).Nodup → (p, oo) ∈ l → bOf β l p = match oo with | some o => β o | none => ⟨none, .slice none 0 0⟩
  | (k, o') :: l, p, oo, hn, h => by
    have hn := List.nodup_cons.1 (show (k :: l.map (·.1)).Nodup from hn)
    simp only [bOf]
    rcases List.mem_cons.1 h with h | h
    · cases h; simp [Nat.beq_refl]
    · have hne : p ≠ k := fun e => hn.1 (e ▸ List.mem_map.2 ⟨_, h, rfl⟩)
      rw [beq_ne hne]
      exact bOf_of hn.2 h

def isBx : Ob → Bool
  | .bx _ _ _ => true
  | _ => false
theorem sim0 {ob : Ob} (h : isBv ob = true ∨ isBx ob = true) : inOb ob [] ∧ obPos ob [] = some 0 := by
  cases ob with
  | bx f t x =>
    refine ⟨by show inP t []; cases t <;> trivial, ?_⟩
    have e : offP t [] = some (0, t) := by cases t <;> rfl
    simp [obPos, e]
  | bv v => exact ⟨trivial, rfl⟩
  | row _ _ _ _ => rcases h with h | h <;> cases h
  | mm _ _ _ => rcases h with h | h <;> cases h
  | gh _ _ => rcases h with h | h <;> cases h

section
variable {P : Program} {cx : Cx} {sA sB : ASt} {βA βB : Nat → Loc} {w : World} {MA MB : Nat → Prop} {ren : List (Nat × Option Nat)} {f : Nat} {caps ccaps : List SV}

/-- What a closure has captured, seen from both sides. -/
inductive CapTw (sA sB : ASt) (βA βB : Nat → Loc) : SV → SV → Prop
  | d {t : Ty} {x : t.D} : CapTw sA sB βA βB (.d t x) (.d t x)
  | ptr {o p : Nat} (hb : βB p = βA o) (h1 : ∃ ob, sA.obs o = some (some ob) ∧ (isBv ob = true ∨ isBx ob = true)) (h2 : ∃ ob, sB.obs p = some (some ob) ∧ (isBv ob = true ∨ isBx ob = true)) : CapTw sA sB βA βB (.ptr o []) (.ptr p [])
theorem CapTw.fwd (hsub : ∀ b, b < w.heap.size → MB b → MA b) {c cc : SV} (h : CapTw sA sB βA βB c cc) {u : Value} (hr : SVRep P sA βA w MA c u) : SVRep P sB βB w MB cc u := by
  cases h with
  | d => exact VRep.sub hr hsub
  | ptr hb h1 h2 =>
    obtain ⟨ob, h1, k1⟩ := h1
    obtain ⟨ob', h2, k2⟩ := h2
    simp only [SVRep, h1] at hr
    simp only [SVRep, h2, hb]
    obtain ⟨_, b, off, g1, g2, g3⟩ := hr
    rw [(sim0 k1).2] at g2
    exact ⟨(sim0 k2).1, b, off, g1, by rw [(sim0 k2).2]; exact g2, g3⟩
theorem CapTw.bwd (hsub : ∀ b, b < w.heap.size → MA b → MB b) {c cc : SV} (h : CapTw sA sB βA βB c cc) {u : Value} (hr : SVRep P sB βB w MB cc u) : SVRep P sA βA w MA c u := by
  cases h with
  | d => exact VRep.sub hr hsub
  | ptr hb h1 h2 =>
    obtain ⟨ob, h1, k1⟩ := h1
    obtain ⟨ob', h2, k2⟩ := h2
    simp only [SVRep, h2, hb] at hr
    simp only [SVRep, h1]
    obtain ⟨_, b, off, g1, g2, g3⟩ := hr
    rw [(sim0 k2).2] at g2
    exact ⟨(sim0 k1).1, b, off, g1, by rw [(sim0 k1).2]; exact g2, g3⟩
theorem capTws_fwd (hsub : ∀ b, b < w.heap.size → MB b → MA b) : ∀ {c cc : List SV} {us : List Value}, All2 (CapTw sA sB βA βB) c cc → All2 (SVRep P sA βA w MA) c us → All2 (SVRep P sB βB w MB) cc us
  | [], [], [], _, _ => trivial
  | _ :: _, _ :: _, _ :: _, h, h' => ⟨h.1.fwd hsub h'.1, capTws_fwd hsub h.2 h'.2⟩
  | [], _ :: _, _, h, _ => h.elim
  | _ :: _, [], _, h, _ => h.elim
  | [], [], _ :: _, _, h => h.elim
  | _ :: _, _ :: _, [], _, h => h.elim
theorem capTws_bwd (hsub : ∀ b, b < w.heap.size → MA b → MB b) : ∀ {c cc : List SV} {us : List Value}, All2 (CapTw sA sB βA βB) c cc → All2 (SVRep P sB βB w MB) cc us → All2 (SVRep P sA βA w MA) c us
  | [], [], [], _, _ => trivial
  | _ :: _, _ :: _, _ :: _, h, h' => ⟨h.1.bwd hsub h'.1, capTws_bwd hsub h.2 h'.2⟩
  | [], _ :: _, _, h, _ => h.elim
  | _ :: _, [], _, h, _ => h.elim
  | [], [], _ :: _, _, h => h.elim
  | _ :: _, _ :: _, [], _, h => h.elim

theorem twin_fwd (hsub : ∀ b, b < w.heap.size → MB b → MA b) (hmp : ∀ p q, (p, some q) ∈ ren → βB p = βA q ∧ ∀ ob, sA.obs q = some (some ob) → isMm ob = true → ∃ ob', sB.obs p = some (some ob') ∧ isMm ob' = true) (hl : ∀ p q, (p, some q) ∈ ren → ∃ ob, sA.obs q = some (some ob))
    (hcl : All2 (CapTw sA sB βA βB) caps ccaps) {L : Loc} {obA obB : Ob} (ht : Twin ren f caps ccaps obA obB) (h : ObRep P sA βA w MA L obA) : ObRep P sB βB w MB L obB := by
  have htr : Tr MA w MB w := ⟨.refl _ _, fun b hb hm => hsub b hb hm⟩
  cases obA with
  | gh _ _ => exact ht.elim
  | bx z t x =>
    obtain ⟨rfl, rfl⟩ := ht
    obtain ⟨b, vs, e, h1, h2, h3⟩ := h
    exact ⟨b, vs, e, h1, h2, h3.tr htr⟩
  | row z e t l =>
    obtain ⟨rfl, rfl⟩ := ht
    obtain ⟨h1, h2, vss, h3, h4⟩ := h
    exact ⟨h1, h2, vss, h3.mono fun _ _ h => h.tr htr, h4⟩
  | mm tk tv inv =>
    have ht : obB = _ := ht
    subst ht
    obtain ⟨b, es, ck, h1, h2, h3⟩ := h
    refine ⟨b, es, ck, h1, h2, fun e he => ?_⟩
    obtain ⟨x, y, g1, g2, g3⟩ := h3 e he
    exact ⟨x, y, g1.tr htr, g2.tr htr, g3⟩
  | bv v =>
    cases v with
    | s v =>
      cases v with
      | mp q =>
        obtain ⟨p, rfl, hp⟩ := ht
        obtain ⟨b, u, e, h1, h2, h3⟩ := h
        refine ⟨b, u, e, h1, h2, ?_⟩
        obtain ⟨ob, hob⟩ := hl p q hp
        simp only [AVRep, SVRep, hob] at h3
        obtain ⟨k1, k2⟩ := hmp p q hp
        obtain ⟨ob', g1, g2⟩ := k2 ob hob h3.1
        simp only [AVRep, SVRep, g1, k1]
        exact ⟨g2, h3.2⟩
      | _ => exact ht.elim
    | clo f' c =>
      obtain ⟨rfl, rfl, rfl⟩ := ht
      obtain ⟨b, u, e, h1, h2, vs, h3, h4⟩ := h
      refine ⟨b, u, e, h1, h2, vs, h3, ?_⟩
      exact capTws_fwd hsub hcl h4
    | _ => exact ht.elim
theorem twin_bwd (hsub : ∀ b, b < w.heap.size → MA b → MB b) (hcl : All2 (CapTw sA sB βA βB) caps ccaps) {L : Loc} {obA obB : Ob} (ht : Twin ren f caps ccaps obA obB)
    (hmp : ∀ p q, obA = .bv (.s (.mp q)) → (p, some q) ∈ ren → βB p = βA q ∧ ∃ ob ob', sB.obs p = some (some ob) ∧ sA.obs q = some (some ob') ∧ isMm ob' = true) (h : ObRep P sB βB w MB L obB) : ObRep P sA βA w MA L obA := by
  have htr : Tr MB w MA w := ⟨.refl _ _, fun b hb hm => hsub b hb hm⟩
  cases obA with
  | gh _ _ => exact ht.elim
  | bx z t x =>
    obtain ⟨rfl, rfl⟩ := ht
    obtain ⟨b, vs, e, h1, h2, h3⟩ := h
    exact ⟨b, vs, e, h1, h2, h3.tr htr⟩
  | row z e t l =>
    obtain ⟨rfl, rfl⟩ := ht
    obtain ⟨h1, h2, vss, h3, h4⟩ := h
    exact ⟨h1, h2, vss, h3.mono fun _ _ h => h.tr htr, h4⟩
  | mm tk tv inv =>
    have ht : obB = _ := ht
    subst ht
    obtain ⟨b, es, ck, h1, h2, h3⟩ := h
    refine ⟨b, es, ck, h1, h2, fun e he => ?_⟩
    obtain ⟨x, y, g1, g2, g3⟩ := h3 e he
    exact ⟨x, y, g1.tr htr, g2.tr htr, g3⟩
  | bv v =>
    cases v with
    | s v =>
      cases v with
      | mp q =>
        obtain ⟨p, rfl, hp⟩ := ht
        obtain ⟨b, u, e, h1, h2, h3⟩ := h
        refine ⟨b, u, e, h1, h2, ?_⟩
        obtain ⟨k1, ob, ob', hob, g1, g2⟩ := hmp p q rfl hp
        simp only [AVRep, SVRep, hob] at h3
        simp only [AVRep, SVRep, g1]
        exact ⟨g2, by rw [← k1]; exact h3.2⟩
      | _ => exact ht.elim
    | clo f' c =>
      obtain ⟨rfl, rfl, rfl⟩ := ht
      obtain ⟨b, u, e, h1, h2, vs, h3, h4⟩ := h
      refine ⟨b, u, e, h1, h2, vs, h3, ?_⟩
      exact capTws_bwd hsub hcl h4
    | _ => exact ht.elim
end

theorem matchK_len {cx : Cx} {s : ASt} {f : Nat} {caps : List SV} : ∀ {args : List AK} {i : Nat} {as : List AV} {m : Mt}, matchK cx s f caps args i as = some m → as.length = args.length
  | [], _, [], _, _ => rfl
  | [], _, _ :: _, _, h => by cases h
  | _ :: _, _, [], _, h => by cases h
  | k :: r, i, x :: xs, m, h => by
    simp only [matchK] at h
    split at h
    · cases h
    · rename_i m' hm'
      simp [matchK_len hm']
theorem ren_unique {l : List (Nat × Option Nat)} (hn : (l.map (·.1)).Nodup) {p : Nat} {a b : Option Nat} (h1 : (p, a) ∈ l) (h2 : (p, b) ∈ l) : a = b := by
  induction l with
  | nil => cases h1
  | cons y l ih =>
    have hn := List.nodup_cons.1 (show (y.1 :: l.map (·.1)).Nodup from hn)
    rcases List.mem_cons.1 h1 with e1 | h1 <;> rcases List.mem_cons.1 h2 with e2 | h2
    · rw [← e2] at e1; exact (Prod.mk.inj e1).2
    · exact absurd (List.mem_map.2 ⟨_, h2, by rw [← e1]⟩) hn.1
    · exact absurd (List.mem_map.2 ⟨_, h1, by rw [← e2]⟩) hn.1
    · exact ih hn.2 h1 h2
theorem ren_inj {l : List (Nat × Option Nat)} (hn : (l.filterMap (·.2)).Nodup) {p p' o : Nat} (h1 : (p, some o) ∈ l) (h2 : (p', some o) ∈ l) : p = p' := by
  induction l with
  | nil => cases h1
  | cons y l ih =>
    obtain ⟨q, oo⟩ := y
    cases oo with
    | none =>
      exact ih hn ((List.mem_cons.1 h1).resolve_left (by simp)) ((List.mem_cons.1 h2).resolve_left (by simp))
    | some z =>
      obtain ⟨n1, n2⟩ := List.nodup_cons.1 (show (z :: l.filterMap (·.2)).Nodup from hn)
      rcases List.mem_cons.1 h1 with e1 | m1 <;> rcases List.mem_cons.1 h2 with e2 | m2
      · cases e1; cases e2; rfl
      · cases e1; exact (n1 (List.mem_filterMap.2 ⟨(p', some o), m2, rfl⟩)).elim
      · cases e2; exact (n1 (List.mem_filterMap.2 ⟨(p, some o), m1, rfl⟩)).elim
      · exact ih n2 m1 m2
theorem Twin.open {ren : List (Nat × Option Nat)} {f : Nat} {caps ccaps : List SV} {ob ob' : Ob} (h : Twin ren f caps ccaps ob ob') : obFz ob = false ∧ obFz ob' = false := by
  cases ob with
  | bx _ _ _ => obtain ⟨rfl, rfl⟩ := h; exact ⟨rfl, rfl⟩
  | row _ _ _ _ => obtain ⟨rfl, rfl⟩ := h; exact ⟨rfl, rfl⟩
  | mm _ _ _ => rw [show ob' = _ from h]; exact ⟨rfl, rfl⟩
  | gh _ _ => exact h.elim
  | bv v =>
    refine ⟨rfl, ?_⟩
    cases v with
    | s v =>
      cases v with
      | mp q => obtain ⟨p, rfl, _⟩ := h; rfl
      | _ => exact h.elim
    | clo _ _ => rw [h.2.2]; rfl
    | _ => exact h.elim
theorem open_canFz {s : ASt} {x : AV} {q : Nat} (h : q ∈ x.open? s) : ∃ ob, s.obs q = some (some ob) ∧ canFz ob = true := by
  have key : ∀ v : SV, q ∈ v.open? s → ∃ ob, s.obs q = some (some ob) ∧ canFz ob = true := by
    intro v hv
    cases v with
    | d t y => cases hv
    | nl e t => cases hv
    | mp _ => cases hv
    | ptr o p =>
      simp only [SV.open?] at hv
      split at hv <;> simp at hv
      · subst hv; exact ⟨_, ‹_›, rfl⟩
      · subst hv; exact ⟨_, ‹_›, rfl⟩
    | os o =>
      simp only [SV.open?] at hv
      split at hv <;> simp at hv
      subst hv; exact ⟨_, ‹_›, rfl⟩
  cases x with
  | un => cases h
  | yl _ => cases h
  | tup l => cases h
  | s v => exact key v h
  | clo f c =>
    obtain ⟨v, _, hv⟩ := List.mem_flatMap.1 h
    exact key v hv
theorem frO_out {s : ASt} {ids : List Nat} {o : Nat} (h : o ∉ ids) : frO s ids o = s.obs o := by
  unfold frO
  split
  · rename_i ob ho; rw [if_neg h, ho]
  · rfl
theorem rowPut_other {row : Option Nat} {out : List Dv} {os : Nat → Option (Option Ob)} {p : Nat} (h : p ≠ rid) : rowPut row out os p = os p := by
  cases row with
  | none => rfl
  | some e =>
    match out with
    | [] => rfl
    | ⟨t, x⟩ :: r => cases t <;> first | exact put_other _ _ h | rfl
theorem pid_rid {j p : Nat} (h : p = pid j ∨ p = qid j) : p ≠ rid := by unfold pid qid at h; unfold rid; omega
end Go.Sx
